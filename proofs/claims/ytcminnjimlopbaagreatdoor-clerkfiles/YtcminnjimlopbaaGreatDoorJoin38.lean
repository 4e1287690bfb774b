/- Walks and plain laws: ClerkSpec, ClerkSpec2. -/
set_option linter.unusedVariables false
set_option linter.unusedSimpArgs false
set_option linter.unusedSectionVars false

/- The clerk's texts and seals, in plain words. -/
namespace AE.Clerk


def dec (n : Nat) : List Nat := if n < 10 then [48 + n] else dec (n / 10) ++ [48 + n % 10]
termination_by n
decreasing_by omega
theorem dec_lt {n : Nat} (h : n < 10) : dec n = [48 + n] := by rw [dec, if_pos h]
theorem dec_ge {n : Nat} (h : 10 ≤ n) : dec n = dec (n / 10) ++ [48 + n % 10] := by rw [dec, if_neg (by omega)]
theorem dec_ne (n : Nat) : dec n ≠ [] := by
 rcases Nat.lt_or_ge n 10 with h | h
 ·rw [dec_lt h]; simp
 ·rw [dec_ge h]; simp
theorem dec_digit {n : Nat} : ∀ c ∈ dec n, 48 ≤ c ∧ c ≤ 57 := by
 induction n using Nat.strongRecOn with
 | ind n ih =>
   rcases Nat.lt_or_ge n 10 with h | h
   ·rw [dec_lt h]; intro c hc; simp at hc; omega
   ·rw [dec_ge h]
    intro c hc
    rcases List.mem_append.1 hc with hc | hc
    ·exact ih (n / 10) (by omega) c hc
    ·simp at hc; omega
def valD (l : List Nat) : Nat := l.foldl (fun n c => 10 * n + (c - 48)) 0
theorem valD_snoc (l : List Nat) (c : Nat) : valD (l ++ [c]) = 10 * valD l + (c - 48) := by simp [valD, List.foldl_append]
theorem valD_dec (n : Nat) : valD (dec n) = n := by
 induction n using Nat.strongRecOn with
 | ind n ih =>
   rcases Nat.lt_or_ge n 10 with h | h
   ·rw [dec_lt h]; simp [valD]
   ·rw [dec_ge h, valD_snoc, ih (n / 10) (by omega)]; omega
theorem dec_inj {m n : Nat} (h : dec m = dec n) : m = n := by rw [← valD_dec m, ← valD_dec n, h]
theorem dec_len {n : Nat} : 1 ≤ (dec n).length := by
 have := dec_ne n
 cases h : dec n with
 | nil => exact absurd h this
 | cons a l => simp
theorem dec_head {n : Nat} (h : 10 ≤ n) : ∃ c l, dec n = c :: l ∧ 49 ≤ c ∧ l ≠ [] := by
 induction n using Nat.strongRecOn with
 | ind n ih =>
   rw [dec_ge h]
   rcases Nat.lt_or_ge (n / 10) 10 with h1 | h1
   ·rw [dec_lt h1]; exact ⟨48 + n / 10, [48 + n % 10], rfl, by omega, by simp⟩
   ·obtain ⟨c, l, e, hc, hl⟩ := ih (n / 10) (by omega) h1
    exact ⟨c, l ++ [48 + n % 10], by rw [e]; rfl, hc, by simp⟩
theorem dec_valD {l : List Nat} (hl : l ≠ []) (hd : ∀ c ∈ l, 48 ≤ c ∧ c ≤ 57) (h0 : l.length = 1 ∨ l.head? ≠ some 48) : dec (valD l) = l := by
 obtain ⟨k, hk⟩ : ∃ k, l.length = k := ⟨_, rfl⟩
 induction k generalizing l with
 | zero => exact absurd (List.eq_nil_of_length_eq_zero hk) hl
 | succ k ih =>
   obtain ⟨m, c, rfl⟩ : ∃ m c, l = m ++ [c] := ⟨l.dropLast, l.getLast hl, (List.dropLast_concat_getLast hl).symm⟩
   have hc := hd c (by simp)
   rw [valD_snoc]
   cases m with
   | nil =>
     have : valD [] = 0 := rfl
     rw [this, dec_lt (by omega)]
     simp; omega
   | cons a m =>
     have ha := hd a (by simp)
     have hh : a ≠ 48 := by
      rcases h0 with h0 | h0
      ·simp at h0
      ·simpa using h0
     have e := ih (l := a :: m) (by simp) (fun c hc => hd c (List.mem_append_left _ hc)) (.inr (by simpa using hh)) (by simp at hk ⊢; omega)
     have hv : 1 ≤ valD (a :: m) := by
      rcases Nat.eq_zero_or_pos (valD (a :: m)) with h | h
      ·rw [h, dec_lt (by omega)] at e
       simp at e
       omega
      ·exact h
     rw [dec_ge (by omega)]
     have e1 : (10 * valD (a :: m) + (c - 48)) / 10 = valD (a :: m) := by omega
     have e2 : (10 * valD (a :: m) + (c - 48)) % 10 = c - 48 := by omega
     rw [e1, e2, e]
     congr 2
     omega


def P : Int := 2147483647
def leafF (n : Int) (c : Nat) : Int := (257 * n + (c : Int) + 1) % P
def leaf (l : List Nat) : Int := l.foldl leafF 1
def node (x y : Int) : Int := (1000003 * x + 20011 * y + 7) % P
theorem leafF_bd (n : Int) (c : Nat) : 0 ≤ leafF n c ∧ leafF n c < P := ⟨Int.emod_nonneg _ (by decide), Int.emod_lt_of_pos _ (by decide)⟩
theorem leaf_bd (l : List Nat) : 0 ≤ leaf l ∧ leaf l < P := by
 unfold leaf
 rcases List.eq_nil_or_concat l with rfl | ⟨m, c, rfl⟩
 ·simp [P]
 ·rw [List.concat_eq_append, List.foldl_append]; exact leafF_bd _ _
theorem node_bd (x y : Int) : 0 ≤ node x y ∧ node x y < P := ⟨Int.emod_nonneg _ (by decide), Int.emod_lt_of_pos _ (by decide)⟩
end AE.Clerk

/- The clerk's lines and books, in plain words. -/
namespace AE.Clerk
set_option linter.unusedVariables false

structure Ln where
 k : Int
 m : Int
 a : Int
 b : Int
instance : DecidableEq Ln := fun x y => decidable_of_iff (x.k = y.k ∧ x.m = y.m ∧ x.a = y.a ∧ x.b = y.b) ⟨fun h => by cases x; cases y; simp only at h; obtain ⟨rfl, rfl, rfl, rfl⟩ := h; rfl, fun h => h ▸ ⟨rfl, rfl, rfl, rfl⟩⟩
def btw (n lo hi : Int) : Prop := lo ≤ n ∧ n ≤ hi
instance (n lo hi : Int) : Decidable (btw n lo hi) := by unfold btw; infer_instance
def Ln.Valid (M : Int) (x : Ln) : Prop :=
 (x.k = 0 ∧ x.m = 0 ∧ btw x.a 1 1000000 ∧ x.b = 0) ∨
 (btw x.m 1 M ∧ ((x.k = 1 ∧ btw x.a 1 1000000 ∧ btw x.b 0 1000) ∨ ((x.k = 2 ∨ x.k = 4) ∧ x.a = 0 ∧ x.b = 0) ∨ (x.k = 3 ∧ btw x.a 1 1000000 ∧ btw x.b 0 1000000) ∨
  (x.k = 5 ∧ btw x.a 1 1000000 ∧ x.b = 0) ∨ (x.k = 6 ∧ btw x.a 1 1000000000 ∧ x.b = 0) ∨ (x.k = 7 ∧ btw x.a 0 59 ∧ x.b = 0)))
instance (M : Int) (x : Ln) : Decidable (x.Valid M) := by unfold Ln.Valid; infer_instance
def word (k : Int) : List Nat :=
 if k = 0 then [98, 117, 121] else if k = 1 then [100, 114, 97, 119] else if k = 2 then [99, 117, 116] else if k = 3 then [114, 117, 110] else if k = 4 then [109, 101, 108, 116] else
 if k = 5 then [98, 105, 108, 108] else if k = 6 then [112, 97, 121] else [99, 108, 97, 105, 109]
def Ln.nums (x : Ln) : List Int := if x.k = 0 then [x.a] else if x.k = 1 ∨ x.k = 3 then [x.m, x.a, x.b] else if x.k = 2 ∨ x.k = 4 then [x.m] else [x.m, x.a]
def sep (n : Int) : List Nat := 32 :: dec n.toNat
def Ln.text (x : Ln) : List Nat := word x.k ++ x.nums.flatMap sep
theorem word_let (k : Int) : ∀ c ∈ word k, 97 ≤ c ∧ c ≤ 122 := by
 unfold word
 repeat' split
 all_goals (intro c hc; simp at hc; omega)
theorem sep_byte {n : Int} : ∀ c ∈ sep n, c = 32 ∨ 48 ≤ c ∧ c ≤ 57 := fun c hc => by
 rcases List.mem_cons.1 hc with rfl | hc
 ·exact .inl rfl
 ·exact .inr (dec_digit c hc)
theorem text_byte (x : Ln) : ∀ c ∈ x.text, c = 32 ∨ (48 ≤ c ∧ c ≤ 57) ∨ (97 ≤ c ∧ c ≤ 122) := fun c hc => by
 unfold Ln.text at hc
 rcases List.mem_append.1 hc with hc | hc
 ·exact .inr (.inr (word_let _ c hc))
 ·obtain ⟨n, -, hn⟩ := List.mem_flatMap.1 hc
  rcases sep_byte c hn with h | h
  ·exact .inl h
  ·exact .inr (.inl h)
theorem text_lt (x : Ln) : ∀ c ∈ x.text, c < 256 := fun c hc => by have := text_byte x c hc; omega


def halfF : Nat → Nat → Nat → Nat
 | 0, k, _ => k
 | t + 1, k, n => if k < n - k then halfF t (2 * k) n else k
def half (n : Nat) : Nat := halfF n 1 n
theorem halfF_bd : ∀ {t k n : Nat}, 1 ≤ k → k < n → 1 ≤ halfF t k n ∧ halfF t k n < n
 | 0, k, n, h1, h2 => ⟨h1, h2⟩
 | t + 1, k, n, h1, h2 => by
   unfold halfF
   split
   ·exact halfF_bd (by omega) (by omega)
   ·exact ⟨h1, h2⟩
theorem half_bd {n : Nat} (h : 2 ≤ n) : 1 ≤ half n ∧ half n < n := halfF_bd (by omega) (by omega)
def root (f : Nat → Ln) (a n : Nat) : Int :=
 if h0 : n = 0 then 0 else if h1 : n = 1 then leaf (f a).text else node (root f a (half n)) (root f (a + half n) (n - half n))
termination_by n
decreasing_by
 all_goals
  have := half_bd (n := n) (by omega)
  omega
theorem root_bd (f : Nat → Ln) (a n : Nat) : 0 ≤ root f a n ∧ root f a n < P := by
 rw [root]
 split
 ·exact ⟨Int.le_refl _, by decide⟩
 ·split
  ·exact leaf_bd _
  ·exact node_bd _ _
theorem root_one (f : Nat → Ln) (a : Nat) : root f a 1 = leaf (f a).text := by rw [root]; simp
theorem root_two (f : Nat → Ln) (a : Nat) {n : Nat} (h : 2 ≤ n) : root f a n = node (root f a (half n)) (root f (a + half n) (n - half n)) := by
 rw [root, dif_neg (by omega), dif_neg (by omega)]
theorem root_nil (f : Nat → Ln) (a : Nat) : root f a 0 = 0 := by rw [root]; simp
theorem root_congr {f g : Nat → Ln} {a n : Nat} (h : ∀ i, a ≤ i → i < a + n → f i = g i) : root f a n = root g a n := by
 induction n using Nat.strongRecOn generalizing a with
 | ind n ih =>
   rcases Nat.lt_or_ge n 2 with h2 | h2
   ·rcases Nat.eq_zero_or_pos n with rfl | h0
    ·rw [root_nil, root_nil]
    ·obtain rfl : n = 1 := by omega
     rw [root_one, root_one, h a (Nat.le_refl _) (by omega)]
   ·have hb := half_bd h2
    rw [root_two f a h2, root_two g a h2, ih (half n) hb.2 (fun i h3 h4 => h i h3 (by omega)), ih (n - half n) (by omega) (fun i h3 h4 => h i (by omega) (by omega))]
def parts (a n i : Nat) : List (Nat × Nat × Bool) :=
 if h : n ≤ 1 then [] else if i < half n then parts a (half n) i ++ [(a + half n, n - half n, false)] else parts (a + half n) (n - half n) (i - half n) ++ [(a, half n, true)]
termination_by n
decreasing_by
 all_goals
  have := half_bd (n := n) (by omega)
  omega
theorem parts_one (a i : Nat) : parts a 1 i = [] := by rw [parts]; simp
theorem parts_left {a n i : Nat} (h : 2 ≤ n) (hi : i < half n) : parts a n i = parts a (half n) i ++ [(a + half n, n - half n, false)] := by
 rw [parts, dif_neg (by omega), if_pos hi]
theorem parts_right {a n i : Nat} (h : 2 ≤ n) (hi : half n ≤ i) : parts a n i = parts (a + half n) (n - half n) (i - half n) ++ [(a, half n, true)] := by
 rw [parts, dif_neg (by omega), if_neg (by omega)]
def climbP (z : Int) : List (Nat × Nat × Bool) → List Int → Int
 | p :: ps, y :: ys => climbP (if p.2.2 then node y z else node z y) ps ys
 | _, _ => z
theorem climbP_snoc {y : Int} {p : Nat × Nat × Bool} : ∀ {ps : List (Nat × Nat × Bool)} {ys : List Int}, ps.length = ys.length → ∀ z, climbP z (ps ++ [p]) (ys ++ [y]) = if p.2.2 then node y (climbP z ps ys) else node (climbP z ps ys) y
 | [], [], _, z => rfl
 | q :: ps, x :: ys, h, z => by
   simp only [List.cons_append, climbP]
   exact climbP_snoc (by simpa using h) _
 | [], _ :: _, h, _ => by simp at h
 | _ :: _, [], h, _ => by simp at h
theorem climb_root (f : Nat → Ln) : ∀ (n : Nat) {a i : Nat}, i < n → climbP (leaf (f (a + i)).text) (parts a n i) ((parts a n i).map fun p => root f p.1 p.2.1) = root f a n := by
 intro n
 induction n using Nat.strongRecOn with
 | ind n ih =>
   intro a i hi
   rcases Nat.lt_or_ge n 2 with h2 | h2
   ·obtain rfl : n = 1 := by omega
    obtain rfl : i = 0 := by omega
    rw [parts_one, root_one]; rfl
   ·have hb := half_bd h2
    rcases Nat.lt_or_ge i (half n) with h3 | h3
    ·rw [parts_left h2 h3, List.map_append, List.map_cons, List.map_nil, climbP_snoc (by simp), if_neg (by simp), ih (half n) hb.2 h3, root_two f a h2]
    ·have e : a + i = a + half n + (i - half n) := by omega
     rw [parts_right h2 h3, List.map_append, List.map_cons, List.map_nil, climbP_snoc (by simp), if_pos rfl, e, ih (n - half n) (by omega) (by omega), root_two f a h2]
theorem step_bd (p : Nat × Nat × Bool) (y z : Int) : 0 ≤ (if p.2.2 then node y z else node z y) ∧ (if p.2.2 then node y z else node z y) < P := by split <;> exact node_bd _ _
theorem climb_bd {ps : List (Nat × Nat × Bool)} : ∀ {ys : List Int} {z : Int}, (0 ≤ z ∧ z < P) → 0 ≤ climbP z ps ys ∧ climbP z ps ys < P := by
 induction ps with
 | nil => intro ys z hz; cases ys <;> exact hz
 | cons p ps ih => intro ys z hz; cases ys with
   | nil => exact hz
   | cons y ys => exact ih (step_bd ..)
end AE.Clerk
