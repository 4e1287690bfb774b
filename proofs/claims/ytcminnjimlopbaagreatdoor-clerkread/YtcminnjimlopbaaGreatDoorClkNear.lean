/- Clerk: a file with one byte changed is no file; in plain words. -/
import Derived.Test.YtcminnjimlopbaaGreatDoorJoin42
set_option linter.unusedVariables false
set_option linter.unusedSimpArgs false
set_option linter.unusedSectionVars false
namespace AE.Tryz
open Go AE Go.Proofs AE.Clerk
set_option maxRecDepth 100000
set_option linter.unusedVariables false

theorem first_un {b : Nat} : ∀ {a a' x x' : List Nat}, b ∉ a → b ∉ a' → a ++ b :: x = a' ++ b :: x' → a = a' ∧ x = x'
 | [], [], x, x', _, _, h => by simp at h; exact ⟨rfl, h⟩
 | [], c :: a', x, x', _, h2, h => by
   simp at h
   exact absurd (by rw [h.1]; simp) h2
 | c :: a, [], x, x', h1, _, h => by
   simp at h
   exact absurd (by rw [h.1]; simp) h1
 | c :: a, d :: a', x, x', h1, h2, h => by
   simp only [List.cons_append, List.cons.injEq] at h
   obtain ⟨e1, e2⟩ := first_un (fun hb => h1 (List.mem_cons_of_mem _ hb)) (fun hb => h2 (List.mem_cons_of_mem _ hb)) h.2
   exact ⟨by rw [h.1, e1], e2⟩
def joinE (R : List (List Nat)) : List Nat := R.flatMap fun r => r ++ [10]
theorem joinE_cons (r : List Nat) (R : List (List Nat)) : joinE (r :: R) = r ++ 10 :: joinE R := by simp [joinE]
def RowX (r : List Nat) : Prop := 10 ∉ r ∧ ∃ a w s, r = a :: w ++ 32 :: s ∧ 97 ≤ a ∧ 32 ∉ a :: w ∧ ∀ c ∈ s, c < 97
theorem joinE_inj : ∀ {R R' : List (List Nat)}, (∀ r ∈ R, RowX r) → (∀ r ∈ R', RowX r) → joinE R = joinE R' → R = R'
 | [], [], _, _, _ => rfl
 | [], r :: R, _, _, h => by rw [joinE_cons] at h; simp [joinE] at h
 | r :: R, [], _, _, h => by rw [joinE_cons] at h; simp [joinE] at h
 | r :: R, r' :: R', h1, h2, h => by
   rw [joinE_cons, joinE_cons] at h
   obtain ⟨e1, e2⟩ := first_un (h1 r (by simp)).1 (h2 r' (by simp)).1 h
   rw [e1, joinE_inj (fun x hx => h1 x (by simp [hx])) (fun x hx => h2 x (by simp [hx])) e2]
theorem cutL {r X p s : List Nat} {c : Nat} (h : r ++ 10 :: X = p ++ c :: s) : (r = p ∧ c = 10 ∧ X = s) ∨ (∃ p1, p = r ++ 10 :: p1 ∧ X = p1 ++ c :: s) ∨ (∃ t, r = p ++ c :: t ∧ s = t ++ 10 :: X) := by
 rcases List.append_eq_append_iff.1 h with ⟨u, e1, e2⟩ | ⟨bs, e1, e2⟩
 ·cases u with
  | nil => simp at e1 e2; exact .inl ⟨e1.symm, e2.1.symm, e2.2⟩
  | cons y u =>
    simp only [List.cons_append, List.cons.injEq] at e2
    exact .inr (.inl ⟨u, by rw [e1, e2.1], e2.2⟩)
 ·cases bs with
  | nil => simp at e1 e2; exact .inl ⟨e1, e2.1, e2.2.symm⟩
  | cons y bs =>
    simp only [List.cons_append, List.cons.injEq] at e2
    exact .inr (.inr ⟨bs, by rw [e1, ← e2.1], e2.2⟩)
theorem no_merge {p t X : List Nat} {d : Nat} {R : List (List Nat)} (hp : RowX p) (hr : RowX (p ++ d :: t)) (hR : ∀ r ∈ R, RowX r) (h : joinE R = t ++ 10 :: X) : False := by
 cases R with
 | nil => simp [joinE] at h
 | cons r R =>
   rw [joinE_cons] at h
   obtain ⟨-, a, w, s, e, ha, -, -⟩ := hR r (by simp)
   obtain ⟨-, a0, w0, s0, e0, -, h0, -⟩ := hp
   obtain ⟨-, a1, w1, s1, e1, -, h1, h2⟩ := hr
   rw [e] at h
   simp only [List.cons_append] at h
   cases t with
   | nil => simp at h; omega
   | cons y t =>
     simp only [List.cons_append, List.cons.injEq] at h
     rw [e0, List.append_assoc] at e1
     obtain ⟨-, e2⟩ := first_un h0 h1 e1
     have := h2 y (by rw [← e2]; simp)
     omega
theorem near_rows : ∀ {R R' : List (List Nat)}, (∀ r ∈ R, RowX r) → (∀ r ∈ R', RowX r) → Near (joinE R) (joinE R') → ∃ (i : Nat) (r r' : List Nat), R[i]? = some r ∧ R'[i]? = some r' ∧ Near r r' ∧ R.length = R'.length ∧ ∀ j, j ≠ i → R[j]? = R'[j]?
 | [], R', _, _, h => by
   obtain ⟨p, c, d, s, e1, e2, hne⟩ := h
   simp [joinE] at e1
 | r :: R, [], _, _, h => by
   obtain ⟨p, c, d, s, e1, e2, hne⟩ := h
   simp [joinE] at e2
 | r :: R, r' :: R', h1, h2, h => by
   obtain ⟨p, c, d, s, e1, e2, hne⟩ := h
   rw [joinE_cons] at e1 e2
   have k1 := h1 r (by simp)
   have k2 := h2 r' (by simp)
   have q1 : ∀ x ∈ R, RowX x := fun x hx => h1 x (by simp [hx])
   have q2 : ∀ x ∈ R', RowX x := fun x hx => h2 x (by simp [hx])
   rcases cutL e1 with ⟨a1, a2, a3⟩ | ⟨p1, a1, a2⟩ | ⟨t, a1, a2⟩
   ·rcases cutL e2 with ⟨b1, b2, b3⟩ | ⟨p2, b1, b2⟩ | ⟨t', b1, b2⟩
    ·exact absurd (a2.trans b2.symm) hne
    ·exact absurd (by rw [a1, b1]; simp) k1.1
    ·exact (no_merge (p := p) (t := t') (d := d) (R := R) (a1 ▸ k1) (b1 ▸ k2) q1 (a3.trans b2)).elim
   ·rcases cutL e2 with ⟨b1, b2, b3⟩ | ⟨p2, b1, b2⟩ | ⟨t', b1, b2⟩
    ·exact absurd (by rw [b1, a1]; simp) k2.1
    ·obtain ⟨e3, e4⟩ := first_un k1.1 k2.1 (a1.symm.trans b1)
     subst e3 e4
     obtain ⟨i, x, x', i1, i2, i3, i4, i5⟩ := near_rows q1 q2 ⟨p1, c, d, s, a2, b2, hne⟩
     refine ⟨i + 1, x, x', by simpa using i1, by simpa using i2, i3, by simp [i4], fun j hj => ?_⟩
     cases j with
     | zero => rfl
     | succ j => simpa using i5 j byO
    ·exact absurd (by rw [b1, a1]; simp) k2.1
   ·rcases cutL e2 with ⟨b1, b2, b3⟩ | ⟨p2, b1, b2⟩ | ⟨t', b1, b2⟩
    ·exact (no_merge (p := p) (t := t) (d := c) (R := R') (b1 ▸ k2) (a1 ▸ k1) q2 (b3.trans a2)).elim
    ·exact absurd (by rw [a1, b1]; simp) k1.1
    ·have t1 : 10 ∉ t := fun h => k1.1 (by rw [a1]; simp [h])
     have t2 : 10 ∉ t' := fun h => k2.1 (by rw [b1]; simp [h])
     obtain ⟨e3, e4⟩ := first_un t1 t2 (a2.symm.trans b2)
     have e5 := joinE_inj q1 q2 e4
     subst e5
     refine ⟨0, r, r', rfl, rfl, ⟨p, c, d, t, a1, by rw [e3]; exact b1, hne⟩, rfl, fun j hj => ?_⟩
     cases j with
     | zero => exact absurd rfl hj
     | succ j => rfl
def rowsF (f : Nat → Ln) (n : Nat) : List (List Nat) := ((List.range n).map fun i => (f i).text) ++ [sealW ++ sep (root f 0 n)]
theorem rowsN_join (f : Nat → Ln) : ∀ n, rowsN f n = joinE ((List.range n).map fun i => (f i).text)
 | 0 => rfl
 | n + 1 => by
   rw [List.range_succ, List.map_append]
   simp only [rowsN, rowsN_join f n, joinE, List.flatMap_append]
   simp
theorem file_rows (f : Nat → Ln) (n : Nat) : file f n = joinE (rowsF f n) := by
 unfold file rowsF
 rw [rowsN_join]
 simp [joinE]
theorem near_self {r : List Nat} (h : Near r r) : False := by
 obtain ⟨p, c, d, s, e1, e2, hne⟩ := h
 have := e1.symm.trans e2
 simp at this
 exact hne this
theorem word_cons (k : Int) : ∃ a w, word k = a :: w ∧ 97 ≤ a := by
 unfold word
 repeat' split
 all_goals exact ⟨_, _, rfl, by decide⟩
theorem nums_cons (x : Ln) : ∃ n l, x.nums = n :: l := by
 unfold Ln.nums
 repeat' split
 all_goals exact ⟨_, _, rfl⟩
theorem text_rowX (x : Ln) : RowX x.text := by
 refine ⟨fun h => by have := text_byte x 10 h; omega, ?_⟩
 obtain ⟨a, w, e, ha⟩ := word_cons x.k
 obtain ⟨n, l, en⟩ := nums_cons x
 refine ⟨a, w, dec n.toNat ++ l.flatMap sep, ?_, ha, ?_, fun c hc => ?_⟩
 ·unfold Ln.text
  rw [e, en]
  simp [sep]
 ·rw [← e]; exact free_word _
 ·rcases List.mem_append.1 hc with hc | hc
  ·have := dec_digit c hc; omega
  ·obtain ⟨z, -, hz⟩ := List.mem_flatMap.1 hc
   have := sep_byte c hz; omega
theorem seal_rowX (z : Int) : RowX (sealW ++ sep z) := by
 refine ⟨fun h => ?_, 115, [101, 97, 108], dec z.toNat, rfl, by decide, by decide, fun c hc => ?_⟩
 ·rcases List.mem_append.1 h with h | h
  ·simp [sealW] at h
  ·have := sep_byte 10 h; omega
 ·have := dec_digit c hc; omega
theorem rowsF_x (f : Nat → Ln) (n : Nat) : ∀ r ∈ rowsF f n, RowX r := fun r hr => by
 rcases List.mem_append.1 hr with hr | hr
 ·obtain ⟨i, -, rfl⟩ := List.mem_map.1 hr
  exact text_rowX _
 ·rw [List.mem_singleton] at hr
  subst hr
  exact seal_rowX _
theorem rowsF_lt {f : Nat → Ln} {n i : Nat} (h : i < n) : (rowsF f n)[i]? = some (f i).text := by
 unfold rowsF
 rw [List.getElem?_append_left (by simpa using h), List.getElem?_map, List.getElem?_range h]
 rfl
theorem rowsF_last {f : Nat → Ln} {n : Nat} : (rowsF f n)[n]? = some (sealW ++ sep (root f 0 n)) := by
 unfold rowsF
 rw [List.getElem?_append_right (by simp)]
 simp
theorem rowsF_len (f : Nat → Ln) (n : Nat) : (rowsF f n).length = n + 1 := by simp [rowsF]
theorem file_near {f g : Nat → Ln} {n m : Nat} (hf : Good n f) (hg : Good m g) : ¬ Near (file f n) (file g m) := by
 intro h
 rw [file_rows, file_rows] at h
 obtain ⟨i, r, r', h1, h2, h3, h4, h5⟩ := near_rows (rowsF_x f n) (rowsF_x g m) h
 rw [rowsF_len, rowsF_len] at h4
 obtain rfl : n = m := by omega
 have hi : i < n + 1 := by
  have := (List.getElem?_eq_some_iff.1 h1).1
  rwa [rowsF_len] at this
 have heq : ∀ j, j < n → j ≠ i → f j = g j := fun j hj hji => by
  have := h5 j hji
  rw [rowsF_lt hj, rowsF_lt hj] at this
  exact rowLn_inj (l := (f j).text) ⟨hf.2 j hj, rfl⟩ ⟨hg.2 j hj, Option.some.inj this⟩
 rcases Nat.lt_or_ge i n with h6 | h6
 ·rw [rowsF_lt h6] at h1 h2
  have h7 := h5 n byO
  rw [rowsF_last, rowsF_last] at h7
  have h8 : sep (root f 0 n) = sep (root g 0 n) := List.append_cancel_left (Option.some.inj h7)
  unfold sep at h8
  have h9 := dec_inj (List.cons.inj h8).2
  have b1 := root_bd f 0 n
  have b2 := root_bd g 0 n
  have h10 : root f 0 n = root g 0 n := by omega
  have e1 := Option.some.inj h1
  have e2 := Option.some.inj h2
  subst e1 e2
  exact root_ne (f := f) (g := g) (a := 0) (n := n) (i := i) ⟨Nat.zero_le _, by omega⟩ (fun j _ hj hji => heq j byO hji) (leaf_near h3 (text_lt _) (text_lt _)) h10
 ·obtain rfl : i = n := by omega
  have e : root f 0 i = root g 0 i := root_congr fun j _ hj => heq j byO byO
  rw [rowsF_last] at h1 h2
  rw [e] at h1
  have := h1.symm.trans h2
  rw [← Option.some.inj this] at h3
  exact near_self h3
end AE.Tryz
