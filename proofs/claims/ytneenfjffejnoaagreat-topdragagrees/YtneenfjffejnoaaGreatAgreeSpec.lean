/- The plain law of agree: heights in a net of bounds are exact. Nothing of the program here. -/
set_option linter.unusedVariables false
set_option linter.unusedSimpArgs false
set_option linter.unusedSectionVars false
set_option linter.unusedVariables false
namespace AgreeS

abbrev Net := Nat → Nat → Option Int
abbrev Known := Nat → Option Int

structure Step where
 from_ : Nat
 to : Nat
 most : Int
deriving DecidableEq

def rowSteps (B : Net) (f : Nat) (ts : List Nat) : List Step := ts.filterMap fun t => (B f t).map fun m => ⟨f, t, m⟩
def steps (B : Net) : List Step := (List.range 13).flatMap fun f => rowSteps B f (List.range 13)

theorem mem_steps {B : Net} {s : Step} : s ∈ steps B ↔ s.from_ < 13 ∧ s.to < 13 ∧ B s.from_ s.to = some s.most := by
 obtain ⟨f, t, m⟩ := s
 simp only [steps, rowSteps, List.mem_flatMap, List.mem_range, List.mem_filterMap, Option.map_eq_some_iff, Step.mk.injEq]
 constructor
 ·rintro ⟨f', h1, t', h2, m', h3, rfl, rfl, rfl⟩; exact ⟨h1, h2, h3⟩
 ·rintro ⟨h1, h2, h3⟩; exact ⟨f, h1, t, h2, m, h3, rfl, rfl, rfl⟩

def upd {α : Type} (k : Nat → α) (t : Nat) (v : α) : Nat → α := fun i => if i = t then v else k i

structure St where
 known : Known
 before : List (Nat × Nat)
 last : Int

def putB (l : List (Nat × Nat)) (k v : Nat) : List (Nat × Nat) := match l.findIdx? (fun p => p.1 == k) with
 | some i => l.set i (k, v)
 | none => l ++ [(k, v)]

def better (k : Known) (s : Step) : Bool := match k s.from_, k s.to with
 | some a, some b => a + s.most < b
 | some _, none => true
 | none, _ => false
def lower (k : Known) (s : Step) : Int := (k s.from_).getD 0 + s.most

def relax (x : St) (s : Step) : St := if better x.known s then ⟨upd x.known s.to (some (lower x.known s)), putB x.before s.to s.from_, s.to⟩ else x
def pass (B : Net) (x : St) : St := (steps B).foldl relax { x with last := -1 }
def passes (B : Net) : Nat → St → St
 | 0, x => x
 | n + 1, x => passes B n (pass B x)
def start (a : Nat) : St := ⟨fun i => if i = a then some 0 else none, [], -1⟩
def found (B : Net) (many a : Nat) : St := passes B many (start a)


inductive Way (B : Net) (a : Nat) : Nat → Nat → Int → Prop where
 | nil : Way B a 0 a 0
 | snoc {n f t : Nat} {c m : Int} (w : Way B a n f c) (hf : f < 13) (ht : t < 13) (h : B f t = some m) : Way B a (n + 1) t (c + m)

def Pot (B : Net) (p : Nat → Int) : Prop := ∀ f t m, f < 13 → t < 13 → B f t = some m → p t ≤ p f + m

theorem Way.pot {B : Net} {p : Nat → Int} (hp : Pot B p) {a n v : Nat} {c : Int} (w : Way B a n v c) : p v ≤ p a + c := by
 induction w with
 | nil => omega
 | snoc w hf ht h ih => have := hp _ _ _ hf ht h; omega

theorem Way.append {B : Net} {a b : Nat} {n : Nat} {c : Int} (w : Way B a n b c) {m v : Nat} {d : Int} (u : Way B b m v d) : Way B a (n + m) v (c + d) := by
 induction u with
 | nil => simpa using w
 | snoc u hf ht h ih => rw [← Int.add_assoc]; exact Way.snoc ih hf ht h

def Real (B : Net) (a : Nat) (k : Known) : Prop := ∀ v c, k v = some c → ∃ n, Way B a n v c

theorem relax_real {B : Net} {a : Nat} {x : St} {s : Step} (hs : s ∈ steps B) (h : Real B a x.known) : Real B a (relax x s).known := by
 obtain ⟨h1, h2, h3⟩ := mem_steps.1 hs
 unfold relax
 split
 ·rename_i hb
  intro v c hv
  simp only [upd] at hv
  split at hv
  ·rename_i e
   subst e
   unfold better at hb
   unfold lower at hv
   cases hf : x.known s.from_ with
   | none => simp [hf] at hb
   | some d =>
     obtain ⟨n, w⟩ := h _ _ hf
     rw [hf] at hv
     simp at hv
     subst hv
     exact ⟨n + 1, Way.snoc w h1 h2 h3⟩
  ·exact h v c hv
 ·exact h

theorem fold_real {B : Net} {a : Nat} : ∀ (l : List Step) (x : St), (∀ s ∈ l, s ∈ steps B) → Real B a x.known → Real B a (l.foldl relax x).known
 | [], _, _, h => h
 | s :: l, x, hl, h => fold_real l _ (fun t ht => hl t (List.mem_cons_of_mem _ ht)) (relax_real (hl s (by simp)) h)
theorem pass_real {B : Net} {a : Nat} {x : St} (h : Real B a x.known) : Real B a (pass B x).known := fold_real _ _ (fun _ h => h) h
theorem passes_real {B : Net} {a : Nat} : ∀ (n : Nat) (x : St), Real B a x.known → Real B a (passes B n x).known
 | 0, _, h => h
 | n + 1, x, h => passes_real n _ (pass_real h)
theorem start_real (B : Net) (a : Nat) : Real B a (start a).known := by
 intro v c h
 simp only [start] at h
 split at h
 ·rename_i e; subst e; simp at h; subst h; exact ⟨0, .nil⟩
 ·simp at h
theorem found_real (B : Net) (many a : Nat) : Real B a (found B many a).known := passes_real _ _ (start_real B a)


def LeK (k l : Known) : Prop := ∀ v c, l v = some c → ∃ d, k v = some d ∧ d ≤ c
theorem LeK.refl (k : Known) : LeK k k := fun v c h => ⟨c, h, by omega⟩
theorem LeK.trans {k l m : Known} (h : LeK k l) (g : LeK l m) : LeK k m := fun v c e => by
 obtain ⟨d, e1, h1⟩ := g v c e
 obtain ⟨d', e2, h2⟩ := h v d e1
 exact ⟨d', e2, by omega⟩
theorem relax_le (x : St) (s : Step) : LeK (relax x s).known x.known := by
 unfold relax
 split
 ·rename_i hb
  intro v c hv
  simp only [upd]
  split
  ·rename_i e
   subst e
   refine ⟨_, rfl, ?_⟩
   unfold better at hb
   unfold lower
   cases hf : x.known s.from_ with
   | none => simp [hf] at hb
   | some d => simp [hf, hv] at hb; simp; omega
  ·exact ⟨c, hv, by omega⟩
 ·exact LeK.refl _
theorem fold_le : ∀ (l : List Step) (x : St), LeK (l.foldl relax x).known x.known
 | [], _ => LeK.refl _
 | s :: l, x => (fold_le l (relax x s)).trans (relax_le x s)
theorem pass_le (B : Net) (x : St) : LeK (pass B x).known x.known := fold_le _ _
theorem relax_tight (x : St) (s : Step) {c : Int} (h : ∃ d, x.known s.from_ = some d ∧ d ≤ c) : ∃ b, (relax x s).known s.to = some b ∧ b ≤ c + s.most := by
 obtain ⟨d, hd, hc⟩ := h
 unfold relax
 split
 ·refine ⟨lower x.known s, by simp [upd], ?_⟩
  simp [lower, hd]; omega
 ·rename_i hb
  unfold better at hb
  rw [hd] at hb
  cases ht : x.known s.to with
  | none => simp [ht] at hb
  | some b => simp [ht] at hb; exact ⟨b, rfl, by omega⟩
theorem fold_tight : ∀ (l : List Step) (x : St) (s : Step), s ∈ l → ∀ c, (∃ d, x.known s.from_ = some d ∧ d ≤ c) → ∃ b, (l.foldl relax x).known s.to = some b ∧ b ≤ c + s.most
 | [], _, _, h, _, _ => by simp at h
 | u :: l, x, s, h, c, hc => by
   rcases List.mem_cons.1 h with rfl | h
   ·obtain ⟨b, hb, hl⟩ := relax_tight x s hc
    obtain ⟨b', hb', hl'⟩ := fold_le l (relax x s) _ _ hb
    exact ⟨b', hb', by omega⟩
   ·refine fold_tight l (relax x u) s h c ?_
    obtain ⟨d, hd, hl⟩ := hc
    obtain ⟨d', hd', hl'⟩ := relax_le x u _ _ hd
    exact ⟨d', hd', by omega⟩

theorem passes_way {B : Net} {a : Nat} : ∀ {n v : Nat} {c : Int}, Way B a n v c → ∀ x : St, (∃ d, x.known a = some d ∧ d ≤ 0) → ∀ m, n ≤ m → ∃ d, (passes B m x).known v = some d ∧ d ≤ c := by
 have last : ∀ (m : Nat) (x : St), passes B (m + 1) x = pass B (passes B m x) := by
  intro m
  induction m with
  | zero => intro x; rfl
  | succ m ih => intro x; exact ih (pass B x)
 have less : ∀ (m : Nat) (x : St), LeK (passes B m x).known x.known := by
  intro m
  induction m with
  | zero => intro x; exact LeK.refl _
  | succ m ih => intro x; exact (ih (pass B x)).trans (pass_le B x)
 intro n v c w
 induction w with
 | nil =>
   intro x ⟨d, hd, hl⟩ m _
   obtain ⟨d', h1, h2⟩ := less m x _ _ hd
   exact ⟨d', h1, by omega⟩
 | snoc w hf ht h ih =>
   rename_i n f t c q
   intro x hx m hm
   cases m with
   | zero => omega
   | succ m =>
     rw [last]
     have := ih x hx m (by omega)
     exact fold_tight (steps B) _ ⟨f, t, q⟩ (mem_steps.2 ⟨hf, ht, h⟩) c this


def Fixed (B : Net) (k : Known) : Prop := ∀ s ∈ steps B, better k s = false

theorem fold_last_neg : ∀ (l : List Step) (x : St), x.last < 0 → (l.foldl relax x).last < 0 → (l.foldl relax x) = x ∧ ∀ s ∈ l, better x.known s = false
 | [], x, _, _ => ⟨rfl, by simp⟩
 | s :: l, x, hx, h => by
   have keep : ∀ (l : List Step) (y : St), 0 ≤ y.last → 0 ≤ (l.foldl relax y).last := by
    intro l
    induction l with
    | nil => intro y h; exact h
    | cons s l ih =>
      intro y h
      refine ih _ ?_
      unfold relax
      split
      ·simp
      ·exact h
   simp only [List.foldl_cons] at h ⊢
   by_cases hb : better x.known s = true
   ·have := keep l (relax x s) (by simp [relax, hb])
    omega
   ·have hr : relax x s = x := by simp [relax, hb]
    rw [hr] at h ⊢
    obtain ⟨h1, h2⟩ := fold_last_neg l x hx h
    refine ⟨h1, fun t ht => ?_⟩
    rcases List.mem_cons.1 ht with rfl | ht
    ·simpa using hb
    ·exact h2 t ht
theorem fold_fixed : ∀ (l : List Step) (x : St), (∀ s ∈ l, better x.known s = false) → l.foldl relax x = x
 | [], _, _ => rfl
 | s :: l, x, h => by
   have hr : relax x s = x := by simp [relax, h s (by simp)]
   simp only [List.foldl_cons, hr]
   exact fold_fixed l x fun t ht => h t (List.mem_cons_of_mem _ ht)

theorem passes_succ (B : Net) : ∀ (m : Nat) (x : St), passes B (m + 1) x = pass B (passes B m x)
 | 0, _ => rfl
 | m + 1, x => passes_succ B m (pass B x)

theorem found_fixed {B : Net} {many a : Nat} (hm : 0 < many) (h : (found B many a).last < 0) : Fixed B (found B many a).known := by
 obtain ⟨m, rfl⟩ : ∃ m, many = m + 1 := ⟨many - 1, by omega⟩
 unfold found at *
 rw [passes_succ] at *
 obtain ⟨h1, h2⟩ := fold_last_neg (steps B) { passes B m (start a) with last := -1 } (by simp) h
 intro s hs
 have := h2 s hs
 unfold pass
 rw [h1]
 exact this

theorem Fixed.le {B : Net} {k : Known} (h : Fixed B k) {f t : Nat} {m a : Int} (hf : f < 13) (ht : t < 13) (hB : B f t = some m) (ha : k f = some a) : ∃ b, k t = some b ∧ b ≤ a + m := by
 have := h ⟨f, t, m⟩ (mem_steps.2 ⟨hf, ht, hB⟩)
 simp only [better, ha] at this
 cases hb : k t with
 | none => simp [hb] at this
 | some b => simp [hb] at this; exact ⟨b, rfl, by omega⟩
theorem Fixed.way {B : Net} {k : Known} (h : Fixed B k) {a n v : Nat} {c d : Int} (w : Way B a n v c) (ha : k a = some d) : ∃ b, k v = some b ∧ b ≤ d + c := by
 induction w with
 | nil => exact ⟨d, ha, by omega⟩
 | snoc w hf ht hB ih =>
   obtain ⟨b, hb, hl⟩ := ih
   obtain ⟨b', hb', hl'⟩ := h.le hf ht hB hb
   exact ⟨b', hb', by omega⟩
theorem Fixed.zero {B : Net} {k : Known} (h : Fixed B k) {a : Nat} (hr : Real B a k) {d : Int} (ha : k a = some d) (hd : d ≤ 0) : d = 0 := by
 obtain ⟨n, w⟩ := hr a d ha
 obtain ⟨b, hb, hl⟩ := h.way w ha
 rw [ha] at hb
 simp at hb
 omega


inductive Path (B : Net) (a : Nat) : List Nat → Int → Prop where
 | one : Path B a [a] 0
 | cons {f t : Nat} {l : List Nat} {c m : Int} (w : Path B a (f :: l) c) (hf : f < 13) (ht : t < 13) (h : B f t = some m) : Path B a (t :: f :: l) (c + m)

theorem Way.path {B : Net} {a n v : Nat} {c : Int} (w : Way B a n v c) : ∃ l, Path B a (v :: l) c ∧ l.length = n := by
 induction w with
 | nil => exact ⟨[], .one, rfl⟩
 | snoc w hf ht h ih =>
   obtain ⟨l, hl, hn⟩ := ih
   exact ⟨_ :: l, .cons hl hf ht h, by simp [hn]⟩
theorem Path.way {B : Net} {a : Nat} {l : List Nat} {c : Int} (w : Path B a l c) : ∃ v r, l = v :: r ∧ Way B a r.length v c := by
 induction w with
 | one => exact ⟨a, [], rfl, .nil⟩
 | cons w hf ht h ih =>
   obtain ⟨v, r, e, hw⟩ := ih
   simp at e
   obtain ⟨rfl, rfl⟩ := e
   exact ⟨_, _, rfl, .snoc hw hf ht h⟩
theorem Path.lt {B : Net} {a : Nat} (ha : a < 13) {l : List Nat} {c : Int} (w : Path B a l c) : ∀ v ∈ l, v < 13 := by
 induction w with
 | one => simpa using ha
 | cons w hf ht h ih =>
   intro v hv
   rcases List.mem_cons.1 hv with rfl | hv
   ·exact ht
   ·exact ih v hv
theorem Path.cut {B : Net} {a : Nat} : ∀ (l : List Nat) (v : Nat) (r : List Nat) (c : Int), Path B a (l ++ v :: r) c → ∃ d e, Path B a (v :: r) d ∧ Path B v (l ++ [v]) e ∧ c = d + e
 | [], v, r, c, w => ⟨c, 0, w, .one, by omega⟩
 | t :: l, v, r, c, w => by
   generalize hl : t :: l ++ v :: r = q at w
   cases w with
   | one => simp at hl
   | cons w hf ht h =>
     rename_i f t' l' c' m
     simp at hl
     obtain ⟨rfl, hl⟩ := hl
     rw [← hl] at w
     obtain ⟨d, e, h1, h2, h3⟩ := Path.cut l v r _ w
     refine ⟨d, e + m, h1, ?_, by omega⟩
     cases l with
     | nil =>
       simp at hl h2
       obtain ⟨rfl, rfl⟩ := hl
       exact .cons h2 hf ht h
     | cons f' l =>
       simp at hl
       obtain ⟨rfl, rfl⟩ := hl
       exact .cons h2 hf ht h
theorem Path.glue {B : Net} {a v : Nat} {r : List Nat} {d : Int} (w : Path B a (v :: r) d) : ∀ (l : List Nat) (t : Nat) (e : Int), Path B v (t :: l) e → ∃ l', Path B a (t :: l') (d + e) ∧ l'.length = l.length + r.length := by
 intro l t e u
 obtain ⟨v', r', e1, w1⟩ := w.way
 obtain ⟨v2, r2, e2, w2⟩ := u.way
 simp at e1 e2
 obtain ⟨rfl, rfl⟩ := e1
 obtain ⟨rfl, rfl⟩ := e2
 obtain ⟨l', h1, h2⟩ := (w1.append w2).path
 exact ⟨l', h1, by omega⟩

theorem twice : ∀ (n : Nat) (l : List Nat), (∀ v ∈ l, v < n) → n < l.length → ∃ a v b c, l = a ++ v :: b ++ v :: c := by
 intro n l hl hn
 have hd : ¬ l.Nodup := by
  intro hd
  have := hd.length_le_of_subset (l₂ := List.range n) (fun v hv => List.mem_range.2 (hl v hv))
  simp at this
  omega
 clear hl hn
 induction l with
 | nil => simp at hd
 | cons t l ih =>
   by_cases ht : t ∈ l
   ·obtain ⟨b, c, rfl⟩ := List.append_of_mem ht
    exact ⟨[], t, b, c, by simp⟩
   ·obtain ⟨a, v, b, c, rfl⟩ := ih (fun h => hd (List.nodup_cons.2 ⟨ht, h⟩))
    exact ⟨t :: a, v, b, c, by simp⟩

theorem short {B : Net} {p : Nat → Int} (hp : Pot B p) {a N : Nat} : ∀ (k n v : Nat) (c : Int), n ≤ k → (∀ l d, Path B a l d → ∀ u ∈ l, u < N) → Way B a n v c → ∃ m d, Way B a m v d ∧ m < N ∧ d ≤ c := by
 intro k
 induction k with
 | zero =>
   intro n v c hk hN w
   obtain ⟨l, hl, hn⟩ := w.path
   have := hN _ _ hl v (by simp)
   exact ⟨n, c, w, by omega, by omega⟩
 | succ k ih =>
   intro n v c hk hN w
   by_cases hn : n < N
   ·exact ⟨n, c, w, hn, by omega⟩
   ·obtain ⟨l, hl, hln⟩ := w.path
    obtain ⟨x, u, y, z, e⟩ := twice N (v :: l) (hN _ _ hl) (by simp; omega)
    rw [e] at hl
    rw [show x ++ u :: y ++ u :: z = (x ++ u :: y) ++ u :: z by simp] at hl
    obtain ⟨d, e2, h1, h2, h3⟩ := Path.cut _ _ _ _ hl
    rw [show x ++ u :: y ++ [u] = x ++ u :: (y ++ [u]) by simp] at h2
    obtain ⟨d3, e3, h4, h5, h6⟩ := Path.cut _ _ _ _ h2
    -- the ring from u to u is at least 0
    have hring : 0 ≤ d3 := by
     obtain ⟨v', r', e', w'⟩ := h4.way
     simp at e'
     have := w'.pot hp
     rw [← e'.1] at this
     omega
    cases x with
    | nil =>
      simp at e
      obtain ⟨rfl, rfl⟩ := e
      obtain ⟨v', r', e', w'⟩ := h1.way
      simp at e'
      obtain ⟨rfl, rfl⟩ := e'
      simp at h5
      cases h5 with
      | one =>
        simp at hln
        obtain ⟨m, d', hm, hmN, hd'⟩ := ih _ _ _ (by omega) hN w'
        exact ⟨m, d', hm, hmN, by omega⟩
    | cons t x =>
      simp at e
      obtain ⟨rfl, rfl⟩ := e
      obtain ⟨l', hl', hlen⟩ := Path.glue h1 (x ++ [u]) v e3 (by simpa using h5)
      obtain ⟨v', r', e', w'⟩ := hl'.way
      simp at e'
      obtain ⟨rfl, rfl⟩ := e'
      simp at hln hlen
      obtain ⟨m, d', hm, hmN, hd'⟩ := ih _ _ _ (by omega) hN w'
      exact ⟨m, d', hm, hmN, by omega⟩

theorem found_ok {B : Net} {p : Nat → Int} (hp : Pot B p) {a many : Nat} (h0 : 0 < many) (ha : a < many) (hm : many ≤ 13) (hB : ∀ f t m, B f t = some m → f < many ∧ t < many) : (found B many a).last < 0 := by
 obtain ⟨N, rfl⟩ : ∃ N, many = N + 1 := ⟨many - 1, by omega⟩
 unfold found
 rw [passes_succ]
 have hreal := passes_real N _ (start_real B a)
 have hlt : ∀ l d, Path B a l d → ∀ u ∈ l, u < N + 1 := by
  intro l d w
  induction w with
  | one => simpa using ha
  | cons w hf ht h ih =>
    intro u hu
    rcases List.mem_cons.1 hu with rfl | hu
    ·exact (hB _ _ _ h).2
    ·exact ih u hu
 have hbest : ∀ n v c, Way B a n v c → ∃ d, (passes B N (start a)).known v = some d ∧ d ≤ c := by
  intro n v c w
  obtain ⟨m, d, w', hmN, hd⟩ := short hp n n v c (by omega) hlt w
  obtain ⟨d', h1, h2⟩ := passes_way w' (start a) ⟨0, by simp [start], by omega⟩ N (by omega)
  exact ⟨d', h1, by omega⟩
 have hfix : ∀ s ∈ steps B, better ({ passes B N (start a) with last := -1 } : St).known s = false := by
  intro s hs
  obtain ⟨h1, h2, h3⟩ := mem_steps.1 hs
  show better (passes B N (start a)).known s = false
  unfold better
  cases hf : (passes B N (start a)).known s.from_ with
  | none => rfl
  | some c =>
    obtain ⟨n, w⟩ := hreal _ _ hf
    obtain ⟨d, h4, h5⟩ := hbest _ _ _ (Way.snoc w h1 h2 h3)
    rw [h4]
    simp
    omega
 unfold pass
 rw [fold_fixed _ _ hfix]
 simp

end AgreeS
