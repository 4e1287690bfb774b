/- What drag computes, in plain words: lines of a contract. -/
import Derived.Test.YtndkjpkadfpflaaGreatDragSpec2
set_option linter.unusedVariables false
set_option linter.unusedSimpArgs false
set_option linter.unusedSectionVars false
namespace AE.Drag
open Go AE

/-- Lines of a contract as a value. -/
structure Lines where
  k : Nat
  ln : Nat → Line
  b : Option Addr
  a : Addr
  c : Nat
def Lines.val (S : Lines) : Value := .slice S.b S.k S.c
structure Lines.Ok (S : Lines) (m : Nat) (h : H) : Prop where
  e : 0 < S.k → S.b = some S.a
  i : Els h S.a S.k 2 (fun i => (S.ln i).cells)
  r : 0 < S.k → S.a.block < m
  ok : ∀ i, i < S.k → (S.ln i).Ok m h
  l : S.k ≤ 9223372036854775807
theorem Lines.Ok.same {S : Lines} {m m' : Nat} {h h' : H} (k : S.Ok m h) (s : Same m h h') (hm : m ≤ m') : S.Ok m' h' :=
  ⟨k.e, k.i.same s k.r, fun h => by have := k.r h; omega, fun i hi => (k.ok i hi).same s hm, k.l⟩

/-- The first of some errors. -/
def firstErr (f : Nat → Int) : Nat → Int
  | 0 => 0
  | n + 1 => if firstErr f n ≠ 0 then firstErr f n else f n
theorem firstErr_zero {f : Nat → Int} : ∀ {n : Nat}, (∀ j, j < n → f j = 0) → firstErr f n = 0
  | 0, _ => rfl
  | n + 1, h => by
    unfold firstErr
    rw [firstErr_zero (fun j hj => h j (by omega))]
    simp [h n (by omega)]
theorem firstErr_at {f : Nat → Int} {i : Nat} (h0 : ∀ j, j < i → f j = 0) (hi : f i ≠ 0) : ∀ {n : Nat}, i < n → firstErr f n = f i
  | 0, h => by omega
  | n + 1, h => by
    unfold firstErr
    by_cases e : i = n
    · subst e; rw [firstErr_zero h0]; simp
    · rw [firstErr_at h0 hi (n := n) (by omega)]; simp [hi]
theorem firstErr_all {f : Nat → Int} : ∀ {n : Nat}, firstErr f n = 0 → ∀ j, j < n → f j = 0
  | 0, _, j, hj => by omega
  | n + 1, h, j, hj => by
    unfold firstErr at h
    split at h
    · omega
    · rename_i h1
      by_cases e : j = n
      · subst e; exact h
      · exact firstErr_all (n := n) (by omega) j (by omega)

noncomputable def linesErr (S : Lines) : Int := if S.k < 1 ∨ 4 < S.k then 6 else firstErr (fun i => lineErr (S.ln i)) S.k
structure Lines.Valid (S : Lines) : Prop where
  lo : 1 ≤ S.k
  hi : S.k ≤ 4
  v : ∀ i, i < S.k → AE.Drag.Valid (S.ln i)
theorem linesErr_valid {S : Lines} : linesErr S = 0 ↔ S.Valid := by
  unfold linesErr
  constructor
  · intro h
    split at h
    · omega
    · rename_i h1
      exact ⟨by omega, by omega, fun i hi => lineErr_valid.1 (firstErr_all h i hi)⟩
  · intro h
    have := h.lo; have := h.hi
    rw [if_neg (by omega)]
    exact firstErr_zero fun j hj => lineErr_valid.2 (h.v j hj)

/-- A test can be reckoned by a line. -/
def reckons (t : T) (L : Line) : Prop := (L.re 0 ≤ modelRe t t.th ∧ modelRe t t.tl ≤ L.re (L.n - 1)) ∧ L.re 0 ≤ shipRe t t.sh ∧ shipRe t t.sl ≤ L.re (L.n - 1)
instance (t : T) (L : Line) : Decidable (reckons t L) := by unfold reckons; infer_instance
def Reckoned (t : T) (S : Lines) : Prop := ∀ i, i < S.k → reckons t (S.ln i)
noncomputable instance (t : T) (S : Lines) : Decidable (Reckoned t S) := Classical.propDecidable _

theorem ediv_anti {a b c : Int} (ha : 0 ≤ a) (hb : 0 < b) (h : b ≤ c) : a / c ≤ a / b := by
  apply Int.le_ediv_of_mul_le hb
  have h1 : 0 ≤ a / c := Int.ediv_nonneg ha (by omega)
  have h2 : a / c * b ≤ a / c * c := Int.mul_le_mul_of_nonneg_left h h1
  have h3 : a / c * c ≤ a := Int.ediv_mul_le a (by omega)
  omega
theorem both_of {t : T} (k : t.Ok) {L : Line} (r : reckons t L) {x : X} (h1 : t.tl ≤ x.tank) (h2 : x.tank ≤ t.th) (h3 : t.sl ≤ x.sea) (h4 : x.sea ≤ t.sh) : both t L x := by
  have := k.t1; have := k.t2; have := k.e1; have := k.e2
  obtain ⟨p1, p2, p3, p4, p5, p6, p7, p8, p9⟩ := k.prod
  obtain ⟨⟨r1, r2⟩, r3, r4⟩ := r
  have a1 := ediv_anti p1 (by omega : 0 < x.tank) h2
  have a2 := ediv_anti p1 (by omega : 0 < t.tl) h1
  have a3 := ediv_anti p7 (by omega : 0 < x.sea) h4
  have a4 := ediv_anti p7 (by omega : 0 < t.sl) h3
  unfold both inside
  unfold modelRe shipRe at *
  omega

/-! ### the span -/

def lowX (t : T) (m : Int) : X := ⟨t.fl, t.th, t.sl, m, t.bh, t.rl⟩
def highX (t : T) (m : Int) : X := ⟨t.fh, t.tl, t.sh, m, t.bl, t.rh⟩
/-- A coefficient at the low | high end. -/
def LowC (t : T) (S : Lines) (c : Int) : Prop := ∃ i, i < S.k ∧ ∃ m, t.ml ≤ m ∧ m ≤ t.mh ∧ c = coef t (S.ln i) (lowX t m)
def HighC (t : T) (S : Lines) (c : Int) : Prop := ∃ i, i < S.k ∧ ∃ m, t.ml ≤ m ∧ m ≤ t.mh ∧ c = coef t (S.ln i) (highX t m)
def IsMin (P : Int → Prop) (v : Int) : Prop := P v ∧ ∀ w, P w → v ≤ w
def IsMax (P : Int → Prop) (v : Int) : Prop := P v ∧ ∀ w, P w → w ≤ v
open Classical in
noncomputable def theMin (P : Int → Prop) : Int := if h : ∃ v, IsMin P v then h.choose else 0
open Classical in
noncomputable def theMax (P : Int → Prop) : Int := if h : ∃ v, IsMax P v then h.choose else 0
theorem theMin_eq {P : Int → Prop} {v : Int} (h : IsMin P v) : theMin P = v := by
  unfold theMin
  have hx : ∃ v, IsMin P v := ⟨v, h⟩
  rw [dif_pos hx]
  have h1 := hx.choose_spec
  have a := h1.2 _ h.1
  have b := h.2 _ h1.1
  omega
theorem theMax_eq {P : Int → Prop} {v : Int} (h : IsMax P v) : theMax P = v := by
  unfold theMax
  have hx : ∃ v, IsMax P v := ⟨v, h⟩
  rw [dif_pos hx]
  have h1 := hx.choose_spec
  have a := h1.2 _ h.1
  have b := h.2 _ h1.1
  omega
noncomputable def spanLo (t : T) (S : Lines) : Int := theMin (LowC t S)
noncomputable def spanHi (t : T) (S : Lines) : Int := theMax (HighC t S)
/-- Span's answer. -/
noncomputable def spanErr (t : T) (S : Lines) : Int := if testErr t ≠ 0 then testErr t else if linesErr S ≠ 0 then linesErr S else if Reckoned t S then 0 else 19
structure Fine (t : T) (S : Lines) : Prop where
  tk : t.Ok
  sv : S.Valid
  r : Reckoned t S
theorem spanErr_fine {t : T} {S : Lines} : spanErr t S = 0 ↔ Fine t S := by
  unfold spanErr
  constructor
  · intro h
    split at h
    · omega
    · split at h
      · omega
      · split at h
        · rename_i h1 h2 h3
          exact ⟨testErr_ok.1 (by omega), linesErr_valid.1 (by omega), h3⟩
        · omega
  · rintro ⟨h1, h2, h3⟩
    rw [if_neg (by rw [testErr_0 h1]; omega), if_neg (by rw [linesErr_valid.2 h2]; omega), if_pos h3]
end AE.Drag
