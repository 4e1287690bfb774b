/- By how much a point pulls more than another one, in a true chart. Plain laws. -/
import Derived.Test.YtbfhhncmmllblaaChartZe
import Derived.Test.YtbfhhncmmllblaaChartRg
set_option linter.unusedVariables false
set_option linter.unusedSimpArgs false
set_option linter.unusedSectionVars false
namespace AE.Try
open Go AE Go.Proofs
set_option maxRecDepth 100000
set_option linter.unusedVariables false

/-- The difference of two sums, over one number. -/
def Tbl.dif (T : Tbl) (p q : Pt) (f g : Nat → Nat → Int) : Int := T.vsum p f * T.whole q - T.vsum q g * T.whole p
theorem dif_gs {T : Tbl} {p q : Pt} (ar : Around T p) (ar' : Around T q) (f g : Nat → Nat → Int) : T.dif p q f g = gs (fun i k => T.wm p i k * T.whole q * f i k - T.wm q i k * T.whole p * g i k) T.P.n T.A.n := by
  unfold Tbl.dif
  rw [← wm_sum ar, ← wm_sum ar', ← gs_mul, ← gs_mul]
  have : ∀ a b : Nat → Nat → Int, gs a T.P.n T.A.n - gs b T.P.n T.A.n = gs (fun i k => a i k - b i k) T.P.n T.A.n := fun a b => by
    have e := gs_add a (fun i k => -b i k) T.P.n T.A.n
    rw [gs_neg] at e
    have e' : gs (fun i k => a i k - b i k) T.P.n T.A.n = gs (fun i k => a i k + -b i k) T.P.n T.A.n := gs_congr fun i k _ _ => by omega
    omega
  rw [this]
  refine gs_congr fun i k _ _ => ?_
  have x1 : T.wm p i k * f i k * T.whole q = T.wm p i k * T.whole q * f i k := by ac_rfl
  have x2 : T.wm q i k * g i k * T.whole p = T.wm q i k * T.whole p * g i k := by ac_rfl
  omega
theorem dif_more {T : Tbl} {p q : Pt} (ar : Around T p) (ar' : Around T q) (f : Nat → Nat → Int) : T.dif p q f f = gs (fun i k => T.more p q i k * f i k) T.P.n T.A.n := by
  rw [dif_gs ar ar']
  refine gs_congr fun i k _ _ => ?_
  rw [T.more_eq, Int.sub_mul]

theorem ft_hi {T : Tbl} {p q : Pt} {i k : Nat} {f : Int} (h1 : T.lo i k ≤ f) (h2 : f ≤ T.hi i k) : T.more p q i k * f ≤ T.ft p q Bool.true i k ∧ T.ft p q Bool.false i k ≤ T.more p q i k * f := by
  unfold Tbl.ft Tbl.endv
  generalize T.more p q i k = w
  by_cases hw : 0 < w
  · rw [decide_eq_true hw, if_pos rfl, if_neg (by decide)]
    exact ⟨Int.mul_le_mul_of_nonneg_left h2 (by omega), Int.mul_le_mul_of_nonneg_left h1 (by omega)⟩
  · rw [decide_eq_false hw, if_neg (by decide), if_pos rfl]
    exact ⟨Int.mul_le_mul_of_nonpos_left (by omega) h1, Int.mul_le_mul_of_nonpos_left (by omega) h2⟩
theorem ft_ev {T : Tbl} {p q : Pt} (high : Bool) (i k : Nat) : T.more p q i k * T.ev p q high i k = T.ft p q high i k := by
  unfold Tbl.ft Tbl.ev
  split
  · rename_i h0; rw [h0]; simp
  · rfl

section
variable {T : Tbl} {p q : Pt}
theorem whole2_pos (ar : Around T p) (ar' : Around T q) : 0 < T.whole p * T.whole q ∧ T.whole p * T.whole q ≤ 16000000000000 := by
  have h1 := ar.whole
  have h2 := ar'.whole
  have := mul4 (a := T.whole p) (A := 4000000) (b := T.whole q) (B := 4000000) (by omega) h1.2 (by omega) h2.2
  exact ⟨Int.mul_pos h1.1 h2.1, by omega⟩
theorem far_eq (high : Bool) (ar : Around T p) (ar' : Around T q) : T.far p q high = fr (T.dif p q (T.ev p q high) (T.ev p q high)) (T.whole p * T.whole q) := by
  unfold Tbl.far
  rw [dif_more ar ar', gs_congr fun i k _ _ => ft_ev high i k]
theorem dif_lo (g : T.Good) (ar : Around T p) (ar' : Around T q) {f : Nat → Nat → Int} (hf : ∀ i k, i < T.P.n → k < T.A.n → T.lo i k ≤ f i k ∧ f i k ≤ T.hi i k) : T.dif p q (T.ev p q Bool.false) (T.ev p q Bool.false) ≤ T.dif p q f f := by
  rw [dif_more ar ar', dif_more ar ar', gs_congr fun i k _ _ => ft_ev Bool.false i k]
  exact gs_le fun i k hi hk => (ft_hi (hf i k hi hk).1 (hf i k hi hk).2).2
theorem dif_hi (g : T.Good) (ar : Around T p) (ar' : Around T q) {f : Nat → Nat → Int} (hf : ∀ i k, i < T.P.n → k < T.A.n → T.lo i k ≤ f i k ∧ f i k ≤ T.hi i k) : T.dif p q f f ≤ T.dif p q (T.ev p q Bool.true) (T.ev p q Bool.true) := by
  rw [dif_more ar ar', dif_more ar ar', gs_congr fun i k _ _ => ft_ev Bool.true i k]
  exact gs_le fun i k hi hk => (ft_hi (hf i k hi hk).1 (hf i k hi hk).2).1
end
end AE.Try
