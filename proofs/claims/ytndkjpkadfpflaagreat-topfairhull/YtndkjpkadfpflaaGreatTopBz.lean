/- Two fractions are compared by their whole parts, and what is left of both, turned over. -/
import Derived.Test.YtndkjpkadfpflaaGreatTopBy
set_option linter.unusedVariables false
set_option linter.unusedSimpArgs false
set_option linter.unusedSectionVars false
namespace AE.Box
open AE.Fair

/-- One fraction is less than another one. -/
def lt4 (a b c d : Int) : Prop := a * d < c * b
instance (a b c d : Int) : Decidable (lt4 a b c d) := by unfold lt4; infer_instance
theorem lt_of_div {a b c d : Int} (hb : 0 < b) (hd : 0 < d) (h : a / b < c / d) : a * d < c * b := by
  have h1 := Int.lt_ediv_add_one_mul_self a hb
  have h2 := Int.ediv_mul_le c (Int.ne_of_gt hd)
  have h3 : (a / b + 1) * b ≤ c / d * b := Int.mul_le_mul_of_nonneg_right (by omega) (by omega)
  have h4 : a * d < c / d * b * d := Int.mul_lt_mul_of_pos_right (by omega) hd
  have h5 : c / d * b * d = c / d * d * b := Int.mul_right_comm _ _ _
  have h6 : c / d * d * b ≤ c * b := Int.mul_le_mul_of_nonneg_right h2 (by omega)
  omega
theorem div_less {a b c d : Int} (hb : 0 < b) (hd : 0 < d) (h : a / b ≠ c / d) : a / b < c / d ↔ lt4 a b c d := by
  constructor
  · exact lt_of_div hb hd
  · intro hl
    rcases Int.lt_or_gt_of_ne h with k | k
    · exact k
    · have := lt_of_div hd hb k
      unfold lt4 at hl
      omega
theorem left_less {a b c d : Int} (h : a / b = c / d) : (lt4 a b c d ↔ lt4 (a % b) b (c % d) d) ∧ (lt4 c d a b ↔ lt4 (c % d) d (a % b) b) := by
  have e1 := Int.mul_ediv_add_emod a b
  have e2 := Int.mul_ediv_add_emod c d
  have f1 : a * d = b * (a / b) * d + a % b * d := by rw [← Int.add_mul, e1]
  have f2 : c * b = d * (c / d) * b + c % d * b := by rw [← Int.add_mul, e2]
  have f3 : b * (a / b) * d = d * (c / d) * b := by rw [h]; ac_rfl
  unfold lt4
  omega
theorem turn_less {a b c d : Int} : lt4 b a d c ↔ lt4 c d a b := by
  unfold lt4
  rw [Int.mul_comm b c, Int.mul_comm d a]
theorem zero_less {a b c d : Int} (hb : 0 < b) (hd : 0 < d) (ha : 0 ≤ a) (hc : 0 ≤ c) (h : a = 0 ∨ c = 0) : lt4 a b c d ↔ a = 0 ∧ c ≠ 0 := by
  unfold lt4
  constructor
  · intro hl
    rcases h with rfl | rfl
    · refine ⟨rfl, fun e => ?_⟩
      subst e
      omega
    · have := Int.mul_nonneg ha (show 0 ≤ d by omega)
      omega
  · rintro ⟨rfl, h2⟩
    have := Int.mul_pos (a := c) (b := b) (by omega) hb
    omega
/-- What the comparison says in the end. -/
def says (t : Bool) (a b c d : Int) : Prop := if t then lt4 c d a b else lt4 a b c d
instance (t : Bool) (a b c d : Int) : Decidable (says t a b c d) := by unfold says; infer_instance
theorem says_div {t : Bool} {a b c d : Int} (hb : 0 < b) (hd : 0 < d) (h : a / b ≠ c / d) : decide (says t a b c d) = (decide (a / b < c / d) != t) := by
  have h1 := div_less hb hd h
  have h2 := div_less hd hb (fun e => h e.symm)
  cases t with
  | false =>
    simp only [says, Bool.bne_false]
    exact decide_eq_decide.2 h1.symm
  | true =>
    simp only [says, if_true, Bool.bne_true]
    rw [← decide_not]
    exact decide_eq_decide.2 (h2.symm.trans (by omega))
theorem says_left {t : Bool} {a b c d : Int} (h : a / b = c / d) : says t a b c d ↔ says t (a % b) b (c % d) d := by
  have := left_less h
  cases t with
  | false => exact this.1
  | true => exact this.2
theorem says_turn {t : Bool} {a b c d : Int} : says t a b c d ↔ says (!t) b a d c := by
  cases t with
  | false => exact turn_less.symm
  | true => exact turn_less.symm
theorem says_zero {t : Bool} {a b c d : Int} (hb : 0 < b) (hd : 0 < d) (ha : 0 ≤ a) (hc : 0 ≤ c) (h : a = 0 ∨ c = 0) : says t a b c d ↔ a ≠ c ∧ (decide (a = 0) != t) = true := by
  have h1 := zero_less hb hd ha hc h
  have h2 := zero_less hd hb hc ha h.symm
  cases t with
  | false =>
    simp only [says, Bool.bne_false, decide_eq_true_eq, Bool.false_eq_true, if_false]
    rw [h1]
    omega
  | true =>
    simp only [says, if_true, Bool.bne_true, Bool.not_eq_true', decide_eq_false_iff_not]
    rw [h2]
    omega
end AE.Box
