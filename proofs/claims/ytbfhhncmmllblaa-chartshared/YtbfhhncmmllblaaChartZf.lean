/- By how much a point pulls more than another one, in a true chart. Plain laws. -/
import Derived.Test.YtbfhhncmmllblaaChartZe
import Derived.Test.YtbfhhncmmllblaaChartRg
set_option linter.unusedVariables false
set_option linter.unusedSimpArgs false
set_option linter.unusedSectionVars false
namespace AE.Try
open Go AE Go.Proofs
set_option maxRecDepth 100000
set_option linter.unusedVariables false

theorem less_fr {a b : Fr} {n d n' d' : Int} (k : FrOf a n d) (k' : FrOf b n' d') : fr (a.n * b.d - b.n * a.d) (a.d * b.d) = fr (n * d' - n' * d) (d * d') := by
  obtain ⟨h, g, hg, rfl, rfl⟩ := k
  obtain ⟨h', g', hg', rfl, rfl⟩ := k'
  have e1 : a.n * g * (b.d * g') - b.n * g' * (a.d * g) = (a.n * b.d - b.n * a.d) * (g * g') := by
    rw [Int.sub_mul]
    have x1 : a.n * g * (b.d * g') = a.n * b.d * (g * g') := by ac_rfl
    have x2 : b.n * g' * (a.d * g) = b.n * a.d * (g * g') := by ac_rfl
    omega
  have e2 : a.d * g * (b.d * g') = a.d * b.d * (g * g') := by ac_rfl
  rw [e1, e2, fr_scale (Int.mul_pos h h') (Int.mul_pos hg hg')]

/-- The difference of two sums, over one number. -/
def Tbl.dif (T : Tbl) (p q : Pt) (f g : Nat → Nat → Int) : Int := T.vsum p f * T.whole q - T.vsum q g * T.whole p
theorem dif_gs {T : Tbl} {p q : Pt} (ar : Around T p) (ar' : Around T q) (f g : Nat → Nat → Int) : T.dif p q f g = gs (fun i k => T.wm p i k * T.whole q * f i k - T.wm q i k * T.whole p * g i k) T.P.n T.A.n := by
  unfold Tbl.dif
  rw [← wm_sum ar, ← wm_sum ar', ← gs_mul, ← gs_mul]
  have : ∀ a b : Nat → Nat → Int, gs a T.P.n T.A.n - gs b T.P.n T.A.n = gs (fun i k => a i k - b i k) T.P.n T.A.n := fun a b => by
    have e := gs_add a (fun i k => -b i k) T.P.n T.A.n
    rw [gs_neg] at e
    have e' : gs (fun i k => a i k - b i k) T.P.n T.A.n = gs (fun i k => a i k + -b i k) T.P.n T.A.n := gs_congr fun i k _ _ => by omega
    omega
  rw [this]
  refine gs_congr fun i k _ _ => ?_
  have x1 : T.wm p i k * f i k * T.whole q = T.wm p i k * T.whole q * f i k := by ac_rfl
  have x2 : T.wm q i k * g i k * T.whole p = T.wm q i k * T.whole p * g i k := by ac_rfl
  omega
theorem dif_more {T : Tbl} {p q : Pt} (ar : Around T p) (ar' : Around T q) (f : Nat → Nat → Int) : T.dif p q f f = gs (fun i k => T.more p q i k * f i k) T.P.n T.A.n := by
  rw [dif_gs ar ar']
  refine gs_congr fun i k _ _ => ?_
  rw [T.more_eq, Int.sub_mul]

theorem ft_hi {T : Tbl} {p q : Pt} {i k : Nat} {f : Int} (h1 : T.lo i k ≤ f) (h2 : f ≤ T.hi i k) : T.more p q i k * f ≤ T.ft p q Bool.true i k ∧ T.ft p q Bool.false i k ≤ T.more p q i k * f := by
  unfold Tbl.ft Tbl.endv
  generalize T.more p q i k = w
  by_cases hw : 0 < w
  · rw [decide_eq_true hw, if_pos rfl, if_neg (by decide)]
    exact ⟨Int.mul_le_mul_of_nonneg_left h2 (by omega), Int.mul_le_mul_of_nonneg_left h1 (by omega)⟩
  · rw [decide_eq_false hw, if_neg (by decide), if_pos rfl]
    exact ⟨Int.mul_le_mul_of_nonpos_left (by omega) h1, Int.mul_le_mul_of_nonpos_left (by omega) h2⟩
theorem ft_span {T : Tbl} {p q : Pt} (ar : Around T p) (ar' : Around T q) {i k : Nat} (h : T.lo i k ≤ T.hi i k) :
    T.ft p q Bool.true i k ≤ T.wm p i k * T.whole q * T.hi i k - T.wm q i k * T.whole p * T.lo i k ∧ T.wm p i k * T.whole q * T.lo i k - T.wm q i k * T.whole p * T.hi i k ≤ T.ft p q Bool.false i k := by
  have ha := Int.mul_nonneg (wm_nn ar i k) (show 0 ≤ T.whole q by have := ar'.whole; omega)
  have hb := Int.mul_nonneg (wm_nn ar' i k) (show 0 ≤ T.whole p by have := ar.whole; omega)
  unfold Tbl.ft Tbl.endv
  rw [T.more_eq]
  generalize T.wm p i k * T.whole q = a at *
  generalize T.wm q i k * T.whole p = b at *
  have hx := Int.mul_le_mul_of_nonneg_left h ha
  have hy := Int.mul_le_mul_of_nonneg_left h hb
  by_cases hw : 0 < a - b
  · rw [decide_eq_true hw, if_pos rfl, if_neg (by decide), Int.sub_mul, Int.sub_mul]
    omega
  · rw [decide_eq_false hw, if_neg (by decide), if_pos rfl, Int.sub_mul, Int.sub_mul]
    omega
theorem ft_ev {T : Tbl} {p q : Pt} (high : Bool) (i k : Nat) : T.more p q i k * T.ev p q high i k = T.ft p q high i k := by
  unfold Tbl.ft Tbl.ev
  split
  · rename_i h0; rw [h0]; simp
  · rfl

section
variable {T : Tbl} {p q : Pt}
/-- The difference of two pulls, as a fraction. -/
theorem less_val (ar : Around T p) (ar' : Around T q) (f g : Nat → Nat → Int) : fr ((T.val p f).n * (T.val q g).d - (T.val q g).n * (T.val p f).d) ((T.val p f).d * (T.val q g).d) = fr (T.dif p q f g) (T.whole p * T.whole q) :=
  less_fr (val_of ar f) (val_of ar' g)
theorem whole2_pos (ar : Around T p) (ar' : Around T q) : 0 < T.whole p * T.whole q ∧ T.whole p * T.whole q ≤ 16000000000000 := by
  have h1 := ar.whole
  have h2 := ar'.whole
  have := mul4 (a := T.whole p) (A := 4000000) (b := T.whole q) (B := 4000000) (by omega) h1.2 (by omega) h2.2
  exact ⟨Int.mul_pos h1.1 h2.1, by omega⟩
/-- Fractions over one number, none of which is great, can be compared. -/
theorem cf_of {x y d : Int} (hd : 0 < d ∧ d ≤ 70368744177664) (h : x ≤ y) (hx : -4611686018427387904 ≤ x ∧ x ≤ 4611686018427387904) (hy : -4611686018427387904 ≤ y ∧ y ≤ 4611686018427387904) : CF 0 (fr x d) (fr y d) := by
  have k := fr_of (n := x) hd.1
  have k' := fr_of (n := y) hd.1
  have hl := k.le (n' := y) (d' := d) k' (Int.mul_le_mul_of_nonneg_right h (by omega))
  have l1 := k.le_d
  have l2 := k'.le_d
  have bnd : ∀ {z : Fr} {n d : Int}, FrOf z n d → -4611686018427387904 ≤ n → n ≤ 4611686018427387904 → -4611686018427387904 ≤ z.n ∧ z.n ≤ 4611686018427387904 := by
    rintro z n d ⟨_, g, hg, rfl, rfl⟩ b1 b2
    rcases Int.le_total 0 z.n with h | h
    · have := Int.mul_le_mul_of_nonneg_left (show 1 ≤ g by omega) h
      omega
    · have := Int.mul_le_mul_of_nonneg_left (show 1 ≤ g by omega) (show 0 ≤ -z.n by omega)
      rw [Int.neg_mul, Int.neg_mul] at this
      omega
  exact CF.first ⟨by have := k.d0; omega, by omega⟩ ⟨by have := k'.d0; omega, by omega⟩ (bnd k hx.1 hx.2) (bnd k' hy.1 hy.2) hl
theorem dif_rng (ar : Around T p) (ar' : Around T q) {f g : Nat → Nat → Int} (hf : ∀ i k, i < T.P.n → k < T.A.n → 0 ≤ f i k ∧ f i k ≤ 100000) (hg : ∀ i k, i < T.P.n → k < T.A.n → 0 ≤ g i k ∧ g i k ≤ 100000) : -4611686018427387904 ≤ T.dif p q f g ∧ T.dif p q f g ≤ 4611686018427387904 := by
  have h1 := vsum_rng ar hf
  have h2 := vsum_rng ar' hg
  have w1 := ar.whole
  have w2 := ar'.whole
  have m1 := mul4 (a := T.vsum p f) (A := 400000000000) (b := T.whole q) (B := 4000000) h1.1 (by omega) (by omega) w2.2
  have m2 := mul4 (a := T.vsum q g) (A := 400000000000) (b := T.whole p) (B := 4000000) h2.1 (by omega) (by omega) w1.2
  unfold Tbl.dif
  omega
theorem far_eq (high : Bool) (ar : Around T p) (ar' : Around T q) : T.far p q high = fr (T.dif p q (T.ev p q high) (T.ev p q high)) (T.whole p * T.whole q) := by
  unfold Tbl.far
  rw [dif_more ar ar', gs_congr fun i k _ _ => ft_ev high i k]
theorem dif_lo (g : T.Good) (ar : Around T p) (ar' : Around T q) {f : Nat → Nat → Int} (hf : ∀ i k, i < T.P.n → k < T.A.n → T.lo i k ≤ f i k ∧ f i k ≤ T.hi i k) : T.dif p q (T.ev p q Bool.false) (T.ev p q Bool.false) ≤ T.dif p q f f := by
  rw [dif_more ar ar', dif_more ar ar', gs_congr fun i k _ _ => ft_ev Bool.false i k]
  exact gs_le fun i k hi hk => (ft_hi (hf i k hi hk).1 (hf i k hi hk).2).2
theorem dif_hi (g : T.Good) (ar : Around T p) (ar' : Around T q) {f : Nat → Nat → Int} (hf : ∀ i k, i < T.P.n → k < T.A.n → T.lo i k ≤ f i k ∧ f i k ≤ T.hi i k) : T.dif p q f f ≤ T.dif p q (T.ev p q Bool.true) (T.ev p q Bool.true) := by
  rw [dif_more ar ar', dif_more ar ar', gs_congr fun i k _ _ => ft_ev Bool.true i k]
  exact gs_le fun i k hi hk => (ft_hi (hf i k hi hk).1 (hf i k hi hk).2).1
theorem dif_slo (g : T.Good) (ar : Around T p) (ar' : Around T q) : T.dif p q T.lo T.hi ≤ T.dif p q (T.ev p q Bool.false) (T.ev p q Bool.false) := by
  rw [dif_more ar ar', gs_congr fun i k _ _ => ft_ev Bool.false i k, dif_gs ar ar']
  exact gs_le fun i k hi hk => (ft_span ar ar' (by have := g.bd i k hi hk; unfold Tbl.Bd at this; omega)).2
theorem dif_shi (g : T.Good) (ar : Around T p) (ar' : Around T q) : T.dif p q (T.ev p q Bool.true) (T.ev p q Bool.true) ≤ T.dif p q T.hi T.lo := by
  rw [dif_more ar ar', gs_congr fun i k _ _ => ft_ev Bool.true i k, dif_gs ar ar']
  exact gs_le fun i k hi hk => (ft_span ar ar' (by have := g.bd i k hi hk; unfold Tbl.Bd at this; omega)).1
theorem far_self (high : Bool) (ar : Around T p) : T.far p p high = ⟨0, 1⟩ := by
  have hd := whole2_pos ar ar
  have e : gs (T.ft p p high) T.P.n T.A.n = 0 := by
    rw [gs_congr (g := fun _ _ => 0) fun i k _ _ => ?_, gs_zero]
    unfold Tbl.ft
    rw [T.more_eq, Int.sub_self, Int.zero_mul]
  unfold Tbl.far
  rw [e, fr_eq (n' := 0) (d' := 1) hd.1 (by decide) (by simp)]
  rfl
end
end AE.Try
