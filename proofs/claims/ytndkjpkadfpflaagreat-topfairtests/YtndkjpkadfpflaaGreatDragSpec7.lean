/- The stage's theorem, in plain words: the coefficient lies between its ends. -/
import Derived.Test.YtndkjpkadfpflaaGreatDragSpec3
import Derived.Test.YtndkjpkadfpflaaGreatJoin2
set_option linter.unusedVariables false
set_option linter.unusedSimpArgs false
set_option linter.unusedSectionVars false
namespace AE.Drag
open Go AE

theorem exists_min {P : Int → Prop} (b : Int) (hb : ∀ w, P w → b ≤ w) (hx : ∃ v, P v) : ∃ v, IsMin P v := by
  have key : ∀ n : Nat, ∀ v, P v → (v - b).toNat ≤ n → ∃ v, IsMin P v := by
    intro n
    induction n with
    | zero =>
      intro v hv hn
      refine ⟨v, hv, fun w hw => ?_⟩
      have := hb v hv; have := hb w hw; omega
    | succ n ih =>
      intro v hv hn
      by_cases h : ∃ w, P w ∧ w < v
      · obtain ⟨w, hw, hlt⟩ := h
        have := hb w hw
        exact ih w hw (by omega)
      · exact ⟨v, hv, fun w hw => by
          rcases Int.lt_or_le w v with hlt | hle
          · exact absurd ⟨w, hw, hlt⟩ h
          · exact hle⟩
  obtain ⟨v, hv⟩ := hx
  exact key _ v hv (Nat.le_refl _)
theorem exists_max {P : Int → Prop} (b : Int) (hb : ∀ w, P w → w ≤ b) (hx : ∃ v, P v) : ∃ v, IsMax P v := by
  obtain ⟨v, ⟨hv1, hv2⟩⟩ := exists_min (P := fun w => P (-w)) (-b) (fun w hw => by have := hb _ hw; omega) (by
    obtain ⟨v, hv⟩ := hx
    exact ⟨-v, by simpa using hv⟩)
  exact ⟨-v, hv1, fun w hw => by have := hv2 (-w) (by simpa using hw); omega⟩

theorem measured_mono {t : T} (k : t.Ok) {f g : Int} (h : f ≤ g) : measured t f ≤ measured t g := by
  have := k.prod.q3
  have : 20000000000 * f / (t.wet * t.speed * t.speed) ≤ 20000000000 * g / (t.wet * t.speed * t.speed) := Int.ediv_le_ediv (by omega) (by omega)
  unfold measured
  omega
theorem coefOf_mono {t : T} (k : t.Ok) {x y : X} {f g f' g' : Int} (hx : x.Bd) (hy : y.Bd) (h1 : x.force ≤ y.force) (h2 : y.block ≤ x.block) (h3 : x.form = y.form) (h4 : x.rough ≤ y.rough) (h5 : f' ≤ f) (h6 : g ≤ g') (hf : 0 ≤ f') (hg : 0 ≤ g) :
    coefOf t x f g ≤ coefOf t y f' g' := by
  have m := measured_mono k h1
  have m0 := (measured_bd k hx.f1).1
  have m1 := (measured_bd k hy.f1).1
  have b1 := hx.b2; have b2 := hy.b2; have b3 := hx.m1; have b4 := hy.m1
  have a1 : measured t x.force * (1000 - x.block) ≤ measured t y.force * (1000 - y.block) := Int.mul_le_mul m (by omega) (by omega) m1
  have a2 : (1000 + y.form) * f' ≤ (1000 + x.form) * f := by rw [h3]; exact Int.mul_le_mul_of_nonneg_left h5 (by omega)
  have a3 : (1000 + x.form) * g ≤ (1000 + y.form) * g' := by rw [h3]; exact Int.mul_le_mul_of_nonneg_left h6 (by omega)
  have e1 : measured t x.force * (1000 - x.block) / 1000 ≤ measured t y.force * (1000 - y.block) / 1000 := Int.ediv_le_ediv (by omega) a1
  have e2 : (1000 + y.form) * f' / 1000 ≤ (1000 + x.form) * f / 1000 := Int.ediv_le_ediv (by omega) a2
  have e3 : (1000 + x.form) * g / 1000 ≤ (1000 + y.form) * g' / 1000 := Int.ediv_le_ediv (by omega) a3
  unfold coefOf
  omega

/-- What is between the ends of a test, the form left out. -/
structure Among (t : T) (x : X) : Prop where
  f1 : t.fl ≤ x.force
  f2 : x.force ≤ t.fh
  t1 : t.tl ≤ x.tank
  t2 : x.tank ≤ t.th
  e1 : t.sl ≤ x.sea
  e2 : x.sea ≤ t.sh
  m1 : 0 ≤ x.form
  m2 : x.form ≤ 1000
  b1 : t.bl ≤ x.block
  b2 : x.block ≤ t.bh
  r1 : t.rl ≤ x.rough
  r2 : x.rough ≤ t.rh
theorem Among.bd {t : T} {x : X} (k : t.Ok) (h : Among t x) : x.Bd := by
  obtain ⟨s1, s2, l1, l2, w1, w2, a1, a2, f1, f2, f3, t1, t2, t3, e1, e2, e3, m1, m2, m3, b1, b2, b3, r1, r2, r3⟩ := k
  obtain ⟨x1, x2, x3, x4, x5, x6, x7, x8, x9, x10, x11, x12⟩ := h
  constructor <;> omega
theorem IsTrue.among {t : T} {x : X} (k : t.Ok) (h : IsTrue t x) : Among t x := by
  have := k.m1; have := k.m3
  exact ⟨h.f1, h.f2, h.t1, h.t2, h.e1, h.e2, by have := h.m1; omega, by have := h.m2; omega, h.b1, h.b2, h.r1, h.r2⟩
theorem among_low {t : T} (k : t.Ok) {m : Int} (h1 : 0 ≤ m) (h2 : m ≤ 1000) : Among t (lowX t m) := by
  obtain ⟨s1, s2, l1, l2, w1, w2, a1, a2, f1, f2, f3, t1, t2, t3, e1, e2, e3, m1, m2, m3, b1, b2, b3, r1, r2, r3⟩ := k
  constructor <;> simp only [lowX] <;> omega
theorem among_high {t : T} (k : t.Ok) {m : Int} (h1 : 0 ≤ m) (h2 : m ≤ 1000) : Among t (highX t m) := by
  obtain ⟨s1, s2, l1, l2, w1, w2, a1, a2, f1, f2, f3, t1, t2, t3, e1, e2, e3, m1, m2, m3, b1, b2, b3, r1, r2, r3⟩ := k
  constructor <;> simp only [highX] <;> omega
theorem Among.both {t : T} (k : t.Ok) {L : Line} (r : reckons t L) {x : X} (h : Among t x) : both t L x := both_of k r h.t1 h.t2 h.e1 h.e2

theorem modelRe_anti {t : T} (k : t.Ok) {a b : Int} (h0 : 0 < a) (h : a ≤ b) : modelRe t b ≤ modelRe t a := ediv_anti k.prod.p1 h0 h
theorem shipRe_anti {t : T} (k : t.Ok) {a b : Int} (h0 : 0 < a) (h : a ≤ b) : shipRe t b ≤ shipRe t a := ediv_anti k.prod.p7 h0 h

/-- More of what raises the coefficient, and less of what lowers it. -/
theorem coef_mono {t : T} (k : t.Ok) {L : Line} (v : Valid L) (r : reckons t L) {x y : X} (hx : Among t x) (hy : Among t y) (h1 : x.force ≤ y.force) (h2 : y.block ≤ x.block) (h3 : x.form = y.form) (h4 : x.rough ≤ y.rough) (h5 : y.tank ≤ x.tank) (h6 : x.sea ≤ y.sea) : coef t L x ≤ coef t L y := by
  obtain ⟨a1, a2⟩ := hx.both k r
  obtain ⟨b1, b2⟩ := hy.both k r
  have t1 := k.t1; have e1 := k.e1; have c1 := hy.t1; have c2 := hx.e1
  refine coefOf_mono k (hx.bd k) (hy.bd k) h1 h2 h3 h4 (fric_falls v a1 b1 (modelRe_anti k (by omega) h5)) (fric_falls v b2 a2 (shipRe_anti k (by omega) h6)) (fric_bd v b1).1 (fric_bd v a2).1
theorem coef_low {t : T} (k : t.Ok) {L : Line} (v : Valid L) (r : reckons t L) {x : X} (h : Among t x) : coef t L (lowX t x.form) ≤ coef t L x :=
  coef_mono k v r (among_low k h.m1 h.m2) h h.f1 h.b2 rfl h.r1 h.t2 h.e1
theorem coef_high {t : T} (k : t.Ok) {L : Line} (v : Valid L) (r : reckons t L) {x : X} (h : Among t x) : coef t L x ≤ coef t L (highX t x.form) :=
  coef_mono k v r h (among_high k h.m1 h.m2) h.f2 h.b1 rfl h.r2 h.t1 h.e2
theorem coef_bd {t : T} (k : t.Ok) {L : Line} (v : Valid L) (r : reckons t L) {x : X} (h : Among t x) : -200000 ≤ coef t L x ∧ coef t L x ≤ 1000202000 := by
  obtain ⟨a1, a2⟩ := h.both k r
  exact coefOf_bd k (h.bd k) (fric_bd v a1) (fric_bd v a2)

theorem isMin_low {t : T} {S : Lines} (F : Fine t S) : IsMin (LowC t S) (spanLo t S) := by
  have hm := F.tk.m2; have h1 := F.tk.m1; have h3 := F.tk.m3; have hl := F.sv.lo
  have hx : ∃ v, IsMin (LowC t S) v := exists_min (-200000) (by
    rintro w ⟨i, hi, m, h4, h5, rfl⟩
    exact (coef_bd F.tk (F.sv.v i hi) (F.r i hi) (among_low F.tk (by omega) (by omega))).1) ⟨_, 0, by omega, t.ml, Int.le_refl _, hm, rfl⟩
  obtain ⟨v, hv⟩ := hx
  unfold spanLo
  rw [theMin_eq hv]
  exact hv
theorem isMax_high {t : T} {S : Lines} (F : Fine t S) : IsMax (HighC t S) (spanHi t S) := by
  have hm := F.tk.m2; have h1 := F.tk.m1; have h3 := F.tk.m3; have hl := F.sv.lo
  have hx : ∃ v, IsMax (HighC t S) v := exists_max 1000202000 (by
    rintro w ⟨i, hi, m, h4, h5, rfl⟩
    exact (coef_bd F.tk (F.sv.v i hi) (F.r i hi) (among_high F.tk (by omega) (by omega))).2) ⟨_, 0, by omega, t.ml, Int.le_refl _, hm, rfl⟩
  obtain ⟨v, hv⟩ := hx
  unfold spanHi
  rw [theMax_eq hv]
  exact hv
/-- The stage's theorem. -/
theorem boxed {t : T} {S : Lines} (F : Fine t S) {i : Nat} (hi : i < S.k) {x : X} (hx : Among t x) (h1 : t.ml ≤ x.form) (h2 : x.form ≤ t.mh) : spanLo t S ≤ coef t (S.ln i) x ∧ coef t (S.ln i) x ≤ spanHi t S := by
  have a := (isMin_low F).2 _ ⟨i, hi, x.form, h1, h2, rfl⟩
  have b := (isMax_high F).2 _ ⟨i, hi, x.form, h1, h2, rfl⟩
  have c := coef_low F.tk (F.sv.v i hi) (F.r i hi) hx
  have d := coef_high F.tk (F.sv.v i hi) (F.r i hi) hx
  omega
theorem span_bd {t : T} {S : Lines} (F : Fine t S) : -200000 ≤ spanLo t S ∧ spanLo t S ≤ spanHi t S ∧ spanHi t S ≤ 1000202000 := by
  have h1 := F.tk.m1; have h3 := F.tk.m3
  obtain ⟨⟨i, hi, m, h4, h5, e⟩, -⟩ := isMin_low F
  obtain ⟨⟨j, hj, m', h4', h5', e'⟩, -⟩ := isMax_high F
  have a := coef_bd F.tk (F.sv.v i hi) (F.r i hi) (among_low F.tk (m := m) (by omega) (by omega))
  have b := coef_bd F.tk (F.sv.v j hj) (F.r j hj) (among_high F.tk (m := m') (by omega) (by omega))
  have c := boxed F hi (among_low F.tk (m := m) (by omega) (by omega)) h4 h5
  omega
end AE.Drag
