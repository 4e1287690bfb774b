/- Plain laws of span: proofs and what they bound. -/
import Derived.Test.YtkkndecbijgolaaSpanZd
set_option linter.unusedVariables false
set_option linter.unusedSimpArgs false
set_option linter.unusedSectionVars false
namespace AE.Try
open Go AE Go.Proofs AE.Sp
set_option maxRecDepth 100000
set_option linter.unusedVariables false

theorem sdOf_fit {L : Runs} {t : Tru} (hf : L.Fits t) {x : PS} (h : x.Good L.n) : (sdOf L x).Fit t := by
  have := hf x.r.toNat (by have := h.1; omega)
  obtain ⟨h1, h2⟩ := this
  unfold sdOf Sd.Fit Sd.val
  split
  · unfold Run.upper
    dsimp only
    rw [Int.neg_mul, Int.neg_mul, Int.neg_mul]
    omega
  · unfold Run.lower
    dsimp only
    exact h1
theorem add_fit {a b : Sd} {t : Tru} (ha : a.Fit t) (hb : b.Fit t) : (a.add b).Fit t := by
  unfold Sd.Fit Sd.val at *
  unfold Sd.add
  dsimp only
  rw [Int.add_mul, Int.add_mul, Int.add_mul]
  omega
theorem by_fit {a : Sd} {t : Tru} {n : Int} (ha : a.Fit t) (hn : 0 ≤ n) : (a.by n).Fit t := by
  have := Int.mul_le_mul_of_nonneg_right ha hn
  unfold Sd.Fit Sd.val at *
  unfold Sd.by
  dsimp only
  rw [Int.add_mul] at this
  have e1 : a.w * n * t.d = a.w * t.d * n := by ac_rfl
  have e2 : a.u * n * t.a = a.u * t.a * n := by ac_rfl
  have e3 : a.v * n * t.b = a.v * t.b * n := by ac_rfl
  omega
theorem sumOf_fit {L : Runs} {t : Tru} (hf : L.Fits t) {l : List PS} (hl : ∀ x ∈ l, x.Good L.n) : (sumOf L l).Fit t := by
  have key : ∀ (l : List PS) (acc : Sd), (∀ x ∈ l, x.Good L.n) → acc.Fit t → (l.foldl (fun acc x => acc.add ((sdOf L x).by x.t)) acc).Fit t := by
    intro l
    induction l with
    | nil => intro acc _ h; exact h
    | cons x l ih =>
      intro acc hl h
      rw [List.foldl_cons]
      have hx := hl x (by simp)
      exact ih _ (fun y hy => hl y (by simp [hy])) (add_fit h (by_fit (sdOf_fit hf hx) (by have := hx.2; omega)))
  exact key l _ hl (by unfold Sd.Fit Sd.val; simp)
theorem PSs.mem_good {P : PSs} {n : Nat} (g : P.Goods n) : ∀ x ∈ (List.range P.n).map P.f, x.Good n := fun x hx => by
  obtain ⟨i, hi, rfl⟩ := List.mem_map.1 hx
  exact g i (List.mem_range.1 hi)

/-- A right proof. -/
structure Right (L : Runs) (p q : Int) (P : PSs) (tm : Int) : Prop where
  e : L.err2 p q = 0
  n : P.n ≤ 24
  g : P.Goods L.n
  t : 1 ≤ tm ∧ tm ≤ 1099511627776
  u : (P.sum L).u = tm * p
  v : (P.sum L).v = tm * q
theorem Runs.cerr_0 {L : Runs} {p q tm : Int} {P : PSs} : L.cerr p q P tm = 0 ↔ Right L p q P tm := by
  unfold Runs.cerr
  constructor
  · intro h
    split at h
    · contradiction
    split at h
    · exact absurd h (by decide)
    split at h
    · exact absurd h (by decide)
    split at h
    · exact absurd h (by decide)
    rename_i h1 h2 h3 h4
    have h3 := Classical.not_not.1 h3
    have h4 := Classical.not_not.1 h4
    exact ⟨by omega, by omega, h3.1, h3.2, h4.1, h4.2⟩
  · rintro ⟨h1, h2, h3, h4, h5, h6⟩
    rw [if_neg (by omega), if_neg (by omega), if_neg (fun k => k ⟨h3, h4⟩), if_neg (fun k => k ⟨h5, h6⟩)]
theorem Right.val {L : Runs} {p q tm : Int} {P : PSs} (k : Right L p q P tm) : L.cval p q P tm = fr (P.sum L).w tm := by
  unfold Runs.cval
  rw [if_pos (Runs.cerr_0.2 k)]
theorem part_up {L : Runs} {P : PSs} (lv : L.Val) (g : P.Goods L.n) : ∀ s : Nat, s ≤ P.n → (P.part L s).Up (20000000 * s) (100000000000 * s)
  | 0, _ => ⟨by show _ ≤ (0 : Int) ∧ (0 : Int) ≤ _; omega, by show _ ≤ (0 : Int) ∧ (0 : Int) ≤ _; omega, by show _ ≤ (0 : Int) ∧ (0 : Int) ≤ _; omega⟩
  | s + 1, h => by
    obtain ⟨u1, u2, u3⟩ := part_up lv g s (by omega)
    obtain ⟨w1, w2, w3⟩ := by_upI (sdOf_up lv (g s (by omega))) (g s (by omega)).2
    rw [P.part_succ L s]
    exact ⟨by unfold Sd.add; dsimp only; omega, by unfold Sd.add; dsimp only; omega, by unfold Sd.add; dsimp only; omega⟩
theorem Right.rng {L : Runs} {p q tm : Int} {P : PSs} (k : Right L p q P tm) : -2400000000000 ≤ (P.sum L).w ∧ (P.sum L).w ≤ 2400000000000 := by
  obtain ⟨e1, fac⟩ := Runs.err2_0 k.e
  obtain ⟨ln, lv⟩ := L.err_0 e1
  have := (part_up lv k.g P.n (Nat.le_refl _)).w
  have e : P.part L P.n = P.sum L := rfl
  rw [e] at this
  have := k.n
  omega
theorem Right.LB {L : Runs} {p q tm : Int} {P : PSs} (k : Right L p q P tm) : LB (L.cval p q P tm) := by
  rw [k.val]
  have := k.rng
  have := k.t
  exact fr_LB (by omega) (by omega)
/-- No truth that fits has less. -/
theorem Right.le {L : Runs} {p q tm : Int} {P : PSs} (k : Right L p q P tm) {t : Tru} (hf : L.Fits t) : (P.sum L).w * t.d ≤ (p * t.a + q * t.b) * tm := by
  have := sumOf_fit hf (PSs.mem_good k.g)
  have e : sumOf L ((List.range P.n).map P.f) = P.sum L := rfl
  rw [e] at this
  unfold Sd.Fit Sd.val at this
  rw [k.u, k.v] at this
  rw [Int.add_mul]
  have e1 : p * t.a * tm = tm * p * t.a := by ac_rfl
  have e2 : q * t.b * tm = tm * q * t.b := by ac_rfl
  omega
theorem Right.lst {L : Runs} {p q tm N D : Int} {P : PSs} (k : Right L p q P tm) (l : Lst L p q N D) : (P.sum L).w * D ≤ N * tm := by
  obtain ⟨t, h1, h2, h3⟩ := l.at'
  have h4 := k.le h1
  refine le_of_mul h3 ?_
  have m := Int.mul_le_mul_of_nonneg_right h4 (show 0 ≤ D by have := l.d; omega)
  have e1 : (P.sum L).w * D * t.d = (P.sum L).w * t.d * D := by ac_rfl
  have e2 : (p * t.a + q * t.b) * tm * D = (p * t.a + q * t.b) * D * tm := by ac_rfl
  have e3 : N * tm * t.d = N * t.d * tm := by ac_rfl
  rw [e1, e3, ← h2]
  rw [e2] at m
  exact m
theorem crp_all {L : Runs} (h : ∀ i j, i < L.n → j < i → crp (L.f i) (L.f j) = 0) {i j : Nat} (hi : i < L.n) (hj : j < L.n) : crp (L.f i) (L.f j) = 0 := by
  rcases Nat.lt_trichotomy i j with e | e | e
  · have := h j i hj e
    rw [crp_swap] at this
    omega
  · subst e; unfold crp; rw [Int.mul_comm]; omega
  · exact h i j hi e
/-- What is not bounded has no proof. -/
theorem Right.bnd {L : Runs} {p q tm : Int} {P : PSs} (k : Right L p q P tm) : BndR L p q := by
  refine Classical.byContradiction fun nb => ?_
  have n1 : ¬ (p = 0 ∧ q = 0) := fun h => nb (.inl h)
  have n2 : ∀ i j, i < L.n → j < i → crp (L.f i) (L.f j) = 0 := fun i j hi hj => Classical.byContradiction fun h => nb (.inr (.inl ⟨i, j, hi, hj, h⟩))
  have ht := k.t
  have zero : ∀ z : Int, tm * z = 0 → z = 0 := fun z h => zero_of_mul (a := tm) (by omega) h
  rcases Nat.eq_zero_or_pos P.n with h0 | h0
  · have e : P.sum L = ⟨0, 0, 0⟩ := by unfold PSs.sum; rw [h0]; rfl
    have u := k.u
    have v := k.v
    rw [e] at u v
    exact n1 ⟨zero p u.symm, zero q v.symm⟩
  · obtain ⟨⟨r1, r2⟩, -⟩ := k.g 0 h0
    have hr : (P.f 0).r.toNat < L.n := by omega
    generalize (P.f 0).r.toNat = r0 at hr
    have par : ∀ s, s ≤ P.n → cr (P.part L s) (L.f r0).lower = 0 := fun s => by
      induction s with
      | zero => intro _; show (0 : Int) * _ - 0 * _ = 0; simp
      | succ s ih =>
        intro hs
        have i1 := ih (by omega)
        obtain ⟨⟨s1, s2⟩, -⟩ := k.g s (by omega)
        have c0 := crp_all n2 (i := (P.f s).r.toNat) (j := r0) (by omega) hr
        have c1 : cr (sdOf L (P.f s)) (L.f r0).lower = 0 := by
          unfold sdOf
          split
          · rw [cr_upL]
            have : cr (L.f (P.f s).r.toNat).lower (L.f r0).lower = 0 := c0
            omega
          · exact c0
        rw [P.part_succ L s]
        unfold cr at i1 c1 ⊢
        unfold Sd.add Sd.by
        dsimp only
        have e1 : (sdOf L (P.f s)).u * (P.f s).t * (L.f r0).lower.v - (sdOf L (P.f s)).v * (P.f s).t * (L.f r0).lower.u = ((sdOf L (P.f s)).u * (L.f r0).lower.v - (sdOf L (P.f s)).v * (L.f r0).lower.u) * (P.f s).t := by
          rw [Int.sub_mul]; congr 1 <;> ac_rfl
        rw [c1, Int.zero_mul] at e1
        rw [Int.add_mul, Int.add_mul]
        omega
    have c := par P.n (Nat.le_refl _)
    have e : P.part L P.n = P.sum L := rfl
    rw [e] at c
    unfold cr at c
    rw [k.u, k.v] at c
    refine nb (.inr (.inr ⟨r0, hr, ?_⟩))
    have c : tm * p * (L.f r0).q - tm * q * (L.f r0).p = 0 := c
    have c2 : tm * (p * (L.f r0).q - q * (L.f r0).p) = 0 := by
      rw [Int.mul_sub]
      have x1 : tm * (p * (L.f r0).q) = tm * p * (L.f r0).q := by ac_rfl
      have x2 : tm * (q * (L.f r0).p) = tm * q * (L.f r0).p := by ac_rfl
      omega
    have c3 := zero _ c2
    rw [Int.mul_comm (L.f r0).p, Int.mul_comm (L.f r0).q]
    omega
/-- A proof that was returned is right. -/
theorem right_of {L : Runs} {p q tm : Int} {P : PSs} {W : Sd} (e : L.err2 p q = 0) (k : PrOk L P W) (hu : W.u = tm * p) (hv : W.v = tm * q) (ht : 1 ≤ tm ∧ tm ≤ 800) : Right L p q P tm ∧ (P.sum L).w = W.w := by
  have es : P.sum L = W := k.s
  refine ⟨⟨e, by have := k.n; omega, fun i hi => ?_, by omega, by rw [es]; exact hu, by rw [es]; exact hv⟩, by rw [es]⟩
  obtain ⟨h1, h2⟩ := k.m i hi
  exact ⟨h1, by omega⟩
end AE.Try
