/- Walks and plain laws: SpanW, SpanX. -/
import Derived.Test.YtkkndecbijgolaaSpanV
set_option linter.unusedVariables false
set_option linter.unusedSimpArgs false
set_option linter.unusedSectionVars false

/- Walks of span's definitions: corners, plainly. -/
namespace AE.Try
open Go AE Go.Proofs AE.Sp
set_option maxRecDepth 100000
set_option linter.unusedVariables false

def sdAt (x : Run) (a : Nat) : Sd := if a = 0 then x.lower else x.upper
theorem sides_at (f : Nat → Run) (i : Nat) : sides f i = sdAt (f (i / 2)) (i % 2) := rfl
theorem tru_ext {s t : Tru} (h1 : s.a = t.a) (h2 : s.b = t.b) (h3 : s.d = t.d) : s = t := by cases s; cases t; dsimp only at h1 h2 h3; rw [h1, h2, h3]
theorem two {a : Nat} (h : a < 2) : a = 0 ∨ a = 1 := by omega
theorem vx_ref {x y : Run} {a b : Nat} (ha : a < 2) (hb : b < 2) (hc : 0 < cr (sdAt x a) (sdAt y b)) : vx (sdAt x a) (sdAt y b) = norm (meetR x y a b) := by
  rcases two ha with rfl | rfl <;> rcases two hb with rfl | rfl
  · have h : ¬ (meetR x y 0 0).d < 0 := by show ¬ crp x y < 0; unfold crp; unfold cr sdAt Run.lower at hc; simp only [if_pos] at hc; omega
    unfold norm; rw [if_neg h]
    refine tru_ext ?_ ?_ ?_ <;> simp [vx, meetR, Run.end', sdAt, Run.lower, crp, cr] <;> grind
  · have h : (meetR x y 0 1).d < 0 := by show crp x y < 0; unfold crp; simp [cr, sdAt, Run.lower, Run.upper, Int.mul_neg] at hc; omega
    unfold norm; rw [if_pos h]
    refine tru_ext ?_ ?_ ?_ <;> simp [vx, meetR, Run.end', sdAt, Run.lower, Run.upper, crp, cr] <;> grind
  · have h : (meetR x y 1 0).d < 0 := by show crp x y < 0; unfold crp; simp [cr, sdAt, Run.lower, Run.upper, Int.neg_mul] at hc; omega
    unfold norm; rw [if_pos h]
    refine tru_ext ?_ ?_ ?_ <;> simp [vx, meetR, Run.end', sdAt, Run.lower, Run.upper, crp, cr] <;> grind
  · have h : ¬ (meetR x y 1 1).d < 0 := by show ¬ crp x y < 0; unfold crp; simp [cr, sdAt, Run.lower, Run.upper, Int.neg_mul, Int.mul_neg] at hc; omega
    unfold norm; rw [if_neg h]
    refine tru_ext ?_ ?_ ?_ <;> simp [vx, meetR, Run.end', sdAt, Run.lower, Run.upper, crp, cr] <;> grind
theorem norm_swap {x y : Run} {a b : Nat} (hc : crp x y ≠ 0) : norm (meetR x y a b) = norm (meetR y x b a) := by
  have h : crp y x = -crp x y := by unfold crp; grind
  unfold norm meetR
  dsimp only
  rw [h]
  by_cases hn : crp x y < 0
  · rw [if_pos hn, if_neg (by omega)]
    refine tru_ext ?_ ?_ ?_ <;> dsimp only <;> omega
  · rw [if_neg hn, if_pos (by omega)]
    refine tru_ext ?_ ?_ ?_ <;> dsimp only <;> omega
theorem nr_ref {x : Run} {a : Nat} (ha : a < 2) : nr (sdAt x a) = nearR x a := by
  rcases two ha with rfl | rfl
  · rfl
  · refine tru_ext ?_ ?_ ?_ <;> simp [nr, nearR, Run.end', sdAt, Run.upper, dt] <;> grind
theorem cr_crp {x y : Run} {a b : Nat} (h : cr (sdAt x a) (sdAt y b) ≠ 0) : crp x y ≠ 0 := fun e => h (by
  unfold crp at e
  unfold sdAt
  split <;> split <;> simp [cr, Run.lower, Run.upper, Int.neg_mul, Int.mul_neg] <;> grind)
/-- A corner of the sides is one that is looked for. -/
theorem ref_of {L : Runs} {t : Tru} (h : (∃ i j, (i < 2 * L.n ∧ j < 2 * L.n) ∧ 0 < cr (sides L.f i) (sides L.f j) ∧ t = vx (sides L.f i) (sides L.f j)) ∨ ∃ i, i < 2 * L.n ∧ (∀ j, j < 2 * L.n → cr (sides L.f i) (sides L.f j) = 0) ∧ (∀ i j, i < L.n → j < i → crp (L.f i) (L.f j) = 0) ∧ t = nr (sides L.f i)) : RefC L t := by
  rcases h with ⟨i, j, ⟨hi, hj⟩, hc, rfl⟩ | ⟨i, hi, -, hp, rfl⟩
  · rw [sides_at, sides_at] at hc ⊢
    have nz := cr_crp (show cr (sdAt (L.f (i / 2)) (i % 2)) (sdAt (L.f (j / 2)) (j % 2)) ≠ 0 by omega)
    have ne : i / 2 ≠ j / 2 := fun e => by rw [e] at nz; exact nz (by unfold crp; rw [Int.mul_comm]; omega)
    rw [vx_ref (Nat.mod_lt _ (by decide)) (Nat.mod_lt _ (by decide)) hc]
    rcases Nat.lt_or_gt_of_ne ne with h | h
    · have nz' : crp (L.f (j / 2)) (L.f (i / 2)) ≠ 0 := fun e => nz (by unfold crp at e ⊢; grind)
      exact .inl ⟨j / 2, i / 2, j % 2, i % 2, by omega, h, Nat.mod_lt _ (by decide), Nat.mod_lt _ (by decide), nz', norm_swap nz⟩
    · exact .inl ⟨i / 2, j / 2, i % 2, j % 2, by omega, h, Nat.mod_lt _ (by decide), Nat.mod_lt _ (by decide), nz, rfl⟩
  · rw [sides_at]
    exact .inr (.inl ⟨hp, i / 2, i % 2, by omega, Nat.mod_lt _ (by decide), nr_ref (Nat.mod_lt _ (by decide))⟩)
end AE.Try

/- Walks of span's definitions: when are runs doubted. -/
namespace AE.Try
open Go AE Go.Proofs AE.Sp
set_option maxRecDepth 100000
set_option linter.unusedVariables false

/-- What a truth fits does not contradict itself. -/
theorem clean_fit {S : Nat → Sd} {n : Nat} (nz : ∀ i, i < n → (S i).Nz) {t : Tru} (hd : 0 < t.d) (hf : ∀ e, e < n → (S e).Fit t) : Clean S n := by
  refine ⟨nz, fun i j hi hj x y hx hy eu ev => ?_, fun i j k hi hj hk h1 h2 h3 => ?_⟩
  · have a := Int.mul_le_mul_of_nonneg_left (hf i hi) (show 0 ≤ x by omega)
    have b := Int.mul_le_mul_of_nonneg_left (hf j hj) (show 0 ≤ y by omega)
    have e : x * (S i).val t + y * (S j).val t = (x * (S i).u + y * (S j).u) * t.a + (x * (S i).v + y * (S j).v) * t.b := by unfold Sd.val; grind
    rw [eu, ev] at e
    have e2 : (x * (S i).w + y * (S j).w) * t.d = x * ((S i).w * t.d) + y * ((S j).w * t.d) := by grind
    refine np_of_mul hd ?_
    rw [Int.mul_comm, e2]
    omega
  · have a := Int.mul_le_mul_of_nonneg_left (hf i hi) (show 0 ≤ cr (S j) (S k) by omega)
    have b := Int.mul_le_mul_of_nonneg_left (hf j hj) (show 0 ≤ cr (S k) (S i) by omega)
    have c := Int.mul_le_mul_of_nonneg_left (hf k hk) (show 0 ≤ cr (S i) (S j) by omega)
    have e : cr (S j) (S k) * (S i).val t + cr (S k) (S i) * (S j).val t + cr (S i) (S j) * (S k).val t = 0 := by unfold Sd.val cr; grind
    have e2 : (cr (S j) (S k) * (S i).w + cr (S k) (S i) * (S j).w + cr (S i) (S j) * (S k).w) * t.d = cr (S j) (S k) * ((S i).w * t.d) + cr (S k) (S i) * ((S j).w * t.d) + cr (S i) (S j) * ((S k).w * t.d) := by
      rw [Int.add_mul, Int.add_mul]
      have x1 : cr (S j) (S k) * (S i).w * t.d = cr (S j) (S k) * ((S i).w * t.d) := by ac_rfl
      have x2 : cr (S k) (S i) * (S j).w * t.d = cr (S k) (S i) * ((S j).w * t.d) := by ac_rfl
      have x3 : cr (S i) (S j) * (S k).w * t.d = cr (S i) (S j) * ((S k).w * t.d) := by ac_rfl
      rw [x1, x2, x3]
    refine np_of_mul hd ?_
    rw [Int.mul_comm, e2]
    omega
theorem par_all {a b c : Sd} (ha : a.Nz) (h1 : cr a b = 0) (h2 : cr a c = 0) : cr b c = 0 := by
  unfold cr at h1 h2
  rcases ha with h | h
  · refine zero_of_mul h ?_
    unfold cr; grind
  · refine zero_of_mul h ?_
    unfold cr; grind
theorem corner_ref {L : Runs} (lv : L.Val) (c : L.Cl) {p q N D : Int} (hD : 0 < D) (h : (p = 0 ∧ q = 0 ∧ N = 0) ∨ Top (sides L.f) (2 * L.n) ⟨p, q, 0⟩ N D) :
    ∃ t, RefC L t ∧ (∀ i, i < L.n → (L.f i).Fit t) ∧ (p * t.a + q * t.b) * D = N * t.d ∧ 0 < t.d := by
  have nz := nz_sides lv
  have pr : ∀ i j, i < 2 * L.n → j < 2 * L.n → cr (sides L.f i) (sides L.f j) < 0 → ∃ k, k < 2 * L.n ∧ 0 < cr (sides L.f i) (sides L.f k) := fun i j hi hj hc => by
    rcases Nat.mod_two_eq_zero_or_one j with e | e
    · refine ⟨2 * (j / 2) + 1, by omega, ?_⟩
      have e2 : j = 2 * (j / 2) := by omega
      rw [e2, sides_lo] at hc
      rw [sides_up]
      unfold cr Run.lower at hc
      unfold cr Run.upper
      dsimp only at hc ⊢
      rw [Int.mul_neg, Int.mul_neg]
      omega
    · refine ⟨2 * (j / 2), by omega, ?_⟩
      have e2 : j = 2 * (j / 2) + 1 := by omega
      rw [e2, sides_up] at hc
      rw [sides_lo]
      unfold cr Run.upper at hc
      unfold cr Run.lower
      dsimp only at hc ⊢
      rw [Int.mul_neg, Int.mul_neg] at hc
      omega
  have cor : ∀ t, ((∃ i j, (i < 2 * L.n ∧ j < 2 * L.n) ∧ 0 < cr (sides L.f i) (sides L.f j) ∧ t = vx (sides L.f i) (sides L.f j)) ∨ ∃ i, i < 2 * L.n ∧ (∀ j, j < 2 * L.n → cr (sides L.f i) (sides L.f j) = 0) ∧ t = nr (sides L.f i)) → RefC L t := fun t h => by
    rcases h with h | ⟨i, h1, h2, h3⟩
    · exact ref_of (.inl h)
    · refine ref_of (.inr ⟨i, h1, h2, fun i' j' hi hj => ?_, h3⟩)
      have a := h2 (2 * i') (by omega)
      have b := h2 (2 * j') (by omega)
      have := par_all (nz i h1) a b
      rw [sides_lo, sides_lo] at this
      exact this
  rcases h with ⟨rfl, rfl, rfl⟩ | h
  · by_cases hn : L.n = 0
    · exact ⟨⟨0, 0, 1⟩, .inr (.inr ⟨hn, rfl⟩), fun e he => by omega, by simp, by decide⟩
    · have hW : (⟨(sides L.f 0).u, (sides L.f 0).v, 0⟩ : Sd).Nz := nz 0 (by omega)
      obtain ⟨h1, h2, h3⟩ := opp_to (a := sides L.f 0) (b := ⟨(sides L.f 0).u, (sides L.f 0).v, 0⟩) (x := 1) (y := 1) (by decide) (by decide) rfl rfl
      obtain ⟨g, N, D', hg, hc, hm⟩ := cand_max (W := ⟨(sides L.f 0).u, (sides L.f 0).v, 0⟩) nz ⟨[0], _, _, .inl ⟨0, by omega, rfl⟩, h1, h2, rfl, rfl⟩
      obtain ⟨t, h4, h5, -, h7⟩ := attained (top_of nz hW hg hc hm) c pr
      exact ⟨t, cor t h4, fit_sides.1 h5, by simp, h7⟩
  · obtain ⟨t, h4, h5, h6, h7⟩ := attained h c pr
    exact ⟨t, cor t h4, fit_sides.1 h5, h6, h7⟩

end AE.Try
