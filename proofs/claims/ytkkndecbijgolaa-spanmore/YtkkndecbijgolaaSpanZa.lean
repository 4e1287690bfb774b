/- Plain laws of span: what is bounded; the least value is that of a corner. -/
import Derived.Test.YtkkndecbijgolaaSpanY
set_option linter.unusedVariables false
set_option linter.unusedSimpArgs false
set_option linter.unusedSectionVars false
namespace AE.Try
open Go AE Go.Proofs AE.Sp
set_option maxRecDepth 100000
set_option linter.unusedVariables false

/-! ### bounded -/

theorem crp_swap (x y : Run) : crp y x = -crp x y := by
  unfold crp
  rw [Int.mul_comm y.p, Int.mul_comm y.q]
  omega
theorem cr_upL (x : Run) (b : Sd) : cr x.upper b = -cr x.lower b := by
  unfold cr Run.upper Run.lower
  dsimp only
  rw [Int.neg_mul, Int.neg_mul]
  omega
theorem cr_upR (a : Sd) (x : Run) : cr a x.upper = -cr a x.lower := by
  unfold cr Run.upper Run.lower
  dsimp only
  rw [Int.mul_neg, Int.mul_neg]
  omega
/-- One of four pairs of sides is a candidate. -/
theorem cand_two {L : Runs} {W : Sd} {i j : Nat} (hi : i < L.n) (hj : j < i) (hc : cr (L.f j).lower (L.f i).lower ≠ 0) : ∃ g N D, Grp (2 * L.n) 2 g ∧ CandOf (sides L.f) W g N D := by
  have l1 := sides_lo L.f i
  have l2 := sides_lo L.f j
  have u1 := sides_up L.f i
  have u2 := sides_up L.f j
  have pick : ∀ s t : Nat, s < 2 → t < 2 → ((0 < cr (sides L.f (2 * j + s)) (sides L.f (2 * i + t)) ∧ 0 ≤ cr W (sides L.f (2 * i + t)) ∧ 0 ≤ cr (sides L.f (2 * j + s)) W) ∨ (cr (sides L.f (2 * j + s)) (sides L.f (2 * i + t)) < 0 ∧ cr W (sides L.f (2 * i + t)) ≤ 0 ∧ cr (sides L.f (2 * j + s)) W ≤ 0)) → ∃ g N D, Grp (2 * L.n) 2 g ∧ CandOf (sides L.f) W g N D := fun s t hs ht h => by
    refine ⟨[2 * j + s, 2 * i + t], ?_⟩
    have gr : Grp (2 * L.n) 2 [2 * j + s, 2 * i + t] := .inr (.inl ⟨_, _, by omega, by omega, rfl⟩)
    rcases h with ⟨h1, h2, h3⟩ | ⟨h1, h2, h3⟩
    · exact ⟨_, _, gr, .inl ⟨h1, h2, h3, rfl, rfl⟩⟩
    · exact ⟨_, _, gr, .inr ⟨h1, h2, h3, rfl, rfl⟩⟩
  have p00 := pick 0 0 (by decide) (by decide)
  have p01 := pick 0 1 (by decide) (by decide)
  have p10 := pick 1 0 (by decide) (by decide)
  have p11 := pick 1 1 (by decide) (by decide)
  simp only [Nat.add_zero] at p00 p01 p10 p11
  rw [l1, l2] at p00
  rw [u1, l2] at p01
  rw [l1, u2] at p10
  rw [u1, u2] at p11
  simp only [cr_upL, cr_upR] at p01 p10 p11
  clear pick
  generalize cr (L.f j).lower (L.f i).lower = c at *
  generalize cr W (L.f i).lower = x at *
  generalize cr (L.f j).lower W = y at *
  rcases Int.lt_or_gt_of_ne hc with h | h
  · rcases Int.le_total x 0 with hx | hx
    · rcases Int.le_total y 0 with hy | hy
      · exact p00 (.inr ⟨h, hx, hy⟩)
      · exact p01 (.inl ⟨by omega, by omega, by omega⟩)
    · rcases Int.le_total y 0 with hy | hy
      · exact p10 (.inl ⟨by omega, by omega, by omega⟩)
      · exact p11 (.inr ⟨by omega, by omega, by omega⟩)
  · rcases Int.le_total x 0 with hx | hx
    · rcases Int.le_total y 0 with hy | hy
      · exact p11 (.inl ⟨by omega, by omega, by omega⟩)
      · exact p10 (.inr ⟨by omega, by omega, by omega⟩)
    · rcases Int.le_total y 0 with hy | hy
      · exact p01 (.inr ⟨by omega, by omega, by omega⟩)
      · exact p00 (.inl ⟨h, hx, hy⟩)
theorem bnd_iff {L : Runs} (lv : L.Val) {p q : Int} : BndR L p q ↔ L.Bnd p q := by
  constructor
  · rintro (⟨rfl, rfl⟩ | ⟨i, j, hi, hj, hc⟩ | ⟨i, hi, he⟩)
    · exact .inl ⟨rfl, rfl⟩
    · refine .inr (cand_two hi hj fun e => hc ?_)
      rw [crp_swap]
      have : crp (L.f j) (L.f i) = 0 := e
      omega
    · by_cases hz : p = 0 ∧ q = 0
      · exact .inl hz
      refine .inr ?_
      have nz := (lv i hi).nz
      have e1 : (L.f i).p * (L.f i).p * q = (L.f i).q * (L.f i).p * p := by
        have := congrArg ((L.f i).p * ·) he
        have e2 : (L.f i).p * ((L.f i).p * q) = (L.f i).p * (L.f i).p * q := by ac_rfl
        have e3 : (L.f i).p * ((L.f i).q * p) = (L.f i).q * (L.f i).p * p := by ac_rfl
        omega
      have hd : 0 < (L.f i).p * (L.f i).p + (L.f i).q * (L.f i).q := dt_pos (s := (L.f i).lower) nz
      generalize hpp : (L.f i).p = a at *
      generalize hqq : (L.f i).q = b at *
      have hk : a * p + b * q ≠ 0 := fun hk => by
        refine hz ⟨?_, ?_⟩
        · have : (a * a + b * b) * p = 0 := by
            have x1 : (a * a + b * b) * p = a * (a * p + b * q) - b * (a * q - b * p) := by grind
            rw [x1, hk, he]; simp
          exact zero_of_mul (by omega) this
        · have : (a * a + b * b) * q = 0 := by
            have x1 : (a * a + b * b) * q = b * (a * p + b * q) + a * (a * q - b * p) := by grind
            rw [x1, hk, he]; simp
          exact zero_of_mul (by omega) this
      have m1 : (a * p + b * q) * a = (a * a + b * b) * p := by grind
      have m2 : (a * p + b * q) * b = (a * a + b * b) * q := by grind
      rcases Int.lt_or_gt_of_ne hk with h | h
      · obtain ⟨o1, o2, -⟩ := opp_to (a := (L.f i).upper) (b := ⟨p, q, 0⟩) (x := -(a * p + b * q)) (y := a * a + b * b) (by omega) hd (by unfold Run.upper; dsimp only; rw [hpp, Int.neg_mul_neg]; exact m1) (by unfold Run.upper; dsimp only; rw [hqq, Int.neg_mul_neg]; exact m2)
        exact ⟨[2 * i + 1], _, _, .inl ⟨2 * i + 1, by omega, rfl⟩, by unfold CandOf; dsimp only; rw [sides_up]; exact ⟨o1, o2, rfl, rfl⟩⟩
      · obtain ⟨o1, o2, -⟩ := opp_to (a := (L.f i).lower) (b := ⟨p, q, 0⟩) (x := a * p + b * q) (y := a * a + b * b) (by omega) hd (by unfold Run.lower; dsimp only; rw [hpp]; exact m1) (by unfold Run.lower; dsimp only; rw [hqq]; exact m2)
        exact ⟨[2 * i], _, _, .inl ⟨2 * i, by omega, rfl⟩, by unfold CandOf; dsimp only; rw [sides_lo]; exact ⟨o1, o2, rfl, rfl⟩⟩
  · rintro (hz | ⟨g, N, D, hg, hc⟩)
    · exact .inl hz
    · rcases hg with ⟨a, ha, rfl⟩ | ⟨a, b, hab, hb, rfl⟩ | ⟨h, -⟩
      · obtain ⟨h1, -⟩ := hc
        refine .inr (.inr ⟨a / 2, by omega, ?_⟩)
        rw [sides_at] at h1
        rcases two (Nat.mod_lt a (show 0 < 2 by decide)) with e | e
        · rw [e] at h1
          have h1 : (L.f (a / 2)).p * q - (L.f (a / 2)).q * p = 0 := h1
          omega
        · rw [e] at h1
          have h1 : -(L.f (a / 2)).p * q - -(L.f (a / 2)).q * p = 0 := h1
          rw [Int.neg_mul, Int.neg_mul] at h1
          omega
      · have h1 : cr (sides L.f a) (sides L.f b) ≠ 0 := by
          rcases hc with ⟨h1, -⟩ | ⟨h1, -⟩ <;> omega
        rw [sides_at, sides_at] at h1
        have h2 := cr_crp h1
        have h3 : a / 2 ≠ b / 2 := fun e => h2 (by rw [e]; unfold crp; rw [Int.mul_comm]; omega)
        refine .inr (.inl ⟨b / 2, a / 2, by omega, by omega, ?_⟩)
        rw [crp_swap]
        omega
      · exact absurd h (by decide)
theorem bnd_neg {L : Runs} {p q : Int} (h : BndR L p q) : BndR L (-p) (-q) := by
  rcases h with ⟨rfl, rfl⟩ | h | ⟨i, hi, he⟩
  · exact .inl ⟨rfl, rfl⟩
  · exact .inr (.inl h)
  · exact .inr (.inr ⟨i, hi, by rw [Int.mul_neg, Int.mul_neg, he]⟩)

/-! ### the least value -/

theorem _root_.AE.Sp.Top.le {S : Nat → Sd} {n : Nat} {W : Sd} {N D : Int} (t : Top S n W N D) {T : Tru} (hf : ∀ e, e < n → (S e).Fit T) : N * T.d ≤ W.val T * D := by
  have hD := t.dp
  rcases t.hit with ⟨i, x, k, hi, hx, hk, eu, ev, hit⟩ | ⟨i, j, ⟨hi, hj⟩, hc, h1, h2, hit⟩
  · have h := Int.mul_le_mul_of_nonneg_left (hf i hi) (show 0 ≤ x by omega)
    have e : x * (S i).val T = k * W.val T := by unfold Sd.val; grind
    rw [e] at h
    have h2 := Int.mul_le_mul_of_nonneg_right h (show 0 ≤ D by omega)
    refine Int.le_of_mul_le_mul_left (a := k) ?_ hk
    have e2 : x * ((S i).w * T.d) * D = x * (S i).w * D * T.d := by ac_rfl
    rw [e2, hit] at h2
    have e3 : k * W.val T * D = k * (W.val T * D) := by ac_rfl
    have e4 : k * N * T.d = k * (N * T.d) := by ac_rfl
    omega
  · have ha := Int.mul_le_mul_of_nonneg_left (hf i hi) h1
    have hb := Int.mul_le_mul_of_nonneg_left (hf j hj) h2
    obtain ⟨cu, cv⟩ := cramer (S i) (S j) W
    have e : cr W (S j) * (S i).val T + cr (S i) W * (S j).val T = cr (S i) (S j) * W.val T := by unfold Sd.val; grind
    have h3 := Int.mul_le_mul_of_nonneg_right (show (cr W (S j) * (S i).w + cr (S i) W * (S j).w) * T.d ≤ cr (S i) (S j) * W.val T by
      rw [← e, Int.add_mul]
      have x1 : cr W (S j) * (S i).w * T.d = cr W (S j) * ((S i).w * T.d) := by ac_rfl
      have x2 : cr (S i) W * (S j).w * T.d = cr (S i) W * ((S j).w * T.d) := by ac_rfl
      omega) (show 0 ≤ D by omega)
    refine Int.le_of_mul_le_mul_left (a := cr (S i) (S j)) ?_ hc
    have e2 : (cr W (S j) * (S i).w + cr (S i) W * (S j).w) * T.d * D = (cr W (S j) * (S i).w + cr (S i) W * (S j).w) * D * T.d := by ac_rfl
    rw [e2, hit] at h3
    have e3 : cr (S i) (S j) * W.val T * D = cr (S i) (S j) * (W.val T * D) := by ac_rfl
    have e4 : cr (S i) (S j) * N * T.d = cr (S i) (S j) * (N * T.d) := by ac_rfl
    omega
/-- How great the bound of a group can be. -/
theorem cand_rng {L : Runs} (lv : L.Val) {p q N D : Int} (fac : Fac p q) {g : List Nat} (hg : Grp (2 * L.n) 2 g) (hc : CandOf (sides L.f) ⟨p, q, 0⟩ g N D) : D ≤ 800 ∧ -160000000 ≤ N ∧ N ≤ 160000000 := by
  have up : ∀ i, i < 2 * L.n → (sides L.f i).Up 20 100000 := fun i hi => by
    have := lv (i / 2) (by omega)
    unfold sides
    split
    · exact this.lower
    · exact this.upper
  have wu : (⟨p, q, 0⟩ : Sd).Up 20 100000 := ⟨fac.1, fac.2, by dsimp only; omega⟩
  rcases hg with ⟨a, ha, rfl⟩ | ⟨a, b, hab, hb, rfl⟩ | ⟨h, -⟩
  · obtain ⟨-, -, rfl, rfl⟩ := hc
    have ua := up a ha
    have s1 := size_up ua
    have s2 := size_up wu
    have m := mul_bnd (b := (⟨p, q, 0⟩ : Sd).size) (B := 40) ua.w.1 ua.w.2 (by omega) (by omega)
    omega
  · have ua := up a (by omega)
    have ub := up b hb
    have c1 := cr_up ua ub
    have c2 := cr_up wu ub
    have c3 := cr_up ua wu
    rcases hc with ⟨-, -, -, rfl, rfl⟩ | ⟨-, -, -, rfl, rfl⟩
    · have m1 := mul_bnd (B := 800) ua.w.1 ua.w.2 c2.1 c2.2
      have m2 := mul_bnd (B := 800) ub.w.1 ub.w.2 c3.1 c3.2
      omega
    · have m1 := mul_bnd (b := -cr ⟨p, q, 0⟩ (sides L.f b)) (B := 800) ua.w.1 ua.w.2 (by omega) (by omega)
      have m2 := mul_bnd (b := -cr (sides L.f a) ⟨p, q, 0⟩) (B := 800) ub.w.1 ub.w.2 (by omega) (by omega)
      omega
  · exact absurd h (by decide)
/-- There is a least value, and a corner has it. -/
theorem lst_ofR {L : Runs} (lv : L.Val) (c : L.Cl) {p q : Int} (b : L.Bnd p q) (fac : Fac p q) : ∃ N D, Lst L p q N D ∧ (D ≤ 800 ∧ -160000000 ≤ N ∧ N ≤ 160000000) ∧ ∃ t, RefC L t ∧ (∀ i, i < L.n → (L.f i).Fit t) ∧ (p * t.a + q * t.b) * D = N * t.d ∧ 0 < t.d := by
  have nz := nz_sides lv
  by_cases hz : p = 0 ∧ q = 0
  · obtain ⟨rfl, rfl⟩ := hz
    obtain ⟨t, h1, h2, h3, h4⟩ := corner_ref lv c (p := 0) (q := 0) (N := 0) (D := 1) (by decide) (.inl ⟨rfl, rfl, rfl⟩)
    exact ⟨0, 1, ⟨by decide, ⟨t, h2, h3, h4⟩, fun t _ _ => by simp⟩, by decide, t, h1, h2, h3, h4⟩
  · rcases b with b | b
    · exact absurd b hz
    obtain ⟨g, N, D, hg, hc, hm⟩ := cand_max nz b
    have tp := top_of nz (show (⟨p, q, 0⟩ : Sd).Nz by unfold Sd.Nz; dsimp only; omega) hg hc hm
    obtain ⟨t, h1, h2, h3, h4⟩ := corner_ref lv c tp.dp (.inr tp)
    exact ⟨N, D, ⟨tp.dp, ⟨t, h2, h3, h4⟩, fun t' hf _ => tp.le (fit_sides.2 hf)⟩, cand_rng lv fac hg hc, t, h1, h2, h3, h4⟩
theorem lst_of {L : Runs} (lv : L.Val) (c : L.Cl) {p q : Int} (b : L.Bnd p q) (fac : Fac p q) : ∃ N D, Lst L p q N D ∧ ∃ t, RefC L t ∧ (∀ i, i < L.n → (L.f i).Fit t) ∧ (p * t.a + q * t.b) * D = N * t.d ∧ 0 < t.d := by
  obtain ⟨N, D, h1, -, h2⟩ := lst_ofR lv c b fac
  exact ⟨N, D, h1, h2⟩
theorem cl_iff {L : Runs} (lv : L.Val) : L.Cl ↔ ∃ t : Tru, 0 < t.d ∧ L.Fits t := by
  constructor
  · intro c
    obtain ⟨t, h1, h2, h3, h4⟩ := corner_ref lv c (p := 0) (q := 0) (N := 0) (D := 1) (by decide) (.inl ⟨rfl, rfl, rfl⟩)
    exact ⟨t, h4, h2⟩
  · rintro ⟨t, h1, h2⟩
    exact clean_fit (nz_sides lv) h1 (fit_sides.2 h2)
end AE.Try
