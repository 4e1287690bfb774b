/- Walks of span: the least value, plainly. -/
import Derived.Test.YtkkndecbijgolaaSpanO
set_option linter.unusedVariables false
set_option linter.unusedSimpArgs false
set_option linter.unusedSectionVars false
namespace AE.Try
open Go AE Go.Proofs AE.Sp
set_option maxRecDepth 100000
set_option linter.unusedVariables false

theorem opp_to {a b : Sd} {x y : Int} (hx : 0 < x) (hy : 0 < y) (eu : x * a.u = y * b.u) (ev : x * a.v = y * b.v) : cr a b = 0 ∧ (a.u * b.size + b.u * -a.size = 0 ∧ a.v * b.size + b.v * -a.size = 0) ∧ x * a.size = y * b.size := by
  obtain ⟨⟨h1, h2, h3⟩, h4⟩ := opp_of (a := a) (b := ⟨-b.u, -b.v, 0⟩) hx hy (by dsimp only; rw [Int.mul_neg]; omega) (by dsimp only; rw [Int.mul_neg]; omega)
  have e : (⟨-b.u, -b.v, 0⟩ : Sd).size = b.size := by unfold Sd.size; dsimp only; omega
  rw [e] at h2 h3 h4
  dsimp only at h2 h3
  refine ⟨?_, ⟨?_, ?_⟩, h4⟩
  · unfold cr at h1 ⊢; dsimp only at h1; rw [Int.mul_neg, Int.mul_neg] at h1; omega
  · rw [Int.neg_mul] at h2; rw [Int.mul_neg]; omega
  · rw [Int.neg_mul] at h3; rw [Int.mul_neg]; omega

section
variable {S : Nat → Sd} {n : Nat} {W : Sd} {N D : Int}
theorem cand_pos (nz : ∀ i, i < n → (S i).Nz) {g : List Nat} (hg : Grp n 2 g) (h : CandOf S W g N D) : 0 < D := by
  rcases hg with ⟨i, hi, rfl⟩ | ⟨i, j, hij, hj, rfl⟩ | ⟨h3, -⟩
  · obtain ⟨-, -, -, rfl⟩ := h; exact size_pos (nz i hi)
  · rcases h with ⟨h1, -, -, -, rfl⟩ | ⟨h1, -, -, -, rfl⟩ <;> omega
  · exact absurd h3 (by decide)
/-- The best of all groups gives the greatest bound. -/
theorem top_of (nz : ∀ i, i < n → (S i).Nz) (hW : W.Nz) {g : List Nat} (hg : Grp n 2 g) (hc : CandOf S W g N D) (hm : ∀ g N' D', Grp n 2 g → CandOf S W g N' D' → N' * D ≤ N * D') : Top S n W N D := by
  refine ⟨hW, cand_pos nz hg hc, fun i hi x k hx hk eu ev => ?_, fun i j hi hj h1 h2 h3 => ?_, ?_⟩
  · obtain ⟨h1, h2, h3⟩ := opp_to hx hk eu ev
    have := hm [i] _ _ (.inl ⟨i, hi, rfl⟩) ⟨h1, h2, rfl, rfl⟩
    have hs := size_pos hW
    refine le_of_mul hs ?_
    have e1 : x * (S i).w * D * W.size = x * ((S i).w * W.size * D) := by ac_rfl
    have e2 : k * N * W.size = x * (N * (S i).size) := by
      have : k * N * W.size = N * (k * W.size) := by ac_rfl
      rw [this, ← h3]; ac_rfl
    rw [e1, e2]
    exact Int.mul_le_mul_of_nonneg_left this (by omega)
  · rcases Nat.lt_trichotomy i j with h | h | h
    · have := hm [i, j] _ _ (.inr (.inl ⟨i, j, h, hj, rfl⟩)) (.inl ⟨h1, h2, h3, rfl, rfl⟩)
      rw [Int.mul_comm (cr W (S j)), Int.mul_comm (cr (S i) W), Int.mul_comm (cr (S i) (S j))]
      exact this
    · subst h; rw [cr_self] at h1; omega
    · have := hm [j, i] _ _ (.inr (.inl ⟨j, i, h, hi, rfl⟩)) (.inr ⟨by rw [cr_swap]; omega, by rw [cr_swap]; omega, by rw [cr_swap]; omega, rfl, rfl⟩)
      rw [← cr_swap (S j) (S i), ← cr_swap W (S i), ← cr_swap (S j) W] at this
      rw [Int.mul_comm (cr W (S j)), Int.mul_comm (cr (S i) W), Int.mul_comm (cr (S i) (S j)), Int.add_comm]
      exact this
  · rcases hg with ⟨i, hi, rfl⟩ | ⟨i, j, hij, hj, rfl⟩ | ⟨h3, -⟩
    · obtain ⟨-, ⟨h1, h2⟩, rfl, rfl⟩ := hc
      rw [Int.mul_neg] at h1 h2
      refine .inl ⟨i, W.size, (S i).size, hi, size_pos hW, size_pos (nz i hi), ?_, ?_, by ac_rfl⟩
      · rw [Int.mul_comm, Int.mul_comm (S i).size]; omega
      · rw [Int.mul_comm, Int.mul_comm (S i).size]; omega
    · rcases hc with ⟨h1, h2, h3, rfl, rfl⟩ | ⟨h1, h2, h3, rfl, rfl⟩
      · refine .inr ⟨i, j, ⟨by omega, hj⟩, h1, h2, h3, ?_⟩
        rw [Int.mul_comm (cr W (S j)), Int.mul_comm (cr (S i) W), Int.mul_comm]
      · refine .inr ⟨j, i, ⟨hj, by omega⟩, by rw [cr_swap]; omega, by rw [cr_swap]; omega, by rw [cr_swap]; omega, ?_⟩
        rw [← cr_swap (S i) (S j), ← cr_swap W (S j), ← cr_swap (S i) W]
        rw [Int.mul_comm (cr W (S i)), Int.mul_comm (cr (S j) W), Int.mul_comm, Int.add_comm]
    · exact absurd h3 (by decide)
/-- If a group gives a bound, one gives the greatest one. -/
theorem cand_max (nz : ∀ i, i < n → (S i).Nz) (hex : ∃ g N D, Grp n 2 g ∧ CandOf S W g N D) : ∃ g N D, Grp n 2 g ∧ CandOf S W g N D ∧ ∀ g N' D', Grp n 2 g → CandOf S W g N' D' → N' * D ≤ N * D' := by
  obtain ⟨g0, N0, D0, hg0, hc0⟩ := hex
  have hn : 0 < n := by
    rcases hg0 with ⟨i, hi, rfl⟩ | ⟨i, j, hij, hj, rfl⟩ | ⟨h3, -⟩
    · omega
    · omega
    · exact absurd h3 (by decide)
  let G : Nat → List Nat := fun k => if k / n = k % n then [k / n] else [k / n, k % n]
  let P : Nat → Prop := fun k => Grp n 2 (G k) ∧ ∃ N D, CandOf S W (G k) N D
  haveI : ∀ k, Decidable (P k) := fun k => Classical.propDecidable _
  let num : Nat → Int := fun k => if h : P k then Classical.choose h.2 else 0
  let den : Nat → Int := fun k => if h : P k then Classical.choose (Classical.choose_spec h.2) else 1
  have spec : ∀ k, P k → CandOf S W (G k) (num k) (den k) := fun k h => by
    show CandOf S W (G k) (dite _ _ _) (dite _ _ _)
    rw [dif_pos h, dif_pos h]
    exact Classical.choose_spec (Classical.choose_spec h.2)
  have un : ∀ g N D N' D', Grp n 2 g → CandOf S W g N D → CandOf S W g N' D' → N = N' ∧ D = D' := fun g N D N' D' hg h1 h2 => by
    rcases hg with ⟨i, hi, rfl⟩ | ⟨i, j, hij, hj, rfl⟩ | ⟨h3, -⟩
    · obtain ⟨-, -, a, b⟩ := h1; obtain ⟨-, -, c, d⟩ := h2; exact ⟨a.trans c.symm, b.trans d.symm⟩
    · rcases h1 with ⟨a, _, _, b, c⟩ | ⟨a, _, _, b, c⟩ <;> rcases h2 with ⟨d, _, _, e, f⟩ | ⟨d, _, _, e, f⟩
      · exact ⟨b.trans e.symm, c.trans f.symm⟩
      · omega
      · omega
      · exact ⟨b.trans e.symm, c.trans f.symm⟩
    · exact absurd h3 (by decide)
  have code : ∀ g, Grp n 2 g → ∃ k, k < n * n ∧ G k = g := fun g hg => by
    rcases hg with ⟨i, hi, rfl⟩ | ⟨i, j, hij, hj, rfl⟩ | ⟨h3, -⟩
    · refine ⟨n * i + i, ?_, ?_⟩
      · have := Nat.mul_le_mul_left n (show i + 1 ≤ n by omega)
        rw [Nat.mul_add] at this
        omega
      · show ite _ _ _ = _
        rw [Nat.mul_add_div hn, Nat.mul_add_mod, Nat.div_eq_of_lt hi, Nat.mod_eq_of_lt hi, Nat.add_zero, if_pos rfl]
    · refine ⟨n * i + j, ?_, ?_⟩
      · have := Nat.mul_le_mul_left n (show i + 1 ≤ n by omega)
        rw [Nat.mul_add] at this
        omega
      · show ite _ _ _ = _
        rw [Nat.mul_add_div hn, Nat.mul_add_mod, Nat.div_eq_of_lt hj, Nat.mod_eq_of_lt hj, Nat.add_zero, if_neg (by omega)]
    · exact absurd h3 (by decide)
  obtain ⟨k0, hk0, e0⟩ := code g0 hg0
  obtain ⟨k, hk, hp, hmax⟩ := arg num den P (n * n) (fun i _ h => cand_pos nz h.1 (spec i h)) ⟨k0, hk0, by show Grp n 2 (G k0) ∧ _; rw [e0]; exact ⟨hg0, N0, D0, hc0⟩⟩
  refine ⟨G k, num k, den k, hp.1, spec k hp, fun g N' D' hg hc => ?_⟩
  obtain ⟨k', hk', e'⟩ := code g hg
  have hp' : P k' := by show Grp n 2 (G k') ∧ _; rw [e']; exact ⟨hg, N', D', hc⟩
  have h1 := spec k' hp'
  rw [e'] at h1
  obtain ⟨r1, r2⟩ := un g _ _ _ _ hg h1 hc
  have := hmax k' hk' hp'
  rw [r1, r2] at this
  exact this
end

/-- A truth fits runs if it fits all sides. -/
theorem fit_sides {f : Nat → Run} {n : Nat} {t : Tru} : (∀ e, e < 2 * n → (sides f e).Fit t) ↔ ∀ i, i < n → (f i).Fit t := by
  constructor
  · intro k i hi
    have h1 := k (2 * i) (by omega)
    have h2 := k (2 * i + 1) (by omega)
    rw [sides_lo] at h1
    rw [sides_up] at h2
    unfold Sd.Fit Sd.val Run.lower at h1
    unfold Sd.Fit Sd.val Run.upper at h2
    dsimp only at h1 h2
    rw [Int.neg_mul, Int.neg_mul, Int.neg_mul] at h2
    exact ⟨h1, by omega⟩
  · intro k e he
    obtain ⟨h1, h2⟩ := k (e / 2) (by omega)
    unfold sides Sd.Fit Sd.val
    split
    · exact h1
    · unfold Run.upper; dsimp only; rw [Int.neg_mul, Int.neg_mul, Int.neg_mul]; omega
/-- What is put together holds of all truths that fit. -/
theorem comb_fit {S : Nat → Sd} {n : Nat} {t : Tru} (hf : ∀ e, e < n → (S e).Fit t) {l : List (Nat × Nat)} (hl : ∀ p ∈ l, p.1 < n) : (comb S l).Fit t := by
  have key : ∀ (l : List (Nat × Nat)) (acc : Sd), (∀ p ∈ l, p.1 < n) → acc.Fit t → (l.foldl (fun acc p => acc.add ((S p.1).by p.2)) acc).Fit t := by
    intro l
    induction l with
    | nil => intro acc _ k; exact k
    | cons p l ih =>
      intro acc hl k
      refine ih _ (fun x hx => hl x (by simp [hx])) ?_
      have h1 := hf p.1 (hl p (by simp))
      unfold Sd.Fit Sd.val Sd.add Sd.by at *
      dsimp only at *
      have h2 := Int.mul_le_mul_of_nonneg_right h1 (show (0 : Int) ≤ (p.2 : Int) by omega)
      rw [Int.add_mul] at h2
      have e1 : (S p.1).w * t.d * (p.2 : Int) = (S p.1).w * p.2 * t.d := by ac_rfl
      have e2 : (S p.1).u * t.a * (p.2 : Int) = (S p.1).u * p.2 * t.a := by ac_rfl
      have e3 : (S p.1).v * t.b * (p.2 : Int) = (S p.1).v * p.2 * t.b := by ac_rfl
      rw [Int.add_mul, Int.add_mul, Int.add_mul]
      omega
  exact key l _ hl (by unfold Sd.Fit Sd.val; simp)
/-- A corner that fits and has the least value. -/
theorem corner_of {T : Tab} (nz : ∀ i, i < 2 * T.n → (T.S i).Nz) (c : Clean T.S (2 * T.n)) {p q N D : Int} (hD : 0 < D) (h : (p = 0 ∧ q = 0 ∧ N = 0) ∨ Top T.S (2 * T.n) ⟨p, q, 0⟩ N D) :
    ∃ t, CornerOf T t ∧ (∀ e, e < 2 * T.n → (T.S e).Fit t) ∧ (p * t.a + q * t.b) * D = N * t.d ∧ 0 < t.d := by
  have pr : ∀ i j, i < 2 * T.n → j < 2 * T.n → cr (T.S i) (T.S j) < 0 → ∃ k, k < 2 * T.n ∧ 0 < cr (T.S i) (T.S k) := fun i j hi hj hc => by
    rcases Nat.mod_two_eq_zero_or_one j with e | e
    · refine ⟨2 * (j / 2) + 1, by omega, ?_⟩
      have e2 : j = 2 * (j / 2) := by omega
      rw [e2] at hc
      unfold Tab.S at hc ⊢
      rw [sides_lo] at hc
      rw [sides_up]
      unfold cr Run.lower at hc
      unfold cr Run.upper
      dsimp only at hc ⊢
      rw [Int.mul_neg, Int.mul_neg]
      omega
    · refine ⟨2 * (j / 2), by omega, ?_⟩
      have e2 : j = 2 * (j / 2) + 1 := by omega
      rw [e2] at hc
      unfold Tab.S at hc ⊢
      rw [sides_up] at hc
      rw [sides_lo]
      unfold cr Run.upper at hc
      unfold cr Run.lower
      dsimp only at hc ⊢
      rw [Int.mul_neg, Int.mul_neg] at hc
      omega
  have cor : ∀ t, ((∃ i j, (i < 2 * T.n ∧ j < 2 * T.n) ∧ 0 < cr (T.S i) (T.S j) ∧ t = vx (T.S i) (T.S j)) ∨ ∃ i, i < 2 * T.n ∧ (∀ j, j < 2 * T.n → cr (T.S i) (T.S j) = 0) ∧ t = nr (T.S i)) → CornerOf T t := fun t h => by
    rcases h with ⟨i, j, h1, h2, h3⟩ | ⟨i, h1, -, h3⟩
    · exact .inr (.inr ⟨i, j, h1, h2, h3⟩)
    · exact .inr (.inl ⟨i, h1, h3⟩)
  rcases h with ⟨rfl, rfl, rfl⟩ | h
  · by_cases hn : T.n = 0
    · exact ⟨⟨0, 0, 1⟩, .inl ⟨hn, rfl⟩, fun e he => by omega, by simp, by decide⟩
    · have hW : (⟨(T.S 0).u, (T.S 0).v, 0⟩ : Sd).Nz := nz 0 (by omega)
      obtain ⟨h1, h2, h3⟩ := opp_to (a := T.S 0) (b := ⟨(T.S 0).u, (T.S 0).v, 0⟩) (x := 1) (y := 1) (by decide) (by decide) rfl rfl
      obtain ⟨g, N, D', hg, hc, hm⟩ := cand_max (W := ⟨(T.S 0).u, (T.S 0).v, 0⟩) nz ⟨[0], _, _, .inl ⟨0, by omega, rfl⟩, h1, h2, rfl, rfl⟩
      obtain ⟨t, h4, h5, -, h7⟩ := attained (top_of nz hW hg hc hm) c pr
      exact ⟨t, cor t h4, h5, by simp, h7⟩
  · obtain ⟨t, h4, h5, h6, h7⟩ := attained h c pr
    exact ⟨t, cor t h4, h5, h6, h7⟩
end AE.Try
