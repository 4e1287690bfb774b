/- Walks of chart: neighbours; CheckTrue. -/
import Derived.Test.YtbfhhncmmllblaaChartC
set_option linter.unusedVariables false
set_option linter.unusedSimpArgs false
set_option linter.unusedSectionVars false
namespace AE.Try
open Go AE Go.Proofs
set_option maxRecDepth 100000
set_option linter.unusedVariables false

/-- Pulls, as they come. -/
structure Pul where
  M : Mat
  f : Nat → Nat → Int
structure Pul.Ok (p : Pul) (m : Nat) (h : H) : Prop where
  e : 0 < p.M.n → p.M.b = some p.M.a
  i : Vals h p.M.a p.M.n p.M.row
  r : 0 < p.M.n → p.M.a.block < m
  l : p.M.n ≤ 9223372036854775807
  re : ∀ i, i < p.M.n → 0 < p.M.w i → p.M.rb i = some (p.M.ra i)
  ri : ∀ i, i < p.M.n → Ints h (p.M.ra i) (p.M.w i) (p.f i)
  rr : ∀ i, i < p.M.n → 0 < p.M.w i → (p.M.ra i).block < m
  rl : ∀ i, i < p.M.n → p.M.w i ≤ 9223372036854775807
  rf : ∀ i, i < p.M.n → 0 < p.M.w i → p.M.rc i < far
theorem Pul.Ok.same {p : Pul} {m m' : Nat} {h h' : H} (k : p.Ok m h) (s : Same m h h') (hm : m ≤ m') : p.Ok m' h' :=
  ⟨k.e, k.i.same s k.r, fun h => by have := k.r h; omega, k.l, k.re, fun i hi => (k.ri i hi).same s (k.rr i hi), fun i hi h => by have := k.rr i hi h; omega, k.rl, k.rf⟩

/-! ### neighbours -/

/-- How many of the first n numbers are below x. -/
def cnt (f : Nat → Int) (x : Int) : Nat → Nat
  | 0 => 0
  | n + 1 => cnt f x n + if f n < x then 1 else 0
theorem cnt_le (f : Nat → Int) (x : Int) : ∀ n, cnt f x n ≤ n
  | 0 => Nat.le_refl _
  | n + 1 => by have := cnt_le f x n; simp only [cnt]; split <;> omega
theorem Rising.mono {f : Nat → Int} {n : Nat} (h : Rising f n) : ∀ d i, i + d < n → f i ≤ f (i + d)
  | 0, _, _ => Int.le_refl _
  | d + 1, i, hi => by
    have := h.mono d i (by omega)
    have := h.up (i + d) (by omega)
    rw [show i + (d + 1) = i + d + 1 by omega]
    omega
theorem Rising.le {f : Nat → Int} {n : Nat} (h : Rising f n) {i j : Nat} (hij : i ≤ j) (hj : j < n) : f i ≤ f j := by
  have := h.mono (j - i) i (by omega)
  rwa [show i + (j - i) = j by omega] at this
theorem cnt_at {f : Nat → Int} {x : Int} {n c : Nat} (h : Rising f n) (hc : c ≤ n) (h1 : ∀ i, i < c → f i < x) (h2 : ∀ i, c ≤ i → i < n → x ≤ f i) : ∀ m, m ≤ n → cnt f x m = min m c
  | 0, _ => by simp [cnt]
  | m + 1, hm => by
    have ih := cnt_at h hc h1 h2 m (by omega)
    simp only [cnt, ih]
    split
    · rename_i hx
      rcases Nat.lt_or_ge m c with k | k
      · omega
      · have := h2 m k (by omega); omega
    · rename_i hx
      rcases Nat.lt_or_ge m c with k | k
      · have := h1 m k; omega
      · omega
theorem cnt_eq {f : Nat → Int} {x : Int} {n c : Nat} (h : Rising f n) (hc : c ≤ n) (h1 : ∀ i, i < c → f i < x) (h2 : ∀ i, c ≤ i → i < n → x ≤ f i) : cnt f x n = c := by
  rw [cnt_at h hc h1 h2 n (Nat.le_refl _)]; omega
theorem cnt_spec {f : Nat → Int} {x : Int} {n : Nat} (h : Rising f n) : (∀ i, i < cnt f x n → f i < x) ∧ (∀ i, cnt f x n ≤ i → i < n → x ≤ f i) := by
  have key : ∀ m, m ≤ n → (∀ i, i < cnt f x m → f i < x) ∧ (∀ i, cnt f x m ≤ i → i < m → x ≤ f i) := by
    intro m
    induction m with
    | zero => exact fun _ => ⟨fun i hi => by simp [cnt] at hi, fun i _ hi => by omega⟩
    | succ m ih =>
      intro hm
      obtain ⟨a, b⟩ := ih (by omega)
      have hle := cnt_le f x m
      simp only [cnt]
      split
      · rename_i hx
        refine ⟨fun i hi => ?_, fun i hi him => ?_⟩
        · have := h.le (i := i) (j := m) (by omega) (by omega)
          omega
        · exfalso
          have h1 := b (cnt f x m) (Nat.le_refl _) (by omega)
          have h2 := h.le (i := cnt f x m) (j := m) (by omega) (by omega)
          omega
      · rename_i hx
        refine ⟨fun i hi => a i (by omega), fun i hi him => ?_⟩
        by_cases e : i = m
        · subst e; omega
        · exact b i (by omega) (by omega)
  exact key n (Nat.le_refl _)
/-- The first one of two neighbours around x. -/
def nb (f : Nat → Int) (n : Nat) (x : Int) : Nat := cnt f x n - 1
def On (f : Nat → Int) (n : Nat) (x : Int) : Prop := f 0 ≤ x ∧ x ≤ f (n - 1)
instance (f : Nat → Int) (n : Nat) (x : Int) : Decidable (On f n x) := by unfold On; infer_instance
theorem nb_spec {f : Nat → Int} {n : Nat} {x : Int} (h : Rising f n) (h2 : 2 ≤ n) (ho : On f n x) : nb f n x + 1 < n ∧ f (nb f n x) ≤ x ∧ x ≤ f (nb f n x + 1) ∧ (0 < nb f n x → f (nb f n x) < x) := by
  obtain ⟨a, b⟩ := cnt_spec (x := x) h
  have hc := cnt_le f x n
  have hlt : cnt f x n < n := by
    rcases Nat.lt_or_ge (n - 1) (cnt f x n) with k | k
    · have := a (n - 1) k; have := ho.2; omega
    · omega
  unfold nb
  rcases Nat.eq_zero_or_pos (cnt f x n) with h0 | h0
  · rw [h0]
    have := b 1 (by omega) (by omega)
    exact ⟨by omega, ho.1, this, fun h => by omega⟩
  · have h3 := a (cnt f x n - 1) (by omega)
    have h4 := b (cnt f x n) (by omega) (by omega)
    rw [show cnt f x n - 1 + 1 = cnt f x n by omega]
    exact ⟨by omega, by omega, h4, fun _ => h3⟩
theorem nb_eq {f : Nat → Int} {n i : Nat} {x : Int} (h : Rising f n) (hi : i + 1 < n) (h1 : x ≤ f (i + 1)) (h2 : 0 < i → f i < x) (ho : On f n x) : nb f n x = i := by
  unfold nb
  rcases Nat.eq_zero_or_pos i with h0 | h0
  · subst h0
    obtain ⟨a, b⟩ := cnt_spec (x := x) h
    rcases Nat.lt_or_ge 1 (cnt f x n) with k | k
    · have := a 1 (by omega)
      simp only [Nat.zero_add] at h1
      omega
    · omega
  · have : cnt f x n = i + 1 := cnt_eq h (by omega) (fun j hj => by have := h.le (i := j) (j := i) (by omega) (by omega); have := h2 h0; omega) (fun j hj hjn => by have := h.le (i := i + 1) (j := j) (by omega) hjn; omega)
    omega

theorem nan_w {h : H} {x : Int} : AW Try.prog 101 h.next h [.int .i64 x] (fun v _ => v = .bool false) := by
  refine fun101.call rfl (Nat.le_refl _) ?_
  unfold a101
  (focus ((try with_reducible apply wpC.to); (repeat' ((conv => whnf); first | refine byEv ?_ | ((apply Fork.mk) <;> (intro _; try (exfalso; omega; done))) | fail)); all_goals (conv => whnf); all_goals (try with_reducible apply At.mk)))
  (refine byFin ?_)
  rfl
theorem nan2_w {h : H} {x : Int} : AW Try.prog 102 h.next h [.int .i64 x] (fun v _ => v = .bool false) := by
  refine fun102.call rfl (Nat.le_refl _) ?_
  unfold a102
  (focus ((try with_reducible apply wpC.to); (repeat' ((conv => whnf); first | refine byEv ?_ | ((apply Fork.mk) <;> (intro _; try (exfalso; omega; done))) | fail)); all_goals (conv => whnf); all_goals (try with_reducible apply At.mk)))
  (refine byFin ?_)
  rfl
theorem kChartD0 {G : Prop} (g : G := by (apply nan_w)) : G := g
theorem kChartD1 {G : Prop} (g : G := by (apply nan2_w)) : G := g
theorem less_w {h : H} {x y : Int} : AW Try.prog 95 h.next h [.int .i64 x, .int .i64 y] (fun v _ => v = .bool (decide (x < y))) := by
  refine fun95.call rfl (Nat.le_refl _) ?_
  unfold a95
  (focus ((try with_reducible apply wpC.to); (repeat' ((conv => whnf); first | refine byEv ?_ | ((apply Fork.mk) <;> (intro _; try (exfalso; omega; done))) | ((apply q_call); (focus exact byNext); (focus exact byLo); (focus (exact kChartD0)); first | ((apply q_allB) <;> (intro z_b _ _ _; first | exact Bool.noConfusion z_b | replace z_b := of_decide_eq_true z_b | replace z_b := of_decide_eq_false z_b | skip) <;> (first | contradiction | (revert z_b; intros))) | ((apply q_alli) <;> (intro _ _ _ _; try contradiction)) | ((apply q_allv); intro _ _ _)) | fail)); all_goals (conv => whnf); all_goals (try with_reducible apply At.mk)))
  all_goals ((refine byFin ?_); first | exact bool_t rfl (by omega) | exact bool_f rfl (by omega))
theorem kChartD2 {G : Prop} (g : G := by (apply less_w)) : G := g

theorem shr1_eq (s : Int) (h : 0 ≤ s) (p : Int) (hp : p = 2) : s.fdiv p = s / 2 := by
  subst hp
  exact Int.fdiv_eq_ediv_of_nonneg _ (by omega)

theorem search_w {h : H} {T : Arr} {m : Nat} {x : Int} (hm : m ≤ h.next) (hT : T.Ok m h) (hR : Rising T.f T.n) (hn : T.n < 1000000) :
    AW Try.prog 98 h.next h [.slice T.b T.n T.c, .int .i64 x] (fun v _ => ∃ b, v = .tuple #[.int .i64 (cnt T.f x T.n), .bool b]) := by
  obtain ⟨e1, i1, r1, l1⟩ := hT
  refine fun98.call rfl (Nat.le_refl _) ?_
  unfold a98
  (focus ((try with_reducible apply wpC.to); (repeat' ((conv => whnf); first | refine byEv ?_ | ((apply Fork.mk) <;> (intro _; try (exfalso; omega; done))) | ((apply q_call); (focus exact byNext); (focus exact byLo); (focus (first | exact kChartD2 | exact kChartD1)); first | ((apply q_allB) <;> (intro z_b _ _ _; first | exact Bool.noConfusion z_b | replace z_b := of_decide_eq_true z_b | replace z_b := of_decide_eq_false z_b | skip) <;> (first | contradiction | (revert z_b; intros))) | ((apply q_alli) <;> (intro _ _ _ _; try contradiction)) | ((apply q_allv); intro _ _ _)) | fail)); all_goals (conv => whnf); all_goals (try with_reducible apply At.mk)))
  refine wp_loop (fun s : Nat × Nat => [(0, .slice T.b T.n T.c), (1, .int .i64 x), (6, .int .i64 T.n), (7, .int .i64 s.1), (8, .int .i64 s.2)]) (fun s h1 => Quiet h.next h h1 ∧ s.1 ≤ s.2 ∧ s.2 ≤ T.n ∧ (∀ i, i < s.1 → T.f i < x) ∧ ∀ i, s.2 ≤ i → i < T.n → x ≤ T.f i) (fun s => s.2 - s.1) (0, T.n) ⟨rfl, rfl, rfl, rfl, rfl, trivial⟩ ⟨by (exact byQuiet), by dsimp only; omega, by dsimp only; omega, fun i hi => by dsimp only at hi; omega, fun i h1 h2 => by dsimp only at h1; omega⟩ ?_
  rintro ⟨l, u⟩ g h1 ⟨q, h2, h3, h4, h5⟩ K hK
  have hnx := q.next
  dsimp only at h2 h3 h4 h5 ⊢
  (focus ((try with_reducible apply wpC.to); (repeat' ((conv => whnf); first | refine byEv ?_ | ((apply Fork.mk) <;> (intro _; try (exfalso; omega; done))) | ((apply q_call); (focus exact byNext); (focus exact byLo); (focus (first | exact kChartD2 | exact kChartD1)); first | ((apply q_allB) <;> (intro z_b _ _ _; first | exact Bool.noConfusion z_b | replace z_b := of_decide_eq_true z_b | replace z_b := of_decide_eq_false z_b | skip) <;> (first | contradiction | (revert z_b; intros))) | ((apply q_alli) <;> (intro _ _ _ _; try contradiction)) | ((apply q_allv); intro _ _ _)) | fail)); all_goals (conv => whnf); all_goals (try with_reducible apply At.mk)))
  · rw [shr1_eq _ (by omega) (2 ^ min (Int.toNat 1) IntKind.u64.bits) rfl]
    (focus ((try with_reducible apply wpC.to); (repeat' ((conv => whnf); first | refine byEv ?_ | ((apply Fork.mk) <;> (intro _; try (exfalso; omega; done))) | ((apply q_call); (focus exact byNext); (focus exact byLo); (focus (first | exact kChartD2 | exact kChartD1)); first | ((apply q_allB) <;> (intro z_b _ _ _; first | exact Bool.noConfusion z_b | replace z_b := of_decide_eq_true z_b | replace z_b := of_decide_eq_false z_b | skip) <;> (first | contradiction | (revert z_b; intros))) | ((apply q_alli) <;> (intro _ _ _ _; try contradiction)) | ((apply q_allv); intro _ _ _)) | fail)); all_goals (conv => whnf); all_goals (try with_reducible apply At.mk)))
    · refine hK (((l + u) / 2 : Nat) + 1, u) _ _ ⟨rfl, rfl, rfl, int_of rfl (by omega), rfl, trivial⟩ ⟨by (exact byQuiet), by dsimp only; omega, h3, fun i hi => ?_, h5⟩ (by dsimp only; omega)
      dsimp only at hi
      have hx : T.f (((l : Int) + u) / 2).toNat < x := by assumption
      have := hR.le (i := i) (j := (((l : Int) + u) / 2).toNat) (by omega) (by omega)
      omega
    · refine hK (l, ((l + u) / 2 : Nat)) _ _ ⟨rfl, rfl, rfl, rfl, int_of rfl (by omega), trivial⟩ ⟨by (exact byQuiet), by dsimp only; omega, by dsimp only; omega, h4, fun i hi hin => ?_⟩ (by dsimp only; omega)
      dsimp only at hi
      have hx : ¬ T.f (((l : Int) + u) / 2).toNat < x := by assumption
      have := hR.le (i := (((l : Int) + u) / 2).toNat) (j := i) (by omega) (by omega)
      omega
  all_goals
    have hlu : l = u := by omega
    subst hlu
    have hc := cnt_eq (x := x) hR h3 h4 h5
    (refine byFin ?_)
    rw [hc]
    exact ⟨_, rfl⟩

theorem neighbour_w {h : H} {T : Arr} {m : Nat} {x : Int} (hm : m ≤ h.next) (hT : T.Ok m h) (hR : Rising T.f T.n) (h2 : 2 ≤ T.n) (hn : T.n < 1000000) :
    AW Try.prog 88 h.next h [.slice T.b T.n T.c, .int .i64 x] (fun v _ => v = .tuple #[.int .i64 (nb T.f T.n x), .bool (decide (On T.f T.n x))]) := by
  have hT0 := hT
  obtain ⟨e1, i1, r1, l1⟩ := hT
  obtain ⟨c1, c2⟩ := cnt_spec (x := x) hR
  have c3 := cnt_le T.f x T.n
  refine fun88.call rfl (Nat.le_refl _) ?_
  unfold a88
  (focus ((try with_reducible apply wpC.to); (repeat' ((conv => whnf); first | refine byEv ?_ | ((apply Fork.mk) <;> (intro _; try (exfalso; omega; done))) | fail)); all_goals (conv => whnf); all_goals (try with_reducible apply At.mk)))
  apply q_call
  focus (exact byNext)
  focus (exact byLo)
  focus exact search_w (m := m) (by (exact byOm)) (hT0.same (by (exact bySame)) (Nat.le_refl _)) hR hn
  rintro _ k1 ⟨b, rfl⟩ q k2
  (focus ((try with_reducible apply wpC.to); (repeat' ((conv => whnf); first | refine byEv ?_ | ((apply Fork.mk) <;> (intro _; try (exfalso; omega; done))) | fail)); all_goals (conv => whnf); all_goals (try with_reducible apply At.mk)))
  · (refine byFin ?_)
    have hon : On T.f T.n x := ⟨by omega, by
      have := c2 (cnt T.f x T.n) (Nat.le_refl _) (by omega)
      have := hR.le (i := cnt T.f x T.n) (j := T.n - 1) (by omega) (by omega)
      omega⟩
    rw [decide_eq_true hon, show max (0 : Int) ((cnt T.f x T.n : Int) - 1) = ((nb T.f T.n x : Nat) : Int) by unfold nb; omega]
  · (refine byFin ?_)
    have hon : ¬ On T.f T.n x := fun k => by
      have := c1 (T.n - 1) (by omega)
      have := k.2
      omega
    rw [decide_eq_false hon, show max (0 : Int) ((cnt T.f x T.n : Int) - 1) = ((nb T.f T.n x : Nat) : Int) by unfold nb; omega]
  · (refine byFin ?_)
    have hon : ¬ On T.f T.n x := fun k => by
      have := k.1
      omega
    rw [decide_eq_false hon, show max (0 : Int) ((cnt T.f x T.n : Int) - 1) = ((nb T.f T.n x : Nat) : Int) by unfold nb; omega]
end AE.Try
