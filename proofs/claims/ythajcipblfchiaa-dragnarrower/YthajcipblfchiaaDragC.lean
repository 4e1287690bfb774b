/- Walks of drag and its reference: the friction of a line. -/
import Derived.Test.YthajcipblfchiaaDragB
set_option linter.unusedVariables false
set_option linter.unusedSimpArgs false
set_option linter.unusedSectionVars false
namespace AE.Try
open Go AE AE.Drag Go.Proofs
set_option maxRecDepth 100000

theorem nan1_w {h : H} {x : Int} : AW Try.prog 77 h.next h [.int .i64 x] (fun v _ => v = .bool false) := by
  refine fun77.call rfl (Nat.le_refl _) ?_
  unfold a77
  (focus ((try with_reducible apply wpC.to); (repeat' ((conv => whnf); first | ((apply Start.mk); (focus exact byNext); (focus exact byLen)) | ((apply Fork.mk) <;> (intro _; try (exfalso; omega; done))) | ((with_reducible apply Ix.pred); (focus first | assumption | exact fun _ => rfl); (focus omega); (focus omega)) | apply forceV_any | apply forceL_any)); all_goals (conv => whnf); all_goals (try with_reducible apply At.mk)))
  all_goals ((first | (apply fin1; (focus first | exact .inl rfl | exact .inr rfl); focus exact byR1) | (apply fin2; (focus first | exact .inl rfl | exact .inr rfl); (focus exact byR1); (focus exact byR1)) | (apply fin3; (focus first | exact .inl rfl | exact .inr rfl); (focus exact byR1); (focus exact byR1); (focus exact byR1)) | (apply fin0; (focus first | exact .inl rfl | exact .inr rfl))); rfl)
theorem nan2_w {h : H} {x : Int} : AW Try.prog 76 h.next h [.int .i64 x] (fun v _ => v = .bool false) := by
  refine fun76.call rfl (Nat.le_refl _) ?_
  unfold a76
  (focus ((try with_reducible apply wpC.to); (repeat' ((conv => whnf); first | ((apply Start.mk); (focus exact byNext); (focus exact byLen)) | ((apply Fork.mk) <;> (intro _; try (exfalso; omega; done))) | ((with_reducible apply Ix.pred); (focus first | assumption | exact fun _ => rfl); (focus omega); (focus omega)) | apply forceV_any | apply forceL_any)); all_goals (conv => whnf); all_goals (try with_reducible apply At.mk)))
  all_goals ((first | (apply fin1; (focus first | exact .inl rfl | exact .inr rfl); focus exact byR1) | (apply fin2; (focus first | exact .inl rfl | exact .inr rfl); (focus exact byR1); (focus exact byR1)) | (apply fin3; (focus first | exact .inl rfl | exact .inr rfl); (focus exact byR1); (focus exact byR1); (focus exact byR1)) | (apply fin0; (focus first | exact .inl rfl | exact .inr rfl))); rfl)
theorem less_w {h : H} {x y : Int} : AW Try.prog 75 h.next h [.int .i64 x, .int .i64 y] (fun v _ => v = .bool (decide (x < y))) := by
  refine fun75.call rfl (Nat.le_refl _) ?_
  unfold a75
  (focus ((try with_reducible apply wpC.to); (repeat' ((conv => whnf); first | ((apply Start.mk); (focus exact byNext); (focus exact byLen)) | ((apply Fork.mk) <;> (intro _; try (exfalso; omega; done))) | ((with_reducible apply Ix.pred); (focus first | assumption | exact fun _ => rfl); (focus omega); (focus omega)) | ((apply q_call); (focus exact byNext); (focus exact byLo); (focus (exact nan1_w)); first | ((apply q_allB) <;> (intro z_b _ _ _; first | exact Bool.noConfusion z_b | replace z_b := of_decide_eq_true z_b | replace z_b := of_decide_eq_false z_b | skip) <;> ((try simp only [AllOk, Bd.ok, and_true] at z_b); first | contradiction | (revert z_b; intros))) | ((apply q_alli) <;> (intro _ _ _ _; try contradiction)) | ((apply q_allv); intro _ _ _)) | apply forceV_any | apply forceL_any)); all_goals (conv => whnf); all_goals (try with_reducible apply At.mk)))
  all_goals (((first | (apply fin1; (focus first | exact .inl rfl | exact .inr rfl); focus exact byR1) | (apply fin2; (focus first | exact .inl rfl | exact .inr rfl); (focus exact byR1); (focus exact byR1)) | (apply fin3; (focus first | exact .inl rfl | exact .inr rfl); (focus exact byR1); (focus exact byR1); (focus exact byR1)) | (apply fin0; (focus first | exact .inl rfl | exact .inr rfl))); first | exact bool_t rfl (by omega) | exact bool_f rfl (by omega)))

theorem search_w {h : H} {b : Option Addr} {a : Addr} {n c : Nat} {f : Nat → Int} {x : Int} {m : Nat} (hm : m ≤ h.next) (hb : 0 < n → b = some a) (hi : Ints h a n f) (ha : 0 < n → a.block < m) (hn : n < 1000000000000000) (hs : ∀ i j, i < j → j < n → f i < f j) :
    AW Try.prog 72 h.next h [.slice b n c, .int .i64 x] (fun v _ => ∃ t, v = .tuple #[.int .i64 (cnt f x n), .bool t]) := by
  refine fun72.call rfl (Nat.le_refl _) ?_
  unfold a72
  (focus ((try with_reducible apply wpC.to); (repeat' ((conv => whnf); first | ((apply Start.mk); (focus exact byNext); (focus exact byLen)) | ((apply New.mk); (focus exact byNid)) | ((apply Need.mk); (focus exact byNeed)) | ((apply Fork.mk) <;> (intro _; try (exfalso; omega; done))) | ((apply Load1.mk); (focus exact byMem); (focus exact byVal)) | ((with_reducible apply Ix.nat); (focus exact rfl); (focus omega)) | ((with_reducible apply Ix.natp); (focus assumption); (focus omega)) | ((with_reducible apply Ix.pred); (focus first | assumption | exact fun _ => rfl); (focus omega); (focus omega)) | ((with_reducible apply Ix.lit); (focus exact byLit); (focus first | assumption | exact fun _ => rfl); (focus omega); (focus omega)) | ((with_reducible apply Ix.int); (focus exact rfl); (focus omega); (focus omega)) | ((with_reducible apply Ix.intp); (focus assumption); (focus omega); (focus omega)) | ((apply Wrap.mk); (focus exact byWrap)) | ((apply q_call); (focus exact byNext); (focus exact byLo); (focus (first | exact less_w | exact nan2_w)); first | ((apply q_allB) <;> (intro z_b _ _ _; first | exact Bool.noConfusion z_b | replace z_b := of_decide_eq_true z_b | replace z_b := of_decide_eq_false z_b | skip) <;> ((try simp only [AllOk, Bd.ok, and_true] at z_b); first | contradiction | (revert z_b; intros))) | ((apply q_alli) <;> (intro _ _ _ _; try contradiction)) | ((apply q_allv); intro _ _ _)) | ((apply OpE.val); (focus exact rfl); (focus exact byVal)) | apply forceV_any | apply forceL_any)); all_goals (conv => whnf); all_goals (try with_reducible apply At.mk)))
  refine wp_loop (fun s : Nat × Nat => [(0, .slice b n c), (1, .int .i64 x), (6, .int .i64 n), (7, .int .i64 s.1), (8, .int .i64 s.2)])
    (fun s h1 => Same h.next h h1 ∧ h.next ≤ h1.next ∧ s.1 ≤ s.2 ∧ s.2 ≤ n ∧ (∀ i, i < s.1 → f i < x) ∧ (∀ i, s.2 ≤ i → i < n → x ≤ f i)) (fun s => s.2 - s.1) (0, n) ⟨rfl, rfl, rfl, rfl, rfl, trivial⟩ ⟨by (exact bySame), by (exact byOm), by simp, by simp, fun i hi => by simp at hi, fun i h1 h2 => by simp at h1; omega⟩ ?_
  rintro ⟨s, e⟩ g h1 ⟨q, hn1, hs1, hs2, hlo, hhi⟩ K hK
  simp only at hs1 hs2 hlo hhi hK ⊢
  (focus ((try with_reducible apply wpC.to); (repeat' ((conv => whnf); first | ((apply Start.mk); (focus exact byNext); (focus exact byLen)) | ((apply New.mk); (focus exact byNid)) | ((apply Need.mk); (focus exact byNeed)) | ((apply Fork.mk) <;> (intro _; try (exfalso; omega; done))) | ((apply Load1.mk); (focus exact byMem); (focus exact byVal)) | ((with_reducible apply Ix.nat); (focus exact rfl); (focus omega)) | ((with_reducible apply Ix.natp); (focus assumption); (focus omega)) | ((with_reducible apply Ix.pred); (focus first | assumption | exact fun _ => rfl); (focus omega); (focus omega)) | ((with_reducible apply Ix.lit); (focus exact byLit); (focus first | assumption | exact fun _ => rfl); (focus omega); (focus omega)) | ((with_reducible apply Ix.int); (focus exact rfl); (focus omega); (focus omega)) | ((with_reducible apply Ix.intp); (focus assumption); (focus omega); (focus omega)) | ((apply Wrap.mk); (focus exact byWrap)) | ((apply q_call); (focus exact byNext); (focus exact byLo); (focus (first | exact less_w | exact nan2_w)); first | ((apply q_allB) <;> (intro z_b _ _ _; first | exact Bool.noConfusion z_b | replace z_b := of_decide_eq_true z_b | replace z_b := of_decide_eq_false z_b | skip) <;> ((try simp only [AllOk, Bd.ok, and_true] at z_b); first | contradiction | (revert z_b; intros))) | ((apply q_alli) <;> (intro _ _ _ _; try contradiction)) | ((apply q_allv); intro _ _ _)) | ((apply OpE.val); (focus exact rfl); (focus exact byVal)) | apply forceV_any | apply forceL_any)); all_goals (conv => whnf); all_goals (try with_reducible apply At.mk)))
  · have hmid : IntKind.i64.wrap (((s : Int) + (e : Int)).fdiv (2 ^ min (Int.toNat 1) IntKind.u64.bits)) = (((s + e) / 2 : Nat) : Int) := by
      have e1 : (2 : Int) ^ min (Int.toNat 1) IntKind.u64.bits = 2 := rfl
      have e2 : IntKind.i64.wrap (((s : Int) + (e : Int)) / 2) = ((s : Int) + (e : Int)) / 2 := w64_id (by omega)
      rw [e1, Int.fdiv_eq_ediv_of_nonneg _ (by omega), e2]
      omega
    refine Wrap.mk hmid ?_
    have hm1 : s ≤ (s + e) / 2 := by omega
    have hm2 : (s + e) / 2 < e := by omega
    generalize (s + e) / 2 = mid at *
    (focus ((try with_reducible apply wpC.to); (repeat' ((conv => whnf); first | ((apply Start.mk); (focus exact byNext); (focus exact byLen)) | ((apply New.mk); (focus exact byNid)) | ((apply Need.mk); (focus exact byNeed)) | ((apply Fork.mk) <;> (intro _; try (exfalso; omega; done))) | ((apply Load1.mk); (focus exact byMem); (focus exact byVal)) | ((with_reducible apply Ix.nat); (focus exact rfl); (focus omega)) | ((with_reducible apply Ix.natp); (focus assumption); (focus omega)) | ((with_reducible apply Ix.pred); (focus first | assumption | exact fun _ => rfl); (focus omega); (focus omega)) | ((with_reducible apply Ix.lit); (focus exact byLit); (focus first | assumption | exact fun _ => rfl); (focus omega); (focus omega)) | ((with_reducible apply Ix.int); (focus exact rfl); (focus omega); (focus omega)) | ((with_reducible apply Ix.intp); (focus assumption); (focus omega); (focus omega)) | ((apply Wrap.mk); (focus exact byWrap)) | ((apply q_call); (focus exact byNext); (focus exact byLo); (focus (first | exact less_w | exact nan2_w)); first | ((apply q_allB) <;> (intro z_b _ _ _; first | exact Bool.noConfusion z_b | replace z_b := of_decide_eq_true z_b | replace z_b := of_decide_eq_false z_b | skip) <;> ((try simp only [AllOk, Bd.ok, and_true] at z_b); first | contradiction | (revert z_b; intros))) | ((apply q_alli) <;> (intro _ _ _ _; try contradiction)) | ((apply q_allv); intro _ _ _)) | ((apply OpE.val); (focus exact rfl); (focus exact byVal)) | apply forceV_any | apply forceL_any)); all_goals (conv => whnf); all_goals (try with_reducible apply At.mk)))
    · refine hK (mid + 1, e) _ _ ⟨rfl, rfl, rfl, int_of rfl (by simp), rfl, trivial⟩ ⟨by (exact bySame), by (exact byOm), by simp only; omega, hs2, fun i hi => ?_, hhi⟩ (by simp only; omega)
      simp only at hi
      by_cases he : i = mid
      · subst he; assumption
      · have := hs i mid (by omega) (by omega); omega
    · refine hK (s, mid) _ _ ⟨rfl, rfl, rfl, rfl, rfl, trivial⟩ ⟨by (exact bySame), by (exact byOm), by simp only; omega, by simp only; omega, hlo, fun i hi1 hi2 => ?_⟩ (by simp only; omega)
      simp only at hi1
      by_cases he : i = mid
      · subst he; omega
      · have := hs mid i (by omega) (by omega); omega
  all_goals
    have hse : s = e := by omega
    subst hse
    have hc : cnt f x n = s := by
      obtain ⟨s1, s2⟩ := cnt_spec (re := f) (x := x) (k := n) hs
      have hl := cnt_le f x n
      rcases Nat.lt_trichotomy (cnt f x n) s with h | h | h
      · have a1 := s2 _ (Nat.le_refl _) (by omega)
        have b1 := hlo _ h
        omega
      · exact h
      · have a1 := s1 s h
        have b1 := hhi s (Nat.le_refl _) (by omega)
        omega
    (first | (apply fin1; (focus first | exact .inl rfl | exact .inr rfl); focus exact byR1) | (apply fin2; (focus first | exact .inl rfl | exact .inr rfl); (focus exact byR1); (focus exact byR1)) | (apply fin3; (focus first | exact .inl rfl | exact .inr rfl); (focus exact byR1); (focus exact byR1); (focus exact byR1)) | (apply fin0; (focus first | exact .inl rfl | exact .inr rfl)))
    exact ⟨_, by rw [hc]⟩
theorem after_w {h : H} {b : Option Addr} {a : Addr} {n c : Nat} {f : Nat → Int} {x : Int} {m : Nat} (hm : m ≤ h.next) (hb : 0 < n → b = some a) (hi : Ints h a n f) (ha : 0 < n → a.block < m) (hn : n < 1000000000000000) (hs : ∀ i j, i < j → j < n → f i < f j) {k : Nat} (hk : cnt f x n = k) :
    AW Try.prog 64 h.next h [.slice b n c, .int .i64 x] (fun v _ => v = .int .i64 k) := by
  subst hk
  refine fun64.call rfl (Nat.le_refl _) ?_
  unfold a64
  (focus ((try with_reducible apply wpC.to); (repeat' ((conv => whnf); first | ((apply Start.mk); (focus exact byNext); (focus exact byLen)) | ((with_reducible apply Ix.pred); (focus first | assumption | exact fun _ => rfl); (focus omega); (focus omega)) | apply forceV_any | apply forceL_any | (apply q_call; (focus exact byNext); (focus omega); (focus (apply search_w; rotate_left; (focus assumption); (focus (apply Ints.same'; (focus assumption); (focus assumption); (focus exact bySame))); (focus assumption); (focus assumption); (focus assumption); (focus exact byOm))); rintro _ z_h1 ⟨z_t, z_e⟩ z_q z_hn; subst z_e; revert z_hn z_q z_t z_h1; intros))); all_goals (conv => whnf); all_goals (try with_reducible apply At.mk)))
  all_goals ((first | (apply fin1; (focus first | exact .inl rfl | exact .inr rfl); focus exact byR1) | (apply fin2; (focus first | exact .inl rfl | exact .inr rfl); (focus exact byR1); (focus exact byR1)) | (apply fin3; (focus first | exact .inl rfl | exact .inr rfl); (focus exact byR1); (focus exact byR1); (focus exact byR1)) | (apply fin0; (focus first | exact .inl rfl | exact .inr rfl))); rfl)

theorem ends_w {h : H} {L : Line} {m : Nat} (hm : m ≤ h.next) (hL : L.Ok m h) (hn : 0 < L.n) : AW Try.prog 63 h.next h [.agg ⟨L.cells⟩] (fun v _ => v = .agg ⟨[.int .i64 (L.re 0), .int .i64 (L.re (L.n - 1))]⟩) := by
  obtain ⟨e1, i1, r1, e2, i2, r2, l1, l2⟩ := hL
  refine fun63.call rfl (Nat.le_refl _) ?_
  unfold a63
  (focus ((try with_reducible apply wpC.to); (repeat' ((conv => whnf); first | ((apply Start.mk); (focus exact byNext); (focus exact byLen)) | ((apply New.mk); (focus exact byNid)) | ((apply Need.mk); (focus exact byNeed)) | ((apply Load1.mk); (focus exact byMem); (focus exact byVal)) | ((apply Sto.mk); (focus exact bySto); (focus exact byLo); (focus exact byGet); (focus exact rfl); (focus exact rfl); (focus exact rfl); (focus exact byList)) | ((with_reducible apply Ix.nat); (focus exact rfl); (focus omega)) | ((with_reducible apply Ix.natp); (focus assumption); (focus omega)) | ((with_reducible apply Ix.pred); (focus first | assumption | exact fun _ => rfl); (focus omega); (focus omega)) | ((with_reducible apply Ix.lit); (focus exact byLit); (focus first | assumption | exact fun _ => rfl); (focus omega); (focus omega)) | ((with_reducible apply Ix.int); (focus exact rfl); (focus omega); (focus omega)) | ((with_reducible apply Ix.intp); (focus assumption); (focus omega); (focus omega)) | apply forceV_any | apply forceL_any)); all_goals (conv => whnf); all_goals (try with_reducible apply At.mk)))
  (first | (apply fin1; (focus first | exact .inl rfl | exact .inr rfl); focus exact byR1) | (apply fin2; (focus first | exact .inl rfl | exact .inr rfl); (focus exact byR1); (focus exact byR1)) | (apply fin3; (focus first | exact .inl rfl | exact .inr rfl); (focus exact byR1); (focus exact byR1); (focus exact byR1)) | (apply fin0; (focus first | exact .inl rfl | exact .inr rfl)))
  rfl
theorem has_w {h : H} {L : Line} {m : Nat} {lo hi : Int} (hm : m ≤ h.next) (hL : L.Ok m h) (hn : 0 < L.n) : AW Try.prog 38 h.next h [.agg ⟨L.cells⟩, .agg ⟨[.int .i64 lo, .int .i64 hi]⟩] (fun v _ => v = .bool (decide (L.re 0 ≤ lo ∧ hi ≤ L.re (L.n - 1)))) := by
  refine fun38.call rfl (Nat.le_refl _) ?_
  unfold a38
  (focus ((try with_reducible apply wpC.to); (repeat' ((conv => whnf); first | ((apply Start.mk); (focus exact byNext); (focus exact byLen)) | ((apply New.mk); (focus exact byNid)) | ((apply Fork.mk) <;> (intro _; try (exfalso; omega; done))) | ((apply Load1.mk); (focus exact byMem); (focus exact byVal)) | ((apply LoadN.mk); (focus exact byMem); (focus exact byList)) | ((apply Sto.mk); (focus exact bySto); (focus exact byLo); (focus exact byGet); (focus exact rfl); (focus exact rfl); (focus exact rfl); (focus exact byList)) | ((with_reducible apply Ix.pred); (focus first | assumption | exact fun _ => rfl); (focus omega); (focus omega)) | ((with_reducible apply IxA.nat); (focus omega)) | ((with_reducible apply IxA.lit); (focus exact byLit); (focus omega); (focus omega)) | ((with_reducible apply IxA.int); (focus omega); (focus omega)) | ((apply q_call); (focus exact byNext); (focus exact byLo); (focus ((apply AW.arg1; (focus (apply ends_w; rotate_left; (focus (apply Line.Ok.same; (focus assumption); (focus exact bySame); (focus exact Nat.le_refl _))); (focus assumption); (focus exact byOm))); (focus exact Is.rfl)))); first | ((apply q_allB) <;> (intro z_b _ _ _; first | exact Bool.noConfusion z_b | replace z_b := of_decide_eq_true z_b | replace z_b := of_decide_eq_false z_b | skip) <;> ((try simp only [AllOk, Bd.ok, and_true] at z_b); first | contradiction | (revert z_b; intros))) | ((apply q_alli) <;> (intro _ _ _ _; try contradiction)) | ((apply q_allv); intro _ _ _)) | apply forceV_any | apply forceL_any)); all_goals (conv => whnf); all_goals (try with_reducible apply At.mk)))
  all_goals (((first | (apply fin1; (focus first | exact .inl rfl | exact .inr rfl); focus exact byR1) | (apply fin2; (focus first | exact .inl rfl | exact .inr rfl); (focus exact byR1); (focus exact byR1)) | (apply fin3; (focus first | exact .inl rfl | exact .inr rfl); (focus exact byR1); (focus exact byR1); (focus exact byR1)) | (apply fin0; (focus first | exact .inl rfl | exact .inr rfl))); first | exact bool_t rfl (by omega) | exact bool_f rfl (by omega)))
theorem inside_w {h : H} {L : Line} {m : Nat} {lo hi : Int} (hm : m ≤ h.next) (hL : L.Ok m h) (hn : 0 < L.n) : AW Try.prog 67 h.next h [.agg ⟨L.cells⟩, .agg ⟨[.int .i64 lo, .int .i64 hi]⟩] (fun v _ => v = .bool (decide (L.re 0 ≤ lo ∧ hi ≤ L.re (L.n - 1)))) := by
  obtain ⟨e1, i1, r1, e2, i2, r2, l1, l2⟩ := hL
  refine fun67.call rfl (Nat.le_refl _) ?_
  unfold a67
  (focus ((try with_reducible apply wpC.to); (repeat' ((conv => whnf); first | ((apply Start.mk); (focus exact byNext); (focus exact byLen)) | ((apply New.mk); (focus exact byNid)) | ((apply Need.mk); (focus exact byNeed)) | ((apply Fork.mk) <;> (intro _; try (exfalso; omega; done))) | ((apply Load1.mk); (focus exact byMem); (focus exact byVal)) | ((with_reducible apply Ix.nat); (focus exact rfl); (focus omega)) | ((with_reducible apply Ix.natp); (focus assumption); (focus omega)) | ((with_reducible apply Ix.pred); (focus first | assumption | exact fun _ => rfl); (focus omega); (focus omega)) | ((with_reducible apply Ix.lit); (focus exact byLit); (focus first | assumption | exact fun _ => rfl); (focus omega); (focus omega)) | ((with_reducible apply Ix.int); (focus exact rfl); (focus omega); (focus omega)) | ((with_reducible apply Ix.intp); (focus assumption); (focus omega); (focus omega)) | apply forceV_any | apply forceL_any)); all_goals (conv => whnf); all_goals (try with_reducible apply At.mk)))
  all_goals (((first | (apply fin1; (focus first | exact .inl rfl | exact .inr rfl); focus exact byR1) | (apply fin2; (focus first | exact .inl rfl | exact .inr rfl); (focus exact byR1); (focus exact byR1)) | (apply fin3; (focus first | exact .inl rfl | exact .inr rfl); (focus exact byR1); (focus exact byR1); (focus exact byR1)) | (apply fin0; (focus first | exact .inl rfl | exact .inr rfl))); first | exact bool_t rfl (by omega) | exact bool_f rfl (by omega)))

set_option maxHeartbeats 1000000 in
theorem friction_w {h : H} {L : Line} {m : Nat} {x : Int} (hm : m ≤ h.next) (hL : L.Ok m h) (v : Valid L) (hin : inside L x) : AW Try.prog 39 h.next h [.agg ⟨L.cells⟩, .int .i64 x] (fun w _ => w = .int .i64 (fric L x)) := by
  obtain ⟨e1, i1, r1, e2, i2, r2, l1, l2⟩ := hL
  obtain ⟨k1, k2⟩ := idx_in v hin
  have hmn := v.eq
  have hmid := fun hne => idx_mid v hin hne
  have l3 : L.n < 1000000000000000 := by have := v.hi; omega
  have hs : ∀ i j, i < j → j < L.n → L.re i < L.re j := fun i j a b => v.re_lt a b
  have hc := v.cf_bd k1
  refine fun39.call rfl (Nat.le_refl _) ?_
  unfold a39
  unfold fric fr
  obtain ⟨k, hk⟩ : ∃ k, cnt L.re x L.n = k := ⟨_, rfl⟩
  have hki : idx L x = k := hk
  simp only [hki] at k1 k2 hmid hc ⊢
  have hlo := v.lo
  by_cases hx : L.re k = x
  · (focus ((try with_reducible apply wpC.to); (repeat' ((conv => whnf); first | ((apply Start.mk); (focus exact byNext); (focus exact byLen)) | ((apply New.mk); (focus exact byNid)) | ((apply Need.mk); (focus exact byNeed)) | ((apply Fork.mk) <;> (intro _; try (exfalso; omega; done))) | ((apply Load1.mk); (focus exact byMem); (focus exact byVal)) | ((with_reducible apply Ix.nat); (focus exact rfl); (focus omega)) | ((with_reducible apply Ix.natp); (focus assumption); (focus omega)) | ((with_reducible apply Ix.pred); (focus first | assumption | exact fun _ => rfl); (focus omega); (focus omega)) | ((with_reducible apply Ix.lit); (focus exact byLit); (focus first | assumption | exact fun _ => rfl); (focus omega); (focus omega)) | ((with_reducible apply Ix.int); (focus exact rfl); (focus omega); (focus omega)) | ((with_reducible apply Ix.intp); (focus assumption); (focus omega); (focus omega)) | ((apply q_call); (focus exact byNext); (focus exact byLo); (focus ((apply after_w; rotate_left; (focus assumption); (focus (apply Ints.same'; (focus assumption); (focus assumption); (focus exact bySame))); (focus assumption); (focus assumption); (focus assumption); (focus first | assumption | exact rfl); (focus exact byOm)))); first | ((apply q_allB) <;> (intro z_b _ _ _; first | exact Bool.noConfusion z_b | replace z_b := of_decide_eq_true z_b | replace z_b := of_decide_eq_false z_b | skip) <;> ((try simp only [AllOk, Bd.ok, and_true] at z_b); first | contradiction | (revert z_b; intros))) | ((apply q_alli) <;> (intro _ _ _ _; try contradiction)) | ((apply q_allv); intro _ _ _)) | apply forceV_any | apply forceL_any)); all_goals (conv => whnf); all_goals (try with_reducible apply At.mk)))
    all_goals (first | (apply fin1; (focus first | exact .inl rfl | exact .inr rfl); focus exact byR1) | (apply fin2; (focus first | exact .inl rfl | exact .inr rfl); (focus exact byR1); (focus exact byR1)) | (apply fin3; (focus first | exact .inl rfl | exact .inr rfl); (focus exact byR1); (focus exact byR1); (focus exact byR1)) | (apply fin0; (focus first | exact .inl rfl | exact .inr rfl)))
    all_goals rw [if_pos hx]
  · obtain ⟨m1, m2, m3, m4, m5, m6, m7, m8, m9, m10, m11, m12⟩ := hmid hx
    rw [if_neg hx]
    (focus ((try with_reducible apply wpC.to); (repeat' ((conv => whnf); first | ((apply Start.mk); (focus exact byNext); (focus exact byLen)) | ((apply New.mk); (focus exact byNid)) | ((apply Need.mk); (focus exact byNeed)) | ((apply Fork.mk) <;> (intro _; try (exfalso; omega; done))) | ((apply Load1.mk); (focus exact byMem); (focus exact byVal)) | ((with_reducible apply Ix.nat); (focus exact rfl); (focus omega)) | ((with_reducible apply Ix.natp); (focus assumption); (focus omega)) | ((with_reducible apply Ix.pred); (focus first | assumption | exact fun _ => rfl); (focus omega); (focus omega)) | ((with_reducible apply Ix.lit); (focus exact byLit); (focus first | assumption | exact fun _ => rfl); (focus omega); (focus omega)) | ((with_reducible apply Ix.int); (focus exact rfl); (focus omega); (focus omega)) | ((with_reducible apply Ix.intp); (focus assumption); (focus omega); (focus omega)) | ((apply q_call); (focus exact byNext); (focus exact byLo); (focus ((apply after_w; rotate_left; (focus assumption); (focus (apply Ints.same'; (focus assumption); (focus assumption); (focus exact bySame))); (focus assumption); (focus assumption); (focus assumption); (focus first | assumption | exact rfl); (focus exact byOm)))); first | ((apply q_allB) <;> (intro z_b _ _ _; first | exact Bool.noConfusion z_b | replace z_b := of_decide_eq_true z_b | replace z_b := of_decide_eq_false z_b | skip) <;> ((try simp only [AllOk, Bd.ok, and_true] at z_b); first | contradiction | (revert z_b; intros))) | ((apply q_alli) <;> (intro _ _ _ _; try contradiction)) | ((apply q_allv); intro _ _ _)) | apply forceV_any | apply forceL_any)); all_goals (conv => whnf); all_goals (try with_reducible apply At.mk)))
    all_goals ((first | (apply fin1; (focus first | exact .inl rfl | exact .inr rfl); focus exact byR1) | (apply fin2; (focus first | exact .inl rfl | exact .inr rfl); (focus exact byR1); (focus exact byR1)) | (apply fin3; (focus first | exact .inl rfl | exact .inr rfl); (focus exact byR1); (focus exact byR1); (focus exact byR1)) | (apply fin0; (focus first | exact .inl rfl | exact .inr rfl))); rfl)
end AE.Try
