/- Walks of agree: sums of rings. -/
import Derived.Test.YtfdlkdjihmlbhaaAgreeN
set_option linter.unusedVariables false
set_option linter.unusedSimpArgs false
set_option linter.unusedSectionVars false
namespace AE.Try
set_option linter.unusedSimpArgs false
open Go AE AE.Ag AgreeS Go.Proofs
set_option maxRecDepth 100000

theorem indexInts3_w {h : H} {T : Arr} {m : Nat} (hm : m ≤ h.next) (hT : T.Ok m h) {pf : Value} {p : Nat → Bool} (hy : ∀ i h1, i < T.n → Quiet h.next h h1 → ∃ v h2, v = .bool (p i) ∧ ACall Try.prog pf h1.next h1 [.int .i64 (T.f i)] v h2) :
    AW Try.prog 56 h.next h [.slice T.b T.n T.c, pf] (fun v _ => ∃ z, v = .int .i64 z ∧ (0 ≤ z ↔ ∃ i, i < T.n ∧ p i = true)) := by
  obtain ⟨e1, i1, r1, l1⟩ := hT
  refine fun56.call rfl (Nat.le_refl _) ?_
  unfold a56
  (focus ((try with_reducible apply wpC.to); (repeat' ((conv => whnf); first | ((apply Start.mk); (focus exact byNext); (focus exact byLen)) | ((apply Need.mk); (focus exact byNeed)) | ((apply Fork.mk) <;> (intro _; try (exfalso; omega; done))) | ((apply Load1.mk); (focus exact byMem); (focus exact byVal)) | ((with_reducible apply Ix.nat); (focus exact rfl); (focus omega)) | ((with_reducible apply Ix.natp); (focus assumption); (focus omega)) | ((with_reducible apply Ix.pred); (focus first | assumption | exact fun _ => rfl); (focus omega); (focus omega)) | ((with_reducible apply Ix.lit); (focus exact byLit); (focus first | assumption | exact fun _ => rfl); (focus omega); (focus omega)) | ((with_reducible apply Ix.int); (focus exact rfl); (focus omega); (focus omega)) | ((with_reducible apply Ix.intp); (focus assumption); (focus omega); (focus omega)) | ((apply q_call); (focus exact byNext); (focus exact byLo); (focus (first | exact inR_w | exact is_w)); first | ((apply q_allB) <;> (intro z_b _ _ _; first | exact Bool.noConfusion z_b | replace z_b := of_decide_eq_true z_b | replace z_b := of_decide_eq_false z_b | skip) <;> (first | contradiction | (revert z_b; intros))) | ((apply q_alli) <;> (intro _ _ _ _; try contradiction)) | ((apply q_allv); intro _ _ _)) | apply callC_any | apply forceV_any | apply forceL_any)); all_goals (conv => whnf); all_goals (try with_reducible apply At.mk)))
  refine wp_loop (fun s : Nat => [(0, .slice T.b T.n T.c), (1, pf), (7, .int .i64 T.n), (8, .int .i64 s)]) (fun s h1 => Quiet h.next h h1 ∧ s ≤ T.n ∧ ∀ i, i < s → p i = false) (fun s => T.n - s) 0 ⟨rfl, rfl, rfl, rfl, trivial⟩ ⟨?_, by omega, fun i hi => by omega⟩ ?_
  · (exact byQuiet)
  rintro s g h1 ⟨q, hs, hp⟩ K hK
  have hnx := q.next
  (focus ((try with_reducible apply wpC.to); (repeat' ((conv => whnf); first | ((apply Start.mk); (focus exact byNext); (focus exact byLen)) | ((apply Need.mk); (focus exact byNeed)) | ((apply Fork.mk) <;> (intro _; try (exfalso; omega; done))) | ((apply Load1.mk); (focus exact byMem); (focus exact byVal)) | ((with_reducible apply Ix.nat); (focus exact rfl); (focus omega)) | ((with_reducible apply Ix.natp); (focus assumption); (focus omega)) | ((with_reducible apply Ix.pred); (focus first | assumption | exact fun _ => rfl); (focus omega); (focus omega)) | ((with_reducible apply Ix.lit); (focus exact byLit); (focus first | assumption | exact fun _ => rfl); (focus omega); (focus omega)) | ((with_reducible apply Ix.int); (focus exact rfl); (focus omega); (focus omega)) | ((with_reducible apply Ix.intp); (focus assumption); (focus omega); (focus omega)) | ((apply q_call); (focus exact byNext); (focus exact byLo); (focus (first | exact inR_w | exact is_w)); first | ((apply q_allB) <;> (intro z_b _ _ _; first | exact Bool.noConfusion z_b | replace z_b := of_decide_eq_true z_b | replace z_b := of_decide_eq_false z_b | skip) <;> (first | contradiction | (revert z_b; intros))) | ((apply q_alli) <;> (intro _ _ _ _; try contradiction)) | ((apply q_allv); intro _ _ _)) | apply callC_any | apply forceV_any | apply forceL_any)); all_goals (conv => whnf); all_goals (try with_reducible apply At.mk)))
  · apply q_calla
    focus exact acall_mono (hy s _ (by omega) (by (exact byQuiet))) (by (exact byOm))
    rintro _ h2 rfl q2
    have hnx2 := q2.next
    cases hb : p s with
    | true =>
      (focus ((try with_reducible apply wpC.to); (repeat' ((conv => whnf); first | ((apply Start.mk); (focus exact byNext); (focus exact byLen)) | ((apply Need.mk); (focus exact byNeed)) | ((apply Fork.mk) <;> (intro _; try (exfalso; omega; done))) | ((apply Load1.mk); (focus exact byMem); (focus exact byVal)) | ((with_reducible apply Ix.nat); (focus exact rfl); (focus omega)) | ((with_reducible apply Ix.natp); (focus assumption); (focus omega)) | ((with_reducible apply Ix.pred); (focus first | assumption | exact fun _ => rfl); (focus omega); (focus omega)) | ((with_reducible apply Ix.lit); (focus exact byLit); (focus first | assumption | exact fun _ => rfl); (focus omega); (focus omega)) | ((with_reducible apply Ix.int); (focus exact rfl); (focus omega); (focus omega)) | ((with_reducible apply Ix.intp); (focus assumption); (focus omega); (focus omega)) | ((apply q_call); (focus exact byNext); (focus exact byLo); (focus (first | exact inR_w | exact is_w)); first | ((apply q_allB) <;> (intro z_b _ _ _; first | exact Bool.noConfusion z_b | replace z_b := of_decide_eq_true z_b | replace z_b := of_decide_eq_false z_b | skip) <;> (first | contradiction | (revert z_b; intros))) | ((apply q_alli) <;> (intro _ _ _ _; try contradiction)) | ((apply q_allv); intro _ _ _)) | apply callC_any | apply forceV_any | apply forceL_any)); all_goals (conv => whnf); all_goals (try with_reducible apply At.mk)))
      (first | (apply fin1; (focus first | exact .inl rfl | exact .inr rfl); focus exact byR1) | (apply fin2; (focus first | exact .inl rfl | exact .inr rfl); (focus exact byR1); (focus exact byR1)) | (apply fin3; (focus first | exact .inl rfl | exact .inr rfl); (focus exact byR1); (focus exact byR1); (focus exact byR1)) | (apply fin0; (focus first | exact .inl rfl | exact .inr rfl)))
      exact ⟨_, rfl, ⟨fun _ => ⟨s, by omega, hb⟩, fun _ => by omega⟩⟩
    | false =>
      (focus ((try with_reducible apply wpC.to); (repeat' ((conv => whnf); first | ((apply Start.mk); (focus exact byNext); (focus exact byLen)) | ((apply Need.mk); (focus exact byNeed)) | ((apply Fork.mk) <;> (intro _; try (exfalso; omega; done))) | ((apply Load1.mk); (focus exact byMem); (focus exact byVal)) | ((with_reducible apply Ix.nat); (focus exact rfl); (focus omega)) | ((with_reducible apply Ix.natp); (focus assumption); (focus omega)) | ((with_reducible apply Ix.pred); (focus first | assumption | exact fun _ => rfl); (focus omega); (focus omega)) | ((with_reducible apply Ix.lit); (focus exact byLit); (focus first | assumption | exact fun _ => rfl); (focus omega); (focus omega)) | ((with_reducible apply Ix.int); (focus exact rfl); (focus omega); (focus omega)) | ((with_reducible apply Ix.intp); (focus assumption); (focus omega); (focus omega)) | ((apply q_call); (focus exact byNext); (focus exact byLo); (focus (first | exact inR_w | exact is_w)); first | ((apply q_allB) <;> (intro z_b _ _ _; first | exact Bool.noConfusion z_b | replace z_b := of_decide_eq_true z_b | replace z_b := of_decide_eq_false z_b | skip) <;> (first | contradiction | (revert z_b; intros))) | ((apply q_alli) <;> (intro _ _ _ _; try contradiction)) | ((apply q_allv); intro _ _ _)) | apply callC_any | apply forceV_any | apply forceL_any)); all_goals (conv => whnf); all_goals (try with_reducible apply At.mk)))
      refine hK (s + 1) _ _ ⟨rfl, rfl, rfl, int_of rfl (by omega), trivial⟩ ⟨by (exact byQuiet), by omega, fun i hi => ?_⟩ (by omega)
      by_cases e : i = s
      · subst e; exact hb
      · exact hp i (by omega)
  · (first | (apply fin1; (focus first | exact .inl rfl | exact .inr rfl); focus exact byR1) | (apply fin2; (focus first | exact .inl rfl | exact .inr rfl); (focus exact byR1); (focus exact byR1)) | (apply fin3; (focus first | exact .inl rfl | exact .inr rfl); (focus exact byR1); (focus exact byR1); (focus exact byR1)) | (apply fin0; (focus first | exact .inl rfl | exact .inr rfl)))
    refine ⟨_, rfl, ⟨fun h => by omega, fun ⟨i, hi, hpi⟩ => ?_⟩⟩
    rw [hp i (by omega)] at hpi
    cases hpi
theorem anyInts3_w {h : H} {T : Arr} {m : Nat} (hm : m ≤ h.next) (hT : T.Ok m h) {pf : Value} {p : Nat → Bool} (hy : ∀ i h1, i < T.n → Quiet h.next h h1 → ∃ v h2, v = .bool (p i) ∧ ACall Try.prog pf h1.next h1 [.int .i64 (T.f i)] v h2) :
    AW Try.prog 39 h.next h [.slice T.b T.n T.c, pf] (fun v _ => v = .bool (decide (∃ i, i < T.n ∧ p i = true))) := by
  refine fun39.call rfl (Nat.le_refl _) ?_
  unfold a39
  (focus ((try with_reducible apply wpC.to); (repeat' ((conv => whnf); first | ((apply Start.mk); (focus exact byNext); (focus exact byLen)) | ((apply Fork.mk) <;> (intro _; try (exfalso; omega; done))) | ((with_reducible apply Ix.pred); (focus first | assumption | exact fun _ => rfl); (focus omega); (focus omega)) | apply forceV_any | apply forceL_any)); all_goals (conv => whnf); all_goals (try with_reducible apply At.mk)))
  apply q_call
  focus (exact byNext)
  focus (exact byLo)
  focus exact indexInts3_w (m := m) (by (exact byOm)) (hT.same (by (exact bySame)) (Nat.le_refl _)) fun i h1 hi q => hy i h1 hi (Quiet.trans (by (exact byQuiet)) (q.mono (by (exact byOm))))
  rintro _ h1 ⟨z, rfl, hz⟩ q hn
  (focus ((try with_reducible apply wpC.to); (repeat' ((conv => whnf); first | ((apply Start.mk); (focus exact byNext); (focus exact byLen)) | ((apply Fork.mk) <;> (intro _; try (exfalso; omega; done))) | ((with_reducible apply Ix.pred); (focus first | assumption | exact fun _ => rfl); (focus omega); (focus omega)) | apply forceV_any | apply forceL_any)); all_goals (conv => whnf); all_goals (try with_reducible apply At.mk)))
  all_goals (first | (apply fin1; (focus first | exact .inl rfl | exact .inr rfl); focus exact byR1) | (apply fin2; (focus first | exact .inl rfl | exact .inr rfl); (focus exact byR1); (focus exact byR1)) | (apply fin3; (focus first | exact .inl rfl | exact .inr rfl); (focus exact byR1); (focus exact byR1); (focus exact byR1)) | (apply fin0; (focus first | exact .inl rfl | exact .inr rfl)))
  · exact bool_t rfl (hz.1 (by omega))
  · exact bool_f rfl (fun h => by have := hz.2 h; omega)


def sumTo (f : Nat → Int) : Nat → Int
  | 0 => 0
  | k + 1 => sumTo f k + f k
theorem sumTo_small {f : Nat → Int} : ∀ k, (∀ i, i < k → -1000000 ≤ f i ∧ f i ≤ 1000000) → -(k * 1000000) ≤ sumTo f k ∧ sumTo f k ≤ k * 1000000
  | 0, _ => by simp [sumTo]
  | k + 1, h => by
    have := sumTo_small k fun i hi => h i (by omega)
    have := h k (by omega)
    simp only [sumTo]
    omega

theorem sum_w {h : H} {L : Arr} {m : Nat} (hm : m ≤ h.next) (hL : L.Ok m h) (hn : L.n ≤ 1000) (hf : ∀ i, i < L.n → -1000000 ≤ L.f i ∧ L.f i ≤ 1000000) : AW Try.prog 41 h.next h [.slice L.b L.n L.c] (fun v _ => v = .int .i64 (sumTo L.f L.n)) := by
  obtain ⟨le, li, lr, ll⟩ := hL
  refine fun41.call rfl (Nat.le_refl _) ?_
  unfold a41
  (focus ((try with_reducible apply wpC.to); (repeat' ((conv => whnf); first | ((apply Start.mk); (focus exact byNext); (focus exact byLen)) | ((apply Need.mk); (focus exact byNeed)) | ((apply Fork.mk) <;> (intro _; try (exfalso; omega; done))) | ((apply Load1.mk); (focus exact byMem); (focus exact byVal)) | ((with_reducible apply Ix.nat); (focus exact rfl); (focus omega)) | ((with_reducible apply Ix.natp); (focus assumption); (focus omega)) | ((with_reducible apply Ix.pred); (focus first | assumption | exact fun _ => rfl); (focus omega); (focus omega)) | ((with_reducible apply Ix.lit); (focus exact byLit); (focus first | assumption | exact fun _ => rfl); (focus omega); (focus omega)) | ((with_reducible apply Ix.int); (focus exact rfl); (focus omega); (focus omega)) | ((with_reducible apply Ix.intp); (focus assumption); (focus omega); (focus omega)) | apply forceV_any | apply forceL_any)); all_goals (conv => whnf); all_goals (try with_reducible apply At.mk)))
  refine wp_loop (fun s : Nat => [(3, .int .i64 (sumTo L.f s)), (6, .slice L.b L.n L.c), (7, .int .i64 L.n), (8, .int .i64 s)]) (fun s h1 => Quiet h.next h h1 ∧ s ≤ L.n) (fun s => L.n - s) 0 ⟨rfl, rfl, rfl, rfl, trivial⟩ ⟨by (exact byQuiet), by omega⟩ ?_
  rintro s g h1 ⟨q, hs⟩ K hK
  have hnx := q.next
  have hss := sumTo_small (f := L.f) s fun i hi => hf i (by omega)
  have hfs : s < L.n → -1000000 ≤ L.f s ∧ L.f s ≤ 1000000 := hf s
  (focus ((try with_reducible apply wpC.to); (repeat' ((conv => whnf); first | ((apply Start.mk); (focus exact byNext); (focus exact byLen)) | ((apply Need.mk); (focus exact byNeed)) | ((apply Fork.mk) <;> (intro _; try (exfalso; omega; done))) | ((apply Load1.mk); (focus exact byMem); (focus exact byVal)) | ((with_reducible apply Ix.nat); (focus exact rfl); (focus omega)) | ((with_reducible apply Ix.natp); (focus assumption); (focus omega)) | ((with_reducible apply Ix.pred); (focus first | assumption | exact fun _ => rfl); (focus omega); (focus omega)) | ((with_reducible apply Ix.lit); (focus exact byLit); (focus first | assumption | exact fun _ => rfl); (focus omega); (focus omega)) | ((with_reducible apply Ix.int); (focus exact rfl); (focus omega); (focus omega)) | ((with_reducible apply Ix.intp); (focus assumption); (focus omega); (focus omega)) | apply forceV_any | apply forceL_any)); all_goals (conv => whnf); all_goals (try with_reducible apply At.mk)))
  · refine hK (s + 1) _ _ ⟨rfl, rfl, rfl, int_of rfl (by omega), trivial⟩ ⟨by (exact byQuiet), by omega⟩ (by omega)
  · (first | (apply fin1; (focus first | exact .inl rfl | exact .inr rfl); focus exact byR1) | (apply fin2; (focus first | exact .inl rfl | exact .inr rfl); (focus exact byR1); (focus exact byR1)) | (apply fin3; (focus first | exact .inl rfl | exact .inr rfl); (focus exact byR1); (focus exact byR1); (focus exact byR1)) | (apply fin0; (focus first | exact .inl rfl | exact .inr rfl)))
    have : s = L.n := by omega
    rw [this]

/-- A ring of a table: its nodes, and its bounds. -/
structure RingOk (T : Tab) (L : Arr) (nd : Nat → Nat) (ws : Nat → Int) : Prop where
  n2 : 2 ≤ L.n
  n : L.n ≤ 20
  nod : ∀ i, i < L.n → L.f i = (nd i : Int)
  lt : ∀ i, i < L.n → nd i < T.toTable.many
  wei : ∀ i, i + 1 < L.n → netOf T.toTable (nd i) (nd (i + 1)) = some (ws i)
  back : nd 0 = nd (L.n - 1)
/-- What CheckRing answers. -/
def ringV (S : Int) : Value := .tuple #[.int .i64 (if S < 0 then S else 0), .int .i64 (if S < 0 then 0 else 14)]

theorem beyondNode_w {h : H} {T : Tab} {r p : Nat} {z : Int} {B : Net} {e e' : TypeId} (hp : h.get p = some (.cells [.pointer (some ⟨r, 0, none⟩)] e')) (hg : h.get r = some (.cells (T.head ++ netRows B) e)) : AW Try.prog 40 h.next h [.int .i64 z, .pointer (some ⟨p, 0, none⟩)] (fun v _ => v = .bool (decide (z < 0 ∨ 1 + T.tanks + T.hulls ≤ z))) := by
  refine fun40.call rfl (Nat.le_refl _) ?_
  unfold a40
  (focus ((try with_reducible apply wpC.to); (repeat' ((conv => whnf); first | ((apply Start.mk); (focus exact byNext); (focus exact byLen)) | ((apply Fork.mk) <;> (intro _; try (exfalso; omega; done))) | ((apply Load1.mk); (focus exact byMem); (focus exact byVal)) | ((with_reducible apply Ix.pred); (focus first | assumption | exact fun _ => rfl); (focus omega); (focus omega)) | apply forceV_any | apply forceL_any)); all_goals (conv => whnf); all_goals (try with_reducible apply At.mk)))
  all_goals (((first | (apply fin1; (focus first | exact .inl rfl | exact .inr rfl); focus exact byR1) | (apply fin2; (focus first | exact .inl rfl | exact .inr rfl); (focus exact byR1); (focus exact byR1)) | (apply fin3; (focus first | exact .inl rfl | exact .inr rfl); (focus exact byR1); (focus exact byR1); (focus exact byR1)) | (apply fin0; (focus first | exact .inl rfl | exact .inr rfl))); first | exact bool_t rfl (by omega) | exact bool_f rfl (by omega)))

set_option maxHeartbeats 1000000 in
theorem checkRing_w {h : H} {T : Tab} {L : Arr} {nd : Nat → Nat} {ws : Nat → Int} {m : Nat} (hm : m ≤ h.next) (hT : T.Ok m h) (hv : T.Valid) (hL : L.Ok h.next h) (hs : L.a.spot = none) (hc : L.n = L.c) (hR : RingOk T L nd ws) :
    AW Try.prog 22 h.next h [.agg ⟨T.cells⟩, .slice L.b L.n L.c] (fun v _ => v = ringV (sumTo ws (L.n - 1))) := by
  have hok := hv.ok
  have hmm := hok.many
  obtain ⟨rn2, rn, rnd, rlt, rws, rback⟩ := hR
  obtain ⟨le, li, lr, ll⟩ := hL
  obtain ⟨hN, -⟩ : (T.toTable.many : Int) = 1 + T.tanks + T.hulls ∧ True := ⟨by have := hv.t1; have := hv.h1; simp only [Table.many, Tab.toTable]; omega, trivial⟩
  refine fun22.call rfl (Nat.le_refl _) ?_
  unfold a22
  (focus ((try with_reducible apply wpC.to); (repeat' ((conv => whnf); first | ((apply Start.mk); (focus exact byNext); (focus exact byLen)) | ((apply New.mk); (focus exact byNid)) | ((apply Need.mk); (focus exact byNeed)) | ((apply Fork.mk) <;> (intro _; try (exfalso; omega; done))) | ((apply Load1.mk); (focus exact byMem); (focus exact byVal)) | ((apply LoadN.mk); (focus exact byMem); (focus exact byList)) | ((apply Sto.mk); (focus exact bySto); (focus exact byLo); (focus exact byGet); (focus exact rfl); (focus exact rfl); (focus exact rfl); (focus exact byList)) | ((with_reducible apply Ix.nat); (focus exact rfl); (focus omega)) | ((with_reducible apply Ix.natp); (focus assumption); (focus omega)) | ((with_reducible apply Ix.pred); (focus first | assumption | exact fun _ => rfl); (focus omega); (focus omega)) | ((with_reducible apply Ix.lit); (focus exact byLit); (focus first | assumption | exact fun _ => rfl); (focus omega); (focus omega)) | ((with_reducible apply Ix.int); (focus exact rfl); (focus omega); (focus omega)) | ((with_reducible apply Ix.intp); (focus assumption); (focus omega); (focus omega)) | ((with_reducible apply IxA.nat); (focus omega)) | ((with_reducible apply IxA.lit); (focus exact byLit); (focus omega); (focus omega)) | ((with_reducible apply IxA.int); (focus omega); (focus omega)) | ((apply OpE.val); (focus exact rfl); (focus exact byVal)) | apply forceV_any | apply forceL_any)); all_goals (conv => whnf); all_goals (try with_reducible apply At.mk)))
  apply q_callv
  focus (exact byNext)
  focus (exact byLo)
  focus exact checkTable_w (m := m) (by (exact byOm)) (hT.same (by (exact bySame)) (Nat.le_refl _)) hv
  intro h1 q1 hn1
  (focus ((try with_reducible apply wpC.to); (repeat' ((conv => whnf); first | ((apply Start.mk); (focus exact byNext); (focus exact byLen)) | ((apply New.mk); (focus exact byNid)) | ((apply Need.mk); (focus exact byNeed)) | ((apply Fork.mk) <;> (intro _; try (exfalso; omega; done))) | ((apply Load1.mk); (focus exact byMem); (focus exact byVal)) | ((apply LoadN.mk); (focus exact byMem); (focus exact byList)) | ((apply Sto.mk); (focus exact bySto); (focus exact byLo); (focus exact byGet); (focus exact rfl); (focus exact rfl); (focus exact rfl); (focus exact byList)) | ((with_reducible apply Ix.nat); (focus exact rfl); (focus omega)) | ((with_reducible apply Ix.natp); (focus assumption); (focus omega)) | ((with_reducible apply Ix.pred); (focus first | assumption | exact fun _ => rfl); (focus omega); (focus omega)) | ((with_reducible apply Ix.lit); (focus exact byLit); (focus first | assumption | exact fun _ => rfl); (focus omega); (focus omega)) | ((with_reducible apply Ix.int); (focus exact rfl); (focus omega); (focus omega)) | ((with_reducible apply Ix.intp); (focus assumption); (focus omega); (focus omega)) | ((with_reducible apply IxA.nat); (focus omega)) | ((with_reducible apply IxA.lit); (focus exact byLit); (focus omega); (focus omega)) | ((with_reducible apply IxA.int); (focus omega); (focus omega)) | ((apply OpE.val); (focus exact rfl); (focus exact byVal)) | apply forceV_any | apply forceL_any)); all_goals (conv => whnf); all_goals (try with_reducible apply At.mk)))
  apply q_call
  focus (exact byNext)
  focus (exact byLo)
  focus exact newNet_w (m := m) (by (exact byOm)) (hT.same (by (exact bySame)) (Nat.le_refl _)) hv
  rintro _ h2 ⟨r, e, rfl, hr1, hr2, hr3⟩ q2 hn2
  try simp only [put_next, bump_next] at hr1
  (focus ((try with_reducible apply wpC.to); (repeat' ((conv => whnf); first | ((apply Start.mk); (focus exact byNext); (focus exact byLen)) | ((apply New.mk); (focus exact byNid)) | ((apply Need.mk); (focus exact byNeed)) | ((apply Fork.mk) <;> (intro _; try (exfalso; omega; done))) | ((apply Load1.mk); (focus exact byMem); (focus exact byVal)) | ((apply LoadN.mk); (focus exact byMem); (focus exact byList)) | ((apply Sto.mk); (focus exact bySto); (focus exact byLo); (focus exact byGet); (focus exact rfl); (focus exact rfl); (focus exact rfl); (focus exact byList)) | ((with_reducible apply Ix.nat); (focus exact rfl); (focus omega)) | ((with_reducible apply Ix.natp); (focus assumption); (focus omega)) | ((with_reducible apply Ix.pred); (focus first | assumption | exact fun _ => rfl); (focus omega); (focus omega)) | ((with_reducible apply Ix.lit); (focus exact byLit); (focus first | assumption | exact fun _ => rfl); (focus omega); (focus omega)) | ((with_reducible apply Ix.int); (focus exact rfl); (focus omega); (focus omega)) | ((with_reducible apply Ix.intp); (focus assumption); (focus omega); (focus omega)) | ((with_reducible apply IxA.nat); (focus omega)) | ((with_reducible apply IxA.lit); (focus exact byLit); (focus omega); (focus omega)) | ((with_reducible apply IxA.int); (focus omega); (focus omega)) | ((apply OpE.val); (focus exact rfl); (focus exact byVal)) | apply forceV_any | apply forceL_any)); all_goals (conv => whnf); all_goals (try with_reducible apply At.mk)))
  have hLk : ∀ h3 : H, Same h.next h h3 → L.Ok h.next h3 := fun h3 sm => Arr.Ok.same ⟨le, li, lr, ll⟩ sm (Nat.le_refl _)
  apply q_callB
  focus (exact byNext)
  focus (exact byLo)
  focus
    refine anyInts3_w (T := L) (m := h.next) (p := fun i => decide (L.f i < 0 ∨ 1 + T.tanks + T.hulls ≤ L.f i)) (by (exact byOm)) (hLk _ (by (exact bySame))) fun i k1 hi q => ?_
    exact acall_of (beyondNode_w (r := r) (p := h1.next + 4) (B := netOf T.toTable) (e := e) (e' := 62) ((q.same _ (by (exact byOm))).trans (by (exact byGet))) ((q.same _ (by (exact byOm))).trans (by (exact byGet)))) rfl
  · intro hb h3 q3 hn3
    exfalso
    obtain ⟨i, hi, h4⟩ := of_decide_eq_true hb
    have := of_decide_eq_true h4
    have := rnd i hi
    have := rlt i hi
    omega
  intro _ h3 q3 hn3
  (focus ((try with_reducible apply wpC.to); (repeat' ((conv => whnf); first | ((apply Start.mk); (focus exact byNext); (focus exact byLen)) | ((apply New.mk); (focus exact byNid)) | ((apply Need.mk); (focus exact byNeed)) | ((apply Fork.mk) <;> (intro _; try (exfalso; omega; done))) | ((apply Load1.mk); (focus exact byMem); (focus exact byVal)) | ((apply LoadN.mk); (focus exact byMem); (focus exact byList)) | ((apply Sto.mk); (focus exact bySto); (focus exact byLo); (focus exact byGet); (focus exact rfl); (focus exact rfl); (focus exact rfl); (focus exact byList)) | ((with_reducible apply Ix.nat); (focus exact rfl); (focus omega)) | ((with_reducible apply Ix.natp); (focus assumption); (focus omega)) | ((with_reducible apply Ix.pred); (focus first | assumption | exact fun _ => rfl); (focus omega); (focus omega)) | ((with_reducible apply Ix.lit); (focus exact byLit); (focus first | assumption | exact fun _ => rfl); (focus omega); (focus omega)) | ((with_reducible apply Ix.int); (focus exact rfl); (focus omega); (focus omega)) | ((with_reducible apply Ix.intp); (focus assumption); (focus omega); (focus omega)) | ((with_reducible apply IxA.nat); (focus omega)) | ((with_reducible apply IxA.lit); (focus exact byLit); (focus omega); (focus omega)) | ((with_reducible apply IxA.int); (focus omega); (focus omega)) | ((apply OpE.val); (focus exact rfl); (focus exact byVal)) | apply forceV_any | apply forceL_any)); all_goals (conv => whnf); all_goals (try with_reducible apply At.mk)))
  have hb0 : L.b = some L.a := le (by omega)
  apply q_slfrom (a := L.a) (n := L.n) (c := L.c) (l := 1)
  focus (rw [← hb0]; exact rfl)
  focus exact rfl
  focus exact hs
  focus omega
  focus omega
  focus omega
  focus (unfold far; omega)
  (focus ((try with_reducible apply wpC.to); (repeat' ((conv => whnf); first | ((apply Start.mk); (focus exact byNext); (focus exact byLen)) | ((apply New.mk); (focus exact byNid)) | ((apply Need.mk); (focus exact byNeed)) | ((apply Fork.mk) <;> (intro _; try (exfalso; omega; done))) | ((apply Load1.mk); (focus exact byMem); (focus exact byVal)) | ((apply LoadN.mk); (focus exact byMem); (focus exact byList)) | ((apply Sto.mk); (focus exact bySto); (focus exact byLo); (focus exact byGet); (focus exact rfl); (focus exact rfl); (focus exact rfl); (focus exact byList)) | ((with_reducible apply Ix.nat); (focus exact rfl); (focus omega)) | ((with_reducible apply Ix.natp); (focus assumption); (focus omega)) | ((with_reducible apply Ix.pred); (focus first | assumption | exact fun _ => rfl); (focus omega); (focus omega)) | ((with_reducible apply Ix.lit); (focus exact byLit); (focus first | assumption | exact fun _ => rfl); (focus omega); (focus omega)) | ((with_reducible apply Ix.int); (focus exact rfl); (focus omega); (focus omega)) | ((with_reducible apply Ix.intp); (focus assumption); (focus omega); (focus omega)) | ((with_reducible apply IxA.nat); (focus omega)) | ((with_reducible apply IxA.lit); (focus exact byLit); (focus omega); (focus omega)) | ((with_reducible apply IxA.int); (focus omega); (focus omega)) | ((apply OpE.val); (focus exact rfl); (focus exact byVal)) | apply forceV_any | apply forceL_any)); all_goals (conv => whnf); all_goals (try with_reducible apply At.mk)))
  refine wp_loop (fun s : Nat × Option Addr => [(1, .slice L.b L.n L.c), (7, .pointer (some ⟨h1.next + 4, 0, none⟩)), (8, .slice s.2 s.1 0), (34, .slice (some (aadd L.a (1 * 1))) (L.n - 1) (L.c - 1)), (35, .int .i64 ((L.n - 1 : Nat) : Int)), (36, .int .i64 s.1)])
    (fun s h4 => Same h.next h h4 ∧ h2.next + 13 ≤ h4.next ∧ s.1 ≤ L.n - 1 ∧ h4.get (h1.next + 4) = some (.cells [.pointer (some ⟨r, 0, none⟩)] 62) ∧ h4.get r = some (.cells (T.head ++ netRows (netOf T.toTable)) e) ∧ Grown (h2.next + 1) h4.next h4 2 1 s.1 (rowsOf (fun i => [.int .i64 (ws i)]) s.1) s.2) (fun s => L.n - 1 - s.1) (0, none)
    ⟨rfl, rfl, rfl, rfl, rfl, rfl, trivial⟩ ⟨by (exact bySame), by (exact byOm), by simp only; omega, by (exact byGet), by (exact byGet), Grown.nil⟩ ?_
  rintro ⟨s, v⟩ g h4 ⟨sm, hn4, hs4, g1, g2, G⟩ K hK
  simp only at hs4 G hK
  have li4 : Ints h4 L.a L.n (fun i => (nd i : Int)) := fun i hi => by rw [(hLk h4 sm).i i hi, rnd i hi]
  have hnd : s < L.n - 1 → nd s < 13 ∧ nd (1 + s) < 13 ∧ netOf T.toTable (nd s) (nd (1 + s)) = some (ws s) := fun h => ⟨by have := rlt s (by omega); omega, by have := rlt (1 + s) (by omega); omega, by rw [Nat.add_comm 1 s]; exact rws s (by omega)⟩
  (focus ((try with_reducible apply wpC.to); (repeat' ((conv => whnf); first | ((apply Start.mk); (focus exact byNext); (focus exact byLen)) | ((apply New.mk); (focus exact byNid)) | ((apply Need.mk); (focus exact byNeed)) | ((apply Fork.mk) <;> (intro _; try (exfalso; omega; done))) | ((apply Load1.mk); (focus exact byMem); (focus exact byVal)) | ((apply LoadN.mk); (focus exact byMem); (focus exact byList)) | ((apply Sto.mk); (focus exact bySto); (focus exact byLo); (focus exact byGet); (focus exact rfl); (focus exact rfl); (focus exact rfl); (focus exact byList)) | ((with_reducible apply Ix.nat); (focus exact rfl); (focus omega)) | ((with_reducible apply Ix.natp); (focus assumption); (focus omega)) | ((with_reducible apply Ix.pred); (focus first | assumption | exact fun _ => rfl); (focus omega); (focus omega)) | ((with_reducible apply Ix.lit); (focus exact byLit); (focus first | assumption | exact fun _ => rfl); (focus omega); (focus omega)) | ((with_reducible apply Ix.int); (focus exact rfl); (focus omega); (focus omega)) | ((with_reducible apply Ix.intp); (focus assumption); (focus omega); (focus omega)) | ((with_reducible apply IxA.nat); (focus omega)) | ((with_reducible apply IxA.lit); (focus exact byLit); (focus omega); (focus omega)) | ((with_reducible apply IxA.int); (focus omega); (focus omega)) | ((apply OpE.val); (focus exact rfl); (focus exact byVal)) | apply forceV_any | apply forceL_any)); all_goals (conv => whnf); all_goals (try with_reducible apply At.mk)))
  · obtain ⟨hn1, hn2', hw⟩ := hnd (by omega)
    refine Load1.mk ((Ints.shift li4 1).at (m := s) (by omega)) rfl ?_
    (focus ((try with_reducible apply wpC.to); (repeat' ((conv => whnf); first | ((apply Start.mk); (focus exact byNext); (focus exact byLen)) | ((apply New.mk); (focus exact byNid)) | ((apply Need.mk); (focus exact byNeed)) | ((apply Fork.mk) <;> (intro _; try (exfalso; omega; done))) | ((apply Load1.mk); (focus exact byMem); (focus exact byVal)) | ((apply LoadN.mk); (focus exact byMem); (focus exact byList)) | ((apply Sto.mk); (focus exact bySto); (focus exact byLo); (focus exact byGet); (focus exact rfl); (focus exact rfl); (focus exact rfl); (focus exact byList)) | ((with_reducible apply Ix.nat); (focus exact rfl); (focus omega)) | ((with_reducible apply Ix.natp); (focus assumption); (focus omega)) | ((with_reducible apply Ix.pred); (focus first | assumption | exact fun _ => rfl); (focus omega); (focus omega)) | ((with_reducible apply Ix.lit); (focus exact byLit); (focus first | assumption | exact fun _ => rfl); (focus omega); (focus omega)) | ((with_reducible apply Ix.int); (focus exact rfl); (focus omega); (focus omega)) | ((with_reducible apply Ix.intp); (focus assumption); (focus omega); (focus omega)) | ((with_reducible apply IxA.nat); (focus omega)) | ((with_reducible apply IxA.lit); (focus exact byLit); (focus omega); (focus omega)) | ((with_reducible apply IxA.int); (focus omega); (focus omega)) | ((apply OpE.val); (focus exact rfl); (focus exact byVal)) | apply forceV_any | apply forceL_any)); all_goals (conv => whnf); all_goals (try with_reducible apply At.mk)))
    have hld : ∀ h5 : H, h5.get r = some (.cells (T.head ++ netRows (netOf T.toTable)) e) → h5.loadN ⟨r, 0 + 6 + nd s * 26 + nd (1 + s) * 2, none⟩ 2 = some (boundV (some (ws s))) := fun h5 h5g => by
      refine loadN_cells h5g ?_
      have := netRows_get (netOf T.toTable) hn1 hn2' T.head [] (a := 0 + 6 + nd s * 26 + nd (1 + s) * 2) (by rw [T.head_len])
      rw [hw] at this
      simpa using this
    refine LoadN.mk (l := boundV (some (ws s))) (hld _ (by (exact byGet))) Is.rfl ?_
    (focus ((try with_reducible apply wpC.to); (repeat' ((conv => whnf); first | ((apply Start.mk); (focus exact byNext); (focus exact byLen)) | ((apply New.mk); (focus exact byNid)) | ((apply Need.mk); (focus exact byNeed)) | ((apply Fork.mk) <;> (intro _; try (exfalso; omega; done))) | ((apply Load1.mk); (focus exact byMem); (focus exact byVal)) | ((apply LoadN.mk); (focus exact byMem); (focus exact byList)) | ((apply Sto.mk); (focus exact bySto); (focus exact byLo); (focus exact byGet); (focus exact rfl); (focus exact rfl); (focus exact rfl); (focus exact byList)) | ((with_reducible apply Ix.nat); (focus exact rfl); (focus omega)) | ((with_reducible apply Ix.natp); (focus assumption); (focus omega)) | ((with_reducible apply Ix.pred); (focus first | assumption | exact fun _ => rfl); (focus omega); (focus omega)) | ((with_reducible apply Ix.lit); (focus exact byLit); (focus first | assumption | exact fun _ => rfl); (focus omega); (focus omega)) | ((with_reducible apply Ix.int); (focus exact rfl); (focus omega); (focus omega)) | ((with_reducible apply Ix.intp); (focus assumption); (focus omega); (focus omega)) | ((with_reducible apply IxA.nat); (focus omega)) | ((with_reducible apply IxA.lit); (focus exact byLit); (focus omega); (focus omega)) | ((with_reducible apply IxA.int); (focus omega); (focus omega)) | ((apply OpE.val); (focus exact rfl); (focus exact byVal)) | apply forceV_any | apply forceL_any)); all_goals (conv => whnf); all_goals (try with_reducible apply At.mk)))
    refine OpE.pure (.bool false) (xPure_eql (A := ⟨boundV (some (ws s))⟩) (B := ⟨boundV none⟩) rfl rfl rfl rfl rfl (by kernel_rfl) ((bound_none (some (ws s))).run 2 Op.maxDepth (by decide))) ?_
    (focus ((try with_reducible apply wpC.to); (repeat' ((conv => whnf); first | ((apply Start.mk); (focus exact byNext); (focus exact byLen)) | ((apply New.mk); (focus exact byNid)) | ((apply Need.mk); (focus exact byNeed)) | ((apply Fork.mk) <;> (intro _; try (exfalso; omega; done))) | ((apply Load1.mk); (focus exact byMem); (focus exact byVal)) | ((apply LoadN.mk); (focus exact byMem); (focus exact byList)) | ((apply Sto.mk); (focus exact bySto); (focus exact byLo); (focus exact byGet); (focus exact rfl); (focus exact rfl); (focus exact rfl); (focus exact byList)) | ((with_reducible apply Ix.nat); (focus exact rfl); (focus omega)) | ((with_reducible apply Ix.natp); (focus assumption); (focus omega)) | ((with_reducible apply Ix.pred); (focus first | assumption | exact fun _ => rfl); (focus omega); (focus omega)) | ((with_reducible apply Ix.lit); (focus exact byLit); (focus first | assumption | exact fun _ => rfl); (focus omega); (focus omega)) | ((with_reducible apply Ix.int); (focus exact rfl); (focus omega); (focus omega)) | ((with_reducible apply Ix.intp); (focus assumption); (focus omega); (focus omega)) | ((with_reducible apply IxA.nat); (focus omega)) | ((with_reducible apply IxA.lit); (focus exact byLit); (focus omega); (focus omega)) | ((with_reducible apply IxA.int); (focus omega); (focus omega)) | ((apply OpE.val); (focus exact rfl); (focus exact byVal)) | apply forceV_any | apply forceL_any)); all_goals (conv => whnf); all_goals (try with_reducible apply At.mk)))
    apply q_appG (b := h2.next + 1) (N := h4.next) (n := s) (m := 1) (nc := [.int .i64 (ws s)])
    case hsv => exact rfl
    case G => exact G.frame (Nat.le_refl _) fun j hj1 hj2 => get_of fun y hy => by (exact byGet)
    case C => exact Cells.one (by (exact byMem)) (by unfold far; omega) rfl rfl
    case hm => omega
    case hlo => omega
    case hb => (exact byOm)
    case hN => (exact byOm)
    case hsm => omega
    intro v' j row hj1 hj2 hj3 G'
    (focus ((try with_reducible apply wpC.to); (repeat' ((conv => whnf); first | ((apply Start.mk); (focus exact byNext); (focus exact byLen)) | ((apply New.mk); (focus exact byNid)) | ((apply Need.mk); (focus exact byNeed)) | ((apply Fork.mk) <;> (intro _; try (exfalso; omega; done))) | ((apply Load1.mk); (focus exact byMem); (focus exact byVal)) | ((apply LoadN.mk); (focus exact byMem); (focus exact byList)) | ((apply Sto.mk); (focus exact bySto); (focus exact byLo); (focus exact byGet); (focus exact rfl); (focus exact rfl); (focus exact rfl); (focus exact byList)) | ((with_reducible apply Ix.nat); (focus exact rfl); (focus omega)) | ((with_reducible apply Ix.natp); (focus assumption); (focus omega)) | ((with_reducible apply Ix.pred); (focus first | assumption | exact fun _ => rfl); (focus omega); (focus omega)) | ((with_reducible apply Ix.lit); (focus exact byLit); (focus first | assumption | exact fun _ => rfl); (focus omega); (focus omega)) | ((with_reducible apply Ix.int); (focus exact rfl); (focus omega); (focus omega)) | ((with_reducible apply Ix.intp); (focus assumption); (focus omega); (focus omega)) | ((with_reducible apply IxA.nat); (focus omega)) | ((with_reducible apply IxA.lit); (focus exact byLit); (focus omega); (focus omega)) | ((with_reducible apply IxA.int); (focus omega); (focus omega)) | ((apply OpE.val); (focus exact rfl); (focus exact byVal)) | apply forceV_any | apply forceL_any)); all_goals (conv => whnf); all_goals (try with_reducible apply At.mk)))
    refine hK (s + 1, v') _ _ ⟨rfl, rfl, rfl, rfl, rfl, int_of rfl (by simp only; omega), trivial⟩ ⟨by (exact bySame), by (exact byOm), by simp only; omega, by (exact byGet), by (exact byGet), ?_⟩ (by simp only; omega)
    exact G'.frame (by (exact byOm)) fun i hi1 hi2 => get_of fun y hy => by (exact byGet)
  have : s = L.n - 1 := by simp only at *; omega
  subst this
  obtain ⟨a, ha, hE, hb⟩ := G.els (fun _ => rfl)
  have hwb : ∀ i, i < L.n - 1 → -1000000 ≤ ws i ∧ ws i ≤ 1000000 := fun i hi => by
    have := (lim_net hok _ _ _ (rws i (by omega))).2.2
    unfold AgreeS.M at this
    omega
  apply q_callv
  focus (exact byNext)
  focus (exact byLo)
  focus exact sum_w (L := ⟨L.n - 1, ws, v, a, 0⟩) (m := h4.next) (by (exact byOm)) ⟨ha, fun i hi => by have := hE i hi; rw [Nat.mul_one] at this; exact this, fun h0 => (hb h0).2, by simp only; omega⟩ (by simp only; omega) hwb
  intro h5 q5 hn5
  have hss := sumTo_small (f := ws) (L.n - 1) hwb
  simp only
  have li5 : Ints h5 L.a L.n (fun i => (nd i : Int)) := li4.same (m := h.next) (by (exact bySame)) lr
  (focus ((try with_reducible apply wpC.to); (repeat' ((conv => whnf); first | ((apply Start.mk); (focus exact byNext); (focus exact byLen)) | ((apply New.mk); (focus exact byNid)) | ((apply Need.mk); (focus exact byNeed)) | ((apply Fork.mk) <;> (intro _; try (exfalso; omega; done))) | ((apply Load1.mk); (focus exact byMem); (focus exact byVal)) | ((apply LoadN.mk); (focus exact byMem); (focus exact byList)) | ((apply Sto.mk); (focus exact bySto); (focus exact byLo); (focus exact byGet); (focus exact rfl); (focus exact rfl); (focus exact rfl); (focus exact byList)) | ((with_reducible apply Ix.nat); (focus exact rfl); (focus omega)) | ((with_reducible apply Ix.natp); (focus assumption); (focus omega)) | ((with_reducible apply Ix.pred); (focus first | assumption | exact fun _ => rfl); (focus omega); (focus omega)) | ((with_reducible apply Ix.lit); (focus exact byLit); (focus first | assumption | exact fun _ => rfl); (focus omega); (focus omega)) | ((with_reducible apply Ix.int); (focus exact rfl); (focus omega); (focus omega)) | ((with_reducible apply Ix.intp); (focus assumption); (focus omega); (focus omega)) | ((with_reducible apply IxA.nat); (focus omega)) | ((with_reducible apply IxA.lit); (focus exact byLit); (focus omega); (focus omega)) | ((with_reducible apply IxA.int); (focus omega); (focus omega)) | ((apply OpE.val); (focus exact rfl); (focus exact byVal)) | apply forceV_any | apply forceL_any)); all_goals (conv => whnf); all_goals (try with_reducible apply At.mk)))
  all_goals (first | (apply fin1; (focus first | exact .inl rfl | exact .inr rfl); focus exact byR1) | (apply fin2; (focus first | exact .inl rfl | exact .inr rfl); (focus exact byR1); (focus exact byR1)) | (apply fin3; (focus first | exact .inl rfl | exact .inr rfl); (focus exact byR1); (focus exact byR1); (focus exact byR1)) | (apply fin0; (focus first | exact .inl rfl | exact .inr rfl)))
  all_goals first
    | (unfold ringV; rw [if_neg (show ¬ sumTo ws (L.n - 1) < 0 by omega), if_neg (show ¬ sumTo ws (L.n - 1) < 0 by omega)]; done)
    | (unfold ringV; rw [if_pos (show sumTo ws (L.n - 1) < 0 by omega), if_pos (show sumTo ws (L.n - 1) < 0 by omega)]; done)

end AE.Try
