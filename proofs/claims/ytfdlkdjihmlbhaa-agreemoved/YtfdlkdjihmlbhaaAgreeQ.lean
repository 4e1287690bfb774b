/- Walks of agree: the definitions' check of a ring. -/
import Derived.Test.YtfdlkdjihmlbhaaAgreeP
set_option linter.unusedVariables false
set_option linter.unusedSimpArgs false
set_option linter.unusedSectionVars false
namespace AE.Try
set_option linter.unusedSimpArgs false
open Go AE AE.Ag AgreeS Go.Proofs
set_option maxRecDepth 100000

set_option maxHeartbeats 1000000 in
theorem refRing_w {h : H} {T : Tab} {L : Arr} {nd : Nat → Nat} {ws : Nat → Int} {m : Nat} (hm : m ≤ h.next) (hT : T.Ok m h) (hv : T.Valid) (hL : L.Ok h.next h) (hR : RingOk T L nd ws) :
    AW Try.prog 27 h.next h [.agg ⟨T.cells⟩, .slice L.b L.n L.c] (fun v _ => v = ringV (sumTo ws (L.n - 1))) := by
  have hok := hv.ok
  have hmm := hok.many
  obtain ⟨rn2, rn, rnd, rlt, rws, rback⟩ := hR
  obtain ⟨le, li, lr, ll⟩ := hL
  refine fun27.call rfl (Nat.le_refl _) ?_
  unfold a27
  (focus ((try with_reducible apply wpC.to); (repeat' ((conv => whnf); first | ((apply Start.mk); (focus exact byNext); (focus exact byLen)) | ((apply New.mk); (focus exact byNid)) | ((apply Need.mk); (focus exact byNeed)) | ((apply Fork.mk) <;> (intro _; try (exfalso; omega; done))) | ((apply Load1.mk); (focus exact byMem); (focus exact byVal)) | ((apply LoadN.mk); (focus exact byMem); (focus exact byList)) | ((with_reducible apply Ix.nat); (focus exact rfl); (focus omega)) | ((with_reducible apply Ix.natp); (focus assumption); (focus omega)) | ((with_reducible apply Ix.pred); (focus first | assumption | exact fun _ => rfl); (focus omega); (focus omega)) | ((with_reducible apply Ix.lit); (focus exact byLit); (focus first | assumption | exact fun _ => rfl); (focus omega); (focus omega)) | ((with_reducible apply Ix.int); (focus exact rfl); (focus omega); (focus omega)) | ((with_reducible apply Ix.intp); (focus assumption); (focus omega); (focus omega)) | apply forceV_any | apply forceL_any)); all_goals (conv => whnf); all_goals (try with_reducible apply At.mk)))
  apply q_callv
  focus (exact byNext)
  focus (exact byLo)
  focus exact refTable_ok (m := m) (by (exact byOm)) (hT.same (by (exact bySame)) (Nat.le_refl _)) hv
  intro h1 q1 hn1
  (focus ((try with_reducible apply wpC.to); (repeat' ((conv => whnf); first | ((apply Start.mk); (focus exact byNext); (focus exact byLen)) | ((apply New.mk); (focus exact byNid)) | ((apply Need.mk); (focus exact byNeed)) | ((apply Fork.mk) <;> (intro _; try (exfalso; omega; done))) | ((apply Load1.mk); (focus exact byMem); (focus exact byVal)) | ((apply LoadN.mk); (focus exact byMem); (focus exact byList)) | ((with_reducible apply Ix.nat); (focus exact rfl); (focus omega)) | ((with_reducible apply Ix.natp); (focus assumption); (focus omega)) | ((with_reducible apply Ix.pred); (focus first | assumption | exact fun _ => rfl); (focus omega); (focus omega)) | ((with_reducible apply Ix.lit); (focus exact byLit); (focus first | assumption | exact fun _ => rfl); (focus omega); (focus omega)) | ((with_reducible apply Ix.int); (focus exact rfl); (focus omega); (focus omega)) | ((with_reducible apply Ix.intp); (focus assumption); (focus omega); (focus omega)) | apply forceV_any | apply forceL_any)); all_goals (conv => whnf); all_goals (try with_reducible apply At.mk)))
  apply q_call
  focus (exact byNext)
  focus (exact byLo)
  focus exact bounds_w (m := m) (by (exact byOm)) (hT.same (by (exact bySame)) (Nat.le_refl _)) hv
  rintro _ h2 ⟨a4, va, rfl, hP⟩ q2 hn2
  generalize hNN : T.toTable.many = N at hP hmm rlt ⊢
  (focus ((try with_reducible apply wpC.to); (repeat' ((conv => whnf); first | ((apply Start.mk); (focus exact byNext); (focus exact byLen)) | ((apply New.mk); (focus exact byNid)) | ((apply Need.mk); (focus exact byNeed)) | ((apply Fork.mk) <;> (intro _; try (exfalso; omega; done))) | ((apply Load1.mk); (focus exact byMem); (focus exact byVal)) | ((apply LoadN.mk); (focus exact byMem); (focus exact byList)) | ((with_reducible apply Ix.nat); (focus exact rfl); (focus omega)) | ((with_reducible apply Ix.natp); (focus assumption); (focus omega)) | ((with_reducible apply Ix.pred); (focus first | assumption | exact fun _ => rfl); (focus omega); (focus omega)) | ((with_reducible apply Ix.lit); (focus exact byLit); (focus first | assumption | exact fun _ => rfl); (focus omega); (focus omega)) | ((with_reducible apply Ix.int); (focus exact rfl); (focus omega); (focus omega)) | ((with_reducible apply Ix.intp); (focus assumption); (focus omega); (focus omega)) | apply forceV_any | apply forceL_any)); all_goals (conv => whnf); all_goals (try with_reducible apply At.mk)))
  have lin : ∀ h3 : H, Same h.next h h3 → Ints h3 L.a L.n (fun i => (nd i : Int)) := fun h3 sm i hi => by
    have := (li.same sm lr) i hi
    rw [this, rnd i hi]
  refine wp_loop (fun s : Nat => [(1, .slice L.b L.n L.c), (6, .slice (some a4) N 0), (7, .int .i64 s)]) (fun s h3 => Same h.next h h3 ∧ Same h2.next h2 h3 ∧ h2.next ≤ h3.next ∧ s ≤ L.n) (fun s => L.n - s) 0 ⟨rfl, rfl, rfl, trivial⟩ ⟨by (exact bySame), by (exact bySame), by (exact byOm), by omega⟩ ?_
  rintro s g h3 ⟨sm, sm2, hn3, hs⟩ K hK
  have li3 := lin h3 sm
  have hlts : s < L.n → nd s < N := rlt s
  (focus ((try with_reducible apply wpC.to); (repeat' ((conv => whnf); first | ((apply Start.mk); (focus exact byNext); (focus exact byLen)) | ((apply New.mk); (focus exact byNid)) | ((apply Need.mk); (focus exact byNeed)) | ((apply Fork.mk) <;> (intro _; try (exfalso; omega; done))) | ((apply Load1.mk); (focus exact byMem); (focus exact byVal)) | ((apply LoadN.mk); (focus exact byMem); (focus exact byList)) | ((with_reducible apply Ix.nat); (focus exact rfl); (focus omega)) | ((with_reducible apply Ix.natp); (focus assumption); (focus omega)) | ((with_reducible apply Ix.pred); (focus first | assumption | exact fun _ => rfl); (focus omega); (focus omega)) | ((with_reducible apply Ix.lit); (focus exact byLit); (focus first | assumption | exact fun _ => rfl); (focus omega); (focus omega)) | ((with_reducible apply Ix.int); (focus exact rfl); (focus omega); (focus omega)) | ((with_reducible apply Ix.intp); (focus assumption); (focus omega); (focus omega)) | apply forceV_any | apply forceL_any)); all_goals (conv => whnf); all_goals (try with_reducible apply At.mk)))
  · refine hK (s + 1) _ _ ⟨rfl, rfl, int_of rfl (by omega), trivial⟩ ⟨sm, sm2, by (exact byOm), by omega⟩ (by omega)
  have : s = L.n := by omega
  subst this
  clear hK K hlts li3
  refine wp_loop (fun u : Nat => [(1, .slice L.b L.n L.c), (6, .slice (some a4) N 0), (8, .int .i64 (sumTo ws u)), (9, .int .i64 (u + 1 : Nat))]) (fun u h4 => Same h.next h h4 ∧ Same h2.next h2 h4 ∧ h2.next ≤ h4.next ∧ u + 1 ≤ L.n) (fun u => L.n - u) 0 ⟨rfl, rfl, rfl, rfl, trivial⟩ ⟨sm, sm2, by (exact byOm), by omega⟩ ?_
  clear sm sm2 hn3 g h3
  rintro u g h4 ⟨sm, sm2, hn4, hu⟩ K hK
  have li4 := lin h4 sm
  have hwb : ∀ i, i + 1 < L.n → -1000000 ≤ ws i ∧ ws i ≤ 1000000 := fun i hi => by
    have := (lim_net hok _ _ _ (rws i (by omega))).2.2
    unfold AgreeS.M at this
    omega
  have hss := sumTo_small (f := ws) u fun i hi => hwb i (by omega)
  have hnn : u + 1 < L.n → nd (u + 1 - 1) < N ∧ nd (u + 1) < N := fun h => ⟨rlt _ (by omega), rlt _ h⟩
  (focus ((try with_reducible apply wpC.to); (repeat' ((conv => whnf); first | ((apply Start.mk); (focus exact byNext); (focus exact byLen)) | ((apply New.mk); (focus exact byNid)) | ((apply Need.mk); (focus exact byNeed)) | ((apply Fork.mk) <;> (intro _; try (exfalso; omega; done))) | ((apply Load1.mk); (focus exact byMem); (focus exact byVal)) | ((apply LoadN.mk); (focus exact byMem); (focus exact byList)) | ((with_reducible apply Ix.nat); (focus exact rfl); (focus omega)) | ((with_reducible apply Ix.natp); (focus assumption); (focus omega)) | ((with_reducible apply Ix.pred); (focus first | assumption | exact fun _ => rfl); (focus omega); (focus omega)) | ((with_reducible apply Ix.lit); (focus exact byLit); (focus first | assumption | exact fun _ => rfl); (focus omega); (focus omega)) | ((with_reducible apply Ix.int); (focus exact rfl); (focus omega); (focus omega)) | ((with_reducible apply Ix.intp); (focus assumption); (focus omega); (focus omega)) | apply forceV_any | apply forceL_any)); all_goals (conv => whnf); all_goals (try with_reducible apply At.mk)))
  · have hP4 : PB N N (bnd (netOf T.toTable)) ((h1.bump 8).bump 3).next h2.next h4 (some a4) va := hP.frame (Nat.le_refl _) fun r hr1 hr2 => sm2 r hr2
    have hu2 : u + 1 < L.n := by omega
    have w1 := rlt u (by omega)
    have w2 := rlt (u + 1) (by omega)
    have w3 : bnd (netOf T.toTable) (nd u) (nd (u + 1)) = ws u := by simp only [bnd, rws u hu2, Option.getD_some]
    have w4 := hwb u hu2
    refine Load1.mk (hP4.outer (i := nd (u + 1 - 1)) (by omega)) rfl ?_
    (focus ((try with_reducible apply wpC.to); (repeat' ((conv => whnf); first | ((apply Start.mk); (focus exact byNext); (focus exact byLen)) | ((apply New.mk); (focus exact byNid)) | ((apply Need.mk); (focus exact byNeed)) | ((apply Fork.mk) <;> (intro _; try (exfalso; omega; done))) | ((apply Load1.mk); (focus exact byMem); (focus exact byVal)) | ((apply LoadN.mk); (focus exact byMem); (focus exact byList)) | ((with_reducible apply Ix.nat); (focus exact rfl); (focus omega)) | ((with_reducible apply Ix.natp); (focus assumption); (focus omega)) | ((with_reducible apply Ix.pred); (focus first | assumption | exact fun _ => rfl); (focus omega); (focus omega)) | ((with_reducible apply Ix.lit); (focus exact byLit); (focus first | assumption | exact fun _ => rfl); (focus omega); (focus omega)) | ((with_reducible apply Ix.int); (focus exact rfl); (focus omega); (focus omega)) | ((with_reducible apply Ix.intp); (focus assumption); (focus omega); (focus omega)) | apply forceV_any | apply forceL_any)); all_goals (conv => whnf); all_goals (try with_reducible apply At.mk)))
    refine Load1.mk (hP4.inner (i := nd (u + 1 - 1)) (j := nd (u + 1)) (by omega) (by omega)) (congrArg (Value.int .i64) w3) ?_
    (focus ((try with_reducible apply wpC.to); (repeat' ((conv => whnf); first | ((apply Start.mk); (focus exact byNext); (focus exact byLen)) | ((apply New.mk); (focus exact byNid)) | ((apply Need.mk); (focus exact byNeed)) | ((apply Fork.mk) <;> (intro _; try (exfalso; omega; done))) | ((apply Load1.mk); (focus exact byMem); (focus exact byVal)) | ((apply LoadN.mk); (focus exact byMem); (focus exact byList)) | ((with_reducible apply Ix.nat); (focus exact rfl); (focus omega)) | ((with_reducible apply Ix.natp); (focus assumption); (focus omega)) | ((with_reducible apply Ix.pred); (focus first | assumption | exact fun _ => rfl); (focus omega); (focus omega)) | ((with_reducible apply Ix.lit); (focus exact byLit); (focus first | assumption | exact fun _ => rfl); (focus omega); (focus omega)) | ((with_reducible apply Ix.int); (focus exact rfl); (focus omega); (focus omega)) | ((with_reducible apply Ix.intp); (focus assumption); (focus omega); (focus omega)) | apply forceV_any | apply forceL_any)); all_goals (conv => whnf); all_goals (try with_reducible apply At.mk)))
    refine hK (u + 1) _ _ ⟨rfl, rfl, rfl, int_of rfl (by omega), trivial⟩ ⟨sm, sm2, by (exact byOm), by omega⟩ (by omega)
  all_goals
    have hul : u = L.n - 1 := by omega
    subst hul
    (first | (apply fin1; (focus first | exact .inl rfl | exact .inr rfl); focus exact byR1) | (apply fin2; (focus first | exact .inl rfl | exact .inr rfl); (focus exact byR1); (focus exact byR1)) | (apply fin3; (focus first | exact .inl rfl | exact .inr rfl); (focus exact byR1); (focus exact byR1); (focus exact byR1)) | (apply fin0; (focus first | exact .inl rfl | exact .inr rfl)))
    first
      | (unfold ringV; rw [if_neg (show ¬ sumTo ws (L.n - 1) < 0 by omega), if_neg (show ¬ sumTo ws (L.n - 1) < 0 by omega)]; done)
      | (unfold ringV; rw [if_pos (show sumTo ws (L.n - 1) < 0 by omega), if_pos (show sumTo ws (L.n - 1) < 0 by omega)]; done)

end AE.Try
