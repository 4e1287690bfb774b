/- Walks of agree: hulls. -/
import Derived.Test.YtfdlkdjihmlbhaaAgreeI
set_option linter.unusedVariables false
set_option linter.unusedSimpArgs false
set_option linter.unusedSectionVars false
namespace AE.Try
open Go AE AE.Ag AgreeS Go.Proofs
set_option maxRecDepth 100000

theorem ofHull_w {h : H} {x : RTest} {r : Nat} {z : Int} {e : TypeId} (hr : r < h.next) (hg : h.get r = some (.cells [.int .i64 z] e)) : AW Try.prog 46 h.next h [.agg ⟨x.cells⟩, .pointer (some ⟨r, 0, none⟩)] (fun v _ => v = .bool (decide (x.hull = z))) := by
  refine fun46.call rfl (Nat.le_refl _) ?_
  unfold a46
  (focus ((try with_reducible apply wpC.to); (repeat' ((conv => whnf); first | ((apply Start.mk); (focus exact byNext); (focus exact byLen)) | ((apply New.mk); (focus exact byNid)) | ((apply Fork.mk) <;> (intro _; try (exfalso; omega; done))) | ((apply Load1.mk); (focus exact byMem); (focus exact byVal)) | ((with_reducible apply Ix.pred); (focus first | assumption | exact fun _ => rfl); (focus omega); (focus omega)) | apply forceV_any | apply forceL_any)); all_goals (conv => whnf); all_goals (try with_reducible apply At.mk)))
  all_goals (((first | (apply fin1; (focus first | exact .inl rfl | exact .inr rfl); focus exact byR1) | (apply fin2; (focus first | exact .inl rfl | exact .inr rfl); (focus exact byR1); (focus exact byR1)) | (apply fin3; (focus first | exact .inl rfl | exact .inr rfl); (focus exact byR1); (focus exact byR1); (focus exact byR1)) | (apply fin0; (focus first | exact .inl rfl | exact .inr rfl))); first | exact bool_t rfl (by omega) | exact bool_f rfl (by omega)))

/-- Which hulls are tested. -/
theorem tested_iff {T : Tab} (hv : T.Valid) {z : Int} (hz : 0 ≤ z) : Tested T.toTable z.toNat ↔ ∃ i, i < T.n ∧ (T.f i).hull = z := by
  constructor
  · rintro ⟨y, hy, hyz⟩
    simp only [Tab.toTable, List.mem_map, List.mem_range] at hy
    obtain ⟨i, hi, rfl⟩ := hy
    have := hv.f i hi
    simp only [RTest.toTest] at hyz
    exact ⟨i, hi, by omega⟩
  · rintro ⟨i, hi, rfl⟩
    exact ⟨(T.f i).toTest, by simp only [Tab.toTable, List.mem_map, List.mem_range]; exact ⟨i, hi, rfl⟩, rfl⟩

/-- What hulls answers, for hulls that there are. -/
inductive HullsIs (T : Tab) (n : Nat) (f : Nat → Int) (h : H) : Value → H → Prop
  | doubt {h' : H} (ha : ¬ Agrees T.toTable) : HullsIs T n f h (.tuple #[.pointer none, .pointer none, .int .i64 20]) h'
  | unt {h' : H} (ha : Agrees T.toTable) (hn : ∃ i, i < n ∧ ¬ Tested T.toTable (f i).toNat) : HullsIs T n f h (.tuple #[.pointer none, .pointer none, .int .i64 5]) h'
  | ok {h' : H} {r hr : Nat} {e : TypeId} (ha : Agrees T.toTable) (ht : ∀ i, i < n → Tested T.toTable (f i).toNat) (h1 : h.next ≤ r) (h2 : r < h'.next) (hg : h'.get r = some (.cells (T.head ++ netRows (netOf T.toTable)) e))
      (hl : Lies h r (AgreeS.found (netOf T.toTable) T.toTable.many 0) hr h') : HullsIs T n f h (.tuple #[.pointer (some ⟨r, 0, .none⟩), .pointer (some ⟨hr, 0, .none⟩), .int .i64 0]) h'

set_option maxHeartbeats 1000000 in
theorem hulls_w {h : H} {T : Tab} {m : Nat} {L : Arr} (hm : m ≤ h.next) (hT : T.Ok m h) (hv : T.Valid) (hL : L.Ok h.next h) (hf : ∀ i, i < L.n → 0 ≤ L.f i ∧ L.f i < T.hulls) :
    AW Try.prog 28 h.next h [.agg ⟨T.cells⟩, L.val] (HullsIs T L.n L.f h) := by
  have hok := hv.ok
  obtain ⟨le, li, lr, ll⟩ := hL
  unfold Arr.val
  refine fun28.call rfl (Nat.le_refl _) ?_
  unfold a28
  (focus ((try with_reducible apply wpC.to); (repeat' ((conv => whnf); first | ((apply Start.mk); (focus exact byNext); (focus exact byLen)) | ((apply New.mk); (focus exact byNid)) | ((apply Need.mk); (focus exact byNeed)) | ((apply Fork.mk) <;> (intro _; try (exfalso; omega; done))) | ((apply Load1.mk); (focus exact byMem); (focus exact byVal)) | ((apply LoadN.mk); (focus exact byMem); (focus exact byList)) | ((apply Sto.mk); (focus exact bySto); (focus exact byLo); (focus exact byGet); (focus exact rfl); (focus exact rfl); (focus exact rfl); (focus exact byList)) | ((with_reducible apply Ix.nat); (focus exact rfl); (focus omega)) | ((with_reducible apply Ix.natp); (focus assumption); (focus omega)) | ((with_reducible apply Ix.pred); (focus first | assumption | exact fun _ => rfl); (focus omega); (focus omega)) | ((with_reducible apply Ix.lit); (focus exact byLit); (focus first | assumption | exact fun _ => rfl); (focus omega); (focus omega)) | ((with_reducible apply Ix.int); (focus exact rfl); (focus omega); (focus omega)) | ((with_reducible apply Ix.intp); (focus assumption); (focus omega); (focus omega)) | apply forceV_any | apply forceL_any)); all_goals (conv => whnf); all_goals (try with_reducible apply At.mk)))
  apply q_callv
  focus (exact byNext)
  focus (exact byLo)
  focus exact checkTable_w (m := m) (by (exact byOm)) (hT.same (by (exact bySame)) (Nat.le_refl _)) hv
  intro h1 q1 hn1
  (focus ((try with_reducible apply wpC.to); (repeat' ((conv => whnf); first | ((apply Start.mk); (focus exact byNext); (focus exact byLen)) | ((apply New.mk); (focus exact byNid)) | ((apply Need.mk); (focus exact byNeed)) | ((apply Fork.mk) <;> (intro _; try (exfalso; omega; done))) | ((apply Load1.mk); (focus exact byMem); (focus exact byVal)) | ((apply LoadN.mk); (focus exact byMem); (focus exact byList)) | ((apply Sto.mk); (focus exact bySto); (focus exact byLo); (focus exact byGet); (focus exact rfl); (focus exact rfl); (focus exact rfl); (focus exact byList)) | ((with_reducible apply Ix.nat); (focus exact rfl); (focus omega)) | ((with_reducible apply Ix.natp); (focus assumption); (focus omega)) | ((with_reducible apply Ix.pred); (focus first | assumption | exact fun _ => rfl); (focus omega); (focus omega)) | ((with_reducible apply Ix.lit); (focus exact byLit); (focus first | assumption | exact fun _ => rfl); (focus omega); (focus omega)) | ((with_reducible apply Ix.int); (focus exact rfl); (focus omega); (focus omega)) | ((with_reducible apply Ix.intp); (focus assumption); (focus omega); (focus omega)) | apply forceV_any | apply forceL_any)); all_goals (conv => whnf); all_goals (try with_reducible apply At.mk)))
  refine wp_loop (fun s : Nat => [(1, .slice L.b L.n L.c), (2, .pointer (some ⟨h.next, 0, none⟩)), (20, .slice L.b L.n L.c), (21, .int .i64 L.n), (22, .int .i64 s)])
    (fun s h2 => Same h.next h h2 ∧ h.next + 1 ≤ h2.next ∧ s ≤ L.n ∧ h2.get h.next = some (.cells T.cells 26)) (fun s => L.n - s) 0 ⟨rfl, rfl, rfl, rfl, rfl, trivial⟩ ⟨by (exact bySame), by (exact byOm), by omega, by (exact byGet)⟩ ?_
  rintro s g h2 ⟨sm, hn2, hs, g1⟩ K hK
  have hfs : s < L.n → 0 ≤ L.f s ∧ L.f s < T.hulls := hf s
  (focus ((try with_reducible apply wpC.to); (repeat' ((conv => whnf); first | ((apply Start.mk); (focus exact byNext); (focus exact byLen)) | ((apply New.mk); (focus exact byNid)) | ((apply Need.mk); (focus exact byNeed)) | ((apply Fork.mk) <;> (intro _; try (exfalso; omega; done))) | ((apply Load1.mk); (focus exact byMem); (focus exact byVal)) | ((apply LoadN.mk); (focus exact byMem); (focus exact byList)) | ((apply Sto.mk); (focus exact bySto); (focus exact byLo); (focus exact byGet); (focus exact rfl); (focus exact rfl); (focus exact rfl); (focus exact byList)) | ((with_reducible apply Ix.nat); (focus exact rfl); (focus omega)) | ((with_reducible apply Ix.natp); (focus assumption); (focus omega)) | ((with_reducible apply Ix.pred); (focus first | assumption | exact fun _ => rfl); (focus omega); (focus omega)) | ((with_reducible apply Ix.lit); (focus exact byLit); (focus first | assumption | exact fun _ => rfl); (focus omega); (focus omega)) | ((with_reducible apply Ix.int); (focus exact rfl); (focus omega); (focus omega)) | ((with_reducible apply Ix.intp); (focus assumption); (focus omega); (focus omega)) | apply forceV_any | apply forceL_any)); all_goals (conv => whnf); all_goals (try with_reducible apply At.mk)))
  · refine hK (s + 1) _ _ ⟨rfl, rfl, rfl, rfl, int_of rfl (by omega), trivial⟩ ⟨by (exact bySame), by (exact byOm), by omega, by (exact byGet)⟩ (by omega)
  clear hfs hK K
  apply q_call
  focus (exact byNext)
  focus (exact byLo)
  focus exact newNet_w (m := m) (by have := sm; (exact byOm)) (hT.same (by (exact bySame)) (Nat.le_refl _)) hv
  rintro _ h3 ⟨r, e, rfl, hr1, hr2, hr3⟩ q3 hn3
  (focus ((try with_reducible apply wpC.to); (repeat' ((conv => whnf); first | ((apply Start.mk); (focus exact byNext); (focus exact byLen)) | ((apply New.mk); (focus exact byNid)) | ((apply Need.mk); (focus exact byNeed)) | ((apply Fork.mk) <;> (intro _; try (exfalso; omega; done))) | ((apply Load1.mk); (focus exact byMem); (focus exact byVal)) | ((apply LoadN.mk); (focus exact byMem); (focus exact byList)) | ((apply Sto.mk); (focus exact bySto); (focus exact byLo); (focus exact byGet); (focus exact rfl); (focus exact rfl); (focus exact rfl); (focus exact byList)) | ((with_reducible apply Ix.nat); (focus exact rfl); (focus omega)) | ((with_reducible apply Ix.natp); (focus assumption); (focus omega)) | ((with_reducible apply Ix.pred); (focus first | assumption | exact fun _ => rfl); (focus omega); (focus omega)) | ((with_reducible apply Ix.lit); (focus exact byLit); (focus first | assumption | exact fun _ => rfl); (focus omega); (focus omega)) | ((with_reducible apply Ix.int); (focus exact rfl); (focus omega); (focus omega)) | ((with_reducible apply Ix.intp); (focus assumption); (focus omega); (focus omega)) | apply forceV_any | apply forceL_any)); all_goals (conv => whnf); all_goals (try with_reducible apply At.mk)))
  apply q_call
  focus (exact byNext)
  focus (exact byLo)
  focus exact heights_w (B := netOf T.toTable) (e := e) hv (by (exact byOm)) (lim_net hok) (by (exact byGet))
  rintro _ h4 ⟨hr, rfl, hL⟩ q4 hn4
  simp only [bump_next] at hr1 hr2
  by_cases ha : (AgreeS.found (netOf T.toTable) T.toTable.many 0).last < 0
  rotate_left
  · rw [decide_eq_false ha]
    (focus ((try with_reducible apply wpC.to); (repeat' ((conv => whnf); first | ((apply Start.mk); (focus exact byNext); (focus exact byLen)) | ((apply New.mk); (focus exact byNid)) | ((apply Need.mk); (focus exact byNeed)) | ((apply Fork.mk) <;> (intro _; try (exfalso; omega; done))) | ((apply Load1.mk); (focus exact byMem); (focus exact byVal)) | ((apply LoadN.mk); (focus exact byMem); (focus exact byList)) | ((apply Sto.mk); (focus exact bySto); (focus exact byLo); (focus exact byGet); (focus exact rfl); (focus exact rfl); (focus exact rfl); (focus exact byList)) | ((with_reducible apply Ix.nat); (focus exact rfl); (focus omega)) | ((with_reducible apply Ix.natp); (focus assumption); (focus omega)) | ((with_reducible apply Ix.pred); (focus first | assumption | exact fun _ => rfl); (focus omega); (focus omega)) | ((with_reducible apply Ix.lit); (focus exact byLit); (focus first | assumption | exact fun _ => rfl); (focus omega); (focus omega)) | ((with_reducible apply Ix.int); (focus exact rfl); (focus omega); (focus omega)) | ((with_reducible apply Ix.intp); (focus assumption); (focus omega); (focus omega)) | apply forceV_any | apply forceL_any)); all_goals (conv => whnf); all_goals (try with_reducible apply At.mk)))
    (first | (apply fin1; (focus first | exact .inl rfl | exact .inr rfl); focus exact byR1) | (apply fin2; (focus first | exact .inl rfl | exact .inr rfl); (focus exact byR1); (focus exact byR1)) | (apply fin3; (focus first | exact .inl rfl | exact .inr rfl); (focus exact byR1); (focus exact byR1); (focus exact byR1)) | (apply fin0; (focus first | exact .inl rfl | exact .inr rfl)))
    exact .doubt fun h => ha ((agrees_iff hok).2 h)
  rw [decide_eq_true ha]
  have ha := (agrees_iff hok).1 ha
  (focus ((try with_reducible apply wpC.to); (repeat' ((conv => whnf); first | ((apply Start.mk); (focus exact byNext); (focus exact byLen)) | ((apply New.mk); (focus exact byNid)) | ((apply Need.mk); (focus exact byNeed)) | ((apply Fork.mk) <;> (intro _; try (exfalso; omega; done))) | ((apply Load1.mk); (focus exact byMem); (focus exact byVal)) | ((apply LoadN.mk); (focus exact byMem); (focus exact byList)) | ((apply Sto.mk); (focus exact bySto); (focus exact byLo); (focus exact byGet); (focus exact rfl); (focus exact rfl); (focus exact rfl); (focus exact byList)) | ((with_reducible apply Ix.nat); (focus exact rfl); (focus omega)) | ((with_reducible apply Ix.natp); (focus assumption); (focus omega)) | ((with_reducible apply Ix.pred); (focus first | assumption | exact fun _ => rfl); (focus omega); (focus omega)) | ((with_reducible apply Ix.lit); (focus exact byLit); (focus first | assumption | exact fun _ => rfl); (focus omega); (focus omega)) | ((with_reducible apply Ix.int); (focus exact rfl); (focus omega); (focus omega)) | ((with_reducible apply Ix.intp); (focus assumption); (focus omega); (focus omega)) | apply forceV_any | apply forceL_any)); all_goals (conv => whnf); all_goals (try with_reducible apply At.mk)))
  obtain ⟨mr, e', l1, l2, l3, l4, l5, l6, l7⟩ := hL
  simp only [bump_next] at l1 l3
  refine wp_loop (fun u : Nat => [(2, .pointer (some ⟨h.next, 0, none⟩)), (10, .pointer (some ⟨r, 0, none⟩)), (11, .pointer (some ⟨hr, 0, none⟩)), (44, .slice L.b L.n L.c), (45, .int .i64 L.n), (46, .int .i64 u)])
    (fun u h5 => Same h4.next h4 h5 ∧ h4.next ≤ h5.next ∧ u ≤ L.n ∧ (∀ i, i < u → Tested T.toTable (L.f i).toNat)) (fun u => L.n - u) 0 ⟨rfl, rfl, rfl, rfl, rfl, rfl, trivial⟩ ⟨by (exact bySame), by (exact byOm), by omega, fun i hi => by omega⟩ ?_
  clear g
  rintro u g h5 ⟨sm5, hn5, hu, htt⟩ K hK
  have hT4 : T.Ok m h4 := hT.same (by (exact bySame)) (Nat.le_refl _)
  have g5 : h4.get h.next = some (.cells T.cells 26) := by (exact byGet)
  (focus ((try with_reducible apply wpC.to); (repeat' ((conv => whnf); first | ((apply Start.mk); (focus exact byNext); (focus exact byLen)) | ((apply New.mk); (focus exact byNid)) | ((apply Need.mk); (focus exact byNeed)) | ((apply Fork.mk) <;> (intro _; try (exfalso; omega; done))) | ((apply Load1.mk); (focus exact byMem); (focus exact byVal)) | ((apply LoadN.mk); (focus exact byMem); (focus exact byList)) | ((apply Sto.mk); (focus exact bySto); (focus exact byLo); (focus exact byGet); (focus exact rfl); (focus exact rfl); (focus exact rfl); (focus exact byList)) | ((with_reducible apply Ix.nat); (focus exact rfl); (focus omega)) | ((with_reducible apply Ix.natp); (focus assumption); (focus omega)) | ((with_reducible apply Ix.pred); (focus first | assumption | exact fun _ => rfl); (focus omega); (focus omega)) | ((with_reducible apply Ix.lit); (focus exact byLit); (focus first | assumption | exact fun _ => rfl); (focus omega); (focus omega)) | ((with_reducible apply Ix.int); (focus exact rfl); (focus omega); (focus omega)) | ((with_reducible apply Ix.intp); (focus assumption); (focus omega); (focus omega)) | apply forceV_any | apply forceL_any)); all_goals (conv => whnf); all_goals (try with_reducible apply At.mk)))
  · have hfu := hf u (by omega)
    apply q_callB
    focus (exact byNext)
    focus (exact byLo)
    focus
      refine anyTests_w (m := m) (p := fun i => decide ((T.f i).hull = L.f u)) (by (exact byOm)) (hT4.same (by (exact bySame)) (Nat.le_refl _)) fun i k1 hi q => ?_
      exact acall_of (ofHull_w (x := T.f i) (r := h5.next + 3) (e := 3) (by have := q.next; (exact byOm)) ((q.same _ (by (exact byOm))).trans (by (exact byGet)))) rfl
    · intro hb h6 q hn6
      (focus ((try with_reducible apply wpC.to); (repeat' ((conv => whnf); first | ((apply Start.mk); (focus exact byNext); (focus exact byLen)) | ((apply New.mk); (focus exact byNid)) | ((apply Need.mk); (focus exact byNeed)) | ((apply Fork.mk) <;> (intro _; try (exfalso; omega; done))) | ((apply Load1.mk); (focus exact byMem); (focus exact byVal)) | ((apply LoadN.mk); (focus exact byMem); (focus exact byList)) | ((apply Sto.mk); (focus exact bySto); (focus exact byLo); (focus exact byGet); (focus exact rfl); (focus exact rfl); (focus exact rfl); (focus exact byList)) | ((with_reducible apply Ix.nat); (focus exact rfl); (focus omega)) | ((with_reducible apply Ix.natp); (focus assumption); (focus omega)) | ((with_reducible apply Ix.pred); (focus first | assumption | exact fun _ => rfl); (focus omega); (focus omega)) | ((with_reducible apply Ix.lit); (focus exact byLit); (focus first | assumption | exact fun _ => rfl); (focus omega); (focus omega)) | ((with_reducible apply Ix.int); (focus exact rfl); (focus omega); (focus omega)) | ((with_reducible apply Ix.intp); (focus assumption); (focus omega); (focus omega)) | apply forceV_any | apply forceL_any)); all_goals (conv => whnf); all_goals (try with_reducible apply At.mk)))
      refine hK (u + 1) _ _ ⟨rfl, rfl, rfl, rfl, rfl, int_of rfl (by omega), trivial⟩ ⟨by (exact bySame), by (exact byOm), by omega, fun i hi => ?_⟩ (by omega)
      by_cases hiu : i = u
      · subst hiu
        obtain ⟨j, hj, hj2⟩ := of_decide_eq_true hb
        exact (tested_iff hv hfu.1).2 ⟨j, hj, of_decide_eq_true hj2⟩
      · exact htt i (by omega)
    · intro hb h6 q hn6
      (focus ((try with_reducible apply wpC.to); (repeat' ((conv => whnf); first | ((apply Start.mk); (focus exact byNext); (focus exact byLen)) | ((apply New.mk); (focus exact byNid)) | ((apply Need.mk); (focus exact byNeed)) | ((apply Fork.mk) <;> (intro _; try (exfalso; omega; done))) | ((apply Load1.mk); (focus exact byMem); (focus exact byVal)) | ((apply LoadN.mk); (focus exact byMem); (focus exact byList)) | ((apply Sto.mk); (focus exact bySto); (focus exact byLo); (focus exact byGet); (focus exact rfl); (focus exact rfl); (focus exact rfl); (focus exact byList)) | ((with_reducible apply Ix.nat); (focus exact rfl); (focus omega)) | ((with_reducible apply Ix.natp); (focus assumption); (focus omega)) | ((with_reducible apply Ix.pred); (focus first | assumption | exact fun _ => rfl); (focus omega); (focus omega)) | ((with_reducible apply Ix.lit); (focus exact byLit); (focus first | assumption | exact fun _ => rfl); (focus omega); (focus omega)) | ((with_reducible apply Ix.int); (focus exact rfl); (focus omega); (focus omega)) | ((with_reducible apply Ix.intp); (focus assumption); (focus omega); (focus omega)) | apply forceV_any | apply forceL_any)); all_goals (conv => whnf); all_goals (try with_reducible apply At.mk)))
      (first | (apply fin1; (focus first | exact .inl rfl | exact .inr rfl); focus exact byR1) | (apply fin2; (focus first | exact .inl rfl | exact .inr rfl); (focus exact byR1); (focus exact byR1)) | (apply fin3; (focus first | exact .inl rfl | exact .inr rfl); (focus exact byR1); (focus exact byR1); (focus exact byR1)) | (apply fin0; (focus first | exact .inl rfl | exact .inr rfl)))
      refine .unt ha ⟨u, by omega, fun ht => of_decide_eq_false hb ?_⟩
      obtain ⟨j, hj, hj2⟩ := (tested_iff hv hfu.1).1 ht
      exact ⟨j, hj, decide_eq_true hj2⟩
  · (first | (apply fin1; (focus first | exact .inl rfl | exact .inr rfl); focus exact byR1) | (apply fin2; (focus first | exact .inl rfl | exact .inr rfl); (focus exact byR1); (focus exact byR1)) | (apply fin3; (focus first | exact .inl rfl | exact .inr rfl); (focus exact byR1); (focus exact byR1); (focus exact byR1)) | (apply fin0; (focus first | exact .inl rfl | exact .inr rfl)))
    have : u = L.n := by omega
    subst this
    exact .ok ha htt (by omega) (by (exact byOm)) (e := e) (by (exact byGet)) ⟨mr, e', by omega, by (exact byOm), by omega, by (exact byOm), l5, by (exact byGet), by (exact byGet)⟩

end AE.Try
