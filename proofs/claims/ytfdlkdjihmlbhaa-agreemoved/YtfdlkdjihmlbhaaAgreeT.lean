/- Walks of agree: the ring of a table, the examples, small functions of the statements. -/
import Derived.Test.YtfdlkdjihmlbhaaAgreeR
import Derived.Test.YtfdlkdjihmlbhaaAgreeRingEx
set_option linter.unusedVariables false
set_option linter.unusedSimpArgs false
set_option linter.unusedSectionVars false
namespace AE.Try
set_option linter.unusedSimpArgs false
open Go AE AE.Ag AgreeS Go.Proofs
set_option maxRecDepth 100000

/-- A table that agrees has no ring. -/
theorem ringOf_none {h : H} {T : Tab} {m : Nat} (hm : m ≤ h.next) (hT : T.Ok m h) (hv : T.Valid) (ha : Agrees T.toTable) :
    AW Try.prog 23 h.next h [.agg ⟨T.cells⟩] (fun v _ => v = .tuple #[.slice none 0 0, .int .i64 5]) := by
  have hok := hv.ok
  refine fun23.call rfl (Nat.le_refl _) ?_
  unfold a23
  (focus ((try with_reducible apply wpC.to); (repeat' ((conv => whnf); first | ((apply Start.mk); (focus exact byNext); (focus exact byLen)) | ((apply New.mk); (focus exact byNid)) | ((apply Fork.mk) <;> (intro _; try (exfalso; omega; done))) | ((apply LoadN.mk); (focus exact byMem); (focus exact byList)) | ((with_reducible apply Ix.pred); (focus first | assumption | exact fun _ => rfl); (focus omega); (focus omega)) | apply forceV_any | apply forceL_any)); all_goals (conv => whnf); all_goals (try with_reducible apply At.mk)))
  apply q_callv
  focus (exact byNext)
  focus (exact byLo)
  focus exact checkTable_w (m := m) (by (exact byOm)) (hT.same (by (exact bySame)) (Nat.le_refl _)) hv
  intro h1 q1 hn1
  (focus ((try with_reducible apply wpC.to); (repeat' ((conv => whnf); first | ((apply Start.mk); (focus exact byNext); (focus exact byLen)) | ((apply New.mk); (focus exact byNid)) | ((apply Fork.mk) <;> (intro _; try (exfalso; omega; done))) | ((apply LoadN.mk); (focus exact byMem); (focus exact byList)) | ((with_reducible apply Ix.pred); (focus first | assumption | exact fun _ => rfl); (focus omega); (focus omega)) | apply forceV_any | apply forceL_any)); all_goals (conv => whnf); all_goals (try with_reducible apply At.mk)))
  apply q_call
  focus (exact byNext)
  focus (exact byLo)
  focus exact newNet_w (m := m) (by (exact byOm)) (hT.same (by (exact bySame)) (Nat.le_refl _)) hv
  rintro _ h3 ⟨r, e, rfl, hr1, hr2, hr3⟩ q3 hn3
  try simp only [put_next, bump_next] at hr1 hr2
  (focus ((try with_reducible apply wpC.to); (repeat' ((conv => whnf); first | ((apply Start.mk); (focus exact byNext); (focus exact byLen)) | ((apply New.mk); (focus exact byNid)) | ((apply Fork.mk) <;> (intro _; try (exfalso; omega; done))) | ((apply LoadN.mk); (focus exact byMem); (focus exact byList)) | ((with_reducible apply Ix.pred); (focus first | assumption | exact fun _ => rfl); (focus omega); (focus omega)) | apply forceV_any | apply forceL_any)); all_goals (conv => whnf); all_goals (try with_reducible apply At.mk)))
  apply q_call
  focus (exact byNext)
  focus (exact byLo)
  focus exact heights_w (B := netOf T.toTable) (e := e) hv (by (exact byOm)) (lim_net hok) (by (exact byGet))
  rintro _ h4 ⟨hr, rfl, -⟩ q4 hn4
  rw [decide_eq_true ((agrees_iff hok).2 ha)]
  (focus ((try with_reducible apply wpC.to); (repeat' ((conv => whnf); first | ((apply Start.mk); (focus exact byNext); (focus exact byLen)) | ((apply New.mk); (focus exact byNid)) | ((apply Fork.mk) <;> (intro _; try (exfalso; omega; done))) | ((apply LoadN.mk); (focus exact byMem); (focus exact byList)) | ((with_reducible apply Ix.pred); (focus first | assumption | exact fun _ => rfl); (focus omega); (focus omega)) | apply forceV_any | apply forceL_any)); all_goals (conv => whnf); all_goals (try with_reducible apply At.mk)))
  (first | (apply fin1; (focus first | exact .inl rfl | exact .inr rfl); focus exact byR1) | (apply fin2; (focus first | exact .inl rfl | exact .inr rfl); (focus exact byR1); (focus exact byR1)) | (apply fin3; (focus first | exact .inl rfl | exact .inr rfl); (focus exact byR1); (focus exact byR1); (focus exact byR1)) | (apply fin0; (focus first | exact .inl rfl | exact .inr rfl)))
  rfl

theorem ringOf_worse {h : H} {T : Tab} {m : Nat} (hm : m ≤ h.next) (hT : T.Ok m h) (hv : T.Valid) (hw : T.toTable = worse) (ha : ¬ Agrees worse) :
    AW Try.prog 23 h.next h [.agg ⟨T.cells⟩] (fun v h' => ∃ A : Arr, v = .tuple #[A.val, .int .i64 0] ∧ A.n = 5 ∧ (∀ i, i < 5 → A.f i = (ringL i : Int)) ∧ A.Ok h'.next h') := by
  have hok := hv.ok
  refine fun23.call rfl (Nat.le_refl _) ?_
  unfold a23
  (focus ((try with_reducible apply wpC.to); (repeat' ((conv => whnf); first | ((apply Start.mk); (focus exact byNext); (focus exact byLen)) | ((apply New.mk); (focus exact byNid)) | ((apply Fork.mk) <;> (intro _; try (exfalso; omega; done))) | ((apply LoadN.mk); (focus exact byMem); (focus exact byList)) | ((with_reducible apply Ix.pred); (focus first | assumption | exact fun _ => rfl); (focus omega); (focus omega)) | apply forceV_any | apply forceL_any)); all_goals (conv => whnf); all_goals (try with_reducible apply At.mk)))
  apply q_callv
  focus (exact byNext)
  focus (exact byLo)
  focus exact checkTable_w (m := m) (by (exact byOm)) (hT.same (by (exact bySame)) (Nat.le_refl _)) hv
  intro h1 q1 hn1
  (focus ((try with_reducible apply wpC.to); (repeat' ((conv => whnf); first | ((apply Start.mk); (focus exact byNext); (focus exact byLen)) | ((apply New.mk); (focus exact byNid)) | ((apply Fork.mk) <;> (intro _; try (exfalso; omega; done))) | ((apply LoadN.mk); (focus exact byMem); (focus exact byList)) | ((with_reducible apply Ix.pred); (focus first | assumption | exact fun _ => rfl); (focus omega); (focus omega)) | apply forceV_any | apply forceL_any)); all_goals (conv => whnf); all_goals (try with_reducible apply At.mk)))
  apply q_call
  focus (exact byNext)
  focus (exact byLo)
  focus exact newNet_w (m := m) (by (exact byOm)) (hT.same (by (exact bySame)) (Nat.le_refl _)) hv
  rintro _ h3 ⟨r, e, rfl, hr1, hr2, hr3⟩ q3 hn3
  try simp only [put_next, bump_next] at hr1 hr2
  (focus ((try with_reducible apply wpC.to); (repeat' ((conv => whnf); first | ((apply Start.mk); (focus exact byNext); (focus exact byLen)) | ((apply New.mk); (focus exact byNid)) | ((apply Fork.mk) <;> (intro _; try (exfalso; omega; done))) | ((apply LoadN.mk); (focus exact byMem); (focus exact byList)) | ((with_reducible apply Ix.pred); (focus first | assumption | exact fun _ => rfl); (focus omega); (focus omega)) | apply forceV_any | apply forceL_any)); all_goals (conv => whnf); all_goals (try with_reducible apply At.mk)))
  apply q_call
  focus (exact byNext)
  focus (exact byLo)
  focus exact heights_w (B := netOf T.toTable) (e := e) hv (by (exact byOm)) (lim_net hok) (by (exact byGet))
  rintro _ h4 ⟨hr, rfl, mr, e', l1, l2, l3, l4, l5, l6, l7⟩ q4 hn4
  try simp only [put_next, bump_next] at l1 l3
  have hx : (AgreeS.found (netOf T.toTable) T.toTable.many 0).before = ring0 ∧ (AgreeS.found (netOf T.toTable) T.toTable.many 0).last = 1 := by
    rw [hw]
    exact ring_worse
  rw [decide_eq_false (fun h => ha (hw ▸ (agrees_iff hok).1 h))]
  (focus ((try with_reducible apply wpC.to); (repeat' ((conv => whnf); first | ((apply Start.mk); (focus exact byNext); (focus exact byLen)) | ((apply New.mk); (focus exact byNid)) | ((apply Fork.mk) <;> (intro _; try (exfalso; omega; done))) | ((apply LoadN.mk); (focus exact byMem); (focus exact byList)) | ((with_reducible apply Ix.pred); (focus first | assumption | exact fun _ => rfl); (focus omega); (focus omega)) | apply forceV_any | apply forceL_any)); all_goals (conv => whnf); all_goals (try with_reducible apply At.mk)))
  apply q_call
  focus (exact byNext)
  focus (exact byLo)
  focus exact ring_w (mr := mr) (r0 := r) (e := e') (by (exact byOm)) (by (exact byOm)) hx.1 hx.2 (by (exact byGet)) (by (exact byGet))
  rintro _ h5 ⟨A, rfl, hA1, hA2, hA3⟩ q5 hn5
  (focus ((try with_reducible apply wpC.to); (repeat' ((conv => whnf); first | ((apply Start.mk); (focus exact byNext); (focus exact byLen)) | ((apply New.mk); (focus exact byNid)) | ((apply Fork.mk) <;> (intro _; try (exfalso; omega; done))) | ((apply LoadN.mk); (focus exact byMem); (focus exact byList)) | ((with_reducible apply Ix.pred); (focus first | assumption | exact fun _ => rfl); (focus omega); (focus omega)) | apply forceV_any | apply forceL_any)); all_goals (conv => whnf); all_goals (try with_reducible apply At.mk)))
  (first | (apply fin1; (focus first | exact .inl rfl | exact .inr rfl); focus exact byR1) | (apply fin2; (focus first | exact .inl rfl | exact .inr rfl); (focus exact byR1); (focus exact byR1)) | (apply fin3; (focus first | exact .inl rfl | exact .inr rfl); (focus exact byR1); (focus exact byR1); (focus exact byR1)) | (apply fin0; (focus first | exact .inl rfl | exact .inr rfl)))
  exact ⟨A, rfl, hA1, hA2, hA3.frame (b := 0) (fun _ => Nat.zero_le _) (by (exact byOm)) fun j hj1 hj2 => rfl⟩

theorem inside_w {h : H} {a b c d : Int} : AW Try.prog 16 h.next h [.agg ⟨[.int .i64 a, .int .i64 b]⟩, .agg ⟨[.int .i64 c, .int .i64 d]⟩] (fun v _ => v = .bool (decide (c ≤ a ∧ b ≤ d ∧ a ≤ b))) := by
  refine fun16.call rfl (Nat.le_refl _) ?_
  unfold a16
  (focus ((try with_reducible apply wpC.to); (repeat' ((conv => whnf); first | ((apply Start.mk); (focus exact byNext); (focus exact byLen)) | ((apply New.mk); (focus exact byNid)) | ((apply Fork.mk) <;> (intro _; try (exfalso; omega; done))) | ((apply Load1.mk); (focus exact byMem); (focus exact byVal)) | ((with_reducible apply Ix.pred); (focus first | assumption | exact fun _ => rfl); (focus omega); (focus omega)) | apply forceV_any | apply forceL_any)); all_goals (conv => whnf); all_goals (try with_reducible apply At.mk)))
  all_goals (((first | (apply fin1; (focus first | exact .inl rfl | exact .inr rfl); focus exact byR1) | (apply fin2; (focus first | exact .inl rfl | exact .inr rfl); (focus exact byR1); (focus exact byR1)) | (apply fin3; (focus first | exact .inl rfl | exact .inr rfl); (focus exact byR1); (focus exact byR1); (focus exact byR1)) | (apply fin0; (focus first | exact .inl rfl | exact .inr rfl))); first | exact bool_t rfl (by omega) | exact bool_f rfl (by omega)))

theorem ints_w {h : H} {L M : Arr} {m : Nat} (hm : m ≤ h.next) (hL : L.Ok m h) (hM : M.Ok m h) : AW Try.prog 26 h.next h [.slice L.b L.n L.c, .slice M.b M.n M.c] (fun v _ => v = .bool (decide (L.n = M.n ∧ ∀ i, i < L.n → L.f i = M.f i))) := by
  obtain ⟨le, li, lr, ll⟩ := hL
  obtain ⟨me, mi, mr, ml⟩ := hM
  refine fun26.call rfl (Nat.le_refl _) ?_
  unfold a26
  (focus ((try with_reducible apply wpC.to); (repeat' ((conv => whnf); first | ((apply Start.mk); (focus exact byNext); (focus exact byLen)) | ((apply Need.mk); (focus exact byNeed)) | ((apply Fork.mk) <;> (intro _; try (exfalso; omega; done))) | ((apply Load1.mk); (focus exact byMem); (focus exact byVal)) | ((with_reducible apply Ix.nat); (focus exact rfl); (focus omega)) | ((with_reducible apply Ix.natp); (focus assumption); (focus omega)) | ((with_reducible apply Ix.pred); (focus first | assumption | exact fun _ => rfl); (focus omega); (focus omega)) | ((with_reducible apply Ix.lit); (focus exact byLit); (focus first | assumption | exact fun _ => rfl); (focus omega); (focus omega)) | ((with_reducible apply Ix.int); (focus exact rfl); (focus omega); (focus omega)) | ((with_reducible apply Ix.intp); (focus assumption); (focus omega); (focus omega)) | apply forceV_any | apply forceL_any)); all_goals (conv => whnf); all_goals (try with_reducible apply At.mk)))
  · (first | (apply fin1; (focus first | exact .inl rfl | exact .inr rfl); focus exact byR1) | (apply fin2; (focus first | exact .inl rfl | exact .inr rfl); (focus exact byR1); (focus exact byR1)) | (apply fin3; (focus first | exact .inl rfl | exact .inr rfl); (focus exact byR1); (focus exact byR1); (focus exact byR1)) | (apply fin0; (focus first | exact .inl rfl | exact .inr rfl)))
    exact bool_f rfl fun k => by omega
  refine wp_loop (fun s : Nat => [(0, .slice L.b L.n L.c), (1, .slice M.b M.n M.c), (5, .int .i64 s)]) (fun s h1 => Quiet h.next h h1 ∧ s ≤ L.n ∧ ∀ i, i < s → L.f i = M.f i) (fun s => L.n - s) 0 ⟨rfl, rfl, rfl, trivial⟩ ⟨by (exact byQuiet), by omega, fun i hi => by omega⟩ ?_
  rintro s g h1 ⟨q, hs, hp⟩ K hK
  have hnx := q.next
  have hme : 0 < L.n → M.b = some M.a := fun _ => me (by omega)
  (focus ((try with_reducible apply wpC.to); (repeat' ((conv => whnf); first | ((apply Start.mk); (focus exact byNext); (focus exact byLen)) | ((apply Need.mk); (focus exact byNeed)) | ((apply Fork.mk) <;> (intro _; try (exfalso; omega; done))) | ((apply Load1.mk); (focus exact byMem); (focus exact byVal)) | ((with_reducible apply Ix.nat); (focus exact rfl); (focus omega)) | ((with_reducible apply Ix.natp); (focus assumption); (focus omega)) | ((with_reducible apply Ix.pred); (focus first | assumption | exact fun _ => rfl); (focus omega); (focus omega)) | ((with_reducible apply Ix.lit); (focus exact byLit); (focus first | assumption | exact fun _ => rfl); (focus omega); (focus omega)) | ((with_reducible apply Ix.int); (focus exact rfl); (focus omega); (focus omega)) | ((with_reducible apply Ix.intp); (focus assumption); (focus omega); (focus omega)) | apply forceV_any | apply forceL_any)); all_goals (conv => whnf); all_goals (try with_reducible apply At.mk)))
  · (first | (apply fin1; (focus first | exact .inl rfl | exact .inr rfl); focus exact byR1) | (apply fin2; (focus first | exact .inl rfl | exact .inr rfl); (focus exact byR1); (focus exact byR1)) | (apply fin3; (focus first | exact .inl rfl | exact .inr rfl); (focus exact byR1); (focus exact byR1); (focus exact byR1)) | (apply fin0; (focus first | exact .inl rfl | exact .inr rfl)))
    exact bool_f rfl fun k => by have := k.2 s (by omega); omega
  · refine hK (s + 1) _ _ ⟨rfl, rfl, int_of rfl (by omega), trivial⟩ ⟨by (exact byQuiet), by omega, fun i hi => ?_⟩ (by omega)
    by_cases e : i = s
    · subst e; assumption
    · exact hp i (by omega)
  · (first | (apply fin1; (focus first | exact .inl rfl | exact .inr rfl); focus exact byR1) | (apply fin2; (focus first | exact .inl rfl | exact .inr rfl); (focus exact byR1); (focus exact byR1)) | (apply fin3; (focus first | exact .inl rfl | exact .inr rfl); (focus exact byR1); (focus exact byR1); (focus exact byR1)) | (apply fin0; (focus first | exact .inl rfl | exact .inr rfl)))
    exact bool_t rfl ⟨by omega, fun i hi => hp i (by omega)⟩

/-! ### the examples -/
def exF : Nat → RTest
  | 0 => ⟨0, 0, 100, 102⟩
  | 1 => ⟨0, 1, 50, 51⟩
  | 2 => ⟨1, 0, 105, 106⟩
  | _ => ⟨1, 1, 60, 61⟩
structure Tab.IsEx (T : Tab) (n : Nat) : Prop where
  tanks : T.tanks = 2
  hulls : T.hulls = 2
  blo : T.blo = -3
  bhi : T.bhi = 3
  num : T.n = n
  f : ∀ i, i < n → T.f i = exF i
theorem Tab.IsEx.valid {T : Tab} {n : Nat} (k : T.IsEx n) (hn : n ≤ 4) : T.Valid := by
  obtain ⟨k1, k2, k3, k4, k5, k6⟩ := k
  refine ⟨by omega, by omega, by omega, by omega, by omega, by rw [k3, k4]; decide, fun i hi => ?_⟩
  rw [k6 i (by omega), k1, k2]
  have : i = 0 ∨ i = 1 ∨ i = 2 ∨ i = 3 := by omega
  rcases this with rfl | rfl | rfl | rfl <;> simp only [exF] <;> decide
theorem Tab.IsEx.tab0 {T : Tab} (k : T.IsEx 3) : T.toTable = tab0 := by
  obtain ⟨k1, k2, k3, k4, k5, k6⟩ := k
  simp only [Tab.toTable, k1, k2, k3, k4, k5]
  have : (List.range 3).map (fun i => (T.f i).toTest) = (List.range 3).map fun i => (exF i).toTest := List.map_congr_left fun i hi => by rw [k6 i (List.mem_range.1 hi)]
  rw [this]
  rfl
theorem Tab.IsEx.worse {T : Tab} (k : T.IsEx 4) : T.toTable = worse := by
  obtain ⟨k1, k2, k3, k4, k5, k6⟩ := k
  simp only [Tab.toTable, k1, k2, k3, k4, k5]
  have : (List.range 4).map (fun i => (T.f i).toTest) = (List.range 4).map fun i => (exF i).toTest := List.map_congr_left fun i hi => by rw [k6 i (List.mem_range.1 hi)]
  rw [this]
  rfl

theorem table_w {h : H} : AW Try.prog 20 h.next h [] (fun v h' => ∃ T : Tab, v = .agg ⟨T.cells⟩ ∧ T.IsEx 3 ∧ T.Ok h'.next h' ∧ T.c = 3 ∧ T.a.spot = none ∧ h.next ≤ T.a.block) := by
  refine fun20.call rfl (Nat.le_refl _) ?_
  unfold a20
  (focus ((try with_reducible apply wpC.to); (repeat' ((conv => whnf); first | ((apply Start.mk); (focus exact byNext); (focus exact byLen)) | ((apply New.mk); (focus exact byNid)) | ((apply Need.mk); (focus exact byNeed)) | ((apply Sto.mk); (focus exact bySto); (focus exact byLo); (focus exact byGet); (focus exact rfl); (focus exact rfl); (focus exact rfl); (focus exact byList)) | ((with_reducible apply Ix.pred); (focus first | assumption | exact fun _ => rfl); (focus omega); (focus omega)) | apply forceV_any | apply forceL_any)); all_goals (conv => whnf); all_goals (try with_reducible apply At.mk)))
  (first | (apply fin1; (focus first | exact .inl rfl | exact .inr rfl); focus exact byR1) | (apply fin2; (focus first | exact .inl rfl | exact .inr rfl); (focus exact byR1); (focus exact byR1)) | (apply fin3; (focus first | exact .inl rfl | exact .inr rfl); (focus exact byR1); (focus exact byR1); (focus exact byR1)) | (apply fin0; (focus first | exact .inl rfl | exact .inr rfl)))
  refine ⟨⟨2, 2, -3, 3, 3, exF, some ⟨h.next + 8, 0, none⟩, ⟨h.next + 8, 0, none⟩, 3⟩, rfl, ⟨rfl, rfl, rfl, rfl, rfl, fun _ _ => rfl⟩, ⟨fun _ => rfl, fun i hi => ?_, fun _ => by simp only; (exact byOm), by simp⟩, rfl, rfl, by simp only; omega⟩
  have : i = 0 ∨ i = 1 ∨ i = 2 := by simp only at hi; omega
  rcases this with rfl | rfl | rfl
  · exact loadN_cells (off := 0 + 0 * 4) (by (exact byGet)) rfl
  · exact loadN_cells (off := 0 + 1 * 4) (by (exact byGet)) rfl
  · exact loadN_cells (off := 0 + 2 * 4) (by (exact byGet)) rfl

theorem worse_w {h : H} : AW Try.prog 21 h.next h [] (fun v h' => ∃ T : Tab, v = .agg ⟨T.cells⟩ ∧ T.IsEx 4 ∧ T.Ok h'.next h' ∧ h.next ≤ T.a.block) := by
  refine fun21.call rfl (Nat.le_refl _) ?_
  unfold a21
  (focus ((try with_reducible apply wpC.to); (repeat' ((conv => whnf); first | ((apply Start.mk); (focus exact byNext); (focus exact byLen)) | ((apply New.mk); (focus exact byNid)) | ((apply Need.mk); (focus exact byNeed)) | ((apply Load1.mk); (focus exact byMem); (focus exact byVal)) | ((apply LoadN.mk); (focus exact byMem); (focus exact byList)) | ((apply Sto.mk); (focus exact bySto); (focus exact byLo); (focus exact byGet); (focus exact rfl); (focus exact rfl); (focus exact rfl); (focus exact byList)) | ((with_reducible apply Ix.pred); (focus first | assumption | exact fun _ => rfl); (focus omega); (focus omega)) | apply forceV_any | apply forceL_any)); all_goals (conv => whnf); all_goals (try with_reducible apply At.mk)))
  apply q_call
  focus (exact byNext)
  focus (exact byLo)
  focus exact table_w
  rintro _ h1 ⟨T, rfl, hE, ⟨te, ti, tr, tl⟩, hc, hsp, hb⟩ q hn
  obtain ⟨e1, e2, e3, e4, e5, e6⟩ := hE
  have hb0 := te (by omega)
  have htr := tr (by omega)
  try simp only [put_next, bump_next] at hb
  (focus ((try with_reducible apply wpC.to); (repeat' ((conv => whnf); first | ((apply Start.mk); (focus exact byNext); (focus exact byLen)) | ((apply New.mk); (focus exact byNid)) | ((apply Need.mk); (focus exact byNeed)) | ((apply Load1.mk); (focus exact byMem); (focus exact byVal)) | ((apply LoadN.mk); (focus exact byMem); (focus exact byList)) | ((apply Sto.mk); (focus exact bySto); (focus exact byLo); (focus exact byGet); (focus exact rfl); (focus exact rfl); (focus exact rfl); (focus exact byList)) | ((with_reducible apply Ix.pred); (focus first | assumption | exact fun _ => rfl); (focus omega); (focus omega)) | apply forceV_any | apply forceL_any)); all_goals (conv => whnf); all_goals (try with_reducible apply At.mk)))
  have ti' : Els h1 T.a T.n 4 (fun i => (exF i).cells) := fun i hi => by have := ti i hi; simp only [e6 i (by omega)] at this; exact this
  have hall : h1.loadN T.a (3 * 4) = some (rowsOf (fun i => (exF i).cells) 3) := ti'.all (by omega) 3 (by omega) (by omega)
  apply q_appF (b := h1.next) (n := 3) (m := 1) (cs := rowsOf (fun i => (exF i).cells) 3) (nc := (exF 3).cells)
  case hsv =>
    show Value.slice T.b T.n T.c = _
    rw [hb0, e5, hc]
  case G => exact ⟨rfl, .inr ⟨_, rfl, by unfold far; omega, .inl ⟨hsp, rfl⟩, put_old (by omega) (bump_old (put_old (by omega) (put_old (by omega) hall)))⟩⟩
  case C => exact Cells.one (by (exact byMem)) (by unfold far; omega) rfl rfl
  case hm => omega
  case hb => omega
  case hsm => omega
  intro v row G'
  (focus ((try with_reducible apply wpC.to); (repeat' ((conv => whnf); first | ((apply Start.mk); (focus exact byNext); (focus exact byLen)) | ((apply New.mk); (focus exact byNid)) | ((apply Need.mk); (focus exact byNeed)) | ((apply Load1.mk); (focus exact byMem); (focus exact byVal)) | ((apply LoadN.mk); (focus exact byMem); (focus exact byList)) | ((apply Sto.mk); (focus exact bySto); (focus exact byLo); (focus exact byGet); (focus exact rfl); (focus exact rfl); (focus exact rfl); (focus exact byList)) | ((with_reducible apply Ix.pred); (focus first | assumption | exact fun _ => rfl); (focus omega); (focus omega)) | apply forceV_any | apply forceL_any)); all_goals (conv => whnf); all_goals (try with_reducible apply At.mk)))
  (first | (apply fin1; (focus first | exact .inl rfl | exact .inr rfl); focus exact byR1) | (apply fin2; (focus first | exact .inl rfl | exact .inr rfl); (focus exact byR1); (focus exact byR1)) | (apply fin3; (focus first | exact .inl rfl | exact .inr rfl); (focus exact byR1); (focus exact byR1); (focus exact byR1)) | (apply fin0; (focus first | exact .inl rfl | exact .inr rfl)))
  have G2 : Grown h1.next (h1.next + 5 + 1) _ 42 4 4 (rowsOf (fun i => (exF i).cells) 4) v := G'
  obtain ⟨a, ha, hE, hab⟩ := G2.els (fun i => rfl)
  have hab := hab (by omega)
  refine ⟨⟨T.tanks, T.hulls, T.blo, T.bhi, 4, exF, v, a, 0⟩, rfl, ⟨e1, e2, e3, e4, rfl, fun _ _ => rfl⟩, ⟨ha, fun i hi => ?_, fun _ => ?_, by simp⟩, ?_⟩
  · have := hE i hi
    (exact byOld)
  · simp only
    (exact byOm)
  · simp only
    omega

end AE.Try
