/- Walks of agree: Works. -/
import Derived.Test.YtfdlkdjihmlbhaaAgreeU
set_option linter.unusedVariables false
set_option linter.unusedSimpArgs false
set_option linter.unusedSectionVars false
namespace AE.Try
set_option linter.unusedSimpArgs false
set_option linter.unusedVariables false
open Go AE AE.Ag AgreeS Go.Proofs
set_option maxRecDepth 100000

theorem ex_spread0 {h : H} {T : Tab} {m : Nat} (hm : m ≤ h.next) (hT : T.Ok m h) (k : T.IsEx 3) : AW Try.prog 11 h.next h [.agg ⟨T.cells⟩, .int .i64 0] (fun v _ => v = .tuple #[.agg ⟨[.int .i64 102, .int .i64 105]⟩, .int .i64 0]) := by
  have := spread_w (z := 0) hm hT (k.valid (by omega)) (by have := k.hulls; omega)
  have he : sErr tab0 0 = 0 := sErr_ok.2 ⟨agrees_tab0, tested0⟩
  have h1 : sLo tab0 0 = 102 := (if_pos he).trans ends_tab0.1
  have h2 : sHi tab0 0 = 105 := (if_pos he).trans ends_tab0.2.1
  rw [k.tab0] at this
  simpa only [Int.toNat_zero, he, h1, h2] using this
theorem ex_spread1 {h : H} {T : Tab} {m : Nat} (hm : m ≤ h.next) (hT : T.Ok m h) (k : T.IsEx 3) : AW Try.prog 11 h.next h [.agg ⟨T.cells⟩, .int .i64 1] (fun v _ => v = .tuple #[.agg ⟨[.int .i64 50, .int .i64 54]⟩, .int .i64 0]) := by
  have := spread_w (z := 1) hm hT (k.valid (by omega)) (by have := k.hulls; omega)
  have he : sErr tab0 1 = 0 := sErr_ok.2 ⟨agrees_tab0, tested1⟩
  have h1 : sLo tab0 1 = 50 := (if_pos he).trans ends_tab0.2.2.1
  have h2 : sHi tab0 1 = 54 := (if_pos he).trans ends_tab0.2.2.2.1
  rw [k.tab0] at this
  simpa only [show (1 : Int).toNat = 1 from rfl, he, h1, h2] using this
theorem ex_between {h : H} {T : Tab} {m : Nat} (hm : m ≤ h.next) (hT : T.Ok m h) (k : T.IsEx 3) : AW Try.prog 13 h.next h [.agg ⟨T.cells⟩, .int .i64 0, .int .i64 1] (fun v _ => v = .tuple #[.agg ⟨[.int .i64 49, .int .i64 52]⟩, .int .i64 0]) := by
  have := between_w (z := 0) (w := 1) hm hT (k.valid (by omega)) (by have := k.hulls; omega) (by have := k.hulls; omega)
  have he : bErr tab0 0 1 = 0 := bErr_ok.2 ⟨agrees_tab0, tested0, tested1⟩
  have h1 : bLo tab0 0 1 = 49 := (if_pos he).trans (by rw [ends_tab0.2.2.2.2.2]; rfl)
  have h2 : bHi tab0 0 1 = 52 := (if_pos he).trans ends_tab0.2.2.2.2.1
  rw [k.tab0] at this
  simpa only [show (1 : Int).toNat = 1 from rfl, Int.toNat_zero, he, h1, h2] using this
theorem ex_truth0 {h : H} {T : Tab} {m : Nat} (hm : m ≤ h.next) (hT : T.Ok m h) (k : T.IsEx 3) : AW Try.prog 18 h.next h [.agg ⟨T.cells⟩] (fun v h' => ∃ t : Tru, v = .tuple #[.agg ⟨t.cells⟩, .int .i64 0] ∧ TruthOk T t ∧ t.Ok h'.next h' ∧ h.next ≤ t.A.a.block ∧ h.next ≤ t.C.a.block) := by
  obtain ⟨v, h', ⟨t, h1, h2⟩, a⟩ := truthOf_w hm hT (k.valid (by omega))
  have he : tErr T.toTable = 0 := by rw [k.tab0]; exact tErr_ok.2 agrees_tab0
  rw [if_pos he] at h2
  rw [he] at h1
  exact ⟨v, h', ⟨t, h1, truthAt_ok (k.valid (by omega)) (by rw [k.tab0]; exact agrees_tab0) h2, ⟨h2.ao, h2.co⟩, h2.ab, h2.cb⟩, a⟩
theorem ex_truth1 {h : H} {T : Tab} {m : Nat} (hm : m ≤ h.next) (hT : T.Ok m h) (k : T.IsEx 4) : AW Try.prog 18 h.next h [.agg ⟨T.cells⟩] (fun v h' => v = .tuple #[.agg ⟨[.slice none 0 0, .slice none 0 0]⟩, .int .i64 20]) := by
  obtain ⟨v, h', ⟨t, h1, h2⟩, a⟩ := truthOf_w hm hT (k.valid (by omega))
  have he : tErr T.toTable = 20 := by rw [k.worse]; exact if_neg not_worse
  rw [if_neg (by omega)] at h2
  rw [he, h2] at h1
  exact ⟨v, h', h1, a⟩
theorem ex_attain {h : H} {T : Tab} {m : Nat} {z : Int} {top : Bool} (hm : m ≤ h.next) (hT : T.Ok m h) (k : T.IsEx 3) (hz : z = 0 ∨ z = 1) : AW Try.prog 12 h.next h [.agg ⟨T.cells⟩, .int .i64 z, .bool top] (fun v h' => ∃ t : Tru, v = .tuple #[.agg ⟨t.cells⟩, .int .i64 0] ∧ TruthOk T t ∧ (t.Ok h'.next h' ∧ h.next ≤ t.A.a.block ∧ h.next ≤ t.C.a.block) ∧ t.C.n = 2 ∧ t.C.f z.toNat = if top then highX tab0 z.toNat else lowX tab0 z.toNat) := by
  obtain ⟨v, h', ⟨t, h1, h2⟩, a⟩ := attain_w (top := top) hm hT (k.valid (by omega)) (z := z) (by have := k.hulls; omega)
  have he : sErr T.toTable z.toNat = 0 := by rw [k.tab0]; exact sErr_ok.2 ⟨agrees_tab0, by rcases hz with rfl | rfl; exact tested0; exact tested1⟩
  rw [if_pos he] at h2
  rw [he] at h1
  have h3 := truthAt_hull h2 (j := z.toNat) (by have := k.hulls; omega)
  rw [k.tab0] at h3
  exact ⟨v, h', ⟨t, h1, truthAt_ok (k.valid (by omega)) (by rw [k.tab0]; exact agrees_tab0) h2, ⟨⟨h2.ao, h2.co⟩, h2.ab, h2.cb⟩, by have := h2.cn; have := k.hulls; omega, h3⟩, a⟩
theorem ex_odd {h : H} {T : Tab} {m : Nat} (hm : m ≤ h.next) (hT : T.Ok m h) (k : T.IsEx 4) : AW Try.prog 17 h.next h [.agg ⟨T.cells⟩] (fun v h' => ∃ A : Arr, v = .tuple #[A.val, .int .i64 0] ∧ A.n = 2 ∧ A.f 0 = 0 ∧ A.f 1 = 1 ∧ A.Ok h'.next h') := by
  obtain ⟨v, h', ⟨A, h1, h2, h3, -⟩, a⟩ := odd_w hm hT (k.valid (by omega))
  have he : oErr T.toTable = 0 := by rw [k.worse]; exact if_neg not_worse
  rw [he] at h1
  rw [k.worse, oddL_worse] at h2
  have hn : A.n = 2 := h2.n
  exact ⟨v, h', ⟨A, h1, hn, h2.f 0 (by omega), h2.f 1 (by omega), h3⟩, a⟩
theorem ex_oddNone {h : H} {T : Tab} {m : Nat} (hm : m ≤ h.next) (hT : T.Ok m h) (k : T.IsEx 3) : AW Try.prog 17 h.next h [.agg ⟨T.cells⟩] (fun v h' => ∃ A : Arr, v = .tuple #[A.val, .int .i64 5]) := by
  obtain ⟨v, h', ⟨A, h1, -, -, -⟩, a⟩ := odd_w hm hT (k.valid (by omega))
  have he : oErr T.toTable = 5 := by rw [k.tab0]; exact if_pos agrees_tab0
  rw [he] at h1
  exact ⟨v, h', ⟨A, h1⟩, a⟩

def ringW : Nat → Int
  | 0 => -100
  | 1 => 106
  | 2 => -60
  | _ => 51
theorem ex_ring {T : Tab} (k : T.IsEx 4) {L : Arr} (hn : L.n = 5) (hf : ∀ i, i < 5 → L.f i = (ringL i : Int)) : RingOk T L ringL ringW := by
  refine ⟨by omega, by omega, fun i hi => hf i (by omega), fun i hi => ?_, fun i hi => ?_, by rw [hn]; rfl⟩
  · rw [k.worse]
    have : i = 0 ∨ i = 1 ∨ i = 2 ∨ i = 3 ∨ i = 4 := by omega
    rcases this with rfl | rfl | rfl | rfl | rfl <;> decide
  · rw [k.worse]
    have : i = 0 ∨ i = 1 ∨ i = 2 ∨ i = 3 := by omega
    rcases this with rfl | rfl | rfl | rfl
    · exact (by kernel_rfl : netOf worse 1 3 = some (-100))
    · exact (by kernel_rfl : netOf worse 3 2 = some 106)
    · exact (by kernel_rfl : netOf worse 2 4 = some (-60))
    · exact (by kernel_rfl : netOf worse 4 1 = some 51)
theorem ex_two {T : Tab} (k : T.IsEx 4) {L : Arr} (hn : L.n = 3) (h0 : L.f 0 = 1) (h1 : L.f 1 = 3) (h2 : L.f 2 = 1) : RingOk T L (fun i => if i = 1 then 3 else 1) (fun i => if i = 0 then -100 else 102) := by
  refine ⟨by omega, by omega, fun i hi => ?_, fun i hi => ?_, fun i hi => ?_, by rw [hn]; rfl⟩
  · have : i = 0 ∨ i = 1 ∨ i = 2 := by omega
    rcases this with rfl | rfl | rfl <;> assumption
  · rw [k.worse]
    have : i = 0 ∨ i = 1 ∨ i = 2 := by omega
    rcases this with rfl | rfl | rfl <;> decide
  · rw [k.worse]
    have : i = 0 ∨ i = 1 := by omega
    rcases this with rfl | rfl
    · exact (by kernel_rfl : netOf worse 1 3 = some (-100))
    · exact (by kernel_rfl : netOf worse 3 1 = some 102)

set_option maxHeartbeats 4000000 in
theorem works_w {h : H} : AW Try.prog 10 h.next h [] (fun v _ => v = .bool true) := by
  refine fun10.call rfl (Nat.le_refl _) ?_
  unfold a10
  (focus ((try with_reducible apply wpC.to); (repeat' ((conv => whnf); first | ((apply Start.mk); (focus exact byNext); (focus exact byLen)) | ((apply New.mk); (focus exact byNid)) | ((apply Need.mk); (focus exact byNeed)) | ((apply Fork.mk) <;> (intro _; try (exfalso; omega; done))) | ((apply Load1.mk); (focus exact byMem); (focus exact byVal)) | ((apply LoadN.mk); (focus exact byMem); (focus exact byList)) | ((apply Sto.mk); (focus exact bySto); (focus exact byLo); (focus exact byGet); (focus exact rfl); (focus exact rfl); (focus exact rfl); (focus exact byList)) | ((with_reducible apply Ix.nat); (focus exact rfl); (focus omega)) | ((with_reducible apply Ix.natp); (focus assumption); (focus omega)) | ((with_reducible apply Ix.pred); (focus first | assumption | exact fun _ => rfl); (focus omega); (focus omega)) | ((with_reducible apply Ix.lit); (focus exact byLit); (focus first | assumption | exact fun _ => rfl); (focus omega); (focus omega)) | ((with_reducible apply Ix.int); (focus exact rfl); (focus omega); (focus omega)) | ((with_reducible apply Ix.intp); (focus assumption); (focus omega); (focus omega)) | ((apply OpE.val); (focus exact rfl); (focus exact byVal)) | apply forceV_any | apply forceL_any)); all_goals (conv => whnf); all_goals (try with_reducible apply At.mk)))
  apply q_call
  focus (exact byNext)
  focus (exact byLo)
  focus exact table_w
  rintro _ h1 ⟨T, rfl, kT, hT, hTc, hTs, hTb⟩ q1 hn1
  (focus ((try with_reducible apply wpC.to); (repeat' ((conv => whnf); first | ((apply Start.mk); (focus exact byNext); (focus exact byLen)) | ((apply New.mk); (focus exact byNid)) | ((apply Need.mk); (focus exact byNeed)) | ((apply Fork.mk) <;> (intro _; try (exfalso; omega; done))) | ((apply Load1.mk); (focus exact byMem); (focus exact byVal)) | ((apply LoadN.mk); (focus exact byMem); (focus exact byList)) | ((apply Sto.mk); (focus exact bySto); (focus exact byLo); (focus exact byGet); (focus exact rfl); (focus exact rfl); (focus exact rfl); (focus exact byList)) | ((with_reducible apply Ix.nat); (focus exact rfl); (focus omega)) | ((with_reducible apply Ix.natp); (focus assumption); (focus omega)) | ((with_reducible apply Ix.pred); (focus first | assumption | exact fun _ => rfl); (focus omega); (focus omega)) | ((with_reducible apply Ix.lit); (focus exact byLit); (focus first | assumption | exact fun _ => rfl); (focus omega); (focus omega)) | ((with_reducible apply Ix.int); (focus exact rfl); (focus omega); (focus omega)) | ((with_reducible apply Ix.intp); (focus assumption); (focus omega); (focus omega)) | ((apply OpE.val); (focus exact rfl); (focus exact byVal)) | apply forceV_any | apply forceL_any)); all_goals (conv => whnf); all_goals (try with_reducible apply At.mk)))
  apply q_call
  focus (exact byNext)
  focus (exact byLo)
  focus exact worse_w
  rintro _ h2 ⟨U, rfl, kU, hU, hUb⟩ q2 hn2
  try simp only [put_next, bump_next] at hTb hUb
  (focus ((try with_reducible apply wpC.to); (repeat' ((conv => whnf); first | ((apply Start.mk); (focus exact byNext); (focus exact byLen)) | ((apply New.mk); (focus exact byNid)) | ((apply Need.mk); (focus exact byNeed)) | ((apply Fork.mk) <;> (intro _; try (exfalso; omega; done))) | ((apply Load1.mk); (focus exact byMem); (focus exact byVal)) | ((apply LoadN.mk); (focus exact byMem); (focus exact byList)) | ((apply Sto.mk); (focus exact bySto); (focus exact byLo); (focus exact byGet); (focus exact rfl); (focus exact rfl); (focus exact rfl); (focus exact byList)) | ((with_reducible apply Ix.nat); (focus exact rfl); (focus omega)) | ((with_reducible apply Ix.natp); (focus assumption); (focus omega)) | ((with_reducible apply Ix.pred); (focus first | assumption | exact fun _ => rfl); (focus omega); (focus omega)) | ((with_reducible apply Ix.lit); (focus exact byLit); (focus first | assumption | exact fun _ => rfl); (focus omega); (focus omega)) | ((with_reducible apply Ix.int); (focus exact rfl); (focus omega); (focus omega)) | ((with_reducible apply Ix.intp); (focus assumption); (focus omega); (focus omega)) | ((apply OpE.val); (focus exact rfl); (focus exact byVal)) | apply forceV_any | apply forceL_any)); all_goals (conv => whnf); all_goals (try with_reducible apply At.mk)))
  have hTf : ∀ h' : H, (∀ r, h.next + 7 ≤ r → r < h2.next → h'.get r = h2.get r) → T.Ok h2.next h' := fun h' hh =>
    hT.frame (b := h.next + 7) (fun _ => by omega) (by omega) fun r hr1 hr2 => (hh r hr1 (by omega)).trans (q2.same r hr2)
  have hUf : ∀ h' : H, (∀ r, h.next + 7 ≤ r → r < h2.next → h'.get r = h2.get r) → U.Ok h2.next h' := fun h' hh =>
    hU.frame (b := h1.next) (fun _ => by omega) (by omega) fun r hr1 hr2 => hh r (by omega) hr2
  apply q_call
  focus (exact byNext)
  focus (exact byLo)
  focus exact ex_truth0 (m := h2.next) (by (exact byOm)) (hTf _ fun r hr1 hr2 => get_of fun y hy => by (exact byGet)) kT
  rintro _ h3 ⟨x, rfl, hxt, ⟨hxA, hxC⟩, hxa, hxc⟩ q3 hn3
  try simp only [put_next, bump_next] at hxa hxc
  have hxf : ∀ h' : H, (∀ r, h2.next + 8 ≤ r → r < h3.next → h'.get r = h3.get r) → x.Ok h3.next h' := fun h' hh => ⟨hxA.frame (fun _ => by omega) (by omega) hh, hxC.frame (fun _ => by omega) (by omega) hh⟩
  (focus ((try with_reducible apply wpC.to); (repeat' ((conv => whnf); first | ((apply Start.mk); (focus exact byNext); (focus exact byLen)) | ((apply New.mk); (focus exact byNid)) | ((apply Need.mk); (focus exact byNeed)) | ((apply Fork.mk) <;> (intro _; try (exfalso; omega; done))) | ((apply Load1.mk); (focus exact byMem); (focus exact byVal)) | ((apply LoadN.mk); (focus exact byMem); (focus exact byList)) | ((apply Sto.mk); (focus exact bySto); (focus exact byLo); (focus exact byGet); (focus exact rfl); (focus exact rfl); (focus exact rfl); (focus exact byList)) | ((with_reducible apply Ix.nat); (focus exact rfl); (focus omega)) | ((with_reducible apply Ix.natp); (focus assumption); (focus omega)) | ((with_reducible apply Ix.pred); (focus first | assumption | exact fun _ => rfl); (focus omega); (focus omega)) | ((with_reducible apply Ix.lit); (focus exact byLit); (focus first | assumption | exact fun _ => rfl); (focus omega); (focus omega)) | ((with_reducible apply Ix.int); (focus exact rfl); (focus omega); (focus omega)) | ((with_reducible apply Ix.intp); (focus assumption); (focus omega); (focus omega)) | ((apply OpE.val); (focus exact rfl); (focus exact byVal)) | apply forceV_any | apply forceL_any)); all_goals (conv => whnf); all_goals (try with_reducible apply At.mk)))
  apply q_call
  focus (exact byNext)
  focus (exact byLo)
  focus exact ex_truth1 (m := h2.next) (by (exact byOm)) (hUf _ fun r hr1 hr2 => get_of fun y hy => by (exact byGet)) kU
  rintro _ h4 rfl q4 hn4
  (focus ((try with_reducible apply wpC.to); (repeat' ((conv => whnf); first | ((apply Start.mk); (focus exact byNext); (focus exact byLen)) | ((apply New.mk); (focus exact byNid)) | ((apply Need.mk); (focus exact byNeed)) | ((apply Fork.mk) <;> (intro _; try (exfalso; omega; done))) | ((apply Load1.mk); (focus exact byMem); (focus exact byVal)) | ((apply LoadN.mk); (focus exact byMem); (focus exact byList)) | ((apply Sto.mk); (focus exact bySto); (focus exact byLo); (focus exact byGet); (focus exact rfl); (focus exact rfl); (focus exact rfl); (focus exact byList)) | ((with_reducible apply Ix.nat); (focus exact rfl); (focus omega)) | ((with_reducible apply Ix.natp); (focus assumption); (focus omega)) | ((with_reducible apply Ix.pred); (focus first | assumption | exact fun _ => rfl); (focus omega); (focus omega)) | ((with_reducible apply Ix.lit); (focus exact byLit); (focus first | assumption | exact fun _ => rfl); (focus omega); (focus omega)) | ((with_reducible apply Ix.int); (focus exact rfl); (focus omega); (focus omega)) | ((with_reducible apply Ix.intp); (focus assumption); (focus omega); (focus omega)) | ((apply OpE.val); (focus exact rfl); (focus exact byVal)) | apply forceV_any | apply forceL_any)); all_goals (conv => whnf); all_goals (try with_reducible apply At.mk)))
  apply q_callv
  focus (exact byNext)
  focus (exact byLo)
  focus exact ex_spread0 (m := h2.next) (by (exact byOm)) (hTf _ fun r hr1 hr2 => get_of fun y hy => by (exact byGet)) kT
  intro h5 q5 hn5
  (focus ((try with_reducible apply wpC.to); (repeat' ((conv => whnf); first | ((apply Start.mk); (focus exact byNext); (focus exact byLen)) | ((apply New.mk); (focus exact byNid)) | ((apply Need.mk); (focus exact byNeed)) | ((apply Fork.mk) <;> (intro _; try (exfalso; omega; done))) | ((apply Load1.mk); (focus exact byMem); (focus exact byVal)) | ((apply LoadN.mk); (focus exact byMem); (focus exact byList)) | ((apply Sto.mk); (focus exact bySto); (focus exact byLo); (focus exact byGet); (focus exact rfl); (focus exact rfl); (focus exact rfl); (focus exact byList)) | ((with_reducible apply Ix.nat); (focus exact rfl); (focus omega)) | ((with_reducible apply Ix.natp); (focus assumption); (focus omega)) | ((with_reducible apply Ix.pred); (focus first | assumption | exact fun _ => rfl); (focus omega); (focus omega)) | ((with_reducible apply Ix.lit); (focus exact byLit); (focus first | assumption | exact fun _ => rfl); (focus omega); (focus omega)) | ((with_reducible apply Ix.int); (focus exact rfl); (focus omega); (focus omega)) | ((with_reducible apply Ix.intp); (focus assumption); (focus omega); (focus omega)) | ((apply OpE.val); (focus exact rfl); (focus exact byVal)) | apply forceV_any | apply forceL_any)); all_goals (conv => whnf); all_goals (try with_reducible apply At.mk)))
  apply q_callv
  focus (exact byNext)
  focus (exact byLo)
  focus exact ex_spread1 (m := h2.next) (by (exact byOm)) (hTf _ fun r hr1 hr2 => get_of fun y hy => by (exact byGet)) kT
  intro h6 q6 hn6
  (focus ((try with_reducible apply wpC.to); (repeat' ((conv => whnf); first | ((apply Start.mk); (focus exact byNext); (focus exact byLen)) | ((apply New.mk); (focus exact byNid)) | ((apply Need.mk); (focus exact byNeed)) | ((apply Fork.mk) <;> (intro _; try (exfalso; omega; done))) | ((apply Load1.mk); (focus exact byMem); (focus exact byVal)) | ((apply LoadN.mk); (focus exact byMem); (focus exact byList)) | ((apply Sto.mk); (focus exact bySto); (focus exact byLo); (focus exact byGet); (focus exact rfl); (focus exact rfl); (focus exact rfl); (focus exact byList)) | ((with_reducible apply Ix.nat); (focus exact rfl); (focus omega)) | ((with_reducible apply Ix.natp); (focus assumption); (focus omega)) | ((with_reducible apply Ix.pred); (focus first | assumption | exact fun _ => rfl); (focus omega); (focus omega)) | ((with_reducible apply Ix.lit); (focus exact byLit); (focus first | assumption | exact fun _ => rfl); (focus omega); (focus omega)) | ((with_reducible apply Ix.int); (focus exact rfl); (focus omega); (focus omega)) | ((with_reducible apply Ix.intp); (focus assumption); (focus omega); (focus omega)) | ((apply OpE.val); (focus exact rfl); (focus exact byVal)) | apply forceV_any | apply forceL_any)); all_goals (conv => whnf); all_goals (try with_reducible apply At.mk)))
  apply q_callv
  focus (exact byNext)
  focus (exact byLo)
  focus exact ex_between (m := h2.next) (by (exact byOm)) (hTf _ fun r hr1 hr2 => get_of fun y hy => by (exact byGet)) kT
  intro h7 q7 hn7
  (focus ((try with_reducible apply wpC.to); (repeat' ((conv => whnf); first | ((apply Start.mk); (focus exact byNext); (focus exact byLen)) | ((apply New.mk); (focus exact byNid)) | ((apply Need.mk); (focus exact byNeed)) | ((apply Fork.mk) <;> (intro _; try (exfalso; omega; done))) | ((apply Load1.mk); (focus exact byMem); (focus exact byVal)) | ((apply LoadN.mk); (focus exact byMem); (focus exact byList)) | ((apply Sto.mk); (focus exact bySto); (focus exact byLo); (focus exact byGet); (focus exact rfl); (focus exact rfl); (focus exact rfl); (focus exact byList)) | ((with_reducible apply Ix.nat); (focus exact rfl); (focus omega)) | ((with_reducible apply Ix.natp); (focus assumption); (focus omega)) | ((with_reducible apply Ix.pred); (focus first | assumption | exact fun _ => rfl); (focus omega); (focus omega)) | ((with_reducible apply Ix.lit); (focus exact byLit); (focus first | assumption | exact fun _ => rfl); (focus omega); (focus omega)) | ((with_reducible apply Ix.int); (focus exact rfl); (focus omega); (focus omega)) | ((with_reducible apply Ix.intp); (focus assumption); (focus omega); (focus omega)) | ((apply OpE.val); (focus exact rfl); (focus exact byVal)) | apply forceV_any | apply forceL_any)); all_goals (conv => whnf); all_goals (try with_reducible apply At.mk)))
  apply q_callv
  focus (exact byNext)
  focus (exact byLo)
  focus
    refine checkRing_w (L := ⟨5, fun i => (ringL i : Int), some ⟨h7.next + 1, 0, none⟩, ⟨h7.next + 1, 0, none⟩, 5⟩) (m := h2.next) (by (exact byOm)) (hUf _ fun r hr1 hr2 => get_of fun y hy => by (exact byGet)) (kU.valid (by omega)) ⟨fun _ => rfl, fun i hi => ?_, fun _ => by simp only; (exact byOm), by simp⟩ rfl rfl (ex_ring kU rfl fun i hi => rfl)
    have : i = 0 ∨ i = 1 ∨ i = 2 ∨ i = 3 ∨ i = 4 := by simp only at hi; omega
    rcases this with rfl | rfl | rfl | rfl | rfl
    · exact loadN_one (off := 0 + 0) (by (exact byGet)) rfl
    · exact loadN_one (off := 0 + 1) (by (exact byGet)) rfl
    · exact loadN_one (off := 0 + 2) (by (exact byGet)) rfl
    · exact loadN_one (off := 0 + 3) (by (exact byGet)) rfl
    · exact loadN_one (off := 0 + 4) (by (exact byGet)) rfl
  intro h8 q8 hn8
  rw [show ringV (sumTo ringW (5 - 1)) = .tuple #[.int .i64 (-3), .int .i64 0] from rfl]
  (focus ((try with_reducible apply wpC.to); (repeat' ((conv => whnf); first | ((apply Start.mk); (focus exact byNext); (focus exact byLen)) | ((apply New.mk); (focus exact byNid)) | ((apply Need.mk); (focus exact byNeed)) | ((apply Fork.mk) <;> (intro _; try (exfalso; omega; done))) | ((apply Load1.mk); (focus exact byMem); (focus exact byVal)) | ((apply LoadN.mk); (focus exact byMem); (focus exact byList)) | ((apply Sto.mk); (focus exact bySto); (focus exact byLo); (focus exact byGet); (focus exact rfl); (focus exact rfl); (focus exact rfl); (focus exact byList)) | ((with_reducible apply Ix.nat); (focus exact rfl); (focus omega)) | ((with_reducible apply Ix.natp); (focus assumption); (focus omega)) | ((with_reducible apply Ix.pred); (focus first | assumption | exact fun _ => rfl); (focus omega); (focus omega)) | ((with_reducible apply Ix.lit); (focus exact byLit); (focus first | assumption | exact fun _ => rfl); (focus omega); (focus omega)) | ((with_reducible apply Ix.int); (focus exact rfl); (focus omega); (focus omega)) | ((with_reducible apply Ix.intp); (focus assumption); (focus omega); (focus omega)) | ((apply OpE.val); (focus exact rfl); (focus exact byVal)) | apply forceV_any | apply forceL_any)); all_goals (conv => whnf); all_goals (try with_reducible apply At.mk)))
  apply q_call
  focus (exact byNext)
  focus (exact byLo)
  focus exact ringOf_worse (m := h2.next) (by (exact byOm)) (hUf _ fun r hr1 hr2 => get_of fun y hy => by (exact byGet)) (kU.valid (by omega)) kU.worse not_worse
  rintro _ h9 ⟨R, rfl, hR1, hR2, hRk⟩ q9 hn9
  (focus ((try with_reducible apply wpC.to); (repeat' ((conv => whnf); first | ((apply Start.mk); (focus exact byNext); (focus exact byLen)) | ((apply New.mk); (focus exact byNid)) | ((apply Need.mk); (focus exact byNeed)) | ((apply Fork.mk) <;> (intro _; try (exfalso; omega; done))) | ((apply Load1.mk); (focus exact byMem); (focus exact byVal)) | ((apply LoadN.mk); (focus exact byMem); (focus exact byList)) | ((apply Sto.mk); (focus exact bySto); (focus exact byLo); (focus exact byGet); (focus exact rfl); (focus exact rfl); (focus exact rfl); (focus exact byList)) | ((with_reducible apply Ix.nat); (focus exact rfl); (focus omega)) | ((with_reducible apply Ix.natp); (focus assumption); (focus omega)) | ((with_reducible apply Ix.pred); (focus first | assumption | exact fun _ => rfl); (focus omega); (focus omega)) | ((with_reducible apply Ix.lit); (focus exact byLit); (focus first | assumption | exact fun _ => rfl); (focus omega); (focus omega)) | ((with_reducible apply Ix.int); (focus exact rfl); (focus omega); (focus omega)) | ((with_reducible apply Ix.intp); (focus assumption); (focus omega); (focus omega)) | ((apply OpE.val); (focus exact rfl); (focus exact byVal)) | apply forceV_any | apply forceL_any)); all_goals (conv => whnf); all_goals (try with_reducible apply At.mk)))
  apply q_call
  focus (exact byNext)
  focus (exact byLo)
  focus exact ex_odd (m := h2.next) (by (exact byOm)) (hUf _ fun r hr1 hr2 => get_of fun y hy => by (exact byGet)) kU
  rintro _ h10 ⟨O, rfl, hO1, hO2, hO3, hOk⟩ q10 hn10
  (focus ((try with_reducible apply wpC.to); (repeat' ((conv => whnf); first | ((apply Start.mk); (focus exact byNext); (focus exact byLen)) | ((apply New.mk); (focus exact byNid)) | ((apply Need.mk); (focus exact byNeed)) | ((apply Fork.mk) <;> (intro _; try (exfalso; omega; done))) | ((apply Load1.mk); (focus exact byMem); (focus exact byVal)) | ((apply LoadN.mk); (focus exact byMem); (focus exact byList)) | ((apply Sto.mk); (focus exact bySto); (focus exact byLo); (focus exact byGet); (focus exact rfl); (focus exact rfl); (focus exact rfl); (focus exact byList)) | ((with_reducible apply Ix.nat); (focus exact rfl); (focus omega)) | ((with_reducible apply Ix.natp); (focus assumption); (focus omega)) | ((with_reducible apply Ix.pred); (focus first | assumption | exact fun _ => rfl); (focus omega); (focus omega)) | ((with_reducible apply Ix.lit); (focus exact byLit); (focus first | assumption | exact fun _ => rfl); (focus omega); (focus omega)) | ((with_reducible apply Ix.int); (focus exact rfl); (focus omega); (focus omega)) | ((with_reducible apply Ix.intp); (focus assumption); (focus omega); (focus omega)) | ((apply OpE.val); (focus exact rfl); (focus exact byVal)) | apply forceV_any | apply forceL_any)); all_goals (conv => whnf); all_goals (try with_reducible apply At.mk)))
  apply q_call
  focus (exact byNext)
  focus (exact byLo)
  focus exact ex_attain (m := h2.next) (by (exact byOm)) (hTf _ fun r hr1 hr2 => get_of fun y hy => by (exact byGet)) kT (.inr rfl)
  rintro _ h11 ⟨y, rfl, hyt, ⟨⟨hyA, hyC⟩, hya, hyc⟩, hy1, hy2⟩ q11 hn11
  try simp only [put_next, bump_next] at hya hyc
  have hyf : ∀ h' : H, (∀ r, h10.next + 8 ≤ r → r < h11.next → h'.get r = h11.get r) → y.Ok h11.next h' := fun h' hh => ⟨hyA.frame (fun _ => by omega) (by omega) hh, hyC.frame (fun _ => by omega) (by omega) hh⟩
  (focus ((try with_reducible apply wpC.to); (repeat' ((conv => whnf); first | ((apply Start.mk); (focus exact byNext); (focus exact byLen)) | ((apply New.mk); (focus exact byNid)) | ((apply Need.mk); (focus exact byNeed)) | ((apply Fork.mk) <;> (intro _; try (exfalso; omega; done))) | ((apply Load1.mk); (focus exact byMem); (focus exact byVal)) | ((apply LoadN.mk); (focus exact byMem); (focus exact byList)) | ((apply Sto.mk); (focus exact bySto); (focus exact byLo); (focus exact byGet); (focus exact rfl); (focus exact rfl); (focus exact rfl); (focus exact byList)) | ((with_reducible apply Ix.nat); (focus exact rfl); (focus omega)) | ((with_reducible apply Ix.natp); (focus assumption); (focus omega)) | ((with_reducible apply Ix.pred); (focus first | assumption | exact fun _ => rfl); (focus omega); (focus omega)) | ((with_reducible apply Ix.lit); (focus exact byLit); (focus first | assumption | exact fun _ => rfl); (focus omega); (focus omega)) | ((with_reducible apply Ix.int); (focus exact rfl); (focus omega); (focus omega)) | ((with_reducible apply Ix.intp); (focus assumption); (focus omega); (focus omega)) | ((apply OpE.val); (focus exact rfl); (focus exact byVal)) | apply forceV_any | apply forceL_any)); all_goals (conv => whnf); all_goals (try with_reducible apply At.mk)))
  refine OpE.pure (.bool false) (by kernel_rfl) ?_
  (focus ((try with_reducible apply wpC.to); (repeat' ((conv => whnf); first | ((apply Start.mk); (focus exact byNext); (focus exact byLen)) | ((apply New.mk); (focus exact byNid)) | ((apply Need.mk); (focus exact byNeed)) | ((apply Fork.mk) <;> (intro _; try (exfalso; omega; done))) | ((apply Load1.mk); (focus exact byMem); (focus exact byVal)) | ((apply LoadN.mk); (focus exact byMem); (focus exact byList)) | ((apply Sto.mk); (focus exact bySto); (focus exact byLo); (focus exact byGet); (focus exact rfl); (focus exact rfl); (focus exact rfl); (focus exact byList)) | ((with_reducible apply Ix.nat); (focus exact rfl); (focus omega)) | ((with_reducible apply Ix.natp); (focus assumption); (focus omega)) | ((with_reducible apply Ix.pred); (focus first | assumption | exact fun _ => rfl); (focus omega); (focus omega)) | ((with_reducible apply Ix.lit); (focus exact byLit); (focus first | assumption | exact fun _ => rfl); (focus omega); (focus omega)) | ((with_reducible apply Ix.int); (focus exact rfl); (focus omega); (focus omega)) | ((with_reducible apply Ix.intp); (focus assumption); (focus omega); (focus omega)) | ((apply OpE.val); (focus exact rfl); (focus exact byVal)) | apply forceV_any | apply forceL_any)); all_goals (conv => whnf); all_goals (try with_reducible apply At.mk)))
  refine OpE.pure (.bool false) (by kernel_rfl) ?_
  (focus ((try with_reducible apply wpC.to); (repeat' ((conv => whnf); first | ((apply Start.mk); (focus exact byNext); (focus exact byLen)) | ((apply New.mk); (focus exact byNid)) | ((apply Need.mk); (focus exact byNeed)) | ((apply Fork.mk) <;> (intro _; try (exfalso; omega; done))) | ((apply Load1.mk); (focus exact byMem); (focus exact byVal)) | ((apply LoadN.mk); (focus exact byMem); (focus exact byList)) | ((apply Sto.mk); (focus exact bySto); (focus exact byLo); (focus exact byGet); (focus exact rfl); (focus exact rfl); (focus exact rfl); (focus exact byList)) | ((with_reducible apply Ix.nat); (focus exact rfl); (focus omega)) | ((with_reducible apply Ix.natp); (focus assumption); (focus omega)) | ((with_reducible apply Ix.pred); (focus first | assumption | exact fun _ => rfl); (focus omega); (focus omega)) | ((with_reducible apply Ix.lit); (focus exact byLit); (focus first | assumption | exact fun _ => rfl); (focus omega); (focus omega)) | ((with_reducible apply Ix.int); (focus exact rfl); (focus omega); (focus omega)) | ((with_reducible apply Ix.intp); (focus assumption); (focus omega); (focus omega)) | ((apply OpE.val); (focus exact rfl); (focus exact byVal)) | apply forceV_any | apply forceL_any)); all_goals (conv => whnf); all_goals (try with_reducible apply At.mk)))
  refine OpE.pure (.bool false) (by kernel_rfl) ?_
  (focus ((try with_reducible apply wpC.to); (repeat' ((conv => whnf); first | ((apply Start.mk); (focus exact byNext); (focus exact byLen)) | ((apply New.mk); (focus exact byNid)) | ((apply Need.mk); (focus exact byNeed)) | ((apply Fork.mk) <;> (intro _; try (exfalso; omega; done))) | ((apply Load1.mk); (focus exact byMem); (focus exact byVal)) | ((apply LoadN.mk); (focus exact byMem); (focus exact byList)) | ((apply Sto.mk); (focus exact bySto); (focus exact byLo); (focus exact byGet); (focus exact rfl); (focus exact rfl); (focus exact rfl); (focus exact byList)) | ((with_reducible apply Ix.nat); (focus exact rfl); (focus omega)) | ((with_reducible apply Ix.natp); (focus assumption); (focus omega)) | ((with_reducible apply Ix.pred); (focus first | assumption | exact fun _ => rfl); (focus omega); (focus omega)) | ((with_reducible apply Ix.lit); (focus exact byLit); (focus first | assumption | exact fun _ => rfl); (focus omega); (focus omega)) | ((with_reducible apply Ix.int); (focus exact rfl); (focus omega); (focus omega)) | ((with_reducible apply Ix.intp); (focus assumption); (focus omega); (focus omega)) | ((apply OpE.val); (focus exact rfl); (focus exact byVal)) | apply forceV_any | apply forceL_any)); all_goals (conv => whnf); all_goals (try with_reducible apply At.mk)))
  apply q_callv
  focus (exact byNext)
  focus (exact byLo)
  focus
    refine ints_w (L := O) (M := ⟨2, fun i => (i : Int), some ⟨h11.next + 55, 0, none⟩, ⟨h11.next + 55, 0, none⟩, 2⟩) (m := h11.next + 59) (by (exact byOm)) (hOk.frame (b := 0) (fun _ => Nat.zero_le _) (by omega) fun r hr1 hr2 => get_of fun y hy => by (exact byGet)) ⟨fun _ => rfl, fun i hi => ?_, fun _ => by simp only; omega, by simp⟩
    have : i = 0 ∨ i = 1 := by simp only at hi; omega
    rcases this with rfl | rfl
    · exact loadN_one (off := 0 + 0) (by (exact byGet)) rfl
    · exact loadN_one (off := 0 + 1) (by (exact byGet)) rfl
  intro h12 q12 hn12
  rw [decide_eq_true (show O.n = 2 ∧ ∀ i, i < O.n → O.f i = (i : Int) from ⟨hO1, fun i hi => by
    have : i = 0 ∨ i = 1 := by omega
    rcases this with rfl | rfl
    · exact hO2
    · exact hO3⟩)]
  (focus ((try with_reducible apply wpC.to); (repeat' ((conv => whnf); first | ((apply Start.mk); (focus exact byNext); (focus exact byLen)) | ((apply New.mk); (focus exact byNid)) | ((apply Need.mk); (focus exact byNeed)) | ((apply Fork.mk) <;> (intro _; try (exfalso; omega; done))) | ((apply Load1.mk); (focus exact byMem); (focus exact byVal)) | ((apply LoadN.mk); (focus exact byMem); (focus exact byList)) | ((apply Sto.mk); (focus exact bySto); (focus exact byLo); (focus exact byGet); (focus exact rfl); (focus exact rfl); (focus exact rfl); (focus exact byList)) | ((with_reducible apply Ix.nat); (focus exact rfl); (focus omega)) | ((with_reducible apply Ix.natp); (focus assumption); (focus omega)) | ((with_reducible apply Ix.pred); (focus first | assumption | exact fun _ => rfl); (focus omega); (focus omega)) | ((with_reducible apply Ix.lit); (focus exact byLit); (focus first | assumption | exact fun _ => rfl); (focus omega); (focus omega)) | ((with_reducible apply Ix.int); (focus exact rfl); (focus omega); (focus omega)) | ((with_reducible apply Ix.intp); (focus assumption); (focus omega); (focus omega)) | ((apply OpE.val); (focus exact rfl); (focus exact byVal)) | apply forceV_any | apply forceL_any)); all_goals (conv => whnf); all_goals (try with_reducible apply At.mk)))
  apply q_callv
  focus (exact byNext)
  focus (exact byLo)
  focus exact refRing_w (m := h2.next) (by (exact byOm)) (hUf _ fun r hr1 hr2 => get_of fun y hy => by (exact byGet)) (kU.valid (by omega)) (hRk.frame (b := 0) (fun _ => Nat.zero_le _) (by (exact byOm)) fun r hr1 hr2 => get_of fun y hy => by (exact byGet)) (ex_ring kU hR1 hR2)
  intro h13 q13 hn13
  rw [hR1, show ringV (sumTo ringW (5 - 1)) = .tuple #[.int .i64 (-3), .int .i64 0] from rfl]
  (focus ((try with_reducible apply wpC.to); (repeat' ((conv => whnf); first | ((apply Start.mk); (focus exact byNext); (focus exact byLen)) | ((apply New.mk); (focus exact byNid)) | ((apply Need.mk); (focus exact byNeed)) | ((apply Fork.mk) <;> (intro _; try (exfalso; omega; done))) | ((apply Load1.mk); (focus exact byMem); (focus exact byVal)) | ((apply LoadN.mk); (focus exact byMem); (focus exact byList)) | ((apply Sto.mk); (focus exact bySto); (focus exact byLo); (focus exact byGet); (focus exact rfl); (focus exact rfl); (focus exact rfl); (focus exact byList)) | ((with_reducible apply Ix.nat); (focus exact rfl); (focus omega)) | ((with_reducible apply Ix.natp); (focus assumption); (focus omega)) | ((with_reducible apply Ix.pred); (focus first | assumption | exact fun _ => rfl); (focus omega); (focus omega)) | ((with_reducible apply Ix.lit); (focus exact byLit); (focus first | assumption | exact fun _ => rfl); (focus omega); (focus omega)) | ((with_reducible apply Ix.int); (focus exact rfl); (focus omega); (focus omega)) | ((with_reducible apply Ix.intp); (focus assumption); (focus omega); (focus omega)) | ((apply OpE.val); (focus exact rfl); (focus exact byVal)) | apply forceV_any | apply forceL_any)); all_goals (conv => whnf); all_goals (try with_reducible apply At.mk)))
  apply q_call
  focus (exact byNext)
  focus (exact byLo)
  focus exact refTruth_w (t := x) (m := h3.next) (by (exact byOm)) ((hTf _ fun r hr1 hr2 => get_of fun y hy => by (exact byGet)).frame (b := 0) (fun _ => Nat.zero_le _) (by omega) fun _ _ _ => rfl) (kT.valid (by omega)) (hxf _ fun r hr1 hr2 => get_of fun y hy => by (exact byGet))
  rintro _ h14 ⟨e1, rfl, he1⟩ q14 hn14
  obtain rfl := he1.2 hxt
  (focus ((try with_reducible apply wpC.to); (repeat' ((conv => whnf); first | ((apply Start.mk); (focus exact byNext); (focus exact byLen)) | ((apply New.mk); (focus exact byNid)) | ((apply Need.mk); (focus exact byNeed)) | ((apply Fork.mk) <;> (intro _; try (exfalso; omega; done))) | ((apply Load1.mk); (focus exact byMem); (focus exact byVal)) | ((apply LoadN.mk); (focus exact byMem); (focus exact byList)) | ((apply Sto.mk); (focus exact bySto); (focus exact byLo); (focus exact byGet); (focus exact rfl); (focus exact rfl); (focus exact rfl); (focus exact byList)) | ((with_reducible apply Ix.nat); (focus exact rfl); (focus omega)) | ((with_reducible apply Ix.natp); (focus assumption); (focus omega)) | ((with_reducible apply Ix.pred); (focus first | assumption | exact fun _ => rfl); (focus omega); (focus omega)) | ((with_reducible apply Ix.lit); (focus exact byLit); (focus first | assumption | exact fun _ => rfl); (focus omega); (focus omega)) | ((with_reducible apply Ix.int); (focus exact rfl); (focus omega); (focus omega)) | ((with_reducible apply Ix.intp); (focus assumption); (focus omega); (focus omega)) | ((apply OpE.val); (focus exact rfl); (focus exact byVal)) | apply forceV_any | apply forceL_any)); all_goals (conv => whnf); all_goals (try with_reducible apply At.mk)))
  apply q_call
  focus (exact byNext)
  focus (exact byLo)
  focus exact refTruth_w (t := y) (m := h11.next) (by (exact byOm)) ((hTf _ fun r hr1 hr2 => get_of fun y hy => by (exact byGet)).frame (b := 0) (fun _ => Nat.zero_le _) (by omega) fun _ _ _ => rfl) (kT.valid (by omega)) (hyf _ fun r hr1 hr2 => get_of fun y hy => by (exact byGet))
  rintro _ h15 ⟨e2, rfl, he2⟩ q15 hn15
  obtain rfl := he2.2 hyt
  have hyb : 0 < y.C.n → y.C.b = some y.C.a := hyC.e
  have hyi : Ints h11 y.C.a y.C.n y.C.f := hyC.i
  (focus ((try with_reducible apply wpC.to); (repeat' ((conv => whnf); first | ((apply Start.mk); (focus exact byNext); (focus exact byLen)) | ((apply New.mk); (focus exact byNid)) | ((apply Need.mk); (focus exact byNeed)) | ((apply Fork.mk) <;> (intro _; try (exfalso; omega; done))) | ((apply Load1.mk); (focus exact byMem); (focus exact byVal)) | ((apply LoadN.mk); (focus exact byMem); (focus exact byList)) | ((apply Sto.mk); (focus exact bySto); (focus exact byLo); (focus exact byGet); (focus exact rfl); (focus exact rfl); (focus exact rfl); (focus exact byList)) | ((with_reducible apply Ix.nat); (focus exact rfl); (focus omega)) | ((with_reducible apply Ix.natp); (focus assumption); (focus omega)) | ((with_reducible apply Ix.pred); (focus first | assumption | exact fun _ => rfl); (focus omega); (focus omega)) | ((with_reducible apply Ix.lit); (focus exact byLit); (focus first | assumption | exact fun _ => rfl); (focus omega); (focus omega)) | ((with_reducible apply Ix.int); (focus exact rfl); (focus omega); (focus omega)) | ((with_reducible apply Ix.intp); (focus assumption); (focus omega); (focus omega)) | ((apply OpE.val); (focus exact rfl); (focus exact byVal)) | apply forceV_any | apply forceL_any)); all_goals (conv => whnf); all_goals (try with_reducible apply At.mk)))
  have hy54 : y.C.f 1 = 54 := hy2.trans ends_tab0.2.2.2.1
  refine Load1.mk ((hyf _ fun r hr1 hr2 => get_of fun y hy => by (exact byGet)).c.i.at (m := 1) (by omega)) (congrArg (Value.int .i64) hy54) ?_
  (focus ((try with_reducible apply wpC.to); (repeat' ((conv => whnf); first | ((apply Start.mk); (focus exact byNext); (focus exact byLen)) | ((apply New.mk); (focus exact byNid)) | ((apply Need.mk); (focus exact byNeed)) | ((apply Fork.mk) <;> (intro _; try (exfalso; omega; done))) | ((apply Load1.mk); (focus exact byMem); (focus exact byVal)) | ((apply LoadN.mk); (focus exact byMem); (focus exact byList)) | ((apply Sto.mk); (focus exact bySto); (focus exact byLo); (focus exact byGet); (focus exact rfl); (focus exact rfl); (focus exact rfl); (focus exact byList)) | ((with_reducible apply Ix.nat); (focus exact rfl); (focus omega)) | ((with_reducible apply Ix.natp); (focus assumption); (focus omega)) | ((with_reducible apply Ix.pred); (focus first | assumption | exact fun _ => rfl); (focus omega); (focus omega)) | ((with_reducible apply Ix.lit); (focus exact byLit); (focus first | assumption | exact fun _ => rfl); (focus omega); (focus omega)) | ((with_reducible apply Ix.int); (focus exact rfl); (focus omega); (focus omega)) | ((with_reducible apply Ix.intp); (focus assumption); (focus omega); (focus omega)) | ((apply OpE.val); (focus exact rfl); (focus exact byVal)) | apply forceV_any | apply forceL_any)); all_goals (conv => whnf); all_goals (try with_reducible apply At.mk)))
  apply q_call
  focus (exact byNext)
  focus (exact byLo)
  focus
    refine checkTruth_w (t := ⟨⟨2, fun i => if i = 0 then -1 else 3, some ⟨h13.next + 27, 0, none⟩, ⟨h13.next + 27, 0, none⟩, 2⟩, ⟨2, fun i => if i = 0 then 102 else 51, some ⟨h13.next + 28, 0, none⟩, ⟨h13.next + 28, 0, none⟩, 2⟩⟩) (m := h15.next) (by (exact byOm)) ((hTf _ fun r hr1 hr2 => get_of fun y hy => by (exact byGet)).frame (b := 0) (fun _ => Nat.zero_le _) (by omega) fun _ _ _ => rfl) (kT.valid (by omega)) ⟨⟨fun _ => rfl, fun i hi => ?_, fun _ => by simp only; omega, by simp⟩, ⟨fun _ => rfl, fun i hi => ?_, fun _ => by simp only; omega, by simp⟩⟩
    · have : i = 0 ∨ i = 1 := by simp only at hi; omega
      rcases this with rfl | rfl
      · exact loadN_one (off := 0 + 0) (by (exact byGet)) rfl
      · exact loadN_one (off := 0 + 1) (by (exact byGet)) rfl
    · have : i = 0 ∨ i = 1 := by simp only at hi; omega
      rcases this with rfl | rfl
      · exact loadN_one (off := 0 + 0) (by (exact byGet)) rfl
      · exact loadN_one (off := 0 + 1) (by (exact byGet)) rfl
  rintro _ h16 ⟨e3, rfl, he3⟩ q16 hn16
  obtain rfl := he3.2 (by
    have k1 := kT.tanks
    have k2 := kT.hulls
    refine ⟨by simp only; omega, by simp only; omega, fun i hi => by simp only; split <;> omega, fun i hi => by simp only; split <;> omega, fun i hi => ?_, fun i hi => ?_⟩
    · rw [kT.blo, kT.bhi]; simp only; split <;> omega
    · have hi : i < 3 := by have := kT.num; omega
      rw [kT.f i hi]
      have : i = 0 ∨ i = 1 ∨ i = 2 := by omega
      rcases this with rfl | rfl | rfl
      · exact (by decide : (100 : Int) ≤ -1 + 102 ∧ (-1 : Int) + 102 ≤ 102)
      · exact (by decide : (50 : Int) ≤ -1 + 51 ∧ (-1 : Int) + 51 ≤ 51)
      · exact (by decide : (105 : Int) ≤ 3 + 102 ∧ (3 : Int) + 102 ≤ 106))
  (focus ((try with_reducible apply wpC.to); (repeat' ((conv => whnf); first | ((apply Start.mk); (focus exact byNext); (focus exact byLen)) | ((apply New.mk); (focus exact byNid)) | ((apply Need.mk); (focus exact byNeed)) | ((apply Fork.mk) <;> (intro _; try (exfalso; omega; done))) | ((apply Load1.mk); (focus exact byMem); (focus exact byVal)) | ((apply LoadN.mk); (focus exact byMem); (focus exact byList)) | ((apply Sto.mk); (focus exact bySto); (focus exact byLo); (focus exact byGet); (focus exact rfl); (focus exact rfl); (focus exact rfl); (focus exact byList)) | ((with_reducible apply Ix.nat); (focus exact rfl); (focus omega)) | ((with_reducible apply Ix.natp); (focus assumption); (focus omega)) | ((with_reducible apply Ix.pred); (focus first | assumption | exact fun _ => rfl); (focus omega); (focus omega)) | ((with_reducible apply Ix.lit); (focus exact byLit); (focus first | assumption | exact fun _ => rfl); (focus omega); (focus omega)) | ((with_reducible apply Ix.int); (focus exact rfl); (focus omega); (focus omega)) | ((with_reducible apply Ix.intp); (focus assumption); (focus omega); (focus omega)) | ((apply OpE.val); (focus exact rfl); (focus exact byVal)) | apply forceV_any | apply forceL_any)); all_goals (conv => whnf); all_goals (try with_reducible apply At.mk)))
  (first | (apply fin1; (focus first | exact .inl rfl | exact .inr rfl); focus exact byR1) | (apply fin2; (focus first | exact .inl rfl | exact .inr rfl); (focus exact byR1); (focus exact byR1)) | (apply fin3; (focus first | exact .inl rfl | exact .inr rfl); (focus exact byR1); (focus exact byR1); (focus exact byR1)) | (apply fin0; (focus first | exact .inl rfl | exact .inr rfl)))
  rfl


end AE.Try
