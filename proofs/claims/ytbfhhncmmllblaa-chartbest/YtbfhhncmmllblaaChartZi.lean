/- Walks of the laws of charts: which offer is the best, the law. -/
import Derived.Test.YtbfhhncmmllblaaChartZh
set_option linter.unusedVariables false
set_option linter.unusedSimpArgs false
set_option linter.unusedSectionVars false
namespace AE.Try
open Go AE Go.Proofs
set_option maxRecDepth 100000
set_option linter.unusedVariables false

theorem isQ {G : Prop} (g : G := by (repeat (first | exact Quiet.refl _ _ | assumption | (refine Quiet.put' ?_ (by omega) (by first | omega | (simp only [put_next, bump_next]; omega))) | refine Quiet.bump' ?_ | refine Quiet.trans' ?_ (by assumption) (by omega)))) : G := g

/-- Points, as they were appended. -/
def ptsOf (l : List Pt) (v : Option Addr) (a : Addr) : Pts := ⟨l.length, fun i => l.getD i ⟨0, 0⟩, v, a, 0⟩
theorem grown_pts {b N : Nat} {h : H} {l : List Pt} {v : Option Addr} (G : Grown b N h 28 2 l.length (cellsOf Pt.cells l) v) (hl : l.length ≤ 1000000) : ∃ a, (ptsOf l v a).Ok N h := by
  rw [cellsOf_rows Pt.cells l ⟨0, 0⟩] at G
  obtain ⟨a, h1, h2, h3⟩ := G.els fun _ => rfl
  refine ⟨a, ?_⟩
  refine ⟨h1, h2, fun h0 => ?_, by show l.length ≤ _; omega⟩
  have := h3 h0
  exact this.2

set_option maxHeartbeats 8000000 in
theorem best_law {h : H} {T : Tbl} {B : Arr} {Q : Tws} {m : Nat} (hm : m ≤ h.next) (hT : T.Ok m h) (hQ : Q.Ok m h) (hB : By .u32 B m h) : AW Try.prog 8 h.next h [.agg ⟨T.cells⟩, .slice Q.b Q.n Q.c, .slice B.b B.n B.c] (fun v _ => v = .bool true) := by
  have lB := hB.l
  obtain ⟨ye, yi, yr, yl, yp⟩ := hQ
  refine fun8.call rfl (Nat.le_refl _) ?_
  unfold a8 Tbl.cells
  (focus ((try with_reducible apply wpC.to); (repeat' ((conv => whnf); first | refine byEv ?_ | ((apply Fork.mk) <;> (intro _; try (exfalso; omega; done))) | ((apply q_call); (focus exact byNext); (focus exact byLo); (focus (exact kChartY2)); first | ((apply q_allB) <;> (intro z_b _ _ _; first | exact Bool.noConfusion z_b | replace z_b := of_decide_eq_true z_b | replace z_b := of_decide_eq_false z_b | skip) <;> (first | contradiction | (revert z_b; intros))) | ((apply q_alli) <;> (intro _ _ _ _; try contradiction)) | ((apply q_allv); intro _ _ _)) | ((apply Load1.mk); (focus ((repeat (first | (apply el_lo <;> first | assumption | omega) | (apply el_hi <;> first | assumption | omega) | apply bump_old | ((apply put_old); focus (dsimp only [aadd]; omega)) | ((apply quiet_old); (focus assumption); focus (dsimp only [aadd]; omega)) | ((apply same_old); (focus assumption); focus (dsimp only [aadd]; omega)))); done)); (focus exact byVal)) | fail)); all_goals (conv => whnf); all_goals (try with_reducible apply At.mk)))
  apply q_call
  focus (exact byNext)
  focus (exact byLo)
  focus exact fine_w (T := T) (m := m) (by (exact byOm)) (hT.same (by (exact bySame)) (Nat.le_refl _))
  rintro _ h1 ⟨b, rfl, hb⟩ q1 n1
  cases b
  · (focus ((try with_reducible apply wpC.to); (repeat' ((conv => whnf); first | refine byEv ?_ | ((apply Fork.mk) <;> (intro _; try (exfalso; omega; done))) | ((apply q_call); (focus exact byNext); (focus exact byLo); (focus (exact kChartY2)); first | ((apply q_allB) <;> (intro z_b _ _ _; first | exact Bool.noConfusion z_b | replace z_b := of_decide_eq_true z_b | replace z_b := of_decide_eq_false z_b | skip) <;> (first | contradiction | (revert z_b; intros))) | ((apply q_alli) <;> (intro _ _ _ _; try contradiction)) | ((apply q_allv); intro _ _ _)) | ((apply Load1.mk); (focus ((repeat (first | (apply el_lo <;> first | assumption | omega) | (apply el_hi <;> first | assumption | omega) | apply bump_old | ((apply put_old); focus (dsimp only [aadd]; omega)) | ((apply quiet_old); (focus assumption); focus (dsimp only [aadd]; omega)) | ((apply same_old); (focus assumption); focus (dsimp only [aadd]; omega)))); done)); (focus exact byVal)) | fail)); all_goals (conv => whnf); all_goals (try with_reducible apply At.mk)))
    (refine byFin ?_)
    rfl
  have g := hb rfl
  (focus ((try with_reducible apply wpC.to); (repeat' ((conv => whnf); first | refine byEv ?_ | ((apply Fork.mk) <;> (intro _; try (exfalso; omega; done))) | ((apply q_call); (focus exact byNext); (focus exact byLo); (focus (exact kChartY2)); first | ((apply q_allB) <;> (intro z_b _ _ _; first | exact Bool.noConfusion z_b | replace z_b := of_decide_eq_true z_b | replace z_b := of_decide_eq_false z_b | skip) <;> (first | contradiction | (revert z_b; intros))) | ((apply q_alli) <;> (intro _ _ _ _; try contradiction)) | ((apply q_allv); intro _ _ _)) | ((apply Load1.mk); (focus ((repeat (first | (apply el_lo <;> first | assumption | omega) | (apply el_hi <;> first | assumption | omega) | apply bump_old | ((apply put_old); focus (dsimp only [aadd]; omega)) | ((apply quiet_old); (focus assumption); focus (dsimp only [aadd]; omega)) | ((apply same_old); (focus assumption); focus (dsimp only [aadd]; omega)))); done)); (focus exact byVal)) | fail)); all_goals (conv => whnf); all_goals (try with_reducible apply At.mk)))
  · (refine byFin ?_)
    rfl
  · (refine byFin ?_)
    rfl
  · (refine byFin ?_)
    rfl
  have gT1 : h1.get h.next = some (.cells [.slice T.P.b T.P.n T.P.c, .slice T.A.b T.A.n T.A.c, .slice T.R.b T.R.n T.R.c] 25) := by (exact byGet)
  have sm1 : Same m h h1 := by (exact bySame)
  refine wp_loop (fun s : List Pt × Option Addr => [(1, .slice Q.b Q.n Q.c), (2, .slice B.b B.n B.c), (3, .pointer (some ⟨h.next, 0, none⟩)), (7, .slice s.2 s.1.length 0), (8, .int .i64 (s.1.length : Int))])
    (fun s g1 => Same m h g1 ∧ h1.next ≤ g1.next ∧ g1.get h.next = some (.cells [.slice T.P.b T.P.n T.P.c, .slice T.A.b T.A.n T.A.c, .slice T.R.b T.R.n T.R.c] 25) ∧ s.1.length ≤ Q.n ∧ Grown h1.next g1.next g1 28 2 s.1.length (cellsOf Pt.cells s.1) s.2 ∧ ∀ p ∈ s.1, T.On p) (fun s => Q.n - s.1.length) ([], none) ⟨rfl, rfl, rfl, rfl, rfl, trivial⟩ ⟨by (exact bySame), by (exact byOm), by (exact byGet), Nat.zero_le _, Grown.nil, by simp⟩ ?_
  rintro ⟨l, v⟩ g' h2 ⟨sm2, n2, gT2, hl, G, hon⟩ K hK
  dsimp only at hl G hon ⊢
  by_cases hln : l.length < Q.n
  · have yi2 := yi.same sm2 yr
    have yp2 := yp l.length hln
    (focus ((try with_reducible apply wpC.to); (repeat' ((conv => whnf); first | refine byEv ?_ | ((apply Fork.mk) <;> (intro _; try (exfalso; omega; done))) | ((apply q_call); (focus exact byNext); (focus exact byLo); (focus (exact kChartY2)); first | ((apply q_allB) <;> (intro z_b _ _ _; first | exact Bool.noConfusion z_b | replace z_b := of_decide_eq_true z_b | replace z_b := of_decide_eq_false z_b | skip) <;> (first | contradiction | (revert z_b; intros))) | ((apply q_alli) <;> (intro _ _ _ _; try contradiction)) | ((apply q_allv); intro _ _ _)) | ((apply Load1.mk); (focus ((repeat (first | (apply el_lo <;> first | assumption | omega) | (apply el_hi <;> first | assumption | omega) | apply bump_old | ((apply put_old); focus (dsimp only [aadd]; omega)) | ((apply quiet_old); (focus assumption); focus (dsimp only [aadd]; omega)) | ((apply same_old); (focus assumption); focus (dsimp only [aadd]; omega)))); done)); (focus exact byVal)) | fail)); all_goals (conv => whnf); all_goals (try with_reducible apply At.mk)))
    apply q_call
    focus (exact byNext)
    focus (exact byLo)
    focus exact point_w (T := T) (m := m) (by (exact byOm)) (hT.same (by (exact bySame)) (Nat.le_refl _)) g yp2.1 yp2.2
    rintro _ h3 ⟨p, rfl, op⟩ q3 n3
    unfold Pt.cells
    (focus ((try with_reducible apply wpC.to); (repeat' ((conv => whnf); first | refine byEv ?_ | ((apply Fork.mk) <;> (intro _; try (exfalso; omega; done))) | ((apply q_call); (focus exact byNext); (focus exact byLo); (focus (exact kChartY2)); first | ((apply q_allB) <;> (intro z_b _ _ _; first | exact Bool.noConfusion z_b | replace z_b := of_decide_eq_true z_b | replace z_b := of_decide_eq_false z_b | skip) <;> (first | contradiction | (revert z_b; intros))) | ((apply q_alli) <;> (intro _ _ _ _; try contradiction)) | ((apply q_allv); intro _ _ _)) | ((apply Load1.mk); (focus ((repeat (first | (apply el_lo <;> first | assumption | omega) | (apply el_hi <;> first | assumption | omega) | apply bump_old | ((apply put_old); focus (dsimp only [aadd]; omega)) | ((apply quiet_old); (focus assumption); focus (dsimp only [aadd]; omega)) | ((apply same_old); (focus assumption); focus (dsimp only [aadd]; omega)))); done)); (focus exact byVal)) | fail)); all_goals (conv => whnf); all_goals (try with_reducible apply At.mk)))
    apply q_appG (b := h1.next) (N := h2.next) (n := l.length) (m := 1) (cs := cellsOf Pt.cells l) (nc := p.cells)
    case hsv => exact rfl
    case G => exact G.frame (Nat.le_refl _) fun j hj1 hj2 => get_of fun y hy => by (exact byGet)
    case C => exact Cells.one (by unfold Pt.cells; (exact byMem)) (by unfold far; omega) rfl rfl
    case hm => omega
    case hlo => (exact byOm)
    case hb => (exact byOm)
    case hN => (exact byOm)
    case hsm => omega
    intro v' j row hj1 hj2 hj3 G'
    rw [← cellsOf_add] at G'
    (focus ((try with_reducible apply wpC.to); (repeat' ((conv => whnf); first | refine byEv ?_ | ((apply Fork.mk) <;> (intro _; try (exfalso; omega; done))) | ((apply q_call); (focus exact byNext); (focus exact byLo); (focus (exact kChartY2)); first | ((apply q_allB) <;> (intro z_b _ _ _; first | exact Bool.noConfusion z_b | replace z_b := of_decide_eq_true z_b | replace z_b := of_decide_eq_false z_b | skip) <;> (first | contradiction | (revert z_b; intros))) | ((apply q_alli) <;> (intro _ _ _ _; try contradiction)) | ((apply q_allv); intro _ _ _)) | ((apply Load1.mk); (focus ((repeat (first | (apply el_lo <;> first | assumption | omega) | (apply el_hi <;> first | assumption | omega) | apply bump_old | ((apply put_old); focus (dsimp only [aadd]; omega)) | ((apply quiet_old); (focus assumption); focus (dsimp only [aadd]; omega)) | ((apply same_old); (focus assumption); focus (dsimp only [aadd]; omega)))); done)); (focus exact byVal)) | fail)); all_goals (conv => whnf); all_goals (try with_reducible apply At.mk)))
    refine hK (l ++ [p], v') _ _ ⟨rfl, rfl, rfl, by rw [List.length_append]; exact rfl, by rw [List.length_append]; exact int_of rfl (by simp only [List.length_cons, List.length_nil]; omega), trivial⟩ ⟨by (exact bySame), by (exact byOm), by (exact byGet), by dsimp only; rw [List.length_append]; exact hln, ?_, ?_⟩ (by dsimp only; rw [List.length_append]; simp only [List.length_cons, List.length_nil]; omega)
    · dsimp only
      rw [List.length_append]
      exact G'.frame (by (exact byOm)) fun r hr1 hr2 => rfl
    · intro x hx
      rcases List.mem_append.1 hx with hx | hx
      · exact hon x hx
      · simp only [List.mem_singleton] at hx
        rw [hx]
        exact op
  have hle : l.length = Q.n := by omega
  obtain ⟨a, oS⟩ := grown_pts G (by omega)
  have Sn : (ptsOf l v a).n = l.length := rfl
  have Sb : (ptsOf l v a).b = v := rfl
  have Sc : (ptsOf l v a).c = 0 := rfl
  have Son : ∀ i, i < (ptsOf l v a).n → T.On ((ptsOf l v a).f i) := fun i hi => by
    have hi : i < l.length := hi
    show T.On (l.getD i ⟨0, 0⟩)
    rw [List.getD_eq_getElem?_getD, List.getElem?_eq_getElem hi]
    exact hon _ (List.getElem_mem hi)
  generalize ptsOf l v a = S at *
  subst Sb
  rw [← Sn] at hle hK hl ⊢
  clear G hK
  (focus ((try with_reducible apply wpC.to); (repeat' ((conv => whnf); first | refine byEv ?_ | ((apply Fork.mk) <;> (intro _; try (exfalso; omega; done))) | ((apply q_call); (focus exact byNext); (focus exact byLo); (focus (exact kChartY2)); first | ((apply q_allB) <;> (intro z_b _ _ _; first | exact Bool.noConfusion z_b | replace z_b := of_decide_eq_true z_b | replace z_b := of_decide_eq_false z_b | skip) <;> (first | contradiction | (revert z_b; intros))) | ((apply q_alli) <;> (intro _ _ _ _; try contradiction)) | ((apply q_allv); intro _ _ _)) | ((apply Load1.mk); (focus ((repeat (first | (apply el_lo <;> first | assumption | omega) | (apply el_hi <;> first | assumption | omega) | apply bump_old | ((apply put_old); focus (dsimp only [aadd]; omega)) | ((apply quiet_old); (focus assumption); focus (dsimp only [aadd]; omega)) | ((apply same_old); (focus assumption); focus (dsimp only [aadd]; omega)))); done)); (focus exact byVal)) | fail)); all_goals (conv => whnf); all_goals (try with_reducible apply At.mk)))
  apply q_call
  focus (exact byNext)
  focus (exact byLo)
  focus rw [← Sc]; exact sure_ok (T := T) (S := S) (m := h2.next) (by (exact byOm)) (hT.same (by (exact bySame)) (by (exact byOm))) (oS.same (by (exact bySame)) (Nat.le_refl _)) g (by omega) Son
  rintro _ h4 ⟨C, D, rfl, kC, kD, oC, oD, nC, nD⟩ q4 n4
  (focus ((try with_reducible apply wpC.to); (repeat' ((conv => whnf); first | refine byEv ?_ | ((apply Fork.mk) <;> (intro _; try (exfalso; omega; done))) | ((apply q_call); (focus exact byNext); (focus exact byLo); (focus (exact kChartY2)); first | ((apply q_allB) <;> (intro z_b _ _ _; first | exact Bool.noConfusion z_b | replace z_b := of_decide_eq_true z_b | replace z_b := of_decide_eq_false z_b | skip) <;> (first | contradiction | (revert z_b; intros))) | ((apply q_alli) <;> (intro _ _ _ _; try contradiction)) | ((apply q_allv); intro _ _ _)) | ((apply Load1.mk); (focus ((repeat (first | (apply el_lo <;> first | assumption | omega) | (apply el_hi <;> first | assumption | omega) | apply bump_old | ((apply put_old); focus (dsimp only [aadd]; omega)) | ((apply quiet_old); (focus assumption); focus (dsimp only [aadd]; omega)) | ((apply same_old); (focus assumption); focus (dsimp only [aadd]; omega)))); done)); (focus exact byVal)) | fail)); all_goals (conv => whnf); all_goals (try with_reducible apply At.mk)))
  apply q_call
  focus (exact byNext)
  focus (exact byLo)
  focus exact draw_w (T := T) (B := B) (m := m) (by (exact byOm)) (hT.same (by (exact bySame)) (Nat.le_refl _)) g (hB.same (by (exact bySame)) (Nat.le_refl _))
  rintro _ h5 ⟨A, rfl, ⟨O, oA⟩, ⟨An, Aw⟩, Af⟩ q5 n5
  have kA := oA.ok
  have tA : T.True A := ⟨An, Aw, fun i k hi hk => by rw [Af]; have := g.bd i k hi hk; unfold Tbl.Bd at this; exact drawn_in (by omega)⟩
  have rA := tA.bd g
  have gT5 : h5.get h.next = some (.cells [.slice T.P.b T.P.n T.P.c, .slice T.A.b T.A.n T.A.c, .slice T.R.b T.R.n T.R.c] 25) := by (exact byGet)
  have oT5 : T.Ok m h5 := hT.same (by (exact bySame)) (Nat.le_refl _)
  have oS5 : S.Ok h2.next h5 := oS.same (by (exact bySame)) (Nat.le_refl _)
  have oC5 : C.Ok h4.next h5 := oC.same (by (exact bySame)) (Nat.le_refl _)
  have oD5 : D.Ok h4.next h5 := oD.same (by (exact bySame)) (Nat.le_refl _)
  have m5 : m ≤ h5.next := by (exact byOm)
  have m4 : h4.next ≤ h5.next := by (exact byOm)
  have m2 : h2.next ≤ h5.next := by (exact byOm)
  have m0 : h.next < h5.next := by (exact byOm)
  obtain ⟨ce, ci, cr, cl⟩ := oC5
  obtain ⟨de, di, dr, dl⟩ := oD5
  obtain ⟨se, si, sr, sl⟩ := id oS5
  (focus ((try with_reducible apply wpC.to); (repeat' ((conv => whnf); first | refine byEv ?_ | ((apply Fork.mk) <;> (intro _; try (exfalso; omega; done))) | ((apply q_call); (focus exact byNext); (focus exact byLo); (focus (exact kChartY2)); first | ((apply q_allB) <;> (intro z_b _ _ _; first | exact Bool.noConfusion z_b | replace z_b := of_decide_eq_true z_b | replace z_b := of_decide_eq_false z_b | skip) <;> (first | contradiction | (revert z_b; intros))) | ((apply q_alli) <;> (intro _ _ _ _; try contradiction)) | ((apply q_allv); intro _ _ _)) | ((apply Load1.mk); (focus ((repeat (first | (apply el_lo <;> first | assumption | omega) | (apply el_hi <;> first | assumption | omega) | apply bump_old | ((apply put_old); focus (dsimp only [aadd]; omega)) | ((apply quiet_old); (focus assumption); focus (dsimp only [aadd]; omega)) | ((apply same_old); (focus assumption); focus (dsimp only [aadd]; omega)))); done)); (focus exact byVal)) | fail)); all_goals (conv => whnf); all_goals (try with_reducible apply At.mk)))
  refine wp_loop (fun s : Nat => [(3, .pointer (some ⟨h.next, 0, none⟩)), (7, .slice S.b S.n 0), (9, .slice C.b C.n C.c), (10, .slice D.b D.n D.c), (12, .slice A.M.b A.M.n A.M.c), (13, .int .i64 s)])
    (fun s g1 => Quiet h5.next h5 g1 ∧ s ≤ S.n) (fun s => S.n - s) 0 ⟨rfl, rfl, rfl, rfl, rfl, rfl, trivial⟩ ⟨by (exact byQuiet), Nat.zero_le _⟩ ?_
  rintro s g'' h6 ⟨q6, hs⟩ K hK
  have n6 := q6.next
  by_cases hsn : s < S.n
  · have kC' := kC s hsn
    have kD' := kD s hsn
    (focus ((try with_reducible apply wpC.to); (repeat' ((conv => whnf); first | refine byEv ?_ | ((apply Fork.mk) <;> (intro _; try (exfalso; omega; done))) | ((apply q_call); (focus exact byNext); (focus exact byLo); (focus (exact kChartY2)); first | ((apply q_allB) <;> (intro z_b _ _ _; first | exact Bool.noConfusion z_b | replace z_b := of_decide_eq_true z_b | replace z_b := of_decide_eq_false z_b | skip) <;> (first | contradiction | (revert z_b; intros))) | ((apply q_alli) <;> (intro _ _ _ _; try contradiction)) | ((apply q_allv); intro _ _ _)) | ((apply Load1.mk); (focus ((repeat (first | (apply el_lo <;> first | assumption | omega) | (apply el_hi <;> first | assumption | omega) | apply bump_old | ((apply put_old); focus (dsimp only [aadd]; omega)) | ((apply quiet_old); (focus assumption); focus (dsimp only [aadd]; omega)) | ((apply same_old); (focus assumption); focus (dsimp only [aadd]; omega)))); done)); (focus exact byVal)) | fail)); all_goals (conv => whnf); all_goals (try with_reducible apply At.mk)))
    refine wp_loop (fun t : Nat × Bool => [(3, .pointer (some ⟨h.next, 0, none⟩)), (7, .slice S.b S.n 0), (9, .slice C.b C.n C.c), (10, .slice D.b D.n D.c), (12, .slice A.M.b A.M.n A.M.c), (13, .int .i64 s), (14, .bool t.2), (15, .bool false), (16, .bool true), (17, .int .i64 t.1)])
      (fun t g1 => Quiet h5.next h5 g1 ∧ t.1 ≤ C.n ∧ (t.2 = Bool.true ↔ ∃ j, j < t.1 ∧ C.f j = s)) (fun t => C.n - t.1) (0, Bool.false) ⟨rfl, rfl, rfl, rfl, rfl, rfl, rfl, rfl, rfl, rfl, trivial⟩ ⟨by (exact byQuiet), Nat.zero_le _, by simp⟩ ?_
    rintro ⟨t, c⟩ g3 h7 ⟨q7, ht, hc⟩ K2 hK2
    dsimp only at ht hc ⊢
    have n7 := q7.next
    by_cases htn : t < C.n
    · have ci7 := ci.same (m := h4.next) (Same.quiet (Same.refl _ _) q7 m4) cr
      cases c
      · have hno : ∀ j, j < t → C.f j ≠ s := fun j hj e => Bool.noConfusion (hc.2 ⟨j, hj, e⟩)
        (focus ((try with_reducible apply wpC.to); (repeat' ((conv => whnf); first | refine byEv ?_ | ((apply Fork.mk) <;> (intro _; try (exfalso; omega; done))) | ((apply q_call); (focus exact byNext); (focus exact byLo); (focus (exact kChartY2)); first | ((apply q_allB) <;> (intro z_b _ _ _; first | exact Bool.noConfusion z_b | replace z_b := of_decide_eq_true z_b | replace z_b := of_decide_eq_false z_b | skip) <;> (first | contradiction | (revert z_b; intros))) | ((apply q_alli) <;> (intro _ _ _ _; try contradiction)) | ((apply q_allv); intro _ _ _)) | ((apply Load1.mk); (focus ((repeat (first | (apply el_lo <;> first | assumption | omega) | (apply el_hi <;> first | assumption | omega) | apply bump_old | ((apply put_old); focus (dsimp only [aadd]; omega)) | ((apply quiet_old); (focus assumption); focus (dsimp only [aadd]; omega)) | ((apply same_old); (focus assumption); focus (dsimp only [aadd]; omega)))); done)); (focus exact byVal)) | fail)); all_goals (conv => whnf); all_goals (try with_reducible apply At.mk)))
        · refine hK2 (t + 1, Bool.true) _ _ ⟨rfl, rfl, rfl, rfl, rfl, rfl, rfl, rfl, rfl, int_of rfl (by dsimp only; omega), trivial⟩ ⟨by (exact byQuiet), htn, ⟨fun _ => ⟨t, by dsimp only; omega, by assumption⟩, fun _ => rfl⟩⟩ (by dsimp only; omega)
        · refine hK2 (t + 1, Bool.false) _ _ ⟨rfl, rfl, rfl, rfl, rfl, rfl, rfl, rfl, rfl, int_of rfl (by dsimp only; omega), trivial⟩ ⟨by (exact byQuiet), htn, ⟨fun k => Bool.noConfusion k, fun ⟨j, hj, e⟩ => ?_⟩⟩ (by dsimp only; omega)
          dsimp only at hj
          by_cases ej : j = t
          · subst ej; contradiction
          · exact absurd e (hno j (by omega))
      · obtain ⟨j0, hj0, e0⟩ := hc.1 rfl
        (focus ((try with_reducible apply wpC.to); (repeat' ((conv => whnf); first | refine byEv ?_ | ((apply Fork.mk) <;> (intro _; try (exfalso; omega; done))) | ((apply q_call); (focus exact byNext); (focus exact byLo); (focus (exact kChartY2)); first | ((apply q_allB) <;> (intro z_b _ _ _; first | exact Bool.noConfusion z_b | replace z_b := of_decide_eq_true z_b | replace z_b := of_decide_eq_false z_b | skip) <;> (first | contradiction | (revert z_b; intros))) | ((apply q_alli) <;> (intro _ _ _ _; try contradiction)) | ((apply q_allv); intro _ _ _)) | ((apply Load1.mk); (focus ((repeat (first | (apply el_lo <;> first | assumption | omega) | (apply el_hi <;> first | assumption | omega) | apply bump_old | ((apply put_old); focus (dsimp only [aadd]; omega)) | ((apply quiet_old); (focus assumption); focus (dsimp only [aadd]; omega)) | ((apply same_old); (focus assumption); focus (dsimp only [aadd]; omega)))); done)); (focus exact byVal)) | fail)); all_goals (conv => whnf); all_goals (try with_reducible apply At.mk)))
        refine hK2 (t + 1, Bool.true) _ _ ⟨rfl, rfl, rfl, rfl, rfl, rfl, rfl, rfl, rfl, int_of rfl (by dsimp only; omega), trivial⟩ ⟨by (exact byQuiet), htn, ⟨fun _ => ⟨j0, by dsimp only; omega, e0⟩, fun _ => rfl⟩⟩ (by dsimp only; omega)
    obtain rfl : t = C.n := by omega
    rw [kC'] at hc
    clear hK2
    (focus ((try with_reducible apply wpC.to); (repeat' ((conv => whnf); first | refine byEv ?_ | ((apply Fork.mk) <;> (intro _; try (exfalso; omega; done))) | ((apply q_call); (focus exact byNext); (focus exact byLo); (focus (exact kChartY2)); first | ((apply q_allB) <;> (intro z_b _ _ _; first | exact Bool.noConfusion z_b | replace z_b := of_decide_eq_true z_b | replace z_b := of_decide_eq_false z_b | skip) <;> (first | contradiction | (revert z_b; intros))) | ((apply q_alli) <;> (intro _ _ _ _; try contradiction)) | ((apply q_allv); intro _ _ _)) | ((apply Load1.mk); (focus ((repeat (first | (apply el_lo <;> first | assumption | omega) | (apply el_hi <;> first | assumption | omega) | apply bump_old | ((apply put_old); focus (dsimp only [aadd]; omega)) | ((apply quiet_old); (focus assumption); focus (dsimp only [aadd]; omega)) | ((apply same_old); (focus assumption); focus (dsimp only [aadd]; omega)))); done)); (focus exact byVal)) | fail)); all_goals (conv => whnf); all_goals (try with_reducible apply At.mk)))
    refine wp_loop (fun t : Nat × Bool => [(3, .pointer (some ⟨h.next, 0, none⟩)), (7, .slice S.b S.n 0), (9, .slice C.b C.n C.c), (10, .slice D.b D.n D.c), (12, .slice A.M.b A.M.n A.M.c), (13, .int .i64 s), (14, .bool c), (15, .bool t.2), (16, .bool true), (18, .int .i64 t.1)])
      (fun t g1 => Quiet h5.next h5 g1 ∧ t.1 ≤ D.n ∧ (t.2 = Bool.true ↔ ∃ j, j < t.1 ∧ D.f j = s)) (fun t => D.n - t.1) (0, Bool.false) ⟨rfl, rfl, rfl, rfl, rfl, rfl, rfl, rfl, rfl, rfl, trivial⟩ ⟨by (exact byQuiet), Nat.zero_le _, by simp⟩ ?_
    rintro ⟨t, d⟩ g4 h8 ⟨q8, ht, hd⟩ K2 hK2
    dsimp only at ht hd ⊢
    have n8 := q8.next
    by_cases htn : t < D.n
    · have di8 := di.same (m := h4.next) (Same.quiet (Same.refl _ _) q8 m4) dr
      cases d
      · have hno : ∀ j, j < t → D.f j ≠ s := fun j hj e => Bool.noConfusion (hd.2 ⟨j, hj, e⟩)
        (focus ((try with_reducible apply wpC.to); (repeat' ((conv => whnf); first | refine byEv ?_ | ((apply Fork.mk) <;> (intro _; try (exfalso; omega; done))) | ((apply q_call); (focus exact byNext); (focus exact byLo); (focus (exact kChartY2)); first | ((apply q_allB) <;> (intro z_b _ _ _; first | exact Bool.noConfusion z_b | replace z_b := of_decide_eq_true z_b | replace z_b := of_decide_eq_false z_b | skip) <;> (first | contradiction | (revert z_b; intros))) | ((apply q_alli) <;> (intro _ _ _ _; try contradiction)) | ((apply q_allv); intro _ _ _)) | ((apply Load1.mk); (focus ((repeat (first | (apply el_lo <;> first | assumption | omega) | (apply el_hi <;> first | assumption | omega) | apply bump_old | ((apply put_old); focus (dsimp only [aadd]; omega)) | ((apply quiet_old); (focus assumption); focus (dsimp only [aadd]; omega)) | ((apply same_old); (focus assumption); focus (dsimp only [aadd]; omega)))); done)); (focus exact byVal)) | fail)); all_goals (conv => whnf); all_goals (try with_reducible apply At.mk)))
        · refine hK2 (t + 1, Bool.true) _ _ ⟨rfl, rfl, rfl, rfl, rfl, rfl, rfl, rfl, rfl, int_of rfl (by dsimp only; omega), trivial⟩ ⟨by (exact byQuiet), htn, ⟨fun _ => ⟨t, by dsimp only; omega, by assumption⟩, fun _ => rfl⟩⟩ (by dsimp only; omega)
        · refine hK2 (t + 1, Bool.false) _ _ ⟨rfl, rfl, rfl, rfl, rfl, rfl, rfl, rfl, rfl, int_of rfl (by dsimp only; omega), trivial⟩ ⟨by (exact byQuiet), htn, ⟨fun k => Bool.noConfusion k, fun ⟨j, hj, e⟩ => ?_⟩⟩ (by dsimp only; omega)
          dsimp only at hj
          by_cases ej : j = t
          · subst ej; contradiction
          · exact absurd e (hno j (by omega))
      · obtain ⟨j0, hj0, e0⟩ := hd.1 rfl
        (focus ((try with_reducible apply wpC.to); (repeat' ((conv => whnf); first | refine byEv ?_ | ((apply Fork.mk) <;> (intro _; try (exfalso; omega; done))) | ((apply q_call); (focus exact byNext); (focus exact byLo); (focus (exact kChartY2)); first | ((apply q_allB) <;> (intro z_b _ _ _; first | exact Bool.noConfusion z_b | replace z_b := of_decide_eq_true z_b | replace z_b := of_decide_eq_false z_b | skip) <;> (first | contradiction | (revert z_b; intros))) | ((apply q_alli) <;> (intro _ _ _ _; try contradiction)) | ((apply q_allv); intro _ _ _)) | ((apply Load1.mk); (focus ((repeat (first | (apply el_lo <;> first | assumption | omega) | (apply el_hi <;> first | assumption | omega) | apply bump_old | ((apply put_old); focus (dsimp only [aadd]; omega)) | ((apply quiet_old); (focus assumption); focus (dsimp only [aadd]; omega)) | ((apply same_old); (focus assumption); focus (dsimp only [aadd]; omega)))); done)); (focus exact byVal)) | fail)); all_goals (conv => whnf); all_goals (try with_reducible apply At.mk)))
        refine hK2 (t + 1, Bool.true) _ _ ⟨rfl, rfl, rfl, rfl, rfl, rfl, rfl, rfl, rfl, int_of rfl (by dsimp only; omega), trivial⟩ ⟨by (exact byQuiet), htn, ⟨fun _ => ⟨j0, by dsimp only; omega, e0⟩, fun _ => rfl⟩⟩ (by dsimp only; omega)
    obtain rfl : t = D.n := by omega
    rw [kD'] at hd
    clear hK2
    have ar := g.around (Son s hsn)
    (focus ((try with_reducible apply wpC.to); (repeat' ((conv => whnf); first | refine byEv ?_ | ((apply Fork.mk) <;> (intro _; try (exfalso; omega; done))) | ((apply q_call); (focus exact byNext); (focus exact byLo); (focus (exact kChartY2)); first | ((apply q_allB) <;> (intro z_b _ _ _; first | exact Bool.noConfusion z_b | replace z_b := of_decide_eq_true z_b | replace z_b := of_decide_eq_false z_b | skip) <;> (first | contradiction | (revert z_b; intros))) | ((apply q_alli) <;> (intro _ _ _ _; try contradiction)) | ((apply q_allv); intro _ _ _)) | ((apply Load1.mk); (focus ((repeat (first | (apply el_lo <;> first | assumption | omega) | (apply el_hi <;> first | assumption | omega) | apply bump_old | ((apply put_old); focus (dsimp only [aadd]; omega)) | ((apply quiet_old); (focus assumption); focus (dsimp only [aadd]; omega)) | ((apply same_old); (focus assumption); focus (dsimp only [aadd]; omega)))); done)); (focus exact byVal)) | fail)); all_goals (conv => whnf); all_goals (try with_reducible apply At.mk)))
    refine wp_loop (fun t : Nat × Bool => [(3, .pointer (some ⟨h.next, 0, none⟩)), (7, .slice S.b S.n 0), (9, .slice C.b C.n C.c), (10, .slice D.b D.n D.c), (12, .slice A.M.b A.M.n A.M.c), (13, .int .i64 s), (14, .bool c), (15, .bool d), (16, .bool t.2), (19, .int .i64 t.1)])
      (fun t g1 => Quiet h5.next h5 g1 ∧ t.1 ≤ S.n ∧ (t.2 = Bool.true ↔ ∀ j, j < t.1 → 0 ≤ (T.far (S.f s) (S.f j) Bool.false).n)) (fun t => S.n - t.1) (0, Bool.true) ⟨rfl, rfl, rfl, rfl, rfl, rfl, rfl, rfl, rfl, rfl, trivial⟩ ⟨by (exact byQuiet), Nat.zero_le _, ⟨fun _ j hj => absurd hj (Nat.not_lt_zero _), fun _ => rfl⟩⟩ ?_
    rintro ⟨t, e⟩ g5 h9 ⟨q9, ht, he⟩ K2 hK2
    dsimp only at ht he ⊢
    have n9 := q9.next
    by_cases htn : t < S.n
    · have si9 := si.same (m := h2.next) (Same.quiet (Same.refl _ _) q9 m2) sr
      have oT9 : T.Ok m h9 := oT5.same (Same.quiet (Same.refl _ _) q9 m5) (Nat.le_refl _)
      have ar' := g.around (Son t htn)
      have sr9 := sr (by omega)
      (focus ((try with_reducible apply wpC.to); (repeat' ((conv => whnf); first | refine byEv ?_ | ((apply Fork.mk) <;> (intro _; try (exfalso; omega; done))) | ((apply q_call); (focus exact byNext); (focus exact byLo); (focus (exact kChartY2)); first | ((apply q_allB) <;> (intro z_b _ _ _; first | exact Bool.noConfusion z_b | replace z_b := of_decide_eq_true z_b | replace z_b := of_decide_eq_false z_b | skip) <;> (first | contradiction | (revert z_b; intros))) | ((apply q_alli) <;> (intro _ _ _ _; try contradiction)) | ((apply q_allv); intro _ _ _)) | ((apply Load1.mk); (focus ((repeat (first | (apply el_lo <;> first | assumption | omega) | (apply el_hi <;> first | assumption | omega) | apply bump_old | ((apply put_old); focus (dsimp only [aadd]; omega)) | ((apply quiet_old); (focus assumption); focus (dsimp only [aadd]; omega)) | ((apply same_old); (focus assumption); focus (dsimp only [aadd]; omega)))); done)); (focus exact byVal)) | fail)); all_goals (conv => whnf); all_goals (try with_reducible apply At.mk)))
      apply q_callv
      focus (exact byNext)
      focus (exact byLo)
      focus exact more_ok (T := T) (p := S.f s) (q := S.f t) (m := m) (by (exact byOm)) (oT9.same (by (exact bySame)) (Nat.le_refl _)) g (Son s hsn) (Son t htn)
      intro h10 q10 n10
      have hfin : ∀ e', (e' = Bool.true ↔ (e = Bool.true ∧ 0 ≤ (T.far (S.f s) (S.f t) Bool.false).n)) → (e' = Bool.true ↔ ∀ j, j < t + 1 → 0 ≤ (T.far (S.f s) (S.f j) Bool.false).n) := fun e' h' => by
        rw [h', he]
        constructor
        · rintro ⟨h1, h2⟩ j hj
          by_cases ej : j = t
          · subst ej; exact h2
          · exact h1 j (by omega)
        · exact fun h1 => ⟨fun j hj => h1 j (by omega), h1 t (by omega)⟩
      cases e <;> cases c
      all_goals
        (focus ((try with_reducible apply wpC.to); (repeat' ((conv => whnf); first | refine byEv ?_ | ((apply Fork.mk) <;> (intro _; try (exfalso; omega; done))) | ((apply q_call); (focus exact byNext); (focus exact byLo); (focus (exact kChartY2)); first | ((apply q_allB) <;> (intro z_b _ _ _; first | exact Bool.noConfusion z_b | replace z_b := of_decide_eq_true z_b | replace z_b := of_decide_eq_false z_b | skip) <;> (first | contradiction | (revert z_b; intros))) | ((apply q_alli) <;> (intro _ _ _ _; try contradiction)) | ((apply q_allv); intro _ _ _)) | ((apply Load1.mk); (focus ((repeat (first | (apply el_lo <;> first | assumption | omega) | (apply el_hi <;> first | assumption | omega) | apply bump_old | ((apply put_old); focus (dsimp only [aadd]; omega)) | ((apply quiet_old); (focus assumption); focus (dsimp only [aadd]; omega)) | ((apply same_old); (focus assumption); focus (dsimp only [aadd]; omega)))); done)); (focus exact byVal)) | fail)); all_goals (conv => whnf); all_goals (try with_reducible apply At.mk)))
      all_goals
        apply q_callv
        focus (exact byNext)
        focus (exact byLo)
        focus exact value_ok (T := T) (p := A) (at_ := S.f s) (m := h5.next) (by (exact byOm)) (oT5.same (by (exact bySame)) m5) (kA.same (by (exact bySame)) (Nat.le_refl _)) g tA (Son s hsn)
        intro h11 q11 n11
        have sj : Els h11 S.a S.n 2 (fun i => (S.f i).cells) := si.same (m := h2.next) (by (exact bySame)) sr
        (focus ((try with_reducible apply wpC.to); (repeat' ((conv => whnf); first | refine byEv ?_ | ((apply Fork.mk) <;> (intro _; try (exfalso; omega; done))) | ((apply q_call); (focus exact byNext); (focus exact byLo); (focus (exact kChartY2)); first | ((apply q_allB) <;> (intro z_b _ _ _; first | exact Bool.noConfusion z_b | replace z_b := of_decide_eq_true z_b | replace z_b := of_decide_eq_false z_b | skip) <;> (first | contradiction | (revert z_b; intros))) | ((apply q_alli) <;> (intro _ _ _ _; try contradiction)) | ((apply q_allv); intro _ _ _)) | ((apply Load1.mk); (focus ((repeat (first | (apply el_lo <;> first | assumption | omega) | (apply el_hi <;> first | assumption | omega) | apply bump_old | ((apply put_old); focus (dsimp only [aadd]; omega)) | ((apply quiet_old); (focus assumption); focus (dsimp only [aadd]; omega)) | ((apply same_old); (focus assumption); focus (dsimp only [aadd]; omega)))); done)); (focus exact byVal)) | fail)); all_goals (conv => whnf); all_goals (try with_reducible apply At.mk)))
        apply q_callv
        focus (exact byNext)
        focus (exact byLo)
        focus exact value_ok (T := T) (p := A) (at_ := S.f t) (m := h5.next) (by (exact byOm)) (oT5.same (by (exact bySame)) m5) (kA.same (by (exact bySame)) (Nat.le_refl _)) g tA (Son t htn)
        intro h12 q12 n12
        (focus ((try with_reducible apply wpC.to); (repeat' ((conv => whnf); first | refine byEv ?_ | ((apply Fork.mk) <;> (intro _; try (exfalso; omega; done))) | ((apply q_call); (focus exact byNext); (focus exact byLo); (focus (exact kChartY2)); first | ((apply q_allB) <;> (intro z_b _ _ _; first | exact Bool.noConfusion z_b | replace z_b := of_decide_eq_true z_b | replace z_b := of_decide_eq_false z_b | skip) <;> (first | contradiction | (revert z_b; intros))) | ((apply q_alli) <;> (intro _ _ _ _; try contradiction)) | ((apply q_allv); intro _ _ _)) | ((apply Load1.mk); (focus ((repeat (first | (apply el_lo <;> first | assumption | omega) | (apply el_hi <;> first | assumption | omega) | apply bump_old | ((apply put_old); focus (dsimp only [aadd]; omega)) | ((apply quiet_old); (focus assumption); focus (dsimp only [aadd]; omega)) | ((apply same_old); (focus assumption); focus (dsimp only [aadd]; omega)))); done)); (focus exact byVal)) | fail)); all_goals (conv => whnf); all_goals (try with_reducible apply At.mk)))
      all_goals first
        | (refine hK2 (t + 1, _) _ _ ⟨rfl, rfl, rfl, rfl, rfl, rfl, rfl, rfl, rfl, int_of rfl (by dsimp only; omega), trivial⟩ ⟨isQ, htn, hfin _ (by first | (simp; done) | (simp; omega))⟩ (by dsimp only; omega))
        | (apply q_callv
           focus (exact byNext)
           focus (exact byLo)
           focus exact atMost_w (x := T.val (S.f t) A.f) (y := T.val (S.f s) A.f) (val_formed ar' rA) (val_formed ar rA) (val_best g ar ar' tA.rng (hc.1 rfl t htn))
           intro h13 q13 n13
           (focus ((try with_reducible apply wpC.to); (repeat' ((conv => whnf); first | refine byEv ?_ | ((apply Fork.mk) <;> (intro _; try (exfalso; omega; done))) | ((apply q_call); (focus exact byNext); (focus exact byLo); (focus (exact kChartY2)); first | ((apply q_allB) <;> (intro z_b _ _ _; first | exact Bool.noConfusion z_b | replace z_b := of_decide_eq_true z_b | replace z_b := of_decide_eq_false z_b | skip) <;> (first | contradiction | (revert z_b; intros))) | ((apply q_alli) <;> (intro _ _ _ _; try contradiction)) | ((apply q_allv); intro _ _ _)) | ((apply Load1.mk); (focus ((repeat (first | (apply el_lo <;> first | assumption | omega) | (apply el_hi <;> first | assumption | omega) | apply bump_old | ((apply put_old); focus (dsimp only [aadd]; omega)) | ((apply quiet_old); (focus assumption); focus (dsimp only [aadd]; omega)) | ((apply same_old); (focus assumption); focus (dsimp only [aadd]; omega)))); done)); (focus exact byVal)) | fail)); all_goals (conv => whnf); all_goals (try with_reducible apply At.mk)))
           refine hK2 (t + 1, _) _ _ ⟨rfl, rfl, rfl, rfl, rfl, rfl, rfl, rfl, rfl, int_of rfl (by dsimp only; omega), trivial⟩ ⟨isQ, htn, hfin _ (by first | (simp; done) | (simp; omega))⟩ (by dsimp only; omega))
    · obtain rfl : t = S.n := by omega
      have hce : e = c := by
        have : (e = Bool.true) ↔ (c = Bool.true) := he.trans hc.symm
        cases e <;> cases c <;> simp_all
      subst hce
      have hcd : e = Bool.true → d = Bool.true := fun h => hd.2 (best_can g Son hsn (hc.1 h))
      cases e <;> cases d
      all_goals first
        | (exact absurd (hcd rfl) (by decide))
        | ((focus ((try with_reducible apply wpC.to); (repeat' ((conv => whnf); first | refine byEv ?_ | ((apply Fork.mk) <;> (intro _; try (exfalso; omega; done))) | ((apply q_call); (focus exact byNext); (focus exact byLo); (focus (exact kChartY2)); first | ((apply q_allB) <;> (intro z_b _ _ _; first | exact Bool.noConfusion z_b | replace z_b := of_decide_eq_true z_b | replace z_b := of_decide_eq_false z_b | skip) <;> (first | contradiction | (revert z_b; intros))) | ((apply q_alli) <;> (intro _ _ _ _; try contradiction)) | ((apply q_allv); intro _ _ _)) | ((apply Load1.mk); (focus ((repeat (first | (apply el_lo <;> first | assumption | omega) | (apply el_hi <;> first | assumption | omega) | apply bump_old | ((apply put_old); focus (dsimp only [aadd]; omega)) | ((apply quiet_old); (focus assumption); focus (dsimp only [aadd]; omega)) | ((apply same_old); (focus assumption); focus (dsimp only [aadd]; omega)))); done)); (focus exact byVal)) | fail)); all_goals (conv => whnf); all_goals (try with_reducible apply At.mk)))
           refine hK (s + 1) _ _ ⟨rfl, rfl, rfl, rfl, rfl, int_of rfl (by omega), trivial⟩ ⟨isQ, hsn⟩ (by omega))
  · obtain rfl : s = S.n := by omega
    (focus ((try with_reducible apply wpC.to); (repeat' ((conv => whnf); first | refine byEv ?_ | ((apply Fork.mk) <;> (intro _; try (exfalso; omega; done))) | ((apply q_call); (focus exact byNext); (focus exact byLo); (focus (exact kChartY2)); first | ((apply q_allB) <;> (intro z_b _ _ _; first | exact Bool.noConfusion z_b | replace z_b := of_decide_eq_true z_b | replace z_b := of_decide_eq_false z_b | skip) <;> (first | contradiction | (revert z_b; intros))) | ((apply q_alli) <;> (intro _ _ _ _; try contradiction)) | ((apply q_allv); intro _ _ _)) | ((apply Load1.mk); (focus ((repeat (first | (apply el_lo <;> first | assumption | omega) | (apply el_hi <;> first | assumption | omega) | apply bump_old | ((apply put_old); focus (dsimp only [aadd]; omega)) | ((apply quiet_old); (focus assumption); focus (dsimp only [aadd]; omega)) | ((apply same_old); (focus assumption); focus (dsimp only [aadd]; omega)))); done)); (focus exact byVal)) | fail)); all_goals (conv => whnf); all_goals (try with_reducible apply At.mk)))
    (refine byFin ?_)
    rfl
end AE.Try
