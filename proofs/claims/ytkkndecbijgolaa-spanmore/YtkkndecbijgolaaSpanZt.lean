/- Walks of the laws of spans: Works. -/
import Derived.Test.YtkkndecbijgolaaSpanZs
set_option linter.unusedVariables false
set_option linter.unusedSimpArgs false
set_option linter.unusedSectionVars false
namespace AE.Try
open Go AE Go.Proofs AE.Sp
set_option maxRecDepth 100000
set_option linter.unusedVariables false

theorem fac01 : Fac 0 1 := ⟨by decide, by decide⟩
/-- The proof of the examples, where it lies. -/
def exPs (r n : Nat) : PSs := ⟨n, exP, some ⟨r, 0, none⟩, ⟨r, 0, none⟩, n⟩
theorem exPs_ok2 {r m : Nat} {h : H} (hg : h.get r = some (.cells [.int .i64 1, .bool false, .int .i64 1, .int .i64 0, .bool true, .int .i64 1] 72)) (hr : r < m) : (exPs r 2).Ok m h := by
  refine ⟨fun _ => rfl, fun i hi => ?_, fun _ => hr, by show 2 ≤ _; omega⟩
  have hi : i < 2 := hi
  match i, hi with
  | 0, _ => exact loadN_cells hg rfl
  | 1, _ => exact loadN_cells hg rfl
  | i + 2, h => omega
open Classical in
set_option maxHeartbeats 16000000 in
theorem works_l {h : H} : AW Try.prog 12 h.next h [] (fun v _ => v = .bool true) := by
  refine fun12.call rfl (Nat.le_refl _) ?_
  unfold a12
  (focus ((try with_reducible apply wpC.to); (repeat' ((conv => whnf); first | refine byEv ?_ | (apply Fork.mk <;> (intro _; try (exfalso; omega))) | ((refine kSpanC2 ?_); first | ((first | apply q_allD | apply q_alli | apply q_allB) <;> intro _ _ _ _ <;> try contradiction) | (apply q_allv; intro _ _ _)) | fail)); all_goals ((conv => whnf); try with_reducible apply At.mk)))
  apply q_call
  focus (exact byNext)
  focus (exact byLo)
  focus exact runs_l
  rintro _ h2 ⟨r, hr, rfl, hg⟩ q2 n2
  (focus ((try with_reducible apply wpC.to); (repeat' ((conv => whnf); first | refine byEv ?_ | (apply Fork.mk <;> (intro _; try (exfalso; omega))) | ((refine kSpanC2 ?_); first | ((first | apply q_allD | apply q_alli | apply q_allB) <;> intro _ _ _ _ <;> try contradiction) | (apply q_allv; intro _ _ _)) | fail)); all_goals ((conv => whnf); try with_reducible apply At.mk)))
  apply q_call
  focus (exact byNext)
  focus (exact byLo)
  focus exact runs_l
  rintro _ h3 ⟨r', hr', rfl, hg'⟩ q3 n3
  simp only [bump_next] at hr hr'
  (focus ((try with_reducible apply wpC.to); (repeat' ((conv => whnf); first | refine byEv ?_ | (apply Fork.mk <;> (intro _; try (exfalso; omega))) | ((refine kSpanC2 ?_); first | ((first | apply q_allD | apply q_alli | apply q_allB) <;> intro _ _ _ _ <;> try contradiction) | (apply q_allv; intro _ _ _)) | fail)); all_goals ((conv => whnf); try with_reducible apply At.mk)))
  apply q_appF (n := 2) (m := 1) (b := h2.next) (cs := exRow) (nc := [.int .i64 0, .int .i64 1, .int .i64 6, .int .i64 9])
  case hsv => exact rfl
  case G => exact ⟨rfl, .inr ⟨⟨r', 0, none⟩, rfl, by unfold far; omega, .inl ⟨rfl, rfl⟩, loadN_cells byGet rfl⟩⟩
  case C => exact Cells.one byMem (by unfold far; omega) rfl rfl
  case hm => exact Nat.one_pos
  case hb => (exact byOm)
  case hsm => omega
  intro v row G
  obtain ⟨a, g1, g2, g3⟩ := Grown.els (f := fun i => (exF i).cells) (n := 3) (by exact G) (fun _ => rfl)
  have g1 := g1 (by decide)
  have g3 := g3 (by decide)
  have hM : (⟨3, exF, v, a, 0⟩ : Runs).Ok h3.next _ := ⟨fun _ => g1, g2, fun _ => by show a.block < _; omega, by show 3 ≤ _; omega⟩
  have mr := ex3_err (L := ⟨3, exF, v, a, 0⟩) rfl rfl
  have md := ex3_derr (L := ⟨3, exF, v, a, 0⟩) rfl rfl
  have l01 := ex_01 (L := exRuns r 2) rfl rfl
  have l23 := ex_23 (L := exRuns r 2) rfl rfl
  have e01 := ex_lerr (L := exRuns r 2) (p := 0) (q := 1) rfl rfl fac01
  have e23 := ex_lerr (L := exRuns r 2) (p := 2) (q := 3) rfl rfl ⟨by decide, by decide⟩
  have e10 := ex1_err (L := exRuns r 1) rfl rfl
  clear g2 G
  (focus ((try with_reducible apply wpC.to); (repeat' ((conv => whnf); first | refine byEv ?_ | (apply Fork.mk <;> (intro _; try (exfalso; omega))) | ((refine kSpanC2 ?_); first | ((first | apply q_allD | apply q_alli | apply q_allB) <;> intro _ _ _ _ <;> try contradiction) | (apply q_allv; intro _ _ _)) | fail)); all_goals ((conv => whnf); try with_reducible apply At.mk)))
  apply q_call
  focus (exact byNext)
  focus (exact byLo)
  focus exact truth_w (L := ⟨3, exF, v, a, 0⟩) (m := h3.next) byOm (hM.same bySame (Nat.le_refl _))
  rintro _ h4 ⟨t, rfl, ht, -⟩ q4 n4
  obtain rfl := ht (by rw [mr]; decide)
  rw [mr]
  unfold Tru.cells
  (focus ((try with_reducible apply wpC.to); (repeat' ((conv => whnf); first | refine byEv ?_ | (apply Fork.mk <;> (intro _; try (exfalso; omega))) | ((refine kSpanC2 ?_); first | ((first | apply q_allD | apply q_alli | apply q_allB) <;> intro _ _ _ _ <;> try contradiction) | (apply q_allv; intro _ _ _)) | fail)); all_goals ((conv => whnf); try with_reducible apply At.mk)))
  apply q_callv
  focus (exact byNext)
  focus (exact byLo)
  focus exact least_w (L := exRuns r 2) (m := h2.next) (p := 0) (q := 1) byOm (exRuns_ok (Nat.le_refl _) byGet (by omega))
  intro h5 q5 n5
  rw [l01, e01]
  unfold Fr.cells
  (focus ((try with_reducible apply wpC.to); (repeat' ((conv => whnf); first | refine byEv ?_ | (apply Fork.mk <;> (intro _; try (exfalso; omega))) | ((refine kSpanC2 ?_); first | ((first | apply q_allD | apply q_alli | apply q_allB) <;> intro _ _ _ _ <;> try contradiction) | (apply q_allv; intro _ _ _)) | fail)); all_goals ((conv => whnf); try with_reducible apply At.mk)))
  apply q_callv
  focus (exact byNext)
  focus (exact byLo)
  focus exact least_w (L := exRuns r 2) (m := h2.next) (p := 2) (q := 3) byOm (exRuns_ok (Nat.le_refl _) byGet (by omega))
  intro h6 q6 n6
  rw [l23, e23]
  unfold Fr.cells
  (focus ((try with_reducible apply wpC.to); (repeat' ((conv => whnf); first | refine byEv ?_ | (apply Fork.mk <;> (intro _; try (exfalso; omega))) | ((refine kSpanC2 ?_); first | ((first | apply q_allD | apply q_alli | apply q_allB) <;> intro _ _ _ _ <;> try contradiction) | (apply q_allv; intro _ _ _)) | fail)); all_goals ((conv => whnf); try with_reducible apply At.mk)))
  obtain ⟨rt, rw'⟩ := ex_right (L := exRuns r 2) (P := exPs (h6.next + 3) 2) rfl rfl rfl rfl
  have ec := Runs.cerr_0.2 rt
  have ev : (exRuns r 2).cval 0 1 (exPs (h6.next + 3) 2) 1 = ⟨2, 1⟩ := by rw [rt.val, rw']; exact fr_one 2
  apply q_callv
  focus (exact byNext)
  focus (exact byLo)
  focus exact checkProof_w (L := exRuns r 2) (P := exPs (h6.next + 3) 2) (m := h6.next + 4) (p := 0) (q := 1) (tm := 1) byOm (exRuns_ok (Nat.le_refl _) byGet (by omega)) (exPs_ok2 byGet (by omega))
  intro h7 q7 n7
  rw [ec, ev]
  clear ec ev rt rw'
  unfold Fr.cells
  (focus ((try with_reducible apply wpC.to); (repeat' ((conv => whnf); first | refine byEv ?_ | (apply Fork.mk <;> (intro _; try (exfalso; omega))) | ((refine kSpanC2 ?_); first | ((first | apply q_allD | apply q_alli | apply q_allB) <;> intro _ _ _ _ <;> try contradiction) | (apply q_allv; intro _ _ _)) | fail)); all_goals ((conv => whnf); try with_reducible apply At.mk)))
  apply q_callv
  focus (exact byNext)
  focus (exact byLo)
  focus exact least_w (L := exRuns r 1) (m := h2.next) (p := 1) (q := 0) byOm (exRuns_ok (by decide) byGet (by omega))
  intro h8 q8 n8
  rw [e10, Runs.lval_err (by rw [e10]; decide)]
  unfold Fr.cells
  (focus ((try with_reducible apply wpC.to); (repeat' ((conv => whnf); first | refine byEv ?_ | (apply Fork.mk <;> (intro _; try (exfalso; omega))) | ((refine kSpanC2 ?_); first | ((first | apply q_allD | apply q_alli | apply q_allB) <;> intro _ _ _ _ <;> try contradiction) | (apply q_allv; intro _ _ _)) | fail)); all_goals ((conv => whnf); try with_reducible apply At.mk)))
  apply q_call
  focus (exact byNext)
  focus (exact byLo)
  focus exact attain_w (L := exRuns r 2) (m := h2.next) (p := 0) (q := 1) byOm (exRuns_ok (Nat.le_refl _) byGet (by omega))
  rintro _ h9 ⟨t, rfl, -, ha⟩ q9 n9
  have at' := ha e01
  have tv := (Runs.fit_0 at'.f).2.1
  have f0 := at'.f
  rw [e01]
  unfold Tru.cells
  (focus ((try with_reducible apply wpC.to); (repeat' ((conv => whnf); first | refine byEv ?_ | (apply Fork.mk <;> (intro _; try (exfalso; omega))) | ((refine kSpanC2 ?_); first | ((first | apply q_allD | apply q_alli | apply q_allB) <;> intro _ _ _ _ <;> try contradiction) | (apply q_allv; intro _ _ _)) | fail)); all_goals ((conv => whnf); try with_reducible apply At.mk)))
  apply q_call
  focus (exact byNext)
  focus (exact byLo)
  focus exact prove_w (L := exRuns r 2) (m := h2.next) (p := 0) (q := 1) byOm (exRuns_ok (Nat.le_refl _) byGet (by omega))
  rintro _ h10 ⟨P, tm, rfl, pok, ⟨pc, pb⟩, -, hp⟩ q10 n10
  simp only [put_next, bump_next] at pb
  obtain ⟨W, pr, ⟨wu, wv⟩, ht, wl⟩ := hp e01
  obtain ⟨rt, rw'⟩ := right_of (ex_err (L := exRuns r 2) rfl rfl fac01) pr wu wv ht
  have ec := Runs.cerr_0.2 rt
  have ev : (exRuns r 2).cval 0 1 P tm = ⟨2, 1⟩ := by rw [rt.val, rw', wl, l01]
  rw [e01]
  (focus ((try with_reducible apply wpC.to); (repeat' ((conv => whnf); first | refine byEv ?_ | (apply Fork.mk <;> (intro _; try (exfalso; omega))) | ((refine kSpanC2 ?_); first | ((first | apply q_allD | apply q_alli | apply q_allB) <;> intro _ _ _ _ <;> try contradiction) | (apply q_allv; intro _ _ _)) | fail)); all_goals ((conv => whnf); try with_reducible apply At.mk)))
  apply q_call
  focus (exact byNext)
  focus (exact byLo)
  focus exact doubtP_w (L := ⟨3, exF, v, a, 0⟩) (m := h3.next) byOm (hM.same bySame (Nat.le_refl _))
  rintro _ h11 ⟨D, dm, rfl, dok, ⟨dc, db⟩, -, hd⟩ q11 n11
  simp only [put_next, bump_next] at db
  obtain ⟨W2, pr2, ⟨wu2, wv2⟩, wp, rfl⟩ := hd md
  rw [md]
  (focus ((try with_reducible apply wpC.to); (repeat' ((conv => whnf); first | refine byEv ?_ | (apply Fork.mk <;> (intro _; try (exfalso; omega))) | ((refine kSpanC2 ?_); first | ((first | apply q_allD | apply q_alli | apply q_allB) <;> intro _ _ _ _ <;> try contradiction) | (apply q_allv; intro _ _ _)) | fail)); all_goals ((conv => whnf); try with_reducible apply At.mk)))
  apply q_call
  focus (exact byNext)
  focus (exact byLo)
  focus exact choices_l
  rintro _ h12 ⟨rc, r0, r1, ⟨⟨c1, c2⟩, ⟨c3, c4⟩, c5, c6⟩, rfl, gc, gc0, gc1⟩ q12 n12
  simp only [put_next, bump_next] at c1 c3 c5
  have nx := ex_next2 (L := exRuns r 2) (C := exChs rc r0 r1 2) rfl rfl (exChs_ex (Nat.le_refl _)) rfl
  (focus ((try with_reducible apply wpC.to); (repeat' ((conv => whnf); first | refine byEv ?_ | (apply Fork.mk <;> (intro _; try (exfalso; omega))) | ((refine kSpanC2 ?_); first | ((first | apply q_allD | apply q_alli | apply q_allB) <;> intro _ _ _ _ <;> try contradiction) | (apply q_allv; intro _ _ _)) | fail)); all_goals ((conv => whnf); try with_reducible apply At.mk)))
  apply q_callv
  focus (exact byNext)
  focus (exact byLo)
  focus exact next_w (L := exRuns r 2) (C := exChs rc r0 r1 2) (m := h12.next) (p := 0) (q := 1) byOm (exRuns_ok (Nat.le_refl _) byGet (by omega)) (exRuns_sl (by decide) (Nat.le_refl _) (by omega)) (exChs_ok (Nat.le_refl _) byGet byGet byGet (by omega) (by omega) (by omega))
  intro h13 q13 n13
  rw [nx.1, nx.2]
  have one : Value.int .i64 (((1, (⟨0, 1⟩ : Fr)).1 : Nat) : Int) = .int .i64 1 := rfl
  rw [one]
  have same : ∀ x : Fr, pureRun Try.prog (Op.equalIn Op.maxDepth 38 (.agg ⟨x.cells⟩) (.agg ⟨x.cells⟩)) = some Bool.true := fun x => (eql_fr x x).trans (congrArg some (decide_eq_true rfl))
  unfold Fr.cells
  (focus ((try with_reducible apply wpC.to); (repeat' ((conv => whnf); first | refine byEv ?_ | (apply Fork.mk <;> (intro _; try (exfalso; omega))) | ((refine kSpanC2 ?_); first | ((first | apply q_allD | apply q_alli | apply q_allB) <;> intro _ _ _ _ <;> try contradiction) | (apply q_allv; intro _ _ _)) | fail)); all_goals ((conv => whnf); try with_reducible apply At.mk)))
  apply q_callv
  focus (exact byNext)
  focus (exact byLo)
  focus exact whole_l
  intro h14 q14 n14
  unfold Fr.cells
  (focus ((try with_reducible apply wpC.to); (repeat' ((conv => whnf); first | refine byEv ?_ | (apply Fork.mk <;> (intro _; try (exfalso; omega))) | ((refine kSpanC2 ?_); first | ((first | apply q_allD | apply q_alli | apply q_allB) <;> intro _ _ _ _ <;> try contradiction) | (apply q_allv; intro _ _ _)) | fail)); all_goals ((conv => whnf); try with_reducible apply At.mk)))
  refine OpE.pure (.bool false) (xPure_neq (A := ⟨(⟨2, 1⟩ : Fr).cells⟩) (B := ⟨(⟨2, 1⟩ : Fr).cells⟩) rfl rfl rfl rfl rfl (by kernel_rfl) (same _)) ?_
  (focus ((try with_reducible apply wpC.to); (repeat' ((conv => whnf); first | refine byEv ?_ | (apply Fork.mk <;> (intro _; try (exfalso; omega))) | ((refine kSpanC2 ?_); first | ((first | apply q_allD | apply q_alli | apply q_allB) <;> intro _ _ _ _ <;> try contradiction) | (apply q_allv; intro _ _ _)) | fail)); all_goals ((conv => whnf); try with_reducible apply At.mk)))
  apply q_callv
  focus (exact byNext)
  focus (exact byLo)
  focus exact whole_l
  intro h15 q15 n15
  unfold Fr.cells
  (focus ((try with_reducible apply wpC.to); (repeat' ((conv => whnf); first | refine byEv ?_ | (apply Fork.mk <;> (intro _; try (exfalso; omega))) | ((refine kSpanC2 ?_); first | ((first | apply q_allD | apply q_alli | apply q_allB) <;> intro _ _ _ _ <;> try contradiction) | (apply q_allv; intro _ _ _)) | fail)); all_goals ((conv => whnf); try with_reducible apply At.mk)))
  refine OpE.pure (.bool false) (xPure_neq (A := ⟨(⟨24, 1⟩ : Fr).cells⟩) (B := ⟨(⟨24, 1⟩ : Fr).cells⟩) rfl rfl rfl rfl rfl (by kernel_rfl) (same _)) ?_
  (focus ((try with_reducible apply wpC.to); (repeat' ((conv => whnf); first | refine byEv ?_ | (apply Fork.mk <;> (intro _; try (exfalso; omega))) | ((refine kSpanC2 ?_); first | ((first | apply q_allD | apply q_alli | apply q_allB) <;> intro _ _ _ _ <;> try contradiction) | (apply q_allv; intro _ _ _)) | fail)); all_goals ((conv => whnf); try with_reducible apply At.mk)))
  apply q_callv
  focus (exact byNext)
  focus (exact byLo)
  focus exact whole_l
  intro h16 q16 n16
  unfold Fr.cells
  (focus ((try with_reducible apply wpC.to); (repeat' ((conv => whnf); first | refine byEv ?_ | (apply Fork.mk <;> (intro _; try (exfalso; omega))) | ((refine kSpanC2 ?_); first | ((first | apply q_allD | apply q_alli | apply q_allB) <;> intro _ _ _ _ <;> try contradiction) | (apply q_allv; intro _ _ _)) | fail)); all_goals ((conv => whnf); try with_reducible apply At.mk)))
  refine OpE.pure (.bool false) (xPure_neq (A := ⟨(⟨2, 1⟩ : Fr).cells⟩) (B := ⟨(⟨2, 1⟩ : Fr).cells⟩) rfl rfl rfl rfl rfl (by kernel_rfl) (same _)) ?_
  (focus ((try with_reducible apply wpC.to); (repeat' ((conv => whnf); first | refine byEv ?_ | (apply Fork.mk <;> (intro _; try (exfalso; omega))) | ((refine kSpanC2 ?_); first | ((first | apply q_allD | apply q_alli | apply q_allB) <;> intro _ _ _ _ <;> try contradiction) | (apply q_allv; intro _ _ _)) | fail)); all_goals ((conv => whnf); try with_reducible apply At.mk)))
  apply q_callv
  focus (exact byNext)
  focus (exact byLo)
  focus exact whole_l
  intro h17 q17 n17
  unfold Fr.cells
  (focus ((try with_reducible apply wpC.to); (repeat' ((conv => whnf); first | refine byEv ?_ | (apply Fork.mk <;> (intro _; try (exfalso; omega))) | ((refine kSpanC2 ?_); first | ((first | apply q_allD | apply q_alli | apply q_allB) <;> intro _ _ _ _ <;> try contradiction) | (apply q_allv; intro _ _ _)) | fail)); all_goals ((conv => whnf); try with_reducible apply At.mk)))
  refine OpE.pure (.bool false) (xPure_neq (A := ⟨(⟨0, 1⟩ : Fr).cells⟩) (B := ⟨(⟨0, 1⟩ : Fr).cells⟩) rfl rfl rfl rfl rfl (by kernel_rfl) (same _)) ?_
  (focus ((try with_reducible apply wpC.to); (repeat' ((conv => whnf); first | refine byEv ?_ | (apply Fork.mk <;> (intro _; try (exfalso; omega))) | ((refine kSpanC2 ?_); first | ((first | apply q_allD | apply q_alli | apply q_allB) <;> intro _ _ _ _ <;> try contradiction) | (apply q_allv; intro _ _ _)) | fail)); all_goals ((conv => whnf); try with_reducible apply At.mk)))
  apply q_callv
  focus (exact byNext)
  focus (exact byLo)
  focus exact checkProof_r (L := exRuns r 2) (P := P) (m := h10.next) byOm (exRuns_ok (Nat.le_refl _) byGet (by omega)) (pok.keep fun r h1 h2 => get_of fun y hy => by have := pb h2; have := pok.r h2; (exact byGet))
  intro h18 q18 n18
  rw [ec, ev]
  unfold Fr.cells
  (focus ((try with_reducible apply wpC.to); (repeat' ((conv => whnf); first | refine byEv ?_ | (apply Fork.mk <;> (intro _; try (exfalso; omega))) | ((refine kSpanC2 ?_); first | ((first | apply q_allD | apply q_alli | apply q_allB) <;> intro _ _ _ _ <;> try contradiction) | (apply q_allv; intro _ _ _)) | fail)); all_goals ((conv => whnf); try with_reducible apply At.mk)))
  have e3 := ex3_e (L := ⟨3, exF, v, a, 0⟩) rfl rfl
  obtain ⟨rt2, rw2⟩ := right_of (Runs.err2_of (p := 0) (q := 0) e3 ⟨by decide, by decide⟩) pr2 (tm := 1) (by omega) (by omega) (by decide)
  have ec2 := Runs.cerr_0.2 rt2
  have ev2 : (⟨3, exF, v, a, 0⟩ : Runs).cval 0 0 D 1 = ⟨W2.w, 1⟩ := by rw [rt2.val, rw2]; exact fr_one _
  apply q_callv
  focus (exact byNext)
  focus (exact byLo)
  focus exact checkProof_r (L := ⟨3, exF, v, a, 0⟩) (P := D) (m := h11.next) byOm (hM.same bySame byOm) (dok.keep fun r h1 h2 => get_of fun y hy => by have := db h2; have := dok.r h2; (exact byGet))
  intro h19 q19 n19
  rw [ec2, ev2]
  have wn : 0 < (⟨W2.w, 1⟩ : Fr).n := wp
  unfold Fr.cells
  (focus ((try with_reducible apply wpC.to); (repeat' ((conv => whnf); first | refine byEv ?_ | (apply Fork.mk <;> (intro _; try (exfalso; omega))) | ((refine kSpanC2 ?_); first | ((first | apply q_allD | apply q_alli | apply q_allB) <;> intro _ _ _ _ <;> try contradiction) | (apply q_allv; intro _ _ _)) | fail)); all_goals ((conv => whnf); try with_reducible apply At.mk)))
  apply q_callv
  focus (exact byNext)
  focus (exact byLo)
  focus exact whole_l
  intro h20 q20 n20
  unfold Fr.cells
  (focus ((try with_reducible apply wpC.to); (repeat' ((conv => whnf); first | refine byEv ?_ | (apply Fork.mk <;> (intro _; try (exfalso; omega))) | ((refine kSpanC2 ?_); first | ((first | apply q_allD | apply q_alli | apply q_allB) <;> intro _ _ _ _ <;> try contradiction) | (apply q_allv; intro _ _ _)) | fail)); all_goals ((conv => whnf); try with_reducible apply At.mk)))
  refine OpE.pure (.bool true) (xPure_eql (A := ⟨(⟨2, 1⟩ : Fr).cells⟩) (B := ⟨(⟨2, 1⟩ : Fr).cells⟩) rfl rfl rfl rfl rfl (by kernel_rfl) (same _)) ?_
  (focus ((try with_reducible apply wpC.to); (repeat' ((conv => whnf); first | refine byEv ?_ | (apply Fork.mk <;> (intro _; try (exfalso; omega))) | ((refine kSpanC2 ?_); first | ((first | apply q_allD | apply q_alli | apply q_allB) <;> intro _ _ _ _ <;> try contradiction) | (apply q_allv; intro _ _ _)) | fail)); all_goals ((conv => whnf); try with_reducible apply At.mk)))
  apply q_callv
  focus (exact byNext)
  focus (exact byLo)
  focus exact fitsErr_r (L := exRuns r 2) (m := h2.next) (t := t) byOm (exRuns_ok (Nat.le_refl _) byGet (by omega))
  intro h21 q21 n21
  rw [f0]
  (focus ((try with_reducible apply wpC.to); (repeat' ((conv => whnf); first | refine byEv ?_ | (apply Fork.mk <;> (intro _; try (exfalso; omega))) | ((refine kSpanC2 ?_); first | ((first | apply q_allD | apply q_alli | apply q_allB) <;> intro _ _ _ _ <;> try contradiction) | (apply q_allv; intro _ _ _)) | fail)); all_goals ((conv => whnf); try with_reducible apply At.mk)))
  apply q_callv
  focus (exact byNext)
  focus (exact byLo)
  focus exact value_r (p := 0) (q := 1) (t := t) fac01 tv
  intro h22 q22 n22
  have evt : vfr 0 1 t = ⟨2, 1⟩ := by unfold vfr; exact at'.v.trans l01
  rw [evt]
  unfold Fr.cells
  (focus ((try with_reducible apply wpC.to); (repeat' ((conv => whnf); first | refine byEv ?_ | (apply Fork.mk <;> (intro _; try (exfalso; omega))) | ((refine kSpanC2 ?_); first | ((first | apply q_allD | apply q_alli | apply q_allB) <;> intro _ _ _ _ <;> try contradiction) | (apply q_allv; intro _ _ _)) | fail)); all_goals ((conv => whnf); try with_reducible apply At.mk)))
  apply q_callv
  focus (exact byNext)
  focus (exact byLo)
  focus exact whole_l
  intro h23 q23 n23
  unfold Fr.cells
  (focus ((try with_reducible apply wpC.to); (repeat' ((conv => whnf); first | refine byEv ?_ | (apply Fork.mk <;> (intro _; try (exfalso; omega))) | ((refine kSpanC2 ?_); first | ((first | apply q_allD | apply q_alli | apply q_allB) <;> intro _ _ _ _ <;> try contradiction) | (apply q_allv; intro _ _ _)) | fail)); all_goals ((conv => whnf); try with_reducible apply At.mk)))
  refine OpE.pure (.bool true) (xPure_eql (A := ⟨(⟨2, 1⟩ : Fr).cells⟩) (B := ⟨(⟨2, 1⟩ : Fr).cells⟩) rfl rfl rfl rfl rfl (by kernel_rfl) (same _)) ?_
  (focus ((try with_reducible apply wpC.to); (repeat' ((conv => whnf); first | refine byEv ?_ | (apply Fork.mk <;> (intro _; try (exfalso; omega))) | ((refine kSpanC2 ?_); first | ((first | apply q_allD | apply q_alli | apply q_allB) <;> intro _ _ _ _ <;> try contradiction) | (apply q_allv; intro _ _ _)) | fail)); all_goals ((conv => whnf); try with_reducible apply At.mk)))
  (refine byFin ?_)
  rfl
end AE.Try
