/- Walk of the statement of the examples. -/
import Derived.Test.YthajcipblfchiaaDragT
import Derived.Test.YthajcipblfchiaaDragP
set_option linter.unusedVariables false
set_option linter.unusedSimpArgs false
set_option linter.unusedSectionVars false
namespace AE.Try
open Go AE AE.Drag Go.Proofs
set_option maxRecDepth 100000

theorem frictionA_10 (r s : Nat) : frictionR (lineA r s) 10 = (100, 0) := by
  have hin : inside (lineA r s) 10 := by unfold inside; exact of_decide_eq_true (by kernel_rfl)
  have hf : fric (lineA r s) 10 = 100 := by kernel_rfl
  unfold frictionR
  rw [if_neg (by rw [lineErr_valid.2 (validA r s)]; exact of_decide_eq_true (by kernel_rfl)), if_pos hin, hf]
theorem frictionA_25 (r s : Nat) : frictionR (lineA r s) 25 = (55, 0) := by
  have hin : inside (lineA r s) 25 := by unfold inside; exact of_decide_eq_true (by kernel_rfl)
  have hf : fric (lineA r s) 25 = 55 := by kernel_rfl
  unfold frictionR
  rw [if_neg (by rw [lineErr_valid.2 (validA r s)]; exact of_decide_eq_true (by kernel_rfl)), if_pos hin, hf]
theorem frictionA_9 (r s : Nat) : frictionR (lineA r s) 9 = (0, 19) := by
  have hin : ¬ inside (lineA r s) 9 := by unfold inside; exact of_decide_eq_true (by kernel_rfl)
  unfold frictionR
  rw [if_neg (by rw [lineErr_valid.2 (validA r s)]; exact of_decide_eq_true (by kernel_rfl)), if_neg hin]
theorem known10_w {h : H} {r s m : Nat} (hm : m ≤ h.next) (hL : (lineA r s).Ok m h) : AW Try.prog 15 h.next h [.agg ⟨(lineA r s).cells⟩, .int .i64 10] (fun v _ => v = .tuple #[.int .i64 100, .int .i64 0]) := by
  have := friction_api (x := 10) hm hL
  rwa [frictionA_10] at this
theorem known25_w {h : H} {r s m : Nat} (hm : m ≤ h.next) (hL : (lineA r s).Ok m h) : AW Try.prog 15 h.next h [.agg ⟨(lineA r s).cells⟩, .int .i64 25] (fun v _ => v = .tuple #[.int .i64 55, .int .i64 0]) := by
  have := friction_api (x := 25) hm hL
  rwa [frictionA_25] at this
theorem known9_w {h : H} {r s m : Nat} (hm : m ≤ h.next) (hL : (lineA r s).Ok m h) : AW Try.prog 15 h.next h [.agg ⟨(lineA r s).cells⟩, .int .i64 9] (fun v _ => v = .tuple #[.int .i64 0, .int .i64 19]) := by
  have := friction_api (x := 9) hm hL
  rwa [frictionA_9] at this
theorem fineB (r s q : Nat) : Fine tA (oneL (lineB r s) q) := ⟨okA, ⟨of_decide_eq_true (by kernel_rfl), of_decide_eq_true (by kernel_rfl), fun _ _ => validB r s⟩, fun _ _ => reckonsB r s⟩
theorem spanLoB (r s q : Nat) : spanLo tA (oneL (lineB r s) q) = 324 := theMin_eq ⟨⟨0, of_decide_eq_true (by kernel_rfl), 200, of_decide_eq_true (by kernel_rfl), of_decide_eq_true (by kernel_rfl), (lowB r s).symm⟩, by
  rintro w ⟨i, _, m, h1, h2, rfl⟩
  have h1 : 200 ≤ m := h1
  have h2 : m ≤ 200 := h2
  have : m = 200 := by omega
  subst this
  show (324 : Int) ≤ coef tA (lineB r s) (lowX tA 200)
  rw [lowB]; exact of_decide_eq_true (by kernel_rfl)⟩
theorem spanHiB (r s q : Nat) : spanHi tA (oneL (lineB r s) q) = 590 := theMax_eq ⟨⟨0, of_decide_eq_true (by kernel_rfl), 200, of_decide_eq_true (by kernel_rfl), of_decide_eq_true (by kernel_rfl), (highB r s).symm⟩, by
  rintro w ⟨i, _, m, h1, h2, rfl⟩
  have h1 : 200 ≤ m := h1
  have h2 : m ≤ 200 := h2
  have : m = 200 := by omega
  subst this
  show coef tA (lineB r s) (highX tA 200) ≤ (590 : Int)
  rw [highB]; exact of_decide_eq_true (by kernel_rfl)⟩
theorem knownSpanA_w {h : H} {r s q m : Nat} (hL : (lineA r s).Ok m h) (hm : m ≤ h.next) (hr : q < h.next) (hg : h.get q = some (.cells (lineA r s).cells 24)) : AW Try.prog 30 h.next h [.agg ⟨tA.cells⟩, .slice (some ⟨q, 0, none⟩) 1 1] (fun w _ => w = .tuple #[.agg ⟨[.int .i64 288, .int .i64 590]⟩, .int .i64 0]) := by
  have := spanOne_w (r := q) (show Fine tA (oneL (lineA r s) q) from fineA r s q) hL (Same.refl _ _) hm hr hg
  rwa [show spanLo tA (oneL (lineA r s) q) = 288 from spanLoA r s q, show spanHi tA (oneL (lineA r s) q) = 590 from spanHiA r s q] at this
theorem knownSpanB_w {h : H} {r s q m : Nat} (hL : (lineB r s).Ok m h) (hm : m ≤ h.next) (hr : q < h.next) (hg : h.get q = some (.cells (lineB r s).cells 24)) : AW Try.prog 30 h.next h [.agg ⟨tA.cells⟩, .slice (some ⟨q, 0, none⟩) 1 1] (fun w _ => w = .tuple #[.agg ⟨[.int .i64 324, .int .i64 590]⟩, .int .i64 0]) := by
  have := spanOne_w (r := q) (fineB r s q) hL (Same.refl _ _) hm hr hg
  rwa [spanLoB, spanHiB] at this
theorem knownEnd_w {h : H} {r s q m : Nat} (hL : (lineB r s).Ok m h) (hm : m ≤ h.next) (hr : q < h.next) (hg : h.get q = some (.cells (lineB r s).cells 24)) : AW Try.prog 34 h.next h [.agg ⟨tA.cells⟩, .slice (some ⟨q, 0, none⟩) 1 1, .bool false] (fun w _ => w = .tuple #[.int .i64 0, .agg ⟨(lowX tA 200).cells⟩, .int .i64 0]) := by
  obtain ⟨v, h', hR, a⟩ := endOf_w (S := oneL (lineB r s) q) (t := tA) (b := false) (Nat.le_refl _) .mk (oneL_ok hL (Same.refl _ _) hm hr hg)
  refine ⟨v, h', ?_, a⟩
  rcases hR with ⟨he, -⟩ | ⟨-, i, f, hi, hf1, hf2, rfl, -⟩
  · exact absurd (spanErr_fine.2 (fineB r s q)) he
  · have hi : i < 1 := hi
    have h1 : 200 ≤ f := hf1
    have h2 : f ≤ 200 := hf2
    have : i = 0 := by omega
    have : f = 200 := by omega
    subst_vars
    rfl
theorem trueB : IsTrue tA (lowX tA 200) := by constructor <;> exact of_decide_eq_true (by kernel_rfl)
theorem knownShip_w {h : H} {r s m : Nat} (hm : m ≤ h.next) (hL : (lineB r s).Ok m h) : AW Try.prog 21 h.next h [.agg ⟨tA.cells⟩, .agg ⟨(lineB r s).cells⟩, .agg ⟨(lowX tA 200).cells⟩] (fun w _ => w = .tuple #[.int .i64 324, .int .i64 0]) := by
  have := ship_true hm okA hL (validB r s) (reckonsB r s) trueB
  rwa [lowB] at this

set_option maxHeartbeats 2000000 in
theorem dragKnown_w {h : H} : AW Try.prog 12 h.next h [] (fun v _ => v = .bool true) := by
  refine fun12.call rfl (Nat.le_refl _) ?_
  unfold a12
  (focus ((try with_reducible apply wpC.to); (repeat' ((conv => whnf); first | ((apply Start.mk); (focus exact byNext); (focus exact byLen)) | ((apply New.mk); (focus exact byNid)) | ((apply Need.mk); (focus exact byNeed)) | ((apply Fork.mk) <;> (intro _; try (exfalso; omega; done))) | ((apply LoadN.mk); (focus exact byMem); (focus exact byList)) | ((apply Sto.mk); (focus exact bySto); (focus exact byLo); (focus exact byGet); (focus exact rfl); (focus exact rfl); (focus exact rfl); (focus exact byList)) | ((with_reducible apply Ix.pred); (focus first | assumption | exact fun _ => rfl); (focus omega); (focus omega)) | ((apply q_call); (focus exact byNext); (focus exact byLo); (focus (first | (apply AW.arg123; (focus (apply knownShip_w; rotate_left; (focus (apply Line.Ok.same; (focus assumption); (focus exact bySame); (focus exact Nat.le_refl _))); (focus exact byOm))); (focus exact Is.rfl); (focus exact Is.rfl); (focus exact Is.rfl)) | (apply AW.arg1; (focus (apply knownEnd_w; (focus (apply lineOk_put; (focus assumption); (focus (intro _; simp only [lineA, lineB]; omega)); (focus (intro _; simp only [lineA, lineB]; omega)))); (focus exact byOm); (focus exact byOm); (focus exact byGet))); (focus exact Is.rfl)) | (apply AW.arg1; (focus (apply knownSpanB_w; (focus (apply lineOk_put; (focus assumption); (focus (intro _; simp only [lineA, lineB]; omega)); (focus (intro _; simp only [lineA, lineB]; omega)))); (focus exact byOm); (focus exact byOm); (focus exact byGet))); (focus exact Is.rfl)) | (apply AW.arg1; (focus (apply knownSpanA_w; (focus (apply lineOk_put; (focus assumption); (focus (intro _; simp only [lineA, lineB]; omega)); (focus (intro _; simp only [lineA, lineB]; omega)))); (focus exact byOm); (focus exact byOm); (focus exact byGet))); (focus exact Is.rfl)) | (apply AW.arg1; (focus (apply known9_w; rotate_left; (focus (apply Line.Ok.same; (focus assumption); (focus exact bySame); (focus exact Nat.le_refl _))); (focus exact byOm))); (focus exact Is.rfl)) | (apply AW.arg1; (focus (apply known25_w; rotate_left; (focus (apply Line.Ok.same; (focus assumption); (focus exact bySame); (focus exact Nat.le_refl _))); (focus exact byOm))); (focus exact Is.rfl)) | (apply AW.arg1; (focus (apply known10_w; rotate_left; (focus (apply Line.Ok.same; (focus assumption); (focus exact bySame); (focus exact Nat.le_refl _))); (focus exact byOm))); (focus exact Is.rfl)) | (apply AW.arg123; (focus (apply ship_true; rotate_left; (focus assumption); (focus (apply Line.Ok.same; (focus assumption); (focus exact bySame); (focus exact Nat.le_refl _))); (focus assumption); (focus assumption); (focus assumption); (focus exact byOm))); (focus exact Is.rfl); (focus exact Is.rfl); (focus exact Is.rfl)) | (apply AW.arg1; (focus (apply spanOne_w; (focus assumption); (focus assumption); (focus exact bySame); (focus exact byOm); (focus exact byOm); (focus exact byGet))); (focus exact Is.rfl)) | (apply AW.arg123; (focus (apply ship_o; rotate_left; (focus assumption); (focus (apply Line.Ok.same; (focus assumption); (focus exact bySame); (focus exact Nat.le_refl _))); (focus assumption); (focus assumption); (focus exact byOm))); (focus exact Is.rfl); (focus exact Is.rfl); (focus exact Is.rfl)) | (apply AW.arg1; (focus (apply friction_api; rotate_left; (focus (apply Line.Ok.same; (focus assumption); (focus exact bySame); (focus exact Nat.le_refl _))); (focus exact byOm))); (focus exact Is.rfl)) | exact works_w | (apply AW.arg123; (focus (apply worksShip_w; rotate_left; (focus (apply Line.Ok.same; (focus assumption); (focus exact bySame); (focus exact Nat.le_refl _))); (focus exact byOm))); (focus exact Is.rfl); (focus exact Is.rfl); (focus exact Is.rfl)) | (apply AW.arg1; (focus (apply worksFric_w; rotate_left; (focus (apply Line.Ok.same; (focus assumption); (focus exact bySame); (focus exact Nat.le_refl _))); (focus exact byOm))); (focus exact Is.rfl)) | exact testA_w)); first | ((apply q_allB) <;> (intro z_b _ _ _; first | exact Bool.noConfusion z_b | replace z_b := of_decide_eq_true z_b | replace z_b := of_decide_eq_false z_b | skip) <;> ((try simp only [AllOk, Bd.ok, and_true] at z_b); first | contradiction | (revert z_b; intros))) | ((apply q_alli) <;> (intro _ _ _ _; try contradiction)) | ((apply q_allv); intro _ _ _)) | ((apply OpE.val); (focus exact rfl); (focus exact byVal)) | apply forceV_any | apply forceL_any | (refine OpE.pure (.bool true) (xRange_same rfl rfl rfl) ?_) | (apply q_call; (focus exact byNext); (focus omega); (focus exact lineB_w); rintro _ z_h1 ⟨z_r, z_s, z_e, z_hr, z_hs, z_hL⟩ z_q z_hn; subst z_e; (try simp only [put_next, bump_next] at z_hr z_hs); revert z_hn z_q z_hL z_hs z_hr z_s z_r z_h1; intros) | (apply q_call; (focus exact byNext); (focus omega); (focus exact lineA_w); rintro _ z_h1 ⟨z_r, z_s, z_e, z_hr, z_hs, z_hL⟩ z_q z_hn; subst z_e; (try simp only [put_next, bump_next] at z_hr z_hs); revert z_hn z_q z_hL z_hs z_hr z_s z_r z_h1; intros))); all_goals (conv => whnf); all_goals (try with_reducible apply At.mk)))
  all_goals ((first | (apply fin1; (focus first | exact .inl rfl | exact .inr rfl); focus exact byR1) | (apply fin2; (focus first | exact .inl rfl | exact .inr rfl); (focus exact byR1); (focus exact byR1)) | (apply fin3; (focus first | exact .inl rfl | exact .inr rfl); (focus exact byR1); (focus exact byR1); (focus exact byR1)) | (apply fin0; (focus first | exact .inl rfl | exact .inr rfl))); rfl)
end AE.Try
