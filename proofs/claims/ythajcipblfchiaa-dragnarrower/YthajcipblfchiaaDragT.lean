/- Walks of the statements: neither scale, block nor roughness. -/
import Derived.Test.YthajcipblfchiaaDragR
import Derived.Test.YthajcipblfchiaaDragO
set_option linter.unusedVariables false
set_option linter.unusedSimpArgs false
set_option linter.unusedSectionVars false
namespace AE.Try
open Go AE AE.Drag Go.Proofs
set_option maxRecDepth 100000

/-- A contract of one line. -/
def oneL (L : Line) (r : Nat) : Lines := ⟨1, fun _ => L, some ⟨r, 0, none⟩, ⟨r, 0, none⟩, 1⟩
theorem oneL_ok {h0 h : H} {L : Line} {m r : Nat} (hL : L.Ok m h0) (hs : Same m h0 h) (hm : m ≤ h.next) (hr : r < h.next) (hg : h.get r = some (.cells L.cells 24)) : (oneL L r).Ok h.next h := by
  refine ⟨fun _ => rfl, els_row hg rfl (fun j hj => ?_), fun _ => hr, fun i hi => hL.same hs hm, by show 1 ≤ _; omega⟩
  have hj : j < 1 := hj
  have : j = 0 := by omega
  subst this
  rfl

/-- The test with the ship as the model. -/
def sameT (t : T) : T := { t with alpha := 1, bl := 0, bh := 0, rl := 0, rh := 0, sl := t.tl, sh := t.th }
def sameX (t : T) (s : Six) : X := { pickX (sameT t) s with sea := (pickX (sameT t) s).tank }
theorem sameX_true {t : T} (k : (sameT t).Ok) (s : Six) : IsTrue (sameT t) (sameX t s) := by
  obtain ⟨x1, x2, x3, x4, x5, x6, x7, x8, x9, x10, x11, x12⟩ := pickX_true k s
  exact ⟨x1, x2, x3, x4, x3, x4, x7, x8, x9, x10, x11, x12⟩
theorem same_coef {t : T} (k : (sameT t).Ok) (s : Six) (L : Line) : coef (sameT t) L (sameX t s) = measured (sameT t) (sameX t s).force := by
  obtain ⟨x1, x2, x3, x4, x5, x6, x7, x8, x9, x10, x11, x12⟩ := pickX_true k s
  have hb : (sameX t s).block = 0 := by
    have h1 : (0 : Int) ≤ (pickX (sameT t) s).block := x9
    have h2 : (pickX (sameT t) s).block ≤ 0 := x10
    show (pickX (sameT t) s).block = 0
    omega
  have hr : (sameX t s).rough = 0 := by
    have h1 : (0 : Int) ≤ (pickX (sameT t) s).rough := x11
    have h2 : (pickX (sameT t) s).rough ≤ 0 := x12
    show (pickX (sameT t) s).rough = 0
    omega
  have he : shipRe (sameT t) (sameX t s).sea = modelRe (sameT t) (sameX t s).tank := by
    show t.speed * t.long * 1 * 1 * 1 / (pickX (sameT t) s).tank = t.speed * t.long / (pickX (sameT t) s).tank
    rw [Int.mul_one, Int.mul_one, Int.mul_one]
  unfold coef coefOf
  rw [hb, hr, he]
  omega

theorem fineOne_w {h h0 : H} {t : T} {L : Line} {m r : Nat} (kn : Known t) (hL : L.Ok m h0) (hs : Same m h0 h) (hm : m ≤ h.next) (hr : r < h.next) (hg : h.get r = some (.cells L.cells 24)) : AW Try.prog 29 h.next h [.agg ⟨t.cells⟩, .slice (some ⟨r, 0, none⟩) 1 1] (fun w _ => w = .bool (decide (Fine t (oneL L r)))) :=
  fine_w (S := oneL L r) (Nat.le_refl _) kn (oneL_ok hL hs hm hr hg)
theorem spanOne_w {h h0 : H} {t : T} {L : Line} {m r : Nat} (F : Fine t (oneL L r)) (hL : L.Ok m h0) (hs : Same m h0 h) (hm : m ≤ h.next) {r' : Nat} (hr : r' < h.next) (hg : h.get r' = some (.cells L.cells 24)) : AW Try.prog 30 h.next h [.agg ⟨t.cells⟩, .slice (some ⟨r', 0, none⟩) 1 1] (fun w _ => w = .tuple #[.agg ⟨[.int .i64 (spanLo t (oneL L r)), .int .i64 (spanHi t (oneL L r))]⟩, .int .i64 0]) := by
  have := span_w (S := oneL L r') (t := t) (Nat.le_refl _) .mk (oneL_ok hL hs hm hr hg)
  have F' : Fine t (oneL L r') := ⟨F.tk, ⟨F.sv.lo, F.sv.hi, F.sv.v⟩, F.r⟩
  have e := spanErr_fine.2 F'
  unfold spanV at this
  rw [e, if_pos rfl, if_pos rfl] at this
  exact this
theorem ship_true {h : H} {t : T} {L : Line} {x : X} {m : Nat} (hm : m ≤ h.next) (k : t.Ok) (hL : L.Ok m h) (v : Valid L) (r : reckons t L) (hx : IsTrue t x) : AW Try.prog 21 h.next h [.agg ⟨t.cells⟩, .agg ⟨L.cells⟩, .agg ⟨x.cells⟩] (fun w _ => w = .tuple #[.int .i64 (coef t L x), .int .i64 0]) := by
  have := ship_api hm .mk hL (x := x) .mk (t := t)
  unfold shipR at this
  rwa [if_neg (by rw [testErr_0 k]; omega), if_neg (by rw [lineErr_valid.2 v]; omega), if_neg (fun c => c hx), if_pos ((hx.among k).both k r)] at this
theorem refShip_true {h : H} {t : T} {L : Line} {x : X} {m : Nat} (hm : m ≤ h.next) (k : t.Ok) (hL : L.Ok m h) (v : Valid L) (r : reckons t L) (hx : IsTrue t x) : AW Try.prog 22 h.next h [.agg ⟨t.cells⟩, .agg ⟨L.cells⟩, .agg ⟨x.cells⟩] (fun w _ => w = .tuple #[.int .i64 (coef t L x), .int .i64 0]) := by
  have := refShip_api hm .mk hL (x := x) .mk (t := t)
  unfold shipR at this
  rwa [if_neg (by rw [testErr_0 k]; omega), if_neg (by rw [lineErr_valid.2 v]; omega), if_neg (fun c => c hx), if_pos ((hx.among k).both k r)] at this

set_option maxHeartbeats 2000000 in
theorem dragSame_w {h : H} {t : T} {L : Line} {s : Six} {m : Nat} (hm : m ≤ h.next) (hL : L.Ok m h) (hs : s.Ok) : AW Try.prog 9 h.next h [.agg ⟨t.cells⟩, .agg ⟨L.cells⟩, .agg ⟨s.cells⟩] (fun v _ => v = .bool true) := by
  have kn : Known (sameT t) := .mk
  refine fun9.call rfl (Nat.le_refl _) ?_
  unfold a9
  by_cases hg : 20 < L.n ∨ 20 < L.m
  · (focus ((try with_reducible apply wpC.to); (repeat' ((conv => whnf); first | ((apply Start.mk); (focus exact byNext); (focus exact byLen)) | ((apply New.mk); (focus exact byNid)) | ((apply Need.mk); (focus exact byNeed)) | ((apply Fork.mk) <;> (intro _; try (exfalso; omega; done))) | ((apply Load1.mk); (focus exact byMem); (focus exact byVal)) | ((apply LoadN.mk); (focus exact byMem); (focus exact byList)) | ((apply Sto.mk); (focus exact bySto); (focus exact byLo); (focus exact byGet); (focus exact rfl); (focus exact rfl); (focus exact rfl); (focus exact byList)) | ((with_reducible apply Ix.pred); (focus first | assumption | exact fun _ => rfl); (focus omega); (focus omega)) | ((apply q_call); (focus exact byNext); (focus exact byLo); (focus (first | (apply AW.arg123; (focus (apply ship_true; rotate_left; (focus assumption); (focus (apply Line.Ok.same; (focus assumption); (focus exact bySame); (focus exact Nat.le_refl _))); (focus assumption); (focus assumption); (focus assumption); (focus exact byOm))); (focus exact Is.rfl); (focus exact Is.rfl); (focus exact Is.rfl)) | (apply AW.arg1; (focus (apply spanOne_w; (focus assumption); (focus assumption); (focus exact bySame); (focus exact byOm); (focus exact byOm); (focus exact byGet))); (focus exact Is.rfl)) | (apply AW.arg1; (focus (apply fineOne_w; (focus assumption); (focus assumption); (focus exact bySame); (focus exact byOm); (focus exact byOm); (focus exact byGet))); (focus exact Is.rfl)) | (apply AW.arg123; (focus (apply ship_o; rotate_left; (focus assumption); (focus (apply Line.Ok.same; (focus assumption); (focus exact bySame); (focus exact Nat.le_refl _))); (focus assumption); (focus assumption); (focus exact byOm))); (focus exact Is.rfl); (focus exact Is.rfl); (focus exact Is.rfl)) | (apply AW.arg12; (focus (apply true_w; (focus assumption); (focus assumption))); (focus exact Is.rfl); (focus exact Is.rfl)) | (apply AW.arg1; (focus (apply fine_w; rotate_left; (focus assumption); (focus (apply Lines.Ok.same; (focus assumption); (focus exact bySame); (focus exact Nat.le_refl _))); (focus exact byOm))); (focus exact Is.rfl)) | (apply AW.arg1; (focus (apply great_w; rotate_left; (focus (apply Line.Ok.same; (focus assumption); (focus exact bySame); (focus exact Nat.le_refl _))); (focus exact byOm))); (focus exact Is.rfl)) | exact works_w | (apply AW.arg123; (focus (apply worksShip_w; rotate_left; (focus (apply Line.Ok.same; (focus assumption); (focus exact bySame); (focus exact Nat.le_refl _))); (focus exact byOm))); (focus exact Is.rfl); (focus exact Is.rfl); (focus exact Is.rfl)) | (apply AW.arg1; (focus (apply refMeasured_w; (focus assumption); (focus omega); (focus omega))); (focus exact Is.rfl)))); first | ((apply q_allB) <;> (intro z_b _ _ _; first | exact Bool.noConfusion z_b | replace z_b := of_decide_eq_true z_b | replace z_b := of_decide_eq_false z_b | skip) <;> ((try simp only [AllOk, Bd.ok, and_true] at z_b); first | contradiction | (revert z_b; intros))) | ((apply q_alli) <;> (intro _ _ _ _; try contradiction)) | ((apply q_allv); intro _ _ _)) | apply forceV_any | apply forceL_any | (refine OpE.pure (.bool true) (xRange_same rfl rfl rfl) ?_))); all_goals (conv => whnf); all_goals (try with_reducible apply At.mk)))
    all_goals ((first | (apply fin1; (focus first | exact .inl rfl | exact .inr rfl); focus exact byR1) | (apply fin2; (focus first | exact .inl rfl | exact .inr rfl); (focus exact byR1); (focus exact byR1)) | (apply fin3; (focus first | exact .inl rfl | exact .inr rfl); (focus exact byR1); (focus exact byR1); (focus exact byR1)) | (apply fin0; (focus first | exact .inl rfl | exact .inr rfl))); rfl)
  (focus ((try with_reducible apply wpC.to); (repeat' ((conv => whnf); first | ((apply Start.mk); (focus exact byNext); (focus exact byLen)) | ((apply New.mk); (focus exact byNid)) | ((apply Need.mk); (focus exact byNeed)) | ((apply Fork.mk) <;> (intro _; try (exfalso; omega; done))) | ((apply Load1.mk); (focus exact byMem); (focus exact byVal)) | ((apply LoadN.mk); (focus exact byMem); (focus exact byList)) | ((apply Sto.mk); (focus exact bySto); (focus exact byLo); (focus exact byGet); (focus exact rfl); (focus exact rfl); (focus exact rfl); (focus exact byList)) | ((with_reducible apply Ix.pred); (focus first | assumption | exact fun _ => rfl); (focus omega); (focus omega)) | ((apply q_call); (focus exact byNext); (focus exact byLo); (focus (first | (apply AW.arg123; (focus (apply ship_true; rotate_left; (focus assumption); (focus (apply Line.Ok.same; (focus assumption); (focus exact bySame); (focus exact Nat.le_refl _))); (focus assumption); (focus assumption); (focus assumption); (focus exact byOm))); (focus exact Is.rfl); (focus exact Is.rfl); (focus exact Is.rfl)) | (apply AW.arg1; (focus (apply spanOne_w; (focus assumption); (focus assumption); (focus exact bySame); (focus exact byOm); (focus exact byOm); (focus exact byGet))); (focus exact Is.rfl)) | (apply AW.arg1; (focus (apply fineOne_w; (focus assumption); (focus assumption); (focus exact bySame); (focus exact byOm); (focus exact byOm); (focus exact byGet))); (focus exact Is.rfl)) | (apply AW.arg123; (focus (apply ship_o; rotate_left; (focus assumption); (focus (apply Line.Ok.same; (focus assumption); (focus exact bySame); (focus exact Nat.le_refl _))); (focus assumption); (focus assumption); (focus exact byOm))); (focus exact Is.rfl); (focus exact Is.rfl); (focus exact Is.rfl)) | (apply AW.arg12; (focus (apply true_w; (focus assumption); (focus assumption))); (focus exact Is.rfl); (focus exact Is.rfl)) | (apply AW.arg1; (focus (apply fine_w; rotate_left; (focus assumption); (focus (apply Lines.Ok.same; (focus assumption); (focus exact bySame); (focus exact Nat.le_refl _))); (focus exact byOm))); (focus exact Is.rfl)) | (apply AW.arg1; (focus (apply great_w; rotate_left; (focus (apply Line.Ok.same; (focus assumption); (focus exact bySame); (focus exact Nat.le_refl _))); (focus exact byOm))); (focus exact Is.rfl)) | exact works_w | (apply AW.arg123; (focus (apply worksShip_w; rotate_left; (focus (apply Line.Ok.same; (focus assumption); (focus exact bySame); (focus exact Nat.le_refl _))); (focus exact byOm))); (focus exact Is.rfl); (focus exact Is.rfl); (focus exact Is.rfl)) | (apply AW.arg1; (focus (apply refMeasured_w; (focus assumption); (focus omega); (focus omega))); (focus exact Is.rfl)))); first | ((apply q_allB) <;> (intro z_b _ _ _; first | exact Bool.noConfusion z_b | replace z_b := of_decide_eq_true z_b | replace z_b := of_decide_eq_false z_b | skip) <;> ((try simp only [AllOk, Bd.ok, and_true] at z_b); first | contradiction | (revert z_b; intros))) | ((apply q_alli) <;> (intro _ _ _ _; try contradiction)) | ((apply q_allv); intro _ _ _)) | apply forceV_any | apply forceL_any | (refine OpE.pure (.bool true) (xRange_same rfl rfl rfl) ?_))); all_goals (conv => whnf); all_goals (try with_reducible apply At.mk)))
  · rename_i F
    have tk : (sameT t).Ok := F.tk
    have hv : Valid L := F.sv.v 0 (by show 0 < 1; omega)
    have hre : reckons (sameT t) L := F.r 0 (by show 0 < 1; omega)
    have hx := sameX_true tk s
    have hxk := hx.bd tk
    have f1 : 0 ≤ (pickX (sameT t) s).force := hxk.f1
    have f2 : (pickX (sameT t) s).force ≤ 100000000 := hxk.f2
    have hbox := boxed F (i := 0) (by show 0 < 1; omega) (hx.among tk) hx.m1 hx.m2
    have hc : coef (sameT t) L (sameX t s) = measured (sameT t) (pickX (sameT t) s).force := same_coef tk s L
    rw [show (oneL L _).ln 0 = L from rfl, hc] at hbox
    (focus ((try with_reducible apply wpC.to); (repeat' ((conv => whnf); first | ((apply Start.mk); (focus exact byNext); (focus exact byLen)) | ((apply New.mk); (focus exact byNid)) | ((apply Need.mk); (focus exact byNeed)) | ((apply Fork.mk) <;> (intro _; try (exfalso; omega; done))) | ((apply Load1.mk); (focus exact byMem); (focus exact byVal)) | ((apply LoadN.mk); (focus exact byMem); (focus exact byList)) | ((apply Sto.mk); (focus exact bySto); (focus exact byLo); (focus exact byGet); (focus exact rfl); (focus exact rfl); (focus exact rfl); (focus exact byList)) | ((with_reducible apply Ix.pred); (focus first | assumption | exact fun _ => rfl); (focus omega); (focus omega)) | ((apply q_call); (focus exact byNext); (focus exact byLo); (focus (first | (apply AW.arg123; (focus (apply ship_true; rotate_left; (focus assumption); (focus (apply Line.Ok.same; (focus assumption); (focus exact bySame); (focus exact Nat.le_refl _))); (focus assumption); (focus assumption); (focus assumption); (focus exact byOm))); (focus exact Is.rfl); (focus exact Is.rfl); (focus exact Is.rfl)) | (apply AW.arg1; (focus (apply spanOne_w; (focus assumption); (focus assumption); (focus exact bySame); (focus exact byOm); (focus exact byOm); (focus exact byGet))); (focus exact Is.rfl)) | (apply AW.arg1; (focus (apply fineOne_w; (focus assumption); (focus assumption); (focus exact bySame); (focus exact byOm); (focus exact byOm); (focus exact byGet))); (focus exact Is.rfl)) | (apply AW.arg123; (focus (apply ship_o; rotate_left; (focus assumption); (focus (apply Line.Ok.same; (focus assumption); (focus exact bySame); (focus exact Nat.le_refl _))); (focus assumption); (focus assumption); (focus exact byOm))); (focus exact Is.rfl); (focus exact Is.rfl); (focus exact Is.rfl)) | (apply AW.arg12; (focus (apply true_w; (focus assumption); (focus assumption))); (focus exact Is.rfl); (focus exact Is.rfl)) | (apply AW.arg1; (focus (apply fine_w; rotate_left; (focus assumption); (focus (apply Lines.Ok.same; (focus assumption); (focus exact bySame); (focus exact Nat.le_refl _))); (focus exact byOm))); (focus exact Is.rfl)) | (apply AW.arg1; (focus (apply great_w; rotate_left; (focus (apply Line.Ok.same; (focus assumption); (focus exact bySame); (focus exact Nat.le_refl _))); (focus exact byOm))); (focus exact Is.rfl)) | exact works_w | (apply AW.arg123; (focus (apply worksShip_w; rotate_left; (focus (apply Line.Ok.same; (focus assumption); (focus exact bySame); (focus exact Nat.le_refl _))); (focus exact byOm))); (focus exact Is.rfl); (focus exact Is.rfl); (focus exact Is.rfl)) | (apply AW.arg1; (focus (apply refMeasured_w; (focus assumption); (focus omega); (focus omega))); (focus exact Is.rfl)))); first | ((apply q_allB) <;> (intro z_b _ _ _; first | exact Bool.noConfusion z_b | replace z_b := of_decide_eq_true z_b | replace z_b := of_decide_eq_false z_b | skip) <;> ((try simp only [AllOk, Bd.ok, and_true] at z_b); first | contradiction | (revert z_b; intros))) | ((apply q_alli) <;> (intro _ _ _ _; try contradiction)) | ((apply q_allv); intro _ _ _)) | apply forceV_any | apply forceL_any | (refine OpE.pure (.bool true) (xRange_same rfl rfl rfl) ?_))); all_goals (conv => whnf); all_goals (try with_reducible apply At.mk)))
    all_goals ((first | (apply fin1; (focus first | exact .inl rfl | exact .inr rfl); focus exact byR1) | (apply fin2; (focus first | exact .inl rfl | exact .inr rfl); (focus exact byR1); (focus exact byR1)) | (apply fin3; (focus first | exact .inl rfl | exact .inr rfl); (focus exact byR1); (focus exact byR1); (focus exact byR1)) | (apply fin0; (focus first | exact .inl rfl | exact .inr rfl))); rfl)
  · (first | (apply fin1; (focus first | exact .inl rfl | exact .inr rfl); focus exact byR1) | (apply fin2; (focus first | exact .inl rfl | exact .inr rfl); (focus exact byR1); (focus exact byR1)) | (apply fin3; (focus first | exact .inl rfl | exact .inr rfl); (focus exact byR1); (focus exact byR1); (focus exact byR1)) | (apply fin0; (focus first | exact .inl rfl | exact .inr rfl)))
    rfl
end AE.Try
