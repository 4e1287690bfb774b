/- Walk of the statement about the ship. -/
import Derived.Test.YthajcipblfchiaaDragN
import Derived.Test.YthajcipblfchiaaAEthree
set_option linter.unusedVariables false
set_option linter.unusedSimpArgs false
set_option linter.unusedSectionVars false
namespace AE.Try
open Go AE AE.Drag Go.Proofs
set_option maxRecDepth 100000

theorem xRange {ts : Ts} {o : Oper} {x y : Operand} {c : TypeId} (ho : o.op = .binOp .eql 33 x y c) {a b a' b' : Int} (hx : evR ts x = .agg ⟨[.int .i64 a, .int .i64 b]⟩) (hy : evR ts y = .agg ⟨[.int .i64 a', .int .i64 b']⟩) :
    xPure Try.prog ts o = some (.bool (a == a' && b == b')) :=
  xPure_eql ho hx hy rfl rfl (by kernel_rfl)
    (eqRange (u := 2) (f0 := (Try.prog.fieldsOf 33)[0]!) (f1 := (Try.prog.fieldsOf 33)[1]!) (by kernel_rfl) (of_decide_eq_true (by kernel_rfl)) (of_decide_eq_true (by kernel_rfl)) (by kernel_rfl) (by kernel_rfl) Try.underlying2 9998 a b a' b' (by kernel_rfl) (fun _ _ => by kernel_rfl) (fun _ _ => by kernel_rfl))
theorem xRange_same {ts : Ts} {o : Oper} {x y : Operand} {c : TypeId} (ho : o.op = .binOp .eql 33 x y c) {a b : Int} (hx : evR ts x = .agg ⟨[.int .i64 a, .int .i64 b]⟩) (hy : evR ts y = .agg ⟨[.int .i64 a, .int .i64 b]⟩) :
    xPure Try.prog ts o = some (.bool true) := by
  rw [xRange ho hx hy]; simp
theorem reynolds_o {h : H} {t : T} {a b c d e : Int} (kn : Known t) (hr : reynR t = (a, b, c, d, e)) : AW Try.prog 19 h.next h [.agg ⟨t.cells⟩] (fun v _ => v = .tuple #[.agg ⟨[.int .i64 a, .int .i64 b]⟩, .agg ⟨[.int .i64 c, .int .i64 d]⟩, .int .i64 e]) := by
  have := reynolds_api (h := h) kn
  unfold reynV at this
  rwa [hr] at this
theorem refReynolds_o {h : H} {t : T} {a b c d e : Int} (kn : Known t) (hr : reynR t = (a, b, c, d, e)) : AW Try.prog 20 h.next h [.agg ⟨t.cells⟩] (fun v _ => v = .tuple #[.agg ⟨[.int .i64 a, .int .i64 b]⟩, .agg ⟨[.int .i64 c, .int .i64 d]⟩, .int .i64 e]) := by
  have := refReynolds_api (h := h) kn
  unfold reynV at this
  rwa [hr] at this
theorem ship_o {h : H} {t : T} {L : Line} {x : X} {m : Nat} {a e : Int} (hm : m ≤ h.next) (kt : Known t) (hL : L.Ok m h) (kx : Known x) (hr : shipR t L x = (a, e)) :
    AW Try.prog 21 h.next h [.agg ⟨t.cells⟩, .agg ⟨L.cells⟩, .agg ⟨x.cells⟩] (fun w _ => w = .tuple #[.int .i64 a, .int .i64 e]) := by
  have := ship_api hm kt hL kx
  rwa [hr] at this
theorem refShip_o {h : H} {t : T} {L : Line} {x : X} {m : Nat} {a e : Int} (hm : m ≤ h.next) (kt : Known t) (hL : L.Ok m h) (kx : Known x) (hr : shipR t L x = (a, e)) :
    AW Try.prog 22 h.next h [.agg ⟨t.cells⟩, .agg ⟨L.cells⟩, .agg ⟨x.cells⟩] (fun w _ => w = .tuple #[.int .i64 a, .int .i64 e]) := by
  have := refShip_api hm kt hL kx
  rwa [hr] at this

/-- DragShips answers true. -/
theorem dragShips_w {h : H} {t : T} {L : Line} {x : X} {m : Nat} (hm : m ≤ h.next) (kt : Known t) (hL : L.Ok m h) (kx : Known x) : AW Try.prog 4 h.next h [.agg ⟨t.cells⟩, .agg ⟨L.cells⟩, .agg ⟨x.cells⟩] (fun v _ => v = .bool true) := by
  refine fun4.call rfl (Nat.le_refl _) ?_
  obtain ⟨a, b, c, d, e, hr⟩ : ∃ a b c d e, reynR t = (a, b, c, d, e) := ⟨_, _, _, _, _, rfl⟩
  obtain ⟨y, f, hs⟩ : ∃ y f, shipR t L x = (y, f) := ⟨_, _, rfl⟩
  unfold a4
  (focus ((try with_reducible apply wpC.to); (repeat' ((conv => whnf); first | ((apply Start.mk); (focus exact byNext); (focus exact byLen)) | ((apply New.mk); (focus exact byNid)) | ((apply Fork.mk) <;> (intro _; try (exfalso; omega; done))) | ((apply LoadN.mk); (focus exact byMem); (focus exact byList)) | ((apply Sto.mk); (focus exact bySto); (focus exact byLo); (focus exact byGet); (focus exact rfl); (focus exact rfl); (focus exact rfl); (focus exact byList)) | ((with_reducible apply Ix.pred); (focus first | assumption | exact fun _ => rfl); (focus omega); (focus omega)) | ((apply q_call); (focus exact byNext); (focus exact byLo); (focus (first | (apply AW.arg123; (focus (apply refShip_o; rotate_left; (focus assumption); (focus (apply Line.Ok.same; (focus assumption); (focus exact bySame); (focus exact Nat.le_refl _))); (focus assumption); (focus assumption); (focus exact byOm))); (focus exact Is.rfl); (focus exact Is.rfl); (focus exact Is.rfl)) | (apply AW.arg123; (focus (apply ship_o; rotate_left; (focus assumption); (focus (apply Line.Ok.same; (focus assumption); (focus exact bySame); (focus exact Nat.le_refl _))); (focus assumption); (focus assumption); (focus exact byOm))); (focus exact Is.rfl); (focus exact Is.rfl); (focus exact Is.rfl)) | (apply AW.arg1; (focus (apply refReynolds_o; (focus assumption); (focus assumption))); (focus exact Is.rfl)) | (apply AW.arg1; (focus (apply reynolds_o; (focus assumption); (focus assumption))); (focus exact Is.rfl)) | (apply AW.arg1; (focus (apply great_w; rotate_left; (focus (apply Line.Ok.same; (focus assumption); (focus exact bySame); (focus exact Nat.le_refl _))); (focus exact byOm))); (focus exact Is.rfl)) | exact works_w | (apply AW.arg123; (focus (apply worksShip_w; rotate_left; (focus (apply Line.Ok.same; (focus assumption); (focus exact bySame); (focus exact Nat.le_refl _))); (focus exact byOm))); (focus exact Is.rfl); (focus exact Is.rfl); (focus exact Is.rfl)) | (apply AW.arg1; (focus exact worksReyn_w); (focus exact Is.rfl)) | (apply AW.arg1; (focus (apply refCheckTest_w; (focus assumption))); (focus exact Is.rfl)) | (apply AW.arg1; (focus (apply checkTest_w; (focus assumption))); (focus exact Is.rfl)))); first | ((apply q_allB) <;> (intro z_b _ _ _; first | exact Bool.noConfusion z_b | replace z_b := of_decide_eq_true z_b | replace z_b := of_decide_eq_false z_b | skip) <;> ((try simp only [AllOk, Bd.ok, and_true] at z_b); first | contradiction | (revert z_b; intros))) | ((apply q_alli) <;> (intro _ _ _ _; try contradiction)) | ((apply q_allv); intro _ _ _)) | ((apply OpE.val); (focus exact rfl); (focus exact byVal)) | apply forceV_any | apply forceL_any | (refine OpE.pure (.bool true) (xRange_same rfl rfl rfl) ?_))); all_goals (conv => whnf); all_goals (try with_reducible apply At.mk)))
  all_goals first
    | ((first | (apply fin1; (focus first | exact .inl rfl | exact .inr rfl); focus exact byR1) | (apply fin2; (focus first | exact .inl rfl | exact .inr rfl); (focus exact byR1); (focus exact byR1)) | (apply fin3; (focus first | exact .inl rfl | exact .inr rfl); (focus exact byR1); (focus exact byR1); (focus exact byR1)) | (apply fin0; (focus first | exact .inl rfl | exact .inr rfl))); rfl)
    | contradiction
end AE.Try
