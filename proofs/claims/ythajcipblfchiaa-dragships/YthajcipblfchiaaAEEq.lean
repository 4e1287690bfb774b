/- Comparisons of structs of integers. -/
import Derived.Test.YthajcipblfchiaaAEBy
set_option linter.unusedVariables false
set_option linter.unusedSimpArgs false
set_option linter.unusedSectionVars false
namespace AE
open Go

theorem pureRun_under {P : Program} {t : TypeId} {d : TypeDesc} (h : P.underlying t = some d) : pureRun P (underlying t) = some d := by
  unfold underlying
  simp only [pureRun_bind]
  show ((some P).bind _) = _
  simp only [Option.bind_some, h]
  rfl
theorem eqInt {P : Program} {t : TypeId} {k : IntKind} (ht : P.underlying t = some (.int k)) (d : Nat) (a b : Int) : pureRun P (Op.equalIn (d + 1) t (.int k a) (.int k b)) = some (a == b) := by
  unfold Op.equalIn
  simp only [pureRun_bind, pureRun_under ht, Option.bind_some, if_true]
  rfl
theorem pureRun_program (P : Program) : pureRun P program = some P := rfl
theorem pureRun_pure {α : Type} (P : Program) (x : α) : pureRun P (pure x : Sem α) = some x := rfl
/-- Two structs of two integers. -/
theorem eqRange {P : Program} {t u : TypeId} {f0 f1 : Field} {k : IntKind} (ht : P.underlying t = some (.struct #[f0, f1])) (hn0 : f0.name ≠ "_") (hn1 : f1.name ≠ "_") (hu0 : f0.type = u) (hu1 : f1.type = u) (hu : P.underlying u = some (.int k)) (d : Nat) (a b x y : Int)
    (hs : P.stoodInHeld t = false) (p0 : ∀ v w : Value, pureRun P (Go.part u #[v, w] f0.offset) = some v) (p1 : ∀ v w : Value, pureRun P (Go.part u #[v, w] f1.offset) = some w) :
    pureRun P (Op.equalIn (d + 2) t (.agg #[.int k a, .int k b]) (.agg #[.int k x, .int k y])) = some (a == x && b == y) := by
  unfold Op.equalIn
  simp only [pureRun_bind, pureRun_under ht, Option.bind_some, pureRun_program, hs]
  have e : (#[f0, f1] : Array Field) = [f0, f1].toArray := rfl
  rw [e]
  simp only [List.forIn_toArray, List.forIn_cons, List.forIn_nil, Bool.false_eq_true, if_false, pureRun_bind, hn0, hn1, ne_eq, not_false_eq_true, if_true, hu0, hu1, p0, p1, Option.bind_some, eqInt hu]
  rcases Bool.eq_false_or_eq_true (a == x) with ha | ha <;> rcases Bool.eq_false_or_eq_true (b == y) with hb | hb <;>
    simp only [ha, hb, pureRun_pure, pureRun_bind, Bool.not_true, Bool.not_false, Bool.false_eq_true, if_true, if_false, p1, Option.bind_some, eqInt hu, Bool.and_true, Bool.and_false, Bool.true_and, Bool.false_and]
theorem xPure_eql {P : Program} {ts : Ts} {o : Oper} {t : TypeId} {x y : Operand} {c : TypeId} (ho : o.op = .binOp .eql t x y c) {A B : Array Value} (hx : evR ts x = .agg A) (hy : evR ts y = .agg B) (fa : flat (.agg A) = true) (fb : flat (.agg B) = true)
    (hg : P.eqGuardType P.depth t = false) {b : Bool} (he : pureRun P (Op.equalIn Op.maxDepth t (.agg A) (.agg B)) = some b) : xPure P ts o = some (.bool b) := by
  have ops : o.op.operands.toList = [x, y] := by rw [ho]; rfl
  unfold xPure
  rw [ops]
  simp only [List.all_cons, List.all_nil, hx, hy, fa, fb, Bool.and_true, if_true]
  unfold execOp
  rw [ho]
  simp only [hx, hy, pureRun_bind]
  have g : pureRun P (eqGuard .eql t x y (.agg A) (.agg B)) = some () := by
    unfold eqGuard
    simp only [pureRun_bind, pureRun_program, Option.bind_some, hg, Bool.not_true, Bool.not_false, Bool.false_eq_true, if_false, if_true, pureRun_pure]
  have e : pureRun P (binOp .eql t (.agg A) (.agg B)) = some (.bool b) := by
    unfold binOp
    simp only [Op.equal, pureRun_bind, he, Option.bind_some]
    rfl
  rw [g]
  simp only [Option.bind_some]
  rw [e]
  rfl
end AE
