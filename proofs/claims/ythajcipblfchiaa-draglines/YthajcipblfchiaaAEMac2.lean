/- More macros. -/
import Derived.Test.YthajcipblfchiaaAEBy
import Derived.KernelRfl
set_option linter.unusedVariables false
set_option linter.unusedSimpArgs false
set_option linter.unusedSectionVars false
namespace AE
open Go
section
variable {P : Program} {lo base i : Nat} {q : Bool} {K : Ts → H → Prop} {ts : Ts} {h h' : H} {v : Value} {xs : List AOper} {d : Option Nat} {g : Option (Nat × Bool)}
theorem x_storeA (hg : awanted ts g = true) {n : Nat} {a x : Opd} {ad : Addr} {r off : Nat} {c : List Value} {e : TypeId} (he : ev ts a = .pointer (some ad)) (ha : ad = ⟨r, off, none⟩) (hlo : lo ≤ r) (hget : h.get r = some (.cells c e))
    (hn : (cellsL (ev ts x)).length = n) (ho : (cellsL (ev ts x)).all Value.oneCell' = true) (hl : Nat.ble (off + n) c.length = true) {c' : List Value} (hc : Is (splice c off (cellsL (ev ts x))) c') (hr : Run P lo q base (i + 1) xs K (aputT ts undef d) (h.put r (.cells c' e))) :
    Run P lo q base i (⟨d, g, .op (.store n a x)⟩ :: xs) K ts h := by
  subst ha
  exact x_store hg he hlo hget hn ho hl hc hr
theorem x_pure (hg : awanted ts g = true) {o : Oper} (v : Value) (ha : xPure P ts o = some v) (hr : Run P lo q base (i + 1) xs K (aputT ts v d) h) : Run P lo q base i (⟨d, g, .op (.pure o)⟩ :: xs) K ts h :=
  x_op hg (v := v) (h' := h) (by simp [aop, keep, ha]) hr
end
end AE
