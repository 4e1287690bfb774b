/- Walks and plain laws: ClkO, ClkP. -/
import Derived.Test.YtcminnjimlopbaaGreatDoorJoin14
set_option linter.unusedVariables false
set_option linter.unusedSimpArgs false
set_option linter.unusedSectionVars false

/- Clerk, walked: deep, climb of the definitions. -/
namespace AE.Tryz
open Go AE Go.Proofs AE.Clerk
set_option maxRecDepth 100000
set_option linter.unusedVariables false

theorem NumL.take {m : Nat} {h : H} {l : List Int} {b : Option Addr} {a : Addr} {c c' : Nat} (k : NumL m h l b a c) (n : Nat) (hn : n ≤ l.length) (h0 : 0 < l.length) : NumL m h (l.take n) (some a) a c' :=
  ⟨fun _ => rfl, fun i hi => by
    rw [List.length_take] at hi
    have := k.i i (by omega)
    rw [this]
    simp only [List.getD_eq_getElem?_getD, List.getElem?_take]
    rw [if_pos (by omega)], fun h => k.r h0⟩
end AE.Tryz

/- Clerk, walked: CheckReceipt by the definitions. -/
namespace AE.Tryz
open Go AE Go.Proofs AE.Clerk
set_option maxRecDepth 100000
set_option linter.unusedVariables false

def AllS (ys : List Int) : Prop := ∀ y ∈ ys, btw y 0 (Clerk.P - 1)
instance (ys : List Int) : Decidable (AllS ys) := by unfold AllS; infer_instance
def ckErr (sl : Int) (x : Ln) (i n : Int) (ys : List Int) : Int :=
  if ¬ x.Valid 1099511627776 ∨ ¬ btw sl 0 (Clerk.P - 1) then 2
  else if n < 1 ∨ 60 < n then 6
  else if i < 0 ∨ n ≤ i then 3
  else if ys.length ≠ (parts 0 n.toNat i.toNat).length then 15
  else if ¬ AllS ys then 3
  else if climbP (leaf x.text) (parts 0 n.toNat i.toNat) ys ≠ sl then 14 else 0
theorem getD_mem {ys : List Int} {k : Nat} (h : k < ys.length) : ys.getD k 0 ∈ ys := by
  rw [List.getD_eq_getElem?_getD, List.getElem?_eq_getElem h]
  exact List.getElem_mem _
end AE.Tryz
