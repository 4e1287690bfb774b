/- Walks and plain laws: ChartZk, ChartFit4. -/
import Derived.Test.YtbfhhncmmllblaaChartZj
import Derived.Test.YtbfhhncmmllblaaChartR
import Derived.Test.YtbfhhncmmllblaaJoin4
set_option linter.unusedVariables false
set_option linter.unusedSimpArgs false
set_option linter.unusedSectionVars false

/- Slices cut out of slices that come in, and laid together again. -/
namespace AE.Try
open Go AE Go.Proofs
set_option maxRecDepth 100000
set_option linter.unusedVariables false

/-! ### rows of any elements, that grow -/

def KG (e : TypeId) (sz r : Nat) (h : H) (n : Nat) (F : Nat → List Value) (v : Option Addr) : Prop := (n = 0 ∧ v = none) ∨ (0 < n ∧ GAt r h e sz n (rowsOf F n) v)
theorem KG.zero {e : TypeId} {sz r : Nat} {h : H} {F : Nat → List Value} : KG e sz r h 0 F none := .inl ⟨rfl, rfl⟩
theorem KG.frame {e : TypeId} {sz r n : Nat} {h h' : H} {F : Nat → List Value} {v : Option Addr} (k : KG e sz r h n F v) (hs : 0 < n → h'.get r = h.get r) : KG e sz r h' n F v :=
  k.imp id fun ⟨h0, G⟩ => ⟨h0, G.frame (hs h0)⟩
theorem KG.els {e : TypeId} {sz r n : Nat} {h : H} {F : Nat → List Value} {v : Option Addr} (k : KG e sz r h n F v) (h0 : 0 < n) (hF : ∀ i, (F i).length = sz) : ∃ a, v = some a ∧ a.block = r ∧ Els h a n sz F := by
  rcases k with ⟨h1, -⟩ | ⟨-, G⟩
  · omega
  · obtain ⟨a, hv, hb, hld, -⟩ := G.load
    refine ⟨a, hv, hb, fun i hi => hld _ _ _ ?_⟩
    have := cut_rowsOf (g := F) (w := sz) hF hi [] [] (a := i * sz) (by simp)
    simpa using this

/-! ### slices cut -/

theorem Vals.all {h : H} {a : Addr} {n : Nat} {g : Nat → Value} (hi : Vals h a n g) (l : Nat) : ∀ k, 0 < k → l + k ≤ n → h.loadN (aadd a (l * 1)) k = some ((List.range k).map fun j => g (l + j))
  | 0, hk, _ => by omega
  | 1, _, hn => by
    have := hi l (by omega)
    simpa using this
  | k + 2, _, hn => by
    have ih := Vals.all hi l (k + 1) (by omega) (by omega)
    have hs := hi (l + (k + 1)) (by omega)
    unfold H.loadN at *
    cases hrow : h.get a.block with
    | none => simp only [aadd, hrow] at ih; simp at ih
    | some row =>
      simp only [aadd, hrow, Option.bind_some, Nat.mul_one] at ih hs ⊢
      rw [show a.off + (l + (k + 1)) = a.off + l + (k + 1) by omega] at hs
      rw [AE.loadRow_succ ih hs]
      simp [List.range_succ]
/-! ### one laid in between -/

end AE.Try

/- What comes in, for the statements about charts: charts whose slices are cut. -/
namespace AE.ChartIn
open Go Go.Proofs Go.Proofs.Ytbfhhncmmllblaa AE AE.Try
set_option maxRecDepth 100000

end AE.ChartIn
