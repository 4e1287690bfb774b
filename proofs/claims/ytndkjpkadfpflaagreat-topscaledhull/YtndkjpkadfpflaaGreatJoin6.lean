/- Walks and plain laws: TopBe, TopF2. -/
import Derived.Test.YtndkjpkadfpflaaGreatJoin15
import Derived.Test.YtndkjpkadfpflaaGreatJoin13
set_option linter.unusedVariables false
set_option linter.unusedSimpArgs false
set_option linter.unusedSectionVars false

/- Walks: two fractions are compared. -/
namespace AE.Tryz
open Go AE Go.Proofs AE.Box
set_option maxRecDepth 100000
set_option linter.unusedVariables false

end AE.Tryz

/- Walks of fair: a drawer, what a step costs, the best step. -/
namespace AE.Tryz
open Go AE Go.Proofs AE.Fair
set_option maxRecDepth 100000
set_option linter.unusedVariables false

def Spots.lo (S : Spots) (i : Nat) : Int := (S.r.f i).lo
def Spots.w (S : Spots) (i : Nat) : Nat := ((S.r.f i).hi - (S.r.f i).lo).toNat + 1
/-- The spots are valid. -/
structure Spots.Fit (S : Spots) : Prop where
  good : Good S.r.n S.t S.lo S.w
  hi : ∀ i, i < S.r.n → (S.r.f i).hi = S.lo i + (S.w i : Int) - 1
/-- What a drawer's row holds. -/
def drow (S : Spots) (l : Nat) : ARow := .cells [.slice S.r.b S.r.n S.r.c, .int .i64 S.t, .int .i64 1, .int .i64 S.t, .slice (some ⟨l, 0, none⟩) S.r.n S.r.n] 158

theorem rg_part {h : H} {T : Rgs} {i o k : Nat} {l : List Value} (e : Els h T.a T.n 2 (fun i => (T.f i).cells)) (hi : i < T.n) (hc : cut (T.f i).cells o k = some l) : h.loadN (aadd (aadd T.a (i * 2)) o) k = some l := load_part (e i hi) hc
theorem xTopF20 {G G' : Prop} (g : G') (t : G' → G := by (((with_reducible apply Load1.mk); (focus ((repeat (first | (apply rg_part <;> first | assumption | omega | exact rfl) | with_reducible apply bump_old | ((with_reducible apply put_old); focus (dsimp only [aadd]; omega)) | ((with_reducible apply quiet_old); (focus assumption); focus (dsimp only [aadd]; omega)) | ((with_reducible apply same_old); (focus assumption); focus (dsimp only [aadd]; omega)))); (first | done | fail))); (focus exact byVal)))) : G := t g
end AE.Tryz
