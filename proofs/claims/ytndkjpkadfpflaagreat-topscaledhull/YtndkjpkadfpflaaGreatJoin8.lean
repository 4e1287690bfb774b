/- Walks and plain laws: TopF3, TopF4. -/
import Derived.Test.YtndkjpkadfpflaaGreatJoin6
set_option linter.unusedVariables false
set_option linter.unusedSimpArgs false
set_option linter.unusedSectionVars false

/- Walks of fair: the least number of some, the best step. -/
namespace AE.Tryz
open Go AE Go.Proofs AE.Fair
set_option maxRecDepth 100000
set_option linter.unusedVariables false

structure Drawn (h : H) (m d l : Nat) (S : Spots) (F : Nat → Int) : Prop where
  fit : S.Fit
  sr : S.r.Ok m h
  gd : h.get d = some (drow S l)
  gl : h.get l = some (.cells (iCells F (S.r.n * 75)) 245)
  dn : d < h.next
  ln : l < h.next
  bd : ∀ k, k < S.r.n * 75 → 0 ≤ F k ∧ F k ≤ 200000000
end AE.Tryz

/- Walks of fair: all states of a spot, and what is paid from them on. -/
namespace AE.Tryz
open Go AE Go.Proofs AE.Fair
set_option maxRecDepth 100000
set_option linter.unusedVariables false

/-- What the walk over the states needs of the heap, whatever is done on the way. -/
structure Stat (h : H) (m d l rd ri i : Nat) (S : Spots) : Prop where
  sr : S.r.Ok m h
  gd : h.get d = some (drow S l)
  grd : h.get rd = some (.cells [.pointer (some ⟨d, 0, none⟩)] 87)
  gri : h.get ri = some (.cells [.int .i64 i] 3)
theorem Stat.quiet {h h' : H} {m d l rd ri i lo : Nat} {S : Spots} (k : Stat h m d l rd ri i S) (q : Quiet lo h h') (h1 : m ≤ lo) (h2 : d < lo) (h3 : rd < lo) (h4 : ri < lo) : Stat h' m d l rd ri i S :=
  ⟨k.sr.same (fun x hx => q.same x (by omega)) (Nat.le_refl _), (q.same _ h2).trans k.gd, (q.same _ h3).trans k.grd, (q.same _ h4).trans k.gri⟩

end AE.Tryz
