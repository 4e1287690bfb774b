/- Walks of fair: what is paid from all states on is found. -/
import Derived.Test.YtndkjpkadfpflaaGreatJoin8
set_option linter.unusedVariables false
set_option linter.unusedSimpArgs false
set_option linter.unusedSectionVars false
namespace AE.Tryz
open Go AE Go.Proofs AE.Fair
set_option maxRecDepth 100000
set_option linter.unusedVariables false

theorem Drawn.quiet {h h' : H} {m d l lo : Nat} {S : Spots} {F : Nat → Int} (k : Drawn h m d l S F) (q : Quiet lo h h') (hm : m ≤ lo) (hd : d < lo) (hl : l < lo) : Drawn h' m d l S F :=
  ⟨k.fit, k.sr.same (fun x hx => q.same x (by omega)) (Nat.le_refl _), (q.same _ hd).trans k.gd, (q.same _ hl).trans k.gl, by have := k.dn; have := q.next; omega, by have := k.ln; have := q.next; omega, k.bd⟩
theorem Drawn.set {h : H} {m d l k : Nat} {v : Int} {S : Spots} {F : Nat → Int} (D : Drawn h m d l S F) (hm : m ≤ l) (hd : d ≠ l) (hv : 0 ≤ v ∧ v ≤ 200000000) : Drawn (h.put l (.cells (iCells (updN F k v) (S.r.n * 75)) 245)) m d l S (updN F k v) :=
  ⟨D.fit, D.sr.same (fun x hx => by simp [H.put]; omega) (Nat.le_refl _), by simp [H.put, hd, D.gd], by simp [H.put], D.dn, D.ln, fun j hj => by
    unfold updN
    split
    · exact hv
    · exact D.bd j hj⟩
theorem Drawn.bump {h : H} {m d l : Nat} {S : Spots} {F : Nat → Int} (k : Drawn h m d l S F) (n : Nat) : Drawn (h.bump n) m d l S F :=
  ⟨k.fit, k.sr.same (fun _ _ => rfl) (Nat.le_refl _), k.gd, k.gl, by have := k.dn; simp [bump_next]; omega, by have := k.ln; simp [bump_next]; omega, k.bd⟩
theorem Drawn.put {h : H} {m d l r : Nat} {row : ARow} {S : Spots} {F : Nat → Int} (k : Drawn h m d l S F) (hm : m ≤ r) (hd : d ≠ r) (hl : l ≠ r) : Drawn (h.put r row) m d l S F :=
  ⟨k.fit, k.sr.same (fun x hx => by simp [H.put]; omega) (Nat.le_refl _), by simp [H.put, hd, k.gd], by simp [H.put, hl, k.gl], k.dn, k.ln, k.bd⟩
end AE.Tryz
