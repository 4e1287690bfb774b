/- Clerk: how all stands by the program, and by the definitions, is the same. -/
import Derived.Test.YtcminnjimlopbaaGreatDoorClkDg
set_option linter.unusedVariables false
set_option linter.unusedSimpArgs false
set_option linter.unusedSectionVars false
namespace AE.Tryz
open Go AE Go.Proofs AE.Clerk
set_option maxRecDepth 100000
set_option linter.unusedVariables false

structure SRel (f : Nat → Ln) (t : Nat) (s : St) (S : SD) : Prop where
 stock : S.stock = s.stock
 lost : S.lost = s.lost
 ms : S.ms = sortM s.ms
 rn : S.rn.length = t
 co : S.co.length = t
 bk : S.bk.length = t
 run1 : ∀ r ∈ s.rs, S.rn[r.at_]? = some 1 ∧ S.co[r.at_]? = some r.cost ∧ S.bk[r.at_]? = some (if r.back then 1 else 0) ∧ (f r.at_).m = r.no
 run0 : ∀ j, j < t → (∀ r ∈ s.rs, r.at_ ≠ j) → S.rn[j]? = some 0 ∧ S.co[j]? = some 0 ∧ S.bk[j]? = some 0
theorem SRel.upd {f : Nat → Ln} {t : Nat} {s s' : St} {S S' : SD} (k : SRel f t s S) (h1 : S'.stock = s'.stock) (h2 : S'.lost = s'.lost) (h3 : S'.ms = sortM s'.ms) (e1 : S'.rn = S.rn) (e2 : S'.co = S.co) (e3 : S'.bk = S.bk) (e4 : s'.rs = s.rs) : SRel f t s' S' := by
 obtain ⟨k1, k2, k3, k4, k5, k6, k7, k8⟩ := k
 exact ⟨h1, h2, h3, by rw [e1]; exact k4, by rw [e2]; exact k5, by rw [e3]; exact k6, by rw [e1, e2, e3, e4]; exact k7, by rw [e1, e2, e3, e4]; exact k8⟩
end AE.Tryz
