/- Walks of span's definitions: Next. -/
import Derived.Test.YtkkndecbijgolaaGreatJoin1
set_option linter.unusedVariables false
set_option linter.unusedSimpArgs false
set_option linter.unusedSectionVars false
namespace AE.Tryz
open Go AE Go.Proofs AE.Sp
set_option maxRecDepth 100000
set_option linter.unusedVariables false

noncomputable def lowOf (P : Int → Int → Prop) : Fr := by
  classical exact if h : ∃ N D, P N D then fr (Classical.choose h) (Classical.choose (Classical.choose_spec h)) else ⟨0, 0⟩
theorem low_of {L : Runs} {p q : Int} : L.low p q = lowOf (fun N D => Lst L p q N D) := rfl
theorem lst_cong {L M : Runs} {p q N D : Int} (hn : M.n = L.n) (hf : M.f = L.f) (k : Lst M p q N D) : Lst L p q N D := by
  obtain ⟨a, b, c⟩ := k
  rw [hn, hf] at b c
  exact ⟨a, b, c⟩
theorem wide_cong {L M : Runs} {p q : Int} (hn : M.n = L.n) (hf : M.f = L.f) : M.wide p q = L.wide p q := by
  have e : ∀ p q, M.low p q = L.low p q := fun p q => by
    rw [low_of, low_of]
    congr 1
    funext N D
    exact propext ⟨lst_cong hn hf, lst_cong hn.symm hf.symm⟩
  unfold Runs.wide
  rw [e, e]
theorem WideOk.LB {x : Fr} (k : WideOk x) : LB x := ⟨by have := k.d; omega, by have := k.n; omega⟩
theorem Runs.Ok.fr {T : Runs} {b m m' : Nat} {h h' : H} (k : T.Ok m h) (hb : 0 < T.n → b ≤ T.a.block) (hm : m ≤ m') (hs : ∀ r, b ≤ r → r < m → h'.get r = h.get r) : T.Ok m' h' :=
  ⟨k.e, fun i hi => by
    have := k.i i hi
    rw [← this]
    have h1 := k.r (by omega)
    have h2 := hb (by omega)
    simp only [H.loadN, aadd]
    rw [hs _ h2 h1], fun h => by have := k.r h; omega, k.l⟩
end AE.Tryz
