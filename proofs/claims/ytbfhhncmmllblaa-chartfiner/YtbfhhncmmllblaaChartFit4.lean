/- What comes in, for the statements about charts: charts whose slices are cut. -/
import Derived.Test.YtbfhhncmmllblaaChartFit3
import Derived.Test.YtbfhhncmmllblaaChartZk
set_option linter.unusedVariables false
set_option linter.unusedSimpArgs false
set_option linter.unusedSectionVars false
namespace AE.ChartIn
open Go Go.Proofs Go.Proofs.Ytbfhhncmmllblaa AE AE.Try
set_option maxRecDepth 100000

theorem nums2_of {h : H} {m : Nat} {cs : List Value} (k : Fits h m (.slice (.int .i64)) cs) : ∃ A : Arr, cs = [.slice A.b A.n A.c] ∧ A.Ok m h ∧ (0 < A.n → SlOk A.a A.n A.c) := by
  obtain ⟨b, a, n, c, rfl, h1, h2, h3, h4, h5, h6⟩ := k
  have hz : ∀ i, i < n → ∃ z : Int, h.loadN (aadd a i) 1 = some [.int .i64 z] := fun i hi => by
    obtain ⟨l, e1, z, rfl, -⟩ := h6 i hi
    exact ⟨z, by simpa [Sh.size] using e1⟩
  obtain ⟨f, hf⟩ := pick_all (0 : Int) hz
  exact ⟨⟨n, f, b, a, c⟩, rfl, ⟨h3, hf, fun h => (h4 h).1, len_of h1 h2⟩, fun h => .inl ⟨(h4 h).2, h1, cap_of h2 h⟩⟩
theorem chart4_of {h : H} {m : Nat} {cs : List Value} (k : Fits h m chartSh cs) : ∃ T : Tbl, cs = T.cells ∧ T.Ok m h ∧ ((0 < T.P.n → SlOk T.P.a T.P.n T.P.c) ∧ (0 < T.R.n → SlOk T.R.a T.R.n T.R.c)) := by
  obtain ⟨c1, c2, rfl, k1, c3, c4, rfl, k2, c5, c6, rfl, k3, k4⟩ := k
  have k4 : c6 = [] := k4
  subst k4
  obtain ⟨A, rfl, oA, sA⟩ := nums2_of k1
  obtain ⟨B, rfl, oB, -⟩ := nums_of k2
  obtain ⟨b, a, n, c, rfl, h1, h2, h3, h4, h5, h6⟩ := k3
  have hz : ∀ i, i < n → ∃ R : Rng, h.loadN (aadd a i) 1 = some [.slice R.b R.n R.c] ∧ R.Ok m h := fun i hi => by
    obtain ⟨l, e1, k1⟩ := h6 i hi
    obtain ⟨R, rfl, ok⟩ := rng_of k1
    exact ⟨R, by simpa [Sh.size] using e1, ok⟩
  obtain ⟨f, hf⟩ := pick_all (⟨0, fun _ => 0, fun _ => 0, none, ⟨0, 0, none⟩, 0⟩ : Rng) hz
  exact ⟨⟨A, B, ⟨n, fun i => (f i).n, b, a, c, fun i => (f i).b, fun i => (f i).a, fun i => (f i).c⟩, fun i => (f i).lo, fun i => (f i).hi⟩, rfl, ⟨oA, oB, h3, fun i hi => (hf i hi).1, fun h => (h4 h).1, len_of h1 h2,
    fun i hi => (hf i hi).2.e, fun i hi => (hf i hi).2.i, fun i hi => (hf i hi).2.r, fun i hi => (hf i hi).2.l⟩, sA, fun h => .inl ⟨(h4 h).2, h1, cap_of h2 h⟩⟩
end AE.ChartIn
