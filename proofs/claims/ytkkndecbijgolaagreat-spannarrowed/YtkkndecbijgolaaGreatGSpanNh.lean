/- What comes in, for the statements of the great seat: choices. -/
import Derived.Test.YtkkndecbijgolaaGreatJoin8
import Derived.Test.YtkkndecbijgolaaGreatJoin9
set_option linter.unusedVariables false
set_option linter.unusedSimpArgs false
set_option linter.unusedSectionVars false
namespace AE.SpanIn
open Go Go.Proofs Go.Proofs.YtkkndecbijgolaaGreat AE AE.Tryz AE.Sp
set_option maxRecDepth 100000
set_option linter.unusedVariables false

def choiceSh : Sh := .cons (.int .i64) (.cons (.int .i64) (.cons (.slice rangeSh) .nil))
theorem isEnds : IsSh Tryz.prog (.slice rangeSh) 25 := .slice Tryz.underlying25 (by kernel_rfl) (by decide) isRangeT
theorem isChoiceT : IsSh Tryz.prog choiceSh 27 := .struct Tryz.underlying27 (by kernel_rfl) (.cons (by kernel_rfl) (by kernel_rfl) is64 (.cons (by kernel_rfl) (by kernel_rfl) is64 (.cons (by kernel_rfl) (by kernel_rfl) isEnds .nil)))
theorem isChoices : IsSh Tryz.prog (.slice choiceSh) 23 := .slice Tryz.underlying23 (by kernel_rfl) (by decide) isChoiceT
/-- A choice as it comes. -/
structure Ch1 where
  p : Int
  q : Int
  w : Nat
  lo : Nat → Int
  hi : Nat → Int
  b : Option Addr
  a : Addr
  c : Nat
theorem rg_of {h : H} {m : Nat} {cs : List Value} (k : Fits h m rangeSh cs) : ∃ x : Int × Int, cs = [.int .i64 x.1, .int .i64 x.2] := by
  obtain ⟨zs, rfl, l, -⟩ := fits_ints (k := .i64) (by decide) k
  match zs, l with
  | [a, b], _ => exact ⟨(a, b), rfl⟩
theorem ch_of {h : H} {m : Nat} {cs : List Value} (k : Fits h m choiceSh cs) : ∃ x : Ch1, cs = [.int .i64 x.p, .int .i64 x.q, .slice x.b x.w x.c] ∧ (0 < x.w → x.b = some x.a) ∧ Els h x.a x.w 2 (fun k => [.int .i64 (x.lo k), .int .i64 (x.hi k)]) ∧ (0 < x.w → x.a.block < m) ∧ x.w ≤ 9223372036854775807 := by
  obtain ⟨c1, c2, rfl, ⟨z1, rfl, -⟩, c3, c4, rfl, ⟨z2, rfl, -⟩, c5, c6, rfl, k1, k⟩ := k
  have k : c6 = [] := k
  subst k
  obtain ⟨b, a, n, c, rfl, h1, h2, h3, h4, h5, h6⟩ := k1
  have hz : ∀ i, i < n → ∃ x : Int × Int, h.loadN (aadd a (i * 2)) 2 = some [.int .i64 x.1, .int .i64 x.2] := fun i hi => by
    obtain ⟨l, e1, k1⟩ := h6 i hi
    obtain ⟨x, rfl⟩ := rg_of k1
    exact ⟨x, e1⟩
  obtain ⟨f, hf⟩ := pick_all ((0, 0) : Int × Int) hz
  exact ⟨⟨z1, z2, n, fun i => (f i).1, fun i => (f i).2, b, a, c⟩, rfl, h3, hf, fun h => (h4 h).1, len_of h1 h2⟩
theorem chs_of {h : H} {m : Nat} {cs : List Value} (k : Fits h m (.slice choiceSh) cs) : ∃ C : Chs, cs = [.slice C.b C.n C.c] ∧ C.Ok m h := by
  obtain ⟨b, a, n, c, rfl, h1, h2, h3, h4, h5, h6⟩ := k
  have hz : ∀ i, i < n → ∃ x : Ch1, h.loadN (aadd a (i * 3)) 3 = some [.int .i64 x.p, .int .i64 x.q, .slice x.b x.w x.c] ∧ (0 < x.w → x.b = some x.a) ∧ Els h x.a x.w 2 (fun k => [.int .i64 (x.lo k), .int .i64 (x.hi k)]) ∧ (0 < x.w → x.a.block < m) ∧ x.w ≤ 9223372036854775807 := fun i hi => by
    obtain ⟨l, e1, k1⟩ := h6 i hi
    obtain ⟨x, rfl, k2⟩ := ch_of k1
    exact ⟨x, e1, k2⟩
  obtain ⟨f, hf⟩ := pick_all (⟨0, 0, 0, fun _ => 0, fun _ => 0, none, ⟨0, 0, none⟩, 0⟩ : Ch1) hz
  exact ⟨⟨n, fun i => (f i).p, fun i => (f i).q, fun i => (f i).w, fun i => (f i).lo, fun i => (f i).hi, b, a, c, fun i => (f i).b, fun i => (f i).a, fun i => (f i).c⟩, rfl,
    ⟨h3, fun i hi => (hf i hi).1, fun h => (h4 h).1, len_of h1 h2, fun i hi => (hf i hi).2.1, fun i hi => (hf i hi).2.2.1, fun i hi => (hf i hi).2.2.2.1, fun i hi => (hf i hi).2.2.2.2⟩⟩
theorem narrowed_in {h : H} {L : Runs} {C : Chs} {m : Nat} {p q wh : Int} (hm : m ≤ h.next) (hI : L.In m h) (hC : C.Ok m h) (hw : 0 ≤ wh ∧ wh < 256) : AW Tryz.prog 4 h.next h [.slice L.b L.n L.c, .int .i64 p, .int .i64 q, .slice C.b C.n C.c, .int .u8 wh] (fun v _ => v = .bool true) :=
  narrowed_law hm hI.ok hI.sl hC hw
end AE.SpanIn
