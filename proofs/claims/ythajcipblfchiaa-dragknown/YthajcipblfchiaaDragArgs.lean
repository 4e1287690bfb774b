/- What comes in, for the statements about drag: arguments as values of the abstract heap. -/
import Derived.Test.YthajcipblfchiaaRows
import Derived.Test.YthajcipblfchiaaAEthree
import Derived.Test.YthajcipblfchiaaDragSix
import Derived.Test.YthajcipblfchiaaDragSpec2
import Derived.WalkKit
import Derived.ProofKit
import Derived.OpenShut
import Derived.ShutString
import Derived.ChangeOld
import Derived.Below
import Derived.Lib.SmallJoins
set_option linter.unusedVariables false
set_option linter.unusedSimpArgs false
set_option linter.unusedSectionVars false
namespace AE.DragIn
open Go Go.Proofs Go.Proofs.Ythajcipblfchiaa Go.ChangeShapes Go.WideShapes Go.ChangeAt Go.RowKit Go.Joins AE AE.Drag

set_option maxRecDepth 100000

theorem own : ownKnob Try.prog.godebug = none := by kernel_rfl
theorem laidOut : laidOutB Try.prog = true := by kernel_rfl

theorem cell_in {W : World} {base : Nat} {c0 : Value} (hv : Cell.okWide Try.prog W .any base 22 c0) : ∀ a len cap, c0 = .slice (some a) len cap → a.block < W.heap.size ∧ a.spot = none := by
  rintro a len cap rfl
  simp only [Cell.okWide, Try.underlying22, Cell.ok, World.has] at hv
  obtain ⟨-, -, -, hs, row, cells, hsh, -⟩ := hv
  refine ⟨?_, hs⟩
  unfold World.shape? at hsh
  cases hh : W.heap[a.block]? with
  | none => rw [hh] at hsh; simp at hsh
  | some o => exact (Array.getElem?_eq_some_iff.1 hh).1

/-- A friction line that came in. -/
theorem line_in {H : Type} {enc : TypeId × Value → H} {W : World} {base : Nat} {v : Value} {d : DataW H} {p : List MemPlace} {I : Inj} {h : AE.H} (k : Rel I h W) (hb : I.base = W.heap.size) (hok : Value.okWide Try.prog W .any base 24 v) (ht : DataW.Trod enc Try.prog W 0 (fun _ => true) true 24 v d p) :
    ∃ (L : Line) (h' : AE.H) (I' : Inj), Le I I' ∧ I'.base = I.base ∧ Rel I' h' W ∧ Same h.next h h' ∧ h.next ≤ h'.next ∧ L.Ok h'.next h' ∧ In I' (.agg ⟨L.cells⟩) ∧ ren I' (.agg ⟨L.cells⟩) = v := by
  have hrow := hok
  obtain ⟨c0, c1, y0, y1, fl, rfl, -, -, t0, t1⟩ := open_agg2 Try.underlying24 (by kernel_rfl) (by kernel_rfl) hok ht
  unfold Value.okWide at hrow
  rw [Try.underlying24] at hrow
  obtain ⟨cs, e, -, ts, hts, -, hall⟩ := hrow
  simp only [Value.agg.injEq] at e
  subst e
  have hts' : Try.prog.cellTypes Try.prog.depth 24 = some [22, 22] := by kernel_rfl
  rw [hts'] at hts
  simp only [Option.some.injEq] at hts
  subst hts
  obtain ⟨u0, e0, k0⟩ := hall 0 c0 rfl
  obtain ⟨u1, e1, k1⟩ := hall 1 c1 rfl
  have e0 : (22 : Nat) = u0 := by simpa using e0
  have e1 : (22 : Nat) = u1 := by simpa using e1
  subst e0 e1
  obtain ⟨h1, I1, b0, a0, n0, q0, f0, S0⟩ := slice_in k hb Try.underlying22 Try.underlying2 (by kernel_rfl) t0 (cell_in k0)
  obtain ⟨h2, I2, b1, a1, n1, q1, f1, S1⟩ := slice_in S0.rel (S0.base.trans hb) Try.underlying22 Try.underlying2 (by kernel_rfl) t1 (cell_in k1)
  refine ⟨⟨n0, f0, n1, f1, b0, a0, q0, b1, a1, q1⟩, h2, I2, S0.le.trans S1.le, S1.base.trans S0.base, S1.rel, (S0.same).trans (S1.same.mono S0.next), Nat.le_trans S0.next S1.next, ⟨S0.e, S0.ints.same S1.same S0.r, fun h => Nat.lt_of_lt_of_le (S0.r h) S1.next, S1.e, S1.ints, S1.r, S0.l, S1.l⟩, ?_, ?_⟩
  · simp only [Line.cells, In, InL, and_true]
    exact ⟨(S1.le.ren _ S0.inn).2, S1.inn⟩
  · simp only [Line.cells, ren_agg, renL]
    rw [(S1.le.ren _ S0.inn).1, S0.ren, S1.ren]

theorem test_in {W : World} {base : Nat} {v : Value} (hok : Value.okWide Try.prog W .any base 35 v) : ∃ t : T, v = .agg ⟨t.cells⟩ := by
  obtain ⟨k, rfl, l⟩ := flat_in (n := 16) (u := 2) Try.underlying35 (by kernel_rfl) (by kernel_rfl) Try.underlying2 hok
  match k, l with
  | [a, b, c, d, e, f, g, h, i, j, k, l, m, n, o, p], _ => exact ⟨⟨a, b, c, d, e, f, g, h, i, j, k, l, m, n, o, p⟩, rfl⟩
theorem true_in {W : World} {base : Nat} {v : Value} (hok : Value.okWide Try.prog W .any base 37 v) : ∃ x : X, v = .agg ⟨x.cells⟩ := by
  obtain ⟨k, rfl, l⟩ := flat_in (n := 6) (u := 2) Try.underlying37 (by kernel_rfl) (by kernel_rfl) Try.underlying2 hok
  match k, l with
  | [a, b, c, d, e, f], _ => exact ⟨⟨a, b, c, d, e, f⟩, rfl⟩
theorem test_ren (I : Inj) (t : T) : ren I (.agg ⟨t.cells⟩) = .agg ⟨t.cells⟩ := by simp only [T.cells, ren_agg, renL, ren]
theorem true_ren (I : Inj) (t : X) : ren I (.agg ⟨t.cells⟩) = .agg ⟨t.cells⟩ := by simp only [X.cells, ren_agg, renL, ren]


/-- A number of 32 bits. -/
theorem u32_in {W : World} {base : Nat} {v : Value} (hok : Value.okWide Try.prog W .any base 50 v) : ∃ n : Int, v = .int .u32 n ∧ 0 ≤ n ∧ n < 4294967296 := by
  unfold Value.okWide at hok
  rw [Try.underlying50] at hok
  unfold Cell.okWide at hok
  rw [Try.underlying50] at hok
  cases v with
  | int k a =>
    simp only [Cell.ok, Try.underlying50] at hok
    obtain ⟨rfl, h1⟩ := hok
    exact ⟨a, rfl, h1.1, by have := h1.2; unfold IntKind.max at this; simp [IntKind.signed, IntKind.bits] at this; omega⟩
  | _ => simp [Cell.ok, Try.underlying50] at hok
theorem six_in {W : World} {base : Nat} {v : Value} (hok : Value.okWide Try.prog W .any base 51 v) : ∃ s : AE.Try.Six, v = .agg ⟨s.cells⟩ ∧ s.Ok := by
  obtain ⟨k, rfl, l, hk⟩ := flat_arr_in (n := 6) (u := 50) (kd := .u32) Try.underlying51 (by kernel_rfl) (by kernel_rfl) Try.underlying50 hok
  have hb : ∀ x ∈ k, 0 ≤ x ∧ x < 4294967296 := fun x hx => by
    have h1 := hk x hx
    exact ⟨h1.1, by have := h1.2; unfold IntKind.max at this; simp [IntKind.signed, IntKind.bits] at this; omega⟩
  match k, l with
  | [a, b, c, d, e, f], _ => exact ⟨⟨a, b, c, d, e, f⟩, rfl, ⟨hb a (by simp), hb b (by simp), hb c (by simp), hb d (by simp), hb e (by simp), hb f (by simp)⟩⟩
theorem six_ren (I : Inj) (s : AE.Try.Six) : ren I (.agg ⟨s.cells⟩) = .agg ⟨s.cells⟩ := by simp only [AE.Try.Six.cells, ren_agg, renL, ren]
theorem int_ren (I : Inj) (k : IntKind) (n : Int) : ren I (.int k n) = .int k n := by simp only [ren]
end AE.DragIn
