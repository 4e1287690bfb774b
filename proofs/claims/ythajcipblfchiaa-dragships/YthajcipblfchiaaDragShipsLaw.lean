/- DragShips answers true whatever the input is, and its arguments read as they did: no condition. -/
import Derived.Test.YthajcipblfchiaaRows
import Derived.Test.YthajcipblfchiaaAELaw
import Derived.Test.YthajcipblfchiaaDragO
import Derived.Test.YthajcipblfchiaaAEFlat
import Derived.WalkKit
import Derived.ProofKit
import Derived.OpenShut
import Derived.ShutString
import Derived.ChangeOld
import Derived.Below
import Derived.Lib.SmallJoins
set_option linter.unusedVariables false
set_option linter.unusedSimpArgs false
set_option linter.unusedSectionVars false
namespace Go.Proofs.Ythajcipblfchiaa.dragShips
open Go.ChangeShapes Go.WideShapes Go.ChangeAt Go.RowKit Go.Joins AE AE.Drag

set_option maxRecDepth 100000

theorem own : ownKnob Try.prog.godebug = none := by kernel_rfl
theorem laidOut : laidOutB Try.prog = true := by kernel_rfl

theorem cell_in {W : World} {base : Nat} {c0 : Value} (hv : Cell.okWide Try.prog W .any base 22 c0) : ∀ a len cap, c0 = .slice (some a) len cap → a.block < W.heap.size ∧ a.spot = none := by
  rintro a len cap rfl
  simp only [Cell.okWide, Try.underlying22, Cell.ok, World.has] at hv
  obtain ⟨-, -, -, hs, row, cells, hsh, -⟩ := hv
  refine ⟨?_, hs⟩
  unfold World.shape? at hsh
  cases hh : W.heap[a.block]? with
  | none => rw [hh] at hsh; simp at hsh
  | some o => exact (Array.getElem?_eq_some_iff.1 hh).1

/-- A friction line that came in. -/
theorem line_in {H : Type} {enc : TypeId × Value → H} {W : World} {base : Nat} {v : Value} {d : DataW H} {p : List MemPlace} {I : Inj} {h : AE.H} (k : Rel I h W) (hb : I.base = W.heap.size) (hok : Value.okWide Try.prog W .any base 24 v) (ht : DataW.Trod enc Try.prog W 0 (fun _ => true) true 24 v d p) :
    ∃ (L : Line) (h' : AE.H) (I' : Inj), Le I I' ∧ I'.base = I.base ∧ Rel I' h' W ∧ Same h.next h h' ∧ h.next ≤ h'.next ∧ L.Ok h'.next h' ∧ In I' (.agg ⟨L.cells⟩) ∧ ren I' (.agg ⟨L.cells⟩) = v := by
  have hrow := hok
  obtain ⟨c0, c1, y0, y1, fl, rfl, -, -, t0, t1⟩ := open_agg2 Try.underlying24 (by kernel_rfl) (by kernel_rfl) hok ht
  unfold Value.okWide at hrow
  rw [Try.underlying24] at hrow
  obtain ⟨cs, e, -, ts, hts, -, hall⟩ := hrow
  simp only [Value.agg.injEq] at e
  subst e
  have hts' : Try.prog.cellTypes Try.prog.depth 24 = some [22, 22] := by kernel_rfl
  rw [hts'] at hts
  simp only [Option.some.injEq] at hts
  subst hts
  obtain ⟨u0, e0, k0⟩ := hall 0 c0 rfl
  obtain ⟨u1, e1, k1⟩ := hall 1 c1 rfl
  have e0 : (22 : Nat) = u0 := by simpa using e0
  have e1 : (22 : Nat) = u1 := by simpa using e1
  subst e0 e1
  obtain ⟨h1, I1, b0, a0, n0, q0, f0, S0⟩ := slice_in k hb Try.underlying22 Try.underlying2 (by kernel_rfl) t0 (cell_in k0)
  obtain ⟨h2, I2, b1, a1, n1, q1, f1, S1⟩ := slice_in S0.rel (S0.base.trans hb) Try.underlying22 Try.underlying2 (by kernel_rfl) t1 (cell_in k1)
  refine ⟨⟨n0, f0, n1, f1, b0, a0, q0, b1, a1, q1⟩, h2, I2, S0.le.trans S1.le, S1.base.trans S0.base, S1.rel, (S0.same).trans (S1.same.mono S0.next), Nat.le_trans S0.next S1.next, ⟨S0.e, S0.ints.same S1.same S0.r, fun h => Nat.lt_of_lt_of_le (S0.r h) S1.next, S1.e, S1.ints, S1.r, S0.l, S1.l⟩, ?_, ?_⟩
  · simp only [Line.cells, In, InL, and_true]
    exact ⟨(S1.le.ren _ S0.inn).2, S1.inn⟩
  · simp only [Line.cells, ren_agg, renL]
    rw [(S1.le.ren _ S0.inn).1, S0.ren, S1.ren]

theorem test_in {W : World} {base : Nat} {v : Value} (hok : Value.okWide Try.prog W .any base 35 v) : ∃ t : T, v = .agg ⟨t.cells⟩ := by
  obtain ⟨k, rfl, l⟩ := flat_in (n := 16) (u := 2) Try.underlying35 (by kernel_rfl) (by kernel_rfl) Try.underlying2 hok
  match k, l with
  | [a, b, c, d, e, f, g, h, i, j, k, l, m, n, o, p], _ => exact ⟨⟨a, b, c, d, e, f, g, h, i, j, k, l, m, n, o, p⟩, rfl⟩
theorem true_in {W : World} {base : Nat} {v : Value} (hok : Value.okWide Try.prog W .any base 37 v) : ∃ x : X, v = .agg ⟨x.cells⟩ := by
  obtain ⟨k, rfl, l⟩ := flat_in (n := 6) (u := 2) Try.underlying37 (by kernel_rfl) (by kernel_rfl) Try.underlying2 hok
  match k, l with
  | [a, b, c, d, e, f], _ => exact ⟨⟨a, b, c, d, e, f⟩, rfl⟩
theorem test_ren (I : Inj) (t : T) : ren I (.agg ⟨t.cells⟩) = .agg ⟨t.cells⟩ := by simp only [T.cells, ren_agg, renL, ren]
theorem true_ren (I : Inj) (t : X) : ren I (.agg ⟨t.cells⟩) = .agg ⟨t.cells⟩ := by simp only [X.cells, ren_agg, renL, ren]

theorem walk (hw : ∀ {h : AE.H} {t : T} {L : Line} {x : X} {m : Nat}, m ≤ h.next → AE.Drag.Known t → L.Ok m h → AE.Drag.Known x → AW Try.prog 4 h.next h [.agg ⟨t.cells⟩, .agg ⟨L.cells⟩, .agg ⟨x.cells⟩] (fun v _ => v = .bool true))
    {H : Type} {enc : TypeId × Value → H} {W : World} {base : Nat} {v0 v v2 : Value} {d : DataW H} {p : List MemPlace} (hok0 : Value.okWide Try.prog W .any base 35 v0) (hok : Value.okWide Try.prog W .any base 24 v) (ht : DataW.Trod enc Try.prog W 0 (fun _ => true) true 24 v d p) (hok2 : Value.okWide Try.prog W .any base 37 v2) :
    Calls Try.prog 4 #[v0, v, v2] W fun e w' => e = .returned (.bool true) ∧ Below W.heap.size W w' := by
  obtain ⟨L, h', I', -, hb, hrel, -, -, hL, hin, hren⟩ := line_in (rel0 W) rfl hok ht
  obtain ⟨t, rfl⟩ := test_in hok0
  obtain ⟨x, rfl⟩ := true_in hok2
  have hargs : (⟨renL I' [.agg ⟨t.cells⟩, .agg ⟨L.cells⟩, .agg ⟨x.cells⟩]⟩ : Array Value) = #[.agg ⟨t.cells⟩, v, .agg ⟨x.cells⟩] := by
    unfold renL renL renL renL
    rw [hren, test_ren, true_ren]
  rw [← hargs]
  exact (hw (Nat.le_refl _) .mk hL .mk).law hrel hb (by simp only [InL, and_true]; exact ⟨by simp [T.cells, In, InL], hin, by simp [X.cells, In, InL]⟩)

theorem lifted (hw : ∀ {h : AE.H} {t : T} {L : Line} {x : X} {m : Nat}, m ≤ h.next → AE.Drag.Known t → L.Ok m h → AE.Drag.Known x → AW Try.prog 4 h.next h [.agg ⟨t.cells⟩, .agg ⟨L.cells⟩, .agg ⟨x.cells⟩] (fun v _ => v = .bool true)) (os : Os) (started : os.Started) (H : Type) (enc : TypeId × Value → H) :
    ReturnsInHanded {} Try.checked os 4 .any (Rows.dragShipsSpec.pre6 enc Try.prog Try.f4 Rows.dragShipsRow.domain false) (Rows.dragShipsSpec.post enc Try.prog Try.f4 false true false false) := by
  refine returnsInHanded_of_change (C := Try.checked) own started (by kernel_rfl) Try.func4
    (ChangeSpec.witness6 (enc := enc) (C := Try.checked) false ⟨#[], #[.agg #[.int .i64 0, .int .i64 0, .int .i64 0, .int .i64 0, .int .i64 0, .int .i64 0, .int .i64 0, .int .i64 0, .int .i64 0, .int .i64 0, .int .i64 0, .int .i64 0, .int .i64 0, .int .i64 0, .int .i64 0, .int .i64 0], .agg #[.slice none 0 0, .slice none 0 0], .agg #[.int .i64 0, .int .i64 0, .int .i64 0, .int .i64 0, .int .i64 0, .int .i64 0]], []⟩ 8 (by kernel_rfl) (by kernel_rfl) (by kernel_rfl) (by kernel_rfl)) ?_
  intro W base args ds gs before hval0 hW hcnd _
  have hval : ∀ (j : Nat) t v, Try.f4.params[j]? = some t → args[j]? = some v → Value.okWide Try.prog W .any base t v := hval0
  have hW' := hW
  obtain ⟨p, q, hA0, hV, rfl, hfz, hnd⟩ := hW
  have hA : DataW.TrodAll enc Try.prog W 0 (fun _ => true) true Try.f4.params.toList args.toList ds p := hA0
  rw [Try.params4] at hA hval
  obtain ⟨v0, vs0, d0, ds0, p0, q0, hargs, rfl, rfl, h0, r0⟩ := trodAll_cons hA
  obtain ⟨v1, vs1, d1, ds1, p1, q1, rfl, rfl, rfl, h1, r1⟩ := trodAll_cons r0
  obtain ⟨v2, vs2, d2, ds2, p2, q2, rfl, rfl, rfl, h2, r2⟩ := trodAll_cons r1
  obtain ⟨rfl, rfl, rfl⟩ := trodAll_nil r2
  obtain rfl : args = #[v0, v1, v2] := by cases args; simp_all
  obtain ⟨rfl, rfl⟩ := trodVars_none hV
  have k0 := h0
  have k1 := h1
  have k2 := h2
  have lt0 : ∀ x ∈ p0, x.block < W.heap.size := by obtain ⟨m, hm⟩ := k0; exact DataW.trod_lt m _ _ _ hm
  have lt1 : ∀ x ∈ p1, x.block < W.heap.size := by obtain ⟨m, hm⟩ := k1; exact DataW.trod_lt m _ _ _ hm
  have lt2 : ∀ x ∈ p2, x.block < W.heap.size := by obtain ⟨m, hm⟩ := k2; exact DataW.trod_lt m _ _ _ hm
  refine (walk hw (hval 0 35 v0 rfl rfl) (hval 1 24 v1 rfl rfl) h1 (hval 2 37 v2 rfl rfl)).mono fun e W' ⟨he, bel⟩ => ?_
  subst he
  exact ⟨_, rfl, _, _, _, [], _, [], hW', trodAll_mk1 (shut_bool Try.underlying4 _), (trodAll_cons_mk (Below.trod laidOut (by kernel_rfl) (of_decide_eq_true (by kernel_rfl)) k0 bel lt0) (trodAll_cons_mk (Below.trod laidOut (by kernel_rfl) (of_decide_eq_true (by kernel_rfl)) k1 bel lt1) (trodAll_cons_mk (Below.trod laidOut (by kernel_rfl) (of_decide_eq_true (by kernel_rfl)) k2 bel lt2) trodAll_mk0))), rfl, bel.frame _, fun h => by cases h⟩

theorem over (hw : ∀ {h : AE.H} {t : T} {L : Line} {x : X} {m : Nat}, m ≤ h.next → AE.Drag.Known t → L.Ok m h → AE.Drag.Known x → AW Try.prog 4 h.next h [.agg ⟨t.cells⟩, .agg ⟨L.cells⟩, .agg ⟨x.cells⟩] (fun v _ => v = .bool true)) : Rows.dragShipsRow.holds Try.pinned (OpenSpec.ofChange Rows.dragShipsSpec) :=
  OpenClaim.holds_of_wide 4 Try.f4 rfl rfl rfl rfl rfl rfl rfl ⟨rfl, rfl, rfl, rfl, rfl⟩ rfl rfl rfl rfl rfl (by kernel_rfl) Try.func4 (by kernel_rfl)
    (of_decide_eq_true (by kernel_rfl)) (by unfold Func.isWrapper; rw [if_neg (of_decide_eq_false (by kernel_rfl))]; exact ⟨rfl, rfl⟩)
    (fun os started H enc _ => lifted hw os started H enc)

/-- The statement. -/
theorem proved : Rows.DragShipsSaid := over fun hm kt hL kx => AE.Try.dragShips_w hm kt hL kx
#print axioms proved
end Go.Proofs.Ythajcipblfchiaa.dragShips
