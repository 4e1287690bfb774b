/- Walks of span: sides, put together. -/
import Derived.Test.YtkkndecbijgolaaSpanC
set_option linter.unusedVariables false
set_option linter.unusedSimpArgs false
set_option linter.unusedSectionVars false
namespace AE.Try
open Go AE Go.Proofs AE.Sp
set_option maxRecDepth 100000
set_option linter.unusedVariables false

def _root_.AE.Sp.Sd.cells (s : Sd) : List Value := [.int .i64 s.u, .int .i64 s.v, .int .i64 s.w]
def _root_.AE.Sp.Sd.by (s : Sd) (n : Int) : Sd := ⟨s.u * n, s.v * n, s.w * n⟩
def _root_.AE.Sp.Sd.add (a b : Sd) : Sd := ⟨a.u + b.u, a.v + b.v, a.w + b.w⟩
def _root_.AE.Sp.Sd.flat (s : Sd) : Sd := ⟨s.u, s.v, 0⟩
def _root_.AE.Sp.Sd.size (s : Sd) : Int := max s.u (-s.u) + max s.v (-s.v)
def Run.lower (x : Run) : Sd := ⟨x.p, x.q, x.lo⟩
def Run.upper (x : Run) : Sd := ⟨-x.p, -x.q, -x.hi⟩
/-- Numbers up to X. -/
def Up (X x : Int) : Prop := -X ≤ x ∧ x ≤ X
/-- A side whose numbers are up to F, and W. -/
structure _root_.AE.Sp.Sd.Up (F W : Int) (s : Sd) : Prop where
  u : -F ≤ s.u ∧ s.u ≤ F
  v : -F ≤ s.v ∧ s.v ≤ F
  w : -W ≤ s.w ∧ s.w ≤ W
theorem Run.Ok.lower {x : Run} (k : x.Ok) : x.lower.Up 20 100000 := by obtain ⟨a, b, c, d, e, f⟩ := k; exact ⟨a, b, by unfold Run.lower; dsimp only; omega⟩
theorem Run.Ok.upper {x : Run} (k : x.Ok) : x.upper.Up 20 100000 := by obtain ⟨a, b, c, d, e, f⟩ := k; exact ⟨by unfold Run.upper; dsimp only; omega, by unfold Run.upper; dsimp only; omega, by unfold Run.upper; dsimp only; omega⟩

theorem by_w {h : H} {s : Sd} {n F W N : Int} (k : s.Up F W) (hn : -N ≤ n ∧ n ≤ N) (h1 : F * N ≤ 4611686018427387904) (h2 : W * N ≤ 4611686018427387904) : AW Try.prog 60 h.next h [.agg ⟨s.cells⟩, .int .i64 n] (fun v _ => v = .agg ⟨(s.by n).cells⟩) := by
  have b1 := mul_bnd k.u.1 k.u.2 hn.1 hn.2
  have b2 := mul_bnd k.v.1 k.v.2 hn.1 hn.2
  have b3 := mul_bnd k.w.1 k.w.2 hn.1 hn.2
  refine fun60.call rfl (Nat.le_refl _) ?_
  unfold a60 Sd.cells
  (focus ((try with_reducible apply wpC.to); (repeat' ((conv => whnf); first | refine byEv ?_ | refine xSpanC0 ?_ | refine xSpanB0 ?_ | fail)); all_goals (conv => whnf); all_goals (try with_reducible apply At.mk)))
  (refine byFin ?_)
  rfl
theorem flat_w {h : H} {s : Sd} : AW Try.prog 61 h.next h [.agg ⟨s.cells⟩] (fun v _ => v = .agg ⟨s.flat.cells⟩) := by
  refine fun61.call rfl (Nat.le_refl _) ?_
  unfold a61 Sd.cells
  (focus ((try with_reducible apply wpC.to); (repeat' ((conv => whnf); first | refine byEv ?_ | refine xSpanC0 ?_ | refine xSpanB0 ?_ | fail)); all_goals (conv => whnf); all_goals (try with_reducible apply At.mk)))
  (refine byFin ?_)
  rfl
theorem cross_w {h : H} {a b : Sd} {F W F' W' : Int} (k : a.Up F W) (k' : b.Up F' W') (h1 : F * F' ≤ 2305843009213693952) : AW Try.prog 83 h.next h [.agg ⟨a.cells⟩, .agg ⟨b.cells⟩] (fun v _ => v = .int .i64 (cr a b)) := by
  have b1 := mul_bnd k.u.1 k.u.2 k'.v.1 k'.v.2
  have b2 := mul_bnd k.v.1 k.v.2 k'.u.1 k'.u.2
  refine fun83.call rfl (Nat.le_refl _) ?_
  unfold a83 Sd.cells
  (focus ((try with_reducible apply wpC.to); (repeat' ((conv => whnf); first | refine byEv ?_ | refine xSpanC0 ?_ | refine xSpanB0 ?_ | fail)); all_goals (conv => whnf); all_goals (try with_reducible apply At.mk)))
  (refine byFin ?_)
  rfl
theorem size_w {h : H} {s : Sd} {F W : Int} (k : s.Up F W) (h1 : F ≤ 2305843009213693952) : AW Try.prog 91 h.next h [.agg ⟨s.cells⟩] (fun v _ => v = .int .i64 s.size) := by
  have b1 := k.u
  have b2 := k.v
  refine fun91.call rfl (Nat.le_refl _) ?_
  unfold a91 Sd.cells
  (focus ((try with_reducible apply wpC.to); (repeat' ((conv => whnf); first | refine byEv ?_ | refine xSpanC0 ?_ | refine xSpanB0 ?_ | fail)); all_goals (conv => whnf); all_goals (try with_reducible apply At.mk)))
  (refine byFin ?_)
  rfl
theorem pair_w {h : H} {x : Run} (k : x.Ok) : AW Try.prog 58 h.next h [.agg ⟨x.cells⟩] (fun v _ => v = .agg ⟨x.cells ++ x.lower.cells ++ x.upper.cells⟩) := by
  obtain ⟨k1, k2, k3, k4, k5, k6⟩ := k
  refine fun58.call rfl (Nat.le_refl _) ?_
  unfold a58 Run.cells
  (focus ((try with_reducible apply wpC.to); (repeat' ((conv => whnf); first | refine byEv ?_ | refine xSpanC0 ?_ | refine xSpanB1 ?_ | refine xSpanB0 ?_ | fail)); all_goals (conv => whnf); all_goals (try with_reducible apply At.mk)))
  (refine byFin ?_)
  rfl
end AE.Try
