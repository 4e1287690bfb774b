/- Comparisons of sides, fractions and truths. -/
import Derived.Test.YtkkndecbijgolaaSpanF
import Derived.Test.YtkkndecbijgolaaAEthree
set_option linter.unusedVariables false
set_option linter.unusedSimpArgs false
set_option linter.unusedSectionVars false
namespace AE.Try
open Go AE Go.Proofs AE.Sp
set_option maxRecDepth 100000
set_option linter.unusedVariables false

theorem PartOf.one {P : Program} {e : TypeId} {cs : List Value} {off : Nat} {v : Value} (h1 : isAggT P e = some false) (h2 : cs[off]? = some v) : PartOf P e false cs off [v] := ⟨h1, by rw [if_neg (by simp)]; exact ⟨v, h2, rfl⟩⟩
theorem PartOf.agg {P : Program} {e : TypeId} {s : Nat} {cs x : List Value} {off : Nat} (h1 : isAggT P e = some true) (h2 : sizeT P e = some s) (h3 : cut cs off s = some x) : PartOf P e true cs off x := ⟨h1, by rw [if_pos rfl]; exact ⟨s, h2, h3⟩⟩
theorem fr_eqc (x y : Fr) : EqC Try.prog 2 38 true x.cells y.cells (x.n == y.n && (x.d == y.d && true)) := by
  refine EqC.struct (fs := ?fs) ?ht ?hs ?h
  case ht => exact Try.underlying38
  case hs => kernel_rfl
  refine EqFs.cons (agg := false) (x := [.int .i64 x.n]) (y := [.int .i64 y.n]) (by decide) (PartOf.one rfl rfl) (PartOf.one rfl rfl) (EqC.int rfl) ?_
  exact EqFs.cons (agg := false) (x := [.int .i64 x.d]) (y := [.int .i64 y.d]) (by decide) (PartOf.one rfl rfl) (PartOf.one rfl rfl) (EqC.int rfl) EqFs.nil
def sdc (s : Sd) (i : Nat) : Int := match i with | 0 => s.u | 1 => s.v | _ => s.w
theorem sd_eqc (x y : Sd) : EqC Try.prog 2 80 true x.cells y.cells (allB (fun i => sdc x i == sdc y i) 3) := by
  have part : ∀ (z : Sd) (i : Nat), i < 3 → PartOf Try.prog 2 false z.cells (i * 1) [.int .i64 (sdc z i)] := fun z i hi => by
    obtain rfl | rfl | rfl : i = 0 ∨ i = 1 ∨ i = 2 := by omega
    · exact PartOf.one rfl rfl
    · exact PartOf.one rfl rfl
    · exact PartOf.one rfl rfl
  refine EqC.arr (e := 2) (s := 1) (agg := false) (x := fun i => [.int .i64 (sdc x i)]) (y := fun i => [.int .i64 (sdc y i)]) ?ht ?hs (part x) (part y) (fun i hi => EqC.int rfl)
  case ht => exact Try.underlying80
  case hs => kernel_rfl
theorem eql_fr (x y : Fr) : pureRun Try.prog (Op.equalIn Op.maxDepth 38 (.agg ⟨x.cells⟩) (.agg ⟨y.cells⟩)) = some (decide (x = y)) := by
  have := (fr_eqc x y).run 2 Op.maxDepth (by decide)
  rw [show (.agg ⟨x.cells⟩ : Value) = asVal true x.cells from rfl, show (.agg ⟨y.cells⟩ : Value) = asVal true y.cells from rfl, this]
  congr 1
  rw [Bool.eq_iff_iff]
  simp only [Bool.and_eq_true, beq_iff_eq, and_true, decide_eq_true_eq]
  exact ⟨fun h => Fr.ext' h.1 h.2, fun h => h ▸ ⟨rfl, rfl⟩⟩
theorem eql_sd (x y : Sd) : pureRun Try.prog (Op.equalIn Op.maxDepth 80 (.agg ⟨x.cells⟩) (.agg ⟨y.cells⟩)) = some (decide (x.u = y.u ∧ x.v = y.v ∧ x.w = y.w)) := by
  have := (sd_eqc x y).run 2 Op.maxDepth (by decide)
  rw [show (.agg ⟨x.cells⟩ : Value) = asVal true x.cells from rfl, show (.agg ⟨y.cells⟩ : Value) = asVal true y.cells from rfl, this]
  congr 1
  rw [Bool.eq_iff_iff]
  simp [allB, List.range_succ, sdc]
end AE.Try
