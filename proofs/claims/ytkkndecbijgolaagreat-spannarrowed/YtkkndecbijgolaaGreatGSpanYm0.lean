/- Plain laws of span: with one run more, or a narrower one. -/
import Derived.Test.YtkkndecbijgolaaGreatJoin7
set_option linter.unusedVariables false
set_option linter.unusedSimpArgs false
set_option linter.unusedSectionVars false
namespace AE.Tryz
open Go AE Go.Proofs AE.Sp
set_option maxRecDepth 100000
set_option linter.unusedVariables false

/-- What allows less has no smaller least value. -/
theorem LvOk.mono {L Y : Runs} {p q N D N' D' : Int} (k : LvOk L p q N D) (k' : LvOk Y p q N' D') (h : ∀ t : Tru, 0 < t.d → Y.Fits t → L.Fits t) : ¬ flt (Y.lval p q) (L.lval p q) := by
  obtain ⟨t, h1, h2, h3⟩ := k'.k.at'
  have h4 := k.k.le t (h t h3 h1) h3
  have d := k.d.1
  have d' := k'.d.1
  rw [k.e, k'.e, flt_fr d' d]
  refine Int.not_lt.2 (le_of_mul h3 ?_)
  have m := Int.mul_le_mul_of_nonneg_right h4 (show 0 ≤ D' by omega)
  have e1 : N * D' * t.d = N * t.d * D' := by ac_rfl
  have e2 : N' * D * t.d = N' * t.d * D := by ac_rfl
  have e3 : (p * t.a + q * t.b) * D * D' = (p * t.a + q * t.b) * D' * D := by ac_rfl
  rw [e1, e2, ← h2, ← e3]
  exact m
/-- A narrower run. -/
def Run.lo' (x : Run) (a : Int) : Run := ⟨x.p, x.q, min x.hi (x.lo + a), x.hi⟩
section
variable {L : Runs} {k : Nat} {a b : Int} {v : Option Addr} {y : Addr}
end
/-! ### a run more -/
section
variable {L : Runs} {x : Run} {v : Option Addr} {a : Addr}
def Runs.more (L : Runs) (x : Run) (v : Option Addr) (a : Addr) : Runs := ⟨L.n + 1, (L.plus x).f, v, a, 0⟩
theorem more_ok {b N : Nat} {h : H} (G : Grown b N h 45 4 (L.n + 1) (rowsOf (fun i => (L.f i).cells) L.n ++ x.cells) v) (hn : L.n ≤ 1000) : ∃ a, (L.more x v a).Ok N h ∧ b ≤ a.block ∧ a.block < N := by
  have hrows : rowsOf (fun i => (L.f i).cells) L.n ++ x.cells = rowsOf (fun j => ((L.plus x).f j).cells) (L.n + 1) := by
    show _ = rowsOf _ L.n ++ _
    congr 1
    · exact rowsOf_congr _ fun j hj => by unfold Runs.plus; dsimp only; rw [if_pos hj]
    · unfold Runs.plus; dsimp only; rw [if_neg (Nat.lt_irrefl _)]
  rw [hrows] at G
  obtain ⟨a, g1, g2, g3⟩ := G.els (fun _ => rfl)
  have g1 := g1 (by omega)
  have g3 := g3 (by omega)
  exact ⟨a, ⟨fun _ => g1, g2, fun _ => g3.2, by show L.n + 1 ≤ _; omega⟩, g3⟩
end
theorem callF_gen {P : Program} {g lo : Nat} {q : Bool} {h : H} {fv : Value} {args xs : List Value} {k : Value → H → Prop} (f : ∀ hc, hc = h → CallF P g lo q hc fv args xs k) : CallF P g lo q h fv args xs k := f h rfl
end AE.Tryz
