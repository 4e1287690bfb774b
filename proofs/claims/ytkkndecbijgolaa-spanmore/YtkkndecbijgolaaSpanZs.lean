/- Walks of the laws of spans: the examples. -/
import Derived.Test.YtkkndecbijgolaaSpanZr
set_option linter.unusedVariables false
set_option linter.unusedSimpArgs false
set_option linter.unusedSectionVars false
namespace AE.Try
open Go AE Go.Proofs AE.Sp
set_option maxRecDepth 100000
set_option linter.unusedVariables false

def exRow : List Value := [.int .i64 1, .int .i64 1, .int .i64 10, .int .i64 12, .int .i64 1, .int .i64 2, .int .i64 14, .int .i64 15]
/-- The runs of the examples, where they lie. -/
def exRuns (r n : Nat) : Runs := ⟨n, exF, some ⟨r, 0, none⟩, ⟨r, 0, none⟩, 2⟩
theorem exRuns_ok {r n m : Nat} {h : H} (hn : n ≤ 2) (hg : h.get r = some (.cells exRow 56)) (hr : r < m) : (exRuns r n).Ok m h := by
  refine ⟨fun _ => rfl, fun i hi => ?_, fun _ => hr, by show n ≤ _; omega⟩
  have hi : i < n := hi
  match i, hi with
  | 0, _ => exact loadN_cells hg rfl
  | 1, _ => exact loadN_cells hg rfl
  | i + 2, h => omega
theorem exRuns_sl {r n m : Nat} {h : H} (h0 : 0 < n) (hn : n ≤ 2) (hr : r < m) : SlC (exRuns r n).b (exRuns r n).a (exRuns r n).n (exRuns r n).c m h :=
  ⟨fun _ => ⟨rfl, rfl, hn, by show 2 < far; unfold far; omega, hr⟩, fun h => absurd h (by show n ≠ 0; omega)⟩
theorem runs_l {h : H} : AW Try.prog 34 h.next h [] (fun v h' => ∃ r, (h.next ≤ r ∧ r < h'.next) ∧ v = .slice (some ⟨r, 0, none⟩) 2 2 ∧ h'.get r = some (.cells exRow 56)) := by
  refine fun34.call rfl (Nat.le_refl _) ?_
  unfold a34
  (focus ((try with_reducible apply wpC.to); (repeat' ((conv => whnf); first | refine byEv ?_ | fail)); all_goals ((conv => whnf); try with_reducible apply At.mk)))
  (refine byFin ?_)
  exact ⟨_, ⟨by omega, byOm⟩, rfl, by unfold exRow; (exact byGet)⟩

/-- The choices of the examples, where they lie. -/
def exChs (r r0 r1 n : Nat) : Chs := ⟨n, fun _ => 1, fun i => if i = 0 then 0 else 3, fun _ => 2, fun i k => if i = 0 then (if k = 0 then 5 else 8) else if k = 0 then 16 else 20, fun i k => if i = 0 then (if k = 0 then 6 else 9) else if k = 0 then 16 else 20,
  some ⟨r, 0, none⟩, ⟨r, 0, none⟩, 2, fun i => some ⟨if i = 0 then r0 else r1, 0, none⟩, fun i => ⟨if i = 0 then r0 else r1, 0, none⟩, fun _ => 2⟩
theorem exChs_ex {r r0 r1 n : Nat} (hn : n ≤ 2) : ExC (exChs r r0 r1 n) := ⟨hn, fun _ => rfl, fun _ => rfl, fun _ => rfl, fun _ _ => rfl, fun _ _ => rfl⟩
theorem exChs_ok {r r0 r1 n m : Nat} {h : H} (hn : n ≤ 2) (hg : h.get r = some (.cells [.int .i64 1, .int .i64 0, .slice (some ⟨r0, 0, none⟩) 2 2, .int .i64 1, .int .i64 3, .slice (some ⟨r1, 0, none⟩) 2 2] 111))
    (h0 : h.get r0 = some (.cells [.int .i64 5, .int .i64 6, .int .i64 8, .int .i64 9] 54)) (h1 : h.get r1 = some (.cells [.int .i64 16, .int .i64 16, .int .i64 20, .int .i64 20] 54)) (hr : r < m) (hr0 : r0 < m) (hr1 : r1 < m) : (exChs r r0 r1 n).Ok m h := by
  refine ⟨fun _ => rfl, fun i hi => ?_, fun _ => hr, by show n ≤ _; omega, fun _ _ _ => rfl, fun i hi k hk => ?_, fun i _ _ => ?_, fun i _ => by show 2 ≤ _; omega⟩
  · have hi : i < n := hi
    match i, hi with
    | 0, _ => exact loadN_cells hg rfl
    | 1, _ => exact loadN_cells hg rfl
    | i + 2, h => omega
  · have hi : i < n := hi
    have hk : k < 2 := hk
    match i, hi, k, hk with
    | 0, _, 0, _ => exact loadN_cells h0 rfl
    | 0, _, 1, _ => exact loadN_cells h0 rfl
    | 1, _, 0, _ => exact loadN_cells h1 rfl
    | 1, _, 1, _ => exact loadN_cells h1 rfl
    | i + 2, h, _, _ => omega
    | _, _, k + 2, h => omega
  · show (if i = 0 then r0 else r1) < m
    split <;> assumption
theorem choices_l {h : H} : AW Try.prog 36 h.next h [] (fun v h' => ∃ r r0 r1, ((h.next ≤ r ∧ r < h'.next) ∧ (h.next ≤ r0 ∧ r0 < h'.next) ∧ h.next ≤ r1 ∧ r1 < h'.next) ∧ v = .slice (some ⟨r, 0, none⟩) 2 2 ∧ h'.get r = some (.cells [.int .i64 1, .int .i64 0, .slice (some ⟨r0, 0, none⟩) 2 2, .int .i64 1, .int .i64 3, .slice (some ⟨r1, 0, none⟩) 2 2] 111) ∧
    h'.get r0 = some (.cells [.int .i64 5, .int .i64 6, .int .i64 8, .int .i64 9] 54) ∧ h'.get r1 = some (.cells [.int .i64 16, .int .i64 16, .int .i64 20, .int .i64 20] 54)) := by
  refine fun36.call rfl (Nat.le_refl _) ?_
  unfold a36
  (focus ((try with_reducible apply wpC.to); (repeat' ((conv => whnf); first | refine byEv ?_ | fail)); all_goals ((conv => whnf); try with_reducible apply At.mk)))
  (refine byFin ?_)
  exact ⟨h.next + 9, h.next + 3, h.next + 7, ⟨⟨by omega, byOm⟩, ⟨by omega, byOm⟩, by omega, byOm⟩, rfl, byGet, byGet, byGet⟩

/-- What is named stays, wherever it lies. -/
theorem PSs.Ok.keep {P : PSs} {m : Nat} {h h' : H} (k : P.Ok m h) (e : ∀ r, r = P.a.block → 0 < P.n → h'.get r = h.get r) : P.Ok m h' :=
  ⟨k.e, fun i hi => by
    have := k.i i hi
    unfold H.loadN at this ⊢
    have h2 := e P.a.block rfl (by omega)
    show (h'.get P.a.block).bind _ = _
    rw [h2]
    exact this, k.r, k.l⟩

end AE.Try
