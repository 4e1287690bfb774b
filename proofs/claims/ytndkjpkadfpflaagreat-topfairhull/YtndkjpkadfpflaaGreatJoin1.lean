/- Walks and plain laws: TopSl, TopF6. -/
import Derived.Test.YtndkjpkadfpflaaGreatAEthree
import Derived.Test.YtndkjpkadfpflaaGreatTopF5
set_option linter.unusedVariables false
set_option linter.unusedSimpArgs false
set_option linter.unusedSectionVars false

/- Slices that begin as one number, and grow. -/
namespace AE
open Go Go.RowKit
set_option linter.unusedVariables false
/-- n numbers, in row r: one that was written down, or some that grew. -/
def LG (r : Nat) (h : H) (e : TypeId) (n : Nat) (f : Nat → Int) (w : Option Addr) (c : Nat) : Prop := (n = 1 ∧ w = some ⟨r, 0, none⟩ ∧ c = 1 ∧ h.get r = some (.cells [.int .i64 (f 0)] e)) ∨ (0 < n ∧ c = 0 ∧ GAt r h e 1 n (iCells f n) w)
theorem LG.frame {r n c : Nat} {e : TypeId} {h h' : H} {f : Nat → Int} {w : Option Addr} (k : LG r h e n f w c) (hr : h'.get r = h.get r) : LG r h' e n f w c :=
  k.elim (fun ⟨a, b, c, d⟩ => .inl ⟨a, b, c, hr.trans d⟩) fun ⟨h0, hc, G⟩ => .inr ⟨h0, hc, G.frame hr⟩
theorem LG.cap {r n c : Nat} {e : TypeId} {h : H} {f : Nat → Int} {w : Option Addr} (k : LG r h e n f w c) : c < far := by
  rcases k with ⟨-, -, rfl, -⟩ | ⟨-, rfl, -⟩ <;> unfold far <;> omega
theorem LG.ints {r n c : Nat} {e : TypeId} {h : H} {f : Nat → Int} {w : Option Addr} (k : LG r h e n f w c) : ∃ a, w = some a ∧ a.block = r ∧ Ints h a n f := by
  rcases k with ⟨rfl, rfl, rfl, hg⟩ | ⟨h0, rfl, G⟩
  · refine ⟨_, rfl, rfl, fun i hi => ?_⟩
    obtain rfl : i = 0 := by omega
    exact loadN_one (off := 0) (v := .int .i64 (f 0)) hg rfl
  · obtain ⟨a, hv, hb, hld, -⟩ := G.load
    refine ⟨a, hv, hb, fun i hi => hld _ _ _ ?_⟩
    have := cut_rowsOf (g := fun i => [Value.int .i64 (f i)]) (w := 1) (fun _ => rfl) hi [] [] (a := i) (by simp)
    simpa [iCells] using this
theorem LG.load1 {r n c i : Nat} {e : TypeId} {h : H} {f : Nat → Int} {a : Addr} (k : LG r h e n f (some a) c) (hi : i < n) : h.loadN (aadd a (i * 1)) 1 = some [.int .i64 (f i)] := by
  obtain ⟨a', e1, -, j⟩ := k.ints
  cases e1
  rw [Nat.mul_one]
  exact j i hi
section
variable {P : Program} {lo nid : Nat} {ts : Ts} {h : H} {k : Value → H → Prop}
theorem q_appLG {r n bytes c : Nat} {e : TypeId} {f : Nat → Int} {w : Option Addr} {sx x : Opd} (G : LG r h e n f w c) (hsv : ev ts sx = .slice w n c) (C : Cells h 1 1 (ev ts x) [.int .i64 (f n)]) (hlo : lo ≤ nid) (hlr : lo ≤ r) (hsm : (n + 1 + 1) * (bytes + 1) ≤ 1099511627776)
    (hr : ∀ w' r' h', (r' = r ∨ r' = nid) → (∀ s, s ≠ r' → h'.get s = h.get s) → h'.next = h.next → LG r' h' e (n + 1) f w' 0 → k (.slice w' (n + 1) 0) h') : OpE P lo nid ts h (.append e 1 bytes sx x) k := by
  have ec : iCells f (n + 1) = iCells f n ++ [.int .i64 (f n)] := by unfold iCells; rfl
  rcases G with ⟨rfl, rfl, rfl, hg⟩ | ⟨h0, rfl, G⟩
  · apply q_appF (n := 1) (m := 1) (b := nid) (cs := iCells f 1) (nc := [.int .i64 (f 1)]) (c := 1)
    case hsv => exact hsv
    case G => exact ⟨by simp [iCells_len], .inr ⟨_, rfl, by unfold far; omega, .inl ⟨rfl, rfl⟩, by rw [show iCells f 1 = [.int .i64 (f 0)] by unfold iCells; rfl]; exact loadN_one (off := 0) (v := .int .i64 (f 0)) hg rfl⟩⟩
    case C => exact C
    case hm => omega
    case hb => omega
    case hsm => exact hsm
    intro v' row G'
    obtain ⟨r4, G4, hr4, hr4'⟩ := G'.gat (by omega)
    obtain rfl : r4 = nid := by omega
    exact hr v' r4 _ (.inr rfl) (fun s hs => by simp [H.put, hs]) rfl (.inr ⟨by omega, rfl, by rw [ec]; exact G4⟩)
  · apply q_appA (r := r) (n := n) (m := 1) (cs := iCells f n) (nc := [.int .i64 (f n)])
    case hsv => exact hsv
    case G => exact G
    case C => exact C
    case hm => omega
    case hlo => exact hlr
    case hsm => exact hsm
    intro v' row G5
    exact hr v' r _ (.inl rfl) (fun s hs => by simp [H.put, hs]) rfl (.inr ⟨by omega, rfl, by rw [ec]; exact G5⟩)
end
end AE

/- Walks of fair: the fairest line. -/
namespace AE.Tryz
open Go AE Go.Proofs AE.Fair
set_option maxRecDepth 100000
set_option linter.unusedVariables false

theorem _root_.AE.LG.congr {r n c : Nat} {e : TypeId} {h : H} {f g : Nat → Int} {w : Option Addr} (k : LG r h e n f w c) (hfg : ∀ i, i < n → f i = g i) : LG r h e n g w c := by
  rcases k with ⟨rfl, hw, hc, hg⟩ | ⟨h0, hc, G⟩
  · exact .inl ⟨rfl, hw, hc, by rw [hg, hfg 0 (by omega)]⟩
  · refine .inr ⟨h0, hc, ?_⟩
    have : iCells f n = iCells g n := by
      unfold iCells
      exact rowsOf_congr n fun i hi => by rw [hfg i hi]
    rw [← this]
    exact G
theorem zeros_eq (n : Nat) : reps (List.replicate 75 (Value.int .i64 0)) n = iCells (fun _ => 0) (n * 75) := by
  have h1 : ∀ m, iCells (fun _ => 0) m = List.replicate m (Value.int .i64 0) := fun m => by
    unfold iCells
    induction m with
    | zero => rfl
    | succ m ih => rw [rowsOf, ih, List.replicate_succ']
  rw [h1, reps_rows]
  induction n with
  | zero => rfl
  | succ n ih => rw [rowsOf, ih, List.replicate_append_replicate, Nat.succ_mul]
theorem newDrawer_w {h : H} {S : Spots} {m : Nat} (hm : m ≤ h.next) (hS : S.r.Ok m h) (fit : S.Fit) : AW Tryz.prog 39 h.next h [.agg ⟨S.cells⟩, .int .i64 1, .int .i64 S.t] (fun v h' => ∃ d l, v = .pointer (some ⟨d, 0, none⟩) ∧ h.next ≤ l ∧ l < h'.next ∧ h.next ≤ d ∧ d < h'.next ∧ d ≠ l ∧ Drawn h' m d l S (fun _ => 0)) := by
  have n1 := fit.good.n1
  have n2 := fit.good.n2
  refine fun39.call rfl (Nat.le_refl _) ?_
  unfold a39 Spots.cells
  (focus ((try with_reducible apply wpC.to); (repeat' ((conv => whnf); first | refine byEv ?_ | refine xTopF20 ?_ | fail)); all_goals ((conv => whnf); try with_reducible apply At.mk)))
  refine q_mkslice (z := List.replicate 75 (Value.int .i64 0)) (a := S.r.n) (b := S.r.n) (k1 := .i64) (k2 := .i64) rfl rfl (Nat.le_refl _) (by omega) ?_
  rw [zeros_eq]
  (focus ((try with_reducible apply wpC.to); (repeat' ((conv => whnf); first | refine byEv ?_ | refine xTopF20 ?_ | fail)); all_goals ((conv => whnf); try with_reducible apply At.mk)))
  (refine byFin ?_)
  refine ⟨h.next + 10, h.next + 8, rfl, byOm, byOm, byOm, byOm, by omega, fit, hS.same bySame (Nat.le_refl _), by unfold drow; (exact byGet), byGet, byOm, byOm, fun k hk => by omega⟩
end AE.Tryz
