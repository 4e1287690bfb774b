/- Walks and plain laws: TopSl, TopF6. -/
import Derived.Test.YtndkjpkadfpflaaGreatAEthree
import Derived.Test.YtndkjpkadfpflaaGreatTopF5
set_option linter.unusedVariables false
set_option linter.unusedSimpArgs false
set_option linter.unusedSectionVars false

/- Slices that begin as one number, and grow. -/
namespace AE
open Go Go.RowKit
set_option linter.unusedVariables false
/-- n numbers, in row r: one that was written down, or some that grew. -/
def LG (r : Nat) (h : H) (e : TypeId) (n : Nat) (f : Nat → Int) (w : Option Addr) (c : Nat) : Prop := (n = 1 ∧ w = some ⟨r, 0, none⟩ ∧ c = 1 ∧ h.get r = some (.cells [.int .i64 (f 0)] e)) ∨ (0 < n ∧ c = 0 ∧ GAt r h e 1 n (iCells f n) w)
theorem LG.frame {r n c : Nat} {e : TypeId} {h h' : H} {f : Nat → Int} {w : Option Addr} (k : LG r h e n f w c) (hr : h'.get r = h.get r) : LG r h' e n f w c :=
  k.elim (fun ⟨a, b, c, d⟩ => .inl ⟨a, b, c, hr.trans d⟩) fun ⟨h0, hc, G⟩ => .inr ⟨h0, hc, G.frame hr⟩
theorem LG.cap {r n c : Nat} {e : TypeId} {h : H} {f : Nat → Int} {w : Option Addr} (k : LG r h e n f w c) : c < far := by
  rcases k with ⟨-, -, rfl, -⟩ | ⟨-, rfl, -⟩ <;> unfold far <;> omega
theorem LG.ints {r n c : Nat} {e : TypeId} {h : H} {f : Nat → Int} {w : Option Addr} (k : LG r h e n f w c) : ∃ a, w = some a ∧ a.block = r ∧ Ints h a n f := by
  rcases k with ⟨rfl, rfl, rfl, hg⟩ | ⟨h0, rfl, G⟩
  · refine ⟨_, rfl, rfl, fun i hi => ?_⟩
    obtain rfl : i = 0 := by omega
    exact loadN_one (off := 0) (v := .int .i64 (f 0)) hg rfl
  · obtain ⟨a, hv, hb, hld, -⟩ := G.load
    refine ⟨a, hv, hb, fun i hi => hld _ _ _ ?_⟩
    have := cut_rowsOf (g := fun i => [Value.int .i64 (f i)]) (w := 1) (fun _ => rfl) hi [] [] (a := i) (by simp)
    simpa [iCells] using this
theorem LG.load1 {r n c i : Nat} {e : TypeId} {h : H} {f : Nat → Int} {a : Addr} (k : LG r h e n f (some a) c) (hi : i < n) : h.loadN (aadd a (i * 1)) 1 = some [.int .i64 (f i)] := by
  obtain ⟨a', e1, -, j⟩ := k.ints
  cases e1
  rw [Nat.mul_one]
  exact j i hi
section
variable {P : Program} {lo nid : Nat} {ts : Ts} {h : H} {k : Value → H → Prop}
end
end AE

/- Walks of fair: the fairest line. -/
namespace AE.Tryz
open Go AE Go.Proofs AE.Fair
set_option maxRecDepth 100000
set_option linter.unusedVariables false

theorem _root_.AE.LG.congr {r n c : Nat} {e : TypeId} {h : H} {f g : Nat → Int} {w : Option Addr} (k : LG r h e n f w c) (hfg : ∀ i, i < n → f i = g i) : LG r h e n g w c := by
  rcases k with ⟨rfl, hw, hc, hg⟩ | ⟨h0, hc, G⟩
  · exact .inl ⟨rfl, hw, hc, by rw [hg, hfg 0 (by omega)]⟩
  · refine .inr ⟨h0, hc, ?_⟩
    have : iCells f n = iCells g n := by
      unfold iCells
      exact rowsOf_congr n fun i hi => by rw [hfg i hi]
    rw [← this]
    exact G
end AE.Tryz
