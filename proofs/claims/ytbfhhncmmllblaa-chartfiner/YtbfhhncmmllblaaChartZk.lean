/- Slices cut out of slices that come in, and laid together again. -/
import Derived.Test.YtbfhhncmmllblaaChartZj
import Derived.Test.YtbfhhncmmllblaaChartR
set_option linter.unusedVariables false
set_option linter.unusedSimpArgs false
set_option linter.unusedSectionVars false
namespace AE.Try
open Go AE Go.Proofs
set_option maxRecDepth 100000
set_option linter.unusedVariables false

/-! ### rows of any elements, that grow -/

def KG (e : TypeId) (sz r : Nat) (h : H) (n : Nat) (F : Nat → List Value) (v : Option Addr) : Prop := (n = 0 ∧ v = none) ∨ (0 < n ∧ GAt r h e sz n (rowsOf F n) v)
theorem KG.zero {e : TypeId} {sz r : Nat} {h : H} {F : Nat → List Value} : KG e sz r h 0 F none := .inl ⟨rfl, rfl⟩
theorem KG.frame {e : TypeId} {sz r n : Nat} {h h' : H} {F : Nat → List Value} {v : Option Addr} (k : KG e sz r h n F v) (hs : 0 < n → h'.get r = h.get r) : KG e sz r h' n F v :=
  k.imp id fun ⟨h0, G⟩ => ⟨h0, G.frame (hs h0)⟩
theorem q_appK {P : Program} {lo nid : Nat} {ts : Ts} {h : H} {k : Value → H → Prop} {e : TypeId} {sz r n bytes : Nat} {F : Nat → List Value} {v : Option Addr} {sx x : Opd} (G : KG e sz r h n F v) (hsv : ev ts sx = .slice v n 0) (C : Cells h sz 1 (ev ts x) (F n)) (hlo : lo ≤ nid) (hlr : 0 < n → lo ≤ r ∧ r < nid) (hsm : (n + 2) * (bytes + 1) ≤ 1099511627776)
    (hr : ∀ v' r' row, (n = 0 → r' = nid) → (0 < n → r' = r) → r' < nid + 1 → KG e sz r' (h.put r' row) (n + 1) F v' → k (.slice v' (n + 1) 0) (h.put r' row)) : OpE P lo nid ts h (.append e sz bytes sx x) k := by
  rcases G with ⟨rfl, rfl⟩ | ⟨h0, G⟩
  · apply q_appG (b := nid) (N := nid) (n := 0) (m := 1) (cs := []) (nc := F 0)
    case hsv => exact hsv
    case G => exact Grown.nil
    case C => exact C
    case hm => omega
    case hlo => omega
    case hb => omega
    case hN => omega
    case hsm => omega
    intro v' j row hj1 hj2 hj3 G'
    obtain ⟨r4, G4, hr4, hr4'⟩ := G'.gat (by omega)
    have hje : j = nid := by omega
    subst hje
    obtain rfl : r4 = j := by omega
    exact hr v' r4 row (fun _ => rfl) (fun h => absurd h (Nat.lt_irrefl 0)) (by omega) (.inr ⟨by omega, G4⟩)
  · apply q_appA (r := r) (n := n) (m := 1) (cs := rowsOf F n) (nc := F n)
    case hsv => exact hsv
    case G => exact G
    case C => exact C
    case hm => omega
    case hlo => exact (hlr h0).1
    case hsm => omega
    intro v' row G5
    exact hr v' r row (fun h => by omega) (fun _ => rfl) (by have := hlr h0; omega) (.inr ⟨by omega, G5⟩)
theorem KG.els {e : TypeId} {sz r n : Nat} {h : H} {F : Nat → List Value} {v : Option Addr} (k : KG e sz r h n F v) (h0 : 0 < n) (hF : ∀ i, (F i).length = sz) : ∃ a, v = some a ∧ a.block = r ∧ Els h a n sz F := by
  rcases k with ⟨h1, -⟩ | ⟨-, G⟩
  · omega
  · obtain ⟨a, hv, hb, hld, -⟩ := G.load
    refine ⟨a, hv, hb, fun i hi => hld _ _ _ ?_⟩
    have := cut_rowsOf (g := F) (w := sz) hF hi [] [] (a := i * sz) (by simp)
    simpa using this

/-! ### slices cut -/

/-- A slice whose end is known, or that grew. -/
def SlOk (a : Addr) (n c : Nat) : Prop := (a.spot = none ∧ n ≤ c ∧ c < far) ∨ ((∃ g, a.spot = some g) ∧ c = 0)
theorem q_to {P : Program} {lo nid : Nat} {ts : Ts} {h : H} {k : Value → H → Prop} {sz n c l : Nat} {x hi : Opd} {a : Addr} {k1 : IntKind} (hx : ev ts x = .slice (some a) n c) (hh : ev ts hi = .int k1 (l : Int)) (hs : SlOk a n c) (h1 : l ≤ n)
    (hr : ∀ c', c' < far → k (.slice (some a) l c') h) : OpE P lo nid ts h (.slsl sz x none (some hi) none) k := by
  have n1 : natOf? (ev ts hi) = some l := by rw [hh]; simp [natOf?]
  rcases hs with ⟨hs, h2, hf⟩ | ⟨⟨g, hs⟩, rfl⟩
  · refine OpE.mk (v := .slice (some a) l c) ?_ (hr c hf)
    have ha : slAddr a 0 c sz = a := by unfold slAddr aadd; split <;> simp
    simp [aop, slsl, hx, hs, slKnown, evO, optNat, n1, enc1, keep, Nat.not_le.2 hf, ha]
    omega
  · refine OpE.mk (v := .slice (some a) l 0) ?_ (hr 0 (by unfold far; omega))
    have hf : ¬ far ≤ 0 := by unfold far; omega
    simp [aop, slsl, hx, hs, slGrow, slOpen, evO, optNat, n1, keep, hf, aadd]
    refine ⟨⟨h1, by omega⟩, ?_⟩
    rw [← hs]
theorem q_fr {P : Program} {lo nid : Nat} {ts : Ts} {h : H} {k : Value → H → Prop} {sz n c l : Nat} {x lo' : Opd} {a : Addr} {k1 : IntKind} (hx : ev ts x = .slice (some a) n c) (hh : ev ts lo' = .int k1 (l : Int)) (hs : SlOk a n c) (h1 : l < n) (hn : n < 1000000)
    (hr : ∀ c', c' < far → k (.slice (some (aadd a (l * sz))) (n - l) c') h) : OpE P lo nid ts h (.slsl sz x (some lo') none none) k := by
  have n1 : natOf? (ev ts lo') = some l := by rw [hh]; simp [natOf?]
  rcases hs with ⟨hs, h2, hf⟩ | ⟨⟨g, hs⟩, rfl⟩
  · refine OpE.mk (v := .slice (some (aadd a (l * sz))) (n - l) (c - l)) ?_ (hr (c - l) (by omega))
    have ha : slAddr a l c sz = aadd a (l * sz) := by unfold slAddr; rw [if_neg (by omega)]
    have hf2 : c - l < far := by omega
    simp [aop, slsl, hx, hs, slKnown, evO, optNat, n1, enc1, keep, Nat.not_le.2 hf, ha, hf2]
    omega
  · refine OpE.mk (v := .slice (some (aadd a (l * sz))) (n - l) (2 * l)) ?_ (hr (2 * l) (by unfold far; omega))
    have hf : ¬ far ≤ 0 := by unfold far; omega
    have hf2 : 2 * l < far := by unfold far; omega
    simp [aop, slsl, hx, hs, slGrow, slOpen, evO, optNat, n1, keep, hf, hf2]
    omega
theorem Vals.all {h : H} {a : Addr} {n : Nat} {g : Nat → Value} (hi : Vals h a n g) (l : Nat) : ∀ k, 0 < k → l + k ≤ n → h.loadN (aadd a (l * 1)) k = some ((List.range k).map fun j => g (l + j))
  | 0, hk, _ => by omega
  | 1, _, hn => by
    have := hi l (by omega)
    simpa using this
  | k + 2, _, hn => by
    have ih := Vals.all hi l (k + 1) (by omega) (by omega)
    have hs := hi (l + (k + 1)) (by omega)
    unfold H.loadN at *
    cases hrow : h.get a.block with
    | none => simp only [aadd, hrow] at ih; simp at ih
    | some row =>
      simp only [aadd, hrow, Option.bind_some, Nat.mul_one] at ih hs ⊢
      rw [show a.off + (l + (k + 1)) = a.off + l + (k + 1) by omega] at hs
      rw [AE.loadRow_succ ih hs]
      simp [List.range_succ]
theorem cells_part {h : H} {a : Addr} {n l k c : Nat} {g : Nat → Value} (hi : Vals h a n g) (h0 : 0 < k) (hk : l + k ≤ n) (hc : c < far) (ho : ∀ j, j < n → (g j).oneCell' = true) : Cells h 1 k (.slice (some (aadd a (l * 1))) k c) ((List.range k).map fun j => g (l + j)) := by
  refine ⟨rfl, fun _ => ?_, by simp, ?_⟩
  · simp only [acells]
    rw [if_neg (by omega), Nat.mul_one k]
    exact Vals.all hi l k h0 hk
  · simp only [List.all_eq_true, List.mem_map, List.mem_range]
    rintro _ ⟨j, hj, rfl⟩
    exact ho _ (by omega)

/-! ### one laid in between -/

def insA {α : Type} (i : Nat) (x : α) (f : Nat → α) (j : Nat) : α := if j < i then f j else if j = i then x else f (j - 1)
theorem rowsOf_ones (g : Nat → Value) : ∀ n, rowsOf (fun j => [g j]) n = (List.range n).map g
  | 0 => rfl
  | n + 1 => by rw [List.range_succ, List.map_append]; simp only [rowsOf, rowsOf_ones g n]; rfl
theorem ins_list {g : Nat → Value} {x : Value} {i n : Nat} (hi : i ≤ n) : (List.range i).map (fun j => g (0 + j)) ++ [x] ++ (List.range (n - i)).map (fun j => g (i + j)) = rowsOf (fun j => [insA i x g j]) (i + 1 + (n - i)) := by
  rw [rowsOf_ones]
  apply List.ext_getElem?
  intro j
  simp only [List.getElem?_append, List.getElem?_map, List.length_append, List.length_map, List.length_range, List.length_cons, List.length_nil]
  rcases Nat.lt_trichotomy j i with hj | hj | hj
  · rw [if_pos (by omega), if_pos hj, List.getElem?_range hj, List.getElem?_range (by omega)]
    simp [insA, hj]
  · subst hj
    rw [if_pos (by omega), if_neg (by omega), List.getElem?_range (by omega)]
    simp [insA]
  · rw [if_neg (by omega)]
    by_cases h2 : j < i + 1 + (n - i)
    · rw [List.getElem?_range (by omega), List.getElem?_range h2]
      simp only [Option.map_some, insA, if_neg (show ¬ j < i by omega), if_neg (show ¬ j = i by omega)]
      congr 2
      omega
    · rw [List.getElem?_eq_none (by simp; omega), List.getElem?_eq_none (by simp; omega)]
      rfl
end AE.Try
