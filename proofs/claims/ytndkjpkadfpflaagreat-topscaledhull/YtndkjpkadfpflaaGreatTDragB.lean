/- Walks of drag and its reference: which lines are valid. -/
import Derived.Test.YtndkjpkadfpflaaGreatJoin11
set_option linter.unusedVariables false
set_option linter.unusedSimpArgs false
set_option linter.unusedSectionVars false
namespace AE.Tryz
open Go AE AE.Drag Go.Proofs
set_option maxRecDepth 100000

/-- Bounds, as cells. -/
inductive BdL : List Value → List Bd → Prop
  | nil : BdL [] []
  | cons {a b lo hi : Int} {cs : List Value} {l : List Bd} (h : BdL cs l) : BdL (.int .i64 a :: .int .i64 b :: .int .i64 lo :: .int .i64 hi :: cs) (⟨a, b, lo, hi⟩ :: l)
def AllOk : List Bd → Prop
  | [] => True
  | b :: l => b.ok ∧ AllOk l
instance : (l : List Bd) → Decidable (AllOk l)
  | [] => .isTrue trivial
  | b :: l => by unfold AllOk; have := instDecidableAllOk l; infer_instance
theorem BdL.len {cs : List Value} {l : List Bd} (h : BdL cs l) : cs.length = l.length * 4 := by
  induction h with
  | nil => rfl
  | cons _ ih => simp only [List.length_cons, ih]; omega
theorem BdL.get {cs : List Value} {l : List Bd} (h : BdL cs l) : ∀ i, i < l.length → (cs.drop (i * 4)).take 4 = (l.getD i ⟨0, 0, 0, 0⟩).cells := by
  induction h with
  | nil => intro i hi; simp at hi
  | cons h ih =>
    intro i hi
    cases i with
    | zero => simp [Bd.cells]
    | succ i =>
      have := ih i (by simpa using hi)
      rw [show (i + 1) * 4 = i * 4 + 4 by omega]
      simpa using this
theorem allOk_iff (l : List Bd) : AllOk l ↔ ∀ i, i < l.length → (l.getD i ⟨0, 0, 0, 0⟩).ok := by
  induction l with
  | nil => simp [AllOk]
  | cons b l ih =>
    rw [AllOk, ih]
    constructor
    · rintro ⟨h1, h2⟩ i hi
      cases i with
      | zero => simpa using h1
      | succ i => simpa using h2 i (by simpa using hi)
    · intro h
      refine ⟨by simpa using h 0 (by simp), fun i hi => by simpa using h (i + 1) (by simpa using hi)⟩

theorem goodL_w {h : H} {r s n c : Nat} {cs : List Value} {l : List Bd} (hr : r < h.next) (hg : h.get r = some (.cells [.slice (some ⟨s, 0, none⟩) n c] 199)) (ha : s < h.next) (hs : h.get s = some (.cells cs 126)) (hl : BdL cs l) (hn : n = l.length) (hn' : l.length < 1000000000000000) :
    AW Tryz.prog 68 h.next h [.func (.func 167) ⟨[]⟩ ⟨[.pointer (some ⟨r, 0, none⟩)]⟩] (fun v _ => v = .bool (decide (AllOk l))) := by
  subst hn
  have e : decide (AllOk l) = decide (∀ i, i < l.length → ((fun i => l.getD i ⟨0, 0, 0, 0⟩) i).ok) := by simp only [allOk_iff]
  rw [e]
  refine good_w hr hg ha hn' fun i hi => ?_
  refine loadN_cells hs ?_
  unfold cut
  have := hl.len
  rw [if_pos (by show 0 + i * 4 + 4 ≤ _; omega)]
  rw [show 0 + i * 4 = i * 4 by omega, hl.get i hi]
theorem kTDragB0 {G : Prop} (g : G := by ((apply goodL_w; (focus exact byOm); (focus exact byGet); (focus exact byOm); (focus exact byGet); (focus (repeat (first | exact BdL.nil | apply BdL.cons))); (focus exact rfl); (focus (simp only [List.length_cons, List.length_nil]; omega))))) : G := g
end AE.Tryz
