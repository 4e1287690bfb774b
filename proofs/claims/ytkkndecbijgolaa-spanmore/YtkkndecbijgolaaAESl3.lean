/- A slice that came in, cut behind its last element: s[:n:n]. -/
import Derived.Test.YtkkndecbijgolaaAEthree
set_option linter.unusedVariables false
set_option linter.unusedSimpArgs false
set_option linter.unusedSectionVars false
set_option linter.unusedVariables false
namespace AE
open Go Go.RowKit
/-- How a slice that came in lies: its room known, or empty anywhere. -/
def SlC (b : Option Addr) (a : Addr) (n c m : Nat) (h : H) : Prop :=
  (0 < n → b = some a ∧ a.spot = none ∧ n ≤ c ∧ c < far ∧ a.block < m) ∧ (n = 0 → (b = none ∧ c = 0) ∨ (∃ a', b = some a' ∧ c = far) ∨ ∃ a', b = some a' ∧ a'.spot = none ∧ c < far ∧ a'.block < m ∧ h.loadN a' 0 = some [])
theorem SlC.same {b : Option Addr} {a : Addr} {n c m m' : Nat} {h h' : H} (k : SlC b a n c m h) (s : Same m h h') (hm : m ≤ m') : SlC b a n c m' h' := by
  refine ⟨fun h0 => ?_, fun h0 => ?_⟩
  · obtain ⟨h1, h2, h3, h4, h5⟩ := k.1 h0
    exact ⟨h1, h2, h3, h4, by omega⟩
  · rcases k.2 h0 with h1 | h1 | ⟨a', h1, h2, h3, h4, h5⟩
    · exact .inl h1
    · exact .inr (.inl h1)
    · exact .inr (.inr ⟨a', h1, h2, h3, by omega, by rw [s.loadN h4]; exact h5⟩)
section
variable {P : Program} {lo nid : Nat} {ts : Ts} {h : H} {k : Value → H → Prop}
theorem q_cut3 {sz n c m : Nat} {x hi mx : Opd} {k1 k2 : IntKind} {b : Option Addr} {a : Addr} {f : Nat → List Value} (hsv : ev ts x = .slice b n c) (S : SlC b a n c m h) (he : Els h a n sz f) (hf : ∀ i, (f i).length = sz) (hh : ev ts hi = .int k1 (n : Int)) (hx : ev ts mx = .int k2 (n : Int))
    (hr : ∀ b' c', (∀ h2 : H, Same m h h2 → Full h2 sz n (rowsOf f n) b' c') → k (.slice b' n c') h) : OpE P lo nid ts h (.slsl sz x none (some hi) (some mx)) k := by
  have n1 : natOf? (ev ts hi) = some n := by rw [hh]; simp [natOf?]
  have n2 : natOf? (ev ts mx) = some n := by rw [hx]; simp [natOf?]
  rcases Nat.eq_zero_or_pos n with rfl | h0
  · rcases S.2 rfl with ⟨rfl, rfl⟩ | ⟨a', rfl, rfl⟩ | ⟨a', rfl, hs, hf2, hb, hl⟩
    · refine OpE.mk (v := .slice none 0 0) (h' := h) ?_ (hr _ _ fun _ _ => Full.nil)
      simp [aop, slsl, hsv, slNil, evO, optNat, n1, n2, keep]
    · refine OpE.mk (v := .slice (some a') 0 far) (h' := h) ?_ (hr _ _ fun _ _ => ⟨by simp [rowsOf], .inl ⟨rfl, .inr ⟨a', rfl, rfl⟩⟩⟩)
      simp [aop, slsl, hsv, slFar, evO, optNat, n1, n2, keep]
    · refine OpE.mk (v := .slice (some a') 0 0) (h' := h) ?_ (hr _ _ fun h2 sm => ⟨by simp [rowsOf], .inr ⟨a', rfl, by unfold far; omega, .inl ⟨hs, rfl⟩, by rw [Nat.zero_mul, sm.loadN hb]; exact hl⟩⟩)
      have hf3 : ¬ far ≤ c := by omega
      have hf4 : 0 < far := by unfold far; omega
      simp [aop, slsl, hsv, hs, slKnown, slAddr, evO, optNat, n1, n2, enc1, keep, hf3, hf4]
  · obtain ⟨rfl, hs, h2, h3, h4⟩ := S.1 h0
    have e0 : slAddr a 0 n sz = a := by unfold slAddr; rw [if_neg (by omega)]; simp [aadd]
    refine OpE.mk (v := .slice (some a) n n) (h' := h) ?_ (hr _ _ fun h2 sm => ⟨rowsOf_len hf n, .inr ⟨a, rfl, by omega, .inl ⟨hs, rfl⟩, by rw [sm.loadN h4]; exact he.all h0 n h0 (Nat.le_refl _)⟩⟩)
    have hf3 : ¬ far ≤ c := by omega
    have hf4 : n < far := by omega
    simp [aop, slsl, hsv, hs, slKnown, e0, evO, optNat, n1, n2, enc1, keep, hf3, hf4, h2]
end

/-- A slice that was empty, not nil, and grew by appends: its row known. -/
def GE (r0 r : Nat) (h : H) (e : TypeId) (sz n : Nat) (cs : List Value) (v : Option Addr) : Prop := (n = 0 ∧ v = some ⟨r0, 0, none⟩ ∧ cs = [] ∧ h.get r0 = some (.cells [] e)) ∨ (0 < n ∧ GAt r h e sz n cs v)
theorem GE.frame {r0 r n sz : Nat} {e : TypeId} {h h' : H} {cs : List Value} {v : Option Addr} (k : GE r0 r h e sz n cs v) (hr0 : n = 0 → h'.get r0 = h.get r0) (hr : 0 < n → h'.get r = h.get r) : GE r0 r h' e sz n cs v :=
  k.elim (fun ⟨h0, h1, h2, h3⟩ => .inl ⟨h0, h1, h2, (hr0 h0).trans h3⟩) fun ⟨h0, G⟩ => .inr ⟨h0, G.frame (hr h0)⟩
section
variable {P : Program} {lo nid : Nat} {ts : Ts} {h : H} {k : Value → H → Prop}
theorem q_appGE {r0 r n bytes sz : Nat} {e : TypeId} {cs nc : List Value} {v : Option Addr} {sx x : Opd} (G : GE r0 r h e sz n cs v) (hsv : ev ts sx = .slice v n 0) (C : Cells h sz 1 (ev ts x) nc) (hlo : lo ≤ nid) (hlr : 0 < n → lo ≤ r ∧ r < nid) (hsm : (n + 1 + 1) * (bytes + 1) ≤ 1099511627776)
    (hr : ∀ v' r' row, (n = 0 → r' = nid) → (0 < n → r' = r) → r' < nid + 1 → GE r0 r' (h.put r' row) e sz (n + 1) (cs ++ nc) v' → k (.slice v' (n + 1) 0) (h.put r' row)) : OpE P lo nid ts h (.append e sz bytes sx x) k := by
  rcases G with ⟨rfl, rfl, rfl, hg⟩ | ⟨h0, G⟩
  · apply q_appF (n := 0) (m := 1) (b := nid) (cs := []) (nc := nc) (c := 0)
    case hsv => exact hsv
    case G => exact ⟨by simp, .inr ⟨_, rfl, by unfold far; omega, .inl ⟨rfl, rfl⟩, by simp [H.loadN, hg, loadRow, cut]⟩⟩
    case C => exact C
    case hm => exact Nat.one_pos
    case hb => exact Nat.le_refl _
    case hsm => omega
    intro v' row G'
    obtain ⟨r4, G4, hr4, hr4'⟩ := G'.gat (by omega)
    obtain rfl : r4 = nid := by omega
    exact hr v' r4 row (fun _ => rfl) (fun h => absurd h (Nat.lt_irrefl 0)) (by omega) (.inr ⟨by omega, G4⟩)
  · apply q_appA (r := r) (n := n) (m := 1) (cs := cs) (nc := nc)
    case hsv => exact hsv
    case G => exact G
    case C => exact C
    case hm => exact Nat.one_pos
    case hlo => exact (hlr h0).1
    case hsm => omega
    intro v' row G5
    exact hr v' r row (fun h => by omega) (fun _ => rfl) (by have := hlr h0; omega) (.inr ⟨by omega, G5⟩)
end
end AE
