/- Lists of lists that the code builds. -/
import Derived.Test.YtbfhhncmmllblaaChartQ
set_option linter.unusedVariables false
set_option linter.unusedSimpArgs false
set_option linter.unusedSectionVars false
namespace AE.Try
open Go AE Go.Proofs
set_option maxRecDepth 100000
set_option linter.unusedVariables false

/-- s rows of a list of lists: they lie from b on, below m. -/
structure LB (M : Mat) (s : Nat) (F : Nat → Nat → Int) (b m : Nat) (h : H) (v4 : Option Addr) : Prop where
  re : ∀ i, i < s → 0 < M.w i → M.rb i = some (M.ra i)
  ri : ∀ i, i < s → Ints h (M.ra i) (M.w i) (F i)
  rng : ∀ i, i < s → 0 < M.w i → b ≤ (M.ra i).block ∧ (M.ra i).block < m
  rl : ∀ i, i < s → M.w i ≤ 9223372036854775807
  rf : ∀ i, i < s → 0 < M.w i → M.rc i < far
  nil : s = 0 → v4 = none
  out : 0 < s → ∃ a4, v4 = some a4 ∧ GAt a4.block h 22 1 s (rowsOf (fun i => [M.row i]) s) (some a4) ∧ (b ≤ a4.block ∧ a4.block < m) ∧ ∀ i, i < s → 0 < M.w i → (M.ra i).block ≠ a4.block
theorem _root_.AE.Ints.frame {h h' : H} {a : Addr} {n : Nat} {f : Nat → Int} (k : Ints h a n f) (e : 0 < n → h'.get a.block = h.get a.block) : Ints h' a n f := fun i hi => by
  have := k i hi
  unfold H.loadN at this ⊢
  rw [show (aadd a i).block = a.block from rfl] at this ⊢
  rw [e (by omega)]; exact this
theorem LB.frame {M : Mat} {s b m m' : Nat} {F : Nat → Nat → Int} {h h' : H} {v4 : Option Addr} (k : LB M s F b m h v4) (hm : m ≤ m') (hs : ∀ r, b ≤ r → r < m → h'.get r = h.get r) : LB M s F b m' h' v4 :=
  ⟨k.re, fun i hi => (k.ri i hi).frame fun h0 => hs _ (k.rng i hi h0).1 (k.rng i hi h0).2, fun i hi h0 => by have := k.rng i hi h0; omega, k.rl, k.rf, k.nil, fun h0 => by
    obtain ⟨a4, h1, h2, h3, h4⟩ := k.out h0
    exact ⟨a4, h1, h2.frame (hs _ h3.1 h3.2), by omega, h4⟩⟩
theorem LB.zero {M : Mat} {F : Nat → Nat → Int} {b m : Nat} {h : H} : LB M 0 F b m h none :=
  ⟨fun i hi => by omega, fun i hi => by omega, fun i hi => by omega, fun i hi => by omega, fun i hi => by omega, fun _ => rfl, fun h => by omega⟩
/-- A row more. -/
def Mat.add (M : Mat) (s : Nat) (rb : Option Addr) (w : Nat) (rc : Nat) (ra : Addr) : Mat :=
  { M with w := fun i => if i = s then w else M.w i, rb := fun i => if i = s then rb else M.rb i, ra := fun i => if i = s then ra else M.ra i, rc := fun i => if i = s then rc else M.rc i }
theorem Mat.add_old {M : Mat} {s w rc i : Nat} {rb : Option Addr} {ra : Addr} (h : i ≠ s) : (M.add s rb w rc ra).w i = M.w i ∧ (M.add s rb w rc ra).rb i = M.rb i ∧ (M.add s rb w rc ra).ra i = M.ra i ∧ (M.add s rb w rc ra).row i = M.row i := by
  simp [Mat.add, Mat.row, h]
theorem Mat.add_new (M : Mat) (s w rc : Nat) (rb : Option Addr) (ra : Addr) : (M.add s rb w rc ra).w s = w ∧ (M.add s rb w rc ra).rb s = rb ∧ (M.add s rb w rc ra).ra s = ra ∧ (M.add s rb w rc ra).row s = .slice rb w rc := by
  simp [Mat.add, Mat.row]
theorem LB.next {M : Mat} {s b m m' w rc : Nat} {F : Nat → Nat → Int} {h h' : H} {v4 : Option Addr} {rb : Option Addr} {ra a4 : Addr} (k : LB M s F b m h v4) (hm : m ≤ m') (hbm : b ≤ m) (hs : ∀ r, b ≤ r → r < m → (0 < s → r ≠ a4.block) → h'.get r = h.get r) (h4 : 0 < s → ∃ a, v4 = some a ∧ a.block = a4.block)
    (e6 : 0 < w → rb = some ra) (G6 : Ints h' ra w (F s)) (r6 : 0 < w → m ≤ ra.block ∧ ra.block < m') (l6 : w ≤ 9223372036854775807) (f6 : 0 < w → rc < far) (G4 : GAt a4.block h' 22 1 (s + 1) (rowsOf (fun i => [M.row i]) s ++ [.slice rb w rc]) (some a4)) (n4 : s = 0 → m ≤ a4.block ∧ a4.block < m' ∧ (0 < w → a4.block ≠ ra.block)) : LB (M.add s rb w rc ra) (s + 1) F b m' h' (some a4) := by
  have ne4 : ∀ i, i < s → 0 < M.w i → (M.ra i).block ≠ a4.block := fun i hi h0 => by
    obtain ⟨a, e1, e2⟩ := h4 (by omega)
    obtain ⟨a', e3, -, -, e4⟩ := k.out (by omega)
    rw [e1] at e3
    simp only [Option.some.injEq] at e3
    subst e3
    rw [← e2]
    exact e4 i hi h0
  obtain ⟨w1, w2, w3, w4⟩ := M.add_new s w rc rb ra
  have r4 : b ≤ a4.block ∧ a4.block < m' ∧ (0 < w → ra.block ≠ a4.block) := by
    rcases Nat.eq_zero_or_pos s with h0 | h0
    · have := n4 h0
      exact ⟨by omega, by omega, fun h => (this.2.2 h).symm⟩
    · obtain ⟨a, e1, e2⟩ := h4 h0
      obtain ⟨a', e3, -, e5, -⟩ := k.out h0
      rw [e1] at e3
      simp only [Option.some.injEq] at e3
      subst e3
      exact ⟨by omega, by omega, fun h => by have := r6 h; omega⟩
  refine ⟨fun i hi => ?_, fun i hi => ?_, fun i hi => ?_, fun i hi => ?_, fun i hi => ?_, fun h => by omega, fun _ => ⟨a4, rfl, ?_, by omega, fun i hi => ?_⟩⟩
  · by_cases e : i = s
    · subst e; rw [w1, w2, w3]; exact e6
    · obtain ⟨o1, o2, o3, o4⟩ := M.add_old (w := w) (rc := rc) (rb := rb) (ra := ra) e
      rw [o1, o2, o3]; exact k.re i (by omega)
  · by_cases e : i = s
    · subst e; rw [w1, w3]; exact G6
    · obtain ⟨o1, o2, o3, o4⟩ := M.add_old (w := w) (rc := rc) (rb := rb) (ra := ra) e
      rw [o1, o3]
      exact (k.ri i (by omega)).frame fun h0 => hs _ (k.rng i (by omega) h0).1 (k.rng i (by omega) h0).2 fun _ => ne4 i (by omega) h0
  · by_cases e : i = s
    · subst e; rw [w1, w3]; exact fun h => by have := r6 h; omega
    · obtain ⟨o1, o2, o3, o4⟩ := M.add_old (w := w) (rc := rc) (rb := rb) (ra := ra) e
      rw [o1, o3]
      exact fun h => by have := k.rng i (by omega) h; omega
  · by_cases e : i = s
    · subst e; rw [w1]; exact l6
    · obtain ⟨o1, o2, o3, o4⟩ := M.add_old (w := w) (rc := rc) (rb := rb) (ra := ra) e
      rw [o1]; exact k.rl i (by omega)
  · by_cases e : i = s
    · subst e; rw [w1]; simpa [Mat.add] using f6
    · have := k.rf i (by omega)
      simpa [Mat.add, e] using this
  · have : rowsOf (fun i => [(M.add s rb w rc ra).row i]) (s + 1) = rowsOf (fun i => [M.row i]) s ++ [.slice rb w rc] := by
      show rowsOf (fun i => [(M.add s rb w rc ra).row i]) s ++ [(M.add s rb w rc ra).row s] = _
      rw [rowsOf_congr (f := fun i => [(M.add s rb w rc ra).row i]) (g := fun i => [M.row i]) s fun i hi => by rw [(M.add_old (w := w) (rc := rc) (rb := rb) (ra := ra) (by omega)).2.2.2], w4]
    rw [this]
    exact G4
  · by_cases e : i = s
    · subst e; rw [w1, w3]; exact r4.2.2
    · obtain ⟨o1, o2, o3, o4⟩ := M.add_old (w := w) (rc := rc) (rb := rb) (ra := ra) e
      rw [o1, o3]; exact ne4 i (by omega)

/-- A row is appended. -/
theorem q_appLB {P : Program} {lo nid : Nat} {ts : Ts} {h : H} {k : Value → H → Prop} {M : Mat} {s b m w rc bytes cx : Nat} {F : Nat → Nat → Int} {v4 rb : Option Addr} {ra ax : Addr} {sx x : Opd} (hP : LB M s F b m h v4) (hsv : ev ts sx = .slice v4 s 0) (hx : ev ts x = .slice (some ax) 1 cx) (hcx : cx < far) (hld : h.loadN ax 1 = some [.slice rb w rc])
    (e6 : 0 < w → rb = some ra) (G6 : Ints h ra w (F s)) (r6 : 0 < w → m ≤ ra.block ∧ ra.block < nid) (l6 : w ≤ 9223372036854775807) (f6 : 0 < w → rc < far) (hlo : lo ≤ b) (hbm : b ≤ m) (hm : m ≤ nid) (hsm : (s + 2) * (bytes + 1) ≤ 1099511627776)
    (hr : ∀ a4 r row, b ≤ r → r < nid + 1 → LB (M.add s rb w rc ra) (s + 1) F b (nid + 1) (h.put r row) (some a4) → k (.slice (some a4) (s + 1) 0) (h.put r row)) : OpE P lo nid ts h (.append 22 1 bytes sx x) k := by
  have C : Cells h 1 1 (ev ts x) [.slice rb w rc] := by rw [hx]; exact Cells.one hld hcx rfl rfl
  rcases Nat.eq_zero_or_pos s with h0 | h0
  · subst h0
    obtain rfl := hP.nil rfl
    apply q_appG (b := nid) (N := nid) (n := 0) (m := 1) (cs := []) (nc := [.slice rb w rc])
    case hsv => exact hsv
    case G => exact Grown.nil
    case C => exact C
    case hm => omega
    case hlo => omega
    case hb => omega
    case hN => omega
    case hsm => omega
    intro v' j row hj1 hj2 hj3 G'
    obtain ⟨r4, G4, hr4, hr4'⟩ := G'.gat (by omega)
    obtain ⟨a4, rfl, hb4, -, -⟩ := G4.load
    subst hb4
    have hje : j = nid := by omega
    subst hje
    refine hr a4 j row (by omega) hj2 (hP.next (m' := j + 1) (by omega) hbm (fun r h1 h2 _ => by simp only [H.put]; rw [if_neg (by omega)]) (fun h => absurd h (Nat.lt_irrefl 0)) e6 (G6.frame fun h => by simp only [H.put]; rw [if_neg (by have := r6 h; omega)]) (fun h => by have := r6 h; omega) l6 f6 G4 (fun _ => ⟨by omega, by omega, fun h => by have := r6 h; omega⟩))
  · obtain ⟨a4, rfl, G4, hr4, hne4⟩ := hP.out h0
    apply q_appA (r := a4.block) (n := s) (m := 1) (cs := rowsOf (fun i => [M.row i]) s) (nc := [.slice rb w rc])
    case hsv => exact hsv
    case G => exact G4
    case C => exact C
    case hm => omega
    case hlo => omega
    case hsm => omega
    intro v' row G5
    obtain ⟨a5, rfl, hb5, -, -⟩ := G5.load
    rw [← hb5] at G5
    refine hr a5 a4.block row (by omega) (by omega) (hP.next (a4 := a5) (m' := nid + 1) (by omega) hbm (fun r h1 h2 hne => by have := hne h0; simp only [H.put]; rw [if_neg (by omega)]) (fun _ => ⟨a4, rfl, hb5.symm⟩) e6 (G6.frame fun h => by simp only [H.put]; rw [if_neg (by have := r6 h; omega)]) (fun h => by have := r6 h; omega) l6 f6 ?_ (fun h => by omega))
    rw [hb5] at G5 ⊢
    exact G5
/-- As pulls. -/
theorem LB.pul {M : Mat} {s b m : Nat} {F : Nat → Nat → Int} {h : H} {v4 : Option Addr} (k : LB M s F b m h v4) (hs : s ≤ 9223372036854775807) : ∃ a, (⟨{ M with n := s, b := v4, a := a, c := 0 }, F⟩ : Pul).Ok m h := by
  rcases Nat.eq_zero_or_pos s with h0 | h0
  · subst h0
    exact ⟨⟨0, 0, none⟩, fun h => absurd h (Nat.lt_irrefl 0), fun i hi => absurd hi (Nat.not_lt_zero i), fun h => absurd h (Nat.lt_irrefl 0), hs, fun i hi => absurd hi (Nat.not_lt_zero i), fun i hi => absurd hi (Nat.not_lt_zero i), fun i hi => absurd hi (Nat.not_lt_zero i), fun i hi => absurd hi (Nat.not_lt_zero i), fun i hi => absurd hi (Nat.not_lt_zero i)⟩
  · obtain ⟨a4, rfl, G4, hr4, hne4⟩ := k.out h0
    obtain ⟨a, ha, hb, hld, hst⟩ := G4.load
    simp only [Option.some.injEq] at ha
    subst ha
    refine ⟨a4, fun _ => rfl, fun i hi => ?_, fun _ => hr4.2, hs, k.re, k.ri, fun i hi h => (k.rng i hi h).2, k.rl, k.rf⟩
    refine hld _ _ _ ?_
    have := cut_rowsOf (g := fun i => [M.row i]) (w := 1) (fun _ => rfl) hi [] [] (a := i) (by simp)
    simpa [Mat.row] using this
end AE.Try
