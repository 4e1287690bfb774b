/- Lists of lists that the code builds. -/
import Derived.Test.YtbfhhncmmllblaaJoin11
set_option linter.unusedVariables false
set_option linter.unusedSimpArgs false
set_option linter.unusedSectionVars false
namespace AE.Try
open Go AE Go.Proofs
set_option maxRecDepth 100000
set_option linter.unusedVariables false

/-- A row of numbers that can be turned. -/
def IRow (r : Nat) (h : H) (n : Nat) (f : Nat → Int) (v : Option Addr) : Prop := (v = some ⟨r, 0, none⟩ ∧ h.get r = some (.cells (iCells f n) 2)) ∨ GAt r h 2 1 n (iCells f n) v
theorem IRow.frame {r n : Nat} {h h' : H} {f : Nat → Int} {v : Option Addr} (k : IRow r h n f v) (e : h'.get r = h.get r) : IRow r h' n f v :=
  k.imp (fun ⟨h1, h2⟩ => ⟨h1, e.trans h2⟩) fun G => G.frame e
theorem iCells_cut {f : Nat → Int} {n i : Nat} (hi : i < n) : cut (iCells f n) i 1 = some [.int .i64 (f i)] := by
  have := cut_rowsOf (g := fun i => [Value.int .i64 (f i)]) (w := 1) (fun _ => rfl) hi [] [] (a := i) (by simp)
  unfold iCells
  simpa using this
theorem IRow.ints {r n : Nat} {h : H} {f : Nat → Int} {v : Option Addr} (k : IRow r h n f v) : ∃ a, v = some a ∧ a.block = r ∧ Ints h a n f := by
  rcases k with ⟨h1, h2⟩ | G
  · exact ⟨_, h1, rfl, iCells_ints h2⟩
  · obtain ⟨a, h1, h2, h3, -⟩ := G.load
    exact ⟨a, h1, h2, fun i hi => h3 i 1 _ (iCells_cut hi)⟩
theorem IRow.sto {r n i lo off : Nat} {h : H} {f : Nat → Int} {a : Addr} {x : Int} {K : H → Prop} (k : IRow r h n f (some a)) (hi : i < n) (ho : off = i * 1) (hlo : lo ≤ r) (hk : ∀ row, IRow r (h.put r row) n (updN f i x) (some a) → K (h.put r row)) : Sto lo h (aadd a off) 1 [.int .i64 x] K := by
  subst ho
  rcases k with ⟨h1, h2⟩ | G
  · simp only [Option.some.injEq] at h1
    subst h1
    have e : splice (iCells f n) (0 + i * 1) [.int .i64 x] = iCells (updN f i x) n := iCells_set f x hi (by omega)
    refine Sto.mk (r := r) (off := 0 + i * 1) (c' := iCells (updN f i x) n) rfl hlo h2 rfl rfl (Nat.ble_eq_true_of_le (by rw [iCells_len]; show 0 + i * 1 + 1 ≤ _; omega)) (by rw [e]; exact Is.rfl) ?_
    exact hk _ (.inl ⟨rfl, by simp [H.put]⟩)
  · obtain ⟨a', h1, h2, -, h4⟩ := G.load
    simp only [Option.some.injEq] at h1
    subst h1
    obtain ⟨row, e1, e2⟩ := h4 lo (i * 1) [.int .i64 x] hlo rfl (by rw [iCells_len]; simp; omega)
    refine Sto.raw e1 rfl (hk row (.inr ?_))
    rw [iCells_set f x hi (by omega)] at e2
    exact e2
/-- A list of lists that grows: s rows, all from b on and below m, and owned. -/
structure LB (O : Nat → Prop) (M : Mat) (s : Nat) (F : Nat → Nat → Int) (b m : Nat) (h : H) (v4 : Option Addr) : Prop where
  re : ∀ i, i < s → 0 < M.w i → M.rb i = some (M.ra i)
  ri : ∀ i, i < s → 0 < M.w i → IRow (M.ra i).block h (M.w i) (F i) (M.rb i)
  rng : ∀ i, i < s → 0 < M.w i → (b ≤ (M.ra i).block ∧ (M.ra i).block < m) ∧ O (M.ra i).block
  inj : ∀ i j, i < s → j < s → i ≠ j → 0 < M.w i → 0 < M.w j → (M.ra i).block ≠ (M.ra j).block
  rl : ∀ i, i < s → M.w i ≤ 9223372036854775807
  rf : ∀ i, i < s → 0 < M.w i → M.rc i < far
  nil : s = 0 → v4 = none
  out : 0 < s → ∃ a4, v4 = some a4 ∧ GAt a4.block h 22 1 s (rowsOf (fun i => [M.row i]) s) (some a4) ∧ ((b ≤ a4.block ∧ a4.block < m) ∧ O a4.block) ∧ ∀ i, i < s → 0 < M.w i → (M.ra i).block ≠ a4.block
theorem _root_.AE.Ints.frame {h h' : H} {a : Addr} {n : Nat} {f : Nat → Int} (k : Ints h a n f) (e : 0 < n → h'.get a.block = h.get a.block) : Ints h' a n f := fun i hi => by
  have := k i hi
  unfold H.loadN at this ⊢
  rw [show (aadd a i).block = a.block from rfl] at this ⊢
  rw [e (by omega)]; exact this
theorem LB.frame {O : Nat → Prop} {M : Mat} {s b m m' : Nat} {F : Nat → Nat → Int} {h h' : H} {v4 : Option Addr} (k : LB O M s F b m h v4) (hm : m ≤ m') (hs : ∀ r, b ≤ r → r < m → O r → h'.get r = h.get r) : LB O M s F b m' h' v4 :=
  ⟨k.re, fun i hi h0 => (k.ri i hi h0).frame (hs _ (k.rng i hi h0).1.1 (k.rng i hi h0).1.2 (k.rng i hi h0).2), fun i hi h0 => by have := k.rng i hi h0; exact ⟨by omega, this.2⟩, k.inj, k.rl, k.rf, k.nil, fun h0 => by
    obtain ⟨a4, h1, h2, h3, h4⟩ := k.out h0
    exact ⟨a4, h1, h2.frame (hs _ h3.1.1 h3.1.2 h3.2), ⟨by omega, h3.2⟩, h4⟩⟩
theorem LB.zero {O : Nat → Prop} {M : Mat} {F : Nat → Nat → Int} {b m : Nat} {h : H} : LB O M 0 F b m h none :=
  ⟨fun i hi => by omega, fun i hi => by omega, fun i hi => by omega, fun i j hi => by omega, fun i hi => by omega, fun i hi => by omega, fun _ => rfl, fun h => by omega⟩
/-- A row more. -/
def Mat.add (M : Mat) (s : Nat) (rb : Option Addr) (w : Nat) (rc : Nat) (ra : Addr) : Mat :=
  { M with w := fun i => if i = s then w else M.w i, rb := fun i => if i = s then rb else M.rb i, ra := fun i => if i = s then ra else M.ra i, rc := fun i => if i = s then rc else M.rc i }
theorem Mat.add_old {M : Mat} {s w rc i : Nat} {rb : Option Addr} {ra : Addr} (h : i ≠ s) : (M.add s rb w rc ra).w i = M.w i ∧ (M.add s rb w rc ra).rb i = M.rb i ∧ (M.add s rb w rc ra).ra i = M.ra i ∧ (M.add s rb w rc ra).row i = M.row i := by
  simp [Mat.add, Mat.row, h]
theorem Mat.add_new (M : Mat) (s w rc : Nat) (rb : Option Addr) (ra : Addr) : (M.add s rb w rc ra).w s = w ∧ (M.add s rb w rc ra).rb s = rb ∧ (M.add s rb w rc ra).ra s = ra ∧ (M.add s rb w rc ra).row s = .slice rb w rc := by
  simp [Mat.add, Mat.row]
theorem LB.next {O O' : Nat → Prop} {M : Mat} {s b m m' w rc : Nat} {F : Nat → Nat → Int} {h h' : H} {v4 : Option Addr} {rb : Option Addr} {ra a4 : Addr} (k : LB O M s F b m h v4) (hO : ∀ r, O r → O' r) (hm : m ≤ m') (hbm : b ≤ m) (hs : ∀ r, b ≤ r → r < m → (0 < s → r ≠ a4.block) → h'.get r = h.get r) (h4 : 0 < s → ∃ a, v4 = some a ∧ a.block = a4.block)
    (e6 : 0 < w → rb = some ra) (G6 : 0 < w → IRow ra.block h' w (F s) rb) (r6 : 0 < w → (m ≤ ra.block ∧ ra.block < m') ∧ O' ra.block) (l6 : w ≤ 9223372036854775807) (f6 : 0 < w → rc < far) (G4 : GAt a4.block h' 22 1 (s + 1) (rowsOf (fun i => [M.row i]) s ++ [.slice rb w rc]) (some a4)) (n4 : s = 0 → (m ≤ a4.block ∧ a4.block < m' ∧ (0 < w → a4.block ≠ ra.block)) ∧ O' a4.block) : LB O' (M.add s rb w rc ra) (s + 1) F b m' h' (some a4) := by
  have ne4 : ∀ i, i < s → 0 < M.w i → (M.ra i).block ≠ a4.block := fun i hi h0 => by
    obtain ⟨a, e1, e2⟩ := h4 (by omega)
    obtain ⟨a', e3, -, -, e4⟩ := k.out (by omega)
    rw [e1] at e3
    simp only [Option.some.injEq] at e3
    subst e3
    rw [← e2]
    exact e4 i hi h0
  obtain ⟨w1, w2, w3, w4⟩ := M.add_new s w rc rb ra
  have r4 : b ≤ a4.block ∧ a4.block < m' ∧ (0 < w → ra.block ≠ a4.block) ∧ O' a4.block := by
    rcases Nat.eq_zero_or_pos s with h0 | h0
    · obtain ⟨this, o⟩ := n4 h0
      exact ⟨by omega, by omega, fun h => (this.2.2 h).symm, o⟩
    · obtain ⟨a, e1, e2⟩ := h4 h0
      obtain ⟨a', e3, -, ⟨e5, e6⟩, -⟩ := k.out h0
      rw [e1] at e3
      simp only [Option.some.injEq] at e3
      subst e3
      exact ⟨by omega, by omega, fun h => by have := (r6 h).1; omega, by rw [← e2]; exact hO _ e6⟩
  clear h4
  have old : ∀ i, i ≠ s → (M.add s rb w rc ra).w i = M.w i ∧ (M.add s rb w rc ra).rb i = M.rb i ∧ (M.add s rb w rc ra).ra i = M.ra i ∧ (M.add s rb w rc ra).row i = M.row i := fun i e => M.add_old e
  refine ⟨fun i hi => ?_, fun i hi => ?_, fun i hi => ?_, fun i j hi hj hij hwi hwj => ?_, fun i hi => ?_, fun i hi => ?_, fun h => by omega, fun _ => ⟨a4, rfl, ?_, ⟨by omega, r4.2.2.2⟩, fun i hi => ?_⟩⟩
  · by_cases e : i = s
    · subst e; rw [w1, w2, w3]; exact e6
    · obtain ⟨o1, o2, o3, o4⟩ := old i e
      rw [o1, o2, o3]; exact k.re i (by omega)
  · by_cases e : i = s
    · subst e; rw [w1, w2, w3]; exact G6
    · obtain ⟨o1, o2, o3, o4⟩ := old i e
      rw [o1, o2, o3]
      exact fun h0 => (k.ri i (by omega) h0).frame (hs _ (k.rng i (by omega) h0).1.1 (k.rng i (by omega) h0).1.2 fun _ => ne4 i (by omega) h0)
  · by_cases e : i = s
    · subst e; rw [w1, w3]; exact fun h => by have := (r6 h).1; exact ⟨by omega, (r6 h).2⟩
    · obtain ⟨o1, o2, o3, o4⟩ := old i e
      rw [o1, o3]
      exact fun h => by have := (k.rng i (by omega) h).1; exact ⟨by omega, hO _ (k.rng i (by omega) h).2⟩
  · by_cases ei : i = s
    · subst ei
      obtain ⟨o1, o2, o3, o4⟩ := old j (by omega)
      rw [w1] at hwi
      rw [o1] at hwj
      rw [w3, o3]
      have h1 := (r6 hwi).1
      have h2 := (k.rng j (by omega) hwj).1
      omega
    · obtain ⟨o1, o2, o3, o4⟩ := old i ei
      rw [o1] at hwi
      rw [o3]
      by_cases ej : j = s
      · subst ej
        rw [w1] at hwj
        rw [w3]
        have h1 := (r6 hwj).1
        have h2 := (k.rng i (by omega) hwi).1
        omega
      · obtain ⟨p1, p2, p3, p4⟩ := old j ej
        rw [p1] at hwj
        rw [p3]
        exact k.inj i j (by omega) (by omega) hij hwi hwj
  · by_cases e : i = s
    · subst e; rw [w1]; exact l6
    · obtain ⟨o1, o2, o3, o4⟩ := old i e
      rw [o1]; exact k.rl i (by omega)
  · by_cases e : i = s
    · subst e; rw [w1]; simpa [Mat.add] using f6
    · have := k.rf i (by omega)
      simpa [Mat.add, e] using this
  · have : rowsOf (fun i => [(M.add s rb w rc ra).row i]) (s + 1) = rowsOf (fun i => [M.row i]) s ++ [.slice rb w rc] := by
      show rowsOf (fun i => [(M.add s rb w rc ra).row i]) s ++ [(M.add s rb w rc ra).row s] = _
      rw [rowsOf_congr (f := fun i => [(M.add s rb w rc ra).row i]) (g := fun i => [M.row i]) s fun i hi => by rw [(old i (by omega)).2.2.2], w4]
    rw [this]
    exact G4
  · by_cases e : i = s
    · subst e; rw [w1, w3]; exact r4.2.2.1
    · obtain ⟨o1, o2, o3, o4⟩ := old i e
      rw [o1, o3]; exact ne4 i (by omega)

/-- A row is appended. -/
theorem q_appLB {P : Program} {lo nid : Nat} {ts : Ts} {h : H} {k : Value → H → Prop} {O O' : Nat → Prop} {M : Mat} {s b m w rc bytes cx : Nat} {F : Nat → Nat → Int} {v4 rb : Option Addr} {ra ax : Addr} {sx x : Opd} (hP : LB O M s F b m h v4) (hO : ∀ r, O r → O' r) (hO1 : O' nid) (hsv : ev ts sx = .slice v4 s 0) (hx : ev ts x = .slice (some ax) 1 cx) (hcx : cx < far) (hld : h.loadN ax 1 = some [.slice rb w rc])
    (e6 : 0 < w → rb = some ra) (G6 : 0 < w → IRow ra.block h w (F s) rb) (r6 : 0 < w → (m ≤ ra.block ∧ ra.block < nid) ∧ O' ra.block) (l6 : w ≤ 9223372036854775807) (f6 : 0 < w → rc < far) (hlo : lo ≤ b) (hbm : b ≤ m) (hm : m ≤ nid) (hsm : (s + 2) * (bytes + 1) ≤ 1099511627776)
    (hr : ∀ a4 r row, b ≤ r → r < nid + 1 → ((O r ∧ r < m) ∨ r = nid) → LB O' (M.add s rb w rc ra) (s + 1) F b (nid + 1) (h.put r row) (some a4) → k (.slice (some a4) (s + 1) 0) (h.put r row)) : OpE P lo nid ts h (.append 22 1 bytes sx x) k := by
  have C : Cells h 1 1 (ev ts x) [.slice rb w rc] := by rw [hx]; exact Cells.one hld hcx rfl rfl
  rcases Nat.eq_zero_or_pos s with h0 | h0
  · subst h0
    obtain rfl := hP.nil rfl
    apply q_appG (b := nid) (N := nid) (n := 0) (m := 1) (cs := []) (nc := [.slice rb w rc])
    case hsv => exact hsv
    case G => exact Grown.nil
    case C => exact C
    case hm => omega
    case hlo => omega
    case hb => omega
    case hN => omega
    case hsm => omega
    intro v' j row hj1 hj2 hj3 G'
    obtain ⟨r4, G4, hr4, hr4'⟩ := G'.gat (by omega)
    obtain ⟨a4, rfl, hb4, -, -⟩ := G4.load
    subst hb4
    have hje : j = nid := by omega
    subst hje
    have h4j : a4.block = j := by omega
    refine hr a4 j row (by omega) hj2 (.inr rfl) (hP.next (m' := j + 1) hO (by omega) hbm (fun r h1 h2 _ => by simp only [H.put]; rw [if_neg (by omega)]) (fun h => absurd h (Nat.lt_irrefl 0)) e6 (fun h => (G6 h).frame (by simp only [H.put]; rw [if_neg (by have := (r6 h).1; omega)])) (fun h => by have := (r6 h).1; exact ⟨by omega, (r6 h).2⟩) l6 f6 G4 (fun _ => ⟨⟨by omega, by omega, fun h => by have := (r6 h).1; omega⟩, by rw [h4j]; exact hO1⟩))
  · obtain ⟨a4, rfl, G4, ⟨hr4, ho4⟩, hne4⟩ := hP.out h0
    apply q_appA (r := a4.block) (n := s) (m := 1) (cs := rowsOf (fun i => [M.row i]) s) (nc := [.slice rb w rc])
    case hsv => exact hsv
    case G => exact G4
    case C => exact C
    case hm => omega
    case hlo => omega
    case hsm => omega
    intro v' row G5
    obtain ⟨a5, rfl, hb5, -, -⟩ := G5.load
    rw [← hb5] at G5
    refine hr a5 a4.block row (by omega) (by omega) (.inl ⟨ho4, hr4.2⟩) (hP.next (a4 := a5) (m' := nid + 1) hO (by omega) hbm (fun r h1 h2 hne => by have := hne h0; simp only [H.put]; rw [if_neg (by omega)]) (fun _ => ⟨a4, rfl, hb5.symm⟩) e6 (fun h => (G6 h).frame (by simp only [H.put]; rw [if_neg (by have := (r6 h).1; omega)])) (fun h => by have := (r6 h).1; exact ⟨by omega, (r6 h).2⟩) l6 f6 ?_ (fun h => by omega))
    rw [hb5] at G5 ⊢
    exact G5

/-- A list of lists that can be turned. -/
structure OM (O : Nat → Prop) (p : Pul) (b m : Nat) (h : H) : Prop where
  e : 0 < p.M.n → p.M.b = some p.M.a
  i : Vals h p.M.a p.M.n p.M.row
  r : 0 < p.M.n → (b ≤ p.M.a.block ∧ p.M.a.block < m) ∧ O p.M.a.block
  l : p.M.n ≤ 9223372036854775807
  re : ∀ i, i < p.M.n → 0 < p.M.w i → p.M.rb i = some (p.M.ra i)
  ri : ∀ i, i < p.M.n → 0 < p.M.w i → IRow (p.M.ra i).block h (p.M.w i) (p.f i) (p.M.rb i)
  rng : ∀ i, i < p.M.n → 0 < p.M.w i → (b ≤ (p.M.ra i).block ∧ (p.M.ra i).block < m ∧ (p.M.ra i).block ≠ p.M.a.block) ∧ O (p.M.ra i).block
  inj : ∀ i j, i < p.M.n → j < p.M.n → i ≠ j → 0 < p.M.w i → 0 < p.M.w j → (p.M.ra i).block ≠ (p.M.ra j).block
  rl : ∀ i, i < p.M.n → p.M.w i ≤ 9223372036854775807
  rf : ∀ i, i < p.M.n → 0 < p.M.w i → p.M.rc i < far
theorem IRow.at {r n : Nat} {h : H} {f : Nat → Int} {a : Addr} (k : IRow r h n f (some a)) : Ints h a n f := by
  obtain ⟨a', h1, -, h3⟩ := k.ints
  simp only [Option.some.injEq] at h1
  subst h1
  exact h3
theorem OM.ok {O : Nat → Prop} {p : Pul} {b m : Nat} {h : H} (k : OM O p b m h) : p.Ok m h :=
  ⟨k.e, k.i, fun h => (k.r h).1.2, k.l, k.re, fun i hi => by
    rcases Nat.eq_zero_or_pos (p.M.w i) with h0 | h0
    · intro j hj; omega
    · have := k.ri i hi h0
      rw [k.re i hi h0] at this
      exact this.at, fun i hi h0 => (k.rng i hi h0).1.2.1, k.rl, k.rf⟩
theorem _root_.AE.Vals.frame {h h' : H} {a : Addr} {n : Nat} {f : Nat → Value} (k : Vals h a n f) (e : 0 < n → h'.get a.block = h.get a.block) : Vals h' a n f := fun i hi => by
  have := k i hi
  unfold H.loadN at this ⊢
  rw [show (aadd a i).block = a.block from rfl] at this ⊢
  rw [e (by omega)]; exact this
theorem OM.frame {O : Nat → Prop} {p : Pul} {b m m' : Nat} {h h' : H} (k : OM O p b m h) (hm : m ≤ m') (hs : ∀ r, b ≤ r → r < m → O r → h'.get r = h.get r) : OM O p b m' h' :=
  ⟨k.e, k.i.frame fun h0 => hs _ (k.r h0).1.1 (k.r h0).1.2 (k.r h0).2, fun h0 => by have := k.r h0; exact ⟨by omega, this.2⟩, k.l, k.re, fun i hi h0 => (k.ri i hi h0).frame (hs _ (k.rng i hi h0).1.1 (k.rng i hi h0).1.2.1 (k.rng i hi h0).2), fun i hi h0 => by have := k.rng i hi h0; exact ⟨by omega, this.2⟩, k.inj, k.rl, k.rf⟩
/-- With one number turned. -/
def Pul.upd (p : Pul) (i k : Nat) (x : Int) : Pul := ⟨p.M, fun j => if j = i then updN (p.f i) k x else p.f j⟩
theorem OM.sto {O : Nat → Prop} {p : Pul} {b m i k lo off : Nat} {h : H} {x : Int} {K : H → Prop} (o : OM O p b m h) (hi : i < p.M.n) (hk : k < p.M.w i) (ho : off = k * 1) (hlo : lo ≤ b) (hr : ∀ r row, b ≤ r → r < m → O r → OM O (p.upd i k x) b m (h.put r row) → K (h.put r row)) : Sto lo h (aadd (p.M.ra i) off) 1 [.int .i64 x] K := by
  have h0 : 0 < p.M.w i := by omega
  have R := o.ri i hi h0
  have g := o.rng i hi h0
  rw [o.re i hi h0] at R
  refine R.sto hk ho (by omega) fun row R' => hr _ row g.1.1 g.1.2.1 g.2 ⟨o.e, o.i.frame fun h => ?_, o.r, o.l, o.re, fun j hj hw => ?_, o.rng, o.inj, o.rl, o.rf⟩
  · simp only [H.put]
    rw [if_neg (fun e => g.1.2.2 e.symm)]
  · show IRow (p.M.ra j).block _ (p.M.w j) (if j = i then updN (p.f i) k x else p.f j) (p.M.rb j)
    by_cases e : j = i
    · subst e
      rw [if_pos rfl, o.re j hj h0]
      exact R'
    · rw [if_neg e]
      refine (o.ri j hj hw).frame ?_
      simp only [H.put]
      rw [if_neg (o.inj j i hj hi e hw h0)]
theorem LB.om {O : Nat → Prop} {M : Mat} {s b m : Nat} {F : Nat → Nat → Int} {h : H} {v4 : Option Addr} (k : LB O M s F b m h v4) (hs : s ≤ 9223372036854775807) : ∃ a, OM O (⟨{ M with n := s, b := v4, a := a, c := 0 }, F⟩ : Pul) b m h := by
  rcases Nat.eq_zero_or_pos s with h0 | h0
  · subst h0
    exact ⟨⟨0, 0, none⟩, fun h => absurd h (Nat.lt_irrefl 0), fun i hi => absurd hi (Nat.not_lt_zero i), fun h => absurd h (Nat.lt_irrefl 0), hs, fun i hi => absurd hi (Nat.not_lt_zero i), fun i hi => absurd hi (Nat.not_lt_zero i), fun i hi => absurd hi (Nat.not_lt_zero i), fun i j hi => absurd hi (Nat.not_lt_zero i), fun i hi => absurd hi (Nat.not_lt_zero i), fun i hi => absurd hi (Nat.not_lt_zero i)⟩
  · obtain ⟨a4, rfl, G4, hr4, hne4⟩ := k.out h0
    obtain ⟨a, ha, hb, hld, hst⟩ := G4.load
    simp only [Option.some.injEq] at ha
    subst ha
    refine ⟨a4, fun _ => rfl, fun i hi => ?_, fun _ => hr4, hs, k.re, k.ri, fun i hi h => ⟨⟨(k.rng i hi h).1.1, (k.rng i hi h).1.2, hne4 i hi h⟩, (k.rng i hi h).2⟩, k.inj, k.rl, k.rf⟩
    refine hld _ _ _ ?_
    have := cut_rowsOf (g := fun i => [M.row i]) (w := 1) (fun _ => rfl) hi [] [] (a := i) (by simp)
    simpa [Mat.row] using this
/-- As pulls. -/
theorem LB.pul {O : Nat → Prop} {M : Mat} {s b m : Nat} {F : Nat → Nat → Int} {h : H} {v4 : Option Addr} (k : LB O M s F b m h v4) (hs : s ≤ 9223372036854775807) : ∃ a, (⟨{ M with n := s, b := v4, a := a, c := 0 }, F⟩ : Pul).Ok m h :=
  let ⟨a, o⟩ := k.om hs; ⟨a, o.ok⟩

/-- A list of numbers that grows, its row known. -/
def IG (r : Nat) (h : H) (n : Nat) (f : Nat → Int) (v : Option Addr) : Prop := (n = 0 ∧ v = none) ∨ (0 < n ∧ GAt r h 2 1 n (iCells f n) v)
theorem IG.zero {r : Nat} {h : H} {f : Nat → Int} : IG r h 0 f none := .inl ⟨rfl, rfl⟩
theorem IG.frame {r n : Nat} {h h' : H} {f : Nat → Int} {v : Option Addr} (k : IG r h n f v) (e : 0 < n → h'.get r = h.get r) : IG r h' n f v :=
  k.imp id fun ⟨h0, G⟩ => ⟨h0, G.frame (e h0)⟩
theorem IG.row {r n : Nat} {h : H} {f : Nat → Int} {v : Option Addr} (k : IG r h n f v) (h0 : 0 < n) : IRow r h n f v := by
  rcases k with ⟨h1, -⟩ | ⟨-, G⟩
  · omega
  · exact .inr G
theorem q_appI {P : Program} {lo nid : Nat} {ts : Ts} {h : H} {k : Value → H → Prop} {r n bytes : Nat} {f : Nat → Int} {v : Option Addr} {sx x : Opd} (G : IG r h n f v) (hsv : ev ts sx = .slice v n 0) (C : Cells h 1 1 (ev ts x) [.int .i64 (f n)]) (hlo : lo ≤ nid) (hlr : 0 < n → lo ≤ r ∧ r < nid) (hsm : (n + 2) * (bytes + 1) ≤ 1099511627776)
    (hr : ∀ v' r' row, (n = 0 → r' = nid) → (0 < n → r' = r) → r' < nid + 1 → IG r' (h.put r' row) (n + 1) f v' → k (.slice v' (n + 1) 0) (h.put r' row)) : OpE P lo nid ts h (.append 2 1 bytes sx x) k := by
  have e : iCells f (n + 1) = iCells f n ++ [.int .i64 (f n)] := by unfold iCells; rfl
  rcases G with ⟨rfl, rfl⟩ | ⟨h0, G⟩
  · apply q_appG (b := nid) (N := nid) (n := 0) (m := 1) (cs := []) (nc := [.int .i64 (f 0)])
    case hsv => exact hsv
    case G => exact Grown.nil
    case C => exact C
    case hm => omega
    case hlo => omega
    case hb => omega
    case hN => omega
    case hsm => omega
    intro v' j row hj1 hj2 hj3 G'
    obtain ⟨r4, G4, hr4, hr4'⟩ := G'.gat (by omega)
    have hje : j = nid := by omega
    subst hje
    obtain rfl : r4 = j := by omega
    exact hr v' r4 row (fun _ => rfl) (fun h => absurd h (Nat.lt_irrefl 0)) (by omega) (.inr ⟨by omega, by rw [e]; unfold iCells; exact G4⟩)
  · apply q_appA (r := r) (n := n) (m := 1) (cs := iCells f n) (nc := [.int .i64 (f n)])
    case hsv => exact hsv
    case G => exact G
    case C => exact C
    case hm => omega
    case hlo => exact (hlr h0).1
    case hsm => omega
    intro v' row G5
    exact hr v' r row (fun h => by omega) (fun _ => rfl) (by have := hlr h0; omega) (.inr ⟨by omega, by rw [e]; exact G5⟩)
end AE.Try
