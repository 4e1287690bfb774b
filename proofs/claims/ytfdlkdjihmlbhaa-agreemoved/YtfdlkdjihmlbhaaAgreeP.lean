/- Walks of agree: the bounds of the definitions. -/
import Derived.Test.YtfdlkdjihmlbhaaAgreeO
set_option linter.unusedVariables false
set_option linter.unusedSimpArgs false
set_option linter.unusedSectionVars false
namespace AE.Try
set_option linter.unusedSimpArgs false
open Go AE AE.Ag AgreeS Go.Proofs
set_option maxRecDepth 100000

def Far : Int := 1125899906842624
def bnd (B : Net) (i j : Nat) : Int := (B i j).getD Far
def upd2 (M : Nat → Nat → Int) (i j : Nat) (v : Int) : Nat → Nat → Int := fun i' j' => if i' = i ∧ j' = j then v else M i' j'
theorem bnd_put {B : Net} {f t : Nat} {m : Int} (hm : m ≤ Far) : bnd (AgreeS.put B f t m) = upd2 (bnd B) f t (min (bnd B f t) m) := by
  funext i j
  simp only [bnd, AgreeS.put, upd2]
  split
  · cases e : B f t with
    | none => simp only [Option.getD_some, Option.getD_none]; omega
    | some o => simp only [Option.getD_some]; omega
  · rfl
theorem put_none {B : Net} {f t i j : Nat} {m : Int} (h : B i j = none) (hne : ¬ (i = f ∧ j = t)) : AgreeS.put B f t m i j = none := by simp only [AgreeS.put, if_neg hne, h]
theorem tank_none (T : Tab) : ∀ k i, k ≤ i → tankTo T k 0 (1 + i) = none ∧ tankTo T k (1 + i) 0 = none
  | 0, i, _ => ⟨rfl, rfl⟩
  | k + 1, i, h => by
    obtain ⟨a, b⟩ := tank_none T k i (by omega)
    rw [tankTo_succ]
    unfold putTank
    exact ⟨put_none (put_none a (by omega)) (by omega), put_none (put_none b (by omega)) (by omega)⟩

theorem iCells_add (f : Nat → Int) (n : Nat) : iCells f n ++ [.int .i64 (f n)] = iCells f (n + 1) := by unfold iCells; rfl
theorem iCells_zero (f : Nat → Int) : iCells f 0 = [] := by unfold iCells; rfl
theorem iCells_cut {f : Nat → Int} {n i : Nat} (hi : i < n) : cut (iCells f n) i 1 = some [.int .i64 (f i)] := by
  have := cut_rowsOf (g := fun i => [Value.int .i64 (f i)]) (w := 1) (fun _ => rfl) hi [] [] (a := i) (by simp)
  unfold iCells
  simpa using this

def rowV (va : Nat → Addr) (N i : Nat) : List Value := [.slice (some (va i)) N 0]
/-- s rows of a list of lists, N numbers each. -/
structure PB (s N : Nat) (M : Nat → Nat → Int) (b m : Nat) (h : H) (v4 : Option Addr) (va : Nat → Addr) : Prop where
  row : ∀ i, i < s → GAt (va i).block h 2 1 N (iCells (M i) N) (some (va i))
  rng : ∀ i, i < s → b ≤ (va i).block ∧ (va i).block < m
  inj : ∀ i j, i < s → j < s → (va i).block = (va j).block → i = j
  nil : s = 0 → v4 = none
  out : 0 < s → ∃ a4, v4 = some a4 ∧ GAt a4.block h 27 1 s (rowsOf (rowV va N) s) (some a4) ∧ (b ≤ a4.block ∧ a4.block < m) ∧ ∀ i, i < s → (va i).block ≠ a4.block
theorem PB.frame {s N b m m' : Nat} {M : Nat → Nat → Int} {h h' : H} {v4 : Option Addr} {va : Nat → Addr} (k : PB s N M b m h v4 va) (hm : m ≤ m') (hs : ∀ r, b ≤ r → r < m → h'.get r = h.get r) : PB s N M b m' h' v4 va :=
  ⟨fun i hi => (k.row i hi).frame (hs _ (k.rng i hi).1 (k.rng i hi).2), fun i hi => by have := k.rng i hi; omega, k.inj, k.nil, fun h0 => by
    obtain ⟨a4, h1, h2, h3, h4⟩ := k.out h0
    exact ⟨a4, h1, h2.frame (hs _ h3.1 h3.2), by omega, h4⟩⟩
theorem PB.lower {s N b b' m : Nat} {M : Nat → Nat → Int} {h : H} {v4 : Option Addr} {va : Nat → Addr} (k : PB s N M b m h v4 va) (hb : b' ≤ b) : PB s N M b' m h v4 va :=
  ⟨k.row, fun i hi => by have := k.rng i hi; omega, k.inj, k.nil, fun h0 => by
    obtain ⟨a4, h1, h2, h3, h4⟩ := k.out h0
    exact ⟨a4, h1, h2, by omega, h4⟩⟩
def updA (va : Nat → Addr) (s : Nat) (a : Addr) : Nat → Addr := fun i => if i = s then a else va i
/-- A store into a row. -/
theorem PB.store {s N b m i j lo : Nat} {M : Nat → Nat → Int} {h : H} {v4 : Option Addr} {va : Nat → Addr} (k : PB s N M b m h v4 va) (hi : i < s) (hj : j < N) (hlo : lo ≤ b) (v : Int) :
    ∃ row, h.storeN lo (aadd (va i) (j * 1)) [.int .i64 v] = some (h.put (va i).block row) ∧ PB s N (upd2 M i j v) b m (h.put (va i).block row) v4 va := by
  obtain ⟨a, ha, hb, hld, hst⟩ := (k.row i hi).load
  simp only [Option.some.injEq] at ha
  subst ha
  obtain ⟨row, h1, h2⟩ := hst lo (j * 1) [.int .i64 v] (by have := k.rng i hi; omega) rfl (by rw [iCells_len]; simp; omega)
  refine ⟨row, h1, fun i' hi' => ?_, k.rng, k.inj, k.nil, fun h0 => ?_⟩
  · by_cases e : i' = i
    · subst e
      rw [iCells_set _ _ hj (by omega)] at h2
      have : upd2 M i' j v i' = updN (M i') j v := by funext x; simp [upd2, updN]
      rw [this]
      exact h2
    · have : upd2 M i j v i' = M i' := by funext x; simp [upd2, e]
      rw [this]
      exact (k.row i' hi').frame (by simp only [H.put]; rw [if_neg (fun hbk => e (k.inj _ _ hi' hi hbk))])
  · obtain ⟨a4, h1', h2', h3, h4⟩ := k.out h0
    exact ⟨a4, h1', h2'.frame (by simp only [H.put]; rw [if_neg (fun hbk => h4 i hi hbk.symm)]), h3, h4⟩
theorem PB.outer {s N b m i : Nat} {M : Nat → Nat → Int} {h : H} {a4 : Addr} {va : Nat → Addr} (k : PB s N M b m h (some a4) va) (hi : i < s) : h.loadN (aadd a4 (i * 1)) 1 = some [.slice (some (va i)) N 0] := by
  obtain ⟨a', ha, hG, -⟩ := k.out (by omega)
  simp only [Option.some.injEq] at ha
  subst ha
  obtain ⟨a, ha, hb, hld, hst⟩ := hG.load
  simp only [Option.some.injEq] at ha
  subst ha
  refine hld _ _ _ ?_
  have := cut_rowsOf (g := rowV va N) (w := 1) (fun _ => rfl) hi [] [] (a := i * 1) (by simp)
  simpa [rowV] using this
theorem PB.inner {s N b m i j : Nat} {M : Nat → Nat → Int} {h : H} {v4 : Option Addr} {va : Nat → Addr} (k : PB s N M b m h v4 va) (hi : i < s) (hj : j < N) : h.loadN (aadd (va i) (j * 1)) 1 = some [.int .i64 (M i j)] := by
  obtain ⟨a, ha, hb, hld, hst⟩ := (k.row i hi).load
  simp only [Option.some.injEq] at ha
  subst ha
  refine hld _ _ _ ?_
  rw [Nat.mul_one]
  exact iCells_cut hj
theorem PB.next {s N b m m' : Nat} {M : Nat → Nat → Int} {h h' : H} {v4 : Option Addr} {va : Nat → Addr} {a6 a4 : Addr} (k : PB s N M b m h v4 va) (hm : m ≤ m') (hbm : b ≤ m) (hs : ∀ r, b ≤ r → r < m → (0 < s → r ≠ a4.block) → h'.get r = h.get r) (h4 : 0 < s → ∃ a, v4 = some a ∧ a.block = a4.block)
    (G6 : GAt a6.block h' 2 1 N (iCells (M s) N) (some a6)) (r6 : m ≤ a6.block ∧ a6.block < m') (G4 : GAt a4.block h' 27 1 (s + 1) (rowsOf (rowV va N) s ++ [.slice (some a6) N 0]) (some a4)) (n4 : s = 0 → m ≤ a4.block ∧ a4.block < m' ∧ a4.block ≠ a6.block) : PB (s + 1) N M b m' h' (some a4) (updA va s a6) := by
  have old : ∀ i, i < s → updA va s a6 i = va i := fun i hi => by simp only [updA]; rw [if_neg (by omega)]
  have new : updA va s a6 s = a6 := by simp [updA]
  have ne4 : ∀ i, i < s → (va i).block ≠ a4.block := fun i hi => by
    obtain ⟨a, e1, e2⟩ := h4 (by omega)
    obtain ⟨a', e3, -, -, e4⟩ := k.out (by omega)
    rw [e1] at e3
    simp only [Option.some.injEq] at e3
    subst e3
    rw [← e2]
    exact e4 i hi
  have r4 : b ≤ a4.block ∧ a4.block < m' ∧ a4.block ≠ a6.block := by
    rcases Nat.eq_zero_or_pos s with h0 | h0
    · have := n4 h0; omega
    · obtain ⟨a, e1, e2⟩ := h4 h0
      obtain ⟨a', e3, -, e5, -⟩ := k.out h0
      rw [e1] at e3
      simp only [Option.some.injEq] at e3
      subst e3
      omega
  refine ⟨fun i hi => ?_, fun i hi => ?_, fun i j hi hj => ?_, fun h => by omega, fun _ => ⟨a4, rfl, ?_, by omega, fun i hi => ?_⟩⟩
  · by_cases e : i = s
    · subst e; rw [new]; exact G6
    · rw [old i (by omega)]
      have := k.rng i (by omega)
      exact (k.row i (by omega)).frame (hs _ this.1 this.2 fun _ => ne4 i (by omega))
  · by_cases e : i = s
    · subst e; rw [new]; omega
    · rw [old i (by omega)]
      have := k.rng i (by omega)
      omega
  · by_cases e : i = s
    · by_cases e' : j = s
      · omega
      · subst e
        rw [new, old j (by omega)]
        have := k.rng j (by omega)
        omega
    · by_cases e' : j = s
      · subst e'
        rw [new, old i (by omega)]
        have := k.rng i (by omega)
        omega
      · rw [old i (by omega), old j (by omega)]
        exact k.inj i j (by omega) (by omega)
  · have : rowsOf (rowV (updA va s a6) N) (s + 1) = rowsOf (rowV va N) s ++ [.slice (some a6) N 0] := by
      show rowsOf (rowV (updA va s a6) N) s ++ rowV (updA va s a6) N s = _
      rw [rowsOf_congr (f := rowV (updA va s a6) N) (g := rowV va N) s fun i hi => by simp only [rowV, old i hi]]
      simp only [rowV, new]
    rw [this]
    exact G4
  · by_cases e : i = s
    · subst e; rw [new]; omega
    · rw [old i (by omega)]; exact ne4 i (by omega)

theorem sto_pb {s N b m i j lo : Nat} {M : Nat → Nat → Int} {h : H} {v4 : Option Addr} {va : Nat → Addr} {v : Int} {k : H → Prop} (hP : PB s N M b m h v4 va) (hi : i < s) (hj : j < N) (hlo : lo ≤ b)
    (hk : ∀ row, PB s N (upd2 M i j v) b m (h.put (va i).block row) v4 va → k (h.put (va i).block row)) : Sto lo h (aadd (va i) (j * 1)) 1 [.int .i64 v] k := by
  obtain ⟨row, h1, h2⟩ := hP.store hi hj hlo v
  exact .raw h1 rfl (hk row h2)

set_option maxHeartbeats 2000000 in
theorem bounds_w {h : H} {T : Tab} {m : Nat} (hm : m ≤ h.next) (hT : T.Ok m h) (hv : T.Valid) :
    AW Try.prog 44 h.next h [.agg ⟨T.cells⟩] (fun v h' => ∃ a4 va, v = .slice (some a4) T.toTable.many 0 ∧ PB T.toTable.many T.toTable.many (bnd (netOf T.toTable)) h.next h'.next h' (some a4) va) := by
  have hok := hv.ok
  have hmm := hok.many
  have hTd := hT
  obtain ⟨te, ti, tr, tl⟩ := hTd
  obtain ⟨n24, t1, t2, h1, h2, hb, hf⟩ := hv
  unfold isR at hb hf
  obtain ⟨N, hN, hNi⟩ : ∃ N, N = T.toTable.many ∧ (N : Int) = 1 + T.tanks + T.hulls := ⟨_, rfl, by simp only [Table.many, Tab.toTable]; omega⟩
  rw [← hN] at hmm ⊢
  refine fun44.call rfl (by omega) ?_
  unfold a44
  (focus ((try with_reducible apply wpC.to); (repeat' ((conv => whnf); first | ((apply Start.mk); (focus exact byNext); (focus exact byLen)) | ((apply New.mk); (focus exact byNid)) | ((apply Need.mk); (focus exact byNeed)) | ((apply Fork.mk) <;> (intro _; try (exfalso; omega; done))) | ((apply Load1.mk); (focus exact byMem); (focus exact byVal)) | ((apply LoadN.mk); (focus exact byMem); (focus exact byList)) | ((apply Sto.mk); (focus exact bySto); (focus exact byLo); (focus exact byGet); (focus exact rfl); (focus exact rfl); (focus exact rfl); (focus exact byList)) | ((with_reducible apply Ix.nat); (focus exact rfl); (focus omega)) | ((with_reducible apply Ix.natp); (focus assumption); (focus omega)) | ((with_reducible apply Ix.pred); (focus first | assumption | exact fun _ => rfl); (focus omega); (focus omega)) | ((with_reducible apply Ix.lit); (focus exact byLit); (focus first | assumption | exact fun _ => rfl); (focus omega); (focus omega)) | ((with_reducible apply Ix.int); (focus exact rfl); (focus omega); (focus omega)) | ((with_reducible apply Ix.intp); (focus assumption); (focus omega); (focus omega)) | apply forceV_any | apply forceL_any)); all_goals (conv => whnf); all_goals (try with_reducible apply At.mk)))
  refine wp_loop (fun s : Nat × Option Addr × (Nat → Addr) => [(1, .pointer (some ⟨h.next, 0, none⟩)), (3, .int .i64 (1 + T.tanks + T.hulls)), (4, .slice s.2.1 s.1 0), (5, .int .i64 s.1)])
    (fun s h1 => Same h.next h h1 ∧ h.next + 1 ≤ h1.next ∧ s.1 ≤ N ∧ h1.get h.next = some (.cells T.cells 26) ∧ PB s.1 N (fun _ _ => Far) (h.next + 1) h1.next h1 s.2.1 s.2.2) (fun s => N - s.1) (0, none, fun _ => ⟨0, 0, none⟩)
    ⟨rfl, rfl, rfl, rfl, trivial⟩ ⟨by (exact bySame), by (exact byOm), by simp only; omega, by (exact byGet), ⟨fun i hi => absurd hi (Nat.not_lt_zero i), fun i hi => absurd hi (Nat.not_lt_zero i), fun i j hi => absurd hi (Nat.not_lt_zero i), fun _ => rfl, fun h => absurd h (Nat.lt_irrefl 0)⟩⟩ ?_
  rintro ⟨s, v4, va⟩ g h1 ⟨sm, hn, hs, g1, hP⟩ K hK
  simp only at hs hP hK
  (focus ((try with_reducible apply wpC.to); (repeat' ((conv => whnf); first | ((apply Start.mk); (focus exact byNext); (focus exact byLen)) | ((apply New.mk); (focus exact byNid)) | ((apply Need.mk); (focus exact byNeed)) | ((apply Fork.mk) <;> (intro _; try (exfalso; omega; done))) | ((apply Load1.mk); (focus exact byMem); (focus exact byVal)) | ((apply LoadN.mk); (focus exact byMem); (focus exact byList)) | ((apply Sto.mk); (focus exact bySto); (focus exact byLo); (focus exact byGet); (focus exact rfl); (focus exact rfl); (focus exact rfl); (focus exact byList)) | ((with_reducible apply Ix.nat); (focus exact rfl); (focus omega)) | ((with_reducible apply Ix.natp); (focus assumption); (focus omega)) | ((with_reducible apply Ix.pred); (focus first | assumption | exact fun _ => rfl); (focus omega); (focus omega)) | ((with_reducible apply Ix.lit); (focus exact byLit); (focus first | assumption | exact fun _ => rfl); (focus omega); (focus omega)) | ((with_reducible apply Ix.int); (focus exact rfl); (focus omega); (focus omega)) | ((with_reducible apply Ix.intp); (focus assumption); (focus omega); (focus omega)) | apply forceV_any | apply forceL_any)); all_goals (conv => whnf); all_goals (try with_reducible apply At.mk)))
  · refine wp_loop (fun u : Nat × Option Addr => [(1, .pointer (some ⟨h.next, 0, none⟩)), (3, .int .i64 (1 + T.tanks + T.hulls)), (4, .slice v4 s 0), (5, .int .i64 s), (6, .slice u.2 u.1 0), (7, .int .i64 u.1)])
      (fun u h2 => Same h1.next h1 h2 ∧ h1.next ≤ h2.next ∧ u.1 ≤ N ∧ Grown h1.next h2.next h2 2 1 u.1 (iCells (fun _ => Far) u.1) u.2) (fun u => N - u.1) (0, none)
      ⟨rfl, rfl, rfl, rfl, rfl, rfl, trivial⟩ ⟨by (exact bySame), by (exact byOm), by simp only; omega, by simp only [iCells_zero]; exact Grown.nil⟩ ?_
    rintro ⟨u, v6⟩ g' h2 ⟨sm2, hn2, hu, G⟩ K' hK'
    simp only at hu G hK'
    (focus ((try with_reducible apply wpC.to); (repeat' ((conv => whnf); first | ((apply Start.mk); (focus exact byNext); (focus exact byLen)) | ((apply New.mk); (focus exact byNid)) | ((apply Need.mk); (focus exact byNeed)) | ((apply Fork.mk) <;> (intro _; try (exfalso; omega; done))) | ((apply Load1.mk); (focus exact byMem); (focus exact byVal)) | ((apply LoadN.mk); (focus exact byMem); (focus exact byList)) | ((apply Sto.mk); (focus exact bySto); (focus exact byLo); (focus exact byGet); (focus exact rfl); (focus exact rfl); (focus exact rfl); (focus exact byList)) | ((with_reducible apply Ix.nat); (focus exact rfl); (focus omega)) | ((with_reducible apply Ix.natp); (focus assumption); (focus omega)) | ((with_reducible apply Ix.pred); (focus first | assumption | exact fun _ => rfl); (focus omega); (focus omega)) | ((with_reducible apply Ix.lit); (focus exact byLit); (focus first | assumption | exact fun _ => rfl); (focus omega); (focus omega)) | ((with_reducible apply Ix.int); (focus exact rfl); (focus omega); (focus omega)) | ((with_reducible apply Ix.intp); (focus assumption); (focus omega); (focus omega)) | apply forceV_any | apply forceL_any)); all_goals (conv => whnf); all_goals (try with_reducible apply At.mk)))
    · apply q_appG (b := h1.next) (N := h2.next) (n := u) (m := 1) (nc := [.int .i64 Far])
      case hsv => exact rfl
      case G => exact G.frame (Nat.le_refl _) fun j hj1 hj2 => get_of fun y hy => by (exact byGet)
      case C => exact Cells.one (by (exact byMem)) (by unfold far; omega) rfl rfl
      case hm => omega
      case hlo => (exact byOm)
      case hb => (exact byOm)
      case hN => (exact byOm)
      case hsm => omega
      intro v' j row hj1 hj2 hj3 G'
      rw [show iCells (fun _ => Far) u ++ [.int .i64 Far] = iCells (fun _ => Far) (u + 1) from iCells_add (fun _ => Far) u] at G'
      (focus ((try with_reducible apply wpC.to); (repeat' ((conv => whnf); first | ((apply Start.mk); (focus exact byNext); (focus exact byLen)) | ((apply New.mk); (focus exact byNid)) | ((apply Need.mk); (focus exact byNeed)) | ((apply Fork.mk) <;> (intro _; try (exfalso; omega; done))) | ((apply Load1.mk); (focus exact byMem); (focus exact byVal)) | ((apply LoadN.mk); (focus exact byMem); (focus exact byList)) | ((apply Sto.mk); (focus exact bySto); (focus exact byLo); (focus exact byGet); (focus exact rfl); (focus exact rfl); (focus exact rfl); (focus exact byList)) | ((with_reducible apply Ix.nat); (focus exact rfl); (focus omega)) | ((with_reducible apply Ix.natp); (focus assumption); (focus omega)) | ((with_reducible apply Ix.pred); (focus first | assumption | exact fun _ => rfl); (focus omega); (focus omega)) | ((with_reducible apply Ix.lit); (focus exact byLit); (focus first | assumption | exact fun _ => rfl); (focus omega); (focus omega)) | ((with_reducible apply Ix.int); (focus exact rfl); (focus omega); (focus omega)) | ((with_reducible apply Ix.intp); (focus assumption); (focus omega); (focus omega)) | apply forceV_any | apply forceL_any)); all_goals (conv => whnf); all_goals (try with_reducible apply At.mk)))
      refine hK' (u + 1, v') _ _ ⟨rfl, rfl, rfl, rfl, rfl, int_of rfl (by simp only; omega), trivial⟩ ⟨by (exact bySame), by (exact byOm), by simp only; omega, ?_⟩ (by simp only; omega)
      exact G'.frame (by (exact byOm)) fun i hi1 hi2 => get_of fun y hy => by (exact byGet)
    · have : u = N := by simp only at *; omega
      subst this
      obtain ⟨r6, G6, hr6, hr6'⟩ := G.gat (by omega)
      obtain ⟨a6, rfl, hb6, -, -⟩ := G6.load
      subst hb6
      rcases Nat.eq_zero_or_pos s with h0 | h0
      · subst h0
        obtain rfl := hP.nil rfl
        apply q_appG (b := h2.next) (N := h2.next) (n := 0) (m := 1) (cs := []) (nc := [.slice (some a6) u 0])
        case hsv => exact rfl
        case G => exact Grown.nil
        case C => exact Cells.one (by (exact byMem)) (by unfold far; omega) rfl rfl
        case hm => omega
        case hlo => (exact byOm)
        case hb => (exact byOm)
        case hN => (exact byOm)
        case hsm => omega
        intro v' j row hj1 hj2 hj3 G'
        obtain ⟨r4, G4, hr4, hr4'⟩ := G'.gat (by omega)
        obtain ⟨a4, rfl, hb4, -, -⟩ := G4.load
        subst hb4
        (focus ((try with_reducible apply wpC.to); (repeat' ((conv => whnf); first | ((apply Start.mk); (focus exact byNext); (focus exact byLen)) | ((apply New.mk); (focus exact byNid)) | ((apply Need.mk); (focus exact byNeed)) | ((apply Fork.mk) <;> (intro _; try (exfalso; omega; done))) | ((apply Load1.mk); (focus exact byMem); (focus exact byVal)) | ((apply LoadN.mk); (focus exact byMem); (focus exact byList)) | ((apply Sto.mk); (focus exact bySto); (focus exact byLo); (focus exact byGet); (focus exact rfl); (focus exact rfl); (focus exact rfl); (focus exact byList)) | ((with_reducible apply Ix.nat); (focus exact rfl); (focus omega)) | ((with_reducible apply Ix.natp); (focus assumption); (focus omega)) | ((with_reducible apply Ix.pred); (focus first | assumption | exact fun _ => rfl); (focus omega); (focus omega)) | ((with_reducible apply Ix.lit); (focus exact byLit); (focus first | assumption | exact fun _ => rfl); (focus omega); (focus omega)) | ((with_reducible apply Ix.int); (focus exact rfl); (focus omega); (focus omega)) | ((with_reducible apply Ix.intp); (focus assumption); (focus omega); (focus omega)) | apply forceV_any | apply forceL_any)); all_goals (conv => whnf); all_goals (try with_reducible apply At.mk)))
        refine hK (1, some a4, updA va 0 a6) _ _ ⟨rfl, rfl, rfl, int_of rfl (by simp only; omega), trivial⟩ ⟨by have sm' : Same h.next h h2 := sm.trans (sm2.mono (by omega)); (exact bySame), by (exact byOm), by simp only; omega, by (exact byGet), ?_⟩ (by simp only; omega)
        exact PB.next (s := 0) hP (by (exact byOm)) (by omega) (fun r hr1 hr2 _ => get_of fun y hy => by (exact byGet)) (fun h => absurd h (Nat.lt_irrefl 0)) (G6.frame (get_of fun y hy => by (exact byGet))) ⟨by omega, by (exact byOm)⟩ (G4.frame (get_of fun y hy => by (exact byGet))) (fun _ => ⟨by omega, by (exact byOm), by omega⟩)
      · obtain ⟨a4, rfl, G4, hr4, hne4⟩ := hP.out h0
        have G4' : GAt a4.block h2 27 1 s (rowsOf (rowV va u) s) (some a4) := G4.frame (get_of fun y hy => by (exact byGet))
        apply q_appA (r := a4.block) (n := s) (m := 1) (cs := rowsOf (rowV va u) s) (nc := [.slice (some a6) u 0])
        case hsv => exact rfl
        case G => exact G4'.frame (get_of fun y hy => by (exact byGet))
        case C => exact Cells.one (by (exact byMem)) (by unfold far; omega) rfl rfl
        case hm => omega
        case hlo => (exact byOm)
        case hsm => omega
        intro v' row G5
        obtain ⟨a5, rfl, hb5, -, -⟩ := G5.load
        rw [← hb5] at G5 ⊢
        (focus ((try with_reducible apply wpC.to); (repeat' ((conv => whnf); first | ((apply Start.mk); (focus exact byNext); (focus exact byLen)) | ((apply New.mk); (focus exact byNid)) | ((apply Need.mk); (focus exact byNeed)) | ((apply Fork.mk) <;> (intro _; try (exfalso; omega; done))) | ((apply Load1.mk); (focus exact byMem); (focus exact byVal)) | ((apply LoadN.mk); (focus exact byMem); (focus exact byList)) | ((apply Sto.mk); (focus exact bySto); (focus exact byLo); (focus exact byGet); (focus exact rfl); (focus exact rfl); (focus exact rfl); (focus exact byList)) | ((with_reducible apply Ix.nat); (focus exact rfl); (focus omega)) | ((with_reducible apply Ix.natp); (focus assumption); (focus omega)) | ((with_reducible apply Ix.pred); (focus first | assumption | exact fun _ => rfl); (focus omega); (focus omega)) | ((with_reducible apply Ix.lit); (focus exact byLit); (focus first | assumption | exact fun _ => rfl); (focus omega); (focus omega)) | ((with_reducible apply Ix.int); (focus exact rfl); (focus omega); (focus omega)) | ((with_reducible apply Ix.intp); (focus assumption); (focus omega); (focus omega)) | apply forceV_any | apply forceL_any)); all_goals (conv => whnf); all_goals (try with_reducible apply At.mk)))
        refine hK (s + 1, some a5, updA va s a6) _ _ ⟨rfl, rfl, rfl, int_of rfl (by simp only; omega), trivial⟩ ⟨by have sm' : Same h.next h h2 := sm.trans (sm2.mono (by omega)); (exact bySame), by (exact byOm), by simp only; omega, by (exact byGet), ?_⟩ (by simp only; omega)
        exact PB.next hP (by (exact byOm)) (by omega) (fun r hr1 hr2 hne => get_of fun y hy => by have := hne h0; (exact byGet)) (fun _ => ⟨a4, rfl, by omega⟩) (G6.frame (get_of fun y hy => by (exact byGet))) ⟨by omega, by (exact byOm)⟩ (G5.frame (get_of fun y hy => by (exact byGet))) (fun h => by omega)
  have : s = N := by simp only at *; omega
  subst this
  obtain ⟨a4, rfl, -⟩ := hP.out (by omega)
  clear hK K
  refine wp_loop (fun u : Nat => [(1, .pointer (some ⟨h.next, 0, none⟩)), (4, .slice (some a4) s 0), (8, .int .i64 u)])
    (fun u h2 => Same h.next h h2 ∧ h.next + 1 ≤ h2.next ∧ (u : Int) ≤ T.tanks ∧ h2.get h.next = some (.cells T.cells 26) ∧ PB s s (bnd (tankTo T u)) (h.next + 1) h2.next h2 (some a4) va) (fun u => T.tanks.toNat - u) 0
    ⟨rfl, rfl, rfl, trivial⟩ ⟨by (exact bySame), by (exact byOm), by omega, by (exact byGet), hP.frame (by (exact byOm)) fun r hr1 hr2 => rfl⟩ ?_
  clear g1 hP sm hn g
  rintro u g h2 ⟨sm, hn, hu, g1, hP⟩ K hK
  (focus ((try with_reducible apply wpC.to); (repeat' ((conv => whnf); first | ((apply Start.mk); (focus exact byNext); (focus exact byLen)) | ((apply New.mk); (focus exact byNid)) | ((apply Need.mk); (focus exact byNeed)) | ((apply Fork.mk) <;> (intro _; try (exfalso; omega; done))) | ((apply Load1.mk); (focus exact byMem); (focus exact byVal)) | ((apply LoadN.mk); (focus exact byMem); (focus exact byList)) | ((apply Sto.mk); (focus exact bySto); (focus exact byLo); (focus exact byGet); (focus exact rfl); (focus exact rfl); (focus exact rfl); (focus exact byList)) | ((with_reducible apply Ix.nat); (focus exact rfl); (focus omega)) | ((with_reducible apply Ix.natp); (focus assumption); (focus omega)) | ((with_reducible apply Ix.pred); (focus first | assumption | exact fun _ => rfl); (focus omega); (focus omega)) | ((with_reducible apply Ix.lit); (focus exact byLit); (focus first | assumption | exact fun _ => rfl); (focus omega); (focus omega)) | ((with_reducible apply Ix.int); (focus exact rfl); (focus omega); (focus omega)) | ((with_reducible apply Ix.intp); (focus assumption); (focus omega); (focus omega)) | apply forceV_any | apply forceL_any)); all_goals (conv => whnf); all_goals (try with_reducible apply At.mk)))
  · have hun := tank_none T u u (Nat.le_refl _)
    refine Load1.mk (hP.outer (i := 0) (by omega)) rfl ?_
    (focus ((try with_reducible apply wpC.to); (repeat' ((conv => whnf); first | ((apply Start.mk); (focus exact byNext); (focus exact byLen)) | ((apply New.mk); (focus exact byNid)) | ((apply Need.mk); (focus exact byNeed)) | ((apply Fork.mk) <;> (intro _; try (exfalso; omega; done))) | ((apply Load1.mk); (focus exact byMem); (focus exact byVal)) | ((apply LoadN.mk); (focus exact byMem); (focus exact byList)) | ((apply Sto.mk); (focus exact bySto); (focus exact byLo); (focus exact byGet); (focus exact rfl); (focus exact rfl); (focus exact rfl); (focus exact byList)) | ((with_reducible apply Ix.nat); (focus exact rfl); (focus omega)) | ((with_reducible apply Ix.natp); (focus assumption); (focus omega)) | ((with_reducible apply Ix.pred); (focus first | assumption | exact fun _ => rfl); (focus omega); (focus omega)) | ((with_reducible apply Ix.lit); (focus exact byLit); (focus first | assumption | exact fun _ => rfl); (focus omega); (focus omega)) | ((with_reducible apply Ix.int); (focus exact rfl); (focus omega); (focus omega)) | ((with_reducible apply Ix.intp); (focus assumption); (focus omega); (focus omega)) | apply forceV_any | apply forceL_any)); all_goals (conv => whnf); all_goals (try with_reducible apply At.mk)))
    refine Load1.mk (hP.outer (i := 1 + u) (by omega)) rfl ?_
    (focus ((try with_reducible apply wpC.to); (repeat' ((conv => whnf); first | ((apply Start.mk); (focus exact byNext); (focus exact byLen)) | ((apply New.mk); (focus exact byNid)) | ((apply Need.mk); (focus exact byNeed)) | ((apply Fork.mk) <;> (intro _; try (exfalso; omega; done))) | ((apply Load1.mk); (focus exact byMem); (focus exact byVal)) | ((apply LoadN.mk); (focus exact byMem); (focus exact byList)) | ((apply Sto.mk); (focus exact bySto); (focus exact byLo); (focus exact byGet); (focus exact rfl); (focus exact rfl); (focus exact rfl); (focus exact byList)) | ((with_reducible apply Ix.nat); (focus exact rfl); (focus omega)) | ((with_reducible apply Ix.natp); (focus assumption); (focus omega)) | ((with_reducible apply Ix.pred); (focus first | assumption | exact fun _ => rfl); (focus omega); (focus omega)) | ((with_reducible apply Ix.lit); (focus exact byLit); (focus first | assumption | exact fun _ => rfl); (focus omega); (focus omega)) | ((with_reducible apply Ix.int); (focus exact rfl); (focus omega); (focus omega)) | ((with_reducible apply Ix.intp); (focus assumption); (focus omega); (focus omega)) | apply forceV_any | apply forceL_any)); all_goals (conv => whnf); all_goals (try with_reducible apply At.mk)))
    have r0 := hP.rng 0 (by omega)
    have r1 := hP.rng (1 + u) (by omega)
    refine sto_pb (hP.frame (Nat.le_refl _) fun r hr1 hr2 => get_of fun y hy => by (exact byGet)) (i := 0) (j := 1 + u) (by omega) (by omega) (by omega) fun row hP2 => ?_
    (focus ((try with_reducible apply wpC.to); (repeat' ((conv => whnf); first | ((apply Start.mk); (focus exact byNext); (focus exact byLen)) | ((apply New.mk); (focus exact byNid)) | ((apply Need.mk); (focus exact byNeed)) | ((apply Fork.mk) <;> (intro _; try (exfalso; omega; done))) | ((apply Load1.mk); (focus exact byMem); (focus exact byVal)) | ((apply LoadN.mk); (focus exact byMem); (focus exact byList)) | ((apply Sto.mk); (focus exact bySto); (focus exact byLo); (focus exact byGet); (focus exact rfl); (focus exact rfl); (focus exact rfl); (focus exact byList)) | ((with_reducible apply Ix.nat); (focus exact rfl); (focus omega)) | ((with_reducible apply Ix.natp); (focus assumption); (focus omega)) | ((with_reducible apply Ix.pred); (focus first | assumption | exact fun _ => rfl); (focus omega); (focus omega)) | ((with_reducible apply Ix.lit); (focus exact byLit); (focus first | assumption | exact fun _ => rfl); (focus omega); (focus omega)) | ((with_reducible apply Ix.int); (focus exact rfl); (focus omega); (focus omega)) | ((with_reducible apply Ix.intp); (focus assumption); (focus omega); (focus omega)) | apply forceV_any | apply forceL_any)); all_goals (conv => whnf); all_goals (try with_reducible apply At.mk)))
    refine sto_pb (hP2.frame (Nat.le_refl _) fun r hr1 hr2 => get_of fun y hy => by (exact byGet)) (i := 1 + u) (j := 0) (by omega) (by omega) (by omega) fun row2 hP3 => ?_
    (focus ((try with_reducible apply wpC.to); (repeat' ((conv => whnf); first | ((apply Start.mk); (focus exact byNext); (focus exact byLen)) | ((apply New.mk); (focus exact byNid)) | ((apply Need.mk); (focus exact byNeed)) | ((apply Fork.mk) <;> (intro _; try (exfalso; omega; done))) | ((apply Load1.mk); (focus exact byMem); (focus exact byVal)) | ((apply LoadN.mk); (focus exact byMem); (focus exact byList)) | ((apply Sto.mk); (focus exact bySto); (focus exact byLo); (focus exact byGet); (focus exact rfl); (focus exact rfl); (focus exact rfl); (focus exact byList)) | ((with_reducible apply Ix.nat); (focus exact rfl); (focus omega)) | ((with_reducible apply Ix.natp); (focus assumption); (focus omega)) | ((with_reducible apply Ix.pred); (focus first | assumption | exact fun _ => rfl); (focus omega); (focus omega)) | ((with_reducible apply Ix.lit); (focus exact byLit); (focus first | assumption | exact fun _ => rfl); (focus omega); (focus omega)) | ((with_reducible apply Ix.int); (focus exact rfl); (focus omega); (focus omega)) | ((with_reducible apply Ix.intp); (focus assumption); (focus omega); (focus omega)) | apply forceV_any | apply forceL_any)); all_goals (conv => whnf); all_goals (try with_reducible apply At.mk)))
    refine hK (u + 1) _ _ ⟨rfl, rfl, int_of rfl (by omega), trivial⟩ ⟨by (exact bySame), by (exact byOm), by omega, by (exact byGet), ?_⟩ (by omega)
    have e : bnd (tankTo T (u + 1)) = upd2 (upd2 (bnd (tankTo T u)) 0 (1 + u) T.bhi) (1 + u) 0 (-T.blo) := by
      rw [tankTo_succ]
      unfold putTank
      rw [bnd_put (by simp only [Tab.toTable, Far]; omega), bnd_put (by simp only [Tab.toTable, Far]; omega)]
      have e1 : bnd (tankTo T u) 0 (1 + u) = Far := by simp only [bnd, hun.1, Option.getD_none]
      have e2 : upd2 (bnd (tankTo T u)) 0 (1 + u) (min (bnd (tankTo T u) 0 (1 + u)) T.toTable.bhi) (1 + u) 0 = Far := by
        unfold upd2
        rw [if_neg (by omega)]
        simp only [bnd, hun.2, Option.getD_none]
      rw [e2, e1]
      have m1 : min Far T.toTable.bhi = T.bhi := by simp only [Tab.toTable, Far]; omega
      have m2 : min Far (-T.toTable.blo) = -T.blo := by simp only [Tab.toTable, Far]; omega
      rw [m1, m2]
    rw [e]
    exact hP3.frame (by (exact byOm)) fun r hr1 hr2 => get_of fun y hy => by (exact byGet)
  have : u = T.tanks.toNat := by omega
  subst this
  rw [← netTo_zero] at hP
  clear hK K
  refine wp_loop (fun u : Nat => [(1, .pointer (some ⟨h.next, 0, none⟩)), (4, .slice (some a4) s 0), (9, .int .i64 u)])
    (fun u h2 => Same h.next h h2 ∧ h.next + 1 ≤ h2.next ∧ u ≤ T.n ∧ h2.get h.next = some (.cells T.cells 26) ∧ PB s s (bnd (netTo T u)) (h.next + 1) h2.next h2 (some a4) va) (fun u => T.n - u) 0
    ⟨rfl, rfl, rfl, trivial⟩ ⟨by (exact bySame), by (exact byOm), by omega, by (exact byGet), hP.frame (by (exact byOm)) fun r hr1 hr2 => rfl⟩ ?_
  clear g1 hP sm hn g
  rintro u g h2 ⟨sm, hn, hu, g1, hP⟩ K hK
  have ti2 : Els h2 T.a T.n 4 (fun i => (T.f i).cells) := ti.same (sm.mono hm) tr
  have hfu : u < T.n → 0 ≤ (T.f u).tank ∧ (T.f u).tank < T.tanks ∧ 0 ≤ (T.f u).hull ∧ (T.f u).hull < T.hulls ∧ (T.f u).lo ≤ (T.f u).hi ∧ -1000000 ≤ (T.f u).lo ∧ (T.f u).hi ≤ 1000000 := fun hlt => by
    have := hf u hlt
    omega
  (focus ((try with_reducible apply wpC.to); (repeat' ((conv => whnf); first | ((apply Start.mk); (focus exact byNext); (focus exact byLen)) | ((apply New.mk); (focus exact byNid)) | ((apply Need.mk); (focus exact byNeed)) | ((apply Fork.mk) <;> (intro _; try (exfalso; omega; done))) | ((apply Load1.mk); (focus exact byMem); (focus exact byVal)) | ((apply LoadN.mk); (focus exact byMem); (focus exact byList)) | ((apply Sto.mk); (focus exact bySto); (focus exact byLo); (focus exact byGet); (focus exact rfl); (focus exact rfl); (focus exact rfl); (focus exact byList)) | ((with_reducible apply Ix.nat); (focus exact rfl); (focus omega)) | ((with_reducible apply Ix.natp); (focus assumption); (focus omega)) | ((with_reducible apply Ix.pred); (focus first | assumption | exact fun _ => rfl); (focus omega); (focus omega)) | ((with_reducible apply Ix.lit); (focus exact byLit); (focus first | assumption | exact fun _ => rfl); (focus omega); (focus omega)) | ((with_reducible apply Ix.int); (focus exact rfl); (focus omega); (focus omega)) | ((with_reducible apply Ix.intp); (focus assumption); (focus omega); (focus omega)) | apply forceV_any | apply forceL_any)); all_goals (conv => whnf); all_goals (try with_reducible apply At.mk)))
  · have hfu := hfu (by omega)
    have hPf := fun (h3 : H) hh => hP.frame (h' := h3) (Nat.le_refl _) hh
    have ra := hP.rng (1 + T.tanks + (T.f u).hull).toNat (by omega)
    have rc := hP.rng (1 + (T.f u).tank).toNat (by omega)
    refine Load1.mk ((hPf _ fun r hr1 hr2 => get_of fun y hy => by (exact byGet)).outer (i := (1 + T.tanks + (T.f u).hull).toNat) (by omega)) rfl ?_
    (focus ((try with_reducible apply wpC.to); (repeat' ((conv => whnf); first | ((apply Start.mk); (focus exact byNext); (focus exact byLen)) | ((apply New.mk); (focus exact byNid)) | ((apply Need.mk); (focus exact byNeed)) | ((apply Fork.mk) <;> (intro _; try (exfalso; omega; done))) | ((apply Load1.mk); (focus exact byMem); (focus exact byVal)) | ((apply LoadN.mk); (focus exact byMem); (focus exact byList)) | ((apply Sto.mk); (focus exact bySto); (focus exact byLo); (focus exact byGet); (focus exact rfl); (focus exact rfl); (focus exact rfl); (focus exact byList)) | ((with_reducible apply Ix.nat); (focus exact rfl); (focus omega)) | ((with_reducible apply Ix.natp); (focus assumption); (focus omega)) | ((with_reducible apply Ix.pred); (focus first | assumption | exact fun _ => rfl); (focus omega); (focus omega)) | ((with_reducible apply Ix.lit); (focus exact byLit); (focus first | assumption | exact fun _ => rfl); (focus omega); (focus omega)) | ((with_reducible apply Ix.int); (focus exact rfl); (focus omega); (focus omega)) | ((with_reducible apply Ix.intp); (focus assumption); (focus omega); (focus omega)) | apply forceV_any | apply forceL_any)); all_goals (conv => whnf); all_goals (try with_reducible apply At.mk)))
    refine Load1.mk ((hPf _ fun r hr1 hr2 => get_of fun y hy => by (exact byGet)).outer (i := (1 + T.tanks + (T.f u).hull).toNat) (by omega)) rfl ?_
    (focus ((try with_reducible apply wpC.to); (repeat' ((conv => whnf); first | ((apply Start.mk); (focus exact byNext); (focus exact byLen)) | ((apply New.mk); (focus exact byNid)) | ((apply Need.mk); (focus exact byNeed)) | ((apply Fork.mk) <;> (intro _; try (exfalso; omega; done))) | ((apply Load1.mk); (focus exact byMem); (focus exact byVal)) | ((apply LoadN.mk); (focus exact byMem); (focus exact byList)) | ((apply Sto.mk); (focus exact bySto); (focus exact byLo); (focus exact byGet); (focus exact rfl); (focus exact rfl); (focus exact rfl); (focus exact byList)) | ((with_reducible apply Ix.nat); (focus exact rfl); (focus omega)) | ((with_reducible apply Ix.natp); (focus assumption); (focus omega)) | ((with_reducible apply Ix.pred); (focus first | assumption | exact fun _ => rfl); (focus omega); (focus omega)) | ((with_reducible apply Ix.lit); (focus exact byLit); (focus first | assumption | exact fun _ => rfl); (focus omega); (focus omega)) | ((with_reducible apply Ix.int); (focus exact rfl); (focus omega); (focus omega)) | ((with_reducible apply Ix.intp); (focus assumption); (focus omega); (focus omega)) | apply forceV_any | apply forceL_any)); all_goals (conv => whnf); all_goals (try with_reducible apply At.mk)))
    refine Load1.mk ((hPf _ fun r hr1 hr2 => get_of fun y hy => by (exact byGet)).inner (i := (1 + T.tanks + (T.f u).hull).toNat) (j := (1 + (T.f u).tank).toNat) (by omega) (by omega)) rfl ?_
    (focus ((try with_reducible apply wpC.to); (repeat' ((conv => whnf); first | ((apply Start.mk); (focus exact byNext); (focus exact byLen)) | ((apply New.mk); (focus exact byNid)) | ((apply Need.mk); (focus exact byNeed)) | ((apply Fork.mk) <;> (intro _; try (exfalso; omega; done))) | ((apply Load1.mk); (focus exact byMem); (focus exact byVal)) | ((apply LoadN.mk); (focus exact byMem); (focus exact byList)) | ((apply Sto.mk); (focus exact bySto); (focus exact byLo); (focus exact byGet); (focus exact rfl); (focus exact rfl); (focus exact rfl); (focus exact byList)) | ((with_reducible apply Ix.nat); (focus exact rfl); (focus omega)) | ((with_reducible apply Ix.natp); (focus assumption); (focus omega)) | ((with_reducible apply Ix.pred); (focus first | assumption | exact fun _ => rfl); (focus omega); (focus omega)) | ((with_reducible apply Ix.lit); (focus exact byLit); (focus first | assumption | exact fun _ => rfl); (focus omega); (focus omega)) | ((with_reducible apply Ix.int); (focus exact rfl); (focus omega); (focus omega)) | ((with_reducible apply Ix.intp); (focus assumption); (focus omega); (focus omega)) | apply forceV_any | apply forceL_any)); all_goals (conv => whnf); all_goals (try with_reducible apply At.mk)))
    refine sto_pb (hPf _ fun r hr1 hr2 => get_of fun y hy => by (exact byGet)) (i := (1 + T.tanks + (T.f u).hull).toNat) (j := (1 + (T.f u).tank).toNat) (by omega) (by omega) (by omega) fun row hP2 => ?_
    (focus ((try with_reducible apply wpC.to); (repeat' ((conv => whnf); first | ((apply Start.mk); (focus exact byNext); (focus exact byLen)) | ((apply New.mk); (focus exact byNid)) | ((apply Need.mk); (focus exact byNeed)) | ((apply Fork.mk) <;> (intro _; try (exfalso; omega; done))) | ((apply Load1.mk); (focus exact byMem); (focus exact byVal)) | ((apply LoadN.mk); (focus exact byMem); (focus exact byList)) | ((apply Sto.mk); (focus exact bySto); (focus exact byLo); (focus exact byGet); (focus exact rfl); (focus exact rfl); (focus exact rfl); (focus exact byList)) | ((with_reducible apply Ix.nat); (focus exact rfl); (focus omega)) | ((with_reducible apply Ix.natp); (focus assumption); (focus omega)) | ((with_reducible apply Ix.pred); (focus first | assumption | exact fun _ => rfl); (focus omega); (focus omega)) | ((with_reducible apply Ix.lit); (focus exact byLit); (focus first | assumption | exact fun _ => rfl); (focus omega); (focus omega)) | ((with_reducible apply Ix.int); (focus exact rfl); (focus omega); (focus omega)) | ((with_reducible apply Ix.intp); (focus assumption); (focus omega); (focus omega)) | apply forceV_any | apply forceL_any)); all_goals (conv => whnf); all_goals (try with_reducible apply At.mk)))
    have hPf2 := fun (h3 : H) hh => hP2.frame (h' := h3) (Nat.le_refl _) hh
    refine Load1.mk ((hPf2 _ (fun r hr1 hr2 => get_of fun y hy => by (exact byGet))).outer (i := (1 + (T.f u).tank).toNat) (by omega)) rfl ?_
    (focus ((try with_reducible apply wpC.to); (repeat' ((conv => whnf); first | ((apply Start.mk); (focus exact byNext); (focus exact byLen)) | ((apply New.mk); (focus exact byNid)) | ((apply Need.mk); (focus exact byNeed)) | ((apply Fork.mk) <;> (intro _; try (exfalso; omega; done))) | ((apply Load1.mk); (focus exact byMem); (focus exact byVal)) | ((apply LoadN.mk); (focus exact byMem); (focus exact byList)) | ((apply Sto.mk); (focus exact bySto); (focus exact byLo); (focus exact byGet); (focus exact rfl); (focus exact rfl); (focus exact rfl); (focus exact byList)) | ((with_reducible apply Ix.nat); (focus exact rfl); (focus omega)) | ((with_reducible apply Ix.natp); (focus assumption); (focus omega)) | ((with_reducible apply Ix.pred); (focus first | assumption | exact fun _ => rfl); (focus omega); (focus omega)) | ((with_reducible apply Ix.lit); (focus exact byLit); (focus first | assumption | exact fun _ => rfl); (focus omega); (focus omega)) | ((with_reducible apply Ix.int); (focus exact rfl); (focus omega); (focus omega)) | ((with_reducible apply Ix.intp); (focus assumption); (focus omega); (focus omega)) | apply forceV_any | apply forceL_any)); all_goals (conv => whnf); all_goals (try with_reducible apply At.mk)))
    refine Load1.mk ((hPf2 _ (fun r hr1 hr2 => get_of fun y hy => by (exact byGet))).outer (i := (1 + (T.f u).tank).toNat) (by omega)) rfl ?_
    (focus ((try with_reducible apply wpC.to); (repeat' ((conv => whnf); first | ((apply Start.mk); (focus exact byNext); (focus exact byLen)) | ((apply New.mk); (focus exact byNid)) | ((apply Need.mk); (focus exact byNeed)) | ((apply Fork.mk) <;> (intro _; try (exfalso; omega; done))) | ((apply Load1.mk); (focus exact byMem); (focus exact byVal)) | ((apply LoadN.mk); (focus exact byMem); (focus exact byList)) | ((apply Sto.mk); (focus exact bySto); (focus exact byLo); (focus exact byGet); (focus exact rfl); (focus exact rfl); (focus exact rfl); (focus exact byList)) | ((with_reducible apply Ix.nat); (focus exact rfl); (focus omega)) | ((with_reducible apply Ix.natp); (focus assumption); (focus omega)) | ((with_reducible apply Ix.pred); (focus first | assumption | exact fun _ => rfl); (focus omega); (focus omega)) | ((with_reducible apply Ix.lit); (focus exact byLit); (focus first | assumption | exact fun _ => rfl); (focus omega); (focus omega)) | ((with_reducible apply Ix.int); (focus exact rfl); (focus omega); (focus omega)) | ((with_reducible apply Ix.intp); (focus assumption); (focus omega); (focus omega)) | apply forceV_any | apply forceL_any)); all_goals (conv => whnf); all_goals (try with_reducible apply At.mk)))
    refine Load1.mk ((hPf2 _ (fun r hr1 hr2 => get_of fun y hy => by (exact byGet))).inner (i := (1 + (T.f u).tank).toNat) (j := (1 + T.tanks + (T.f u).hull).toNat) (by omega) (by omega)) rfl ?_
    (focus ((try with_reducible apply wpC.to); (repeat' ((conv => whnf); first | ((apply Start.mk); (focus exact byNext); (focus exact byLen)) | ((apply New.mk); (focus exact byNid)) | ((apply Need.mk); (focus exact byNeed)) | ((apply Fork.mk) <;> (intro _; try (exfalso; omega; done))) | ((apply Load1.mk); (focus exact byMem); (focus exact byVal)) | ((apply LoadN.mk); (focus exact byMem); (focus exact byList)) | ((apply Sto.mk); (focus exact bySto); (focus exact byLo); (focus exact byGet); (focus exact rfl); (focus exact rfl); (focus exact rfl); (focus exact byList)) | ((with_reducible apply Ix.nat); (focus exact rfl); (focus omega)) | ((with_reducible apply Ix.natp); (focus assumption); (focus omega)) | ((with_reducible apply Ix.pred); (focus first | assumption | exact fun _ => rfl); (focus omega); (focus omega)) | ((with_reducible apply Ix.lit); (focus exact byLit); (focus first | assumption | exact fun _ => rfl); (focus omega); (focus omega)) | ((with_reducible apply Ix.int); (focus exact rfl); (focus omega); (focus omega)) | ((with_reducible apply Ix.intp); (focus assumption); (focus omega); (focus omega)) | apply forceV_any | apply forceL_any)); all_goals (conv => whnf); all_goals (try with_reducible apply At.mk)))
    refine sto_pb (hPf2 _ (fun r hr1 hr2 => get_of fun y hy => by (exact byGet))) (i := (1 + (T.f u).tank).toNat) (j := (1 + T.tanks + (T.f u).hull).toNat) (by omega) (by omega) (by omega) fun row2 hP3 => ?_
    (focus ((try with_reducible apply wpC.to); (repeat' ((conv => whnf); first | ((apply Start.mk); (focus exact byNext); (focus exact byLen)) | ((apply New.mk); (focus exact byNid)) | ((apply Need.mk); (focus exact byNeed)) | ((apply Fork.mk) <;> (intro _; try (exfalso; omega; done))) | ((apply Load1.mk); (focus exact byMem); (focus exact byVal)) | ((apply LoadN.mk); (focus exact byMem); (focus exact byList)) | ((apply Sto.mk); (focus exact bySto); (focus exact byLo); (focus exact byGet); (focus exact rfl); (focus exact rfl); (focus exact rfl); (focus exact byList)) | ((with_reducible apply Ix.nat); (focus exact rfl); (focus omega)) | ((with_reducible apply Ix.natp); (focus assumption); (focus omega)) | ((with_reducible apply Ix.pred); (focus first | assumption | exact fun _ => rfl); (focus omega); (focus omega)) | ((with_reducible apply Ix.lit); (focus exact byLit); (focus first | assumption | exact fun _ => rfl); (focus omega); (focus omega)) | ((with_reducible apply Ix.int); (focus exact rfl); (focus omega); (focus omega)) | ((with_reducible apply Ix.intp); (focus assumption); (focus omega); (focus omega)) | apply forceV_any | apply forceL_any)); all_goals (conv => whnf); all_goals (try with_reducible apply At.mk)))
    refine hK (u + 1) _ _ ⟨rfl, rfl, int_of rfl (by omega), trivial⟩ ⟨by (exact bySame), by (exact byOm), by omega, by (exact byGet), ?_⟩ (by omega)
    have i1 : (1 + T.tanks + (T.f u).hull).toNat = 1 + T.tanks.toNat + (T.f u).hull.toNat := by omega
    have i2 : (1 + (T.f u).tank).toNat = 1 + (T.f u).tank.toNat := by omega
    have e : bnd (netTo T (u + 1)) = upd2 (upd2 (bnd (netTo T u)) (1 + T.tanks.toNat + (T.f u).hull.toNat) (1 + (T.f u).tank.toNat) (min (bnd (netTo T u) (1 + T.tanks.toNat + (T.f u).hull.toNat) (1 + (T.f u).tank.toNat)) (T.f u).hi)) (1 + (T.f u).tank.toNat) (1 + T.tanks.toNat + (T.f u).hull.toNat) (min (upd2 (bnd (netTo T u)) (1 + T.tanks.toNat + (T.f u).hull.toNat) (1 + (T.f u).tank.toNat) (min (bnd (netTo T u) (1 + T.tanks.toNat + (T.f u).hull.toNat) (1 + (T.f u).tank.toNat)) (T.f u).hi) (1 + (T.f u).tank.toNat) (1 + T.tanks.toNat + (T.f u).hull.toNat)) (-(T.f u).lo)) := by
      rw [netTo_succ]
      unfold putTest
      rw [bnd_put (by simp only [RTest.toTest, Far]; omega), bnd_put (by simp only [RTest.toTest, Far]; omega)]
      rfl
    rw [e, ← i1, ← i2]
    exact hP3.frame (by (exact byOm)) (fun r hr1 hr2 => get_of fun y hy => by (exact byGet))
  · have : u = T.n := by omega
    subst this
    rw [netTo_all] at hP
    (first | (apply fin1; (focus first | exact .inl rfl | exact .inr rfl); focus exact byR1) | (apply fin2; (focus first | exact .inl rfl | exact .inr rfl); (focus exact byR1); (focus exact byR1)) | (apply fin3; (focus first | exact .inl rfl | exact .inr rfl); (focus exact byR1); (focus exact byR1); (focus exact byR1)) | (apply fin0; (focus first | exact .inl rfl | exact .inr rfl)))
    exact ⟨a4, va, rfl, (hP.lower (by omega)).frame (by (exact byOm)) fun r hr1 hr2 => rfl⟩

end AE.Try
