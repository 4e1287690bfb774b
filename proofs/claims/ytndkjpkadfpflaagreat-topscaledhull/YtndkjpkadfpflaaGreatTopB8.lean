/- Walks of box: offsets of one's own. -/
import Derived.Test.YtndkjpkadfpflaaGreatTopB7
import Derived.Test.YtndkjpkadfpflaaGreatAEthree
set_option linter.unusedVariables false
set_option linter.unusedSimpArgs false
set_option linter.unusedSectionVars false
namespace AE.Tryz
open Go AE Go.Proofs AE.Box
set_option maxRecDepth 100000
set_option linter.unusedVariables false

/-- A call of a function value that turns nothing that was there. -/
theorem q_callq {P : Program} {lo nb : Nat} {q : Bool} {h : H} {fv : Value} {args : List Value} {k : Value → H → Prop} {R : Value → H → Prop} (en : h.next = nb) (hlo : lo ≤ nb) (hc : ∃ v h', R v h' ∧ ACall P fv h.next h args v h') (hr : ∀ v h', R v h' → Quiet nb h h' → nb ≤ h'.next → k v h') : CallV P fv lo q h args k := by
  obtain ⟨v, h', r, a⟩ := hc
  subst en
  have hq := a.quiet
  exact .mk (a.mono (by split <;> omega)) (hr v h' r hq hq.next)
theorem bis_eq {l l' : List Value} (h : l = l') : Is l l' := h ▸ Is.rfl
/-- n rows of w numbers, each with its own room, in rows from lo on, below N. -/
structure Own (lo N : Nat) (h : H) (n w : Nat) (rr : Nat → Nat) (f : Nat → Nat → Int) (r : Nat) (v : Option Addr) : Prop where
  row : ∀ i, i < n → h.get (rr i) = some (.cells (iCells (f i) w) 2)
  rng : ∀ i, i < n → lo ≤ rr i ∧ rr i < N
  inj : ∀ i j, i < n → j < n → rr i = rr j → i = j
  out : GG r h 38 1 n (rowsOf (fun i => [.slice (some ⟨rr i, 0, none⟩) w w]) n) v
  org : 0 < n → (lo ≤ r ∧ r < N) ∧ ∀ i, i < n → rr i ≠ r
theorem Own.nil {lo N : Nat} {h : H} {w : Nat} {rr : Nat → Nat} {f : Nat → Nat → Int} {r : Nat} : Own lo N h 0 w rr f r none :=
  ⟨fun i hi => by omega, fun i hi => by omega, fun i j hi => by omega, GG.nil, fun h => by omega⟩
theorem Own.frame {lo N N' : Nat} {h h' : H} {n w : Nat} {rr : Nat → Nat} {f : Nat → Nat → Int} {r : Nat} {v : Option Addr} (k : Own lo N h n w rr f r v) (hN : N ≤ N') (hs : ∀ x, lo ≤ x → x < N → h'.get x = h.get x) : Own lo N' h' n w rr f r v :=
  ⟨fun i hi => (hs _ (k.rng i hi).1 (k.rng i hi).2).trans (k.row i hi), fun i hi => by have := k.rng i hi; omega, k.inj, k.out.frame fun h0 => hs _ (k.org h0).1.1 (k.org h0).1.2, fun h0 => ⟨by have := (k.org h0).1; omega, (k.org h0).2⟩⟩
theorem Own.lower {lo lo' N : Nat} {h : H} {n w : Nat} {rr : Nat → Nat} {f : Nat → Nat → Int} {r : Nat} {v : Option Addr} (k : Own lo N h n w rr f r v) (hl : lo' ≤ lo) : Own lo' N h n w rr f r v :=
  ⟨k.row, fun i hi => by have := k.rng i hi; omega, k.inj, k.out, fun h0 => ⟨by have := (k.org h0).1; omega, (k.org h0).2⟩⟩
theorem Own.congr {lo N : Nat} {h : H} {n w : Nat} {rr : Nat → Nat} {f g : Nat → Nat → Int} {r : Nat} {v : Option Addr} (k : Own lo N h n w rr f r v) (hfg : ∀ i j, i < n → j < w → f i j = g i j) : Own lo N h n w rr g r v :=
  ⟨fun i hi => by
    rw [k.row i hi]
    have : iCells (f i) w = iCells (g i) w := by unfold iCells; exact rowsOf_congr w fun j hj => by rw [hfg i j hi hj]
    rw [this], k.rng, k.inj, k.out, k.org⟩
/-- One can read them. -/
theorem Own.grid {lo N : Nat} {h : H} {n w : Nat} {rr : Nat → Nat} {f : Nat → Nat → Int} {r : Nat} {v : Option Addr} (k : Own lo N h n w rr f r v) (h0 : 0 < n) :
    ∃ a, v = some a ∧ (⟨n, w, some a, a, 0, fun i => ⟨rr i, 0, none⟩, fun _ => w, f⟩ : Grid).Ok N h := by
  obtain ⟨a, hw, e, b⟩ := k.out.els (f := fun i => [.slice (some ⟨rr i, 0, none⟩) w w]) fun _ => rfl
  refine ⟨a, hw h0, fun _ => rfl, fun i hi => ?_, fun _ => by have := b h0; have := (k.org h0).1; dsimp only; omega, fun i hi => iCells_ints (k.row i hi), fun i hi => (k.rng i hi).2⟩
  have := e i hi
  rw [Nat.mul_one] at this
  exact this
/-- A number is stored. -/
def upd2 (M : Nat → Nat → Int) (i j : Nat) (v : Int) : Nat → Nat → Int := fun i' j' => if i' = i ∧ j' = j then v else M i' j'
theorem Own.set {lo N : Nat} {h : H} {n w : Nat} {rr : Nat → Nat} {f : Nat → Nat → Int} {r : Nat} {v : Option Addr} (k : Own lo N h n w rr f r v) {i j : Nat} (hi : i < n) (hj : j < w) (y : Int) :
    Own lo N (h.put (rr i) (.cells (iCells (updN (f i) j y) w) 2)) n w rr (upd2 f i j y) r v := by
  have e : ∀ i', i' < n → upd2 f i j y i' = if i' = i then updN (f i) j y else f i' := fun i' _ => by
    funext x
    unfold upd2 updN
    by_cases h1 : i' = i
    · subst h1; simp
    · simp [h1]
  refine ⟨fun i' hi' => ?_, k.rng, k.inj, k.out.frame fun h0 => ?_, k.org⟩
  · rw [e i' hi']
    by_cases h1 : i' = i
    · subst h1; simp [H.put]
    · have : rr i' ≠ rr i := fun h2 => h1 (k.inj _ _ hi' hi h2)
      simp [H.put, h1, this, k.row i' hi']
  · have := (k.org h0).2 i hi
    simp only [H.put]
    rw [if_neg (fun h2 => this h2.symm)]
/-- One row more. -/
theorem Own.next {lo N N' : Nat} {h h' : H} {n w : Nat} {rr : Nat → Nat} {f : Nat → Nat → Int} {r r' x : Nat} {v v' : Option Addr} (k : Own lo N h n w rr f r v) (hN : N ≤ N') (hlN : lo ≤ N) (hs : ∀ x, lo ≤ x → x < N → (0 < n → x ≠ r) → h'.get x = h.get x)
    (hx : h'.get x = some (.cells (iCells (f n) w) 2)) (rx : N ≤ x ∧ x < N') (G : GG r' h' 38 1 (n + 1) (rowsOf (fun i => [.slice (some ⟨rr i, 0, none⟩) w w]) n ++ [.slice (some ⟨x, 0, none⟩) w w]) v') (hr : (0 < n → r' = r) ∧ (n = 0 → N ≤ r' ∧ r' < N' ∧ r' ≠ x)) :
    Own lo N' h' (n + 1) w (fun i => if i = n then x else rr i) f r' v' := by
  have hrr : ∀ i, i < n → (if i = n then x else rr i) = rr i := fun i hi => if_neg (by omega)
  refine ⟨fun i hi => ?_, fun i hi => ?_, fun i j hi hj e => ?_, ?_, fun _ => ⟨?_, fun i hi => ?_⟩⟩
  · by_cases e : i = n
    · subst e; rw [if_pos rfl]; exact hx
    · rw [if_neg e]
      have := k.rng i (by omega)
      exact (hs _ this.1 this.2 fun h0 => (k.org h0).2 i (by omega)).trans (k.row i (by omega))
  · by_cases e : i = n
    · subst e; rw [if_pos rfl]; omega
    · rw [if_neg e]; have := k.rng i (by omega); omega
  · by_cases e1 : i = n
    · by_cases e2 : j = n
      · omega
      · rw [if_pos e1, if_neg e2] at e; have := k.rng j (by omega); omega
    · by_cases e2 : j = n
      · rw [if_neg e1, if_pos e2] at e; have := k.rng i (by omega); omega
      · rw [if_neg e1, if_neg e2] at e; exact k.inj i j (by omega) (by omega) e
  · have : rowsOf (fun i => [Value.slice (some ⟨if i = n then x else rr i, 0, none⟩) w w]) (n + 1) = rowsOf (fun i => [Value.slice (some ⟨rr i, 0, none⟩) w w]) n ++ [.slice (some ⟨x, 0, none⟩) w w] := by
      rw [rowsOf, if_pos rfl]
      congr 1
      exact rowsOf_congr n fun i hi => by rw [hrr i hi]
    rw [this]
    exact G
  · rcases Nat.eq_zero_or_pos n with h0 | h0
    · have := hr.2 h0; omega
    · have := hr.1 h0; have := (k.org h0).1; omega
  · by_cases e : i = n
    · rw [if_pos e]
      rcases Nat.eq_zero_or_pos n with h0 | h0
      · have := hr.2 h0; omega
      · have := hr.1 h0; have := (k.org h0).1; omega
    · rw [if_neg e]
      have := hr.1 (by omega)
      rw [this]
      exact (k.org (by omega)).2 i (by omega)

theorem zeros1 (n : Nat) : reps [Value.int .i64 0] n = iCells (fun _ => 0) n := by rw [reps_rows]; unfold iCells; rfl
/-- Where the picking of rows is. -/
structure PkS where
  i : Nat
  rr : Nat → Nat
  r : Nat
  v : Option Addr
def upto (g : Nat → Int) (k : Nat) : Nat → Int := fun j => if j < k then g j else 0
theorem upto_next (g : Nat → Int) (k : Nat) : updN (upto g k) k (g k) = upto g (k + 1) := by
  funext j
  unfold updN upto
  by_cases h1 : j = k
  · subst h1; simp
  · by_cases h2 : j < k
    · simp [h1, h2, Nat.lt_succ_of_lt h2]
    · rw [if_neg h1, if_neg h2, if_neg (by omega)]
theorem upto_all (g : Nat → Int) (w : Nat) : iCells (upto g w) w = iCells g w := by
  unfold iCells
  exact rowsOf_congr w fun j hj => by unfold upto; rw [if_pos hj]
set_option maxHeartbeats 1000000 in
theorem pickb_w {h : H} {T : Hull} {m : Nat} {fv : Value} {g : Nat → Nat → Int} (hm : m ≤ h.next) (hT : T.Ok m h) (V : T.Valid)
    (hy : ∀ i k h1, i < T.n → k < T.w 0 → Quiet h.next h h1 → ∃ v h2, v = .int .i64 (g i k) ∧ ACall Tryz.prog fv h1.next h1 [.int .i64 i, .int .i64 k, .agg ⟨(T.f i k).cells⟩] v h2) :
    AW Tryz.prog 47 h.next h [.agg ⟨T.cells⟩, fv] (fun v h' => ∃ rr r w, v = .slice w T.n 0 ∧ Own (h.next + 1) h'.next h' T.n (T.w 0) rr g r w) := by
  obtain ⟨e1, i1, r1, l1, re, ri, rr, rl⟩ := hT
  obtain ⟨n1, n2, w1, w2, eq, s1, s2, pl, some⟩ := V
  refine fun47.call rfl (Nat.le_refl _) ?_
  unfold a47 Hull.cells
  (focus ((try with_reducible apply wpC.to); (repeat' ((conv => whnf); first | refine byEv ?_ | (apply Fork.mk <;> (intro _; try (exfalso; omega))) | ((refine kTopSc1c ?_); first | ((first | apply q_allD | apply q_alli | apply q_allB) <;> intro _ _ _ _ <;> try contradiction) | (apply q_allv; intro _ _ _)) | refine xTopB20 ?_ | fail)); all_goals ((conv => whnf); try with_reducible apply At.mk)))
  refine wp_loop (fun x : PkS => [(1, fv), (2, .pointer (.some ⟨h.next, 0, none⟩)), (5, .slice x.v x.i 0), (12, .slice T.b T.n T.c), (13, .int .i64 T.n), (14, .int .i64 x.i)])
    (fun x h1 => Quiet h.next h h1 ∧ h.next + 1 ≤ h1.next ∧ Own (h.next + 1) h1.next h1 x.i (T.w 0) x.rr g x.r x.v ∧ x.i ≤ T.n) (fun x => T.n - x.i) ⟨0, fun _ => 0, 0, none⟩ ⟨rfl, rfl, rfl, rfl, rfl, rfl, trivial⟩ ⟨byQuiet, byOm, Own.nil, by simp⟩ ?_
  rintro ⟨i, ro, r, v⟩ g1 h1 ⟨q1, hn1, O1, hi⟩ K hK
  dsimp only at O1 hi
  dsimp only
  have sm1 : Same h.next h h1 := fun x hx => q1.same x hx
  by_cases hin : i < T.n
  · have rei := re i hin
    have rii := ri i hin
    have rri := rr i hin
    have ewi := eq i hin
    have e0 := rei (by omega)
    (focus ((try with_reducible apply wpC.to); (repeat' ((conv => whnf); first | refine byEv ?_ | (apply Fork.mk <;> (intro _; try (exfalso; omega))) | ((refine kTopSc1c ?_); first | ((first | apply q_allD | apply q_alli | apply q_allB) <;> intro _ _ _ _ <;> try contradiction) | (apply q_allv; intro _ _ _)) | refine xTopB20 ?_ | fail)); all_goals ((conv => whnf); try with_reducible apply At.mk)))
    refine q_mkslice (z := [Value.int .i64 0]) (a := T.w i) (b := T.w i) (k1 := .i64) (k2 := .i64) rfl rfl (Nat.le_refl _) (by omega) ?_
    rw [zeros1]
    (focus ((try with_reducible apply wpC.to); (repeat' ((conv => whnf); first | refine byEv ?_ | (apply Fork.mk <;> (intro _; try (exfalso; omega))) | ((refine kTopSc1c ?_); first | ((first | apply q_allD | apply q_alli | apply q_allB) <;> intro _ _ _ _ <;> try contradiction) | (apply q_allv; intro _ _ _)) | refine xTopB20 ?_ | fail)); all_goals ((conv => whnf); try with_reducible apply At.mk)))
    have q2 : Quiet h.next h (((((h1.bump 1).bump 5).bump 4).put (h1.next + 8) (ARow.cells (iCells (fun x => 0) (T.w i)) 2)).bump 3) := by (exact byQuiet)
    refine wp_loop (fun k : Nat => [(1, fv), (2, .pointer (.some ⟨h.next, 0, none⟩)), (5, .slice v i 0), (12, .slice T.b T.n T.c), (13, .int .i64 T.n), (14, .int .i64 i), (6, .int .i64 i), (8, .slice (.some ⟨h1.next + 8, 0, none⟩) (T.w i) (T.w i)), (22, .slice (T.rb i) (T.w i) (T.rc i)), (23, .int .i64 (T.w i)), (24, .int .i64 k)])
      (fun k h2 => Quiet h.next h h2 ∧ h1.next + 13 ≤ h2.next ∧ (∀ x, x < h1.next → h2.get x = h1.get x) ∧ h2.get (h1.next + 8) = .some (.cells (iCells (upto (g i) k) (T.w 0)) 2) ∧ k ≤ T.w 0) (fun k => T.w 0 - k) 0 ⟨rfl, rfl, rfl, rfl, rfl, rfl, rfl, rfl, rfl, rfl, rfl, trivial⟩ ⟨q2, byOm, fun x hx => get_of fun y hy => byGet, ?_, by omega⟩ ?_
    · rw [ewi]
      have : upto (g i) 0 = fun _ => 0 := by funext j; unfold upto; rw [if_neg (by omega)]
      rw [this]
      (exact byGet)
    rintro k g3 h2 ⟨q3, hn3, old, hx, hk⟩ K3 hK3
    by_cases hkw : k < T.w 0
    · have hki : k < T.w i := by omega
      have sm2 : Same h.next h h2 := fun x hx => q3.same x hx
      have hyk := fun h3 q => hy i k h3 hin hkw q
      have hrc : (T.f i k).cells = [.int .i64 (T.f i k).lo, .int .i64 (T.f i k).hi] := rfl
      rw [hrc] at hyk
      (focus ((try with_reducible apply wpC.to); (repeat' ((conv => whnf); first | refine byEv ?_ | (apply Fork.mk <;> (intro _; try (exfalso; omega))) | ((refine kTopSc1c ?_); first | ((first | apply q_allD | apply q_alli | apply q_allB) <;> intro _ _ _ _ <;> try contradiction) | (apply q_allv; intro _ _ _)) | refine xTopB20 ?_ | fail)); all_goals ((conv => whnf); try with_reducible apply At.mk)))
      apply q_callq
      focus (exact byNext)
      focus (exact byLo)
      focus exact hyk _ byQuiet
      rintro _ h4 rfl q4 hn4
      have hx4 : h4.get (h1.next + 8) = .some (.cells (iCells (upto (g i) k) (T.w 0)) 2) := (q4.same _ byOm).trans byGet
      have old4 : ∀ x, x < h1.next → h4.get x = h1.get x := fun x hx => (q4.same x byOm).trans ((get_of fun y hy => byGet).trans (old x hx))
      have q4' : Quiet h.next h h4 := Quiet.trans byQuiet (q4.mono byOm)
      have hn4' : h1.next + 13 ≤ h4.next := by (exact byOm)
      clear q4
      (focus ((try with_reducible apply wpC.to); (repeat' ((conv => whnf); first | refine byEv ?_ | (apply Fork.mk <;> (intro _; try (exfalso; omega))) | ((refine kTopSc1c ?_); first | ((first | apply q_allD | apply q_alli | apply q_allB) <;> intro _ _ _ _ <;> try contradiction) | (apply q_allv; intro _ _ _)) | refine xTopB20 ?_ | fail)); all_goals ((conv => whnf); try with_reducible apply At.mk)))
      refine Sto.mk (r := h1.next + 8) (off := 0 + k * 1) (c' := iCells (upto (g i) (k + 1)) (T.w 0)) rfl (by omega) hx4 rfl rfl (Nat.ble_eq_true_of_le (by rw [iCells_len]; omega)) (bis_eq ((iCells_set _ _ hkw (by omega)).trans (by rw [upto_next]))) ?_
      (focus ((try with_reducible apply wpC.to); (repeat' ((conv => whnf); first | refine byEv ?_ | (apply Fork.mk <;> (intro _; try (exfalso; omega))) | ((refine kTopSc1c ?_); first | ((first | apply q_allD | apply q_alli | apply q_allB) <;> intro _ _ _ _ <;> try contradiction) | (apply q_allv; intro _ _ _)) | refine xTopB20 ?_ | fail)); all_goals ((conv => whnf); try with_reducible apply At.mk)))
      exact hK3 (k + 1) _ _ ⟨rfl, rfl, rfl, rfl, rfl, rfl, rfl, rfl, rfl, rfl, int_of rfl (by omega), trivial⟩ ⟨by (repeat with_reducible apply Quiet.bump'); exact q4'.trans (Quiet.put (by omega) (by omega)), byOm, fun x hx => (get_of fun y hy => byGet).trans (old4 x hx), byGet, by omega⟩ (by omega)
    · obtain rfl : k = T.w 0 := by omega
      rw [upto_all] at hx
      (focus ((try with_reducible apply wpC.to); (repeat' ((conv => whnf); first | refine byEv ?_ | (apply Fork.mk <;> (intro _; try (exfalso; omega))) | ((refine kTopSc1c ?_); first | ((first | apply q_allD | apply q_alli | apply q_allB) <;> intro _ _ _ _ <;> try contradiction) | (apply q_allv; intro _ _ _)) | refine xTopB20 ?_ | fail)); all_goals ((conv => whnf); try with_reducible apply At.mk)))
      apply q_appGG (r := r) (n := i) (m := 1) (cs := rowsOf (fun j => [.slice (.some ⟨ro j, 0, none⟩) (T.w 0) (T.w 0)]) i) (nc := [.slice (.some ⟨h1.next + 8, 0, none⟩) (T.w 0) (T.w 0)]) (v := v)
      case G => exact O1.out.frame fun h0 => (get_of fun y hy => by have := O1.org h0; (exact byGet)).trans (old r (O1.org h0).1.2)
      case hsv => exact rfl
      case C => exact Cells.one (by rw [← ewi]; (exact byMem)) (by unfold AE.far; omega) rfl rfl
      case hm => omega
      case hlo => (exact byOm)
      case hlr => exact fun h0 => by have := O1.org h0; exact ⟨byOm, byOm⟩
      case hsm => omega
      intro v' r' row ha hb hc G'
      have hr0 := O1.org
      have hr' : h.next + 1 ≤ r' ∧ r' ≠ h1.next + 8 := by
        rcases Nat.eq_zero_or_pos i with h0 | h0
        · have := ha h0; exact ⟨byOm, byOm⟩
        · have := hb h0; have := (hr0 h0).1; exact ⟨byOm, byOm⟩
      (focus ((try with_reducible apply wpC.to); (repeat' ((conv => whnf); first | refine byEv ?_ | (apply Fork.mk <;> (intro _; try (exfalso; omega))) | ((refine kTopSc1c ?_); first | ((first | apply q_allD | apply q_alli | apply q_allB) <;> intro _ _ _ _ <;> try contradiction) | (apply q_allv; intro _ _ _)) | refine xTopB20 ?_ | fail)); all_goals ((conv => whnf); try with_reducible apply At.mk)))
      refine hK ⟨i + 1, fun j => if j = i then h1.next + 8 else ro j, r', v'⟩ _ _ ⟨rfl, rfl, rfl, rfl, rfl, int_of rfl (by dsimp only; omega), trivial⟩ ⟨?_, byOm, ?_, by dsimp only; omega⟩ (by dsimp only; omega)
      · have := hr'.1
        (exact byQuiet)
      · dsimp only
        refine O1.next (N' := _) (r' := r') (x := h1.next + 8) byOm (by omega) ?_ ?_ ⟨by omega, byOm⟩ ?_ ⟨hb, fun h0 => ?_⟩
        · intro x h3 h4 h5
          have hxr : x ≠ r' := by
            rcases Nat.eq_zero_or_pos i with h0 | h0
            · have := ha h0; (exact byOm)
            · have := hb h0; have := h5 h0; omega
          exact (get_of fun y hy => byGet).trans (old x h4)
        · (exact byGet)
        · exact G'.frame fun _ => get_of fun y hy => by (exact byGet)
        · have := ha h0
          exact ⟨byOm, byOm, hr'.2⟩
  · obtain rfl : i = T.n := by omega
    (focus ((try with_reducible apply wpC.to); (repeat' ((conv => whnf); first | refine byEv ?_ | (apply Fork.mk <;> (intro _; try (exfalso; omega))) | ((refine kTopSc1c ?_); first | ((first | apply q_allD | apply q_alli | apply q_allB) <;> intro _ _ _ _ <;> try contradiction) | (apply q_allv; intro _ _ _)) | refine xTopB20 ?_ | fail)); all_goals ((conv => whnf); try with_reducible apply At.mk)))
    (refine byFin ?_)
    exact ⟨_, _, _, rfl, O1.frame byOm fun x _ hx => get_of fun y hy => byGet⟩
end AE.Tryz
