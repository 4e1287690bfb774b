/- Walks of box: a true hull with the least, or the greatest, number. -/
import Derived.Test.YtndkjpkadfpflaaGreatJoin3
import Derived.Test.YtndkjpkadfpflaaGreatJoin7
set_option linter.unusedVariables false
set_option linter.unusedSimpArgs false
set_option linter.unusedSectionVars false
namespace AE.Tryz
open Go AE Go.Proofs AE.Box
set_option maxRecDepth 100000
set_option linter.unusedVariables false

def matV (rr : Nat → Nat) (w c j : Nat) : Value := if j < c then .slice (some ⟨rr j, 0, none⟩) w w else .slice none 0 0
def matC (rr : Nat → Nat) (w c n : Nat) : List Value := rowsOf (fun j => [matV rr w c j]) n
/-- Rows that are named in row R; c of n are there. -/
structure Mat (lo N : Nat) (h : H) (R n w c : Nat) (rr : Nat → Nat) (f : Nat → Nat → Int) : Prop where
  out : h.get R = some (.cells (matC rr w c n) 38)
  row : ∀ i, i < c → h.get (rr i) = some (.cells (iCells (f i) w) 2)
  rng : ∀ i, i < c → lo ≤ rr i ∧ rr i < N
  inj : ∀ i j, i < c → j < c → rr i = rr j → i = j
  rlo : R < lo
theorem matC_len {rr : Nat → Nat} {w c n : Nat} : (matC rr w c n).length = n := by
  unfold matC
  rw [rowsOf_len (w := 1) fun _ => rfl, Nat.mul_one]
theorem Mat.frame {lo N N' : Nat} {h h' : H} {R n w c : Nat} {rr : Nat → Nat} {f : Nat → Nat → Int} (k : Mat lo N h R n w c rr f) (hN : N ≤ N') (hR : h'.get R = h.get R) (hs : ∀ x, lo ≤ x → x < N → h'.get x = h.get x) : Mat lo N' h' R n w c rr f :=
  ⟨hR.trans k.out, fun i hi => (hs _ (k.rng i hi).1 (k.rng i hi).2).trans (k.row i hi), fun i hi => by have := k.rng i hi; omega, k.inj, k.rlo⟩
theorem Mat.vals {lo N : Nat} {h : H} {R n w c : Nat} {rr : Nat → Nat} {f : Nat → Nat → Int} (k : Mat lo N h R n w c rr f) : Vals h ⟨R, 0, none⟩ n (matV rr w c) := fun i hi => by
  have := cut_rowsOf (g := fun j => [matV rr w c j]) (w := 1) (fun _ => rfl) hi [] [] (a := 0 + i) (by simp)
  exact loadN_cells (off := 0 + i) k.out (by simpa [matC] using this)
theorem Mat.nil {lo N : Nat} {h : H} {R n w : Nat} {rr : Nat → Nat} {f : Nat → Nat → Int} (hR : h.get R = some (.cells (matC rr w 0 n) 38)) (hl : R < lo) : Mat lo N h R n w 0 rr f :=
  ⟨hR, fun i hi => by omega, fun i hi => by omega, fun i j hi => by omega, hl⟩
theorem nils0 (rr : Nat → Nat) (w n : Nat) : reps [Value.slice none 0 0] n = matC rr w 0 n := by
  rw [reps_rows]
  unfold matC
  exact rowsOf_congr n fun i hi => by unfold matV; rw [if_neg (by omega)]
/-- One row more. -/
theorem Mat.next {lo N N' : Nat} {h h' : H} {R n w c x : Nat} {rr : Nat → Nat} {f : Nat → Nat → Int} (k : Mat lo N h R n w c rr f) (hc : c < n) (hlN : lo ≤ N) (hN : N ≤ x ∧ x < N') (hR : h'.get R = some (.cells (splice (matC rr w c n) c [.slice (some ⟨x, 0, none⟩) w w]) 38)) (hx : h'.get x = some (.cells (iCells (f c) w) 2)) (hs : ∀ y, lo ≤ y → y < N → h'.get y = h.get y) :
    Mat lo N' h' R n w (c + 1) (fun j => if j = c then x else rr j) f := by
  refine ⟨?_, fun i hi => ?_, fun i hi => ?_, fun i j hi hj e => ?_, k.rlo⟩
  · rw [hR]
    have := splice_rowsOf (g := fun j => [matV rr w c j]) (w := 1) (fun _ => rfl) hc [] [] [Value.slice (some ⟨x, 0, none⟩) w w] rfl (a := c) (by simp)
    simp only [List.nil_append, List.append_nil] at this
    unfold matC
    rw [this]
    congr 2
    refine rowsOf_congr n fun j hj => ?_
    unfold updL matV
    by_cases e : j = c
    · subst e; simp
    · rw [if_neg e]
      dsimp only
      by_cases e2 : j < c
      · rw [if_pos e2, if_pos (by omega), if_neg e]
      · rw [if_neg e2, if_neg (by omega)]
  · by_cases e : i = c
    · subst e; simp only [if_true]; exact hx
    · simp only [if_neg e]
      have := k.rng i (by omega)
      exact (hs _ this.1 this.2).trans (k.row i (by omega))
  · by_cases e : i = c
    · subst e; simp only [if_true]; omega
    · simp only [if_neg e]
      have := k.rng i (by omega)
      omega
  · by_cases e1 : i = c
    · by_cases e2 : j = c
      · omega
      · simp only [if_pos e1, if_neg e2] at e; have := k.rng j (by omega); omega
    · by_cases e2 : j = c
      · simp only [if_neg e1, if_pos e2] at e; have := k.rng i (by omega); omega
      · simp only [if_neg e1, if_neg e2] at e; exact k.inj i j (by omega) (by omega) e
/-- A number is stored. -/
theorem Mat.set {lo N : Nat} {h : H} {R n w c : Nat} {rr : Nat → Nat} {f : Nat → Nat → Int} (k : Mat lo N h R n w c rr f) {i j : Nat} (hi : i < c) (hj : j < w) (y : Int) :
    Mat lo N (h.put (rr i) (.cells (iCells (updN (f i) j y) w) 2)) R n w c rr (upd2 f i j y) := by
  have hl := k.rlo
  have hri := k.rng i hi
  have e : ∀ i', upd2 f i j y i' = if i' = i then updN (f i) j y else f i' := fun i' => by
    funext x
    unfold upd2 updN
    by_cases h1 : i' = i
    · subst h1; simp
    · simp [h1]
  refine ⟨?_, fun i' hi' => ?_, k.rng, k.inj, k.rlo⟩
  · simp only [H.put]
    rw [if_neg (by omega)]
    exact k.out
  · rw [e i']
    by_cases h1 : i' = i
    · subst h1; simp [H.put]
    · have : rr i' ≠ rr i := fun h2 => h1 (k.inj _ _ hi' hi h2)
      simp [H.put, h1, this, k.row i' hi']
/-- One can read them. -/
theorem Mat.grid {lo N : Nat} {h : H} {R n w : Nat} {rr : Nat → Nat} {f : Nat → Nat → Int} (k : Mat lo N h R n w n rr f) (hRN : lo ≤ N) : (⟨n, w, some ⟨R, 0, none⟩, ⟨R, 0, none⟩, n, fun i => ⟨rr i, 0, none⟩, fun _ => w, f⟩ : Grid).Ok N h := by
  have hl := k.rlo
  refine ⟨fun _ => rfl, fun i hi => ?_, fun _ => by show R < N; omega, fun i hi => iCells_ints (k.row i hi), fun i hi => (k.rng i hi).2⟩
  have := k.vals i hi
  unfold matV at this
  rw [if_pos hi] at this
  exact this
theorem ints_row2 {h h' : H} {r n : Nat} {f : Nat → Int} (k : Ints h ⟨r, 0, none⟩ n f) (e : h'.get r = h.get r) : Ints h' ⟨r, 0, none⟩ n f := fun i hi => by
  have := k i hi
  unfold H.loadN at *
  have e1 : (aadd (⟨r, 0, none⟩ : Addr) i).block = r := rfl
  rw [e1] at *
  rw [e]
  exact this
set_option maxHeartbeats 1000000 in
theorem endApi_w {h : H} {T : Hull} {m q : Nat} (hm : m ≤ h.next) (hT : T.Ok m h) (V : T.Valid) (hq : q ≤ 2) : AW Tryz.prog 32 h.next h [.agg ⟨T.cells⟩, .int .i64 q, .bool false] (fun v h' => ∃ R rr Z, v = .tuple #[.slice (some ⟨R, 0, none⟩) T.n T.n, .int .i64 0] ∧ (h.next ≤ R ∧ R + 1 ≤ h'.next) ∧ Mat (R + 1) h'.next h' R T.n (T.w 0) T.n rr Z ∧ IsEnd T q (-1) Z) := by
  have n1 := V.n1
  have n2 := V.n2
  have w1 := V.w1
  have w2 := V.w2
  refine fun32.call rfl (Nat.le_refl _) ?_
  unfold a32 Hull.cells
  (focus ((try with_reducible apply wpC.to); (repeat' ((conv => whnf); first | refine byEv ?_ | (apply Fork.mk <;> (intro _; try (exfalso; omega))) | refine xTopF20 ?_ | refine xTopB20 ?_ | fail)); all_goals ((conv => whnf); try with_reducible apply At.mk)))
  apply q_call
  focus (exact byNext)
  focus (exact byLo)
  focus exact newPlan_w (T := T) (m := m) (q := q) byOm (hT.same bySame (Nat.le_refl _)) V hq
  rintro _ h2 ⟨p, rfl, ⟨p1, p2⟩, gp⟩ q2 hn2
  have sm2 : Same h.next h h2 := fun x hx => (q2.same x byOm).trans (get_of fun y hy => byGet)
  have hn2' : h.next + 3 ≤ h2.next := by (exact byOm)
  clear q2 hn2 p1
  (focus ((try with_reducible apply wpC.to); (repeat' ((conv => whnf); first | refine byEv ?_ | (apply Fork.mk <;> (intro _; try (exfalso; omega))) | refine xTopF20 ?_ | refine xTopB20 ?_ | fail)); all_goals ((conv => whnf); try with_reducible apply At.mk)))
  apply q_call
  focus (exact byNext)
  focus (exact byLo)
  focus exact end_w (T := T) (m := m) (p := p) (q := q) (s := -1) byOm byOm ((get_of fun y hy => byGet).trans gp) hq ((hT.same (sm2.mono hm) (Nat.le_refl _)).same bySame (Nat.le_refl _)) V (.inr rfl)
  rintro _ h3 ⟨rr, r, w, Z, rfl, O3, E⟩ q3 hn3
  have hn3' : h2.next + 12 ≤ h3.next := by (exact byOm)
  have O3' : Own (h2.next + 12) h3.next h3 T.n (T.w 0) rr Z r w := O3.lower byOm
  obtain ⟨a, rfl, -⟩ := O3'.grid (by omega)
  clear q3 O3
  generalize T.hul.val q Z = x
  (focus ((try with_reducible apply wpC.to); (repeat' ((conv => whnf); first | refine byEv ?_ | (apply Fork.mk <;> (intro _; try (exfalso; omega))) | refine xTopF20 ?_ | refine xTopB20 ?_ | fail)); all_goals ((conv => whnf); try with_reducible apply At.mk)))
  refine q_mkslice (z := [Value.slice none 0 0]) (a := T.n) (b := T.n) (k1 := .i64) (k2 := .i64) rfl rfl (Nat.le_refl _) (by omega) ?_
  rw [nils0 (fun _ => 0) (T.w 0)]
  (focus ((try with_reducible apply wpC.to); (repeat' ((conv => whnf); first | refine byEv ?_ | (apply Fork.mk <;> (intro _; try (exfalso; omega))) | refine xTopF20 ?_ | refine xTopB20 ?_ | fail)); all_goals ((conv => whnf); try with_reducible apply At.mk)))
  refine wp_loop (fun x : Nat × (Nat → Nat) => [(13, .slice (some ⟨h3.next + 2, 0, none⟩) T.n T.n), (35, .slice (some a) T.n 0), (36, .int .i64 T.n), (37, .int .i64 x.1)])
    (fun x X => h3.next + 7 ≤ X.next ∧ (∀ y, h2.next + 12 ≤ y → y < h3.next → X.get y = h3.get y) ∧ x.1 ≤ T.n ∧ Mat (h3.next + 3) X.next X (h3.next + 2) T.n (T.w 0) x.1 x.2 Z) (fun x => T.n - x.1) (0, fun _ => 0) ⟨rfl, rfl, rfl, rfl, trivial⟩ ⟨byOm, ?_, by simp, Mat.nil byGet (by omega)⟩ ?_
  · exact fun x hx hx2 => get_of fun y hy => by (exact byGet)
  rintro ⟨i, ro⟩ g4 X ⟨nx, sm, hi, M⟩ K hK
  dsimp only at hi M
  dsimp only at hK ⊢
  by_cases hin : i < T.n
  · have OX := O3'.frame (h' := X) (Nat.le_refl _) sm
    obtain ⟨a', ea, gd2⟩ := OX.grid (by omega)
    obtain rfl : a = a' := by simpa using ea
    have gi := gd2.i
    have gr := gd2.r
    have gri := gd2.ri i hin
    have grr := gd2.rr i hin
    dsimp only at gi gr gri grr
    have hba : a.block < h3.next := gr (by omega)
    have gR := M.out
    (focus ((try with_reducible apply wpC.to); (repeat' ((conv => whnf); first | refine byEv ?_ | (apply Fork.mk <;> (intro _; try (exfalso; omega))) | refine xTopF20 ?_ | refine xTopB20 ?_ | fail)); all_goals ((conv => whnf); try with_reducible apply At.mk)))
    refine q_mkslice (z := [Value.int .i64 0]) (a := T.w 0) (b := T.w 0) (k1 := .i64) (k2 := .i64) rfl rfl (Nat.le_refl _) (by omega) ?_
    rw [zeros1]
    (focus ((try with_reducible apply wpC.to); (repeat' ((conv => whnf); first | refine byEv ?_ | (apply Fork.mk <;> (intro _; try (exfalso; omega))) | refine xTopF20 ?_ | refine xTopB20 ?_ | fail)); all_goals ((conv => whnf); try with_reducible apply At.mk)))
    have hx0 : ∀ X' : H, (X'.put (X.next + 10) (.cells (iCells (fun _ => 0) (T.w 0)) 2)).get (X.next + 10) = some (.cells (iCells (fun _ => 0) (T.w 0)) 2) := fun X' => by simp [H.put]
    refine Sto.mk (r := h3.next + 2) (off := 0 + i * 1) (c' := splice (matC ro (T.w 0) i T.n) i [.slice (some ⟨X.next + 10, 0, none⟩) (T.w 0) (T.w 0)]) rfl (by omega) byGet rfl rfl (Nat.ble_eq_true_of_le (by rw [matC_len]; simp; omega)) (bis_eq (by rw [show 0 + i * 1 = i by omega])) ?_
    have MX : Mat (h3.next + 3) (X.next + 13) (((((X.bump 1).bump 5).bump 7).put (X.next + 10) (ARow.cells (iCells (fun x => 0) (T.w 0)) 2)).put (h3.next + 2) (.cells (splice (matC ro (T.w 0) i T.n) i [.slice (some ⟨X.next + 10, 0, none⟩) (T.w 0) (T.w 0)]) 38)) (h3.next + 2) T.n (T.w 0) (i + 1) (fun j => if j = i then X.next + 10 else ro j) (fun j => if j = i then fun _ => 0 else Z j) := by
      have M0 : Mat (h3.next + 3) X.next X (h3.next + 2) T.n (T.w 0) i ro (fun j => if j = i then fun _ => 0 else Z j) := ⟨M.out, fun j hj => by rw [if_neg (by omega)]; exact M.row j hj, M.rng, M.inj, M.rlo⟩
      exact M0.next hin (by omega) ⟨by omega, by omega⟩ byGet (by rw [if_pos rfl]; (exact byGet)) fun y h1 h2 => get_of fun z hz => by (exact byGet)
    have vX := MX.vals.at hin
    have eV : matV (fun j => if j = i then X.next + 10 else ro j) (T.w 0) (i + 1) i = .slice (some ⟨X.next + 10, 0, none⟩) (T.w 0) (T.w 0) := by unfold matV; rw [if_pos (by omega)]; dsimp only; rw [if_pos rfl]
    rw [eV] at vX
    (focus ((try with_reducible apply wpC.to); (repeat' ((conv => whnf); first | refine byEv ?_ | (apply Fork.mk <;> (intro _; try (exfalso; omega))) | refine xTopF20 ?_ | refine xTopB20 ?_ | fail)); all_goals ((conv => whnf); try with_reducible apply At.mk)))
    refine q_copyL (r := X.next + 10) (n := T.w 0) (m := T.w 0) (a := ⟨rr i, 0, none⟩) (f := Z i) (c := iCells (fun _ => 0) (T.w 0)) (e := 2) rfl rfl (ints_row2 gri (get_of fun y hy => byGet)) (by omega) (Nat.le_refl _) byGet (iCells_len _ _) (by omega) (by unfold AE.far; omega) (by unfold AE.far; omega) ?_
    (focus ((try with_reducible apply wpC.to); (repeat' ((conv => whnf); first | refine byEv ?_ | (apply Fork.mk <;> (intro _; try (exfalso; omega))) | refine xTopF20 ?_ | refine xTopB20 ?_ | fail)); all_goals ((conv => whnf); try with_reducible apply At.mk)))
    refine hK (i + 1, fun j => if j = i then X.next + 10 else ro j) _ _ ⟨rfl, rfl, rfl, int_of rfl (by dsimp only; omega), trivial⟩ ⟨byOm, fun y h1 h2 => (get_of fun z hz => byGet).trans (sm y h1 h2), by dsimp only; omega, ?_⟩ (by dsimp only; omega)
    dsimp only
    exact M.next hin (by omega) ⟨by omega, byOm⟩ byGet byGet fun y h1 h2 => get_of fun z hz => by (exact byGet)
  · obtain rfl : i = T.n := by omega
    (focus ((try with_reducible apply wpC.to); (repeat' ((conv => whnf); first | refine byEv ?_ | (apply Fork.mk <;> (intro _; try (exfalso; omega))) | refine xTopF20 ?_ | refine xTopB20 ?_ | fail)); all_goals ((conv => whnf); try with_reducible apply At.mk)))
    (refine byFin ?_)
    exact ⟨h3.next + 2, ro, Z, rfl, ⟨by omega, byOm⟩, M.frame byOm (get_of fun y hy => byGet) fun x _ hx => get_of fun y hy => byGet, E⟩
end AE.Tryz
