/- Sums over a chart's places. -/
import Derived.Test.YtbfhhncmmllblaaChartN
set_option linter.unusedVariables false
set_option linter.unusedSimpArgs false
set_option linter.unusedSectionVars false
namespace AE.Try
open Go AE Go.Proofs
set_option linter.unusedVariables false

theorem ps_congr {f g : Nat → Int} : ∀ n, (∀ i, i < n → f i = g i) → ps f n = ps g n
  | 0, _ => rfl
  | n + 1, h => by simp only [ps]; rw [ps_congr n (fun i hi => h i (by omega)), h n (by omega)]
theorem ps_add (f g : Nat → Int) : ∀ n, ps (fun i => f i + g i) n = ps f n + ps g n
  | 0 => rfl
  | n + 1 => by simp only [ps]; rw [ps_add f g n]; omega
theorem ps_zero : ∀ n, ps (fun _ => 0) n = 0
  | 0 => rfl
  | n + 1 => by simp only [ps]; rw [ps_zero n]; rfl
theorem ps_le {f g : Nat → Int} : ∀ n, (∀ i, i < n → f i ≤ g i) → ps f n ≤ ps g n
  | 0, _ => Int.le_refl _
  | n + 1, h => by have := ps_le n (fun i hi => h i (by omega)); have := h n (by omega); simp only [ps]; omega
theorem ps_mul (f : Nat → Int) (c : Int) : ∀ n, ps (fun i => f i * c) n = ps f n * c
  | 0 => by simp [ps]
  | n + 1 => by simp only [ps]; rw [ps_mul f c n, Int.add_mul]
/-- One more at j. -/
theorem ps_at (f : Nat → Int) (j : Nat) (d : Int) : ∀ n, ps (fun i => if i = j then f i + d else f i) n = ps f n + if j < n then d else 0
  | 0 => by simp [ps]
  | n + 1 => by
    simp only [ps]
    rw [ps_at f j d n]
    by_cases h : n = j
    · subst h
      rw [if_pos rfl, if_neg (by omega), if_pos (by omega)]
      omega
    · rw [if_neg h]
      by_cases h2 : j < n
      · rw [if_pos h2, if_pos (by omega)]; omega
      · rw [if_neg h2, if_neg (by omega)]; omega

/-- The sum over n rows of m places. -/
def gs (f : Nat → Nat → Int) (n m : Nat) : Int := ps (fun i => ps (f i) m) n
theorem gs_congr {f g : Nat → Nat → Int} {n m : Nat} (h : ∀ i k, i < n → k < m → f i k = g i k) : gs f n m = gs g n m :=
  ps_congr n fun i hi => ps_congr m fun k hk => h i k hi hk
theorem gs_add (f g : Nat → Nat → Int) (n m : Nat) : gs (fun i k => f i k + g i k) n m = gs f n m + gs g n m := by
  unfold gs
  rw [← ps_add]
  exact ps_congr n fun i _ => ps_add _ _ m
theorem gs_le {f g : Nat → Nat → Int} {n m : Nat} (h : ∀ i k, i < n → k < m → f i k ≤ g i k) : gs f n m ≤ gs g n m :=
  ps_le n fun i hi => ps_le m fun k hk => h i k hi hk
theorem gs_zero (n m : Nat) : gs (fun _ _ => 0) n m = 0 := by
  unfold gs
  rw [ps_congr (g := fun _ => 0) n (fun i _ => ps_zero m), ps_zero]
theorem gs_mul (f : Nat → Nat → Int) (c : Int) (n m : Nat) : gs (fun i k => f i k * c) n m = gs f n m * c := by
  unfold gs
  rw [← ps_mul]
  exact ps_congr n fun i _ => ps_mul _ c m
theorem gs_upd (f : Nat → Nat → Int) {i k n m : Nat} (hi : i < n) (hk : k < m) (v : Int) : gs (upd2 f i k v) n m = gs f n m + (v - f i k) := by
  unfold gs
  have : ps (fun i' => ps (upd2 f i k v i') m) n = ps (fun i' => if i' = i then ps (f i') m + (v - f i k) else ps (f i') m) n := by
    refine ps_congr n fun i' _ => ?_
    by_cases h : i' = i
    · subst h
      rw [if_pos rfl]
      have : ps (upd2 f i' k v i') m = ps (fun k' => if k' = k then f i' k' + (v - f i' k) else f i' k') m := by
        refine ps_congr m fun k' _ => ?_
        by_cases h : k' = k
        · subst h; rw [if_pos rfl, upd2_at]; omega
        · rw [if_neg h, upd2_ne]
          simp [h]
      rw [this, ps_at, if_pos hk]
    · rw [if_neg h]
      refine ps_congr m fun k' _ => upd2_ne _ _ (by simp [h])
  rw [this, ps_at, if_pos hi]

/-- The sum over a list of entries. -/
def ls (f : PE → Int) : List PE → Int
  | [] => 0
  | e :: l => f e + ls f l
theorem ls_le {f g : PE → Int} : ∀ l : List PE, (∀ e ∈ l, f e ≤ g e) → ls f l ≤ ls g l
  | [], _ => Int.le_refl _
  | e :: l, h => by
    have := ls_le l (fun e he => h e (List.mem_cons_of_mem _ he))
    have := h e List.mem_cons_self
    simp only [ls]; omega
theorem ls_neg (f : PE → Int) : ∀ l : List PE, ls (fun e => -f e) l = -ls f l
  | [] => rfl
  | e :: l => by simp only [ls]; rw [ls_neg f l]; omega
theorem ls_congr {f g : PE → Int} : ∀ l : List PE, (∀ e ∈ l, f e = g e) → ls f l = ls g l
  | [], _ => rfl
  | e :: l, h => by
    simp only [ls]
    rw [ls_congr l (fun e he => h e (List.mem_cons_of_mem _ he)), h e List.mem_cons_self]
/-- Over all places that a list names: the sum over the list. -/
theorem ls_gs {n m : Nat} {f : Nat → Nat → Int} : ∀ (l : List PE), (l.map PE.key).Nodup → (∀ e ∈ l, e.i < n ∧ e.k < m) → gs (fun i k => if (i, k) ∈ l.map PE.key then f i k else 0) n m = ls (fun e => f e.i e.k) l
  | [], _, _ => by
    have : (fun i k => if (i, k) ∈ ([] : List PE).map PE.key then f i k else 0) = fun _ _ => 0 := by funext i k; simp
    rw [this, gs_zero]; rfl
  | e :: l, hn, hb => by
    obtain ⟨h1, h2⟩ := List.nodup_cons.1 hn
    obtain ⟨hi, hk⟩ := hb e List.mem_cons_self
    have ih := ls_gs (f := f) l h2 (fun e he => hb e (List.mem_cons_of_mem _ he))
    have : (fun i k => if (i, k) ∈ (e :: l).map PE.key then f i k else 0) = upd2 (fun i k => if (i, k) ∈ l.map PE.key then f i k else 0) e.i e.k (f e.i e.k) := by
      funext i k
      by_cases h : (i, k) = (e.i, e.k)
      · simp only [Prod.mk.injEq] at h
        rw [h.1, h.2, upd2_at]
        exact if_pos (List.mem_cons_self (a := e.key) (l := l.map PE.key))
      · rw [upd2_ne _ _ h]
        have : (i, k) ∈ (e :: l).map PE.key ↔ (i, k) ∈ l.map PE.key := by
          rw [List.map_cons, List.mem_cons]
          exact ⟨fun h' => h'.resolve_left h, .inr⟩
        simp only [this]
    have h1 : ¬ (e.i, e.k) ∈ l.map PE.key := h1
    rw [this, gs_upd _ hi hk, ih, if_neg h1]
    simp only [ls]
    omega
theorem Rep.sum {l : List PE} {c n m : Nat} {F : Nat → Nat → Int} (R : Rep l c F) (hb : ∀ e ∈ l, e.i < n ∧ e.k < m) {f : Nat → Nat → Int} (hf : ∀ i k, F i k = 0 → f i k = 0) : ls (fun e => f e.i e.k) l = gs f n m := by
  rw [← ls_gs l R.nk hb]
  refine gs_congr fun i k _ _ => ?_
  split
  · rfl
  · rename_i h
    refine (hf i k (Classical.byContradiction fun hF => ?_)).symm
    obtain ⟨e, he, hk⟩ := R.all i k hF
    exact h (List.mem_map.2 ⟨e, he, hk⟩)

/-! ### weights -/

theorem Around.cin {T : Tbl} {p : Pt} (ar : Around T p) {j : Nat} (hj : j < 4) : T.ci p j < T.P.n ∧ T.ck p j < T.A.n := by
  have := ar.i
  have := ar.k
  unfold Tbl.ci Tbl.ck
  omega
/-- The sum over all places of weights times something. -/
theorem add1_sum {T : Tbl} {p : Pt} (ar : Around T p) (b : Int) (f : Nat → Nat → Int) : ∀ n, n ≤ 4 → gs (fun i k => add1 T p b n i k * f i k) T.P.n T.A.n = ps (fun j => T.w p j * b * f (T.ci p j) (T.ck p j)) n
  | 0, _ => by
    have : (fun i k => add1 T p b 0 i k * f i k) = fun _ _ => 0 := by funext i k; simp [add1]
    rw [this, gs_zero]; rfl
  | n + 1, hn => by
    obtain ⟨h1, h2⟩ := ar.cin (j := n) (by omega)
    have ih := add1_sum ar b f n (by omega)
    have hnew : add1 T p b n (T.ci p n) (T.ck p n) = 0 := by
      rcases add1_at T p b n (by omega) (T.ci p n) (T.ck p n) with ⟨j, hj, e, -⟩ | ⟨-, e⟩
      · have := corner_inj (by omega) (by omega) e; omega
      · exact e
    have : (fun i k => add1 T p b (n + 1) i k * f i k) = upd2 (fun i k => add1 T p b n i k * f i k) (T.ci p n) (T.ck p n) (T.w p n * b * f (T.ci p n) (T.ck p n)) := by
      funext i k
      by_cases h : (i, k) = (T.ci p n, T.ck p n)
      · simp only [Prod.mk.injEq] at h
        rw [h.1, h.2, upd2_at]
        simp only [add1]
        split
        · rename_i hw; rw [hnew, hw]; simp
        · rw [upd2_at, hnew, Int.zero_add]
      · rw [upd2_ne _ _ h]
        simp only [add1]
        split
        · rfl
        · rw [upd2_ne _ _ h]
    rw [this, gs_upd _ h1 h2, ih]
    simp only [ps]
    rw [hnew]
    simp
theorem add1_b (T : Tbl) (p : Pt) (b : Int) (i k : Nat) : add1 T p b 4 i k = add1 T p 1 4 i k * b := by
  rcases add1_at T p b 4 (Nat.le_refl _) i k with ⟨j, hj, e, e'⟩ | ⟨e, e'⟩
  · rcases add1_at T p 1 4 (Nat.le_refl _) i k with ⟨j', hj', f, f'⟩ | ⟨f, f'⟩
    · have := corner_inj hj hj' (e.symm.trans f)
      subst this
      rw [e', f', Int.mul_one]
    · exact absurd e (f j hj)
  · rcases add1_at T p 1 4 (Nat.le_refl _) i k with ⟨j', hj', f, f'⟩ | ⟨f, f'⟩
    · exact absurd f (e j' hj')
    · rw [e', f', Int.zero_mul]
/-- The weight of each place. -/
def Tbl.wm (T : Tbl) (p : Pt) : Nat → Nat → Int := add1 T p 1 4
theorem Tbl.more_eq (T : Tbl) (p q : Pt) (i k : Nat) : T.more p q i k = T.wm p i k * T.whole q - T.wm q i k * T.whole p := by
  unfold Tbl.more
  have h1 := add1_b T p (T.whole q) i k
  have h2 := add1_b T q (T.whole p) i k
  unfold Tbl.wm
  rw [← h1, ← h2]
  rcases sub2_at T q (T.whole p) (add1 T p (T.whole q) 4) 4 (Nat.le_refl _) i k with ⟨j, hj, e, e'⟩ | ⟨e, e'⟩
  · rcases add1_at T q (T.whole p) 4 (Nat.le_refl _) i k with ⟨j', hj', f, f'⟩ | ⟨f, f'⟩
    · have := corner_inj hj hj' (e.symm.trans f)
      subst this
      rw [e', f']
    · exact absurd e (f j hj)
  · rcases add1_at T q (T.whole p) 4 (Nat.le_refl _) i k with ⟨j', hj', f, f'⟩ | ⟨f, f'⟩
    · exact absurd f (e j' hj')
    · rw [e', f', Int.sub_zero]
theorem wm_sum {T : Tbl} {p : Pt} (ar : Around T p) (f : Nat → Nat → Int) : gs (fun i k => T.wm p i k * f i k) T.P.n T.A.n = T.vsum p f := by
  unfold Tbl.wm
  rw [add1_sum ar 1 f 4 (Nat.le_refl _)]
  refine ps_congr 4 fun j _ => ?_
  rw [Int.mul_one]
  rfl
theorem wm_whole {T : Tbl} {p : Pt} (ar : Around T p) : gs (T.wm p) T.P.n T.A.n = T.whole p := by
  have := wm_sum ar (fun _ _ => 1)
  have e : (fun i k => T.wm p i k * 1) = T.wm p := by funext i k; rw [Int.mul_one]
  rw [e] at this
  rw [this]
  exact ps_congr 4 fun j _ => Int.mul_one _
theorem wm_nn {T : Tbl} {p : Pt} (ar : Around T p) (i k : Nat) : 0 ≤ T.wm p i k := by
  rcases add1_at T p 1 4 (Nat.le_refl _) i k with ⟨j, hj, -, e⟩ | ⟨-, e⟩
  · unfold Tbl.wm; rw [e, Int.mul_one]; exact (ar.w j).1
  · unfold Tbl.wm; rw [e]; omega
theorem wm_out {T : Tbl} {p : Pt} (ar : Around T p) {i k : Nat} (h : T.wm p i k ≠ 0) : i < T.P.n ∧ k < T.A.n := by
  rcases add1_at T p 1 4 (Nat.le_refl _) i k with ⟨j, hj, e, -⟩ | ⟨-, e⟩
  · simp only [Prod.mk.injEq] at e
    rw [e.1, e.2]
    exact ar.cin hj
  · exact absurd e h
/-- All weights together. -/
theorem more_abs {T : Tbl} {p q : Pt} (ar : Around T p) (ar' : Around T q) : gs (fun i k => ((T.more p q i k).natAbs : Int)) T.P.n T.A.n ≤ 2 * (T.whole p * T.whole q) := by
  have h1 := ar.whole
  have h2 := ar'.whole
  refine Int.le_trans (gs_le (g := fun i k => T.wm p i k * T.whole q + T.wm q i k * T.whole p) fun i k _ _ => ?_) ?_
  · rw [T.more_eq]
    have := Int.mul_nonneg (wm_nn ar i k) (Int.le_of_lt h2.1)
    have := Int.mul_nonneg (wm_nn ar' i k) (Int.le_of_lt h1.1)
    omega
  · rw [gs_add, gs_mul, gs_mul, wm_whole ar, wm_whole ar', Int.mul_comm (T.whole q) (T.whole p)]
    omega
theorem more_out {T : Tbl} {p q : Pt} (ar : Around T p) (ar' : Around T q) {i k : Nat} (h : T.more p q i k ≠ 0) : i < T.P.n ∧ k < T.A.n := by
  rw [T.more_eq] at h
  by_cases h1 : T.wm p i k = 0
  · by_cases h2 : T.wm q i k = 0
    · rw [h1, h2] at h; simp at h
    · exact wm_out ar' h2
  · exact wm_out ar h1
end AE.Try
