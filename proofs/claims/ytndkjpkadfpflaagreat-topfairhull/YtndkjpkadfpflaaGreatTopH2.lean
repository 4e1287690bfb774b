/- Walks of the definitions of fair: bends, what a line costs, spots. -/
import Derived.Test.YtndkjpkadfpflaaGreatJoin4
set_option linter.unusedVariables false
set_option linter.unusedSimpArgs false
set_option linter.unusedSectionVars false
namespace AE.Tryz
open Go AE Go.Proofs AE.Box AE.Fair
set_option maxRecDepth 100000
set_option linter.unusedVariables false

theorem bends_w {h : H} {T : Arr} {m : Nat} (hm : m ≤ h.next) (hT : T.Ok m h) (hb : ∀ i, i < T.n → -1000000 ≤ T.f i ∧ T.f i ≤ 1000000) (hn : T.n ≤ 24) :
    AW Tryz.prog 156 h.next h [.slice T.b T.n T.c] (fun v h' => ∃ r w, v = .slice w (T.n - 2) 0 ∧ GG r h' 2 1 (T.n - 2) (iCells (fun j => sd T.f (j + 1)) (T.n - 2)) w ∧ h.next ≤ r ∧ (0 < T.n - 2 → r < h'.next)) := by
  obtain ⟨e1, i1, r1, l1⟩ := hT
  refine fun156.call rfl (Nat.le_refl _) ?_
  unfold a156
  (focus ((try with_reducible apply wpC.to); (repeat' ((conv => whnf); first | refine byEv ?_ | (apply Fork.mk <;> (intro _; try (exfalso; omega))) | refine xTopF20 ?_ | refine xTopB20 ?_ | fail)); all_goals ((conv => whnf); try with_reducible apply At.mk)))
  refine wp_loop (fun x : Nat × Nat × Option Addr => [(0, .slice T.b T.n T.c), (3, .slice x.2.2 x.1 0), (4, .int .i64 ((x.1 : Int) + 1))])
    (fun x h1 => Same h.next h h1 ∧ h.next ≤ h1.next ∧ GG x.2.1 h1 2 1 x.1 (iCells (fun j => sd T.f (j + 1)) x.1) x.2.2 ∧ h.next ≤ x.2.1 ∧ (0 < x.1 → x.2.1 < h1.next) ∧ x.1 ≤ T.n - 2) (fun x => T.n - x.1) (0, h.next, none) ⟨rfl, rfl, rfl, trivial⟩ ⟨bySame, byOm, by unfold iCells; exact GG.nil, Nat.le_refl _, by simp, by simp⟩ ?_
  rintro ⟨k, r, w⟩ g h1 ⟨s1, hn1, G, hr, hr', hk⟩ K hK
  dsimp only at G hr hr' hk ⊢
  by_cases hlt : k + 2 < T.n
  · have b1 := hb k (by omega)
    have b2 := hb (k + 1) (by omega)
    have b3 := hb (k + 2) (by omega)
    have e0 : T.f ((k : Int) + 1 - 1).toNat = T.f k := congrArg T.f (by omega)
    have e3 : T.f ((k : Int) + 1 + 1).toNat = T.f (k + 2) := congrArg T.f (by omega)
    have hx : T.f ((k : Int) + 1 - 1).toNat - 2 * T.f (k + 1) + T.f ((k : Int) + 1 + 1).toNat = sd T.f (k + 1) := by rw [e0, e3]; simp [sd]
    (focus ((try with_reducible apply wpC.to); (repeat' ((conv => whnf); first | refine byEv ?_ | (apply Fork.mk <;> (intro _; try (exfalso; omega))) | refine xTopF20 ?_ | refine xTopB20 ?_ | fail)); all_goals ((conv => whnf); try with_reducible apply At.mk)))
    rw [hx]
    apply q_appGG (r := r) (n := k) (m := 1) (cs := iCells (fun j => sd T.f (j + 1)) k) (nc := [.int .i64 (sd T.f (k + 1))]) (v := w)
    case G => exact G.frame fun h0 => get_of fun y hy => by have := hr' h0; (exact byGet)
    case hsv => exact rfl
    case C => exact Cells.one byMem (by unfold AE.far; omega) rfl rfl
    case hm => omega
    case hlo => (exact byOm)
    case hlr => exact fun h0 => by have := hr' h0; exact ⟨byOm, byOm⟩
    case hsm => omega
    intro w' r' row ha hb' hc G'
    have hr2 : h.next ≤ r' := by
      rcases Nat.eq_zero_or_pos k with h0 | h0
      · have := ha h0; (exact byOm)
      · have := hb' h0; omega
    (focus ((try with_reducible apply wpC.to); (repeat' ((conv => whnf); first | refine byEv ?_ | (apply Fork.mk <;> (intro _; try (exfalso; omega))) | refine xTopF20 ?_ | refine xTopB20 ?_ | fail)); all_goals ((conv => whnf); try with_reducible apply At.mk)))
    refine hK (k + 1, r', w') _ _ ⟨rfl, rfl, int_of rfl (by dsimp only; omega), trivial⟩ ⟨bySame, byOm, ?_, hr2, fun _ => by dsimp only; (exact byOm), by dsimp only; omega⟩ (by dsimp only; omega)
    dsimp only
    have E : iCells (fun j => sd T.f (j + 1)) (k + 1) = iCells (fun j => sd T.f (j + 1)) k ++ [.int .i64 (sd T.f (k + 1))] := by unfold iCells; rfl
    rw [E]
    exact G'.frame fun _ => get_of fun y hy => by (exact byGet)
  · obtain rfl : k = T.n - 2 := by omega
    (focus ((try with_reducible apply wpC.to); (repeat' ((conv => whnf); first | refine byEv ?_ | (apply Fork.mk <;> (intro _; try (exfalso; omega))) | refine xTopF20 ?_ | refine xTopB20 ?_ | fail)); all_goals ((conv => whnf); try with_reducible apply At.mk)))
    (refine byFin ?_)
    exact ⟨r, w, rfl, G.frame fun h0 => get_of fun y hy => byGet, hr, fun h0 => by have := hr' h0; (exact byOm)⟩
theorem amount_w {h : H} {n : Int} (hn : -9223372036854775808 < n ∧ n < 9223372036854775808) : AW Tryz.prog 157 h.next h [.int .i64 n] (fun v _ => v = .int .i64 (max n (-n))) := by
  refine fun157.call rfl (Nat.le_refl _) ?_
  unfold a157
  (focus ((try with_reducible apply wpC.to); (repeat' ((conv => whnf); first | refine byEv ?_ | fail)); all_goals ((conv => whnf); try with_reducible apply At.mk)))
  (refine byFin ?_)
  rfl
theorem kTopH20 {G G' : Prop} (g : G') (t : G' → G := by ((apply q_call); (focus exact byNext); (focus exact byLo); (focus ((apply amount_w; (focus omega)))))) : G := t g
/-- A number's sign, as it is kept. -/
def sg (z : Int) : Int := if 0 < z then 1 else if z < 0 then 2 else 0
theorem sgn_sg {z d : Int} (hd : d ≠ 0) : sgn (sg z) d = sg d := by unfold sgn sg; split <;> (try split) <;> omega
theorem refMeasure_w {h : H} {T : Arr} {m : Nat} (hm : m ≤ h.next) (hT : T.Ok m h) (hb : ∀ i, i < T.n → -1000000 ≤ T.f i ∧ T.f i ≤ 1000000) (hn : T.n ≤ 24) : AW Tryz.prog 105 h.next h [.slice T.b T.n T.c] (fun v _ => v = .tuple #[.int .i64 (changes T.f T.n), .int .i64 (bend T.f T.n)]) := by
  refine fun105.call rfl (Nat.le_refl _) ?_
  unfold a105
  (focus ((try with_reducible apply wpC.to); (repeat' ((conv => whnf); first | refine byEv ?_ | (apply Fork.mk <;> (intro _; try (exfalso; omega))) | ((refine kTopH20 ?_); first | ((first | apply q_allD | apply q_alli | apply q_allB) <;> intro _ _ _ _ <;> try contradiction) | (apply q_allv; intro _ _ _)) | refine xTopF20 ?_ | refine xTopB20 ?_ | fail)); all_goals ((conv => whnf); try with_reducible apply At.mk)))
  apply q_call
  focus (exact byNext)
  focus (exact byLo)
  focus exact bends_w (m := m) byOm (hT.same bySame (Nat.le_refl _)) hb hn
  rintro _ h1 ⟨r, w, rfl, G, hr, hr'⟩ q1 hn1
  have hn1' : h.next + 7 ≤ h1.next := by (exact byOm)
  clear q1
  unfold iCells at G
  obtain ⟨a, hw, el, hbl⟩ := G.els (f := fun j => [.int .i64 (sd T.f (j + 1))]) fun _ => rfl
  have il : Ints h1 a (T.n - 2) (fun j => sd T.f (j + 1)) := fun j hj => by
    have := el j hj
    rw [Nat.mul_one] at this
    exact this
  have hbr : 0 < T.n - 2 → a.block < h1.next := fun h0 => by have := hbl h0; have := hr' h0; omega
  clear G el hbl
  obtain ⟨D, hD⟩ : ∃ D : Nat → Int, ∀ j, D j = sd T.f (j + 1) := ⟨fun j => sd T.f (j + 1), fun _ => rfl⟩
  have il : Ints h1 a (T.n - 2) D := fun j hj => by rw [hD]; exact il j hj
  (focus ((try with_reducible apply wpC.to); (repeat' ((conv => whnf); first | refine byEv ?_ | (apply Fork.mk <;> (intro _; try (exfalso; omega))) | ((refine kTopH20 ?_); first | ((first | apply q_allD | apply q_alli | apply q_allB) <;> intro _ _ _ _ <;> try contradiction) | (apply q_allv; intro _ _ _)) | refine xTopF20 ?_ | refine xTopB20 ?_ | fail)); all_goals ((conv => whnf); try with_reducible apply At.mk)))
  refine wp_loop (fun x : Nat × Int => [(4, .int .i64 (ms T.f x.1).ch), (5, .int .i64 (ms T.f x.1).bend), (6, .int .i64 x.2), (7, .slice w (T.n - 2) 0), (8, .int .i64 x.1)])
    (fun x h2 => Same h1.next h1 h2 ∧ h1.next ≤ h2.next ∧ (ms T.f x.1).sign = sg x.2 ∧ (-4000000 ≤ x.2 ∧ x.2 ≤ 4000000) ∧ x.1 ≤ T.n - 2) (fun x => T.n - x.1) (0, 0) ⟨rfl, rfl, rfl, rfl, rfl, trivial⟩ ⟨bySame, byOm, rfl, by simp, by simp⟩ ?_
  rintro ⟨k, z⟩ g2 h2 ⟨s2, hn2, hsg, hz, hk⟩ K hK
  dsimp only at hsg hz hk ⊢
  by_cases hlt : k < T.n - 2
  · have b1 := hb k (by omega)
    have b2 := hb (k + 1) (by omega)
    have b3 := hb (k + 2) (by omega)
    have hd : sd T.f (k + 1) = T.f k - 2 * T.f (k + 1) + T.f (k + 2) := by simp [sd]
    have bd := ms_bd (f := T.f) (B := 1000000) (k := k) fun i hi => hb i (by omega)
    have hbd := ms_bend T.f k
    have hch := ms_ch T.f k
    have hsn : (ms T.f (k + 1)).sign = sgn (ms T.f k).sign (sd T.f (k + 1)) := rfl
    rw [hsg] at hch hsn
    have hdb : -4000000 ≤ sd T.f (k + 1) ∧ sd T.f (k + 1) ≤ 4000000 := by omega
    rw [← hD k] at hbd hch hsn hdb
    have e1 : w = some a := hw (by omega)
    have hbr := hbr (by omega)
    subst e1
    have hfin : ∀ z' : Int, (z' = if D k = 0 then z else D k) → (ms T.f (k + 1)).sign = sg z' ∧ -4000000 ≤ z' ∧ z' ≤ 4000000 := fun z' hz' => by
      rw [hsn]
      by_cases h0 : D k = 0
      · rw [if_pos h0] at hz'
        subst hz'
        rw [h0]
        exact ⟨rfl, hz⟩
      · rw [if_neg h0] at hz'
        subst hz'
        exact ⟨sgn_sg h0, hdb⟩
    by_cases h0 : D k = 0
    · have e2 : (ms T.f (k + 1)).ch = (ms T.f k).ch := by
        rw [hch, h0]; unfold chg sgn; simp
      have hf := hfin z (by rw [if_pos h0])
      (focus ((try with_reducible apply wpC.to); (repeat' ((conv => whnf); first | refine byEv ?_ | (apply Fork.mk <;> (intro _; try (exfalso; omega))) | ((refine kTopH20 ?_); first | ((first | apply q_allD | apply q_alli | apply q_allB) <;> intro _ _ _ _ <;> try contradiction) | (apply q_allv; intro _ _ _)) | refine xTopF20 ?_ | refine xTopB20 ?_ | fail)); all_goals ((conv => whnf); try with_reducible apply At.mk)))
      exact hK (k + 1, z) _ _ ⟨int_of rfl e2.symm, int_of rfl (by dsimp only; omega), rfl, rfl, int_of rfl (by dsimp only; omega), trivial⟩ ⟨bySame, byOm, hf.1, hf.2, by dsimp only; omega⟩ (by dsimp only; omega)
    · have hf := hfin (D k) (by rw [if_neg h0])
      by_cases hc : 0 < z ∧ D k < 0 ∨ z < 0 ∧ 0 < D k
      · have e2 : (ms T.f (k + 1)).ch = (ms T.f k).ch + 1 := by
          rw [hch]; unfold chg; rw [sgn_sg h0, if_pos]
          unfold sg; split <;> split <;> (try split) <;> (try split) <;> omega
        (focus ((try with_reducible apply wpC.to); (repeat' ((conv => whnf); first | refine byEv ?_ | (apply Fork.mk <;> (intro _; try (exfalso; omega))) | ((refine kTopH20 ?_); first | ((first | apply q_allD | apply q_alli | apply q_allB) <;> intro _ _ _ _ <;> try contradiction) | (apply q_allv; intro _ _ _)) | refine xTopF20 ?_ | refine xTopB20 ?_ | fail)); all_goals ((conv => whnf); try with_reducible apply At.mk)))
        all_goals exact hK (k + 1, D k) _ _ ⟨int_of rfl (by dsimp only; omega), int_of rfl (by dsimp only; omega), rfl, rfl, int_of rfl (by dsimp only; omega), trivial⟩ ⟨bySame, byOm, hf.1, hf.2, by dsimp only; omega⟩ (by dsimp only; omega)
      · have e2 : (ms T.f (k + 1)).ch = (ms T.f k).ch := by
          rw [hch]; unfold chg; rw [sgn_sg h0, if_neg, Int.add_zero]
          unfold sg; split <;> split <;> (try split) <;> (try split) <;> omega
        (focus ((try with_reducible apply wpC.to); (repeat' ((conv => whnf); first | refine byEv ?_ | (apply Fork.mk <;> (intro _; try (exfalso; omega))) | ((refine kTopH20 ?_); first | ((first | apply q_allD | apply q_alli | apply q_allB) <;> intro _ _ _ _ <;> try contradiction) | (apply q_allv; intro _ _ _)) | refine xTopF20 ?_ | refine xTopB20 ?_ | fail)); all_goals ((conv => whnf); try with_reducible apply At.mk)))
        all_goals exact hK (k + 1, D k) _ _ ⟨int_of rfl (by dsimp only; omega), int_of rfl (by dsimp only; omega), rfl, rfl, int_of rfl (by dsimp only; omega), trivial⟩ ⟨bySame, byOm, hf.1, hf.2, by dsimp only; omega⟩ (by dsimp only; omega)
  · obtain rfl : k = T.n - 2 := by omega
    (focus ((try with_reducible apply wpC.to); (repeat' ((conv => whnf); first | refine byEv ?_ | (apply Fork.mk <;> (intro _; try (exfalso; omega))) | ((refine kTopH20 ?_); first | ((first | apply q_allD | apply q_alli | apply q_allB) <;> intro _ _ _ _ <;> try contradiction) | (apply q_allv; intro _ _ _)) | refine xTopF20 ?_ | refine xTopB20 ?_ | fail)); all_goals ((conv => whnf); try with_reducible apply At.mk)))
    (refine byFin ?_)
    rfl
theorem refCheckSpots_w {h : H} {S : Spots} {m : Nat} (hm : m ≤ h.next) (hS : S.r.Ok m h) : AW Tryz.prog 9 h.next h [.agg ⟨S.cells⟩] (fun v _ => v = .int .i64 (spotsErr S)) := by
  obtain ⟨e1, i1, r1, l1⟩ := hS
  refine fun9.call rfl (Nat.le_refl _) ?_
  unfold a9 spotsErr Spots.cells
  by_cases h0 : S.r.n = 0 ∨ 24 < S.r.n
  · rw [if_pos h0]
    (focus ((try with_reducible apply wpC.to); (repeat' ((conv => whnf); first | refine byEv ?_ | (apply Fork.mk <;> (intro _; try (exfalso; omega))) | refine xTopF20 ?_ | refine xTopB20 ?_ | fail)); all_goals ((conv => whnf); try with_reducible apply At.mk)))
    all_goals ((refine byFin ?_); rfl)
  rw [if_neg h0]
  by_cases ht : 0 ≤ S.t ∧ S.t ≤ 1000000
  · (focus ((try with_reducible apply wpC.to); (repeat' ((conv => whnf); first | refine byEv ?_ | (apply Fork.mk <;> (intro _; try (exfalso; omega))) | refine xTopF20 ?_ | refine xTopB20 ?_ | fail)); all_goals ((conv => whnf); try with_reducible apply At.mk)))
    refine wp_loop (fun s : Nat => [(1, .pointer (some ⟨h.next, 0, none⟩)), (3, .int .i64 s)]) (fun s h1 => Same h.next h h1 ∧ h.next + 1 ≤ h1.next ∧ h1.get h.next = some (.cells [.slice S.r.b S.r.n S.r.c, .int .i64 S.t] 34) ∧ s ≤ S.r.n ∧ ∀ i, i < s → ¬ BadR (S.r.f i)) (fun s => S.r.n - s) 0 ⟨rfl, rfl, trivial⟩ ⟨bySame, byOm, byGet, by omega, fun i hi => by omega⟩ ?_
    rintro s g h1 ⟨s1, hn1, g1, hs, hall⟩ K hK
    by_cases hsn : s < S.r.n
    · by_cases hb : BadR (S.r.f s)
      · have hne : ¬ ((0 ≤ S.t ∧ S.t ≤ 1000000) ∧ ∀ i, i < S.r.n → ¬ BadR (S.r.f i)) := fun hh => hh.2 s hsn hb
        rw [if_neg hne]
        unfold BadR at hb
        (focus ((try with_reducible apply wpC.to); (repeat' ((conv => whnf); first | refine byEv ?_ | (apply Fork.mk <;> (intro _; try (exfalso; omega))) | refine xTopF20 ?_ | refine xTopB20 ?_ | fail)); all_goals ((conv => whnf); try with_reducible apply At.mk)))
        all_goals ((refine byFin ?_); rfl)
      · have hall' : ∀ i, i < s + 1 → ¬ BadR (S.r.f i) := fun i hi => by
          by_cases e : i = s
          · subst e; exact hb
          · exact hall i (by omega)
        unfold BadR at hb
        (focus ((try with_reducible apply wpC.to); (repeat' ((conv => whnf); first | refine byEv ?_ | (apply Fork.mk <;> (intro _; try (exfalso; omega))) | refine xTopF20 ?_ | refine xTopB20 ?_ | fail)); all_goals ((conv => whnf); try with_reducible apply At.mk)))
        exact hK (s + 1) _ _ ⟨rfl, int_of rfl (by omega), trivial⟩ ⟨bySame, byOm, byGet, by omega, hall'⟩ (by omega)
    · obtain rfl : s = S.r.n := by omega
      rw [if_pos ⟨ht, hall⟩]
      (focus ((try with_reducible apply wpC.to); (repeat' ((conv => whnf); first | refine byEv ?_ | (apply Fork.mk <;> (intro _; try (exfalso; omega))) | refine xTopF20 ?_ | refine xTopB20 ?_ | fail)); all_goals ((conv => whnf); try with_reducible apply At.mk)))
      (refine byFin ?_)
      rfl
  · rw [if_neg fun hc => ht hc.1]
    (focus ((try with_reducible apply wpC.to); (repeat' ((conv => whnf); first | refine byEv ?_ | (apply Fork.mk <;> (intro _; try (exfalso; omega))) | refine xTopF20 ?_ | refine xTopB20 ?_ | fail)); all_goals ((conv => whnf); try with_reducible apply At.mk)))
    all_goals ((refine byFin ?_); rfl)
theorem cost_w {h : H} {T : Arr} {m : Nat} {b : Option Addr} {n c : Nat} {t : Int} (hm : m ≤ h.next) (hT : T.Ok m h) (hb : ∀ i, i < T.n → -1000000 ≤ T.f i ∧ T.f i ≤ 1000000) (hn : T.n ≤ 24) (h1 : 0 ≤ changes T.f T.n ∧ changes T.f T.n ≤ 24) (h2 : 0 ≤ bend T.f T.n ∧ bend T.f T.n ≤ 100000000) (h3 : 0 ≤ t * changes T.f T.n ∧ t * changes T.f T.n ≤ 24000000) :
    AW Tryz.prog 41 h.next h [.agg ⟨[.slice b n c, .int .i64 t]⟩, .slice T.b T.n T.c] (fun v _ => v = .int .i64 (bend T.f T.n + t * changes T.f T.n)) := by
  refine fun41.call rfl (Nat.le_refl _) ?_
  unfold a41
  (focus ((try with_reducible apply wpC.to); (repeat' ((conv => whnf); first | refine byEv ?_ | refine xTopF20 ?_ | refine xTopB20 ?_ | fail)); all_goals ((conv => whnf); try with_reducible apply At.mk)))
  apply q_call
  focus (exact byNext)
  focus (exact byLo)
  focus exact refMeasure_w (m := m) byOm (hT.same bySame (Nat.le_refl _)) hb hn
  rintro _ h4 rfl q4 hn4
  (focus ((try with_reducible apply wpC.to); (repeat' ((conv => whnf); first | refine byEv ?_ | refine xTopF20 ?_ | refine xTopB20 ?_ | fail)); all_goals ((conv => whnf); try with_reducible apply At.mk)))
  (refine byFin ?_)
  rfl
theorem refCheck_w {h : H} {S : Spots} {T : Arr} {m m' : Nat} (hm : m ≤ h.next) (hm' : m' ≤ h.next) (hS : S.r.Ok m h) (hT : T.Ok m' h) (he : spotsErr S = 0) (hn : T.n = S.r.n) (hin : ∀ j, j < S.r.n → (S.r.f j).lo ≤ T.f j ∧ T.f j ≤ (S.r.f j).hi) :
    AW Tryz.prog 11 h.next h [.agg ⟨S.cells⟩, .slice T.b T.n T.c] (fun v _ => v = .tuple #[.int .i64 (bend T.f T.n + S.t * changes T.f T.n), .int .i64 0]) := by
  have fit := spots_fit he
  have n1 := fit.good.n1
  have n2 := fit.good.n2
  have t1 := fit.good.t1
  have t2 := fit.good.t2
  have hb : ∀ i, i < T.n → -1000000 ≤ T.f i ∧ T.f i ≤ 1000000 := fun i hi => by
    have a := hin i (by omega)
    have b := fit.good.lo1 i (by omega)
    have c := fit.hi i (by omega)
    unfold Spots.lo at b c
    omega
  have cb : (0 ≤ changes T.f T.n ∧ changes T.f T.n ≤ 24) ∧ 0 ≤ bend T.f T.n ∧ bend T.f T.n ≤ 100000000 := by
    unfold changes bend
    by_cases h1 : T.n = 1
    · rw [h1]; simp [ms]
    · have := ms_bd (f := T.f) (B := 1000000) (k := T.n - 2) fun i hi => hb i (by omega)
      omega
  have tb : 0 ≤ S.t * changes T.f T.n ∧ S.t * changes T.f T.n ≤ 24000000 := by
    have a := Int.mul_nonneg t1 cb.1.1
    have b := Int.mul_le_mul (a := S.t) (b := changes T.f T.n) (c := 1000000) (d := 24) t2 cb.1.2 cb.1.1 (by omega)
    omega
  obtain ⟨te, ti, tr, tl⟩ := hT
  have hT : T.Ok m' h := ⟨te, ti, tr, tl⟩
  obtain ⟨se, si, sr, sl⟩ := hS
  have hS : S.r.Ok m h := ⟨se, si, sr, sl⟩
  refine fun11.call rfl (Nat.le_refl _) ?_
  unfold a11 Spots.cells
  (focus ((try with_reducible apply wpC.to); (repeat' ((conv => whnf); first | refine byEv ?_ | (apply Fork.mk <;> (intro _; try (exfalso; omega))) | refine xTopF20 ?_ | refine xTopB20 ?_ | fail)); all_goals ((conv => whnf); try with_reducible apply At.mk)))
  apply q_call
  focus (exact byNext)
  focus (exact byLo)
  focus exact refCheckSpots_w (S := S) (m := m) byOm (hS.same bySame (Nat.le_refl _))
  intro v h1 hv q1 hn1
  rw [he] at hv
  subst hv
  have s1 : Same h.next h h1 := fun x hx => (q1.same x byOm).trans (get_of fun y hy => byGet)
  have g1 : h1.get h.next = some (.cells [.slice S.r.b S.r.n S.r.c, .int .i64 S.t] 34) := (q1.same _ byOm).trans byGet
  have hn1' : h.next + 3 ≤ h1.next := by (exact byOm)
  clear q1
  (focus ((try with_reducible apply wpC.to); (repeat' ((conv => whnf); first | refine byEv ?_ | (apply Fork.mk <;> (intro _; try (exfalso; omega))) | refine xTopF20 ?_ | refine xTopB20 ?_ | fail)); all_goals ((conv => whnf); try with_reducible apply At.mk)))
  refine wp_loop (fun s : Nat => [(1, .slice T.b T.n T.c), (2, .pointer (some ⟨h.next, 0, none⟩)), (6, .int .i64 s)])
    (fun s h3 => Same h.next h h3 ∧ h3.get h.next = some (.cells [.slice S.r.b S.r.n S.r.c, .int .i64 S.t] 34) ∧ h.next + 3 ≤ h3.next ∧ s ≤ S.r.n) (fun s => S.r.n - s) 0 ⟨rfl, rfl, rfl, trivial⟩ ⟨bySame, byGet, byOm, by omega⟩ ?_
  clear s1 g1 hn1'
  rintro s g3 h3 ⟨s3, g3', hn3, hs3⟩ K hK
  by_cases hsl : s < S.r.n
  · have b1 := hin s hsl
    have b2 := hb s (by omega)
    have hst : s < T.n := by omega
    (focus ((try with_reducible apply wpC.to); (repeat' ((conv => whnf); first | refine byEv ?_ | (apply Fork.mk <;> (intro _; try (exfalso; omega))) | refine xTopF20 ?_ | refine xTopB20 ?_ | fail)); all_goals ((conv => whnf); try with_reducible apply At.mk)))
    exact hK (s + 1) _ _ ⟨rfl, rfl, int_of rfl (by omega), trivial⟩ ⟨bySame, byGet, byOm, by omega⟩ (by omega)
  have es : s = S.r.n := by omega
  subst es
  (focus ((try with_reducible apply wpC.to); (repeat' ((conv => whnf); first | refine byEv ?_ | (apply Fork.mk <;> (intro _; try (exfalso; omega))) | refine xTopF20 ?_ | refine xTopB20 ?_ | fail)); all_goals ((conv => whnf); try with_reducible apply At.mk)))
  apply q_call
  focus (exact byNext)
  focus (exact byLo)
  focus exact cost_w (m := m') byOm ((hT.same (s3.mono hm') (Nat.le_refl _)).same bySame (Nat.le_refl _)) hb (by omega) cb.1 cb.2 tb
  rintro _ h5 rfl q5 hn5
  (focus ((try with_reducible apply wpC.to); (repeat' ((conv => whnf); first | refine byEv ?_ | (apply Fork.mk <;> (intro _; try (exfalso; omega))) | refine xTopF20 ?_ | refine xTopB20 ?_ | fail)); all_goals ((conv => whnf); try with_reducible apply At.mk)))
  (refine byFin ?_)
  rfl
end AE.Tryz
