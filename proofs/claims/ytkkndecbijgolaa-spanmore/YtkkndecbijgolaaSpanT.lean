/- Walks of span: proofs. -/
import Derived.Test.YtkkndecbijgolaaSpanS
set_option linter.unusedVariables false
set_option linter.unusedSimpArgs false
set_option linter.unusedSectionVars false
namespace AE.Try
open Go AE Go.Proofs AE.Sp
set_option maxRecDepth 100000
set_option linter.unusedVariables false

/-- The side that a proof names. -/
def sdOf (L : Runs) (x : PS) : Sd := if x.up then (L.f x.r.toNat).upper else (L.f x.r.toNat).lower
def sumOf (L : Runs) (l : List PS) : Sd := l.foldl (fun acc x => acc.add ((sdOf L x).by x.t)) ⟨0, 0, 0⟩
theorem sdOf_ps (L : Runs) (e : E3) : sdOf L (psOf e) = sides L.f e.k := by
  unfold sdOf psOf sides
  dsimp only
  have e1 : ((e.k : Int) / 2).toNat = e.k / 2 := by omega
  rw [e1]
  by_cases h : e.k % 2 = 0
  · rw [if_neg (by simp; omega), if_pos h]
  · rw [if_pos (by simp; omega), if_neg h]
theorem comb_kept (L : Runs) (l : List (Nat × Nat)) : comb (sides L.f) l = sumOf L ((kept l).map psOf) := by
  have key : ∀ (l : List (Nat × Nat)) (i : Nat) (acc : Sd), l.foldl (fun acc p => acc.add ((sides L.f p.1).by p.2)) acc = (((zip3 l i).filter fun e => !(e.v == 0)).map psOf).foldl (fun acc x => acc.add ((sdOf L x).by x.t)) acc := by
    intro l
    induction l with
    | nil => intro i acc; rfl
    | cons p l ih =>
      intro i acc
      obtain ⟨k, v⟩ := p
      simp only [List.foldl_cons, zip3]
      rw [ih (i + 1)]
      by_cases hv : v = 0
      · subst hv
        rw [List.filter_cons_of_neg (by simp)]
        congr 1
        unfold Sd.add Sd.by
        simp
      · rw [List.filter_cons_of_pos (by simpa using hv), List.map_cons, List.foldl_cons, sdOf_ps]
        rfl
  exact key l 0 _
/-- A proof, and what its sides come to. -/
structure PrOk (L : Runs) (P : PSs) (W : Sd) : Prop where
  n : P.n ≤ 3
  m : ∀ i, i < P.n → (0 ≤ (P.f i).r ∧ (P.f i).r < L.n) ∧ 1 ≤ (P.f i).t ∧ (P.f i).t ≤ 800
  s : sumOf L ((List.range P.n).map P.f) = W
def psList (l : List PS) (i : Nat) : PS := l.getD i ⟨0, false, 0⟩
/-- The proof that lies where sides were put. -/
def PSs.at (r : Nat) (l : List PS) : PSs := ⟨l.length, psList l, addrX r l.length, (addrX r l.length).getD ⟨0, 0, none⟩, 0⟩
theorem PSs.at_ok {r m : Nat} {h : H} {l : List PS} (G : GX r h 72 3 l.length (cellsOf PS.cells l)) (hr : 0 < l.length → r < m) (hl : l.length ≤ 1000) : (PSs.at r l).Ok m h := by
  refine ⟨fun h0 => ?_, fun i hi => ?_, fun h0 => ?_, by show l.length ≤ _; omega⟩
  · show addrX r l.length = some _
    have h0 : 0 < l.length := h0
    unfold PSs.at
    dsimp only
    obtain ⟨n, e⟩ : ∃ n, l.length = n + 1 := ⟨l.length - 1, by omega⟩
    rw [e]; rfl
  · have hi : i < l.length := hi
    obtain ⟨n, e⟩ : ∃ n, l.length = n + 1 := ⟨l.length - 1, by omega⟩
    have A := G.gat (by omega)
    rw [cellsOf_rows PS.cells l ⟨0, false, 0⟩] at A
    obtain ⟨a, a1, a2, a3⟩ := GG.els (.inr ⟨by omega, A⟩) (fun i => rfl)
    have a1 := a1 (by omega)
    have ea : (PSs.at r l).a = a := by
      unfold PSs.at
      dsimp only
      rw [a1]; rfl
    show h.loadN (aadd (PSs.at r l).a _) _ = _
    rw [ea]
    exact a2 i hi
  · show (PSs.at r l).a.block < m
    have h0 : 0 < l.length := h0
    obtain ⟨n, e⟩ : ∃ n, l.length = n + 1 := ⟨l.length - 1, by omega⟩
    unfold PSs.at
    dsimp only
    rw [e]
    exact hr h0
theorem PSs.at_blk {r : Nat} {l : List PS} (h0 : 0 < (PSs.at r l).n) : (PSs.at r l).a.block = r := by
  have h0 : 0 < l.length := h0
  obtain ⟨n, e⟩ : ∃ n, l.length = n + 1 := ⟨l.length - 1, by omega⟩
  unfold PSs.at
  dsimp only
  rw [e]
  rfl
theorem kept_le (l : List (Nat × Nat)) : (kept l).length ≤ l.length := by
  have := List.length_filter_le (fun e : E3 => !(e.v == 0)) (zip3 l 0)
  rw [zip3_len] at this
  exact this
theorem PSs.at_pr {L : Runs} {r : Nat} {l : List (Nat × Nat)} (h3 : l.length ≤ 3) (hv : ∀ p ∈ l, p.1 < 2 * L.n ∧ p.2 ≤ 800) : PrOk L (PSs.at r ((kept l).map psOf)) (comb (sides L.f) l) := by
  have hk := kept_le l
  refine ⟨by show ((kept l).map psOf).length ≤ 3; rw [List.length_map]; omega, fun i hi => ?_, ?_⟩
  · have hi : i < ((kept l).map psOf).length := hi
    show (0 ≤ (psList _ i).r ∧ _) ∧ _
    have em : psList ((kept l).map psOf) i ∈ (kept l).map psOf := by
      unfold psList
      rw [← List.getElem_eq_getD (h := hi) _]
      exact List.getElem_mem hi
    have hf : (PSs.at r ((kept l).map psOf)).f i = psList ((kept l).map psOf) i := rfl
    rw [hf]
    obtain ⟨e, he, ee⟩ := List.mem_map.1 em
    rw [← ee]
    have h1 := List.mem_filter.1 he
    have h2 := hv _ (mem_zip3 l 0 h1.1).1
    have h4 : e.v ≠ 0 := by simpa using h1.2
    unfold psOf
    dsimp only at h2 ⊢
    omega
  · rw [comb_kept]
    congr 1
    exact range_getD _ _

set_option maxHeartbeats 4000000 in
theorem prove_w {h : H} {L : Runs} {m : Nat} {p q : Int} (hm : m ≤ h.next) (hL : L.Ok m h) : AW Try.prog 24 h.next h [.slice L.b L.n L.c, .int .i64 p, .int .i64 q] (fun v h' => ∃ (P : PSs) (tm : Int), v = .tuple #[.agg ⟨[.slice P.b P.n P.c, .int .i64 tm]⟩, .int .i64 (L.lerr p q)] ∧ P.Ok h'.next h' ∧ (P.c = 0 ∧ (0 < P.n → h.next ≤ P.a.block)) ∧ (L.lerr p q ≠ 0 → P.n = 0 ∧ tm = 0) ∧ (L.lerr p q = 0 → ∃ W, PrOk L P W ∧ (W.u = tm * p ∧ W.v = tm * q) ∧ (1 ≤ tm ∧ tm ≤ 800) ∧ fr W.w tm = L.lval p q)) := by
  refine fun24.call rfl (Nat.le_refl _) ?_
  unfold a24
  (focus ((try with_reducible apply wpC.to); (repeat' ((conv => whnf); first | refine byEv ?_ | (apply Fork.mk <;> (intro _; try (exfalso; omega))) | fail)); all_goals ((conv => whnf); try with_reducible apply At.mk)))
  apply q_call
  focus (exact byNext)
  focus (exact byLo)
  focus exact best_w (L := L) (m := m) (p := p) (q := q) byOm (hL.same bySame (Nat.le_refl _))
  rintro _ h2 ⟨M, rfl, b1, b2⟩ q2 n2
  have eM : (⟨M.cells⟩ : Array Value) = ⟨[.map M.r, .int .i64 M.s.u, .int .i64 M.s.v, .int .i64 M.s.w, .int .i64 M.t]⟩ := rfl
  rw [eM]
  by_cases he : L.lerr p q ≠ 0
  · (focus ((try with_reducible apply wpC.to); (repeat' ((conv => whnf); first | refine byEv ?_ | (apply Fork.mk <;> (intro _; try (exfalso; omega))) | fail)); all_goals ((conv => whnf); try with_reducible apply At.mk)))
    (refine byFin ?_)
    exact ⟨PSs.at 0 [], 0, rfl, PSs.at_ok GX.nil (fun h => absurd h (Nat.lt_irrefl _)) (by decide), ⟨rfl, fun h => absurd h (Nat.lt_irrefl _)⟩, fun _ => ⟨rfl, rfl⟩, fun k => absurd k he⟩
  have he : L.lerr p q = 0 := by omega
  have bs := b2 he
  simp only [put_next, bump_next] at bs
  obtain ⟨rm, hrm⟩ : ∃ rm, M.r = some rm := Option.ne_none_iff_exists'.1 bs.r
  have grm := (bs.ok.g rm hrm).1
  rw [he]
  (focus ((try with_reducible apply wpC.to); (repeat' ((conv => whnf); first | refine byEv ?_ | (apply Fork.mk <;> (intro _; try (exfalso; omega))) | fail)); all_goals ((conv => whnf); try with_reducible apply At.mk)))
  apply q_callw
  focus exact proof_w (lo := h.next) (M := M) (S := sides L.f) (N := 2 * L.n) (rm := rm) (by omega) byOm (bs.ok.frame (Nat.le_refl _) (Nat.le_refl _) fun r h1 h2 => get_of fun y hy => byGet) byOm hrm (by have := (Runs.err2_0 (Runs.lerr_0 he).1).1; have := (L.err_0 this).1; omega)
  rintro _ h3 ⟨rfl, G, fr3, ln3⟩ q3
  simp only [put_next, bump_next] at G fr3 ln3 grm
  have x3 := (fr3 h.next (by omega) (by omega)).trans (show _ = some (.cells [.slice none 0 0, .int .i64 0] 33) from byGet)
  (focus ((try with_reducible apply wpC.to); (repeat' ((conv => whnf); first | refine byEv ?_ | (apply Fork.mk <;> (intro _; try (exfalso; omega))) | fail)); all_goals ((conv => whnf); try with_reducible apply At.mk)))
  (refine byFin ?_)
  refine ⟨PSs.at (h2.next + 2 + 4) ((kept M.l).map psOf), M.t, ?_, PSs.at_ok (by rw [List.length_map]; exact G.frame fun h0 => get_of fun y hy => byGet) (fun _ => byOm) ?_, ⟨rfl, fun h0 => by rw [PSs.at_blk h0]; omega⟩, fun k => absurd rfl k, fun _ => ⟨comb (sides L.f) M.l, PSs.at_pr bs.ok.n bs.ok.v, ?_, by have := bs.nice.t; omega, ?_⟩⟩
  · unfold PSs.at; dsimp only; rw [List.length_map]; rfl
  · rw [List.length_map]; have := kept_le M.l; have := bs.ok.n; omega
  · rw [← bs.ok.s]; exact ⟨bs.u, bs.v⟩
  · rw [← bs.ok.s]; exact bs.val he

open Classical in
/-- The error of a proof that runs contradict each other. -/
noncomputable def Runs.derr (L : Runs) : Int := if L.err ≠ 0 then L.err else if L.Cl then 5 else 0
set_option maxHeartbeats 4000000 in
theorem doubtP_w {h : H} {L : Runs} {m : Nat} (hm : m ≤ h.next) (hL : L.Ok m h) : AW Try.prog 18 h.next h [.slice L.b L.n L.c] (fun v h' => ∃ (P : PSs) (tm : Int), v = .tuple #[.agg ⟨[.slice P.b P.n P.c, .int .i64 tm]⟩, .int .i64 L.derr] ∧ P.Ok h'.next h' ∧ (P.c = 0 ∧ (0 < P.n → h.next ≤ P.a.block)) ∧ (L.derr ≠ 0 → P.n = 0 ∧ tm = 0) ∧ (L.derr = 0 → ∃ W, PrOk L P W ∧ (W.u = 0 ∧ W.v = 0) ∧ 0 < W.w ∧ tm = 1)) := by
  have b1 : L.err ≠ 0 → L.derr = L.err := fun h => by unfold Runs.derr; rw [if_pos h]
  have b2 : L.err = 0 → ¬ L.Cl → L.derr = 0 := fun h h' => by unfold Runs.derr; rw [if_neg (by omega), if_neg h']
  have b3 : L.err = 0 → L.Cl → L.derr = 5 := fun h h' => by unfold Runs.derr; rw [if_neg (by omega), if_pos h']
  refine fun18.call rfl (Nat.le_refl _) ?_
  unfold a18
  (focus ((try with_reducible apply wpC.to); (repeat' ((conv => whnf); first | refine byEv ?_ | (apply Fork.mk <;> (intro _; try (exfalso; omega))) | ((refine kSpanB4 ?_); first | ((first | apply q_allD | apply q_alli | apply q_allB) <;> intro _ _ _ _ <;> try contradiction) | (apply q_allv; intro _ _ _)) | fail)); all_goals ((conv => whnf); try with_reducible apply At.mk)))
  · have e0 : L.err ≠ 0 := by assumption
    (refine byFin ?_)
    refine ⟨PSs.at 0 [], 0, ?_, PSs.at_ok GX.nil (fun h => absurd h (Nat.lt_irrefl _)) (by decide), ⟨rfl, fun h => absurd h (Nat.lt_irrefl _)⟩, fun _ => ⟨rfl, rfl⟩, fun k => absurd k (by rw [b1 e0]; exact e0)⟩
    rw [b1 e0]; rfl
  have e0 : L.err = 0 := by assumption
  obtain ⟨ln, lv⟩ := L.err_0 e0
  apply q_call
  focus (exact byNext)
  focus (exact byLo)
  focus exact newTable_w (L := L) (m := m) byOm (hL.same bySame (Nat.le_refl _)) (by omega) lv
  rintro _ h2 ⟨T, rfl, tn, tf, tok⟩ q2 n2
  have eS : T.S = sides L.f := by unfold Tab.S; rw [tf]
  (focus ((try with_reducible apply wpC.to); (repeat' ((conv => whnf); first | refine byEv ?_ | (apply Fork.mk <;> (intro _; try (exfalso; omega))) | ((refine kSpanB4 ?_); first | ((first | apply q_allD | apply q_alli | apply q_allB) <;> intro _ _ _ _ <;> try contradiction) | (apply q_allv; intro _ _ _)) | fail)); all_goals ((conv => whnf); try with_reducible apply At.mk)))
  apply q_call
  focus (exact byNext)
  focus (exact byLo)
  focus exact doubt_w (T := T) (m := h2.next) byOm (tok.same bySame (Nat.le_refl _))
  rintro _ h3 ⟨M, bv, rfl, d1, d2⟩ q3 n3
  rw [eS, tn] at d1 d2
  cases bv
  · obtain ⟨rfl, cl⟩ := d2 rfl
    have cl : L.Cl := cl
    unfold Mk.none Mk.cells
    (focus ((try with_reducible apply wpC.to); (repeat' ((conv => whnf); first | refine byEv ?_ | (apply Fork.mk <;> (intro _; try (exfalso; omega))) | ((refine kSpanB4 ?_); first | ((first | apply q_allD | apply q_alli | apply q_allB) <;> intro _ _ _ _ <;> try contradiction) | (apply q_allv; intro _ _ _)) | fail)); all_goals ((conv => whnf); try with_reducible apply At.mk)))
    (refine byFin ?_)
    refine ⟨PSs.at 0 [], 0, ?_, PSs.at_ok GX.nil (fun h => absurd h (Nat.lt_irrefl _)) (by decide), ⟨rfl, fun h => absurd h (Nat.lt_irrefl _)⟩, fun _ => ⟨rfl, rfl⟩, fun k => absurd k (by rw [b3 e0 cl]; decide)⟩
    rw [b3 e0 cl]; rfl
  obtain ⟨d3, d4⟩ := d1 rfl
  try simp only [put_next, bump_next] at d3
  have nc := bad_cl lv d3 d4
  have d0 := b2 e0 nc
  rw [d0]
  have hr : M.r ≠ none := fun hr => by
    have h1 := d3.z hr
    have h2 := d3.s
    rw [h1] at h2
    have h3 := d4.2.2
    rw [h2] at h3
    have h4 : (comb (sides L.f) []).w = 0 := rfl
    omega
  obtain ⟨rm, hrm⟩ : ∃ rm, M.r = some rm := Option.ne_none_iff_exists'.1 hr
  have grm := (d3.g rm hrm).1
  have eM : (⟨M.cells⟩ : Array Value) = ⟨[.map M.r, .int .i64 M.s.u, .int .i64 M.s.v, .int .i64 M.s.w, .int .i64 M.t]⟩ := rfl
  rw [eM]
  (focus ((try with_reducible apply wpC.to); (repeat' ((conv => whnf); first | refine byEv ?_ | (apply Fork.mk <;> (intro _; try (exfalso; omega))) | ((refine kSpanB4 ?_); first | ((first | apply q_allD | apply q_alli | apply q_allB) <;> intro _ _ _ _ <;> try contradiction) | (apply q_allv; intro _ _ _)) | fail)); all_goals ((conv => whnf); try with_reducible apply At.mk)))
  apply q_callw
  focus exact proof_w (lo := h.next) (M := M) (S := sides L.f) (N := 2 * L.n) (rm := rm) (by omega) byOm (d3.frame (Nat.le_refl _) (Nat.le_refl _) fun r h1 h2 => get_of fun y hy => byGet) byOm hrm (by omega)
  rintro _ h4 ⟨rfl, G, fr4, ln4⟩ q4
  simp only [put_next, bump_next] at G fr4 ln4 grm
  have x3 := (fr4 h.next (by omega) (by omega)).trans (show _ = some (.cells [.slice none 0 0, .int .i64 0] 33) from byGet)
  (focus ((try with_reducible apply wpC.to); (repeat' ((conv => whnf); first | refine byEv ?_ | (apply Fork.mk <;> (intro _; try (exfalso; omega))) | ((refine kSpanB4 ?_); first | ((first | apply q_allD | apply q_alli | apply q_allB) <;> intro _ _ _ _ <;> try contradiction) | (apply q_allv; intro _ _ _)) | fail)); all_goals ((conv => whnf); try with_reducible apply At.mk)))
  (refine byFin ?_)
  refine ⟨PSs.at _ ((kept M.l).map psOf), M.t, ?_, PSs.at_ok (by rw [List.length_map]; exact G.frame fun h0 => get_of fun y hy => byGet) (fun _ => byOm) ?_, ⟨rfl, fun h0 => by rw [PSs.at_blk h0]; omega⟩, fun k => absurd rfl k, fun _ => ⟨comb (sides L.f) M.l, PSs.at_pr d3.n d3.v, ?_, ?_, d4.1⟩⟩
  · unfold PSs.at; dsimp only; rw [List.length_map]; rfl
  · rw [List.length_map]; have := kept_le M.l; have := d3.n; omega
  · rw [← d3.s]; exact d4.2.1
  · rw [← d3.s]; exact d4.2.2
end AE.Try
