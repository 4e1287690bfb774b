/- Walks of span: the greatest bound. -/
import Derived.Test.YtkkndecbijgolaaSpanK
set_option linter.unusedVariables false
set_option linter.unusedSimpArgs false
set_option linter.unusedSectionVars false
namespace AE.Try
open Go AE Go.Proofs AE.Sp
set_option maxRecDepth 100000
set_option linter.unusedVariables false

/-- What a group of one or two sides gives for the factors of W: its bound is N / D. -/
def CandOf (S : Nat → Sd) (W : Sd) (g : List Nat) (N D : Int) : Prop := match g with
  | [i] => cr (S i) W = 0 ∧ ((S i).u * W.size + W.u * -(S i).size = 0 ∧ (S i).v * W.size + W.v * -(S i).size = 0) ∧ N = (S i).w * W.size ∧ D = (S i).size
  | [i, j] => (0 < cr (S i) (S j) ∧ 0 ≤ cr W (S j) ∧ 0 ≤ cr (S i) W ∧ N = (S i).w * cr W (S j) + (S j).w * cr (S i) W ∧ D = cr (S i) (S j)) ∨
    (cr (S i) (S j) < 0 ∧ cr W (S j) ≤ 0 ∧ cr (S i) W ≤ 0 ∧ N = (S i).w * -cr W (S j) + (S j).w * -cr (S i) W ∧ D = -cr (S i) (S j))
  | _ => False
theorem _root_.AE.GG.spot {r n sz : Nat} {h : H} {e : TypeId} {cs : List Value} {v : Option Addr} (G : GG r h e sz n cs v) (h0 : 0 < n) : ∃ g, v = some ⟨r, 0, some g⟩ := by
  rcases G with ⟨rfl, -⟩ | ⟨-, G⟩
  · exact absurd h0 (Nat.lt_irrefl 0)
  · obtain ⟨g, lens, valid, hv, -⟩ := G.is
    exact ⟨g, hv⟩
/-- Of those that were collected. -/
structure Cand (S : Nat → Sd) (N : Nat) (W : Sd) (b m : Nat) (h : H) (M : Mk) : Prop where
  ok : M.Ok S N b m h
  nice : M.Nice
  u : M.s.u = M.t * W.u
  v : M.s.v = M.t * W.v
  g : ∃ g, Grp N 2 g ∧ CandOf S W g M.s.w M.t
  r : M.r ≠ .none
theorem Cand.frame {S : Nat → Sd} {N b b' m m' : Nat} {W : Sd} {h h' : H} {M : Mk} (k : Cand S N W b m h M) (hb : b' ≤ b) (hm : m ≤ m') (s : ∀ r, b ≤ r → r < m → h'.get r = h.get r) : Cand S N W b' m' h' M := ⟨k.ok.frame hb hm s, k.nice, k.u, k.v, k.g, k.r⟩

/-- What holds while the groups are gone through. -/
structure MInv (T : Tab) (W : Sd) (m hn nb r2 : Nat) (h0 : H) (L0 : ALoop) (l : List (List Nat)) (ml : List Mk) (v : Option Addr) (rr : Nat) (h1 : H) : Prop where
  x0 : h1.get hn = some (.cells [.pointer (some ⟨T.r, 0, none⟩)] 84)
  x1 : h1.get (hn + 1) = some (.cells [.map none, .int .i64 0, .int .i64 0, .int .i64 0, .int .i64 0] 82)
  xw : h1.get (hn + 6) = some (.cells [.int .i64 W.u, .int .i64 W.v, .int .i64 W.w] 80)
  xa : h1.get (hn + 11) = some (.cells [.slice v ml.length 0] 143)
  x2 : h1.get r2 = some (.cells [.int .i64 2] 3)
  sm : Same m h0 h1
  xl : h1.get nb = some (.loop L0)
  ln : nb < h1.next
  G : GG rr h1 82 5 ml.length (cellsOf Mk.cells ml) v
  gr : 0 < ml.length → nb < rr ∧ rr < h1.next
  le : ml.length ≤ l.length
  ok : ∀ M ∈ ml, Cand T.S (2 * T.n) W (nb + 1) h1.next h1 M ∧ ∀ q, M.r = some q → q ≠ rr
  all : ∀ g ∈ l, ∀ N D, CandOf T.S W g N D → ∃ M ∈ ml, M.s.w = N ∧ M.t = D
section
variable {T : Tab} {W : Sd} {m hn nb r2 rr rr' : Nat} {h0 h1 h2 : H} {L0 : ALoop} {l : List (List Nat)} {g : List Nat} {ml : List Mk} {v v' : Option Addr} {M : Mk}
/-- Rows that stand. -/
theorem MInv.frame (k : MInv T W m hn nb r2 h0 L0 l ml v rr h1) (hm : m ≤ h1.next) (hr : hn + 11 < h1.next) (hr2 : r2 < h1.next) (n : h1.next ≤ h2.next) (e : ∀ r, r < h1.next → h2.get r = h1.get r) : MInv T W m hn nb r2 h0 L0 l ml v rr h2 := by
  obtain ⟨x0, x1, xw, xa, x2, sm, xl, ln, G, gr, le, ok, all⟩ := k
  exact ⟨by rw [e _ (by omega)]; exact x0, by rw [e _ (by omega)]; exact x1, by rw [e _ (by omega)]; exact xw, by rw [e _ (by omega)]; exact xa, by rw [e _ hr2]; exact x2, fun r h => (e r (by omega)).trans (sm r h), by rw [e _ ln]; exact xl, by omega, G.frame fun h0 => e _ (gr h0).2, fun h0 => by have := gr h0; omega, le, fun M hM => ⟨(ok M hM).1.frame (Nat.le_refl _) (by omega) fun r _ h => e r h, (ok M hM).2⟩, all⟩
/-- A group that gives nothing. -/
theorem MInv.skip (k : MInv T W m hn nb r2 h0 L0 l ml v rr h1) (hg : ∀ N D, ¬ CandOf T.S W g N D) : MInv T W m hn nb r2 h0 L0 (l ++ [g]) ml v rr h1 := by
  obtain ⟨x0, x1, xw, xa, x2, sm, xl, ln, G, gr, le, ok, all⟩ := k
  refine ⟨x0, x1, xw, xa, x2, sm, xl, ln, G, gr, by simp; omega, ok, fun g' hg' N D hc => ?_⟩
  rcases List.mem_append.1 hg' with h | h
  · exact all g' h N D hc
  · rw [List.mem_singleton.1 h] at hc; exact absurd hc (hg N D)
/-- One more. -/
theorem MInv.push (k : MInv T W m hn nb r2 h0 L0 l ml v rr h1) (hm : m ≤ hn) (hr : hn + 11 < nb) (hr2 : r2 < nb) (r2n : r2 ≠ hn + 11) (n : h1.next ≤ h2.next) (e : ∀ r, r < h1.next → r ≠ hn + 11 → (0 < ml.length → r ≠ rr) → h2.get r = h1.get r)
    (xa' : h2.get (hn + 11) = some (.cells [.slice v' (ml.length + 1) 0] 143)) (G' : GG rr' h2 82 5 (ml.length + 1) (cellsOf Mk.cells ml ++ M.cells) v') (d1 : ml.length = 0 → h1.next ≤ rr' ∧ rr' < h2.next) (d2 : 0 < ml.length → rr' = rr)
    (c : Cand T.S (2 * T.n) W h1.next h2.next h2 M) (cr' : ∀ q, M.r = some q → q ≠ rr') (hg : ∀ N D, CandOf T.S W g N D → M.s.w = N ∧ M.t = D) : MInv T W m hn nb r2 h0 L0 (l ++ [g]) (ml ++ [M]) v' rr' h2 := by
  obtain ⟨x0, x1, xw, xa, x2, sm, xl, ln, G, gr, le, ok, all⟩ := k
  have e' : ∀ r, r < nb + 1 → r ≠ hn + 11 → h2.get r = h1.get r := fun r h h' => e r (by omega) h' fun h0 => by have := gr h0; omega
  refine ⟨by rw [e' _ (by omega) (by omega)]; exact x0, by rw [e' _ (by omega) (by omega)]; exact x1, by rw [e' _ (by omega) (by omega)]; exact xw, by rw [List.length_append]; exact xa', by rw [e' _ (by omega) r2n]; exact x2, fun r h => (e' r (by omega) (by omega)).trans (sm r h), by rw [e' _ (by omega) (by omega)]; exact xl, by omega, by rw [List.length_append, cellsOf_add]; exact G', fun _ => ?_, by rw [List.length_append, List.length_append]; simp only [List.length_singleton]; omega, fun M' hM' => ?_, fun g' hg' N D hc => ?_⟩
  · rcases Nat.eq_zero_or_pos ml.length with h | h
    · have := d1 h; omega
    · have := d2 h; have := gr h; omega
  · rcases List.mem_append.1 hM' with h | h
    · have h0 : 0 < ml.length := List.length_pos_of_mem h
      obtain ⟨c1, c2⟩ := ok M' h
      refine ⟨⟨⟨fun q hq => ?_, c1.ok.z, c1.ok.k, c1.ok.v, c1.ok.n, c1.ok.s⟩, c1.nice, c1.u, c1.v, c1.g, c1.r⟩, fun q hq => by rw [d2 h0]; exact c2 q hq⟩
      obtain ⟨g1, g2⟩ := c1.ok.g q hq
      exact ⟨by omega, (e q (by omega) (by omega) fun _ => c2 q hq).trans g2⟩
    · rw [List.mem_singleton.1 h]
      exact ⟨c.frame (by omega) (Nat.le_refl _) fun _ _ _ => rfl, cr'⟩
  · rcases List.mem_append.1 hg' with h | h
    · obtain ⟨M', h1, h2⟩ := all g' h N D hc
      exact ⟨M', List.mem_append_left _ h1, h2⟩
    · rw [List.mem_singleton.1 h] at hc
      exact ⟨M, by simp, hg N D hc⟩
end

set_option maxHeartbeats 8000000 in
theorem most_w {h : H} {T : Tab} {m : Nat} {p q : Int} (hm : m ≤ h.next) (hT : T.Ok m h) (hf : Fac p q) (hz : ¬ (p = 0 ∧ q = 0)) : AW Try.prog 81 h.next h [.pointer (some ⟨T.r, 0, none⟩), .int .i64 p, .int .i64 q] (fun v h' => ∃ (M : Mk) (b : Bool), v = .tuple #[.agg ⟨M.cells⟩, .bool b] ∧ (b = true → Cand T.S (2 * T.n) ⟨p, q, 0⟩ h.next h'.next h' M ∧ ∀ g N D, Grp (2 * T.n) 2 g → CandOf T.S ⟨p, q, 0⟩ g N D → N * M.t ≤ M.s.w * D) ∧ (b = false → M = Mk.none ∧ ∀ g N D, Grp (2 * T.n) 2 g → ¬ CandOf T.S ⟨p, q, 0⟩ g N D)) := by
  have hW : (⟨p, q, 0⟩ : Sd).Up 20 100000 := ⟨hf.1, hf.2, by dsimp only; omega⟩
  refine fun81.call rfl (Nat.le_refl _) ?_
  unfold a81
  (focus ((try with_reducible apply wpC.to); (repeat' ((conv => whnf); first | refine byEv ?_ | (apply Fork.mk <;> (intro _; try (exfalso; omega))) | ((first | refine kSpanH2 ?_ | refine kSpanH1 ?_ | refine kSpanH0 ?_ | refine kSpanG0 ?_); first | ((first | apply q_allD | apply q_alli | apply q_allB) <;> intro _ _ _ _ <;> try contradiction) | (apply q_allv; intro _ _ _)) | fail)); all_goals ((conv => whnf); try with_reducible apply At.mk)))
  refine OpE.pure (.bool false) (xPure_eql (A := ⟨(⟨p, q, 0⟩ : Sd).cells⟩) (B := ⟨(⟨0, 0, 0⟩ : Sd).cells⟩) rfl rfl rfl rfl rfl (by kernel_rfl) ((eql_sd ⟨p, q, 0⟩ ⟨0, 0, 0⟩).trans (congrArg some (decide_eq_false fun k => hz ⟨k.1, k.2.1⟩)))) ?_
  (focus ((try with_reducible apply wpC.to); (repeat' ((conv => whnf); first | refine byEv ?_ | (apply Fork.mk <;> (intro _; try (exfalso; omega))) | ((first | refine kSpanH2 ?_ | refine kSpanH1 ?_ | refine kSpanH0 ?_ | refine kSpanG0 ?_); first | ((first | apply q_allD | apply q_alli | apply q_allB) <;> intro _ _ _ _ <;> try contradiction) | (apply q_allv; intro _ _ _)) | fail)); all_goals ((conv => whnf); try with_reducible apply At.mk)))
  apply q_call
  focus (exact byNext)
  focus (exact byLo)
  focus exact groups_c (T := T) (mo := 2)
  rintro _ h2 ⟨r1, r2, rfl, b1, b2, g1, g2⟩ q2 n2
  simp only [put_next, bump_next] at b1 b2
  (focus ((try with_reducible apply wpC.to); (repeat' ((conv => whnf); first | refine byEv ?_ | (apply Fork.mk <;> (intro _; try (exfalso; omega))) | ((first | refine kSpanH2 ?_ | refine kSpanH1 ?_ | refine kSpanH0 ?_ | refine kSpanG0 ?_); first | ((first | apply q_allD | apply q_alli | apply q_allB) <;> intro _ _ _ _ <;> try contradiction) | (apply q_allv; intro _ _ _)) | fail)); all_goals ((conv => whnf); try with_reducible apply At.mk)))
  refine wp_forget (l := [(3, .pointer (some ⟨h.next, 0, none⟩)), (6, .pointer (some ⟨h.next + 1, 0, none⟩)), (7, .bool false), (8, .pointer (some ⟨h.next + 6, 0, none⟩)), (9, .pointer (some ⟨h.next + 11, 0, none⟩)), (29, .func (.func 90) ⟨[]⟩ ⟨[.pointer (some ⟨r1, 0, none⟩), .pointer (some ⟨r2, 0, none⟩)]⟩)]) ⟨rfl, rfl, rfl, rfl, rfl, rfl, trivial⟩ fun g' => ?_
  apply wp_range
  focus exact rfl
  focus (exact byNext)
  focus (exact byList)
  intro L0 hL0
  have sm2 : Same m h h2 := by (exact bySame)
  have i0 : MInv T ⟨p, q, 0⟩ m h.next h2.next r2 h L0 [] [] none 0 ((h2.bump 1).put h2.next (.loop L0)) := ⟨byGet, byGet, byGet, byGet, byGet, bySame, byGet, byOm, GG.nil, fun h => absurd h (by simp), by simp, fun M hM => absurd hM (by simp), fun g hg => absurd hg (by simp)⟩
  refine ⟨_, groups_w (T := T) (m := m) (r1 := r1) (r2 := r2) (mo := 2) (.inl rfl) byOm (hT.same bySame (Nat.le_refl _)) byOm byGet byOm
    (fun l h1 => h2.next < h1.next ∧ ∃ ml v rr, MInv T ⟨p, q, 0⟩ m h.next h2.next r2 h L0 l ml v rr h1) (fun _ => False) (fun l h1 ⟨_, _, _, _, k⟩ => k.x2) ?_ (fun _ _ k _ => k.elim) ?_ ⟨byOm, [], none, 0, i0⟩ byOm, ?_⟩
  · rintro l h3 h4 ⟨ln, ml, v, rr, k⟩ qq
    have := qq.next
    exact ⟨by omega, ml, v, rr, k.frame (by omega) (by omega) (by omega) qq.next fun r h => qq.same r h⟩
  · rintro l g gq h3 hg hl ⟨ln, ml, v, rr, k⟩ hle gg hq1 hq2
    have kk := k
    obtain ⟨x0, x1, xw, xa, x2, sm, xl, -, G, gr, le, ok, all⟩ := k
    simp only [put_next, bump_next] at hq1
    have hL1 : ended (busy L0) .none = L0 := by rw [hL0]; exact rfl
    obtain ⟨tg, trr, -, -, -, tse, tsi, tsr, tle, -⟩ := hT.same sm (Nat.le_refl _)
    rcases hg with ⟨i, hi, rfl⟩ | ⟨i, j, hij, hj, rfl⟩ | ⟨h3, -⟩
    rotate_right
    · exact absurd h3 (by decide)
    · have gg : h3.get gq = some (.cells [.int .i64 (i : Int)] 3) := gg
      have ui := hT.up hi
      have si := size_up ui
      have sw := size_up hW
      have tsr' := tsr (by omega)
      refine YA.call fun81.mixed (A := a81A0) (B := a81B0) (L := L0) (by rw [hL0]; exact c81A0) (by rw [hL0]; exact c81B0) xl (by omega) (by omega) (by rw [hL0]; exact rfl) (by rw [hL0]; exact rfl) ?_
      unfold YA a81A0
      refine wp_forget (l := [(3, .pointer (some ⟨h.next, 0, none⟩)), (8, .pointer (some ⟨h.next + 6, 0, none⟩)), (9, .pointer (some ⟨h.next + 11, 0, none⟩)), (30, .slice (some ⟨gq, 0, none⟩) 1 1)]) ⟨by rw [hL0]; exact rfl, by rw [hL0]; exact rfl, by rw [hL0]; exact rfl, by rw [hL0]; exact rfl, trivial⟩ fun g'' => ?_
      (focus ((try with_reducible apply wpC.to); (repeat' ((conv => whnf); first | refine byEv ?_ | (apply Fork.mk <;> (intro _; try (exfalso; omega))) | ((first | refine kSpanH2 ?_ | refine kSpanH1 ?_ | refine kSpanH0 ?_ | refine kSpanG0 ?_); first | ((first | apply q_allD | apply q_alli | apply q_allB) <;> intro _ _ _ _ <;> try contradiction) | (apply q_allv; intro _ _ _)) | fail)); all_goals ((conv => whnf); try with_reducible apply At.mk)))
      refine ⟨rfl, L0, byGet, by rw [hL0]; exact rfl, ?_⟩
      unfold a81B0
      (focus ((try with_reducible apply wpC.to); (repeat' ((conv => whnf); first | refine byEv ?_ | (apply Fork.mk <;> (intro _; try (exfalso; omega))) | ((first | refine kSpanH2 ?_ | refine kSpanH1 ?_ | refine kSpanH0 ?_ | refine kSpanG0 ?_); first | ((first | apply q_allD | apply q_alli | apply q_allB) <;> intro _ _ _ _ <;> try contradiction) | (apply q_allv; intro _ _ _)) | fail)); all_goals ((conv => whnf); try with_reducible apply At.mk)))
      rotate_left
      · exact ⟨.none, _, rfl, byGet, .inl ⟨rfl, byOm, ml, v, rr, (kk.frame (by omega) (by omega) (by omega) byOm fun r hr => by
          by_cases e : r = h2.next
          · rw [e, hL1, xl]; (exact byGet)
          · exact get_of fun y hy => byGet).skip fun N D hc => absurd hc.1 (by assumption)⟩⟩
      have hc : cr (T.S i) ⟨p, q, 0⟩ = 0 := by assumption
      have b1 := by_up ui (n := (⟨p, q, 0⟩ : Sd).size.toNat) (by omega)
      rw [Int.toNat_of_nonneg sw.1] at b1
      have b2 : ((⟨p, q, 0⟩ : Sd).by (-(T.S i).size)).Up 16000 80000000 := by
        have c1 := mul_bnd (b := -(T.S i).size) (B := 40) hW.u.1 hW.u.2 (by omega) (by omega)
        have c2 := mul_bnd (b := -(T.S i).size) (B := 40) hW.v.1 hW.v.2 (by omega) (by omega)
        exact ⟨by unfold Sd.by; dsimp only at c1 ⊢; omega, by unfold Sd.by; dsimp only at c2 ⊢; omega, by unfold Sd.by; dsimp only; omega⟩
      apply q_callv
      focus (exact byNext)
      focus (exact byLo)
      focus exact sum2_w (a := (T.S i).by (⟨p, q, 0⟩ : Sd).size) (b := (⟨p, q, 0⟩ : Sd).by (-(T.S i).size)) (F := 16000) (W := 80000000) (e := 80) b1 b2 (by decide) (by decide) byGet byOm
      intro h4 q4 n4
      (focus ((try with_reducible apply wpC.to); (repeat' ((conv => whnf); first | refine byEv ?_ | (apply Fork.mk <;> (intro _; try (exfalso; omega))) | ((first | refine kSpanH2 ?_ | refine kSpanH1 ?_ | refine kSpanH0 ?_ | refine kSpanG0 ?_); first | ((first | apply q_allD | apply q_alli | apply q_allB) <;> intro _ _ _ _ <;> try contradiction) | (apply q_allv; intro _ _ _)) | fail)); all_goals ((conv => whnf); try with_reducible apply At.mk)))
      by_cases hP : (T.S i).u * (⟨p, q, 0⟩ : Sd).size + p * -(T.S i).size = 0 ∧ (T.S i).v * (⟨p, q, 0⟩ : Sd).size + q * -(T.S i).size = 0
      · refine OpE.pure (.bool true) (xPure_eql (A := ⟨(((T.S i).by (⟨p, q, 0⟩ : Sd).size).add ((⟨p, q, 0⟩ : Sd).by (-(T.S i).size))).flat.cells⟩) (B := ⟨(⟨0, 0, 0⟩ : Sd).cells⟩) rfl rfl rfl rfl rfl (by kernel_rfl) ((eql_sd (((T.S i).by (⟨p, q, 0⟩ : Sd).size).add ((⟨p, q, 0⟩ : Sd).by (-(T.S i).size))).flat ⟨0, 0, 0⟩).trans (congrArg some (decide_eq_true ⟨hP.1, hP.2, rfl⟩)))) ?_
        (focus ((try with_reducible apply wpC.to); (repeat' ((conv => whnf); first | refine byEv ?_ | (apply Fork.mk <;> (intro _; try (exfalso; omega))) | ((first | refine kSpanH2 ?_ | refine kSpanH1 ?_ | refine kSpanH0 ?_ | refine kSpanG0 ?_); first | ((first | apply q_allD | apply q_alli | apply q_allB) <;> intro _ _ _ _ <;> try contradiction) | (apply q_allv; intro _ _ _)) | fail)); all_goals ((conv => whnf); try with_reducible apply At.mk)))
        have sp := size_pos (hT.nz hi)
        apply q_call
        focus (exact byNext)
        focus (exact byLo)
        focus exact take1_w (T := T) (m := m) (i := i) (x := (⟨p, q, 0⟩ : Sd).size) (e := 3) (e' := 2) byOm (hT.same bySame (Nat.le_refl _)) hi (by omega) byGet byGet byOm byOm
        rintro _ h5 ⟨M, rfl, ok5, mt, ms, mr, -⟩ q5 n5
        simp only [put_next, bump_next] at ok5
        (focus ((try with_reducible apply wpC.to); (repeat' ((conv => whnf); first | refine byEv ?_ | (apply Fork.mk <;> (intro _; try (exfalso; omega))) | ((first | refine kSpanH2 ?_ | refine kSpanH1 ?_ | refine kSpanH0 ?_ | refine kSpanG0 ?_); first | ((first | apply q_allD | apply q_alli | apply q_allB) <;> intro _ _ _ _ <;> try contradiction) | (apply q_allv; intro _ _ _)) | fail)); all_goals ((conv => whnf); try with_reducible apply At.mk)))
        apply q_appGG (r := rr) (n := ml.length) (m := 1) (cs := cellsOf Mk.cells ml) (nc := M.cells)
        case G => exact G.frame fun h0 => get_of fun y hy => by have := gr h0; (exact byGet)
        case hsv => exact rfl
        case C => exact Cells.one (by unfold Mk.cells; (exact byMem)) (by unfold far; omega) rfl rfl
        case hm => omega
        case hlo => (exact byOm)
        case hlr => exact fun h0 => by have := gr h0; (exact byOm)
        case hsm => omega
        intro v' rr' row a1 a2 a3 G'
        have c4 : (0 < ml.length ∧ rr' = rr ∧ h2.next < rr ∧ rr < h3.next) ∨ (ml.length = 0 ∧ h3.next ≤ rr') := by
          rcases Nat.eq_zero_or_pos ml.length with h0 | h0
          · have := a1 h0; exact .inr ⟨h0, byOm⟩
          · have := a2 h0; have := gr h0; exact .inl ⟨h0, by omega, by omega, by omega⟩
        (focus ((try with_reducible apply wpC.to); (repeat' ((conv => whnf); first | refine byEv ?_ | (apply Fork.mk <;> (intro _; try (exfalso; omega))) | ((first | refine kSpanH2 ?_ | refine kSpanH1 ?_ | refine kSpanH0 ?_ | refine kSpanG0 ?_); first | ((first | apply q_allD | apply q_alli | apply q_allB) <;> intro _ _ _ _ <;> try contradiction) | (apply q_allv; intro _ _ _)) | fail)); all_goals ((conv => whnf); try with_reducible apply At.mk)))
        refine ⟨.none, _, rfl, byGet, .inl ⟨rfl, byOm, ml ++ [M], v', rr', kk.push hm (by omega) (by omega) (by omega) byOm (fun r hr1 hr2 hr3 => ?_) byGet (G'.frame fun _ => get_of fun y hy => byGet) (fun h0 => by have := a1 h0; (exact byOm)) a2 ⟨ok5.frame byOm byOm fun r hr1 hr2 => get_of fun y hy => byGet, ?_, ?_, ?_, ?_, mr⟩ (fun qq hqq => by have := (ok5.g qq hqq).1; rcases c4 with ⟨c, d, _, _⟩ | ⟨c, _⟩ <;> (try have := a1 c) <;> omega) fun N D hc => ?_⟩⟩
        · by_cases e : r = h2.next
          · rw [e, hL1, xl]; (exact byGet)
          · exact get_of fun y hy => by (exact byGet)
        · refine ⟨by rw [mt]; omega, ?_⟩
          rw [ms]
          have := b1.w
          simp only [Sd.add, Sd.by, Int.zero_add] at this ⊢
          omega
        · rw [ms, mt]
          simp only [Sd.add, Sd.by, Int.zero_add]
          have := hP.1
          rw [Int.mul_neg] at this
          rw [Int.mul_comm (T.S i).size]
          omega
        · rw [ms, mt]
          simp only [Sd.add, Sd.by, Int.zero_add]
          have := hP.2
          rw [Int.mul_neg] at this
          rw [Int.mul_comm (T.S i).size]
          omega
        · refine ⟨[i], .inl ⟨i, hi, rfl⟩, hc, hP, ?_, mt⟩
          rw [ms]
          simp only [Sd.add, Sd.by, Int.zero_add]
        · obtain ⟨-, -, rfl, rfl⟩ := hc
          rw [ms, mt]
          simp only [Sd.add, Sd.by, Int.zero_add]
          exact ⟨trivial, trivial⟩
      · refine OpE.pure (.bool false) (xPure_eql (A := ⟨(((T.S i).by (⟨p, q, 0⟩ : Sd).size).add ((⟨p, q, 0⟩ : Sd).by (-(T.S i).size))).flat.cells⟩) (B := ⟨(⟨0, 0, 0⟩ : Sd).cells⟩) rfl rfl rfl rfl rfl (by kernel_rfl) ((eql_sd (((T.S i).by (⟨p, q, 0⟩ : Sd).size).add ((⟨p, q, 0⟩ : Sd).by (-(T.S i).size))).flat ⟨0, 0, 0⟩).trans (congrArg some (decide_eq_false fun k => hP ⟨k.1, k.2.1⟩)))) ?_
        (focus ((try with_reducible apply wpC.to); (repeat' ((conv => whnf); first | refine byEv ?_ | (apply Fork.mk <;> (intro _; try (exfalso; omega))) | ((first | refine kSpanH2 ?_ | refine kSpanH1 ?_ | refine kSpanH0 ?_ | refine kSpanG0 ?_); first | ((first | apply q_allD | apply q_alli | apply q_allB) <;> intro _ _ _ _ <;> try contradiction) | (apply q_allv; intro _ _ _)) | fail)); all_goals ((conv => whnf); try with_reducible apply At.mk)))
        exact ⟨.none, _, rfl, byGet, .inl ⟨rfl, byOm, ml, v, rr, (kk.frame (by omega) (by omega) (by omega) byOm fun r hr => by
          by_cases e : r = h2.next
          · rw [e, hL1, xl]; (exact byGet)
          · exact get_of fun y hy => byGet).skip fun N D hc => hP hc.2.1⟩⟩
    · have gg : h3.get gq = some (.cells [.int .i64 (i : Int), .int .i64 (j : Int)] 3) := gg
      have ui := hT.up (i := i) (by omega)
      have uj := hT.up hj
      have cz := cr_up ui uj
      have cx := cr_up hW uj
      have cy := cr_up ui hW
      have tsr' := tsr (by omega)
      refine YA.call fun81.mixed (A := a81A0) (B := a81B0) (L := L0) (by rw [hL0]; exact c81A0) (by rw [hL0]; exact c81B0) xl (by omega) (by omega) (by rw [hL0]; exact rfl) (by rw [hL0]; exact rfl) ?_
      unfold YA a81A0
      refine wp_forget (l := [(3, .pointer (some ⟨h.next, 0, none⟩)), (8, .pointer (some ⟨h.next + 6, 0, none⟩)), (9, .pointer (some ⟨h.next + 11, 0, none⟩)), (30, .slice (some ⟨gq, 0, none⟩) 2 2)]) ⟨by rw [hL0]; exact rfl, by rw [hL0]; exact rfl, by rw [hL0]; exact rfl, by rw [hL0]; exact rfl, trivial⟩ fun g'' => ?_
      (focus ((try with_reducible apply wpC.to); (repeat' ((conv => whnf); first | refine byEv ?_ | (apply Fork.mk <;> (intro _; try (exfalso; omega))) | ((first | refine kSpanH2 ?_ | refine kSpanH1 ?_ | refine kSpanH0 ?_ | refine kSpanG0 ?_); first | ((first | apply q_allD | apply q_alli | apply q_allB) <;> intro _ _ _ _ <;> try contradiction) | (apply q_allv; intro _ _ _)) | fail)); all_goals ((conv => whnf); try with_reducible apply At.mk)))
      refine ⟨rfl, L0, byGet, by rw [hL0]; exact rfl, ?_⟩
      unfold a81B0
      (focus ((try with_reducible apply wpC.to); (repeat' ((conv => whnf); first | refine byEv ?_ | (apply Fork.mk <;> (intro _; try (exfalso; omega))) | ((first | refine kSpanH2 ?_ | refine kSpanH1 ?_ | refine kSpanH0 ?_ | refine kSpanG0 ?_); first | ((first | apply q_allD | apply q_alli | apply q_allB) <;> intro _ _ _ _ <;> try contradiction) | (apply q_allv; intro _ _ _)) | fail)); all_goals ((conv => whnf); try with_reducible apply At.mk)))
      · have c1 := by_up ui (n := (-cr (⟨p, q, 0⟩ : Sd) (T.S j)).toNat) (by omega)
        have c2 := by_up uj (n := (-cr (T.S i) ⟨p, q, 0⟩).toNat) (by omega)
        rw [Int.toNat_of_nonneg (by omega)] at c1 c2
        apply q_call
        focus (exact byNext)
        focus (exact byLo)
        focus exact take2_w (T := T) (m := m) (i := i) (j := j) (x := -cr (⟨p, q, 0⟩ : Sd) (T.S j)) (y := -cr (T.S i) ⟨p, q, 0⟩) (e := 3) (e' := 2) byOm (hT.same bySame (Nat.le_refl _)) hij hj (by omega) (by omega) byGet byGet byOm byOm
        rintro _ h5 ⟨M, rfl, ok5, mt, ms, mr, -⟩ q5 n5
        simp only [put_next, bump_next] at ok5
        (focus ((try with_reducible apply wpC.to); (repeat' ((conv => whnf); first | refine byEv ?_ | (apply Fork.mk <;> (intro _; try (exfalso; omega))) | ((first | refine kSpanH2 ?_ | refine kSpanH1 ?_ | refine kSpanH0 ?_ | refine kSpanG0 ?_); first | ((first | apply q_allD | apply q_alli | apply q_allB) <;> intro _ _ _ _ <;> try contradiction) | (apply q_allv; intro _ _ _)) | fail)); all_goals ((conv => whnf); try with_reducible apply At.mk)))
        apply q_appGG (r := rr) (n := ml.length) (m := 1) (cs := cellsOf Mk.cells ml) (nc := M.cells)
        case G => exact G.frame fun h0 => get_of fun y hy => by have := gr h0; (exact byGet)
        case hsv => exact rfl
        case C => exact Cells.one (by unfold Mk.cells; (exact byMem)) (by unfold far; omega) rfl rfl
        case hm => omega
        case hlo => (exact byOm)
        case hlr => exact fun h0 => by have := gr h0; (exact byOm)
        case hsm => omega
        intro v' rr' row a1 a2 a3 G'
        have c4 : (0 < ml.length ∧ rr' = rr ∧ h2.next < rr ∧ rr < h3.next) ∨ (ml.length = 0 ∧ h3.next ≤ rr') := by
          rcases Nat.eq_zero_or_pos ml.length with h0 | h0
          · have := a1 h0; exact .inr ⟨h0, byOm⟩
          · have := a2 h0; have := gr h0; exact .inl ⟨h0, by omega, by omega, by omega⟩
        (focus ((try with_reducible apply wpC.to); (repeat' ((conv => whnf); first | refine byEv ?_ | (apply Fork.mk <;> (intro _; try (exfalso; omega))) | ((first | refine kSpanH2 ?_ | refine kSpanH1 ?_ | refine kSpanH0 ?_ | refine kSpanG0 ?_); first | ((first | apply q_allD | apply q_alli | apply q_allB) <;> intro _ _ _ _ <;> try contradiction) | (apply q_allv; intro _ _ _)) | fail)); all_goals ((conv => whnf); try with_reducible apply At.mk)))
        refine ⟨.none, _, rfl, byGet, .inl ⟨rfl, byOm, ml ++ [M], v', rr', kk.push hm (by omega) (by omega) (by omega) byOm (fun r hr1 hr2 hr3 => ?_) byGet (G'.frame fun _ => get_of fun y hy => byGet) (fun h0 => by have := a1 h0; (exact byOm)) a2 ⟨ok5.frame byOm byOm fun r hr1 hr2 => get_of fun y hy => byGet, ?_, ?_, ?_, ?_, mr⟩ (fun qq hqq => by have := (ok5.g qq hqq).1; rcases c4 with ⟨c, d, _, _⟩ | ⟨c, _⟩ <;> (try have := a1 c) <;> omega) fun N D hc => ?_⟩⟩
        · by_cases e : r = h2.next
          · rw [e, hL1, xl]; (exact byGet)
          · exact get_of fun y hy => by (exact byGet)
        · refine ⟨by rw [mt]; omega, ?_⟩
          rw [ms]
          have d1 := c1.w
          have d2 := c2.w
          simp only [Sd.add, Sd.by, Int.zero_add] at d1 d2 ⊢
          omega
        · rw [ms, mt]
          simp only [Sd.add, Sd.by, Int.zero_add]
          unfold cr; grind
        · rw [ms, mt]
          simp only [Sd.add, Sd.by, Int.zero_add]
          unfold cr; grind
        · refine ⟨[i, j], .inr (.inl ⟨i, j, hij, hj, rfl⟩), .inr ⟨by omega, by omega, by omega, ?_, mt⟩⟩
          rw [ms]
          simp only [Sd.add, Sd.by, Int.zero_add]
        · rcases hc with ⟨k1, k2, k3, k4, k5⟩ | ⟨k1, k2, k3, k4, k5⟩
          · exfalso; omega
          · rw [ms, mt, k4, k5]; simp only [Sd.add, Sd.by, Int.zero_add]; exact ⟨trivial, trivial⟩
      · exact ⟨.none, _, rfl, byGet, .inl ⟨rfl, byOm, ml, v, rr, (kk.frame (by omega) (by omega) (by omega) byOm fun r hr => by
          by_cases e : r = h2.next
          · rw [e, hL1, xl]; (exact byGet)
          · exact get_of fun y hy => byGet).skip fun N D hc => by rcases hc with ⟨k1, k2, k3, k4, k5⟩ | ⟨k1, k2, k3, k4, k5⟩ <;> omega⟩⟩
      · exact ⟨.none, _, rfl, byGet, .inl ⟨rfl, byOm, ml, v, rr, (kk.frame (by omega) (by omega) (by omega) byOm fun r hr => by
          by_cases e : r = h2.next
          · rw [e, hL1, xl]; (exact byGet)
          · exact get_of fun y hy => byGet).skip fun N D hc => by rcases hc with ⟨k1, k2, k3, k4, k5⟩ | ⟨k1, k2, k3, k4, k5⟩ <;> omega⟩⟩
      · have c1 := by_up ui (n := (cr (⟨p, q, 0⟩ : Sd) (T.S j)).toNat) (by omega)
        have c2 := by_up uj (n := (cr (T.S i) ⟨p, q, 0⟩).toNat) (by omega)
        rw [Int.toNat_of_nonneg (by omega)] at c1 c2
        apply q_call
        focus (exact byNext)
        focus (exact byLo)
        focus exact take2_w (T := T) (m := m) (i := i) (j := j) (x := cr (⟨p, q, 0⟩ : Sd) (T.S j)) (y := cr (T.S i) ⟨p, q, 0⟩) (e := 3) (e' := 2) byOm (hT.same bySame (Nat.le_refl _)) hij hj (by omega) (by omega) byGet byGet byOm byOm
        rintro _ h5 ⟨M, rfl, ok5, mt, ms, mr, -⟩ q5 n5
        simp only [put_next, bump_next] at ok5
        (focus ((try with_reducible apply wpC.to); (repeat' ((conv => whnf); first | refine byEv ?_ | (apply Fork.mk <;> (intro _; try (exfalso; omega))) | ((first | refine kSpanH2 ?_ | refine kSpanH1 ?_ | refine kSpanH0 ?_ | refine kSpanG0 ?_); first | ((first | apply q_allD | apply q_alli | apply q_allB) <;> intro _ _ _ _ <;> try contradiction) | (apply q_allv; intro _ _ _)) | fail)); all_goals ((conv => whnf); try with_reducible apply At.mk)))
        apply q_appGG (r := rr) (n := ml.length) (m := 1) (cs := cellsOf Mk.cells ml) (nc := M.cells)
        case G => exact G.frame fun h0 => get_of fun y hy => by have := gr h0; (exact byGet)
        case hsv => exact rfl
        case C => exact Cells.one (by unfold Mk.cells; (exact byMem)) (by unfold far; omega) rfl rfl
        case hm => omega
        case hlo => (exact byOm)
        case hlr => exact fun h0 => by have := gr h0; (exact byOm)
        case hsm => omega
        intro v' rr' row a1 a2 a3 G'
        have c4 : (0 < ml.length ∧ rr' = rr ∧ h2.next < rr ∧ rr < h3.next) ∨ (ml.length = 0 ∧ h3.next ≤ rr') := by
          rcases Nat.eq_zero_or_pos ml.length with h0 | h0
          · have := a1 h0; exact .inr ⟨h0, byOm⟩
          · have := a2 h0; have := gr h0; exact .inl ⟨h0, by omega, by omega, by omega⟩
        (focus ((try with_reducible apply wpC.to); (repeat' ((conv => whnf); first | refine byEv ?_ | (apply Fork.mk <;> (intro _; try (exfalso; omega))) | ((first | refine kSpanH2 ?_ | refine kSpanH1 ?_ | refine kSpanH0 ?_ | refine kSpanG0 ?_); first | ((first | apply q_allD | apply q_alli | apply q_allB) <;> intro _ _ _ _ <;> try contradiction) | (apply q_allv; intro _ _ _)) | fail)); all_goals ((conv => whnf); try with_reducible apply At.mk)))
        refine ⟨.none, _, rfl, byGet, .inl ⟨rfl, byOm, ml ++ [M], v', rr', kk.push hm (by omega) (by omega) (by omega) byOm (fun r hr1 hr2 hr3 => ?_) byGet (G'.frame fun _ => get_of fun y hy => byGet) (fun h0 => by have := a1 h0; (exact byOm)) a2 ⟨ok5.frame byOm byOm fun r hr1 hr2 => get_of fun y hy => byGet, ?_, ?_, ?_, ?_, mr⟩ (fun qq hqq => by have := (ok5.g qq hqq).1; rcases c4 with ⟨c, d, _, _⟩ | ⟨c, _⟩ <;> (try have := a1 c) <;> omega) fun N D hc => ?_⟩⟩
        · by_cases e : r = h2.next
          · rw [e, hL1, xl]; (exact byGet)
          · exact get_of fun y hy => by (exact byGet)
        · refine ⟨by rw [mt]; omega, ?_⟩
          rw [ms]
          have d1 := c1.w
          have d2 := c2.w
          simp only [Sd.add, Sd.by, Int.zero_add] at d1 d2 ⊢
          omega
        · rw [ms, mt]
          simp only [Sd.add, Sd.by, Int.zero_add]
          unfold cr; grind
        · rw [ms, mt]
          simp only [Sd.add, Sd.by, Int.zero_add]
          unfold cr; grind
        · refine ⟨[i, j], .inr (.inl ⟨i, j, hij, hj, rfl⟩), .inl ⟨by omega, by omega, by omega, ?_, mt⟩⟩
          rw [ms]
          simp only [Sd.add, Sd.by, Int.zero_add]
        · rcases hc with ⟨k1, k2, k3, k4, k5⟩ | ⟨k1, k2, k3, k4, k5⟩
          · rw [ms, mt, k4, k5]; simp only [Sd.add, Sd.by, Int.zero_add]; exact ⟨trivial, trivial⟩
          · exfalso; omega
      · exact ⟨.none, _, rfl, byGet, .inl ⟨rfl, byOm, ml, v, rr, (kk.frame (by omega) (by omega) (by omega) byOm fun r hr => by
          by_cases e : r = h2.next
          · rw [e, hL1, xl]; (exact byGet)
          · exact get_of fun y hy => byGet).skip fun N D hc => by rcases hc with ⟨k1, k2, k3, k4, k5⟩ | ⟨k1, k2, k3, k4, k5⟩ <;> omega⟩⟩
      · exact ⟨.none, _, rfl, byGet, .inl ⟨rfl, byOm, ml, v, rr, (kk.frame (by omega) (by omega) (by omega) byOm fun r hr => by
          by_cases e : r = h2.next
          · rw [e, hL1, xl]; (exact byGet)
          · exact get_of fun y hy => byGet).skip fun N D hc => by rcases hc with ⟨k1, k2, k3, k4, k5⟩ | ⟨k1, k2, k3, k4, k5⟩ <;> omega⟩⟩
      · exact ⟨.none, _, rfl, byGet, .inl ⟨rfl, byOm, ml, v, rr, (kk.frame (by omega) (by omega) (by omega) byOm fun r hr => by
          by_cases e : r = h2.next
          · rw [e, hL1, xl]; (exact byGet)
          · exact get_of fun y hy => byGet).skip fun N D hc => by rcases hc with ⟨k1, k2, k3, k4, k5⟩ | ⟨k1, k2, k3, k4, k5⟩ <;> omega⟩⟩
  · rintro v h3 hv qq
    rcases hv with ⟨l, hl, ll, ln, ml, v, rr, k⟩ | hf
    rotate_left
    · exact hf.elim
    refine ⟨_, k.xl, by rw [hL0]; simp [loop0], ?_⟩
    rw [hL0]
    simp only [loop0, pendE]
    obtain ⟨x0, x1, xw, xa, x2, sm, xl, -, G, gr, le, ok, all⟩ := k
    (focus ((try with_reducible apply wpC.to); (repeat' ((conv => whnf); first | refine byEv ?_ | (apply Fork.mk <;> (intro _; try (exfalso; omega))) | ((first | refine kSpanH2 ?_ | refine kSpanH1 ?_ | refine kSpanH0 ?_ | refine kSpanG0 ?_); first | ((first | apply q_allD | apply q_alli | apply q_allB) <;> intro _ _ _ _ <;> try contradiction) | (apply q_allv; intro _ _ _)) | fail)); all_goals ((conv => whnf); try with_reducible apply At.mk)))
    · (refine byFin ?_)
      have hml : ml = [] := List.length_eq_zero_iff.1 (by omega)
      subst hml
      exact ⟨Mk.none, false, rfl, fun h => Bool.noConfusion h, fun _ => ⟨rfl, fun g N D hg hc => by obtain ⟨M, hM, -⟩ := all g (hl g hg) N D hc; exact absurd hM (by simp)⟩⟩
    · have h0 : 0 < ml.length := by omega
      have G' := G
      rw [cellsOf_rows Mk.cells ml Mk.none] at G'
      obtain ⟨a, ha, hE, hb⟩ := G'.els (fun i => rfl)
      obtain ⟨sg, hsg⟩ := G.spot h0
      have hgr := gr h0
      have mem : ∀ i, i < ml.length → ml.getD i Mk.none ∈ ml := fun i hi => by
        rw [List.getD_eq_getElem?_getD, List.getElem?_eq_getElem hi]
        exact List.getElem_mem hi
      apply q_call
      focus (exact byNext)
      focus (exact byLo)
      focus exact first_w (L := ⟨ml.length, fun i => ml.getD i Mk.none, v, a, 0⟩) (m := h3.next) byOm ⟨ha, fun i hi => by have x := hE i hi; have hbb := hb h0; dsimp only at x ⊢; (exact byOld), fun h0 => by dsimp only; rw [hb h0]; omega, by dsimp only; omega, fun _ => .inr ⟨⟨sg, by have := ha h0; rw [hsg] at this; exact (congrArg Addr.spot (Option.some.inj this)).symm⟩, rfl⟩⟩ h0 (fun i hi => (ok _ (mem i hi)).1.nice)
      rintro _ h4 ⟨bi, hbi, rfl, hbest⟩ q4 n4
      dsimp only at hbi hbest ⊢
      obtain ⟨okM, rneq⟩ := ok _ (mem bi hbi)
      generalize ml.getD bi Mk.none = M at *
      unfold Mk.cells
      (focus ((try with_reducible apply wpC.to); (repeat' ((conv => whnf); first | refine byEv ?_ | (apply Fork.mk <;> (intro _; try (exfalso; omega))) | ((first | refine kSpanH2 ?_ | refine kSpanH1 ?_ | refine kSpanH0 ?_ | refine kSpanG0 ?_); first | ((first | apply q_allD | apply q_alli | apply q_allB) <;> intro _ _ _ _ <;> try contradiction) | (apply q_allv; intro _ _ _)) | fail)); all_goals ((conv => whnf); try with_reducible apply At.mk)))
      (refine byFin ?_)
      refine ⟨M, true, rfl, fun _ => ⟨okM.frame (by omega) byOm fun r hr1 hr2 => get_of fun y hy => byGet, fun g N D hg hc => ?_⟩, fun h => Bool.noConfusion h⟩
      obtain ⟨M', hM', rfl, rfl⟩ := all g (hl g hg) N D hc
      obtain ⟨j, hj, rfl⟩ := List.getElem_of_mem hM'
      have := hbest j hj
      rw [List.getD_eq_getElem?_getD, List.getElem?_eq_getElem hj] at this
      exact this
end AE.Try
