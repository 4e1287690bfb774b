/- Walks of drag and its reference: lines of a contract. -/
import Derived.Test.YtndkjpkadfpflaaGreatTDragG
import Derived.Test.YtndkjpkadfpflaaGreatDragSpec3
import Derived.Test.YtndkjpkadfpflaaGreatAEthree
set_option linter.unusedVariables false
set_option linter.unusedSimpArgs false
set_option linter.unusedSectionVars false
namespace AE.Tryz
open Go AE AE.Drag Go.Proofs
set_option maxRecDepth 100000

set_option maxHeartbeats 1000000 in
theorem checkLines_w {h : H} {S : Lines} {m : Nat} (hm : m ≤ h.next) (hS : S.Ok m h) : AW Tryz.prog 126 h.next h [.slice S.b S.k S.c] (fun w _ => w = .int .i64 (linesErr S)) := by
  obtain ⟨e1, i1, r1, ok, l1⟩ := hS
  refine fun126.call rfl (Nat.le_refl _) ?_
  unfold a126 linesErr
  by_cases hk : S.k < 1 ∨ 4 < S.k
  · rw [if_pos hk]
    (focus ((try with_reducible apply wpC.to); (repeat' ((conv => whnf); first | refine byEv ?_ | (apply Fork.mk <;> (intro _; try (exfalso; omega))) | ((apply q_call); (focus exact byNext); (focus exact byLo); (focus (first | exact kTDragG2 | exact kTDragF5 | exact kTDragF4 | exact kTDragD0 | exact kTDragB1)); first | ((apply q_allB) <;> (intro z_b _ _ _; first | exact Bool.noConfusion z_b | replace z_b := of_decide_eq_true z_b | replace z_b := of_decide_eq_false z_b | skip) <;> ((try simp only [AllOk, Bd.ok, and_true] at z_b); first | contradiction | (revert z_b; intros))) | ((apply q_alli) <;> intro _ _ _ _ <;> try contradiction) | (apply q_allv; intro _ _ _)) | fail)); all_goals ((conv => whnf); try with_reducible apply At.mk)))
    all_goals ((refine byFin ?_); rfl)
  rw [if_neg hk]
  (focus ((try with_reducible apply wpC.to); (repeat' ((conv => whnf); first | refine byEv ?_ | (apply Fork.mk <;> (intro _; try (exfalso; omega))) | ((apply q_call); (focus exact byNext); (focus exact byLo); (focus (first | exact kTDragG2 | exact kTDragF5 | exact kTDragF4 | exact kTDragD0 | exact kTDragB1)); first | ((apply q_allB) <;> (intro z_b _ _ _; first | exact Bool.noConfusion z_b | replace z_b := of_decide_eq_true z_b | replace z_b := of_decide_eq_false z_b | skip) <;> ((try simp only [AllOk, Bd.ok, and_true] at z_b); first | contradiction | (revert z_b; intros))) | ((apply q_alli) <;> intro _ _ _ _ <;> try contradiction) | (apply q_allv; intro _ _ _)) | fail)); all_goals ((conv => whnf); try with_reducible apply At.mk)))
  refine wp_loop (fun s : Nat => [(14, .slice S.b S.k S.c), (15, .int .i64 S.k), (16, .int .i64 s)])
    (fun s h1 => Same h.next h h1 ∧ h.next ≤ h1.next ∧ s ≤ S.k ∧ ∀ j, j < s → lineErr (S.ln j) = 0) (fun s => S.k - s) 0 ⟨rfl, rfl, rfl, trivial⟩ ⟨bySame, byOm, by omega, fun j hj => by omega⟩ ?_
  rintro s g h1 ⟨q, hn1, hs, hz⟩ K hK
  by_cases hsk : s < S.k
  · have hL := ok s hsk
    by_cases he : lineErr (S.ln s) = 0
    · (focus ((try with_reducible apply wpC.to); (repeat' ((conv => whnf); first | refine byEv ?_ | (apply Fork.mk <;> (intro _; try (exfalso; omega))) | ((apply q_call); (focus exact byNext); (focus exact byLo); (focus (first | exact kTDragG2 | exact kTDragF5 | exact kTDragF4 | exact kTDragD0 | exact kTDragB1)); first | ((apply q_allB) <;> (intro z_b _ _ _; first | exact Bool.noConfusion z_b | replace z_b := of_decide_eq_true z_b | replace z_b := of_decide_eq_false z_b | skip) <;> ((try simp only [AllOk, Bd.ok, and_true] at z_b); first | contradiction | (revert z_b; intros))) | ((apply q_alli) <;> intro _ _ _ _ <;> try contradiction) | (apply q_allv; intro _ _ _)) | fail)); all_goals ((conv => whnf); try with_reducible apply At.mk)))
      refine hK (s + 1) _ _ ⟨rfl, rfl, int_of rfl (by omega), trivial⟩ ⟨bySame, byOm, by omega, fun j hj => ?_⟩ (by omega)
      by_cases e : j = s
      · subst e; exact he
      · exact hz j (by omega)
    · (focus ((try with_reducible apply wpC.to); (repeat' ((conv => whnf); first | refine byEv ?_ | (apply Fork.mk <;> (intro _; try (exfalso; omega))) | ((apply q_call); (focus exact byNext); (focus exact byLo); (focus (first | exact kTDragG2 | exact kTDragF5 | exact kTDragF4 | exact kTDragD0 | exact kTDragB1)); first | ((apply q_allB) <;> (intro z_b _ _ _; first | exact Bool.noConfusion z_b | replace z_b := of_decide_eq_true z_b | replace z_b := of_decide_eq_false z_b | skip) <;> ((try simp only [AllOk, Bd.ok, and_true] at z_b); first | contradiction | (revert z_b; intros))) | ((apply q_alli) <;> intro _ _ _ _ <;> try contradiction) | (apply q_allv; intro _ _ _)) | fail)); all_goals ((conv => whnf); try with_reducible apply At.mk)))
      (refine byFin ?_)
      rw [firstErr_at (f := fun i => lineErr (S.ln i)) hz he hsk]
  · have : s = S.k := by omega
    subst this
    (focus ((try with_reducible apply wpC.to); (repeat' ((conv => whnf); first | refine byEv ?_ | (apply Fork.mk <;> (intro _; try (exfalso; omega))) | ((apply q_call); (focus exact byNext); (focus exact byLo); (focus (first | exact kTDragG2 | exact kTDragF5 | exact kTDragF4 | exact kTDragD0 | exact kTDragB1)); first | ((apply q_allB) <;> (intro z_b _ _ _; first | exact Bool.noConfusion z_b | replace z_b := of_decide_eq_true z_b | replace z_b := of_decide_eq_false z_b | skip) <;> ((try simp only [AllOk, Bd.ok, and_true] at z_b); first | contradiction | (revert z_b; intros))) | ((apply q_alli) <;> intro _ _ _ _ <;> try contradiction) | (apply q_allv; intro _ _ _)) | fail)); all_goals ((conv => whnf); try with_reducible apply At.mk)))
    (refine byFin ?_)
    rw [firstErr_zero (f := fun i => lineErr (S.ln i)) hz]
theorem kTDragH0 {G : Prop} (g : G := by ((apply checkLines_w; rotate_left; (focus (apply Lines.Ok.same; (focus assumption); (focus exact bySame); (focus exact Nat.le_refl _))); (focus exact byOm)))) : G := g
set_option maxHeartbeats 1000000 in
theorem refLines_w {h : H} {S : Lines} {m : Nat} (hm : m ≤ h.next) (hS : S.Ok m h) : AW Tryz.prog 61 h.next h [.slice S.b S.k S.c] (fun w _ => w = .int .i64 (linesErr S)) := by
  obtain ⟨e1, i1, r1, ok, l1⟩ := hS
  refine fun61.call rfl (Nat.le_refl _) ?_
  unfold a61 linesErr
  by_cases hk : S.k < 1 ∨ 4 < S.k
  · rw [if_pos hk]
    (focus ((try with_reducible apply wpC.to); (repeat' ((conv => whnf); first | refine byEv ?_ | (apply Fork.mk <;> (intro _; try (exfalso; omega))) | ((apply q_call); (focus exact byNext); (focus exact byLo); (focus (first | exact kTDragG2 | exact kTDragF5 | exact kTDragF4 | exact kTDragD0 | exact kTDragB2)); first | ((apply q_allB) <;> (intro z_b _ _ _; first | exact Bool.noConfusion z_b | replace z_b := of_decide_eq_true z_b | replace z_b := of_decide_eq_false z_b | skip) <;> ((try simp only [AllOk, Bd.ok, and_true] at z_b); first | contradiction | (revert z_b; intros))) | ((apply q_alli) <;> intro _ _ _ _ <;> try contradiction) | (apply q_allv; intro _ _ _)) | fail)); all_goals ((conv => whnf); try with_reducible apply At.mk)))
    all_goals ((refine byFin ?_); rfl)
  rw [if_neg hk]
  (focus ((try with_reducible apply wpC.to); (repeat' ((conv => whnf); first | refine byEv ?_ | (apply Fork.mk <;> (intro _; try (exfalso; omega))) | ((apply q_call); (focus exact byNext); (focus exact byLo); (focus (first | exact kTDragG2 | exact kTDragF5 | exact kTDragF4 | exact kTDragD0 | exact kTDragB2)); first | ((apply q_allB) <;> (intro z_b _ _ _; first | exact Bool.noConfusion z_b | replace z_b := of_decide_eq_true z_b | replace z_b := of_decide_eq_false z_b | skip) <;> ((try simp only [AllOk, Bd.ok, and_true] at z_b); first | contradiction | (revert z_b; intros))) | ((apply q_alli) <;> intro _ _ _ _ <;> try contradiction) | (apply q_allv; intro _ _ _)) | fail)); all_goals ((conv => whnf); try with_reducible apply At.mk)))
  refine wp_loop (fun s : Nat => [(0, .slice S.b S.k S.c), (3, .int .i64 s)])
    (fun s h1 => Same h.next h h1 ∧ h.next ≤ h1.next ∧ s ≤ S.k ∧ ∀ j, j < s → lineErr (S.ln j) = 0) (fun s => S.k - s) 0 ⟨rfl, rfl, trivial⟩ ⟨bySame, byOm, by omega, fun j hj => by omega⟩ ?_
  rintro s g h1 ⟨q, hn1, hs, hz⟩ K hK
  by_cases hsk : s < S.k
  · have hL := ok s hsk
    by_cases he : lineErr (S.ln s) = 0
    · (focus ((try with_reducible apply wpC.to); (repeat' ((conv => whnf); first | refine byEv ?_ | (apply Fork.mk <;> (intro _; try (exfalso; omega))) | ((apply q_call); (focus exact byNext); (focus exact byLo); (focus (first | exact kTDragG2 | exact kTDragF5 | exact kTDragF4 | exact kTDragD0 | exact kTDragB2)); first | ((apply q_allB) <;> (intro z_b _ _ _; first | exact Bool.noConfusion z_b | replace z_b := of_decide_eq_true z_b | replace z_b := of_decide_eq_false z_b | skip) <;> ((try simp only [AllOk, Bd.ok, and_true] at z_b); first | contradiction | (revert z_b; intros))) | ((apply q_alli) <;> intro _ _ _ _ <;> try contradiction) | (apply q_allv; intro _ _ _)) | fail)); all_goals ((conv => whnf); try with_reducible apply At.mk)))
      refine hK (s + 1) _ _ ⟨rfl, int_of rfl (by omega), trivial⟩ ⟨bySame, byOm, by omega, fun j hj => ?_⟩ (by omega)
      by_cases e : j = s
      · subst e; exact he
      · exact hz j (by omega)
    · (focus ((try with_reducible apply wpC.to); (repeat' ((conv => whnf); first | refine byEv ?_ | (apply Fork.mk <;> (intro _; try (exfalso; omega))) | ((apply q_call); (focus exact byNext); (focus exact byLo); (focus (first | exact kTDragG2 | exact kTDragF5 | exact kTDragF4 | exact kTDragD0 | exact kTDragB2)); first | ((apply q_allB) <;> (intro z_b _ _ _; first | exact Bool.noConfusion z_b | replace z_b := of_decide_eq_true z_b | replace z_b := of_decide_eq_false z_b | skip) <;> ((try simp only [AllOk, Bd.ok, and_true] at z_b); first | contradiction | (revert z_b; intros))) | ((apply q_alli) <;> intro _ _ _ _ <;> try contradiction) | (apply q_allv; intro _ _ _)) | fail)); all_goals ((conv => whnf); try with_reducible apply At.mk)))
      (refine byFin ?_)
      rw [firstErr_at (f := fun i => lineErr (S.ln i)) hz he hsk]
  · have : s = S.k := by omega
    subst this
    (focus ((try with_reducible apply wpC.to); (repeat' ((conv => whnf); first | refine byEv ?_ | (apply Fork.mk <;> (intro _; try (exfalso; omega))) | ((apply q_call); (focus exact byNext); (focus exact byLo); (focus (first | exact kTDragG2 | exact kTDragF5 | exact kTDragF4 | exact kTDragD0 | exact kTDragB2)); first | ((apply q_allB) <;> (intro z_b _ _ _; first | exact Bool.noConfusion z_b | replace z_b := of_decide_eq_true z_b | replace z_b := of_decide_eq_false z_b | skip) <;> ((try simp only [AllOk, Bd.ok, and_true] at z_b); first | contradiction | (revert z_b; intros))) | ((apply q_alli) <;> intro _ _ _ _ <;> try contradiction) | (apply q_allv; intro _ _ _)) | fail)); all_goals ((conv => whnf); try with_reducible apply At.mk)))
    (refine byFin ?_)
    rw [firstErr_zero (f := fun i => lineErr (S.ln i)) hz]
theorem kTDragH1 {G : Prop} (g : G := by ((apply refLines_w; rotate_left; (focus (apply Lines.Ok.same; (focus assumption); (focus exact bySame); (focus exact Nat.le_refl _))); (focus exact byOm)))) : G := g
theorem reckons_w {h : H} {t : T} {L : Line} {m : Nat} (hm : m ≤ h.next) (k : t.Ok) (hL : L.Ok m h) (v : Valid L) : AW Tryz.prog 129 h.next h [.agg ⟨t.cells⟩, .agg ⟨L.cells⟩] (fun w _ => w = .bool (decide (reckons t L))) := by
  have hlo := v.lo
  refine fun129.call rfl (Nat.le_refl _) ?_
  unfold a129 reckons
  (focus ((try with_reducible apply wpC.to); (repeat' ((conv => whnf); first | refine byEv ?_ | ((apply q_call); (focus exact byNext); (focus exact byLo); (focus (first | exact kTDragG2 | exact kTDragF5 | exact kTDragF4 | exact kTDragF3 | exact kTDragD0 | exact kTDragC5)); first | ((apply q_allB) <;> (intro z_b _ _ _; first | exact Bool.noConfusion z_b | replace z_b := of_decide_eq_true z_b | replace z_b := of_decide_eq_false z_b | skip) <;> ((try simp only [AllOk, Bd.ok, and_true] at z_b); first | contradiction | (revert z_b; intros))) | ((apply q_alli) <;> intro _ _ _ _ <;> try contradiction) | (apply q_allv; intro _ _ _)) | fail)); all_goals ((conv => whnf); try with_reducible apply At.mk)))
  all_goals ((refine byFin ?_); first | exact bool_t rfl (by omega) | exact bool_f rfl (by omega))
theorem kTDragH2 {G : Prop} (g : G := by ((apply AW.arg12; (focus (apply reckons_w; rotate_left; (focus assumption); (focus (apply Line.Ok.same; (focus assumption); (focus exact bySame); (focus exact Nat.le_refl _))); (focus assumption); (focus exact byOm))); (focus exact Is.rfl); (focus exact Is.rfl)))) : G := g
theorem notReckons_w {h : H} {t : T} {L : Line} {m r : Nat} (hm : m ≤ h.next) (k : t.Ok) (hL : L.Ok m h) (v : Valid L) (hr : r < h.next) (hg : h.get r = some (.cells t.cells 115)) : AW Tryz.prog 128 h.next h [.agg ⟨L.cells⟩, .pointer (some ⟨r, 0, none⟩)] (fun w _ => w = .bool (decide (¬ reckons t L))) := by
  unfold T.cells at hg
  refine fun128.call rfl (Nat.le_refl _) ?_
  unfold a128
  (focus ((try with_reducible apply wpC.to); (repeat' ((conv => whnf); first | refine byEv ?_ | ((apply q_call); (focus exact byNext); (focus exact byLo); (focus (first | exact kTDragH2 | exact kTDragG2 | exact kTDragF5 | exact kTDragF4 | exact kTDragD0)); first | ((apply q_allB) <;> (intro z_b _ _ _; first | exact Bool.noConfusion z_b | replace z_b := of_decide_eq_true z_b | replace z_b := of_decide_eq_false z_b | skip) <;> ((try simp only [AllOk, Bd.ok, and_true] at z_b); first | contradiction | (revert z_b; intros))) | ((apply q_alli) <;> intro _ _ _ _ <;> try contradiction) | (apply q_allv; intro _ _ _)) | fail)); all_goals ((conv => whnf); try with_reducible apply At.mk)))
  all_goals ((refine byFin ?_); first | exact bool_t rfl (by assumption) | exact bool_f rfl (fun c => c (by assumption)))
theorem kTDragH3 {G : Prop} (g : G := by ((apply AW.arg1; (focus (apply notReckons_w; rotate_left; (focus assumption); (focus (apply Line.Ok.same; (focus assumption); (focus exact bySame); (focus exact Nat.le_refl _))); (focus assumption); (focus exact byOm); (focus exact byGet); (focus exact byOm))); (focus exact Is.rfl)))) : G := g
theorem index_w {h : H} {t : T} {S : Lines} {m r : Nat} (hm : m ≤ h.next) (k : t.Ok) (hS : S.Ok m h) (v : S.Valid) (hr : r < h.next) (hg : h.get r = some (.cells t.cells 115)) : AW Tryz.prog 166 h.next h [.slice S.b S.k S.c, .func (.func 128) ⟨[]⟩ ⟨[.pointer (some ⟨r, 0, none⟩)]⟩] (fun w _ => ∃ z : Int, w = .int .i64 z ∧ (0 ≤ z ↔ ¬ Reckoned t S)) := by
  obtain ⟨e1, i1, r1, ok, l1⟩ := hS
  refine fun166.call rfl (Nat.le_refl _) ?_
  unfold a166
  (focus ((try with_reducible apply wpC.to); (repeat' ((conv => whnf); first | refine byEv ?_ | (apply Fork.mk <;> (intro _; try (exfalso; omega))) | ((apply q_call); (focus exact byNext); (focus exact byLo); (focus (first | exact kTDragH3 | exact kTDragG2 | exact kTDragG0 | exact kTDragF5 | exact kTDragF4 | exact kTDragD0 | exact kTDragC7)); first | ((apply q_allB) <;> (intro z_b _ _ _; first | exact Bool.noConfusion z_b | replace z_b := of_decide_eq_true z_b | replace z_b := of_decide_eq_false z_b | skip) <;> ((try simp only [AllOk, Bd.ok, and_true] at z_b); first | contradiction | (revert z_b; intros))) | ((apply q_alli) <;> intro _ _ _ _ <;> try contradiction) | (apply q_allv; intro _ _ _)) | fail)); all_goals ((conv => whnf); try with_reducible apply At.mk)))
  refine wp_loop (fun s : Nat => [(0, .slice S.b S.k S.c), (1, .func (.func 128) ⟨[]⟩ ⟨[.pointer (some ⟨r, 0, none⟩)]⟩), (7, .int .i64 S.k), (8, .int .i64 s)])
    (fun s h1 => Same h.next h h1 ∧ h.next ≤ h1.next ∧ s ≤ S.k ∧ ∀ j, j < s → reckons t (S.ln j)) (fun s => S.k - s) 0 ⟨rfl, rfl, rfl, rfl, trivial⟩ ⟨bySame, byOm, by omega, fun j hj => by omega⟩ ?_
  rintro s g h1 ⟨q, hn1, hs, hz⟩ K hK
  by_cases hsk : s < S.k
  · have hL := ok s hsk
    have hv := v.v s hsk
    by_cases he : reckons t (S.ln s)
    · (focus ((try with_reducible apply wpC.to); (repeat' ((conv => whnf); first | refine byEv ?_ | (apply Fork.mk <;> (intro _; try (exfalso; omega))) | ((apply q_call); (focus exact byNext); (focus exact byLo); (focus (first | exact kTDragH3 | exact kTDragG2 | exact kTDragG0 | exact kTDragF5 | exact kTDragF4 | exact kTDragD0 | exact kTDragC7)); first | ((apply q_allB) <;> (intro z_b _ _ _; first | exact Bool.noConfusion z_b | replace z_b := of_decide_eq_true z_b | replace z_b := of_decide_eq_false z_b | skip) <;> ((try simp only [AllOk, Bd.ok, and_true] at z_b); first | contradiction | (revert z_b; intros))) | ((apply q_alli) <;> intro _ _ _ _ <;> try contradiction) | (apply q_allv; intro _ _ _)) | fail)); all_goals ((conv => whnf); try with_reducible apply At.mk)))
      refine hK (s + 1) _ _ ⟨rfl, rfl, rfl, int_of rfl (by omega), trivial⟩ ⟨bySame, byOm, by omega, fun j hj => ?_⟩ (by omega)
      by_cases e : j = s
      · subst e; exact he
      · exact hz j (by omega)
    · (focus ((try with_reducible apply wpC.to); (repeat' ((conv => whnf); first | refine byEv ?_ | (apply Fork.mk <;> (intro _; try (exfalso; omega))) | ((apply q_call); (focus exact byNext); (focus exact byLo); (focus (first | exact kTDragH3 | exact kTDragG2 | exact kTDragG0 | exact kTDragF5 | exact kTDragF4 | exact kTDragD0 | exact kTDragC7)); first | ((apply q_allB) <;> (intro z_b _ _ _; first | exact Bool.noConfusion z_b | replace z_b := of_decide_eq_true z_b | replace z_b := of_decide_eq_false z_b | skip) <;> ((try simp only [AllOk, Bd.ok, and_true] at z_b); first | contradiction | (revert z_b; intros))) | ((apply q_alli) <;> intro _ _ _ _ <;> try contradiction) | (apply q_allv; intro _ _ _)) | fail)); all_goals ((conv => whnf); try with_reducible apply At.mk)))
      (refine byFin ?_)
      exact ⟨_, rfl, by simp; exact fun c => he (c s hsk)⟩
  · have : s = S.k := by omega
    subst this
    (focus ((try with_reducible apply wpC.to); (repeat' ((conv => whnf); first | refine byEv ?_ | (apply Fork.mk <;> (intro _; try (exfalso; omega))) | ((apply q_call); (focus exact byNext); (focus exact byLo); (focus (first | exact kTDragH3 | exact kTDragG2 | exact kTDragG0 | exact kTDragF5 | exact kTDragF4 | exact kTDragD0 | exact kTDragC7)); first | ((apply q_allB) <;> (intro z_b _ _ _; first | exact Bool.noConfusion z_b | replace z_b := of_decide_eq_true z_b | replace z_b := of_decide_eq_false z_b | skip) <;> ((try simp only [AllOk, Bd.ok, and_true] at z_b); first | contradiction | (revert z_b; intros))) | ((apply q_alli) <;> intro _ _ _ _ <;> try contradiction) | (apply q_allv; intro _ _ _)) | fail)); all_goals ((conv => whnf); try with_reducible apply At.mk)))
    (refine byFin ?_)
    exact ⟨_, rfl, by simp; exact hz⟩
theorem contains_w {h : H} {t : T} {S : Lines} {m r : Nat} (hm : m ≤ h.next) (k : t.Ok) (hS : S.Ok m h) (v : S.Valid) (hr : r < h.next) (hg : h.get r = some (.cells t.cells 115)) : AW Tryz.prog 127 h.next h [.slice S.b S.k S.c, .func (.func 128) ⟨[]⟩ ⟨[.pointer (some ⟨r, 0, none⟩)]⟩] (fun w _ => w = .bool (decide (¬ Reckoned t S))) := by
  refine fun127.call rfl (Nat.le_refl _) ?_
  unfold a127
  (focus ((try with_reducible apply wpC.to); (repeat' ((conv => whnf); first | refine byEv ?_ | (apply Fork.mk <;> (intro _; try (exfalso; omega))) | ((apply q_call); (focus exact byNext); (focus exact byLo); (focus (first | exact kTDragG2 | exact kTDragF5 | exact kTDragF4 | exact kTDragD0)); first | ((apply q_allB) <;> (intro z_b _ _ _; first | exact Bool.noConfusion z_b | replace z_b := of_decide_eq_true z_b | replace z_b := of_decide_eq_false z_b | skip) <;> ((try simp only [AllOk, Bd.ok, and_true] at z_b); first | contradiction | (revert z_b; intros))) | ((apply q_alli) <;> intro _ _ _ _ <;> try contradiction) | (apply q_allv; intro _ _ _)) | fail)); all_goals ((conv => whnf); try with_reducible apply At.mk)))
  apply q_call
  focus (exact byNext)
  focus omega
  focus exact index_w (m := m) byOm k (hS.same bySame (Nat.le_refl _)) v byOm byGet
  rintro _ h1 ⟨z, e, hz⟩ q hn
  subst e
  (focus ((try with_reducible apply wpC.to); (repeat' ((conv => whnf); first | refine byEv ?_ | (apply Fork.mk <;> (intro _; try (exfalso; omega))) | ((apply q_call); (focus exact byNext); (focus exact byLo); (focus (first | exact kTDragG2 | exact kTDragF5 | exact kTDragF4 | exact kTDragD0)); first | ((apply q_allB) <;> (intro z_b _ _ _; first | exact Bool.noConfusion z_b | replace z_b := of_decide_eq_true z_b | replace z_b := of_decide_eq_false z_b | skip) <;> ((try simp only [AllOk, Bd.ok, and_true] at z_b); first | contradiction | (revert z_b; intros))) | ((apply q_alli) <;> intro _ _ _ _ <;> try contradiction) | (apply q_allv; intro _ _ _)) | fail)); all_goals ((conv => whnf); try with_reducible apply At.mk)))
  all_goals (refine byFin ?_)
  · exact bool_t rfl (hz.1 (by omega))
  · exact bool_f rfl (fun c => by have := hz.2 c; omega)
theorem kTDragH4 {G : Prop} (g : G := by ((apply contains_w; rotate_left; (focus assumption); (focus (apply Lines.Ok.same; (focus assumption); (focus exact bySame); (focus exact Nat.le_refl _))); (focus assumption); (focus exact byOm); (focus exact byGet); (focus exact byOm)))) : G := g
theorem reckon_w {h : H} {t : T} {S : Lines} {m : Nat} (hm : m ≤ h.next) (kn : Known t) (hS : S.Ok m h) : AW Tryz.prog 65 h.next h [.agg ⟨t.cells⟩, .slice S.b S.k S.c] (fun w _ => w = .tuple #[.agg ⟨t.cells⟩, .int .i64 (spanErr t S)]) := by
  refine fun65.call rfl (Nat.le_refl _) ?_
  unfold a65 spanErr
  by_cases he : testErr t ≠ 0
  · rw [if_pos he]
    (focus ((try with_reducible apply wpC.to); (repeat' ((conv => whnf); first | refine byEv ?_ | (apply Fork.mk <;> (intro _; try (exfalso; omega))) | ((apply q_call); (focus exact byNext); (focus exact byLo); (focus (first | exact kTDragH4 | exact kTDragH3 | exact kTDragH0 | exact kTDragG2 | exact kTDragF5 | exact kTDragF4 | exact kTDragE0 | exact kTDragD0)); first | ((apply q_allB) <;> (intro z_b _ _ _; first | exact Bool.noConfusion z_b | replace z_b := of_decide_eq_true z_b | replace z_b := of_decide_eq_false z_b | skip) <;> ((try simp only [AllOk, Bd.ok, and_true] at z_b); first | contradiction | (revert z_b; intros))) | ((apply q_alli) <;> intro _ _ _ _ <;> try contradiction) | (apply q_allv; intro _ _ _)) | fail)); all_goals ((conv => whnf); try with_reducible apply At.mk)))
    all_goals ((refine byFin ?_); rfl)
  rw [if_neg he]
  have k := testErr_ok.1 (by omega : testErr t = 0)
  by_cases hl : linesErr S ≠ 0
  · rw [if_pos hl]
    (focus ((try with_reducible apply wpC.to); (repeat' ((conv => whnf); first | refine byEv ?_ | (apply Fork.mk <;> (intro _; try (exfalso; omega))) | ((apply q_call); (focus exact byNext); (focus exact byLo); (focus (first | exact kTDragH4 | exact kTDragH3 | exact kTDragH0 | exact kTDragG2 | exact kTDragF5 | exact kTDragF4 | exact kTDragE0 | exact kTDragD0)); first | ((apply q_allB) <;> (intro z_b _ _ _; first | exact Bool.noConfusion z_b | replace z_b := of_decide_eq_true z_b | replace z_b := of_decide_eq_false z_b | skip) <;> ((try simp only [AllOk, Bd.ok, and_true] at z_b); first | contradiction | (revert z_b; intros))) | ((apply q_alli) <;> intro _ _ _ _ <;> try contradiction) | (apply q_allv; intro _ _ _)) | fail)); all_goals ((conv => whnf); try with_reducible apply At.mk)))
    all_goals ((refine byFin ?_); rfl)
  rw [if_neg hl]
  have v := linesErr_valid.1 (by omega : linesErr S = 0)
  by_cases hr : Reckoned t S
  · rw [if_pos hr]
    (focus ((try with_reducible apply wpC.to); (repeat' ((conv => whnf); first | refine byEv ?_ | (apply Fork.mk <;> (intro _; try (exfalso; omega))) | ((apply q_call); (focus exact byNext); (focus exact byLo); (focus (first | exact kTDragH4 | exact kTDragH3 | exact kTDragH0 | exact kTDragG2 | exact kTDragF5 | exact kTDragF4 | exact kTDragE0 | exact kTDragD0)); first | ((apply q_allB) <;> (intro z_b _ _ _; first | exact Bool.noConfusion z_b | replace z_b := of_decide_eq_true z_b | replace z_b := of_decide_eq_false z_b | skip) <;> ((try simp only [AllOk, Bd.ok, and_true] at z_b); first | contradiction | (revert z_b; intros))) | ((apply q_alli) <;> intro _ _ _ _ <;> try contradiction) | (apply q_allv; intro _ _ _)) | fail)); all_goals ((conv => whnf); try with_reducible apply At.mk)))
    all_goals first
      | contradiction
      | ((refine byFin ?_); rfl)
  · rw [if_neg hr]
    (focus ((try with_reducible apply wpC.to); (repeat' ((conv => whnf); first | refine byEv ?_ | (apply Fork.mk <;> (intro _; try (exfalso; omega))) | ((apply q_call); (focus exact byNext); (focus exact byLo); (focus (first | exact kTDragH4 | exact kTDragH3 | exact kTDragH0 | exact kTDragG2 | exact kTDragF5 | exact kTDragF4 | exact kTDragE0 | exact kTDragD0)); first | ((apply q_allB) <;> (intro z_b _ _ _; first | exact Bool.noConfusion z_b | replace z_b := of_decide_eq_true z_b | replace z_b := of_decide_eq_false z_b | skip) <;> ((try simp only [AllOk, Bd.ok, and_true] at z_b); first | contradiction | (revert z_b; intros))) | ((apply q_alli) <;> intro _ _ _ _ <;> try contradiction) | (apply q_allv; intro _ _ _)) | fail)); all_goals ((conv => whnf); try with_reducible apply At.mk)))
    all_goals first
      | contradiction
      | ((refine byFin ?_); rfl)
theorem kTDragH5 {G : Prop} (g : G := by ((apply AW.arg1; (focus (apply reckon_w; rotate_left; (focus assumption); (focus (apply Lines.Ok.same; (focus assumption); (focus exact bySame); (focus exact Nat.le_refl _))); (focus exact byOm))); (focus exact Is.rfl)))) : G := g
end AE.Tryz
