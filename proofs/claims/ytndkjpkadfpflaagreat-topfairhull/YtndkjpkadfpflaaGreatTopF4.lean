/- Walks of fair: all states of a spot, and what is paid from them on. -/
import Derived.Test.YtndkjpkadfpflaaGreatJoin5
set_option linter.unusedVariables false
set_option linter.unusedSimpArgs false
set_option linter.unusedSectionVars false
namespace AE.Tryz
open Go AE Go.Proofs AE.Fair
set_option maxRecDepth 100000
set_option linter.unusedVariables false

/-- What the walk over the states needs of the heap, whatever is done on the way. -/
structure Stat (h : H) (m d l rd ri i : Nat) (S : Spots) : Prop where
  sr : S.r.Ok m h
  gd : h.get d = some (drow S l)
  grd : h.get rd = some (.cells [.pointer (some ⟨d, 0, none⟩)] 87)
  gri : h.get ri = some (.cells [.int .i64 i] 3)
theorem Stat.quiet {h h' : H} {m d l rd ri i lo : Nat} {S : Spots} (k : Stat h m d l rd ri i S) (q : Quiet lo h h') (h1 : m ≤ lo) (h2 : d < lo) (h3 : rd < lo) (h4 : ri < lo) : Stat h' m d l rd ri i S :=
  ⟨k.sr.same (fun x hx => q.same x (by omega)) (Nat.le_refl _), (q.same _ h2).trans k.gd, (q.same _ h3).trans k.grd, (q.same _ h4).trans k.gri⟩

set_option maxHeartbeats 1000000 in
theorem states_w {h : H} {lo : Nat} {yv : Value} {S : Spots} {m d l rd ri i : Nat} (hlo : lo ≤ h.next) (fit : S.Fit) (h1 : 1 ≤ i) (hi : i < S.r.n) (hm : m ≤ h.next) (hd : d < h.next) (hrd : rd < h.next) (hri : ri < h.next)
    (Inv : Nat → Nat → Nat → H → Prop) (hs : ∀ a b s h1, Inv a b s h1 → Stat h1 m d l rd ri i S) (hst : ∀ a b s h1 h2, Inv a b s h1 → Quiet h1.next h1 h2 → Inv a b s h2)
    (hb : ∀ a b h1, Inv a b 3 h1 → Inv a (b + 1) 0 h1) (ha : ∀ a h1, Inv a (S.w i) 0 h1 → Inv (a + 1) 0 0 h1)
    (hy : ∀ a b s h1, a < S.w (i - 1) → b < S.w i → s < 3 → Inv a b s h1 → h.next ≤ h1.next → ∃ v h2, (v = .bool true ∧ Inv a b (s + 1) h2) ∧ ACall Tryz.prog yv lo h1 [.agg ⟨stC i a b s⟩] v h2) (hz : Inv 0 0 0 h) :
    AW Tryz.prog 178 lo h [yv, .pointer (some ⟨rd, 0, none⟩), .pointer (some ⟨ri, 0, none⟩)] (fun _ h' => Inv (S.w (i - 1)) 0 0 h') := by
  have w1 := fit.good.w1 (i - 1) (by omega)
  have w2 := fit.good.w1 i hi
  refine fun178.call rfl hlo ?_
  unfold a178
  have n2 := fit.good.n2
  have em : ((i : Int) - 1) = ((i - 1 : Nat) : Int) := by omega
  have hz' := hst _ _ _ _ (h.bump 5) hz ⟨by simp [bump_next], fun _ _ => rfl, fun hc r hr => hc r (by simp [bump_next] at hr; omega)⟩
  obtain ⟨sr, sd, srd, sri⟩ := hs _ _ _ _ hz
  (focus ((try with_reducible apply wpC.to); (repeat' ((conv => whnf); first | refine byEv ?_ | (apply Fork.mk <;> (intro _; try (exfalso; omega))) | ((first | refine kTopF20 ?_ | refine kTopSc1 ?_); first | ((first | apply q_allD | apply q_alli | apply q_allB) <;> intro _ _ _ _ <;> try contradiction) | (apply q_allv; intro _ _ _)) | refine xTopF20 ?_ | fail)); all_goals ((conv => whnf); try with_reducible apply At.mk)))
  rw [em]
  apply q_call
  focus (exact byNext)
  focus (exact byLo)
  focus exact wide_w (m := m) (l := l) (S := S) byOm (sr.same bySame (Nat.le_refl _)) fit byGet (by omega)
  rintro _ h2 rfl q2 hn2
  have hz2 := hst _ _ _ _ h2 hz' q2
  clear hz hz' sr sd srd sri
  have q0 : Quiet lo h h2 := by (exact byQuiet)
  (focus ((try with_reducible apply wpC.to); (repeat' ((conv => whnf); first | refine byEv ?_ | (apply Fork.mk <;> (intro _; try (exfalso; omega))) | ((first | refine kTopF20 ?_ | refine kTopSc1 ?_); first | ((first | apply q_allD | apply q_alli | apply q_allB) <;> intro _ _ _ _ <;> try contradiction) | (apply q_allv; intro _ _ _)) | refine xTopF20 ?_ | fail)); all_goals ((conv => whnf); try with_reducible apply At.mk)))
  refine wp_loop (fun a : Nat => [(0, yv), (1, .pointer (some ⟨rd, 0, none⟩)), (2, .pointer (some ⟨ri, 0, none⟩)), (10, .int .i64 (S.w (i - 1))), (11, .int .i64 a)])
    (fun a h3 => Inv a 0 0 h3 ∧ Quiet lo h h3 ∧ h.next ≤ h3.next ∧ a ≤ S.w (i - 1)) (fun a => S.w (i - 1) - a) 0 ⟨rfl, rfl, rfl, rfl, rfl, trivial⟩ ⟨?_, ?_, byOm, by omega⟩ ?_
  · exact hz2
  · exact q0
  rintro a g3 h3 ⟨iv3, q3, hn3, ha3⟩ K3 hK3
  have bmp : ∀ {a b s : Nat} {h1 : H} (k : Nat), Inv a b s h1 → Inv a b s (h1.bump k) := fun k iv => hst _ _ _ _ _ iv ⟨by simp [bump_next], fun _ _ => rfl, fun hc r hr => hc r (by simp [bump_next] at hr; omega)⟩
  by_cases hal : a < S.w (i - 1)
  · obtain ⟨sr, sd, srd, sri⟩ := hs _ _ _ _ iv3
    (focus ((try with_reducible apply wpC.to); (repeat' ((conv => whnf); first | refine byEv ?_ | (apply Fork.mk <;> (intro _; try (exfalso; omega))) | ((first | refine kTopF20 ?_ | refine kTopSc1 ?_); first | ((first | apply q_allD | apply q_alli | apply q_allB) <;> intro _ _ _ _ <;> try contradiction) | (apply q_allv; intro _ _ _)) | refine xTopF20 ?_ | fail)); all_goals ((conv => whnf); try with_reducible apply At.mk)))
    rename_i h4 q4 hn4
    have iv4 : Inv a 0 0 h4 := hst _ _ _ _ _ iv3 (show Quiet h3.next h3 h4 from byQuiet)
    have q4' : Quiet lo h h4 := by (exact byQuiet)
    have hn4' : h.next ≤ h4.next := by (exact byOm)
    clear sr sd srd sri iv3 q3 hn3 q4 hn4
    refine wp_loop (fun b : Nat => [(0, yv), (1, .pointer (some ⟨rd, 0, none⟩)), (2, .pointer (some ⟨ri, 0, none⟩)), (10, .int .i64 (S.w (i - 1))), (11, .int .i64 a), (4, .int .i64 a), (16, .int .i64 (S.w i)), (17, .int .i64 b)])
      (fun b h3 => Inv a b 0 h3 ∧ Quiet lo h h3 ∧ h.next ≤ h3.next ∧ b ≤ S.w i) (fun b => S.w i - b) 0 ⟨rfl, rfl, rfl, rfl, rfl, rfl, rfl, rfl, trivial⟩ ⟨by first | exact iv4 | exact bmp _ iv4 | exact bmp _ (bmp _ iv4), byQuiet, byOm, by omega⟩ ?_
    rintro b g5 h5 ⟨iv5, q5, hn5, hb5⟩ K5 hK5
    by_cases hbl : b < S.w i
    · (focus ((try with_reducible apply wpC.to); (repeat' ((conv => whnf); first | refine byEv ?_ | (apply Fork.mk <;> (intro _; try (exfalso; omega))) | ((first | refine kTopF20 ?_ | refine kTopSc1 ?_); first | ((first | apply q_allD | apply q_alli | apply q_allB) <;> intro _ _ _ _ <;> try contradiction) | (apply q_allv; intro _ _ _)) | refine xTopF20 ?_ | fail)); all_goals ((conv => whnf); try with_reducible apply At.mk)))
      refine wp_loop (fun s : Nat => [(0, yv), (1, .pointer (some ⟨rd, 0, none⟩)), (2, .pointer (some ⟨ri, 0, none⟩)), (10, .int .i64 (S.w (i - 1))), (11, .int .i64 a), (4, .int .i64 a), (16, .int .i64 (S.w i)), (17, .int .i64 b), (5, .int .i64 b), (20, .int .i64 s)])
        (fun s h3 => Inv a b s h3 ∧ Quiet lo h h3 ∧ h.next ≤ h3.next ∧ s ≤ 3) (fun s => 3 - s) 0 ⟨rfl, rfl, rfl, rfl, rfl, rfl, rfl, rfl, rfl, rfl, trivial⟩ ⟨by first | exact bmp _ (bmp _ iv5) | exact bmp _ (bmp _ (bmp _ iv5)), byQuiet, byOm, by omega⟩ ?_
      rintro s g6 h6 ⟨iv6, q6, hn6, hs6⟩ K6 hK6
      by_cases hsl : s < 3
      · obtain ⟨sr, sd, srd, sri⟩ := hs _ _ _ _ iv6
        (focus ((try with_reducible apply wpC.to); (repeat' ((conv => whnf); first | refine byEv ?_ | (apply Fork.mk <;> (intro _; try (exfalso; omega))) | ((first | refine kTopF20 ?_ | refine kTopSc1 ?_); first | ((first | apply q_allD | apply q_alli | apply q_allB) <;> intro _ _ _ _ <;> try contradiction) | (apply q_allv; intro _ _ _)) | refine xTopF20 ?_ | fail)); all_goals ((conv => whnf); try with_reducible apply At.mk)))
        apply q_calla
        focus exact hy a b s _ hal hbl hsl (hst _ _ _ _ _ iv6 byQuiet) byOm
        rintro _ h7 ⟨rfl, iv7⟩ q7
        have hn7 := q7.next
        clear sr sd srd sri
        (focus ((try with_reducible apply wpC.to); (repeat' ((conv => whnf); first | refine byEv ?_ | (apply Fork.mk <;> (intro _; try (exfalso; omega))) | ((first | refine kTopF20 ?_ | refine kTopSc1 ?_); first | ((first | apply q_allD | apply q_alli | apply q_allB) <;> intro _ _ _ _ <;> try contradiction) | (apply q_allv; intro _ _ _)) | refine xTopF20 ?_ | fail)); all_goals ((conv => whnf); try with_reducible apply At.mk)))
        refine hK6 (s + 1) _ _ ⟨rfl, rfl, rfl, rfl, rfl, rfl, rfl, rfl, rfl, int_of rfl (by omega), trivial⟩ ⟨hst _ _ _ _ _ iv7 byQuiet, byQuiet, byOm, by omega⟩ (by omega)
      have es : s = 3 := by omega
      subst es
      (focus ((try with_reducible apply wpC.to); (repeat' ((conv => whnf); first | refine byEv ?_ | (apply Fork.mk <;> (intro _; try (exfalso; omega))) | ((first | refine kTopF20 ?_ | refine kTopSc1 ?_); first | ((first | apply q_allD | apply q_alli | apply q_allB) <;> intro _ _ _ _ <;> try contradiction) | (apply q_allv; intro _ _ _)) | refine xTopF20 ?_ | fail)); all_goals ((conv => whnf); try with_reducible apply At.mk)))
      refine hK5 (b + 1) _ _ ⟨rfl, rfl, rfl, rfl, rfl, rfl, rfl, int_of rfl (by omega), trivial⟩ ⟨hst _ _ _ _ _ (hb _ _ _ iv6) byQuiet, byQuiet, byOm, by omega⟩ (by omega)
    have eb : b = S.w i := by omega
    subst eb
    (focus ((try with_reducible apply wpC.to); (repeat' ((conv => whnf); first | refine byEv ?_ | (apply Fork.mk <;> (intro _; try (exfalso; omega))) | ((first | refine kTopF20 ?_ | refine kTopSc1 ?_); first | ((first | apply q_allD | apply q_alli | apply q_allB) <;> intro _ _ _ _ <;> try contradiction) | (apply q_allv; intro _ _ _)) | refine xTopF20 ?_ | fail)); all_goals ((conv => whnf); try with_reducible apply At.mk)))
    refine hK3 (a + 1) _ _ ⟨rfl, rfl, rfl, rfl, int_of rfl (by omega), trivial⟩ ⟨hst _ _ _ _ _ (ha _ _ iv5) byQuiet, byQuiet, byOm, by omega⟩ (by omega)
  have ea : a = S.w (i - 1) := by omega
  subst ea
  (focus ((try with_reducible apply wpC.to); (repeat' ((conv => whnf); first | refine byEv ?_ | (apply Fork.mk <;> (intro _; try (exfalso; omega))) | ((first | refine kTopF20 ?_ | refine kTopSc1 ?_); first | ((first | apply q_allD | apply q_alli | apply q_allB) <;> intro _ _ _ _ <;> try contradiction) | (apply q_allv; intro _ _ _)) | refine xTopF20 ?_ | fail)); all_goals ((conv => whnf); try with_reducible apply At.mk)))
  (refine byFin ?_)
  exact bmp _ iv3
end AE.Tryz
