/- Walks of box: what is asked of a true hull. -/
import Derived.Test.YtndkjpkadfpflaaGreatJoin10
set_option linter.unusedVariables false
set_option linter.unusedSimpArgs false
set_option linter.unusedSectionVars false
namespace AE.Tryz
open Go AE Go.Proofs AE.Box
set_option maxRecDepth 100000
set_option linter.unusedVariables false

set_option maxHeartbeats 1000000 in
theorem value_w {h : H} {T : Hull} {Y : Grid} {m m' p q : Nat} (hm : m ≤ h.next) (hm' : m' ≤ h.next) (hp : p < h.next) (hg : h.get p = some (planRow T q)) (hq : q ≤ 2) (hT : T.Ok m h) (hY : Y.Ok m' h) (F : Fits2 T Y) : AW Tryz.prog 46 h.next h [.pointer (some ⟨p, 0, none⟩), .slice Y.b Y.n Y.c] (fun v _ => v = .agg ⟨frC (T.hul.val q Y.f)⟩) := by
  have V := F.v
  have fn := F.n
  have fw := F.w
  have nw := V.hul.nw
  have n1 := V.n1
  have n2 := V.n2
  have w1 := V.w1
  have w2 := V.w2
  have ye := hY.e
  refine fun46.call rfl (Nat.le_refl _) ?_
  unfold a46
  (focus ((try with_reducible apply wpC.to); (repeat' ((conv => whnf); first | refine byEv ?_ | ((refine kTopB60c ?_); first | ((first | apply q_allD | apply q_alli | apply q_allB) <;> intro _ _ _ _ <;> try contradiction) | (apply q_allv; intro _ _ _)) | refine xTopB20 ?_ | fail)); all_goals ((conv => whnf); try with_reducible apply At.mk)))
  apply q_call
  focus (exact byNext)
  focus (exact byLo)
  focus exact places_w
  rintro _ h1 ⟨rp, rw', rfl, ⟨a1, a2⟩, ⟨a3, a4⟩, a5, a6⟩ q1 hn1
  have a1' : h.next + 9 ≤ rp := by (exact byOm)
  have a3' : h.next + 9 ≤ rw' := by (exact byOm)
  have g1 : h1.get h.next = some (.cells [.pointer (some ⟨p, 0, none⟩)] 93) := (q1.same _ byOm).trans byGet
  have g2 : h1.get (h.next + 1) = some (.cells [.slice Y.b Y.n Y.c] 32) := (q1.same _ byOm).trans byGet
  have g3 : h1.get (h.next + 2) = some (.cells [.int .i64 0, .int .i64 0] 27) := (q1.same _ byOm).trans byGet
  have g4 : h1.get (h.next + 3) = some (.cells [.int .i64 0] 2) := (q1.same _ byOm).trans byGet
  have g5 : h1.get (h.next + 4) = some (.cells [.int .i64 0] 2) := (q1.same _ byOm).trans byGet
  have sm : Same h.next h h1 := fun x hx => (q1.same x byOm).trans (get_of fun y hy => byGet)
  have hn1' : h.next + 9 ≤ h1.next := by (exact byOm)
  clear q1
  (focus ((try with_reducible apply wpC.to); (repeat' ((conv => whnf); first | refine byEv ?_ | ((refine kTopB60c ?_); first | ((first | apply q_allD | apply q_alli | apply q_allB) <;> intro _ _ _ _ <;> try contradiction) | (apply q_allv; intro _ _ _)) | refine xTopB20 ?_ | fail)); all_goals ((conv => whnf); try with_reducible apply At.mk)))
  refine wp_forget (l := [(2, .pointer (some ⟨h.next, 0, none⟩)), (3, .pointer (some ⟨h.next + 1, 0, none⟩)), (4, .pointer (some ⟨h.next + 2, 0, none⟩)), (5, .pointer (some ⟨h.next + 3, 0, none⟩)), (6, .pointer (some ⟨h.next + 4, 0, none⟩)), (11, .func (.func 160) ⟨[]⟩ ⟨[.pointer (some ⟨rp, 0, none⟩), .pointer (some ⟨rw', 0, none⟩)]⟩)]) ⟨rfl, rfl, rfl, rfl, rfl, rfl, trivial⟩ fun g' => ?_
  apply wp_range
  focus exact rfl
  focus (exact byNext)
  focus (exact byList)
  intro L0 hL0
  have gv := V.hul.toOk
  refine ⟨_, iterP_w (m := m) (p := p) (q := q) (T := T) byOm V
    (fun s h2 => Same h.next h h2 ∧ (h2.get rp = some (.cells [.pointer (some ⟨p, 0, none⟩)] 93) ∧ h2.get rw' = some (.cells [.func (.func 159) ⟨[.agg ⟨[.int .i64 1, .int .i64 2]⟩]⟩ ⟨[]⟩] 248)) ∧ h2.get h.next = some (.cells [.pointer (some ⟨p, 0, none⟩)] 93) ∧
      h2.get (h.next + 1) = some (.cells [.slice Y.b Y.n Y.c] 32) ∧ h2.get (h.next + 2) = some (.cells [.int .i64 0, .int .i64 0] 27) ∧ h2.get (h.next + 3) = some (.cells [.int .i64 (sumP (fun i k => T.hul.a q i k (Y.f i k)) (T.w 0) s)] 2) ∧ h2.get (h.next + 4) = some (.cells [.int .i64 (sumP (fun i k => T.hul.b q i k (Y.f i k)) (T.w 0) s)] 2) ∧ h2.get h1.next = some (.loop L0) ∧ h1.next < h2.next) ?_ ?_ ?_ ?_, ?_⟩
  · rintro s h2 ⟨b1, ⟨b2, b3⟩, -⟩
    exact ⟨hT.same (b1.mono hm) (Nat.le_refl _), b2, b3, (b1 _ hp).trans hg⟩
  · rintro s h2 h3 ⟨b1, ⟨b2, b3⟩, b5, b6, b7, b8, b8', b9, b10⟩ q
    have := q.next
    exact ⟨same_quiet b1 q (by omega), ⟨(q.same _ (by omega)).trans b2, (q.same _ (by omega)).trans b3⟩, (q.same _ (by omega)).trans b5, (q.same _ (by omega)).trans b6, (q.same _ (by omega)).trans b7, (q.same _ (by omega)).trans b8, (q.same _ (by omega)).trans b8', (q.same _ (by omega)).trans b9, by omega⟩
  · rintro i k h2 hi hk ⟨b1, ⟨b2, b3⟩, b5, b6, b7, b8, b8', b9, b10⟩ hle
    have hY2 := hY.same (b1.mono hm') (m' := h.next) hm'
    have yi := hY2.i
    have yr := hY2.r
    have yri := hY2.ri i (by omega)
    have yrr := hY2.rr i (by omega)
    have b4 : h2.get p = some (planRow T q) := (b1 _ hp).trans hg
    have hky : k < Y.w := by omega
    have hiy : i < Y.n := by omega
    have hy := V.hul.yin F.inn hi hk
    have st := gv.steps hi hk hy
    have ta := gv.a_bd (q := q) hi hk hy
    have tb := gv.b_bd (q := q) hi hk hy
    have va := V.hul.num_bd q F.inn (p := i * T.w 0 + k) (Nat.le_of_lt (pl_lt hi hk))
    have vb := V.hul.den_bd q F.inn (p := i * T.w 0 + k) (Nat.le_of_lt (pl_lt hi hk))
    have ea : sumP (fun i k => T.hul.a q i k (Y.f i k)) (T.w 0) (i * T.w 0 + k + 1) = sumP (fun i k => T.hul.a q i k (Y.f i k)) (T.w 0) (i * T.w 0 + k) + T.hul.a q i k (Y.f i k) := sumP_next _ hk
    have eb : sumP (fun i k => T.hul.b q i k (Y.f i k)) (T.w 0) (i * T.w 0 + k + 1) = sumP (fun i k => T.hul.b q i k (Y.f i k)) (T.w 0) (i * T.w 0 + k) + T.hul.b q i k (Y.f i k) := sumP_next _ hk
    rw [show T.hul.w = T.w 0 from rfl] at va vb
    rw [ea, eb]
    generalize sumP (fun i k => T.hul.a q i k (Y.f i k)) (T.w 0) (i * T.w 0 + k) = S at va b8 ⊢
    generalize sumP (fun i k => T.hul.b q i k (Y.f i k)) (T.w 0) (i * T.w 0 + k) = S' at vb b8' ⊢
    refine YA.call fun46.mixed (A := a46A0) (B := a46B0) (L := L0) (by rw [hL0]; exact c46A0) (by rw [hL0]; exact c46B0) b9 (by omega) (by omega) (by rw [hL0]; exact rfl) (by rw [hL0]; exact rfl) ?_
    unfold YA a46A0
    refine wp_forget (l := [(2, .pointer (some ⟨h.next, 0, none⟩)), (3, .pointer (some ⟨h.next + 1, 0, none⟩)), (5, .pointer (some ⟨h.next + 3, 0, none⟩)), (6, .pointer (some ⟨h.next + 4, 0, none⟩)), (12, .agg ⟨placeC T.hul.toGeo i k⟩)]) ⟨by rw [hL0]; exact rfl, by rw [hL0]; exact rfl, by rw [hL0]; exact rfl, by rw [hL0]; exact rfl, by rw [hL0]; exact rfl, trivial⟩ fun g'' => ?_
    have hpc : placeC T.hul.toGeo i k = [.int .i64 i, .int .i64 k, .int .i64 (wt i T.hul.n * wt k T.hul.w), .int .i64 (wt i T.hul.n), .bool (decide (k + 1 = T.hul.w))] := rfl
    rw [hpc]
    (focus ((try with_reducible apply wpC.to); (repeat' ((conv => whnf); first | refine byEv ?_ | ((refine kTopB60c ?_); first | ((first | apply q_allD | apply q_alli | apply q_allB) <;> intro _ _ _ _ <;> try contradiction) | (apply q_allv; intro _ _ _)) | refine xTopB20 ?_ | fail)); all_goals ((conv => whnf); try with_reducible apply At.mk)))
    refine ⟨rfl, L0, byGet, by rw [hL0]; exact rfl, ?_⟩
    unfold a46B0
    have hL1 : ended (busy L0) .none = L0 := by rw [hL0]; exact rfl
    (focus ((try with_reducible apply wpC.to); (repeat' ((conv => whnf); first | refine byEv ?_ | ((refine kTopB60c ?_); first | ((first | apply q_allD | apply q_alli | apply q_allB) <;> intro _ _ _ _ <;> try contradiction) | (apply q_allv; intro _ _ _)) | refine xTopB20 ?_ | fail)); all_goals ((conv => whnf); try with_reducible apply At.mk)))
    apply q_call
    focus (exact byNext)
    focus (exact byLo)
    focus (rw [← hpc]; exact terms_w (G := T.hul.toGeo) (p := p) (q := q) (i := i) (k := k) (y := Y.f i k) byOm (by have := b4; unfold planRow at this; (exact byGet)) st hy hq)
    rintro _ h3 rfl q3 hn3
    (focus ((try with_reducible apply wpC.to); (repeat' ((conv => whnf); first | refine byEv ?_ | ((refine kTopB60c ?_); first | ((first | apply q_allD | apply q_alli | apply q_allB) <;> intro _ _ _ _ <;> try contradiction) | (apply q_allv; intro _ _ _)) | refine xTopB20 ?_ | fail)); all_goals ((conv => whnf); try with_reducible apply At.mk)))
    refine ⟨.none, _, rfl, byGet, rfl, ?_⟩
    rw [hL1]
    exact ⟨bySame, ⟨byGet, byGet⟩, byGet, byGet, byGet, byGet, byGet, byGet, byOm⟩
  · exact ⟨bySame, ⟨byGet, byGet⟩, byGet, byGet, byGet, by rw [sumP_zero]; (exact byGet), by rw [sumP_zero]; (exact byGet), byGet, byOm⟩
  · rintro v h2 ⟨b1, ⟨b2, b3⟩, b5, b6, b7, b8, b8', b9, b10⟩ q5
    have va : 0 ≤ T.hul.num q Y.f ∧ T.hul.num q Y.f ≤ 51600000000 := V.hul.num_bd q F.inn (p := T.hul.n * T.hul.w) (Nat.le_refl _)
    have vb : 0 ≤ T.hul.den q Y.f ∧ T.hul.den q Y.f ≤ 36000000 := V.hul.den_bd q F.inn (p := T.hul.n * T.hul.w) (Nat.le_refl _)
    have vc := V.hul.den_pos q F.inn
    have b8 : h2.get (h.next + 3) = some (.cells [.int .i64 (T.hul.num q Y.f)] 2) := b8
    have b8' : h2.get (h.next + 4) = some (.cells [.int .i64 (T.hul.den q Y.f)] 2) := b8'
    refine ⟨_, b9, by rw [hL0]; simp [loop0], ?_⟩
    rw [hL0]
    simp only [loop0, pendE]
    (focus ((try with_reducible apply wpC.to); (repeat' ((conv => whnf); first | refine byEv ?_ | ((refine kTopB60c ?_); first | ((first | apply q_allD | apply q_alli | apply q_allB) <;> intro _ _ _ _ <;> try contradiction) | (apply q_allv; intro _ _ _)) | refine xTopB20 ?_ | fail)); all_goals ((conv => whnf); try with_reducible apply At.mk)))
    (refine byFin ?_)
    rfl
end AE.Tryz
