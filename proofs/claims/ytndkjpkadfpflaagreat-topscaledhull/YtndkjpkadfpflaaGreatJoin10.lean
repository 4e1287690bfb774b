/- Walks and plain laws: TopB5, TopB6. -/
import Derived.Test.YtndkjpkadfpflaaGreatTopB2
import Derived.Test.YtndkjpkadfpflaaGreatJoin5
set_option linter.unusedVariables false
set_option linter.unusedSimpArgs false
set_option linter.unusedSectionVars false

/- Walks of box: all places of a hull, one after the other. -/
namespace AE.Tryz
open Go AE Go.Proofs AE.Box
set_option maxRecDepth 100000
set_option linter.unusedVariables false

/-- What a plan's row holds. -/
def planRow (T : Hull) (q : Nat) : ARow := .cells [.int .i64 T.sp, .int .i64 T.st, .slice T.b T.n T.c, .int .i64 q] 174
theorem places_w {h : H} {p : Nat} : AW Tryz.prog 110 h.next h [.pointer (some ⟨p, 0, none⟩)] (fun v h' => ∃ rp rw, v = .func (.func 160) ⟨[]⟩ ⟨[.pointer (some ⟨rp, 0, none⟩), .pointer (some ⟨rw, 0, none⟩)]⟩ ∧ (h.next ≤ rp ∧ rp < h'.next) ∧ (h.next ≤ rw ∧ rw < h'.next) ∧
    h'.get rp = some (.cells [.pointer (some ⟨p, 0, none⟩)] 93) ∧ h'.get rw = some (.cells [.func (.func 159) ⟨[.agg ⟨[.int .i64 1, .int .i64 2]⟩]⟩ ⟨[]⟩] 248)) := by
  refine fun110.call rfl (Nat.le_refl _) ?_
  unfold a110
  (focus ((try with_reducible apply wpC.to); (repeat' ((conv => whnf); first | refine byEv ?_ | fail)); all_goals ((conv => whnf); try with_reducible apply At.mk)))
  (refine byFin ?_)
  exact ⟨_, _, rfl, ⟨byOm, byOm⟩, ⟨byOm, byOm⟩, byGet, byGet⟩

/-- What the walk over the places needs of the heap, whatever is done on the way. -/
structure PStat (h : H) (m rp rw p q : Nat) (T : Hull) : Prop where
  ok : T.Ok m h
  gp : h.get rp = some (.cells [.pointer (some ⟨p, 0, none⟩)] 93)
  gw : h.get rw = some (.cells [.func (.func 159) ⟨[.agg ⟨[.int .i64 1, .int .i64 2]⟩]⟩ ⟨[]⟩] 248)
  pl : h.get p = some (planRow T q)
set_option maxHeartbeats 1000000 in
theorem iterP_w {h : H} {lo : Nat} {yv : Value} {T : Hull} {m rp rw p q : Nat} (hlo : lo ≤ h.next) (V : T.Valid)
    (Inv : Nat → H → Prop) (hs : ∀ s h1, Inv s h1 → PStat h1 m rp rw p q T) (hst : ∀ s h1 h2, Inv s h1 → Quiet h1.next h1 h2 → Inv s h2)
    (hy : ∀ i k h1, i < T.n → k < T.w 0 → Inv (i * T.w 0 + k) h1 → h.next ≤ h1.next → ∃ v h2, (v = .bool true ∧ Inv (i * T.w 0 + k + 1) h2) ∧ ACall Tryz.prog yv lo h1 [.agg ⟨placeC T.hul.toGeo i k⟩] v h2) (hz : Inv 0 h) :
    AW Tryz.prog 160 lo h [yv, .pointer (some ⟨rp, 0, none⟩), .pointer (some ⟨rw, 0, none⟩)] (fun _ h' => Inv (T.n * T.w 0) h') := by
  obtain ⟨n1, n2, w1, w2, eq, s1, s2, pl, some⟩ := V
  refine fun160.call rfl hlo ?_
  unfold a160
  have hz' := hst _ _ (h.bump 7) hz ⟨by simp [bump_next], fun _ _ => rfl, fun hc r hr => hc r (by simp [bump_next] at hr; omega)⟩
  obtain ⟨⟨e1, i1, r1, l1, re, ri, rr, rl⟩, gp, gw, gpl⟩ := hs _ _ hz
  unfold planRow at gpl
  (focus ((try with_reducible apply wpC.to); (repeat' ((conv => whnf); first | refine byEv ?_ | (apply Fork.mk <;> (intro _; try (exfalso; omega))) | ((refine kTopSc1c ?_); first | ((first | apply q_allD | apply q_alli | apply q_allB) <;> intro _ _ _ _ <;> try contradiction) | (apply q_allv; intro _ _ _)) | refine xTopB20 ?_ | fail)); all_goals ((conv => whnf); try with_reducible apply At.mk)))
  clear i1 r1 ri rr gp gw gpl
  refine wp_loop (fun s : Nat => [(0, yv), (1, .pointer (.some ⟨rp, 0, none⟩)), (2, .pointer (.some ⟨rw, 0, none⟩)), (12, .slice T.b T.n T.c), (13, .int .i64 T.n), (14, .int .i64 s)]) (fun s h1 => Inv (s * T.w 0) h1 ∧ Quiet lo h h1 ∧ h.next ≤ h1.next ∧ s ≤ T.n) (fun s => T.n - s) 0 ⟨rfl, rfl, rfl, rfl, rfl, rfl, trivial⟩ ⟨by rw [Nat.zero_mul]; exact hz', byQuiet, byOm, by omega⟩ ?_
  clear hz hz'
  rintro i g1 h1 ⟨iv1, q1, hn1, hi⟩ K hK
  have bmp : ∀ {s : Nat} {h1 : H} (k : Nat), Inv s h1 → Inv s (h1.bump k) := fun k iv => hst _ _ _ iv ⟨by simp [bump_next], fun _ _ => rfl, fun hc r hr => hc r (by simp [bump_next] at hr; omega)⟩
  by_cases hin : i < T.n
  · have rei := re i hin
    have ewi := eq i hin
    obtain ⟨⟨-, i1, -, -, -, ri, -, -⟩, gp, gw, gpl⟩ := hs _ _ iv1
    have rii := ri i hin
    (focus ((try with_reducible apply wpC.to); (repeat' ((conv => whnf); first | refine byEv ?_ | (apply Fork.mk <;> (intro _; try (exfalso; omega))) | ((refine kTopSc1c ?_); first | ((first | apply q_allD | apply q_alli | apply q_allB) <;> intro _ _ _ _ <;> try contradiction) | (apply q_allv; intro _ _ _)) | refine xTopB20 ?_ | fail)); all_goals ((conv => whnf); try with_reducible apply At.mk)))
    clear i1 rii ri gp gw gpl
    refine wp_loop (fun s : Nat => [(0, yv), (1, .pointer (.some ⟨rp, 0, none⟩)), (2, .pointer (.some ⟨rw, 0, none⟩)), (12, .slice T.b T.n T.c), (13, .int .i64 T.n), (14, .int .i64 i), (4, .int .i64 i), (5, .slice (T.rb i) (T.w i) (T.rc i)), (20, .int .i64 (T.w i)), (21, .int .i64 s)]) (fun s h1 => Inv (i * T.w 0 + s) h1 ∧ Quiet lo h h1 ∧ h.next ≤ h1.next ∧ s ≤ T.w 0) (fun s => T.w 0 - s) 0 ⟨rfl, rfl, rfl, rfl, rfl, rfl, rfl, rfl, rfl, rfl, trivial⟩ ⟨by first | exact bmp _ iv1 | exact bmp _ (bmp _ iv1) | exact bmp _ (bmp _ (bmp _ iv1)), byQuiet, byOm, by omega⟩ ?_
    rintro k g2 h2 ⟨iv2, q2, hn2, hk⟩ K2 hK2
    by_cases hkw : k < T.w 0
    · obtain ⟨⟨-, i1, -, -, -, ri, -, -⟩, gp, gw, gpl⟩ := hs _ _ iv2
      unfold planRow at gpl
      (focus ((try with_reducible apply wpC.to); (repeat' ((conv => whnf); first | refine byEv ?_ | (apply Fork.mk <;> (intro _; try (exfalso; omega))) | ((refine kTopSc1c ?_); first | ((first | apply q_allD | apply q_alli | apply q_allB) <;> intro _ _ _ _ <;> try contradiction) | (apply q_allv; intro _ _ _)) | refine xTopB20 ?_ | fail)); all_goals ((conv => whnf); try with_reducible apply At.mk)))
      apply q_call
      focus (exact byNext)
      focus (exact byLo)
      focus exact weight_w (i := i) (n := T.n) n1 (by omega) hin
      rintro _ h3 rfl q3 hn3
      have q23 : Quiet h2.next h2 h3 := by (exact byQuiet)
      have iv3 := hst _ _ h3 iv2 q23
      have q3' : Quiet lo h h3 := by (exact byQuiet)
      have hn3' : h.next ≤ h3.next := by (exact byOm)
      clear i1 ri gp gw gpl iv2 q23 q3 hn3 hn2
      obtain ⟨⟨-, i1, -, -, -, ri, -, -⟩, gp, gw, gpl⟩ := hs _ _ iv3
      (focus ((try with_reducible apply wpC.to); (repeat' ((conv => whnf); first | refine byEv ?_ | (apply Fork.mk <;> (intro _; try (exfalso; omega))) | ((refine kTopSc1c ?_); first | ((first | apply q_allD | apply q_alli | apply q_allB) <;> intro _ _ _ _ <;> try contradiction) | (apply q_allv; intro _ _ _)) | refine xTopB20 ?_ | fail)); all_goals ((conv => whnf); try with_reducible apply At.mk)))
      apply q_call
      focus (exact byNext)
      focus (exact byLo)
      focus (rw [ewi]; exact weight_w (i := k) (n := T.w 0) w1 (by omega) hkw)
      rintro _ h4 rfl q4 hn4
      have q34 : Quiet h3.next h3 h4 := by (exact byQuiet)
      have iv4 := hst _ _ h4 iv3 q34
      have q4' : Quiet lo h h4 := by (exact byQuiet)
      have hn4' : h.next ≤ h4.next := by (exact byOm)
      clear i1 ri gp gw gpl iv3 q34 q4 hn4 hn3' q3' q2
      have hv := mul_bd (a := wt i T.n) (b := wt k (T.w 0)) (A := 2) (B := 2) (by have := wt_bd i T.n; omega) (by have := wt_bd k (T.w 0); omega)
      have hyk := fun h5 iv hn5 => hy i k h5 hin hkw iv hn5
      by_cases hk1 : k + 1 = T.w 0
      · have hpc : placeC T.hul.toGeo i k = [.int .i64 i, .int .i64 k, .int .i64 (wt i T.n * wt k (T.w 0)), .int .i64 (wt i T.n), .bool true] := by
          unfold placeC
          rw [show decide (k + 1 = T.hul.toGeo.w) = true from decide_eq_true hk1]
          rfl
        rw [hpc] at hyk
        (focus ((try with_reducible apply wpC.to); (repeat' ((conv => whnf); first | refine byEv ?_ | (apply Fork.mk <;> (intro _; try (exfalso; omega))) | ((refine kTopSc1c ?_); first | ((first | apply q_allD | apply q_alli | apply q_allB) <;> intro _ _ _ _ <;> try contradiction) | (apply q_allv; intro _ _ _)) | refine xTopB20 ?_ | fail)); all_goals ((conv => whnf); try with_reducible apply At.mk)))
        apply q_calla
        focus exact hyk _ (hst _ _ _ iv4 byQuiet) byOm
        rintro _ h5 ⟨rfl, iv5⟩ q5
        have hn5 := q5.next
        (focus ((try with_reducible apply wpC.to); (repeat' ((conv => whnf); first | refine byEv ?_ | (apply Fork.mk <;> (intro _; try (exfalso; omega))) | ((refine kTopSc1c ?_); first | ((first | apply q_allD | apply q_alli | apply q_allB) <;> intro _ _ _ _ <;> try contradiction) | (apply q_allv; intro _ _ _)) | refine xTopB20 ?_ | fail)); all_goals ((conv => whnf); try with_reducible apply At.mk)))
        exact hK2 (k + 1) _ _ ⟨rfl, rfl, rfl, rfl, rfl, rfl, rfl, rfl, rfl, int_of rfl (by omega), trivial⟩ ⟨hst _ _ _ iv5 byQuiet, byQuiet, byOm, by omega⟩ (by omega)
      · have hpc : placeC T.hul.toGeo i k = [.int .i64 i, .int .i64 k, .int .i64 (wt i T.n * wt k (T.w 0)), .int .i64 (wt i T.n), .bool false] := by
          unfold placeC
          rw [show decide (k + 1 = T.hul.toGeo.w) = false from decide_eq_false hk1]
          rfl
        rw [hpc] at hyk
        (focus ((try with_reducible apply wpC.to); (repeat' ((conv => whnf); first | refine byEv ?_ | (apply Fork.mk <;> (intro _; try (exfalso; omega))) | ((refine kTopSc1c ?_); first | ((first | apply q_allD | apply q_alli | apply q_allB) <;> intro _ _ _ _ <;> try contradiction) | (apply q_allv; intro _ _ _)) | refine xTopB20 ?_ | fail)); all_goals ((conv => whnf); try with_reducible apply At.mk)))
        apply q_calla
        focus exact hyk _ (hst _ _ _ iv4 byQuiet) byOm
        rintro _ h5 ⟨rfl, iv5⟩ q5
        have hn5 := q5.next
        (focus ((try with_reducible apply wpC.to); (repeat' ((conv => whnf); first | refine byEv ?_ | (apply Fork.mk <;> (intro _; try (exfalso; omega))) | ((refine kTopSc1c ?_); first | ((first | apply q_allD | apply q_alli | apply q_allB) <;> intro _ _ _ _ <;> try contradiction) | (apply q_allv; intro _ _ _)) | refine xTopB20 ?_ | fail)); all_goals ((conv => whnf); try with_reducible apply At.mk)))
        exact hK2 (k + 1) _ _ ⟨rfl, rfl, rfl, rfl, rfl, rfl, rfl, rfl, rfl, int_of rfl (by omega), trivial⟩ ⟨hst _ _ _ iv5 byQuiet, byQuiet, byOm, by omega⟩ (by omega)
    · obtain rfl : k = T.w 0 := by omega
      (focus ((try with_reducible apply wpC.to); (repeat' ((conv => whnf); first | refine byEv ?_ | (apply Fork.mk <;> (intro _; try (exfalso; omega))) | ((refine kTopSc1c ?_); first | ((first | apply q_allD | apply q_alli | apply q_allB) <;> intro _ _ _ _ <;> try contradiction) | (apply q_allv; intro _ _ _)) | refine xTopB20 ?_ | fail)); all_goals ((conv => whnf); try with_reducible apply At.mk)))
      refine hK (i + 1) _ _ ⟨rfl, rfl, rfl, rfl, rfl, int_of rfl (by omega), trivial⟩ ⟨?_, byQuiet, byOm, by omega⟩ (by omega)
      rw [Nat.succ_mul]
      exact hst _ _ _ iv2 byQuiet
  · obtain rfl : i = T.n := by omega
    (focus ((try with_reducible apply wpC.to); (repeat' ((conv => whnf); first | refine byEv ?_ | (apply Fork.mk <;> (intro _; try (exfalso; omega))) | ((refine kTopSc1c ?_); first | ((first | apply q_allD | apply q_alli | apply q_allB) <;> intro _ _ _ _ <;> try contradiction) | (apply q_allv; intro _ _ _)) | refine xTopB20 ?_ | fail)); all_goals ((conv => whnf); try with_reducible apply At.mk)))
    (refine byFin ?_)
    exact hst _ _ _ iv1 byQuiet
end AE.Tryz

/- Walks of box: the volume of a true hull. -/
namespace AE.Tryz
open Go AE Go.Proofs AE.Box
set_option maxRecDepth 100000
set_option linter.unusedVariables false

theorem same_quiet {lo : Nat} {h h1 h2 : H} (s : Same lo h h1) (q : Quiet h1.next h1 h2) (hl : lo ≤ h1.next) : Same lo h h2 := fun x hx => (q.same x (by omega)).trans (s x hx)
theorem kTopB60c {G G' : Prop} (g : G') (t : G' → G := by ((apply q_call); (focus exact byNext); (focus exact byLo); (focus ((apply fraction_w; (focus omega); (focus omega)))))) : G := t g
set_option maxHeartbeats 1000000 in
theorem volume_w {h : H} {T : Hull} {Y : Grid} {m m' : Nat} (hm : m ≤ h.next) (hm' : m' ≤ h.next) (hT : T.Ok m h) (hY : Y.Ok m' h) (F : Fits2 T Y) : AW Tryz.prog 44 h.next h [.agg ⟨T.cells⟩, .slice Y.b Y.n Y.c] (fun v _ => v = .agg ⟨frC (fr (T.sp * T.st * T.hul.vol Y.f) 2)⟩) := by
  have V := F.v
  have fn := F.n
  have fw := F.w
  have nw := V.hul.nw
  have n1 := V.n1
  have n2 := V.n2
  have w1 := V.w1
  have w2 := V.w2
  have s1 := V.s1
  have s2 := V.s2
  have ye := hY.e
  refine fun44.call rfl (Nat.le_refl _) ?_
  unfold a44 Hull.cells
  (focus ((try with_reducible apply wpC.to); (repeat' ((conv => whnf); first | refine byEv ?_ | ((refine kTopB60c ?_); first | ((first | apply q_allD | apply q_alli | apply q_allB) <;> intro _ _ _ _ <;> try contradiction) | (apply q_allv; intro _ _ _)) | refine xTopB20 ?_ | fail)); all_goals ((conv => whnf); try with_reducible apply At.mk)))
  apply q_call
  focus (exact byNext)
  focus (exact byLo)
  focus exact places_w
  rintro _ h1 ⟨rp, rw', rfl, ⟨a1, a2⟩, ⟨a3, a4⟩, a5, a6⟩ q1 hn1
  have a1' : h.next + 11 ≤ rp := by (exact byOm)
  have a3' : h.next + 11 ≤ rw' := by (exact byOm)
  have g1 : h1.get h.next = some (.cells [.int .i64 T.sp, .int .i64 T.st, .slice T.b T.n T.c] 24) := (q1.same _ byOm).trans byGet
  have g2 : h1.get (h.next + 1) = some (.cells [.slice Y.b Y.n Y.c] 32) := (q1.same _ byOm).trans byGet
  have g3 : h1.get (h.next + 2) = some (.cells [.int .i64 0, .int .i64 0] 27) := (q1.same _ byOm).trans byGet
  have g5 : h1.get (h.next + 5) = some (planRow T 0) := (q1.same _ byOm).trans (by unfold planRow; (exact byGet))
  have g7 : h1.get (h.next + 7) = some (.cells [.int .i64 0] 2) := (q1.same _ byOm).trans byGet
  have sm : Same h.next h h1 := fun x hx => (q1.same x byOm).trans (get_of fun y hy => byGet)
  have hn1' : h.next + 11 ≤ h1.next := by (exact byOm)
  clear q1
  (focus ((try with_reducible apply wpC.to); (repeat' ((conv => whnf); first | refine byEv ?_ | ((refine kTopB60c ?_); first | ((first | apply q_allD | apply q_alli | apply q_allB) <;> intro _ _ _ _ <;> try contradiction) | (apply q_allv; intro _ _ _)) | refine xTopB20 ?_ | fail)); all_goals ((conv => whnf); try with_reducible apply At.mk)))
  refine wp_forget (l := [(2, .pointer (some ⟨h.next, 0, none⟩)), (3, .pointer (some ⟨h.next + 1, 0, none⟩)), (4, .pointer (some ⟨h.next + 2, 0, none⟩)), (6, .pointer (some ⟨h.next + 7, 0, none⟩)), (12, .func (.func 160) ⟨[]⟩ ⟨[.pointer (some ⟨rp, 0, none⟩), .pointer (some ⟨rw', 0, none⟩)]⟩)]) ⟨rfl, rfl, rfl, rfl, rfl, trivial⟩ fun g' => ?_
  apply wp_range
  focus exact rfl
  focus (exact byNext)
  focus (exact byList)
  intro L0 hL0
  have gv := V.hul.toOk
  refine ⟨_, iterP_w (m := m) (p := h.next + 5) (q := 0) (T := T) byOm V
    (fun s h2 => Same h.next h h2 ∧ (h2.get rp = some (.cells [.pointer (some ⟨h.next + 5, 0, none⟩)] 93) ∧ h2.get rw' = some (.cells [.func (.func 159) ⟨[.agg ⟨[.int .i64 1, .int .i64 2]⟩]⟩ ⟨[]⟩] 248) ∧ h2.get (h.next + 5) = some (planRow T 0)) ∧ h2.get h.next = some (.cells [.int .i64 T.sp, .int .i64 T.st, .slice T.b T.n T.c] 24) ∧
      h2.get (h.next + 1) = some (.cells [.slice Y.b Y.n Y.c] 32) ∧ h2.get (h.next + 2) = some (.cells [.int .i64 0, .int .i64 0] 27) ∧ h2.get (h.next + 7) = some (.cells [.int .i64 (sumP (fun i k => T.hul.wy i k (Y.f i k)) (T.w 0) s)] 2) ∧ h2.get h1.next = some (.loop L0) ∧ h1.next < h2.next) ?_ ?_ ?_ ?_, ?_⟩
  · rintro s h2 ⟨b1, ⟨b2, b3, b4⟩, -⟩
    exact ⟨hT.same (b1.mono hm) (Nat.le_refl _), b2, b3, b4⟩
  · rintro s h2 h3 ⟨b1, ⟨b2, b3, b4⟩, b5, b6, b7, b8, b9, b10⟩ q
    have := q.next
    exact ⟨same_quiet b1 q (by omega), ⟨(q.same _ (by omega)).trans b2, (q.same _ (by omega)).trans b3, (q.same _ (by omega)).trans b4⟩, (q.same _ (by omega)).trans b5, (q.same _ (by omega)).trans b6, (q.same _ (by omega)).trans b7, (q.same _ (by omega)).trans b8, (q.same _ (by omega)).trans b9, by omega⟩
  · rintro i k h2 hi hk ⟨b1, ⟨b2, b3, b4⟩, b5, b6, b7, b8, b9, b10⟩ hle
    have hY2 := hY.same (b1.mono hm') (m' := h.next) hm'
    have yi := hY2.i
    have yr := hY2.r
    have yri := hY2.ri i (by omega)
    have yrr := hY2.rr i (by omega)
    have hky : k < Y.w := by omega
    have hiy : i < Y.n := by omega
    have hy := V.hul.yin F.inn hi hk
    have st := (gv.steps hi hk hy).wy
    have vb := V.hul.vol_bd F.inn (p := i * T.w 0 + k) (Nat.le_of_lt (pl_lt hi hk))
    have vc := V.hul.vol_bd F.inn (p := i * T.w 0 + k + 1) (pl_lt hi hk)
    have en : sumP (fun i k => T.hul.wy i k (Y.f i k)) (T.w 0) (i * T.w 0 + k + 1) = sumP (fun i k => T.hul.wy i k (Y.f i k)) (T.w 0) (i * T.w 0 + k) + wt i T.hul.n * wt k T.hul.w * Y.f i k := sumP_next _ hk
    rw [show T.hul.w = T.w 0 from rfl] at vb vc
    rw [en] at vc ⊢
    generalize sumP (fun i k => T.hul.wy i k (Y.f i k)) (T.w 0) (i * T.w 0 + k) = S at vb vc b8 ⊢
    refine YA.call fun44.mixed (A := a44A0) (B := a44B0) (L := L0) (by rw [hL0]; exact c44A0) (by rw [hL0]; exact c44B0) b9 (by omega) (by omega) (by rw [hL0]; exact rfl) (by rw [hL0]; exact rfl) ?_
    unfold YA a44A0
    refine wp_forget (l := [(3, .pointer (some ⟨h.next + 1, 0, none⟩)), (6, .pointer (some ⟨h.next + 7, 0, none⟩)), (13, .agg ⟨placeC T.hul.toGeo i k⟩)]) ⟨by rw [hL0]; exact rfl, by rw [hL0]; exact rfl, by rw [hL0]; exact rfl, trivial⟩ fun g'' => ?_
    unfold placeC
    (focus ((try with_reducible apply wpC.to); (repeat' ((conv => whnf); first | refine byEv ?_ | ((refine kTopB60c ?_); first | ((first | apply q_allD | apply q_alli | apply q_allB) <;> intro _ _ _ _ <;> try contradiction) | (apply q_allv; intro _ _ _)) | refine xTopB20 ?_ | fail)); all_goals ((conv => whnf); try with_reducible apply At.mk)))
    refine ⟨rfl, L0, byGet, by rw [hL0]; exact rfl, ?_⟩
    unfold a44B0
    have hL1 : ended (busy L0) .none = L0 := by rw [hL0]; exact rfl
    (focus ((try with_reducible apply wpC.to); (repeat' ((conv => whnf); first | refine byEv ?_ | ((refine kTopB60c ?_); first | ((first | apply q_allD | apply q_alli | apply q_allB) <;> intro _ _ _ _ <;> try contradiction) | (apply q_allv; intro _ _ _)) | refine xTopB20 ?_ | fail)); all_goals ((conv => whnf); try with_reducible apply At.mk)))
    refine ⟨.none, _, rfl, byGet, rfl, ?_⟩
    rw [hL1]
    exact ⟨bySame, ⟨byGet, byGet, byGet⟩, byGet, byGet, byGet, byGet, byGet, byOm⟩
  · exact ⟨bySame, ⟨byGet, byGet, byGet⟩, byGet, byGet, byGet, by rw [sumP_zero]; (exact byGet), byGet, byOm⟩
  · rintro v h2 ⟨b1, ⟨b2, b3, b4⟩, b5, b6, b7, b8, b9, b10⟩ q
    have vb : 0 ≤ T.hul.vol Y.f ∧ T.hul.vol Y.f ≤ 120000 := V.hul.vol_bd F.inn (p := T.hul.n * T.hul.w) (Nat.le_refl _)
    have b8 : h2.get (h.next + 7) = some (.cells [.int .i64 (T.hul.vol Y.f)] 2) := b8
    have p1 := mul_bd (a := T.sp) (b := T.st) (A := 1000) (B := 100) (by omega) (by omega)
    have p2 := mul_bd p1 vb
    refine ⟨_, b9, by rw [hL0]; simp [loop0], ?_⟩
    rw [hL0]
    simp only [loop0, pendE]
    (focus ((try with_reducible apply wpC.to); (repeat' ((conv => whnf); first | refine byEv ?_ | ((refine kTopB60c ?_); first | ((first | apply q_allD | apply q_alli | apply q_allB) <;> intro _ _ _ _ <;> try contradiction) | (apply q_allv; intro _ _ _)) | refine xTopB20 ?_ | fail)); all_goals ((conv => whnf); try with_reducible apply At.mk)))
    (refine byFin ?_)
    rfl
end AE.Tryz
