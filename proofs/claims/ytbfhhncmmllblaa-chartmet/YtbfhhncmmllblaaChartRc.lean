/- Walks of the definitions of charts: weights. -/
import Derived.Test.YtbfhhncmmllblaaChartRb
set_option linter.unusedVariables false
set_option linter.unusedSimpArgs false
set_option linter.unusedSectionVars false
namespace AE.Try
open Go AE Go.Proofs
set_option maxRecDepth 100000
set_option linter.unusedVariables false

theorem kChartRc0 {G : Prop} (g : G := by ((apply before_r; rotate_left; (focus (apply Arr.Ok.same; (focus assumption); (focus exact bySame); (focus exact Nat.le_refl _))); (focus assumption); (focus assumption); (focus assumption); (focus exact byOm)))) : G := g

theorem OM.sto2 {O : Nat → Prop} {p : Pul} {b m i k lo off : Nat} {h : H} {x : Int} {K : H → Prop} (o : OM O p b m h) (hi : i < p.M.n) (hk : k < p.M.w i) (ho : off = k * 1) (hlo : lo ≤ b) (hr : ∀ hx, hx.next = h.next → (∀ j, j < b ∨ m ≤ j ∨ ¬ O j → hx.get j = h.get j) → OM O (p.upd i k x) b m hx → K hx) : Sto lo h (aadd (p.M.ra i) off) 1 [.int .i64 x] K :=
  o.sto hi hk ho hlo fun r row h1 h2 h3 o' => hr _ rfl (fun j hj => by
    simp only [H.put]
    rw [if_neg]
    rintro rfl
    rcases hj with hj | hj | hj
    · omega
    · omega
    · exact hj h3) o'
theorem OM.lower {O : Nat → Prop} {p : Pul} {b b' m m' : Nat} {h : H} (o : OM O p b m h) (hb : b' ≤ b) (hm : m ≤ m') : OM O p b' m' h :=
  ⟨o.e, o.i, fun h0 => by have := o.r h0; exact ⟨by omega, this.2⟩, o.l, o.re, o.ri, fun i hi h0 => by have := o.rng i hi h0; exact ⟨by omega, this.2⟩, o.inj, o.rl, o.rf⟩
theorem bump_om {O : Nat → Prop} {p : Pul} {b m : Nat} {h : H} (k : Nat) (o : OM O p b m h) : OM O p b m (h.bump k) := o.frame (Nat.le_refl _) fun _ _ _ _ => rfl
/-- Four numbers around a place, and 0. -/
def fourF (i0 k0 : Nat) (a b c d : Int) (i k : Nat) : Int := if i = i0 ∧ k = k0 then a else if i = i0 ∧ k = k0 + 1 then b else if i = i0 + 1 ∧ k = k0 then c else if i = i0 + 1 ∧ k = k0 + 1 then d else 0
theorem four_wm {T : Tbl} {p : Pt} (i k : Nat) : fourF (T.i p) (T.k p) (T.x p 0 * T.y p 0) (T.x p 0 * T.y p 1) (T.x p 1 * T.y p 0) (T.x p 1 * T.y p 1) i k = T.wm p i k := by
  unfold Tbl.wm
  rcases add1_at T p 1 4 (Nat.le_refl _) i k with ⟨j, hj, e, e'⟩ | ⟨e, e'⟩
  · rw [e', Int.mul_one]
    simp only [Prod.mk.injEq, Tbl.ci, Tbl.ck] at e
    obtain ⟨e1, e2⟩ := e
    obtain rfl | rfl | rfl | rfl : j = 0 ∨ j = 1 ∨ j = 2 ∨ j = 3 := by omega
    all_goals
      simp only [Nat.zero_div, Nat.zero_mod, Nat.add_zero, Nat.reduceDiv, Nat.reduceMod] at e1 e2
      subst e1 e2
      unfold fourF Tbl.w
      simp
  · rw [e']
    have h0 := e 0 (by omega)
    have h1 := e 1 (by omega)
    have h2 := e 2 (by omega)
    have h3 := e 3 (by omega)
    simp only [ne_eq, Prod.mk.injEq, Tbl.ci, Tbl.ck, Nat.zero_div, Nat.zero_mod, Nat.add_zero, Nat.reduceDiv, Nat.reduceMod] at h0 h1 h2 h3
    unfold fourF
    rw [if_neg h0, if_neg h1, if_neg h2, if_neg h3]

set_option maxHeartbeats 2000000 in
theorem weights_r {h : H} {T : Tbl} {m : Nat} {p : Pt} (hm : m ≤ h.next) (hT : T.Ok m h) (g : T.Good) (o : T.On p) : AW Try.prog 34 h.next h [.agg ⟨T.cells⟩, .agg ⟨p.cells⟩] (fun v h' => ∃ W : Pul, v = .tuple #[.slice W.M.b W.M.n W.M.c, .int .i64 (T.whole p)] ∧ OM (fun _ => True) W h.next h'.next h' ∧ W.M.n = T.P.n ∧ (∀ i, i < T.P.n → W.M.w i = T.A.n) ∧ ∀ i k, i < T.P.n → k < T.A.n → W.f i k = T.wm p i k) := by
  have gn := g.n
  have gw := g.w
  have gp2 := g.p2
  have ga2 := g.a2
  have gp8 := g.p8
  have ga10 := g.a10
  have grp := g.rp
  have gra := g.ra
  obtain ⟨o1, o2⟩ := o
  obtain ⟨kP, kA, kR⟩ := hT
  obtain ⟨e1, i1, r1, l1, re, ri, rr, rl⟩ := kR
  refine fun34.call rfl (Nat.le_refl _) ?_
  unfold a34 Tbl.cells Pt.cells
  (focus ((try with_reducible apply wpC.to); (repeat' ((conv => whnf); first | refine byEv ?_ | ((apply Fork.mk) <;> (intro _; try (exfalso; omega; done))) | ((apply q_call); (focus exact byNext); (focus exact byLo); (focus (exact kChartRc0)); first | ((apply q_allB) <;> (intro z_b _ _ _; first | exact Bool.noConfusion z_b | replace z_b := of_decide_eq_true z_b | replace z_b := of_decide_eq_false z_b | skip) <;> (first | contradiction | (revert z_b; intros))) | ((apply q_alli) <;> (intro _ _ _ _; try contradiction)) | ((apply q_allv); intro _ _ _)) | ((apply Load1.mk); (focus ((repeat (first | (apply el_lo <;> first | assumption | omega) | (apply el_hi <;> first | assumption | omega) | apply bump_old | ((apply put_old); focus (dsimp only [aadd]; omega)) | ((apply quiet_old); (focus assumption); focus (dsimp only [aadd]; omega)) | ((apply same_old); (focus assumption); focus (dsimp only [aadd]; omega)))); done)); (focus exact byVal)) | fail)); all_goals (conv => whnf); all_goals (try with_reducible apply At.mk)))
  refine wp_loop (fun s : Nat × Option Addr × Mat => [(2, .pointer (some ⟨h.next, 0, none⟩)), (3, .pointer (some ⟨h.next + 1, 0, none⟩)), (6, .slice s.2.1 s.1 0), (7, .int .i64 s.1)])
    (fun s h1 => h1.get h.next = some (.cells (exBox T) 25) ∧ h1.get (h.next + 1) = some (.cells [.int .i64 p.p, .int .i64 p.a] 28) ∧ Same m h h1 ∧ h.next + 2 ≤ h1.next ∧ s.1 ≤ T.R.n ∧ (∀ i, i < s.1 → s.2.2.w i = T.A.n) ∧ LB (fun _ => True) s.2.2 s.1 (fun _ _ => 0) (h.next + 2) h1.next h1 s.2.1) (fun s => T.R.n - s.1) (0, none, ⟨0, fun _ => 0, none, ⟨0, 0, none⟩, 0, fun _ => none, fun _ => ⟨0, 0, none⟩, fun _ => 0⟩) ⟨rfl, rfl, rfl, rfl, trivial⟩ ⟨by (exact byGet), by (exact byGet), by (exact bySame), by (exact byOm), by dsimp only; omega, fun i hi => by dsimp only at hi; omega, LB.zero⟩ ?_
  rintro ⟨s, v4, M⟩ g' h1 ⟨g1, g2, sm, n1, hs, hw, hP⟩ K hK
  dsimp only at hs hw hP ⊢
  unfold exBox at g1
  have i5 := i1.same sm r1
  by_cases hsn : s < T.R.n
  · have hww : T.R.w s = T.A.n := gw s (by omega)
    have lw := rl s hsn
    (focus ((try with_reducible apply wpC.to); (repeat' ((conv => whnf); first | refine byEv ?_ | ((apply Fork.mk) <;> (intro _; try (exfalso; omega; done))) | ((apply q_call); (focus exact byNext); (focus exact byLo); (focus (exact kChartRc0)); first | ((apply q_allB) <;> (intro z_b _ _ _; first | exact Bool.noConfusion z_b | replace z_b := of_decide_eq_true z_b | replace z_b := of_decide_eq_false z_b | skip) <;> (first | contradiction | (revert z_b; intros))) | ((apply q_alli) <;> (intro _ _ _ _; try contradiction)) | ((apply q_allv); intro _ _ _)) | ((apply Load1.mk); (focus ((repeat (first | (apply el_lo <;> first | assumption | omega) | (apply el_hi <;> first | assumption | omega) | apply bump_old | ((apply put_old); focus (dsimp only [aadd]; omega)) | ((apply quiet_old); (focus assumption); focus (dsimp only [aadd]; omega)) | ((apply same_old); (focus assumption); focus (dsimp only [aadd]; omega)))); done)); (focus exact byVal)) | fail)); all_goals (conv => whnf); all_goals (try with_reducible apply At.mk)))
    refine q_mkslice (a := T.R.w s) (b := T.R.w s) rfl rfl (Nat.le_refl _) (by omega) ?_
    rw [reps_icells]
    (focus ((try with_reducible apply wpC.to); (repeat' ((conv => whnf); first | refine byEv ?_ | ((apply Fork.mk) <;> (intro _; try (exfalso; omega; done))) | ((apply q_call); (focus exact byNext); (focus exact byLo); (focus (exact kChartRc0)); first | ((apply q_allB) <;> (intro z_b _ _ _; first | exact Bool.noConfusion z_b | replace z_b := of_decide_eq_true z_b | replace z_b := of_decide_eq_false z_b | skip) <;> (first | contradiction | (revert z_b; intros))) | ((apply q_alli) <;> (intro _ _ _ _; try contradiction)) | ((apply q_allv); intro _ _ _)) | ((apply Load1.mk); (focus ((repeat (first | (apply el_lo <;> first | assumption | omega) | (apply el_hi <;> first | assumption | omega) | apply bump_old | ((apply put_old); focus (dsimp only [aadd]; omega)) | ((apply quiet_old); (focus assumption); focus (dsimp only [aadd]; omega)) | ((apply same_old); (focus assumption); focus (dsimp only [aadd]; omega)))); done)); (focus exact byVal)) | fail)); all_goals (conv => whnf); all_goals (try with_reducible apply At.mk)))
    apply q_appLB (O' := fun _ => True) (M := M) (s := s) (b := h.next + 2) (m := h1.next) (w := T.R.w s) (rc := T.R.w s) (cx := 1) (F := fun _ _ => 0) (rb := some ⟨h1.next + 12, 0, none⟩) (ra := ⟨h1.next + 12, 0, none⟩)
    case hP => exact hP.frame (Nat.le_refl _) fun r hr1 hr2 _ => get_of fun y hy => by (exact byGet)
    case hO => exact fun _ _ => trivial
    case hO1 => exact trivial
    case hsv => exact rfl
    case hx => exact rfl
    case hcx => unfold far; omega
    case hld => (exact byMem)
    case e6 => exact fun _ => rfl
    case G6 => exact fun _ => .inl ⟨rfl, by (exact byGet)⟩
    case r6 => exact fun _ => ⟨⟨by show h1.next ≤ h1.next + 12; omega, by show h1.next + 12 < _; omega⟩, trivial⟩
    case l6 => exact lw
    case f6 => exact fun _ => by unfold far; omega
    case hlo => omega
    case hbm => omega
    case hm => omega
    case hsm => omega
    intro a4 r row hr1 hr2 _ hP3
    (focus ((try with_reducible apply wpC.to); (repeat' ((conv => whnf); first | refine byEv ?_ | ((apply Fork.mk) <;> (intro _; try (exfalso; omega; done))) | ((apply q_call); (focus exact byNext); (focus exact byLo); (focus (exact kChartRc0)); first | ((apply q_allB) <;> (intro z_b _ _ _; first | exact Bool.noConfusion z_b | replace z_b := of_decide_eq_true z_b | replace z_b := of_decide_eq_false z_b | skip) <;> (first | contradiction | (revert z_b; intros))) | ((apply q_alli) <;> (intro _ _ _ _; try contradiction)) | ((apply q_allv); intro _ _ _)) | ((apply Load1.mk); (focus ((repeat (first | (apply el_lo <;> first | assumption | omega) | (apply el_hi <;> first | assumption | omega) | apply bump_old | ((apply put_old); focus (dsimp only [aadd]; omega)) | ((apply quiet_old); (focus assumption); focus (dsimp only [aadd]; omega)) | ((apply same_old); (focus assumption); focus (dsimp only [aadd]; omega)))); done)); (focus exact byVal)) | fail)); all_goals (conv => whnf); all_goals (try with_reducible apply At.mk)))
    refine hK (s + 1, some a4, _) _ _ ⟨rfl, rfl, rfl, int_of rfl (by dsimp only; omega), trivial⟩ ⟨by (exact byGet), by (exact byGet), by (exact bySame), by (exact byOm), by dsimp only; omega, fun i hi => ?_, hP3.frame (by (exact byOm)) fun r hr1 hr2 _ => rfl⟩ (by dsimp only; omega)
    dsimp only at hi ⊢
    by_cases e : i = s
    · rw [if_pos e]; exact hww
    · rw [if_neg e]; exact hw i (by omega)
  · obtain rfl : s = T.R.n := by omega
    obtain ⟨a, hW⟩ := hP.om l1
    generalize hWe : (⟨{ M with n := T.R.n, b := v4, a := a, c := 0 }, fun _ _ => 0⟩ : Pul) = W at hW
    have wn : W.M.n = T.R.n := by rw [← hWe]
    have wb : v4 = W.M.b := by rw [← hWe]
    have wc : W.M.c = 0 := by rw [← hWe]
    have ww : ∀ i, i < T.R.n → W.M.w i = T.A.n := by rw [← hWe]; exact hw
    have wf : W.f = fun _ _ => 0 := by rw [← hWe]
    clear hWe hP hw
    have we := hW.e
    have wl := hW.l
    have wr := hW.r
    obtain ⟨ai, a2, a3, a4⟩ := nb_spec grp gp2 o1
    obtain ⟨bi, b2, b3, b4⟩ := nb_spec gra ga2 o2
    have ep := kP.e
    have ip := kP.i
    have rp := kP.r
    have lp := kP.l
    have ea := kA.e
    have ia := kA.i
    have ra := kA.r
    have la := kA.l
    have rp' := rp (by omega)
    have ra' := ra (by omega)
    have v1 := grp.rng _ ai
    have v2 := grp.rng (nb T.P.f T.P.n p.p) (by omega)
    have v3 := gra.rng _ bi
    have v4' := gra.rng (nb T.A.f T.A.n p.a) (by omega)
    have c1 := mul_rng (a := T.P.f (nb T.P.f T.P.n p.p + 1) - T.P.f (nb T.P.f T.P.n p.p) - (p.p - T.P.f (nb T.P.f T.P.n p.p))) (A := 2000) (b := T.A.f (nb T.A.f T.A.n p.a + 1) - T.A.f (nb T.A.f T.A.n p.a) - (p.a - T.A.f (nb T.A.f T.A.n p.a))) (B := 2000) (by omega) (by omega) (by omega) (by omega)
    have c2 := mul_rng (a := T.P.f (nb T.P.f T.P.n p.p + 1) - T.P.f (nb T.P.f T.P.n p.p) - (p.p - T.P.f (nb T.P.f T.P.n p.p))) (A := 2000) (b := p.a - T.A.f (nb T.A.f T.A.n p.a)) (B := 2000) (by omega) (by omega) (by omega) (by omega)
    have c3 := mul_rng (a := p.p - T.P.f (nb T.P.f T.P.n p.p)) (A := 2000) (b := T.A.f (nb T.A.f T.A.n p.a + 1) - T.A.f (nb T.A.f T.A.n p.a) - (p.a - T.A.f (nb T.A.f T.A.n p.a))) (B := 2000) (by omega) (by omega) (by omega) (by omega)
    have c4 := mul_rng (a := p.p - T.P.f (nb T.P.f T.P.n p.p)) (A := 2000) (b := p.a - T.A.f (nb T.A.f T.A.n p.a)) (B := 2000) (by omega) (by omega) (by omega) (by omega)
    have c5 := mul_rng (a := T.P.f (nb T.P.f T.P.n p.p + 1) - T.P.f (nb T.P.f T.P.n p.p)) (A := 2000) (b := T.A.f (nb T.A.f T.A.n p.a + 1) - T.A.f (nb T.A.f T.A.n p.a)) (B := 2000) (by omega) (by omega) (by omega) (by omega)
    subst wb
    rw [← wn]
    have w0 := ww (nb T.P.f T.P.n p.p) (by omega)
    have w1 := ww (nb T.P.f T.P.n p.p + 1) (by omega)
    have e0 := hW.re (nb T.P.f T.P.n p.p) (by omega)
    have e1' := hW.re (nb T.P.f T.P.n p.p + 1) (by omega)
    have wi := hW.i
    (focus ((try with_reducible apply wpC.to); (repeat' ((conv => whnf); first | refine byEv ?_ | ((apply Fork.mk) <;> (intro _; try (exfalso; omega; done))) | ((apply q_call); (focus exact byNext); (focus exact byLo); (focus (exact kChartRc0)); first | ((apply q_allB) <;> (intro z_b _ _ _; first | exact Bool.noConfusion z_b | replace z_b := of_decide_eq_true z_b | replace z_b := of_decide_eq_false z_b | skip) <;> (first | contradiction | (revert z_b; intros))) | ((apply q_alli) <;> (intro _ _ _ _; try contradiction)) | ((apply q_allv); intro _ _ _)) | ((apply Load1.mk); (focus ((repeat (first | (apply el_lo <;> first | assumption | omega) | (apply el_hi <;> first | assumption | omega) | apply bump_old | ((apply put_old); focus (dsimp only [aadd]; omega)) | ((apply quiet_old); (focus assumption); focus (dsimp only [aadd]; omega)) | ((apply same_old); (focus assumption); focus (dsimp only [aadd]; omega)))); done)); (focus exact byVal)) | fail)); all_goals (conv => whnf); all_goals (try with_reducible apply At.mk)))
    refine OM.sto2 (p := W) (b := h.next + 2) (m := h1.next) (hW.frame (Nat.le_refl _) fun r h1 h2 _ => get_of fun y hy => by (exact byGet)) (by omega) (by omega) rfl (by omega) fun hx1 en1 es1 hW1 => ?_
    have nx1 : h1.next ≤ hx1.next := by rw [en1]; (exact byOm)
    have wi1 := hW1.i
    simp only [Pul.upd] at wi1
    (focus ((try with_reducible apply wpC.to); (repeat' ((conv => whnf); first | refine byEv ?_ | ((apply Fork.mk) <;> (intro _; try (exfalso; omega; done))) | ((apply q_call); (focus exact byNext); (focus exact byLo); (focus (exact kChartRc0)); first | ((apply q_allB) <;> (intro z_b _ _ _; first | exact Bool.noConfusion z_b | replace z_b := of_decide_eq_true z_b | replace z_b := of_decide_eq_false z_b | skip) <;> (first | contradiction | (revert z_b; intros))) | ((apply q_alli) <;> (intro _ _ _ _; try contradiction)) | ((apply q_allv); intro _ _ _)) | ((apply Load1.mk); (focus ((repeat (first | (apply el_lo <;> first | assumption | omega) | (apply el_hi <;> first | assumption | omega) | apply bump_old | ((apply put_old); focus (dsimp only [aadd]; omega)) | ((apply quiet_old); (focus assumption); focus (dsimp only [aadd]; omega)) | ((apply same_old); (focus assumption); focus (dsimp only [aadd]; omega)))); done)); (focus exact byVal)) | fail)); all_goals (conv => whnf); all_goals (try with_reducible apply At.mk)))
    refine OM.sto2 (p := W.upd _ _ _) (b := h.next + 2) (m := h1.next) (bump_om _ hW1) (by show _ < W.M.n; omega) (by show _ < W.M.w _; omega) rfl (by omega) fun hx2 en2 es2 hW2 => ?_
    have nx2 : h1.next ≤ hx2.next := by rw [en2]; (exact byOm)
    have wi2 := hW2.i
    simp only [Pul.upd] at wi2
    (focus ((try with_reducible apply wpC.to); (repeat' ((conv => whnf); first | refine byEv ?_ | ((apply Fork.mk) <;> (intro _; try (exfalso; omega; done))) | ((apply q_call); (focus exact byNext); (focus exact byLo); (focus (exact kChartRc0)); first | ((apply q_allB) <;> (intro z_b _ _ _; first | exact Bool.noConfusion z_b | replace z_b := of_decide_eq_true z_b | replace z_b := of_decide_eq_false z_b | skip) <;> (first | contradiction | (revert z_b; intros))) | ((apply q_alli) <;> (intro _ _ _ _; try contradiction)) | ((apply q_allv); intro _ _ _)) | ((apply Load1.mk); (focus ((repeat (first | (apply el_lo <;> first | assumption | omega) | (apply el_hi <;> first | assumption | omega) | apply bump_old | ((apply put_old); focus (dsimp only [aadd]; omega)) | ((apply quiet_old); (focus assumption); focus (dsimp only [aadd]; omega)) | ((apply same_old); (focus assumption); focus (dsimp only [aadd]; omega)))); done)); (focus exact byVal)) | fail)); all_goals (conv => whnf); all_goals (try with_reducible apply At.mk)))
    refine OM.sto2 (p := (W.upd _ _ _).upd _ _ _) (b := h.next + 2) (m := h1.next) (bump_om _ hW2) (by show _ < W.M.n; omega) (by show _ < W.M.w _; omega) rfl (by omega) fun hx3 en3 es3 hW3 => ?_
    have nx3 : h1.next ≤ hx3.next := by rw [en3]; (exact byOm)
    have wi3 := hW3.i
    simp only [Pul.upd] at wi3
    (focus ((try with_reducible apply wpC.to); (repeat' ((conv => whnf); first | refine byEv ?_ | ((apply Fork.mk) <;> (intro _; try (exfalso; omega; done))) | ((apply q_call); (focus exact byNext); (focus exact byLo); (focus (exact kChartRc0)); first | ((apply q_allB) <;> (intro z_b _ _ _; first | exact Bool.noConfusion z_b | replace z_b := of_decide_eq_true z_b | replace z_b := of_decide_eq_false z_b | skip) <;> (first | contradiction | (revert z_b; intros))) | ((apply q_alli) <;> (intro _ _ _ _; try contradiction)) | ((apply q_allv); intro _ _ _)) | ((apply Load1.mk); (focus ((repeat (first | (apply el_lo <;> first | assumption | omega) | (apply el_hi <;> first | assumption | omega) | apply bump_old | ((apply put_old); focus (dsimp only [aadd]; omega)) | ((apply quiet_old); (focus assumption); focus (dsimp only [aadd]; omega)) | ((apply same_old); (focus assumption); focus (dsimp only [aadd]; omega)))); done)); (focus exact byVal)) | fail)); all_goals (conv => whnf); all_goals (try with_reducible apply At.mk)))
    refine OM.sto2 (p := ((W.upd _ _ _).upd _ _ _).upd _ _ _) (b := h.next + 2) (m := h1.next) (bump_om _ hW3) (by show _ < W.M.n; omega) (by show _ < W.M.w _; omega) rfl (by omega) fun hx4 en4 es4 hW4 => ?_
    have nx4 : h1.next ≤ hx4.next := by rw [en4]; (exact byOm)
    have wi4 := hW4.i
    simp only [Pul.upd] at wi4
    (focus ((try with_reducible apply wpC.to); (repeat' ((conv => whnf); first | refine byEv ?_ | ((apply Fork.mk) <;> (intro _; try (exfalso; omega; done))) | ((apply q_call); (focus exact byNext); (focus exact byLo); (focus (exact kChartRc0)); first | ((apply q_allB) <;> (intro z_b _ _ _; first | exact Bool.noConfusion z_b | replace z_b := of_decide_eq_true z_b | replace z_b := of_decide_eq_false z_b | skip) <;> (first | contradiction | (revert z_b; intros))) | ((apply q_alli) <;> (intro _ _ _ _; try contradiction)) | ((apply q_allv); intro _ _ _)) | ((apply Load1.mk); (focus ((repeat (first | (apply el_lo <;> first | assumption | omega) | (apply el_hi <;> first | assumption | omega) | apply bump_old | ((apply put_old); focus (dsimp only [aadd]; omega)) | ((apply quiet_old); (focus assumption); focus (dsimp only [aadd]; omega)) | ((apply same_old); (focus assumption); focus (dsimp only [aadd]; omega)))); done)); (focus exact byVal)) | fail)); all_goals (conv => whnf); all_goals (try with_reducible apply At.mk)))
    (refine byFin ?_)
    have ex : T.x p 0 = T.P.f (nb T.P.f T.P.n p.p + 1) - T.P.f (nb T.P.f T.P.n p.p) - (p.p - T.P.f (nb T.P.f T.P.n p.p)) := by unfold Tbl.x Tbl.i; rw [if_pos rfl]; omega
    have ex1 : T.x p 1 = p.p - T.P.f (nb T.P.f T.P.n p.p) := by unfold Tbl.x Tbl.i; rw [if_neg (by decide)]
    have ey : T.y p 0 = T.A.f (nb T.A.f T.A.n p.a + 1) - T.A.f (nb T.A.f T.A.n p.a) - (p.a - T.A.f (nb T.A.f T.A.n p.a)) := by unfold Tbl.y Tbl.k; rw [if_pos rfl]; omega
    have ey1 : T.y p 1 = p.a - T.A.f (nb T.A.f T.A.n p.a) := by unfold Tbl.y Tbl.k; rw [if_neg (by decide)]
    refine ⟨_, ?_, (bump_om _ hW4).lower (by omega) (by (exact byOm)), ?_, ?_, ?_⟩
    · show Value.tuple #[.slice W.M.b W.M.n 0, _] = .tuple #[.slice W.M.b W.M.n W.M.c, _]
      rw [wc, T.whole_eq, show T.x p 0 + T.x p 1 = T.P.f (nb T.P.f T.P.n p.p + 1) - T.P.f (nb T.P.f T.P.n p.p) by rw [ex, ex1]; omega, show T.y p 0 + T.y p 1 = T.A.f (nb T.A.f T.A.n p.a + 1) - T.A.f (nb T.A.f T.A.n p.a) by rw [ey, ey1]; omega]
    · exact wn.trans gn
    · exact fun i hi => ww i (by omega)
    · intro i k hi hk
      rw [← four_wm i k, ← ex, ← ex1, ← ey, ← ey1]
      simp only [Pul.upd, updN, wf, fourF]
      show _ = if i = nb T.P.f T.P.n p.p ∧ k = nb T.A.f T.A.n p.a then _ else if i = nb T.P.f T.P.n p.p ∧ k = nb T.A.f T.A.n p.a + 1 then _ else if i = nb T.P.f T.P.n p.p + 1 ∧ k = nb T.A.f T.A.n p.a then _ else if i = nb T.P.f T.P.n p.p + 1 ∧ k = nb T.A.f T.A.n p.a + 1 then _ else _
      generalize nb T.P.f T.P.n p.p = i0
      generalize nb T.A.f T.A.n p.a = k0
      by_cases h1 : i = i0 + 1
      · subst h1
        by_cases h2 : k = k0 + 1
        · subst h2; simp [updN]
        · by_cases h3 : k = k0
          · subst h3; simp [updN]
          · simp [updN, h2, h3]
      · by_cases h1' : i = i0
        · subst h1'
          by_cases h2 : k = k0 + 1
          · subst h2; simp [updN]
          · by_cases h3 : k = k0
            · subst h3; simp [updN]
            · simp [updN, h2, h3]
        · simp [updN, h1, h1']
end AE.Try
