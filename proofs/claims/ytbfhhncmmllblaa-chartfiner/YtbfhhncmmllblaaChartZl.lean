/- Walks of the laws of charts: one more pitch. -/
import Derived.Test.YtbfhhncmmllblaaChartZm
import Derived.Test.YtbfhhncmmllblaaChartZd
import Derived.Test.YtbfhhncmmllblaaChartEq
set_option linter.unusedVariables false
set_option linter.unusedSimpArgs false
set_option linter.unusedSectionVars false
namespace AE.Try
open Go AE Go.Proofs
set_option maxRecDepth 100000
set_option linter.unusedVariables false

theorem isQ' {G : Prop} (g : G := by (repeat (first | exact Quiet.refl _ _ | assumption | (refine Quiet.put' ?_ (by omega) (by first | omega | (simp only [put_next, bump_next]; omega))) | refine Quiet.bump' ?_ | refine Quiet.trans' ?_ (by assumption) (by omega)))) : G := g

set_option maxHeartbeats 8000000 in
theorem finer_law {h : H} {T : Tbl} {B : Arr} {m : Nat} {x y x' y' : Int} (hm : m ≤ h.next) (hT : T.Ok m h) (sP : 0 < T.P.n → SlOk T.P.a T.P.n T.P.c) (sR : 0 < T.R.n → SlOk T.R.a T.R.n T.R.c) (hB : By .u32 B m h) (hx : 0 ≤ x ∧ x < 65536) (hy : 0 ≤ y ∧ y < 65536) (hx' : 0 ≤ x' ∧ x' < 65536) (hy' : 0 ≤ y' ∧ y' < 65536) : AW Try.prog 9 h.next h [.agg ⟨T.cells⟩, .slice B.b B.n B.c, .agg ⟨[.int .u16 x, .int .u16 y]⟩, .agg ⟨[.int .u16 x', .int .u16 y']⟩] (fun v _ => v = .bool true) := by
  have lB := hB.l
  have lP := hT.P.l
  refine fun9.call rfl (Nat.le_refl _) ?_
  unfold a9 Tbl.cells
  (focus ((try with_reducible apply wpC.to); (repeat' ((conv => whnf); first | refine byEv ?_ | ((apply Fork.mk) <;> (intro _; try (exfalso; omega; done))) | ((apply q_call); (focus exact byNext); (focus exact byLo); (focus (exact kChartY2)); first | ((apply q_allB) <;> (intro z_b _ _ _; first | exact Bool.noConfusion z_b | replace z_b := of_decide_eq_true z_b | replace z_b := of_decide_eq_false z_b | skip) <;> (first | contradiction | (revert z_b; intros))) | ((apply q_alli) <;> (intro _ _ _ _; try contradiction)) | ((apply q_allv); intro _ _ _)) | ((apply Load1.mk); (focus ((repeat (first | (apply el_lo <;> first | assumption | omega) | (apply el_hi <;> first | assumption | omega) | apply bump_old | ((apply put_old); focus (dsimp only [aadd]; omega)) | ((apply quiet_old); (focus assumption); focus (dsimp only [aadd]; omega)) | ((apply same_old); (focus assumption); focus (dsimp only [aadd]; omega)))); done)); (focus exact byVal)) | fail)); all_goals (conv => whnf); all_goals (try with_reducible apply At.mk)))
  apply q_call
  focus (exact byNext)
  focus (exact byLo)
  focus exact fine_w (T := T) (m := m) (by (exact byOm)) (hT.same (by (exact bySame)) (Nat.le_refl _))
  rintro _ h1 ⟨b, rfl, hb⟩ q1 n1
  cases b
  · (focus ((try with_reducible apply wpC.to); (repeat' ((conv => whnf); first | refine byEv ?_ | ((apply Fork.mk) <;> (intro _; try (exfalso; omega; done))) | ((apply q_call); (focus exact byNext); (focus exact byLo); (focus (exact kChartY2)); first | ((apply q_allB) <;> (intro z_b _ _ _; first | exact Bool.noConfusion z_b | replace z_b := of_decide_eq_true z_b | replace z_b := of_decide_eq_false z_b | skip) <;> (first | contradiction | (revert z_b; intros))) | ((apply q_alli) <;> (intro _ _ _ _; try contradiction)) | ((apply q_allv); intro _ _ _)) | ((apply Load1.mk); (focus ((repeat (first | (apply el_lo <;> first | assumption | omega) | (apply el_hi <;> first | assumption | omega) | apply bump_old | ((apply put_old); focus (dsimp only [aadd]; omega)) | ((apply quiet_old); (focus assumption); focus (dsimp only [aadd]; omega)) | ((apply same_old); (focus assumption); focus (dsimp only [aadd]; omega)))); done)); (focus exact byVal)) | fail)); all_goals (conv => whnf); all_goals (try with_reducible apply At.mk)))
    (refine byFin ?_)
    rfl
  have g := hb rfl
  (focus ((try with_reducible apply wpC.to); (repeat' ((conv => whnf); first | refine byEv ?_ | ((apply Fork.mk) <;> (intro _; try (exfalso; omega; done))) | ((apply q_call); (focus exact byNext); (focus exact byLo); (focus (exact kChartY2)); first | ((apply q_allB) <;> (intro z_b _ _ _; first | exact Bool.noConfusion z_b | replace z_b := of_decide_eq_true z_b | replace z_b := of_decide_eq_false z_b | skip) <;> (first | contradiction | (revert z_b; intros))) | ((apply q_alli) <;> (intro _ _ _ _; try contradiction)) | ((apply q_allv); intro _ _ _)) | ((apply Load1.mk); (focus ((repeat (first | (apply el_lo <;> first | assumption | omega) | (apply el_hi <;> first | assumption | omega) | apply bump_old | ((apply put_old); focus (dsimp only [aadd]; omega)) | ((apply quiet_old); (focus assumption); focus (dsimp only [aadd]; omega)) | ((apply same_old); (focus assumption); focus (dsimp only [aadd]; omega)))); done)); (focus exact byVal)) | fail)); all_goals (conv => whnf); all_goals (try with_reducible apply At.mk)))
  · (refine byFin ?_)
    rfl
  · (refine byFin ?_)
    rfl
  apply q_call
  focus (exact byNext)
  focus (exact byLo)
  focus exact draw_s (T := T) (B := B) (m := m) (by (exact byOm)) (hT.same (by (exact bySame)) (Nat.le_refl _)) g (hB.same (by (exact bySame)) (Nat.le_refl _))
  rintro _ h2 ⟨A, rfl, ⟨O, oA⟩, ⟨An, Aw⟩, Af, As, Ac⟩ q2 n2
  have kA := oA.ok
  have tA : T.True A := ⟨An, Aw, fun i k hi hk => by rw [Af]; have := g.bd i k hi hk; unfold Tbl.Bd at this; exact drawn_in (by omega)⟩
  rw [Ac]
  (focus ((try with_reducible apply wpC.to); (repeat' ((conv => whnf); first | refine byEv ?_ | ((apply Fork.mk) <;> (intro _; try (exfalso; omega; done))) | ((apply q_call); (focus exact byNext); (focus exact byLo); (focus (exact kChartY2)); first | ((apply q_allB) <;> (intro z_b _ _ _; first | exact Bool.noConfusion z_b | replace z_b := of_decide_eq_true z_b | replace z_b := of_decide_eq_false z_b | skip) <;> (first | contradiction | (revert z_b; intros))) | ((apply q_alli) <;> (intro _ _ _ _; try contradiction)) | ((apply q_allv); intro _ _ _)) | ((apply Load1.mk); (focus ((repeat (first | (apply el_lo <;> first | assumption | omega) | (apply el_hi <;> first | assumption | omega) | apply bump_old | ((apply put_old); focus (dsimp only [aadd]; omega)) | ((apply quiet_old); (focus assumption); focus (dsimp only [aadd]; omega)) | ((apply same_old); (focus assumption); focus (dsimp only [aadd]; omega)))); done)); (focus exact byVal)) | fail)); all_goals (conv => whnf); all_goals (try with_reducible apply At.mk)))
  apply q_call
  focus (exact byNext)
  focus (exact byLo)
  focus exact point_w (T := T) (m := m) (by (exact byOm)) (hT.same (by (exact bySame)) (Nat.le_refl _)) g hx hy
  rintro _ h3 ⟨p0, rfl, op0⟩ q3 n3
  unfold Pt.cells
  have gT3 : h3.get h.next = some (.cells [.slice T.P.b T.P.n T.P.c, .slice T.A.b T.A.n T.A.c, .slice T.R.b T.R.n T.R.c] 25) := by (exact byGet)
  have g73 : h3.get (h.next + 2) = some (.cells [.int .u16 x', .int .u16 y'] 56) := by (exact byGet)
  have oT3 : T.Ok m h3 := hT.same (by (exact bySame)) (Nat.le_refl _)
  have oA3 : A.Ok h2.next h3 := kA.same (by (exact bySame)) (Nat.le_refl _)
  have m3 : m ≤ h3.next := by (exact byOm)
  have m2 : h2.next ≤ h3.next := by (exact byOm)
  have m0 : h.next + 3 ≤ h3.next := by (exact byOm)
  have mh : h.next + 3 ≤ h2.next := by (exact byOm)
  clear hT kA oA q1 n1 q2 n2
  obtain ⟨Pe, Pi, Pr, Pl⟩ := oT3.P
  have gp2 := g.p2
  have gp8 := g.p8
  have ga2 := g.a2
  have ga10 := g.a10
  (focus ((try with_reducible apply wpC.to); (repeat' ((conv => whnf); first | refine byEv ?_ | ((apply Fork.mk) <;> (intro _; try (exfalso; omega; done))) | ((apply q_call); (focus exact byNext); (focus exact byLo); (focus (exact kChartY2)); first | ((apply q_allB) <;> (intro z_b _ _ _; first | exact Bool.noConfusion z_b | replace z_b := of_decide_eq_true z_b | replace z_b := of_decide_eq_false z_b | skip) <;> (first | contradiction | (revert z_b; intros))) | ((apply q_alli) <;> (intro _ _ _ _; try contradiction)) | ((apply q_allv); intro _ _ _)) | ((apply Load1.mk); (focus ((repeat (first | (apply el_lo <;> first | assumption | omega) | (apply el_hi <;> first | assumption | omega) | apply bump_old | ((apply put_old); focus (dsimp only [aadd]; omega)) | ((apply quiet_old); (focus assumption); focus (dsimp only [aadd]; omega)) | ((apply same_old); (focus assumption); focus (dsimp only [aadd]; omega)))); done)); (focus exact byVal)) | fail)); all_goals (conv => whnf); all_goals (try with_reducible apply At.mk)))
  refine wp_loop (fun s : Nat => [(4, .pointer (some ⟨h.next, 0, none⟩)), (7, .pointer (some ⟨h.next + 2, 0, none⟩)), (9, .slice A.M.b A.M.n 0), (10, .int .i64 p0.p), (11, .int .i64 s)])
    (fun s g1 => Quiet h3.next h3 g1 ∧ s < T.P.n ∧ ∀ j, j < s → T.P.f j < p0.p) (fun s => T.P.n - s) 0 ⟨rfl, rfl, rfl, rfl, rfl, trivial⟩ ⟨by (exact byQuiet), by omega, fun j hj => absurd hj (Nat.not_lt_zero _)⟩ ?_
  rintro i g' h4 ⟨q4, hi, hlt⟩ K hK
  have n4 := q4.next
  have Pi4 := Pi.same (m := m) (Same.quiet (Same.refl _ _) q4 m3) Pr
  have Pr4 := Pr (by omega)
  have hlast := op0.1.2
  have hfirst := op0.1.1
  (focus ((try with_reducible apply wpC.to); (repeat' ((conv => whnf); first | refine byEv ?_ | ((apply Fork.mk) <;> (intro _; try (exfalso; omega; done))) | ((apply q_call); (focus exact byNext); (focus exact byLo); (focus (exact kChartY2)); first | ((apply q_allB) <;> (intro z_b _ _ _; first | exact Bool.noConfusion z_b | replace z_b := of_decide_eq_true z_b | replace z_b := of_decide_eq_false z_b | skip) <;> (first | contradiction | (revert z_b; intros))) | ((apply q_alli) <;> (intro _ _ _ _; try contradiction)) | ((apply q_allv); intro _ _ _)) | ((apply Load1.mk); (focus ((repeat (first | (apply el_lo <;> first | assumption | omega) | (apply el_hi <;> first | assumption | omega) | apply bump_old | ((apply put_old); focus (dsimp only [aadd]; omega)) | ((apply quiet_old); (focus assumption); focus (dsimp only [aadd]; omega)) | ((apply same_old); (focus assumption); focus (dsimp only [aadd]; omega)))); done)); (focus exact byVal)) | fail)); all_goals (conv => whnf); all_goals (try with_reducible apply At.mk)))
  · have hin : i + 1 < T.P.n := by
      refine Classical.byContradiction fun hc => ?_
      have : i = T.P.n - 1 := by omega
      subst this
      omega
    refine hK (i + 1) _ _ ⟨rfl, rfl, rfl, rfl, int_of rfl (by omega), trivial⟩ ⟨isQ', hin, fun j hj => ?_⟩ (by omega)
    by_cases e : j = i
    · subst e; omega
    · exact hlt j (by omega)
  · (refine byFin ?_)
    rfl
  have hi0 : 0 < i := by
    refine Nat.pos_of_ne_zero fun h0 => ?_
    subst h0
    omega
  have hx0 := hlt (i - 1) (by omega)
  clear hK
  let r : Nat → Int := fun k => (T.val ⟨p0.p, T.A.f k⟩ A.f).n
  have hr : ∀ k, r k = (T.val ⟨p0.p, T.A.f k⟩ A.f).n := fun _ => rfl
  let bd : Nat → List Value := fun _ => [.int .i64 0, .int .i64 100000]
  have hbd : ∀ k, bd k = [.int .i64 0, .int .i64 100000] := fun _ => rfl
  clear_value r bd
  obtain ⟨Ae, Ai, Ar, Al⟩ := oT3.A
  have oOn : ∀ k, k < T.A.n → T.On ⟨p0.p, T.A.f k⟩ := fun k hk => ⟨op0.1, g.ra.le (by omega) hk, g.ra.le (by omega) (by omega)⟩
  refine wp_loop (fun s : Nat × (Option Addr × Nat) × Option Addr × Nat => [(4, .pointer (some ⟨h.next, 0, none⟩)), (7, .pointer (some ⟨h.next + 2, 0, none⟩)), (9, .slice A.M.b A.M.n 0), (10, .int .i64 p0.p), (11, .int .i64 i), (12, .slice s.2.1.1 s.1 0), (13, .slice s.2.2.1 s.1 0), (14, .int .i64 s.1)])
    (fun s g1 => Quiet h3.next h3 g1 ∧ s.1 ≤ T.A.n ∧ (IG s.2.1.2 g1 s.1 r s.2.1.1 ∧ KG 65 2 s.2.2.2 g1 s.1 bd s.2.2.1) ∧ (0 < s.1 → s.2.1.2 ≠ s.2.2.2 ∧ (h3.next ≤ s.2.1.2 ∧ s.2.1.2 < g1.next) ∧ (h3.next ≤ s.2.2.2 ∧ s.2.2.2 < g1.next)) ∧ ∀ k, k < s.1 → T.val ⟨p0.p, T.A.f k⟩ A.f = ⟨r k, 1⟩) (fun s => T.A.n - s.1) (0, (none, 0), none, 0) ⟨rfl, rfl, rfl, rfl, rfl, rfl, rfl, rfl, trivial⟩ ⟨isQ', Nat.zero_le _, ⟨IG.zero, KG.zero⟩, fun h => absurd h (Nat.lt_irrefl 0), fun k hk => absurd hk (Nat.not_lt_zero _)⟩ ?_
  rintro ⟨t, ⟨v1, q1⟩, v2, q2⟩ g'' h5 ⟨q5, ht, ⟨G1, G2⟩, hq, hv⟩ K hK
  dsimp only at ht G1 G2 hq hv ⊢
  have n5 := q5.next
  have Ai5 := Ai.same (m := m) (Same.quiet (Same.refl _ _) q5 m3) Ar
  by_cases htn : t < T.A.n
  · have Ar5 := Ar (by omega)
    (focus ((try with_reducible apply wpC.to); (repeat' ((conv => whnf); first | refine byEv ?_ | ((apply Fork.mk) <;> (intro _; try (exfalso; omega; done))) | ((apply q_call); (focus exact byNext); (focus exact byLo); (focus (exact kChartY2)); first | ((apply q_allB) <;> (intro z_b _ _ _; first | exact Bool.noConfusion z_b | replace z_b := of_decide_eq_true z_b | replace z_b := of_decide_eq_false z_b | skip) <;> (first | contradiction | (revert z_b; intros))) | ((apply q_alli) <;> (intro _ _ _ _; try contradiction)) | ((apply q_allv); intro _ _ _)) | ((apply Load1.mk); (focus ((repeat (first | (apply el_lo <;> first | assumption | omega) | (apply el_hi <;> first | assumption | omega) | apply bump_old | ((apply put_old); focus (dsimp only [aadd]; omega)) | ((apply quiet_old); (focus assumption); focus (dsimp only [aadd]; omega)) | ((apply same_old); (focus assumption); focus (dsimp only [aadd]; omega)))); done)); (focus exact byVal)) | fail)); all_goals (conv => whnf); all_goals (try with_reducible apply At.mk)))
    apply q_callv
    focus (exact byNext)
    focus (exact byLo)
    focus rw [← Ac]; exact value_ok (T := T) (p := A) (at_ := ⟨p0.p, T.A.f t⟩) (m := h2.next) (by (exact byOm)) (oT3.same (by (exact bySame)) (by omega)) (oA3.same (by (exact bySame)) (Nat.le_refl _)) g tA (oOn t htn)
    intro h6 q6 n6
    (focus ((try with_reducible apply wpC.to); (repeat' ((conv => whnf); first | refine byEv ?_ | ((apply Fork.mk) <;> (intro _; try (exfalso; omega; done))) | ((apply q_call); (focus exact byNext); (focus exact byLo); (focus (exact kChartY2)); first | ((apply q_allB) <;> (intro z_b _ _ _; first | exact Bool.noConfusion z_b | replace z_b := of_decide_eq_true z_b | replace z_b := of_decide_eq_false z_b | skip) <;> (first | contradiction | (revert z_b; intros))) | ((apply q_alli) <;> (intro _ _ _ _; try contradiction)) | ((apply q_allv); intro _ _ _)) | ((apply Load1.mk); (focus ((repeat (first | (apply el_lo <;> first | assumption | omega) | (apply el_hi <;> first | assumption | omega) | apply bump_old | ((apply put_old); focus (dsimp only [aadd]; omega)) | ((apply quiet_old); (focus assumption); focus (dsimp only [aadd]; omega)) | ((apply same_old); (focus assumption); focus (dsimp only [aadd]; omega)))); done)); (focus exact byVal)) | fail)); all_goals (conv => whnf); all_goals (try with_reducible apply At.mk)))
    · (refine byFin ?_)
      rfl
    have hvt : T.val ⟨p0.p, T.A.f t⟩ A.f = ⟨r t, 1⟩ := by
      have h1 : (T.val ⟨p0.p, T.A.f t⟩ A.f).d = 1 := by assumption
      rw [hr, ← h1]
    apply q_appI (r := q1) (n := t) (f := r) (v := v1)
    case G => exact G1.frame fun h0 => get_of fun y hy => by have := hq h0; (exact byGet)
    case hsv => exact rfl
    case C => rw [hr]; exact Cells.one (by (exact byMem)) (by unfold far; omega) rfl rfl
    case hlo => omega
    case hlr => exact fun h0 => by have := hq h0; omega
    case hsm => omega
    intro v1' q1' row1 a1 a2 a3 G1'
    have c1 : h3.next ≤ q1' ∧ (q1' < h5.next ∨ h6.next ≤ q1') ∧ (0 < t → q1' ≠ q2) := by
      rcases Nat.eq_zero_or_pos t with h0 | h0
      · have := a1 h0; omega
      · have := a2 h0; have := hq h0; omega
    (focus ((try with_reducible apply wpC.to); (repeat' ((conv => whnf); first | refine byEv ?_ | ((apply Fork.mk) <;> (intro _; try (exfalso; omega; done))) | ((apply q_call); (focus exact byNext); (focus exact byLo); (focus (exact kChartY2)); first | ((apply q_allB) <;> (intro z_b _ _ _; first | exact Bool.noConfusion z_b | replace z_b := of_decide_eq_true z_b | replace z_b := of_decide_eq_false z_b | skip) <;> (first | contradiction | (revert z_b; intros))) | ((apply q_alli) <;> (intro _ _ _ _; try contradiction)) | ((apply q_allv); intro _ _ _)) | ((apply Load1.mk); (focus ((repeat (first | (apply el_lo <;> first | assumption | omega) | (apply el_hi <;> first | assumption | omega) | apply bump_old | ((apply put_old); focus (dsimp only [aadd]; omega)) | ((apply quiet_old); (focus assumption); focus (dsimp only [aadd]; omega)) | ((apply same_old); (focus assumption); focus (dsimp only [aadd]; omega)))); done)); (focus exact byVal)) | fail)); all_goals (conv => whnf); all_goals (try with_reducible apply At.mk)))
    apply q_appK (r := q2) (n := t) (F := bd) (v := v2)
    case G => exact G2.frame fun h0 => get_of fun y hy => by have := hq h0; have := c1.2.2 h0; (exact byGet)
    case hsv => exact rfl
    case C => rw [hbd]; exact Cells.one (by (exact byMem)) (by unfold far; omega) rfl rfl
    case hlo => omega
    case hlr => exact fun h0 => by have := hq h0; omega
    case hsm => omega
    intro v2' q2' row2 b1 b2 b3 G2'
    have c2 : h3.next ≤ q2' ∧ (q2' < h5.next ∨ h6.next ≤ q2') ∧ q1' ≠ q2' := by
      rcases Nat.eq_zero_or_pos t with h0 | h0
      · have := b1 h0; have := a1 h0; omega
      · have := b2 h0; have := a2 h0; have := hq h0; omega
    (focus ((try with_reducible apply wpC.to); (repeat' ((conv => whnf); first | refine byEv ?_ | ((apply Fork.mk) <;> (intro _; try (exfalso; omega; done))) | ((apply q_call); (focus exact byNext); (focus exact byLo); (focus (exact kChartY2)); first | ((apply q_allB) <;> (intro z_b _ _ _; first | exact Bool.noConfusion z_b | replace z_b := of_decide_eq_true z_b | replace z_b := of_decide_eq_false z_b | skip) <;> (first | contradiction | (revert z_b; intros))) | ((apply q_alli) <;> (intro _ _ _ _; try contradiction)) | ((apply q_allv); intro _ _ _)) | ((apply Load1.mk); (focus ((repeat (first | (apply el_lo <;> first | assumption | omega) | (apply el_hi <;> first | assumption | omega) | apply bump_old | ((apply put_old); focus (dsimp only [aadd]; omega)) | ((apply quiet_old); (focus assumption); focus (dsimp only [aadd]; omega)) | ((apply same_old); (focus assumption); focus (dsimp only [aadd]; omega)))); done)); (focus exact byVal)) | fail)); all_goals (conv => whnf); all_goals (try with_reducible apply At.mk)))
    refine hK (t + 1, (v1', q1'), v2', q2') _ _ ⟨rfl, rfl, rfl, rfl, rfl, rfl, rfl, int_of rfl (by dsimp only; omega), trivial⟩ ⟨isQ', htn, ⟨G1'.frame fun _ => get_of fun y hy => by have := c2.2.2; (exact byGet), G2'.frame fun _ => rfl⟩, fun _ => ⟨c2.2.2, ⟨c1.1, by dsimp only; (exact byOm)⟩, ⟨c2.1, by dsimp only; (exact byOm)⟩⟩, fun k hk => ?_⟩ (by dsimp only; omega)
    dsimp only at hk
    by_cases e : k = t
    · subst e; exact hvt
    · exact hv k (by omega)
  obtain rfl : t = T.A.n := by omega
  have hq' := hq (by omega)
  obtain ⟨a1, rfl, ea1, r1⟩ := (G1.row (by omega)).ints
  obtain ⟨a2, rfl, ea2, r2⟩ := G2.els (by omega) (fun _ => by rw [hbd]; rfl)
  clear hK
  obtain ⟨Re, Ri, Rr, Rl, Rre, Rri, Rrr, Rrl⟩ := oT3.R
  obtain ⟨Me, Mi, Mr, Ml, Mre, Mri, Mrr, Mrl, Mrf⟩ := id oA3
  have gn := g.n
  have ePb := Pe (by omega)
  have eRb := Re (by omega)
  have eMb := Me (by omega)
  have sP' := sP (by omega)
  have sR' := sR (by omega)
  have sM' : SlOk A.M.a A.M.n 0 := .inr ⟨As (by omega), rfl⟩
  have Pr' := Pr (by omega)
  have Rr' := Rr (by omega)
  have Mr' := Mr (by omega)
  have Pi5 := Pi.same (m := m) (Same.quiet (Same.refl _ _) q5 m3) Pr
  have Ri5 := Ri.same (m := m) (Same.quiet (Same.refl _ _) q5 m3) Rr
  have Mi5 := Mi.same (m := h2.next) (Same.quiet (Same.refl _ _) q5 m2) Mr
  rw [ePb, eRb] at gT3
  rw [eMb]
  (focus ((try with_reducible apply wpC.to); (repeat' ((conv => whnf); first | refine byEv ?_ | ((apply Fork.mk) <;> (intro _; try (exfalso; omega; done))) | ((apply q_call); (focus exact byNext); (focus exact byLo); (focus (exact kChartY2)); first | ((apply q_allB) <;> (intro z_b _ _ _; first | exact Bool.noConfusion z_b | replace z_b := of_decide_eq_true z_b | replace z_b := of_decide_eq_false z_b | skip) <;> (first | contradiction | (revert z_b; intros))) | ((apply q_alli) <;> (intro _ _ _ _; try contradiction)) | ((apply q_allv); intro _ _ _)) | ((apply Load1.mk); (focus ((repeat (first | (apply el_lo <;> first | assumption | omega) | (apply el_hi <;> first | assumption | omega) | apply bump_old | ((apply put_old); focus (dsimp only [aadd]; omega)) | ((apply quiet_old); (focus assumption); focus (dsimp only [aadd]; omega)) | ((apply same_old); (focus assumption); focus (dsimp only [aadd]; omega)))); done)); (focus exact byVal)) | fail)); all_goals (conv => whnf); all_goals (try with_reducible apply At.mk)))
  apply q_to (a := T.P.a) (n := T.P.n) (c := T.P.c) (l := i) rfl rfl sP' (by omega)
  intro cP1 hcP1
  (focus ((try with_reducible apply wpC.to); (repeat' ((conv => whnf); first | refine byEv ?_ | ((apply Fork.mk) <;> (intro _; try (exfalso; omega; done))) | ((apply q_call); (focus exact byNext); (focus exact byLo); (focus (exact kChartY2)); first | ((apply q_allB) <;> (intro z_b _ _ _; first | exact Bool.noConfusion z_b | replace z_b := of_decide_eq_true z_b | replace z_b := of_decide_eq_false z_b | skip) <;> (first | contradiction | (revert z_b; intros))) | ((apply q_alli) <;> (intro _ _ _ _; try contradiction)) | ((apply q_allv); intro _ _ _)) | ((apply Load1.mk); (focus ((repeat (first | (apply el_lo <;> first | assumption | omega) | (apply el_hi <;> first | assumption | omega) | apply bump_old | ((apply put_old); focus (dsimp only [aadd]; omega)) | ((apply quiet_old); (focus assumption); focus (dsimp only [aadd]; omega)) | ((apply same_old); (focus assumption); focus (dsimp only [aadd]; omega)))); done)); (focus exact byVal)) | fail)); all_goals (conv => whnf); all_goals (try with_reducible apply At.mk)))
  apply q_appF (b := h5.next + 10) (n := 0) (m := i) (cs := []) (nc := (List.range i).map fun j => (fun j => Value.int .i64 (T.P.f j)) (0 + j))
  case hsv => exact rfl
  case G => exact ⟨rfl, .inr ⟨_, rfl, by unfold far; omega, .inl ⟨rfl, rfl⟩, by (exact byMem)⟩⟩
  case C => exact cells_part (g := (fun j => Value.int .i64 (T.P.f j))) (l := 0) (a := T.P.a) (Pi5.same (m := m) (by (exact bySame)) (fun _ => by omega)) hi0 (by omega) hcP1 (fun _ _ => rfl)
  case hm => exact hi0
  case hb => omega
  case hsm => omega
  intro vP1 wP1 GP1
  obtain ⟨sP1, GP2, bP1, bP2⟩ := GP1.gat (by omega)
  obtain ⟨dP1, rfl, fP1, -⟩ := GP2.load
  (focus ((try with_reducible apply wpC.to); (repeat' ((conv => whnf); first | refine byEv ?_ | ((apply Fork.mk) <;> (intro _; try (exfalso; omega; done))) | ((apply q_call); (focus exact byNext); (focus exact byLo); (focus (exact kChartY2)); first | ((apply q_allB) <;> (intro z_b _ _ _; first | exact Bool.noConfusion z_b | replace z_b := of_decide_eq_true z_b | replace z_b := of_decide_eq_false z_b | skip) <;> (first | contradiction | (revert z_b; intros))) | ((apply q_alli) <;> (intro _ _ _ _; try contradiction)) | ((apply q_allv); intro _ _ _)) | ((apply Load1.mk); (focus ((repeat (first | (apply el_lo <;> first | assumption | omega) | (apply el_hi <;> first | assumption | omega) | apply bump_old | ((apply put_old); focus (dsimp only [aadd]; omega)) | ((apply quiet_old); (focus assumption); focus (dsimp only [aadd]; omega)) | ((apply same_old); (focus assumption); focus (dsimp only [aadd]; omega)))); done)); (focus exact byVal)) | fail)); all_goals (conv => whnf); all_goals (try with_reducible apply At.mk)))
  apply q_appA (r := sP1) (n := 0 + i) (m := 1) (nc := [.int .i64 p0.p])
  case hsv => simp only [Nat.zero_add]; exact rfl
  case G => exact GP2.frame (get_of fun y hy => by (exact byGet))
  case C => exact Cells.one (by (exact byMem)) (by unfold far; omega) rfl rfl
  case hm => omega
  case hlo => omega
  case hsm => omega
  intro vP2 wP2 GP3
  obtain ⟨dP2, rfl, fP2, -⟩ := GP3.load
  (focus ((try with_reducible apply wpC.to); (repeat' ((conv => whnf); first | refine byEv ?_ | ((apply Fork.mk) <;> (intro _; try (exfalso; omega; done))) | ((apply q_call); (focus exact byNext); (focus exact byLo); (focus (exact kChartY2)); first | ((apply q_allB) <;> (intro z_b _ _ _; first | exact Bool.noConfusion z_b | replace z_b := of_decide_eq_true z_b | replace z_b := of_decide_eq_false z_b | skip) <;> (first | contradiction | (revert z_b; intros))) | ((apply q_alli) <;> (intro _ _ _ _; try contradiction)) | ((apply q_allv); intro _ _ _)) | ((apply Load1.mk); (focus ((repeat (first | (apply el_lo <;> first | assumption | omega) | (apply el_hi <;> first | assumption | omega) | apply bump_old | ((apply put_old); focus (dsimp only [aadd]; omega)) | ((apply quiet_old); (focus assumption); focus (dsimp only [aadd]; omega)) | ((apply same_old); (focus assumption); focus (dsimp only [aadd]; omega)))); done)); (focus exact byVal)) | fail)); all_goals (conv => whnf); all_goals (try with_reducible apply At.mk)))
  apply q_fr (a := T.P.a) (n := T.P.n) (c := T.P.c) (l := i) rfl rfl sP' (by omega) (by omega)
  intro cP2 hcP2
  (focus ((try with_reducible apply wpC.to); (repeat' ((conv => whnf); first | refine byEv ?_ | ((apply Fork.mk) <;> (intro _; try (exfalso; omega; done))) | ((apply q_call); (focus exact byNext); (focus exact byLo); (focus (exact kChartY2)); first | ((apply q_allB) <;> (intro z_b _ _ _; first | exact Bool.noConfusion z_b | replace z_b := of_decide_eq_true z_b | replace z_b := of_decide_eq_false z_b | skip) <;> (first | contradiction | (revert z_b; intros))) | ((apply q_alli) <;> (intro _ _ _ _; try contradiction)) | ((apply q_allv); intro _ _ _)) | ((apply Load1.mk); (focus ((repeat (first | (apply el_lo <;> first | assumption | omega) | (apply el_hi <;> first | assumption | omega) | apply bump_old | ((apply put_old); focus (dsimp only [aadd]; omega)) | ((apply quiet_old); (focus assumption); focus (dsimp only [aadd]; omega)) | ((apply same_old); (focus assumption); focus (dsimp only [aadd]; omega)))); done)); (focus exact byVal)) | fail)); all_goals (conv => whnf); all_goals (try with_reducible apply At.mk)))
  apply q_appA (r := sP1) (n := 0 + i + 1) (m := T.P.n - i) (nc := (List.range (T.P.n - i)).map fun j => (fun j => Value.int .i64 (T.P.f j)) (i + j))
  case hsv => exact rfl
  case G => exact GP3.frame (get_of fun y hy => by (exact byGet))
  case C => exact cells_part (g := (fun j => Value.int .i64 (T.P.f j))) (l := i) (a := T.P.a) (Pi5.same (m := m) (by (exact bySame)) (fun _ => by omega)) (by omega) (by omega) hcP2 (fun _ _ => rfl)
  case hm => omega
  case hlo => omega
  case hsm => omega
  intro vP3 wP3 GP4
  obtain ⟨dP3, rfl, fP3, -⟩ := GP4.load
  (focus ((try with_reducible apply wpC.to); (repeat' ((conv => whnf); first | refine byEv ?_ | ((apply Fork.mk) <;> (intro _; try (exfalso; omega; done))) | ((apply q_call); (focus exact byNext); (focus exact byLo); (focus (exact kChartY2)); first | ((apply q_allB) <;> (intro z_b _ _ _; first | exact Bool.noConfusion z_b | replace z_b := of_decide_eq_true z_b | replace z_b := of_decide_eq_false z_b | skip) <;> (first | contradiction | (revert z_b; intros))) | ((apply q_alli) <;> (intro _ _ _ _; try contradiction)) | ((apply q_allv); intro _ _ _)) | ((apply Load1.mk); (focus ((repeat (first | (apply el_lo <;> first | assumption | omega) | (apply el_hi <;> first | assumption | omega) | apply bump_old | ((apply put_old); focus (dsimp only [aadd]; omega)) | ((apply quiet_old); (focus assumption); focus (dsimp only [aadd]; omega)) | ((apply same_old); (focus assumption); focus (dsimp only [aadd]; omega)))); done)); (focus exact byVal)) | fail)); all_goals (conv => whnf); all_goals (try with_reducible apply At.mk)))
  apply q_to (a := T.R.a) (n := T.R.n) (c := T.R.c) (l := i) rfl rfl sR' (by omega)
  intro cR1 hcR1
  (focus ((try with_reducible apply wpC.to); (repeat' ((conv => whnf); first | refine byEv ?_ | ((apply Fork.mk) <;> (intro _; try (exfalso; omega; done))) | ((apply q_call); (focus exact byNext); (focus exact byLo); (focus (exact kChartY2)); first | ((apply q_allB) <;> (intro z_b _ _ _; first | exact Bool.noConfusion z_b | replace z_b := of_decide_eq_true z_b | replace z_b := of_decide_eq_false z_b | skip) <;> (first | contradiction | (revert z_b; intros))) | ((apply q_alli) <;> (intro _ _ _ _; try contradiction)) | ((apply q_allv); intro _ _ _)) | ((apply Load1.mk); (focus ((repeat (first | (apply el_lo <;> first | assumption | omega) | (apply el_hi <;> first | assumption | omega) | apply bump_old | ((apply put_old); focus (dsimp only [aadd]; omega)) | ((apply quiet_old); (focus assumption); focus (dsimp only [aadd]; omega)) | ((apply same_old); (focus assumption); focus (dsimp only [aadd]; omega)))); done)); (focus exact byVal)) | fail)); all_goals (conv => whnf); all_goals (try with_reducible apply At.mk)))
  apply q_appF (b := h5.next + 26) (n := 0) (m := i) (cs := []) (nc := (List.range i).map fun j => (fun j => T.R.row j) (0 + j))
  case hsv => exact rfl
  case G => exact ⟨rfl, .inr ⟨_, rfl, by unfold far; omega, .inl ⟨rfl, rfl⟩, by (exact byMem)⟩⟩
  case C => exact cells_part (g := (fun j => T.R.row j)) (l := 0) (a := T.R.a) (Ri5.same (m := m) (by (exact bySame)) (fun _ => by omega)) hi0 (by omega) hcR1 (fun _ _ => rfl)
  case hm => exact hi0
  case hb => omega
  case hsm => omega
  intro vR1 wR1 GR1
  obtain ⟨sR1, GR2, bR1, bR2⟩ := GR1.gat (by omega)
  obtain ⟨dR1, rfl, fR1, -⟩ := GR2.load
  (focus ((try with_reducible apply wpC.to); (repeat' ((conv => whnf); first | refine byEv ?_ | ((apply Fork.mk) <;> (intro _; try (exfalso; omega; done))) | ((apply q_call); (focus exact byNext); (focus exact byLo); (focus (exact kChartY2)); first | ((apply q_allB) <;> (intro z_b _ _ _; first | exact Bool.noConfusion z_b | replace z_b := of_decide_eq_true z_b | replace z_b := of_decide_eq_false z_b | skip) <;> (first | contradiction | (revert z_b; intros))) | ((apply q_alli) <;> (intro _ _ _ _; try contradiction)) | ((apply q_allv); intro _ _ _)) | ((apply Load1.mk); (focus ((repeat (first | (apply el_lo <;> first | assumption | omega) | (apply el_hi <;> first | assumption | omega) | apply bump_old | ((apply put_old); focus (dsimp only [aadd]; omega)) | ((apply quiet_old); (focus assumption); focus (dsimp only [aadd]; omega)) | ((apply same_old); (focus assumption); focus (dsimp only [aadd]; omega)))); done)); (focus exact byVal)) | fail)); all_goals (conv => whnf); all_goals (try with_reducible apply At.mk)))
  apply q_appA (r := sR1) (n := 0 + i) (m := 1) (nc := [.slice (some a2) T.A.n 0])
  case hsv => simp only [Nat.zero_add]; exact rfl
  case G => exact GR2.frame (get_of fun y hy => by (exact byGet))
  case C => exact Cells.one (by (exact byMem)) (by unfold far; omega) rfl rfl
  case hm => omega
  case hlo => omega
  case hsm => omega
  intro vR2 wR2 GR3
  obtain ⟨dR2, rfl, fR2, -⟩ := GR3.load
  (focus ((try with_reducible apply wpC.to); (repeat' ((conv => whnf); first | refine byEv ?_ | ((apply Fork.mk) <;> (intro _; try (exfalso; omega; done))) | ((apply q_call); (focus exact byNext); (focus exact byLo); (focus (exact kChartY2)); first | ((apply q_allB) <;> (intro z_b _ _ _; first | exact Bool.noConfusion z_b | replace z_b := of_decide_eq_true z_b | replace z_b := of_decide_eq_false z_b | skip) <;> (first | contradiction | (revert z_b; intros))) | ((apply q_alli) <;> (intro _ _ _ _; try contradiction)) | ((apply q_allv); intro _ _ _)) | ((apply Load1.mk); (focus ((repeat (first | (apply el_lo <;> first | assumption | omega) | (apply el_hi <;> first | assumption | omega) | apply bump_old | ((apply put_old); focus (dsimp only [aadd]; omega)) | ((apply quiet_old); (focus assumption); focus (dsimp only [aadd]; omega)) | ((apply same_old); (focus assumption); focus (dsimp only [aadd]; omega)))); done)); (focus exact byVal)) | fail)); all_goals (conv => whnf); all_goals (try with_reducible apply At.mk)))
  apply q_fr (a := T.R.a) (n := T.R.n) (c := T.R.c) (l := i) rfl rfl sR' (by omega) (by omega)
  intro cR2 hcR2
  (focus ((try with_reducible apply wpC.to); (repeat' ((conv => whnf); first | refine byEv ?_ | ((apply Fork.mk) <;> (intro _; try (exfalso; omega; done))) | ((apply q_call); (focus exact byNext); (focus exact byLo); (focus (exact kChartY2)); first | ((apply q_allB) <;> (intro z_b _ _ _; first | exact Bool.noConfusion z_b | replace z_b := of_decide_eq_true z_b | replace z_b := of_decide_eq_false z_b | skip) <;> (first | contradiction | (revert z_b; intros))) | ((apply q_alli) <;> (intro _ _ _ _; try contradiction)) | ((apply q_allv); intro _ _ _)) | ((apply Load1.mk); (focus ((repeat (first | (apply el_lo <;> first | assumption | omega) | (apply el_hi <;> first | assumption | omega) | apply bump_old | ((apply put_old); focus (dsimp only [aadd]; omega)) | ((apply quiet_old); (focus assumption); focus (dsimp only [aadd]; omega)) | ((apply same_old); (focus assumption); focus (dsimp only [aadd]; omega)))); done)); (focus exact byVal)) | fail)); all_goals (conv => whnf); all_goals (try with_reducible apply At.mk)))
  apply q_appA (r := sR1) (n := 0 + i + 1) (m := T.R.n - i) (nc := (List.range (T.R.n - i)).map fun j => (fun j => T.R.row j) (i + j))
  case hsv => exact rfl
  case G => exact GR3.frame (get_of fun y hy => by (exact byGet))
  case C => exact cells_part (g := (fun j => T.R.row j)) (l := i) (a := T.R.a) (Ri5.same (m := m) (by (exact bySame)) (fun _ => by omega)) (by omega) (by omega) hcR2 (fun _ _ => rfl)
  case hm => omega
  case hlo => omega
  case hsm => omega
  intro vR3 wR3 GR4
  obtain ⟨dR3, rfl, fR3, -⟩ := GR4.load
  (focus ((try with_reducible apply wpC.to); (repeat' ((conv => whnf); first | refine byEv ?_ | ((apply Fork.mk) <;> (intro _; try (exfalso; omega; done))) | ((apply q_call); (focus exact byNext); (focus exact byLo); (focus (exact kChartY2)); first | ((apply q_allB) <;> (intro z_b _ _ _; first | exact Bool.noConfusion z_b | replace z_b := of_decide_eq_true z_b | replace z_b := of_decide_eq_false z_b | skip) <;> (first | contradiction | (revert z_b; intros))) | ((apply q_alli) <;> (intro _ _ _ _; try contradiction)) | ((apply q_allv); intro _ _ _)) | ((apply Load1.mk); (focus ((repeat (first | (apply el_lo <;> first | assumption | omega) | (apply el_hi <;> first | assumption | omega) | apply bump_old | ((apply put_old); focus (dsimp only [aadd]; omega)) | ((apply quiet_old); (focus assumption); focus (dsimp only [aadd]; omega)) | ((apply same_old); (focus assumption); focus (dsimp only [aadd]; omega)))); done)); (focus exact byVal)) | fail)); all_goals (conv => whnf); all_goals (try with_reducible apply At.mk)))
  apply q_to (a := A.M.a) (n := A.M.n) (c := 0) (l := i) rfl rfl sM' (by omega)
  intro cM1 hcM1
  (focus ((try with_reducible apply wpC.to); (repeat' ((conv => whnf); first | refine byEv ?_ | ((apply Fork.mk) <;> (intro _; try (exfalso; omega; done))) | ((apply q_call); (focus exact byNext); (focus exact byLo); (focus (exact kChartY2)); first | ((apply q_allB) <;> (intro z_b _ _ _; first | exact Bool.noConfusion z_b | replace z_b := of_decide_eq_true z_b | replace z_b := of_decide_eq_false z_b | skip) <;> (first | contradiction | (revert z_b; intros))) | ((apply q_alli) <;> (intro _ _ _ _; try contradiction)) | ((apply q_allv); intro _ _ _)) | ((apply Load1.mk); (focus ((repeat (first | (apply el_lo <;> first | assumption | omega) | (apply el_hi <;> first | assumption | omega) | apply bump_old | ((apply put_old); focus (dsimp only [aadd]; omega)) | ((apply quiet_old); (focus assumption); focus (dsimp only [aadd]; omega)) | ((apply same_old); (focus assumption); focus (dsimp only [aadd]; omega)))); done)); (focus exact byVal)) | fail)); all_goals (conv => whnf); all_goals (try with_reducible apply At.mk)))
  apply q_appF (b := h5.next + 42) (n := 0) (m := i) (cs := []) (nc := (List.range i).map fun j => (fun j => A.M.row j) (0 + j))
  case hsv => exact rfl
  case G => exact ⟨rfl, .inr ⟨_, rfl, by unfold far; omega, .inl ⟨rfl, rfl⟩, by (exact byMem)⟩⟩
  case C => exact cells_part (g := (fun j => A.M.row j)) (l := 0) (a := A.M.a) (Mi5.same (m := h2.next) (by (exact bySame)) (fun _ => by omega)) hi0 (by omega) hcM1 (fun _ _ => rfl)
  case hm => exact hi0
  case hb => omega
  case hsm => omega
  intro vM1 wM1 GM1
  obtain ⟨sM1, GM2, bM1, bM2⟩ := GM1.gat (by omega)
  obtain ⟨dM1, rfl, fM1, -⟩ := GM2.load
  (focus ((try with_reducible apply wpC.to); (repeat' ((conv => whnf); first | refine byEv ?_ | ((apply Fork.mk) <;> (intro _; try (exfalso; omega; done))) | ((apply q_call); (focus exact byNext); (focus exact byLo); (focus (exact kChartY2)); first | ((apply q_allB) <;> (intro z_b _ _ _; first | exact Bool.noConfusion z_b | replace z_b := of_decide_eq_true z_b | replace z_b := of_decide_eq_false z_b | skip) <;> (first | contradiction | (revert z_b; intros))) | ((apply q_alli) <;> (intro _ _ _ _; try contradiction)) | ((apply q_allv); intro _ _ _)) | ((apply Load1.mk); (focus ((repeat (first | (apply el_lo <;> first | assumption | omega) | (apply el_hi <;> first | assumption | omega) | apply bump_old | ((apply put_old); focus (dsimp only [aadd]; omega)) | ((apply quiet_old); (focus assumption); focus (dsimp only [aadd]; omega)) | ((apply same_old); (focus assumption); focus (dsimp only [aadd]; omega)))); done)); (focus exact byVal)) | fail)); all_goals (conv => whnf); all_goals (try with_reducible apply At.mk)))
  apply q_appA (r := sM1) (n := 0 + i) (m := 1) (nc := [.slice (some a1) T.A.n 0])
  case hsv => simp only [Nat.zero_add]; exact rfl
  case G => exact GM2.frame (get_of fun y hy => by (exact byGet))
  case C => exact Cells.one (by (exact byMem)) (by unfold far; omega) rfl rfl
  case hm => omega
  case hlo => omega
  case hsm => omega
  intro vM2 wM2 GM3
  obtain ⟨dM2, rfl, fM2, -⟩ := GM3.load
  (focus ((try with_reducible apply wpC.to); (repeat' ((conv => whnf); first | refine byEv ?_ | ((apply Fork.mk) <;> (intro _; try (exfalso; omega; done))) | ((apply q_call); (focus exact byNext); (focus exact byLo); (focus (exact kChartY2)); first | ((apply q_allB) <;> (intro z_b _ _ _; first | exact Bool.noConfusion z_b | replace z_b := of_decide_eq_true z_b | replace z_b := of_decide_eq_false z_b | skip) <;> (first | contradiction | (revert z_b; intros))) | ((apply q_alli) <;> (intro _ _ _ _; try contradiction)) | ((apply q_allv); intro _ _ _)) | ((apply Load1.mk); (focus ((repeat (first | (apply el_lo <;> first | assumption | omega) | (apply el_hi <;> first | assumption | omega) | apply bump_old | ((apply put_old); focus (dsimp only [aadd]; omega)) | ((apply quiet_old); (focus assumption); focus (dsimp only [aadd]; omega)) | ((apply same_old); (focus assumption); focus (dsimp only [aadd]; omega)))); done)); (focus exact byVal)) | fail)); all_goals (conv => whnf); all_goals (try with_reducible apply At.mk)))
  apply q_fr (a := A.M.a) (n := A.M.n) (c := 0) (l := i) rfl rfl sM' (by omega) (by omega)
  intro cM2 hcM2
  (focus ((try with_reducible apply wpC.to); (repeat' ((conv => whnf); first | refine byEv ?_ | ((apply Fork.mk) <;> (intro _; try (exfalso; omega; done))) | ((apply q_call); (focus exact byNext); (focus exact byLo); (focus (exact kChartY2)); first | ((apply q_allB) <;> (intro z_b _ _ _; first | exact Bool.noConfusion z_b | replace z_b := of_decide_eq_true z_b | replace z_b := of_decide_eq_false z_b | skip) <;> (first | contradiction | (revert z_b; intros))) | ((apply q_alli) <;> (intro _ _ _ _; try contradiction)) | ((apply q_allv); intro _ _ _)) | ((apply Load1.mk); (focus ((repeat (first | (apply el_lo <;> first | assumption | omega) | (apply el_hi <;> first | assumption | omega) | apply bump_old | ((apply put_old); focus (dsimp only [aadd]; omega)) | ((apply quiet_old); (focus assumption); focus (dsimp only [aadd]; omega)) | ((apply same_old); (focus assumption); focus (dsimp only [aadd]; omega)))); done)); (focus exact byVal)) | fail)); all_goals (conv => whnf); all_goals (try with_reducible apply At.mk)))
  apply q_appA (r := sM1) (n := 0 + i + 1) (m := A.M.n - i) (nc := (List.range (A.M.n - i)).map fun j => (fun j => A.M.row j) (i + j))
  case hsv => exact rfl
  case G => exact GM3.frame (get_of fun y hy => by (exact byGet))
  case C => exact cells_part (g := (fun j => A.M.row j)) (l := i) (a := A.M.a) (Mi5.same (m := h2.next) (by (exact bySame)) (fun _ => by omega)) (by omega) (by omega) hcM2 (fun _ _ => rfl)
  case hm => omega
  case hlo => omega
  case hsm => omega
  intro vM3 wM3 GM4
  obtain ⟨dM3, rfl, fM3, -⟩ := GM4.load
  (focus ((try with_reducible apply wpC.to); (repeat' ((conv => whnf); first | refine byEv ?_ | ((apply Fork.mk) <;> (intro _; try (exfalso; omega; done))) | ((apply q_call); (focus exact byNext); (focus exact byLo); (focus (exact kChartY2)); first | ((apply q_allB) <;> (intro z_b _ _ _; first | exact Bool.noConfusion z_b | replace z_b := of_decide_eq_true z_b | replace z_b := of_decide_eq_false z_b | skip) <;> (first | contradiction | (revert z_b; intros))) | ((apply q_alli) <;> (intro _ _ _ _; try contradiction)) | ((apply q_allv); intro _ _ _)) | ((apply Load1.mk); (focus ((repeat (first | (apply el_lo <;> first | assumption | omega) | (apply el_hi <;> first | assumption | omega) | apply bump_old | ((apply put_old); focus (dsimp only [aadd]; omega)) | ((apply quiet_old); (focus assumption); focus (dsimp only [aadd]; omega)) | ((apply same_old); (focus assumption); focus (dsimp only [aadd]; omega)))); done)); (focus exact byVal)) | fail)); all_goals (conv => whnf); all_goals (try with_reducible apply At.mk)))
  have eP : 0 + i + 1 + (T.P.n - i) = T.P.n + 1 := by omega
  have eR : 0 + i + 1 + (T.R.n - i) = T.R.n + 1 := by omega
  have eM : 0 + i + 1 + (A.M.n - i) = A.M.n + 1 := by omega
  apply q_call
  focus (exact byNext)
  focus (exact byLo)
  focus rw [← ePb, ← eRb]; exact point_w (T := T) (m := m) (by (exact byOm)) (oT3.same (by (exact bySame)) (Nat.le_refl _)) g hx' hy'
  rintro _ h7 ⟨p, rfl, op⟩ q7 n7
  unfold Pt.cells
  have gx7 : h7.get (h5.next + 8) = some (.cells [.slice (some dP3) (T.P.n + 1) 0, .slice T.A.b T.A.n T.A.c, .slice (some dR3) (T.R.n + 1) 0] 25) := by rw [← eP, ← eR]; (exact byGet)
  have gT7 : h7.get h.next = some (.cells [.slice (some T.P.a) T.P.n T.P.c, .slice T.A.b T.A.n T.A.c, .slice (some T.R.a) T.R.n T.R.c] 25) := by (exact byGet)
  have oT7 : T.Ok m h7 := oT3.same (by (exact bySame)) (Nat.le_refl _)
  have oA7 : A.Ok h2.next h7 := oA3.same (by (exact bySame)) (Nat.le_refl _)
  have vP7 := grown_ins (g := fun j => .int .i64 (T.P.f j)) (x := .int .i64 p0.p) (GP4.frame (h' := h7) (get_of fun y hy => by (exact byGet))) (by omega)
  have vR7 := grown_ins (g := fun j => T.R.row j) (x := .slice (some a2) T.A.n 0) (GR4.frame (h' := h7) (get_of fun y hy => by (exact byGet))) (by omega)
  have vM7 := grown_ins (g := fun j => A.M.row j) (x := .slice (some a1) T.A.n 0) (GM4.frame (h' := h7) (get_of fun y hy => by (exact byGet))) (by omega)
  have r17 : Ints h7 a1 T.A.n r := r1.frame (fun _ => get_of fun y hy => by (exact byGet))
  have r27 : Els h7 a2 T.A.n 2 bd := by
    intro j hj
    have hl := r2 j hj
    have e7 : h7.get a2.block = h5.get a2.block := get_of fun y hy => by (exact byGet)
    unfold H.loadN at hl ⊢
    rw [show (aadd a2 (j * 2)).block = a2.block from rfl] at hl ⊢
    rw [e7]
    exact hl
  have bnd7 : h5.next + 55 ≤ h7.next := by (exact byOm)
  rw [eM]
  clear GP4 GR4 GM4
  have hlt1 : p0.p < T.P.f i := by omega
  have rr : ∀ k, k < T.A.n → 0 ≤ r k ∧ r k ≤ 100000 := fun k hk => by
    have f := val_formed (g.around (oOn k hk)) (tA.bd g)
    rw [hv k hk] at f
    have := f.n0
    have := f.n1
    dsimp only at *
    omega
  have I := ins_ins (dP := dP3) (a2 := a2) (dR := dR3) (a1 := a1) (dM := dM3) g hi0 hi (by omega) hx0 hlt1 hv
  have gI := ins_good (dP := dP3) (a2 := a2) (dR := dR3) g hi0 hi (by omega) hx0 hlt1
  have tI := ins_true (x := p0.p) (dP := dP3) (a2 := a2) (dR := dR3) (a1 := a1) (dM := dM3) g tA hi rr
  have okT := ins_ok (N := h5.next + 55) (x := p0.p) oT7 g hi (by omega) vP7 (by omega) vR7 (by omega) (by intro j hj; have := r27 j hj; rw [hbd] at this; exact this) (by omega)
  have okA := pins_ok (N := h5.next + 55) oA7 g tA hi (by omega) vM7 (by omega) r17 (by omega)
  (focus ((try with_reducible apply wpC.to); (repeat' ((conv => whnf); first | refine byEv ?_ | ((apply Fork.mk) <;> (intro _; try (exfalso; omega; done))) | ((apply q_call); (focus exact byNext); (focus exact byLo); (focus (exact kChartY2)); first | ((apply q_allB) <;> (intro z_b _ _ _; first | exact Bool.noConfusion z_b | replace z_b := of_decide_eq_true z_b | replace z_b := of_decide_eq_false z_b | skip) <;> (first | contradiction | (revert z_b; intros))) | ((apply q_alli) <;> (intro _ _ _ _; try contradiction)) | ((apply q_allv); intro _ _ _)) | ((apply Load1.mk); (focus ((repeat (first | (apply el_lo <;> first | assumption | omega) | (apply el_hi <;> first | assumption | omega) | apply bump_old | ((apply put_old); focus (dsimp only [aadd]; omega)) | ((apply quiet_old); (focus assumption); focus (dsimp only [aadd]; omega)) | ((apply same_old); (focus assumption); focus (dsimp only [aadd]; omega)))); done)); (focus exact byVal)) | fail)); all_goals (conv => whnf); all_goals (try with_reducible apply At.mk)))
  apply q_callv
  focus (exact byNext)
  focus (exact byLo)
  focus
    have va := fun h' (h1 : h5.next + 55 ≤ h'.next) (h2 : Same (h5.next + 55) h7 h') => value_ok (h := h') (T := T) (p := A) (at_ := p) (m := h5.next + 55) h1 ((oT7.same (Same.refl _ _) (by omega)).same h2 (Nat.le_refl _)) ((oA7.same (Same.refl _ _) (by omega)).same h2 (Nat.le_refl _)) g tA op
    unfold Tbl.cells at va
    rw [Ac, ePb, eRb, eMb] at va
    exact va _ (by (exact byOm)) (by (exact bySame))
  intro h8 q8 n8
  (focus ((try with_reducible apply wpC.to); (repeat' ((conv => whnf); first | refine byEv ?_ | ((apply Fork.mk) <;> (intro _; try (exfalso; omega; done))) | ((apply q_call); (focus exact byNext); (focus exact byLo); (focus (exact kChartY2)); first | ((apply q_allB) <;> (intro z_b _ _ _; first | exact Bool.noConfusion z_b | replace z_b := of_decide_eq_true z_b | replace z_b := of_decide_eq_false z_b | skip) <;> (first | contradiction | (revert z_b; intros))) | ((apply q_alli) <;> (intro _ _ _ _; try contradiction)) | ((apply q_allv); intro _ _ _)) | ((apply Load1.mk); (focus ((repeat (first | (apply el_lo <;> first | assumption | omega) | (apply el_hi <;> first | assumption | omega) | apply bump_old | ((apply put_old); focus (dsimp only [aadd]; omega)) | ((apply quiet_old); (focus assumption); focus (dsimp only [aadd]; omega)) | ((apply same_old); (focus assumption); focus (dsimp only [aadd]; omega)))); done)); (focus exact byVal)) | fail)); all_goals (conv => whnf); all_goals (try with_reducible apply At.mk)))
  apply q_callv
  focus (exact byNext)
  focus (exact byLo)
  focus
    have vb := fun h' (h1 : h5.next + 55 ≤ h'.next) (h2 : Same (h5.next + 55) h7 h') => value_ok (h := h') (T := T.ins i p0.p dP3 a2 dR3) (p := A.ins i T.A.n r a1 dM3) (at_ := p) (m := h5.next + 55) h1 (okT.same h2 (Nat.le_refl _)) (okA.same h2 (Nat.le_refl _)) gI tI (I.on op)
    rw [I.val op] at vb
    exact vb _ (by (exact byOm)) (by (exact bySame))
  intro h9 q9 n9
  (focus ((try with_reducible apply wpC.to); (repeat' ((conv => whnf); first | refine byEv ?_ | ((apply Fork.mk) <;> (intro _; try (exfalso; omega; done))) | ((apply q_call); (focus exact byNext); (focus exact byLo); (focus (exact kChartY2)); first | ((apply q_allB) <;> (intro z_b _ _ _; first | exact Bool.noConfusion z_b | replace z_b := of_decide_eq_true z_b | replace z_b := of_decide_eq_false z_b | skip) <;> (first | contradiction | (revert z_b; intros))) | ((apply q_alli) <;> (intro _ _ _ _; try contradiction)) | ((apply q_allv); intro _ _ _)) | ((apply Load1.mk); (focus ((repeat (first | (apply el_lo <;> first | assumption | omega) | (apply el_hi <;> first | assumption | omega) | apply bump_old | ((apply put_old); focus (dsimp only [aadd]; omega)) | ((apply quiet_old); (focus assumption); focus (dsimp only [aadd]; omega)) | ((apply same_old); (focus assumption); focus (dsimp only [aadd]; omega)))); done)); (focus exact byVal)) | fail)); all_goals (conv => whnf); all_goals (try with_reducible apply At.mk)))
  refine OpE.pure (.bool true) (xPure_eql (A := ⟨(T.val p A.f).cells⟩) (B := ⟨(T.val p A.f).cells⟩) rfl rfl rfl rfl rfl (by kernel_rfl) (eql_fr _)) ?_
  (focus ((try with_reducible apply wpC.to); (repeat' ((conv => whnf); first | refine byEv ?_ | ((apply Fork.mk) <;> (intro _; try (exfalso; omega; done))) | ((apply q_call); (focus exact byNext); (focus exact byLo); (focus (exact kChartY2)); first | ((apply q_allB) <;> (intro z_b _ _ _; first | exact Bool.noConfusion z_b | replace z_b := of_decide_eq_true z_b | replace z_b := of_decide_eq_false z_b | skip) <;> (first | contradiction | (revert z_b; intros))) | ((apply q_alli) <;> (intro _ _ _ _; try contradiction)) | ((apply q_allv); intro _ _ _)) | ((apply Load1.mk); (focus ((repeat (first | (apply el_lo <;> first | assumption | omega) | (apply el_hi <;> first | assumption | omega) | apply bump_old | ((apply put_old); focus (dsimp only [aadd]; omega)) | ((apply quiet_old); (focus assumption); focus (dsimp only [aadd]; omega)) | ((apply same_old); (focus assumption); focus (dsimp only [aadd]; omega)))); done)); (focus exact byVal)) | fail)); all_goals (conv => whnf); all_goals (try with_reducible apply At.mk)))
  (refine byFin ?_)
  rfl
theorem finer_law2 {h : H} {T : Tbl} {B : Arr} {m : Nat} {x y x' y' : Int} (hm : m ≤ h.next) (hT : T.Ok m h) (s : (0 < T.P.n → SlOk T.P.a T.P.n T.P.c) ∧ (0 < T.R.n → SlOk T.R.a T.R.n T.R.c)) (hB : By .u32 B m h) (hx : 0 ≤ x ∧ x < 65536) (hy : 0 ≤ y ∧ y < 65536) (hx' : 0 ≤ x' ∧ x' < 65536) (hy' : 0 ≤ y' ∧ y' < 65536) : AW Try.prog 9 h.next h [.agg ⟨T.cells⟩, .slice B.b B.n B.c, .agg ⟨[.int .u16 x, .int .u16 y]⟩, .agg ⟨[.int .u16 x', .int .u16 y']⟩] (fun v _ => v = .bool true) := finer_law hm hT s.1 s.2 hB hx hy hx' hy'
end AE.Try
