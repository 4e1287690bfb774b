/- Walks and plain laws: ChartS, ChartT. -/
import Derived.Test.YtbfhhncmmllblaaChartR
set_option linter.unusedVariables false
set_option linter.unusedSimpArgs false
set_option linter.unusedSectionVars false

/- Walks of chart: all pulls; More; End. -/
namespace AE.Try
open Go AE Go.Proofs
set_option maxRecDepth 100000
set_option linter.unusedVariables false

def upTo (f : Nat → Int) (k : Nat) : Nat → Int := fun j => if j < k then f j else 0
theorem upTo_next (f : Nat → Int) (k : Nat) : updN (upTo f k) k (f k) = upTo f (k + 1) := by
  funext j
  unfold updN upTo
  by_cases h : j = k
  · subst h; rw [if_pos rfl, if_pos (by omega)]
  · rw [if_neg h]
    by_cases h2 : j < k
    · rw [if_pos h2, if_pos (by omega)]
    · rw [if_neg h2, if_neg (by omega)]
theorem upTo_zero (f : Nat → Int) : upTo f 0 = fun _ => 0 := by
  funext j; unfold upTo; rw [if_neg (by omega)]
theorem iCells_congr {f g : Nat → Int} {n : Nat} (h : ∀ i, i < n → f i = g i) : iCells f n = iCells g n := by
  unfold iCells
  exact rowsOf_congr n fun i hi => by rw [h i hi]
theorem reps_icells (n : Nat) : reps [.int .i64 0] n = iCells (fun _ => 0) n := by
  unfold iCells
  exact reps_rows [.int .i64 0] n

theorem is_eq {a b : List Value} (h : a = b) : Is a b := h ▸ Is.rfl
/-- A call that turns nothing that was there, where more could be turned. -/
theorem acall_keep {fv : Value} {args : List Value} {lo : Nat} {h : H} {R : Value → H → Prop} (hc : ∃ v h', R v h' ∧ ACall Try.prog fv h.next h args v h') (hl : lo ≤ h.next) : ∃ v h', (R v h' ∧ Quiet h.next h h') ∧ ACall Try.prog fv lo h args v h' :=
  let ⟨v, h', r, a⟩ := hc; ⟨v, h', ⟨r, a.quiet⟩, a.mono hl⟩

set_option maxHeartbeats 2000000 in
theorem pulls_w {h : H} {T : Tbl} {m : Nat} {fn : Fn} {fs cs : Array Value} {f : Nat → Nat → Int} (hm : m ≤ h.next) (hT : T.Ok m h) (g : T.Good) (hp : Pull (.func fn fs cs) f T.P.n T.A.n m h) : AW Try.prog 73 h.next h [.agg ⟨T.cells⟩, .func fn fs cs] (fun v h' => ∃ p : Pul, v = .slice p.M.b p.M.n p.M.c ∧ p.Ok h'.next h' ∧ p.M.n = T.P.n ∧ (∀ i, i < T.P.n → p.M.w i = T.A.n) ∧ ∀ i k, i < T.P.n → k < T.A.n → p.f i k = f i k) := by
  have gn := g.n
  have gw := g.w
  have gp8 := g.p8
  have ga10 := g.a10
  have ga2 := g.a2
  obtain ⟨kP, kA, kR⟩ := hT
  obtain ⟨e1, i1, r1, l1, re, ri, rr, rl⟩ := kR
  refine fun73.call rfl (Nat.le_refl _) ?_
  unfold a73 Tbl.cells
  (focus ((try with_reducible apply wpC.to); (repeat' ((conv => whnf); first | refine byEv ?_ | ((apply Fork.mk) <;> (intro _; try (exfalso; omega; done))) | ((apply q_call); (focus exact byNext); (focus exact byLo); (focus (first | exact kChartP1 | exact kChartP0 | exact kChartI1)); first | ((apply q_allB) <;> (intro z_b _ _ _; first | exact Bool.noConfusion z_b | replace z_b := of_decide_eq_true z_b | replace z_b := of_decide_eq_false z_b | skip) <;> (first | contradiction | (revert z_b; intros))) | ((apply q_alli) <;> (intro _ _ _ _; try contradiction)) | ((apply q_allv); intro _ _ _)) | fail)); all_goals (conv => whnf); all_goals (try with_reducible apply At.mk)))
  refine wp_loop (fun s : Nat × Option Addr × Mat => [(1, .func fn fs cs), (5, .slice s.2.1 s.1 0), (12, .slice T.R.b T.R.n T.R.c), (13, .int .i64 T.R.n), (14, .int .i64 s.1)])
    (fun s h1 => Same m h h1 ∧ h.next + 4 ≤ h1.next ∧ s.1 ≤ T.R.n ∧ (∀ i, i < s.1 → s.2.2.w i = T.A.n) ∧ LB (fun _ => True) s.2.2 s.1 f (h.next + 4) h1.next h1 s.2.1) (fun s => T.R.n - s.1) (0, none, ⟨0, fun _ => 0, none, ⟨0, 0, none⟩, 0, fun _ => none, fun _ => ⟨0, 0, none⟩, fun _ => 0⟩) ⟨rfl, rfl, rfl, rfl, rfl, trivial⟩ ⟨by (exact bySame), by (exact byOm), by dsimp only; omega, fun i hi => by dsimp only at hi; omega, LB.zero⟩ ?_
  rintro ⟨s, v4, M⟩ g' h1 ⟨sm, n1, hs, hw, hP⟩ K hK
  dsimp only at hs hw hP ⊢
  by_cases hsn : s < T.R.n
  · have hww : T.R.w s = T.A.n := gw s (by omega)
    have x1 := r1 (by omega)
    have i5 := i1.same sm r1
    have lw := rl s hsn
    (focus ((try with_reducible apply wpC.to); (repeat' ((conv => whnf); first | refine byEv ?_ | ((apply Fork.mk) <;> (intro _; try (exfalso; omega; done))) | ((apply q_call); (focus exact byNext); (focus exact byLo); (focus (first | exact kChartP1 | exact kChartP0 | exact kChartI1)); first | ((apply q_allB) <;> (intro z_b _ _ _; first | exact Bool.noConfusion z_b | replace z_b := of_decide_eq_true z_b | replace z_b := of_decide_eq_false z_b | skip) <;> (first | contradiction | (revert z_b; intros))) | ((apply q_alli) <;> (intro _ _ _ _; try contradiction)) | ((apply q_allv); intro _ _ _)) | fail)); all_goals (conv => whnf); all_goals (try with_reducible apply At.mk)))
    refine q_mkslice (a := T.R.w s) (b := T.R.w s) rfl rfl (Nat.le_refl _) (by omega) ?_
    rw [reps_icells]
    (focus ((try with_reducible apply wpC.to); (repeat' ((conv => whnf); first | refine byEv ?_ | ((apply Fork.mk) <;> (intro _; try (exfalso; omega; done))) | ((apply q_call); (focus exact byNext); (focus exact byLo); (focus (first | exact kChartP1 | exact kChartP0 | exact kChartI1)); first | ((apply q_allB) <;> (intro z_b _ _ _; first | exact Bool.noConfusion z_b | replace z_b := of_decide_eq_true z_b | replace z_b := of_decide_eq_false z_b | skip) <;> (first | contradiction | (revert z_b; intros))) | ((apply q_alli) <;> (intro _ _ _ _; try contradiction)) | ((apply q_allv); intro _ _ _)) | fail)); all_goals (conv => whnf); all_goals (try with_reducible apply At.mk)))
    refine wp_loop (fun k : Nat => [(1, .func fn fs cs), (5, .slice v4 s 0), (6, .int .i64 s), (8, .slice (some ⟨h1.next + 8, 0, none⟩) (T.R.w s) (T.R.w s)), (12, .slice T.R.b T.R.n T.R.c), (13, .int .i64 T.R.n), (14, .int .i64 s), (22, .slice (T.R.rb s) (T.R.w s) (T.R.rc s)), (23, .int .i64 (T.R.w s)), (24, .int .i64 k)])
      (fun k h2 => Same m h h2 ∧ h1.next + 10 ≤ h2.next ∧ k ≤ T.R.w s ∧ h2.get (h1.next + 8) = some (.cells (iCells (upTo (f s) k) (T.R.w s)) 2) ∧ LB (fun _ => True) M s f (h.next + 4) h1.next h2 v4) (fun k => T.R.w s - k) 0 ⟨rfl, rfl, rfl, rfl, rfl, rfl, rfl, rfl, rfl, rfl, trivial⟩ ⟨by (exact bySame), by (exact byOm), by omega, ?_, hP.frame (Nat.le_refl _) fun r hr1 hr2 _ => get_of fun y hy => by (exact byGet)⟩ ?_
    · rw [upTo_zero]; (exact byGet)
    rintro k g'' h2 ⟨sm2, n2, hk, gr, hP2⟩ K' hK'
    by_cases hkw : k < T.R.w s
    · have hrng := hp.rng s k (by omega) (by omega)
      (focus ((try with_reducible apply wpC.to); (repeat' ((conv => whnf); first | refine byEv ?_ | ((apply Fork.mk) <;> (intro _; try (exfalso; omega; done))) | ((apply q_call); (focus exact byNext); (focus exact byLo); (focus (first | exact kChartP1 | exact kChartP0 | exact kChartI1)); first | ((apply q_allB) <;> (intro z_b _ _ _; first | exact Bool.noConfusion z_b | replace z_b := of_decide_eq_true z_b | replace z_b := of_decide_eq_false z_b | skip) <;> (first | contradiction | (revert z_b; intros))) | ((apply q_alli) <;> (intro _ _ _ _; try contradiction)) | ((apply q_allv); intro _ _ _)) | fail)); all_goals (conv => whnf); all_goals (try with_reducible apply At.mk)))
      apply q_calla
      focus exact acall_keep (hp.call _ (by (exact bySame)) (by (exact byOm)) s k _ _ (by omega) (by omega) rfl rfl) (by (exact byOm))
      rintro _ h3 ⟨rfl, q3⟩ -
      have n3 := q3.next
      simp only [put_next, bump_next] at q3 n3
      (focus ((try with_reducible apply wpC.to); (repeat' ((conv => whnf); first | refine byEv ?_ | ((apply Fork.mk) <;> (intro _; try (exfalso; omega; done))) | ((apply q_call); (focus exact byNext); (focus exact byLo); (focus (first | exact kChartP1 | exact kChartP0 | exact kChartI1)); first | ((apply q_allB) <;> (intro z_b _ _ _; first | exact Bool.noConfusion z_b | replace z_b := of_decide_eq_true z_b | replace z_b := of_decide_eq_false z_b | skip) <;> (first | contradiction | (revert z_b; intros))) | ((apply q_alli) <;> (intro _ _ _ _; try contradiction)) | ((apply q_allv); intro _ _ _)) | fail)); all_goals (conv => whnf); all_goals (try with_reducible apply At.mk)))
      refine Sto.mk (r := h1.next + 8) (off := 0 + k * 1) (c' := iCells (upTo (f s) (k + 1)) (T.R.w s)) rfl (by omega) (by (exact byGet)) rfl rfl (Nat.ble_eq_true_of_le (by rw [iCells_len]; show 0 + k * 1 + 1 ≤ _; omega)) (is_eq ?_) ?_
      · rw [iCells_set _ (f s k) hkw (by omega), upTo_next]
      (focus ((try with_reducible apply wpC.to); (repeat' ((conv => whnf); first | refine byEv ?_ | ((apply Fork.mk) <;> (intro _; try (exfalso; omega; done))) | ((apply q_call); (focus exact byNext); (focus exact byLo); (focus (first | exact kChartP1 | exact kChartP0 | exact kChartI1)); first | ((apply q_allB) <;> (intro z_b _ _ _; first | exact Bool.noConfusion z_b | replace z_b := of_decide_eq_true z_b | replace z_b := of_decide_eq_false z_b | skip) <;> (first | contradiction | (revert z_b; intros))) | ((apply q_alli) <;> (intro _ _ _ _; try contradiction)) | ((apply q_allv); intro _ _ _)) | fail)); all_goals (conv => whnf); all_goals (try with_reducible apply At.mk)))
      refine hK' (k + 1) _ _ ⟨rfl, rfl, rfl, rfl, rfl, rfl, rfl, rfl, rfl, int_of rfl (by omega), trivial⟩ ⟨by (exact bySame), by (exact byOm), by omega, by (exact byGet), hP2.frame (Nat.le_refl _) fun r hr1 hr2 _ => get_of fun y hy => by (exact byGet)⟩ (by omega)
    · obtain rfl : k = T.R.w s := by omega
      have gr' : h2.get (h1.next + 8) = some (.cells (iCells (f s) (T.R.w s)) 2) := by
        rw [gr, iCells_congr (f := upTo (f s) (T.R.w s)) (g := f s) fun i hi => by unfold upTo; rw [if_pos hi]]
      (focus ((try with_reducible apply wpC.to); (repeat' ((conv => whnf); first | refine byEv ?_ | ((apply Fork.mk) <;> (intro _; try (exfalso; omega; done))) | ((apply q_call); (focus exact byNext); (focus exact byLo); (focus (first | exact kChartP1 | exact kChartP0 | exact kChartI1)); first | ((apply q_allB) <;> (intro z_b _ _ _; first | exact Bool.noConfusion z_b | replace z_b := of_decide_eq_true z_b | replace z_b := of_decide_eq_false z_b | skip) <;> (first | contradiction | (revert z_b; intros))) | ((apply q_alli) <;> (intro _ _ _ _; try contradiction)) | ((apply q_allv); intro _ _ _)) | fail)); all_goals (conv => whnf); all_goals (try with_reducible apply At.mk)))
      apply q_appLB (M := M) (s := s) (b := h.next + 4) (m := h1.next) (w := T.R.w s) (rc := T.R.w s) (cx := 1) (F := f) (rb := some ⟨h1.next + 8, 0, none⟩) (ra := ⟨h1.next + 8, 0, none⟩)
      case hP => exact hP2.frame (Nat.le_refl _) fun r hr1 hr2 _ => get_of fun y hy => by (exact byGet)
      case hO => exact fun _ _ => trivial
      case hO1 => exact trivial
      case hsv => exact rfl
      case hx => exact rfl
      case hcx => unfold far; omega
      case hld => (exact byMem)
      case e6 => exact fun _ => rfl
      case G6 => exact fun _ => .inl ⟨rfl, by (exact byGet)⟩
      case r6 => exact fun _ => ⟨⟨by show h1.next ≤ h1.next + 8; omega, by show h1.next + 8 < _; omega⟩, trivial⟩
      case l6 => exact lw
      case f6 => exact fun _ => by unfold far; omega
      case hlo => omega
      case hbm => omega
      case hm => omega
      case hsm => omega
      intro a4 r row hr1 hr2 _ hP3
      (focus ((try with_reducible apply wpC.to); (repeat' ((conv => whnf); first | refine byEv ?_ | ((apply Fork.mk) <;> (intro _; try (exfalso; omega; done))) | ((apply q_call); (focus exact byNext); (focus exact byLo); (focus (first | exact kChartP1 | exact kChartP0 | exact kChartI1)); first | ((apply q_allB) <;> (intro z_b _ _ _; first | exact Bool.noConfusion z_b | replace z_b := of_decide_eq_true z_b | replace z_b := of_decide_eq_false z_b | skip) <;> (first | contradiction | (revert z_b; intros))) | ((apply q_alli) <;> (intro _ _ _ _; try contradiction)) | ((apply q_allv); intro _ _ _)) | fail)); all_goals (conv => whnf); all_goals (try with_reducible apply At.mk)))
      refine hK (s + 1, some a4, _) _ _ ⟨rfl, rfl, rfl, rfl, int_of rfl (by dsimp only; omega), trivial⟩ ⟨by (exact bySame), by (exact byOm), by dsimp only; omega, fun i hi => ?_, hP3.frame (by (exact byOm)) fun r hr1 hr2 _ => rfl⟩ (by dsimp only; omega)
      dsimp only at hi ⊢
      by_cases e : i = s
      · rw [if_pos e]; exact hww
      · rw [if_neg e]; exact hw i (by omega)
  · obtain rfl : s = T.R.n := by omega
    obtain ⟨a, hp5⟩ := hP.pul l1
    (focus ((try with_reducible apply wpC.to); (repeat' ((conv => whnf); first | refine byEv ?_ | ((apply Fork.mk) <;> (intro _; try (exfalso; omega; done))) | ((apply q_call); (focus exact byNext); (focus exact byLo); (focus (first | exact kChartP1 | exact kChartP0 | exact kChartI1)); first | ((apply q_allB) <;> (intro z_b _ _ _; first | exact Bool.noConfusion z_b | replace z_b := of_decide_eq_true z_b | replace z_b := of_decide_eq_false z_b | skip) <;> (first | contradiction | (revert z_b; intros))) | ((apply q_alli) <;> (intro _ _ _ _; try contradiction)) | ((apply q_allv); intro _ _ _)) | fail)); all_goals (conv => whnf); all_goals (try with_reducible apply At.mk)))
    (refine byFin ?_)
    exact ⟨_, rfl, hp5.same (Same.refl _ _ |>.bump) (by (exact byOm)), gn, fun i hi => hw i (by omega), fun i k hi hk => rfl⟩
end AE.Try

/- Walks of chart: More, End. -/
namespace AE.Try
open Go AE Go.Proofs
set_option maxRecDepth 100000
set_option linter.unusedVariables false

theorem kChartT0 {G : Prop} (g : G := by ((apply sheet2_w; rotate_left; (focus (apply Tbl.Ok.same; (focus assumption); (focus exact bySame); (focus exact Nat.le_refl _))); (focus exact byGet); (focus exact byOm); (focus exact byOm)))) : G := g
theorem kChartT1 {G : Prop} (g : G := by ((apply far_w; rotate_left; (focus (apply Tbl.Ok.same; (focus assumption); (focus exact bySame); (focus exact Nat.le_refl _))); (focus assumption); (focus assumption); (focus assumption); (focus exact byOm)))) : G := g

open Classical in
noncomputable def Tbl.mspan (T : Tbl) (p q : Pt) : Fr × Fr := if T.nerr (T.On p ∧ T.On q) = 0 then (T.far p q Bool.false, T.far p q Bool.true) else (⟨0, 0⟩, ⟨0, 0⟩)

set_option maxHeartbeats 1000000 in
theorem More_w {h : H} {T : Tbl} {p q : Pt} {m : Nat} (hm : m ≤ h.next) (hT : T.Ok m h) : AW Try.prog 39 h.next h [.agg ⟨T.cells⟩, .agg ⟨p.cells⟩, .agg ⟨q.cells⟩] (fun v _ => v = .tuple #[.agg ⟨(T.mspan p q).1.cells ++ (T.mspan p q).2.cells⟩, .int .i64 (T.nerr (T.On p ∧ T.On q))]) := by
  refine fun39.call rfl (Nat.le_refl _) ?_
  unfold a39 Tbl.cells Pt.cells
  (focus ((try with_reducible apply wpC.to); (repeat' ((conv => whnf); first | refine byEv ?_ | ((apply Fork.mk) <;> (intro _; try (exfalso; omega; done))) | ((apply q_call); (focus exact byNext); (focus exact byLo); (focus (first | exact kChartT1 | exact kChartT0 | exact kChartK2 | exact kChartK1)); first | ((apply q_allB) <;> (intro z_b _ _ _; first | exact Bool.noConfusion z_b | replace z_b := of_decide_eq_true z_b | replace z_b := of_decide_eq_false z_b | skip) <;> (first | contradiction | (revert z_b; intros))) | ((apply q_alli) <;> (intro _ _ _ _; try contradiction)) | ((apply q_allv); intro _ _ _)) | fail)); all_goals (conv => whnf); all_goals (try with_reducible apply At.mk)))
  · have e1 : T.mspan p q = (⟨0, 0⟩, ⟨0, 0⟩) := by unfold Tbl.mspan; rw [if_neg (by assumption)]
    (refine byFin ?_)
    rw [e1]
    rfl
  have he : T.nerr (T.On p ∧ T.On q) = 0 := by assumption
  obtain ⟨g, o, o'⟩ := Tbl.nerr_ok he
  have e1 : T.mspan p q = (T.far p q Bool.false, T.far p q Bool.true) := by unfold Tbl.mspan; rw [if_pos he]
  (focus ((try with_reducible apply wpC.to); (repeat' ((conv => whnf); first | refine byEv ?_ | ((apply Fork.mk) <;> (intro _; try (exfalso; omega; done))) | ((apply q_call); (focus exact byNext); (focus exact byLo); (focus (first | exact kChartT1 | exact kChartT0 | exact kChartK2 | exact kChartK1)); first | ((apply q_allB) <;> (intro z_b _ _ _; first | exact Bool.noConfusion z_b | replace z_b := of_decide_eq_true z_b | replace z_b := of_decide_eq_false z_b | skip) <;> (first | contradiction | (revert z_b; intros))) | ((apply q_alli) <;> (intro _ _ _ _; try contradiction)) | ((apply q_allv); intro _ _ _)) | fail)); all_goals (conv => whnf); all_goals (try with_reducible apply At.mk)))
  (refine byFin ?_)
  rw [e1, he]
  rfl

/-! ### End -/

def Tbl.ev (T : Tbl) (p q : Pt) (high : Bool) (i k : Nat) : Int := if T.more p q i k = 0 then T.lo i k else T.endv high (T.more p q i k) i k
def noPul : Pul := ⟨⟨0, fun _ => 0, none, ⟨0, 0, none⟩, 0, fun _ => none, fun _ => ⟨0, 0, none⟩, fun _ => 0⟩, fun _ _ => 0⟩
theorem noPul_ok (m : Nat) (h : H) : noPul.Ok m h :=
  ⟨fun h => absurd h (Nat.lt_irrefl 0), fun i hi => absurd hi (Nat.not_lt_zero i), fun h => absurd h (Nat.lt_irrefl 0), by decide, fun i hi => absurd hi (Nat.not_lt_zero i), fun i hi => absurd hi (Nat.not_lt_zero i), fun i hi => absurd hi (Nat.not_lt_zero i), fun i hi => absurd hi (Nat.not_lt_zero i), fun i hi => absurd hi (Nat.not_lt_zero i)⟩

end AE.Try
