/- Walks of chart: More, End. -/
import Derived.Test.YtbfhhncmmllblaaChartS
set_option linter.unusedVariables false
set_option linter.unusedSimpArgs false
set_option linter.unusedSectionVars false
namespace AE.Try
open Go AE Go.Proofs
set_option maxRecDepth 100000
set_option linter.unusedVariables false

theorem kChartT0 {G : Prop} (g : G := by ((apply sheet2_w; rotate_left; (focus (apply Tbl.Ok.same; (focus assumption); (focus exact bySame); (focus exact Nat.le_refl _))); (focus exact byGet); (focus exact byOm); (focus exact byOm)))) : G := g
theorem kChartT1 {G : Prop} (g : G := by ((apply far_w; rotate_left; (focus (apply Tbl.Ok.same; (focus assumption); (focus exact bySame); (focus exact Nat.le_refl _))); (focus assumption); (focus assumption); (focus assumption); (focus exact byOm)))) : G := g

open Classical in
noncomputable def Tbl.mspan (T : Tbl) (p q : Pt) : Fr × Fr := if T.nerr (T.On p ∧ T.On q) = 0 then (T.far p q Bool.false, T.far p q Bool.true) else (⟨0, 0⟩, ⟨0, 0⟩)

set_option maxHeartbeats 1000000 in
theorem More_w {h : H} {T : Tbl} {p q : Pt} {m : Nat} (hm : m ≤ h.next) (hT : T.Ok m h) : AW Try.prog 39 h.next h [.agg ⟨T.cells⟩, .agg ⟨p.cells⟩, .agg ⟨q.cells⟩] (fun v _ => v = .tuple #[.agg ⟨(T.mspan p q).1.cells ++ (T.mspan p q).2.cells⟩, .int .i64 (T.nerr (T.On p ∧ T.On q))]) := by
  refine fun39.call rfl (Nat.le_refl _) ?_
  unfold a39 Tbl.cells Pt.cells
  (focus ((try with_reducible apply wpC.to); (repeat' ((conv => whnf); first | refine byEv ?_ | ((apply Fork.mk) <;> (intro _; try (exfalso; omega; done))) | ((apply q_call); (focus exact byNext); (focus exact byLo); (focus (first | exact kChartT1 | exact kChartT0 | exact kChartK2 | exact kChartK1)); first | ((apply q_allB) <;> (intro z_b _ _ _; first | exact Bool.noConfusion z_b | replace z_b := of_decide_eq_true z_b | replace z_b := of_decide_eq_false z_b | skip) <;> (first | contradiction | (revert z_b; intros))) | ((apply q_alli) <;> (intro _ _ _ _; try contradiction)) | ((apply q_allv); intro _ _ _)) | fail)); all_goals (conv => whnf); all_goals (try with_reducible apply At.mk)))
  · have e1 : T.mspan p q = (⟨0, 0⟩, ⟨0, 0⟩) := by unfold Tbl.mspan; rw [if_neg (by assumption)]
    (refine byFin ?_)
    rw [e1]
    rfl
  have he : T.nerr (T.On p ∧ T.On q) = 0 := by assumption
  obtain ⟨g, o, o'⟩ := Tbl.nerr_ok he
  have e1 : T.mspan p q = (T.far p q Bool.false, T.far p q Bool.true) := by unfold Tbl.mspan; rw [if_pos he]
  (focus ((try with_reducible apply wpC.to); (repeat' ((conv => whnf); first | refine byEv ?_ | ((apply Fork.mk) <;> (intro _; try (exfalso; omega; done))) | ((apply q_call); (focus exact byNext); (focus exact byLo); (focus (first | exact kChartT1 | exact kChartT0 | exact kChartK2 | exact kChartK1)); first | ((apply q_allB) <;> (intro z_b _ _ _; first | exact Bool.noConfusion z_b | replace z_b := of_decide_eq_true z_b | replace z_b := of_decide_eq_false z_b | skip) <;> (first | contradiction | (revert z_b; intros))) | ((apply q_alli) <;> (intro _ _ _ _; try contradiction)) | ((apply q_allv); intro _ _ _)) | fail)); all_goals (conv => whnf); all_goals (try with_reducible apply At.mk)))
  (refine byFin ?_)
  rw [e1, he]
  rfl

/-! ### End -/

def Tbl.ev (T : Tbl) (p q : Pt) (high : Bool) (i k : Nat) : Int := if T.more p q i k = 0 then T.lo i k else T.endv high (T.more p q i k) i k
theorem Rep.has {l : List PE} {c : Nat} {F : Nat → Nat → Int} (R : Rep l c F) (i k : Nat) : (l.findIdx? (isKey i k)).isSome = decide (F i k ≠ 0) := by
  cases hj : l.findIdx? (isKey i k) with
  | none =>
    have : F i k = 0 := Classical.byContradiction fun h => by
      obtain ⟨e, he, hk⟩ := R.all i k h
      exact find_none hj e he hk
    simp [this]
  | some j =>
    obtain ⟨e, -, hk, he⟩ := find_some hj
    have h1 := R.val e he
    have h2 := R.nz e he
    simp only [PE.key, Prod.mk.injEq] at hk
    rw [hk.1, hk.2] at h1
    rw [h1] at h2
    simp [h2]
theorem kChartT2 {G : Prop} (g : G := by ((apply end_w; rotate_left; (focus (apply Tbl.Ok.same; (focus assumption); (focus exact bySame); (focus exact Nat.le_refl _))); (focus assumption); (focus assumption); (focus exact byOm)))) : G := g
theorem endAt_w {h : H} {T : Tbl} {m r rm rs rb i k : Nat} {l : List PE} {c : Nat} {F : Nat → Nat → Int} {high : Bool} {z1 z2 : Int} (hm : m ≤ h.next) (hT : T.Ok m h) (R : Rep l c F) (g1 : h.get rm = some (.cells [.map (some r)] 119)) (g2 : h.get rs = some (.cells T.cells 84)) (g3 : h.get rb = some (.cells [.bool high] 4)) (g4 : h.get r = some (.map (pents l) c))
    (b : rm < h.next ∧ rs < h.next ∧ rb < h.next ∧ r < h.next) (hi : i < T.R.n) (hk : k < T.R.w i) (e1 : z1 = i) (e2 : z2 = k) : AW Try.prog 85 h.next h [.agg ⟨[.int .i64 z1, .int .i64 z2]⟩, .pointer (some ⟨rm, 0, none⟩), .pointer (some ⟨rs, 0, none⟩), .pointer (some ⟨rb, 0, none⟩)] (fun v _ => v = .int .i64 (if F i k = 0 then T.lo i k else T.endv high (F i k) i k)) := by
  subst e1 e2
  have g2 : h.get rs = some (.cells [.slice T.P.b T.P.n T.P.c, .slice T.A.b T.A.n T.A.c, .slice T.R.b T.R.n T.R.c] 84) := g2
  have hge := R.get i k
  have hhas := R.has i k
  refine fun85.call rfl (Nat.le_refl _) ?_
  unfold a85
  (focus ((try with_reducible apply wpC.to); (repeat' ((conv => whnf); first | refine byEv ?_ | ((apply q_call); (focus exact byNext); (focus exact byLo); (focus (first | exact kChartT2 | exact kChartP1)); first | ((apply q_allB) <;> (intro z_b _ _ _; first | exact Bool.noConfusion z_b | replace z_b := of_decide_eq_true z_b | replace z_b := of_decide_eq_false z_b | skip) <;> (first | contradiction | (revert z_b; intros))) | ((apply q_alli) <;> (intro _ _ _ _; try contradiction)) | ((apply q_allv); intro _ _ _)) | fail)); all_goals (conv => whnf); all_goals (try with_reducible apply At.mk)))
  refine OpE.mk (lookup2_p (l := l) (c := c) (i := i) (k := k) (r := r) rfl rfl (by (exact byGet))) ?_
  rw [hge, hhas]
  by_cases hF : F i k = 0
  · rw [decide_eq_false (by simpa using hF), if_pos hF]
    (focus ((try with_reducible apply wpC.to); (repeat' ((conv => whnf); first | refine byEv ?_ | ((apply q_call); (focus exact byNext); (focus exact byLo); (focus (first | exact kChartT2 | exact kChartP1)); first | ((apply q_allB) <;> (intro z_b _ _ _; first | exact Bool.noConfusion z_b | replace z_b := of_decide_eq_true z_b | replace z_b := of_decide_eq_false z_b | skip) <;> (first | contradiction | (revert z_b; intros))) | ((apply q_alli) <;> (intro _ _ _ _; try contradiction)) | ((apply q_allv); intro _ _ _)) | fail)); all_goals (conv => whnf); all_goals (try with_reducible apply At.mk)))
    (refine byFin ?_)
    rfl
  · rw [decide_eq_true hF, if_neg hF]
    (focus ((try with_reducible apply wpC.to); (repeat' ((conv => whnf); first | refine byEv ?_ | ((apply q_call); (focus exact byNext); (focus exact byLo); (focus (first | exact kChartT2 | exact kChartP1)); first | ((apply q_allB) <;> (intro z_b _ _ _; first | exact Bool.noConfusion z_b | replace z_b := of_decide_eq_true z_b | replace z_b := of_decide_eq_false z_b | skip) <;> (first | contradiction | (revert z_b; intros))) | ((apply q_alli) <;> (intro _ _ _ _; try contradiction)) | ((apply q_allv); intro _ _ _)) | fail)); all_goals (conv => whnf); all_goals (try with_reducible apply At.mk)))
    (refine byFin ?_)
    rfl

theorem ev_rng {T : Tbl} {p q : Pt} {high : Bool} (g : T.Good) {i k : Nat} (hi : i < T.P.n) (hk : k < T.A.n) : 0 ≤ T.ev p q high i k ∧ T.ev p q high i k ≤ 100000 := by
  have h1 := g.endv high (T.more p q i k) hi hk
  have h2 := g.bd i k hi hk
  unfold Tbl.Bd at h2
  unfold Tbl.ev
  split <;> omega

def noPul : Pul := ⟨⟨0, fun _ => 0, none, ⟨0, 0, none⟩, 0, fun _ => none, fun _ => ⟨0, 0, none⟩, fun _ => 0⟩, fun _ _ => 0⟩
theorem noPul_ok (m : Nat) (h : H) : noPul.Ok m h :=
  ⟨fun h => absurd h (Nat.lt_irrefl 0), fun i hi => absurd hi (Nat.not_lt_zero i), fun h => absurd h (Nat.lt_irrefl 0), by decide, fun i hi => absurd hi (Nat.not_lt_zero i), fun i hi => absurd hi (Nat.not_lt_zero i), fun i hi => absurd hi (Nat.not_lt_zero i), fun i hi => absurd hi (Nat.not_lt_zero i), fun i hi => absurd hi (Nat.not_lt_zero i)⟩

set_option maxHeartbeats 1000000 in
theorem End_w {h : H} {T : Tbl} {p q : Pt} {m : Nat} {high : Bool} (hm : m ≤ h.next) (hT : T.Ok m h) : AW Try.prog 41 h.next h [.agg ⟨T.cells⟩, .agg ⟨p.cells⟩, .agg ⟨q.cells⟩, .bool high] (fun v h' => ∃ x : Pul, v = .tuple #[.slice x.M.b x.M.n x.M.c, .int .i64 (T.nerr (T.On p ∧ T.On q))] ∧ x.Ok h'.next h' ∧ (T.nerr (T.On p ∧ T.On q) ≠ 0 → x.M.n = 0) ∧
    (T.nerr (T.On p ∧ T.On q) = 0 → x.M.n = T.P.n ∧ (∀ i, i < T.P.n → x.M.w i = T.A.n) ∧ ∀ i k, i < T.P.n → k < T.A.n → x.f i k = T.ev p q high i k)) := by
  refine fun41.call rfl (Nat.le_refl _) ?_
  unfold a41 Tbl.cells Pt.cells
  (focus ((try with_reducible apply wpC.to); (repeat' ((conv => whnf); first | refine byEv ?_ | ((apply Fork.mk) <;> (intro _; try (exfalso; omega; done))) | ((apply q_call); (focus exact byNext); (focus exact byLo); (focus (first | exact kChartT0 | exact kChartK2 | exact kChartK1)); first | ((apply q_allB) <;> (intro z_b _ _ _; first | exact Bool.noConfusion z_b | replace z_b := of_decide_eq_true z_b | replace z_b := of_decide_eq_false z_b | skip) <;> (first | contradiction | (revert z_b; intros))) | ((apply q_alli) <;> (intro _ _ _ _; try contradiction)) | ((apply q_allv); intro _ _ _)) | fail)); all_goals (conv => whnf); all_goals (try with_reducible apply At.mk)))
  · rename_i h2 _ _ _
    have he : T.nerr (T.On p ∧ T.On q) ≠ 0 := by assumption
    (refine byFin ?_)
    exact ⟨noPul, rfl, noPul_ok _ _, fun _ => rfl, fun h => absurd h he⟩
  have he : T.nerr (T.On p ∧ T.On q) = 0 := by assumption
  obtain ⟨g, o, o'⟩ := Tbl.nerr_ok he
  (focus ((try with_reducible apply wpC.to); (repeat' ((conv => whnf); first | refine byEv ?_ | ((apply Fork.mk) <;> (intro _; try (exfalso; omega; done))) | ((apply q_call); (focus exact byNext); (focus exact byLo); (focus (first | exact kChartT0 | exact kChartK2 | exact kChartK1)); first | ((apply q_allB) <;> (intro z_b _ _ _; first | exact Bool.noConfusion z_b | replace z_b := of_decide_eq_true z_b | replace z_b := of_decide_eq_false z_b | skip) <;> (first | contradiction | (revert z_b; intros))) | ((apply q_alli) <;> (intro _ _ _ _; try contradiction)) | ((apply q_allv); intro _ _ _)) | fail)); all_goals (conv => whnf); all_goals (try with_reducible apply At.mk)))
  rename_i h2 _ _ _
  apply q_call
  focus (exact byNext)
  focus (exact byLo)
  focus exact more_w (T := T) (p := p) (q := q) (m := m) (by (exact byOm)) (hT.same (by (exact bySame)) (Nat.le_refl _)) g o o'
  rintro _ h3 ⟨r, l, c, rfl, hr, R, br⟩ q3 n3
  simp only [put_next, bump_next] at br
  (focus ((try with_reducible apply wpC.to); (repeat' ((conv => whnf); first | refine byEv ?_ | ((apply Fork.mk) <;> (intro _; try (exfalso; omega; done))) | ((apply q_call); (focus exact byNext); (focus exact byLo); (focus (first | exact kChartT0 | exact kChartK2 | exact kChartK1)); first | ((apply q_allB) <;> (intro z_b _ _ _; first | exact Bool.noConfusion z_b | replace z_b := of_decide_eq_true z_b | replace z_b := of_decide_eq_false z_b | skip) <;> (first | contradiction | (revert z_b; intros))) | ((apply q_alli) <;> (intro _ _ _ _; try contradiction)) | ((apply q_allv); intro _ _ _)) | fail)); all_goals (conv => whnf); all_goals (try with_reducible apply At.mk)))
  have gn := g.n
  have gw := g.w
  apply q_call
  focus (exact byNext)
  focus (exact byLo)
  focus
    refine pulls_w (T := T) (m := h3.next) (fn := .func 85) (fs := ⟨[]⟩) (cs := ⟨[.pointer (some ⟨h2.next + 9, 0, none⟩), .pointer (some ⟨h.next + 14, 0, none⟩), .pointer (some ⟨h.next + 3, 0, none⟩)]⟩) (f := T.ev p q high) (by (exact byOm)) (hT.same (by (exact bySame)) (by (exact byOm))) g ⟨fun h4 s4 n4 i k z1 z2 hi hk e1 e2 => ?_, fun i k hi hk => ev_rng g hi hk⟩
    refine acall_of (endAt_w (T := T) (m := m) (r := r) (rm := h2.next + 9) (rs := h.next + 14) (rb := h.next + 3) (i := i) (k := k) (l := l) (c := c) (F := T.more p q) (high := high) (by (exact byOm)) (hT.same (Same.trans (by (exact bySame)) (s4.mono (by (exact byOm)))) (Nat.le_refl _)) R ?_ ?_ ?_ ?_ ⟨by (exact byOm), by (exact byOm), by (exact byOm), by (exact byOm)⟩ (by omega) (by rw [gw i hi]; exact hk) e1 e2) rfl
    · exact (s4 _ (by (exact byOm))).trans (by (exact byGet))
    · exact (s4 _ (by (exact byOm))).trans (by (exact byGet))
    · exact (s4 _ (by (exact byOm))).trans (by (exact byGet))
    · exact (s4 _ (by (exact byOm))).trans (by (exact byGet))
  rintro _ h5 ⟨x, rfl, hx, x1, x2, x3⟩ q5 n5
  (focus ((try with_reducible apply wpC.to); (repeat' ((conv => whnf); first | refine byEv ?_ | ((apply Fork.mk) <;> (intro _; try (exfalso; omega; done))) | ((apply q_call); (focus exact byNext); (focus exact byLo); (focus (first | exact kChartT0 | exact kChartK2 | exact kChartK1)); first | ((apply q_allB) <;> (intro z_b _ _ _; first | exact Bool.noConfusion z_b | replace z_b := of_decide_eq_true z_b | replace z_b := of_decide_eq_false z_b | skip) <;> (first | contradiction | (revert z_b; intros))) | ((apply q_alli) <;> (intro _ _ _ _; try contradiction)) | ((apply q_allv); intro _ _ _)) | fail)); all_goals (conv => whnf); all_goals (try with_reducible apply At.mk)))
  (refine byFin ?_)
  rw [he]
  exact ⟨x, rfl, hx.same (Same.refl _ _) (Nat.le_refl _), fun h => absurd rfl h, fun _ => ⟨x1, x2, x3⟩⟩
end AE.Try
