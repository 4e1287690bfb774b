/- Walks of chart: the sum of the weights; values. -/
import Derived.Test.YtbfhhncmmllblaaChartG
set_option linter.unusedVariables false
set_option linter.unusedSimpArgs false
set_option linter.unusedSectionVars false
namespace AE.Try
open Go AE Go.Proofs
set_option maxRecDepth 100000
set_option linter.unusedVariables false

/-- The sum of the first ones. -/
def ps (c : Nat → Int) : Nat → Int
  | 0 => 0
  | j + 1 => ps c j + c j
def Tbl.w (T : Tbl) (p : Pt) (j : Nat) : Int := T.x p (j / 2) * T.y p (j % 2)
def Tbl.whole (T : Tbl) (p : Pt) : Int := ps (T.w p) 4
theorem Around.w {T : Tbl} {p : Pt} (k : Around T p) (j : Nat) : 0 ≤ T.w p j ∧ T.w p j ≤ 4000000 := k.wt (j / 2) (j % 2)
theorem Tbl.whole_eq (T : Tbl) (p : Pt) : T.whole p = (T.x p 0 + T.x p 1) * (T.y p 0 + T.y p 1) := by
  have : T.whole p = 0 + T.x p 0 * T.y p 0 + T.x p 0 * T.y p 1 + T.x p 1 * T.y p 0 + T.x p 1 * T.y p 1 := rfl
  rw [this, Int.add_mul, Int.mul_add, Int.mul_add]
  omega
theorem Around.whole {T : Tbl} {p : Pt} (k : Around T p) : 0 < T.whole p ∧ T.whole p ≤ 4000000 := by
  rw [T.whole_eq]
  obtain ⟨x1, x2⟩ := k.xs
  obtain ⟨y1, y2⟩ := k.ys
  refine ⟨Int.mul_pos x1 y1, ?_⟩
  exact Int.le_trans (Int.mul_le_mul_of_nonneg_right x2 (by omega)) (by omega)

theorem Around.ps {T : Tbl} {p : Pt} (k : Around T p) : ∀ j, 0 ≤ ps (T.w p) j ∧ ps (T.w p) j ≤ 4000000 * j
  | 0 => ⟨Int.le_refl _, Int.le_refl _⟩
  | j + 1 => by
    obtain ⟨a, b⟩ := k.ps j
    obtain ⟨c, d⟩ := k.w j
    simp only [AE.Try.ps]
    omega
theorem bump_get (h : H) (k r : Nat) : (h.bump k).get r = h.get r := rfl

theorem kChartH0 {G : Prop} (g : G := by ((apply corners_w; rotate_left; (focus (apply Tbl.Ok.same; (focus assumption); (focus exact bySame); (focus exact Nat.le_refl _))); (focus assumption); (focus assumption); (focus exact byOm)))) : G := g

theorem CRows.frame {T : Tbl} {p : Pt} {r1 r2 r3 r4 : Nat} {h h' : H} (k : CRows T p r1 r2 r3 r4 h) (e1 : h'.get r1 = h.get r1) (e2 : h'.get r2 = h.get r2) (e3 : h'.get r3 = h.get r3) (e4 : h'.get r4 = h.get r4) : CRows T p r1 r2 r3 r4 h' :=
  ⟨by rw [e1]; exact k.g1, by rw [e2]; exact k.g2, by rw [e3]; exact k.g3, by rw [e4]; exact k.g4⟩
/-- The rows of a corners' function lie from b on, below N. -/
structure CIn (b N r1 r2 r3 r4 : Nat) : Prop where
  b1 : b ≤ r1 ∧ r1 < N
  b2 : b ≤ r2 ∧ r2 < N
  b3 : b ≤ r3 ∧ r3 < N
  b4 : b ≤ r4 ∧ r4 < N
theorem CRows.same {T : Tbl} {p : Pt} {b N r1 r2 r3 r4 : Nat} {h h' : H} (k : CRows T p r1 r2 r3 r4 h) (c : CIn b N r1 r2 r3 r4) (s : ∀ r, b ≤ r → r < N → h'.get r = h.get r) : CRows T p r1 r2 r3 r4 h' :=
  k.frame (s _ c.b1.1 c.b1.2) (s _ c.b2.1 c.b2.2) (s _ c.b3.1 c.b3.2) (s _ c.b4.1 c.b4.2)
theorem corners_c {h : H} {T : Tbl} {m : Nat} {p : Pt} (hm : m ≤ h.next) (hT : T.Ok m h) (g : T.Good) (o : T.On p) : AW Try.prog 89 h.next h [.agg ⟨T.cells⟩, .agg ⟨p.cells⟩] (fun v h' => ∃ r1 r2 r3 r4, v = cornV r1 r2 r3 r4 ∧ CRows T p r1 r2 r3 r4 h' ∧ CIn h.next h'.next r1 r2 r3 r4) := by
  obtain ⟨v, h', ⟨r1, r2, r3, r4, e, c, b1, b2, b3, b4⟩, k⟩ := corners_w hm hT g o
  exact ⟨v, h', ⟨r1, r2, r3, r4, e, c, b1, b2, b3, b4⟩, k⟩

set_option maxHeartbeats 1000000 in
theorem whole_w {h : H} {T : Tbl} {m : Nat} {p : Pt} (hm : m ≤ h.next) (hT : T.Ok m h) (g : T.Good) (o : T.On p) : AW Try.prog 91 h.next h [.agg ⟨T.cells⟩, .agg ⟨p.cells⟩] (fun v _ => v = .int .i64 (T.whole p)) := by
  have ar := g.around o
  refine fun91.call rfl (Nat.le_refl _) ?_
  unfold a91 Tbl.cells Pt.cells
  (focus ((try with_reducible apply wpC.to); (repeat' ((conv => whnf); first | refine byEv ?_ | ((apply q_call); (focus exact byNext); (focus exact byLo); (focus (exact kChartH0)); first | ((apply q_allB) <;> (intro z_b _ _ _; first | exact Bool.noConfusion z_b | replace z_b := of_decide_eq_true z_b | replace z_b := of_decide_eq_false z_b | skip) <;> (first | contradiction | (revert z_b; intros))) | ((apply q_alli) <;> (intro _ _ _ _; try contradiction)) | ((apply q_allv); intro _ _ _)) | fail)); all_goals (conv => whnf); all_goals (try with_reducible apply At.mk)))
  apply q_call
  focus (exact byNext)
  focus (exact byLo)
  focus
    apply AW.arg12
    focus exact corners_c (T := T) (p := p) (m := m) (by (exact byOm)) (hT.same (by (exact bySame)) (Nat.le_refl _)) g o
    focus exact Is.rfl
    focus exact Is.rfl
  rintro _ h2 ⟨r1, r2, r3, r4, rfl, cr, ci⟩ q2 n2
  simp only [put_next, bump_next] at ci
  have b1 := ci.b1
  have b2 := ci.b2
  have b3 := ci.b3
  have b4 := ci.b4
  (focus ((try with_reducible apply wpC.to); (repeat' ((conv => whnf); first | refine byEv ?_ | ((apply q_call); (focus exact byNext); (focus exact byLo); (focus (exact kChartH0)); first | ((apply q_allB) <;> (intro z_b _ _ _; first | exact Bool.noConfusion z_b | replace z_b := of_decide_eq_true z_b | replace z_b := of_decide_eq_false z_b | skip) <;> (first | contradiction | (revert z_b; intros))) | ((apply q_alli) <;> (intro _ _ _ _; try contradiction)) | ((apply q_allv); intro _ _ _)) | fail)); all_goals (conv => whnf); all_goals (try with_reducible apply At.mk)))
  have gn : h2.get (h.next + 3) = some (.cells [.int .i64 0] 2) := by (exact byGet)
  refine wp_forget (l := [(4, .int .i64 0), (5, .pointer (some ⟨h.next + 3, 0, none⟩)), (10, cornV r1 r2 r3 r4)]) ⟨rfl, rfl, rfl, trivial⟩ fun g' => ?_
  apply wp_range
  focus exact rfl
  focus (exact byNext)
  focus (exact byList)
  intro L0 hL0
  refine ⟨_, corn_w (T := T) (p := p) (r1 := r1) (r2 := r2) (r3 := r3) (r4 := r4) ar (by (exact byOm)) g.n6 (fun j h3 => CRows T p r1 r2 r3 r4 h3 ∧ h3.get (h.next + 3) = some (.cells [.int .i64 (ps (T.w p) j)] 2) ∧ h3.get h2.next = some (.loop L0) ∧ h2.next < h3.next) (fun j h3 k => k.1) ?_ ?_ ⟨?_, ?_, ?_, ?_⟩ ⟨?_, ?_, ?_, ?_⟩, ?_⟩
  · rintro i h3 h4 ⟨k1, k2, k3, k4⟩ qq
    have := qq.next
    exact ⟨k1.same ci fun r h1 h2 => qq.same r (by omega), by (exact byGet), by (exact byGet), by omega⟩
  · rintro j h3 hj ⟨k1, k2, k3, k4⟩ hle
    have hw := ar.w j
    have hs := ar.ps j
    refine YA.call fun91.mixed (A := a91A0) (B := a91B0) (L := L0) (by rw [hL0]; exact c91A0) (by rw [hL0]; exact c91B0) k3 (by omega) (by omega) (by rw [hL0]; exact rfl) (by rw [hL0]; exact rfl) ?_
    unfold YA a91A0
    refine wp_forget (l := [(5, .pointer (some ⟨h.next + 3, 0, none⟩)), (12, .int .i64 (T.w p j))]) ⟨by rw [hL0]; exact rfl, by rw [hL0]; exact rfl, trivial⟩ fun g'' => ?_
    (focus ((try with_reducible apply wpC.to); (repeat' ((conv => whnf); first | refine byEv ?_ | ((apply q_call); (focus exact byNext); (focus exact byLo); (focus (exact kChartH0)); first | ((apply q_allB) <;> (intro z_b _ _ _; first | exact Bool.noConfusion z_b | replace z_b := of_decide_eq_true z_b | replace z_b := of_decide_eq_false z_b | skip) <;> (first | contradiction | (revert z_b; intros))) | ((apply q_alli) <;> (intro _ _ _ _; try contradiction)) | ((apply q_allv); intro _ _ _)) | fail)); all_goals (conv => whnf); all_goals (try with_reducible apply At.mk)))
    refine ⟨rfl, L0, by (exact byGet), by rw [hL0]; exact rfl, ?_⟩
    unfold a91B0
    have hL1 : ended (busy L0) .none = L0 := by rw [hL0]; exact rfl
    (focus ((try with_reducible apply wpC.to); (repeat' ((conv => whnf); first | refine byEv ?_ | ((apply q_call); (focus exact byNext); (focus exact byLo); (focus (exact kChartH0)); first | ((apply q_allB) <;> (intro z_b _ _ _; first | exact Bool.noConfusion z_b | replace z_b := of_decide_eq_true z_b | replace z_b := of_decide_eq_false z_b | skip) <;> (first | contradiction | (revert z_b; intros))) | ((apply q_alli) <;> (intro _ _ _ _; try contradiction)) | ((apply q_allv); intro _ _ _)) | fail)); all_goals (conv => whnf); all_goals (try with_reducible apply At.mk)))
    refine ⟨.none, _, rfl, by (exact byGet), rfl, ?_, ?_, ?_, ?_⟩
    · exact k1.same ci fun r h1 h2 => by
        have hr1 : r ≠ h.next + 3 := by omega
        have hr2 : r ≠ _ := Nat.ne_of_lt h2
        simp only [H.put, bump_get, if_neg hr1, if_neg hr2]
    · (exact byGet)
    · rw [hL1]; (exact byGet)
    · (exact byOm)
  · exact cr.same ci fun r h1 h2 => by
      have hr2 : r ≠ _ := Nat.ne_of_lt h2
      simp only [H.put, bump_get, if_neg hr2]
  · (exact byGet)
  · (exact byGet)
  · (exact byOm)
  · (exact byOm)
  · (exact byOm)
  · (exact byOm)
  · (exact byOm)
  · rintro v h3 ⟨k1, k2, k3, k4⟩ qq
    refine ⟨_, k3, by rw [hL0]; simp [loop0], ?_⟩
    rw [hL0]
    simp only [loop0, pendE]
    (focus ((try with_reducible apply wpC.to); (repeat' ((conv => whnf); first | refine byEv ?_ | ((apply q_call); (focus exact byNext); (focus exact byLo); (focus (exact kChartH0)); first | ((apply q_allB) <;> (intro z_b _ _ _; first | exact Bool.noConfusion z_b | replace z_b := of_decide_eq_true z_b | replace z_b := of_decide_eq_false z_b | skip) <;> (first | contradiction | (revert z_b; intros))) | ((apply q_alli) <;> (intro _ _ _ _; try contradiction)) | ((apply q_allv); intro _ _ _)) | fail)); all_goals (conv => whnf); all_goals (try with_reducible apply At.mk)))
    (refine byFin ?_)
    rfl
end AE.Try
