/- Walks of chart: points on a chart, corners. -/
import Derived.Test.YtbfhhncmmllblaaChartE
set_option linter.unusedVariables false
set_option linter.unusedSimpArgs false
set_option linter.unusedSectionVars false
namespace AE.Try
open Go AE Go.Proofs
set_option maxRecDepth 100000
set_option linter.unusedVariables false

theorem Tbl.Good.n6 {T : Tbl} (g : T.Good) : T.P.n < 1000000 ∧ T.A.n < 1000000 := by have := g.p8; have := g.a10; omega

theorem kChartF0 {G : Prop} (g : G := by ((apply neighbour_w; rotate_left; (focus (apply Arr.Ok.same; (focus assumption); (focus exact bySame); (focus exact Nat.le_refl _))); (focus assumption); (focus assumption); (focus omega); (focus exact byOm)))) : G := g

/-- A point is on a chart. -/
def Tbl.On (T : Tbl) (p : Pt) : Prop := AE.Try.On T.P.f T.P.n p.p ∧ AE.Try.On T.A.f T.A.n p.a
instance (T : Tbl) (p : Pt) : Decidable (T.On p) := by unfold Tbl.On; infer_instance

theorem off_w {h : H} {T : Tbl} {m r : Nat} {p : Pt} {e : TypeId} (hm : m ≤ h.next) (hT : T.Ok m h) (g : T.Good) (hg : h.get r = some (.cells T.cells e)) (hr : r < h.next) : AW Try.prog 87 h.next h [.agg ⟨p.cells⟩, .pointer (some ⟨r, 0, none⟩)] (fun v _ => v = .bool (decide (¬ T.On p))) := by
  obtain ⟨kP, kA, kR⟩ := hT
  have gp := g.rp
  have ga := g.ra
  have g2 := g.p2
  have g3 := g.a2
  obtain ⟨g4, g5⟩ := g.n6
  have hg' : h.get r = some (.cells [.slice T.P.b T.P.n T.P.c, .slice T.A.b T.A.n T.A.c, .slice T.R.b T.R.n T.R.c] e) := hg
  refine fun87.call rfl (Nat.le_refl _) ?_
  unfold a87 Pt.cells
  (focus ((try with_reducible apply wpC.to); (repeat' ((conv => whnf); first | refine byEv ?_ | ((apply q_call); (focus exact byNext); (focus exact byLo); (focus (exact kChartF0)); first | ((apply q_allB) <;> (intro z_b _ _ _; first | exact Bool.noConfusion z_b | replace z_b := of_decide_eq_true z_b | replace z_b := of_decide_eq_false z_b | skip) <;> (first | contradiction | (revert z_b; intros))) | ((apply q_alli) <;> (intro _ _ _ _; try contradiction)) | ((apply q_allv); intro _ _ _)) | fail)); all_goals (conv => whnf); all_goals (try with_reducible apply At.mk)))
  generalize h1 : decide (AE.Try.On T.P.f T.P.n p.p) = b1
  generalize h2 : decide (AE.Try.On T.A.f T.A.n p.a) = b2
  cases b1 <;> cases b2 <;> (focus ((try with_reducible apply wpC.to); (repeat' ((conv => whnf); first | refine byEv ?_ | ((apply q_call); (focus exact byNext); (focus exact byLo); (focus (exact kChartF0)); first | ((apply q_allB) <;> (intro z_b _ _ _; first | exact Bool.noConfusion z_b | replace z_b := of_decide_eq_true z_b | replace z_b := of_decide_eq_false z_b | skip) <;> (first | contradiction | (revert z_b; intros))) | ((apply q_alli) <;> (intro _ _ _ _; try contradiction)) | ((apply q_allv); intro _ _ _)) | fail)); all_goals (conv => whnf); all_goals (try with_reducible apply At.mk))) <;> (refine byFin ?_)
  · exact bool_t rfl fun k => by have := of_decide_eq_false h1; exact this k.1
  · exact bool_t rfl fun k => by have := of_decide_eq_false h1; exact this k.1
  · exact bool_t rfl fun k => by have := of_decide_eq_false h2; exact this k.2
  · exact bool_f rfl fun k => k ⟨of_decide_eq_true h1, of_decide_eq_true h2⟩

theorem on_w {h : H} {T : Tbl} {S : Pts} {m : Nat} (hm : m ≤ h.next) (hT : T.Ok m h) (hS : S.Ok m h) (g : T.Good) : AW Try.prog 49 h.next h [.agg ⟨T.cells⟩, .slice S.b S.n S.c] (fun v _ => v = .bool (decide (∀ i, i < S.n → T.On (S.f i)))) := by
  refine fun49.call rfl (Nat.le_refl _) ?_
  unfold a49 Tbl.cells
  (focus ((try with_reducible apply wpC.to); (repeat' ((conv => whnf); first | refine byEv ?_ | fail)); all_goals (conv => whnf); all_goals (try with_reducible apply At.mk)))
  apply q_callB
  focus (exact byNext)
  focus (exact byLo)
  focus
    refine anyPts_w (m := m) (p := fun i => decide (¬ T.On (S.f i))) (by (exact byOm)) (hS.same (by (exact bySame)) (Nat.le_refl _)) fun i k1 hi q => ?_
    exact acall_of (off_w (m := m) (e := 84) (r := h.next) (by have := q.next; (exact byOm)) (hT.same (Same.quiet (by (exact bySame)) q (by (exact byOm))) (Nat.le_refl _)) g ((q.same _ (by (exact byOm))).trans (by (exact byGet))) (by have := q.next; (exact byOm))) rfl
  · intro hb h2 q hn
    (focus ((try with_reducible apply wpC.to); (repeat' ((conv => whnf); first | refine byEv ?_ | fail)); all_goals (conv => whnf); all_goals (try with_reducible apply At.mk)))
    (refine byFin ?_)
    refine bool_f rfl fun hall => ?_
    obtain ⟨i, hi, h3⟩ := of_decide_eq_true hb
    exact of_decide_eq_true h3 (hall i hi)
  · intro hb h2 q hn
    (focus ((try with_reducible apply wpC.to); (repeat' ((conv => whnf); first | refine byEv ?_ | fail)); all_goals (conv => whnf); all_goals (try with_reducible apply At.mk)))
    (refine byFin ?_)
    refine bool_t rfl fun i hi => ?_
    have := of_decide_eq_false hb
    exact Classical.byContradiction fun hx => this ⟨i, hi, decide_eq_true hx⟩
/-- Of one point that the code has made. -/
theorem on1_w {h : H} {T : Tbl} {p : Pt} {m r : Nat} {e : TypeId} (hm : m ≤ h.next) (hT : T.Ok m h) (g : T.Good) (hg : h.get r = some (.cells p.cells e)) (hr : r < h.next) : AW Try.prog 49 h.next h [.agg ⟨T.cells⟩, .slice (some ⟨r, 0, none⟩) 1 1] (fun v _ => v = .bool (decide (T.On p))) := by
  obtain ⟨v, h', e1, k⟩ := on_w (h := h) (S := ⟨1, fun _ => p, some ⟨r, 0, none⟩, ⟨r, 0, none⟩, 1⟩) (m := h.next) (Nat.le_refl _) (hT.same (Same.refl _ _) hm) ⟨fun _ => rfl, fun i hi => by
    have hi : i < 1 := hi
    obtain rfl : i = 0 := by omega
    exact loadN_cells hg rfl, fun _ => hr, by show 1 ≤ _; omega⟩ g
  refine ⟨v, h', ?_, k⟩
  rw [e1]
  congr 1
  exact decide_eq_decide.2 ⟨fun k => k 0 (by show 0 < 1; omega), fun k i hi => k⟩
/-! ### corners -/

def Tbl.i (T : Tbl) (p : Pt) : Nat := nb T.P.f T.P.n p.p
def Tbl.k (T : Tbl) (p : Pt) : Nat := nb T.A.f T.A.n p.a
def Tbl.x (T : Tbl) (p : Pt) (a : Nat) : Int := if a = 0 then T.P.f (T.i p + 1) - p.p else p.p - T.P.f (T.i p)
def Tbl.y (T : Tbl) (p : Pt) (b : Nat) : Int := if b = 0 then T.A.f (T.k p + 1) - p.a else p.a - T.A.f (T.k p)
def Tbl.wt (T : Tbl) (p : Pt) (a b : Nat) : Int := T.x p a * T.y p b
/-- What is known of the places around a point. -/
structure Around (T : Tbl) (p : Pt) : Prop where
  i : T.i p + 1 < T.P.n
  k : T.k p + 1 < T.A.n
  x : ∀ a, 0 ≤ T.x p a ∧ T.x p a ≤ 2000
  y : ∀ b, 0 ≤ T.y p b ∧ T.y p b ≤ 2000
  xs : 0 < T.x p 0 + T.x p 1 ∧ T.x p 0 + T.x p 1 ≤ 2000
  ys : 0 < T.y p 0 + T.y p 1 ∧ T.y p 0 + T.y p 1 ≤ 2000
theorem Tbl.Good.around {T : Tbl} (g : T.Good) {p : Pt} (o : T.On p) : Around T p := by
  obtain ⟨a1, a2, a3, a4⟩ := nb_spec g.rp g.p2 o.1
  obtain ⟨b1, b2, b3, b4⟩ := nb_spec g.ra g.a2 o.2
  have u1 := g.rp.up _ a1
  have u2 := g.ra.up _ b1
  have v1 := g.rp.rng _ a1
  have v2 := g.rp.rng (T.i p) (by unfold Tbl.i; omega)
  have v3 := g.ra.rng _ b1
  have v4 := g.ra.rng (T.k p) (by unfold Tbl.k; omega)
  refine ⟨a1, b1, fun a => ?_, fun b => ?_, ?_, ?_⟩
  · unfold Tbl.x Tbl.i at *; split <;> omega
  · unfold Tbl.y Tbl.k at *; split <;> omega
  · unfold Tbl.x Tbl.i at *; simp only [if_true, Nat.one_ne_zero, if_false]; omega
  · unfold Tbl.y Tbl.k at *; simp only [if_true, Nat.one_ne_zero, if_false]; omega
theorem Around.wt {T : Tbl} {p : Pt} (k : Around T p) (a b : Nat) : 0 ≤ T.wt p a b ∧ T.wt p a b ≤ 4000000 := by
  obtain ⟨x1, x2⟩ := k.x a
  obtain ⟨y1, y2⟩ := k.y b
  unfold Tbl.wt
  refine ⟨Int.mul_nonneg x1 y1, ?_⟩
  exact Int.le_trans (Int.mul_le_mul_of_nonneg_right x2 y1) (by omega)
/-- The rows that the corners keep. -/
structure CRows (T : Tbl) (p : Pt) (r1 r2 r3 r4 : Nat) (h : H) : Prop where
  g1 : h.get r1 = some (.cells [.int .i64 (T.i p)] 3)
  g2 : h.get r2 = some (.cells [.int .i64 (T.k p)] 3)
  g3 : h.get r3 = some (.cells [.int .i64 (T.x p 0), .int .i64 (T.x p 1)] 136)
  g4 : h.get r4 = some (.cells [.int .i64 (T.y p 0), .int .i64 (T.y p 1)] 136)
def cornV (r1 r2 r3 r4 : Nat) : Value := .func (.func 99) ⟨[]⟩ ⟨[.pointer (some ⟨r1, 0, none⟩), .pointer (some ⟨r2, 0, none⟩), .pointer (some ⟨r3, 0, none⟩), .pointer (some ⟨r4, 0, none⟩)]⟩

set_option maxHeartbeats 1000000 in
theorem corners_w {h : H} {T : Tbl} {m : Nat} {p : Pt} (hm : m ≤ h.next) (hT : T.Ok m h) (g : T.Good) (o : T.On p) : AW Try.prog 89 h.next h [.agg ⟨T.cells⟩, .agg ⟨p.cells⟩] (fun v h' => ∃ r1 r2 r3 r4, v = cornV r1 r2 r3 r4 ∧ CRows T p r1 r2 r3 r4 h' ∧ (h.next ≤ r1 ∧ r1 < h'.next) ∧ (h.next ≤ r2 ∧ r2 < h'.next) ∧ (h.next ≤ r3 ∧ r3 < h'.next) ∧ (h.next ≤ r4 ∧ r4 < h'.next)) := by
  have ar := g.around o
  obtain ⟨kP, kA, kR⟩ := hT
  have gp := g.rp
  have ga := g.ra
  have gp2 := g.p2
  have ga2 := g.a2
  obtain ⟨g4, g5⟩ := g.n6
  obtain ⟨e1, i1, r1, l1⟩ := kP
  obtain ⟨e2, i2, r2, l2⟩ := kA
  have ai := ar.i
  have ak := ar.k
  have rP : T.P.a.block < m := r1 (by omega)
  have rA : T.A.a.block < m := r2 (by omega)
  have x0 := ar.x 0
  have x1 := ar.x 1
  have y0 := ar.y 0
  have y1 := ar.y 1
  have kP : T.P.Ok m h := ⟨e1, i1, r1, l1⟩
  have kA : T.A.Ok m h := ⟨e2, i2, r2, l2⟩
  unfold Tbl.x Tbl.i at x0 x1
  unfold Tbl.y Tbl.k at y0 y1
  unfold Tbl.i at ai
  unfold Tbl.k at ak
  refine fun89.call rfl (Nat.le_refl _) ?_
  unfold a89 Tbl.cells Pt.cells
  (focus ((try with_reducible apply wpC.to); (repeat' ((conv => whnf); first | refine byEv ?_ | ((apply q_call); (focus exact byNext); (focus exact byLo); (focus (exact kChartF0)); first | ((apply q_allB) <;> (intro z_b _ _ _; first | exact Bool.noConfusion z_b | replace z_b := of_decide_eq_true z_b | replace z_b := of_decide_eq_false z_b | skip) <;> (first | contradiction | (revert z_b; intros))) | ((apply q_alli) <;> (intro _ _ _ _; try contradiction)) | ((apply q_allv); intro _ _ _)) | fail)); all_goals (conv => whnf); all_goals (try with_reducible apply At.mk)))
  (refine byFin ?_)
  refine ⟨_, _, _, _, rfl, ⟨?_, ?_, ?_, ?_⟩, ?_, ?_, ?_, ?_⟩
  · (exact byGet)
  · (exact byGet)
  · (exact byGet)
  · (exact byGet)
  all_goals (exact byOm)
end AE.Try
