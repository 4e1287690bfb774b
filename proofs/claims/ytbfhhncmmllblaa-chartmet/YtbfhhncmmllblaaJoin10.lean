/- Walks and plain laws: ChartJ, ChartK. -/
import Derived.Test.YtbfhhncmmllblaaChartI
set_option linter.unusedVariables false
set_option linter.unusedSimpArgs false
set_option linter.unusedSectionVars false

/- Walks of chart: Value, Span. -/
namespace AE.Try
open Go AE Go.Proofs
set_option maxRecDepth 100000
set_option linter.unusedVariables false

theorem lo_w {h : H} {T : Tbl} {m i k : Nat} {z1 z2 : Int} (hm : m ≤ h.next) (hT : T.Ok m h) (hi : i < T.R.n) (hk : k < T.R.w i) (e1 : z1 = i) (e2 : z2 = k) : AW Try.prog 55 h.next h [.agg ⟨T.cells⟩, .agg ⟨[.int .i64 z1, .int .i64 z2]⟩] (fun v _ => v = .int .i64 (T.lo i k)) := by
  subst e1 e2
  obtain ⟨kP, kA, ⟨e1, i1, r1, l1, re, ri, rr, rl⟩⟩ := hT
  have x1 := r1 (by omega)
  have x2 := rr i hi (by omega)
  have x3 := re i hi
  have x4 := ri i hi
  have x5 := x4 k hk
  have x6 := rl i hi
  refine fun55.call rfl (Nat.le_refl _) ?_
  unfold a55 Tbl.cells
  (focus ((try with_reducible apply wpC.to); (repeat' ((conv => whnf); first | refine byEv ?_ | fail)); all_goals (conv => whnf); all_goals (try with_reducible apply At.mk)))
  refine Load1.mk (v := .int .i64 (T.lo i k)) ?_ rfl ?_
  · have : h.loadN (aadd (aadd (T.R.ra i) (k * 2)) 0) 1 = some [.int .i64 (T.lo i k)] := load_part x5 rfl
    (exact byOld)
  (focus ((try with_reducible apply wpC.to); (repeat' ((conv => whnf); first | refine byEv ?_ | fail)); all_goals (conv => whnf); all_goals (try with_reducible apply At.mk)))
  (refine byFin ?_)
  rfl
theorem hi_w {h : H} {T : Tbl} {m i k : Nat} {z1 z2 : Int} (hm : m ≤ h.next) (hT : T.Ok m h) (hi : i < T.R.n) (hk : k < T.R.w i) (e1 : z1 = i) (e2 : z2 = k) : AW Try.prog 56 h.next h [.agg ⟨T.cells⟩, .agg ⟨[.int .i64 z1, .int .i64 z2]⟩] (fun v _ => v = .int .i64 (T.hi i k)) := by
  subst e1 e2
  obtain ⟨kP, kA, ⟨e1, i1, r1, l1, re, ri, rr, rl⟩⟩ := hT
  have x1 := r1 (by omega)
  have x2 := rr i hi (by omega)
  have x3 := re i hi
  have x4 := ri i hi
  have x5 := x4 k hk
  have x6 := rl i hi
  refine fun56.call rfl (Nat.le_refl _) ?_
  unfold a56 Tbl.cells
  (focus ((try with_reducible apply wpC.to); (repeat' ((conv => whnf); first | refine byEv ?_ | fail)); all_goals (conv => whnf); all_goals (try with_reducible apply At.mk)))
  refine Load1.mk (v := .int .i64 (T.hi i k)) ?_ rfl ?_
  · have : h.loadN (aadd (aadd (T.R.ra i) (k * 2)) 1) 1 = some [.int .i64 (T.hi i k)] := load_part x5 rfl
    (exact byOld)
  (focus ((try with_reducible apply wpC.to); (repeat' ((conv => whnf); first | refine byEv ?_ | fail)); all_goals (conv => whnf); all_goals (try with_reducible apply At.mk)))
  (refine byFin ?_)
  rfl
theorem pull_w {h : H} {p : Pul} {m r i k : Nat} {z1 z2 : Int} {e : TypeId} (hm : m ≤ h.next) (hp : p.Ok m h) (hg : h.get r = some (.cells [.slice p.M.b p.M.n p.M.c] e)) (hr : r < h.next) (hi : i < p.M.n) (hk : k < p.M.w i) (e1 : z1 = i) (e2 : z2 = k) : AW Try.prog 51 h.next h [.agg ⟨[.int .i64 z1, .int .i64 z2]⟩, .pointer (some ⟨r, 0, none⟩)] (fun v _ => v = .int .i64 (p.f i k)) := by
  subst e1 e2
  obtain ⟨e1, i1, r1, l1, re, ri, rr, rl, -⟩ := hp
  have x1 := r1 (by omega)
  have x2 := rr i hi (by omega)
  have x3 := re i hi
  have x4 := ri i hi
  have x6 := rl i hi
  refine fun51.call rfl (Nat.le_refl _) ?_
  unfold a51
  (focus ((try with_reducible apply wpC.to); (repeat' ((conv => whnf); first | refine byEv ?_ | fail)); all_goals (conv => whnf); all_goals (try with_reducible apply At.mk)))
  (refine byFin ?_)
  rfl
def loV (T : Tbl) : Value := .func (.func 55) ⟨[.agg ⟨T.cells⟩]⟩ ⟨[]⟩
def hiV (T : Tbl) : Value := .func (.func 56) ⟨[.agg ⟨T.cells⟩]⟩ ⟨[]⟩
theorem lo_pull {h : H} {T : Tbl} {m : Nat} (hT : T.Ok m h) (g : T.Good) : Pull (loV T) T.lo T.P.n T.A.n m h :=
  ⟨fun h1 s n1 i k z1 z2 hi hk e1 e2 => acall_of (lo_w (m := m) n1 (hT.same s (Nat.le_refl _)) (by rw [g.n]; exact hi) (by rw [g.w i hi]; exact hk) e1 e2) rfl, fun i k hi hk => by have := g.bd i k hi hk; unfold Tbl.Bd at this; omega⟩
theorem hi_pull {h : H} {T : Tbl} {m : Nat} (hT : T.Ok m h) (g : T.Good) : Pull (hiV T) T.hi T.P.n T.A.n m h :=
  ⟨fun h1 s n1 i k z1 z2 hi hk e1 e2 => acall_of (hi_w (m := m) n1 (hT.same s (Nat.le_refl _)) (by rw [g.n]; exact hi) (by rw [g.w i hi]; exact hk) e1 e2) rfl, fun i k hi hk => by have := g.bd i k hi hk; unfold Tbl.Bd at this; omega⟩

/-- True pulls. -/
structure Tbl.True (T : Tbl) (p : Pul) : Prop where
  n : p.M.n = T.P.n
  w : ∀ i, i < T.P.n → p.M.w i = T.A.n
  rng : ∀ i k, i < T.P.n → k < T.A.n → T.lo i k ≤ p.f i k ∧ p.f i k ≤ T.hi i k
theorem Tbl.true {T : Tbl} {p : Pul} (h : T.terr p = 0) : T.Good ∧ T.True p := by
  unfold Tbl.terr at h
  split at h
  · omega
  rename_i h1
  split at h
  · omega
  rename_i h2
  split at h
  · omega
  rename_i h3
  split at h
  · omega
  rename_i h4
  have g := Tbl.good (Classical.not_not.1 h1)
  have h2 := Classical.not_not.1 h2
  have hn := g.n
  have hw : ∀ i, i < T.P.n → p.M.w i = T.A.n := fun i hi => by
    rw [← g.w i hi]
    exact Classical.byContradiction fun hx => h3 ⟨i, by omega, hx⟩
  refine ⟨g, by omega, hw, fun i k hi hk => ?_⟩
  have : ¬ T.Off p i k := fun ho => h4 ⟨i, by omega, k, by rw [hw i hi]; exact hk, ho⟩
  unfold Tbl.Off at this
  omega
theorem Tbl.True.err {T : Tbl} {p : Pul} (g : T.Good) (t : T.True p) : T.terr p = 0 := by
  have hn := g.n
  have hpn := t.n
  unfold Tbl.terr
  rw [if_neg (fun k => k g.err), if_neg (fun k => k (by omega)), if_neg (fun ⟨i, hi, hx⟩ => hx ((t.w i (by omega)).trans (g.w i (by omega)).symm)), if_neg]
  rintro ⟨i, hi, k, hk, ho⟩
  rw [t.w i (by omega)] at hk
  have := t.rng i k (by omega) hk
  unfold Tbl.Off at ho
  omega
theorem Tbl.True.bd {T : Tbl} {p : Pul} (g : T.Good) (t : T.True p) : ∀ i k, i < T.P.n → k < T.A.n → 0 ≤ p.f i k ∧ p.f i k ≤ 100000 := fun i k hi hk => by
  have := g.bd i k hi hk
  unfold Tbl.Bd at this
  have := t.rng i k hi hk
  omega
def pulV (r : Nat) : Value := .func (.func 51) ⟨[]⟩ ⟨[.pointer (some ⟨r, 0, none⟩)]⟩
theorem pul_pull {h : H} {T : Tbl} {p : Pul} {m r : Nat} {e : TypeId} (hp : p.Ok m h) (g : T.Good) (t : T.True p) (hg : h.get r = some (.cells [.slice p.M.b p.M.n p.M.c] e)) (hr : r < m) : Pull (pulV r) p.f T.P.n T.A.n m h :=
  ⟨fun h1 s n1 i k z1 z2 hi hk e1 e2 => acall_of (pull_w (m := m) n1 (hp.same s (Nat.le_refl _)) (by rw [s r hr]; exact hg) (by omega) (by rw [t.n]; exact hi) (by rw [t.w i hi]; exact hk) e1 e2) rfl, t.bd g⟩

open Classical in
noncomputable def Tbl.verr (T : Tbl) (p : Pul) (at_ : Pt) : Int := if T.terr p ≠ 0 then T.terr p else if ¬ T.On at_ then 19 else 0
open Classical in
noncomputable def Tbl.vres (T : Tbl) (p : Pul) (at_ : Pt) : Fr := if T.verr p at_ = 0 then T.val at_ p.f else ⟨0, 0⟩

theorem kChartJ0 {G : Prop} (g : G := by ((apply true_w; rotate_left; (focus (apply Tbl.Ok.same; (focus assumption); (focus exact bySame); (focus exact Nat.le_refl _))); (focus (apply Pul.Ok.same; (focus assumption); (focus exact bySame); (focus exact Nat.le_refl _))); (focus exact byOm)))) : G := g
theorem kChartJ1 {G : Prop} (g : G := by ((apply on1_w; rotate_left; (focus (apply Tbl.Ok.same; (focus assumption); (focus exact bySame); (focus exact Nat.le_refl _))); (focus assumption); (focus exact byGet); (focus exact byOm); (focus exact byOm)))) : G := g

theorem Value_w {h : H} {T : Tbl} {p : Pul} {at_ : Pt} {m : Nat} (hm : m ≤ h.next) (hT : T.Ok m h) (hp : p.Ok m h) : AW Try.prog 15 h.next h [.agg ⟨T.cells⟩, .slice p.M.b p.M.n p.M.c, .agg ⟨at_.cells⟩] (fun v _ => v = .tuple #[.agg ⟨(T.vres p at_).cells⟩, .int .i64 (T.verr p at_)]) := by
  refine fun15.call rfl (Nat.le_refl _) ?_
  unfold a15 Tbl.cells Pt.cells
  (focus ((try with_reducible apply wpC.to); (repeat' ((conv => whnf); first | refine byEv ?_ | ((apply Fork.mk) <;> (intro _; try (exfalso; omega; done))) | ((apply q_call); (focus exact byNext); (focus exact byLo); (focus (first | exact kChartJ1 | exact kChartJ0)); first | ((apply q_allB) <;> (intro z_b _ _ _; first | exact Bool.noConfusion z_b | replace z_b := of_decide_eq_true z_b | replace z_b := of_decide_eq_false z_b | skip) <;> (first | contradiction | (revert z_b; intros))) | ((apply q_alli) <;> (intro _ _ _ _; try contradiction)) | ((apply q_allv); intro _ _ _)) | fail)); all_goals (conv => whnf); all_goals (try with_reducible apply At.mk)))
  · have hne : T.verr p at_ ≠ 0 := by unfold Tbl.verr; rw [if_pos (by assumption)]; assumption
    have he : T.verr p at_ = T.terr p := by unfold Tbl.verr; rw [if_pos (by assumption)]
    (refine byFin ?_)
    unfold Tbl.vres
    rw [if_neg hne, he]
    rfl
  obtain ⟨g, t⟩ := Tbl.true (T := T) (p := p) (by assumption)
  (focus ((try with_reducible apply wpC.to); (repeat' ((conv => whnf); first | refine byEv ?_ | ((apply Fork.mk) <;> (intro _; try (exfalso; omega; done))) | ((apply q_call); (focus exact byNext); (focus exact byLo); (focus (first | exact kChartJ1 | exact kChartJ0)); first | ((apply q_allB) <;> (intro z_b _ _ _; first | exact Bool.noConfusion z_b | replace z_b := of_decide_eq_true z_b | replace z_b := of_decide_eq_false z_b | skip) <;> (first | contradiction | (revert z_b; intros))) | ((apply q_alli) <;> (intro _ _ _ _; try contradiction)) | ((apply q_allv); intro _ _ _)) | fail)); all_goals (conv => whnf); all_goals (try with_reducible apply At.mk)))
  · have he : T.verr p at_ = 0 := by unfold Tbl.verr; rw [if_neg (fun k => k (by assumption)), if_neg (fun k => k (by assumption))]
    apply q_call
    focus (exact byNext)
    focus (exact byLo)
    focus exact value_w (T := T) (p := at_) (fs := ⟨[]⟩) (cs := ⟨[.pointer (some ⟨h.next + 1, 0, none⟩)]⟩) (f := p.f) (m := h.next + 4) (by (exact byOm)) (hT.same (by (exact bySame)) (by omega)) g (by assumption) (pul_pull (r := h.next + 1) (e := 26) (hp.same (by (exact bySame)) (by omega)) g t (by (exact byGet)) (by omega))
    rintro _ h3 rfl q3 n3
    (focus ((try with_reducible apply wpC.to); (repeat' ((conv => whnf); first | refine byEv ?_ | ((apply Fork.mk) <;> (intro _; try (exfalso; omega; done))) | ((apply q_call); (focus exact byNext); (focus exact byLo); (focus (first | exact kChartJ1 | exact kChartJ0)); first | ((apply q_allB) <;> (intro z_b _ _ _; first | exact Bool.noConfusion z_b | replace z_b := of_decide_eq_true z_b | replace z_b := of_decide_eq_false z_b | skip) <;> (first | contradiction | (revert z_b; intros))) | ((apply q_alli) <;> (intro _ _ _ _; try contradiction)) | ((apply q_allv); intro _ _ _)) | fail)); all_goals (conv => whnf); all_goals (try with_reducible apply At.mk)))
    (refine byFin ?_)
    unfold Tbl.vres
    rw [he, if_pos rfl]
    rfl
  · have he : T.verr p at_ = 19 := by unfold Tbl.verr; rw [if_neg (fun k => k (by assumption)), if_pos (by assumption)]
    (refine byFin ?_)
    unfold Tbl.vres
    rw [he, if_neg (by decide)]
    rfl
end AE.Try

/- Walks of chart: newSheet, Span. -/
namespace AE.Try
open Go AE Go.Proofs
set_option maxRecDepth 100000
set_option linter.unusedVariables false

open Classical in
noncomputable def Tbl.nerr (T : Tbl) (o : Prop) : Int := if T.err ≠ 0 then T.err else if ¬ o then 19 else 0
theorem Tbl.nerr_congr (T : Tbl) {o o' : Prop} (h : o ↔ o') : T.nerr o = T.nerr o' := by rw [propext h]
theorem Tbl.nerr_ok {T : Tbl} {o : Prop} (h : T.nerr o = 0) : T.Good ∧ o := by
  unfold Tbl.nerr at h
  split at h
  · omega
  rename_i h1
  split at h
  · omega
  rename_i h2
  exact ⟨Tbl.good (Classical.not_not.1 h1), Classical.not_not.1 h2⟩
theorem Tbl.Good.nerr {T : Tbl} {o : Prop} (g : T.Good) (h : o) : T.nerr o = 0 := by
  unfold Tbl.nerr
  rw [if_neg (fun k => k g.err), if_neg (fun k => k h)]

theorem kChartK0 {G : Prop} (g : G := by ((apply on_w; rotate_left; (focus (apply Tbl.Ok.same; (focus assumption); (focus exact bySame); (focus exact Nat.le_refl _))); (focus (apply Pts.Ok.same; (focus assumption); (focus exact bySame); (focus exact Nat.le_refl _))); (focus assumption); (focus exact byOm)))) : G := g

theorem sheet_w {h : H} {T : Tbl} {S : Pts} {m : Nat} (hm : m ≤ h.next) (hT : T.Ok m h) (hS : S.Ok m h) : AW Try.prog 54 h.next h [.agg ⟨T.cells⟩, .slice S.b S.n S.c] (fun v _ => v = .tuple #[.agg ⟨T.cells⟩, .int .i64 (T.nerr (∀ i, i < S.n → T.On (S.f i)))]) := by
  refine fun54.call rfl (Nat.le_refl _) ?_
  unfold a54 Tbl.cells
  (focus ((try with_reducible apply wpC.to); (repeat' ((conv => whnf); first | refine byEv ?_ | ((apply Fork.mk) <;> (intro _; try (exfalso; omega; done))) | ((apply q_call); (focus exact byNext); (focus exact byLo); (focus (first | exact kChartK0 | exact kChartJ1 | exact kChartE0)); first | ((apply q_allB) <;> (intro z_b _ _ _; first | exact Bool.noConfusion z_b | replace z_b := of_decide_eq_true z_b | replace z_b := of_decide_eq_false z_b | skip) <;> (first | contradiction | (revert z_b; intros))) | ((apply q_alli) <;> (intro _ _ _ _; try contradiction)) | ((apply q_allv); intro _ _ _)) | fail)); all_goals (conv => whnf); all_goals (try with_reducible apply At.mk)))
  · have he : T.nerr (∀ i, i < S.n → T.On (S.f i)) = T.err := by unfold Tbl.nerr; rw [if_pos (by assumption)]
    (refine byFin ?_)
    rw [he]
  have g := Tbl.good (T := T) (by assumption)
  (focus ((try with_reducible apply wpC.to); (repeat' ((conv => whnf); first | refine byEv ?_ | ((apply Fork.mk) <;> (intro _; try (exfalso; omega; done))) | ((apply q_call); (focus exact byNext); (focus exact byLo); (focus (first | exact kChartK0 | exact kChartJ1 | exact kChartE0)); first | ((apply q_allB) <;> (intro z_b _ _ _; first | exact Bool.noConfusion z_b | replace z_b := of_decide_eq_true z_b | replace z_b := of_decide_eq_false z_b | skip) <;> (first | contradiction | (revert z_b; intros))) | ((apply q_alli) <;> (intro _ _ _ _; try contradiction)) | ((apply q_allv); intro _ _ _)) | fail)); all_goals (conv => whnf); all_goals (try with_reducible apply At.mk)))
  · have he : T.nerr (∀ i, i < S.n → T.On (S.f i)) = 0 := g.nerr (by assumption)
    (refine byFin ?_)
    rw [he]
  · have he : T.nerr (∀ i, i < S.n → T.On (S.f i)) = 19 := by unfold Tbl.nerr; rw [if_neg (fun k => k g.err), if_pos (by assumption)]
    (refine byFin ?_)
    rw [he]
theorem sheet0_w {h : H} {T : Tbl} {m : Nat} (hm : m ≤ h.next) (hT : T.Ok m h) : AW Try.prog 54 h.next h [.agg ⟨T.cells⟩, .slice none 0 0] (fun v _ => v = .tuple #[.agg ⟨T.cells⟩, .int .i64 T.err]) := by
  obtain ⟨v, h', e1, k⟩ := sheet_w (h := h) (S := ⟨0, fun _ => ⟨0, 0⟩, none, ⟨0, 0, none⟩, 0⟩) (m := m) hm hT ⟨fun h => absurd h (by decide), fun i hi => absurd hi (Nat.not_lt_zero _), fun h => absurd h (by decide), by decide⟩
  refine ⟨v, h', ?_, k⟩
  rw [e1]
  have : T.nerr (∀ i, i < 0 → T.On ⟨0, 0⟩) = T.err := by
    unfold Tbl.nerr
    split
    · rfl
    · rename_i h1
      rw [if_neg (fun k => k fun i hi => by omega)]
      exact (Classical.not_not.1 h1).symm
  exact congrArg (fun z => Value.tuple #[.agg ⟨T.cells⟩, .int .i64 z]) this
theorem sheet1_w {h : H} {T : Tbl} {p : Pt} {m r : Nat} {e : TypeId} (hm : m ≤ h.next) (hT : T.Ok m h) (hg : h.get r = some (.cells p.cells e)) (hr : r < h.next) : AW Try.prog 54 h.next h [.agg ⟨T.cells⟩, .slice (some ⟨r, 0, none⟩) 1 1] (fun v _ => v = .tuple #[.agg ⟨T.cells⟩, .int .i64 (T.nerr (T.On p))]) := by
  obtain ⟨v, h', e1, k⟩ := sheet_w (h := h) (S := ⟨1, fun _ => p, some ⟨r, 0, none⟩, ⟨r, 0, none⟩, 1⟩) (m := h.next) (Nat.le_refl _) (hT.same (Same.refl _ _) hm) ⟨fun _ => rfl, fun i hi => by
    have hi : i < 1 := hi
    obtain rfl : i = 0 := by omega
    exact loadN_cells hg rfl, fun _ => hr, by show 1 ≤ _; omega⟩
  refine ⟨v, h', ?_, k⟩
  rw [e1]
  exact congrArg (fun z => Value.tuple #[.agg ⟨T.cells⟩, .int .i64 z]) (T.nerr_congr ⟨fun k => k 0 (by show 0 < 1; omega), fun k i hi => k⟩)
theorem sheet2_w {h : H} {T : Tbl} {p q : Pt} {m r : Nat} {e : TypeId} (hm : m ≤ h.next) (hT : T.Ok m h) (hg : h.get r = some (.cells (p.cells ++ q.cells) e)) (hr : r < h.next) : AW Try.prog 54 h.next h [.agg ⟨T.cells⟩, .slice (some ⟨r, 0, none⟩) 2 2] (fun v _ => v = .tuple #[.agg ⟨T.cells⟩, .int .i64 (T.nerr (T.On p ∧ T.On q))]) := by
  obtain ⟨v, h', e1, k⟩ := sheet_w (h := h) (S := ⟨2, fun i => if i = 0 then p else q, some ⟨r, 0, none⟩, ⟨r, 0, none⟩, 2⟩) (m := h.next) (Nat.le_refl _) (hT.same (Same.refl _ _) hm) ⟨fun _ => rfl, fun i hi => by
    have hi : i < 2 := hi
    obtain rfl | rfl : i = 0 ∨ i = 1 := by omega
    · exact loadN_cells hg rfl
    · exact loadN_cells (off := 0 + 1 * 2) hg rfl, fun _ => hr, by show 2 ≤ _; omega⟩
  refine ⟨v, h', ?_, k⟩
  rw [e1]
  refine congrArg (fun z => Value.tuple #[.agg ⟨T.cells⟩, .int .i64 z]) (T.nerr_congr ⟨fun k => ⟨k 0 (by show 0 < 2; omega), k 1 (by show 1 < 2; omega)⟩, fun k i hi => ?_⟩)
  have hi : i < 2 := hi
  obtain rfl | rfl : i = 0 ∨ i = 1 := by omega
  · exact k.1
  · exact k.2
theorem kChartK1 {G : Prop} (g : G := by ((apply sheet0_w; rotate_left; (focus (apply Tbl.Ok.same; (focus assumption); (focus exact bySame); (focus exact Nat.le_refl _))); (focus exact byOm)))) : G := g
theorem kChartK2 {G : Prop} (g : G := by ((apply sheet1_w; rotate_left; (focus (apply Tbl.Ok.same; (focus assumption); (focus exact bySame); (focus exact Nat.le_refl _))); (focus exact byGet); (focus exact byOm); (focus exact byOm)))) : G := g

open Classical in
noncomputable def Tbl.span (T : Tbl) (p : Pt) : Fr × Fr := if T.nerr (T.On p) = 0 then (T.val p T.lo, T.val p T.hi) else (⟨0, 0⟩, ⟨0, 0⟩)

set_option maxHeartbeats 1000000 in
theorem Span_w {h : H} {T : Tbl} {p : Pt} {m : Nat} (hm : m ≤ h.next) (hT : T.Ok m h) : AW Try.prog 17 h.next h [.agg ⟨T.cells⟩, .agg ⟨p.cells⟩] (fun v _ => v = .tuple #[.agg ⟨(T.span p).1.cells ++ (T.span p).2.cells⟩, .int .i64 (T.nerr (T.On p))]) := by
  refine fun17.call rfl (Nat.le_refl _) ?_
  unfold a17 Tbl.cells Pt.cells
  (focus ((try with_reducible apply wpC.to); (repeat' ((conv => whnf); first | refine byEv ?_ | ((apply Fork.mk) <;> (intro _; try (exfalso; omega; done))) | ((apply q_call); (focus exact byNext); (focus exact byLo); (focus (first | exact kChartK2 | exact kChartK1)); first | ((apply q_allB) <;> (intro z_b _ _ _; first | exact Bool.noConfusion z_b | replace z_b := of_decide_eq_true z_b | replace z_b := of_decide_eq_false z_b | skip) <;> (first | contradiction | (revert z_b; intros))) | ((apply q_alli) <;> (intro _ _ _ _; try contradiction)) | ((apply q_allv); intro _ _ _)) | fail)); all_goals (conv => whnf); all_goals (try with_reducible apply At.mk)))
  · have e1 : T.span p = (⟨0, 0⟩, ⟨0, 0⟩) := by unfold Tbl.span; rw [if_neg (by assumption)]
    (refine byFin ?_)
    rw [e1]
    rfl
  have he : T.nerr (T.On p) = 0 := by assumption
  obtain ⟨g, o⟩ := Tbl.nerr_ok he
  have e1 : T.span p = (T.val p T.lo, T.val p T.hi) := by unfold Tbl.span; rw [if_pos he]
  (focus ((try with_reducible apply wpC.to); (repeat' ((conv => whnf); first | refine byEv ?_ | ((apply Fork.mk) <;> (intro _; try (exfalso; omega; done))) | ((apply q_call); (focus exact byNext); (focus exact byLo); (focus (first | exact kChartK2 | exact kChartK1)); first | ((apply q_allB) <;> (intro z_b _ _ _; first | exact Bool.noConfusion z_b | replace z_b := of_decide_eq_true z_b | replace z_b := of_decide_eq_false z_b | skip) <;> (first | contradiction | (revert z_b; intros))) | ((apply q_alli) <;> (intro _ _ _ _; try contradiction)) | ((apply q_allv); intro _ _ _)) | fail)); all_goals (conv => whnf); all_goals (try with_reducible apply At.mk)))
  apply q_callv
  focus (exact byNext)
  focus (exact byLo)
  focus exact value_w (T := T) (p := p) (fs := ⟨[.agg ⟨T.cells⟩]⟩) (cs := ⟨[]⟩) (f := T.lo) (m := m) (by (exact byOm)) (hT.same (by (exact bySame)) (Nat.le_refl _)) g o (lo_pull (hT.same (by (exact bySame)) (Nat.le_refl _)) g)
  intro h3 q3 n3
  (focus ((try with_reducible apply wpC.to); (repeat' ((conv => whnf); first | refine byEv ?_ | ((apply Fork.mk) <;> (intro _; try (exfalso; omega; done))) | ((apply q_call); (focus exact byNext); (focus exact byLo); (focus (first | exact kChartK2 | exact kChartK1)); first | ((apply q_allB) <;> (intro z_b _ _ _; first | exact Bool.noConfusion z_b | replace z_b := of_decide_eq_true z_b | replace z_b := of_decide_eq_false z_b | skip) <;> (first | contradiction | (revert z_b; intros))) | ((apply q_alli) <;> (intro _ _ _ _; try contradiction)) | ((apply q_allv); intro _ _ _)) | fail)); all_goals (conv => whnf); all_goals (try with_reducible apply At.mk)))
  apply q_callv
  focus (exact byNext)
  focus (exact byLo)
  focus exact value_w (T := T) (p := p) (fs := ⟨[.agg ⟨T.cells⟩]⟩) (cs := ⟨[]⟩) (f := T.hi) (m := m) (by (exact byOm)) (hT.same (by (exact bySame)) (Nat.le_refl _)) g o (hi_pull (hT.same (by (exact bySame)) (Nat.le_refl _)) g)
  intro h4 q4 n4
  (focus ((try with_reducible apply wpC.to); (repeat' ((conv => whnf); first | refine byEv ?_ | ((apply Fork.mk) <;> (intro _; try (exfalso; omega; done))) | ((apply q_call); (focus exact byNext); (focus exact byLo); (focus (first | exact kChartK2 | exact kChartK1)); first | ((apply q_allB) <;> (intro z_b _ _ _; first | exact Bool.noConfusion z_b | replace z_b := of_decide_eq_true z_b | replace z_b := of_decide_eq_false z_b | skip) <;> (first | contradiction | (revert z_b; intros))) | ((apply q_alli) <;> (intro _ _ _ _; try contradiction)) | ((apply q_allv); intro _ _ _)) | fail)); all_goals (conv => whnf); all_goals (try with_reducible apply At.mk)))
  (refine byFin ?_)
  rw [e1, he]
  rfl
end AE.Try
