/- Walks of chart: Meet, Meets. -/
import Derived.Test.YtbfhhncmmllblaaChartV
set_option linter.unusedVariables false
set_option linter.unusedSimpArgs false
set_option linter.unusedSectionVars false
namespace AE.Try
open Go AE Go.Proofs
set_option maxRecDepth 100000
set_option linter.unusedVariables false

/-! ### rows that fall -/

def Asc (f : Nat → Int) (n : Nat) : Prop := ∀ i, i < n - 1 → f i ≤ f (i + 1)
def Desc (f : Nat → Int) (n : Nat) : Prop := ∀ i, i < n - 1 → f (i + 1) ≤ f i
instance (f : Nat → Int) (n : Nat) : Decidable (Asc f n) := inferInstanceAs (Decidable (∀ i, i < n - 1 → f i ≤ f (i + 1)))
instance (f : Nat → Int) (n : Nat) : Decidable (Desc f n) := inferInstanceAs (Decidable (∀ i, i < n - 1 → f (i + 1) ≤ f i))

theorem sorted_w {h : H} {a : Addr} {b : Option Addr} {n c : Nat} {f : Nat → Int} (hb : 0 < n → b = some a) (i1 : Ints h a n f) (r1 : 0 < n → a.block < h.next) (hn : n < 1000000) : AW Try.prog 66 h.next h [.slice b n c] (fun v _ => v = .bool (decide (Asc f n))) := by
  refine fun66.call rfl (Nat.le_refl _) ?_
  unfold a66
  (focus ((try with_reducible apply wpC.to); (repeat' ((conv => whnf); first | refine byEv ?_ | ((apply Fork.mk) <;> (intro _; try (exfalso; omega; done))) | ((apply q_call); (focus exact byNext); (focus exact byLo); (focus (exact kChartD2)); first | ((apply q_allB) <;> (intro z_b _ _ _; first | exact Bool.noConfusion z_b | replace z_b := of_decide_eq_true z_b | replace z_b := of_decide_eq_false z_b | skip) <;> (first | contradiction | (revert z_b; intros))) | ((apply q_alli) <;> (intro _ _ _ _; try contradiction)) | ((apply q_allv); intro _ _ _)) | fail)); all_goals (conv => whnf); all_goals (try with_reducible apply At.mk)))
  refine wp_loop (fun s : Int => [(0, .slice b n c), (3, .int .i64 s)]) (fun s h1 => Quiet h.next h h1 ∧ -1 ≤ s ∧ s < n ∧ ∀ i : Nat, s ≤ i → i + 1 < n → f i ≤ f (i + 1)) (fun s => (s + 1).toNat) ((n : Int) - 1) ⟨rfl, rfl, trivial⟩ ⟨by (exact byQuiet), by omega, by omega, fun i h1 h2 => by omega⟩ ?_
  rintro s g h1 ⟨q, h2, h3, h4⟩ K hK
  have hnx := q.next
  by_cases hs : 0 < s
  · obtain ⟨t, rfl⟩ : ∃ t : Nat, s = (t : Int) + 1 := ⟨(s - 1).toNat, by omega⟩
    have et : ((t : Int) + 1 - 1).toNat = t := by omega
    have et' : ((t : Int) + 1 - 1) = t := by omega
    (focus ((try with_reducible apply wpC.to); (repeat' ((conv => whnf); first | refine byEv ?_ | ((apply Fork.mk) <;> (intro _; try (exfalso; omega; done))) | ((apply q_call); (focus exact byNext); (focus exact byLo); (focus (exact kChartD2)); first | ((apply q_allB) <;> (intro z_b _ _ _; first | exact Bool.noConfusion z_b | replace z_b := of_decide_eq_true z_b | replace z_b := of_decide_eq_false z_b | skip) <;> (first | contradiction | (revert z_b; intros))) | ((apply q_alli) <;> (intro _ _ _ _; try contradiction)) | ((apply q_allv); intro _ _ _)) | fail)); all_goals (conv => whnf); all_goals (try with_reducible apply At.mk)))
    · rename_i hb
      rw [et] at hb
      (refine byFin ?_)
      refine bool_f rfl fun hx => ?_
      have := hx t (by omega)
      omega
    · rename_i hb
      rw [et] at hb
      refine hK (t : Int) _ _ ⟨rfl, int_of rfl (by omega), trivial⟩ ⟨by (exact byQuiet), by omega, by omega, fun i h5 h6 => ?_⟩ (by omega)
      by_cases e : i = t
      · subst e; omega
      · exact h4 i (by omega) h6
  · (focus ((try with_reducible apply wpC.to); (repeat' ((conv => whnf); first | refine byEv ?_ | ((apply Fork.mk) <;> (intro _; try (exfalso; omega; done))) | ((apply q_call); (focus exact byNext); (focus exact byLo); (focus (exact kChartD2)); first | ((apply q_allB) <;> (intro z_b _ _ _; first | exact Bool.noConfusion z_b | replace z_b := of_decide_eq_true z_b | replace z_b := of_decide_eq_false z_b | skip) <;> (first | contradiction | (revert z_b; intros))) | ((apply q_alli) <;> (intro _ _ _ _; try contradiction)) | ((apply q_allv); intro _ _ _)) | fail)); all_goals (conv => whnf); all_goals (try with_reducible apply At.mk)))
    (refine byFin ?_)
    exact bool_t rfl fun i hi => h4 i (by omega) (by omega)

def rvF (f : Nat → Int) (n s : Nat) (i : Nat) : Int := if i < s ∨ n ≤ i + s then f (n - 1 - i) else f i
set_option maxHeartbeats 1000000 in
theorem reverse_w {h : H} {lo r n c : Nat} {f : Nat → Int} (hlo : lo ≤ r) (hr : r < h.next) (hn : n < 1000000) (hg : h.get r = some (.cells (iCells f n) 2)) :
    AW Try.prog 65 lo h [.slice (some ⟨r, 0, none⟩) n c] (fun _ h' => h'.get r = some (.cells (iCells (fun i => f (n - 1 - i)) n) 2) ∧ ∀ s, s < h.next → s ≠ r → h'.get s = h.get s) := by
  refine fun65.call rfl (by omega) ?_
  unfold a65
  (focus ((try with_reducible apply wpC.to); (repeat' ((conv => whnf); first | refine byEv ?_ | ((apply Fork.mk) <;> (intro _; try (exfalso; omega; done))) | fail)); all_goals (conv => whnf); all_goals (try with_reducible apply At.mk)))
  refine wp_loop (fun s : Nat => [(0, .slice (some ⟨r, 0, none⟩) n c), (2, .int .i64 s), (3, .int .i64 (n - 1 - s))]) (fun s h1 => h1.get r = some (.cells (iCells (rvF f n s) n) 2) ∧ (∀ s, s < h.next → s ≠ r → h1.get s = h.get s) ∧ h.next ≤ h1.next ∧ 2 * s ≤ n + 1) (fun s => n - s) 0
    ⟨rfl, rfl, int_of rfl (by omega), trivial⟩ ⟨?_, ?_, by (exact byOm), by omega⟩ ?_
  · refine Eq.trans (b := h.get r) rfl (hg.trans ?_)
    rw [iCells_congr fun i hi => ?_]
    unfold rvF
    rw [if_neg (by omega)]
  · exact fun s _ _ => rfl
  rintro s g h1 ⟨G1, hsame, hn1, hs⟩ K hK
  have zi := iCells_ints G1
  have hrn : r < h1.next := by omega
  (focus ((try with_reducible apply wpC.to); (repeat' ((conv => whnf); first | refine byEv ?_ | ((apply Fork.mk) <;> (intro _; try (exfalso; omega; done))) | fail)); all_goals (conv => whnf); all_goals (try with_reducible apply At.mk)))
  · have e1 : ((n : Int) - 1 - s).toNat = n - 1 - s := by omega
    have e2 : rvF f n s s = f s := by unfold rvF; rw [if_neg (by omega)]
    have e3 : rvF f n s (n - 1 - s) = f (n - 1 - s) := by unfold rvF; rw [if_neg (by omega)]
    rw [e1, e2, e3]
    refine Sto.mk (r := r) (off := 0 + s * 1) (c' := iCells (updN (rvF f n s) s (f (n - 1 - s))) n) rfl hlo (by (exact byGet)) rfl rfl (Nat.ble_eq_true_of_le (by rw [iCells_len]; show 0 + s * 1 + 1 ≤ _; omega)) (is_eq ?_) ?_
    · exact iCells_set _ (f (n - 1 - s)) (i := s) (by omega) (by omega)
    (focus ((try with_reducible apply wpC.to); (repeat' ((conv => whnf); first | refine byEv ?_ | ((apply Fork.mk) <;> (intro _; try (exfalso; omega; done))) | fail)); all_goals (conv => whnf); all_goals (try with_reducible apply At.mk)))
    rw [e1]
    refine Sto.mk (r := r) (off := 0 + (n - 1 - s) * 1) (c' := iCells (updN (updN (rvF f n s) s (f (n - 1 - s))) (n - 1 - s) (f s)) n) rfl hlo (by (exact byGet)) rfl rfl (Nat.ble_eq_true_of_le (by rw [iCells_len]; show 0 + (n - 1 - s) * 1 + 1 ≤ _; omega)) (is_eq ?_) ?_
    · exact iCells_set _ (f s) (i := n - 1 - s) (by omega) (by omega)
    (focus ((try with_reducible apply wpC.to); (repeat' ((conv => whnf); first | refine byEv ?_ | ((apply Fork.mk) <;> (intro _; try (exfalso; omega; done))) | fail)); all_goals (conv => whnf); all_goals (try with_reducible apply At.mk)))
    refine hK (s + 1) _ _ ⟨rfl, int_of rfl (by omega), int_of rfl (by omega), trivial⟩ ⟨?_, fun j hj hne => ?_, by (exact byOm), by omega⟩ (by omega)
    · refine Eq.trans (b := some (.cells (iCells (updN (updN (rvF f n s) s (f (n - 1 - s))) (n - 1 - s) (f s)) n) 2)) (by (exact byGet)) ?_
      rw [iCells_congr fun i hi => ?_]
      simp only [updN, rvF]
      by_cases i1 : i = n - 1 - s
      · subst i1
        rw [if_pos rfl, if_pos (by omega)]
        congr 1
        omega
      · rw [if_neg i1]
        by_cases i2 : i = s
        · subst i2; rw [if_pos rfl, if_pos (by omega)]
        · rw [if_neg i2]
          by_cases i3 : i < s ∨ n ≤ i + s
          · rw [if_pos i3, if_pos (by omega)]
          · rw [if_neg i3, if_neg (by omega)]
    · rw [← hsame j hj hne]
      exact get_of fun y hy => by (exact byGet)
  · (refine byFin ?_)
    refine ⟨?_, fun j hj hne => hsame j hj hne⟩
    refine Eq.trans (b := some (.cells (iCells (rvF f n s) n) 2)) (by (exact byGet)) ?_
    rw [iCells_congr fun i hi => ?_]
    unfold rvF
    by_cases i3 : i < s ∨ n ≤ i + s
    · rw [if_pos i3]
    · rw [if_neg i3]
      congr 1
      omega

theorem intCells_i (f : Nat → Int) : ∀ n, intCells f n = iCells f n
  | 0 => by unfold iCells; rfl
  | n + 1 => by
    rw [show iCells f (n + 1) = iCells f n ++ [.int .i64 (f n)] by unfold iCells; rfl, ← intCells_i f n]
    simp [intCells, List.range_succ]
theorem asc_rev {f : Nat → Int} {n : Nat} : Asc (fun i => f (n - 1 - i)) n ↔ Desc f n := by
  constructor
  · intro h i hi
    have := h (n - 1 - (i + 1)) (by omega)
    simp only at this
    rwa [show n - 1 - (n - 1 - (i + 1)) = i + 1 by omega, show n - 1 - (n - 1 - (i + 1) + 1) = i by omega] at this
  · intro h i hi
    have := h (n - 1 - (i + 1)) (by omega)
    rwa [show n - 1 - (i + 1) + 1 = n - 1 - i by omega] at this

set_option maxHeartbeats 1000000 in
/-- Meet's own function: does a row not fall. -/
theorem notFalls_w {h : H} {a : Addr} {b : Option Addr} {n c m : Nat} {f : Nat → Int} (hm : m ≤ h.next) (h0 : 0 < n) (hb : b = some a) (hi : Ints h a n f) (hr : a.block < m) (hf : c < far) (hn : n < 1000000) : AW Try.prog 64 h.next h [.slice b n c] (fun v _ => v = .bool (decide (¬ Desc f n))) := by
  refine fun64.call rfl (Nat.le_refl _) ?_
  unfold a64
  (focus ((try with_reducible apply wpC.to); (repeat' ((conv => whnf); first | refine byEv ?_ | fail)); all_goals (conv => whnf); all_goals (try with_reducible apply At.mk)))
  refine q_mkslice (a := n) (b := n) rfl rfl (Nat.le_refl _) (by omega) ?_
  rw [reps_icells]
  (focus ((try with_reducible apply wpC.to); (repeat' ((conv => whnf); first | refine byEv ?_ | fail)); all_goals (conv => whnf); all_goals (try with_reducible apply At.mk)))
  apply q_copyI
  case hd => exact rfl
  case hs => exact rfl
  case hb => exact fun _ => hb
  case hi => exact hi.same (m := m) (by (exact bySame)) fun _ => hr
  case hn => exact h0
  case hget => (exact byGet)
  case hlen => rw [iCells_len]
  case hlo => omega
  case hfd => unfold far; omega
  case hfs => exact hf
  rw [intCells_i]
  (focus ((try with_reducible apply wpC.to); (repeat' ((conv => whnf); first | refine byEv ?_ | fail)); all_goals (conv => whnf); all_goals (try with_reducible apply At.mk)))
  apply q_callw
  focus exact reverse_w (r := h.next + 3) (n := n) (f := f) (by omega) (by (exact byOm)) (by omega) (by (exact byGet))
  rintro _ h4 ⟨G6, -⟩ q4
  have hn4 := q4.next
  simp only [put_next, bump_next] at hn4
  (focus ((try with_reducible apply wpC.to); (repeat' ((conv => whnf); first | refine byEv ?_ | fail)); all_goals (conv => whnf); all_goals (try with_reducible apply At.mk)))
  apply q_call
  focus (exact byNext)
  focus (exact byLo)
  focus exact sorted_w (a := ⟨h.next + 3, 0, none⟩) (n := n) (f := fun i => f (n - 1 - i)) (fun _ => rfl) (iCells_ints (by (exact byGet))) (fun _ => by show h.next + 3 < _; (exact byOm)) hn
  rintro _ h5 rfl q5 n5
  rw [decide_eq_decide.2 (asc_rev (f := f) (n := n)), decide_not]
  generalize decide (Desc f n) = bv
  cases bv
  all_goals (focus ((try with_reducible apply wpC.to); (repeat' ((conv => whnf); first | refine byEv ?_ | fail)); all_goals (conv => whnf); all_goals (try with_reducible apply At.mk)))
  all_goals (refine byFin ?_)
  all_goals rfl

/-! ### Meet -/

open Classical in
noncomputable def Tbl.merr (T : Tbl) (p : Pul) (x : Int) (n : Nd) : Int := if T.terr p ≠ 0 then T.terr p else if T.nderr x n ≠ 0 then T.nderr x n else if ∃ i, i < T.P.n ∧ ¬ Desc (p.f i) T.A.n then 16 else if (T.mres p.f x n).2 = Bool.true then 0 else 5
noncomputable def Tbl.mval (T : Tbl) (p : Pul) (x : Int) (n : Nd) : Fr := if T.merr p x n = 0 then (T.mres p.f x n).1 else ⟨0, 0⟩

theorem Pul.Ok.mat {p : Pul} {m : Nat} {h : H} (k : p.Ok m h) : p.M.Ok 1 (fun i j => [.int .i64 (p.f i j)]) m h :=
  ⟨k.e, k.i, k.r, k.l, k.re, fun i hi j hj => by have := k.ri i hi j hj; rw [Nat.mul_one]; exact this, k.rr, k.rl⟩
theorem Tbl.nderr_ok {T : Tbl} {x : Int} {n : Nd} (h : T.nderr x n = 0) : n.Ok ∧ AE.Try.On T.P.f T.P.n x := by
  unfold Tbl.nderr at h
  split at h
  · omega
  rename_i h1
  split at h
  · omega
  rename_i h2
  exact ⟨Decidable.not_not.1 h1, Decidable.not_not.1 h2⟩

theorem kChartW0 {G : Prop} (g : G := by ((apply checkNeed_w; rotate_left; (focus (apply Tbl.Ok.same; (focus assumption); (focus exact bySame); (focus exact Nat.le_refl _))); (focus assumption); (focus assumption); (focus exact byOm)))) : G := g

set_option maxHeartbeats 1000000 in
theorem Meet_w {h : H} {T : Tbl} {p : Pul} {m : Nat} {x : Int} {n : Nd} (hm : m ≤ h.next) (hT : T.Ok m h) (hp : p.Ok m h) (hs : -9223372036854775808 ≤ n.s ∧ n.s < 9223372036854775808) : AW Try.prog 23 h.next h [.agg ⟨T.cells⟩, .slice p.M.b p.M.n p.M.c, .int .i64 x, .agg ⟨n.cells⟩] (fun v _ => v = .tuple #[.agg ⟨(T.mval p x n).cells⟩, .int .i64 (T.merr p x n)]) := by
  refine fun23.call rfl (Nat.le_refl _) ?_
  unfold a23 Tbl.cells Nd.cells
  (focus ((try with_reducible apply wpC.to); (repeat' ((conv => whnf); first | refine byEv ?_ | ((apply Fork.mk) <;> (intro _; try (exfalso; omega; done))) | ((apply q_call); (focus exact byNext); (focus exact byLo); (focus (first | exact kChartW0 | exact kChartJ0)); first | ((apply q_allB) <;> (intro z_b _ _ _; first | exact Bool.noConfusion z_b | replace z_b := of_decide_eq_true z_b | replace z_b := of_decide_eq_false z_b | skip) <;> (first | contradiction | (revert z_b; intros))) | ((apply q_alli) <;> (intro _ _ _ _; try contradiction)) | ((apply q_allv); intro _ _ _)) | fail)); all_goals (conv => whnf); all_goals (try with_reducible apply At.mk)))
  · have hne : T.merr p x n ≠ 0 := by unfold Tbl.merr; rw [if_pos (by assumption)]; assumption
    have he : T.merr p x n = T.terr p := by unfold Tbl.merr; rw [if_pos (by assumption)]
    (refine byFin ?_)
    unfold Tbl.mval
    rw [if_neg hne, he]
    rfl
  have ht : T.terr p = 0 := by assumption
  obtain ⟨g, t⟩ := Tbl.true ht
  (focus ((try with_reducible apply wpC.to); (repeat' ((conv => whnf); first | refine byEv ?_ | ((apply Fork.mk) <;> (intro _; try (exfalso; omega; done))) | ((apply q_call); (focus exact byNext); (focus exact byLo); (focus (first | exact kChartW0 | exact kChartJ0)); first | ((apply q_allB) <;> (intro z_b _ _ _; first | exact Bool.noConfusion z_b | replace z_b := of_decide_eq_true z_b | replace z_b := of_decide_eq_false z_b | skip) <;> (first | contradiction | (revert z_b; intros))) | ((apply q_alli) <;> (intro _ _ _ _; try contradiction)) | ((apply q_allv); intro _ _ _)) | fail)); all_goals (conv => whnf); all_goals (try with_reducible apply At.mk)))
  · have hne : T.merr p x n ≠ 0 := by unfold Tbl.merr; rw [if_neg (fun k => k ht), if_pos (by assumption)]; assumption
    have he : T.merr p x n = T.nderr x n := by unfold Tbl.merr; rw [if_neg (fun k => k ht), if_pos (by assumption)]
    (refine byFin ?_)
    unfold Tbl.mval
    rw [if_neg hne, he]
    rfl
  have hn : T.nderr x n = 0 := by assumption
  obtain ⟨no, ox⟩ := Tbl.nderr_ok hn
  have ga2 := g.a2
  obtain ⟨g4, g5⟩ := g.n6
  apply q_call
  focus (exact byNext)
  focus (exact byLo)
  focus
    refine anyLists_w (M := p.M) (sz := 1) (el := fun i k => [.int .i64 (p.f i k)]) (m := m) (p := fun i => decide (¬ Desc (p.f i) T.A.n)) (by (exact byOm)) ?_ fun i h1 hi q => ?_
    · exact ((hp.same (by (exact bySame)) (Nat.le_refl _)).mat)
    · have hw := t.w i (by have := t.n; omega)
      have hq := q.next
      rw [← hw]
      refine acall_of (notFalls_w (n := p.M.w i) (f := p.f i) (m := m) (by (exact byOm)) (by omega) (hp.re i hi (by omega)) ((hp.ri i hi).same (Same.quiet (by (exact bySame)) q (by (exact byOm))) (hp.rr i hi)) (hp.rr i hi (by omega)) (hp.rf i hi (by omega)) (by omega)) rfl
  rintro _ h3 rfl q3 n3
  generalize hd : decide (∃ i, i < p.M.n ∧ decide (¬ Desc (p.f i) T.A.n) = Bool.true) = bv
  cases bv
  · have hd1 : ¬ ∃ i, i < T.P.n ∧ ¬ Desc (p.f i) T.A.n := fun ⟨i, h1, h2⟩ => of_decide_eq_false hd ⟨i, by rw [t.n]; exact h1, decide_eq_true h2⟩
    (focus ((try with_reducible apply wpC.to); (repeat' ((conv => whnf); first | refine byEv ?_ | ((apply Fork.mk) <;> (intro _; try (exfalso; omega; done))) | ((apply q_call); (focus exact byNext); (focus exact byLo); (focus (first | exact kChartW0 | exact kChartJ0)); first | ((apply q_allB) <;> (intro z_b _ _ _; first | exact Bool.noConfusion z_b | replace z_b := of_decide_eq_true z_b | replace z_b := of_decide_eq_false z_b | skip) <;> (first | contradiction | (revert z_b; intros))) | ((apply q_alli) <;> (intro _ _ _ _; try contradiction)) | ((apply q_allv); intro _ _ _)) | fail)); all_goals (conv => whnf); all_goals (try with_reducible apply At.mk)))
    apply q_call
    focus (exact byNext)
    focus (exact byLo)
    focus exact meet_w (T := T) (p := p) (x := x) (n := n) (m := m) (by (exact byOm)) (hT.same (by (exact bySame)) (Nat.le_refl _)) (hp.same (by (exact bySame)) (Nat.le_refl _)) g t.n t.w (t.bd g) ox no
    rintro _ h4 rfl q4 n4
    generalize hr : T.mres p.f x n = r
    obtain ⟨r1, r2⟩ := r
    cases r2
    · have he : T.merr p x n = 5 := by unfold Tbl.merr; rw [if_neg (fun k => k ht), if_neg (fun k => k hn), if_neg hd1, hr, if_neg (fun h => Bool.noConfusion h)]
      (focus ((try with_reducible apply wpC.to); (repeat' ((conv => whnf); first | refine byEv ?_ | ((apply Fork.mk) <;> (intro _; try (exfalso; omega; done))) | ((apply q_call); (focus exact byNext); (focus exact byLo); (focus (first | exact kChartW0 | exact kChartJ0)); first | ((apply q_allB) <;> (intro z_b _ _ _; first | exact Bool.noConfusion z_b | replace z_b := of_decide_eq_true z_b | replace z_b := of_decide_eq_false z_b | skip) <;> (first | contradiction | (revert z_b; intros))) | ((apply q_alli) <;> (intro _ _ _ _; try contradiction)) | ((apply q_allv); intro _ _ _)) | fail)); all_goals (conv => whnf); all_goals (try with_reducible apply At.mk)))
      (refine byFin ?_)
      unfold Tbl.mval
      rw [he, if_neg (by decide)]
      rfl
    · have he : T.merr p x n = 0 := by unfold Tbl.merr; rw [if_neg (fun k => k ht), if_neg (fun k => k hn), if_neg hd1, hr, if_pos rfl]
      (focus ((try with_reducible apply wpC.to); (repeat' ((conv => whnf); first | refine byEv ?_ | ((apply Fork.mk) <;> (intro _; try (exfalso; omega; done))) | ((apply q_call); (focus exact byNext); (focus exact byLo); (focus (first | exact kChartW0 | exact kChartJ0)); first | ((apply q_allB) <;> (intro z_b _ _ _; first | exact Bool.noConfusion z_b | replace z_b := of_decide_eq_true z_b | replace z_b := of_decide_eq_false z_b | skip) <;> (first | contradiction | (revert z_b; intros))) | ((apply q_alli) <;> (intro _ _ _ _; try contradiction)) | ((apply q_allv); intro _ _ _)) | fail)); all_goals (conv => whnf); all_goals (try with_reducible apply At.mk)))
      (refine byFin ?_)
      unfold Tbl.mval
      rw [he, if_pos rfl, hr]
      rfl
  · have hd1 : ∃ i, i < T.P.n ∧ ¬ Desc (p.f i) T.A.n := by
      obtain ⟨i, h1, h2⟩ := of_decide_eq_true hd
      exact ⟨i, by rw [← t.n]; exact h1, of_decide_eq_true h2⟩
    have he : T.merr p x n = 16 := by unfold Tbl.merr; rw [if_neg (fun k => k ht), if_neg (fun k => k hn), if_pos hd1]
    (focus ((try with_reducible apply wpC.to); (repeat' ((conv => whnf); first | refine byEv ?_ | ((apply Fork.mk) <;> (intro _; try (exfalso; omega; done))) | ((apply q_call); (focus exact byNext); (focus exact byLo); (focus (first | exact kChartW0 | exact kChartJ0)); first | ((apply q_allB) <;> (intro z_b _ _ _; first | exact Bool.noConfusion z_b | replace z_b := of_decide_eq_true z_b | replace z_b := of_decide_eq_false z_b | skip) <;> (first | contradiction | (revert z_b; intros))) | ((apply q_alli) <;> (intro _ _ _ _; try contradiction)) | ((apply q_allv); intro _ _ _)) | fail)); all_goals (conv => whnf); all_goals (try with_reducible apply At.mk)))
    (refine byFin ?_)
    unfold Tbl.mval
    rw [he, if_neg (by decide)]
    rfl

/-! ### Meets -/

theorem lead_congr {f g : Nat → Int} : ∀ n, (∀ j, j < n → f j = g j) → lead f n = lead g n
  | 0, _ => rfl
  | n + 1, h => by
    have ih := lead_congr n fun j hj => h j (by omega)
    simp only [lead]
    rw [ih, h n (by omega)]
theorem Tbl.mres_congr {T : Tbl} {f g : Nat → Nat → Int} {x : Int} {n : Nd} (hb : nb T.P.f T.P.n x + 1 < T.P.n) (h : ∀ i k, i < T.P.n → k < T.A.n → f i k = g i k) : T.mres f x n = T.mres g x n := by
  have ha : ∀ k, k < T.A.n → T.ab f x n k = T.ab g x n k := fun k hk => by
    unfold Tbl.ab
    rw [h _ k (by omega) hk, h _ k hb hk]
  have hq : T.mq f x n = T.mq g x n := lead_congr _ ha
  have hl : T.mq g x n ≤ T.A.n := lead_le _ _
  unfold Tbl.mres
  rw [hq]
  rcases Nat.lt_or_ge (T.mq g x n) T.A.n with h1 | h1
  · rw [ha _ h1]
    by_cases h2 : T.mq g x n = 0
    · rw [h2]; simp
    · rw [ha _ (show T.mq g x n - 1 < T.A.n by omega)]
  · have c1 : ∀ q : Prop, ¬ (T.mq g x n < T.A.n ∧ q) := fun q h => by omega
    have c2 : T.mq g x n = 0 ∨ T.mq g x n = T.A.n := by omega
    rw [if_neg (c1 _), if_neg (c1 _), if_pos c2, if_pos c2]

open Classical in
noncomputable def Tbl.mserr (T : Tbl) (x : Int) (n : Nd) : Int := if T.err ≠ 0 then T.err else if T.nderr x n ≠ 0 then T.nderr x n else if (T.mres T.lo x n).2 = Bool.true ∧ (T.mres T.hi x n).2 = Bool.true then 0 else 5
noncomputable def Tbl.msval (T : Tbl) (x : Int) (n : Nd) : Fr × Fr := if T.mserr x n = 0 then ((T.mres T.lo x n).1, (T.mres T.hi x n).1) else (⟨0, 0⟩, ⟨0, 0⟩)

set_option maxHeartbeats 1000000 in
theorem Meets_w {h : H} {T : Tbl} {m : Nat} {x : Int} {n : Nd} (hm : m ≤ h.next) (hT : T.Ok m h) (hs : -9223372036854775808 ≤ n.s ∧ n.s < 9223372036854775808) : AW Try.prog 25 h.next h [.agg ⟨T.cells⟩, .int .i64 x, .agg ⟨n.cells⟩] (fun v _ => v = .tuple #[.agg ⟨(T.msval x n).1.cells ++ (T.msval x n).2.cells⟩, .int .i64 (T.mserr x n)]) := by
  refine fun25.call rfl (Nat.le_refl _) ?_
  unfold a25 Tbl.cells Nd.cells
  (focus ((try with_reducible apply wpC.to); (repeat' ((conv => whnf); first | refine byEv ?_ | ((apply Fork.mk) <;> (intro _; try (exfalso; omega; done))) | ((apply q_call); (focus exact byNext); (focus exact byLo); (focus (first | exact kChartW0 | exact kChartT0 | exact kChartP1 | exact kChartP0 | exact kChartK2 | exact kChartK1)); first | ((apply q_allB) <;> (intro z_b _ _ _; first | exact Bool.noConfusion z_b | replace z_b := of_decide_eq_true z_b | replace z_b := of_decide_eq_false z_b | skip) <;> (first | contradiction | (revert z_b; intros))) | ((apply q_alli) <;> (intro _ _ _ _; try contradiction)) | ((apply q_allv); intro _ _ _)) | fail)); all_goals (conv => whnf); all_goals (try with_reducible apply At.mk)))
  · have hne : T.mserr x n ≠ 0 := by unfold Tbl.mserr; rw [if_pos (by assumption)]; assumption
    have he : T.mserr x n = T.err := by unfold Tbl.mserr; rw [if_pos (by assumption)]
    (refine byFin ?_)
    unfold Tbl.msval
    rw [if_neg hne, he]
    rfl
  have ht : T.err = 0 := by assumption
  have g := Tbl.good ht
  (focus ((try with_reducible apply wpC.to); (repeat' ((conv => whnf); first | refine byEv ?_ | ((apply Fork.mk) <;> (intro _; try (exfalso; omega; done))) | ((apply q_call); (focus exact byNext); (focus exact byLo); (focus (first | exact kChartW0 | exact kChartT0 | exact kChartP1 | exact kChartP0 | exact kChartK2 | exact kChartK1)); first | ((apply q_allB) <;> (intro z_b _ _ _; first | exact Bool.noConfusion z_b | replace z_b := of_decide_eq_true z_b | replace z_b := of_decide_eq_false z_b | skip) <;> (first | contradiction | (revert z_b; intros))) | ((apply q_alli) <;> (intro _ _ _ _; try contradiction)) | ((apply q_allv); intro _ _ _)) | fail)); all_goals (conv => whnf); all_goals (try with_reducible apply At.mk)))
  · have hne : T.mserr x n ≠ 0 := by unfold Tbl.mserr; rw [if_neg (fun k => k ht), if_pos (by assumption)]; assumption
    have he : T.mserr x n = T.nderr x n := by unfold Tbl.mserr; rw [if_neg (fun k => k ht), if_pos (by assumption)]
    (refine byFin ?_)
    unfold Tbl.msval
    rw [if_neg hne, he]
    rfl
  have hn : T.nderr x n = 0 := by assumption
  obtain ⟨no, ox⟩ := Tbl.nderr_ok hn
  obtain ⟨hn1, -⟩ := nb_spec g.rp g.p2 ox
  have lb := (lo_pull (T := T) (h := h) hT g).rng
  have hb := (hi_pull (T := T) (h := h) hT g).rng
  apply q_call
  focus (exact byNext)
  focus (exact byLo)
  focus exact pulls_w (T := T) (m := m) (fn := .func 55) (fs := ⟨[.agg ⟨T.cells⟩]⟩) (cs := ⟨[]⟩) (f := T.lo) (by (exact byOm)) (hT.same (by (exact bySame)) (Nat.le_refl _)) g (lo_pull (hT.same (by (exact bySame)) (Nat.le_refl _)) g)
  rintro _ h3 ⟨p1, rfl, o1, p1n, p1w, p1f⟩ q3 n3
  (focus ((try with_reducible apply wpC.to); (repeat' ((conv => whnf); first | refine byEv ?_ | ((apply Fork.mk) <;> (intro _; try (exfalso; omega; done))) | ((apply q_call); (focus exact byNext); (focus exact byLo); (focus (first | exact kChartW0 | exact kChartT0 | exact kChartP1 | exact kChartP0 | exact kChartK2 | exact kChartK1)); first | ((apply q_allB) <;> (intro z_b _ _ _; first | exact Bool.noConfusion z_b | replace z_b := of_decide_eq_true z_b | replace z_b := of_decide_eq_false z_b | skip) <;> (first | contradiction | (revert z_b; intros))) | ((apply q_alli) <;> (intro _ _ _ _; try contradiction)) | ((apply q_allv); intro _ _ _)) | fail)); all_goals (conv => whnf); all_goals (try with_reducible apply At.mk)))
  apply q_call
  focus (exact byNext)
  focus (exact byLo)
  focus exact meet_w (T := T) (p := p1) (x := x) (n := n) (m := h3.next) (by (exact byOm)) (hT.same (by (exact bySame)) (by (exact byOm))) (o1.same (by (exact bySame)) (Nat.le_refl _)) g p1n p1w (fun i k h1 h2 => by rw [p1f i k h1 h2]; exact lb i k h1 h2) ox no
  rintro _ h4 rfl q4 n4
  rw [Tbl.mres_congr hn1 p1f]
  generalize hr : T.mres T.lo x n = r
  obtain ⟨r1, r2⟩ := r
  (focus ((try with_reducible apply wpC.to); (repeat' ((conv => whnf); first | refine byEv ?_ | ((apply Fork.mk) <;> (intro _; try (exfalso; omega; done))) | ((apply q_call); (focus exact byNext); (focus exact byLo); (focus (first | exact kChartW0 | exact kChartT0 | exact kChartP1 | exact kChartP0 | exact kChartK2 | exact kChartK1)); first | ((apply q_allB) <;> (intro z_b _ _ _; first | exact Bool.noConfusion z_b | replace z_b := of_decide_eq_true z_b | replace z_b := of_decide_eq_false z_b | skip) <;> (first | contradiction | (revert z_b; intros))) | ((apply q_alli) <;> (intro _ _ _ _; try contradiction)) | ((apply q_allv); intro _ _ _)) | fail)); all_goals (conv => whnf); all_goals (try with_reducible apply At.mk)))
  apply q_call
  focus (exact byNext)
  focus (exact byLo)
  focus exact pulls_w (T := T) (m := m) (fn := .func 56) (fs := ⟨[.agg ⟨T.cells⟩]⟩) (cs := ⟨[]⟩) (f := T.hi) (by (exact byOm)) (hT.same (by (exact bySame)) (Nat.le_refl _)) g (hi_pull (hT.same (by (exact bySame)) (Nat.le_refl _)) g)
  rintro _ h5 ⟨p2, rfl, o2, p2n, p2w, p2f⟩ q5 n5
  (focus ((try with_reducible apply wpC.to); (repeat' ((conv => whnf); first | refine byEv ?_ | ((apply Fork.mk) <;> (intro _; try (exfalso; omega; done))) | ((apply q_call); (focus exact byNext); (focus exact byLo); (focus (first | exact kChartW0 | exact kChartT0 | exact kChartP1 | exact kChartP0 | exact kChartK2 | exact kChartK1)); first | ((apply q_allB) <;> (intro z_b _ _ _; first | exact Bool.noConfusion z_b | replace z_b := of_decide_eq_true z_b | replace z_b := of_decide_eq_false z_b | skip) <;> (first | contradiction | (revert z_b; intros))) | ((apply q_alli) <;> (intro _ _ _ _; try contradiction)) | ((apply q_allv); intro _ _ _)) | fail)); all_goals (conv => whnf); all_goals (try with_reducible apply At.mk)))
  apply q_call
  focus (exact byNext)
  focus (exact byLo)
  focus exact meet_w (T := T) (p := p2) (x := x) (n := n) (m := h5.next) (by (exact byOm)) (hT.same (by (exact bySame)) (by (exact byOm))) (o2.same (by (exact bySame)) (Nat.le_refl _)) g p2n p2w (fun i k h1 h2 => by rw [p2f i k h1 h2]; exact hb i k h1 h2) ox no
  rintro _ h6 rfl q6 n6
  rw [Tbl.mres_congr hn1 p2f]
  generalize hs' : T.mres T.hi x n = s
  obtain ⟨s1, s2⟩ := s
  have hne : ∀ c, T.mserr x n = c → c = 5 → T.msval x n = (⟨0, 0⟩, ⟨0, 0⟩) := fun c h1 h2 => by unfold Tbl.msval; rw [h1, h2, if_neg (by decide)]
  cases r2 <;> cases s2
  all_goals (focus ((try with_reducible apply wpC.to); (repeat' ((conv => whnf); first | refine byEv ?_ | ((apply Fork.mk) <;> (intro _; try (exfalso; omega; done))) | ((apply q_call); (focus exact byNext); (focus exact byLo); (focus (first | exact kChartW0 | exact kChartT0 | exact kChartP1 | exact kChartP0 | exact kChartK2 | exact kChartK1)); first | ((apply q_allB) <;> (intro z_b _ _ _; first | exact Bool.noConfusion z_b | replace z_b := of_decide_eq_true z_b | replace z_b := of_decide_eq_false z_b | skip) <;> (first | contradiction | (revert z_b; intros))) | ((apply q_alli) <;> (intro _ _ _ _; try contradiction)) | ((apply q_allv); intro _ _ _)) | fail)); all_goals (conv => whnf); all_goals (try with_reducible apply At.mk)))
  all_goals (refine byFin ?_)
  · have he : T.mserr x n = 5 := by unfold Tbl.mserr; rw [if_neg (fun k => k ht), if_neg (fun k => k hn), hr, hs', if_neg (by simp)]
    rw [hne _ he rfl, he]; rfl
  · have he : T.mserr x n = 5 := by unfold Tbl.mserr; rw [if_neg (fun k => k ht), if_neg (fun k => k hn), hr, hs', if_neg (by simp)]
    rw [hne _ he rfl, he]; rfl
  · have he : T.mserr x n = 5 := by unfold Tbl.mserr; rw [if_neg (fun k => k ht), if_neg (fun k => k hn), hr, hs', if_neg (by simp)]
    rw [hne _ he rfl, he]; rfl
  · have he : T.mserr x n = 0 := by unfold Tbl.mserr; rw [if_neg (fun k => k ht), if_neg (fun k => k hn), hr, hs', if_pos ⟨rfl, rfl⟩]
    unfold Tbl.msval
    rw [he, if_pos rfl, hr, hs']; rfl
end AE.Try
