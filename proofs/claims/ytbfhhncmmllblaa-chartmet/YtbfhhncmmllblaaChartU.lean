/- Walks of chart: Sure. -/
import Derived.Test.YtbfhhncmmllblaaJoin8
set_option linter.unusedVariables false
set_option linter.unusedSimpArgs false
set_option linter.unusedSectionVars false
namespace AE.Try
open Go AE Go.Proofs
set_option maxRecDepth 100000
set_option linter.unusedVariables false

theorem worse_w {h : H} {T : Tbl} {m rs ro rb : Nat} {p q : Pt} {high : Bool} (hm : m ≤ h.next) (hT : T.Ok m h) (g : T.Good) (o : T.On p) (o' : T.On q) (g1 : h.get rs = some (.cells T.cells 84)) (g2 : h.get ro = some (.cells p.cells 28)) (g3 : h.get rb = some (.cells [.bool high] 4)) (b : rs < h.next ∧ ro < h.next ∧ rb < h.next) :
    AW Try.prog 76 h.next h [.agg ⟨q.cells⟩, .pointer (some ⟨rs, 0, none⟩), .pointer (some ⟨ro, 0, none⟩), .pointer (some ⟨rb, 0, none⟩)] (fun v _ => v = .bool (decide ((T.far p q high).n < 0))) := by
  have g1 : h.get rs = some (.cells [.slice T.P.b T.P.n T.P.c, .slice T.A.b T.A.n T.A.c, .slice T.R.b T.R.n T.R.c] 84) := g1
  have g2 : h.get ro = some (.cells [.int .i64 p.p, .int .i64 p.a] 28) := g2
  refine fun76.call rfl (Nat.le_refl _) ?_
  unfold a76 Pt.cells
  (focus ((try with_reducible apply wpC.to); (repeat' ((conv => whnf); first | refine byEv ?_ | ((apply Fork.mk) <;> (intro _; try (exfalso; omega; done))) | ((apply q_call); (focus exact byNext); (focus exact byLo); (focus (exact kChartT1)); first | ((apply q_allB) <;> (intro z_b _ _ _; first | exact Bool.noConfusion z_b | replace z_b := of_decide_eq_true z_b | replace z_b := of_decide_eq_false z_b | skip) <;> (first | contradiction | (revert z_b; intros))) | ((apply q_alli) <;> (intro _ _ _ _; try contradiction)) | ((apply q_allv); intro _ _ _)) | fail)); all_goals (conv => whnf); all_goals (try with_reducible apply At.mk)))
  all_goals ((refine byFin ?_); first | exact bool_t rfl (by omega) | exact bool_f rfl (by omega))

def best1 (T : Tbl) (S : Pts) (high : Bool) (i : Nat) : Prop := ∀ j, j < S.n → 0 ≤ (T.far (S.f i) (S.f j) high).n
noncomputable instance (T : Tbl) (S : Pts) (high : Bool) (i : Nat) : Decidable (best1 T S high i) := Classical.propDecidable _
/-- The first ones of n that are the best. -/
noncomputable def bestL (T : Tbl) (S : Pts) (high : Bool) : Nat → List Nat
  | 0 => []
  | i + 1 => if best1 T S high i then bestL T S high i ++ [i] else bestL T S high i
theorem bestL_len (T : Tbl) (S : Pts) (high : Bool) : ∀ n, (bestL T S high n).length ≤ n
  | 0 => Nat.le_refl _
  | n + 1 => by have := bestL_len T S high n; simp only [bestL]; split <;> simp <;> omega
def natC (l : List Nat) : List Value := l.map fun i : Nat => Value.int .i64 ((i : Nat) : Int)
theorem natC_add (l : List Nat) (i : Nat) : natC l ++ [.int .i64 (i : Int)] = natC (l ++ [i]) := by simp [natC]
/-- A list of numbers, as it lies. -/
structure NL (l : List Nat) (A : Arr) : Prop where
  n : A.n = l.length
  f : ∀ i, i < l.length → A.f i = ((l.getD i 0 : Nat) : Int)
theorem natC_cells : ∀ l : List Nat, natC l = cellsOf (fun i : Nat => [Value.int .i64 ((i : Nat) : Int)]) l
  | [] => rfl
  | x :: l => by
    have ih := natC_cells l
    show _ :: natC l = [_] ++ cellsOf _ l
    rw [ih]; rfl
theorem natC_rows (l : List Nat) : natC l = rowsOf (fun i => [.int .i64 ((l.getD i 0 : Nat) : Int)]) l.length := by
  rw [natC_cells]
  exact cellsOf_rows (fun i : Nat => [Value.int .i64 ((i : Nat) : Int)]) l 0
theorem _root_.AE.Grown.arr {b N : Nat} {h : H} {e : TypeId} {l : List Nat} {v : Option Addr} (G : Grown b N h e 1 l.length (natC l) v) (hl : l.length ≤ 1000000) : ∃ a, NL l ⟨l.length, fun i => ((l.getD i 0 : Nat) : Int), v, a, 0⟩ ∧ (⟨l.length, fun i => ((l.getD i 0 : Nat) : Int), v, a, 0⟩ : Arr).Ok N h := by
  rw [natC_rows] at G
  obtain ⟨a, h1, h2, h3⟩ := G.els (fun i => rfl)
  refine ⟨a, ⟨rfl, fun i hi => rfl⟩, h1, fun i hi => ?_, fun h => (h3 h).2, by show l.length ≤ _; omega⟩
  have := h2 i hi
  simpa using this

set_option maxHeartbeats 2000000 in
theorem best_w {h : H} {T : Tbl} {S : Pts} {m rs ro : Nat} {high : Bool} (hm : m ≤ h.next) (hT : T.Ok m h) (hS : S.Ok m h) (hSn : S.n ≤ 12) (g : T.Good) (hon : ∀ i, i < S.n → T.On (S.f i)) (g1 : h.get rs = some (.cells T.cells 84)) (g2 : h.get ro = some (.cells [.slice S.b S.n S.c] 48)) (b : rs < h.next ∧ ro < h.next) :
    AW Try.prog 74 h.next h [.bool high, .pointer (some ⟨ro, 0, none⟩), .pointer (some ⟨rs, 0, none⟩)] (fun v h' => ∃ A : Arr, v = .slice A.b A.n A.c ∧ NL (bestL T S high S.n) A ∧ A.Ok h'.next h') := by
  have hS0 := hS
  obtain ⟨e1, i1, r1, l1⟩ := hS
  refine fun74.call rfl (Nat.le_refl _) ?_
  unfold a74
  (focus ((try with_reducible apply wpC.to); (repeat' ((conv => whnf); first | refine byEv ?_ | ((apply Fork.mk) <;> (intro _; try (exfalso; omega; done))) | fail)); all_goals (conv => whnf); all_goals (try with_reducible apply At.mk)))
  refine wp_loop (fun s : Nat × Option Addr => [(1, .pointer (some ⟨ro, 0, none⟩)), (2, .pointer (some ⟨rs, 0, none⟩)), (3, .pointer (some ⟨h.next, 0, none⟩)), (5, .slice s.2 (bestL T S high s.1).length 0), (8, .slice S.b S.n S.c), (9, .int .i64 S.n), (10, .int .i64 s.1)])
    (fun s h1 => Same h.next h h1 ∧ h.next + 6 ≤ h1.next ∧ h1.get h.next = some (.cells [.bool high] 4) ∧ s.1 ≤ S.n ∧ Grown (h.next + 6) h1.next h1 3 1 (bestL T S high s.1).length (natC (bestL T S high s.1)) s.2) (fun s => S.n - s.1) (0, none) ⟨rfl, rfl, rfl, rfl, rfl, rfl, rfl, trivial⟩ ⟨by (exact bySame), by (exact byOm), by (exact byGet), by dsimp only; omega, by exact Grown.nil⟩ ?_
  rintro ⟨s, v4⟩ g' h1 ⟨sm, n1, gb, hs, G⟩ K hK
  dsimp only at hs G ⊢
  have hlen := bestL_len T S high s
  by_cases hsn : s < S.n
  · have x1 := r1 (by omega)
    have i5 := i1.same (sm.mono hm) r1
    (focus ((try with_reducible apply wpC.to); (repeat' ((conv => whnf); first | refine byEv ?_ | ((apply Fork.mk) <;> (intro _; try (exfalso; omega; done))) | fail)); all_goals (conv => whnf); all_goals (try with_reducible apply At.mk)))
    have hrow : ((((h1.bump 1).bump 6).put (h1.next + 4) (.cells [.int .i64 0, .int .i64 0] 28)).put (h1.next + 4) (.cells [.int .i64 (S.f s).p, .int .i64 (S.f s).a] 28)).get (h1.next + 4) = some (.cells (S.f s).cells 28) := by (exact byGet)
    have hnext : bestL T S high (s + 1) = if best1 T S high s then bestL T S high s ++ [s] else bestL T S high s := rfl
    apply q_callB
    focus (exact byNext)
    focus (exact byLo)
    focus
      refine anyPts_w (T := S) (m := m) (p := fun j => decide ((T.far (S.f s) (S.f j) high).n < 0)) (by (exact byOm)) (hS0.same (by have := sm.mono hm; (exact bySame)) (Nat.le_refl _)) fun j k1 hj q => ?_
      refine acall_of (worse_w (T := T) (m := m) (rs := rs) (ro := h1.next + 4) (rb := h.next) (p := S.f s) (q := S.f j) (high := high) (by have := q.next; (exact byOm)) (hT.same (Same.quiet (by have := sm.mono hm; (exact bySame)) q (by (exact byOm))) (Nat.le_refl _)) g (hon s hsn) (hon j hj) ((q.same _ (by (exact byOm))).trans ?_) ((q.same _ (by (exact byOm))).trans hrow) ((q.same _ (by (exact byOm))).trans (by (exact byGet))) ⟨by have := q.next; (exact byOm), by have := q.next; (exact byOm), by have := q.next; (exact byOm)⟩) rfl
      have : h1.get rs = some (.cells T.cells 84) := (sm rs b.1).trans g1
      (exact byGet)
    · intro hb h2 q2 n2
      have hnb : ¬ best1 T S high s := fun k => by
        obtain ⟨j, hj, h3⟩ := of_decide_eq_true hb
        have := k j hj
        have := of_decide_eq_true h3
        omega
      rw [if_neg hnb] at hnext
      (focus ((try with_reducible apply wpC.to); (repeat' ((conv => whnf); first | refine byEv ?_ | ((apply Fork.mk) <;> (intro _; try (exfalso; omega; done))) | fail)); all_goals (conv => whnf); all_goals (try with_reducible apply At.mk)))
      refine hK (s + 1, v4) _ _ ⟨rfl, rfl, rfl, by rw [hnext]; exact rfl, rfl, rfl, int_of rfl (by dsimp only; omega), trivial⟩ ⟨by (exact bySame), by (exact byOm), by (exact byGet), by dsimp only; omega, ?_⟩ (by dsimp only; omega)
      dsimp only
      rw [hnext]
      exact G.frame (by (exact byOm)) fun r hr1 hr2 => get_of fun y hy => by (exact byGet)
    · intro hb h2 q2 n2
      have hbe : best1 T S high s := fun j hj => by
        have := of_decide_eq_false hb
        exact Classical.byContradiction fun h => this ⟨j, hj, decide_eq_true (by omega)⟩
      rw [if_pos hbe] at hnext
      (focus ((try with_reducible apply wpC.to); (repeat' ((conv => whnf); first | refine byEv ?_ | ((apply Fork.mk) <;> (intro _; try (exfalso; omega; done))) | fail)); all_goals (conv => whnf); all_goals (try with_reducible apply At.mk)))
      apply q_appG (b := h.next + 6) (N := h1.next) (n := (bestL T S high s).length) (m := 1) (cs := natC (bestL T S high s)) (nc := [.int .i64 (s : Int)])
      case hsv => exact rfl
      case G => exact G.frame (Nat.le_refl _) fun j hj1 hj2 => get_of fun y hy => by (exact byGet)
      case C => exact Cells.one (by (exact byMem)) (by unfold far; omega) rfl rfl
      case hm => omega
      case hlo => (exact byOm)
      case hb => (exact byOm)
      case hN => (exact byOm)
      case hsm => omega
      intro v' j row hj1 hj2 hj3 G'
      rw [natC_add] at G'
      (focus ((try with_reducible apply wpC.to); (repeat' ((conv => whnf); first | refine byEv ?_ | ((apply Fork.mk) <;> (intro _; try (exfalso; omega; done))) | fail)); all_goals (conv => whnf); all_goals (try with_reducible apply At.mk)))
      refine hK (s + 1, v') _ _ ⟨rfl, rfl, rfl, by rw [hnext, List.length_append]; exact rfl, rfl, rfl, int_of rfl (by dsimp only; omega), trivial⟩ ⟨by (exact bySame), by (exact byOm), by (exact byGet), by dsimp only; omega, ?_⟩ (by dsimp only; omega)
      dsimp only
      rw [hnext, List.length_append]
      exact G'.frame (by (exact byOm)) fun r hr1 hr2 => rfl
  · obtain rfl : s = S.n := by omega
    obtain ⟨a, hA, hok⟩ := G.arr (by omega)
    (focus ((try with_reducible apply wpC.to); (repeat' ((conv => whnf); first | refine byEv ?_ | ((apply Fork.mk) <;> (intro _; try (exfalso; omega; done))) | fail)); all_goals (conv => whnf); all_goals (try with_reducible apply At.mk)))
    (refine byFin ?_)
    exact ⟨_, rfl, hA, hok.same (fun r hr => rfl) (by (exact byOm))⟩

open Classical in
noncomputable def Tbl.suErr (T : Tbl) (S : Pts) : Int := if T.err ≠ 0 then T.err else if S.n = 0 ∨ 12 < S.n then 6 else if ¬ ∀ i, i < S.n → T.On (S.f i) then 19 else 0
/-- The lists of Sure. -/
noncomputable def Tbl.sure (T : Tbl) (S : Pts) (high : Bool) : List Nat := if T.suErr S = 0 then bestL T S high S.n else []
theorem NL.nil : NL [] ⟨0, fun _ => 0, none, ⟨0, 0, none⟩, 0⟩ := ⟨rfl, fun i hi => absurd hi (Nat.not_lt_zero i)⟩
theorem nilArr_ok (m : Nat) (h : H) : (⟨0, fun _ => 0, none, ⟨0, 0, none⟩, 0⟩ : Arr).Ok m h := ⟨fun h => absurd h (Nat.lt_irrefl 0), fun i hi => absurd hi (Nat.not_lt_zero i), fun h => absurd h (Nat.lt_irrefl 0), Nat.zero_le _⟩

set_option maxHeartbeats 1000000 in
theorem Sure_w {h : H} {T : Tbl} {S : Pts} {m : Nat} (hm : m ≤ h.next) (hT : T.Ok m h) (hS : S.Ok m h) : AW Try.prog 27 h.next h [.agg ⟨T.cells⟩, .slice S.b S.n S.c] (fun v h' => ∃ A B : Arr, v = .tuple #[.slice A.b A.n A.c, .slice B.b B.n B.c, .int .i64 (T.suErr S)] ∧ NL (T.sure S false) A ∧ NL (T.sure S true) B ∧ A.Ok h'.next h' ∧ B.Ok h'.next h') := by
  have lS := hS.l
  have hbad : ∀ {h' : H}, T.suErr S ≠ 0 → ∃ A B : Arr, (Value.tuple #[.slice none 0 0, .slice none 0 0, .int .i64 (T.suErr S)] = .tuple #[.slice A.b A.n A.c, .slice B.b B.n B.c, .int .i64 (T.suErr S)]) ∧ NL (T.sure S false) A ∧ NL (T.sure S true) B ∧ A.Ok h'.next h' ∧ B.Ok h'.next h' := fun {h'} hne => by
    have e1 : T.sure S false = [] := by unfold Tbl.sure; rw [if_neg hne]
    have e2 : T.sure S true = [] := by unfold Tbl.sure; rw [if_neg hne]
    rw [e1, e2]
    exact ⟨_, _, rfl, NL.nil, NL.nil, nilArr_ok _ _, nilArr_ok _ _⟩
  refine fun27.call rfl (Nat.le_refl _) ?_
  unfold a27 Tbl.cells
  (focus ((try with_reducible apply wpC.to); (repeat' ((conv => whnf); first | refine byEv ?_ | ((apply Fork.mk) <;> (intro _; try (exfalso; omega; done))) | ((apply q_call); (focus exact byNext); (focus exact byLo); (focus (first | exact kChartT0 | exact kChartP1 | exact kChartP0 | exact kChartK2 | exact kChartK1 | exact kChartK0 | exact kChartJ1 | exact kChartI1)); first | ((apply q_allB) <;> (intro z_b _ _ _; first | exact Bool.noConfusion z_b | replace z_b := of_decide_eq_true z_b | replace z_b := of_decide_eq_false z_b | skip) <;> (first | contradiction | (revert z_b; intros))) | ((apply q_alli) <;> (intro _ _ _ _; try contradiction)) | ((apply q_allv); intro _ _ _)) | fail)); all_goals (conv => whnf); all_goals (try with_reducible apply At.mk)))
  · have he : T.suErr S = T.err := by unfold Tbl.suErr; rw [if_pos (by assumption)]
    (refine byFin ?_)
    rw [← he]
    exact hbad (by rw [he]; assumption)
  · have hz : T.err = 0 := by assumption
    have he : T.suErr S = 6 := by unfold Tbl.suErr; rw [if_neg (fun k => k hz), if_pos (by omega)]
    (refine byFin ?_)
    rw [← he]
    exact hbad (by rw [he]; decide)
  · have hz : T.err = 0 := by assumption
    have he : T.suErr S = 6 := by unfold Tbl.suErr; rw [if_neg (fun k => k hz), if_pos (by omega)]
    (refine byFin ?_)
    rw [← he]
    exact hbad (by rw [he]; decide)
  have hz : T.err = 0 := by assumption
  have g := Tbl.good hz
  (focus ((try with_reducible apply wpC.to); (repeat' ((conv => whnf); first | refine byEv ?_ | ((apply Fork.mk) <;> (intro _; try (exfalso; omega; done))) | ((apply q_call); (focus exact byNext); (focus exact byLo); (focus (first | exact kChartT0 | exact kChartP1 | exact kChartP0 | exact kChartK2 | exact kChartK1 | exact kChartK0 | exact kChartJ1 | exact kChartI1)); first | ((apply q_allB) <;> (intro z_b _ _ _; first | exact Bool.noConfusion z_b | replace z_b := of_decide_eq_true z_b | replace z_b := of_decide_eq_false z_b | skip) <;> (first | contradiction | (revert z_b; intros))) | ((apply q_alli) <;> (intro _ _ _ _; try contradiction)) | ((apply q_allv); intro _ _ _)) | fail)); all_goals (conv => whnf); all_goals (try with_reducible apply At.mk)))
  · rename_i h2 _ _ _ _ _ h3 q3 n3 hon
    have he : T.suErr S = 0 := by unfold Tbl.suErr; rw [if_neg (fun k => k hz), if_neg (by omega), if_neg (fun k => k hon)]
    have e1 : T.sure S false = bestL T S false S.n := by unfold Tbl.sure; rw [if_pos he]
    have e2 : T.sure S true = bestL T S true S.n := by unfold Tbl.sure; rw [if_pos he]
    apply q_call
    focus (exact byNext)
    focus (exact byLo)
    focus exact best_w (T := T) (S := S) (m := m) (rs := h.next + 10) (ro := h.next + 1) (high := false) (by (exact byOm)) (hT.same (by (exact bySame)) (Nat.le_refl _)) (hS.same (by (exact bySame)) (Nat.le_refl _)) (by omega) g hon (by (exact byGet)) (by (exact byGet)) ⟨by (exact byOm), by (exact byOm)⟩
    rintro _ h4 ⟨A, rfl, hA, kA⟩ q4 n4
    (focus ((try with_reducible apply wpC.to); (repeat' ((conv => whnf); first | refine byEv ?_ | ((apply Fork.mk) <;> (intro _; try (exfalso; omega; done))) | ((apply q_call); (focus exact byNext); (focus exact byLo); (focus (first | exact kChartT0 | exact kChartP1 | exact kChartP0 | exact kChartK2 | exact kChartK1 | exact kChartK0 | exact kChartJ1 | exact kChartI1)); first | ((apply q_allB) <;> (intro z_b _ _ _; first | exact Bool.noConfusion z_b | replace z_b := of_decide_eq_true z_b | replace z_b := of_decide_eq_false z_b | skip) <;> (first | contradiction | (revert z_b; intros))) | ((apply q_alli) <;> (intro _ _ _ _; try contradiction)) | ((apply q_allv); intro _ _ _)) | fail)); all_goals (conv => whnf); all_goals (try with_reducible apply At.mk)))
    apply q_call
    focus (exact byNext)
    focus (exact byLo)
    focus exact best_w (T := T) (S := S) (m := m) (rs := h.next + 10) (ro := h.next + 1) (high := true) (by (exact byOm)) (hT.same (by (exact bySame)) (Nat.le_refl _)) (hS.same (by (exact bySame)) (Nat.le_refl _)) (by omega) g hon (by (exact byGet)) (by (exact byGet)) ⟨by (exact byOm), by (exact byOm)⟩
    rintro _ h5 ⟨B, rfl, hB, kB⟩ q5 n5
    (focus ((try with_reducible apply wpC.to); (repeat' ((conv => whnf); first | refine byEv ?_ | ((apply Fork.mk) <;> (intro _; try (exfalso; omega; done))) | ((apply q_call); (focus exact byNext); (focus exact byLo); (focus (first | exact kChartT0 | exact kChartP1 | exact kChartP0 | exact kChartK2 | exact kChartK1 | exact kChartK0 | exact kChartJ1 | exact kChartI1)); first | ((apply q_allB) <;> (intro z_b _ _ _; first | exact Bool.noConfusion z_b | replace z_b := of_decide_eq_true z_b | replace z_b := of_decide_eq_false z_b | skip) <;> (first | contradiction | (revert z_b; intros))) | ((apply q_alli) <;> (intro _ _ _ _; try contradiction)) | ((apply q_allv); intro _ _ _)) | fail)); all_goals (conv => whnf); all_goals (try with_reducible apply At.mk)))
    (refine byFin ?_)
    rw [he, e1, e2]
    exact ⟨A, B, rfl, hA, hB, kA.same (fun r hr => q5.same r (by omega)) (by (exact byOm)), kB.same (Same.refl _ _) (Nat.le_refl _)⟩
  · have hon : ¬ ∀ i, i < S.n → T.On (S.f i) := by assumption
    have he : T.suErr S = 19 := by unfold Tbl.suErr; rw [if_neg (fun k => k hz), if_neg (by omega), if_pos hon]
    (refine byFin ?_)
    rw [← he]
    exact hbad (by rw [he]; decide)
end AE.Try
