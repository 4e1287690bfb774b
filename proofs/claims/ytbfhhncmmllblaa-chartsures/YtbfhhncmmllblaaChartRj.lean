/- Walks of the definitions of charts: Sure. -/
import Derived.Test.YtbfhhncmmllblaaChartRg
set_option linter.unusedVariables false
set_option linter.unusedSimpArgs false
set_option linter.unusedSectionVars false
namespace AE.Try
open Go AE Go.Proofs
set_option maxRecDepth 100000
set_option linter.unusedVariables false

theorem kChartRj0 {G : Prop} (g : G := by ((apply More_r; rotate_left; (focus (apply Tbl.Ok.same; (focus assumption); (focus exact bySame); (focus exact Nat.le_refl _))); (focus exact byOm)))) : G := g

/-- A list of numbers that grows, its row known. -/
def JG (r : Nat) (h : H) (l : List Nat) (v : Option Addr) : Prop := (l = [] ∧ v = none) ∨ (0 < l.length ∧ GAt r h 3 1 l.length (natC l) v)
theorem step_iff {a a' : Bool} {P : Nat → Prop} {t : Nat} (h : a = Bool.true ↔ ∀ j, j < t → P j) (h' : a' = Bool.true ↔ (a = Bool.true ∧ P t)) : a' = Bool.true ↔ ∀ j, j < t + 1 → P j := by
  rw [h', h]
  constructor
  · rintro ⟨h1, h2⟩ j hj
    by_cases e : j = t
    · subst e; exact h2
    · exact h1 j (by omega)
  · exact fun k => ⟨fun j hj => k j (by omega), k t (by omega)⟩
theorem JG.nil {r : Nat} {h : H} : JG r h [] none := .inl ⟨rfl, rfl⟩
theorem JG.frame {r : Nat} {h h' : H} {l : List Nat} {v : Option Addr} (k : JG r h l v) (e : 0 < l.length → h'.get r = h.get r) : JG r h' l v :=
  k.imp id fun ⟨h0, G⟩ => ⟨h0, G.frame (e h0)⟩
theorem JG.arr {r N : Nat} {h : H} {l : List Nat} {v : Option Addr} (k : JG r h l v) (hr : 0 < l.length → r < N) (hl : l.length ≤ 1000000) : ∃ a, NL l ⟨l.length, fun i => ((l.getD i 0 : Nat) : Int), v, a, 0⟩ ∧ (⟨l.length, fun i => ((l.getD i 0 : Nat) : Int), v, a, 0⟩ : Arr).Ok N h := by
  refine Grown.arr (b := 0) (e := 3) ?_ hl
  rcases k with ⟨rfl, rfl⟩ | ⟨h0, G⟩
  · exact Grown.nil
  · exact G.grown (Nat.zero_le _) (hr h0)
theorem q_appJ {P : Program} {lo nid : Nat} {ts : Ts} {h : H} {k : Value → H → Prop} {r i bytes : Nat} {l : List Nat} {v : Option Addr} {sx x : Opd} (G : JG r h l v) (hsv : ev ts sx = .slice v l.length 0) (C : Cells h 1 1 (ev ts x) [.int .i64 (i : Int)]) (hlo : lo ≤ nid) (hlr : 0 < l.length → lo ≤ r ∧ r < nid) (hsm : (l.length + 2) * (bytes + 1) ≤ 1099511627776)
    (hr : ∀ v' r' row, (l.length = 0 → r' = nid) → (0 < l.length → r' = r) → r' < nid + 1 → JG r' (h.put r' row) (l ++ [i]) v' → k (.slice v' (l.length + 1) 0) (h.put r' row)) : OpE P lo nid ts h (.append 3 1 bytes sx x) k := by
  have e : natC (l ++ [i]) = natC l ++ [.int .i64 (i : Int)] := (natC_add l i).symm
  rcases G with ⟨rfl, rfl⟩ | ⟨h0, G⟩
  · apply q_appG (b := nid) (N := nid) (n := 0) (m := 1) (cs := []) (nc := [.int .i64 (i : Int)])
    case hsv => exact hsv
    case G => exact Grown.nil
    case C => exact C
    case hm => omega
    case hlo => omega
    case hb => omega
    case hN => omega
    case hsm => simpa using hsm
    intro v' j row hj1 hj2 hj3 G'
    obtain ⟨r4, G4, hr4, hr4'⟩ := G'.gat (by omega)
    have hje : j = nid := by omega
    subst hje
    obtain rfl : r4 = j := by omega
    exact hr v' r4 row (fun _ => rfl) (fun h => absurd h (Nat.lt_irrefl 0)) (by omega) (.inr ⟨by simp, by rw [e, List.length_append]; exact G4⟩)
  · apply q_appA (r := r) (n := l.length) (m := 1) (cs := natC l) (nc := [.int .i64 (i : Int)])
    case hsv => exact hsv
    case G => exact G
    case C => exact C
    case hm => omega
    case hlo => exact (hlr h0).1
    case hsm => omega
    intro v' row G5
    exact hr v' r row (fun h => by omega) (fun _ => rfl) (by have := hlr h0; omega) (.inr ⟨by simp, by rw [e, List.length_append]; exact G5⟩)

set_option maxHeartbeats 4000000 in
theorem Sure_r {h : H} {T : Tbl} {S : Pts} {m : Nat} (hm : m ≤ h.next) (hT : T.Ok m h) (hS : S.Ok m h) : AW Try.prog 28 h.next h [.agg ⟨T.cells⟩, .slice S.b S.n S.c] (fun v h' => ∃ A B : Arr, v = .tuple #[.slice A.b A.n A.c, .slice B.b B.n B.c, .int .i64 (T.suErr S)] ∧ NL (T.sure S false) A ∧ NL (T.sure S true) B ∧ A.Ok h'.next h' ∧ B.Ok h'.next h') := by
  have hbad : ∀ {h' : H} {e}, T.suErr S = e → e ≠ 0 → ∃ A B : Arr, (Value.tuple #[.slice none 0 0, .slice none 0 0, .int .i64 e] = .tuple #[.slice A.b A.n A.c, .slice B.b B.n B.c, .int .i64 (T.suErr S)]) ∧ NL (T.sure S false) A ∧ NL (T.sure S true) B ∧ A.Ok h'.next h' ∧ B.Ok h'.next h' := fun {h' e} he hne => by
    subst he
    have e1 : T.sure S false = [] := by unfold Tbl.sure; rw [if_neg hne]
    have e2 : T.sure S true = [] := by unfold Tbl.sure; rw [if_neg hne]
    rw [e1, e2]
    exact ⟨_, _, rfl, NL.nil, NL.nil, nilArr_ok _ _, nilArr_ok _ _⟩
  have lS := hS.l
  have hT0 := hT
  obtain ⟨e1, i1, r1, l1⟩ := hS
  refine fun28.call rfl (Nat.le_refl _) ?_
  unfold a28 Tbl.cells
  (focus ((try with_reducible apply wpC.to); (repeat' ((conv => whnf); first | refine byEv ?_ | ((apply Fork.mk) <;> (intro _; try (exfalso; omega; done))) | ((apply q_call); (focus exact byNext); (focus exact byLo); (focus (first | exact kChartRj0 | exact kChartRd2 | exact kChartRb0)); first | ((apply q_allB) <;> (intro z_b _ _ _; first | exact Bool.noConfusion z_b | replace z_b := of_decide_eq_true z_b | replace z_b := of_decide_eq_false z_b | skip) <;> (first | contradiction | (revert z_b; intros))) | ((apply q_alli) <;> (intro _ _ _ _; try contradiction)) | ((apply q_allv); intro _ _ _)) | ((apply Load1.mk); (focus ((repeat (first | (apply el_lo <;> first | assumption | omega) | (apply el_hi <;> first | assumption | omega) | apply bump_old | ((apply put_old); focus (dsimp only [aadd]; omega)) | ((apply quiet_old); (focus assumption); focus (dsimp only [aadd]; omega)) | ((apply same_old); (focus assumption); focus (dsimp only [aadd]; omega)))); done)); (focus exact byVal)) | fail)); all_goals (conv => whnf); all_goals (try with_reducible apply At.mk)))
  · have hz : T.err ≠ 0 := by assumption
    (refine byFin ?_)
    exact hbad (by unfold Tbl.suErr; rw [if_pos hz]) hz
  · have hz : T.err = 0 := by assumption
    (refine byFin ?_)
    exact hbad (by unfold Tbl.suErr; rw [if_neg (fun k => k hz), if_pos (by omega)]) (by decide)
  · have hz : T.err = 0 := by assumption
    (refine byFin ?_)
    exact hbad (by unfold Tbl.suErr; rw [if_neg (fun k => k hz), if_pos (by omega)]) (by decide)
  have hz : T.err = 0 := by assumption
  have g := Tbl.good hz
  have hSn : 1 ≤ S.n ∧ S.n ≤ 12 := by omega
  refine wp_loop (fun s : Nat => [(1, .slice S.b S.n S.c), (2, .pointer (some ⟨h.next, 0, none⟩)), (7, .int .i64 s)]) (fun s h1 => h1.get h.next = some (.cells (exBox T) 25) ∧ Same m h h1 ∧ h.next + 1 ≤ h1.next ∧ s ≤ S.n ∧ ∀ i, i < s → T.On (S.f i)) (fun s => S.n - s) 0 ⟨rfl, rfl, rfl, trivial⟩ ⟨by (exact byGet), by (exact bySame), by (exact byOm), by omega, fun i hi => by omega⟩ ?_
  rintro s g' h1 ⟨g1, sm, n1, hs, hon⟩ K hK
  have i5 := i1.same sm r1
  unfold exBox at g1
  by_cases hsn : s < S.n
  · have r1' := r1 (by omega)
    (focus ((try with_reducible apply wpC.to); (repeat' ((conv => whnf); first | refine byEv ?_ | ((apply Fork.mk) <;> (intro _; try (exfalso; omega; done))) | ((apply q_call); (focus exact byNext); (focus exact byLo); (focus (first | exact kChartRj0 | exact kChartRd2 | exact kChartRb0)); first | ((apply q_allB) <;> (intro z_b _ _ _; first | exact Bool.noConfusion z_b | replace z_b := of_decide_eq_true z_b | replace z_b := of_decide_eq_false z_b | skip) <;> (first | contradiction | (revert z_b; intros))) | ((apply q_alli) <;> (intro _ _ _ _; try contradiction)) | ((apply q_allv); intro _ _ _)) | ((apply Load1.mk); (focus ((repeat (first | (apply el_lo <;> first | assumption | omega) | (apply el_hi <;> first | assumption | omega) | apply bump_old | ((apply put_old); focus (dsimp only [aadd]; omega)) | ((apply quiet_old); (focus assumption); focus (dsimp only [aadd]; omega)) | ((apply same_old); (focus assumption); focus (dsimp only [aadd]; omega)))); done)); (focus exact byVal)) | fail)); all_goals (conv => whnf); all_goals (try with_reducible apply At.mk)))
    · refine hK (s + 1) _ _ ⟨rfl, rfl, int_of rfl (by omega), trivial⟩ ⟨by (exact byGet), by (exact bySame), by (exact byOm), by omega, fun i hi => ?_⟩ (by omega)
      by_cases e : i = s
      · subst e; assumption
      · exact hon i (by omega)
    · have hx : ¬ T.On (S.f s) := by assumption
      (refine byFin ?_)
      exact hbad (by unfold Tbl.suErr; rw [if_neg (fun k => k hz), if_neg (by omega), if_pos (fun k => hx (k s hsn))]) (by decide)
  obtain rfl : s = S.n := by omega
  have hsu : T.suErr S = 0 := by unfold Tbl.suErr; rw [if_neg (fun k => k hz), if_neg (by omega), if_neg (fun k => k hon)]
  have su : ∀ b, T.sure S b = bestL T S b S.n := fun b => by unfold Tbl.sure; rw [if_pos hsu]
  rw [su, su, hsu]
  (focus ((try with_reducible apply wpC.to); (repeat' ((conv => whnf); first | refine byEv ?_ | ((apply Fork.mk) <;> (intro _; try (exfalso; omega; done))) | ((apply q_call); (focus exact byNext); (focus exact byLo); (focus (first | exact kChartRj0 | exact kChartRd2 | exact kChartRb0)); first | ((apply q_allB) <;> (intro z_b _ _ _; first | exact Bool.noConfusion z_b | replace z_b := of_decide_eq_true z_b | replace z_b := of_decide_eq_false z_b | skip) <;> (first | contradiction | (revert z_b; intros))) | ((apply q_alli) <;> (intro _ _ _ _; try contradiction)) | ((apply q_allv); intro _ _ _)) | ((apply Load1.mk); (focus ((repeat (first | (apply el_lo <;> first | assumption | omega) | (apply el_hi <;> first | assumption | omega) | apply bump_old | ((apply put_old); focus (dsimp only [aadd]; omega)) | ((apply quiet_old); (focus assumption); focus (dsimp only [aadd]; omega)) | ((apply same_old); (focus assumption); focus (dsimp only [aadd]; omega)))); done)); (focus exact byVal)) | fail)); all_goals (conv => whnf); all_goals (try with_reducible apply At.mk)))
  refine wp_loop (fun s : Nat × (Option Addr × Nat) × Option Addr × Nat => [(1, .slice S.b S.n S.c), (2, .pointer (some ⟨h.next, 0, none⟩)), (8, .slice s.2.1.1 (bestL T S false s.1).length 0), (9, .slice s.2.2.1 (bestL T S true s.1).length 0), (10, .int .i64 s.1)])
    (fun s h1 => h1.get h.next = some (.cells (exBox T) 25) ∧ Same m h h1 ∧ h.next + 1 ≤ h1.next ∧ s.1 ≤ S.n ∧ (JG s.2.1.2 h1 (bestL T S false s.1) s.2.1.1 ∧ JG s.2.2.2 h1 (bestL T S true s.1) s.2.2.1) ∧ (0 < (bestL T S false s.1).length → h.next + 1 ≤ s.2.1.2 ∧ s.2.1.2 < h1.next) ∧ (0 < (bestL T S true s.1).length → h.next + 1 ≤ s.2.2.2 ∧ s.2.2.2 < h1.next) ∧ (0 < (bestL T S false s.1).length → 0 < (bestL T S true s.1).length → s.2.1.2 ≠ s.2.2.2)) (fun s => S.n - s.1) (0, (none, 0), none, 0) ⟨rfl, rfl, rfl, rfl, rfl, trivial⟩ ⟨by (exact byGet), by (exact bySame), by (exact byOm), by dsimp only; omega, ⟨JG.nil, JG.nil⟩, fun h => absurd h (Nat.lt_irrefl 0), fun h => absurd h (Nat.lt_irrefl 0), fun h => absurd h (Nat.lt_irrefl 0)⟩ ?_
  rintro ⟨s, ⟨v1, q1⟩, v2, q2⟩ g'' h2 ⟨g2, sm2, n2, hs2, ⟨G1, G2⟩, hq1, hq2, hq⟩ K2 hK2
  dsimp only at hs2 G1 G2 hq1 hq2 hq ⊢
  unfold exBox at g2
  have i6 := i1.same sm2 r1
  have len1 := bestL_len T S false s
  have len2 := bestL_len T S true s
  by_cases hsn2 : s < S.n
  · have nx1 : bestL T S false (s + 1) = if best1 T S false s then bestL T S false s ++ [s] else bestL T S false s := rfl
    have nx2 : bestL T S true (s + 1) = if best1 T S true s then bestL T S true s ++ [s] else bestL T S true s := rfl
    (focus ((try with_reducible apply wpC.to); (repeat' ((conv => whnf); first | refine byEv ?_ | ((apply Fork.mk) <;> (intro _; try (exfalso; omega; done))) | ((apply q_call); (focus exact byNext); (focus exact byLo); (focus (first | exact kChartRj0 | exact kChartRd2 | exact kChartRb0)); first | ((apply q_allB) <;> (intro z_b _ _ _; first | exact Bool.noConfusion z_b | replace z_b := of_decide_eq_true z_b | replace z_b := of_decide_eq_false z_b | skip) <;> (first | contradiction | (revert z_b; intros))) | ((apply q_alli) <;> (intro _ _ _ _; try contradiction)) | ((apply q_allv); intro _ _ _)) | ((apply Load1.mk); (focus ((repeat (first | (apply el_lo <;> first | assumption | omega) | (apply el_hi <;> first | assumption | omega) | apply bump_old | ((apply put_old); focus (dsimp only [aadd]; omega)) | ((apply quiet_old); (focus assumption); focus (dsimp only [aadd]; omega)) | ((apply same_old); (focus assumption); focus (dsimp only [aadd]; omega)))); done)); (focus exact byVal)) | fail)); all_goals (conv => whnf); all_goals (try with_reducible apply At.mk)))
    refine wp_loop (fun t : Nat × Bool × Bool => [(1, .slice S.b S.n S.c), (2, .pointer (some ⟨h.next, 0, none⟩)), (8, .slice v1 (bestL T S false s).length 0), (9, .slice v2 (bestL T S true s).length 0), (10, .int .i64 s), (11, .bool t.2.1), (12, .bool t.2.2), (13, .int .i64 t.1)])
      (fun t h3 => h3.get h.next = some (.cells (exBox T) 25) ∧ Same m h h3 ∧ h2.next ≤ h3.next ∧ t.1 ≤ S.n ∧ (JG q1 h3 (bestL T S false s) v1 ∧ JG q2 h3 (bestL T S true s) v2) ∧ (t.2.1 = Bool.true ↔ ∀ j, j < t.1 → 0 ≤ (T.far (S.f s) (S.f j) Bool.false).n) ∧ (t.2.2 = Bool.true ↔ ∀ j, j < t.1 → 0 ≤ (T.far (S.f s) (S.f j) Bool.true).n)) (fun t => S.n - t.1) (0, Bool.true, Bool.true) ⟨rfl, rfl, rfl, rfl, rfl, rfl, rfl, rfl, trivial⟩ ⟨by (exact byGet), by (exact bySame), by (exact byOm), by dsimp only; omega, ⟨G1.frame fun _ => rfl, G2.frame fun _ => rfl⟩, ⟨fun _ j hj => absurd hj (Nat.not_lt_zero j), fun _ => rfl⟩, ⟨fun _ j hj => absurd hj (Nat.not_lt_zero j), fun _ => rfl⟩⟩ ?_
    rintro ⟨t, a, b⟩ g3' h3 ⟨g3, sm3, n3, ht, ⟨G1', G2'⟩, ha, hb⟩ K3 hK3
    dsimp only at ht ha hb ⊢
    unfold exBox at g3
    have i7 := i1.same sm3 r1
    by_cases htn : t < S.n
    · have r1' := r1 (by omega)
      have hms : T.mspan (S.f s) (S.f t) = (T.far (S.f s) (S.f t) Bool.false, T.far (S.f s) (S.f t) Bool.true) := by unfold Tbl.mspan; rw [if_pos (g.nerr ⟨hon s hsn2, hon t htn⟩)]
      have m1 : (T.mspan (S.f s) (S.f t)).1.n = (T.far (S.f s) (S.f t) Bool.false).n := by rw [hms]
      have m2 : (T.mspan (S.f s) (S.f t)).2.n = (T.far (S.f s) (S.f t) Bool.true).n := by rw [hms]
      cases a <;> cases b
      all_goals (focus ((try with_reducible apply wpC.to); (repeat' ((conv => whnf); first | refine byEv ?_ | ((apply Fork.mk) <;> (intro _; try (exfalso; omega; done))) | ((apply q_call); (focus exact byNext); (focus exact byLo); (focus (first | exact kChartRj0 | exact kChartRd2 | exact kChartRb0)); first | ((apply q_allB) <;> (intro z_b _ _ _; first | exact Bool.noConfusion z_b | replace z_b := of_decide_eq_true z_b | replace z_b := of_decide_eq_false z_b | skip) <;> (first | contradiction | (revert z_b; intros))) | ((apply q_alli) <;> (intro _ _ _ _; try contradiction)) | ((apply q_allv); intro _ _ _)) | ((apply Load1.mk); (focus ((repeat (first | (apply el_lo <;> first | assumption | omega) | (apply el_hi <;> first | assumption | omega) | apply bump_old | ((apply put_old); focus (dsimp only [aadd]; omega)) | ((apply quiet_old); (focus assumption); focus (dsimp only [aadd]; omega)) | ((apply same_old); (focus assumption); focus (dsimp only [aadd]; omega)))); done)); (focus exact byVal)) | fail)); all_goals (conv => whnf); all_goals (try with_reducible apply At.mk)))
      all_goals refine hK3 (t + 1, _, _) _ _ ⟨rfl, rfl, rfl, rfl, rfl, rfl, rfl, int_of rfl (by omega), trivial⟩ ⟨by (exact byGet), by (exact bySame), by (exact byOm), by dsimp only; omega, ⟨G1'.frame fun h0 => get_of fun y hy => by have := hq1 h0; (exact byGet), G2'.frame fun h0 => get_of fun y hy => by have := hq2 h0; (exact byGet)⟩, step_iff ha (by first | (simp; done) | (simp; omega)), step_iff hb (by first | (simp; done) | (simp; omega))⟩ (by dsimp only; omega)
    · obtain rfl : t = S.n := by omega
      have hb1 : a = Bool.true ↔ best1 T S Bool.false s := ha
      have hb2 : b = Bool.true ↔ best1 T S Bool.true s := hb
      cases a <;> cases b
      · (focus ((try with_reducible apply wpC.to); (repeat' ((conv => whnf); first | refine byEv ?_ | ((apply Fork.mk) <;> (intro _; try (exfalso; omega; done))) | ((apply q_call); (focus exact byNext); (focus exact byLo); (focus (first | exact kChartRj0 | exact kChartRd2 | exact kChartRb0)); first | ((apply q_allB) <;> (intro z_b _ _ _; first | exact Bool.noConfusion z_b | replace z_b := of_decide_eq_true z_b | replace z_b := of_decide_eq_false z_b | skip) <;> (first | contradiction | (revert z_b; intros))) | ((apply q_alli) <;> (intro _ _ _ _; try contradiction)) | ((apply q_allv); intro _ _ _)) | ((apply Load1.mk); (focus ((repeat (first | (apply el_lo <;> first | assumption | omega) | (apply el_hi <;> first | assumption | omega) | apply bump_old | ((apply put_old); focus (dsimp only [aadd]; omega)) | ((apply quiet_old); (focus assumption); focus (dsimp only [aadd]; omega)) | ((apply same_old); (focus assumption); focus (dsimp only [aadd]; omega)))); done)); (focus exact byVal)) | fail)); all_goals (conv => whnf); all_goals (try with_reducible apply At.mk)))
        have z1 : bestL T S Bool.false (s + 1) = bestL T S Bool.false s := by rw [nx1, if_neg (fun k => Bool.noConfusion (hb1.2 k))]
        have z2 : bestL T S Bool.true (s + 1) = bestL T S Bool.true s := by rw [nx2, if_neg (fun k => Bool.noConfusion (hb2.2 k))]
        refine hK2 (s + 1, (v1, q1), v2, q2) _ _ ⟨rfl, rfl, by dsimp only; rw [z1]; exact rfl, by dsimp only; rw [z2]; exact rfl, int_of rfl (by omega), trivial⟩ ⟨by (exact byGet), by (exact bySame), by (exact byOm), by dsimp only; omega, ?_, ?_, ?_, ?_⟩ (by dsimp only; omega)
        · dsimp only; rw [z1, z2]; exact ⟨G1'.frame fun h0 => get_of fun y hy => by have := hq1 h0; (exact byGet), G2'.frame fun h0 => get_of fun y hy => by have := hq2 h0; (exact byGet)⟩
        · dsimp only; rw [z1]; exact fun h0 => by have := hq1 h0; (exact byOm)
        · dsimp only; rw [z2]; exact fun h0 => by have := hq2 h0; (exact byOm)
        · dsimp only; rw [z1, z2]; exact hq
      · (focus ((try with_reducible apply wpC.to); (repeat' ((conv => whnf); first | refine byEv ?_ | ((apply Fork.mk) <;> (intro _; try (exfalso; omega; done))) | ((apply q_call); (focus exact byNext); (focus exact byLo); (focus (first | exact kChartRj0 | exact kChartRd2 | exact kChartRb0)); first | ((apply q_allB) <;> (intro z_b _ _ _; first | exact Bool.noConfusion z_b | replace z_b := of_decide_eq_true z_b | replace z_b := of_decide_eq_false z_b | skip) <;> (first | contradiction | (revert z_b; intros))) | ((apply q_alli) <;> (intro _ _ _ _; try contradiction)) | ((apply q_allv); intro _ _ _)) | ((apply Load1.mk); (focus ((repeat (first | (apply el_lo <;> first | assumption | omega) | (apply el_hi <;> first | assumption | omega) | apply bump_old | ((apply put_old); focus (dsimp only [aadd]; omega)) | ((apply quiet_old); (focus assumption); focus (dsimp only [aadd]; omega)) | ((apply same_old); (focus assumption); focus (dsimp only [aadd]; omega)))); done)); (focus exact byVal)) | fail)); all_goals (conv => whnf); all_goals (try with_reducible apply At.mk)))
        have z1 : bestL T S Bool.false (s + 1) = bestL T S Bool.false s := by rw [nx1, if_neg (fun k => Bool.noConfusion (hb1.2 k))]
        have z2 : bestL T S Bool.true (s + 1) = bestL T S Bool.true s ++ [s] := by rw [nx2, if_pos (hb2.1 rfl)]
        apply q_appJ (r := q2) (i := s) (l := bestL T S true s) (v := v2)
        case G => exact G2'.frame fun h0 => get_of fun y hy => by have := hq2 h0; (exact byGet)
        case hsv => exact rfl
        case C => exact Cells.one (by (exact byMem)) (by unfold far; omega) rfl rfl
        case hlo => omega
        case hlr => exact fun h0 => by have := hq2 h0; omega
        case hsm => omega
        intro v2' q2' row2 b1 b2 b3 J2
        have c2 : h.next + 1 ≤ q2' ∧ (q2' < h2.next ∨ h3.next ≤ q2') := by
          rcases Nat.eq_zero_or_pos (bestL T S true s).length with h0 | h0
          · have := b1 h0; omega
          · have := b2 h0; have := hq2 h0; omega
        have d2 : 0 < (bestL T S false s).length → q2' ≠ q1 := fun h0 => by
          have := hq1 h0
          rcases Nat.eq_zero_or_pos (bestL T S true s).length with h1 | h1
          · have := b1 h1; omega
          · have := b2 h1; have := hq h0 h1; omega
        (focus ((try with_reducible apply wpC.to); (repeat' ((conv => whnf); first | refine byEv ?_ | ((apply Fork.mk) <;> (intro _; try (exfalso; omega; done))) | ((apply q_call); (focus exact byNext); (focus exact byLo); (focus (first | exact kChartRj0 | exact kChartRd2 | exact kChartRb0)); first | ((apply q_allB) <;> (intro z_b _ _ _; first | exact Bool.noConfusion z_b | replace z_b := of_decide_eq_true z_b | replace z_b := of_decide_eq_false z_b | skip) <;> (first | contradiction | (revert z_b; intros))) | ((apply q_alli) <;> (intro _ _ _ _; try contradiction)) | ((apply q_allv); intro _ _ _)) | ((apply Load1.mk); (focus ((repeat (first | (apply el_lo <;> first | assumption | omega) | (apply el_hi <;> first | assumption | omega) | apply bump_old | ((apply put_old); focus (dsimp only [aadd]; omega)) | ((apply quiet_old); (focus assumption); focus (dsimp only [aadd]; omega)) | ((apply same_old); (focus assumption); focus (dsimp only [aadd]; omega)))); done)); (focus exact byVal)) | fail)); all_goals (conv => whnf); all_goals (try with_reducible apply At.mk)))
        refine hK2 (s + 1, (v1, q1), v2', q2') _ _ ⟨rfl, rfl, by dsimp only; rw [z1]; exact rfl, by dsimp only; rw [z2, List.length_append]; exact rfl, int_of rfl (by omega), trivial⟩ ⟨by (exact byGet), by (exact bySame), by (exact byOm), by dsimp only; omega, ?_, ?_, ?_, ?_⟩ (by dsimp only; omega)
        · dsimp only; rw [z1, z2]; exact ⟨G1'.frame fun h0 => get_of fun y hy => by have := hq1 h0; have := d2 h0; (exact byGet), J2.frame fun _ => get_of fun y hy => by (exact byGet)⟩
        · dsimp only; rw [z1]; exact fun h0 => by have := hq1 h0; (exact byOm)
        · dsimp only; exact fun _ => by (exact byOm)
        · dsimp only; rw [z1]; exact fun h0 _ => by have := d2 h0; omega
      · (focus ((try with_reducible apply wpC.to); (repeat' ((conv => whnf); first | refine byEv ?_ | ((apply Fork.mk) <;> (intro _; try (exfalso; omega; done))) | ((apply q_call); (focus exact byNext); (focus exact byLo); (focus (first | exact kChartRj0 | exact kChartRd2 | exact kChartRb0)); first | ((apply q_allB) <;> (intro z_b _ _ _; first | exact Bool.noConfusion z_b | replace z_b := of_decide_eq_true z_b | replace z_b := of_decide_eq_false z_b | skip) <;> (first | contradiction | (revert z_b; intros))) | ((apply q_alli) <;> (intro _ _ _ _; try contradiction)) | ((apply q_allv); intro _ _ _)) | ((apply Load1.mk); (focus ((repeat (first | (apply el_lo <;> first | assumption | omega) | (apply el_hi <;> first | assumption | omega) | apply bump_old | ((apply put_old); focus (dsimp only [aadd]; omega)) | ((apply quiet_old); (focus assumption); focus (dsimp only [aadd]; omega)) | ((apply same_old); (focus assumption); focus (dsimp only [aadd]; omega)))); done)); (focus exact byVal)) | fail)); all_goals (conv => whnf); all_goals (try with_reducible apply At.mk)))
        have z1 : bestL T S Bool.false (s + 1) = bestL T S Bool.false s ++ [s] := by rw [nx1, if_pos (hb1.1 rfl)]
        have z2 : bestL T S Bool.true (s + 1) = bestL T S Bool.true s := by rw [nx2, if_neg (fun k => Bool.noConfusion (hb2.2 k))]
        apply q_appJ (r := q1) (i := s) (l := bestL T S false s) (v := v1)
        case G => exact G1'.frame fun h0 => get_of fun y hy => by have := hq1 h0; (exact byGet)
        case hsv => exact rfl
        case C => exact Cells.one (by (exact byMem)) (by unfold far; omega) rfl rfl
        case hlo => omega
        case hlr => exact fun h0 => by have := hq1 h0; omega
        case hsm => omega
        intro v1' q1' row1 a1 a2 a3 J1
        have c1 : h.next + 1 ≤ q1' ∧ (q1' < h2.next ∨ h3.next ≤ q1') := by
          rcases Nat.eq_zero_or_pos (bestL T S false s).length with h0 | h0
          · have := a1 h0; omega
          · have := a2 h0; have := hq1 h0; omega
        have d1 : 0 < (bestL T S true s).length → q1' ≠ q2 := fun h0 => by
          have := hq2 h0
          rcases Nat.eq_zero_or_pos (bestL T S false s).length with h1 | h1
          · have := a1 h1; omega
          · have := a2 h1; have := hq h1 h0; omega
        (focus ((try with_reducible apply wpC.to); (repeat' ((conv => whnf); first | refine byEv ?_ | ((apply Fork.mk) <;> (intro _; try (exfalso; omega; done))) | ((apply q_call); (focus exact byNext); (focus exact byLo); (focus (first | exact kChartRj0 | exact kChartRd2 | exact kChartRb0)); first | ((apply q_allB) <;> (intro z_b _ _ _; first | exact Bool.noConfusion z_b | replace z_b := of_decide_eq_true z_b | replace z_b := of_decide_eq_false z_b | skip) <;> (first | contradiction | (revert z_b; intros))) | ((apply q_alli) <;> (intro _ _ _ _; try contradiction)) | ((apply q_allv); intro _ _ _)) | ((apply Load1.mk); (focus ((repeat (first | (apply el_lo <;> first | assumption | omega) | (apply el_hi <;> first | assumption | omega) | apply bump_old | ((apply put_old); focus (dsimp only [aadd]; omega)) | ((apply quiet_old); (focus assumption); focus (dsimp only [aadd]; omega)) | ((apply same_old); (focus assumption); focus (dsimp only [aadd]; omega)))); done)); (focus exact byVal)) | fail)); all_goals (conv => whnf); all_goals (try with_reducible apply At.mk)))
        refine hK2 (s + 1, (v1', q1'), v2, q2) _ _ ⟨rfl, rfl, by dsimp only; rw [z1, List.length_append]; exact rfl, by dsimp only; rw [z2]; exact rfl, int_of rfl (by omega), trivial⟩ ⟨by (exact byGet), by (exact bySame), by (exact byOm), by dsimp only; omega, ?_, ?_, ?_, ?_⟩ (by dsimp only; omega)
        · dsimp only; rw [z1, z2]; exact ⟨J1.frame fun _ => get_of fun y hy => by (exact byGet), G2'.frame fun h0 => get_of fun y hy => by have := hq2 h0; have := d1 h0; (exact byGet)⟩
        · dsimp only; exact fun _ => by (exact byOm)
        · dsimp only; rw [z2]; exact fun h0 => by have := hq2 h0; (exact byOm)
        · dsimp only; rw [z2]; exact fun _ h0 => by have := d1 h0; omega
      · (focus ((try with_reducible apply wpC.to); (repeat' ((conv => whnf); first | refine byEv ?_ | ((apply Fork.mk) <;> (intro _; try (exfalso; omega; done))) | ((apply q_call); (focus exact byNext); (focus exact byLo); (focus (first | exact kChartRj0 | exact kChartRd2 | exact kChartRb0)); first | ((apply q_allB) <;> (intro z_b _ _ _; first | exact Bool.noConfusion z_b | replace z_b := of_decide_eq_true z_b | replace z_b := of_decide_eq_false z_b | skip) <;> (first | contradiction | (revert z_b; intros))) | ((apply q_alli) <;> (intro _ _ _ _; try contradiction)) | ((apply q_allv); intro _ _ _)) | ((apply Load1.mk); (focus ((repeat (first | (apply el_lo <;> first | assumption | omega) | (apply el_hi <;> first | assumption | omega) | apply bump_old | ((apply put_old); focus (dsimp only [aadd]; omega)) | ((apply quiet_old); (focus assumption); focus (dsimp only [aadd]; omega)) | ((apply same_old); (focus assumption); focus (dsimp only [aadd]; omega)))); done)); (focus exact byVal)) | fail)); all_goals (conv => whnf); all_goals (try with_reducible apply At.mk)))
        have z1 : bestL T S Bool.false (s + 1) = bestL T S Bool.false s ++ [s] := by rw [nx1, if_pos (hb1.1 rfl)]
        have z2 : bestL T S Bool.true (s + 1) = bestL T S Bool.true s ++ [s] := by rw [nx2, if_pos (hb2.1 rfl)]
        apply q_appJ (r := q1) (i := s) (l := bestL T S false s) (v := v1)
        case G => exact G1'.frame fun h0 => get_of fun y hy => by have := hq1 h0; (exact byGet)
        case hsv => exact rfl
        case C => exact Cells.one (by (exact byMem)) (by unfold far; omega) rfl rfl
        case hlo => omega
        case hlr => exact fun h0 => by have := hq1 h0; omega
        case hsm => omega
        intro v1' q1' row1 a1 a2 a3 J1
        have c1 : h.next + 1 ≤ q1' ∧ (q1' < h2.next ∨ h3.next ≤ q1') := by
          rcases Nat.eq_zero_or_pos (bestL T S false s).length with h0 | h0
          · have := a1 h0; omega
          · have := a2 h0; have := hq1 h0; omega
        have d1 : 0 < (bestL T S true s).length → q1' ≠ q2 := fun h0 => by
          have := hq2 h0
          rcases Nat.eq_zero_or_pos (bestL T S false s).length with h1 | h1
          · have := a1 h1; omega
          · have := a2 h1; have := hq h1 h0; omega
        (focus ((try with_reducible apply wpC.to); (repeat' ((conv => whnf); first | refine byEv ?_ | ((apply Fork.mk) <;> (intro _; try (exfalso; omega; done))) | ((apply q_call); (focus exact byNext); (focus exact byLo); (focus (first | exact kChartRj0 | exact kChartRd2 | exact kChartRb0)); first | ((apply q_allB) <;> (intro z_b _ _ _; first | exact Bool.noConfusion z_b | replace z_b := of_decide_eq_true z_b | replace z_b := of_decide_eq_false z_b | skip) <;> (first | contradiction | (revert z_b; intros))) | ((apply q_alli) <;> (intro _ _ _ _; try contradiction)) | ((apply q_allv); intro _ _ _)) | ((apply Load1.mk); (focus ((repeat (first | (apply el_lo <;> first | assumption | omega) | (apply el_hi <;> first | assumption | omega) | apply bump_old | ((apply put_old); focus (dsimp only [aadd]; omega)) | ((apply quiet_old); (focus assumption); focus (dsimp only [aadd]; omega)) | ((apply same_old); (focus assumption); focus (dsimp only [aadd]; omega)))); done)); (focus exact byVal)) | fail)); all_goals (conv => whnf); all_goals (try with_reducible apply At.mk)))
        apply q_appJ (r := q2) (i := s) (l := bestL T S true s) (v := v2)
        case G => exact G2'.frame fun h0 => get_of fun y hy => by have := hq2 h0; have := d1 h0; (exact byGet)
        case hsv => exact rfl
        case C => exact Cells.one (by (exact byMem)) (by unfold far; omega) rfl rfl
        case hlo => omega
        case hlr => exact fun h0 => by have := hq2 h0; omega
        case hsm => omega
        intro v2' q2' row2 b1 b2 b3 J2
        have c2 : h.next + 1 ≤ q2' ∧ (q2' < h2.next ∨ h3.next ≤ q2') := by
          rcases Nat.eq_zero_or_pos (bestL T S true s).length with h0 | h0
          · have := b1 h0; omega
          · have := b2 h0; have := hq2 h0; omega
        have d2 : 0 < (bestL T S false s).length → q2' ≠ q1 := fun h0 => by
          have := hq1 h0
          rcases Nat.eq_zero_or_pos (bestL T S true s).length with h1 | h1
          · have := b1 h1; omega
          · have := b2 h1; have := hq h0 h1; omega
        have e12 : q2' ≠ q1' := by
          rcases Nat.eq_zero_or_pos (bestL T S true s).length with h1 | h1
          · have := b1 h1; omega
          · have := b2 h1; have := d1 h1; omega
        (focus ((try with_reducible apply wpC.to); (repeat' ((conv => whnf); first | refine byEv ?_ | ((apply Fork.mk) <;> (intro _; try (exfalso; omega; done))) | ((apply q_call); (focus exact byNext); (focus exact byLo); (focus (first | exact kChartRj0 | exact kChartRd2 | exact kChartRb0)); first | ((apply q_allB) <;> (intro z_b _ _ _; first | exact Bool.noConfusion z_b | replace z_b := of_decide_eq_true z_b | replace z_b := of_decide_eq_false z_b | skip) <;> (first | contradiction | (revert z_b; intros))) | ((apply q_alli) <;> (intro _ _ _ _; try contradiction)) | ((apply q_allv); intro _ _ _)) | ((apply Load1.mk); (focus ((repeat (first | (apply el_lo <;> first | assumption | omega) | (apply el_hi <;> first | assumption | omega) | apply bump_old | ((apply put_old); focus (dsimp only [aadd]; omega)) | ((apply quiet_old); (focus assumption); focus (dsimp only [aadd]; omega)) | ((apply same_old); (focus assumption); focus (dsimp only [aadd]; omega)))); done)); (focus exact byVal)) | fail)); all_goals (conv => whnf); all_goals (try with_reducible apply At.mk)))
        refine hK2 (s + 1, (v1', q1'), v2', q2') _ _ ⟨rfl, rfl, by dsimp only; rw [z1, List.length_append]; exact rfl, by dsimp only; rw [z2, List.length_append]; exact rfl, int_of rfl (by omega), trivial⟩ ⟨by (exact byGet), by (exact bySame), by (exact byOm), by dsimp only; omega, ?_, ?_, ?_, ?_⟩ (by dsimp only; omega)
        · dsimp only; rw [z1, z2]; exact ⟨J1.frame fun _ => get_of fun y hy => by (exact byGet), J2.frame fun _ => get_of fun y hy => by (exact byGet)⟩
        · dsimp only; exact fun _ => by (exact byOm)
        · dsimp only; exact fun _ => by (exact byOm)
        · dsimp only; exact fun _ _ => by omega
  · obtain rfl : s = S.n := by omega
    obtain ⟨a1, hA, kA⟩ := G1.arr (N := h2.next) (fun h => (hq1 h).2) (by omega)
    obtain ⟨a2, hB, kB⟩ := G2.arr (N := h2.next) (fun h => (hq2 h).2) (by omega)
    (focus ((try with_reducible apply wpC.to); (repeat' ((conv => whnf); first | refine byEv ?_ | ((apply Fork.mk) <;> (intro _; try (exfalso; omega; done))) | ((apply q_call); (focus exact byNext); (focus exact byLo); (focus (first | exact kChartRj0 | exact kChartRd2 | exact kChartRb0)); first | ((apply q_allB) <;> (intro z_b _ _ _; first | exact Bool.noConfusion z_b | replace z_b := of_decide_eq_true z_b | replace z_b := of_decide_eq_false z_b | skip) <;> (first | contradiction | (revert z_b; intros))) | ((apply q_alli) <;> (intro _ _ _ _; try contradiction)) | ((apply q_allv); intro _ _ _)) | ((apply Load1.mk); (focus ((repeat (first | (apply el_lo <;> first | assumption | omega) | (apply el_hi <;> first | assumption | omega) | apply bump_old | ((apply put_old); focus (dsimp only [aadd]; omega)) | ((apply quiet_old); (focus assumption); focus (dsimp only [aadd]; omega)) | ((apply same_old); (focus assumption); focus (dsimp only [aadd]; omega)))); done)); (focus exact byVal)) | fail)); all_goals (conv => whnf); all_goals (try with_reducible apply At.mk)))
    (refine byFin ?_)
    exact ⟨_, _, rfl, hA, hB, kA.same (fun r hr => rfl) (by (exact byOm)), kB.same (fun r hr => rfl) (by (exact byOm))⟩
end AE.Try
