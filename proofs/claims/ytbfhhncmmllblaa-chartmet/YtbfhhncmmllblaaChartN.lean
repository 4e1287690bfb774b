/- Walks of chart: by how much a point pulls more than another one. -/
import Derived.Test.YtbfhhncmmllblaaChartM
set_option linter.unusedVariables false
set_option linter.unusedSimpArgs false
set_option linter.unusedSectionVars false
namespace AE.Try
open Go AE Go.Proofs
set_option maxRecDepth 100000
set_option linter.unusedVariables false

/-- Which place the j-th corner is. -/
def Tbl.ci (T : Tbl) (p : Pt) (j : Nat) : Nat := T.i p + j / 2
def Tbl.ck (T : Tbl) (p : Pt) (j : Nat) : Nat := T.k p + j % 2
/-- The weights of the first corners of one, times b. -/
def add1 (T : Tbl) (p : Pt) (b : Int) : Nat → Nat → Nat → Int
  | 0 => fun _ _ => 0
  | j + 1 => if T.w p j = 0 then add1 T p b j else upd2 (add1 T p b j) (T.ci p j) (T.ck p j) (add1 T p b j (T.ci p j) (T.ck p j) + T.w p j * b)
def sub2 (T : Tbl) (q : Pt) (a : Int) (F : Nat → Nat → Int) : Nat → Nat → Nat → Int
  | 0 => F
  | j + 1 => upd2 (sub2 T q a F j) (T.ci q j) (T.ck q j) (sub2 T q a F j (T.ci q j) (T.ck q j) - T.w q j * a)
/-- With which weight the pull at each place counts. -/
def Tbl.more (T : Tbl) (p q : Pt) : Nat → Nat → Int := sub2 T q (T.whole p) (add1 T p (T.whole q) 4) 4

theorem corner_inj {T : Tbl} {p : Pt} {j j' : Nat} (hj : j < 4) (hj' : j' < 4) (h : (T.ci p j, T.ck p j) = (T.ci p j', T.ck p j')) : j = j' := by
  simp only [Tbl.ci, Tbl.ck, Prod.mk.injEq] at h
  omega
theorem add1_at (T : Tbl) (p : Pt) (b : Int) : ∀ n, n ≤ 4 → ∀ i k, (∃ j, j < n ∧ (i, k) = (T.ci p j, T.ck p j) ∧ add1 T p b n i k = T.w p j * b) ∨ ((∀ j, j < n → (i, k) ≠ (T.ci p j, T.ck p j)) ∧ add1 T p b n i k = 0)
  | 0, _, i, k => .inr ⟨fun j hj => by omega, rfl⟩
  | n + 1, hn, i, k => by
    have ih := add1_at T p b n (by omega)
    have hnew : add1 T p b n (T.ci p n) (T.ck p n) = 0 := by
      rcases ih (T.ci p n) (T.ck p n) with ⟨j, hj, e, -⟩ | ⟨-, e⟩
      · have := corner_inj (by omega) (by omega) e; omega
      · exact e
    have hval : ∀ i k, add1 T p b (n + 1) i k = if (i, k) = (T.ci p n, T.ck p n) then T.w p n * b else add1 T p b n i k := by
      intro i k
      simp only [add1]
      by_cases hw : T.w p n = 0
      · rw [if_pos hw]
        split
        · rename_i h
          simp only [Prod.mk.injEq] at h
          rw [h.1, h.2, hnew, hw, Int.zero_mul]
        · rfl
      · rw [if_neg hw]
        split
        · rename_i h
          simp only [Prod.mk.injEq] at h
          rw [h.1, h.2, upd2_at, hnew, Int.zero_add]
        · rename_i h
          rw [upd2_ne _ _ h]
    rw [hval]
    by_cases h : (i, k) = (T.ci p n, T.ck p n)
    · rw [if_pos h]
      exact .inl ⟨n, by omega, h, rfl⟩
    · rw [if_neg h]
      rcases ih i k with ⟨j, hj, e, e'⟩ | ⟨e, e'⟩
      · exact .inl ⟨j, by omega, e, e'⟩
      · refine .inr ⟨fun j hj => ?_, e'⟩
        by_cases hjn : j = n
        · subst hjn; exact h
        · exact e j (by omega)
theorem sub2_at (T : Tbl) (q : Pt) (a : Int) (F : Nat → Nat → Int) : ∀ n, n ≤ 4 → ∀ i k, (∃ j, j < n ∧ (i, k) = (T.ci q j, T.ck q j) ∧ sub2 T q a F n i k = F i k - T.w q j * a) ∨ ((∀ j, j < n → (i, k) ≠ (T.ci q j, T.ck q j)) ∧ sub2 T q a F n i k = F i k)
  | 0, _, i, k => .inr ⟨fun j hj => by omega, rfl⟩
  | n + 1, hn, i, k => by
    have ih := sub2_at T q a F n (by omega)
    have hold : sub2 T q a F n (T.ci q n) (T.ck q n) = F (T.ci q n) (T.ck q n) := by
      rcases ih (T.ci q n) (T.ck q n) with ⟨j, hj, e, -⟩ | ⟨-, e⟩
      · have := corner_inj (by omega) (by omega) e; omega
      · exact e
    by_cases h : (i, k) = (T.ci q n, T.ck q n)
    · refine .inl ⟨n, by omega, h, ?_⟩
      simp only [Prod.mk.injEq] at h
      simp only [sub2]
      rw [h.1, h.2, upd2_at, hold]
    · have e0 : sub2 T q a F (n + 1) i k = sub2 T q a F n i k := by
        simp only [sub2]
        rw [upd2_ne _ _ h]
      rw [e0]
      rcases ih i k with ⟨j, hj, e, e'⟩ | ⟨e, e'⟩
      · exact .inl ⟨j, by omega, e, e'⟩
      · refine .inr ⟨fun j hj => ?_, e'⟩
        by_cases hjn : j = n
        · subst hjn; exact h
        · exact e j (by omega)
theorem add1_rng {T : Tbl} {p : Pt} {b : Int} (ar : Around T p) (hb : 0 ≤ b ∧ b ≤ 4000000) (n : Nat) (hn : n ≤ 4) (i k : Nat) : 0 ≤ add1 T p b n i k ∧ add1 T p b n i k ≤ 16000000000000 := by
  rcases add1_at T p b n hn i k with ⟨j, hj, -, e⟩ | ⟨-, e⟩
  · rw [e]
    exact mul_rng (ar.w j).1 (ar.w j).2 hb.1 hb.2
  · rw [e]; omega
theorem sub2_rng {T : Tbl} {q : Pt} {a : Int} {F : Nat → Nat → Int} (ar : Around T q) (ha : 0 ≤ a ∧ a ≤ 4000000) (hF : ∀ i k, 0 ≤ F i k ∧ F i k ≤ 16000000000000) (n : Nat) (hn : n ≤ 4) (i k : Nat) : -16000000000000 ≤ sub2 T q a F n i k ∧ sub2 T q a F n i k ≤ 16000000000000 := by
  have := hF i k
  rcases sub2_at T q a F n hn i k with ⟨j, hj, -, e⟩ | ⟨-, e⟩
  · rw [e]
    have := mul_rng (ar.w j).1 (ar.w j).2 ha.1 ha.2
    omega
  · rw [e]; omega

theorem pget_put {l : List PE} {i k c : Nat} {x : Int} : pget (pput l i k x c) i k = x := by
  have hf := find_put (l := l) (i := i) (k := k) (c := c) (x := x)
  unfold pget
  rw [hf]
  unfold pput
  cases hj : l.findIdx? (isKey i k) with
  | some j =>
    obtain ⟨hjl, -⟩ := List.findIdx?_eq_some_iff_getElem.1 hj
    simp [hjl]
  | none => simp
theorem keyE (T : Tbl) (p : Pt) (j : Nat) : Value.agg ⟨[.int .i64 ((T.i p : Int) + ((j / 2 : Nat) : Int)), .int .i64 ((T.k p : Int) + ((j % 2 : Nat) : Int))]⟩ = .agg ⟨[.int .i64 ((T.ci p j : Nat) : Int), .int .i64 ((T.ck p j : Nat) : Int)]⟩ := by
  unfold Tbl.ci Tbl.ck
  rw [Int.natCast_add, Int.natCast_add]
theorem kChartN0 {G : Prop} (g : G := by ((apply corners_c; rotate_left; (focus (apply Tbl.Ok.same; (focus assumption); (focus exact bySame); (focus exact Nat.le_refl _))); (focus assumption); (focus assumption); (focus exact byOm)))) : G := g

set_option maxHeartbeats 4000000 in
theorem more_w {h : H} {T : Tbl} {m : Nat} {p q : Pt} (hm : m ≤ h.next) (hT : T.Ok m h) (g : T.Good) (o : T.On p) (o' : T.On q) : AW Try.prog 84 h.next h [.agg ⟨T.cells⟩, .agg ⟨p.cells⟩, .agg ⟨q.cells⟩] (fun v h' => ∃ r l c, v = .tuple #[.map (some r), .int .i64 (T.whole p * T.whole q)] ∧ h'.get r = some (.map (pents l) c) ∧ Rep l c (T.more p q) ∧ h.next ≤ r ∧ r < h'.next) := by
  have ar := g.around o
  have ar' := g.around o'
  have w1 := ar.whole
  have w2 := ar'.whole
  have w12 := mul_rng (Int.le_of_lt w1.1) w1.2 (Int.le_of_lt w2.1) w2.2
  refine fun84.call rfl (Nat.le_refl _) ?_
  unfold a84 Tbl.cells Pt.cells
  (focus ((try with_reducible apply wpC.to); (repeat' ((conv => whnf); first | refine byEv ?_ | ((apply Fork.mk) <;> (intro _; try (exfalso; omega; done))) | ((apply q_call); (focus exact byNext); (focus exact byLo); (focus (first | exact kChartN0 | exact kChartI0 | exact kChartH0)); first | ((apply q_allB) <;> (intro z_b _ _ _; first | exact Bool.noConfusion z_b | replace z_b := of_decide_eq_true z_b | replace z_b := of_decide_eq_false z_b | skip) <;> (first | contradiction | (revert z_b; intros))) | ((apply q_alli) <;> (intro _ _ _ _; try contradiction)) | ((apply q_allv); intro _ _ _)) | fail)); all_goals (conv => whnf); all_goals (try with_reducible apply At.mk)))
  rename_i h2 q2 n2 h3 q3 n3
  refine OpE.mk (v := .map (some h3.next)) rfl ?_
  (focus ((try with_reducible apply wpC.to); (repeat' ((conv => whnf); first | refine byEv ?_ | ((apply Fork.mk) <;> (intro _; try (exfalso; omega; done))) | ((apply q_call); (focus exact byNext); (focus exact byLo); (focus (first | exact kChartN0 | exact kChartI0 | exact kChartH0)); first | ((apply q_allB) <;> (intro z_b _ _ _; first | exact Bool.noConfusion z_b | replace z_b := of_decide_eq_true z_b | replace z_b := of_decide_eq_false z_b | skip) <;> (first | contradiction | (revert z_b; intros))) | ((apply q_alli) <;> (intro _ _ _ _; try contradiction)) | ((apply q_allv); intro _ _ _)) | fail)); all_goals (conv => whnf); all_goals (try with_reducible apply At.mk)))
  apply q_call
  focus (exact byNext)
  focus (exact byLo)
  focus exact corners_c (T := T) (p := p) (m := m) (by (exact byOm)) (hT.same (by (exact bySame)) (Nat.le_refl _)) g o
  rintro _ h4 ⟨r1, r2, r3, r4, rfl, cr, ci⟩ q4 n4
  simp only [put_next, bump_next] at ci
  have b1 := ci.b1
  have b2 := ci.b2
  have b3 := ci.b3
  have b4 := ci.b4
  (focus ((try with_reducible apply wpC.to); (repeat' ((conv => whnf); first | refine byEv ?_ | ((apply Fork.mk) <;> (intro _; try (exfalso; omega; done))) | ((apply q_call); (focus exact byNext); (focus exact byLo); (focus (first | exact kChartN0 | exact kChartI0 | exact kChartH0)); first | ((apply q_allB) <;> (intro z_b _ _ _; first | exact Bool.noConfusion z_b | replace z_b := of_decide_eq_true z_b | replace z_b := of_decide_eq_false z_b | skip) <;> (first | contradiction | (revert z_b; intros))) | ((apply q_alli) <;> (intro _ _ _ _; try contradiction)) | ((apply q_allv); intro _ _ _)) | fail)); all_goals (conv => whnf); all_goals (try with_reducible apply At.mk)))
  have x1 : h4.get h.next = some (.cells [.slice T.P.b T.P.n T.P.c, .slice T.A.b T.A.n T.A.c, .slice T.R.b T.R.n T.R.c] 84) := by (exact byGet)
  have x2 : h4.get (h.next + 2) = some (.cells [.int .i64 q.p, .int .i64 q.a] 28) := by (exact byGet)
  have x3 : h4.get (h.next + 11) = some (.cells [.int .i64 (T.whole p)] 2) := by (exact byGet)
  have x4 : h4.get (h.next + 12) = some (.cells [.int .i64 (T.whole q)] 2) := by (exact byGet)
  have x5 : h4.get (h3.next + 1) = some (.cells [.map (some h3.next)] 119) := by (exact byGet)
  have x6 : h4.get h3.next = some (.map (pents []) 0) := by (exact byGet)
  have s4 : Same m h h4 := by (exact bySame)
  refine wp_forget (l := [(3, .pointer (some ⟨h.next, 0, none⟩)), (5, .pointer (some ⟨h.next + 2, 0, none⟩)), (8, .pointer (some ⟨h.next + 11, 0, none⟩)), (9, .pointer (some ⟨h.next + 12, 0, none⟩)), (10, .pointer (some ⟨h3.next + 1, 0, none⟩)), (24, cornV r1 r2 r3 r4)]) ⟨rfl, rfl, rfl, rfl, rfl, rfl, trivial⟩ fun g' => ?_
  apply wp_range
  focus exact rfl
  focus (exact byNext)
  focus (exact byList)
  intro L0 hL0
  refine ⟨_, corn_w (T := T) (p := p) (r1 := r1) (r2 := r2) (r3 := r3) (r4 := r4) ar (by (exact byOm)) g.n6 (fun j h5 => CRows T p r1 r2 r3 r4 h5 ∧ (h5.get h.next = some (.cells [.slice T.P.b T.P.n T.P.c, .slice T.A.b T.A.n T.A.c, .slice T.R.b T.R.n T.R.c] 84) ∧ h5.get (h.next + 2) = some (.cells [.int .i64 q.p, .int .i64 q.a] 28) ∧ h5.get (h.next + 11) = some (.cells [.int .i64 (T.whole p)] 2) ∧ h5.get (h.next + 12) = some (.cells [.int .i64 (T.whole q)] 2) ∧ h5.get (h3.next + 1) = some (.cells [.map (some h3.next)] 119)) ∧
    (∃ l c, h5.get h3.next = some (.map (pents l) c) ∧ Rep l c (add1 T p (T.whole q) j)) ∧ h5.get h4.next = some (.loop L0) ∧ h4.next < h5.next ∧ Same m h h5) (fun j h3 k => k.1) ?_ ?_ ⟨?_, ⟨?_, ?_, ?_, ?_, ?_⟩, ⟨[], 0, ?_, Rep.nil⟩, ?_, ?_, ?_⟩ ⟨?_, ?_, ?_, ?_⟩, ?_⟩
  · rintro i h5 h6 ⟨k1, ⟨y1, y2, y3, y4, y5⟩, ⟨l, c, k2, R⟩, k3, k4, k5⟩ qq
    have := qq.next
    exact ⟨k1.same ci fun r h1 h2 => qq.same r (by omega), ⟨by (exact byGet), by (exact byGet), by (exact byGet), by (exact byGet), by (exact byGet)⟩, ⟨l, c, by (exact byGet), R⟩, by (exact byGet), by omega, by (exact bySame)⟩
  · rintro j h5 hj ⟨k1, ⟨y1, y2, y3, y4, y5⟩, ⟨l, c, k2, R⟩, k3, k4, k5⟩ hle
    have hw := ar.w j
    have hwb := mul_rng hw.1 hw.2 (Int.le_of_lt w2.1) w2.2
    have hF := add1_rng ar (b := T.whole q) (by omega) j (by omega) (T.ci p j) (T.ck p j)
    have hge := R.get (T.ci p j) (T.ck p j)
    refine YA.call fun84.mixed (A := a84A0) (B := a84B0) (L := L0) (by rw [hL0]; exact c84A0) (by rw [hL0]; exact c84B0) k3 (by omega) (by omega) (by rw [hL0]; exact rfl) (by rw [hL0]; exact rfl) ?_
    unfold YA a84A0
    refine wp_forget (l := [(9, .pointer (some ⟨h.next + 12, 0, none⟩)), (10, .pointer (some ⟨h3.next + 1, 0, none⟩)), (25, .agg ⟨[.int .i64 ((T.ci p j : Nat) : Int), .int .i64 ((T.ck p j : Nat) : Int)]⟩), (26, .int .i64 (T.w p j))]) ⟨by rw [hL0]; exact rfl, by rw [hL0]; exact rfl, by rw [hL0]; exact keyE T p j, by rw [hL0]; exact rfl, trivial⟩ fun g'' => ?_
    (focus ((try with_reducible apply wpC.to); (repeat' ((conv => whnf); first | refine byEv ?_ | ((apply Fork.mk) <;> (intro _; try (exfalso; omega; done))) | ((apply q_call); (focus exact byNext); (focus exact byLo); (focus (first | exact kChartN0 | exact kChartI0 | exact kChartH0)); first | ((apply q_allB) <;> (intro z_b _ _ _; first | exact Bool.noConfusion z_b | replace z_b := of_decide_eq_true z_b | replace z_b := of_decide_eq_false z_b | skip) <;> (first | contradiction | (revert z_b; intros))) | ((apply q_alli) <;> (intro _ _ _ _; try contradiction)) | ((apply q_allv); intro _ _ _)) | fail)); all_goals (conv => whnf); all_goals (try with_reducible apply At.mk)))
    refine ⟨rfl, L0, by (exact byGet), by rw [hL0]; exact rfl, ?_⟩
    unfold a84B0
    have hL1 : ended (busy L0) .none = L0 := by rw [hL0]; exact rfl
    (focus ((try with_reducible apply wpC.to); (repeat' ((conv => whnf); first | refine byEv ?_ | ((apply Fork.mk) <;> (intro _; try (exfalso; omega; done))) | ((apply q_call); (focus exact byNext); (focus exact byLo); (focus (first | exact kChartN0 | exact kChartI0 | exact kChartH0)); first | ((apply q_allB) <;> (intro z_b _ _ _; first | exact Bool.noConfusion z_b | replace z_b := of_decide_eq_true z_b | replace z_b := of_decide_eq_false z_b | skip) <;> (first | contradiction | (revert z_b; intros))) | ((apply q_alli) <;> (intro _ _ _ _; try contradiction)) | ((apply q_allv); intro _ _ _)) | fail)); all_goals (conv => whnf); all_goals (try with_reducible apply At.mk)))
    · refine OpE.mk (lookup_p (l := l) (c := c) (i := T.ci p j) (k := T.ck p j) (r := h3.next) rfl rfl (by (exact byGet))) ?_
      rw [hge]
      (focus ((try with_reducible apply wpC.to); (repeat' ((conv => whnf); first | refine byEv ?_ | ((apply Fork.mk) <;> (intro _; try (exfalso; omega; done))) | ((apply q_call); (focus exact byNext); (focus exact byLo); (focus (first | exact kChartN0 | exact kChartI0 | exact kChartH0)); first | ((apply q_allB) <;> (intro z_b _ _ _; first | exact Bool.noConfusion z_b | replace z_b := of_decide_eq_true z_b | replace z_b := of_decide_eq_false z_b | skip) <;> (first | contradiction | (revert z_b; intros))) | ((apply q_alli) <;> (intro _ _ _ _; try contradiction)) | ((apply q_allv); intro _ _ _)) | fail)); all_goals (conv => whnf); all_goals (try with_reducible apply At.mk)))
      refine OpE.mk (mapent_p (l := l) (c := c) (i := T.ci p j) (k := T.ck p j) (r := h3.next) rfl rfl (by (exact byGet)) (by omega)) ?_
      (focus ((try with_reducible apply wpC.to); (repeat' ((conv => whnf); first | refine byEv ?_ | ((apply Fork.mk) <;> (intro _; try (exfalso; omega; done))) | ((apply q_call); (focus exact byNext); (focus exact byLo); (focus (first | exact kChartN0 | exact kChartI0 | exact kChartH0)); first | ((apply q_allB) <;> (intro z_b _ _ _; first | exact Bool.noConfusion z_b | replace z_b := of_decide_eq_true z_b | replace z_b := of_decide_eq_false z_b | skip) <;> (first | contradiction | (revert z_b; intros))) | ((apply q_alli) <;> (intro _ _ _ _; try contradiction)) | ((apply q_allv); intro _ _ _)) | fail)); all_goals (conv => whnf); all_goals (try with_reducible apply At.mk)))
      refine OpE.mk (entst_p (l := l) (c := c) (i := T.ci p j) (k := T.ck p j) (r := h3.next) ⟨_, R⟩ rfl rfl rfl (by (exact byGet)) (by omega)) ?_
      (focus ((try with_reducible apply wpC.to); (repeat' ((conv => whnf); first | refine byEv ?_ | ((apply Fork.mk) <;> (intro _; try (exfalso; omega; done))) | ((apply q_call); (focus exact byNext); (focus exact byLo); (focus (first | exact kChartN0 | exact kChartI0 | exact kChartH0)); first | ((apply q_allB) <;> (intro z_b _ _ _; first | exact Bool.noConfusion z_b | replace z_b := of_decide_eq_true z_b | replace z_b := of_decide_eq_false z_b | skip) <;> (first | contradiction | (revert z_b; intros))) | ((apply q_alli) <;> (intro _ _ _ _; try contradiction)) | ((apply q_allv); intro _ _ _)) | fail)); all_goals (conv => whnf); all_goals (try with_reducible apply At.mk)))
      have hw0 : T.w p j ≠ 0 := by assumption
      have hpos : 0 < T.w p j * T.whole q := Int.mul_pos (by omega) w2.1
      have hnew : add1 T p (T.whole q) (j + 1) = upd2 (add1 T p (T.whole q) j) (T.ci p j) (T.ck p j) (add1 T p (T.whole q) j (T.ci p j) (T.ck p j) + T.w p j * T.whole q) := by simp only [add1]; rw [if_neg hw0]
      refine ⟨.none, _, rfl, by (exact byGet), rfl, ?_, ⟨?_, ?_, ?_, ?_, ?_⟩, ⟨_, _, ?_, hnew ▸ R.put (by omega)⟩, ?_, ?_, ?_⟩
      · exact k1.same ci fun r h1 h2 => by
          have hr1 : r ≠ h3.next := by omega
          have hr2 : r ≠ _ := Nat.ne_of_lt h2
          have hr3 : r ≠ h5.next := by omega
          simp only [H.put, bump_get, if_neg hr1, if_neg hr2, if_neg hr3]
      · (exact byGet)
      · (exact byGet)
      · (exact byGet)
      · (exact byGet)
      · (exact byGet)
      · (exact byGet)
      · rw [hL1]; (exact byGet)
      · (exact byOm)
      · (exact bySame)
    · have hw0 : T.w p j = 0 := by assumption
      have hnew : add1 T p (T.whole q) (j + 1) = add1 T p (T.whole q) j := by simp only [add1]; rw [if_pos hw0]
      refine ⟨.none, _, rfl, by (exact byGet), rfl, ?_, ⟨?_, ?_, ?_, ?_, ?_⟩, ⟨l, c, ?_, hnew ▸ R⟩, ?_, ?_, ?_⟩
      · exact k1.same ci fun r h1 h2 => by
          have hr1 : r ≠ h3.next := by omega
          have hr2 : r ≠ _ := Nat.ne_of_lt h2
          have hr3 : r ≠ h5.next := by omega
          simp only [H.put, bump_get, if_neg hr2, if_neg hr3]
      · (exact byGet)
      · (exact byGet)
      · (exact byGet)
      · (exact byGet)
      · (exact byGet)
      · (exact byGet)
      · rw [hL1]; (exact byGet)
      · (exact byOm)
      · (exact bySame)
  · exact cr.same ci fun r h1 h2 => by
      have hr2 : r ≠ _ := Nat.ne_of_lt h2
      simp only [H.put, bump_get, if_neg hr2]
  · (exact byGet)
  · (exact byGet)
  · (exact byGet)
  · (exact byGet)
  · (exact byGet)
  · (exact byGet)
  · (exact byGet)
  · (exact byOm)
  · (exact bySame)
  · (exact byOm)
  · (exact byOm)
  · (exact byOm)
  · (exact byOm)
  rintro v h5 ⟨k1, ⟨y1, y2, y3, y4, y5⟩, ⟨l0, c0, k2, R0⟩, k3, k4, k5⟩ qq
  refine ⟨_, k3, by rw [hL0]; simp [loop0], ?_⟩
  rw [hL0]
  simp only [loop0, pendE]
  clear k1 cr ci b1 b2 b3 b4 k3
  (focus ((try with_reducible apply wpC.to); (repeat' ((conv => whnf); first | refine byEv ?_ | ((apply Fork.mk) <;> (intro _; try (exfalso; omega; done))) | ((apply q_call); (focus exact byNext); (focus exact byLo); (focus (first | exact kChartN0 | exact kChartI0 | exact kChartH0)); first | ((apply q_allB) <;> (intro z_b _ _ _; first | exact Bool.noConfusion z_b | replace z_b := of_decide_eq_true z_b | replace z_b := of_decide_eq_false z_b | skip) <;> (first | contradiction | (revert z_b; intros))) | ((apply q_alli) <;> (intro _ _ _ _; try contradiction)) | ((apply q_allv); intro _ _ _)) | fail)); all_goals (conv => whnf); all_goals (try with_reducible apply At.mk)))
  apply q_call
  focus (exact byNext)
  focus (exact byLo)
  focus exact corners_c (T := T) (p := q) (m := m) (by (exact byOm)) (hT.same (by (exact bySame)) (Nat.le_refl _)) g o'
  rintro _ h6 ⟨r1, r2, r3, r4, rfl, cr, ci⟩ q6 n6
  simp only [put_next, bump_next] at ci
  have b1 := ci.b1
  have b2 := ci.b2
  have b3 := ci.b3
  have b4 := ci.b4
  (focus ((try with_reducible apply wpC.to); (repeat' ((conv => whnf); first | refine byEv ?_ | ((apply Fork.mk) <;> (intro _; try (exfalso; omega; done))) | ((apply q_call); (focus exact byNext); (focus exact byLo); (focus (first | exact kChartN0 | exact kChartI0 | exact kChartH0)); first | ((apply q_allB) <;> (intro z_b _ _ _; first | exact Bool.noConfusion z_b | replace z_b := of_decide_eq_true z_b | replace z_b := of_decide_eq_false z_b | skip) <;> (first | contradiction | (revert z_b; intros))) | ((apply q_alli) <;> (intro _ _ _ _; try contradiction)) | ((apply q_allv); intro _ _ _)) | fail)); all_goals (conv => whnf); all_goals (try with_reducible apply At.mk)))
  have z3 : h6.get (h.next + 11) = some (.cells [.int .i64 (T.whole p)] 2) := by (exact byGet)
  have z4 : h6.get (h.next + 12) = some (.cells [.int .i64 (T.whole q)] 2) := by (exact byGet)
  have z5 : h6.get (h3.next + 1) = some (.cells [.map (some h3.next)] 119) := by (exact byGet)
  have z6 : h6.get h3.next = some (.map (pents l0) c0) := by (exact byGet)
  refine wp_forget (l := [(8, .pointer (some ⟨h.next + 11, 0, none⟩)), (9, .pointer (some ⟨h.next + 12, 0, none⟩)), (10, .pointer (some ⟨h3.next + 1, 0, none⟩)), (40, cornV r1 r2 r3 r4)]) ⟨rfl, rfl, rfl, rfl, trivial⟩ fun g' => ?_
  apply wp_range
  focus exact rfl
  focus (exact byNext)
  focus (exact byList)
  intro L1 hL1
  refine ⟨_, corn_w (T := T) (p := q) (r1 := r1) (r2 := r2) (r3 := r3) (r4 := r4) ar' (by (exact byOm)) g.n6 (fun j h7 => CRows T q r1 r2 r3 r4 h7 ∧ (h7.get (h.next + 11) = some (.cells [.int .i64 (T.whole p)] 2) ∧ h7.get (h.next + 12) = some (.cells [.int .i64 (T.whole q)] 2) ∧ h7.get (h3.next + 1) = some (.cells [.map (some h3.next)] 119)) ∧
    (∃ l c, h7.get h3.next = some (.map (pents l) c) ∧ Rep l c (sub2 T q (T.whole p) (add1 T p (T.whole q) 4) j)) ∧ h7.get h6.next = some (.loop L1) ∧ h6.next < h7.next) (fun j h3 k => k.1) ?_ ?_ ⟨?_, ⟨?_, ?_, ?_⟩, ⟨l0, c0, ?_, R0⟩, ?_, ?_⟩ ⟨?_, ?_, ?_, ?_⟩, ?_⟩
  · rintro i h7 h8 ⟨k1, ⟨y3, y4, y5⟩, ⟨l, c, k2, R⟩, k3, k4⟩ qq
    have := qq.next
    exact ⟨k1.same ci fun r h1 h2 => qq.same r (by omega), ⟨by (exact byGet), by (exact byGet), by (exact byGet)⟩, ⟨l, c, by (exact byGet), R⟩, by (exact byGet), by omega⟩
  · rintro j h7 hj ⟨k1, ⟨y3, y4, y5⟩, ⟨l, c, k2, R⟩, k3, k4⟩ hle
    have hw := ar'.w j
    have hwb := mul_rng hw.1 hw.2 (Int.le_of_lt w1.1) w1.2
    have hF := sub2_rng ar' (a := T.whole p) (by omega) (add1_rng ar (b := T.whole q) (by omega) 4 (Nat.le_refl _)) j (by omega) (T.ci q j) (T.ck q j)
    have hge := R.get (T.ci q j) (T.ck q j)
    refine YA.call fun84.mixed (A := a84A1) (B := a84B1) (L := L1) (by rw [hL1]; exact c84A1) (by rw [hL1]; exact c84B1) k3 (by omega) (by omega) (by rw [hL1]; exact rfl) (by rw [hL1]; exact rfl) ?_
    unfold YA a84A1
    refine wp_forget (l := [(8, .pointer (some ⟨h.next + 11, 0, none⟩)), (10, .pointer (some ⟨h3.next + 1, 0, none⟩)), (41, .agg ⟨[.int .i64 ((T.ci q j : Nat) : Int), .int .i64 ((T.ck q j : Nat) : Int)]⟩), (42, .int .i64 (T.w q j))]) ⟨by rw [hL1]; exact rfl, by rw [hL1]; exact rfl, by rw [hL1]; exact keyE T q j, by rw [hL1]; exact rfl, trivial⟩ fun g'' => ?_
    (focus ((try with_reducible apply wpC.to); (repeat' ((conv => whnf); first | refine byEv ?_ | ((apply Fork.mk) <;> (intro _; try (exfalso; omega; done))) | ((apply q_call); (focus exact byNext); (focus exact byLo); (focus (first | exact kChartN0 | exact kChartI0 | exact kChartH0)); first | ((apply q_allB) <;> (intro z_b _ _ _; first | exact Bool.noConfusion z_b | replace z_b := of_decide_eq_true z_b | replace z_b := of_decide_eq_false z_b | skip) <;> (first | contradiction | (revert z_b; intros))) | ((apply q_alli) <;> (intro _ _ _ _; try contradiction)) | ((apply q_allv); intro _ _ _)) | fail)); all_goals (conv => whnf); all_goals (try with_reducible apply At.mk)))
    refine ⟨rfl, L1, by (exact byGet), by rw [hL1]; exact rfl, ?_⟩
    unfold a84B1
    have hL2 : ended (busy L1) .none = L1 := by rw [hL1]; exact rfl
    (focus ((try with_reducible apply wpC.to); (repeat' ((conv => whnf); first | refine byEv ?_ | ((apply Fork.mk) <;> (intro _; try (exfalso; omega; done))) | ((apply q_call); (focus exact byNext); (focus exact byLo); (focus (first | exact kChartN0 | exact kChartI0 | exact kChartH0)); first | ((apply q_allB) <;> (intro z_b _ _ _; first | exact Bool.noConfusion z_b | replace z_b := of_decide_eq_true z_b | replace z_b := of_decide_eq_false z_b | skip) <;> (first | contradiction | (revert z_b; intros))) | ((apply q_alli) <;> (intro _ _ _ _; try contradiction)) | ((apply q_allv); intro _ _ _)) | fail)); all_goals (conv => whnf); all_goals (try with_reducible apply At.mk)))
    refine OpE.mk (lookup_p (l := l) (c := c) (i := T.ci q j) (k := T.ck q j) (r := h3.next) rfl rfl (by (exact byGet))) ?_
    rw [hge]
    (focus ((try with_reducible apply wpC.to); (repeat' ((conv => whnf); first | refine byEv ?_ | ((apply Fork.mk) <;> (intro _; try (exfalso; omega; done))) | ((apply q_call); (focus exact byNext); (focus exact byLo); (focus (first | exact kChartN0 | exact kChartI0 | exact kChartH0)); first | ((apply q_allB) <;> (intro z_b _ _ _; first | exact Bool.noConfusion z_b | replace z_b := of_decide_eq_true z_b | replace z_b := of_decide_eq_false z_b | skip) <;> (first | contradiction | (revert z_b; intros))) | ((apply q_alli) <;> (intro _ _ _ _; try contradiction)) | ((apply q_allv); intro _ _ _)) | fail)); all_goals (conv => whnf); all_goals (try with_reducible apply At.mk)))
    refine OpE.mk (mapent_p (l := l) (c := c) (i := T.ci q j) (k := T.ck q j) (r := h3.next) rfl rfl (by (exact byGet)) (by omega)) ?_
    (focus ((try with_reducible apply wpC.to); (repeat' ((conv => whnf); first | refine byEv ?_ | ((apply Fork.mk) <;> (intro _; try (exfalso; omega; done))) | ((apply q_call); (focus exact byNext); (focus exact byLo); (focus (first | exact kChartN0 | exact kChartI0 | exact kChartH0)); first | ((apply q_allB) <;> (intro z_b _ _ _; first | exact Bool.noConfusion z_b | replace z_b := of_decide_eq_true z_b | replace z_b := of_decide_eq_false z_b | skip) <;> (first | contradiction | (revert z_b; intros))) | ((apply q_alli) <;> (intro _ _ _ _; try contradiction)) | ((apply q_allv); intro _ _ _)) | fail)); all_goals (conv => whnf); all_goals (try with_reducible apply At.mk)))
    refine OpE.mk (entst_p (l := l) (c := c) (i := T.ci q j) (k := T.ck q j) (r := h3.next) ⟨_, R⟩ rfl rfl rfl (by (exact byGet)) (by omega)) ?_
    (focus ((try with_reducible apply wpC.to); (repeat' ((conv => whnf); first | refine byEv ?_ | ((apply Fork.mk) <;> (intro _; try (exfalso; omega; done))) | ((apply q_call); (focus exact byNext); (focus exact byLo); (focus (first | exact kChartN0 | exact kChartI0 | exact kChartH0)); first | ((apply q_allB) <;> (intro z_b _ _ _; first | exact Bool.noConfusion z_b | replace z_b := of_decide_eq_true z_b | replace z_b := of_decide_eq_false z_b | skip) <;> (first | contradiction | (revert z_b; intros))) | ((apply q_alli) <;> (intro _ _ _ _; try contradiction)) | ((apply q_allv); intro _ _ _)) | fail)); all_goals (conv => whnf); all_goals (try with_reducible apply At.mk)))
    have hnew : sub2 T q (T.whole p) (add1 T p (T.whole q) 4) (j + 1) = upd2 (sub2 T q (T.whole p) (add1 T p (T.whole q) 4) j) (T.ci q j) (T.ck q j) (sub2 T q (T.whole p) (add1 T p (T.whole q) 4) j (T.ci q j) (T.ck q j) - T.w q j * T.whole p) := rfl
    generalize hx : sub2 T q (T.whole p) (add1 T p (T.whole q) 4) j (T.ci q j) (T.ck q j) - T.w q j * T.whole p = x at hnew ⊢
    refine OpE.mk (lookup_p (l := pput l (T.ci q j) (T.ck q j) x c) (c := pclk l (T.ci q j) (T.ck q j) c) (i := T.ci q j) (k := T.ck q j) (r := h3.next) rfl rfl (by (exact byGet))) ?_
    rw [pget_put]
    (focus ((try with_reducible apply wpC.to); (repeat' ((conv => whnf); first | refine byEv ?_ | ((apply Fork.mk) <;> (intro _; try (exfalso; omega; done))) | ((apply q_call); (focus exact byNext); (focus exact byLo); (focus (first | exact kChartN0 | exact kChartI0 | exact kChartH0)); first | ((apply q_allB) <;> (intro z_b _ _ _; first | exact Bool.noConfusion z_b | replace z_b := of_decide_eq_true z_b | replace z_b := of_decide_eq_false z_b | skip) <;> (first | contradiction | (revert z_b; intros))) | ((apply q_alli) <;> (intro _ _ _ _; try contradiction)) | ((apply q_allv); intro _ _ _)) | fail)); all_goals (conv => whnf); all_goals (try with_reducible apply At.mk)))
    · have hx0 : x = 0 := by assumption
      subst hx0
      refine OpE.mk (delete_p (l := pput l (T.ci q j) (T.ck q j) 0 c) (c := pclk l (T.ci q j) (T.ck q j) c) (i := T.ci q j) (k := T.ck q j) (r := h3.next) rfl rfl (by (exact byGet)) (by omega) (by rw [find_put]; simp)) ?_
      (focus ((try with_reducible apply wpC.to); (repeat' ((conv => whnf); first | refine byEv ?_ | ((apply Fork.mk) <;> (intro _; try (exfalso; omega; done))) | ((apply q_call); (focus exact byNext); (focus exact byLo); (focus (first | exact kChartN0 | exact kChartI0 | exact kChartH0)); first | ((apply q_allB) <;> (intro z_b _ _ _; first | exact Bool.noConfusion z_b | replace z_b := of_decide_eq_true z_b | replace z_b := of_decide_eq_false z_b | skip) <;> (first | contradiction | (revert z_b; intros))) | ((apply q_alli) <;> (intro _ _ _ _; try contradiction)) | ((apply q_allv); intro _ _ _)) | fail)); all_goals (conv => whnf); all_goals (try with_reducible apply At.mk)))
      refine ⟨.none, _, rfl, by (exact byGet), rfl, ?_, ⟨?_, ?_, ?_⟩, ⟨_, _, ?_, hnew ▸ R.del⟩, ?_, ?_⟩
      · exact k1.same ci fun r h1 h2 => by
          have hr1 : r ≠ h3.next := by omega
          have hr2 : r ≠ _ := Nat.ne_of_lt h2
          have hr3 : r ≠ h7.next := by omega
          simp only [H.put, bump_get, if_neg hr1, if_neg hr2, if_neg hr3]
      · (exact byGet)
      · (exact byGet)
      · (exact byGet)
      · (exact byGet)
      · rw [hL2]; (exact byGet)
      · (exact byOm)
    · have hx0 : x ≠ 0 := by assumption
      refine ⟨.none, _, rfl, by (exact byGet), rfl, ?_, ⟨?_, ?_, ?_⟩, ⟨_, _, ?_, hnew ▸ R.put hx0⟩, ?_, ?_⟩
      · exact k1.same ci fun r h1 h2 => by
          have hr1 : r ≠ h3.next := by omega
          have hr2 : r ≠ _ := Nat.ne_of_lt h2
          have hr3 : r ≠ h7.next := by omega
          simp only [H.put, bump_get, if_neg hr1, if_neg hr2, if_neg hr3]
      · (exact byGet)
      · (exact byGet)
      · (exact byGet)
      · (exact byGet)
      · rw [hL2]; (exact byGet)
      · (exact byOm)
  · exact cr.same ci fun r h1 h2 => by
      have hr2 : r ≠ _ := Nat.ne_of_lt h2
      simp only [H.put, bump_get, if_neg hr2]
  · (exact byGet)
  · (exact byGet)
  · (exact byGet)
  · (exact byGet)
  · (exact byGet)
  · (exact byOm)
  · (exact byOm)
  · (exact byOm)
  · (exact byOm)
  · (exact byOm)
  rintro v h7 ⟨k1, ⟨y3, y4, y5⟩, ⟨l, c, k2, R⟩, k3, k4⟩ qq
  refine ⟨_, k3, by rw [hL1]; simp [loop0], ?_⟩
  rw [hL1]
  simp only [loop0, pendE]
  (focus ((try with_reducible apply wpC.to); (repeat' ((conv => whnf); first | refine byEv ?_ | ((apply Fork.mk) <;> (intro _; try (exfalso; omega; done))) | ((apply q_call); (focus exact byNext); (focus exact byLo); (focus (first | exact kChartN0 | exact kChartI0 | exact kChartH0)); first | ((apply q_allB) <;> (intro z_b _ _ _; first | exact Bool.noConfusion z_b | replace z_b := of_decide_eq_true z_b | replace z_b := of_decide_eq_false z_b | skip) <;> (first | contradiction | (revert z_b; intros))) | ((apply q_alli) <;> (intro _ _ _ _; try contradiction)) | ((apply q_allv); intro _ _ _)) | fail)); all_goals (conv => whnf); all_goals (try with_reducible apply At.mk)))
  (refine byFin ?_)
  exact ⟨h3.next, l, c, rfl, by (exact byGet), R, by (exact byOm), by (exact byOm)⟩
end AE.Try
