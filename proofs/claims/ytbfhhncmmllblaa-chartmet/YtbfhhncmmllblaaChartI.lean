/- Walks of chart: values. -/
import Derived.Test.YtbfhhncmmllblaaJoin6
set_option linter.unusedVariables false
set_option linter.unusedSimpArgs false
set_option linter.unusedSectionVars false
namespace AE.Try
open Go AE Go.Proofs
set_option maxRecDepth 100000
set_option linter.unusedVariables false

/-- A call of a function value, in a drawn region. -/
theorem q_callq {P : Program} {lo : Nat} {h : H} {fv : Value} {args : List Value} {k : Value → H → Prop} {R : Value → H → Prop} (hc : ∃ v h', R v h' ∧ ACall P fv h.next h args v h') (hr : ∀ v h', R v h' → Quiet h.next h h' → k v h') : CallV P fv lo true h args k := by
  obtain ⟨v, h', r, a⟩ := hc
  exact .mk a (hr v h' r a.quiet)

/-- A function that tells the pull at each place. -/
structure Pull (pv : Value) (f : Nat → Nat → Int) (n1 n2 m : Nat) (h : H) : Prop where
  call : ∀ h1, Same m h h1 → m ≤ h1.next → ∀ (i k : Nat) (z1 z2 : Int), i < n1 → k < n2 → z1 = i → z2 = k → ∃ v h2, v = .int .i64 (f i k) ∧ ACall Try.prog pv h1.next h1 [.agg ⟨[.int .i64 z1, .int .i64 z2]⟩] v h2
  rng : ∀ i k, i < n1 → k < n2 → 0 ≤ f i k ∧ f i k ≤ 100000
theorem Pull.same {pv : Value} {f : Nat → Nat → Int} {n1 n2 m m' : Nat} {h h' : H} (k : Pull pv f n1 n2 m h) (s : Same m h h') (hm : m ≤ m') : Pull pv f n1 n2 m' h' :=
  ⟨fun h1 s1 n1 => k.call h1 (s.trans (s1.mono hm)) (by omega), k.rng⟩

theorem mul_rng {a b A B : Int} (h1 : 0 ≤ a) (h2 : a ≤ A) (h3 : 0 ≤ b) (h4 : b ≤ B) : 0 ≤ a * b ∧ a * b ≤ A * B :=
  ⟨Int.mul_nonneg h1 h3, Int.le_trans (Int.mul_le_mul_of_nonneg_right h2 h3) (Int.mul_le_mul_of_nonneg_left h4 (by omega))⟩

def Tbl.vt (T : Tbl) (p : Pt) (f : Nat → Nat → Int) (j : Nat) : Int := T.w p j * f (T.i p + j / 2) (T.k p + j % 2)
def Tbl.vsum (T : Tbl) (p : Pt) (f : Nat → Nat → Int) : Int := ps (T.vt p f) 4
/-- The pull at a point. -/
def Tbl.val (T : Tbl) (p : Pt) (f : Nat → Nat → Int) : Fr := fr (T.vsum p f) (T.whole p)
theorem Around.vt {T : Tbl} {p : Pt} {f : Nat → Nat → Int} (k : Around T p) (hf : ∀ i k, i < T.P.n → k < T.A.n → 0 ≤ f i k ∧ f i k ≤ 100000) {j : Nat} (hj : j < 4) : 0 ≤ T.vt p f j ∧ T.vt p f j ≤ 400000000000 := by
  obtain ⟨a, b⟩ := k.w j
  have h1 := k.i
  have h2 := k.k
  obtain ⟨c, d⟩ := hf (T.i p + j / 2) (T.k p + j % 2) (by omega) (by omega)
  exact mul_rng a b c d
theorem Around.vs {T : Tbl} {p : Pt} {f : Nat → Nat → Int} (k : Around T p) (hf : ∀ i k, i < T.P.n → k < T.A.n → 0 ≤ f i k ∧ f i k ≤ 100000) : ∀ j, j ≤ 4 → 0 ≤ AE.Try.ps (T.vt p f) j ∧ AE.Try.ps (T.vt p f) j ≤ 400000000000 * j
  | 0, _ => ⟨Int.le_refl _, Int.le_refl _⟩
  | j + 1, hj => by
    obtain ⟨a, b⟩ := k.vs hf j (by omega)
    obtain ⟨c, d⟩ := k.vt hf (j := j) (by omega)
    simp only [AE.Try.ps]
    omega

theorem kChartI0 {G : Prop} (g : G := by ((apply whole_w; rotate_left; (focus (apply Tbl.Ok.same; (focus assumption); (focus exact bySame); (focus exact Nat.le_refl _))); (focus assumption); (focus assumption); (focus exact byOm)))) : G := g

theorem kChartI1 {G : Prop} (g : G := by ((apply fraction_w; (focus omega); (focus omega)))) : G := g

set_option maxHeartbeats 2000000 in
theorem value_w {h : H} {T : Tbl} {m : Nat} {p : Pt} {fn : Fn} {fs cs : Array Value} {f : Nat → Nat → Int} (hm : m ≤ h.next) (hT : T.Ok m h) (g : T.Good) (o : T.On p) (hp : Pull (.func fn fs cs) f T.P.n T.A.n m h) : AW Try.prog 50 h.next h [.agg ⟨T.cells⟩, .agg ⟨p.cells⟩, .func fn fs cs] (fun v _ => v = .agg ⟨(T.val p f).cells⟩) := by
  have ar := g.around o
  have hf := hp.rng
  have ai := ar.i
  have ak := ar.k
  refine fun50.call rfl (Nat.le_refl _) ?_
  unfold a50 Tbl.cells Pt.cells
  (focus ((try with_reducible apply wpC.to); (repeat' ((conv => whnf); first | refine byEv ?_ | ((apply q_call); (focus exact byNext); (focus exact byLo); (focus (first | exact kChartI1 | exact kChartI0 | exact kChartH0)); first | ((apply q_allB) <;> (intro z_b _ _ _; first | exact Bool.noConfusion z_b | replace z_b := of_decide_eq_true z_b | replace z_b := of_decide_eq_false z_b | skip) <;> (first | contradiction | (revert z_b; intros))) | ((apply q_alli) <;> (intro _ _ _ _; try contradiction)) | ((apply q_allv); intro _ _ _)) | fail)); all_goals (conv => whnf); all_goals (try with_reducible apply At.mk)))
  apply q_call
  focus (exact byNext)
  focus (exact byLo)
  focus exact corners_c (T := T) (p := p) (m := m) (by (exact byOm)) (hT.same (by (exact bySame)) (Nat.le_refl _)) g o
  rintro _ h2 ⟨r1, r2, r3, r4, rfl, cr, ci⟩ q2 n2
  simp only [put_next, bump_next] at ci
  have b1 := ci.b1
  have b2 := ci.b2
  have b3 := ci.b3
  have b4 := ci.b4
  (focus ((try with_reducible apply wpC.to); (repeat' ((conv => whnf); first | refine byEv ?_ | ((apply q_call); (focus exact byNext); (focus exact byLo); (focus (first | exact kChartI1 | exact kChartI0 | exact kChartH0)); first | ((apply q_allB) <;> (intro z_b _ _ _; first | exact Bool.noConfusion z_b | replace z_b := of_decide_eq_true z_b | replace z_b := of_decide_eq_false z_b | skip) <;> (first | contradiction | (revert z_b; intros))) | ((apply q_alli) <;> (intro _ _ _ _; try contradiction)) | ((apply q_allv); intro _ _ _)) | fail)); all_goals (conv => whnf); all_goals (try with_reducible apply At.mk)))
  have x1 : h2.get h.next = some (.cells [.slice T.P.b T.P.n T.P.c, .slice T.A.b T.A.n T.A.c, .slice T.R.b T.R.n T.R.c] 84) := by (exact byGet)
  have x2 : h2.get (h.next + 1) = some (.cells [.int .i64 p.p, .int .i64 p.a] 28) := by (exact byGet)
  have x3 : h2.get (h.next + 2) = some (.cells [.func fn fs cs] 89) := by (exact byGet)
  have x4 : h2.get (h.next + 3) = some (.cells [.int .i64 0, .int .i64 0] 32) := by (exact byGet)
  have x5 : h2.get (h.next + 4) = some (.cells [.int .i64 0] 2) := by (exact byGet)
  have s2 : Same m h h2 := by (exact bySame)
  refine wp_forget (l := [(3, .pointer (some ⟨h.next, 0, none⟩)), (4, .pointer (some ⟨h.next + 1, 0, none⟩)), (5, .pointer (some ⟨h.next + 2, 0, none⟩)), (6, .pointer (some ⟨h.next + 3, 0, none⟩)), (7, .pointer (some ⟨h.next + 4, 0, none⟩)), (12, cornV r1 r2 r3 r4)]) ⟨rfl, rfl, rfl, rfl, rfl, rfl, trivial⟩ fun g' => ?_
  apply wp_range
  focus exact rfl
  focus (exact byNext)
  focus (exact byList)
  intro L0 hL0
  refine ⟨_, corn_w (T := T) (p := p) (r1 := r1) (r2 := r2) (r3 := r3) (r4 := r4) ar (by (exact byOm)) g.n6 (fun j h3 => CRows T p r1 r2 r3 r4 h3 ∧ (h3.get h.next = some (.cells [.slice T.P.b T.P.n T.P.c, .slice T.A.b T.A.n T.A.c, .slice T.R.b T.R.n T.R.c] 84) ∧ h3.get (h.next + 1) = some (.cells [.int .i64 p.p, .int .i64 p.a] 28) ∧ h3.get (h.next + 2) = some (.cells [.func fn fs cs] 89) ∧ h3.get (h.next + 3) = some (.cells [.int .i64 0, .int .i64 0] 32)) ∧
    h3.get (h.next + 4) = some (.cells [.int .i64 (ps (T.vt p f) j)] 2) ∧ h3.get h2.next = some (.loop L0) ∧ h2.next < h3.next ∧ Same m h h3) (fun j h3 k => k.1) ?_ ?_ ⟨?_, ⟨?_, ?_, ?_, ?_⟩, ?_, ?_, ?_, ?_⟩ ⟨?_, ?_, ?_, ?_⟩, ?_⟩
  · rintro i h3 h4 ⟨k1, ⟨y1, y2, y3, y4⟩, k2, k3, k4, k5⟩ qq
    have := qq.next
    exact ⟨k1.same ci fun r h1 h2 => qq.same r (by omega), ⟨by (exact byGet), by (exact byGet), by (exact byGet), by (exact byGet)⟩, by (exact byGet), by (exact byGet), by omega, by (exact bySame)⟩
  · rintro j h3 hj ⟨k1, ⟨y1, y2, y3, y4⟩, k2, k3, k4, k5⟩ hle
    have hv := ar.vt hf hj
    have hs := ar.vs hf j (by omega)
    refine YA.call fun50.mixed (A := a50A0) (B := a50B0) (L := L0) (by rw [hL0]; exact c50A0) (by rw [hL0]; exact c50B0) k3 (by omega) (by omega) (by rw [hL0]; exact rfl) (by rw [hL0]; exact rfl) ?_
    unfold YA a50A0
    refine wp_forget (l := [(5, .pointer (some ⟨h.next + 2, 0, none⟩)), (7, .pointer (some ⟨h.next + 4, 0, none⟩)), (13, .agg ⟨[.int .i64 ((T.i p : Int) + ((j / 2 : Nat) : Int)), .int .i64 ((T.k p : Int) + ((j % 2 : Nat) : Int))]⟩), (14, .int .i64 (T.w p j))]) ⟨by rw [hL0]; exact rfl, by rw [hL0]; exact rfl, by rw [hL0]; exact rfl, by rw [hL0]; exact rfl, trivial⟩ fun g'' => ?_
    (focus ((try with_reducible apply wpC.to); (repeat' ((conv => whnf); first | refine byEv ?_ | ((apply q_call); (focus exact byNext); (focus exact byLo); (focus (first | exact kChartI1 | exact kChartI0 | exact kChartH0)); first | ((apply q_allB) <;> (intro z_b _ _ _; first | exact Bool.noConfusion z_b | replace z_b := of_decide_eq_true z_b | replace z_b := of_decide_eq_false z_b | skip) <;> (first | contradiction | (revert z_b; intros))) | ((apply q_alli) <;> (intro _ _ _ _; try contradiction)) | ((apply q_allv); intro _ _ _)) | fail)); all_goals (conv => whnf); all_goals (try with_reducible apply At.mk)))
    refine ⟨rfl, L0, by (exact byGet), by rw [hL0]; exact rfl, ?_⟩
    unfold a50B0
    have hL1 : ended (busy L0) .none = L0 := by rw [hL0]; exact rfl
    (focus ((try with_reducible apply wpC.to); (repeat' ((conv => whnf); first | refine byEv ?_ | ((apply q_call); (focus exact byNext); (focus exact byLo); (focus (first | exact kChartI1 | exact kChartI0 | exact kChartH0)); first | ((apply q_allB) <;> (intro z_b _ _ _; first | exact Bool.noConfusion z_b | replace z_b := of_decide_eq_true z_b | replace z_b := of_decide_eq_false z_b | skip) <;> (first | contradiction | (revert z_b; intros))) | ((apply q_alli) <;> (intro _ _ _ _; try contradiction)) | ((apply q_allv); intro _ _ _)) | fail)); all_goals (conv => whnf); all_goals (try with_reducible apply At.mk)))
    apply q_callq
    focus exact hp.call _ (by (exact bySame)) (by (exact byOm)) (T.i p + j / 2) (T.k p + j % 2) _ _ (by omega) (by omega) (by omega) (by omega)
    rintro _ h5 rfl q5
    have n5 := q5.next
    simp only [put_next, bump_next] at n5 q5
    unfold Tbl.vt at hv
    (focus ((try with_reducible apply wpC.to); (repeat' ((conv => whnf); first | refine byEv ?_ | ((apply q_call); (focus exact byNext); (focus exact byLo); (focus (first | exact kChartI1 | exact kChartI0 | exact kChartH0)); first | ((apply q_allB) <;> (intro z_b _ _ _; first | exact Bool.noConfusion z_b | replace z_b := of_decide_eq_true z_b | replace z_b := of_decide_eq_false z_b | skip) <;> (first | contradiction | (revert z_b; intros))) | ((apply q_alli) <;> (intro _ _ _ _; try contradiction)) | ((apply q_allv); intro _ _ _)) | fail)); all_goals (conv => whnf); all_goals (try with_reducible apply At.mk)))
    refine ⟨.none, _, rfl, by (exact byGet), rfl, ?_, ⟨?_, ?_, ?_, ?_⟩, ?_, ?_, ?_, ?_⟩
    · exact k1.same ci fun r h1 h2 => by
        have hr1 : r ≠ h.next + 4 := by omega
        have hr2 : r ≠ _ := Nat.ne_of_lt h2
        have hr3 : r ≠ h3.next := by omega
        simp only [H.put, bump_get, if_neg hr1, if_neg hr2]
        rw [q5.same r (by (exact byOm))]
        simp only [H.put, bump_get, if_neg hr1, if_neg hr2, if_neg hr3]
    · (exact byGet)
    · (exact byGet)
    · (exact byGet)
    · (exact byGet)
    · (exact byGet)
    · rw [hL1]; (exact byGet)
    · (exact byOm)
    · (exact bySame)
  · exact cr.same ci fun r h1 h2 => by
      have hr2 : r ≠ _ := Nat.ne_of_lt h2
      simp only [H.put, bump_get, if_neg hr2]
  · (exact byGet)
  · (exact byGet)
  · (exact byGet)
  · (exact byGet)
  · (exact byGet)
  · (exact byGet)
  · (exact byOm)
  · (exact bySame)
  · (exact byOm)
  · (exact byOm)
  · (exact byOm)
  · (exact byOm)
  · rintro v h3 ⟨k1, ⟨y1, y2, y3, y4⟩, k2, k3, k4, k5⟩ qq
    refine ⟨_, k3, by rw [hL0]; simp [loop0], ?_⟩
    rw [hL0]
    simp only [loop0, pendE]
    have hs := ar.vs hf 4 (by omega)
    have hw := ar.whole
    (focus ((try with_reducible apply wpC.to); (repeat' ((conv => whnf); first | refine byEv ?_ | ((apply q_call); (focus exact byNext); (focus exact byLo); (focus (first | exact kChartI1 | exact kChartI0 | exact kChartH0)); first | ((apply q_allB) <;> (intro z_b _ _ _; first | exact Bool.noConfusion z_b | replace z_b := of_decide_eq_true z_b | replace z_b := of_decide_eq_false z_b | skip) <;> (first | contradiction | (revert z_b; intros))) | ((apply q_alli) <;> (intro _ _ _ _; try contradiction)) | ((apply q_allv); intro _ _ _)) | fail)); all_goals (conv => whnf); all_goals (try with_reducible apply At.mk)))
    (refine byFin ?_)
    rfl
end AE.Try
