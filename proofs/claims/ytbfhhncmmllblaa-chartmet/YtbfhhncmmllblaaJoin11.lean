/- Walks and plain laws: ChartP, ChartQ. -/
import Derived.Test.YtbfhhncmmllblaaChartO
set_option linter.unusedVariables false
set_option linter.unusedSimpArgs false
set_option linter.unusedSectionVars false

/- Walks of chart: by how much at most, or at least, a point pulls more than another one. -/
namespace AE.Try
open Go AE Go.Proofs
set_option maxRecDepth 100000
set_option linter.unusedVariables false

theorem wp_next {P : Program} {lo : Nat} {Q : Exit → Ts → H → Prop} {ts : Ts} {h : H} {x : Opd} {a b r m since c0 clock : Nat} {seen : List Nat} {es : List MapEntry} (e1 : ev ts x = .pointer (some ⟨r, 0, none⟩)) (hlo : lo ≤ r) (hrm : r ≠ m) (hg : h.get r = some (.iter m since seen c0)) (hgm : h.get m = some (.map es clock)) (hold : ∀ e ∈ es, e.born < since) (hsc : since ≤ c0)
    (h0 : (∀ e ∈ es, e.born ∈ seen) → Q .normal (putT (putT ts a (.tuple ⟨[.bool false]⟩)) b (.bool false)) h)
    (h1 : ∀ e ∈ es, e.born ∉ seen → Q .normal (putT (putT ts a (.tuple ⟨[.bool true, e.key, e.val]⟩)) b (.bool true)) (h.put r (.iter m since (seen ++ [e.born]) clock))) : wpA P lo (.next x a b) Q ts h := by
  refine ⟨r, m, since, seen, c0, es, clock, e1, hlo, hrm, hg, hgm, hold, hsc, fun hz => ?_, fun e he hn => ?_⟩
  · have := h0 hz
    rw [putT_eq, putT_eq] at this
    exact this
  · have := h1 e he hn
    rw [putT_eq, putT_eq] at this
    exact this
theorem finD1 {P : Program} {ts : Ts} {h h' : H} {r : ResultVar} {x v : Value} {e : Exit} (he : e = .normal ∨ e = .ret) (e1 : ares1 P h' ts r = some x) (hx : x = v) (hs : ∀ j, j < h.next → h'.get j = h.get j) : (e = .normal ∨ e = .ret) ∧ ares P h' ts [r] = some v ∧ ∀ j, j < h.next → h'.get j = h.get j :=
  ⟨he, by simp only [ares, e1, hx], hs⟩

def Tbl.endv (T : Tbl) (high : Bool) (w : Int) (i k : Nat) : Int := if high = decide (0 < w) then T.hi i k else T.lo i k
theorem kChartP0 {G : Prop} (g : G := by ((apply hi_w; rotate_left; (focus (apply Tbl.Ok.same; (focus assumption); (focus exact bySame); (focus exact Nat.le_refl _))); (focus assumption); (focus assumption); (focus exact rfl); (focus exact rfl); (focus exact byOm)))) : G := g
theorem kChartP1 {G : Prop} (g : G := by ((apply lo_w; rotate_left; (focus (apply Tbl.Ok.same; (focus assumption); (focus exact bySame); (focus exact Nat.le_refl _))); (focus assumption); (focus assumption); (focus exact rfl); (focus exact rfl); (focus exact byOm)))) : G := g
theorem end_w {h : H} {T : Tbl} {m i k : Nat} {w : Int} {high : Bool} (hm : m ≤ h.next) (hT : T.Ok m h) (hi : i < T.R.n) (hk : k < T.R.w i) : AW Try.prog 86 h.next h [.agg ⟨T.cells⟩, .agg ⟨[.int .i64 i, .int .i64 k]⟩, .int .i64 w, .bool high] (fun v _ => v = .int .i64 (T.endv high w i k)) := by
  refine fun86.call rfl (Nat.le_refl _) ?_
  unfold a86 Tbl.cells
  unfold Tbl.endv
  cases high <;> (focus ((try with_reducible apply wpC.to); (repeat' ((conv => whnf); first | refine byEv ?_ | ((apply Fork.mk) <;> (intro _; try (exfalso; omega; done))) | ((apply q_call); (focus exact byNext); (focus exact byLo); (focus (first | exact kChartP1 | exact kChartP0)); first | ((apply q_allB) <;> (intro z_b _ _ _; first | exact Bool.noConfusion z_b | replace z_b := of_decide_eq_true z_b | replace z_b := of_decide_eq_false z_b | skip) <;> (first | contradiction | (revert z_b; intros))) | ((apply q_alli) <;> (intro _ _ _ _; try contradiction)) | ((apply q_allv); intro _ _ _)) | fail)); all_goals (conv => whnf); all_goals (try with_reducible apply At.mk)))
  · (refine byFin ?_)
    rw [decide_eq_true (by omega), if_neg (by decide)]
  · (refine byFin ?_)
    rw [decide_eq_false (by omega), if_pos rfl]
  · (refine byFin ?_)
    rw [decide_eq_true (by omega), if_pos rfl]
  · (refine byFin ?_)
    rw [decide_eq_false (by omega), if_neg (by decide)]

/-! ### the sum, in whatever order -/

theorem filter_less {α : Type} (p q : α → Bool) (hpq : ∀ x, q x = true → p x = true) (e : α) (hp : p e = true) (hq : q e = false) : ∀ (l : List α), e ∈ l → (l.filter q).length < (l.filter p).length
  | x :: l, he => by
    have hle : (l.filter q).length ≤ (l.filter p).length := by
      clear he
      induction l with
      | nil => simp
      | cons y l ih =>
        simp only [List.filter_cons]
        by_cases hy : q y = true
        · simp [hy, hpq y hy, ih]
        · by_cases hy' : p y = true <;> simp [hy, hy'] <;> omega
    rcases List.mem_cons.1 he with rfl | h
    · simp [hp, hq]
      omega
    · have ih := filter_less p q hpq e hp hq l h
      simp only [List.filter_cons]
      by_cases hy : q x = true
      · simp [hy, hpq x hy, ih]
      · by_cases hy' : p x = true <;> simp [hy, hy'] <;> omega


/-- The sum over the entries that have come. -/
def ss (f : PE → Int) (l : List PE) (seen : List Nat) : Int := ls (fun e => if e.b ∈ seen then f e else 0) l
theorem ss_nil (f : PE → Int) (l : List PE) : ss f l [] = 0 := by
  unfold ss
  induction l with
  | nil => rfl
  | cons e l ih => simp only [ls, List.not_mem_nil, if_false] at ih ⊢; omega
theorem ss_all (f : PE → Int) (l : List PE) (seen : List Nat) (h : ∀ e ∈ l, e.b ∈ seen) : ss f l seen = ls f l := ls_congr l fun e he => if_pos (h e he)
theorem ss_more (f : PE → Int) {e : PE} {seen : List Nat} (hs : e.b ∉ seen) : ∀ l : List PE, (l.map PE.b).Nodup → e ∈ l → ss f l (seen ++ [e.b]) = ss f l seen + f e
  | x :: l, hn, he => by
    obtain ⟨h1, h2⟩ := List.nodup_cons.1 hn
    unfold ss
    simp only [ls]
    rcases List.mem_cons.1 he with rfl | h
    · have : ls (fun y => if y.b ∈ seen ++ [e.b] then f y else 0) l = ls (fun y => if y.b ∈ seen then f y else 0) l := by
        refine ls_congr l fun y hy => ?_
        have hne : y.b ≠ e.b := fun h => h1 (List.mem_map.2 ⟨y, hy, h⟩)
        simp [hne]
      rw [this, if_pos (by simp), if_neg hs]
      omega
    · have ih := ss_more f hs l h2 h
      unfold ss at ih
      have hne : x.b ≠ e.b := fun h' => h1 (List.mem_map.2 ⟨e, h, h'.symm⟩)
      rw [ih]
      simp [hne]
      omega
theorem ss_abs {f g : PE → Int} {l : List PE} {seen : List Nat} (h : ∀ e ∈ l, -g e ≤ f e ∧ f e ≤ g e) : -ls g l ≤ ss f l seen ∧ ss f l seen ≤ ls g l := by
  constructor
  · rw [← ls_neg]
    refine ls_le l fun e he => ?_
    have := h e he
    split <;> omega
  · refine ls_le l fun e he => ?_
    have := h e he
    split <;> omega
theorem ls_mem {g : PE → Int} : ∀ {l : List PE} {e : PE}, (∀ e ∈ l, 0 ≤ g e) → e ∈ l → g e ≤ ls g l
  | x :: l, e, h, he => by
    have h0 := h x List.mem_cons_self
    have hl : 0 ≤ ls g l := by
      have := ls_le (f := fun _ => 0) (g := g) l (fun e he => h e (List.mem_cons_of_mem _ he))
      have hz : ls (fun _ => 0) l = 0 := by
        clear this h he
        induction l with
        | nil => rfl
        | cons y l ih => simp only [ls, ih]; rfl
      omega
    simp only [ls]
    rcases List.mem_cons.1 he with rfl | h'
    · omega
    · have := ls_mem (fun e he => h e (List.mem_cons_of_mem _ he)) h'
      omega
/-- How many have not come. -/
def us (l : List PE) (seen : List Nat) : Nat := (l.filter fun e => !decide (e.b ∈ seen)).length
theorem us_less {e : PE} {seen : List Nat} (hs : e.b ∉ seen) {l : List PE} (he : e ∈ l) : us l (seen ++ [e.b]) < us l seen := by
  unfold us
  exact filter_less _ _ (fun x hx => by simp at hx ⊢; exact hx.1) e (by simp [hs]) (by simp) l he
end AE.Try

/- Walks of chart: far, over a map in whatever order. -/
namespace AE.Try
open Go AE Go.Proofs
set_option maxRecDepth 100000
set_option linter.unusedVariables false

def Tbl.ft (T : Tbl) (p q : Pt) (high : Bool) (i k : Nat) : Int := T.more p q i k * T.endv high (T.more p q i k) i k
def Tbl.far (T : Tbl) (p q : Pt) (high : Bool) : Fr := fr (gs (T.ft p q high) T.P.n T.A.n) (T.whole p * T.whole q)
theorem Tbl.Good.endv {T : Tbl} (g : T.Good) (high : Bool) (w : Int) {i k : Nat} (hi : i < T.P.n) (hk : k < T.A.n) : 0 ≤ T.endv high w i k ∧ T.endv high w i k ≤ 100000 := by
  have := g.bd i k hi hk
  unfold Tbl.Bd at this
  unfold Tbl.endv
  split <;> omega
theorem abs_mul {w e : Int} (h0 : 0 ≤ e) (h1 : e ≤ 100000) : -((w.natAbs : Int) * 100000) ≤ w * e ∧ w * e ≤ (w.natAbs : Int) * 100000 := by
  rcases Int.le_total 0 w with h | h
  · have e1 : (w.natAbs : Int) = w := by omega
    rw [e1]
    have := mul_rng h (Int.le_refl w) h0 h1
    omega
  · have e1 : (w.natAbs : Int) = -w := by omega
    rw [e1]
    have := mul_rng (a := -w) (by omega) (Int.le_refl _) h0 h1
    rw [Int.neg_mul] at this
    omega

/-- The entry that came last. -/
theorem entry_p {lo nid r m since : Nat} {ts : Ts} {h : H} {x : Opd} {l : List PE} {c : Nat} {seen : List Nat} {e : PE} (hx : ev ts x = .pointer (some ⟨r, 0, none⟩)) (hg : h.get r = some (.iter m since (seen ++ [e.b]) c)) (hgm : h.get m = some (.map (pents l) c)) (he : e ∈ l) (hn : (l.map PE.b).Nodup) :
    aop Try.prog lo nid ts h (.entry x) = some (.tuple ⟨[keyV e.i e.k, .int .i64 e.v]⟩, h) := by
  have hf : (pents l).find? (fun y => y.born == e.b) = some (pent e) := by
    clear hg hgm
    induction l with
    | nil => cases he
    | cons y l ih =>
      obtain ⟨h1, h2⟩ := List.nodup_cons.1 hn
      unfold pents
      rw [List.map_cons, List.find?_cons]
      rcases List.mem_cons.1 he with rfl | h
      · simp [pent]
      · have hne : y.b ≠ e.b := fun h' => h1 (List.mem_map.2 ⟨e, h, h'.symm⟩)
        have : ((pent y).born == e.b) = false := by simpa [pent] using hne
        rw [this]
        exact ih h h2
  simp only [aop, hx, xEntry, hg, Option.bind_some, enOut, List.getLast?_append, List.getLast?_singleton, Option.some_or, hgm, if_true, entOf, hf, Option.map_some, keep]
  rfl

theorem mrange_p {P : Program} {lo nid r c : Nat} {ts : Ts} {h : H} {m : Opd} {es : List MapEntry} (hm : ev ts m = .map (some r)) (hg : h.get r = some (.map es c)) : aop P lo nid ts h (.mrange m) = some (.pointer (some ⟨nid, 0, none⟩), h.put nid (.iter r c [] c)) := by
  simp only [aop, hm, xMrange, hg]

set_option maxHeartbeats 4000000 in
theorem far_w {h : H} {T : Tbl} {m : Nat} {p q : Pt} {high : Bool} (hm : m ≤ h.next) (hT : T.Ok m h) (g : T.Good) (o : T.On p) (o' : T.On q) : AW Try.prog 77 h.next h [.agg ⟨T.cells⟩, .agg ⟨p.cells⟩, .agg ⟨q.cells⟩, .bool high] (fun v _ => v = .agg ⟨(T.far p q high).cells⟩) := by
  have ar := g.around o
  have ar' := g.around o'
  have w1 := ar.whole
  have w2 := ar'.whole
  have w12 := mul_rng (Int.le_of_lt w1.1) w1.2 (Int.le_of_lt w2.1) w2.2
  have wpos := Int.mul_pos w1.1 w2.1
  refine fun77.call (v := .agg ⟨(T.far p q high).cells⟩) rfl (Nat.le_refl _) (fun J _ => by simp [Fr.cells, In, InL]) ?_
  unfold a77 Tbl.cells Pt.cells
  (focus ((try with_reducible apply wpC.to); (repeat' ((conv => whnf); first | refine byEv ?_ | ((apply q_call); (focus exact byNext); (focus exact byLo); (focus (exact kChartI1)); first | ((apply q_allB) <;> (intro z_b _ _ _; first | exact Bool.noConfusion z_b | replace z_b := of_decide_eq_true z_b | replace z_b := of_decide_eq_false z_b | skip) <;> (first | contradiction | (revert z_b; intros))) | ((apply q_alli) <;> (intro _ _ _ _; try contradiction)) | ((apply q_allv); intro _ _ _)) | fail)); all_goals (conv => whnf); all_goals (try with_reducible apply At.mk)))
  apply q_call
  focus (exact byNext)
  focus (exact byLo)
  focus exact more_w (T := T) (p := p) (q := q) (m := m) (by (exact byOm)) (hT.same (by (exact bySame)) (Nat.le_refl _)) g o o'
  rintro _ h2 ⟨r, l, c, rfl, hr, R, br⟩ q2 n2
  simp only [put_next, bump_next] at br
  have hin : ∀ e ∈ l, e.i < T.P.n ∧ e.k < T.A.n := fun e he => by
    have h1 := R.val e he
    have h2 := R.nz e he
    exact more_out ar ar' (by rw [← h1]; exact h2)
  let f : PE → Int := fun e => e.v * T.endv high e.v e.i e.k
  have hfg : ∀ e ∈ l, -((e.v.natAbs : Int) * 100000) ≤ f e ∧ f e ≤ (e.v.natAbs : Int) * 100000 := fun e he => by
    obtain ⟨h1, h2⟩ := hin e he
    have := g.endv high e.v h1 h2
    exact abs_mul this.1 this.2
  have hall : ls (fun e => (e.v.natAbs : Int) * 100000) l ≤ 3200000000000000000 := by
    have e1 : ls (fun e => (e.v.natAbs : Int) * 100000) l = ls (fun e => (fun i k => ((T.more p q i k).natAbs : Int) * 100000) e.i e.k) l := ls_congr l fun e he => by rw [R.val e he]
    rw [e1, R.sum (n := T.P.n) (m := T.A.n) hin (f := fun i k => ((T.more p q i k).natAbs : Int) * 100000) (fun i k h => by rw [h]; rfl), gs_mul]
    have := more_abs ar ar'
    omega
  have hsum : ls f l = gs (T.ft p q high) T.P.n T.A.n := by
    rw [← R.sum (n := T.P.n) (m := T.A.n) hin (f := T.ft p q high) (fun i k h => by unfold Tbl.ft; rw [h, Int.zero_mul])]
    exact ls_congr l fun e he => by show e.v * T.endv high e.v e.i e.k = _; unfold Tbl.ft; rw [R.val e he]
  have hss : ∀ seen, -3200000000000000000 ≤ ss f l seen ∧ ss f l seen ≤ 3200000000000000000 := fun seen => by
    have := ss_abs (seen := seen) hfg
    omega
  (focus ((try with_reducible apply wpC.to); (repeat' ((conv => whnf); first | refine byEv ?_ | ((apply q_call); (focus exact byNext); (focus exact byLo); (focus (exact kChartI1)); first | ((apply q_allB) <;> (intro z_b _ _ _; first | exact Bool.noConfusion z_b | replace z_b := of_decide_eq_true z_b | replace z_b := of_decide_eq_false z_b | skip) <;> (first | contradiction | (revert z_b; intros))) | ((apply q_alli) <;> (intro _ _ _ _; try contradiction)) | ((apply q_allv); intro _ _ _)) | fail)); all_goals (conv => whnf); all_goals (try with_reducible apply At.mk)))
  refine OpE.mk (mrange_p (r := r) (c := c) (es := pents l) rfl (by (exact byGet))) ?_
  (focus ((try with_reducible apply wpC.to); (repeat' ((conv => whnf); first | refine byEv ?_ | ((apply q_call); (focus exact byNext); (focus exact byLo); (focus (exact kChartI1)); first | ((apply q_allB) <;> (intro z_b _ _ _; first | exact Bool.noConfusion z_b | replace z_b := of_decide_eq_true z_b | replace z_b := of_decide_eq_false z_b | skip) <;> (first | contradiction | (revert z_b; intros))) | ((apply q_alli) <;> (intro _ _ _ _; try contradiction)) | ((apply q_allv); intro _ _ _)) | fail)); all_goals (conv => whnf); all_goals (try with_reducible apply At.mk)))
  have x1 : h2.get h.next = some (.cells [.slice T.P.b T.P.n T.P.c, .slice T.A.b T.A.n T.A.c, .slice T.R.b T.R.n T.R.c] 84) := by (exact byGet)
  have x2 : h2.get (h.next + 3) = some (.cells [.int .i64 0, .int .i64 0] 32) := by (exact byGet)
  have s2 : Same m h h2 := by (exact bySame)
  have s2' : Same h.next h h2 := by (exact bySame)
  have hold : ∀ e ∈ pents l, e.born < c := fun e he => by
    obtain ⟨x, hx, rfl⟩ := List.mem_map.1 he
    exact R.lt x hx
  refine wp_loop (fun s : List Nat => [(3, .bool high), (4, .pointer (some ⟨h.next, 0, none⟩)), (8, .pointer (some ⟨h.next + 3, 0, none⟩)), (10, .int .i64 (T.whole p * T.whole q)), (11, .int .i64 (ss f l s)), (22, .pointer (some ⟨h2.next + 2, 0, none⟩))])
    (fun s h3 => h3.get h.next = some (.cells [.slice T.P.b T.P.n T.P.c, .slice T.A.b T.A.n T.A.c, .slice T.R.b T.R.n T.R.c] 84) ∧ h3.get (h.next + 3) = some (.cells [.int .i64 0, .int .i64 0] 32) ∧ h3.get r = some (.map (pents l) c) ∧ h3.get (h2.next + 2) = some (.iter r c s c) ∧ Same m h h3 ∧ Same h.next h h3 ∧ h2.next + 3 ≤ h3.next) (fun s => us l s) [] ⟨rfl, rfl, rfl, rfl, int_of rfl (ss_nil f l).symm, rfl, trivial⟩ ⟨by (exact byGet), by (exact byGet), by (exact byGet), by (exact byGet), by (exact bySame), by (exact bySame), by (exact byOm)⟩ ?_
  rintro s g' h3 ⟨y1, y2, y3, y4, s3, s3', n3⟩ K hK
  (focus ((try with_reducible apply wpC.to); (repeat' ((conv => whnf); first | refine byEv ?_ | ((apply q_call); (focus exact byNext); (focus exact byLo); (focus (exact kChartI1)); first | ((apply q_allB) <;> (intro z_b _ _ _; first | exact Bool.noConfusion z_b | replace z_b := of_decide_eq_true z_b | replace z_b := of_decide_eq_false z_b | skip) <;> (first | contradiction | (revert z_b; intros))) | ((apply q_alli) <;> (intro _ _ _ _; try contradiction)) | ((apply q_allv); intro _ _ _)) | fail)); all_goals (conv => whnf); all_goals (try with_reducible apply At.mk)))
  refine wp_next (r := h2.next + 2) (m := r) rfl (by omega) (by omega) y4 y3 hold (Nat.le_refl _) (fun hz => ?_) (fun e' he' hns => ?_)
  · have hz' : ∀ e ∈ l, e.b ∈ s := fun e he => hz (pent e) (List.mem_map.2 ⟨e, he, rfl⟩)
    have hfin := ss_all f l s hz'
    have hb := hss s
    have hval : ss f l s = gs (T.ft p q high) T.P.n T.A.n := hfin.trans hsum
    rw [hval] at hb ⊢
    (focus ((try with_reducible apply wpC.to); (repeat' ((conv => whnf); first | refine byEv ?_ | ((apply q_call); (focus exact byNext); (focus exact byLo); (focus (exact kChartI1)); first | ((apply q_allB) <;> (intro z_b _ _ _; first | exact Bool.noConfusion z_b | replace z_b := of_decide_eq_true z_b | replace z_b := of_decide_eq_false z_b | skip) <;> (first | contradiction | (revert z_b; intros))) | ((apply q_alli) <;> (intro _ _ _ _; try contradiction)) | ((apply q_allv); intro _ _ _)) | fail)); all_goals (conv => whnf); all_goals (try with_reducible apply At.mk)))
    refine finD1 (.inr rfl) (x := .agg ⟨(T.far p q high).cells⟩) ?_ rfl (fun j hj => ?_)
    · apply one_agg
      focus exact rfl
      focus exact rfl
      focus exact rfl
      focus (exact byGet)
      focus exact rfl
      focus exact Is.rfl
    · refine Eq.trans (put_skip (by omega) ?_) (s3' j hj)
      refine quiet_skip (by assumption) (by (exact byOm)) ?_
      refine bump_skip ?_
      rfl
  · obtain ⟨e, he, rfl⟩ := List.mem_map.1 he'
    have hns : e.b ∉ s := hns
    obtain ⟨hi, hk⟩ := hin e he
    have hen := g.endv high e.v hi hk
    have hfe := hfg e he
    have hle := ls_mem (g := fun e => (e.v.natAbs : Int) * 100000) (fun e _ => by omega) he
    have hle : (e.v.natAbs : Int) * 100000 ≤ ls (fun e => (e.v.natAbs : Int) * 100000) l := hle
    have hs1 := hss s
    have hs2 := hss (s ++ [e.b])
    have hmore := ss_more f hns l R.nb he
    have hf : f e = e.v * T.endv high e.v e.i e.k := rfl
    rw [hf] at hfe hmore
    (focus ((try with_reducible apply wpC.to); (repeat' ((conv => whnf); first | refine byEv ?_ | ((apply q_call); (focus exact byNext); (focus exact byLo); (focus (exact kChartI1)); first | ((apply q_allB) <;> (intro z_b _ _ _; first | exact Bool.noConfusion z_b | replace z_b := of_decide_eq_true z_b | replace z_b := of_decide_eq_false z_b | skip) <;> (first | contradiction | (revert z_b; intros))) | ((apply q_alli) <;> (intro _ _ _ _; try contradiction)) | ((apply q_allv); intro _ _ _)) | fail)); all_goals (conv => whnf); all_goals (try with_reducible apply At.mk)))
    refine OpE.mk (entry_p (r := h2.next + 2) (m := r) (l := l) (c := c) (e := e) (seen := s) rfl (by (exact byGet)) (by (exact byGet)) he R.nb) ?_
    (focus ((try with_reducible apply wpC.to); (repeat' ((conv => whnf); first | refine byEv ?_ | ((apply q_call); (focus exact byNext); (focus exact byLo); (focus (exact kChartI1)); first | ((apply q_allB) <;> (intro z_b _ _ _; first | exact Bool.noConfusion z_b | replace z_b := of_decide_eq_true z_b | replace z_b := of_decide_eq_false z_b | skip) <;> (first | contradiction | (revert z_b; intros))) | ((apply q_alli) <;> (intro _ _ _ _; try contradiction)) | ((apply q_allv); intro _ _ _)) | fail)); all_goals (conv => whnf); all_goals (try with_reducible apply At.mk)))
    apply q_callv
    focus (exact byNext)
    focus (exact byLo)
    focus exact end_w (T := T) (m := m) (i := e.i) (k := e.k) (w := e.v) (high := high) (by (exact byOm)) (hT.same (by (exact bySame)) (Nat.le_refl _)) (by rw [g.n]; exact hi) (by rw [g.w _ hi]; exact hk)
    intro h4 q4 n4
    (focus ((try with_reducible apply wpC.to); (repeat' ((conv => whnf); first | refine byEv ?_ | ((apply q_call); (focus exact byNext); (focus exact byLo); (focus (exact kChartI1)); first | ((apply q_allB) <;> (intro z_b _ _ _; first | exact Bool.noConfusion z_b | replace z_b := of_decide_eq_true z_b | replace z_b := of_decide_eq_false z_b | skip) <;> (first | contradiction | (revert z_b; intros))) | ((apply q_alli) <;> (intro _ _ _ _; try contradiction)) | ((apply q_allv); intro _ _ _)) | fail)); all_goals (conv => whnf); all_goals (try with_reducible apply At.mk)))
    refine hK (s ++ [e.b]) _ _ ⟨rfl, rfl, rfl, rfl, int_of rfl hmore.symm, rfl, trivial⟩ ⟨by (exact byGet), by (exact byGet), by (exact byGet), ?_, by (exact bySame), by (exact bySame), by (exact byOm)⟩ (us_less hns he)
    refine Eq.trans (b := some (.iter r c (s ++ [(pent e).born]) c)) ?_ rfl
    (exact byGet)
end AE.Try
