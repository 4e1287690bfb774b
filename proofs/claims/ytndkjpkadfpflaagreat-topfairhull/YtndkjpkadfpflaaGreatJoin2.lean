/- Walks and plain laws: TopBd, TopBe. -/
import Derived.Test.YtndkjpkadfpflaaGreatTopBc
import Derived.Test.YtndkjpkadfpflaaGreatTopB1
set_option linter.unusedVariables false
set_option linter.unusedSimpArgs false
set_option linter.unusedSectionVars false

/- Walks of box: a bound that is accepted is passed by none. -/
namespace AE.Tryz
open Go AE Go.Proofs AE.Box
set_option maxRecDepth 100000
set_option linter.unusedVariables false

theorem psum_over {T : Hull} {q : Nat} {x : Fr} {Z : Nat → Nat → Int} : T.psum q x Z (T.n * T.w 0) = (T.hul.sys q).over x.n x.d (Box.flat (T.w 0) Z) := by
  unfold Hull.psum sumP Sys.over Sys.num Sys.den
  rw [← sumF_lin x.d x.n]
  rfl
def sgnOf (high : Bool) : Int := if high then 1 else -1
theorem checkBound_w {h : H} {T : Hull} {m q : Nat} {n d : Int} {high : Bool} (hm : m ≤ h.next) (hT : T.Ok m h) (V : T.Valid) (hq : q ≤ 2) : AW Tryz.prog 18 h.next h [.agg ⟨T.cells⟩, .int .i64 q, .agg ⟨[.int .i64 n, .int .i64 d]⟩, .bool high] (fun v _ => ∃ e : Int, v = .int .i64 e ∧ (e = 0 → (⟨n, d⟩ : Fr).Q ∧ ∀ z, (T.hul.sys q).Valid z → sgnOf high * (T.hul.sys q).over n d z ≤ 0)) := by
  refine fun18.call rfl (Nat.le_refl _) ?_
  unfold a18 Hull.cells
  (focus ((try with_reducible apply wpC.to); (repeat' ((conv => whnf); first | refine byEv ?_ | (apply Fork.mk <;> (intro _; try (exfalso; omega))) | ((refine kTopB60 ?_); first | ((first | apply q_allD | apply q_alli | apply q_allB) <;> intro _ _ _ _ <;> try contradiction) | (apply q_allv; intro _ _ _)) | refine xTopB20 ?_ | fail)); all_goals ((conv => whnf); try with_reducible apply At.mk)))
  apply q_call
  focus (exact byNext)
  focus (exact byLo)
  focus exact newPlan_w (T := T) (m := m) (q := q) byOm (hT.same bySame (Nat.le_refl _)) V hq
  rintro _ h2 ⟨p, rfl, ⟨p1, p2⟩, gp⟩ q2 hn2
  have sm2 : Same h.next h h2 := fun x hx => (q2.same x byOm).trans (get_of fun y hy => byGet)
  have g2 : h2.get (h.next + 1) = some (.cells [.int .i64 n, .int .i64 d] 27) := (q2.same _ byOm).trans byGet
  have hn2' : h.next + 3 ≤ h2.next := by (exact byOm)
  clear q2 hn2 p1
  by_cases hQ : (⟨n, d⟩ : Fr).Q
  · have q1 := hQ.n0
    have q2 := hQ.n1
    have q3 := hQ.d0
    have q4 := hQ.d1
    dsimp only at q1 q2 q3 q4
    (focus ((try with_reducible apply wpC.to); (repeat' ((conv => whnf); first | refine byEv ?_ | (apply Fork.mk <;> (intro _; try (exfalso; omega))) | ((refine kTopB60 ?_); first | ((first | apply q_allD | apply q_alli | apply q_allB) <;> intro _ _ _ _ <;> try contradiction) | (apply q_allv; intro _ _ _)) | refine xTopB20 ?_ | fail)); all_goals ((conv => whnf); try with_reducible apply At.mk)))
    rename_i h3 q3' hn3
    have sm3 : Same h.next h h3 := fun x hx => (q3'.same x byOm).trans ((get_of fun y hy => byGet).trans (sm2 x hx))
    have g3 : h3.get (h.next + 1) = some (.cells [.int .i64 n, .int .i64 d] 27) := (q3'.same _ byOm).trans byGet
    have gp3 : h3.get p = some (planRow T q) := (q3'.same _ byOm).trans ((get_of fun y hy => byGet).trans gp)
    have hn3' : h2.next ≤ h3.next := by (exact byOm)
    clear q3' hn3 gp g2 sm2
    by_cases hf : fr n d = ⟨n, d⟩
    · refine OpE.pure (.bool false) (xPure_neq (A := ⟨frC (fr n d)⟩) (B := ⟨frC ⟨n, d⟩⟩) rfl rfl rfl rfl rfl (by kernel_rfl) (by rw [eql_fr, decide_eq_true hf])) ?_
      have fin : ∀ (s : Int) (Z : Nat → Nat → Int), BestTo T q ⟨n, d⟩ s (T.n * T.w 0) Z → ¬ 0 < s * T.psum q ⟨n, d⟩ Z (T.n * T.w 0) → ∀ z, (T.hul.sys q).Valid z → s * (T.hul.sys q).over n d z ≤ 0 := fun s Z B hle z hz => by
        have := B.best.max hz
        rw [psum_over] at hle
        dsimp only at this hle
        omega
      cases high with
      | true =>
        (focus ((try with_reducible apply wpC.to); (repeat' ((conv => whnf); first | refine byEv ?_ | (apply Fork.mk <;> (intro _; try (exfalso; omega))) | ((refine kTopB60 ?_); first | ((first | apply q_allD | apply q_alli | apply q_allB) <;> intro _ _ _ _ <;> try contradiction) | (apply q_allv; intro _ _ _)) | refine xTopB20 ?_ | fail)); all_goals ((conv => whnf); try with_reducible apply At.mk)))
        apply q_call
        focus (exact byNext)
        focus (exact byLo)
        focus exact excess_w (T := T) (m := m) (p := p) (q := q) (x := ⟨n, d⟩) (s := 1) byOm byOm ((get_of fun y hy => byGet).trans gp3) hq ((hT.same (sm3.mono hm) (Nat.le_refl _)).same bySame (Nat.le_refl _)) V hQ (.inl rfl)
        rintro _ h4 ⟨rr, r, w, Z, rfl, -, B⟩ q4' hn4
        have sb := B.sum_bd V hQ (Nat.le_refl _)
        have fin := fin 1 Z B
        generalize T.psum q ⟨n, d⟩ Z (T.n * T.w 0) = S at sb fin
        (focus ((try with_reducible apply wpC.to); (repeat' ((conv => whnf); first | refine byEv ?_ | (apply Fork.mk <;> (intro _; try (exfalso; omega))) | ((refine kTopB60 ?_); first | ((first | apply q_allD | apply q_alli | apply q_allB) <;> intro _ _ _ _ <;> try contradiction) | (apply q_allv; intro _ _ _)) | refine xTopB20 ?_ | fail)); all_goals ((conv => whnf); try with_reducible apply At.mk)))
        all_goals (refine byFin ?_)
        · exact ⟨_, rfl, fun h => by omega⟩
        · exact ⟨_, rfl, fun _ => ⟨hQ, fin (by omega)⟩⟩
      | false =>
        (focus ((try with_reducible apply wpC.to); (repeat' ((conv => whnf); first | refine byEv ?_ | (apply Fork.mk <;> (intro _; try (exfalso; omega))) | ((refine kTopB60 ?_); first | ((first | apply q_allD | apply q_alli | apply q_allB) <;> intro _ _ _ _ <;> try contradiction) | (apply q_allv; intro _ _ _)) | refine xTopB20 ?_ | fail)); all_goals ((conv => whnf); try with_reducible apply At.mk)))
        apply q_call
        focus (exact byNext)
        focus (exact byLo)
        focus exact excess_w (T := T) (m := m) (p := p) (q := q) (x := ⟨n, d⟩) (s := -1) byOm byOm ((get_of fun y hy => byGet).trans gp3) hq ((hT.same (sm3.mono hm) (Nat.le_refl _)).same bySame (Nat.le_refl _)) V hQ (.inr rfl)
        rintro _ h4 ⟨rr, r, w, Z, rfl, -, B⟩ q4' hn4
        have sb := B.sum_bd V hQ (Nat.le_refl _)
        have fin := fin (-1) Z B
        generalize T.psum q ⟨n, d⟩ Z (T.n * T.w 0) = S at sb fin
        (focus ((try with_reducible apply wpC.to); (repeat' ((conv => whnf); first | refine byEv ?_ | (apply Fork.mk <;> (intro _; try (exfalso; omega))) | ((refine kTopB60 ?_); first | ((first | apply q_allD | apply q_alli | apply q_allB) <;> intro _ _ _ _ <;> try contradiction) | (apply q_allv; intro _ _ _)) | refine xTopB20 ?_ | fail)); all_goals ((conv => whnf); try with_reducible apply At.mk)))
        all_goals (refine byFin ?_)
        · exact ⟨_, rfl, fun h => by omega⟩
        · exact ⟨_, rfl, fun _ => ⟨hQ, fin (by omega)⟩⟩
    · refine OpE.pure (.bool true) (xPure_neq (A := ⟨frC (fr n d)⟩) (B := ⟨frC ⟨n, d⟩⟩) rfl rfl rfl rfl rfl (by kernel_rfl) (by rw [eql_fr, decide_eq_false hf])) ?_
      (focus ((try with_reducible apply wpC.to); (repeat' ((conv => whnf); first | refine byEv ?_ | (apply Fork.mk <;> (intro _; try (exfalso; omega))) | ((refine kTopB60 ?_); first | ((first | apply q_allD | apply q_alli | apply q_allB) <;> intro _ _ _ _ <;> try contradiction) | (apply q_allv; intro _ _ _)) | refine xTopB20 ?_ | fail)); all_goals ((conv => whnf); try with_reducible apply At.mk)))
      (refine byFin ?_)
      exact ⟨_, rfl, fun h => by omega⟩
  · have hQ' : ¬ (0 ≤ n ∧ n ≤ 100000000000 ∧ 1 ≤ d ∧ d ≤ 100000000) := fun ⟨a, b, c, e⟩ => hQ ⟨a, b, c, e⟩
    (focus ((try with_reducible apply wpC.to); (repeat' ((conv => whnf); first | refine byEv ?_ | (apply Fork.mk <;> (intro _; try (exfalso; omega))) | ((refine kTopB60 ?_); first | ((first | apply q_allD | apply q_alli | apply q_allB) <;> intro _ _ _ _ <;> try contradiction) | (apply q_allv; intro _ _ _)) | refine xTopB20 ?_ | fail)); all_goals ((conv => whnf); try with_reducible apply At.mk)))
    all_goals ((refine byFin ?_); exact ⟨_, rfl, fun h => by omega⟩)
end AE.Tryz

/- Walks: two fractions are compared. -/
namespace AE.Tryz
open Go AE Go.Proofs AE.Box
set_option maxRecDepth 100000
set_option linter.unusedVariables false

/-- Where the comparison is. -/
structure CmS where
  t : Bool
  a : Int
  b : Int
  c : Int
  d : Int
theorem compare_w {h : H} {a b c d : Int} (ha : 0 ≤ a ∧ a < 9223372036854775808) (hb : 0 < b ∧ b < 9223372036854775808) (hc : 0 ≤ c ∧ c < 9223372036854775808) (hd : 0 < d ∧ d < 9223372036854775808) :
    AW Tryz.prog 53 h.next h [.int .i64 a, .int .i64 b, .int .i64 c, .int .i64 d] (fun v _ => v = .bool (decide (lt4 a b c d))) := by
  refine fun53.call rfl (Nat.le_refl _) ?_
  unfold a53
  (focus ((try with_reducible apply wpC.to); (repeat' ((conv => whnf); first | refine byEv ?_ | (apply Fork.mk <;> (intro _; try (exfalso; omega))) | fail)); all_goals ((conv => whnf); try with_reducible apply At.mk)))
  refine wp_loop (fun x : CmS => [(0, .int .i64 x.a), (1, .int .i64 x.b), (2, .int .i64 x.c), (3, .int .i64 x.d), (9, .bool x.t)])
    (fun x h1 => Same h.next h h1 ∧ h.next ≤ h1.next ∧ (0 ≤ x.a ∧ x.a < 9223372036854775808) ∧ (0 < x.b ∧ x.b < 9223372036854775808) ∧ (0 ≤ x.c ∧ x.c < 9223372036854775808) ∧ (0 < x.d ∧ x.d < 9223372036854775808) ∧ (says x.t x.a x.b x.c x.d ↔ lt4 a b c d))
    (fun x => x.b.toNat) ⟨false, a, b, c, d⟩ ⟨rfl, rfl, rfl, rfl, rfl, trivial⟩ ⟨bySame, byOm, ha, hb, hc, hd, Iff.rfl⟩ ?_
  rintro ⟨t, a1, b1, c1, d1⟩ g h1 ⟨s1, hn1, xa, xb, xc, xd, hsay⟩ K hK
  dsimp only at xa xb xc xd hsay ⊢
  by_cases hq : a1 / b1 = c1 / d1
  · have ra := Int.emod_nonneg a1 (by omega : b1 ≠ 0)
    have ra' := Int.emod_lt_of_pos a1 xb.1
    have rc := Int.emod_nonneg c1 (by omega : d1 ≠ 0)
    have rc' := Int.emod_lt_of_pos c1 xd.1
    have hl := (says_left (t := t) hq).symm.trans hsay
    by_cases hz : a1 % b1 = 0 ∨ c1 % d1 = 0
    · have hl2 := (says_zero (t := t) xb.1 xd.1 ra rc hz).symm.trans hl
      cases t with
      | true =>
        (focus ((try with_reducible apply wpC.to); (repeat' ((conv => whnf); first | refine byEv ?_ | (apply Fork.mk <;> (intro _; try (exfalso; omega))) | fail)); all_goals ((conv => whnf); try with_reducible apply At.mk)))
        all_goals (refine byFin ?_)
        all_goals first
          | exact bool_t rfl (hl2.1 ⟨by omega, by simp; omega⟩)
          | exact bool_f rfl (fun hh => by
              have := hl2.2 hh
              simp at this
              omega)
      | false =>
        (focus ((try with_reducible apply wpC.to); (repeat' ((conv => whnf); first | refine byEv ?_ | (apply Fork.mk <;> (intro _; try (exfalso; omega))) | fail)); all_goals ((conv => whnf); try with_reducible apply At.mk)))
        all_goals (refine byFin ?_)
        all_goals first
          | exact bool_t rfl (hl2.1 ⟨by omega, by simp; omega⟩)
          | exact bool_f rfl (fun hh => by
              have := hl2.2 hh
              simp at this
              omega)
    · have hl3 := says_turn.symm.trans hl
      have hza : a1 % b1 ≠ 0 := fun e => hz (.inl e)
      have hzc : c1 % d1 ≠ 0 := fun e => hz (.inr e)
      cases t with
      | true =>
        (focus ((try with_reducible apply wpC.to); (repeat' ((conv => whnf); first | refine byEv ?_ | (apply Fork.mk <;> (intro _; try (exfalso; omega))) | fail)); all_goals ((conv => whnf); try with_reducible apply At.mk)))
        exact hK ⟨false, b1, a1 % b1, d1, c1 % d1⟩ _ _ ⟨rfl, rfl, rfl, rfl, rfl, trivial⟩ ⟨bySame, byOm, by dsimp only; omega, by dsimp only; omega, by dsimp only; omega, by dsimp only; omega, hl3⟩ (by dsimp only; omega)
      | false =>
        (focus ((try with_reducible apply wpC.to); (repeat' ((conv => whnf); first | refine byEv ?_ | (apply Fork.mk <;> (intro _; try (exfalso; omega))) | fail)); all_goals ((conv => whnf); try with_reducible apply At.mk)))
        exact hK ⟨true, b1, a1 % b1, d1, c1 % d1⟩ _ _ ⟨rfl, rfl, rfl, rfl, rfl, trivial⟩ ⟨bySame, byOm, by dsimp only; omega, by dsimp only; omega, by dsimp only; omega, by dsimp only; omega, hl3⟩ (by dsimp only; omega)
  · have hd := says_div (t := t) xb.1 xd.1 hq
    cases t with
    | true =>
      (focus ((try with_reducible apply wpC.to); (repeat' ((conv => whnf); first | refine byEv ?_ | (apply Fork.mk <;> (intro _; try (exfalso; omega))) | fail)); all_goals ((conv => whnf); try with_reducible apply At.mk)))
      all_goals (refine byFin ?_)
      all_goals first
        | exact bool_t rfl (hsay.1 (of_decide_eq_true (hd.trans (by simp; omega))))
        | exact bool_f rfl (fun hh => by
            have := decide_eq_true (hsay.2 hh)
            rw [hd] at this
            simp at this
            omega)
    | false =>
      (focus ((try with_reducible apply wpC.to); (repeat' ((conv => whnf); first | refine byEv ?_ | (apply Fork.mk <;> (intro _; try (exfalso; omega))) | fail)); all_goals ((conv => whnf); try with_reducible apply At.mk)))
      all_goals (refine byFin ?_)
      all_goals first
        | exact bool_t rfl (hsay.1 (of_decide_eq_true (hd.trans (by simp; omega))))
        | exact bool_f rfl (fun hh => by
            have := decide_eq_true (hsay.2 hh)
            rw [hd] at this
            simp at this
            omega)
theorem less3_w {h : H} {x y : Fr} (hx : x.Q) (hy : y.Q) : AW Tryz.prog 19 h.next h [.agg ⟨frC x⟩, .agg ⟨frC y⟩] (fun v _ => v = .bool (decide (lt4 x.n x.d y.n y.d))) := by
  obtain ⟨x1, x2, x3, x4⟩ := hx
  obtain ⟨y1, y2, y3, y4⟩ := hy
  refine fun19.call rfl (Nat.le_refl _) ?_
  unfold a19 frC
  (focus ((try with_reducible apply wpC.to); (repeat' ((conv => whnf); first | refine byEv ?_ | (apply Fork.mk <;> (intro _; try (exfalso; omega))) | fail)); all_goals ((conv => whnf); try with_reducible apply At.mk)))
  apply q_call
  focus (exact byNext)
  focus (exact byLo)
  focus exact compare_w (by omega) (by omega) (by omega) (by omega)
  rintro _ h1 rfl q1 hn1
  (focus ((try with_reducible apply wpC.to); (repeat' ((conv => whnf); first | refine byEv ?_ | (apply Fork.mk <;> (intro _; try (exfalso; omega))) | fail)); all_goals ((conv => whnf); try with_reducible apply At.mk)))
  (refine byFin ?_)
  rfl
theorem between3_w {h : H} {x y z : Fr} (hx : x.Q) (hy : y.Q) (hz : z.Q) (h1 : ¬ lt4 x.n x.d y.n y.d) (h2 : ¬ lt4 z.n z.d x.n x.d) : AW Tryz.prog 17 h.next h [.agg ⟨frC x⟩, .agg ⟨frC y ++ frC z⟩] (fun v _ => v = .bool true) := by
  refine fun17.call rfl (Nat.le_refl _) ?_
  have l1 : ∀ X : H, AW Tryz.prog 19 X.next X [.agg ⟨[.int .i64 x.n, .int .i64 x.d]⟩, .agg ⟨[.int .i64 y.n, .int .i64 y.d]⟩] (fun v _ => v = .bool false) := fun X => by
    have := less3_w (h := X) hx hy
    rw [decide_eq_false h1] at this
    exact this
  have l2 : ∀ X : H, AW Tryz.prog 19 X.next X [.agg ⟨[.int .i64 z.n, .int .i64 z.d]⟩, .agg ⟨[.int .i64 x.n, .int .i64 x.d]⟩] (fun v _ => v = .bool false) := fun X => by
    have := less3_w (h := X) hz hx
    rw [decide_eq_false h2] at this
    exact this
  unfold a17 frC
  (focus ((try with_reducible apply wpC.to); (repeat' ((conv => whnf); first | refine byEv ?_ | fail)); all_goals ((conv => whnf); try with_reducible apply At.mk)))
  apply q_call
  focus (exact byNext)
  focus (exact byLo)
  focus exact l1 _
  rintro _ h3 rfl q3 hn3
  (focus ((try with_reducible apply wpC.to); (repeat' ((conv => whnf); first | refine byEv ?_ | fail)); all_goals ((conv => whnf); try with_reducible apply At.mk)))
  apply q_call
  focus (exact byNext)
  focus (exact byLo)
  focus exact l2 _
  rintro _ h4 rfl q4 hn4
  (focus ((try with_reducible apply wpC.to); (repeat' ((conv => whnf); first | refine byEv ?_ | fail)); all_goals ((conv => whnf); try with_reducible apply At.mk)))
  (refine byFin ?_)
  rfl
end AE.Tryz
