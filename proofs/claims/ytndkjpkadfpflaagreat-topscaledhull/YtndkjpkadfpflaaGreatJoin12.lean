/- Walks and plain laws: TDragE, TDragF, TopH7. -/
import Derived.Test.YtndkjpkadfpflaaGreatJoin4
import Derived.Test.YtndkjpkadfpflaaGreatJoin11
set_option linter.unusedVariables false
set_option linter.unusedSimpArgs false
set_option linter.unusedSectionVars false

/- Walks of drag and its reference: tests. -/
namespace AE.Tryz
open Go AE AE.Drag Go.Proofs
set_option maxRecDepth 100000

set_option maxHeartbeats 1000000 in
theorem checkTest_w {h : H} {t : T} (_ : Known t) : AW Tryz.prog 67 h.next h [.agg ⟨t.cells⟩] (fun w _ => w = .int .i64 (testErr t)) := by
  refine fun67.call rfl (Nat.le_refl _) ?_
  unfold a67
  (focus ((try with_reducible apply wpC.to); (repeat' ((conv => whnf); first | refine byEv ?_ | ((apply q_call); (focus exact byNext); (focus exact byLo); (focus (first | exact kTDragD0 | exact kTDragB0 | exact kTDragA2)); first | ((apply q_allB) <;> (intro z_b _ _ _; first | exact Bool.noConfusion z_b | replace z_b := of_decide_eq_true z_b | replace z_b := of_decide_eq_false z_b | skip) <;> ((try simp only [AllOk, Bd.ok, and_true] at z_b); first | contradiction | (revert z_b; intros))) | ((apply q_alli) <;> intro _ _ _ _ <;> try contradiction) | (apply q_allv; intro _ _ _)) | (apply q_call; (focus exact byNext); (focus omega); (focus exact bounds_w); rintro _ z_h1 ⟨z_r, z_e, z_hr1, z_hr2, z_hg⟩ z_q z_hn; subst z_e; (try simp only [put_next, bump_next] at z_hr1); revert z_hn z_q z_hg z_hr2 z_hr1 z_r z_h1; intros) | fail)); all_goals ((conv => whnf); try with_reducible apply At.mk)))
  · (refine byFin ?_)
    refine int_of rfl (testErr_0 ⟨?_, ?_, ?_, ?_, ?_, ?_, ?_, ?_, ?_, ?_, ?_, ?_, ?_, ?_, ?_, ?_, ?_, ?_, ?_, ?_, ?_, ?_, ?_, ?_, ?_, ?_⟩).symm <;> omega
  · (refine byFin ?_)
    refine int_of rfl (testErr_2 fun k => ?_).symm
    have := k.s1; have := k.s2; have := k.l1; have := k.l2; have := k.w1; have := k.w2; have := k.a1; have := k.a2; have := k.f1; have := k.f2; have := k.f3; have := k.t1; have := k.t2; have := k.t3
    have := k.e1; have := k.e2; have := k.e3; have := k.m1; have := k.m2; have := k.m3; have := k.b1; have := k.b2; have := k.b3; have := k.r1; have := k.r2; have := k.r3
    omega
theorem kTDragE0 {G : Prop} (g : G := by ((apply AW.arg1; (focus (apply checkTest_w; (focus assumption))); (focus exact Is.rfl)))) : G := g
set_option maxHeartbeats 1000000 in
theorem refCheckTest_w {h : H} {t : T} (_ : Known t) : AW Tryz.prog 25 h.next h [.agg ⟨t.cells⟩] (fun w _ => w = .int .i64 (testErr t)) := by
  refine fun25.call rfl (Nat.le_refl _) ?_
  unfold a25
  (focus ((try with_reducible apply wpC.to); (repeat' ((conv => whnf); first | refine byEv ?_ | ((apply q_call); (focus exact byNext); (focus exact byLo); (focus (first | exact kTDragD0 | exact kTDragA1 | exact kTDragA0)); first | ((apply q_allB) <;> (intro z_b _ _ _; first | exact Bool.noConfusion z_b | replace z_b := of_decide_eq_true z_b | replace z_b := of_decide_eq_false z_b | skip) <;> ((try simp only [AllOk, Bd.ok, and_true] at z_b); first | contradiction | (revert z_b; intros))) | ((apply q_alli) <;> intro _ _ _ _ <;> try contradiction) | (apply q_allv; intro _ _ _)) | fail)); all_goals ((conv => whnf); try with_reducible apply At.mk)))
  all_goals (refine byFin ?_)
  all_goals first
    | (refine int_of rfl (testErr_2 fun k => ?_).symm
       have := k.s1; have := k.s2; have := k.l1; have := k.l2; have := k.w1; have := k.w2; have := k.a1; have := k.a2; have := k.f1; have := k.f2; have := k.f3; have := k.t1; have := k.t2; have := k.t3
       have := k.e1; have := k.e2; have := k.e3; have := k.m1; have := k.m2; have := k.m3; have := k.b1; have := k.b2; have := k.b3; have := k.r1; have := k.r2; have := k.r3
       omega)
    | (refine int_of rfl (testErr_0 ⟨?_, ?_, ?_, ?_, ?_, ?_, ?_, ?_, ?_, ?_, ?_, ?_, ?_, ?_, ?_, ?_, ?_, ?_, ?_, ?_, ?_, ?_, ?_, ?_, ?_, ?_⟩).symm <;> omega)
theorem kTDragE1 {G : Prop} (g : G := by ((apply AW.arg1; (focus (apply refCheckTest_w; (focus assumption))); (focus exact Is.rfl)))) : G := g
end AE.Tryz

/- Walks of drag and its reference: Reynolds numbers, coefficients. -/
namespace AE.Tryz
open Go AE AE.Drag Go.Proofs
set_option maxRecDepth 100000

theorem model_w {h : H} {t : T} {w : Int} (k : t.Ok) (hw : 500 ≤ w) : AW Tryz.prog 71 h.next h [.agg ⟨t.cells⟩, .int .i64 w] (fun v _ => v = .int .i64 (modelRe t w)) := by
  have p := k.prod; have := p.p1; have := p.p2
  refine fun71.call rfl (Nat.le_refl _) ?_
  unfold a71
  (focus ((try with_reducible apply wpC.to); (repeat' ((conv => whnf); first | refine byEv ?_ | fail)); all_goals ((conv => whnf); try with_reducible apply At.mk)))
  all_goals ((refine byFin ?_); rfl)
theorem ship_w {h : H} {t : T} {w : Int} (k : t.Ok) (hw : 500 ≤ w) : AW Tryz.prog 72 h.next h [.agg ⟨t.cells⟩, .int .i64 w] (fun v _ => v = .int .i64 (shipRe t w)) := by
  obtain ⟨p1, p2, p3, p4, p5, p6, p7, p8, p9⟩ := k.prod
  refine fun72.call rfl (Nat.le_refl _) ?_
  unfold a72
  (focus ((try with_reducible apply wpC.to); (repeat' ((conv => whnf); first | refine byEv ?_ | fail)); all_goals ((conv => whnf); try with_reducible apply At.mk)))
  all_goals ((refine byFin ?_); rfl)
theorem kTDragF0 {G : Prop} (g : G := by ((apply AW.arg1; (focus (apply model_w; (focus assumption); (focus omega))); (focus exact Is.rfl)))) : G := g
theorem kTDragF1 {G : Prop} (g : G := by ((apply AW.arg1; (focus (apply ship_w; (focus assumption); (focus omega))); (focus exact Is.rfl)))) : G := g
def reynL (t : T) : List Value := [.int .i64 (modelRe t t.th), .int .i64 (modelRe t t.tl), .int .i64 (shipRe t t.sh), .int .i64 (shipRe t t.sl)]
theorem reynolds_w {h : H} {t : T} (k : t.Ok) : AW Tryz.prog 75 h.next h [.agg ⟨t.cells⟩] (fun v _ => v = .agg ⟨reynL t⟩) := by
  have := k.t1; have := k.t2; have := k.e1; have := k.e2
  refine fun75.call rfl (Nat.le_refl _) ?_
  unfold a75
  (focus ((try with_reducible apply wpC.to); (repeat' ((conv => whnf); first | refine byEv ?_ | ((apply q_call); (focus exact byNext); (focus exact byLo); (focus (first | exact kTDragF1 | exact kTDragF0 | exact kTDragD0)); first | ((apply q_allB) <;> (intro z_b _ _ _; first | exact Bool.noConfusion z_b | replace z_b := of_decide_eq_true z_b | replace z_b := of_decide_eq_false z_b | skip) <;> ((try simp only [AllOk, Bd.ok, and_true] at z_b); first | contradiction | (revert z_b; intros))) | ((apply q_alli) <;> intro _ _ _ _ <;> try contradiction) | (apply q_allv; intro _ _ _)) | fail)); all_goals ((conv => whnf); try with_reducible apply At.mk)))
  all_goals ((refine byFin ?_); rfl)
theorem kTDragF3 {G : Prop} (g : G := by ((apply AW.arg1; (focus (apply reynolds_w; (focus assumption))); (focus exact Is.rfl)))) : G := g
/-- Reynolds' answer: the ends of both ranges, the error. -/
noncomputable def reynR (t : T) : Int × Int × Int × Int × Int := if testErr t = 0 then (modelRe t t.th, modelRe t t.tl, shipRe t t.sh, shipRe t t.sl, 0) else (0, 0, 0, 0, testErr t)
noncomputable def reynV (t : T) : Value := .tuple #[.agg ⟨[.int .i64 (reynR t).1, .int .i64 (reynR t).2.1]⟩, .agg ⟨[.int .i64 (reynR t).2.2.1, .int .i64 (reynR t).2.2.2.1]⟩, .int .i64 (reynR t).2.2.2.2]
theorem reynolds_api {h : H} {t : T} (kn : Known t) : AW Tryz.prog 31 h.next h [.agg ⟨t.cells⟩] (fun v _ => v = reynV t) := by
  refine fun31.call rfl (Nat.le_refl _) ?_
  unfold a31 reynV reynR
  by_cases he : testErr t = 0
  · have k := testErr_ok.1 he
    rw [if_pos he]
    (focus ((try with_reducible apply wpC.to); (repeat' ((conv => whnf); first | refine byEv ?_ | (apply Fork.mk <;> (intro _; try (exfalso; omega))) | ((apply q_call); (focus exact byNext); (focus exact byLo); (focus (first | exact kTDragF3 | exact kTDragE0 | exact kTDragD0)); first | ((apply q_allB) <;> (intro z_b _ _ _; first | exact Bool.noConfusion z_b | replace z_b := of_decide_eq_true z_b | replace z_b := of_decide_eq_false z_b | skip) <;> ((try simp only [AllOk, Bd.ok, and_true] at z_b); first | contradiction | (revert z_b; intros))) | ((apply q_alli) <;> intro _ _ _ _ <;> try contradiction) | (apply q_allv; intro _ _ _)) | fail)); all_goals ((conv => whnf); try with_reducible apply At.mk)))
    all_goals ((refine byFin ?_); rfl)
  · rw [if_neg he]
    (focus ((try with_reducible apply wpC.to); (repeat' ((conv => whnf); first | refine byEv ?_ | (apply Fork.mk <;> (intro _; try (exfalso; omega))) | ((apply q_call); (focus exact byNext); (focus exact byLo); (focus (first | exact kTDragF3 | exact kTDragE0 | exact kTDragD0)); first | ((apply q_allB) <;> (intro z_b _ _ _; first | exact Bool.noConfusion z_b | replace z_b := of_decide_eq_true z_b | replace z_b := of_decide_eq_false z_b | skip) <;> ((try simp only [AllOk, Bd.ok, and_true] at z_b); first | contradiction | (revert z_b; intros))) | ((apply q_alli) <;> intro _ _ _ _ <;> try contradiction) | (apply q_allv; intro _ _ _)) | fail)); all_goals ((conv => whnf); try with_reducible apply At.mk)))
    all_goals ((refine byFin ?_); rfl)
theorem kTDragF4 {G : Prop} (g : G := by ((apply AW.arg1; (focus (apply refMeasured_w; (focus assumption); (focus omega); (focus omega))); (focus exact Is.rfl)))) : G := g
theorem kTDragF5 {G : Prop} (g : G := by ((apply AW.arg12; (focus (apply isTrue_w; (focus assumption); (focus assumption))); (focus exact Is.rfl); (focus exact Is.rfl)))) : G := g
end AE.Tryz

/- Rows of ranges that grow, one behind the other; a hull of them. -/
namespace AE.Tryz
open Go AE Go.Proofs AE.Box AE.Fair
set_option maxRecDepth 100000
set_option linter.unusedVariables false

/-- i rows of w ranges are there, and are named in a slice that grows. -/
structure SH (lo N : Nat) (X : H) (w i : Nat) (rr : Nat → Nat) (vv : Nat → Option Addr) (ro : Nat) (vo : Option Addr) (F : Nat → Nat → Rg) : Prop where
  row : ∀ j, j < i → GG (rr j) X 36 2 w (rowsOf (fun k => (F j k).cells) w) (vv j)
  rng : ∀ j, j < i → lo ≤ rr j ∧ rr j < N
  out : GG ro X 31 1 i (rowsOf (fun j => [.slice (vv j) w 0]) i) vo
  org : 0 < i → (lo ≤ ro ∧ ro < N) ∧ ∀ j, j < i → rr j ≠ ro
theorem SH.nil {lo N : Nat} {X : H} {w : Nat} {rr : Nat → Nat} {vv : Nat → Option Addr} {ro : Nat} {F : Nat → Nat → Rg} : SH lo N X w 0 rr vv ro none F :=
  ⟨fun j hj => by omega, fun j hj => by omega, GG.nil, fun h => by omega⟩
theorem SH.frame {lo N N' : Nat} {X X' : H} {w i : Nat} {rr : Nat → Nat} {vv : Nat → Option Addr} {ro : Nat} {vo : Option Addr} {F : Nat → Nat → Rg} (k : SH lo N X w i rr vv ro vo F) (hN : N ≤ N') (hs : ∀ x, lo ≤ x → x < N → X'.get x = X.get x) : SH lo N' X' w i rr vv ro vo F :=
  ⟨fun j hj => (k.row j hj).frame fun _ => hs _ (k.rng j hj).1 (k.rng j hj).2, fun j hj => by have := k.rng j hj; omega, k.out.frame fun h0 => hs _ (k.org h0).1.1 (k.org h0).1.2, fun h0 => ⟨by have := (k.org h0).1; omega, (k.org h0).2⟩⟩
theorem SH.next {lo N N' : Nat} {X X' : H} {w i : Nat} {rr : Nat → Nat} {vv : Nat → Option Addr} {ro ro' r : Nat} {vo vo' v : Option Addr} {F : Nat → Nat → Rg} (k : SH lo N X w i rr vv ro vo F) (hN : N ≤ N') (hlN : lo ≤ N) (hs : ∀ x, lo ≤ x → x < N → (0 < i → x ≠ ro) → X'.get x = X.get x)
    (G : GG r X' 36 2 w (rowsOf (fun k => (F i k).cells) w) v) (hr : N ≤ r ∧ r < N') (G' : GG ro' X' 31 1 (i + 1) (rowsOf (fun j => [.slice (vv j) w 0]) i ++ [.slice v w 0]) vo') (hro : (0 < i → ro' = ro) ∧ (i = 0 → N ≤ ro' ∧ ro' < N' ∧ ro' ≠ r)) :
    SH lo N' X' w (i + 1) (fun j => if j = i then r else rr j) (fun j => if j = i then v else vv j) ro' vo' F := by
  refine ⟨fun j hj => ?_, fun j hj => ?_, ?_, fun _ => ⟨?_, fun j hj => ?_⟩⟩
  · by_cases e : j = i
    · subst e; simp only [if_true]; exact G
    · simp only [if_neg e]
      have := k.rng j (by omega)
      exact (k.row j (by omega)).frame fun _ => hs _ this.1 this.2 fun h0 => (k.org h0).2 j (by omega)
  · by_cases e : j = i
    · subst e; simp only [if_true]; omega
    · simp only [if_neg e]
      have := k.rng j (by omega); omega
  · have : rowsOf (fun j => [Value.slice (if j = i then v else vv j) w 0]) (i + 1) = rowsOf (fun j => [Value.slice (vv j) w 0]) i ++ [.slice v w 0] := by
      rw [rowsOf, if_pos rfl]
      congr 1
      exact rowsOf_congr i fun j hj => by rw [if_neg (by omega)]
    rw [this]
    exact G'
  · rcases Nat.eq_zero_or_pos i with h0 | h0
    · have := hro.2 h0; omega
    · have := hro.1 h0; have := (k.org h0).1; omega
  · by_cases e : j = i
    · simp only [if_pos e]
      rcases Nat.eq_zero_or_pos i with h0 | h0
      · have := hro.2 h0; omega
      · have := hro.1 h0; have := (k.org h0).1; omega
    · simp only [if_neg e]
      have := hro.1 (by omega)
      rw [this]
      exact (k.org (by omega)).2 j (by omega)
/-- They are a hull. -/
theorem SH.hull {lo N n w : Nat} {X : H} {rr : Nat → Nat} {vv : Nat → Option Addr} {ro : Nat} {vo : Option Addr} {F : Nat → Nat → Rg} {sp st : Int} (k : SH lo N X w n rr vv ro vo F) (hn : 0 < n) (hw : 0 < w) (hn' : n < 1000) (hw' : w < 1000) :
    ∃ Q : Hull, Q.Ok N X ∧ Q.cells = [.int .i64 sp, .int .i64 st, .slice vo n 0] ∧ Q.sp = sp ∧ Q.st = st ∧ Q.n = n ∧ (∀ i, Q.w i = w) ∧ Q.f = F ∧ Q.b = vo ∧ Q.c = 0 := by
  obtain ⟨a, hv, e, b⟩ := k.out.els (f := fun j => [.slice (vv j) w 0]) fun _ => rfl
  have hv := hv hn
  have hb := b hn
  have ho := (k.org hn).1
  have hrow : ∀ j, j < n → ∃ a, vv j = some a ∧ Els X a w 2 (fun k => (F j k).cells) ∧ a.block = rr j := fun j hj => by
    obtain ⟨a, h1, h2, h3⟩ := (k.row j hj).els (f := fun k => (F j k).cells) fun _ => rfl
    exact ⟨a, h1 hw, h2, h3 hw⟩
  refine ⟨⟨sp, st, n, vo, a, 0, fun _ => w, vv, fun j => (vv j).getD ⟨0, 0, none⟩, fun _ => 0, F⟩, ⟨fun _ => hv, fun i hi => ?_, fun _ => by dsimp only; omega, by dsimp only; omega, fun i hi _ => ?_, fun i hi => ?_, fun i hi _ => ?_, fun i hi => by dsimp only; omega⟩, rfl, rfl, rfl, rfl, fun _ => rfl, rfl, rfl, rfl⟩
  · have := e i hi
    rw [Nat.mul_one] at this
    exact this
  all_goals
    obtain ⟨a', h1, h2, h3⟩ := hrow i hi
    have hr := k.rng i hi
    dsimp only
    rw [h1]
  · rfl
  · exact h2
  · show a'.block < N
    omega
theorem Mat.congr {lo N : Nat} {h : H} {R n w c : Nat} {rr : Nat → Nat} {f g : Nat → Nat → Int} (k : Mat lo N h R n w c rr f) (hfg : ∀ i j, i < c → j < w → f i j = g i j) : Mat lo N h R n w c rr g :=
  ⟨k.out, fun i hi => by
    rw [k.row i hi]
    have : iCells (f i) w = iCells (g i) w := by unfold iCells; exact rowsOf_congr w fun j hj => by rw [hfg i j hi hj]
    rw [this], k.rng, k.inj, k.rlo⟩
/-- The offsets before a place are so many times as great. -/
def scTo (W : Nat → Nat → Int) (s : Int) (i k : Nat) : Nat → Nat → Int := fun i' k' => if i' < i ∨ i' = i ∧ k' < k then W i' k' * s else W i' k'
theorem scTo_next {W : Nat → Nat → Int} {s : Int} {i k : Nat} : upd2 (scTo W s i k) i k (W i k * s) = scTo W s i (k + 1) := by
  funext i' k'
  unfold upd2 scTo
  by_cases e : i' = i ∧ k' = k
  · obtain ⟨rfl, rfl⟩ := e
    rw [if_pos ⟨rfl, rfl⟩, if_pos (by omega)]
  · rw [if_neg e]
    by_cases e2 : i' < i ∨ i' = i ∧ k' < k
    · rw [if_pos e2, if_pos (by omega)]
    · rw [if_neg e2, if_neg (by omega)]
theorem scTo_at {W : Nat → Nat → Int} {s : Int} {i k : Nat} : scTo W s i k i k = W i k := if_neg (by omega)
/-- The heap at a call has a name. -/
theorem callF_name {P : Program} {g lo : Nat} {q : Bool} {h : H} {fv : Value} {args xs : List Value} {k : Value → H → Prop} (f : ∀ hc, hc = h → CallF P g lo q hc fv args xs k) : CallF P g lo q h fv args xs k := f h rfl
theorem rg_eqc (x y : Rg) : EqC Tryz.prog 2 36 true x.cells y.cells (x.lo == y.lo && (x.hi == y.hi && true)) := by
  refine EqC.struct (fs := ?fs) ?ht ?hs ?h
  case ht => exact Tryz.underlying36
  case hs => kernel_rfl
  refine EqFs.cons (agg := false) (x := [.int .i64 x.lo]) (y := [.int .i64 y.lo]) (by decide) (PartOf.one' rfl rfl) (PartOf.one' rfl rfl) (EqC.int rfl) ?_
  exact EqFs.cons (agg := false) (x := [.int .i64 x.hi]) (y := [.int .i64 y.hi]) (by decide) (PartOf.one' rfl rfl) (PartOf.one' rfl rfl) (EqC.int rfl) EqFs.nil
theorem eql_rg (x : Rg) : pureRun Tryz.prog (Op.equalIn Op.maxDepth 36 (.agg ⟨x.cells⟩) (.agg ⟨x.cells⟩)) = some true := by
  have := (rg_eqc x x).run 2 Op.maxDepth (by decide)
  simpa [asVal] using this
end AE.Tryz
