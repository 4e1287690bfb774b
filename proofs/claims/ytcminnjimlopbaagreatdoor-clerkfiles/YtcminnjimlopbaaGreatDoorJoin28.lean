/- Walks and plain laws: ClkMg, ClkMh. -/
import Derived.Test.YtcminnjimlopbaaGreatDoorClkMf
set_option linter.unusedVariables false
set_option linter.unusedSimpArgs false
set_option linter.unusedSectionVars false

/- Clerk, walked: draw, do. -/
namespace AE.Tryz
open Go AE Go.Proofs AE.Clerk
set_option maxRecDepth 100000
set_option linter.unusedVariables false

def mdlAt (ms : List Mdl) (n : Int) : Option Nat := ms.findIdx? fun m => decide (m.no = n)
theorem mdlAt_cons {m : Mdl} {ms : List Mdl} {n : Int} : mdlAt (m :: ms) n = if m.no = n then some 0 else (mdlAt ms n).map (· + 1) := by
 unfold mdlAt
 rw [List.findIdx?_cons]
 by_cases h : m.no = n
 ·simp [h]
 ·simp [h]
theorem mod_get {ps : Nat → Nat} {n : Int} : ∀ {ms : List Mdl} {i : Nat}, getG (modE ps ms i) n = (mdlAt ms n).map fun j => ptrV (ps (i + j))
 | [], _ => rfl
 | m :: ms, i => by
   rw [mdlAt_cons]
   simp only [modE, getG_cons]
   split
   ·rfl
   ·rw [mod_get (ms := ms) (i := i + 1)]
    cases mdlAt ms n with
    | none => rfl
    | some j => simp only [Option.map_some]; rw [show i + 1 + j = i + (j + 1) by omega]
theorem mod_keys {ps : Nat → Nat} : ∀ {ms : List Mdl} {i : Nat}, (modE ps ms i).map EG.k = ms.map Mdl.no
 | [], _ => rfl
 | m :: ms, i => by simp [modE, mod_keys (ms := ms) (i := i + 1)]
theorem modE_ps {ps qs : Nat → Nat} : ∀ {ms : List Mdl} {i : Nat}, (∀ j, i ≤ j → j < i + ms.length → ps j = qs j) → modE ps ms i = modE qs ms i
 | [], _, _ => rfl
 | m :: ms, i, h => by
   simp only [modE]
   rw [h i (Nat.le_refl _) (by simp), modE_ps (ms := ms) (i := i + 1) fun j h1 h2 => h j byO (by simp only [List.length_cons]; omega)]
theorem modE_app {ps : Nat → Nat} {m : Mdl} : ∀ {ms : List Mdl} {i : Nat}, modE ps (ms ++ [m]) i = modE ps ms i ++ [⟨m.no, ptrV (ps (i + ms.length)), i + ms.length⟩]
 | [], _ => rfl
 | y :: ms, i => by
   simp only [List.cons_append, modE, modE_app (ms := ms) (i := i + 1), List.length_cons]
   rw [show i + 1 + ms.length = i + (ms.length + 1) by omega]
theorem mod_any {ps : Nat → Nat} {n : Int} {ms : List Mdl} {i : Nat} (h : mdlAt ms n = none) : (modE ps ms i).any (fun e => e.k == n) = false := by
 rw [any_idx]
 have := mod_get (ps := ps) (n := n) (ms := ms) (i := i)
 rw [h] at this
 rw [getG_idx] at this
 cases hf : (modE ps ms i).findIdx? (fun e => e.k == n) with
 | none => rfl
 | some j =>
   obtain ⟨hi, -, -⟩ := List.findIdx?_eq_some_iff_getElem.1 hf
   rw [hf] at this
   simp [List.getElem?_eq_getElem hi] at this
theorem Lg.more {L : LP} {h h' : H} {ps : Nat → Nat} {s : St} (k : Lg L h ps s) {m : Mdl} {nb : Nat}
 (hg : h'.get L.g = h.get L.g) (h1 : h'.get L.g1 = some (.map (entI (modE ps s.ms 0 ++ [⟨m.no, ptrV nb, s.ms.length⟩])) (s.ms.length + 1))) (hc : h'.get L.g2 = h.get L.g2) (ho : h'.get L.g3 = h.get L.g3) (hp : h'.get nb = some (.cells (mCells m) 85))
 (hq : ∀ q, L.B ≤ q → q < h.next → h'.get q = h.get q) (hn : h.next ≤ nb ∧ nb < h'.next) : Lg L h' (fun i => if i = s.ms.length then nb else ps i) ⟨s.stock, s.lost, s.ms ++ [m], s.rs⟩ := by
 have o := k.ord
 refine ⟨hg.trans k.g, ?_, hc.trans k.c, ho.trans k.o, fun j y hy => ?_, fun j hj => ?_, fun i j hi hj e => ?_, by omega⟩
 ·rw [h1]
  dsimp only
  rw [List.length_append, modE_app, Nat.zero_add, if_pos rfl]
  congr 4
  exact modE_ps fun j h1 h2 => by rw [if_neg byO]
 ·dsimp only at hy ⊢
  rw [List.getElem?_append] at hy
  by_cases hj : j < s.ms.length
  ·rw [if_pos hj] at hy
   rw [if_neg byO]
   have := k.pb j hj
   rw [hq _ this.1 this.2]
   exact k.p j y hy
  ·rw [if_neg hj] at hy
   have : j = s.ms.length := by
    have := (List.getElem?_eq_some_iff.1 hy).1
    simp at this
    omega
   subst this
   simp at hy
   subst hy
   rw [if_pos rfl]
   exact hp
 ·dsimp only at hj ⊢
  rw [List.length_append] at hj
  simp only [List.length_cons, List.length_nil] at hj
  split
  ·omega
  ·have := k.pb j byO
   omega
 ·dsimp only at hi hj e
  rw [List.length_append] at hi hj
  simp only [List.length_cons, List.length_nil] at hi hj
  split at e <;> split at e
  ·omega
  ·have := k.pb j byO; omega
  ·have := k.pb i byO; omega
  ·exact k.pn i j byO byO e
theorem draw_have_w {L : LP} {h : H} {ps : Nat → Nat} {s : St} {lo at_ p : Nat} {x : Ln} (k : Lg L h ps s) (hlo : lo ≤ L.g1) :
 AW Tryz.prog 94 lo h [ptrV L.g, ptrV p, .agg ⟨x.cells⟩, .int .i64 at_] (fun v h' => ActR L h s 11 v h') := by
 obtain ⟨o1, o2, o3, o4, o5⟩ := k.ord
 refine fun94.call rfl byO ?_
 unfold a94 Ln.cells ptrV
 (refine byRun ?_)
 (refine byFin ?_)
 exact ⟨⟨_, k.same (fun q hq => get_of fun y hy => byGet) byOm⟩, (show RefP 11 _ from .inr (.inr (.inr ⟨by decide, by decide, by decide, by decide, by decide, rfl⟩))), fun q h1 h2 => get_of fun y hy => byGet, byOm⟩
theorem draw_new_w {L : LP} {h : H} {ps : Nat → Nat} {s : St} {lo at_ : Nat} {x : Ln} (k : Lg L h ps s) (hlo : lo ≤ L.g1) (hx : 1 ≤ x.a ∧ x.a ≤ 1000000 ∧ 0 ≤ x.b ∧ x.b ≤ 1000) (hno : mdlAt s.ms x.m = none) (hn : (s.ms.map Mdl.no).Nodup) :
 AW Tryz.prog 94 lo h [ptrV L.g, .pointer none, .agg ⟨x.cells⟩, .int .i64 at_] (fun v h' => ActR L h ⟨s.stock, s.lost, s.ms ++ [drawn x], s.rs⟩ 0 v h') := by
 obtain ⟨o1, o2, o3, o4, o5⟩ := k.ord
 have kg := k.g
 have km : h.get L.g1 = some (.map ((modE ps s.ms 0).map (EG.ent fun k : Int => Value.int .i64 k)) s.ms.length) := k.m
 have hmul : 0 ≤ x.a * x.b ∧ x.a * x.b ≤ 1000000000 := by
  have e1 := Int.mul_le_mul hx.2.1 hx.2.2.2 hx.2.2.1 byO
  have e2 := Int.mul_nonneg (show 0 ≤ x.a by omega) hx.2.2.1
  omega
 refine fun94.call rfl byO ?_
 unfold a94 Ln.cells ptrV
 (refine byRun ?_)
 apply q_mapup (r := L.g1) (es := modE ps s.ms 0) (c := s.ms.length) (k := x.m) (v := ptrV (h.next + 23)) (KeyT.i64 Tryz.underlying2)
 case hm => exact rfl
 case hx => exact rfl
 case hy => exact rfl
 case hlo => omega
 case hg => (exact byGet)
 case hn => rw [mod_keys]; exact hn
 have hp : ∀ v, putG (modE ps s.ms 0) x.m v s.ms.length = modE ps s.ms 0 ++ [⟨x.m, v, s.ms.length⟩] ∧ cntG (modE ps s.ms 0) x.m s.ms.length = s.ms.length + 1 := fun v => by
  unfold putG cntG
  rw [mod_any hno]
  exact ⟨rfl, rfl⟩
 rw [(hp _).1, (hp undef).2]
 (refine byRun ?_)
 (refine byFin ?_)
 refine ⟨⟨_, k.more (m := drawn x) (nb := h.next + 23) byGo ?_ byGo byGo ?_ (fun q h1 h2 => get_of fun y hy => byGet) ⟨by omega, byOm⟩⟩, .inl ⟨rfl, rfl⟩, fun q h1 h2 => get_of fun y hy => byGet, byOm⟩
 ·unfold entI drawn
  dsimp only
  (exact byGet)
 ·unfold mCells drawn
  dsimp only
  (exact byGet)
end AE.Tryz

/- Clerk, walked: do. -/
namespace AE.Tryz
open Go AE Go.Proofs AE.Clerk
set_option maxRecDepth 100000
set_option linter.unusedVariables false

theorem ActR.out {L : LP} {h h1 h2 h3 : H} {s' : St} {e : Int} {v : Value} (r : ActR L h1 s' e v h2) (hs : Same h.next h h1) (hB : L.B ≤ h.next) (h4 : h.next ≤ h1.next) (hs2 : Same h2.next h2 h3) (h5 : h2.next ≤ h3.next) : ActR L h s' e v h3 := by
 obtain ⟨⟨ps', k⟩, rp, fr, n⟩ := r
 exact ⟨⟨ps', k.same hs2 h5⟩, rp, fun q h1 h2 => ((hs2 q byO).trans (fr q h1 h2)).trans (hs q byO), by omega⟩
theorem valid_dis {x : Ln} (hv : x.Valid 1099511627776) : (x.k = 0 → x.m = 0 ∧ 1 ≤ x.a ∧ x.a ≤ 1000000) ∧ (x.k ≠ 0 → 1 ≤ x.m ∧ x.m ≤ 1099511627776) ∧ (x.k = 1 → 1 ≤ x.a ∧ x.a ≤ 1000000 ∧ 0 ≤ x.b ∧ x.b ≤ 1000) ∧ (x.k = 5 → 1 ≤ x.a ∧ x.a ≤ 1000000) ∧ (x.k = 6 → 1 ≤ x.a ∧ x.a ≤ 1000000000) ∧ (x.k = 7 → 0 ≤ x.a ∧ x.a ≤ 59) := by
 unfold Ln.Valid btw at hv; omega
theorem do_w {L : LP} {h : H} {ps : Nat → Nat} {s : St} {lo t : Nat} {x : Ln} (k : Lg L h ps s) (hlo : lo ≤ L.g1) (ok : s.Ok t) (ht : t ≤ 60) (hv : x.Valid 1099511627776) :
 AW Tryz.prog 73 lo h [ptrV L.g, .agg ⟨x.cells⟩, .int .i64 t] (fun v h' => ActR L h (Clerk.step x t s).1 (Clerk.step x t s).2 v h') := by
 obtain ⟨o1, o2, o3, o4, o5⟩ := k.ord
 have kg := k.g
 have km : h.get L.g1 = some (.map ((modE ps s.ms 0).map (EG.ent fun k : Int => Value.int .i64 k)) s.ms.length) := k.m
 have hkd := kind_bd hv
 have hd := valid_dis hv
 refine fun73.call rfl byO ?_
 obtain ⟨xk, xm, xa, xb⟩ := x
 unfold a73 Ln.cells ptrV
 dsimp only at hkd hd ⊢
 (refine byRun ?_)
 apply q_look (r := L.g1) (es := modE ps s.ms 0) (c := s.ms.length) (k := xm) (KeyT.i64 Tryz.underlying2)
 focus exact rfl
 focus exact rfl
 focus (exact byGet)
 rw [mod_get]
 cases hf : mdlAt s.ms xm with
 | none =>
   simp only [Option.map_none, Option.getD_none]
   have hfind : s.find xm = none := hf
   by_cases hk1 : 1 < xk
   ·rw [show Clerk.step ⟨xk, xm, xa, xb⟩ t s = (s, 5) by unfold Clerk.step; dsimp only; rw [if_neg byO, hfind]; dsimp only; rw [if_neg byO]]
    (refine byRun ?_)
    (refine byFin ?_)
    exact ⟨⟨_, k.same (fun q hq => get_of fun y hy => byGet) byOm⟩, (show RefP 5 _ from .inr (.inl ⟨rfl, rfl⟩)), fun q h1 h2 => get_of fun y hy => byGet, byOm⟩
   ·rcases (show xk = 0 ∨ xk = 1 by omega) with rfl | rfl
    ·rw [show Clerk.step ⟨0, xm, xa, xb⟩ t s = (⟨s.stock + xa, s.lost, s.ms, s.rs⟩, 0) by unfold Clerk.step; dsimp only; rw [if_pos rfl]]
     (focus ((try with_reducible apply wpC.to); (repeat' ((conv => whnf); first | refine byEv ?_ | (apply Fork.mk <;> (intro _; try (exfalso; omega))) | ((apply q_call); (focus exact byNext); (focus exact byLo); (focus (first | exact kClkE2 | exact kClkB0 | exact kClkC0)); first | ((apply q_allB) <;> (intro z_b _ _ _; first | exact Bool.noConfusion z_b | replace z_b := of_decide_eq_true z_b | replace z_b := of_decide_eq_false z_b | skip) <;> ((try (unfold btw at z_b)); first | contradiction | (revert z_b; intros))) | ((apply q_alli) <;> intro _ _ _ _ <;> try contradiction) | (apply q_allv; intro _ _ _)) | fail)); all_goals ((conv => whnf); try with_reducible apply At.mk)))
     apply q_callw
     focus exact buy_w (x := ⟨0, xm, xa, xb⟩) (k.same (fun q hq => get_of fun y hy => byGet) byOm) hlo ok ht (by dsimp only; omega)
     intro v h3 r3 q3
     (refine byRun ?_)
     (refine byFin ?_)
     exact r3.out (fun q hq => get_of fun y hy => byGet) byO byOm (fun q hq => get_of fun y hy => byGet) byOm
    ·rw [show Clerk.step ⟨1, xm, xa, xb⟩ t s = (⟨s.stock, s.lost, s.ms ++ [drawn ⟨1, xm, xa, xb⟩], s.rs⟩, 0) by unfold Clerk.step; dsimp only; rw [if_neg (by decide), hfind]; dsimp only; rw [if_pos rfl]]
     (focus ((try with_reducible apply wpC.to); (repeat' ((conv => whnf); first | refine byEv ?_ | (apply Fork.mk <;> (intro _; try (exfalso; omega))) | ((apply q_call); (focus exact byNext); (focus exact byLo); (focus (first | exact kClkE2 | exact kClkB0 | exact kClkC0)); first | ((apply q_allB) <;> (intro z_b _ _ _; first | exact Bool.noConfusion z_b | replace z_b := of_decide_eq_true z_b | replace z_b := of_decide_eq_false z_b | skip) <;> ((try (unfold btw at z_b)); first | contradiction | (revert z_b; intros))) | ((apply q_alli) <;> intro _ _ _ _ <;> try contradiction) | (apply q_allv; intro _ _ _)) | fail)); all_goals ((conv => whnf); try with_reducible apply At.mk)))
     apply q_callw
     focus exact draw_new_w (x := ⟨1, xm, xa, xb⟩) (k.same (fun q hq => get_of fun y hy => byGet) byOm) hlo (by dsimp only; omega) hf ok.mn
     intro v h3 r3 q3
     (refine byRun ?_)
     (refine byFin ?_)
     exact r3.out (fun q hq => get_of fun y hy => byGet) byO byOm (fun q hq => get_of fun y hy => byGet) byOm
 | some i =>
   simp only [Option.map_some, Option.getD_some, Nat.zero_add]
   have hfind : s.find xm = some i := hf
   obtain ⟨hi, hno, -⟩ := List.findIdx?_eq_some_iff_getElem.1 hf
   have hm : s.ms[i]? = some s.ms[i] := List.getElem?_eq_getElem hi
   generalize s.ms[i] = m at hm hno
   have hno : m.no = xm := by simpa using hno
   have hmo := (ok.ms m (List.mem_of_getElem? hm)).no
   have hk0 : xk ≠ 0 := by
    intro h0
    have := hd.1 h0
    omega
   unfold ptrV
   by_cases hk1 : xk = 1
   ·subst hk1
    rw [show Clerk.step ⟨1, xm, xa, xb⟩ t s = (s, 11) by unfold Clerk.step; dsimp only; rw [if_neg (by decide), hfind]; dsimp only; rw [hm]; dsimp only; rw [if_pos rfl]]
    (focus ((try with_reducible apply wpC.to); (repeat' ((conv => whnf); first | refine byEv ?_ | (apply Fork.mk <;> (intro _; try (exfalso; omega))) | ((apply q_call); (focus exact byNext); (focus exact byLo); (focus (first | exact kClkE2 | exact kClkB0 | exact kClkC0)); first | ((apply q_allB) <;> (intro z_b _ _ _; first | exact Bool.noConfusion z_b | replace z_b := of_decide_eq_true z_b | replace z_b := of_decide_eq_false z_b | skip) <;> ((try (unfold btw at z_b)); first | contradiction | (revert z_b; intros))) | ((apply q_alli) <;> intro _ _ _ _ <;> try contradiction) | (apply q_allv; intro _ _ _)) | fail)); all_goals ((conv => whnf); try with_reducible apply At.mk)))
    apply q_callw
    focus exact draw_have_w (x := ⟨1, xm, xa, xb⟩) (k.same (fun q hq => get_of fun y hy => byGet) byOm) hlo
    intro v h3 r3 q3
    (refine byRun ?_)
    (refine byFin ?_)
    exact r3.out (fun q hq => get_of fun y hy => byGet) byO byOm (fun q hq => get_of fun y hy => byGet) byOm
   rw [show Clerk.step ⟨xk, xm, xa, xb⟩ t s = act ⟨xk, xm, xa, xb⟩ t s i m by unfold Clerk.step; dsimp only; rw [if_neg hk0, hfind]; dsimp only; rw [hm]; dsimp only; rw [if_neg hk1]]
   have hA : ∀ {h1 : H}, Same h.next h h1 → h.next ≤ h1.next → At1 L h1 ps s t lo (ps i) i m := fun hs hn => ⟨k.same hs hn, hlo, ok, ht, hm, rfl⟩
   rcases (show xk = 2 ∨ xk = 3 ∨ xk = 4 ∨ xk = 5 ∨ xk = 6 ∨ xk = 7 by omega) with rfl | rfl | rfl | rfl | rfl | rfl
   ·(focus ((try with_reducible apply wpC.to); (repeat' ((conv => whnf); first | refine byEv ?_ | (apply Fork.mk <;> (intro _; try (exfalso; omega))) | ((apply q_call); (focus exact byNext); (focus exact byLo); (focus (first | exact kClkE2 | exact kClkB0 | exact kClkC0)); first | ((apply q_allB) <;> (intro z_b _ _ _; first | exact Bool.noConfusion z_b | replace z_b := of_decide_eq_true z_b | replace z_b := of_decide_eq_false z_b | skip) <;> ((try (unfold btw at z_b)); first | contradiction | (revert z_b; intros))) | ((apply q_alli) <;> intro _ _ _ _ <;> try contradiction) | (apply q_allv; intro _ _ _)) | fail)); all_goals ((conv => whnf); try with_reducible apply At.mk)))
    apply q_callw
    focus exact cut_w (x := ⟨2, xm, xa, xb⟩) (hA (fun q hq => get_of fun y hy => byGet) byOm) rfl
    intro v h3 r3 q3
    (refine byRun ?_)
    (refine byFin ?_)
    exact r3.out (fun q hq => get_of fun y hy => byGet) byO byOm (fun q hq => get_of fun y hy => byGet) byOm
   ·(focus ((try with_reducible apply wpC.to); (repeat' ((conv => whnf); first | refine byEv ?_ | (apply Fork.mk <;> (intro _; try (exfalso; omega))) | ((apply q_call); (focus exact byNext); (focus exact byLo); (focus (first | exact kClkE2 | exact kClkB0 | exact kClkC0)); first | ((apply q_allB) <;> (intro z_b _ _ _; first | exact Bool.noConfusion z_b | replace z_b := of_decide_eq_true z_b | replace z_b := of_decide_eq_false z_b | skip) <;> ((try (unfold btw at z_b)); first | contradiction | (revert z_b; intros))) | ((apply q_alli) <;> intro _ _ _ _ <;> try contradiction) | (apply q_allv; intro _ _ _)) | fail)); all_goals ((conv => whnf); try with_reducible apply At.mk)))
    apply q_callw
    focus exact run_w (x := ⟨3, xm, xa, xb⟩) (hA (fun q hq => get_of fun y hy => byGet) byOm) rfl
    intro v h3 r3 q3
    (refine byRun ?_)
    (refine byFin ?_)
    exact r3.out (fun q hq => get_of fun y hy => byGet) byO byOm (fun q hq => get_of fun y hy => byGet) byOm
   ·(focus ((try with_reducible apply wpC.to); (repeat' ((conv => whnf); first | refine byEv ?_ | (apply Fork.mk <;> (intro _; try (exfalso; omega))) | ((apply q_call); (focus exact byNext); (focus exact byLo); (focus (first | exact kClkE2 | exact kClkB0 | exact kClkC0)); first | ((apply q_allB) <;> (intro z_b _ _ _; first | exact Bool.noConfusion z_b | replace z_b := of_decide_eq_true z_b | replace z_b := of_decide_eq_false z_b | skip) <;> ((try (unfold btw at z_b)); first | contradiction | (revert z_b; intros))) | ((apply q_alli) <;> intro _ _ _ _ <;> try contradiction) | (apply q_allv; intro _ _ _)) | fail)); all_goals ((conv => whnf); try with_reducible apply At.mk)))
    apply q_callw
    focus exact melt_w (x := ⟨4, xm, xa, xb⟩) (hA (fun q hq => get_of fun y hy => byGet) byOm) rfl
    intro v h3 r3 q3
    (refine byRun ?_)
    (refine byFin ?_)
    exact r3.out (fun q hq => get_of fun y hy => byGet) byO byOm (fun q hq => get_of fun y hy => byGet) byOm
   ·(focus ((try with_reducible apply wpC.to); (repeat' ((conv => whnf); first | refine byEv ?_ | (apply Fork.mk <;> (intro _; try (exfalso; omega))) | ((apply q_call); (focus exact byNext); (focus exact byLo); (focus (first | exact kClkE2 | exact kClkB0 | exact kClkC0)); first | ((apply q_allB) <;> (intro z_b _ _ _; first | exact Bool.noConfusion z_b | replace z_b := of_decide_eq_true z_b | replace z_b := of_decide_eq_false z_b | skip) <;> ((try (unfold btw at z_b)); first | contradiction | (revert z_b; intros))) | ((apply q_alli) <;> intro _ _ _ _ <;> try contradiction) | (apply q_allv; intro _ _ _)) | fail)); all_goals ((conv => whnf); try with_reducible apply At.mk)))
    apply q_callw
    focus exact bill_w (x := ⟨5, xm, xa, xb⟩) (hA (fun q hq => get_of fun y hy => byGet) byOm) rfl (by dsimp only; omega) (by dsimp only; omega)
    intro v h3 r3 q3
    (refine byRun ?_)
    (refine byFin ?_)
    exact r3.out (fun q hq => get_of fun y hy => byGet) byO byOm (fun q hq => get_of fun y hy => byGet) byOm
   ·(focus ((try with_reducible apply wpC.to); (repeat' ((conv => whnf); first | refine byEv ?_ | (apply Fork.mk <;> (intro _; try (exfalso; omega))) | ((apply q_call); (focus exact byNext); (focus exact byLo); (focus (first | exact kClkE2 | exact kClkB0 | exact kClkC0)); first | ((apply q_allB) <;> (intro z_b _ _ _; first | exact Bool.noConfusion z_b | replace z_b := of_decide_eq_true z_b | replace z_b := of_decide_eq_false z_b | skip) <;> ((try (unfold btw at z_b)); first | contradiction | (revert z_b; intros))) | ((apply q_alli) <;> intro _ _ _ _ <;> try contradiction) | (apply q_allv; intro _ _ _)) | fail)); all_goals ((conv => whnf); try with_reducible apply At.mk)))
    apply q_callw
    focus exact pay_w (x := ⟨6, xm, xa, xb⟩) (hA (fun q hq => get_of fun y hy => byGet) byOm) rfl (by dsimp only; omega)
    intro v h3 r3 q3
    (refine byRun ?_)
    (refine byFin ?_)
    exact r3.out (fun q hq => get_of fun y hy => byGet) byO byOm (fun q hq => get_of fun y hy => byGet) byOm
   ·(focus ((try with_reducible apply wpC.to); (repeat' ((conv => whnf); first | refine byEv ?_ | (apply Fork.mk <;> (intro _; try (exfalso; omega))) | ((apply q_call); (focus exact byNext); (focus exact byLo); (focus (first | exact kClkE2 | exact kClkB0 | exact kClkC0)); first | ((apply q_allB) <;> (intro z_b _ _ _; first | exact Bool.noConfusion z_b | replace z_b := of_decide_eq_true z_b | replace z_b := of_decide_eq_false z_b | skip) <;> ((try (unfold btw at z_b)); first | contradiction | (revert z_b; intros))) | ((apply q_alli) <;> intro _ _ _ _ <;> try contradiction) | (apply q_allv; intro _ _ _)) | fail)); all_goals ((conv => whnf); try with_reducible apply At.mk)))
    apply q_callw
    focus exact claim_w (x := ⟨7, xm, xa, xb⟩) (hA (fun q hq => get_of fun y hy => byGet) byOm) rfl (by dsimp only; omega)
    intro v h3 r3 q3
    (refine byRun ?_)
    (refine byFin ?_)
    exact r3.out (fun q hq => get_of fun y hy => byGet) byO byOm (fun q hq => get_of fun y hy => byGet) byOm
end AE.Tryz
