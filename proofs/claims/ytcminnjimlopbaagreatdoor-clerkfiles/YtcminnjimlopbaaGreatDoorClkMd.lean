/- Clerk, walked: claim. -/
import Derived.Test.YtcminnjimlopbaaGreatDoorJoin33
import Derived.Test.YtcminnjimlopbaaGreatDoorClkRe
set_option linter.unusedVariables false
set_option linter.unusedSimpArgs false
set_option linter.unusedSectionVars false
namespace AE.Tryz
open Go AE Go.Proofs AE.Clerk
set_option maxRecDepth 100000
set_option linter.unusedVariables false

theorem getG_cons {e : EG Int} {l : List (EG Int)} {a : Int} : getG (e :: l) a = if e.k = a then some e.v else getG l a := by
 unfold getG
 rw [List.find?_cons]
 by_cases h : e.k = a
 ·simp [h]
 ·have : (e.k == a) = false := by rw [beq_eq_false_iff_ne]; exact h
  rw [this, if_neg h]
def runAt (rs : List Rn) (a : Int) : Option Nat := rs.findIdx? fun r => decide ((r.at_ : Int) = a)
theorem runAt_cons {r : Rn} {rs : List Rn} {a : Int} : runAt (r :: rs) a = if (r.at_ : Int) = a then some 0 else (runAt rs a).map (· + 1) := by
 unfold runAt
 rw [List.findIdx?_cons]
 by_cases h : (r.at_ : Int) = a
 ·simp [h]
 ·simp [h]
theorem cost_none {a : Int} : ∀ {rs : List Rn} {i : Nat}, runAt rs a = none → getG (costE rs i) a = none
 | [], i, _ => rfl
 | r :: rs, i, h => by
   rw [runAt_cons] at h
   split at h
   ·simp at h
   ·rename_i h1
    have ih := cost_none (i := i + 1) (show runAt rs a = none by simpa using h)
    unfold costE
    split
    ·exact ih
    ·simp only [getG_cons, if_neg h1]
     exact ih
theorem own_some {a : Int} : ∀ {rs : List Rn} {i j : Nat} {r : Rn}, runAt rs a = some j → rs[j]? = some r → getG (ownE rs i) a = some (.int .i64 r.no)
 | [], i, j, r, h, _ => by simp [runAt] at h
 | y :: rs, i, j, r, h, hr => by
   rw [runAt_cons] at h
   split at h
   ·rename_i h1
    simp only [Option.some.injEq] at h
    subst h
    simp only [List.getElem?_cons_zero, Option.some.injEq] at hr
    subst hr
    simp only [ownE, getG_cons, if_pos h1]
   ·rename_i h1
    obtain ⟨j', hj, rfl⟩ := Option.map_eq_some_iff.1 h
    simp only [ownE, getG_cons, if_neg h1]
    exact own_some hj (by simpa using hr)
theorem run_notin {a : Nat} : ∀ {rs : List Rn}, a ∉ rs.map Rn.at_ → runAt rs (a : Int) = none
 | [], _ => rfl
 | y :: rs, h => by
   simp only [List.map_cons, List.mem_cons, not_or] at h
   rw [runAt_cons, if_neg byO, run_notin h.2]
   rfl
theorem cost_some {a : Int} : ∀ {rs : List Rn} {i j : Nat} {r : Rn}, (rs.map Rn.at_).Nodup → runAt rs a = some j → rs[j]? = some r → getG (costE rs i) a = if r.back then none else some (.int .i64 r.cost)
 | [], i, j, r, _, h, _ => by simp [runAt] at h
 | y :: rs, i, j, r, hn, h, hr => by
   simp only [List.map_cons, List.nodup_cons] at hn
   rw [runAt_cons] at h
   split at h
   ·rename_i h1
    simp only [Option.some.injEq] at h
    subst h
    simp only [List.getElem?_cons_zero, Option.some.injEq] at hr
    subst hr
    unfold costE
    split
    ·subst h1
     exact cost_none (run_notin hn.1)
    ·simp only [getG_cons, if_pos h1]
   ·rename_i h1
    obtain ⟨j', hj, rfl⟩ := Option.map_eq_some_iff.1 h
    have ih := cost_some (i := i + 1) hn.2 hj (show rs[j']? = some r by simpa using hr)
    unfold costE
    split
    ·exact ih
    ·simp only [getG_cons, if_neg h1]
     exact ih
theorem ownE_set : ∀ {rs : List Rn} {i j : Nat} {r : Rn}, rs[j]? = some r → ownE (rs.set j { r with back := true }) i = ownE rs i
 | [], _, _, _, h => by simp at h
 | y :: rs, i, 0, r, h => by
   simp only [List.getElem?_cons_zero, Option.some.injEq] at h
   subst h
   rfl
 | y :: rs, i, j + 1, r, h => by
   simp only [List.set_cons_succ, ownE]
   rw [ownE_set (show rs[j]? = some r by simpa using h)]
theorem cost_filter_off {a : Nat} : ∀ {rs : List Rn} {i : Nat}, a ∉ rs.map Rn.at_ → (costE rs i).filter (fun y => !(y.k == (a : Int))) = costE rs i := by
 intro rs i h
 rw [List.filter_eq_self]
 intro e he
 obtain ⟨⟨r, hr, e1⟩, -⟩ := costE_mem he
 have : e.k ≠ (a : Int) := fun e2 => h (List.mem_map.2 ⟨r, hr, by omega⟩)
 simp [this]
theorem cost_filter {a : Int} : ∀ {rs : List Rn} {i j : Nat} {r : Rn}, (rs.map Rn.at_).Nodup → runAt rs a = some j → rs[j]? = some r → (costE rs i).filter (fun y => !(y.k == a)) = costE (rs.set j { r with back := true }) i
 | [], i, j, r, _, h, _ => by simp [runAt] at h
 | y :: rs, i, j, r, hn, h, hr => by
   simp only [List.map_cons, List.nodup_cons] at hn
   rw [runAt_cons] at h
   split at h
   ·rename_i h1
    simp only [Option.some.injEq] at h
    subst h
    simp only [List.getElem?_cons_zero, Option.some.injEq] at hr
    subst hr
    subst h1
    simp only [List.set_cons_zero, costE]
    split
    ·simp only [if_true]
     exact cost_filter_off hn.1
    ·simp only [if_true, List.filter_cons, beq_self_eq_true, Bool.not_true, Bool.false_eq_true, if_false]
     exact cost_filter_off hn.1
   ·rename_i h1
    obtain ⟨j', hj, rfl⟩ := Option.map_eq_some_iff.1 h
    have ih := cost_filter (i := i + 1) hn.2 hj (show rs[j']? = some r by simpa using hr)
    simp only [List.set_cons_succ, costE]
    split
    ·exact ih
    ·have : (((y.at_ : Nat) : Int) == a) = false := by rw [beq_eq_false_iff_ne]; exact h1
     simp only [List.filter_cons, this, Bool.not_false, if_true, ih]
theorem costE_nodup : ∀ {rs : List Rn} {i : Nat}, (rs.map Rn.at_).Nodup → ((costE rs i).map EG.k).Nodup
 | [], _, _ => by simp [costE]
 | y :: rs, i, hn => by
   simp only [List.map_cons, List.nodup_cons] at hn
   unfold costE
   split
   ·exact costE_nodup hn.2
   ·simp only [List.map_cons, List.nodup_cons]
    refine ⟨fun h => ?_, costE_nodup hn.2⟩
    obtain ⟨e, he, hk⟩ := List.mem_map.1 h
    obtain ⟨⟨r, hr, e1⟩, -⟩ := costE_mem he
    exact hn.1 (List.mem_map.2 ⟨r, hr, by omega⟩)
theorem claim_w {L : LP} {h : H} {ps : Nat → Nat} {s : St} {t lo at_ p i : Nat} {m : Mdl} {x : Ln} (a : At1 L h ps s t lo p i m) (hx : x.k = 7) (hxa : 0 ≤ x.a ∧ x.a ≤ 59) :
 AW Tryz.prog 100 lo h [ptrV L.g, ptrV p, .agg ⟨x.cells⟩, .int .i64 at_] (fun v h' => ActR L h (act x at_ s i m).1 (act x at_ s i m).2 v h') := by
 have k := a.k
 obtain ⟨o1, o2, o3, o4, o5⟩ := k.ord
 obtain ⟨p1, p2, kp⟩ := a.row
 have hlo := a.lo
 have kg := k.g
 have kc : h.get L.g2 = some (.map ((costE s.rs 0).map (EG.ent fun k : Int => Value.int .i64 k)) s.rs.length) := k.c
 have ko : h.get L.g3 = some (.map ((ownE s.rs 0).map (EG.ent fun k : Int => Value.int .i64 k)) s.rs.length) := k.o
 have b3 := a.mok
 have ht := a.t60
 obtain ⟨w1, w2, w3, w4, w5, w6, w7, w8, w9⟩ := b3
 refine fun100.call rfl byO ?_
 unfold a100 Ln.cells ptrV
 unfold mCells at kp
 have eact : act x at_ s i m = match runAt s.rs x.a with
  | none => (s, 23)
  | some j => match s.rs[j]? with
    | none => (s, 23)
    | some r => if r.cost = 0 ∨ r.back = true ∨ r.no ≠ x.m then (s, 23) else (⟨s.stock, s.lost, s.ms.set i { m with claimed := m.claimed + r.cost }, s.rs.set j { r with back := true }⟩, 0) := by
  unfold act
  rw [if_neg byO, if_neg byO, if_neg byO, if_neg byO, if_neg byO]
  rfl
 (refine byRun ?_)
 apply q_look2 (r := L.g2) (es := costE s.rs 0) (c := s.rs.length) (k := x.a) (KeyT.i64 Tryz.underlying3)
 focus exact rfl
 focus exact rfl
 focus (exact byGet)
 cases hj : runAt s.rs x.a with
 | none =>
   rw [cost_none hj]
   rw [show act x at_ s i m = (s, 23) by rw [eact, hj]]
   (refine byRun ?_)
   (refine byFin ?_)
   ((dsimp only; exact ⟨⟨_, (a).k.same (fun q hq => get_of fun y hy => byGet) byOm⟩, (.inr (.inr (.inr ⟨by decide, by decide, by decide, by decide, by decide, rfl⟩))), fun q h1 h2 => get_of fun y hy => byGet, byOm⟩))
 | some j =>
   obtain ⟨r, hr⟩ : ∃ r, s.rs[j]? = some r := by
    have := (List.findIdx?_eq_some_iff_getElem.1 hj).1
    exact ⟨_, List.getElem?_eq_getElem this⟩
   rw [hj] at eact
   simp only [hr] at eact
   have hrk := a.ok.rs r (List.mem_of_getElem? hr)
   rw [cost_some a.ok.rn hj hr]
   by_cases hb : r.back = true
   ·rw [if_pos hb]
    rw [show act x at_ s i m = (s, 23) by rw [eact, if_pos (.inr (.inl hb))]]
    (refine byRun ?_)
    (refine byFin ?_)
    ((dsimp only; exact ⟨⟨_, (a).k.same (fun q hq => get_of fun y hy => byGet) byOm⟩, (.inr (.inr (.inr ⟨by decide, by decide, by decide, by decide, by decide, rfl⟩))), fun q h1 h2 => get_of fun y hy => byGet, byOm⟩))
   rw [if_neg hb]
   by_cases hc : r.cost = 0
   ·rw [show act x at_ s i m = (s, 23) by rw [eact, if_pos (.inl hc)]]
    rw [hc]
    (refine byRun ?_)
    (refine byFin ?_)
    ((dsimp only; exact ⟨⟨_, (a).k.same (fun q hq => get_of fun y hy => byGet) byOm⟩, (.inr (.inr (.inr ⟨by decide, by decide, by decide, by decide, by decide, rfl⟩))), fun q h1 h2 => get_of fun y hy => byGet, byOm⟩))
   simp only [Option.getD_some, Option.isSome_some]
   (refine byRun ?_)
   apply q_look (r := L.g3) (es := ownE s.rs 0) (c := s.rs.length) (k := x.a) (KeyT.i64 Tryz.underlying3)
   focus exact rfl
   focus exact rfl
   focus (exact byGet)
   rw [own_some hj hr]
   simp only [Option.getD_some]
   by_cases hno : r.no = x.m
   ·rw [show act x at_ s i m = (⟨s.stock, s.lost, s.ms.set i { m with claimed := m.claimed + r.cost }, s.rs.set j { r with back := true }⟩, 0) by rw [eact, if_neg (fun h => h.elim hc fun h => h.elim hb fun h => h hno)]]
    (refine byRun ?_)
    refine OpE.mk (deleteG (r := L.g2) (es := costE s.rs 0) (c := s.rs.length) (k := x.a) (KeyT.i64 Tryz.underlying3) rfl rfl byO byGet (costE_nodup a.ok.rn)) ?_
    rw [cost_some a.ok.rn hj hr, if_neg hb, cost_filter a.ok.rn hj hr]
    simp only [Option.isSome_some, if_true]
    (refine byRun ?_)
    (refine byFin ?_)
    try dsimp only
    refine ⟨⟨_, a.k.step a.hm (by rfl) rfl byGet byGo ?_ ?_ (by rw [← a.hp]; (try dsimp only [mCells]); (exact byGet)) (fun q h1 h2 h3 => by rw [← a.hp] at h3; exact get_of fun y hy => byGet) byOm⟩, .inl ⟨rfl, rfl⟩, fun q h1 h2 => get_of fun y hy => byGet, byOm⟩
    ·try dsimp only
     rw [List.length_set]
     unfold entI
     (exact byGet)
    ·try dsimp only
     rw [List.length_set, ownE_set hr]
     exact Eq.trans byGo ko
   ·rw [show act x at_ s i m = (s, 23) by rw [eact, if_pos (.inr (.inr hno))]]
    (refine byRun ?_)
    (refine byFin ?_)
    ((dsimp only; exact ⟨⟨_, (a).k.same (fun q hq => get_of fun y hy => byGet) byOm⟩, (.inr (.inr (.inr ⟨by decide, by decide, by decide, by decide, by decide, rfl⟩))), fun q h1 h2 => get_of fun y hy => byGet, byOm⟩))
end AE.Tryz
