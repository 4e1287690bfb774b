/- Walks and plain laws: ClkMa, ClkMb, ClkMc. -/
import Derived.Test.YtcminnjimlopbaaGreatDoorJoin40
set_option linter.unusedVariables false
set_option linter.unusedSimpArgs false
set_option linter.unusedSectionVars false

/- Clerk, walked: the ledger's methods. -/
namespace AE.Tryz
open Go AE Go.Proofs AE.Clerk
set_option maxRecDepth 100000
set_option linter.unusedVariables false

theorem buy_w {L : LP} {h : H} {ps : Nat → Nat} {s : St} {t lo at_ : Nat} {x : Ln} {mv : Value} (k : Lg L h ps s) (hlo : lo ≤ L.g1) (ok : s.Ok t) (ht : t ≤ 60) (hv : 1 ≤ x.a ∧ x.a ≤ 1000000) :
 AW Tryz.prog 93 lo h [ptrV L.g, mv, .agg ⟨x.cells⟩, .int .i64 at_] (fun v h' => ActR L h ⟨s.stock + x.a, s.lost, s.ms, s.rs⟩ 0 v h') := by
 obtain ⟨o1, o2, o3, o4, o5⟩ := k.ord
 have kg := k.g
 have b1 := ok.stock
 refine fun93.call rfl byO ?_
 unfold a93 Ln.cells ptrV
 (refine byRun ?_)
 (refine byFin ?_)
 exact ⟨⟨ps, k.step0 rfl byGet byGo ((get_of fun y hy => by (exact byGet) : _ = h.get L.g2).trans k.c) ((get_of fun y hy => by (exact byGet) : _ = h.get L.g3).trans k.o) (fun q h1 h2 => get_of fun y hy => byGet) byOm⟩, .inl ⟨rfl, rfl⟩, fun q h1 h2 => get_of fun y hy => byGet, byOm⟩
structure At1 (L : LP) (h : H) (ps : Nat → Nat) (s : St) (t lo p i : Nat) (m : Mdl) : Prop where
 k : Lg L h ps s
 lo : lo ≤ L.g1
 ok : s.Ok t
 t60 : t ≤ 60
 hm : s.ms[i]? = some m
 hp : p = ps i
theorem At1.row {L : LP} {h : H} {ps : Nat → Nat} {s : St} {t lo p i : Nat} {m : Mdl} (a : At1 L h ps s t lo p i m) : L.B ≤ p ∧ p < h.next ∧ h.get p = some (.cells (mCells m) 85) := by
 have := a.k.pb i (List.getElem?_eq_some_iff.1 a.hm).1
 rw [a.hp]
 exact ⟨this.1, this.2, a.k.p i m a.hm⟩
theorem At1.mok {L : LP} {h : H} {ps : Nat → Nat} {s : St} {t lo p i : Nat} {m : Mdl} (a : At1 L h ps s t lo p i m) : m.Ok t := a.ok.ms m (act_no a.hm)
theorem cut_w {L : LP} {h : H} {ps : Nat → Nat} {s : St} {t lo at_ p i : Nat} {m : Mdl} {x : Ln} (a : At1 L h ps s t lo p i m) (hx : x.k = 2) :
 AW Tryz.prog 95 lo h [ptrV L.g, ptrV p, .agg ⟨x.cells⟩, .int .i64 at_] (fun v h' => ActR L h (act x at_ s i m).1 (act x at_ s i m).2 v h') := by
 have k := a.k
 obtain ⟨o1, o2, o3, o4, o5⟩ := k.ord
 obtain ⟨p1, p2, kp⟩ := a.row
 have hlo := a.lo
 have kg := k.g
 have b1 := a.ok.stock
 have b2 := a.ok.lost
 have b3 := a.mok
 have ht := a.t60
 obtain ⟨w1, w2, w3, w4, w5, w6, w7, w8, w9⟩ := b3
 refine fun95.call rfl byO ?_
 unfold a95 Ln.cells ptrV
 unfold mCells at kp
 by_cases h1 : m.stage = 0
 ·by_cases h2 : 0 ≤ s.stock - m.wax - m.loss
  ·rw [show act x at_ s i m = (⟨s.stock - (m.wax + m.loss), s.lost + m.loss, s.ms.set i { m with stage := 1 }, s.rs⟩, 0) by unfold act; rw [if_pos hx, if_neg byO, if_neg byO]]
   (refine byRun ?_)
   (refine byFin ?_)
   ((dsimp only; exact ⟨⟨_, (a).k.step (a).hm (by rfl) rfl byGet byGo (Eq.trans byGo (a).k.c) (Eq.trans byGo (a).k.o) (by rw [← (a).hp]; (try dsimp only [mCells]); (exact byGet)) (fun q h1 h2 h3 => by rw [← (a).hp] at h3; exact get_of fun y hy => byGet) byOm⟩, .inl ⟨rfl, rfl⟩, fun q h1 h2 => get_of fun y hy => byGet, byOm⟩))
  ·rw [show act x at_ s i m = (s, 10) by unfold act; rw [if_pos hx, if_neg byO, if_pos byO]]
   (refine byRun ?_)
   (refine byFin ?_)
   ((dsimp only; exact ⟨⟨_, (a).k.same (fun q hq => get_of fun y hy => byGet) byOm⟩, (.inr (.inr (.inl ⟨rfl, _, rfl⟩))), fun q h1 h2 => get_of fun y hy => byGet, byOm⟩))
 ·rw [show act x at_ s i m = (s, 9) by unfold act; rw [if_pos hx, if_pos h1]]
  (refine byRun ?_)
  (refine byFin ?_)
  ((dsimp only; exact ⟨⟨_, (a).k.same (fun q hq => get_of fun y hy => byGet) byOm⟩, (.inr (.inr (.inr ⟨by decide, by decide, by decide, by decide, by decide, rfl⟩))), fun q h1 h2 => get_of fun y hy => byGet, byOm⟩))
end AE.Tryz

/- Clerk, walked: melt, pay. -/
namespace AE.Tryz
open Go AE Go.Proofs AE.Clerk
set_option maxRecDepth 100000
set_option linter.unusedVariables false

theorem melt_w {L : LP} {h : H} {ps : Nat → Nat} {s : St} {t lo at_ p i : Nat} {m : Mdl} {x : Ln} (a : At1 L h ps s t lo p i m) (hx : x.k = 4) :
 AW Tryz.prog 97 lo h [ptrV L.g, ptrV p, .agg ⟨x.cells⟩, .int .i64 at_] (fun v h' => ActR L h (act x at_ s i m).1 (act x at_ s i m).2 v h') := by
 have k := a.k
 obtain ⟨o1, o2, o3, o4, o5⟩ := k.ord
 obtain ⟨p1, p2, kp⟩ := a.row
 have hlo := a.lo
 have kg := k.g
 have b1 := a.ok.stock
 have b2 := a.ok.lost
 have b3 := a.mok
 have ht := a.t60
 obtain ⟨w1, w2, w3, w4, w5, w6, w7, w8, w9⟩ := b3
 refine fun97.call rfl byO ?_
 unfold a97 Ln.cells ptrV
 unfold mCells at kp
 by_cases h1 : m.stage = 1
 ·rw [show act x at_ s i m = (⟨s.stock + m.wax, s.lost, s.ms.set i { m with stage := 2 }, s.rs⟩, 0) by unfold act; rw [if_neg byO, if_neg byO, if_pos hx, if_neg byO]]
  (refine byRun ?_)
  (refine byFin ?_)
  ((dsimp only; exact ⟨⟨_, (a).k.step (a).hm (by rfl) rfl byGet byGo (Eq.trans byGo (a).k.c) (Eq.trans byGo (a).k.o) (by rw [← (a).hp]; (try dsimp only [mCells]); (exact byGet)) (fun q h1 h2 h3 => by rw [← (a).hp] at h3; exact get_of fun y hy => byGet) byOm⟩, .inl ⟨rfl, rfl⟩, fun q h1 h2 => get_of fun y hy => byGet, byOm⟩))
 ·rw [show act x at_ s i m = (s, 9) by unfold act; rw [if_neg byO, if_neg byO, if_pos hx, if_pos h1]]
  (refine byRun ?_)
  (refine byFin ?_)
  ((dsimp only; exact ⟨⟨_, (a).k.same (fun q hq => get_of fun y hy => byGet) byOm⟩, (.inr (.inr (.inr ⟨by decide, by decide, by decide, by decide, by decide, rfl⟩))), fun q h1 h2 => get_of fun y hy => byGet, byOm⟩))
theorem owed_w {h : H} {p : Nat} {m : Mdl} {t : Int} (hm : m.Ok t) (ht : 0 ≤ t ∧ t ≤ 60) (kp : h.get p = some (.cells (mCells m) 85)) : AW Tryz.prog 114 h.next h [ptrV p] (fun v _ => v = .int .i64 (m.billed - m.claimed - m.paid)) := by
 obtain ⟨w1, w2, w3, w4, w5, w6, w7, w8, w9⟩ := hm
 refine fun114.call rfl (Nat.le_refl _) ?_
 unfold a114 ptrV
 unfold mCells at kp
 (refine byRun ?_)
 (refine byFin ?_)
 rfl
theorem pay_w {L : LP} {h : H} {ps : Nat → Nat} {s : St} {t lo at_ p i : Nat} {m : Mdl} {x : Ln} (a : At1 L h ps s t lo p i m) (hx : x.k = 6) (hxa : 1 ≤ x.a ∧ x.a ≤ 1000000000) :
 AW Tryz.prog 99 lo h [ptrV L.g, ptrV p, .agg ⟨x.cells⟩, .int .i64 at_] (fun v h' => ActR L h (act x at_ s i m).1 (act x at_ s i m).2 v h') := by
 have k := a.k
 obtain ⟨o1, o2, o3, o4, o5⟩ := k.ord
 obtain ⟨p1, p2, kp⟩ := a.row
 have hlo := a.lo
 have kg := k.g
 have b3 := a.mok
 have ht := a.t60
 have kpm := kp
 have b4 := b3
 obtain ⟨w1, w2, w3, w4, w5, w6, w7, w8, w9⟩ := b4
 refine fun99.call rfl byO ?_
 unfold a99 Ln.cells
 have ep : ptrV p = .pointer (some ⟨p, 0, none⟩) := rfl
 have eg : ptrV L.g = .pointer (some ⟨L.g, 0, none⟩) := rfl
 rw [ep, eg]
 unfold mCells at kp
 (refine byRun ?_)
 apply q_callv
 focus (exact byNext)
 focus (exact byLo)
 focus exact owed_w (p := p) b3 ⟨by omega, by omega⟩ byGet
 intro h2 q2 n2
 by_cases h1 : x.a ≤ m.billed - m.claimed - m.paid
 ·rw [show act x at_ s i m = (⟨s.stock, s.lost, s.ms.set i { m with paid := m.paid + x.a }, s.rs⟩, 0) by unfold act; rw [if_neg byO, if_neg byO, if_neg byO, if_neg byO, if_pos hx, if_neg byO]]
  (refine byRun ?_)
  (refine byFin ?_)
  ((dsimp only; exact ⟨⟨_, (a).k.step (a).hm (by rfl) rfl byGet byGo (Eq.trans byGo (a).k.c) (Eq.trans byGo (a).k.o) (by rw [← (a).hp]; (try dsimp only [mCells]); (exact byGet)) (fun q h1 h2 h3 => by rw [← (a).hp] at h3; exact get_of fun y hy => byGet) byOm⟩, .inl ⟨rfl, rfl⟩, fun q h1 h2 => get_of fun y hy => byGet, byOm⟩))
 ·rw [show act x at_ s i m = (s, 4) by unfold act; rw [if_neg byO, if_neg byO, if_neg byO, if_neg byO, if_pos hx, if_pos byO]]
  (refine byRun ?_)
  (refine byFin ?_)
  ((dsimp only; exact ⟨⟨_, (a).k.same (fun q hq => get_of fun y hy => byGet) byOm⟩, (.inr (.inr (.inr ⟨by decide, by decide, by decide, by decide, by decide, rfl⟩))), fun q h1 h2 => get_of fun y hy => byGet, byOm⟩))
end AE.Tryz

/- Clerk, walked: run. -/
namespace AE
open Go
section
variable {P : Program} {lo nid : Nat} {ts : Ts} {h : H} {K : Value → H → Prop} {kt : TypeId} {m x y : Opd} {es : List (EG Int)} {c r : Nat} {k : Int} {v z : Value}
theorem q_ment (hu : P.underlying kt = some (.int .i64)) (hm : ev ts m = .map (some r)) (hx : ev ts x = .int .i64 k) (hlo : lo ≤ r) (hg : h.get r = some (.map (es.map (EG.ent fun k : Int => Value.int .i64 k)) c)) (hn : ∀ e ∈ es, e.k ≠ k)
 (hr : K (.tuple #[z, .int .i64 c]) (h.put r (.map ((es ++ [(⟨k, z, c⟩ : EG Int)]).map (EG.ent fun k : Int => Value.int .i64 k)) (c + 1)))) : OpE P lo nid ts h (.mapent kt z m x) K := by
 have hk := KeyT.i64 (P := P) hu
 refine OpE.mk ?_ hr
 have hf : es.findIdx? (fun e => e.k == k) = none := by
  rw [List.findIdx?_eq_none_iff]
  intro e he
  rw [beq_eq_false_iff_ne]
  exact hn e he
 have hs : selfEq P kt (.int .i64 k) = true := by
  have : pureRun P (Op.equal kt (.int .i64 k) (.int .i64 k)) = some true := by
   have := eqInt hu (Op.maxDepth - 1) k k
   simp only [beq_self_eq_true] at this
   exact this
  simp [selfEq, strSelf, this]
 simp only [aop, hm, hx, xMapent, if_pos hlo, hg]
 rw [afindG hk, hf]
 simp [meOut, hs, EG.ent]
theorem q_ments (hm : ev ts m = .map (some r)) (hx : ev ts x = .int .i64 c) (hlo : lo ≤ r) {cc : Nat} {w : Value} (hg : h.get r = some (.map ((es ++ [(⟨k, z, c⟩ : EG Int)]).map (EG.ent fun k : Int => Value.int .i64 k)) cc)) (hn : ∀ e ∈ es, e.b ≠ c) (hy : ev ts y = w)
 (hr : K undef (h.put r (.map ((es ++ [(⟨k, w, c⟩ : EG Int)]).map (EG.ent fun k : Int => Value.int .i64 k)) cc))) : OpE P lo nid ts h (.entst m x y) K := by
 refine OpE.mk ?_ hr
 have hf : ((es ++ [(⟨k, z, c⟩ : EG Int)]).map (EG.ent fun k : Int => Value.int .i64 k)).findIdx? (fun e : MapEntry => ((e.born : Int) == (c : Int))) = some es.length := by
  rw [List.map_append, List.findIdx?_append]
  have : (es.map (EG.ent fun k : Int => Value.int .i64 k)).findIdx? (fun e : MapEntry => ((e.born : Int) == (c : Int))) = none := by
   rw [List.findIdx?_eq_none_iff]
   intro e he
   obtain ⟨e', he', rfl⟩ := List.mem_map.1 he
   rw [beq_eq_false_iff_ne]
   have := hn e' he'
   simp only [EG.ent]
   omega
  rw [this]
  simp [List.findIdx?_cons, EG.ent]
 simp only [aop, hm, hx, hy, xEntst, if_pos hlo, hg, hf, esOut]
 simp [EG.ent, List.set_append]
end
end AE
namespace AE.Tryz
open Go AE Go.Proofs AE.Clerk
set_option maxRecDepth 100000
set_option linter.unusedVariables false

theorem ownE_app (x : Rn) : ∀ (rs : List Rn) (i : Nat), ownE (rs ++ [x]) i = ownE rs i ++ [⟨(x.at_ : Nat), .int .i64 x.no, i + rs.length⟩]
 | [], i => rfl
 | r :: rs, i => by
   simp only [List.cons_append, ownE, ownE_app x rs (i + 1), List.length_cons]
   rw [show i + 1 + rs.length = i + (rs.length + 1) by omega]
theorem costE_app (x : Rn) (hx : x.back = false) : ∀ (rs : List Rn) (i : Nat), costE (rs ++ [x]) i = costE rs i ++ [⟨(x.at_ : Nat), .int .i64 x.cost, i + rs.length⟩]
 | [], i => by simp [costE, hx]
 | r :: rs, i => by
   simp only [List.cons_append, costE, costE_app x hx rs (i + 1), List.length_cons]
   rw [show i + 1 + rs.length = i + (rs.length + 1) by omega]
   split <;> simp
theorem ownE_mem {e : EG Int} : ∀ {rs : List Rn} {i : Nat}, e ∈ ownE rs i → (∃ r ∈ rs, e.k = (r.at_ : Nat)) ∧ e.b < i + rs.length
 | [], i, h => by simp [ownE] at h
 | r :: rs, i, h => by
   rcases List.mem_cons.1 h with rfl | h
   ·exact ⟨⟨r, by simp, rfl⟩, by simp⟩
   ·obtain ⟨⟨r', hr, e1⟩, e2⟩ := ownE_mem h
    exact ⟨⟨r', by simp [hr], e1⟩, by simp only [List.length_cons]; omega⟩
theorem costE_mem {e : EG Int} : ∀ {rs : List Rn} {i : Nat}, e ∈ costE rs i → (∃ r ∈ rs, e.k = (r.at_ : Nat)) ∧ e.b < i + rs.length
 | [], i, h => by simp [costE] at h
 | r :: rs, i, h => by
   unfold costE at h
   split at h
   ·obtain ⟨⟨r', hr, e1⟩, e2⟩ := costE_mem h
    exact ⟨⟨r', by simp [hr], e1⟩, by simp only [List.length_cons]; omega⟩
   ·rcases List.mem_cons.1 h with rfl | h
    ·exact ⟨⟨r, by simp, rfl⟩, by simp⟩
    ·obtain ⟨⟨r', hr, e1⟩, e2⟩ := costE_mem h
     exact ⟨⟨r', by simp [hr], e1⟩, by simp only [List.length_cons]; omega⟩
theorem run_w {L : LP} {h : H} {ps : Nat → Nat} {s : St} {t lo p i : Nat} {m : Mdl} {x : Ln} (a : At1 L h ps s t lo p i m) (hx : x.k = 3) :
 AW Tryz.prog 96 lo h [ptrV L.g, ptrV p, .agg ⟨x.cells⟩, .int .i64 t] (fun v h' => ActR L h (act x t s i m).1 (act x t s i m).2 v h') := by
 have k := a.k
 obtain ⟨o1, o2, o3, o4, o5⟩ := k.ord
 obtain ⟨p1, p2, kp⟩ := a.row
 have hlo := a.lo
 have kg := k.g
 have kc : h.get L.g2 = some (.map ((costE s.rs 0).map (EG.ent fun k : Int => Value.int .i64 k)) s.rs.length) := k.c
 have ko : h.get L.g3 = some (.map ((ownE s.rs 0).map (EG.ent fun k : Int => Value.int .i64 k)) s.rs.length) := k.o
 have b3 := a.mok
 have ht := a.t60
 obtain ⟨w1, w2, w3, w4, w5, w6, w7, w8, w9⟩ := b3
 refine fun96.call rfl byO ?_
 unfold a96 Ln.cells ptrV
 unfold mCells at kp
 by_cases h1 : m.stage = 1
 ·rw [show act x t s i m = (⟨s.stock, s.lost, s.ms.set i { m with runs := m.runs + 1, opn := m.opn + 1 }, s.rs ++ [⟨t, x.m, 0, false⟩]⟩, 0) by unfold act; rw [if_neg byO, if_pos hx, if_neg byO]]
  (refine byRun ?_)
  apply q_ment (r := L.g2) (es := costE s.rs 0) (c := s.rs.length) (k := (t : Int))
  focus exact Tryz.underlying3
  focus exact rfl
  focus exact rfl
  focus omega
  focus (exact byGet)
  focus
   intro e he
   obtain ⟨⟨r, hr, e1⟩, -⟩ := costE_mem he
   have := (a.ok.rs r hr).1
   omega
  (refine byRun ?_)
  apply q_ments (r := L.g2) (es := costE s.rs 0) (c := s.rs.length) (k := (t : Int)) (w := .int .i64 0)
  case hm => exact rfl
  case hx => exact rfl
  case hlo => omega
  case hg => (exact byGet)
  case hn => exact fun e he => by have := (costE_mem he).2; omega
  case hy => exact rfl
  (refine byRun ?_)
  apply q_ment (r := L.g3) (es := ownE s.rs 0) (c := s.rs.length) (k := (t : Int))
  focus exact Tryz.underlying3
  focus exact rfl
  focus exact rfl
  focus omega
  focus (exact byGet)
  focus
   intro e he
   obtain ⟨⟨r, hr, e1⟩, -⟩ := ownE_mem he
   have := (a.ok.rs r hr).1
   omega
  (refine byRun ?_)
  apply q_ments (r := L.g3) (es := ownE s.rs 0) (c := s.rs.length) (k := (t : Int)) (w := .int .i64 x.m)
  case hm => exact rfl
  case hx => exact rfl
  case hlo => omega
  case hg => (exact byGet)
  case hn => exact fun e he => by have := (ownE_mem he).2; omega
  case hy => exact rfl
  (refine byRun ?_)
  (refine byFin ?_)
  dsimp only
  refine ⟨⟨_, a.k.step a.hm (by rfl) rfl byGet byGo ?_ ?_ (by rw [← a.hp]; (try dsimp only [mCells]); (exact byGet)) (fun q h1 h2 h3 => by rw [← a.hp] at h3; exact get_of fun y hy => byGet) byOm⟩, .inl ⟨rfl, rfl⟩, fun q h1 h2 => get_of fun y hy => byGet, byOm⟩
  ·dsimp only
   rw [costE_app _ rfl, Nat.zero_add, List.length_append]
   unfold entI
   (exact byGet)
  ·dsimp only
   rw [ownE_app, Nat.zero_add, List.length_append]
   unfold entI
   (exact byGet)
 ·rw [show act x t s i m = (s, 9) by unfold act; rw [if_neg byO, if_pos hx, if_pos h1]]
  (refine byRun ?_)
  (refine byFin ?_)
  ((dsimp only; exact ⟨⟨_, (a).k.same (fun q hq => get_of fun y hy => byGet) byOm⟩, (.inr (.inr (.inr ⟨by decide, by decide, by decide, by decide, by decide, rfl⟩))), fun q h1 h2 => get_of fun y hy => byGet, byOm⟩))
end AE.Tryz
