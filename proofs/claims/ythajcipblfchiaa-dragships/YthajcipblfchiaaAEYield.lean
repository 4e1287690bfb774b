/- Ranges over functions: the statement, and a call of yield. -/
import Derived.Test.YthajcipblfchiaaAEScope
import Derived.Test.YthajcipblfchiaaAEReg
import Derived.RangeFuncIn
set_option linter.unusedVariables false
set_option linter.unusedSimpArgs false
set_option linter.unusedSectionVars false
namespace AE
open Go Go.RowKit

/-- The row of a loop that begins. -/
def loop0 (n : Nat) (ts : Ts) (ps : List Nat) (asg body : Code) : ALoop := ⟨.ready, .none, n, ts, ps, asg, body⟩
def H.enter (h : H) (L : ALoop) : H := (h.bump 1).put h.next (.loop L)
def pendE : Pend → Exit
  | .none => .normal
  | .ret => .ret
  | .exit id => .exit id

section
variable {P : Program} {n lo : Nat} {Q : Exit → Ts → H → Prop} {ts : Ts} {h : H}

/-- A world with a block more, that no row lies in. -/
theorem Rel.aside {I : Inj} {w : World} (k : Rel I h w) (o : Obj) : Rel I h (w.alloc o) :=
  ⟨fun r row hr d => (k.rows r row hr d).le (Le.refl I) (fun _ _ e => e) (fun _ ⟨_, _, hb⟩ => heap_alloc_old w o (k.size _ _ _ _ hb)), k.lt,
    fun r s b d e => by have := k.size _ _ _ _ e; simp; omega, by have := k.base; simp; omega, k.inj, k.clean⟩

theorem Quiet.put {lo : Nat} {h : H} {r : Nat} {row : ARow} (hr : lo ≤ r) (hn : r < h.next) : Quiet lo h (h.put r row) := by
  refine ⟨Nat.le_refl _, fun r' hr' => ?_, fun hc r' hr' => ?_⟩
  · simp only [H.put]; rw [if_neg (by omega)]
  · simp only [H.put] at hr' ⊢; rw [if_neg (by omega)]; exact hc r' hr'
theorem Quiet.bump {lo : Nat} {h : H} (k : Nat) : Quiet lo h (h.bump k) := ⟨by simp [H.bump], fun _ _ => rfl, fun hc r hr => hc r (by simp only [H.bump] at hr; omega)⟩
theorem Quiet.enter (hlo : lo ≤ h.next) (L : ALoop) : Quiet lo h (h.enter L) := (Quiet.bump 1).trans (Quiet.put hlo (by simp [H.bump]))

theorem size_setIfInBounds' {w : World} {l : Nat} {o : Obj} : ({ w with heap := w.heap.setIfInBounds l o } : World).heap.size = w.heap.size := by simp
theorem But.set (w : World) (l : Nat) (o : Obj) : But l w { w with heap := w.heap.setIfInBounds l o } :=
  ⟨rfl, rfl, rfl, by simp, fun j hj => by simp [Array.getElem?_setIfInBounds_ne (Ne.symm hj)]⟩

/-- The loop's row in a world. -/
theorem loop_row {J : Inj} {h' : H} {w : World} {r l : Nat} {L : ALoop} (k : Rel J h' w) (hg : h'.get r = some (.loop L)) (hat : J.at_ r none = some (l, 0)) :
    ∃ tmps db fn, J.base ≤ l ∧ TsRel J L.size L.tmps tmps ∧ w.heap[l]? = some (.loop { state := L.state, pending := pendCode L.pend, fn, tmps, params := ⟨L.params⟩, assign := L.asg, body := L.body, defers := db }) := by
  obtain ⟨b, tmps, db, fn, e1, e2, e3, e4⟩ := k.rows r _ hg ⟨none, _, hat⟩
  rw [hat] at e1
  simp only [Option.some.injEq, Prod.mk.injEq, and_true] at e1
  subst e1
  exact ⟨tmps, db, fn, e2, e3, e4⟩

/-- A turn of the loop's row. -/
theorem loop_set {J : Inj} {h' : H} {w : World} {r l : Nat} {L L' : ALoop} (k : Rel J h' w) (hg : h'.get r = some (.loop L)) (hat : J.at_ r none = some (l, 0)) (hlo : lo ≤ r) (hs : L'.size = L.size) (ht : L'.tmps = L.tmps) (hp : L'.params = L.params) (ha : L'.asg = L.asg) (hb : L'.body = L.body) :
    ∀ lp : Loop, w.heap[l]? = some (.loop lp) → Went J J lo h'.next (h'.put r (.loop L')) w { w with heap := w.heap.setIfInBounds l (.loop { lp with state := L'.state, pending := pendCode L'.pend }) } := by
  intro lp hlp
  obtain ⟨tmps, db, fn, e2, e3, e4⟩ := loop_row k hg hat
  rw [e4] at hlp
  simp only [Option.some.injEq, Obj.loop.injEq] at hlp
  subst hlp
  have hbut := But.set w l (.loop { state := L'.state, pending := pendCode L'.pend, fn := fn, tmps := tmps, params := ⟨L.params⟩, assign := L.asg, body := L.body, defers := db })
  refine ⟨Grows.refl J w, fun _ d => .inl d, fun _ _ _ _ e => e, k.store e2 ⟨_, hat⟩ hbut ?_, hbut.ext hlo hat e2⟩
  refine ⟨l, tmps, db, fn, hat, e2, by rw [hs, ht]; exact e3, ?_⟩
  have hsz := k.size _ _ _ _ hat
  simp only [hp, ha, hb]
  rw [Array.getElem?_setIfInBounds_self_of_lt hsz]

theorem pend_wp {ro : Option Nat} {p : Pend} {Q : Exit → Act → World → Prop} {a : Act} {w : World} (q : Q (pendE p) a w) :
    (match pendCode p with | none => Q .normal a w | some c => c.wpIn (WR ro) 0 P Q a w) := by
  cases p with
  | none => exact q
  | ret => exact wpIn_ret q
  | exit id => exact wpIn_exit q

/-- The statement. -/
theorem WT.range {f : Operand} {f' : Opd} {g : FuncId} {first capt : List Value} {ps : List Nat} {asg body : Code} {v : Value} {h' : H} {L : ALoop} (hf : cOpd f = some f') (hv : ev ts f' = .func (.func g) ⟨first⟩ ⟨capt⟩) (hlo : lo ≤ h.next)
    (ha : AF P g lo (h.enter (loop0 n ts ps asg body)) (first ++ [.func (.yield h.next) ⟨[]⟩ ⟨[]⟩] ++ capt) v h') (hL : h'.get h.next = some (.loop L)) (hs : L.state ≠ .busy) (q : Q (pendE L.pend) ts (h'.put h.next .gone)) :
    WT (TC true P (.rangeFunc f ⟨ps⟩ asg body)) n lo Q ts h := by
  have hq := (Quiet.enter hlo (loop0 n ts ps asg body)).trans ha.quiet
  have hnx : h.next < h'.next := Nat.lt_of_lt_of_le (by simp [H.enter, H.bump, H.put]) ha.quiet.next
  refine ⟨_, ts, _, q, hq.trans (Quiet.put hlo hnx), fun ro I w a k t htp => ?_⟩
  have hro := htp rfl
  subst hro
  refine wpIn_rangeFunc fun fn _ => ?_
  let w0 := w.alloc (.deferred (some []))
  let ob : Obj := .loop { state := .ready, pending := none, fn := fn, tmps := a.tmps, params := ⟨ps⟩, assign := asg, body := body, defers := w.heap.size }
  have hsz0 : w0.heap.size = w.heap.size + 1 := by simp [w0]
  have k0 : Rel I h w0 := k.aside _
  have hnd : ¬ I.dom h.next := fun d => by have := k.lt _ d; omega
  have hle : Le I (I.plus h.next none w0.heap.size 0) := Le.plus (dom_none hnd none)
  have k1 : Rel (I.plus h.next none w0.heap.size 0) (h.enter (loop0 n ts ps asg body)) (w0.alloc ob) := by
    refine (k0.bump 1).new hnd (by simp [H.bump]) none 0 ob ?_
    exact ⟨w0.heap.size, a.tmps, w.heap.size, fn, Inj.plus_at .., k0.base, t.le hle, by rw [heap_alloc]; rfl⟩
  obtain ⟨ef, iF⟩ := t.ev f f' hf
  rw [hv] at ef iF
  obtain ⟨erenf, irenf⟩ := hle.ren _ iF
  simp only [ren, renFn] at ef
  have hev : ∀ x : Operand, ({ a with defers := [({ target := .collected w.heap.size, args := #[] } : Deferred)] ++ a.defers } : Act).eval x = a.eval x := fun x => by cases x <;> rfl
  refine ⟨w0.heap.size, [{ target := .collected w.heap.size, args := #[] }], w0.alloc ob, { target := .fn (.func g) ⟨renL I capt⟩, args := ⟨renL I first⟩ ++ #[.func (.yield w0.heap.size) #[] #[]] }, w0.alloc ob, g, ⟨renL (I.plus h.next none w0.heap.size 0) (first ++ [.func (.yield h.next) ⟨[]⟩ ⟨[]⟩] ++ capt)⟩, w0.alloc ob, ?_, ?_, fun _ _ => trivial, ?_, fun _ => by simp [WR, Fence.wide] at *, ?_⟩
  · simp [Instr.enterLoop, WR, Fence.wide, w0, ob]
  · have hcst : ∀ v, a.eval (.const v) = v := fun v => rfl
    simp [resolve, rangeCall, ef, hcst, Deferred.ofValue]
  · have hargs : ((⟨renL I first⟩ : Array Value) ++ #[.func (.yield w0.heap.size) #[] #[]] ++ ⟨renL I capt⟩) = ⟨renL (I.plus h.next none w0.heap.size 0) (first ++ [.func (.yield h.next) ⟨[]⟩ ⟨[]⟩] ++ capt)⟩ := by
      simp only [In, InFn, true_and] at iF
      apply Array.ext'
      simp [renL_append, (hle.renL _ iF.1).1, (hle.renL _ iF.2).1, renL, ren, renFn, Inj.blk, Inj.plus_at]
    simp only [invoke]
    rw [hargs]
    exact ha.enters _ _
  · refine callsIn_WR ((ha.calls _ _ k1 ?_).mono ?_)
    · simp only [In, InFn, true_and] at iF
      rw [InL_append, InL_append]
      exact ⟨⟨(hle.renL _ iF.1).2, by simp only [InL, In, InFn, and_true]; exact ⟨_, Inj.plus_at ..⟩⟩, (hle.renL _ iF.2).2⟩
    · rintro e w3 ⟨J, W, iv, rfl⟩
      have hat : J.at_ h.next none = some (w0.heap.size, 0) := W.grows.le.at_ _ _ _ (Inj.plus_at ..)
      obtain ⟨tmps, db, fn', e2, e3, e4⟩ := loop_row W.rel hL hat
      have hbut := But.set w3 w0.heap.size (.loop { state := .exhausted, pending := pendCode L.pend, fn := fn', tmps, params := ⟨L.params⟩, assign := L.asg, body := L.body, defers := db })
      refine ⟨pendCode L.pend, { w3 with heap := w3.heap.setIfInBounds w0.heap.size (.loop { state := .exhausted, pending := pendCode L.pend, fn := fn', tmps, params := ⟨L.params⟩, assign := L.asg, body := L.body, defers := db }) }, ?_, ?_⟩
      · simp [Instr.endLoop, Instr.getLoop, getObj, setObj, Sem.run, e4]
        cases hst : L.state <;> first | exact absurd hst hs | simp
      · refine pend_wp (Q := fun e' a' w' => e' = pendE L.pend ∧ ∃ J, Went I J lo h.next (h'.put h.next .gone) w w' ∧ TsRel J n ts a'.tmps ∧ ∃ ms, a'.defers = ms ++ a.defers ∧ Marks J w w' ms) (ro := none) ⟨rfl, J, ?_, ?_, [{ target := .collected w.heap.size, args := #[] }], rfl, ?_⟩
        · have hrel : Rel J (h'.put h.next .gone) _ := W.rel.store e2 ⟨_, hat⟩ hbut trivial
          have hold : ∀ r s p, r < lo → J.at_ r s = some p → I.at_ r s = some p := fun r s p hr e => by
            have := W.old r s p hr e
            rwa [Inj.plus_old (by omega)] at this
          have hgr : Grows I J w := by
            refine ⟨hle.trans W.grows.le, fun r s b d e => ?_⟩
            have hold1 : ∀ r s b d, (I.plus h.next none w0.heap.size 0).at_ r s = some (b, d) → I.at_ r s = some (b, d) ∨ w.heap.size ≤ b := fun r s b d e => by
              by_cases hr : r = h.next ∧ s = none
              · obtain ⟨rfl, rfl⟩ := hr
                rw [Inj.plus_at] at e
                simp only [Option.some.injEq, Prod.mk.injEq] at e
                omega
              · rw [Inj.plus_old hr] at e
                exact .inl e
            rcases W.grows.new r s b d e with e | e | ⟨s', e⟩
            · exact (hold1 _ _ _ _ e).imp id .inl
            · simp only [World.alloc] at e
              have : w0.heap.size ≤ b := by simp at e; omega
              exact .inr (.inl (by omega))
            · rcases hold1 _ _ _ _ e with e | e
              · exact .inr (.inr ⟨_, e⟩)
              · exact .inr (.inl e)
          refine ⟨hgr, fun r d => ?_, hold, hrel, ?_⟩
          · rcases W.dom r d with d | d
            · rcases Inj.plus_dom d with d | rfl
              · exact .inl d
              · exact .inr (Nat.le_refl _)
            · exact .inr (by simp [H.enter, H.bump, H.put] at d; omega)
          · have x1 := (Ext.alloc I lo w (.deferred (some [])))
            have x2 := x1.trans (Grows.refl I w) (Ext.alloc I lo w0 ob)
            refine ⟨?_, ?_, ?_, ?_, fun b hb hx => ?_⟩
            · rw [hbut.os, W.ext.os, x2.os]
            · rw [hbut.tape, W.ext.tape, x2.tape]
            · rw [hbut.output, W.ext.output, x2.output]
            · rw [hbut.size]; exact Nat.le_trans x2.size W.ext.size
            · rw [hbut.block b (by omega), W.ext.block b (by have := x2.size; omega) (fun r s d e hbase => ?_), x2.block b hb hx]
              by_cases hr : r = h.next ∧ s = none
              · obtain ⟨rfl, rfl⟩ := hr
                rw [Inj.plus_at] at e
                simp only [Option.some.injEq, Prod.mk.injEq] at e
                omega
              · rw [Inj.plus_old hr] at e
                exact hx r s d e hbase
        · exact t.le (hle.trans W.grows.le)
        · have hb0 : (w0.alloc ob).heap[w.heap.size]? = some (.deferred (some [])) := by
            rw [heap_alloc_old w0 ob (by omega)]; exact heap_alloc w _
          have hout : ∀ r s d, (I.plus h.next none w0.heap.size 0).at_ r s ≠ some (w.heap.size, d) := fun r s d e => by
            by_cases hr : r = h.next ∧ s = none
            · obtain ⟨rfl, rfl⟩ := hr
              rw [Inj.plus_at] at e
              simp only [Option.some.injEq, Prod.mk.injEq] at e
              omega
            · rw [Inj.plus_old hr] at e
              have := k.size _ _ _ _ e
              omega
          have hsz1 : (w0.alloc ob).heap.size = w.heap.size + 2 := by simp [hsz0]
          refine ⟨fun m hm => ?_, by simp⟩
          simp only [List.mem_singleton] at hm
          subst hm
          refine ⟨w.heap.size, rfl, Nat.le_refl _, ?_, ?_, fun r s d e => ?_⟩
          · rw [hbut.size]; have := W.ext.size; omega
          · rw [hbut.block _ (by omega), W.ext.block _ (by omega) (fun r s d e => absurd e (hout r s d)), hb0]
          · rcases W.grows.new r s _ d e with e | e | ⟨s', e⟩
            · exact hout _ _ _ e
            · omega
            · exact hout _ _ _ e

/-! ### a call of yield -/

/-- Values laid into temporaries. -/
def setPs : List Nat → List Value → Ts → Ts
  | p :: ps, v :: vs, ts => setPs ps vs (setV ts p v)
  | _, _, ts => ts

theorem TsRel.setPs {I : Inj} : ∀ (ps : List Nat) (vs : List Value) (ts : Ts) (tmps : Array Value), TsRel I n ts tmps → (∀ p ∈ ps, p < n) → InL I vs →
    TsRel I n (AE.setPs ps vs ts) ((ps.zip (renL I vs)).foldl (fun tmps (t, a) => tmps.setIfInBounds t a) tmps)
  | [], _, _, _, t, _, _ => by simpa [AE.setPs] using t
  | _ :: _, [], _, _, t, _, _ => by simpa [AE.setPs, renL] using t
  | p :: ps, v :: vs, ts, tmps, t, hp, hv => by
    simp only [AE.setPs, renL, List.zip_cons_cons, List.foldl_cons]
    refine TsRel.setPs ps vs _ _ ?_ (fun q hq => hp q (by simp [hq])) hv.2
    have hpn := hp p (by simp)
    have := TsRel.put (a := { tmps := tmps, defers := [] }) (dst := some p) t hv.1 (by simp [dstOk, hpn])
    exact this

/-- How a round ends: what is pending, and what yield hands back. -/
def roundEnd (e : Exit) : Option Pend := match e with
  | .normal => some .none
  | .ret => some .ret
  | .exit id => some (.exit id)
  | _ => none
def pendB : Pend → Bool
  | .none => true
  | _ => false
def pendS : Pend → LoopState
  | .none => .ready
  | _ => .done
def busy (L : ALoop) : ALoop := { L with state := .busy }
def ended (L : ALoop) (p : Pend) : ALoop := { L with state := pendS p, pend := p }

theorem endRound_run {l : Nat} {w : World} {lp : Loop} {p : Pend} (hlp : w.heap[l]? = some (.loop lp)) :
    (Instr.endRound l (pendCode p)).run P w = .ok (.bool (pendB p)) { w with heap := w.heap.setIfInBounds l (.loop { lp with state := pendS p, pending := pendCode p }) } := by
  cases p <;> simp [Instr.endRound, Instr.getLoop, getObj, setObj, Sem.run, hlp, pendCode, pendB, pendS]

/-- What yield comes to. -/
def YW (P : Program) (lo r : Nat) (asg body : Code) (size : Nat) (args : List Value) (ps : List Nat) (tmps : Ts) (h : H) (R : Value → H → Prop) : Prop :=
  WT (TC false P asg) size lo (fun e ts1 h1 => e = .normal ∧ ∃ L1, h1.get r = some (.loop L1) ∧ L1.state = .ready ∧
    WT (TC false P body) size lo (fun e _ h2 => ∃ p L2, roundEnd e = some p ∧ h2.get r = some (.loop L2) ∧ R (.bool (pendB p)) (h2.put r (.loop (ended L2 p)))) ts1 (h1.put r (.loop (busy L1)))) (setPs ps args tmps) h

theorem yield_call {r : Nat} {L : ALoop} {args : List Value} {R : Value → H → Prop} (hg : h.get r = some (.loop L)) (hlo : lo ≤ r) (hr : r < h.next) (hlen : args.length = L.params.length) (hps : ∀ p ∈ L.params, p < L.size)
    (hw : YW P lo r L.asg L.body L.size args L.params L.tmps h R) : ∃ v h', R v h' ∧ ACall P (.func (.yield r) ⟨[]⟩ ⟨[]⟩) lo h args v h' := by
  obtain ⟨e1, ts1, h1, ⟨rfl, L1, hg1, hst1, e2, ts2, h2, ⟨p, L2, hp, hg2, hR⟩, hq2, gb⟩, hq1, ga⟩ := hw
  have hn1 : r < h1.next := Nat.lt_of_lt_of_le hr hq1.next
  have hn2 : r < h2.next := Nat.lt_of_lt_of_le hn1 hq2.next
  refine ⟨_, _, hR, (hq1.trans (Quiet.put hlo hn1)).trans (hq2.trans (Quiet.put hlo hn2)), fun o c f ro a I w K Q ho hcal ef eas k iF ias hK => ?_⟩
  simp only [In, InFn] at iF
  obtain ⟨⟨l, hat⟩, -⟩ := iF
  obtain ⟨tmps, db, fn, eb, etmps, ew⟩ := loop_row k hg hat
  have hdef : ∀ c', o.op ≠ .defer c' := fun c' e => by rw [ho] at e; simp at e
  have hblk : I.blk r = l := by simp [Inj.blk, hat]
  simp only [ren, renFn, hblk, renL] at ef
  have harg : c.args.map a.eval = ⟨renL I args⟩ := by apply Array.ext'; simp [eas]
  have hexec : (execOp a.eval o).run P w = .ok (.round l fn ((L.params.zip (renL I args)).foldl (fun tmps (t, a) => tmps.setIfInBounds t a) tmps) L.asg L.body) w := by
    have hsz : (renL I args).length = L.params.length := by rw [renL_length, hlen]
    simp [execOp, ho, resolve, hcal, ef, Deferred.ofValue, invoke, Instr.yield, Instr.getLoop, getObj, Sem.run, ew, harg, hsz]
  refine ⟨fun _ _ => trivial, ?_⟩
  rw [Oper.semAt_eq _ _ _ hdef, hexec, Oper.uponIn_round]
  refine ⟨fun h => by simp [WR, Fence.wide] at h, roundIn_of_wpIn trivial ?_⟩
  have ht0 := TsRel.setPs L.params args L.tmps tmps etmps hps ias
  have hF : (WR ro).inRound l = WR (some l) := rfl
  rw [hF]
  refine Go.wpIn_mono (ga (some l) I w { tmps := _, defers := [] } k ht0 (by simp)) ?_
  rintro e a1 w1 ⟨rfl, J1, W1, t1, ms1, -, -⟩
  have hat1 : J1.at_ r none = some (l, 0) := W1.grows.le.at_ _ _ _ hat
  obtain ⟨tmps1, db1, fn1, eb1, etmps1, ew1⟩ := loop_row W1.rel hg1 hat1
  have S1 := loop_set (L' := busy L1) W1.rel hg1 hat1 hlo rfl rfl rfl rfl rfl _ ew1
  refine ⟨_, ?_, Go.wpIn_mono (gb (some l) J1 _ a1 S1.rel t1 (by simp)) ?_⟩
  · rw [hst1] at ew1
    simp [Instr.beginRound, Instr.getLoop, getObj, setObj, Sem.run, ew1, busy]
  · rintro e a2 w2 ⟨rfl, J2, W2, t2, ms2, -, -⟩
    have hat2 : J2.at_ r none = some (l, 0) := W2.grows.le.at_ _ _ _ hat1
    obtain ⟨tmps2, db2, fn2, eb2, etmps2, ew2⟩ := loop_row W2.rel hg2 hat2
    have S2 := loop_set (L' := ended L2 p) W2.rel hg2 hat2 hlo rfl rfl rfl rfl rfl _ ew2
    have hend := endRound_run (P := P) (p := p) ew2
    have hfin := hK J2 _ (((W1.trans S1 hq1.next).trans W2 (Nat.le_trans hq1.next (Nat.le_refl _))).trans S2 (Nat.le_trans hq1.next hq2.next)) (by simp [In])
    simp only [ren] at hfin
    cases e <;> simp only [roundEnd, Option.some.injEq, reduceCtorEq] at hp
    all_goals subst hp; exact ⟨_, _, hend, hfin⟩

end
end AE
