/- Calls that may come to one of many ends, in code that is walked so. -/
import Derived.Test.YtndkjpkadfpflaaGreatAEtwo
set_option linter.unusedVariables false
set_option linter.unusedSimpArgs false
set_option linter.unusedSectionVars false
namespace AE
open Go Go.RowKit
set_option linter.unusedVariables false

/-- A call of f that comes to some end that is asked for. -/
structure AFD (P : Program) (f : FuncId) (lo : Nat) (h : H) (args : List Value) (R : Value → H → Prop) : Prop where
  enters : ∀ (as : Array Value) (w : World), (callFunc f as).run P w = .ok (.enter f as) w
  calls : ∀ I w, Rel I h w → InL I args → Calls P f ⟨renL I args⟩ w fun e w' => ∃ v h' J, R v h' ∧ Quiet lo h h' ∧ Went I J lo h.next h' w w' ∧ In J v ∧ e = .returned (ren J v)
theorem AF.afd {P : Program} {f : FuncId} {lo : Nat} {h h' : H} {args : List Value} {v : Value} {R : Value → H → Prop} (a : AF P f lo h args v h') (r : R v h') : AFD P f lo h args R :=
  ⟨a.enters, fun I w k i => (a.calls I w k i).mono fun _ _ ⟨J, W, iv, e⟩ => ⟨v, h', J, r, a.quiet, W, iv, e⟩⟩
theorem AFD.mono {P : Program} {f : FuncId} {lo lo' : Nat} {h : H} {args : List Value} {R R' : Value → H → Prop} (a : AFD P f lo h args R) (hl : lo' ≤ lo) (hr : ∀ v h', R v h' → R' v h') : AFD P f lo' h args R' :=
  ⟨a.enters, fun I w k i => (a.calls I w k i).mono fun _ _ ⟨v, h', J, r, q, W, iv, e⟩ => ⟨v, h', J, hr v h' r, q.mono hl, W.mono hl, iv, e⟩⟩

/-- A call of a function value that comes to some end. -/
structure ACallD (P : Program) (fv : Value) (lo : Nat) (h : H) (args : List Value) (R : Value → H → Prop) : Prop where
  run : ∀ (o : Oper) (c : Call) (f : Operand) (ro : Option Nat) (a : Act) (I : Inj) (w : World) (K : Act → World → Prop) (Q : Exit → Act → World → Prop), o.op = .call c → c.callee = .value f → a.eval f = ren I fv →
    c.args.toList.map a.eval = renL I args → Rel I h w → In I fv → InL I args → (∀ v h' J w', R v h' → Quiet lo h h' → Went I J lo h.next h' w w' → In J v → K (a.put o.dst (ren J v)) w') → o.wpIn (WR ro) 0 P a w K Q
theorem ACallD.mono {P : Program} {fv : Value} {lo lo' : Nat} {h : H} {args : List Value} {R R' : Value → H → Prop} (a : ACallD P fv lo h args R) (hl : lo' ≤ lo) (hr : ∀ v h', R v h' → R' v h') : ACallD P fv lo' h args R' :=
  ⟨fun o c f ro b I w K Q h1 h2 h3 h4 h5 h6 h7 h8 => a.run o c f ro b I w K Q h1 h2 h3 h4 h5 h6 h7 fun v h' J w' r q W i => h8 v h' J w' (hr v h' r) (q.mono hl) (W.mono hl) i⟩
theorem AFD.acalld {P : Program} {lo : Nat} {g : FuncId} {first capt args : List Value} {h : H} {R : Value → H → Prop} (hcall : AFD P g lo h (first ++ args ++ capt) R) : ACallD P (.func (.func g) ⟨first⟩ ⟨capt⟩) lo h args R := by
  refine ⟨fun o c f ro a I w K Q ho hcal ef eas k iF ias hK => ?_⟩
  simp only [ren, renFn, In, InFn, true_and] at ef iF
  refine upon_call (fun c' e => by rw [ho] at e; simp at e) (exec_call ho hcal ef hcall.enters) ?_
  have harg : ((⟨renL I first⟩ : Array Value) ++ c.args.map a.eval ++ ⟨renL I capt⟩) = ⟨renL I (first ++ args ++ capt)⟩ := by
    apply Array.ext'
    simp [renL_append, eas]
  rw [harg]
  refine (hcall.calls I w k (by rw [InL_append, InL_append]; exact ⟨⟨iF.1, ias⟩, iF.2⟩)).mono ?_
  rintro e w1 ⟨v, h', J, r, q, hwent, hin, rfl⟩
  exact ⟨_, rfl, hK v h' J w1 r q hwent hin⟩

/-- The operations of a region, one after the other; a call may come to many ends. -/
def RunD (P : Program) (lo : Nat) (base : Nat) : Nat → List AOper → (Ts → H → Prop) → Ts → H → Prop
  | _, [], K, ts, h => K ts h
  | i, o :: rest, K, ts, h =>
    if awanted ts o.guard = true then
      match o.ins with
      | .op ao => ∃ v h', aop P lo (base + i) ts h ao = some (v, h') ∧ RunD P lo base (i + 1) rest K (aput ts v o.dst) h'
      | .call f args => ACallD P (ev ts f) lo h (args.map (ev ts)) fun v h' => RunD P lo base (i + 1) rest K (aput ts v o.dst) h'
    else RunD P lo base (i + 1) rest K (aput ts undef o.dst) h

section
variable {P : Program} {ro : Option Nat} {n lo base : Nat}
theorem run_opsD {ops : Array Oper} {xs : List AOper} {K : Ts → H → Prop} (hx : cOpers P n ops ops.toList = some xs) (hlo : lo ≤ base) : ∀ (m i : Nat), i + m = xs.length → ∀ (ts : Ts) (h : H), base + xs.length ≤ h.next → RunD P lo base i (xs.drop i) K ts h →
    ∀ ro I w a, Rel I h w → TsRel I n ts a.tmps → (∀ j, i ≤ j → j < xs.length → ¬ I.dom (base + j)) → ∀ Q : Exit → Act → World → Prop,
      (∀ ts' h' J w' a', K ts' h' → Quiet lo h h' → Went I J lo base h' w w' → TsRel J n ts' a'.tmps → a'.defers = a.defers → Q .normal a' w') → wpOpsIn (WR ro) 0 P ops Q (List.range' i m) a w
  | 0, i, hi, ts, h, hn, hr => by
    rw [List.drop_of_length_le (by omega)] at hr
    intro ro I w a k t _ Q hQ
    simp only [List.range'_zero, wpOpsIn]
    exact hQ ts h I w a hr (Quiet.refl _ _) (Went.refl k) t rfl
  | m + 1, i, hi, ts, h, hn, hr => by
    obtain ⟨hlen, hget⟩ := cOpers_get hx
    have hil : i < xs.length := by omega
    have hio : i < ops.toList.length := by omega
    obtain ⟨x, hxi, hxo⟩ := hget i ops.toList[i] (List.getElem?_eq_getElem hio)
    have hoi : ops[i]? = some ops.toList[i] := by rw [← Array.getElem?_toList]; exact List.getElem?_eq_getElem hio
    generalize ops.toList[i] = o at hxo hoi
    rw [List.drop_eq_getElem_cons hil] at hr
    have hxe : xs[i] = x := by rw [List.getElem?_eq_getElem hil] at hxi; simpa using hxi
    rw [hxe] at hr
    simp only [cOper, Option.bind_eq_some_iff] at hxo
    obtain ⟨gd, hgd, ins, hins, hxo⟩ := hxo
    split at hxo
    · rename_i hok
      simp only [Bool.and_eq_true] at hok
      simp only [Option.some.injEq] at hxo
      subst hxo
      simp only [RunD] at hr
      have hdef := comp_not_defer hins
      have hm : i + 1 + m = xs.length := by omega
      split at hr
      · rename_i hw
        cases ins with
        | op ao =>
          simp only at hr
          obtain ⟨v, h1, ha, hr⟩ := hr
          have hnx := aop_next ha
          have hq := aop_quiet ha (nid := base + i) (by omega) (by omega)
          have hrest := run_opsD hx hlo m (i + 1) hm _ _ (by rw [hnx]; exact hn) hr
          intro ro I w a k t hfr Q hQ
          obtain ⟨J, w1, nx, ⟨hg, hdom, hold⟩, hrel, hin, hext, hrun, hnx'⟩ := sim_op t.ev hins hok.1 k (hfr i (Nat.le_refl i) hil) (by omega) (by omega) ha
          rw [List.range'_succ]
          simp only [wpOpsIn, hoi, wanted_eq t hgd, hw, if_true]
          refine upon_val (v := ren J v) hdef hrun (hnx'.imp id (fun e => ⟨e.1, by rw [e.2]; exact (ren_undef J).1⟩)) ?_
          refine hrest ro J w1 _ hrel ((t.le hg.le).put hin hok.2) (fun j hj hjl d => ?_) Q (fun ts' h' J' w' a' hK hq' hw' t' hd' => ?_)
          · rcases hdom _ d with d | d
            · exact hfr j (by omega) hjl d
            · omega
          · refine hQ ts' h' J' w' a' hK (hq.trans hq') ?_ t' (hd'.trans (Act.put_defers' a o.dst (ren J v)))
            exact Went.trans ⟨hg, fun r d => (hdom r d).imp id (fun e => by omega), hold, hrel, hext⟩ hw' (Nat.le_refl _)
        | call f args =>
          simp only at hr
          intro ro I w a k t hfr Q hQ
          obtain ⟨c, f0, ho, hcal, hcf, hcas⟩ := comp_call hins
          obtain ⟨ef, iF⟩ := t.ev f0 f hcf
          obtain ⟨eas, ias⟩ := cOpds_map t.ev hcas
          rw [List.range'_succ]
          simp only [wpOpsIn, hoi, wanted_eq t hgd, hw, if_true]
          refine hr.run o c f0 ro a I w _ Q ho hcal ef eas k iF ias fun v h1 J w1 hr hq hwent hin => ?_
          have hrest := run_opsD hx hlo m (i + 1) hm _ _ (Nat.le_trans hn hq.next) hr
          refine hrest ro J w1 _ hwent.rel ((t.le hwent.grows.le).put hin hok.2) (fun j hj hjl d => ?_) Q (fun ts' h' J' w' a' hK hq' hw' t' hd' => ?_)
          · rcases hwent.dom _ d with d | d
            · exact hfr j (by omega) hjl d
            · omega
          · refine hQ ts' h' J' w' a' hK (hq.trans hq') ?_ t' (hd'.trans (Act.put_defers' a o.dst (ren J v)))
            exact Went.trans ⟨hwent.grows, fun r d => (hwent.dom r d).imp id (fun e => by omega), hwent.old, hwent.rel, hwent.ext⟩ hw' (Nat.le_refl _)
      · rename_i hw
        have hrest := run_opsD hx hlo m (i + 1) hm _ _ hn hr
        intro ro I w a k t hfr Q hQ
        rw [List.range'_succ]
        have hw' : awanted ts gd = false := by simpa using hw
        simp only [wpOpsIn, hoi, wanted_eq t hgd, hw', Bool.false_eq_true, if_false]
        refine ⟨fun _ _ => trivial, ?_⟩
        have hu := (ren_undef I)
        have tp := t.put (v := undef) hu.2 hok.2
        rw [hu.1] at tp
        exact hrest ro I w _ k tp (fun j hj hjl => hfr j (by omega) hjl) Q (fun ts' h' J' w' a' hK hq' hw' t' hd' => hQ ts' h' J' w' a' hK hq' hw' t' (hd'.trans (Act.put_defers' a o.dst undef)))
    · simp at hxo

theorem WD.reg {tp : Bool} {id : Nat} {ops : Array Oper} {xs : List AOper} {Q : Exit → Ts → H → Prop} {ts : Ts} {h : H} (hx : cOpers P n ops ops.toList = some xs) (hlo : lo ≤ h.next) (hr : RunD P lo h.next 0 xs (Q .normal) ts (h.bump xs.length)) :
    WD (TC tp P (.region id ops false)) n lo Q ts h := by
  have hlen := (cOpers_get hx).1
  have hrest := run_opsD hx hlo xs.length 0 (by omega) ts (h.bump xs.length) (Nat.le_refl _) (by simpa using hr)
  intro ro I w a k t _
  refine wpIn_region ?_
  have := hrest ro I w a (k.bump _) t (fun j _ _ d => by have := k.lt _ d; omega) (fun e' a' w' => ∃ ts' h' J, Q e' ts' h' ∧ Quiet lo h h' ∧ Went I J lo h.next h' w w' ∧ TsRel J n ts' a'.tmps ∧ ∃ ms, a'.defers = ms ++ a.defers ∧ Marks J w w' ms)
    (fun ts' h' J w' a' hK hq hw t' hd => ⟨ts', h', J, hK, ⟨Nat.le_trans (Nat.le_add_right _ _) hq.next, hq.same, fun hc => hq.clean fun r hr => hc r (Nat.le_trans (Nat.le_add_right _ _) hr)⟩, hw, t', [], hd, Marks.nil _ _ _⟩)
  rw [List.range_eq_range', show ops.size = xs.length by rw [hlen]; simp]
  exact this
end
/-- A range over a function that may come to many ends. -/
theorem WD.range {P : Program} {n lo : Nat} {Q : Exit → Ts → H → Prop} {ts : Ts} {h : H} {f : Operand} {f' : Opd} {g : FuncId} {first capt : List Value} {ps : List Nat} {asg body : Code} (hf : cOpd f = some f') (hv : ev ts f' = .func (.func g) ⟨first⟩ ⟨capt⟩) (hlo : lo ≤ h.next)
    (ha : AFD P g lo (h.enter (loop0 n ts ps asg body)) (first ++ [.func (.yield h.next) ⟨[]⟩ ⟨[]⟩] ++ capt) fun v h' => ∃ L, h'.get h.next = some (.loop L) ∧ L.state ≠ .busy ∧ Q (pendE L.pend) ts (h'.put h.next .gone)) :
    WD (TC true P (.rangeFunc f ⟨ps⟩ asg body)) n lo Q ts h := by
  intro ro I w a k t htp
  have hro := htp rfl
  subst hro
  refine wpIn_rangeFunc fun fn _ => ?_
  let w0 := w.alloc (.deferred (some []))
  let ob : Obj := .loop { state := .ready, pending := none, fn := fn, tmps := a.tmps, params := ⟨ps⟩, assign := asg, body := body, defers := w.heap.size }
  have hsz0 : w0.heap.size = w.heap.size + 1 := by simp [w0]
  have k0 : Rel I h w0 := k.aside _
  have hnd : ¬ I.dom h.next := fun d => by have := k.lt _ d; omega
  have hle : Le I (I.plus h.next none w0.heap.size 0) := Le.plus (dom_none hnd none)
  have k1 : Rel (I.plus h.next none w0.heap.size 0) (h.enter (loop0 n ts ps asg body)) (w0.alloc ob) := by
    refine (k0.bump 1).new hnd (by simp [H.bump]) none 0 ob ?_
    exact ⟨w0.heap.size, a.tmps, w.heap.size, fn, Inj.plus_at .., k0.base, t.le hle, by rw [heap_alloc]; rfl⟩
  obtain ⟨ef, iF⟩ := t.ev f f' hf
  rw [hv] at ef iF
  obtain ⟨erenf, irenf⟩ := hle.ren _ iF
  simp only [ren, renFn] at ef
  have hev : ∀ x : Operand, ({ a with defers := [({ target := .collected w.heap.size, args := #[] } : Deferred)] ++ a.defers } : Act).eval x = a.eval x := fun x => by cases x <;> rfl
  refine ⟨w0.heap.size, [{ target := .collected w.heap.size, args := #[] }], w0.alloc ob, { target := .fn (.func g) ⟨renL I capt⟩, args := ⟨renL I first⟩ ++ #[.func (.yield w0.heap.size) #[] #[]] }, w0.alloc ob, g, ⟨renL (I.plus h.next none w0.heap.size 0) (first ++ [.func (.yield h.next) ⟨[]⟩ ⟨[]⟩] ++ capt)⟩, w0.alloc ob, ?_, ?_, fun _ _ => trivial, ?_, fun _ => by simp [WR, Fence.wide] at *, ?_⟩
  · simp [Instr.enterLoop, WR, Fence.wide, w0, ob]
  · have hcst : ∀ v, a.eval (.const v) = v := fun v => rfl
    simp [resolve, rangeCall, ef, hcst, Deferred.ofValue]
  · have hargs : ((⟨renL I first⟩ : Array Value) ++ #[.func (.yield w0.heap.size) #[] #[]] ++ ⟨renL I capt⟩) = ⟨renL (I.plus h.next none w0.heap.size 0) (first ++ [.func (.yield h.next) ⟨[]⟩ ⟨[]⟩] ++ capt)⟩ := by
      simp only [In, InFn, true_and] at iF
      apply Array.ext'
      simp [renL_append, (hle.renL _ iF.1).1, (hle.renL _ iF.2).1, renL, ren, renFn, Inj.blk, Inj.plus_at]
    simp only [invoke]
    rw [hargs]
    exact ha.enters _ _
  · refine callsIn_WR ((ha.calls _ _ k1 ?_).mono ?_)
    · simp only [In, InFn, true_and] at iF
      rw [InL_append, InL_append]
      exact ⟨⟨(hle.renL _ iF.1).2, by simp only [InL, In, InFn, and_true]; exact ⟨_, Inj.plus_at ..⟩⟩, (hle.renL _ iF.2).2⟩
    · rintro e w3 ⟨v, h', J, ⟨L, hL, hs, q⟩, hqa, W, iv, rfl⟩
      have hq := (Quiet.enter hlo (loop0 n ts ps asg body)).trans hqa
      have hnx : h.next < h'.next := Nat.lt_of_lt_of_le (by simp [H.enter, H.bump, H.put]) hqa.next
      have hat : J.at_ h.next none = some (w0.heap.size, 0) := W.grows.le.at_ _ _ _ (Inj.plus_at ..)
      obtain ⟨tmps, db, fn', e2, e3, e4⟩ := loop_row W.rel hL hat
      have hbut := But.set w3 w0.heap.size (.loop { state := .exhausted, pending := pendCode L.pend, fn := fn', tmps, params := ⟨L.params⟩, assign := L.asg, body := L.body, defers := db })
      refine ⟨pendCode L.pend, { w3 with heap := w3.heap.setIfInBounds w0.heap.size (.loop { state := .exhausted, pending := pendCode L.pend, fn := fn', tmps, params := ⟨L.params⟩, assign := L.asg, body := L.body, defers := db }) }, ?_, ?_⟩
      · simp [Instr.endLoop, Instr.getLoop, getObj, setObj, Sem.run, e4]
        cases hst : L.state <;> first | exact absurd hst hs | simp
      · refine pend_wp (Q := fun e' a' w' => ∃ ts' h' J, Q e' ts' h' ∧ Quiet lo h h' ∧ Went I J lo h.next h' w w' ∧ TsRel J n ts' a'.tmps ∧ ∃ ms, a'.defers = ms ++ a.defers ∧ Marks J w w' ms) (ro := none) ⟨ts, _, J, q, hq.trans (Quiet.put hlo hnx), ?_, ?_, [{ target := .collected w.heap.size, args := #[] }], rfl, ?_⟩
        · have hrel : Rel J (h'.put h.next .gone) _ := W.rel.store e2 ⟨_, hat⟩ hbut trivial
          have hold : ∀ r s p, r < lo → J.at_ r s = some p → I.at_ r s = some p := fun r s p hr e => by
            have := W.old r s p hr e
            rwa [Inj.plus_old (by omega)] at this
          have hgr : Grows I J w := by
            refine ⟨hle.trans W.grows.le, fun r s b d e => ?_⟩
            have hold1 : ∀ r s b d, (I.plus h.next none w0.heap.size 0).at_ r s = some (b, d) → I.at_ r s = some (b, d) ∨ w.heap.size ≤ b := fun r s b d e => by
              by_cases hr : r = h.next ∧ s = none
              · obtain ⟨rfl, rfl⟩ := hr
                rw [Inj.plus_at] at e
                simp only [Option.some.injEq, Prod.mk.injEq] at e
                omega
              · rw [Inj.plus_old hr] at e
                exact .inl e
            rcases W.grows.new r s b d e with e | e | ⟨s', e⟩
            · exact (hold1 _ _ _ _ e).imp id .inl
            · simp only [World.alloc] at e
              have : w0.heap.size ≤ b := by simp at e; omega
              exact .inr (.inl (by omega))
            · rcases hold1 _ _ _ _ e with e | e
              · exact .inr (.inr ⟨_, e⟩)
              · exact .inr (.inl e)
          refine ⟨hgr, fun r d => ?_, hold, hrel, ?_⟩
          · rcases W.dom r d with d | d
            · rcases Inj.plus_dom d with d | rfl
              · exact .inl d
              · exact .inr (Nat.le_refl _)
            · exact .inr (by simp [H.enter, H.bump, H.put] at d; omega)
          · have x1 := (Ext.alloc I lo w (.deferred (some [])))
            have x2 := x1.trans (Grows.refl I w) (Ext.alloc I lo w0 ob)
            refine ⟨?_, ?_, ?_, ?_, fun b hb hx => ?_⟩
            · rw [hbut.os, W.ext.os, x2.os]
            · rw [hbut.tape, W.ext.tape, x2.tape]
            · rw [hbut.output, W.ext.output, x2.output]
            · rw [hbut.size]; exact Nat.le_trans x2.size W.ext.size
            · rw [hbut.block b (by omega), W.ext.block b (by have := x2.size; omega) (fun r s d e hbase => ?_), x2.block b hb hx]
              by_cases hr : r = h.next ∧ s = none
              · obtain ⟨rfl, rfl⟩ := hr
                rw [Inj.plus_at] at e
                simp only [Option.some.injEq, Prod.mk.injEq] at e
                omega
              · rw [Inj.plus_old hr] at e
                exact hx r s d e hbase
        · exact t.le (hle.trans W.grows.le)
        · have hb0 : (w0.alloc ob).heap[w.heap.size]? = some (.deferred (some [])) := by
            rw [heap_alloc_old w0 ob (by omega)]; exact heap_alloc w _
          have hout : ∀ r s d, (I.plus h.next none w0.heap.size 0).at_ r s ≠ some (w.heap.size, d) := fun r s d e => by
            by_cases hr : r = h.next ∧ s = none
            · obtain ⟨rfl, rfl⟩ := hr
              rw [Inj.plus_at] at e
              simp only [Option.some.injEq, Prod.mk.injEq] at e
              omega
            · rw [Inj.plus_old hr] at e
              have := k.size _ _ _ _ e
              omega
          have hsz1 : (w0.alloc ob).heap.size = w.heap.size + 2 := by simp [hsz0]
          refine ⟨fun m hm => ?_, by simp⟩
          simp only [List.mem_singleton] at hm
          subst hm
          refine ⟨w.heap.size, rfl, Nat.le_refl _, ?_, ?_, fun r s d e => ?_⟩
          · rw [hbut.size]; have := W.ext.size; omega
          · rw [hbut.block _ (by omega), W.ext.block _ (by omega) (fun r s d e => absurd e (hout r s d)), hb0]
          · rcases W.grows.new r s _ d e with e | e | ⟨s', e⟩
            · exact hout _ _ _ e
            · omega
            · exact hout _ _ _ e

/-- What yield comes to, one way or another. -/
def YWD (P : Program) (lo r : Nat) (asg body : Code) (size : Nat) (args : List Value) (ps : List Nat) (tmps : Ts) (h : H) (R : Value → H → Prop) : Prop :=
  WD (TC false P asg) size lo (fun e ts1 h1 => e = .normal ∧ ∃ L1, h1.get r = some (.loop L1) ∧ L1.state = .ready ∧
    WD (TC false P body) size lo (fun e _ h2 => ∃ p L2, roundEnd e = some p ∧ h2.get r = some (.loop L2) ∧ R (.bool (pendB p)) (h2.put r (.loop (ended L2 p)))) ts1 (h1.put r (.loop (busy L1)))) (setPs ps args tmps) h

theorem yield_callD {P : Program} {lo : Nat} {h : H} {r : Nat} {L : ALoop} {args : List Value} {R : Value → H → Prop} (hg : h.get r = some (.loop L)) (hlo : lo ≤ r) (hr : r < h.next) (hlen : args.length = L.params.length) (hps : ∀ p ∈ L.params, p < L.size)
    (hw : YWD P lo r L.asg L.body L.size args L.params L.tmps h R) : ACallD P (.func (.yield r) ⟨[]⟩ ⟨[]⟩) lo h args R := by
  refine ⟨fun o c f ro a I w K Q ho hcal ef eas k iF ias hK => ?_⟩
  simp only [In, InFn] at iF
  obtain ⟨⟨l, hat⟩, -⟩ := iF
  obtain ⟨tmps, db, fn, eb, etmps, ew⟩ := loop_row k hg hat
  have hdef : ∀ c', o.op ≠ .defer c' := fun c' e => by rw [ho] at e; simp at e
  have hblk : I.blk r = l := by simp [Inj.blk, hat]
  simp only [ren, renFn, hblk, renL] at ef
  have harg : c.args.map a.eval = ⟨renL I args⟩ := by apply Array.ext'; simp [eas]
  have hexec : (execOp a.eval o).run P w = .ok (.round l fn ((L.params.zip (renL I args)).foldl (fun tmps (t, a) => tmps.setIfInBounds t a) tmps) L.asg L.body) w := by
    have hsz : (renL I args).length = L.params.length := by rw [renL_length, hlen]
    simp [execOp, ho, resolve, hcal, ef, Deferred.ofValue, invoke, Instr.yield, Instr.getLoop, getObj, Sem.run, ew, harg, hsz]
  refine ⟨fun _ _ => trivial, ?_⟩
  rw [Oper.semAt_eq _ _ _ hdef, hexec, Oper.uponIn_round]
  refine ⟨fun h => by simp [WR, Fence.wide] at h, roundIn_of_wpIn trivial ?_⟩
  have ht0 := TsRel.setPs L.params args L.tmps tmps etmps hps ias
  have hF : (WR ro).inRound l = WR (some l) := rfl
  rw [hF]
  refine Go.wpIn_mono (hw (some l) I w { tmps := _, defers := [] } k ht0 (by simp)) ?_
  rintro e a1 w1 ⟨ts1, h1, J1, ⟨rfl, L1, hg1, hst1, gb⟩, hq1, W1, t1, ms1, -, -⟩
  have hn1 : r < h1.next := Nat.lt_of_lt_of_le hr hq1.next
  have hat1 : J1.at_ r none = some (l, 0) := W1.grows.le.at_ _ _ _ hat
  obtain ⟨tmps1, db1, fn1, eb1, etmps1, ew1⟩ := loop_row W1.rel hg1 hat1
  have S1 := loop_set (L' := busy L1) W1.rel hg1 hat1 hlo rfl rfl rfl rfl rfl _ ew1
  refine ⟨_, ?_, Go.wpIn_mono (gb (some l) J1 _ a1 S1.rel t1 (by simp)) ?_⟩
  · rw [hst1] at ew1
    simp [Instr.beginRound, Instr.getLoop, getObj, setObj, Sem.run, ew1, busy]
  · rintro e a2 w2 ⟨ts2, h2, J2, ⟨p, L2, hp, hg2, hR⟩, hq2, W2, t2, ms2, -, -⟩
    have hn2 : r < h2.next := Nat.lt_of_lt_of_le hn1 hq2.next
    have hat2 : J2.at_ r none = some (l, 0) := W2.grows.le.at_ _ _ _ hat1
    obtain ⟨tmps2, db2, fn2, eb2, etmps2, ew2⟩ := loop_row W2.rel hg2 hat2
    have S2 := loop_set (L' := ended L2 p) W2.rel hg2 hat2 hlo rfl rfl rfl rfl rfl _ ew2
    have hend := endRound_run (P := P) (p := p) ew2
    have hfin := hK _ _ J2 _ hR ((hq1.trans (Quiet.put hlo hn1)).trans (hq2.trans (Quiet.put hlo hn2))) (((W1.trans S1 hq1.next).trans W2 (Nat.le_trans hq1.next (Nat.le_refl _))).trans S2 (Nat.le_trans hq1.next hq2.next)) (by simp [In])
    simp only [ren] at hfin
    cases e <;> simp only [roundEnd, Option.some.injEq, reduceCtorEq] at hp
    all_goals subst hp; exact ⟨_, _, hend, hfin⟩
end AE
