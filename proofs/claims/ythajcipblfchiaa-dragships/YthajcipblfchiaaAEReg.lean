/- Regions that are walked in the order of the text. -/
import Derived.Test.YthajcipblfchiaaAEMach
import Derived.Test.YthajcipblfchiaaAELocal
set_option linter.unusedVariables false
set_option linter.unusedSimpArgs false
set_option linter.unusedSectionVars false
namespace AE
open Go Go.RowKit

/-- A call of a function value: what comes back, and the heap after it. -/
structure ACall (P : Program) (fv : Value) (lo : Nat) (h : H) (args : List Value) (v : Value) (h' : H) : Prop where
  quiet : Quiet lo h h'
  run : ∀ (o : Oper) (c : Call) (f : Operand) (ro : Option Nat) (a : Act) (I : Inj) (w : World) (K : Act → World → Prop) (Q : Exit → Act → World → Prop), o.op = .call c → c.callee = .value f → a.eval f = ren I fv →
    c.args.toList.map a.eval = renL I args → Rel I h w → In I fv → InL I args → (∀ J w', Went I J lo h.next h' w w' → In J v → K (a.put o.dst (ren J v)) w') → o.wpIn (WR ro) 0 P a w K Q
theorem ACall.mono {P : Program} {fv : Value} {lo lo' : Nat} {h h' : H} {args : List Value} {v : Value} (a : ACall P fv lo h args v h') (hl : lo' ≤ lo) : ACall P fv lo' h args v h' :=
  ⟨a.quiet.mono hl, fun o c f ro b I w K Q h1 h2 h3 h4 h5 h6 h7 h8 => a.run o c f ro b I w K Q h1 h2 h3 h4 h5 h6 h7 fun J w' hw hi => h8 J w' (hw.mono hl) hi⟩

/-- The operations of a region, one after the other; operation i has the row base + i for its own. With q, calls turn nothing that was there. -/
def Run (P : Program) (lo : Nat) (q : Bool) (base : Nat) : Nat → List AOper → (Ts → H → Prop) → Ts → H → Prop
  | _, [], K, ts, h => K ts h
  | i, o :: rest, K, ts, h =>
    if awanted ts o.guard = true then
      match o.ins with
      | .op ao => ∃ v h', aop P lo (base + i) ts h ao = some (v, h') ∧ Run P lo q base (i + 1) rest K (aput ts v o.dst) h'
      | .call f args => ∃ v h', ACall P (ev ts f) (if q then h.next else lo) h (args.map (ev ts)) v h' ∧ Run P lo q base (i + 1) rest K (aput ts v o.dst) h'
    else Run P lo q base (i + 1) rest K (aput ts undef o.dst) h

theorem upd_next (h : H) (u : Option (Nat × ARow)) : (h.upd u).next = h.next := by cases u <;> rfl
theorem aop_next {P : Program} {lo nid : Nat} {ts : Ts} {h h' : H} {v : Value} {ao : AOp} (ha : aop P lo nid ts h ao = some (v, h')) : h'.next = h.next := by
  obtain ⟨u, rfl, -, -⟩ := aop_local ha
  exact upd_next h u
theorem aop_quiet {P : Program} {lo nid : Nat} {ts : Ts} {h h' : H} {v : Value} {ao : AOp} (ha : aop P lo nid ts h ao = some (v, h')) (hn : lo ≤ nid) (hnx : nid < h.next) : Quiet lo h h' := by
  obtain ⟨u, rfl, h2, -⟩ := aop_local ha
  refine ⟨by rw [upd_next]; exact Nat.le_refl _, fun r hr => ?_, fun hc r hr => ?_⟩
  · cases u with
    | none => rfl
    | some p =>
      simp only [H.upd, H.put]
      rw [if_neg]
      intro e
      rcases h2 p.1 p.2 rfl with e' | e'
      · omega
      · have := e'.1; omega
  · rw [upd_next] at hr
    cases u with
    | none => exact hc r hr
    | some p =>
      simp only [H.upd, H.put]
      rw [if_neg]
      · exact hc r hr
      intro e
      rcases h2 p.1 p.2 rfl with e' | e'
      · omega
      · exact e'.2.2 (hc _ (by omega))

theorem TsRel.put {I : Inj} {n : Nat} {ts : Ts} {a : Act} {v : Value} {dst : Option Nat} (t : TsRel I n ts a.tmps) (hv : In I v) (hd : dstOk n dst = true) : TsRel I n (aput ts v dst) (a.put dst (ren I v)).tmps := by
  cases dst with
  | none => exact t
  | some d =>
    simp only [dstOk, decide_eq_true_eq] at hd
    refine ⟨by simp [Act.put, t.1], fun i => ?_⟩
    simp only [aput, setV, Act.put, Array.getD_eq_getD_getElem?, Array.getElem?_setIfInBounds]
    by_cases hi : i = d
    · subst hi
      simp [t.1, hd, hv]
    · rw [if_neg (fun e => hi e.symm), if_neg hi, ← Array.getD_eq_getD_getElem?]
      exact t.2 i
theorem Act.put_defers' (a : Act) (d : Option Nat) (v : Value) : (a.put d v).defers = a.defers := by cases d <;> rfl
theorem ren_undef (I : Inj) : ren I undef = undef ∧ In I undef := by simp [undef, ren, renL, In, InL]

theorem wanted_eq {I : Inj} {n : Nat} {ts : Ts} {a : Act} {ops : Array Oper} {o : Oper} {g : Option (Nat × Bool)} (t : TsRel I n ts a.tmps) (hg : cGuard ops o.guard = some g) : Region.wanted o (yielded ops a.tmps) = awanted ts g := by
  unfold Region.wanted
  cases ho : o.guard with
  | none => rw [ho] at hg; simp [cGuard] at hg; subst hg; rfl
  | some p =>
    obtain ⟨j, b⟩ := p
    rw [ho] at hg
    simp only [cGuard, Option.map_eq_some_iff] at hg
    obtain ⟨d, hd, rfl⟩ := hg
    have h2 := (t.2 d).1
    simp only [awanted, yielded, hd, Option.bind_some]
    rw [Array.getD_eq_getD_getElem?] at h2
    cases hh : a.tmps[d]? with
    | none =>
      rw [hh] at h2
      simp only [Option.getD_none] at h2
      cases ht : ts d <;> rw [ht] at h2 <;> first | rfl | (simp [ren, undef] at h2; done)
    | some x =>
      rw [hh] at h2
      simp only [Option.getD_some] at h2
      subst h2
      cases ht : ts d with
      | bool c => simp [ren]
      | pointer p => cases p <;> simp [ren]
      | slice p _ _ => cases p <;> simp [ren]
      | map p => cases p <;> simp [ren]
      | _ => simp [ren]

theorem exec_call {P : Program} {ρ : Operand → Value} {o : Oper} {c : Call} {f : Operand} {g : FuncId} {first capt : Array Value} {w : World} (ho : o.op = .call c) (hf : c.callee = .value f) (hv : ρ f = .func (.func g) first capt)
    (he : ∀ (as : Array Value) (w : World), (callFunc g as).run P w = .ok (.enter g as) w) : (execOp ρ o).run P w = .ok (.enter g (first ++ c.args.map ρ ++ capt)) w := by
  simp [execOp, ho, resolve, hf, hv, Deferred.ofValue, invoke, he]

theorem comp_not_defer {P : Program} {o : Oper} {x : AIns} (h : comp P o = some x) : ∀ c, o.op ≠ .defer c := by
  intro c hc
  unfold comp at h
  rw [hc] at h
  simp at h

theorem cOpds_map {I : Inj} {ts : Ts} {ρ : Operand → Value} (hρ : Ev I ts ρ) : ∀ {xs : List Operand} {ys : List Opd}, cOpds xs = some ys → xs.map ρ = renL I (ys.map (ev ts)) ∧ InL I (ys.map (ev ts))
  | [], ys, h => by simp [cOpds] at h; subst h; simp [renL, InL]
  | x :: xs, ys, h => by
    simp only [cOpds, Option.bind_eq_some_iff, Option.map_eq_some_iff] at h
    obtain ⟨y, hy, zs, hz, rfl⟩ := h
    obtain ⟨e1, i1⟩ := hρ x y hy
    obtain ⟨e2, i2⟩ := cOpds_map hρ hz
    simp [renL, InL, e1, e2, i1, i2]

theorem comp_call {P : Program} {o : Oper} {f' : Opd} {as : List Opd} (h : comp P o = some (.call f' as)) : ∃ c f, o.op = .call c ∧ c.callee = .value f ∧ cOpd f = some f' ∧ cOpds c.args.toList = some as := by
  unfold comp at h
  cases ho : o.op <;> rw [ho] at h <;> simp only [Option.bind_eq_some_iff, Option.map_eq_some_iff, reduceCtorEq] at h
  case call c =>
    unfold cCall at h
    split at h
    · rename_i f hf
      simp only [Option.bind_eq_some_iff, Option.map_eq_some_iff] at h
      obtain ⟨f1, h1, as1, h2, h3⟩ := h
      simp at h3
      obtain ⟨rfl, rfl⟩ := h3
      exact ⟨c, f, rfl, hf, h1, h2⟩
    · simp at h
    · exfalso
      repeat' (first
        | (simp at h; done)
        | (simp only [Option.bind_eq_some_iff] at h; obtain ⟨_, _, h⟩ := h)
        | (simp only [Option.map_eq_some_iff] at h; obtain ⟨_, _, h⟩ := h)
        | split at h)
  case makeMap t r => cases r <;> simp at h
  all_goals exfalso
  all_goals
    repeat' (first
      | (simp at h; done)
      | (simp only [Option.bind_eq_some_iff] at h; obtain ⟨_, _, h⟩ := h)
      | (simp only [Option.map_eq_some_iff] at h; obtain ⟨_, _, h⟩ := h)
      | split at h
      | (obtain ⟨_, _, h⟩ := h))

section
variable {P : Program} {ro : Option Nat} {n lo base : Nat}

theorem upon_val {o : Oper} {a : Act} {w w' : World} {nx : Next} {v : Value} {K : Act → World → Prop} {Q : Exit → Act → World → Prop} (hd : ∀ c, o.op ≠ .defer c)
    (hr : (execOp a.eval o).run P w = .ok nx w') (hn : nx = .value v ∨ (nx = .skip ∧ v = undef)) (hK : K (a.put o.dst v) w') : o.wpIn (WR ro) 0 P a w K Q := by
  refine ⟨fun _ _ => trivial, ?_⟩
  rw [Oper.semAt_eq _ _ _ hd, hr]
  rcases hn with rfl | ⟨rfl, rfl⟩
  · exact hK
  · exact hK

theorem upon_call {o : Oper} {a : Act} {w : World} {g : FuncId} {as : Array Value} {K : Act → World → Prop} {Q : Exit → Act → World → Prop} (hd : ∀ c, o.op ≠ .defer c)
    (hr : (execOp a.eval o).run P w = .ok (.enter g as) w) (hc : Calls P g as w fun e w' => ∃ v, e = .returned v ∧ K (a.put o.dst v) w') : o.wpIn (WR ro) 0 P a w K Q := by
  refine ⟨fun _ _ => trivial, ?_⟩
  rw [Oper.semAt_eq _ _ _ hd, hr]
  refine ⟨fun h => by simp [WR, Fence.wide] at h, callsIn_WR (hc.mono ?_)⟩
  rintro e w' ⟨v, rfl, hK⟩
  exact hK

theorem AF.acall {g : FuncId} {first capt args : List Value} {h h' : H} {v : Value} (hcall : AF P g lo h (first ++ args ++ capt) v h') : ACall P (.func (.func g) ⟨first⟩ ⟨capt⟩) lo h args v h' := by
  refine ⟨hcall.quiet, fun o c f ro a I w K Q ho hcal ef eas k iF ias hK => ?_⟩
  simp only [ren, renFn, In, InFn, true_and] at ef iF
  refine upon_call (fun c' e => by rw [ho] at e; simp at e) (exec_call ho hcal ef hcall.enters) ?_
  have harg : ((⟨renL I first⟩ : Array Value) ++ c.args.map a.eval ++ ⟨renL I capt⟩) = ⟨renL I (first ++ args ++ capt)⟩ := by
    apply Array.ext'
    simp [renL_append, eas]
  rw [harg]
  refine (hcall.calls I w k (by rw [InL_append, InL_append]; exact ⟨⟨iF.1, ias⟩, iF.2⟩)).mono ?_
  rintro e w1 ⟨J, hwent, hin, rfl⟩
  exact ⟨_, rfl, hK J w1 hwent hin⟩

theorem run_ops {q : Bool} {ops : Array Oper} {xs : List AOper} {K : Ts → H → Prop} (hx : cOpers P n ops ops.toList = some xs) (hlo : lo ≤ base) : ∀ (m i : Nat), i + m = xs.length → ∀ (ts : Ts) (h : H), base + xs.length ≤ h.next → Run P lo q base i (xs.drop i) K ts h →
    ∃ ts' h', K ts' h' ∧ Quiet lo h h' ∧ ∀ ro I w a, Rel I h w → TsRel I n ts a.tmps → (∀ j, i ≤ j → j < xs.length → ¬ I.dom (base + j)) → ∀ Q : Exit → Act → World → Prop,
      (∀ J w' a', Went I J lo base h' w w' → TsRel J n ts' a'.tmps → a'.defers = a.defers → Q .normal a' w') → wpOpsIn (WR ro) 0 P ops Q (List.range' i m) a w
  | 0, i, hi, ts, h, hn, hr => by
    rw [List.drop_of_length_le (by omega)] at hr
    refine ⟨ts, h, hr, Quiet.refl _ _, fun ro I w a k t _ Q hQ => ?_⟩
    simp only [List.range'_zero, wpOpsIn]
    exact hQ I w a (Went.refl k) t rfl
  | m + 1, i, hi, ts, h, hn, hr => by
    obtain ⟨hlen, hget⟩ := cOpers_get hx
    have hil : i < xs.length := by omega
    have hio : i < ops.toList.length := by omega
    obtain ⟨x, hxi, hxo⟩ := hget i ops.toList[i] (List.getElem?_eq_getElem hio)
    have hoi : ops[i]? = some ops.toList[i] := by rw [← Array.getElem?_toList]; exact List.getElem?_eq_getElem hio
    generalize ops.toList[i] = o at hxo hoi
    rw [List.drop_eq_getElem_cons hil] at hr
    have hxe : xs[i] = x := by rw [List.getElem?_eq_getElem hil] at hxi; simpa using hxi
    rw [hxe] at hr
    simp only [cOper, Option.bind_eq_some_iff] at hxo
    obtain ⟨gd, hgd, ins, hins, hxo⟩ := hxo
    split at hxo
    · rename_i hok
      simp only [Bool.and_eq_true] at hok
      simp only [Option.some.injEq] at hxo
      subst hxo
      simp only [Run] at hr
      have hdef := comp_not_defer hins
      have hm : i + 1 + m = xs.length := by omega
      split at hr
      · rename_i hw
        cases ins with
        | op ao =>
          simp only at hr
          obtain ⟨v, h1, ha, hr⟩ := hr
          have hnx := aop_next ha
          have hq := aop_quiet ha (nid := base + i) (by omega) (by omega)
          obtain ⟨ts', h', hK, hq', hrest⟩ := run_ops hx hlo m (i + 1) hm _ _ (by rw [hnx]; exact hn) hr
          refine ⟨ts', h', hK, hq.trans hq', fun ro I w a k t hfr Q hQ => ?_⟩
          obtain ⟨J, w1, nx, ⟨hg, hdom, hold⟩, hrel, hin, hext, hrun, hnx'⟩ := sim_op t.ev hins hok.1 k (hfr i (Nat.le_refl i) hil) (by omega) (by omega) ha
          rw [List.range'_succ]
          simp only [wpOpsIn, hoi, wanted_eq t hgd, hw, if_true]
          refine upon_val (v := ren J v) hdef hrun (hnx'.imp id (fun e => ⟨e.1, by rw [e.2]; exact (ren_undef J).1⟩)) ?_
          refine hrest ro J w1 _ hrel ((t.le hg.le).put hin hok.2) (fun j hj hjl d => ?_) Q (fun J' w' a' hw' t' hd' => ?_)
          · rcases hdom _ d with d | d
            · exact hfr j (by omega) hjl d
            · omega
          · refine hQ J' w' a' ?_ t' (hd'.trans (Act.put_defers' a o.dst (ren J v)))
            exact Went.trans ⟨hg, fun r d => (hdom r d).imp id (fun e => by omega), hold, hrel, hext⟩ hw' (Nat.le_refl _)
        | call f args =>
          simp only at hr
          obtain ⟨v, h1, hcall, hr⟩ := hr
          replace hcall := hcall.mono (lo' := lo) (by cases q <;> simp; omega)
          obtain ⟨ts', h', hK, hq', hrest⟩ := run_ops hx hlo m (i + 1) hm _ _ (Nat.le_trans hn hcall.quiet.next) hr
          refine ⟨ts', h', hK, hcall.quiet.trans hq', fun ro I w a k t hfr Q hQ => ?_⟩
          obtain ⟨c, f0, ho, hcal, hcf, hcas⟩ := comp_call hins
          obtain ⟨ef, iF⟩ := t.ev f0 f hcf
          obtain ⟨eas, ias⟩ := cOpds_map t.ev hcas
          rw [List.range'_succ]
          simp only [wpOpsIn, hoi, wanted_eq t hgd, hw, if_true]
          refine hcall.run o c f0 ro a I w _ Q ho hcal ef eas k iF ias fun J w1 hwent hin => ?_
          refine hrest ro J w1 _ hwent.rel ((t.le hwent.grows.le).put hin hok.2) (fun j hj hjl d => ?_) Q (fun J' w' a' hw' t' hd' => ?_)
          · rcases hwent.dom _ d with d | d
            · exact hfr j (by omega) hjl d
            · omega
          · refine hQ J' w' a' ?_ t' (hd'.trans (Act.put_defers' a o.dst (ren J v)))
            exact Went.trans ⟨hwent.grows, fun r d => (hwent.dom r d).imp id (fun e => by omega), hwent.old, hwent.rel, hwent.ext⟩ hw' (Nat.le_refl _)
      · rename_i hw
        obtain ⟨ts', h', hK, hq', hrest⟩ := run_ops hx hlo m (i + 1) hm _ _ hn hr
        refine ⟨ts', h', hK, hq', fun ro I w a k t hfr Q hQ => ?_⟩
        rw [List.range'_succ]
        have hw' : awanted ts gd = false := by simpa using hw
        simp only [wpOpsIn, hoi, wanted_eq t hgd, hw', Bool.false_eq_true, if_false]
        refine ⟨fun _ _ => trivial, ?_⟩
        have hu := (ren_undef I)
        have tp := t.put (v := undef) hu.2 hok.2
        rw [hu.1] at tp
        exact hrest ro I w _ k tp (fun j hj hjl => hfr j (by omega) hjl) Q (fun J' w' a' hw' t' hd' => hQ J' w' a' hw' t' (hd'.trans (Act.put_defers' a o.dst undef)))
    · simp at hxo

/-- Rows put aside for a region. -/
def H.bump (h : H) (k : Nat) : H := ⟨h.get, h.next + k⟩
theorem Rel.bump {I : Inj} {h : H} {w : World} (k : Rel I h w) (m : Nat) : Rel I (h.bump m) w := ⟨k.rows, fun r d => Nat.lt_of_lt_of_le (k.lt r d) (Nat.le_add_right _ _), k.size, k.base, k.inj, fun r hr => k.clean r (Nat.le_trans (Nat.le_add_right _ _) hr)⟩

theorem WT.reg {tp q : Bool} {id : Nat} {ops : Array Oper} {xs : List AOper} {Q : Exit → Ts → H → Prop} {ts : Ts} {h : H} (hx : cOpers P n ops ops.toList = some xs) (hlo : lo ≤ h.next) (hr : Run P lo q h.next 0 xs (Q .normal) ts (h.bump xs.length)) :
    WT (TC tp P (.region id ops false)) n lo Q ts h := by
  have hlen := (cOpers_get hx).1
  obtain ⟨ts', h', hK, hq, hrest⟩ := run_ops hx hlo xs.length 0 (by omega) ts (h.bump xs.length) (Nat.le_refl _) (by simpa using hr)
  refine ⟨.normal, ts', h', hK, ⟨Nat.le_trans (Nat.le_add_right _ _) hq.next, hq.same, fun hc => hq.clean fun r hr => hc r (Nat.le_trans (Nat.le_add_right _ _) hr)⟩, fun ro I w a k t _ => wpIn_region ?_⟩
  have := hrest ro I w a (k.bump _) t (fun j _ _ d => by have := k.lt _ d; omega) (fun e' a' w' => e' = .normal ∧ ∃ J, Went I J lo h.next h' w w' ∧ TsRel J n ts' a'.tmps ∧ ∃ ms, a'.defers = ms ++ a.defers ∧ Marks J w w' ms)
    (fun J w' a' hw t' hd => ⟨rfl, J, hw, t', [], hd, Marks.nil _ _ _⟩)
  rw [List.range_eq_range', show ops.size = xs.length by rw [hlen]; simp]
  exact this

end
end AE
