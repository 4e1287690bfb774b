/- Code, compiled; its weakest precondition; a function's contract out of its body. -/
import Derived.Test.YthajcipblfchiaaAEDreg
import Derived.Test.YthajcipblfchiaaAEYield
import Derived.RangeFuncLeaves
set_option linter.unusedVariables false
set_option linter.unusedSimpArgs false
set_option linter.unusedSectionVars false
namespace AE
open Go Go.RowKit

/-- The pairs of addresses that no order ties. -/
def apOf (ops : Array Oper) (xs : List AOper) : List (Opd × Opd) :=
  let ms := masks ops xs.length
  (List.range xs.length).flatMap fun j => (List.range j).flatMap fun i => match xs[i]?, xs[j]? with
    | some x, some y => if ord ms i j then [] else clash x y
    | _, _ => []

def cReg (P : Program) (n : Nat) (ops : Array Oper) (draw : Bool) : Option ACode :=
  (cOpers P n ops ops.toList).bind fun xs => if draw then (if dOk ops xs (apOf ops xs) then some (.dreg xs (apOf ops xs)) else none) else some (.reg xs)

def cCode (P : Program) (n : Nat) : Bool → Code → Option ACode
  | _, .skip => some .skip
  | _, .label _ => some .skip
  | _, .ret => some .ret
  | _, .exit id => some (.exit id)
  | tp, .seq a b => (cCode P n tp a).bind fun x => (cCode P n tp b).map (.seq x)
  | tp, .cond c a b => (cOpd c).bind fun c' => (cCode P n tp a).bind fun x => (cCode P n tp b).map (.cond c' x)
  | tp, .block id c => (cCode P n tp c).map (.block id)
  | tp, .loop c => (cCode P n tp c).map .loop
  | tp, .scope c => cCode P n tp c
  | _, .region _ ops draw => cReg P n ops draw
  | tp, .rangeFunc f ps asg body => if tp = true ∧ ps.toList.all (fun p => decide (p < n)) = true then (cOpd f).bind fun f' => (cCode P n false asg).bind fun A => (cCode P n false body).map fun B => .range f' ps.toList n asg body A B else none
  | _, _ => none

def iter (F : (Ts → H → Prop) → Ts → H → Prop) : Nat → Ts → H → Prop
  | 0 => fun _ _ => False
  | k + 1 => F (iter F k)

def wpA (P : Program) (lo : Nat) : ACode → (Exit → Ts → H → Prop) → Ts → H → Prop
  | .skip, Q => Q .normal
  | .ret, Q => Q .ret
  | .exit id, Q => Q (.exit id)
  | .seq a b, Q => wpA P lo a (thenQ (wpA P lo b Q) Q)
  | .cond c a b, Q => fun ts h => ∃ t, ev ts c = .bool t ∧ if t = true then wpA P lo a Q ts h else wpA P lo b Q ts h
  | .block id c, Q => wpA P lo c (blockQ id Q)
  | .loop c, Q => fun ts h => ∃ k, iter (fun K => wpA P lo c (thenQ K Q)) k ts h
  | .reg ops, Q => fun ts h => Run P lo false h.next 0 ops (Q .normal) ts (h.bump ops.length)
  | .dreg ops ap, Q => fun ts h => Run P lo true h.next 0 ops (fun ts' h' => Apart ap ts' ∧ Q .normal ts' h') ts (h.bump ops.length)
  | .range f ps n asg body _ _, Q => fun ts h => ∃ g first capt, ev ts f = .func (.func g) ⟨first⟩ ⟨capt⟩ ∧ ∃ v h', AF P g lo (h.enter (loop0 n ts ps asg body)) (first ++ [.func (.yield h.next) ⟨[]⟩ ⟨[]⟩] ++ capt) v h' ∧
      ∃ L, h'.get h.next = some (.loop L) ∧ L.state ≠ .busy ∧ Q (pendE L.pend) ts (h'.put h.next .gone)

section
variable {P : Program} {n lo : Nat}

theorem WT.strong {T : Tr} {Q : Exit → Ts → H → Prop} {ts : Ts} {h : H} (a : WT T n lo Q ts h) : WT T n lo (fun e ts' h' => Q e ts' h' ∧ Quiet lo h h') ts h :=
  let ⟨e, ts', h', q, hq, g⟩ := a; ⟨e, ts', h', ⟨q, hq⟩, hq, g⟩

def ng (Q : Exit → Ts → H → Prop) : Exit → Ts → H → Prop := fun e ts h => (∀ l, e ≠ .goto l) ∧ Q e ts h

theorem wpA_ng (hm : P.follows .mixedOrders = true) : ∀ (C : Code) (tp : Bool) (A : ACode) (Q : Exit → Ts → H → Prop) (ts : Ts) (h : H), cCode P n tp C = some A → lo ≤ h.next → wpA P lo A Q ts h → WT (TC tp P C) n lo (ng Q) ts h := by
  intro C
  induction C with
  | skip => intro tp A Q ts h hc hl hw; simp [cCode] at hc; subst hc; exact WT.skip ⟨by simp, hw⟩
  | label l => intro tp A Q ts h hc hl hw; simp [cCode] at hc; subst hc; exact WT.label ⟨by simp, hw⟩
  | ret => intro tp A Q ts h hc hl hw; simp [cCode] at hc; subst hc; exact WT.ret ⟨by simp, hw⟩
  | exit id => intro tp A Q ts h hc hl hw; simp [cCode] at hc; subst hc; exact WT.exit ⟨by simp, hw⟩
  | scope c ih =>
    intro tp A Q ts h hc hl hw
    refine WT.scope ((ih tp A Q ts h hc hl hw).mono ?_)
    rintro e ts' h' ⟨hg, q⟩
    exact ⟨hg, hg, q⟩
  | seq x y ihx ihy =>
    intro tp A Q ts h hc hl hw
    simp only [cCode, Option.bind_eq_some_iff, Option.map_eq_some_iff] at hc
    obtain ⟨a, ha, b, hb, rfl⟩ := hc
    refine WT.seq ((ihx tp a _ ts h ha hl hw).strong.mono ?_)
    rintro e ts' h' ⟨⟨hg, q⟩, hq⟩
    cases e <;> first | exact ⟨hg, q⟩ | exact ihy tp b Q ts' h' hb (Nat.le_trans hl hq.next) q
  | cond c x y ihx ihy =>
    intro tp A Q ts h hc hl hw
    simp only [cCode, Option.bind_eq_some_iff, Option.map_eq_some_iff] at hc
    obtain ⟨c', hc', a, ha, b, hb, rfl⟩ := hc
    obtain ⟨t, ht, hw⟩ := hw
    refine WT.cond hc' ht ?_
    cases t
    · exact ihy tp b Q ts h hb hl (by simpa using hw)
    · exact ihx tp a Q ts h ha hl (by simpa using hw)
  | block id c ih =>
    intro tp A Q ts h hc hl hw
    simp only [cCode, Option.map_eq_some_iff] at hc
    obtain ⟨a, ha, rfl⟩ := hc
    refine WT.block ((ih tp a _ ts h ha hl hw).mono ?_)
    rintro e ts' h' ⟨hg, q⟩
    cases e <;> first | exact ⟨hg, q⟩ | skip
    rename_i id'
    simp only [blockQ] at q ⊢
    split
    · rename_i hid; rw [if_pos hid] at q; exact ⟨by simp, q⟩
    · rename_i hid; rw [if_neg hid] at q; exact ⟨by simp, q⟩
  | loop c ih =>
    intro tp A Q ts h hc hl hw
    simp only [cCode, Option.map_eq_some_iff] at hc
    obtain ⟨a, ha, rfl⟩ := hc
    obtain ⟨k, hw⟩ := hw
    refine WT.loop ?_
    induction k generalizing ts h with
    | zero => exact hw.elim
    | succ k ihk =>
      refine WT.round ((ih tp a _ ts h ha hl hw).strong.mono ?_)
      rintro e ts' h' ⟨⟨hg, q⟩, hq⟩
      cases e <;> first | exact ⟨hg, q⟩ | exact ihk ts' h' (Nat.le_trans hl hq.next) q
  | region id ops draw =>
    intro tp A Q ts h hc hl hw
    simp only [cCode, cReg, Option.bind_eq_some_iff] at hc
    obtain ⟨xs, hxs, hc⟩ := hc
    cases draw
    · simp at hc; subst hc
      refine (WT.reg hxs hl (Q := fun e ts h => e = .normal ∧ Q .normal ts h) (q := false) (by simp only [wpA] at hw; simpa using hw)).mono ?_
      rintro e ts' h' ⟨rfl, q⟩
      exact ⟨by simp, q⟩
    · simp only [if_true] at hc
      split at hc
      · rename_i hd
        simp at hc; subst hc
        refine (WT.dreg hm hxs hd hl (Q := fun e ts h => e = .normal ∧ Q .normal ts h) (by simp only [wpA] at hw; simpa using hw)).mono ?_
        rintro e ts' h' ⟨rfl, q⟩
        exact ⟨by simp, q⟩
      · simp at hc
  | rangeFunc f ps x y ihx ihy =>
    intro tp A Q ts h hc hl hw
    simp only [cCode] at hc
    split at hc
    · rename_i htp
      obtain ⟨rfl, -⟩ := htp
      simp only [Option.bind_eq_some_iff, Option.map_eq_some_iff] at hc
      obtain ⟨f', hf, a, ha, b, hb, rfl⟩ := hc
      obtain ⟨g, first, capt, hv, v, h', haf, L, hL, hs, q⟩ := hw
      obtain ⟨ps⟩ := ps
      exact WT.range hf hv hl haf hL hs ⟨by cases L.pend <;> simp [pendE], q⟩
    · simp at hc
  | _ => intro tp A Q ts h hc hl hw; simp [cCode] at hc

theorem wpA_sound (hm : P.follows .mixedOrders = true) (C : Code) (A : ACode) (Q : Exit → Ts → H → Prop) (ts : Ts) (h : H) {tp : Bool} (hc : cCode P n tp C = some A) (hl : lo ≤ h.next) (hw : wpA P lo A Q ts h) : WT (TC tp P C) n lo Q ts h :=
  (wpA_ng hm C tp A Q ts h hc hl hw).mono fun _ _ _ q => q.2

/-- A call of yield, by what the compiled assignment and body come to. -/
def YA (P : Program) (lo r : Nat) (A B : ACode) (L : ALoop) (args : List Value) (h : H) (R : Value → H → Prop) : Prop :=
  wpA P lo A (fun e ts1 h1 => e = .normal ∧ ∃ L1, h1.get r = some (.loop L1) ∧ L1.state = .ready ∧
    wpA P lo B (fun e _ h2 => ∃ p L2, roundEnd e = some p ∧ h2.get r = some (.loop L2) ∧ R (.bool (pendB p)) (h2.put r (.loop (ended L2 p)))) ts1 (h1.put r (.loop (busy L1)))) (setPs L.params args L.tmps) h

theorem YA.call (hm : P.follows .mixedOrders = true) {r : Nat} {A B : ACode} {L : ALoop} {args : List Value} {h : H} {R : Value → H → Prop} (hA : cCode P L.size false L.asg = some A) (hB : cCode P L.size false L.body = some B) (hg : h.get r = some (.loop L))
    (hlo : lo ≤ r) (hr : r < h.next) (hlen : args.length = L.params.length) (hps : L.params.all (fun p => decide (p < L.size)) = true) (hw : YA P lo r A B L args h R) : ∃ v h', R v h' ∧ ACall P (.func (.yield r) ⟨[]⟩ ⟨[]⟩) lo h args v h' := by
  refine yield_call hg hlo hr hlen (fun p hp => by simpa using List.all_eq_true.1 hps p hp) ?_
  refine (wpA_sound hm _ A _ _ _ hA (by omega) hw).strong.mono ?_
  rintro e ts1 h1 ⟨⟨rfl, L1, hg1, hs1, hw1⟩, hq1⟩
  refine ⟨rfl, L1, hg1, hs1, wpA_sound hm _ B _ _ _ (by exact hB) ?_ hw1⟩
  have := hq1.next
  show lo ≤ h1.next
  omega

/-! ### pieces of a loaded function, by place -/

def regOps (r : Nat) : Code → Option (Array Oper)
  | .region id ops _ => if id = r then some ops else none
  | .seq a b | .cond _ a b | .rangeFunc _ _ a b => (regOps r a).orElse fun _ => regOps r b
  | .block _ c | .loop c | .scope c => regOps r c
  | _ => none
def rawOp (f : Func) (r i : Nat) : Oper := ((f.body.bind (regOps r)).bind (·[i]?)).getD default
def rfs : Code → List (Code × Code)
  | .rangeFunc _ _ a b => (a, b) :: (rfs a ++ rfs b)
  | .seq a b | .cond _ a b => rfs a ++ rfs b
  | .block _ c | .loop c | .scope c => rfs c
  | _ => []
def rfAt (f : Func) (i : Nat) : Code × Code := ((f.body.bind fun c => (rfs c)[i]?)).getD (.skip, .skip)

/-! ### functions -/

/-- What a function hands back, by its result variables. -/
def ares1 (P : Program) (h : H) (ts : Ts) : ResultVar → Option Value
  | .tmp t => some (ts t)
  | .cell a t => match isAggT P t with
    | some true => (sizeT P t).bind fun n => xLoadn n h (ts a)
    | some false => xLoad1 h (ts a)
    | none => none
def ares (P : Program) (h : H) (ts : Ts) : List ResultVar → Option Value
  | [] => some (.tuple #[])
  | [r] => ares1 P h ts r
  | [r, s] => (ares1 P h ts r).bind fun x => (ares1 P h ts s).map fun y => .tuple #[x, y]
  | [r, s, t] => (ares1 P h ts r).bind fun x => (ares1 P h ts s).bind fun y => (ares1 P h ts t).map fun z => .tuple #[x, y, z]
  | _ => none

def res1 (tmps : Array Value) : ResultVar → Sem Value
  | .tmp t => pure (tmps.getD t undef)
  | .cell a t => do loadVar t (← asAddr (tmps.getD a undef))

theorem run_res1 {I : Inj} {ts : Ts} {h : H} {w : World} {tmps : Array Value} {r : ResultVar} {v : Value} (t : TsRel I n ts tmps) (k : Rel I h w) (hv : ares1 P h ts r = some v) : In I v ∧ (res1 tmps r).run P w = .ok (ren I v) w := by
  cases r with
  | tmp i =>
    simp [ares1] at hv; subst hv
    exact ⟨(t.2 i).2, by simp [res1, (t.2 i).1]⟩
  | cell a ty =>
    have t' : TsRel I n ts (Act.mk tmps []).tmps := t
    have hev := t'.ev
    have hrow : ∀ a' row, ev ts (.t a) = .pointer (some a') → h.get a'.block = some row → RowRel I a'.block w row := fun a' row hp hg => by
      have := (t.2 a).2
      simp only [ev] at hp
      rw [hp] at this
      exact k.rows _ _ hg (dom_of_inA (by simpa only [In] using this))
    have hp : ∀ b, (ts a) = .pointer (some b) → ∃ c, tmps.getD a undef = .pointer (some c) := fun b hb => by
      have h1 := (t.2 a).1
      have h2 := (t.2 a).2
      rw [hb] at h1 h2
      simp only [In] at h2
      obtain ⟨c, hc⟩ := renA_some h2
      exact ⟨c, by rw [h1]; simp [ren, hc]⟩
    simp only [ares1] at hv
    have fin : ∀ b, ts a = .pointer (some b) → In I v ∧ (execOp (Act.mk tmps []).eval { (default : Oper) with op := .load ty (.tmp a) }).run P w = .ok (.value (ren I v)) w → In I v ∧ (res1 tmps (.cell a ty)).run P w = .ok (ren I v) w := by
      rintro b hb ⟨h1, h2⟩
      refine ⟨h1, ?_⟩
      obtain ⟨c, hc⟩ := hp b hb
      simp only [execOp, Act.eval, hc, Instr.loadAt, Instr.sureAddr, Sem.run_bind, Sem.run_pure, Result.andThen_ok] at h2
      simp only [res1, hc, asAddr, Sem.run_bind, Sem.run_pure, Result.andThen_ok]
      cases hr : (loadVar ty c).run P w with
      | ok x w' => rw [hr] at h2; simp at h2; simp [h2]
      | halt x w' => rw [hr] at h2; simp at h2
    split at hv
    · rename_i ht
      simp only [Option.bind_eq_some_iff] at hv
      obtain ⟨m, hsz, hv⟩ := hv
      have hb : ∃ b, ts a = .pointer (some b) := by
        unfold xLoadn at hv; split at hv
        · rename_i b hb; exact ⟨b, hb⟩
        · simp at hv
      obtain ⟨b, hb⟩ := hb
      exact fin b hb (run_loadn hev (o := { (default : Oper) with op := .load ty (.tmp a) }) rfl ht hsz (x := .tmp a) (x' := .t a) rfl hv hrow)
    · rename_i ht
      have hb : ∃ b, ts a = .pointer (some b) := by
        unfold xLoad1 at hv; split at hv
        · rename_i b hb; exact ⟨b, hb⟩
        · simp at hv
      obtain ⟨b, hb⟩ := hb
      exact fin b hb (run_load1 hev (o := { (default : Oper) with op := .load ty (.tmp a) }) rfl ht (x := .tmp a) (x' := .t a) rfl hv hrow)
    · simp at hv

theorem run_results {fn : Func} {rs : List ResultVar} (hf : fn.results = ⟨rs⟩) {I : Inj} {ts : Ts} {h : H} {w : World} {tmps : Array Value} {v : Value} (t : TsRel I n ts tmps) (k : Rel I h w) (hv : ares P h ts rs = some v) :
    In I v ∧ (results fn tmps).run P w = .ok (ren I v) w := by
  have hres : results fn tmps = (do let vs ← fn.results.mapM (res1 tmps); pure (if h : vs.size = 1 then vs[0] else .tuple vs)) := by
    have e : res1 tmps = fun r => (match r with
      | .tmp t => pure (tmps.getD t undef)
      | .cell a t => do loadVar t (← asAddr (tmps.getD a undef)) : Sem Value) := by
      funext r
      cases r <;> rfl
    unfold results
    rw [e]
    rfl
  rw [hres, hf]
  match rs, hv with
  | [], hv =>
    simp [ares] at hv; subst hv
    exact ⟨by simp [In, InL], by simp [ren, renL]⟩
  | [r], hv =>
    obtain ⟨i1, r1⟩ := run_res1 t k hv
    exact ⟨i1, by simp [r1]⟩
  | [r, s], hv =>
    simp only [ares, Option.bind_eq_some_iff, Option.map_eq_some_iff] at hv
    obtain ⟨x, hx, y, hy, rfl⟩ := hv
    obtain ⟨i1, r1⟩ := run_res1 t k hx
    obtain ⟨i2, r2⟩ := run_res1 t k hy
    exact ⟨by simp [In, InL, i1, i2], by simp [r1, r2, ren, renL]⟩
  | [r, s, q], hv =>
    simp only [ares, Option.bind_eq_some_iff, Option.map_eq_some_iff] at hv
    obtain ⟨x, hx, y, hy, z, hz, rfl⟩ := hv
    obtain ⟨i1, r1⟩ := run_res1 t k hx
    obtain ⟨i2, r2⟩ := run_res1 t k hy
    obtain ⟨i3, r3⟩ := run_res1 t k hz
    exact ⟨by simp [In, InL, i1, i2, i3], by simp [r1, r2, r3, ren, renL]⟩

/-- A function of the program, compiled. -/
structure Fun (P : Program) (f : FuncId) (n nargs : Nat) (A : ACode) (rs : List ResultVar) : Prop where
  mixed : P.follows .mixedOrders = true
  ex : ∃ fn c, P.funcs[f]? = some fn ∧ fn.body = some c ∧ fn.ntmps = n ∧ nargs ≤ n ∧ fn.results = ⟨rs⟩ ∧ cCode P n true c = some A ∧ (fn.name == "runtime.NumGoroutine") = false

/-- The temporaries at the beginning. -/
def ts0 (args : List Value) : Ts := fun i => (args[i]?).getD undef

theorem take_mark {I J : Inj} {h' : H} {w0 w : World} {b lo : Nat} (hb : w.heap[b]? = some (.deferred (some []))) (hnew : w0.heap.size ≤ b) (hout : ∀ r s d, J.at_ r s ≠ some (b, d)) (k : Rel J h' w) (e : Ext I lo w0 w) :
    ∃ w', (Instr.takeDeferred b).run P w = .ok [] w' ∧ Rel J h' w' ∧ Ext I lo w0 w' ∧ But b w w' := by
  refine ⟨{ w with heap := w.heap.setIfInBounds b (.deferred none) }, ?_, ?_⟩
  · simp [Instr.takeDeferred, getObj, setObj, Sem.run, hb]
  · have hbut : But b w { w with heap := w.heap.setIfInBounds b (.deferred none) } := ⟨rfl, rfl, rfl, by simp, fun j hj => by simp [Array.getElem?_setIfInBounds_ne (Ne.symm hj)]⟩
    refine ⟨⟨fun r row hr d => (k.rows r row hr d).le (Le.refl J) (fun _ _ e => e) (fun b' ⟨s, d, hb'⟩ => hbut.block b' (fun e => hout r s d (e ▸ hb'))), k.lt, fun r s b' d e' => by rw [hbut.size]; exact k.size _ _ _ _ e', by rw [hbut.size]; exact k.base, k.inj, k.clean⟩,
      ⟨e.os, e.tape, e.output, by rw [hbut.size]; exact e.size, fun b' hb' hr => ?_⟩, hbut⟩
    rw [hbut.block b' (by omega), e.block b' hb' hr]

theorem leave_marks {fn : Func} {tmps : Array Value} {R : Ending → World → Prop} {I J : Inj} {h' : H} {w0 : World} (hR : ∀ w, Rel J h' w → Ext I lo w0 w → ∃ v, (results fn tmps).run P w = .ok v w ∧ R (.returned v) w) :
    ∀ (ms : List Deferred) (w : World), Rel J h' w → Ext I lo w0 w → Marks J w0 w ms → LeavesInM Fence.wide 0 P fn tmps R ms .returning w
  | [], w, k, e, _ => hR w k e
  | m :: ms, w, k, e, hm => by
    obtain ⟨b, hmb, hnew, hlt, hheap, hout⟩ := hm.each m (by simp)
    obtain ⟨w', hrun, k', e', hbut⟩ := take_mark (P := P) hheap hnew hout k e
    refine ⟨by simp, .inl ⟨b, w', by rw [hmb], hrun, leave_marks hR ms w' k' e' ⟨fun m' hm' => ?_, (List.pairwise_cons.1 hm.apart).2⟩⟩⟩
    obtain ⟨b', h1, h2, h3, h4, h5⟩ := hm.each m' (by simp [hm'])
    have hne : b' ≠ b := fun eq => (List.pairwise_cons.1 hm.apart).1 m' hm' (by rw [hmb, h1, eq])
    exact ⟨b', h1, h2, by rw [hbut.size]; exact h3, by rw [hbut.block b' hne]; exact h4, h5⟩

/-- A call of f, with what is known of its outcome. -/
def AW (P : Program) (f : FuncId) (lo : Nat) (h : H) (args : List Value) (R : Value → H → Prop) : Prop := ∃ v h', R v h' ∧ AF P f lo h args v h'

theorem Fun.call {f : FuncId} {nargs : Nat} {A : ACode} {rs : List ResultVar} (F : Fun P f n nargs A rs) {h : H} {args : List Value} {R : Value → H → Prop} (ha : args.length = nargs) (hlo : lo ≤ h.next)
    (hw : wpA P lo A (fun e ts h' => (e = .normal ∨ e = .ret) ∧ ∃ v, ares P h' ts rs = some v ∧ R v h') (ts0 args) h) : AW P f lo h args R := by
  obtain ⟨fn, c, hf, hb, hn, hna, hrs, hcc, hname⟩ := F.ex
  obtain ⟨e, ts', h', ⟨he, v, hv, hR⟩, hq, hg⟩ := wpA_sound F.mixed c A _ _ _ hcc hlo hw
  refine ⟨v, h', hR, hq, fun as w => ?_, fun I w k ia => ?_⟩
  · have hne : ¬ fn.name = "runtime.NumGoroutine" := by simpa using hname
    simp [callFunc, hf, hne, hb, program, Sem.run]
  · refine callsIn_wide.1 (callsIn_of_wp_marks (F := Fence.wide) (n := 0) hf hb trivial ?_)
    have ht : TsRel I n (ts0 args) ((⟨renL I args⟩ : Array Value) ++ Array.replicate (fn.ntmps - (⟨renL I args⟩ : Array Value).size) undef) := by
      refine ⟨by simp; omega, fun i => ?_⟩
      rw [Array.getD_eq_getD_getElem?, Array.getElem?_append]
      by_cases hi : i < args.length
      · simp only [List.size_toArray, renL_length, hi, if_true, List.getElem?_toArray, renL_getElem?, ts0, List.getElem?_eq_getElem hi, Option.map_some, Option.getD_some]
        exact ⟨trivial, InL_get ia (List.getElem?_eq_getElem hi)⟩
      · simp only [List.size_toArray, renL_length, hi, if_false, ts0, List.getElem?_eq_none (Nat.le_of_not_lt hi), Option.getD_none]
        refine ⟨?_, (ren_undef I).2⟩
        rw [(ren_undef I).1, Array.getElem?_replicate]
        split <;> rfl
    have := hg none I w ⟨_, []⟩ k ht (fun _ => rfl)
    refine Go.wpIn_mono this ?_
    rintro e' a' w' ⟨rfl, J, hwent, t', ms, hd, hms⟩
    simp only [List.append_nil] at hd
    have hleave : LeavesInM Fence.wide 0 P fn a'.tmps (fun e w' => ∃ J, Went I J lo h.next h' w w' ∧ In J v ∧ e = .returned (ren J v)) ms .returning w' := by
      refine leave_marks (I := I) (J := J) (h' := h') (lo := lo) (fun w2 k2 e2 => ?_) ms w' hwent.rel hwent.ext hms
      obtain ⟨iv, hrun⟩ := run_results (P := P) hrs t' k2 hv
      exact ⟨_, hrun, J, ⟨hwent.grows, hwent.dom, hwent.old, k2, e2⟩, iv, rfl⟩
    rcases he with rfl | rfl
    · simp only [bodyPostM, hd]; exact hleave
    · simp only [bodyPostM, hd]; exact hleave

end
end AE
