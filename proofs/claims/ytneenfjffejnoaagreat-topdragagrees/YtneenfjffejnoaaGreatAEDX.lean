/- Code in which a call may come to many ends. -/
import Derived.Test.YtneenfjffejnoaaGreatAEMid
set_option linter.unusedVariables false
set_option linter.unusedSimpArgs false
set_option linter.unusedSectionVars false
namespace AE
open Go Go.RowKit
set_option linter.unusedVariables false


theorem WD.here {tp : Bool} {P : Program} {n lo : Nat} {Q : Exit → Ts → H → Prop} {ts : Ts} {h : H} {C : Code} {e : Exit} (hC : ∀ ro (Q : Exit → Act → World → Prop) a w, Q e a w → C.wpIn (WR ro) 0 P Q a w) (q : Q e ts h) : WD (TC tp P C) n lo Q ts h :=
 (WT.here (Q := Q) hC q).wd (TC_mono tp P C)
theorem WD.scope {tp : Bool} {P : Program} {n lo : Nat} {Q : Exit → Ts → H → Prop} {ts : Ts} {h : H} {c : Code} (a : WD (TC tp P c) n lo (ng Q) ts h) : WD (TC tp P (.scope c)) n lo Q ts h := by
 intro ro I w b k t htp
 refine wpIn_scope (Go.wpIn_mono (a ro I w b k t htp) ?_)
 rintro e' a' w' ⟨ts', h', J, ⟨hg, q⟩, r⟩
 exact ⟨hg, ts', h', J, q, r⟩

def wpD (P : Program) (lo : Nat) : ACode → (Exit → Ts → H → Prop) → Ts → H → Prop
 | .skip, Q => Q .normal
 | .ret, Q => Q .ret
 | .exit id, Q => Q (.exit id)
 | .seq a b, Q => wpD P lo a (thenQ (wpD P lo b Q) Q)
 | .cond c a b, Q => fun ts h => ∃ t, ev ts c = .bool t ∧ if t = true then wpD P lo a Q ts h else wpD P lo b Q ts h
 | .block id c, Q => wpD P lo c (blockQ id Q)
 | .loop c, Q => fun ts h => ∃ k, iter (fun K => wpD P lo c (thenQ K Q)) k ts h
 | .reg ops, Q => fun ts h => RunD P lo h.next 0 ops (Q .normal) ts (h.bump ops.length)
 | .dreg ops ap, Q => fun ts h => Run P lo true h.next 0 ops (fun ts' h' => Apart ap ts' ∧ Q .normal ts' h') ts (h.bump ops.length)
 | .range f ps n asg body _ _, Q => fun ts h => ∃ g first capt, ev ts f = .func (.func g) ⟨first⟩ ⟨capt⟩ ∧ AFD P g lo (h.enter (loop0 n ts ps asg body)) (first ++ [.func (.yield h.next) ⟨[]⟩ ⟨[]⟩] ++ capt) fun v h' =>
  ∃ L, h'.get h.next = some (.loop L) ∧ L.state ≠ .busy ∧ Q (pendE L.pend) ts (h'.put h.next .gone)
 | .next x a b, Q => nextQ lo x a b (Q .normal)

theorem cCut_wd {P : Program} {n lo id : Nat} {tp : Bool} {ops : Array Oper} {A : ACode} {Q : Exit → Ts → H → Prop} {ts : Ts} {h : H} (hm : P.follows .mixedOrders = true) (hc : cCut P n ops = some A) (hl : lo ≤ h.next) (hw : wpD P lo A Q ts h) : WD (TC tp P (.region id ops true)) n lo (ng Q) ts h := by
 simp only [cCut, Option.bind_eq_some_iff] at hc
 obtain ⟨xs, hxs, c, hfc, hc⟩ := hc
 split at hc
 ·rename_i hcut
  simp only [Option.bind_eq_some_iff] at hc
  obtain ⟨xs1, hxs1, hc⟩ := hc
  split at hc
  ·rename_i hd
   simp only [Option.some.injEq] at hc
   subst hc
   have C := cut_spec hcut
   have hcs := C.inn
   refine (WD.dcut hm C hxs (by simp; omega) (fun i hi => ?_) hxs1 hd hl (Q := fun e ts h => e = .normal ∧ Q .normal ts h) ?_).mono (TC_mono tp P _) ?_
   ·rw [Array.getElem?_extract]
    rw [if_pos byO]
    simp
   ·simp only [wpD, thenQ] at hw
    simpa using hw
   ·rintro e ts' h' ⟨rfl, q⟩
    exact ⟨by simp, q⟩
  ·simp at hc
 ·simp at hc


def AOper.isX (nd : List Nat) (x : AOper) : Bool := match x.ins with
 | .call (.t _) _ => true
 | .call (.c (.func (.func g) _ _)) _ => nd.any (Nat.beq g)
 | _ => false
def cSeg (P : Program) (n : Nat) (ops : Array Oper) (b c : Nat) : Option ACode :=
 (cOpers P n ((behind ops b).extract 0 c) ((behind ops b).extract 0 c).toList).bind fun xs =>
  if dOk ((behind ops b).extract 0 c) xs (apOf ((behind ops b).extract 0 c) xs) then some (.dreg xs (apOf ((behind ops b).extract 0 c) xs)) else none
def cPartsX (P : Program) (n : Nat) (ops : Array Oper) (xs : List AOper) : Nat → List Nat → Option ACode
 | b, [] => if b ≤ ops.size then cSeg P n ops b ops.size else none
 | b, c :: cs => if barrier ops c && barrier ops (c + 1) && decide (b ≤ c) && decide (c < ops.size) then
  (cSeg P n ops b c).bind fun A => (xs[c]?).bind fun x => if x.isC then (cPartsX P n ops xs (c + 1) cs).map fun B => .seq A (.seq (.reg [x]) B) else none
   else none
def ltOk (ops : Array Oper) : Bool := (List.range ops.size).all fun i => (bef ops i).all (· < i)
def cCutX (P : Program) (nd : List Nat) (n : Nat) (ops : Array Oper) : Option ACode :=
 (cOpers P n ops ops.toList).bind fun xs =>
  let cs := (List.range xs.length).filter fun i => match xs[i]? with | some x => x.isX nd | none => false
  if cs.isEmpty || !ltOk ops then none else cPartsX P n ops xs 0 cs

def cCodeX (P : Program) (nd : List Nat) (n : Nat) : Bool → Code → Option ACode
 | _, .skip => some .skip
 | _, .label _ => some .skip
 | _, .ret => some .ret
 | _, .exit id => some (.exit id)
 | tp, .seq a b => (cCodeX P nd n tp a).bind fun x => (cCodeX P nd n tp b).map (.seq x)
 | tp, .cond c a b => (cOpd c).bind fun c' => (cCodeX P nd n tp a).bind fun x => (cCodeX P nd n tp b).map (.cond c' x)
 | tp, .block id c => (cCodeX P nd n tp c).map (.block id)
 | tp, .loop c => (cCodeX P nd n tp c).map .loop
 | tp, .scope c => cCodeX P nd n tp c
 | tp, .region id ops draw => match (if draw then cCutX P nd n ops else none) with
   | some A => some A
   | none => cCodeN P n tp (.region id ops draw)
 | tp, .rangeFunc f ps asg body => if tp = true ∧ ps.toList.all (fun p => decide (p < n)) = true then (cOpd f).map fun f' => .range f' ps.toList n asg body .skip .skip else none
 | _, _ => some deadC

section
variable {P : Program} {n lo : Nat}
theorem seg_spec {ops : Array Oper} {b c : Nat} {A : ACode} (h : cSeg P n ops b c = some A) : ∃ xs ap, cOpers P n ((behind ops b).extract 0 c) ((behind ops b).extract 0 c).toList = some xs ∧ dOk ((behind ops b).extract 0 c) xs ap = true ∧ A = .dreg xs ap := by
 simp only [cSeg, Option.bind_eq_some_iff] at h
 obtain ⟨xs, hx, h⟩ := h
 split at h
 ·rename_i hd
  simp only [Option.some.injEq] at h
  exact ⟨xs, _, hx, hd, h.symm⟩
 ·simp at h

theorem parts_any {ops : Array Oper} {xs : List AOper} (hlt : ∀ k e, e ∈ bef ops k → e < k) (hx : cOpers P n ops ops.toList = some xs) {Q : Exit → Ts → H → Prop} {ro : Option Nat} : ∀ (cs : List Nat) (b : Nat) (A : ACode), cPartsX P n ops xs b cs = some A → (∀ i j, i < b → b ≤ j → j < ops.size → ord (masks ops ops.size) i j = true) →
 ∀ (ts : Ts) (h : H), lo ≤ h.next → wpD P lo A Q ts h → ∀ (I : Inj) (w : World) (a : Act) (arr : Array Bool), Rel I h w → TsRel I n ts a.tmps → arr.size = ops.size → (∀ j, listed arr j ↔ j < b) → ∀ (Q' : Exit → Act → World → Prop),
  (∀ ts' h' J w' a', Q .normal ts' h' → Quiet lo h h' → Went I J lo h.next h' w w' → TsRel J n ts' a'.tmps → a'.defers = a.defers → Q' .normal a' w') → wpAnyIn (WR ro) 0 P .any ops Q' (ops.size - b) arr a w
 | [], b, A, hc, hb, ts, h, hl, hw, I, w, a, arr, k, t, hsz, hli, Q', hQ => by
   simp only [cPartsX] at hc
   split at hc
   ·rename_i hbs
    obtain ⟨xs1, ap, hx1, hd1, rfl⟩ := seg_spec hc
    have := seg_any (ro := ro) (K := fun ts h => Q .normal ts h) (fuel2 := 0) (Q := Q') hlt hbs (Nat.le_refl _) (fun i j _ h1 h2 => by omega) hx1 hd1 hl hw k t hsz hli (fun ts1 h1 J w1 a1 hK hq hwent t1 hd arr' hsz' hl' => ?_)
    ·simpa using this
    ·refine ⟨?_, hQ ts1 h1 J w1 a1 hK hq hwent t1 hd⟩
     cases hr : Region.ready .any ops arr' with
     | nil => rfl
     | cons j js =>
       exfalso
       have := (ready_bef hsz').1 (show j ∈ Region.ready .any ops arr' by rw [hr]; simp)
       exact this.2.1 ((hl' j).2 this.1)
   ·simp at hc
 | c :: cs, b, A, hc, hb, ts, h, hl, hw, I, w, a, arr, k, t, hsz, hli, Q', hQ => by
   simp only [cPartsX] at hc
   split at hc
   ·rename_i hcond
    simp only [Bool.and_eq_true, decide_eq_true_eq] at hcond
    obtain ⟨⟨⟨hb1, hb2⟩, hbc⟩, hcs⟩ := hcond
    have hb1 := barrier_spec hb1
    have hb2 := barrier_spec hb2
    simp only [Option.bind_eq_some_iff] at hc
    obtain ⟨A1, hA1, x, hxc, hc⟩ := hc
    split at hc
    ·rename_i hisC
     simp only [Option.map_eq_some_iff] at hc
     obtain ⟨B, hB, rfl⟩ := hc
     obtain ⟨xs1, ap, hx1, hd1, rfl⟩ := seg_spec hA1
     obtain ⟨f, args, hi⟩ : ∃ f args, x.ins = .call f args := by
      unfold AOper.isC at hisC
      split at hisC
      ·rename_i f args hi; exact ⟨f, args, hi⟩
      ·simp at hisC
     have := seg_any (ro := ro) (K := fun ts h => RunD P lo h.next 0 [x] (fun ts h => wpD P lo B Q ts h) ts (h.bump 1)) (fuel2 := ops.size - c) (Q := Q') hlt hbc byO hb1 hx1 hd1 hl hw k t hsz hli (fun ts1 h1 J w1 a1 hK hq hwent t1 hd arr' hsz' hl' => ?_)
     ·rw [show ops.size - b = c - b + (ops.size - c) by omega]
      exact this
     ·have := call_any (ro := ro) (K := fun ts h => wpD P lo B Q ts h) (fuel2 := ops.size - (c + 1)) (Q := Q') hlt hcs hb1 hb2 hx hxc hi (Nat.le_trans hl hq.next) hK hwent.rel t1 hsz' hl' (fun ts2 h2 J2 w2 a2 hK2 hq2 hwent2 t2 hd2 arr2 hsz2 hl2 => ?_)
      ·rw [show ops.size - c = ops.size - (c + 1) + 1 by omega]
       exact this
      ·exact parts_any hlt hx cs (c + 1) B hB hb2 ts2 h2 (Nat.le_trans hl (Nat.le_trans hq.next hq2.next)) hK2 J2 w2 a2 arr2 hwent2.rel t2 hsz2 hl2 Q' fun ts' h' J' w' a' q hq' hw' t' hd' =>
        hQ ts' h' J' w' a' q ((hq.trans hq2).trans hq') ((hwent.trans hwent2 hq.next).trans hw' (Nat.le_trans hq.next hq2.next)) t' (hd'.trans (hd2.trans hd))
    ·simp at hc
   ·simp at hc

theorem cut_wd {tp : Bool} {id : Nat} {nd : List Nat} {ops : Array Oper} {A : ACode} {Q : Exit → Ts → H → Prop} {ts : Ts} {h : H} (hm : P.follows .mixedOrders = true) (hc : cCutX P nd n ops = some A) (hl : lo ≤ h.next) (hw : wpD P lo A Q ts h) : WD (TC tp P (.region id ops true)) n lo (ng Q) ts h := by
 simp only [cCutX, Option.bind_eq_some_iff] at hc
 obtain ⟨xs, hx, hc⟩ := hc
 split at hc
 ·simp at hc
 ·rename_i hcond
  simp only [Bool.or_eq_true, Bool.not_eq_true', not_or, Bool.not_eq_false] at hcond
  have hlt : ∀ k e, e ∈ bef ops k → e < k := fun k e he => by
   have hk : k < ops.size := by
    unfold bef at he
    split at he
    ·rename_i o ho; exact (Array.getElem?_eq_some_iff.1 ho).1
    ·simp at he
   have := List.all_eq_true.1 hcond.2 k (by simpa using hk)
   simpa using List.all_eq_true.1 this e he
  intro ro I w a k t _
  refine wpIn_region_any hm ?_
  have hno : ∀ j, ¬ listed (Array.replicate ops.size false) j := by
   intro j hj
   unfold listed at hj
   rw [Array.getD_eq_getD_getElem?, Array.getElem?_replicate] at hj
   split at hj <;> simp at hj
  have := parts_any (ro := ro) hlt hx _ 0 A hc (fun i j h _ _ => by omega) ts h hl hw I w.drew a (Array.replicate ops.size false) k.drew t (by simp) (fun j => ⟨fun hj => absurd hj (hno j), fun hj => by omega⟩)
   (fun e' a' w' => ∃ ts' h' J, ng Q e' ts' h' ∧ Quiet lo h h' ∧ Went I J lo h.next h' w w' ∧ TsRel J n ts' a'.tmps ∧ ∃ ms, a'.defers = ms ++ a.defers ∧ Marks J w w' ms)
   (fun ts' h' J w' a' q hq hwent t' hd => ⟨ts', h', J, ⟨by simp, q⟩, hq, ⟨⟨hwent.grows.le, hwent.grows.new⟩, hwent.dom, hwent.old, hwent.rel, ⟨hwent.ext.os, hwent.ext.tape, hwent.ext.output, hwent.ext.size, hwent.ext.block⟩⟩, t', [], hd, Marks.nil _ _ _⟩)
  simpa using this
end

section
variable {P : Program} {n lo : Nat}
theorem wpD_ng (hm : P.follows .mixedOrders = true) : ∀ (C : Code) (tp : Bool) (A : ACode) (Q : Exit → Ts → H → Prop) (ts : Ts) (h : H), cCodeN P n tp C = some A → lo ≤ h.next → wpD P lo A Q ts h → WD (TC tp P C) n lo (ng Q) ts h := by
 intro C
 induction C with
 | skip => intro tp A Q ts h hc hl hw; simp [cCodeN] at hc; subst hc; exact (WT.skip (Q := ng Q) ⟨by simp, hw⟩).wd (TC_mono tp P _)
 | label l => intro tp A Q ts h hc hl hw; simp [cCodeN] at hc; subst hc; exact (WT.label (Q := ng Q) ⟨by simp, hw⟩).wd (TC_mono tp P _)
 | ret => intro tp A Q ts h hc hl hw; simp [cCodeN] at hc; subst hc; exact (WT.ret (Q := ng Q) ⟨by simp, hw⟩).wd (TC_mono tp P _)
 | exit id => intro tp A Q ts h hc hl hw; simp [cCodeN] at hc; subst hc; exact (WT.exit (Q := ng Q) ⟨by simp, hw⟩).wd (TC_mono tp P _)
 | scope c ih =>
   intro tp A Q ts h hc hl hw
   refine WD.scope ((ih tp A Q ts h (scope_some hc).1 hl hw).mono (TC_mono tp P c) ?_)
   rintro e ts' h' ⟨hg, q⟩
   exact ⟨hg, hg, q⟩
 | seq x y ihx ihy =>
   intro tp A Q ts h hc hl hw
   simp only [cCodeN, Option.bind_eq_some_iff, Option.map_eq_some_iff] at hc
   obtain ⟨a, ha, b, hb, rfl⟩ := hc
   refine WD.seq (((ihx tp a _ ts h ha hl hw).strong (TC_mono tp P x)).mono (TC_mono tp P x) ?_)
   rintro e ts' h' ⟨⟨hg, q⟩, hq⟩
   cases e <;> first | exact ⟨hg, q⟩ | exact ihy tp b Q ts' h' hb (Nat.le_trans hl hq.next) q
 | cond c x y ihx ihy =>
   intro tp A Q ts h hc hl hw
   simp only [cCodeN, Option.bind_eq_some_iff, Option.map_eq_some_iff] at hc
   obtain ⟨c', hc', a, ha, b, hb, rfl⟩ := hc
   obtain ⟨t, ht, hw⟩ := hw
   refine WD.cond hc' ht ?_
   cases t
   ·exact ihy tp b Q ts h hb hl (by simpa using hw)
   ·exact ihx tp a Q ts h ha hl (by simpa using hw)
 | block id c ih =>
   intro tp A Q ts h hc hl hw
   simp only [cCodeN, Option.map_eq_some_iff] at hc
   obtain ⟨a, ha, rfl⟩ := hc
   refine WD.block ((ih tp a _ ts h ha hl hw).mono (TC_mono tp P c) ?_)
   rintro e ts' h' ⟨hg, q⟩
   cases e <;> first | exact ⟨hg, q⟩ | skip
   rename_i id'
   simp only [blockQ] at q ⊢
   split
   ·rename_i hid; rw [if_pos hid] at q; exact ⟨by simp, q⟩
   ·rename_i hid; rw [if_neg hid] at q; exact ⟨by simp, q⟩
 | loop c ih =>
   intro tp A Q ts h hc hl hw
   simp only [cCodeN, Option.map_eq_some_iff] at hc
   obtain ⟨a, ha, rfl⟩ := hc
   obtain ⟨k, hw⟩ := hw
   refine WD.loop ?_
   induction k generalizing ts h with
   | zero => exact hw.elim
   | succ k ihk =>
     refine WD.round (((ih tp a _ ts h ha hl hw).strong (TC_mono tp P c)).mono (TC_mono tp P c) ?_)
     rintro e ts' h' ⟨⟨hg, q⟩, hq⟩
     cases e <;> first | exact ⟨hg, q⟩ | exact ihk ts' h' (Nat.le_trans hl hq.next) q
 | region id ops draw =>
   intro tp A Q ts h hc hl hw
   rcases region_some hc with ⟨rfl, hc2⟩ | hc2
   ·exact cCut_wd hm hc2 hl hw
   rcases hc2 with hc2 | ⟨hdr, hc2⟩
   ·simp only [cReg, Option.bind_eq_some_iff] at hc2
    obtain ⟨xs, hxs, hc2⟩ := hc2
    cases draw
    ·simp at hc2; subst hc2
     simp only [wpD] at hw
     refine (WD.reg hxs hl (Q := fun e ts h => e = .normal ∧ Q .normal ts h) (by simpa using hw)).mono (TC_mono tp P _) ?_
     rintro e ts' h' ⟨rfl, q⟩
     exact ⟨by simp, q⟩
    ·simp only [if_true] at hc2
     split at hc2
     ·rename_i hdd
      simp at hc2; subst hc2
      refine ((WT.dreg hm hxs hdd hl (Q := fun e ts h => e = .normal ∧ Q .normal ts h) (by simp only [wpD] at hw; simpa using hw)).wd (TC_mono tp P _)).mono (TC_mono tp P _) ?_
      rintro e ts' h' ⟨rfl, q⟩
      exact ⟨by simp, q⟩
     ·simp at hc2
   ·obtain ⟨o1, o2, x, x', a, b, ho, h1, d1, g1, h2, d2, g2, ha, hb, hx, rfl⟩ := cNext_spec hc2
    subst hdr
    exact WD.next (Q := ng Q) ho h1 d1 g1 h2 d2 g2 ha hb hx (by
     obtain ⟨r, m, since, seen, c0, es, clock, e1, e2, e3, e4, e5, e6, e7, e8, e9⟩ := hw
     exact ⟨r, m, since, seen, c0, es, clock, e1, e2, e3, e4, e5, e6, e7, fun k => ⟨by simp, e8 k⟩, fun e he hs => ⟨by simp, e9 e he hs⟩⟩)
 | rangeFunc f ps x y ihx ihy =>
   intro tp A Q ts h hc hl hw
   simp only [cCodeN] at hc
   split at hc
   ·rename_i htp
    obtain ⟨rfl, -⟩ := htp
    simp only [Option.bind_eq_some_iff, Option.map_eq_some_iff] at hc
    obtain ⟨f', hf, a, ha, b, hb, rfl⟩ := hc
    obtain ⟨g, first, capt, hv, haf⟩ := hw
    obtain ⟨ps⟩ := ps
    refine WD.range hf hv hl (haf.mono (Nat.le_refl _) ?_)
    rintro v h' ⟨L, hL, hs, q⟩
    exact ⟨L, hL, hs, by cases L.pend <;> simp [pendE], q⟩
   ·simp at hc
 | _ => intro tp A Q ts h hc hl hw; simp [cCodeN] at hc; subst hc; obtain ⟨t, ht, -⟩ := hw; simp [ev] at ht
theorem wpD_wd (hm : P.follows .mixedOrders = true) (C : Code) (tp : Bool) (A : ACode) (Q : Exit → Ts → H → Prop) (ts : Ts) (h : H) (hc : cCodeN P n tp C = some A) (hl : lo ≤ h.next) (hw : wpD P lo A Q ts h) : WD (TC tp P C) n lo Q ts h :=
 (wpD_ng hm C tp A Q ts h hc hl hw).mono (TC_mono tp P C) fun _ _ _ q => q.2
theorem wpD_ngX {nd : List Nat} (hm : P.follows .mixedOrders = true) : ∀ (C : Code) (tp : Bool) (A : ACode) (Q : Exit → Ts → H → Prop) (ts : Ts) (h : H), cCodeX P nd n tp C = some A → lo ≤ h.next → wpD P lo A Q ts h → WD (TC tp P C) n lo (ng Q) ts h := by
 intro C
 induction C with
 | skip => intro tp A Q ts h hc hl hw; simp [cCodeX] at hc; subst hc; exact (WT.skip (Q := ng Q) ⟨by simp, hw⟩).wd (TC_mono tp P _)
 | label l => intro tp A Q ts h hc hl hw; simp [cCodeX] at hc; subst hc; exact (WT.label (Q := ng Q) ⟨by simp, hw⟩).wd (TC_mono tp P _)
 | ret => intro tp A Q ts h hc hl hw; simp [cCodeX] at hc; subst hc; exact (WT.ret (Q := ng Q) ⟨by simp, hw⟩).wd (TC_mono tp P _)
 | exit id => intro tp A Q ts h hc hl hw; simp [cCodeX] at hc; subst hc; exact (WT.exit (Q := ng Q) ⟨by simp, hw⟩).wd (TC_mono tp P _)
 | scope c ih =>
   intro tp A Q ts h hc hl hw
   refine WD.scope ((ih tp A Q ts h (by simpa only [cCodeX] using hc) hl hw).mono (TC_mono tp P c) ?_)
   rintro e ts' h' ⟨hg, q⟩
   exact ⟨hg, hg, q⟩
 | seq x y ihx ihy =>
   intro tp A Q ts h hc hl hw
   simp only [cCodeX, Option.bind_eq_some_iff, Option.map_eq_some_iff] at hc
   obtain ⟨a, ha, b, hb, rfl⟩ := hc
   refine WD.seq (((ihx tp a _ ts h ha hl hw).strong (TC_mono tp P x)).mono (TC_mono tp P x) ?_)
   rintro e ts' h' ⟨⟨hg, q⟩, hq⟩
   cases e <;> first | exact ⟨hg, q⟩ | exact ihy tp b Q ts' h' hb (Nat.le_trans hl hq.next) q
 | cond c x y ihx ihy =>
   intro tp A Q ts h hc hl hw
   simp only [cCodeX, Option.bind_eq_some_iff, Option.map_eq_some_iff] at hc
   obtain ⟨c', hc', a, ha, b, hb, rfl⟩ := hc
   obtain ⟨t, ht, hw⟩ := hw
   refine WD.cond hc' ht ?_
   cases t
   ·exact ihy tp b Q ts h hb hl (by simpa using hw)
   ·exact ihx tp a Q ts h ha hl (by simpa using hw)
 | block id c ih =>
   intro tp A Q ts h hc hl hw
   simp only [cCodeX, Option.map_eq_some_iff] at hc
   obtain ⟨a, ha, rfl⟩ := hc
   refine WD.block ((ih tp a _ ts h ha hl hw).mono (TC_mono tp P c) ?_)
   rintro e ts' h' ⟨hg, q⟩
   cases e <;> first | exact ⟨hg, q⟩ | skip
   rename_i id'
   simp only [blockQ] at q ⊢
   split
   ·rename_i hid; rw [if_pos hid] at q; exact ⟨by simp, q⟩
   ·rename_i hid; rw [if_neg hid] at q; exact ⟨by simp, q⟩
 | loop c ih =>
   intro tp A Q ts h hc hl hw
   simp only [cCodeX, Option.map_eq_some_iff] at hc
   obtain ⟨a, ha, rfl⟩ := hc
   obtain ⟨k, hw⟩ := hw
   refine WD.loop ?_
   induction k generalizing ts h with
   | zero => exact hw.elim
   | succ k ihk =>
     refine WD.round (((ih tp a _ ts h ha hl hw).strong (TC_mono tp P c)).mono (TC_mono tp P c) ?_)
     rintro e ts' h' ⟨⟨hg, q⟩, hq⟩
     cases e <;> first | exact ⟨hg, q⟩ | exact ihk ts' h' (Nat.le_trans hl hq.next) q
 | region id ops draw =>
   intro tp A Q ts h hc hl hw
   simp only [cCodeX] at hc
   split at hc
   ·rename_i A' he
    simp only [Option.some.injEq] at hc
    subst hc
    split at he
    ·rename_i hdr
     subst hdr
     exact cut_wd hm he hl hw
    ·simp at he
   ·exact wpD_ng hm _ tp A Q ts h hc hl hw
 | rangeFunc f ps x y ihx ihy =>
   intro tp A Q ts h hc hl hw
   simp only [cCodeX] at hc
   split at hc
   ·rename_i htp
    obtain ⟨rfl, -⟩ := htp
    simp only [Option.map_eq_some_iff] at hc
    obtain ⟨f', hf, rfl⟩ := hc
    obtain ⟨g, first, capt, hv, haf⟩ := hw
    obtain ⟨ps⟩ := ps
    refine WD.range hf hv hl (haf.mono (Nat.le_refl _) ?_)
    rintro v h' ⟨L, hL, hs, q⟩
    exact ⟨L, hL, hs, by cases L.pend <;> simp [pendE], q⟩
   ·simp at hc
 | _ => intro tp A Q ts h hc hl hw; simp [cCodeX] at hc; subst hc; obtain ⟨t, ht, -⟩ := hw; simp [ev] at ht
theorem wpD_wdX {nd : List Nat} (hm : P.follows .mixedOrders = true) (C : Code) (tp : Bool) (A : ACode) (Q : Exit → Ts → H → Prop) (ts : Ts) (h : H) (hc : cCodeX P nd n tp C = some A) (hl : lo ≤ h.next) (hw : wpD P lo A Q ts h) : WD (TC tp P C) n lo Q ts h :=
 (wpD_ngX hm C tp A Q ts h hc hl hw).mono (TC_mono tp P C) fun _ _ _ q => q.2
end

def YAD (P : Program) (lo r : Nat) (A B : ACode) (L : ALoop) (args : List Value) (h : H) (R : Value → H → Prop) : Prop :=
 wpD P lo A (fun e ts1 h1 => e = .normal ∧ ∃ L1, h1.get r = some (.loop L1) ∧ L1.state = .ready ∧
  wpD P lo B (fun e _ h2 => ∃ p L2, roundEnd e = some p ∧ h2.get r = some (.loop L2) ∧ R (.bool (pendB p)) (h2.put r (.loop (ended L2 p)))) ts1 (h1.put r (.loop (busy L1)))) (setPs L.params args L.tmps) h
theorem YAD.call {P : Program} {nd : List Nat} {lo : Nat} (hm : P.follows .mixedOrders = true) {r : Nat} {A B : ACode} {L : ALoop} {args : List Value} {h : H} {R : Value → H → Prop} (hA : cCodeX P nd L.size false L.asg = some A) (hB : cCodeX P nd L.size false L.body = some B) (hg : h.get r = some (.loop L))
 (hlo : lo ≤ r) (hr : r < h.next) (hlen : args.length = L.params.length) (hps : L.params.all (fun p => decide (p < L.size)) = true) (hw : YAD P lo r A B L args h R) : ACallD P (.func (.yield r) ⟨[]⟩ ⟨[]⟩) lo h args R := by
 refine yield_callD hg hlo hr hlen (fun p hp => by simpa using List.all_eq_true.1 hps p hp) ?_
 refine ((wpD_wdX hm _ false A _ _ _ hA byO hw).strong (TC_mono false P _)).mono (TC_mono false P _) ?_
 rintro e ts1 h1 ⟨⟨rfl, L1, hg1, hs1, hw1⟩, hq1⟩
 refine ⟨rfl, L1, hg1, hs1, wpD_wdX hm _ false B _ _ _ hB ?_ hw1⟩
 have := hq1.next
 show lo ≤ h1.next
 omega

theorem call_of_wdD {P : Program} {f : FuncId} {fn : Func} {c : Code} {n nargs lo : Nat} {rs : List ResultVar} {h : H} {args : List Value} {R : Value → H → Prop} (hf : P.funcs[f]? = some fn) (hb : fn.body = some c) (hn : fn.ntmps = n) (hna : nargs ≤ n) (hrs : fn.results = ⟨rs⟩) (hname : (fn.name == "runtime.NumGoroutine") = false)
 (ha : args.length = nargs) (hw : WD (TC true P c) n lo (fun e ts h' => (e = .normal ∨ e = .ret) ∧ ∃ v, ares P h' ts rs = some v ∧ R v h') (ts0 args) h) : AFD P f lo h args R := by
 refine ⟨fun as w => ?_, fun I w k ia => ?_⟩
 ·have hne : ¬ fn.name = "runtime.NumGoroutine" := by simpa using hname
  simp [callFunc, hf, hne, hb, program, Sem.run]
 ·refine callsIn_wide.1 (callsIn_of_wp_marks (F := Fence.wide) (n := 0) hf hb trivial ?_)
  have ht : TsRel I n (ts0 args) ((⟨renL I args⟩ : Array Value) ++ Array.replicate (fn.ntmps - (⟨renL I args⟩ : Array Value).size) undef) := by
   refine ⟨by simp; omega, fun i => ?_⟩
   rw [Array.getD_eq_getD_getElem?, Array.getElem?_append]
   by_cases hi : i < args.length
   ·simp only [List.size_toArray, renL_length, hi, if_true, List.getElem?_toArray, renL_getElem?, ts0, List.getElem?_eq_getElem hi, Option.map_some, Option.getD_some]
    exact ⟨trivial, InL_get ia (List.getElem?_eq_getElem hi)⟩
   ·simp only [List.size_toArray, renL_length, hi, if_false, ts0, List.getElem?_eq_none (Nat.le_of_not_lt hi), Option.getD_none]
    refine ⟨?_, (ren_undef I).2⟩
    rw [(ren_undef I).1, Array.getElem?_replicate]
    split <;> rfl
  have := hw none I w ⟨_, []⟩ k ht (fun _ => rfl)
  refine Go.wpIn_mono this ?_
  rintro e' a' w' ⟨ts', h', J, ⟨he, v, hv, hR⟩, hq, hwent, t', ms, hd, hms⟩
  simp only [List.append_nil] at hd
  have hleave : LeavesInM Fence.wide 0 P fn a'.tmps (fun e w' => ∃ v h' J, R v h' ∧ Quiet lo h h' ∧ Went I J lo h.next h' w w' ∧ In J v ∧ e = .returned (ren J v)) ms .returning w' := by
   refine leave_marks (I := I) (J := J) (h' := h') (lo := lo) (fun w2 k2 e2 => ?_) ms w' hwent.rel hwent.ext hms
   obtain ⟨iv, hrun⟩ := run_results (P := P) hrs t' k2 hv
   exact ⟨_, hrun, v, h', J, hR, hq, ⟨hwent.grows, hwent.dom, hwent.old, k2, e2⟩, iv, rfl⟩
  rcases he with rfl | rfl
  ·simp only [bodyPostM, hd]; exact hleave
  ·simp only [bodyPostM, hd]; exact hleave
theorem FunD.callD {P : Program} {n : Nat} {f : FuncId} {nargs : Nat} {A : ACode} {rs : List ResultVar} (F : FunD P f n nargs A rs) {lo : Nat} {h : H} {args : List Value} {R : Value → H → Prop} (ha : args.length = nargs) (hlo : lo ≤ h.next)
 (hw : wpD P lo A (fun e ts h' => (e = .normal ∨ e = .ret) ∧ ∃ v, ares P h' ts rs = some v ∧ R v h') (ts0 args) h) : AFD P f lo h args R := by
 obtain ⟨fn, c, hf, hb, hn, hna, hrs, hcc, hname⟩ := F.ex
 exact call_of_wdD hf hb hn hna hrs hname ha (wpD_wd F.mixed c true A _ _ _ hcc hlo hw)
theorem Fun.toD {P : Program} {n : Nat} {f : FuncId} {nargs : Nat} {A : ACode} {rs : List ResultVar} (F : Fun P f n nargs A rs) : FunD P f n nargs A rs := by
 obtain ⟨fn, c, hf, hb, hn, hna, hrs, hcc, hname⟩ := F.ex
 exact ⟨F.mixed, fn, c, hf, hb, hn, hna, hrs, (cCode_spec hcc).1, hname⟩

structure FunX (P : Program) (f : FuncId) (n nargs : Nat) (A : ACode) (rs : List ResultVar) : Prop where
 mixed : P.follows .mixedOrders = true
 ex : ∃ nd fn c, P.funcs[f]? = some fn ∧ fn.body = some c ∧ fn.ntmps = n ∧ nargs ≤ n ∧ fn.results = ⟨rs⟩ ∧ cCodeX P nd n true c = some A ∧ (fn.name == "runtime.NumGoroutine") = false
theorem FunX.callD {P : Program} {n : Nat} {f : FuncId} {nargs : Nat} {A : ACode} {rs : List ResultVar} (F : FunX P f n nargs A rs) {lo : Nat} {h : H} {args : List Value} {R : Value → H → Prop} (ha : args.length = nargs) (hlo : lo ≤ h.next)
 (hw : wpD P lo A (fun e ts h' => (e = .normal ∨ e = .ret) ∧ ∃ v, ares P h' ts rs = some v ∧ R v h') (ts0 args) h) : AFD P f lo h args R := by
 obtain ⟨nd, fn, c, hf, hb, hn, hna, hrs, hcc, hname⟩ := F.ex
 exact call_of_wdD hf hb hn hna hrs hname ha (wpD_wdX F.mixed c true A _ _ _ hcc hlo hw)
end AE
