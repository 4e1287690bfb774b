/- An evaluator for the kernel, with the functions' compiled code given in a table: closed calls by evaluation. -/
import Derived.Test.YtneenfjffejnoaaGreatAEKer
set_option linter.unusedVariables false
set_option linter.unusedSimpArgs false
set_option linter.unusedSectionVars false
set_option linter.unusedVariables false
namespace AE.KerT
open Go AE

structure KFn where
 n : Nat
 na : Nat
 A : ACode
 rs : List ResultVar
 hook : Option (List Value → KH → (Value → KH → Bool) → Bool) := none
def HookOk (P : Program) (g : Nat) (F : List Value → KH → (Value → KH → Bool) → Bool) : Prop :=
 ∀ lo args kh k, F args kh k = true → lo ≤ kh.next → ∃ v kh', k v kh' = true ∧ AF P g lo kh.abs args v kh'.abs
def FnOk (P : Program) (g : Nat) (e : KFn) : Prop := match e.hook with
 | none => Fun P g e.n e.na e.A e.rs
 | some F => HookOk P g F
def TabOk (P : Program) (T : KT KFn) : Prop := ∀ g e, T.get g = some e → FnOk P g e
def AllT (P : Program) (f : Nat → Nat) : KT KFn → Prop
 | .nil => True
 | .node l v r => (∀ e, v = some e → FnOk P (f 0) e) ∧ AllT P (fun m => f (2 * m + 1)) l ∧ AllT P (fun m => f (2 * m + 2)) r
theorem allT_get {P : Program} : ∀ {T : KT KFn} {f : Nat → Nat}, AllT P f T → ∀ g e, T.get g = some e → FnOk P (f g) e
 | .nil, f, _, g, e, h => by rw [KT.get_nil] at h; exact nomatch h
 | .node l v r, f, ⟨h0, hl, hr⟩, g, e, h => by
   rw [KT.get_node] at h
   by_cases g0 : g = 0
   ·subst g0; rw [if_pos rfl] at h; exact h0 e h
   ·rw [if_neg g0] at h
    by_cases g1 : g % 2 = 1
    ·rw [if_pos g1] at h
     have := allT_get hl _ e h
     rw [show 2 * (g / 2) + 1 = g by omega] at this
     exact this
    ·rw [if_neg g1] at h
     have := allT_get hr _ e h
     rw [show 2 * (g / 2 - 1) + 2 = g by omega] at this
     exact this
theorem allT_ok {P : Program} {T : KT KFn} (h : AllT P (fun m => m) T) : TabOk P T := fun g e he => allT_get h g e he

inductive KTask where
 | code (lo : Nat) (A : ACode) (k : Exit → KTs → KH → Bool) (ts : KTs) (kh : KH)
 | loop (lo : Nat) (A : ACode) (k : Exit → KTs → KH → Bool) (ts : KTs) (kh : KH)
 | ops (lo : Nat) (q : Bool) (base i : Nat) (ops : List AOper) (k : KTs → KH → Bool) (ts : KTs) (kh : KH)
 | call (lo : Nat) (fv : Value) (args : List Value) (kh : KH) (k : Value → KH → Bool)
 | fn (lo g : Nat) (args : List Value) (kh : KH) (k : Value → KH → Bool)

section
variable (P : Program) (ih : KTask → Bool) (lo : Nat) (k : Exit → KTs → KH → Bool) (ts : KTs) (kh : KH)
noncomputable def kSeq (a b : ACode) : Bool := ih (.code lo a (fun e ts kh => match e with | .normal => ih (.code lo b k ts kh) | e => k e ts kh) ts kh)
noncomputable def kCond (c : Opd) (a b : ACode) : Bool := kev ts c fun v => match v with
 | .bool t => Bool.rec (motive := fun _ => Bool) (ih (.code lo b k ts kh)) (ih (.code lo a k ts kh)) t
 | _ => false
noncomputable def kBlock (id : Nat) (c : ACode) : Bool := ih (.code lo c (fun e ts kh => match e with | .exit id' => Bool.rec (motive := fun _ => Bool) (k (.exit id') ts kh) (k .normal ts kh) (Nat.beq id' id) | e => k e ts kh) ts kh)
noncomputable def kReg (ops : List AOper) : Bool := kbump kh ops.length fun kh' => ih (.ops lo false kh.next 0 ops (fun ts kh => k .normal ts kh) ts kh')
noncomputable def kDreg (ops : List AOper) (ap : List (Opd × Opd)) : Bool := kbump kh ops.length fun kh' => ih (.ops lo true kh.next 0 ops (fun ts kh => Bool.rec (motive := fun _ => Bool) false (k .normal ts kh) (apartB ap (kts ts))) ts kh')
noncomputable def kRange (f : Opd) (ps : List Nat) (n : Nat) (asg body : Code) : Bool := kev ts f fun v => match v with
 | .func (.func g) ⟨first⟩ ⟨capt⟩ => KT.putC (.loop .ready .none n ts ps asg body) 64 kh.rows kh.next fun rows => kbump ⟨kh.next, rows⟩ 1 fun kh1 =>
  ih (.fn lo g (first ++ [.func (.yield kh.next) ⟨[]⟩ ⟨[]⟩] ++ capt) kh1 fun _ kh2 => match kh2.rows.get kh.next with
   | some (.loop .busy _ _ _ _ _ _) => false
   | some (.loop _ pd _ _ _ _ _) => KT.putC (.row .gone) 64 kh2.rows kh.next fun rows => k (pendE pd) ts ⟨kh2.next, rows⟩
   | _ => false)
 | _ => false
noncomputable def kcode (A : ACode) : Bool := match A with
 | .skip => k .normal ts kh
 | .ret => k .ret ts kh
 | .exit id => k (.exit id) ts kh
 | .seq a b => kSeq ih lo k ts kh a b
 | .cond c a b => kCond ih lo k ts kh c a b
 | .block id c => kBlock ih lo k ts kh id c
 | .loop c => ih (.loop lo c k ts kh)
 | .reg ops => kReg ih lo k ts kh ops
 | .dreg ops ap => kDreg ih lo k ts kh ops ap
 | .range f ps n asg body _ _ => kRange ih lo k ts kh f ps n asg body
 | .next _ _ _ => false
end
section
variable (P : Program) (ih : KTask → Bool) (lo : Nat)
noncomputable def kins (q : Bool) (base i : Nat) (o : AOper) (rest : List AOper) (k : KTs → KH → Bool) (ts : KTs) (kh : KH) : Bool := match o.ins with
 | .op ao => kop P lo (base + i) ts kh (fun v kh' => kput v o.dst ts fun ts' => ih (.ops lo q base (i + 1) rest k ts' kh')) ao
 | .call f args => kevs ts args fun args => kev ts f fun f => ih (.call (Bool.rec (motive := fun _ => Nat) lo kh.next q) f args kh fun v kh' => kput v o.dst ts fun ts' => ih (.ops lo q base (i + 1) rest k ts' kh'))
noncomputable def kops (q : Bool) (base i : Nat) (ops : List AOper) (k : KTs → KH → Bool) (ts : KTs) (kh : KH) : Bool := match ops with
 | [] => k ts kh
 | o :: rest => Bool.rec (motive := fun _ => Bool) (kput undef o.dst ts fun ts' => ih (.ops lo q base (i + 1) rest k ts' kh)) (kins P ih lo q base i o rest k ts kh) (awanted (kts ts) o.guard)
end
section
variable (P : Program) (ih : KTask → Bool) (lo : Nat)
noncomputable def kend (r : Nat) (k : Value → KH → Bool) (e : Exit) (kh : KH) : Bool := match roundEnd e with
 | none => false
 | some p => match kh.rows.get r with
   | some (.loop _ _ size tmps ps asg body) => kput1 kh r (.loop (pendS p) p size tmps ps asg body) fun kh => k (.bool (pendB p)) kh
   | _ => false
noncomputable def kbegin (r : Nat) (B : ACode) (k : Value → KH → Bool) (e : Exit) (ts : KTs) (kh : KH) : Bool := match e with
 | .normal => (match kh.rows.get r with
   | some (.loop .ready pd size tmps ps asg body) => kput1 kh r (.loop .busy pd size tmps ps asg body) fun kh => ih (.code lo B (fun e _ kh => kend r k e kh) ts kh)
   | _ => false)
 | _ => false
noncomputable def kyield (r : Nat) (args : List Value) (kh : KH) (k : Value → KH → Bool) : Bool := match kh.rows.get r with
 | some (.loop _ _ size tmps ps asg body) => Bool.rec (motive := fun _ => Bool) false (match cCode P size false asg with
   | none => false
   | some A => match cCode P size false body with
     | none => false
     | some B => ksetPs (fun ts0 => ih (.code lo A (kbegin ih lo r B k) ts0 kh)) ps args tmps) (Nat.ble lo r && Nat.ble (r + 1) kh.next && Nat.beq args.length ps.length && ps.all (fun p => Nat.ble (p + 1) size))
 | _ => false
noncomputable def kcall (fv : Value) (args : List Value) (kh : KH) (k : Value → KH → Bool) : Bool := match fv with
 | .func (.func g) ⟨first⟩ ⟨capt⟩ => spine (first ++ args ++ capt) fun args => ih (.fn lo g args kh k)
 | .func (.yield r) ⟨[]⟩ ⟨[]⟩ => kyield P ih lo r args kh k
 | _ => false
noncomputable def kret (k : Value → KH → Bool) (rs : List ResultVar) (e : Exit) (ts : KTs) (kh : KH) : Bool := match e with
 | .normal => kro kh k (ares P kh.abs (kts ts) rs)
 | .ret => kro kh k (ares P kh.abs (kts ts) rs)
 | _ => false
noncomputable def kfn (T : KT KFn) (g : Nat) (args : List Value) (kh : KH) (k : Value → KH → Bool) : Bool := match T.get g with
 | none => false
 | some e => match e.hook with
   | some F => Bool.rec (motive := fun _ => Bool) false (F args kh k) (Nat.ble lo kh.next)
   | none => Bool.rec (motive := fun _ => Bool) false (kinit (fun ts0 => ih (.code lo e.A (kret P k e.rs) ts0 kh)) args 0 .nil)
     (Nat.beq args.length e.na && Nat.ble lo kh.next)
end
noncomputable def kstep (P : Program) (T : KT KFn) (ih : KTask → Bool) (t : KTask) : Bool := match t with
 | .code lo A k ts kh => kcode ih lo k ts kh A
 | .loop lo c k ts kh => ih (.code lo c (fun e ts kh => match e with | .normal => ih (.loop lo c k ts kh) | e => k e ts kh) ts kh)
 | .ops lo q base i ops k ts kh => kops P ih lo q base i ops k ts kh
 | .call lo fv args kh k => kcall P ih lo fv args kh k
 | .fn lo g args kh k => kfn P ih lo T g args kh k

noncomputable def krun (P : Program) (T : KT KFn) (f : Nat) : KTask → Bool := Nat.rec (motive := fun _ => KTask → Bool) (fun _ => false) (fun _ ih => kstep P T ih) f


def QK (k : Exit → KTs → KH → Bool) : Exit → Ts → H → Prop := fun e ts h => ∃ tk hk, ts = kts tk ∧ h = hk.abs ∧ k e tk hk = true
def QT (k : KTs → KH → Bool) : Ts → H → Prop := fun ts h => ∃ tk hk, ts = kts tk ∧ h = hk.abs ∧ k tk hk = true
def KTask.Spec (P : Program) (f : Nat) : KTask → Prop
 | .code lo A k ts kh => wpA P lo A (QK k) (kts ts) kh.abs
 | .loop lo A k ts kh => iter (fun K => wpA P lo A (thenQ K (QK k))) f (kts ts) kh.abs
 | .ops (lo) (q) (base) (i) (xs) (k) (ts) (kh) => Run P lo q base i xs (QT k) (kts ts) kh.abs
 | .call lo fv args kh k => ∃ v kh', k v kh' = true ∧ ACall P fv lo kh.abs args v kh'.abs
 | .fn lo g args kh k => ∃ v kh', k v kh' = true ∧ AF P g lo kh.abs args v kh'.abs



theorem krun_sound {P : Program} {T : KT KFn} (hm : P.follows .mixedOrders = true) (hT : TabOk P T) : ∀ (f : Nat) (t : KTask), krun P T f t = true → t.Spec P f
 | 0, t, h => Bool.noConfusion h
 | f + 1, t, h => by
   have ih : ∀ t, krun P T f t = true → t.Spec P f := krun_sound hm hT f
   have h : kstep P T (krun P T f) t = true := h
   cases t with
   | loop lo c k ts kh =>
     refine wpA_mono c ?_ _ _ (show wpA P _ _ (QK _) _ _ from ih (.code ..) h)
     rintro e ts' h' ⟨tk, hk, rfl, rfl, hh⟩
     cases e with
     | normal => exact ih _ hh
     | _ => exact ⟨tk, hk, rfl, rfl, hh⟩
   | code lo A k ts kh =>
     have h : kcode (krun P T f) lo k ts kh A = true := h
     cases A with
     | skip => exact ⟨ts, kh, rfl, rfl, h⟩
     | ret => exact ⟨ts, kh, rfl, rfl, h⟩
     | exit id => exact ⟨ts, kh, rfl, rfl, h⟩
     | seq a b =>
       refine wpA_mono a ?_ _ _ (show wpA P _ _ (QK _) _ _ from ih (.code ..) h)
       rintro e ts' h' ⟨tk, hk, rfl, rfl, hh⟩
       cases e with
       | normal => exact ih _ hh
       | _ => exact ⟨tk, hk, rfl, rfl, hh⟩
     | cond c a b =>
       have h : kCond (krun P T f) lo k ts kh c a b = true := h
       unfold kCond at h
       rw [kev_eq] at h
       split at h
       ·rename_i t hc
        refine ⟨t, hc, ?_⟩
        cases t
        ·rw [if_neg (by simp)]; exact ih _ h
        ·rw [if_pos rfl]; exact ih _ h
       ·cases h
     | block id c =>
       refine wpA_mono c ?_ _ _ (show wpA P _ _ (QK _) _ _ from ih (.code ..) h)
       rintro e ts' h' ⟨tk, hk, rfl, rfl, hh⟩
       cases e with
       | exit id' =>
         simp only [blockQ]
         simp only [brec_iff beq_iff] at hh
         by_cases he : id' = id
         ·rw [if_pos he]
          rw [if_pos he] at hh
          exact ⟨tk, hk, rfl, rfl, hh⟩
         ·rw [if_neg he]
          rw [if_neg he] at hh
          exact ⟨tk, hk, rfl, rfl, hh⟩
       | _ => exact ⟨tk, hk, rfl, rfl, hh⟩
     | loop c => exact ⟨f, ih (.loop ..) h⟩
     | reg ops =>
       have h : kReg (krun P T f) lo k ts kh ops = true := h
       unfold kReg at h
       obtain ⟨kh', h, e⟩ := kbump_out h
       have := ih (.ops ..) h
       simp only [KTask.Spec, e] at this
       exact this
     | dreg ops ap =>
       have h : kDreg (krun P T f) lo k ts kh ops ap = true := h
       unfold kDreg at h
       obtain ⟨kh', h, e⟩ := kbump_out h
       have := ih (.ops ..) h
       simp only [KTask.Spec, e] at this
       refine run_mono ?_ this
       rintro ts' h' ⟨tk, hk, rfl, rfl, hh⟩
       simp only at hh
       cases ha : apartB ap (kts tk) with
       | false => rw [ha] at hh; cases hh
       | true =>
         rw [ha] at hh
         exact ⟨apartB_out ha, tk, hk, rfl, rfl, hh⟩
     | range fv ps n asg body A B =>
       have h : kRange (krun P T f) lo k ts kh fv ps n asg body = true := h
       unfold kRange at h
       rw [kev_eq] at h
       split at h
       ·rename_i g first capt hv
        obtain ⟨rows, h, hp⟩ := KT.putC_out 64 h
        obtain ⟨kh1, h, e1⟩ := kbump_out h
        obtain ⟨v, kh2, h, a⟩ := ih (.fn ..) h
        simp only at h
        refine ⟨g, first, capt, hv, v, kh2.abs, ?_, ?_⟩
        ·have : kh1.abs = kh.abs.enter (loop0 n (kts ts) ps asg body) := by
          rw [e1, KH.abs_put hp]
          rfl
         rw [← this]
         exact a
        ·split at h
         ·cases h
         ·rename_i st pd _ _ _ _ _ hne hg
          obtain ⟨rows', h, hp'⟩ := KT.putC_out 64 h
          refine ⟨_, kget hg, ?_, ts, _, rfl, ?_, h⟩
          ·intro he
           exact hne he
          ·rw [KH.abs_put hp']
           rfl
         ·cases h
       ·cases h
     | next x a b => cases h
   | ops lo q base i ops k ts kh =>
     have h : kops P (krun P T f) lo q base i ops k ts kh = true := h
     cases ops with
     | nil => exact ⟨ts, kh, rfl, rfl, h⟩
     | cons o rest =>
       simp only [KTask.Spec, Run]
       unfold kops at h
       simp only at h
       cases hw : awanted (kts ts) o.guard with
       | false =>
         rw [hw] at h
         rw [if_neg (by simp)]
         obtain ⟨ts', h, e⟩ := kput_out h
         rw [← e]
         exact ih _ h
       | true =>
         rw [hw] at h
         rw [if_pos rfl]
         simp only at h
         unfold kins at h
         split at h
         ·rename_i ao hi
          obtain ⟨v, kh', h, ha⟩ := kop_out h
          obtain ⟨ts', h, e⟩ := kput_out h
          rw [hi]
          refine ⟨v, _, ha, ?_⟩
          rw [← e]
          exact ih _ h
         ·rename_i fv args hi
          rw [kevs_eq, kev_eq] at h
          obtain ⟨v, kh', h, ha⟩ := ih (.call ..) h
          obtain ⟨ts', h, e⟩ := kput_out h
          rw [hi]
          refine ⟨v, kh'.abs, ?_, ?_⟩
          ·cases q <;> exact ha
          ·rw [← e]
           exact ih _ h
   | call lo fv args kh k =>
     have h : kcall P (krun P T f) lo fv args kh k = true := h
     unfold kcall at h
     split at h
     ·rename_i g first capt
      rw [spine_eq] at h
      obtain ⟨v, kh', h, a⟩ := ih (.fn ..) h
      exact ⟨v, kh', h, a.acall⟩
     ·rename_i r _ _
      unfold kyield at h
      split at h
      ·rename_i st pd size tmps ps asg body hg
       cases hc : (Nat.ble lo r && Nat.ble (r + 1) kh.next && Nat.beq args.length ps.length && ps.all (fun p => Nat.ble (p + 1) size)) with
       | false => rw [hc] at h; cases h
       | true =>
         rw [hc] at h
         simp only at h
         simp only [Bool.and_eq_true] at hc
         obtain ⟨⟨⟨c1, c2⟩, c3⟩, c4⟩ := hc
         split at h
         ·cases h
         ·rename_i A hA
          split at h
          ·cases h
          ·rename_i B hB
           obtain ⟨ts0, h, e0⟩ := ksetPs_out h
           have hy : YA P lo r A B ⟨st, pd, size, kts tmps, ps, asg, body⟩ args kh.abs (fun v h' => ∃ kh', k v kh' = true ∧ h' = kh'.abs) := by
            unfold YA
            simp only
            rw [← e0]
            refine wpA_mono A ?_ _ _ (show wpA P _ _ (QK _) _ _ from ih (.code ..) h)
            rintro e ts1 h1 ⟨t1, k1, rfl, rfl, hh⟩
            unfold kbegin at hh
            cases e <;> first | (cases hh; done) | skip
            simp only at hh
            split at hh
            ·rename_i pd1 size1 tmps1 ps1 asg1 body1 hg1
             obtain ⟨k1', hh, ep⟩ := kput1_out hh
             refine ⟨rfl, _, kget hg1, rfl, ?_⟩
             have hi := ih (.code ..) hh
             simp only [KTask.Spec, ep] at hi
             refine wpA_mono B ?_ _ _ hi
             rintro e2 ts2 h2 ⟨t2, k2, rfl, rfl, hh⟩
             unfold kend at hh
             simp only at hh
             split at hh
             ·cases hh
             ·rename_i p hre
              split at hh
              ·rename_i hg2
               obtain ⟨k2', hh, ep2⟩ := kput1_out hh
               refine ⟨p, _, hre, kget hg2, _, hh, ?_⟩
               rw [ep2]
               rfl
              ·cases hh
            ·cases hh
           obtain ⟨v, h', ⟨kh', hk, rfl⟩, a⟩ := YA.call hm hA hB (kget hg) (Nat.le_of_ble_eq_true c1) (Nat.le_of_ble_eq_true c2) (Nat.eq_of_beq_eq_true c3)
            (List.all_eq_true.2 fun p hp => decide_eq_true (Nat.le_of_ble_eq_true (List.all_eq_true.1 c4 p hp))) hy
           exact ⟨v, kh', hk, a⟩
      ·cases h
     ·cases h
   | fn lo g args kh k =>
     have h : kfn P (krun P T f) lo T g args kh k = true := h
     unfold kfn at h
     split at h
     ·cases h
     ·rename_i e he
      have F := hT g e he
      unfold FnOk at F
      split at h
      ·rename_i X hX
       simp only [hX] at F
       cases hc : Nat.ble lo kh.next with
       | false => rw [hc] at h; cases h
       | true =>
         rw [hc] at h
         exact F lo args kh k h (Nat.le_of_ble_eq_true hc)
      ·rename_i hX
       simp only [hX] at F
       cases hc : (Nat.beq args.length e.na && Nat.ble lo kh.next) with
       | false => rw [hc] at h; cases h
       | true =>
         rw [hc] at h
         simp only at h
         simp only [Bool.and_eq_true] at hc
         obtain ⟨c1, c2⟩ := hc
         obtain ⟨t0, h, e0⟩ := kinit_out h
         have et : kts t0 = ts0 args := by
          funext m
          rw [e0]
          simp only [Nat.not_lt_zero, if_false, Nat.sub_zero, ts0]
          cases args[m]? <;> rfl
         have hw := ih (.code ..) h
         simp only [KTask.Spec, et] at hw
         obtain ⟨v, h', ⟨kh', hk, rfl⟩, a⟩ := F.call (h := kh.abs) (lo := lo) (R := fun v h' => ∃ kh', k v kh' = true ∧ h' = kh'.abs) (Nat.eq_of_beq_eq_true c1) (Nat.le_of_ble_eq_true c2) (wpA_mono e.A (by
          rintro e ts' h' ⟨tk, hk, rfl, rfl, hh⟩
          unfold kret at hh
          cases e <;> first | (cases hh; done) | skip
          all_goals
           obtain ⟨v, hv, hh⟩ := kro_out hh
           exact ⟨by simp, v, hv, hk, hh, rfl⟩) _ _ hw)
         exact ⟨v, kh', hk, a⟩

noncomputable def kclosed (P : Program) (T : KT KFn) (f g : Nat) : Bool := krun P T f (.fn 0 g [] ⟨0, .nil⟩ fun v _ => isTrue v)
theorem closed_w {P : Program} {T : KT KFn} (hm : P.follows .mixedOrders = true) (hT : TabOk P T) {f g : Nat} (he : kclosed P T f g = true) {lo : Nat} {h : H} : AW P g lo h [] (fun v h' => v = .bool true ∧ h' = h) := by
 obtain ⟨v, kh', hv, a⟩ := krun_sound hm hT f _ he
 have hv := isTrue_out hv
 subst hv
 exact ⟨_, h, ⟨rfl, rfl⟩, AF.alone a (fun I => ⟨rfl, trivial⟩) (fun I => ⟨by simp [ren], by simp [In]⟩) lo h⟩
end AE.KerT
