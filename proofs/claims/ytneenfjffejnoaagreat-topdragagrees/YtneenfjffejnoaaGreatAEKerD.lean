/- An evaluator for the kernel that goes every way a range over a map may go: closed calls by evaluation. -/
import Derived.Test.YtneenfjffejnoaaGreatAEKerT
import Derived.Test.YtneenfjffejnoaaGreatAEDX
import Derived.Test.YtneenfjffejnoaaGreatAEthree
set_option linter.unusedVariables false
set_option linter.unusedSimpArgs false
set_option linter.unusedSectionVars false
set_option linter.unusedVariables false
namespace AE.KerD
open Go AE
open AE.KerT (KFn TabOk)

theorem runD_mono {P : Program} {lo base : Nat} {K K' : Ts → H → Prop} (hK : ∀ ts h, K ts h → K' ts h) : ∀ {xs : List AOper} {i : Nat} {ts : Ts} {h : H}, RunD P lo base i xs K ts h → RunD P lo base i xs K' ts h
 | [], _, _, _, h => hK _ _ h
 | o :: rest, i, ts, h, hr => by
   simp only [RunD] at hr ⊢
   split
   ·rename_i hw
    rw [if_pos hw] at hr
    cases hi : o.ins with
    | op ao =>
      rw [hi] at hr
      obtain ⟨v, h', ha, hr⟩ := hr
      exact ⟨v, h', ha, runD_mono hK hr⟩
    | call f args =>
      rw [hi] at hr
      exact hr.mono (Nat.le_refl _) fun v h' hr => runD_mono hK hr
   ·rename_i hw
    rw [if_neg hw] at hr
    exact runD_mono hK hr
theorem wpD_mono {P : Program} {lo : Nat} : ∀ (A : ACode) {Q Q' : Exit → Ts → H → Prop}, (∀ e ts h, Q e ts h → Q' e ts h) → ∀ ts h, wpD P lo A Q ts h → wpD P lo A Q' ts h
 | .skip, _, _, hq, ts, h, w => hq _ _ _ w
 | .ret, _, _, hq, ts, h, w => hq _ _ _ w
 | .exit _, _, _, hq, ts, h, w => hq _ _ _ w
 | .seq a b, Q, Q', hq, ts, h, w => wpD_mono a (Q := thenQ (wpD P lo b Q) Q) (fun e ts h x => by cases e <;> first | exact wpD_mono b hq _ _ x | exact hq _ _ _ x) ts h w
 | .cond c a b, Q, Q', hq, ts, h, w => by
   obtain ⟨t, e, w⟩ := w
   refine ⟨t, e, ?_⟩
   split
   ·rename_i ht; rw [if_pos ht] at w; exact wpD_mono a hq _ _ w
   ·rename_i ht; rw [if_neg ht] at w; exact wpD_mono b hq _ _ w
 | .block id c, Q, Q', hq, ts, h, w => wpD_mono c (Q := blockQ id Q) (fun e ts h x => by
  cases e <;> first | exact hq _ _ _ x | skip
  simp only [blockQ] at x ⊢
  split
  ·rename_i ht; rw [if_pos ht] at x; exact hq _ _ _ x
  ·rename_i ht; rw [if_neg ht] at x; exact hq _ _ _ x) ts h w
 | .loop c, Q, Q', hq, ts, h, w => by
   obtain ⟨k, w⟩ := w
   exact ⟨k, iter_mono (fun K K' hK ts h x => wpD_mono c (Q := thenQ K Q) (fun e ts h y => by cases e <;> first | exact hK _ _ y | exact hq _ _ _ y) ts h x) k ts h w⟩
 | .reg ops, Q, Q', hq, ts, h, w => by
   simp only [wpD] at w ⊢
   exact runD_mono (hq .normal) w
 | .dreg ops ap, Q, Q', hq, ts, h, w => run_mono (K := fun ts' h' => Apart ap ts' ∧ Q .normal ts' h') (fun ts h x => ⟨x.1, hq _ _ _ x.2⟩) w
 | .range f ps n asg body x y, Q, Q', hq, ts, h, w => by
   obtain ⟨g, first, capt, e, a⟩ := w
   exact ⟨g, first, capt, e, a.mono (Nat.le_refl _) fun v h' ⟨L, hL, hs, w⟩ => ⟨L, hL, hs, hq _ _ _ w⟩⟩
 | .next x a b, Q, Q', hq, ts, h, w => by
   obtain ⟨r, m, since, seen, c0, es, clock, e1, hlo, hrm, hg, hgm, hold, hsc, hw0, hw1⟩ := w
   exact ⟨r, m, since, seen, c0, es, clock, e1, hlo, hrm, hg, hgm, hold, hsc, fun h => hq _ _ _ (hw0 h), fun e he hn => hq _ _ _ (hw1 e he hn)⟩

def TabDOk (P : Program) (T : KT KFn) : Prop := ∀ g e, T.get g = some e → FunX P g e.n e.na e.A e.rs

def AllD (P : Program) (f : Nat → Nat) : KT KFn → Prop
 | .nil => True
 | .node l v r => (∀ e, v = some e → FunX P (f 0) e.n e.na e.A e.rs) ∧ AllD P (fun m => f (2 * m + 1)) l ∧ AllD P (fun m => f (2 * m + 2)) r
theorem allD_get {P : Program} : ∀ {T : KT KFn} {f : Nat → Nat}, AllD P f T → ∀ g e, T.get g = some e → FunX P (f g) e.n e.na e.A e.rs
 | .nil, f, _, g, e, h => by rw [KT.get_nil] at h; exact nomatch h
 | .node l v r, f, ⟨h0, hl, hr⟩, g, e, h => by
   rw [KT.get_node] at h
   by_cases g0 : g = 0
   ·subst g0; rw [if_pos rfl] at h; exact h0 e h
   ·rw [if_neg g0] at h
    by_cases g1 : g % 2 = 1
    ·rw [if_pos g1] at h
     have := allD_get hl _ e h
     rw [show 2 * (g / 2) + 1 = g by omega] at this
     exact this
    ·rw [if_neg g1] at h
     have := allD_get hr _ e h
     rw [show 2 * (g / 2 - 1) + 2 = g by omega] at this
     exact this
theorem allD_ok {P : Program} {T : KT KFn} (h : AllD P (fun m => m) T) : TabDOk P T := fun g e he => allD_get h g e he


def kindEq : IntKind → IntKind → Bool
 | .i8, .i8 | .i16, .i16 | .i32, .i32 | .i64, .i64 | .u8, .u8 | .u16, .u16 | .u32, .u32 | .u64, .u64 => true
 | _, _ => false
def intEq : Int → Int → Bool
 | .ofNat a, .ofNat b => Nat.beq a b
 | .negSucc a, .negSucc b => Nat.beq a b
 | _, _ => false
def listEq (f : Value → Value → Bool) : List Value → List Value → Bool
 | [], [] => true
 | a :: as, b :: bs => f a b && listEq f as bs
 | _, _ => false
def veq1 (ih : Value → Value → Bool) : Value → Value → Bool
 | .int k a, .int k' b => kindEq k k' && intEq a b
 | .bool true, .bool true => true
 | .bool false, .bool false => true
 | .tuple ⟨x⟩, .tuple ⟨y⟩ => listEq ih x y
 | .agg ⟨x⟩, .agg ⟨y⟩ => listEq ih x y
 | .slice none 0 0, .slice none 0 0 => true
 | .pointer none, .pointer none => true
 | .map none, .map none => true
 | .nilIface, .nilIface => true
 | .nilFunc, .nilFunc => true
 | _, _ => false
def veq : Nat → Value → Value → Bool
 | 0 => fun _ _ => false
 | d + 1 => veq1 (veq d)
theorem kindEq_out {k k' : IntKind} (h : kindEq k k' = true) : k = k' := by cases k <;> cases k' <;> first | rfl | exact absurd h (by decide)
theorem intEq_out {a b : Int} (h : intEq a b = true) : a = b := by
 cases a <;> cases b <;> simp only [intEq, Bool.false_eq_true] at h
 ·rw [Nat.eq_of_beq_eq_true h]
 ·rw [Nat.eq_of_beq_eq_true h]
theorem listEq_out {f : Value → Value → Bool} (hf : ∀ a b, f a b = true → a = b ∧ flat b = true) : ∀ {x y : List Value}, listEq f x y = true → x = y ∧ flatL y = true
 | [], [], _ => ⟨rfl, rfl⟩
 | a :: as, b :: bs, h => by
   simp only [listEq, Bool.and_eq_true] at h
   obtain ⟨rfl, h1⟩ := hf a b h.1
   obtain ⟨rfl, h2⟩ := listEq_out hf h.2
   exact ⟨rfl, by simp [flatL, h1, h2]⟩
 | [], _ :: _, h => by simp [listEq] at h
 | _ :: _, [], h => by simp [listEq] at h
theorem veq1_out {ih : Value → Value → Bool} (hf : ∀ a b, ih a b = true → a = b ∧ flat b = true) {a b : Value} (h : veq1 ih a b = true) : a = b ∧ flat b = true := by
 unfold veq1 at h
 split at h
 ·simp only [Bool.and_eq_true] at h
  rw [kindEq_out h.1, intEq_out h.2]
  exact ⟨rfl, rfl⟩
 ·exact ⟨rfl, rfl⟩
 ·exact ⟨rfl, rfl⟩
 ·obtain ⟨rfl, h⟩ := listEq_out hf h
  exact ⟨rfl, by simpa [flat] using h⟩
 ·obtain ⟨rfl, h⟩ := listEq_out hf h
  exact ⟨rfl, by simpa [flat] using h⟩
 ·exact ⟨rfl, rfl⟩
 ·exact ⟨rfl, rfl⟩
 ·exact ⟨rfl, rfl⟩
 ·exact ⟨rfl, rfl⟩
 ·exact ⟨rfl, rfl⟩
 ·cases h
theorem veq_out : ∀ (d : Nat) {a b : Value}, veq d a b = true → a = b ∧ flat b = true
 | 0, _, _, h => by cases h
 | d + 1, a, b, h => veq1_out (fun _ _ => veq_out d) h

theorem AFD.flat {P : Program} {g : FuncId} {h : H} {args : List Value} {v : Value} (a : AFD P g h.next h args fun w _ => w = v) (hv : AE.flat v = true) (lo : Nat) (hlo : lo ≤ h.next) : AF P g lo h args v h := by
 refine ⟨Quiet.refl lo h, a.enters, fun I w k ia => (a.calls I w k ia).mono ?_⟩
 rintro e w' ⟨v', h', J, rfl, q, W, iv, rfl⟩
 have i1 := flat_ren (J.below h.next) _ hv
 exact ⟨J.below h.next, (W.belowG k (Nat.le_refl _) (Nat.le_refl _) k.clean (fun r row hr hg => .inr (.inl ⟨hr, hg⟩)) (fun r row hr hg => .inr ((q.same r hr).trans hg))).mono hlo, i1.2, by rw [i1.1, (flat_ren J _ hv).1]⟩


def optEq : Option Nat → Option Nat → Bool
 | none, none => true
 | some a, some b => Nat.beq a b
 | _, _ => false
theorem optEq_out {a b : Option Nat} (h : optEq a b = true) : a = b := by
 cases a <;> cases b <;> simp only [optEq, Bool.false_eq_true] at h
 ·rfl
 ·rw [Nat.eq_of_beq_eq_true h]
def veqM1 (n q : Nat) (ih : Value → Value → Bool) : Value → Value → Bool
 | .tuple ⟨x⟩, .tuple ⟨y⟩ => listEq ih x y
 | .agg ⟨x⟩, .agg ⟨y⟩ => listEq ih x y
 | .slice (some ⟨b, o, s⟩) l c, .slice (some ⟨b', o', s'⟩) l' c' => Nat.beq b q && Nat.beq b' n && Nat.beq o o' && optEq s s' && Nat.beq l l' && Nat.beq c c' && not (Nat.ble far c)
 | a, b => veq 1 a b
def veqM (n q : Nat) : Nat → Value → Value → Bool
 | 0 => fun _ _ => false
 | d + 1 => veqM1 n q (veqM n q d)
theorem listEqM_out {n q : Nat} {J : Inj} {f : Value → Value → Bool} (hf : ∀ a b, f a b = true → In J a → In (J.mv n q) b ∧ ren (J.mv n q) b = ren J a) : ∀ {x y : List Value}, listEq f x y = true → InL J x → InL (J.mv n q) y ∧ renL (J.mv n q) y = renL J x
 | [], [], _, _ => ⟨trivial, rfl⟩
 | a :: as, b :: bs, h, i => by
   simp only [listEq, Bool.and_eq_true] at h
   have h1 := hf a b h.1 i.1
   have h2 := listEqM_out hf h.2 i.2
   exact ⟨⟨h1.1, h2.1⟩, by simp only [renL]; rw [h1.2, h2.2]⟩
 | [], _ :: _, h, _ => by simp [listEq] at h
 | _ :: _, [], h, _ => by simp [listEq] at h
theorem veqM_out {n q : Nat} {J : Inj} : ∀ (d : Nat) (a b : Value), veqM n q d a b = true → In J a → In (J.mv n q) b ∧ ren (J.mv n q) b = ren J a
 | 0, _, _, h, _ => by cases h
 | d + 1, a, b, h, i => by
   have ih := veqM_out (n := n) (q := q) (J := J) d
   have h : veqM1 n q (veqM n q d) a b = true := h
   unfold veqM1 at h
   split at h
   ·simp only [In] at i
    have := listEqM_out ih h i
    simp only [In, ren]
    exact ⟨this.1, by rw [this.2]⟩
   ·simp only [In] at i
    have := listEqM_out ih h i
    simp only [In, ren]
    exact ⟨this.1, by rw [this.2]⟩
   ·simp only [Bool.and_eq_true, Bool.not_eq_true'] at h
    obtain ⟨⟨⟨⟨⟨⟨e1, e2⟩, e3⟩, e4⟩, e5⟩, e6⟩, e7⟩ := h
    have hc := (fun hle => Bool.noConfusion ((Nat.ble_eq_true_of_le hle).symm.trans e7) : ¬ far ≤ _)
    rw [Nat.eq_of_beq_eq_true e1] at i ⊢
    rw [Nat.eq_of_beq_eq_true e3, optEq_out e4, Nat.eq_of_beq_eq_true e5] at i ⊢
    rw [Nat.eq_of_beq_eq_true e2]
    rw [← Nat.eq_of_beq_eq_true e6]
    have hc := Nat.lt_of_not_le hc
    rw [In_sl hc] at i ⊢
    rw [ren_sl hc, ren_sl hc]
    simp only [InA, InCap, renA, renCap, Inj.mv_eq] at i ⊢
    refine ⟨⟨i.1, ?_⟩, ?_⟩
    ·have i2 := i.2
     split at i2
     ·exact i2
     ·simp only [Inj.mv, if_true]; exact i2
    ·simp only [Inj.mv, if_true]
   ·obtain ⟨rfl, hfl⟩ := veq_out 1 h
    have i1 := flat_ren (J.mv n q) _ hfl
    exact ⟨i1.2, by rw [i1.1, (flat_ren J _ hfl).1]⟩
def firstSome (f : Value → Option Nat) : List Value → Option Nat
 | [] => none
 | a :: as => match f a with | some q => some q | none => firstSome f as
def qrow1 (n : Nat) (ih : Value → Option Nat) : Value → Option Nat
 | .slice (some ⟨b, _, _⟩) _ _ => bif Nat.ble n b then some b else none
 | .tuple ⟨x⟩ => firstSome ih x
 | .agg ⟨x⟩ => firstSome ih x
 | _ => none
def qrow (n : Nat) : Nat → Value → Option Nat
 | 0 => fun _ => none
 | d + 1 => qrow1 n (qrow n d)
def mvV1 (n q : Nat) (ih : Value → Value) : Value → Value
 | .slice (some ⟨b, o, s⟩) l c => bif Nat.beq b q then .slice (some ⟨n, o, s⟩) l c else .slice (some ⟨b, o, s⟩) l c
 | .tuple ⟨x⟩ => .tuple ⟨x.map ih⟩
 | .agg ⟨x⟩ => .agg ⟨x.map ih⟩
 | v => v
def mvV (n q : Nat) : Nat → Value → Value
 | 0 => fun v => v
 | d + 1 => mvV1 n q (mvV n q d)
def natsEq : List Nat → List Nat → Bool
 | [], [] => true
 | a :: as, b :: bs => Nat.beq a b && natsEq as bs
 | _, _ => false
theorem natsEq_out : ∀ {x y : List Nat}, natsEq x y = true → x = y
 | [], [], _ => rfl
 | a :: as, b :: bs, h => by
   simp only [natsEq, Bool.and_eq_true] at h
   rw [Nat.eq_of_beq_eq_true h.1, natsEq_out h.2]
 | [], _ :: _, h => by simp [natsEq] at h
 | _ :: _, [], h => by simp [natsEq] at h
def plainR : ARow → Bool
 | .grow c _ _ _ _ => flatL c
 | .cells c _ => flatL c
 | _ => false
def isRow : ARow → Option KRow → Bool
 | .grow c e sz lens valid, some (.row (.grow c' e' sz' lens' valid')) => listEq (veq 6) c' c && Nat.beq e' e && Nat.beq sz' sz && natsEq lens' lens && Nat.beq valid' valid
 | .cells c e, some (.row (.cells c' e')) => listEq (veq 6) c' c && Nat.beq e' e
 | _, _ => false
theorem isRow_out {row : ARow} {o : Option KRow} (h : isRow row o = true) : o = some (.row row) := by
 unfold isRow at h
 split at h
 ·simp only [Bool.and_eq_true] at h
  obtain ⟨⟨⟨⟨e1, e2⟩, e3⟩, e4⟩, e5⟩ := h
  have e1 := listEq_out (fun _ _ => veq_out 6) e1
  rw [e1.1, Nat.eq_of_beq_eq_true e2, Nat.eq_of_beq_eq_true e3, natsEq_out e4, Nat.eq_of_beq_eq_true e5]
 ·simp only [Bool.and_eq_true] at h
  have e1 := listEq_out (fun _ _ => veq_out 6) h.1
  rw [e1.1, Nat.eq_of_beq_eq_true h.2]
 ·cases h
theorem flatL_mem : ∀ {l : List Value}, flatL l = true → ∀ v ∈ l, AE.flat v = true
 | [], _, _, hv => nomatch hv
 | a :: l, h, v, hv => by
   simp only [flatL, Bool.and_eq_true] at h
   rcases List.mem_cons.1 hv with rfl | hv
   ·exact h.1
   ·exact flatL_mem h.2 v hv
theorem cells_mv {J : Inj} {n rs : Nat} {w : World} {c : List Value} {e : TypeId} (hc : flatL c = true) (k : RowRel J rs w (.cells c e)) : RowRel (J.mv n rs) n w (.cells c e) := by
 obtain ⟨b, e1, e2, e3⟩ := k.2
 have rl : ∀ I : Inj, ∀ l : List Value, flatL l = true → InL I l ∧ renL I l = l := fun I l => by
  induction l with
  | nil => intro _; simp [InL, renL]
  | cons x l ih =>
    intro h
    simp only [flatL, Bool.and_eq_true] at h
    have a := flat_ren I _ h.1
    have b := ih h.2
    simp only [InL, renL]
    exact ⟨⟨a.2, b.1⟩, by rw [a.1, b.2]⟩
 refine ⟨(rl _ c hc).1, b, Inj.mv_eq.trans e1, e2, ?_⟩
 rw [(rl _ c hc).2]
 rw [(rl J c hc).2] at e3
 exact e3
theorem AFD.flatM {P : Program} {g : FuncId} {h : H} {args : List Value} {v : Value} {nr : ARow}
 (a : AFD P g h.next h args fun w h' => ∃ q, h.next ≤ q ∧ (∀ J : Inj, In J w → In (J.mv h.next q) v ∧ ren (J.mv h.next q) v = ren J w) ∧ h'.get q = some nr) (hc : plainR nr = true) (lo : Nat) (hlo : lo ≤ h.next) :
 AF P g lo h args v ((h.bump 1).put h.next nr) := by
 have old : ∀ r, r ≠ h.next → ((h.bump 1).put h.next nr).get r = h.get r := fun r hr => by simp [H.put, H.bump, hr]
 have new : ((h.bump 1).put h.next nr).get h.next = some nr := by simp [H.put]
 have nx : ((h.bump 1).put h.next nr).next = h.next + 1 := rfl
 have cl : (∀ r, h.next ≤ r → h.get r = none) → ∀ r, ((h.bump 1).put h.next nr).next ≤ r → ((h.bump 1).put h.next nr).get r = none := fun hcl r hr => by
  rw [nx] at hr
  rw [old r byO]
  exact hcl r byO
 refine ⟨⟨by rw [nx]; omega, fun r hr => old r byO, cl⟩, a.enters, fun I w k ia => (a.calls I w k ia).mono ?_⟩
 rintro _ w' ⟨v', h', J, ⟨q, hq, hval, hrow⟩, hqu, W, iv, rfl⟩
 obtain ⟨i1, i2⟩ := hval J iv
 refine ⟨J.mv h.next q, Went.mono ?_ hlo, i1, by rw [i2]⟩
 refine W.mv k (Nat.le_refl _) hq (by rw [nx]; omega) (cl k.clean) (fun r row hr hg => .inr ?_) fun row hr hd => ?_
 ·rw [old r byO] at hg
  exact ⟨hg, (hqu.same r hr).trans hg⟩
 ·rw [new] at hr
  cases hr
  obtain ⟨s, p, ep⟩ := hd
  rw [Inj.mv_eq] at ep
  have hk := W.rel.rows q _ hrow ⟨s, p, ep⟩
  cases nr <;> first | (simp [plainR] at hc; done) | skip
  ·exact cells_mv hc hk
  ·exact grow_mv (fun v hv I => (flat_ren I _ (flatL_mem hc v hv)).symm) hk

inductive KTask where
 | code (lo : Nat) (A : ACode) (k : Exit → KTs → KH → Bool) (ts : KTs) (kh : KH)
 | loop (lo : Nat) (A : ACode) (k : Exit → KTs → KH → Bool) (ts : KTs) (kh : KH)
 | ops (lo : Nat) (base i : Nat) (ops : List AOper) (k : KTs → KH → Bool) (ts : KTs) (kh : KH)
 | call (lo : Nat) (fv : Value) (args : List Value) (kh : KH) (k : Value → KH → Bool)
 | fn (lo g : Nat) (args : List Value) (kh : KH) (k : Value → KH → Bool)
 | fnx (lo g : Nat) (args : List Value) (kh : KH) (k : Value → KH → Bool)

section
variable (P : Program) (det : AE.KerT.KTask → Bool) (ih : KTask → Bool) (lo : Nat) (k : Exit → KTs → KH → Bool) (ts : KTs) (kh : KH)
noncomputable def kSeq (a b : ACode) : Bool := ih (.code lo a (fun e ts kh => match e with | .normal => ih (.code lo b k ts kh) | e => k e ts kh) ts kh)
noncomputable def kCond (c : Opd) (a b : ACode) : Bool := kev ts c fun v => match v with
 | .bool t => Bool.rec (motive := fun _ => Bool) (ih (.code lo b k ts kh)) (ih (.code lo a k ts kh)) t
 | _ => false
noncomputable def kBlock (id : Nat) (c : ACode) : Bool := ih (.code lo c (fun e ts kh => match e with | .exit id' => Bool.rec (motive := fun _ => Bool) (k (.exit id') ts kh) (k .normal ts kh) (Nat.beq id' id) | e => k e ts kh) ts kh)
noncomputable def kReg (ops : List AOper) : Bool := kbump kh ops.length fun kh' => ih (.ops lo kh.next 0 ops (fun ts kh => k .normal ts kh) ts kh')
noncomputable def kDreg (ops : List AOper) (ap : List (Opd × Opd)) : Bool := kbump kh ops.length fun kh' => det (.ops lo true kh.next 0 ops (fun ts kh => Bool.rec (motive := fun _ => Bool) false (k .normal ts kh) (apartB ap (kts ts))) ts kh')
noncomputable def kRange (f : Opd) (ps : List Nat) (n : Nat) (asg body : Code) : Bool := kev ts f fun v => match v with
 | .func (.func g) ⟨first⟩ ⟨capt⟩ => KT.putC (.loop .ready .none n ts ps asg body) 64 kh.rows kh.next fun rows => kbump ⟨kh.next, rows⟩ 1 fun kh1 =>
  ih (.fn lo g (first ++ [.func (.yield kh.next) ⟨[]⟩ ⟨[]⟩] ++ capt) kh1 fun _ kh2 => match kh2.rows.get kh.next with
   | some (.loop .busy _ _ _ _ _ _) => false
   | some (.loop _ pd _ _ _ _ _) => KT.putC (.row .gone) 64 kh2.rows kh.next fun rows => k (pendE pd) ts ⟨kh2.next, rows⟩
   | _ => false)
 | _ => false
noncomputable def kents (r m since clock a b : Nat) (seen : List Nat) (es : List MapEntry) : Bool :=
 List.rec (motive := fun _ => Bool) true (fun e _ ih => Bool.rec (motive := fun _ => Bool) false ih (Bool.rec (motive := fun _ => Bool) (kput1 kh r (.row (.iter m since (seen ++ [e.born]) clock)) fun kh' => KT.putC (.tuple #[.bool true, e.key, e.val]) 64 ts a fun ts => KT.putC (.bool true) 64 ts b fun ts => k .normal ts kh') true (seen.any (Nat.beq e.born)))) es
noncomputable def kents1 (r m since clock a b : Nat) (seen : List Nat) (es : List MapEntry) : Bool :=
 List.rec (motive := fun _ => Bool) false (fun e _ ih => Bool.rec (motive := fun _ => Bool) (kput1 kh r (.row (.iter m since (seen ++ [e.born]) clock)) fun kh' => KT.putC (.tuple #[.bool true, e.key, e.val]) 64 ts a fun ts => KT.putC (.bool true) 64 ts b fun ts => k .normal ts kh') ih (seen.any (Nat.beq e.born))) es
noncomputable def knext (fst : Bool) (x : Opd) (a b : Nat) : Bool := kev ts x fun v => match v with
 | .pointer (some ⟨r, 0, none⟩) => (match kh.rows.get r with
   | some (.row (.iter m since seen c0)) => (match kh.rows.get m with
     | some (.row (.map es clock)) => Bool.rec (motive := fun _ => Bool) false
      (Bool.rec (motive := fun _ => Bool) (Bool.rec (motive := fun _ => Bool) (kents k ts kh r m since clock a b seen es) (kents1 k ts kh r m since clock a b seen es) fst)
       (KT.putC (.tuple #[.bool false]) 64 ts a fun ts => KT.putC (.bool false) 64 ts b fun ts => k .normal ts kh) (es.all fun e => seen.any (Nat.beq e.born)))
      (Nat.ble lo r && not (Nat.beq r m) && Nat.ble since c0 && es.all fun e => Nat.ble (e.born + 1) since)
     | _ => false)
   | _ => false)
 | _ => false
noncomputable def kcode (fst : Bool) (A : ACode) : Bool := match A with
 | .skip => k .normal ts kh
 | .ret => k .ret ts kh
 | .exit id => k (.exit id) ts kh
 | .seq a b => kSeq ih lo k ts kh a b
 | .cond c a b => kCond ih lo k ts kh c a b
 | .block id c => kBlock ih lo k ts kh id c
 | .loop c => ih (.loop lo c k ts kh)
 | .reg ops => kReg ih lo k ts kh ops
 | .dreg ops ap => kDreg det lo k ts kh ops ap
 | .range f ps n asg body _ _ => kRange ih lo k ts kh f ps n asg body
 | .next x a b => knext lo k ts kh fst x a b
end
section
variable (P : Program) (ih : KTask → Bool) (lo : Nat)
noncomputable def kins (base i : Nat) (o : AOper) (rest : List AOper) (k : KTs → KH → Bool) (ts : KTs) (kh : KH) : Bool := match o.ins with
 | .op ao => kop P lo (base + i) ts kh (fun v kh' => kput v o.dst ts fun ts' => ih (.ops lo base (i + 1) rest k ts' kh')) ao
 | .call f args => kevs ts args fun args => kev ts f fun f => ih (.call lo f args kh fun v kh' => kput v o.dst ts fun ts' => ih (.ops lo base (i + 1) rest k ts' kh'))
noncomputable def kops (base i : Nat) (ops : List AOper) (k : KTs → KH → Bool) (ts : KTs) (kh : KH) : Bool := match ops with
 | [] => k ts kh
 | o :: rest => Bool.rec (motive := fun _ => Bool) (kput undef o.dst ts fun ts' => ih (.ops lo base (i + 1) rest k ts' kh)) (kins P ih lo base i o rest k ts kh) (awanted (kts ts) o.guard)
end
section
variable (P : Program) (ih : KTask → Bool) (lo : Nat)
noncomputable def kend (r : Nat) (k : Value → KH → Bool) (e : Exit) (kh : KH) : Bool := match roundEnd e with
 | none => false
 | some p => match kh.rows.get r with
   | some (.loop _ _ size tmps ps asg body) => kput1 kh r (.loop (pendS p) p size tmps ps asg body) fun kh => k (.bool (pendB p)) kh
   | _ => false
noncomputable def kbegin (r : Nat) (B : ACode) (k : Value → KH → Bool) (e : Exit) (ts : KTs) (kh : KH) : Bool := match e with
 | .normal => (match kh.rows.get r with
   | some (.loop .ready pd size tmps ps asg body) => kput1 kh r (.loop .busy pd size tmps ps asg body) fun kh => ih (.code lo B (fun e _ kh => kend r k e kh) ts kh)
   | _ => false)
 | _ => false
noncomputable def kyield (nd : List Nat) (lo : Nat) (r : Nat) (args : List Value) (kh : KH) (k : Value → KH → Bool) : Bool := match kh.rows.get r with
 | some (.loop _ _ size tmps ps asg body) => Bool.rec (motive := fun _ => Bool) false (match cCodeX P nd size false asg with
   | none => false
   | some A => match cCodeX P nd size false body with
     | none => false
     | some B => ksetPs (fun ts0 => ih (.code lo A (kbegin ih lo r B k) ts0 kh)) ps args tmps) (Nat.ble lo r && Nat.ble (r + 1) kh.next && Nat.beq args.length ps.length && ps.all (fun p => Nat.ble (p + 1) size))
 | _ => false
noncomputable def kcall (nd : List Nat) (lo : Nat) (fv : Value) (args : List Value) (kh : KH) (k : Value → KH → Bool) : Bool := match fv with
 | .func (.func g) ⟨first⟩ ⟨capt⟩ => spine (first ++ args ++ capt) fun args => ih (.fn lo g args kh k)
 | .func (.yield r) ⟨[]⟩ ⟨[]⟩ => kyield P ih nd lo r args kh k
 | _ => false
noncomputable def kret (k : Value → KH → Bool) (rs : List ResultVar) (e : Exit) (ts : KTs) (kh : KH) : Bool := match e with
 | .normal => kro kh k (ares P kh.abs (kts ts) rs)
 | .ret => kro kh k (ares P kh.abs (kts ts) rs)
 | _ => false
noncomputable def kfn1 (e : KFn) (args : List Value) (kh : KH) (k : Value → KH → Bool) : Bool := Bool.rec (motive := fun _ => Bool) false (kinit (fun ts0 => ih (.code lo e.A (kret P k e.rs) ts0 kh)) args 0 .nil)
 (Nat.beq args.length e.na && Nat.ble lo kh.next)
noncomputable def kfn (T T2 : KT KFn) (g : Nat) (args : List Value) (kh : KH) (k : Value → KH → Bool) : Bool := match T.get g with
 | some e => (match e.hook with
   | some F => Bool.rec (motive := fun _ => Bool) false (F args kh k) (Nat.ble lo kh.next)
   | none => kfn1 P ih lo e args kh k)
 | none => match T2.get g with
   | some e => kfn1 P ih lo e args kh k
   | none => false
end
noncomputable def kmergeF (ih : KTask → Bool) (g : Nat) (args : List Value) (kh : KH) (k : Value → KH → Bool) (v : Value) : Bool :=
 Bool.rec (motive := fun _ => Bool) false (Bool.rec (motive := fun _ => Bool) false (k v kh) (ih (.fnx kh.next g args kh fun w _ => veq 6 w v))) (veq 6 v v)
noncomputable def kendM (n : Nat) (v : Value) (row : ARow) (w : Value) (kh : KH) : Bool := match qrow n 6 w with
 | some q => Nat.ble n q && veqM n q 6 w v && isRow row (kh.rows.get q)
 | none => false
noncomputable def kmergeM (ih : KTask → Bool) (g : Nat) (args : List Value) (kh : KH) (k : Value → KH → Bool) (v : Value) (o : Option KRow) : Bool := match o with
 | some (.row row) => Bool.rec (motive := fun _ => Bool) false (Bool.rec (motive := fun _ => Bool) false (kbump kh 1 fun kh' => KT.putC (.row row) 64 kh'.rows kh.next fun rows => k v ⟨kh'.next, rows⟩)
  (ih (.fnx kh.next g args kh (kendM kh.next v row)))) (plainR row)
 | _ => false
noncomputable def kmerge (one ih : KTask → Bool) (g : Nat) (args : List Value) (kh : KH) (k : Value → KH → Bool) : Bool :=
 one (.fnx kh.next g args kh fun v kh1 => match qrow kh.next 6 v with
  | none => forceK 6 v fun v => kmergeF ih g args kh k v
  | some q => forceK 6 (mvV kh.next q 6 v) fun v => kmergeM ih g args kh k v (kh1.rows.get q))
noncomputable def kstep (P : Program) (T T2 : KT KFn) (nd mg : List Nat) (fst : Bool) (one : KTask → Bool) (det : AE.KerT.KTask → Bool) (ih : KTask → Bool) (t : KTask) : Bool := match t with
 | .code lo A k ts kh => kcode det ih lo k ts kh fst A
 | .loop lo c k ts kh => ih (.code lo c (fun e ts kh => match e with | .normal => ih (.loop lo c k ts kh) | e => k e ts kh) ts kh)
 | .ops lo base i ops k ts kh => kops P ih lo base i ops k ts kh
 | .call lo fv args kh k => kcall P ih nd lo fv args kh k
 | .fn lo g args kh k => Bool.rec (motive := fun _ => Bool) (ih (.fnx lo g args kh k)) (Bool.rec (motive := fun _ => Bool) false (kmerge one ih g args kh k) (Nat.ble lo kh.next)) (mg.any (Nat.beq g))
 | .fnx lo g args kh k => kfn P ih lo T T2 g args kh k

noncomputable def krun1 (P : Program) (T T2 : KT KFn) (nd : List Nat) (D : Nat) (f : Nat) : KTask → Bool := Nat.rec (motive := fun _ => KTask → Bool) (fun _ => false) (fun _ ih => kstep P T T2 nd [] true (fun _ => false) (AE.KerT.krun P T D) ih) f
noncomputable def krun (P : Program) (T T2 : KT KFn) (nd mg : List Nat) (D : Nat) (f : Nat) : KTask → Bool := Nat.rec (motive := fun _ => KTask → Bool) (fun _ => false) (fun _ ih => kstep P T T2 nd mg false (krun1 P T T2 nd D D) (AE.KerT.krun P T D) ih) f


def QK (k : Exit → KTs → KH → Bool) : Exit → Ts → H → Prop := fun e ts h => ∃ tk hk, ts = kts tk ∧ h = hk.abs ∧ k e tk hk = true
def QT (k : KTs → KH → Bool) : Ts → H → Prop := fun ts h => ∃ tk hk, ts = kts tk ∧ h = hk.abs ∧ k tk hk = true
def KTask.Spec (P : Program) (f : Nat) : KTask → Prop
 | .code lo A k ts kh => wpD P lo A (QK k) (kts ts) kh.abs
 | .loop lo A k ts kh => iter (fun K => wpD P lo A (thenQ K (QK k))) f (kts ts) kh.abs
 | .ops (lo) (base) (i) (xs) (k) (ts) (kh) => RunD P lo base i xs (QT k) (kts ts) kh.abs
 | .call lo fv args kh k => ACallD P fv lo kh.abs args fun v h' => ∃ kh', k v kh' = true ∧ h' = kh'.abs
 | .fn lo g args kh k => AFD P g lo kh.abs args fun v h' => ∃ kh', k v kh' = true ∧ h' = kh'.abs
 | .fnx lo g args kh k => AFD P g lo kh.abs args fun v h' => ∃ kh', k v kh' = true ∧ h' = kh'.abs
def KTask.Ex : KTask → Prop
 | .code _ _ k _ _ => ∃ e ts kh, k e ts kh = true
 | .loop _ _ k _ _ => ∃ e ts kh, k e ts kh = true
 | .ops _ _ _ _ k _ _ => ∃ ts kh, k ts kh = true
 | .call _ _ _ _ k => ∃ v kh, k v kh = true
 | .fn _ _ _ _ k => ∃ v kh, k v kh = true
 | .fnx _ _ _ _ k => ∃ v kh, k v kh = true

theorem run_ex {P : Program} {lo base : Nat} {q : Bool} {K : Ts → H → Prop} : ∀ {xs : List AOper} {i : Nat} {ts : Ts} {h : H}, Run P lo q base i xs K ts h → ∃ ts h, K ts h
 | [], _, _, _, h => ⟨_, _, h⟩
 | o :: rest, i, ts, h, hr => by
   simp only [Run] at hr
   split at hr
   ·cases hi : o.ins with
    | op ao =>
      rw [hi] at hr
      obtain ⟨v, h', ha, hr⟩ := hr
      exact run_ex hr
    | call f args =>
      rw [hi] at hr
      obtain ⟨v, h', ha, hr⟩ := hr
      exact run_ex hr
   ·exact run_ex hr

theorem kents_ex {r m since clock a b : Nat} {seen : List Nat} {k : Exit → KTs → KH → Bool} {ts : KTs} {kh : KH} : ∀ {es : List MapEntry}, kents1 k ts kh r m since clock a b seen es = true → ∃ e ts kh, k e ts kh = true
 | [], h => by cases h
 | x :: es, h => by
   have h : Bool.rec (motive := fun _ => Bool) (kput1 kh r (.row (.iter m since (seen ++ [x.born]) clock)) fun kh' => KT.putC (.tuple #[.bool true, x.key, x.val]) 64 ts a fun ts => KT.putC (.bool true) 64 ts b fun ts => k .normal ts kh') (kents1 k ts kh r m since clock a b seen es) (seen.any (Nat.beq x.born)) = true := h
   cases hs : seen.any (Nat.beq x.born) with
   | true => rw [hs] at h; exact kents_ex h
   | false =>
     rw [hs] at h
     obtain ⟨kh', h, -⟩ := kput1_out h
     obtain ⟨t1, h, -⟩ := KT.putC_out 64 h
     obtain ⟨t2, h, -⟩ := KT.putC_out 64 h
     exact ⟨_, _, _, h⟩

theorem krun1_ex {P : Program} {T T2 : KT KFn} {nd : List Nat} {D : Nat} (hm : P.follows .mixedOrders = true) (hT : TabOk P T) : ∀ (f : Nat) (t : KTask), krun1 P T T2 nd D f t = true → t.Ex
 | 0, t, h => Bool.noConfusion h
 | f + 1, t, h => by
   have ih : ∀ t, krun1 P T T2 nd D f t = true → t.Ex := krun1_ex hm hT f
   have dt : ∀ t, AE.KerT.krun P T D t = true → t.Spec P D := AE.KerT.krun_sound hm hT D
   have h : kstep P T T2 nd [] true (fun _ => false) (AE.KerT.krun P T D) (krun1 P T T2 nd D f) t = true := h
   cases t with
   | loop lo c k ts kh =>
     obtain ⟨e, ts1, kh1, hh⟩ := (show ∃ e ts kh, _ from ih (.code ..) h)
     cases e with
     | normal => have r := ih _ hh; exact r
     | _ => exact ⟨_, _, _, hh⟩
   | code lo A k ts kh =>
     have h : kcode (AE.KerT.krun P T D) (krun1 P T T2 nd D f) lo k ts kh true A = true := h
     cases A with
     | skip => exact ⟨_, _, _, h⟩
     | ret => exact ⟨_, _, _, h⟩
     | exit id => exact ⟨_, _, _, h⟩
     | seq a b =>
       obtain ⟨e, ts1, kh1, hh⟩ := (show ∃ e ts kh, _ from ih (.code ..) h)
       cases e with
       | normal => have r := ih _ hh; exact r
       | _ => exact ⟨_, _, _, hh⟩
     | cond c a b =>
       have h : kCond (krun1 P T T2 nd D f) lo k ts kh c a b = true := h
       unfold kCond at h
       rw [kev_eq] at h
       split at h
       ·rename_i t hc
        cases t
        ·have r := ih _ h; exact r
        ·have r := ih _ h; exact r
       ·cases h
     | block id c =>
       obtain ⟨e, ts1, kh1, hh⟩ := (show ∃ e ts kh, _ from ih (.code ..) h)
       cases e with
       | exit id' =>
         simp only at hh
         cases hb : Nat.beq id' id <;> rw [hb] at hh <;> exact ⟨_, _, _, hh⟩
       | _ => exact ⟨_, _, _, hh⟩
     | loop c => exact ih (.loop ..) h
     | reg ops =>
       have h : kReg (krun1 P T T2 nd D f) lo k ts kh ops = true := h
       unfold kReg at h
       obtain ⟨kh', h, e⟩ := kbump_out h
       obtain ⟨ts1, kh1, hh⟩ := (show ∃ ts kh, _ from ih (.ops ..) h)
       exact ⟨_, _, _, hh⟩
     | dreg ops ap =>
       have h : kDreg (AE.KerT.krun P T D) lo k ts kh ops ap = true := h
       unfold kDreg at h
       obtain ⟨kh', h, e⟩ := kbump_out h
       have := dt (.ops ..) h
       simp only [AE.KerT.KTask.Spec, e] at this
       obtain ⟨ts1, h1, tk, hk, rfl, rfl, hh⟩ := run_ex this
       simp only at hh
       cases ha : apartB ap (kts tk) with
       | false => rw [ha] at hh; cases hh
       | true => rw [ha] at hh; exact ⟨_, _, _, hh⟩
     | range fv ps n asg body A B =>
       have h : kRange (krun1 P T T2 nd D f) lo k ts kh fv ps n asg body = true := h
       unfold kRange at h
       rw [kev_eq] at h
       split at h
       ·obtain ⟨rows, h, hp⟩ := KT.putC_out 64 h
        obtain ⟨kh1, h, e1⟩ := kbump_out h
        obtain ⟨v, kh2, h⟩ := (show ∃ v kh, _ from ih (.fn ..) h)
        split at h
        ·cases h
        ·obtain ⟨rows', h, hp'⟩ := KT.putC_out 64 h
         exact ⟨_, _, _, h⟩
        ·cases h
       ·cases h
     | next x a b =>
       have h : knext lo k ts kh true x a b = true := h
       unfold knext at h
       rw [kev_eq] at h
       split at h
       ·split at h
        ·rename_i m since seen c0 hg
         split at h
         ·rename_i es clock hgm
          generalize (Nat.ble lo _ && not (Nat.beq _ m) && Nat.ble since c0 && es.all fun e => Nat.ble (e.born + 1) since) = c1 at h
          cases c1 with
          | false => cases h
          | true =>
            simp only at h
            generalize (es.all fun e => seen.any (Nat.beq e.born)) = c2 at h
            cases c2 with
            | false => exact kents_ex h
            | true =>
              obtain ⟨t1, h, p1⟩ := KT.putC_out 64 h
              obtain ⟨t2, h, p2⟩ := KT.putC_out 64 h
              exact ⟨_, _, _, h⟩
         ·cases h
        ·cases h
       ·cases h
   | ops lo base i ops k ts kh =>
     have h : kops P (krun1 P T T2 nd D f) lo base i ops k ts kh = true := h
     cases ops with
     | nil => exact ⟨_, _, h⟩
     | cons o rest =>
       unfold kops at h
       simp only at h
       cases hw : awanted (kts ts) o.guard with
       | false =>
         rw [hw] at h
         obtain ⟨ts', h, e⟩ := kput_out h
         have r := ih _ h; exact r
       | true =>
         rw [hw] at h
         simp only at h
         unfold kins at h
         split at h
         ·obtain ⟨v, kh', h, ha⟩ := kop_out h
          obtain ⟨ts', h, e⟩ := kput_out h
          have r := ih _ h; exact r
         ·rw [kevs_eq, kev_eq] at h
          obtain ⟨v, kh', h⟩ := (show ∃ v kh, _ from ih (.call ..) h)
          obtain ⟨ts', h, e⟩ := kput_out h
          have r := ih _ h; exact r
   | call lo fv args kh k =>
     have h : kcall P (krun1 P T T2 nd D f) nd lo fv args kh k = true := h
     unfold kcall at h
     split at h
     ·rw [spine_eq] at h
      exact ih (.fn ..) h
     ·rename_i r _ _
      unfold kyield at h
      split at h
      ·rename_i st pd size tmps ps asg body hg
       generalize (Nat.ble lo r && Nat.ble (r + 1) kh.next && Nat.beq args.length ps.length && ps.all (fun p => Nat.ble (p + 1) size)) = c1 at h
       cases c1 with
       | false => cases h
       | true =>
         simp only at h
         split at h
         ·cases h
         ·split at h
          ·cases h
          ·obtain ⟨ts0, h, e0⟩ := ksetPs_out h
           obtain ⟨e, ts1, kh1, hh⟩ := (show ∃ e ts kh, _ from ih (.code ..) h)
           unfold kbegin at hh
           cases e <;> first | (cases hh; done) | skip
           simp only at hh
           split at hh
           ·obtain ⟨k1', hh, ep⟩ := kput1_out hh
            obtain ⟨e2, ts2, kh2, hh⟩ := (show ∃ e ts kh, _ from ih (.code ..) hh)
            unfold kend at hh
            split at hh
            ·cases hh
            ·split at hh
             ·obtain ⟨k2', hh, ep2⟩ := kput1_out hh
              exact ⟨_, _, hh⟩
             ·cases hh
           ·cases hh
      ·cases h
     ·cases h
   | fn lo g args kh k => exact ih (.fnx ..) h
   | fnx lo g args kh k =>
     have h : kfn P (krun1 P T T2 nd D f) lo T T2 g args kh k = true := h
     have fin : ∀ e : KFn, kfn1 P (krun1 P T T2 nd D f) lo e args kh k = true → ∃ v kh, k v kh = true := fun e h => by
      unfold kfn1 at h
      cases hc : (Nat.beq args.length e.na && Nat.ble lo kh.next) with
      | false => rw [hc] at h; cases h
      | true =>
        rw [hc] at h
        simp only at h
        obtain ⟨t0, h, e0⟩ := kinit_out h
        obtain ⟨e1, ts1, kh1, hh⟩ := (show ∃ e ts kh, _ from ih (.code ..) h)
        unfold kret at hh
        cases e1 <;> first | (cases hh; done) | skip
        all_goals
         obtain ⟨v, hv, hh⟩ := kro_out hh
         exact ⟨_, _, hh⟩
     unfold kfn at h
     split at h
     ·rename_i e he
      have F := hT g e he
      unfold AE.KerT.FnOk at F
      split at h
      ·rename_i X hX
       simp only [hX] at F
       cases hc : Nat.ble lo kh.next with
       | false => rw [hc] at h; cases h
       | true =>
         rw [hc] at h
         obtain ⟨v, kh', hk, _⟩ := F lo args kh k h (Nat.le_of_ble_eq_true hc)
         exact ⟨v, kh', hk⟩
      ·exact fin _ h
     ·split at h
      ·exact fin _ h
      ·cases h

theorem kents_out {r m since clock a b : Nat} {seen : List Nat} {k : Exit → KTs → KH → Bool} {ts : KTs} {kh : KH} : ∀ {es : List MapEntry}, kents k ts kh r m since clock a b seen es = true → ∀ e ∈ es, e.born ∉ seen →
 QK k .normal (setV (setV (kts ts) a (.tuple #[.bool true, e.key, e.val])) b (.bool true)) (kh.abs.put r (.iter m since (seen ++ [e.born]) clock))
 | [], h, e, he, _ => nomatch he
 | x :: es, h, e, he, hn => by
   have h : Bool.rec (motive := fun _ => Bool) false (kents k ts kh r m since clock a b seen es) (Bool.rec (motive := fun _ => Bool) (kput1 kh r (.row (.iter m since (seen ++ [x.born]) clock)) fun kh' => KT.putC (.tuple #[.bool true, x.key, x.val]) 64 ts a fun ts => KT.putC (.bool true) 64 ts b fun ts => k .normal ts kh') true (seen.any (Nat.beq x.born))) = true := h
   generalize hq : Bool.rec (motive := fun _ => Bool) (kput1 kh r (.row (.iter m since (seen ++ [x.born]) clock)) fun kh' => KT.putC (.tuple #[.bool true, x.key, x.val]) 64 ts a fun ts => KT.putC (.bool true) 64 ts b fun ts => k .normal ts kh') true (seen.any (Nat.beq x.born)) = q at h
   cases q with
   | false => cases h
   | true =>
     rcases List.mem_cons.1 he with rfl | he
     ·cases hs : seen.any (Nat.beq e.born) with
      | true =>
        exfalso
        obtain ⟨y, hy, hb⟩ := List.any_eq_true.1 hs
        have := Nat.eq_of_beq_eq_true hb
        subst this
        exact hn hy
      | false =>
        rw [hs] at hq
        obtain ⟨kh', hq, e1⟩ := kput1_out hq
        obtain ⟨t1, hq, p1⟩ := KT.putC_out 64 hq
        obtain ⟨t2, hq, p2⟩ := KT.putC_out 64 hq
        refine ⟨t2, kh', ?_, ?_, hq⟩
        ·rw [kts_put p2, kts_put p1]
        ·rw [e1]; rfl
     ·exact kents_out h e he hn

theorem krun_sound {P : Program} {T T2 : KT KFn} {nd mg : List Nat} {D : Nat} (hm : P.follows .mixedOrders = true) (hT : TabOk P T) (hT2 : TabDOk P T2) : ∀ (f : Nat) (t : KTask), krun P T T2 nd mg D f t = true → t.Spec P f
 | 0, t, h => Bool.noConfusion h
 | f + 1, t, h => by
   have ih : ∀ t, krun P T T2 nd mg D f t = true → t.Spec P f := krun_sound hm hT hT2 f
   have dt : ∀ t, AE.KerT.krun P T D t = true → t.Spec P D := AE.KerT.krun_sound hm hT D
   have h : kstep P T T2 nd mg false (krun1 P T T2 nd D D) (AE.KerT.krun P T D) (krun P T T2 nd mg D f) t = true := h
   cases t with
   | loop lo c k ts kh =>
     refine wpD_mono c ?_ _ _ (show wpD P _ _ (QK _) _ _ from ih (.code ..) h)
     rintro e ts' h' ⟨tk, hk, rfl, rfl, hh⟩
     cases e with
     | normal => exact ih _ hh
     | _ => exact ⟨tk, hk, rfl, rfl, hh⟩
   | code lo A k ts kh =>
     have h : kcode (AE.KerT.krun P T D) (krun P T T2 nd mg D f) lo k ts kh false A = true := h
     cases A with
     | skip => exact ⟨ts, kh, rfl, rfl, h⟩
     | ret => exact ⟨ts, kh, rfl, rfl, h⟩
     | exit id => exact ⟨ts, kh, rfl, rfl, h⟩
     | seq a b =>
       refine wpD_mono a ?_ _ _ (show wpD P _ _ (QK _) _ _ from ih (.code ..) h)
       rintro e ts' h' ⟨tk, hk, rfl, rfl, hh⟩
       cases e with
       | normal => exact ih _ hh
       | _ => exact ⟨tk, hk, rfl, rfl, hh⟩
     | cond c a b =>
       have h : kCond (krun P T T2 nd mg D f) lo k ts kh c a b = true := h
       unfold kCond at h
       rw [kev_eq] at h
       split at h
       ·rename_i t hc
        refine ⟨t, hc, ?_⟩
        cases t
        ·rw [if_neg (by simp)]; exact ih _ h
        ·rw [if_pos rfl]; exact ih _ h
       ·cases h
     | block id c =>
       refine wpD_mono c ?_ _ _ (show wpD P _ _ (QK _) _ _ from ih (.code ..) h)
       rintro e ts' h' ⟨tk, hk, rfl, rfl, hh⟩
       cases e with
       | exit id' =>
         simp only [blockQ]
         simp only [brec_iff beq_iff] at hh
         by_cases he : id' = id
         ·rw [if_pos he]
          rw [if_pos he] at hh
          exact ⟨tk, hk, rfl, rfl, hh⟩
         ·rw [if_neg he]
          rw [if_neg he] at hh
          exact ⟨tk, hk, rfl, rfl, hh⟩
       | _ => exact ⟨tk, hk, rfl, rfl, hh⟩
     | loop c => exact ⟨f, ih (.loop ..) h⟩
     | reg ops =>
       have h : kReg (krun P T T2 nd mg D f) lo k ts kh ops = true := h
       unfold kReg at h
       obtain ⟨kh', h, e⟩ := kbump_out h
       simp only [KTask.Spec, wpD]
       have := ih (.ops ..) h
       simp only [KTask.Spec, e] at this
       exact this
     | dreg ops ap =>
       have h : kDreg (AE.KerT.krun P T D) lo k ts kh ops ap = true := h
       unfold kDreg at h
       obtain ⟨kh', h, e⟩ := kbump_out h
       have := dt (.ops ..) h
       simp only [AE.KerT.KTask.Spec, e] at this
       refine run_mono ?_ this
       rintro ts' h' ⟨tk, hk, rfl, rfl, hh⟩
       simp only at hh
       cases ha : apartB ap (kts tk) with
       | false => rw [ha] at hh; cases hh
       | true =>
         rw [ha] at hh
         exact ⟨apartB_out ha, tk, hk, rfl, rfl, hh⟩
     | range fv ps n asg body A B =>
       have h : kRange (krun P T T2 nd mg D f) lo k ts kh fv ps n asg body = true := h
       unfold kRange at h
       rw [kev_eq] at h
       split at h
       ·rename_i g first capt hv
        obtain ⟨rows, h, hp⟩ := KT.putC_out 64 h
        obtain ⟨kh1, h, e1⟩ := kbump_out h
        have a := ih (.fn ..) h
        simp only [KTask.Spec] at a
        refine ⟨g, first, capt, hv, ?_⟩
        have e2 : kh1.abs = kh.abs.enter (loop0 n (kts ts) ps asg body) := by
         rw [e1, KH.abs_put hp]
         rfl
        rw [← e2]
        refine a.mono (Nat.le_refl _) ?_
        rintro v h' ⟨kh2, h, rfl⟩
        split at h
        ·cases h
        ·rename_i st pd _ _ _ _ _ hne hg
         obtain ⟨rows', h, hp'⟩ := KT.putC_out 64 h
         refine ⟨_, kget hg, ?_, ts, _, rfl, ?_, h⟩
         ·intro he
          exact hne he
         ·rw [KH.abs_put hp']
          rfl
        ·cases h
       ·cases h
     | next x a b =>
       have h : knext lo k ts kh false x a b = true := h
       unfold knext at h
       rw [kev_eq] at h
       split at h
       ·rename_i r hv
        split at h
        ·rename_i m since seen c0 hg
         split at h
         ·rename_i es clock hgm
          cases hc : (Nat.ble lo r && not (Nat.beq r m) && Nat.ble since c0 && es.all fun e => Nat.ble (e.born + 1) since) with
          | false => rw [hc] at h; cases h
          | true =>
            rw [hc] at h
            simp only [Bool.and_eq_true, Bool.not_eq_true'] at hc
            obtain ⟨⟨⟨c1, c2⟩, c3⟩, c4⟩ := hc
            simp only at h
            have all : ∀ e ∈ es, (seen.any (Nat.beq e.born) = true ↔ e.born ∈ seen) := fun e _ => by
             rw [List.any_eq_true]
             constructor
             ·rintro ⟨y, hy, hb⟩
              rw [Nat.eq_of_beq_eq_true hb]; exact hy
             ·exact fun hm => ⟨_, hm, Nat.beq_refl _⟩
            refine ⟨r, m, since, seen, c0, es, clock, hv, Nat.le_of_ble_eq_true c1, (fun e => by subst e; rw [Nat.beq_refl] at c2; exact Bool.noConfusion c2), kget hg, kget hgm, fun e he => Nat.le_of_ble_eq_true (List.all_eq_true.1 c4 e he), Nat.le_of_ble_eq_true c3, fun hs => ?_, fun e he hn => ?_⟩
            ·have : (es.all fun e => seen.any (Nat.beq e.born)) = true := List.all_eq_true.2 fun e he => (all e he).2 (hs e he)
             rw [this] at h
             obtain ⟨t1, h, p1⟩ := KT.putC_out 64 h
             obtain ⟨t2, h, p2⟩ := KT.putC_out 64 h
             exact ⟨t2, kh, by rw [kts_put p2, kts_put p1], rfl, h⟩
            ·have : (es.all fun e => seen.any (Nat.beq e.born)) = false := by
              cases ha : (es.all fun e => seen.any (Nat.beq e.born)) with
              | false => rfl
              | true => exact absurd ((all e he).1 (List.all_eq_true.1 ha e he)) hn
             rw [this] at h
             exact kents_out h e he hn
         ·cases h
        ·cases h
       ·cases h
   | ops lo base i ops k ts kh =>
     have h : kops P (krun P T T2 nd mg D f) lo base i ops k ts kh = true := h
     cases ops with
     | nil => exact ⟨ts, kh, rfl, rfl, h⟩
     | cons o rest =>
       simp only [KTask.Spec, RunD]
       unfold kops at h
       simp only at h
       cases hw : awanted (kts ts) o.guard with
       | false =>
         rw [hw] at h
         rw [if_neg (by simp)]
         obtain ⟨ts', h, e⟩ := kput_out h
         rw [← e]
         exact ih _ h
       | true =>
         rw [hw] at h
         rw [if_pos rfl]
         simp only at h
         unfold kins at h
         split at h
         ·rename_i ao hi
          obtain ⟨v, kh', h, ha⟩ := kop_out h
          obtain ⟨ts', h, e⟩ := kput_out h
          rw [hi]
          refine ⟨v, _, ha, ?_⟩
          rw [← e]
          exact ih _ h
         ·rename_i fv args hi
          rw [kevs_eq, kev_eq] at h
          have ha := ih (.call ..) h
          simp only [KTask.Spec] at ha
          rw [hi]
          refine ha.mono (Nat.le_refl _) ?_
          rintro v h' ⟨kh', h, rfl⟩
          obtain ⟨ts', h, e⟩ := kput_out h
          rw [← e]
          exact ih _ h
   | call lo fv args kh k =>
     have h : kcall P (krun P T T2 nd mg D f) nd lo fv args kh k = true := h
     unfold kcall at h
     split at h
     ·rename_i g first capt
      rw [spine_eq] at h
      have a := ih (.fn ..) h
      simp only [KTask.Spec] at a
      exact a.acalld
     ·rename_i r _ _
      unfold kyield at h
      split at h
      ·rename_i st pd size tmps ps asg body hg
       cases hc : (Nat.ble lo r && Nat.ble (r + 1) kh.next && Nat.beq args.length ps.length && ps.all (fun p => Nat.ble (p + 1) size)) with
       | false => rw [hc] at h; cases h
       | true =>
         rw [hc] at h
         simp only at h
         simp only [Bool.and_eq_true] at hc
         obtain ⟨⟨⟨c1, c2⟩, c3⟩, c4⟩ := hc
         split at h
         ·cases h
         ·rename_i A hA
          split at h
          ·cases h
          ·rename_i B hB
           obtain ⟨ts0, h, e0⟩ := ksetPs_out h
           have hy : YAD P lo r A B ⟨st, pd, size, kts tmps, ps, asg, body⟩ args kh.abs (fun v h' => ∃ kh', k v kh' = true ∧ h' = kh'.abs) := by
            unfold YAD
            simp only
            rw [← e0]
            refine wpD_mono A ?_ _ _ (show wpD P _ _ (QK _) _ _ from ih (.code ..) h)
            rintro e ts1 h1 ⟨t1, k1, rfl, rfl, hh⟩
            unfold kbegin at hh
            cases e <;> first | (cases hh; done) | skip
            simp only at hh
            split at hh
            ·rename_i pd1 size1 tmps1 ps1 asg1 body1 hg1
             obtain ⟨k1', hh, ep⟩ := kput1_out hh
             refine ⟨rfl, _, kget hg1, rfl, ?_⟩
             have hi := ih (.code ..) hh
             simp only [KTask.Spec, ep] at hi
             refine wpD_mono B ?_ _ _ hi
             rintro e2 ts2 h2 ⟨t2, k2, rfl, rfl, hh⟩
             unfold kend at hh
             simp only at hh
             split at hh
             ·cases hh
             ·rename_i p hre
              split at hh
              ·rename_i hg2
               obtain ⟨k2', hh, ep2⟩ := kput1_out hh
               refine ⟨p, _, hre, kget hg2, _, hh, ?_⟩
               rw [ep2]
               rfl
              ·cases hh
            ·cases hh
           exact YAD.call hm hA hB (kget hg) (Nat.le_of_ble_eq_true c1) (Nat.le_of_ble_eq_true c2) (Nat.eq_of_beq_eq_true c3)
            (List.all_eq_true.2 fun p hp => decide_eq_true (Nat.le_of_ble_eq_true (List.all_eq_true.1 c4 p hp))) hy
      ·cases h
     ·cases h
   | fn lo g args kh k =>
     have h : Bool.rec (motive := fun _ => Bool) (krun P T T2 nd mg D f (.fnx lo g args kh k)) (Bool.rec (motive := fun _ => Bool) false (kmerge (krun1 P T T2 nd D D) (krun P T T2 nd mg D f) g args kh k) (Nat.ble lo kh.next)) (mg.any (Nat.beq g)) = true := h
     cases hg : mg.any (Nat.beq g) with
     | false => rw [hg] at h; exact ih (.fnx ..) h
     | true =>
       rw [hg] at h
       simp only at h
       cases hl : Nat.ble lo kh.next with
       | false => rw [hl] at h; cases h
       | true =>
         rw [hl] at h
         simp only at h
         unfold kmerge at h
         obtain ⟨v, kh', h⟩ := (show ∃ v kh, _ from krun1_ex hm hT D (.fnx ..) h)
         split at h
         ·rw [forceK_eq] at h
          unfold kmergeF at h
          cases h1 : veq 6 v v with
          | false => rw [h1] at h; cases h
          | true =>
            rw [h1] at h
            simp only at h
            cases h2 : krun P T T2 nd mg D f (.fnx kh.next g args kh fun w _ => veq 6 w v) with
            | false => rw [h2] at h; cases h
            | true =>
              rw [h2] at h
              have a := ih (.fnx ..) h2
              simp only [KTask.Spec] at a
              exact (AFD.flat (AE.AFD.mono a (Nat.le_refl _) fun w h' ⟨kh', hv, _⟩ => (veq_out 6 hv).1) (veq_out 6 h1).2 lo (Nat.le_of_ble_eq_true hl)).afd ⟨kh, h, rfl⟩
         ·rw [forceK_eq] at h
          generalize mvV kh.next _ 6 v = v1 at h
          unfold kmergeM at h
          split at h
          ·rename_i row _
           cases h1 : plainR row with
           | false => rw [h1] at h; cases h
           | true =>
             rw [h1] at h
             simp only at h
             cases h2 : krun P T T2 nd mg D f (.fnx kh.next g args kh (kendM kh.next v1 row)) with
             | false => rw [h2] at h; cases h
             | true =>
               rw [h2] at h
               simp only at h
               obtain ⟨kh', h, eb⟩ := kbump_out h
               obtain ⟨rows, h, hp⟩ := KT.putC_out 64 h
               have a := ih (.fnx ..) h2
               simp only [KTask.Spec] at a
               refine (AFD.flatM (h := kh.abs) (v := v1) (nr := row) (AE.AFD.mono a (Nat.le_refl _) fun w h' ⟨kh2, hv, he⟩ => ?_) h1 lo (Nat.le_of_ble_eq_true hl)).afd ⟨⟨kh'.next, rows⟩, h, ?_⟩
               ·unfold kendM at hv
                split at hv
                ·rename_i q _
                 simp only [Bool.and_eq_true] at hv
                 obtain ⟨⟨c1, c2⟩, c3⟩ := hv
                 refine ⟨q, Nat.le_of_ble_eq_true c1, fun J i => veqM_out 6 w v1 c2 i, ?_⟩
                 rw [he]
                 exact kget (isRow_out c3)
                ·cases hv
               ·rw [KH.abs_put hp, eb]
                rfl
          ·cases h
   | fnx lo g args kh k =>
     have h : kfn P (krun P T T2 nd mg D f) lo T T2 g args kh k = true := h
     have fin : ∀ e : KFn, (∀ {R : Value → H → Prop}, args.length = e.na → lo ≤ kh.abs.next → wpD P lo e.A (fun e' ts h' => (e' = .normal ∨ e' = .ret) ∧ ∃ v, ares P h' ts e.rs = some v ∧ R v h') (ts0 args) kh.abs → AFD P g lo kh.abs args R) → kfn1 P (krun P T T2 nd mg D f) lo e args kh k = true → AFD P g lo kh.abs args fun v h' => ∃ kh', k v kh' = true ∧ h' = kh'.abs := fun e F h => by
      unfold kfn1 at h
      cases hc : (Nat.beq args.length e.na && Nat.ble lo kh.next) with
      | false => rw [hc] at h; cases h
      | true =>
        rw [hc] at h
        simp only at h
        simp only [Bool.and_eq_true] at hc
        obtain ⟨c1, c2⟩ := hc
        obtain ⟨t0, h, e0⟩ := kinit_out h
        have et : kts t0 = ts0 args := by
         funext m
         rw [e0]
         simp only [Nat.not_lt_zero, if_false, Nat.sub_zero, ts0]
         cases args[m]? <;> rfl
        have hw := ih (.code ..) h
        simp only [KTask.Spec, et] at hw
        refine F (Nat.eq_of_beq_eq_true c1) (Nat.le_of_ble_eq_true c2) (wpD_mono e.A ?_ _ _ hw)
        rintro e ts' h' ⟨tk, hk, rfl, rfl, hh⟩
        unfold kret at hh
        cases e <;> first | (cases hh; done) | skip
        all_goals
         obtain ⟨v, hv, hh⟩ := kro_out hh
         exact ⟨by simp, v, hv, hk, hh, rfl⟩
     unfold kfn at h
     split at h
     ·rename_i e he
      have F := hT g e he
      unfold AE.KerT.FnOk at F
      split at h
      ·rename_i X hX
       simp only [hX] at F
       cases hc : Nat.ble lo kh.next with
       | false => rw [hc] at h; cases h
       | true =>
         rw [hc] at h
         obtain ⟨v, kh', hk, a⟩ := F lo args kh k h (Nat.le_of_ble_eq_true hc)
         exact a.afd ⟨kh', hk, rfl⟩
      ·rename_i hX
       simp only [hX] at F
       exact fin e (fun a b c => F.toD.callD a b c) h
     ·split at h
      ·rename_i e he
       exact fin e (fun a b c => (hT2 g e he).callD a b c) h
      ·cases h


theorem AFD.alone {P : Program} {g : FuncId} {args : List Value} {v : Value} (a : AFD P g 0 H.empty args fun w _ => w = v) (ha : ∀ I, renL I args = args ∧ InL I args) (hv : ∀ I, ren I v = v ∧ In I v) (lo : Nat) (h : H) : AF P g lo h args v h := by
 refine ⟨Quiet.refl lo h, a.enters, fun I w k ia => ?_⟩
 have k0 : Rel ⟨fun _ _ => none, fun _ _ => 0, I.base⟩ H.empty w :=
  ⟨(fun r row e _ => nomatch e), (fun r d => nomatch d.choose_spec.choose_spec), (fun r s b d e => nomatch e), k.base, k.tabs, (fun r r' s s' b d d' e => nomatch e), fun _ _ => rfl⟩
 have hc := a.calls ⟨fun _ _ => none, fun _ _ => 0, I.base⟩ w k0 (ha _).2
 rw [(ha _).1] at hc
 rw [(ha I).1]
 refine hc.mono ?_
 rintro e w' ⟨v', h', J, rfl, hq, W, iv, rfl⟩
 have hb : ∀ b, b < w.heap.size → w'.heap[b]? = w.heap[b]? := fun b hb => W.ext.block b hb (fun r s d e => nomatch e)
 refine ⟨I, ⟨Grows.refl I w, fun _ d => .inl d, fun _ _ _ _ e => e, ⟨fun r row hr d => (k.rows r row hr d).le (Le.refl I) (fun _ _ e => e) (fun b ⟨s, d, e⟩ => hb b (k.size _ _ _ _ e)), k.lt, fun r s b d e => Nat.lt_of_lt_of_le (k.size r s b d e) W.ext.size, Nat.le_trans k.base W.ext.size, k.tabs.same (fun b h1 => hb b (Nat.lt_of_lt_of_le h1 k.base)), k.inj, k.clean⟩,
  ⟨W.ext.os, W.ext.tape, W.ext.output, W.ext.size, fun b hlt _ => hb b hlt⟩⟩, (hv I).2, by rw [(hv I).1, (hv J).1]⟩

noncomputable def kclosed (P : Program) (T T2 : KT KFn) (nd mg : List Nat) (D f g : Nat) : Bool := krun P T T2 nd mg D f (.fn 0 g [] ⟨0, .nil⟩ fun v _ => isTrue v)
theorem closed_w {P : Program} {T T2 : KT KFn} {nd mg : List Nat} (hm : P.follows .mixedOrders = true) (hT : TabOk P T) (hT2 : TabDOk P T2) {D f g : Nat} (he : kclosed P T T2 nd mg D f g = true) {lo : Nat} {h : H} : AW P g lo h [] (fun v h' => v = .bool true ∧ h' = h) := by
 have a := krun_sound hm hT hT2 f _ he
 simp only [KTask.Spec] at a
 exact ⟨_, h, ⟨rfl, rfl⟩, AFD.alone (AE.AFD.mono a (Nat.le_refl _) fun v h' ⟨kh', hv, _⟩ => isTrue_out hv) (fun I => ⟨rfl, trivial⟩) (fun I => ⟨by simp [ren], by simp [In]⟩) lo h⟩
end AE.KerD
