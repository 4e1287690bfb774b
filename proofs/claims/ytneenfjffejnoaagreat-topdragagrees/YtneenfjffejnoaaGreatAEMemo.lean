/- Calls that were evaluated on a part of the heap: what they hand back, they hand back on the whole. -/
import Derived.Test.YtneenfjffejnoaaGreatJoin4
set_option linter.unusedVariables false
set_option linter.unusedSimpArgs false
set_option linter.unusedSectionVars false
set_option linter.unusedVariables false
namespace AE.Memo
open Go AE
open AE.KerT (KFn TabOk HookOk)
open AE.KerD (TabDOk kindEq intEq kindEq_out intEq_out natsEq natsEq_out veq veq_out)

def LowL (n : Nat) (c : List Value) : Prop := ∀ I : Inj, InL I c → InL (I.below n) c
def LowRow (n : Nat) : ARow → Prop
 | .cells c _ => LowL n c
 | .grow c _ _ _ _ => LowL n c
 | .map es _ => ∀ I : Inj, (∀ e ∈ es, InE I e) → ∀ e ∈ es, InE (I.below n) e
 | _ => False
theorem LowRow.rel {I : Inj} {n r : Nat} {w : World} {row : ARow} (hr : r < n) (hl : LowRow n row) (k : RowRel I r w row) : RowRel (I.below n) r w row := by
 have hb := I.below_le n
 cases row with
 | cells c e =>
   obtain ⟨i, b, e1, e2, e3⟩ := k
   exact ⟨hl I i, b, (Inj.below_at hr).trans e1, e2, by rw [e3, (hb.renL c (hl I i)).1]⟩
 | grow c e sz lens valid =>
   obtain ⟨i, h1, h2, hgen, hof, h3⟩ := k
   refine ⟨hl I i, h1, h2, fun g p e => hgen g p (Inj.below_some e).2, fun g g' b d d' v v' e e' => hof g g' b d d' v v' (Inj.below_some e).2 (Inj.below_some e').2, fun g hg hl' => ?_⟩
   obtain ⟨b, d, C, e1, e2, e3, e4, e5, e6⟩ := h3 g hg hl'
   exact ⟨b, d, C, (Inj.below_at hr).trans e1, e2, e3, e4, e5, by rw [← (hb.renL c (hl I i)).1]; exact e6⟩
 | map es clock =>
   obtain ⟨i, b, e1, e2, e3⟩ := k
   have i' := hl I i
   refine ⟨i', b, (Inj.below_at hr).trans e1, e2, ?_⟩
   rw [e3]
   congr 3
   exact List.map_congr_left fun e he => by unfold renE; rw [(hb.ren _ (i' e he).1).1, (hb.ren _ (i' e he).2).1]
 | _ => exact hl.elim

theorem part {P : Program} {g : FuncId} {h0 h : H} {args : List Value} {v : Value} (a : AFD P g h0.next h0 args fun w _ => w = v) (hv : flat v = true) (hn : h0.next ≤ h.next)
 (hr : ∀ r row, h0.get r = some row → r < h0.next ∧ h.get r = some row ∧ LowRow h0.next row) (ha : LowL h0.next args) (lo : Nat) : AF P g lo h args v h := by
 refine ⟨Quiet.refl lo h, a.enters, fun I w k ia => ?_⟩
 have hb := I.below_le h0.next
 have k0 : Rel (I.below h0.next) h0 w :=
  ⟨fun r row e d => by
   obtain ⟨h1, h2, h3⟩ := hr r row e
   obtain ⟨s, p, d⟩ := d
   exact h3.rel h1 (k.rows r row h2 ⟨s, p, (Inj.below_some d).2⟩), fun r ⟨s, p, d⟩ => (Inj.below_some d).1, fun r s b d e => k.size r s b d (Inj.below_some e).2, k.base, k.tabs, fun r r' s s' b d d' e e' => k.inj r r' s s' b d d' (Inj.below_some e).2 (Inj.below_some e').2, fun r hle => by
   cases e : h0.get r with
   | none => rfl
   | some row => have := (hr r row e).1; omega⟩
 have hc := a.calls _ w k0 (ha I ia)
 rw [← (hb.renL args (ha I ia)).1] at hc
 refine hc.mono ?_
 rintro e w' ⟨v', h', J, rfl, hq, W, iv, rfl⟩
 have hbl : ∀ b, b < w.heap.size → w'.heap[b]? = w.heap[b]? := fun b hb => W.ext.block b hb (fun r s d e _ => (Inj.below_some e).1)
 have f1 := flat_ren I _ hv
 refine ⟨I, ⟨Grows.refl I w, fun _ d => .inl d, fun _ _ _ _ e => e, ⟨fun r row hr d => (k.rows r row hr d).le (Le.refl I) (fun _ _ e => e) (fun b ⟨s, d, e⟩ => hbl b (k.size _ _ _ _ e)), k.lt, fun r s b d e => Nat.lt_of_lt_of_le (k.size r s b d e) W.ext.size, Nat.le_trans k.base W.ext.size, k.tabs.same (fun b h1 => hbl b (Nat.lt_of_lt_of_le h1 k.base)), k.inj, k.clean⟩,
  ⟨W.ext.os, W.ext.tape, W.ext.output, W.ext.size, fun b hlt _ => hbl b hlt⟩⟩, f1.2, by rw [f1.1, (flat_ren J _ hv).1]⟩


def listEqL (f : Value → Value → Bool) : List Value → List Value → Bool
 | [], [] => true
 | a :: xs, b :: ys => f a b && listEqL f xs ys
 | _, _ => false
def veqL1 (n : Nat) (ih : Value → Value → Bool) : Value → Value → Bool
 | .int k a, .int k' b => kindEq k k' && intEq a b
 | .bool true, .bool true => true
 | .bool false, .bool false => true
 | .tuple ⟨x⟩, .tuple ⟨y⟩ => listEqL ih x y
 | .agg ⟨x⟩, .agg ⟨y⟩ => listEqL ih x y
 | .slice none 0 0, .slice none 0 0 => true
 | .slice (some ⟨b, o, s⟩) l c, .slice (some ⟨b', o', s'⟩) l' c' => Nat.beq b b' && Nat.beq o o' && AE.KerD.optEq s s' && Nat.beq l l' && Nat.beq c c' && Nat.blt b' n && Nat.blt c' far
 | .pointer none, .pointer none => true
 | .pointer (some ⟨b, o, s⟩), .pointer (some ⟨b', o', s'⟩) => Nat.beq b b' && Nat.beq o o' && AE.KerD.optEq s s' && Nat.blt b' n
 | .map none, .map none => true
 | .map (some r), .map (some r') => Nat.beq r r' && Nat.blt r' n
 | .nilIface, .nilIface => true
 | .nilFunc, .nilFunc => true
 | _, _ => false
def veqL (n : Nat) : Nat → Value → Value → Bool
 | 0 => fun _ _ => false
 | d + 1 => veqL1 n (veqL n d)
def Low (n : Nat) (v : Value) : Prop := ∀ I : Inj, In I v → In (I.below n) v
theorem blt_out {a b : Nat} (h : Nat.blt a b = true) : a < b := Nat.le_of_ble_eq_true h
theorem listEqL_out {n : Nat} {f : Value → Value → Bool} (hf : ∀ a b, f a b = true → a = b ∧ Low n b) : ∀ {x y : List Value}, listEqL f x y = true → x = y ∧ LowL n y
 | [], [], _ => ⟨rfl, fun _ _ => trivial⟩
 | a :: xs, b :: ys, h => by
   simp only [listEqL, Bool.and_eq_true] at h
   obtain ⟨rfl, h1⟩ := hf a b h.1
   obtain ⟨rfl, h2⟩ := listEqL_out hf h.2
   exact ⟨rfl, fun I i => ⟨h1 I i.1, h2 I i.2⟩⟩
 | [], _ :: _, h => by simp [listEqL] at h
 | _ :: _, [], h => by simp [listEqL] at h
theorem inA_below {I : Inj} {n : Nat} {a : Addr} (h : a.block < n) (i : InA I a) : InA (I.below n) a := by
 obtain ⟨p, hp⟩ := i
 exact ⟨p, (Inj.below_at h).trans hp⟩
theorem veqL1_out {n : Nat} {ih : Value → Value → Bool} (hf : ∀ a b, ih a b = true → a = b ∧ Low n b) {a b : Value} (h : veqL1 n ih a b = true) : a = b ∧ Low n b := by
 unfold veqL1 at h
 split at h
 ·simp only [Bool.and_eq_true] at h
  rw [kindEq_out h.1, intEq_out h.2]
  exact ⟨rfl, fun _ _ => trivial⟩
 ·exact ⟨rfl, fun _ _ => trivial⟩
 ·exact ⟨rfl, fun _ _ => trivial⟩
 ·obtain ⟨rfl, h⟩ := listEqL_out hf h
  exact ⟨rfl, fun I i => h I i⟩
 ·obtain ⟨rfl, h⟩ := listEqL_out hf h
  exact ⟨rfl, fun I i => h I i⟩
 ·exact ⟨rfl, fun _ i => i⟩
 ·simp only [Bool.and_eq_true] at h
  obtain ⟨⟨⟨⟨⟨⟨h1, h2⟩, h3⟩, h4⟩, h5⟩, h6⟩, h7⟩ := h
  obtain rfl := Nat.eq_of_beq_eq_true h1
  obtain rfl := Nat.eq_of_beq_eq_true h2
  obtain rfl := AE.KerD.optEq_out h3
  obtain rfl := Nat.eq_of_beq_eq_true h4
  obtain rfl := Nat.eq_of_beq_eq_true h5
  refine ⟨rfl, fun I i => ?_⟩
  rw [In_sl (blt_out h7)] at i ⊢
  exact ⟨inA_below (blt_out h6) i.1, i.2⟩
 ·exact ⟨rfl, fun _ _ => trivial⟩
 ·simp only [Bool.and_eq_true] at h
  obtain ⟨⟨⟨h1, h2⟩, h3⟩, h4⟩ := h
  obtain rfl := Nat.eq_of_beq_eq_true h1
  obtain rfl := Nat.eq_of_beq_eq_true h2
  obtain rfl := AE.KerD.optEq_out h3
  exact ⟨rfl, fun I i => inA_below (blt_out h4) i⟩
 ·exact ⟨rfl, fun _ _ => trivial⟩
 ·simp only [Bool.and_eq_true] at h
  obtain rfl := Nat.eq_of_beq_eq_true h.1
  refine ⟨rfl, fun I i => ?_⟩
  obtain ⟨b, hb⟩ := i
  exact ⟨b, (Inj.below_at (blt_out h.2)).trans hb⟩
 ·exact ⟨rfl, fun _ _ => trivial⟩
 ·exact ⟨rfl, fun _ _ => trivial⟩
 ·cases h
theorem veqL_out {n : Nat} : ∀ (d : Nat) {a b : Value}, veqL n d a b = true → a = b ∧ Low n b
 | 0, _, _, h => by cases h
 | d + 1, a, b, h => veqL1_out (fun _ _ => veqL_out d) h
def entsEq (n : Nat) : List MapEntry → List MapEntry → Bool
 | [], [] => true
 | a :: xs, b :: ys => veqL n 8 a.key b.key && veqL n 8 a.val b.val && Nat.beq a.born b.born && entsEq n xs ys
 | _, _ => false
theorem entsEq_out {n : Nat} : ∀ {x y : List MapEntry}, entsEq n x y = true → x = y ∧ ∀ e ∈ y, Low n e.key ∧ Low n e.val
 | [], [], _ => ⟨rfl, fun _ h => nomatch h⟩
 | ⟨k, v, b⟩ :: xs, ⟨k', v', b'⟩ :: ys, h => by
   simp only [entsEq, Bool.and_eq_true] at h
   obtain ⟨⟨⟨h1, h2⟩, h3⟩, h4⟩ := h
   obtain ⟨rfl, l1⟩ := veqL_out 8 h1
   obtain ⟨rfl, l2⟩ := veqL_out 8 h2
   obtain rfl := Nat.eq_of_beq_eq_true h3
   obtain ⟨rfl, l3⟩ := entsEq_out h4
   refine ⟨rfl, fun e he => ?_⟩
   rcases List.mem_cons.1 he with rfl | he
   ·exact ⟨l1, l2⟩
   ·exact l3 e he
 | [], _ :: _, h => by simp [entsEq] at h
 | _ :: _, [], h => by simp [entsEq] at h
def isRowL (n : Nat) : ARow → Option KRow → Bool
 | .map es c, some (.row (.map es' c')) => entsEq n es' es && Nat.beq c' c
 | .grow c e sz lens valid, some (.row (.grow c' e' sz' lens' valid')) => listEqL (veqL n 8) c' c && Nat.beq e' e && Nat.beq sz' sz && natsEq lens' lens && Nat.beq valid' valid
 | .cells c e, some (.row (.cells c' e')) => listEqL (veqL n 8) c' c && Nat.beq e' e
 | _, _ => false
theorem isRowL_out {n : Nat} {row : ARow} {o : Option KRow} (h : isRowL n row o = true) : o = some (.row row) ∧ LowRow n row := by
 unfold isRowL at h
 split at h
 ·simp only [Bool.and_eq_true] at h
  obtain ⟨rfl, hl⟩ := entsEq_out h.1
  rw [Nat.eq_of_beq_eq_true h.2]
  exact ⟨rfl, fun I i e he => ⟨(hl e he).1 I (i e he).1, (hl e he).2 I (i e he).2⟩⟩
 ·simp only [Bool.and_eq_true] at h
  obtain ⟨⟨⟨⟨h1, h2⟩, h3⟩, h4⟩, h5⟩ := h
  obtain ⟨rfl, hl⟩ := listEqL_out (fun _ _ => veqL_out 8) h1
  rw [Nat.eq_of_beq_eq_true h2, Nat.eq_of_beq_eq_true h3, natsEq_out h4, Nat.eq_of_beq_eq_true h5]
  exact ⟨rfl, hl⟩
 ·simp only [Bool.and_eq_true] at h
  obtain ⟨rfl, hl⟩ := listEqL_out (fun _ _ => veqL_out 8) h.1
  rw [Nat.eq_of_beq_eq_true h.2]
  exact ⟨rfl, hl⟩
 ·cases h


structure Kept where
 args : List Value
 next : Nat
 rows : List (Nat × ARow)
 v : Value

noncomputable def putAll : List (Nat × ARow) → KT KRow → (KT KRow → Bool) → Bool
 | [], t, k => k t
 | (r, x) :: l, t, k => KT.putC (.row x) 64 t r fun t => putAll l t k
theorem putAll_out : ∀ {l : List (Nat × ARow)} {t : KT KRow} {k : KT KRow → Bool}, putAll l t k = true → ∃ t', k t' = true ∧ ∀ r row, t'.get r = some row → t.get r = some row ∨ ∃ x, (r, x) ∈ l ∧ row = .row x
 | [], t, k, h => ⟨t, h, fun _ _ e => .inl e⟩
 | (r, x) :: l, t, k, h => by
   obtain ⟨t1, h1, g1⟩ := KT.putC_out 64 h
   obtain ⟨t', hk, g⟩ := putAll_out h1
   refine ⟨t', hk, fun m row e => ?_⟩
   rcases g m row e with e | ⟨y, hy, rfl⟩
   ·rw [g1 m] at e
    split at e
    ·rename_i em
     subst em
     simp only [Option.some.injEq] at e
     exact .inr ⟨x, by simp, e.symm⟩
    ·exact .inl e
   ·exact .inr ⟨y, by simp [hy], rfl⟩
noncomputable def Kept.run (m : Kept) (P : Program) (T T2 : KT KFn) (nd mg : List Nat) (D f g : Nat) : Bool :=
 veq 8 m.v m.v && putAll m.rows .nil fun t => AE.KerD.krun P T T2 nd mg D f (.fn m.next g m.args ⟨m.next, t⟩ fun v _ => veq 8 v m.v)
noncomputable def rowsFit (n : Nat) (kh : KH) : List (Nat × ARow) → Bool
 | [] => true
 | (r, x) :: l => Nat.blt r n && isRowL n x (kh.rows.get r) && rowsFit n kh l
theorem rowsFit_out {n : Nat} {kh : KH} : ∀ {l : List (Nat × ARow)}, rowsFit n kh l = true → ∀ r x, (r, x) ∈ l → r < n ∧ kh.rows.get r = some (.row x) ∧ LowRow n x
 | [], _, _, _, h => nomatch h
 | (r0, x0) :: l, h, r, x, hm => by
   simp only [rowsFit, Bool.and_eq_true] at h
   rcases List.mem_cons.1 hm with e | hm
   ·cases e
    have := isRowL_out h.1.2
    exact ⟨blt_out h.1.1, this.1, this.2⟩
   ·exact rowsFit_out h.2 r x hm
noncomputable def Kept.fits (m : Kept) (args : List Value) (kh : KH) : Bool := Nat.ble m.next kh.next && listEqL (veqL m.next 8) args m.args && rowsFit m.next kh m.rows
theorem Kept.af {m : Kept} {P : Program} {T T2 : KT KFn} {nd mg : List Nat} {D f g : Nat} (hm : P.follows .mixedOrders = true) (hT : TabOk P T) (hT2 : TabDOk P T2) (hr : m.run P T T2 nd mg D f g = true) {args : List Value} {kh : KH} (hf : m.fits args kh = true) (lo : Nat) : AF P g lo kh.abs args m.v kh.abs := by
 simp only [Kept.run, Bool.and_eq_true] at hr
 obtain ⟨hv, hr⟩ := hr
 have hv := (veq_out 8 hv).2
 obtain ⟨t, hk, hg⟩ := putAll_out hr
 have a := AE.KerD.krun_sound hm hT hT2 f _ hk
 simp only [AE.KerD.KTask.Spec] at a
 simp only [Kept.fits, Bool.and_eq_true] at hf
 obtain ⟨⟨h1, h2⟩, h3⟩ := hf
 obtain ⟨rfl, hl⟩ := listEqL_out (fun _ _ => veqL_out 8) h2
 have hle : m.next ≤ kh.next := Nat.le_of_ble_eq_true h1
 refine part (h0 := (⟨m.next, t⟩ : KH).abs) (h := kh.abs) (AE.AFD.mono a (Nat.le_refl _) fun v h' ⟨kh', hv, _⟩ => (veq_out 8 hv).1) hv hle (fun r row e => ?_) hl lo
 simp only [KH.abs, Option.map_eq_some_iff] at e
 obtain ⟨kr, e, rfl⟩ := e
 rcases hg r kr e with e | ⟨x, hx, rfl⟩
 ·rw [KT.get_nil] at e; cases e
 ·obtain ⟨q1, q2, q3⟩ := rowsFit_out h3 r x hx
  exact ⟨q1, by simp only [KH.abs, q2]; rfl, q3⟩
def rowsSelf (n : Nat) : List (Nat × ARow) → Bool
 | [] => true
 | (r, x) :: l => Nat.blt r n && isRowL n x (some (.row x)) && rowsSelf n l
theorem rowsSelf_out {n : Nat} : ∀ {l : List (Nat × ARow)}, rowsSelf n l = true → ∀ r x, (r, x) ∈ l → r < n ∧ LowRow n x
 | [], _, _, _, h => nomatch h
 | (r0, x0) :: l, h, r, x, hm => by
   simp only [rowsSelf, Bool.and_eq_true] at h
   rcases List.mem_cons.1 hm with e | hm
   ·cases e
    exact ⟨blt_out h.1.1, (isRowL_out h.1.2).2⟩
   ·exact rowsSelf_out h.2 r x hm
theorem Kept.aw {m : Kept} {P : Program} {T T2 : KT KFn} {nd mg : List Nat} {D f g : Nat} (hm : P.follows .mixedOrders = true) (hT : TabOk P T) (hT2 : TabDOk P T2) (hr : m.run P T T2 nd mg D f g = true) (hs : rowsSelf m.next m.rows = true) (ha : listEqL (veqL m.next 8) m.args m.args = true)
 {h : H} (hn : m.next ≤ h.next) (hg : ∀ r x, (r, x) ∈ m.rows → h.get r = some x) (lo : Nat) : AW P g lo h m.args (fun v h' => v = m.v ∧ h' = h) := by
 simp only [Kept.run, Bool.and_eq_true] at hr
 obtain ⟨hv, hr⟩ := hr
 have hv := (veq_out 8 hv).2
 obtain ⟨t, hk, hgt⟩ := putAll_out hr
 have a := AE.KerD.krun_sound hm hT hT2 f _ hk
 simp only [AE.KerD.KTask.Spec] at a
 refine ⟨m.v, h, ⟨rfl, rfl⟩, part (h0 := (⟨m.next, t⟩ : KH).abs) (AE.AFD.mono a (Nat.le_refl _) fun v h' ⟨kh', hv, _⟩ => (veq_out 8 hv).1) hv hn (fun r row e => ?_) (listEqL_out (fun _ _ => veqL_out 8) ha).2 lo⟩
 simp only [KH.abs, Option.map_eq_some_iff] at e
 obtain ⟨kr, e, rfl⟩ := e
 rcases hgt r kr e with e | ⟨x, hx, rfl⟩
 ·rw [KT.get_nil] at e; cases e
 ·obtain ⟨q1, q3⟩ := rowsSelf_out hs r x hx
  exact ⟨q1, hg r x hx, q3⟩
noncomputable def hook : List Kept → List Value → KH → (Value → KH → Bool) → Bool
 | [], _, _, _ => false
 | m :: ms, args, kh, k => Bool.rec (motive := fun _ => Bool) (hook ms args kh k) (k m.v kh) (m.fits args kh)
theorem hook_ok {P : Program} {T T2 : KT KFn} {nd mg : List Nat} {D f g : Nat} (hm : P.follows .mixedOrders = true) (hT : TabOk P T) (hT2 : TabDOk P T2) : ∀ {ms : List Kept}, (∀ m ∈ ms, m.run P T T2 nd mg D f g = true) → HookOk P g (hook ms)
 | [], _ => fun _ _ _ _ h => nomatch h
 | m :: ms, hr => fun lo args kh k h hlo => by
   have h' : Bool.rec (motive := fun _ => Bool) (hook ms args kh k) (k m.v kh) (m.fits args kh) = true := h
   cases hf : m.fits args kh with
   | false => rw [hf] at h'; exact hook_ok hm hT hT2 (fun m hm => hr m (by simp [hm])) lo args kh k h' hlo
   | true => rw [hf] at h'; exact ⟨m.v, kh, h', Kept.af hm hT hT2 (hr m (by simp)) hf lo⟩
end AE.Memo
