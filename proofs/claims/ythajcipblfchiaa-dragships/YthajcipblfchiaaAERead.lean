/- Which temporaries an operation reads. -/
import Derived.Test.YthajcipblfchiaaAELocal
import Derived.Orders
set_option linter.unusedVariables false
set_option linter.unusedSimpArgs false
set_option linter.unusedSectionVars false
namespace AE
open Go

def Opd.rd : Opd → List Nat
  | .t n => [n]
  | .c _ => []
def rdL : List Opd → List Nat
  | [] => []
  | x :: xs => x.rd ++ rdL xs
def rdO : Option Opd → List Nat
  | none => []
  | some x => x.rd
def rdP : List (Nat × Nat × Opd) → List Nat
  | [] => []
  | p :: ps => p.2.2.rd ++ rdP ps
def rdR (xs : List Operand) : List Nat := xs.filterMap fun x => match x with | .tmp t => some t | _ => none

def AOp.rd : AOp → List Nat
  | .mv x => x.rd
  | .pick c a b => c.rd ++ a.rd ++ b.rd
  | .alloc _ _ => []
  | .box x _ => x.rd
  | .build _ ps => rdP ps
  | .bslice _ ps _ _ => rdP ps
  | .load1 a => a.rd
  | .loadn _ a => a.rd
  | .store _ a x => a.rd ++ x.rd
  | .nilck x => x.rd
  | .int _ x y => x.rd ++ y.rd
  | .idiv _ x y => x.rd ++ y.rd
  | .not x => x.rd
  | .neg x => x.rd
  | .conv _ x => x.rd
  | .mnmx _ x y => x.rd ++ y.rd
  | .pure o => rdR o.op.operands.toList
  | .cmp _ _ x y o => x.rd ++ y.rd ++ rdR o.op.operands.toList
  | .mkif _ x => x.rd
  | .mkfn _ fs cs => rdL fs ++ rdL cs
  | .mkmap => []
  | .mkslice _ _ _ l c => l.rd ++ c.rd
  | .slarr _ _ x l hi m => x.rd ++ rdO l ++ rdO hi ++ rdO m
  | .slsl _ x l hi m => x.rd ++ rdO l ++ rdO hi ++ rdO m
  | .faddr _ x => x.rd
  | .field1 _ x => x.rd
  | .fieldn _ _ x => x.rd
  | .ixarr _ _ x i => x.rd ++ i.rd
  | .ixsl _ x i => x.rd ++ i.rd
  | .ixv1 _ x i => x.rd ++ i.rd
  | .ixvn _ _ x i => x.rd ++ i.rd
  | .extract x _ => x.rd
  | .tass _ _ _ x => x.rd
  | .lookup _ _ _ m k => m.rd ++ k.rd
  | .mapup _ m k v => m.rd ++ k.rd ++ v.rd
  | .len x => x.rd
  | .lenstr x => x.rd
  | .lenmap x => x.rd
  | .cap x => x.rd
  | .append _ _ _ s x => s.rd ++ x.rd
  | .copy _ d s => d.rd ++ s.rd
  | .delete _ m k => m.rd ++ k.rd

def noSel (o : Oper) : Bool := match o.op with | .select _ _ => false | _ => true
def AOp.noSel : AOp → Bool
  | .pure o => AE.noSel o
  | .cmp _ _ _ _ o => AE.noSel o
  | _ => true

variable {ts ts' : Ts}
theorem ev_ts {x : Opd} (e : ∀ t ∈ x.rd, ts' t = ts t) : ev ts' x = ev ts x := by
  cases x with
  | t n => exact e n (by simp [Opd.rd])
  | c v => rfl
theorem evO_ts {x : Option Opd} (e : ∀ t ∈ rdO x, ts' t = ts t) : evO ts' x = evO ts x := by
  cases x with
  | none => rfl
  | some x => simp [evO, ev_ts (x := x) e]
theorem evL_ts : ∀ {xs : List Opd}, (∀ t ∈ rdL xs, ts' t = ts t) → xs.map (ev ts') = xs.map (ev ts)
  | [], _ => rfl
  | x :: xs, e => by
    simp only [rdL, List.mem_append] at e
    rw [List.map_cons, List.map_cons, ev_ts (fun t h => e t (.inl h)), evL_ts (fun t h => e t (.inr h))]
theorem afill_ts : ∀ {ps : List (Nat × Nat × Opd)} (z : List Value), (∀ t ∈ rdP ps, ts' t = ts t) → afill ts' z ps = afill ts z ps
  | [], z, _ => rfl
  | (off, size, x) :: ps, z, e => by
    simp only [rdP, List.mem_append] at e
    simp only [afill, ev_ts (x := x) (fun t h => e t (.inl h))]
    split
    · exact afill_ts _ (fun t h => e t (.inr h))
    · rfl
theorem evR_ts {xs : List Operand} (e : ∀ t ∈ rdR xs, ts' t = ts t) : ∀ x ∈ xs, evR ts' x = evR ts x := by
  intro x hx
  cases x with
  | tmp t => exact e t (by simp only [rdR, List.mem_filterMap]; exact ⟨_, hx, rfl⟩)
  | _ => rfl
theorem xPure_ts {P : Program} {o : Oper} (hs : noSel o = true) (e : ∀ t ∈ rdR o.op.operands.toList, ts' t = ts t) : xPure P ts' o = xPure P ts o := by
  have h1 := evR_ts e
  have h2 : execOp (evR ts') o = execOp (evR ts) o := by
    refine execOp_congr o (fun cs b h => ?_) (fun x hx => h1 x (by simpa using hx))
    simp [noSel, h] at hs
  have h3 : (o.op.operands.toList.all fun x => flat (evR ts' x)) = o.op.operands.toList.all fun x => flat (evR ts x) := by
    rw [Bool.eq_iff_iff]
    simp only [List.all_eq_true]
    constructor <;> intro k x hx
    · rw [← h1 x hx]; exact k x hx
    · rw [h1 x hx]; exact k x hx
  simp only [xPure, h2, h3]

theorem aop_ts {P : Program} {lo nid : Nat} {h : H} {ao : AOp} (hs : ao.noSel = true) (e : ∀ t ∈ ao.rd, ts' t = ts t) : aop P lo nid ts' h ao = aop P lo nid ts h ao := by
  cases ao <;> simp only [AOp.rd, List.mem_append] at e
  case build z ps => simp only [aop, afill_ts z e]
  case bslice z ps l t => simp only [aop, afill_ts z e]
  case pure o => simp only [aop, xPure_ts (P := P) hs e]
  case cmp sl ne x y o =>
    simp only [aop, xCmp, ev_ts (x := x) (fun t h => e t (.inl (.inl h))), ev_ts (x := y) (fun t h => e t (.inl (.inr h))), xPure_ts (P := P) hs (fun t h => e t (.inr h))]
  case mkfn fn fs cs => simp only [aop, evL_ts (xs := fs) (fun t h => e t (.inl h)), evL_ts (xs := cs) (fun t h => e t (.inr h))]
  case slarr n sz x l hi m =>
    simp only [aop, ev_ts (x := x) (fun t h => e t (.inl (.inl (.inl h)))), evO_ts (x := l) (fun t h => e t (.inl (.inl (.inr h)))), evO_ts (x := hi) (fun t h => e t (.inl (.inr h))), evO_ts (x := m) (fun t h => e t (.inr h))]
  case slsl sz x l hi m =>
    simp only [aop, ev_ts (x := x) (fun t h => e t (.inl (.inl (.inl h)))), evO_ts (x := l) (fun t h => e t (.inl (.inl (.inr h)))), evO_ts (x := hi) (fun t h => e t (.inl (.inr h))), evO_ts (x := m) (fun t h => e t (.inr h))]
  case pick c a b => simp only [aop, ev_ts (x := c) (fun t h => e t (.inl (.inl h))), ev_ts (x := a) (fun t h => e t (.inl (.inr h))), ev_ts (x := b) (fun t h => e t (.inr h))]
  case mapup k m c b => simp only [aop, ev_ts (x := m) (fun t h => e t (.inl (.inl h))), ev_ts (x := c) (fun t h => e t (.inl (.inr h))), ev_ts (x := b) (fun t h => e t (.inr h))]
  case alloc => rfl
  case mkmap => rfl
  all_goals first
    | (rename_i x; simp only [aop, ev_ts (x := x) e]; done)
    | (rename_i x _; simp only [aop, ev_ts (x := x) e]; done)
    | (rename_i x y; simp only [aop, ev_ts (x := x) (fun t h => e t (.inl h)), ev_ts (x := y) (fun t h => e t (.inr h))]; done)

theorem touch_ts {ao : AOp} (e : ∀ t ∈ ao.rd, ts' t = ts t) : ao.touch ts' = ao.touch ts ∧ ao.wr ts' = ao.wr ts := by
  cases ao <;> simp only [AOp.rd, List.mem_append] at e <;> simp only [AOp.touch, AOp.wr, and_self]
  all_goals first
    | (rename_i x; simp only [ev_ts (x := x) e, and_self]; done)
    | (rename_i x y; simp only [ev_ts (x := x) (fun t h => e t (.inl h)), ev_ts (x := y) (fun t h => e t (.inr h)), and_self]; done)
    | (rename_i x y; simp only [ev_ts (x := x) (fun t h => e t (.inl h)), and_self]; done)
    | (rename_i x y z; simp only [ev_ts (x := x) (fun t h => e t (.inl (.inl h))), and_self]; done)

end AE
