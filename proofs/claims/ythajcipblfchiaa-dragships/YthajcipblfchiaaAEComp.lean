/- From the loaded operations to the evaluator's: which one stands for which. -/
import Derived.Test.YthajcipblfchiaaAEDefs
set_option linter.unusedVariables false
set_option linter.unusedSimpArgs false
set_option linter.unusedSectionVars false
namespace AE
open Go

def isAggT (P : Program) (t : TypeId) : Option Bool :=
  match P.underlying t with
  | some (.struct _) => some true
  | some (.array _ _) => some true
  | some _ => some false
  | none => none
def sizeT (P : Program) (t : TypeId) : Option Nat := (P.info? t).map (·.size)
def zeroT (P : Program) (t : TypeId) : Option Value := (P.info? t).bind (·.zero)
/-- The zero value of a type, if it has no address. -/
def zflat (P : Program) (t : TypeId) : Option Value := (zeroT P t).bind fun z => if flat z then some z else none

def cOpd : Operand → Option Opd
  | .tmp t => some (.t t)
  | .const v => if flat v then some (.c v) else none
  | .func f => some (.c (.func (.func f) #[] #[]))
  | .global _ => none
def cOpds : List Operand → Option (List Opd)
  | [] => some []
  | x :: xs => (cOpd x).bind fun y => (cOpds xs).map (y :: ·)
def cOptO : Option Operand → Option (Option Opd)
  | none => some none
  | some x => (cOpd x).map some
def cParts (place : Nat → Option (Nat × Nat)) : List (Nat × Operand) → Option (List (Nat × Nat × Opd))
  | [] => some []
  | (i, x) :: rest => (place i).bind fun p => (cOpd x).bind fun y => (cParts place rest).map ((p.1, p.2, y) :: ·)

def iopOf : BinOp → Option IOp
  | .add => some .add
  | .sub => some .sub
  | .mul => some .mul
  | .eql => some .eql
  | .neq => some .neq
  | .lss => some .lss
  | .leq => some .leq
  | .gtr => some .gtr
  | .geq => some .geq
  | _ => none

/-- The places of a struct's fields. -/
def fieldPlaces (P : Program) (fields : Array Field) (i : Nat) : Option (Nat × Nat) := (fields[i]?).bind fun f => (sizeT P f.type).map fun s => (f.offset, s)

def cBin (P : Program) (o : Oper) (op : BinOp) (t : TypeId) (x y : Operand) : Option AOp :=
  (cOpd x).bind fun x' => (cOpd y).bind fun y' =>
  match P.underlying t with
  | some (.int .i64) =>
    match iopOf op with
    | some i => some (.int i x' y')
    | none => match op with
      | .quo => some (.idiv true x' y')
      | .rem => some (.idiv false x' y')
      | _ => some (.pure o)
  | some (.pointer _) => match op with
    | .eql => some (.cmp false false x' y' o)
    | .neq => some (.cmp false true x' y' o)
    | _ => some (.pure o)
  | some (.slice _) => match op with
    | .eql => some (.cmp true false x' y' o)
    | .neq => some (.cmp true true x' y' o)
    | _ => some (.pure o)
  | _ => some (.pure o)

def cCall (P : Program) (o : Oper) (c : Call) : Option AIns :=
  match c.callee with
  | .value f => (cOpd f).bind fun f' => (cOpds c.args.toList).map fun as => .call f' as
  | .invoke _ _ => none
  | .builtin b =>
    match c.args.toList, c.argTypes.toList with
    | [x], [t] =>
      (cOpd x).bind fun x' =>
      match b, P.underlying t with
      | .len, some (.slice _) => some (.op (.len x'))
      | .len, some .string => some (.op (.lenstr x'))
      | .len, some (.map _ _) => some (.op (.lenmap x'))
      | .cap, some (.slice _) => some (.op (.cap x'))
      | _, _ => none
    | [x, y], [t, u] =>
      (cOpd x).bind fun x' => (cOpd y).bind fun y' =>
      match b, P.underlying t with
      | .append, some (.slice e) =>
        match P.underlying u with
        | some (.int _) => none
        | some _ => (P.info? e).bind fun ie => (zflat P e).bind fun z => if ie.size ≠ 0 ∧ (cellsL z).length = ie.size then some (.op (.append e ie.size ie.bytes x' y')) else none
        | none => none
      | .copy, some (.slice e) => (sizeT P e).map fun s => .op (.copy s x' y')
      | .delete, some (.map k _) => some (.op (.delete k x' y'))
      | .min, some (.int .i64) => some (.op (.mnmx false x' y'))
      | .max, some (.int .i64) => some (.op (.mnmx true x' y'))
      | .min, _ => some (.op (.pure o))
      | .max, _ => some (.op (.pure o))
      | _, _ => none
    | xs, _ =>
      match b with
      | .min | .max => (cOpds xs).map fun _ => .op (.pure o)
      | _ => none

def comp (P : Program) (o : Oper) : Option AIns :=
  match o.op with
  | .move x => (cOpd x).map fun x' => .op (.mv x')
  | .assign x => (cOpd x).map fun x' => .op (.mv x')
  | .pick c a b => (cOpd c).bind fun c' => (cOpd a).bind fun a' => (cOpd b).map fun b' => .op (.pick c' a' b')
  | .alloc e => (zflat P e).map fun z => .op (.alloc (cellsL z) e)
  | .box e x => (cOpd x).map fun x' => .op (.box x' e)
  | .build t parts =>
    (zflat P t).bind fun z =>
    match P.underlying t with
    | some (.struct fields) => if fields.toList.all (fun f => (sizeT P f.type).isSome) = true then (cParts (fieldPlaces P fields) parts.toList).map fun ps => .op (.build (cellsL z) ps) else none
    | some (.array _ e) => (sizeT P e).bind fun s => (cParts (fun i => some (i * s, s)) parts.toList).map fun ps => .op (.build (cellsL z) ps)
    | _ => none
  | .buildSlice t len parts =>
    match P.underlying t with
    | some (.slice e) =>
      (P.info? e).bind fun ie => (zflat P e).bind fun z =>
      if len * ie.size ≤ 2 ^ 24 ∧ ie.size ≠ 0 ∧ (cellsL z).length = ie.size then
        (cParts (fun i => some (i * ie.size, ie.size)) parts.toList).map fun ps => .op (.bslice (reps (cellsL z) len) ps len e)
      else none
    | _ => none
  | .load t a =>
    (cOpd a).bind fun a' =>
    match isAggT P t with
    | some true => (sizeT P t).map fun n => .op (.loadn n a')
    | some false => some (.op (.load1 a'))
    | none => none
  | .store t a x => (sizeT P t).bind fun n => (cOpd a).bind fun a' => (cOpd x).map fun x' => .op (.store n a' x')
  | .nilCheck x => (cOpd x).map fun x' => .op (.nilck x')
  | .binOp op t x y _ => (cBin P o op t x y).map .op
  | .unOp op t x =>
    (cOpd x).bind fun x' =>
    match op, P.underlying t with
    | .not, _ => some (.op (.not x'))
    | .neg, some (.int .i64) => some (.op (.neg x'))
    | _, _ => some (.op (.pure o))
  | .convert s d x =>
    (cOpd x).bind fun x' =>
    match P.underlying s, P.underlying d with
    | some (.int _), some (.int k) => some (.op (.conv k x'))
    | _, _ => some (.op (.pure o))
  | .makeInterface t x =>
    match P.underlying t with
    | some (.interface _) => none
    | some _ => (cOpd x).map fun x' => .op (.mkif t x')
    | none => none
  | .makeFunc fn first captured => if fnFlat fn then (cOpds first.toList).bind fun f => (cOpds captured.toList).map fun c => .op (.mkfn fn f c) else none
  | .makeMap _ none => some (.op .mkmap)
  | .makeSlice t l c =>
    match P.underlying t with
    | some (.slice e) =>
      (P.info? e).bind fun ie => (zflat P e).bind fun z =>
      if ie.size ≠ 0 ∧ (cellsL z).length = ie.size then
        (cOpd l).bind fun l' => (cOpd c).map fun c' => .op (.mkslice (cellsL z) ie.bytes e l' c')
      else none
    | _ => none
  | .slice t x lo hi mx =>
    (cOpd x).bind fun x' => (cOptO lo).bind fun lo' => (cOptO hi).bind fun hi' => (cOptO mx).bind fun mx' =>
    if mx'.isSome ∧ hi'.isNone then none else
    match P.underlying t with
    | some (.array n e) => (sizeT P e).map fun s => .op (.slarr n s x' lo' hi' mx')
    | some (.slice e) => (sizeT P e).map fun s => .op (.slsl s x' lo' hi' mx')
    | some .string => some (.op (.pure o))
    | _ => none
  | .fieldAddr s x f =>
    match P.underlying s with
    | some (.struct fields) => (fields[f]?).bind fun fd => (sizeT P fd.type).bind fun n => if n = 0 then none else (cOpd x).map fun x' => .op (.faddr fd.offset x')
    | _ => none
  | .field t x f =>
    match P.underlying t with
    | some (.struct fields) =>
      (fields[f]?).bind fun fd => (cOpd x).bind fun x' =>
      match isAggT P fd.type with
      | some true => (sizeT P fd.type).map fun n => .op (.fieldn fd.offset n x')
      | some false => some (.op (.field1 fd.offset x'))
      | none => none
    | _ => none
  | .indexAddr t x i =>
    (cOpd x).bind fun x' => (cOpd i).bind fun i' =>
    match P.underlying t with
    | some (.array n e) => (sizeT P e).map fun s => .op (.ixarr n s x' i')
    | some (.slice e) => (sizeT P e).map fun s => .op (.ixsl s x' i')
    | _ => none
  | .index t x i =>
    (cOpd x).bind fun x' => (cOpd i).bind fun i' =>
    match P.underlying t with
    | some (.array n e) =>
      match isAggT P e with
      | some true => (sizeT P e).map fun s => .op (.ixvn n s x' i')
      | some false => if sizeT P e = some 1 then some (.op (.ixv1 n x' i')) else none
      | none => none
    | some .string => some (.op (.pure o))
    | _ => none
  | .extract x i => (cOpd x).map fun x' => .op (.extract x' i)
  | .typeAssert x _ t ok =>
    match P.underlying t with
    | some (.interface _) => none
    | some _ => (zflat P t).bind fun z => (cOpd x).map fun x' => .op (.tass t z ok x')
    | none => none
  | .lookup t m k ok =>
    match P.underlying t with
    | some (.map kt e) => (zflat P e).bind fun z => (cOpd m).bind fun m' => (cOpd k).map fun k' => .op (.lookup kt z ok m' k')
    | _ => none
  | .mapUpdate t m k v =>
    match P.underlying t with
    | some (.map kt _) => (cOpd m).bind fun m' => (cOpd k).bind fun k' => (cOpd v).map fun v' => .op (.mapup kt m' k' v')
    | _ => none
  | .insert t m k v =>
    match P.underlying t with
    | some (.map kt _) => (cOpd m).bind fun m' => (cOpd k).bind fun k' => (cOpd v).map fun v' => .op (.mapup kt m' k' v')
    | _ => none
  | .call c => cCall P o c
  | _ => none

end AE
