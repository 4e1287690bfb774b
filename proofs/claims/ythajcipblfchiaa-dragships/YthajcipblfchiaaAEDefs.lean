/- The code of the abstract evaluator, its heap, and its single operations. Definitions alone. -/
import Derived.Test.YthajcipblfchiaaAEBase
set_option linter.unusedVariables false
set_option linter.unusedSimpArgs false
set_option linter.unusedSectionVars false
namespace AE
open Go

/-! ### the code -/

inductive Opd where
  | t (n : Nat)
  | c (v : Value)

inductive IOp where
  | add | sub | mul | eql | neq | lss | leq | gtr | geq

inductive AOp where
  | mv (x : Opd)
  | pick (c a b : Opd)
  | alloc (z : List Value) (e : TypeId)
  | box (x : Opd) (e : TypeId)
  | build (z : List Value) (parts : List (Nat × Nat × Opd))
  | bslice (z : List Value) (parts : List (Nat × Nat × Opd)) (len : Nat) (e : TypeId)
  | load1 (a : Opd)
  | loadn (n : Nat) (a : Opd)
  | store (n : Nat) (a x : Opd)
  | nilck (x : Opd)
  | int (op : IOp) (x y : Opd)
  | idiv (q : Bool) (x y : Opd)
  | not (x : Opd)
  | neg (x : Opd)
  | conv (k : IntKind) (x : Opd)
  | mnmx (mx : Bool) (x y : Opd)
  | pure (o : Oper)
  | cmp (sl : Bool) (ne : Bool) (x y : Opd) (o : Oper)
  | mkif (t : TypeId) (x : Opd)
  | mkfn (fn : Fn) (first captured : List Opd)
  | mkmap
  | mkslice (z : List Value) (bytes : Nat) (e : TypeId) (l c : Opd)
  | slarr (n sz : Nat) (x : Opd) (lo hi mx : Option Opd)
  | slsl (sz : Nat) (x : Opd) (lo hi mx : Option Opd)
  | faddr (off : Nat) (x : Opd)
  | field1 (off : Nat) (x : Opd)
  | fieldn (off n : Nat) (x : Opd)
  | ixarr (n sz : Nat) (x i : Opd)
  | ixsl (sz : Nat) (x i : Opd)
  | ixv1 (n : Nat) (x i : Opd)
  | ixvn (n sz : Nat) (x i : Opd)
  | extract (x : Opd) (i : Nat)
  | tass (t : TypeId) (z : Value) (ok : Bool) (x : Opd)
  | lookup (kt : TypeId) (z : Value) (ok : Bool) (m k : Opd)
  | mapup (kt : TypeId) (m k v : Opd)
  | len (x : Opd)
  | lenstr (x : Opd)
  | lenmap (x : Opd)
  | cap (x : Opd)
  | append (e : TypeId) (sz bytes : Nat) (s x : Opd)
  | copy (sz : Nat) (d s : Opd)
  | delete (kt : TypeId) (m k : Opd)

inductive AIns where
  | op (o : AOp)
  | call (f : Opd) (args : List Opd)

structure AOper where
  dst : Option Nat
  guard : Option (Nat × Bool)
  ins : AIns

inductive ACode where
  | skip
  | ret
  | exit (id : Nat)
  | seq (a b : ACode)
  | cond (c : Opd) (a b : ACode)
  | block (id : Nat) (c : ACode)
  | loop (c : ACode)
  | reg (ops : List AOper)
  | dreg (ops : List AOper) (apart : List (Opd × Opd))
  | range (f : Opd) (params : List Nat) (n : Nat) (asg body : Code) (casg cbody : ACode)

/-- What a function hands back: a temporary, a variable of one cell, of some cells. -/
inductive ARes where
  | tmp (t : Nat)
  | cell (a : Nat)
  | cells (a n : Nat)

structure AFunc where
  code : ACode
  ntmps : Nat
  results : List ARes

/-! ### the heap -/

inductive Pend where
  | none | ret | exit (id : Nat)

/-- The temporaries. -/
abbrev Ts := Nat → Value
def setV (ts : Ts) (i : Nat) (v : Value) : Ts := fun j => if j = i then v else ts j

structure ALoop where
  state : LoopState
  pend : Pend
  size : Nat
  tmps : Ts
  params : List Nat
  asg : Code
  body : Code

inductive ARow where
  | cells (c : List Value) (e : TypeId)
  | ro (c : List Value)
  | grow (c : List Value) (e : TypeId) (sz : Nat) (lens : List Nat) (valid : Nat)
  | map (es : List MapEntry) (clock : Nat)
  | loop (l : ALoop)
  | defers
  | gone

structure H where
  get : Nat → Option ARow
  next : Nat

def H.put (h : H) (r : Nat) (x : ARow) : H := ⟨fun j => if j = r then some x else h.get j, h.next⟩
def H.empty : H := ⟨fun _ => none, 0⟩

/-- n elements from off on. -/
def cut {α : Type} (xs : List α) (off n : Nat) : Option (List α) := if off + n ≤ xs.length then some ((xs.drop off).take n) else none
/-- xs from off on replaced by ys. -/
def splice {α : Type} (xs : List α) (off : Nat) (ys : List α) : List α := xs.take off ++ ys ++ xs.drop (off + ys.length)

/-- The length of generation g (the latest stands first). -/
def glen (lens : List Nat) (g : Nat) : Nat := (lens[lens.length - 1 - g]?).getD 0

def loadRow (off n : Nat) : ARow → Option Nat → Option (List Value)
  | .cells c _, none => cut c off n
  | .ro c, none => cut c off n
  | .grow c _ _ lens valid, some g => if valid ≤ g ∧ g < lens.length ∧ off + n ≤ glen lens g then cut c off n else none
  | _, _ => none

/-- n cells from an address on. -/
def H.loadN (h : H) (a : Addr) (n : Nat) : Option (List Value) := (h.get a.block).bind fun row => loadRow a.off n row a.spot

def storeRow (off : Nat) (vs : List Value) : ARow → Option Nat → Option ARow
  | .cells c e, none => if off + vs.length ≤ c.length then some (.cells (splice c off vs) e) else none
  | .grow c e sz lens valid, some g => if valid ≤ g ∧ g + 1 = lens.length ∧ off + vs.length ≤ c.length then some (.grow (splice c off vs) e sz lens g) else none
  | _, _ => none

/-- A store of some cells. -/
def H.storeN (h : H) (lo : Nat) (a : Addr) (vs : List Value) : Option H :=
  if lo ≤ a.block ∧ vs.all Value.oneCell' = true then (h.get a.block).bind fun row => (storeRow a.off vs row a.spot).map fun row' => h.put a.block row' else none

/-! ### operations -/

def pureRun {α : Type} (P : Program) : Sem α → Option α
  | .pure a => some a
  | .program k => pureRun P (k P)
  | _ => none

def ev (ts : Ts) : Opd → Value
  | .t n => ts n
  | .c v => v

def aadd (a : Addr) (n : Nat) : Addr := ⟨a.block, a.off + n, a.spot⟩

def reps (z : List Value) : Nat → List Value
  | 0 => []
  | n + 1 => z ++ reps z n

def afill (ts : Ts) : List Value → List (Nat × Nat × Opd) → Option (List Value)
  | cells, [] => some cells
  | cells, (off, size, x) :: rest =>
    if (cellsL (ev ts x)).length = size ∧ off + size ≤ cells.length then afill ts (splice cells off (cellsL (ev ts x))) rest else none

/-- What an operation gives: a value, a heap. -/
abbrev R := Option (Value × H)

def newCells (nid : Nat) (e : TypeId) (c : List Value) (h : H) : R := some (.pointer (some ⟨nid, 0, none⟩), h.put nid (.cells c e))

def xPick (a b : Value) : Value → Option Value
  | .bool t => some (if t then a else b)
  | _ => none
def xLoad1 (h : H) : Value → Option Value
  | .pointer (some a) => (h.loadN a 1).bind (·[0]?)
  | _ => none
def xLoadn (n : Nat) (h : H) : Value → Option Value
  | .pointer (some a) => (h.loadN a n).map fun l => .agg ⟨l⟩
  | _ => none
def xStore (lo n : Nat) (vs : List Value) (h : H) : Value → R
  | .pointer (some a) => if vs.length = n then (h.storeN lo a vs).map fun h' => (undef, h') else none
  | _ => none
def xNilck : Value → Option Value
  | .pointer (some a) => some (.pointer (some a))
  | _ => none

def w64 (n : Int) : Int := IntKind.i64.wrap n
def iop : IOp → Int → Int → Value
  | .add, a, b => .int .i64 (w64 (a + b))
  | .sub, a, b => .int .i64 (w64 (a - b))
  | .mul, a, b => .int .i64 (w64 (a * b))
  | .eql, a, b => .bool (a == b)
  | .neq, a, b => .bool (a != b)
  | .lss, a, b => .bool (a < b)
  | .leq, a, b => .bool (a ≤ b)
  | .gtr, a, b => .bool (a > b)
  | .geq, a, b => .bool (a ≥ b)
def xInt (op : IOp) : Value → Value → Option Value
  | .int .i64 a, .int .i64 b => some (iop op a b)
  | _, _ => none
def xIdiv (q : Bool) : Value → Value → Option Value
  | .int .i64 a, .int .i64 b => if b = 0 then none else some (.int .i64 (if q then w64 (a.tdiv b) else a.tmod b))
  | _, _ => none
def xNot : Value → Option Value
  | .bool b => some (.bool (!b))
  | _ => none
def xNeg : Value → Option Value
  | .int .i64 a => some (.int .i64 (w64 (0 - a)))
  | _ => none
def xConv (k : IntKind) : Value → Option Value
  | .int _ n => some (.int k (k.wrap n))
  | _ => none
def xMnmx (mx : Bool) : Value → Value → Option Value
  | .int .i64 a, .int .i64 b => some (.int .i64 (if mx then (if a < b then b else a) else (if b < a then b else a)))
  | _, _ => none

def pureOut : Option Next → Option Value
  | some (.value v) => if flat v then some v else none
  | _ => none
def evR (ts : Ts) : Operand → Value
  | .tmp t => ts t
  | .const v => v
  | .global _ => undef
  | .func f => .func (.func f) #[] #[]
def xPure (P : Program) (ts : Ts) (o : Oper) : Option Value :=
  if o.op.operands.toList.all (fun x => flat (evR ts x)) then pureOut (pureRun P (execOp (evR ts) o)) else none

/-- A comparison with nil: of pointers, of slices. -/
def cmpNil (sl : Bool) : Value → Value → Option Bool
  | .pointer a, .pointer b => if sl = false ∧ (a.isNone ∨ b.isNone) then some (a.isNone && b.isNone) else none
  | .slice a _ _, .slice b _ _ => if sl = true ∧ (a.isNone ∨ b.isNone) then some (a.isNone && b.isNone) else none
  | _, _ => none
def xCmp (P : Program) (sl ne : Bool) (ts : Ts) (x y : Opd) (o : Oper) : Option Value :=
  match cmpNil sl (ev ts x) (ev ts y) with
  | some b => some (.bool (b != ne))
  | none => xPure P ts o

def natOf? : Value → Option Nat
  | .int _ n => if 0 ≤ n then some n.toNat else none
  | _ => none
def optNat (d : Nat) : Option Value → Option Nat
  | none => some d
  | some v => natOf? v

def xMkslice (nid : Nat) (z : List Value) (bytes : Nat) (e : TypeId) (h : H) : Option Nat → Option Nat → R
  | some l, some c => if l ≤ c ∧ (c + 1) * (bytes + 1) ≤ 2 ^ 40 then some (.slice (some ⟨nid, 0, none⟩) l c, h.put nid (.cells (reps z c) e)) else none
  | _, _ => none

def slAddr (a : Addr) (l m sz : Nat) : Addr := if m = l then a else aadd a (l * sz)
/-- A slice of known capacity c at a, cut; 'enc' writes down the new capacity. -/
def slKnown (enc : Nat → Nat) (c sz : Nat) (a : Addr) : Option Nat → Option Nat → Option Nat → Option Value
  | some l, some hi, some m => if m ≤ c ∧ hi ≤ m ∧ l ≤ hi then some (.slice (some (slAddr a l m sz)) (hi - l) (enc (m - l))) else none
  | _, _, _ => none
def slOpen (len cap sz : Nat) (a : Addr) : Option Nat → Option Nat → Option Value
  | some l, some hi => if hi ≤ len ∧ l ≤ hi ∧ (l = 0 ∨ l < len) then some (.slice (some (aadd a (l * sz))) (hi - l) (cap + 2 * l)) else none
  | _, _ => none
def enc1 (c : Nat) : Nat := c
def enc2 (c : Nat) : Nat := 2 * c + 1
def encAt : Option Nat → Nat → Nat
  | none => enc1
  | some _ => enc2
def slGrow (len cap sz : Nat) (a : Addr) (lo hi mx : Option Value) : Option Value :=
  if cap % 2 = 1 then slKnown enc2 (cap / 2) sz a (optNat 0 lo) (optNat len hi) (optNat (cap / 2) mx)
  else match mx with
    | none => slOpen len cap sz a (optNat 0 lo) (optNat len hi)
    | some m => slKnown enc2 len sz a (optNat 0 lo) (optNat len hi) (natOf? m)
def slNil : Option Nat → Option Nat → Option Nat → Option Value
  | some l, some hi, some m => if l = 0 ∧ hi = 0 ∧ m = 0 then some (.slice none 0 0) else none
  | _, _, _ => none
def slsl (sz : Nat) (lo hi mx : Option Value) : Value → Option Value
  | .slice (some a) len cap =>
    match a.spot with
    | none => slKnown enc1 cap sz a (optNat 0 lo) (optNat len hi) (optNat cap mx)
    | some _ => slGrow len cap sz a lo hi mx
  | .slice none 0 0 => slNil (optNat 0 lo) (optNat 0 hi) (optNat 0 mx)
  | _ => none
def slarr (n sz : Nat) (lo hi mx : Option Value) : Value → Option Value
  | .pointer (some a) => slKnown (encAt a.spot) n sz a (optNat 0 lo) (optNat n hi) (optNat n mx)
  | _ => none

def xFaddr (off : Nat) : Value → Option Value
  | .pointer (some a) => some (.pointer (some (aadd a off)))
  | _ => none
def xField1 (off : Nat) : Value → Option Value
  | .agg cs => cs.toList[off]?
  | _ => none
def xFieldn (off n : Nat) : Value → Option Value
  | .agg cs => (cut cs.toList off n).map fun l => .agg ⟨l⟩
  | _ => none
def xIxarr (n sz : Nat) (i : Value) : Value → Option Value
  | .pointer (some a) => (natOf? i).bind fun i => if i < n then some (.pointer (some (aadd a (i * sz)))) else none
  | _ => none
def xIxsl (sz : Nat) (i : Value) : Value → Option Value
  | .slice (some a) n _ => (natOf? i).bind fun i => if i < n then some (.pointer (some (aadd a (i * sz)))) else none
  | _ => none
def xIxv1 (n : Nat) (i : Value) : Value → Option Value
  | .agg cs => (natOf? i).bind fun i => if i < n then cs.toList[i]? else none
  | _ => none
def xIxvn (n sz : Nat) (i : Value) : Value → Option Value
  | .agg cs => (natOf? i).bind fun i => if i < n then (cut cs.toList (i * sz) sz).map fun l => .agg ⟨l⟩ else none
  | _ => none
def xExtract (i : Nat) : Value → Option Value
  | .tuple vs => vs.toList[i]?
  | _ => none
def xTass (t : TypeId) (z : Value) (ok : Bool) : Value → Option Value
  | .iface u v => if u = t then some (if ok then .tuple #[v, .bool true] else v) else if ok then some (.tuple #[z, .bool false]) else none
  | .nilIface => if ok then some (.tuple #[z, .bool false]) else none
  | _ => none

/-! ### append and copy -/

def bytesL (s : ByteArray) (n : Nat) : List Value := (s.extract 0 n).data.toList.map fun b => Value.int .u8 b.toNat

/-- The cells of n elements of a slice or a string. -/
def acells (h : H) (sz n : Nat) : Value → Option (List Value)
  | .slice (some a) _ _ => h.loadN a (n * sz)
  | .slice none _ _ => some []
  | .string s => if sz = 1 ∧ n ≤ s.size then some (bytesL s n) else none
  | _ => none
def alenOf : Value → Option Nat
  | .slice _ n _ => some n
  | .string s => some s.size
  | _ => none

def small (n bytes : Nat) : Prop := (n + 1) * (bytes + 1) ≤ 2 ^ 40
instance (n bytes : Nat) : Decidable (small n bytes) := by unfold small; infer_instance
def newGrow (nid n : Nat) (e : TypeId) (sz : Nat) (c : List Value) (h : H) : R := some (.slice (some ⟨nid, 0, some 0⟩) n 0, h.put nid (.grow c e sz [c.length] 0))
/-- An append to a slice of known capacity c. -/
def apKnown (lo nid : Nat) (e : TypeId) (sz bytes : Nat) (a : Addr) (len cap c n : Nat) (nc : List Value) (h : H) : R :=
  if len + n ≤ c then (h.storeN lo (aadd a (len * sz)) nc).map fun h' => (.slice (some a) (len + n) cap, h')
  else if small (len + n) bytes ∧ small c bytes then (h.loadN a (len * sz)).bind fun oc => newGrow nid (len + n) e sz (oc ++ nc) h else none
def apRow (lo : Nat) (e : TypeId) (sz bytes : Nat) (a : Addr) (g len cap n : Nat) (nc : List Value) (h : H) : ARow → R
  | .grow c e' sz' lens valid =>
    if lo ≤ a.block ∧ valid ≤ g ∧ g + 1 = lens.length ∧ cap = 0 ∧ a.off = 0 ∧ len * sz = c.length ∧ e = e' ∧ sz = sz' ∧ small (len + n) bytes ∧ nc.all Value.oneCell' = true then
      some (.slice (some ⟨a.block, 0, some (g + 1)⟩) (len + n) 0, h.put a.block (.grow (c ++ nc) e sz ((c.length + nc.length) :: lens) valid))
    else none
  | _ => none
def apAddr (lo nid : Nat) (e : TypeId) (sz bytes : Nat) (a : Addr) (len cap n : Nat) (nc : List Value) (h : H) : R :=
  match a.spot with
  | none => apKnown lo nid e sz bytes a len cap cap n nc h
  | some g =>
    if cap % 2 = 1 then apKnown lo nid e sz bytes a len cap (cap / 2) n nc h
    else (h.get a.block).bind fun row => apRow lo e sz bytes a g len cap n nc h row
def xAppend (lo nid : Nat) (e : TypeId) (sz bytes : Nat) (s x : Value) (h : H) : R :=
  (alenOf x).bind fun n =>
  if n = 0 then (match s with | .slice _ _ _ => some (s, h) | _ => none) else
  (acells h sz n x).bind fun nc =>
  match s with
  | .slice (some a) len cap => apAddr lo nid e sz bytes a len cap n nc h
  | .slice none 0 0 => if small n bytes then newGrow nid n e sz nc h else none
  | _ => none

def xCopy (lo sz : Nat) (d s : Value) (h : H) : R :=
  match d with
  | .slice base len _ =>
    (alenOf s).bind fun k =>
    let n := if k ≤ len then k else len
    (acells h sz n s).bind fun nc =>
    match base with
    | some a => (if n = 0 then some h else h.storeN lo a nc).map fun h' => (.int .i64 n, h')
    | none => some (.int .i64 n, h)
  | _ => none

/-! ### maps -/

/-- The entries with no value: of them a key is looked for. -/
def bare (es : List MapEntry) : List MapEntry := es.map fun e => ⟨e.key, undef, e.born⟩
def keysFlat (es : List MapEntry) : Bool := es.all fun e => flat e.key
def afind (P : Program) (empty : Bool) (kt : TypeId) (k : Value) (es : List MapEntry) : Option (Option Nat) :=
  if flat k ∧ keysFlat es ∧ (pureRun P (Instr.checkKey empty 10000 kt k)).isSome then
    (pureRun P (Instr.findKey kt k (bare es))).map fun r => r.map (·.1)
  else none

def luOut (z : Value) (ok : Bool) (es : List MapEntry) : Option Nat → Option Value
  | some i => (es[i]?).map fun x => if ok then .tuple #[x.val, .bool true] else x.val
  | none => some (if ok then .tuple #[z, .bool false] else z)
def xLookup (P : Program) (kt : TypeId) (z : Value) (ok : Bool) (k : Value) (h : H) : Value → Option Value
  | .map (some r) => match h.get r with
    | some (.map es _) => (afind P es.isEmpty kt k es).bind (luOut z ok es)
    | _ => none
  | .map none => (afind P true kt k []).bind (luOut z ok [])
  | _ => none

def muOut (r c : Nat) (es : List MapEntry) (k v : Value) (h : H) : Option Nat → Option H
  | some i => (es[i]?).bind fun x => if Instr.sameBits 10000 x.key k then some (h.put r (.map (es.set i ⟨k, v, x.born⟩) c)) else none
  | none => some (h.put r (.map (es ++ [⟨k, v, c⟩]) (c + 1)))
def xMapup (P : Program) (lo : Nat) (kt : TypeId) (k v : Value) (h : H) : Value → Option H
  | .map (some r) => if lo ≤ r then (match h.get r with
    | some (.map es c) => (afind P false kt k es).bind (muOut r c es k v h)
    | _ => none) else none
  | _ => none
def xDelete (P : Program) (lo : Nat) (kt : TypeId) (k : Value) (h : H) : Value → Option H
  | .map (some r) => if lo ≤ r then (match h.get r with
    | some (.map es c) => (afind P es.isEmpty kt k es).map fun o => match o with | some i => h.put r (.map (es.eraseIdx i) c) | none => h
    | _ => none) else none
  | _ => none

def xLen : Value → Option Value
  | .slice _ n _ => some (.int .i64 n)
  | _ => none
def xLenstr : Value → Option Value
  | .string s => some (.int .i64 s.size)
  | _ => none
def xLenmap (h : H) : Value → Option Value
  | .map (some r) => match h.get r with
    | some (.map es _) => some (.int .i64 es.length)
    | _ => none
  | .map none => some (.int .i64 0)
  | _ => none
def xCap : Value → Option Value
  | .slice none _ c => some (.int .i64 c)
  | .slice (some a) _ c => match a.spot with
    | none => some (.int .i64 c)
    | some _ => if c % 2 = 1 then some (.int .i64 (c / 2 : Nat)) else none
  | _ => none

def keep (h : H) : Option Value → R := fun o => o.map fun v => (v, h)
def evO (ts : Ts) (o : Option Opd) : Option Value := o.map (ev ts)

def aop (P : Program) (lo nid : Nat) (ts : Ts) (h : H) : AOp → R
  | .mv x => some (ev ts x, h)
  | .pick c a b => keep h (xPick (ev ts a) (ev ts b) (ev ts c))
  | .alloc z e => newCells nid e z h
  | .box x e => newCells nid e (cellsL (ev ts x)) h
  | .build z ps => keep h ((afill ts z ps).map fun l => .agg ⟨l⟩)
  | .bslice z ps len e => (afill ts z ps).map fun cs => (.slice (some ⟨nid, 0, none⟩) len len, h.put nid (.cells cs e))
  | .load1 a => keep h (xLoad1 h (ev ts a))
  | .loadn n a => keep h (xLoadn n h (ev ts a))
  | .store n a x => xStore lo n (cellsL (ev ts x)) h (ev ts a)
  | .nilck x => keep h (xNilck (ev ts x))
  | .int op x y => keep h (xInt op (ev ts x) (ev ts y))
  | .idiv q x y => keep h (xIdiv q (ev ts x) (ev ts y))
  | .not x => keep h (xNot (ev ts x))
  | .neg x => keep h (xNeg (ev ts x))
  | .conv k x => keep h (xConv k (ev ts x))
  | .mnmx m x y => keep h (xMnmx m (ev ts x) (ev ts y))
  | .pure o => keep h (xPure P ts o)
  | .cmp sl ne x y o => keep h (xCmp P sl ne ts x y o)
  | .mkif t x => some (.iface t (ev ts x), h)
  | .mkfn fn fs cs => some (.func fn ⟨fs.map (ev ts)⟩ ⟨cs.map (ev ts)⟩, h)
  | .mkmap => some (.map (some nid), h.put nid (.map [] 0))
  | .mkslice z b e l c => xMkslice nid z b e h (natOf? (ev ts l)) (natOf? (ev ts c))
  | .slarr n sz x l hi m => keep h (slarr n sz (evO ts l) (evO ts hi) (evO ts m) (ev ts x))
  | .slsl sz x l hi m => keep h (slsl sz (evO ts l) (evO ts hi) (evO ts m) (ev ts x))
  | .faddr off x => keep h (xFaddr off (ev ts x))
  | .field1 off x => keep h (xField1 off (ev ts x))
  | .fieldn off n x => keep h (xFieldn off n (ev ts x))
  | .ixarr n sz x i => keep h (xIxarr n sz (ev ts i) (ev ts x))
  | .ixsl sz x i => keep h (xIxsl sz (ev ts i) (ev ts x))
  | .ixv1 n x i => keep h (xIxv1 n (ev ts i) (ev ts x))
  | .ixvn n sz x i => keep h (xIxvn n sz (ev ts i) (ev ts x))
  | .extract x i => keep h (xExtract i (ev ts x))
  | .tass t z ok x => keep h (xTass t z ok (ev ts x))
  | .lookup kt z ok m k => keep h (xLookup P kt z ok (ev ts k) h (ev ts m))
  | .mapup kt m k v => (xMapup P lo kt (ev ts k) (ev ts v) h (ev ts m)).map fun h' => (undef, h')
  | .len x => keep h (xLen (ev ts x))
  | .lenstr x => keep h (xLenstr (ev ts x))
  | .lenmap x => keep h (xLenmap h (ev ts x))
  | .cap x => keep h (xCap (ev ts x))
  | .append e sz b s x => xAppend lo nid e sz b (ev ts s) (ev ts x) h
  | .copy sz d s => xCopy lo sz (ev ts d) (ev ts s) h
  | .delete kt m k => (xDelete P lo kt (ev ts k) h (ev ts m)).map fun h' => (.tuple #[], h')

/-- Does it ask for a row of its own? -/
def AOp.fresh : AOp → Bool
  | .alloc _ _ | .box _ _ | .bslice _ _ _ _ | .mkmap | .mkslice _ _ _ _ _ | .append _ _ _ _ _ => true
  | _ => false
/-- Does it touch nothing of the heap that is there? -/
def AOp.light : AOp → Bool
  | .load1 _ | .loadn _ _ | .store _ _ _ | .lookup _ _ _ _ _ | .mapup _ _ _ _ | .lenmap _ | .append _ _ _ _ _ | .copy _ _ _ | .delete _ _ _ => false
  | _ => true

def awanted (ts : Ts) : Option (Nat × Bool) → Bool
  | none => true
  | some (j, want) => match ts j with | .bool b => b == want | _ => false
def aput (ts : Ts) (v : Value) : Option Nat → Ts
  | some d => setV ts d v
  | none => ts

end AE
