/- Walking by evaluation: the weakest precondition turned into questions, one after the other; what lies between two questions is evaluated. -/
import Derived.Test.YthajcipblfchiaaAESym
set_option linter.unusedVariables false
set_option linter.unusedSimpArgs false
set_option linter.unusedSectionVars false
namespace AE
open Go

/-! ### questions -/

structure Need (p k : Prop) : Prop where
  h : p
  k : k
structure Fork (p q a b : Prop) : Prop where
  l : p → a
  r : q → b
inductive Start (n l : Nat) (k : Nat → Nat → Prop) : Prop
  | mk {nb j : Nat} (e : n = nb) (e' : l = j) (h : k nb j)
inductive Load1 (h : H) (a : Addr) (k : Value → Prop) : Prop
  | mk {v0 v : Value} (e : h.loadN a 1 = some [v0]) (f : v0 = v) (h : k v)
inductive LoadN (h : H) (a : Addr) (n : Nat) (k : List Value → Prop) : Prop
  | mk {l0 l : List Value} (e : h.loadN a n = some l0) (f : Is l0 l) (h : k l)
inductive Sto (lo : Nat) (h : H) (ad : Addr) (n : Nat) (vs : List Value) (k : H → Prop) : Prop
  | mk {r off : Nat} {c c' : List Value} {e : TypeId} (ha : ad = ⟨r, off, none⟩) (hlo : lo ≤ r) (hget : h.get r = some (.cells c e)) (hn : vs.length = n) (ho : vs.all Value.oneCell' = true) (hl : Nat.ble (off + n) c.length = true) (hc : Is (splice c off vs) c') (hk : k (h.put r (.cells c' e)))
inductive Ix (b : Option Addr) (n : Nat) (z : Int) (k : Addr → Nat → Prop) : Prop
  | mk {a : Addr} {m : Nat} (hb : b = some a) (hz : z = (m : Int)) (hm : m < n) (hk : k a m)
inductive IxA (n : Nat) (z : Int) (k : Nat → Prop) : Prop
  | mk {m : Nat} (hz : z = (m : Int)) (hm : m < n) (hk : k m)
inductive Wrap (t : IntKind) (x : Int) (k : Int → Prop) : Prop
  | mk {y : Int} (e : t.wrap x = y) (h : k y)
inductive CallF (P : Program) (g lo : Nat) (q : Bool) (h : H) (fv : Value) (args as : List Value) (k : Value → H → Prop) : Prop
  | mk {v : Value} {h' : H} (a : AF P g (if q then h.next else lo) h as v h') (hk : k v h')
  | raw {v : Value} {h' : H} (a : ACall P fv (if q then h.next else lo) h args v h') (hk : k v h')
inductive CallV (P : Program) (fv : Value) (lo : Nat) (q : Bool) (h : H) (args : List Value) (k : Value → H → Prop) : Prop
  | mk {v : Value} {h' : H} (a : ACall P fv (if q then h.next else lo) h args v h') (hk : k v h')
inductive OpE (P : Program) (lo nid : Nat) (ts : Ts) (h : H) (ao : AOp) (k : Value → H → Prop) : Prop
  | mk {v : Value} {h' : H} (e : aop P lo nid ts h ao = some (v, h')) (hk : k v h')
inductive New (n : Nat) (k : Nat → Prop) : Prop
  | mk {m : Nat} (e : n = m) (h : k m)
theorem New.out {n : Nat} {k : Nat → Prop} (h : New n k) : k n := by obtain ⟨e, h⟩ := h; subst e; exact h
structure At (p : Prop) : Prop where
  h : p

/-! ### values, taken as they stand -/

def forceV : Value → (Value → Prop) → Prop
  | .bool b, k => k (.bool b)
  | .int t n, k => k (.int t n)
  | .float t n, k => k (.float t n)
  | .complex t n m, k => k (.complex t n m)
  | .string s, k => k (.string s)
  | .pointer a, k => k (.pointer a)
  | .slice a n c, k => k (.slice a n c)
  | .map r, k => k (.map r)
  | .chan r, k => k (.chan r)
  | .func f a c, k => k (.func f a c)
  | .nilFunc, k => k .nilFunc
  | .iface t v, k => k (.iface t v)
  | .nilIface, k => k .nilIface
  | .agg c, k => k (.agg c)
  | .tuple c, k => k (.tuple c)
theorem forceV_iff {v : Value} {k : Value → Prop} : forceV v k ↔ k v := by cases v <;> exact Iff.rfl
theorem forceV_any {v : Value} {k : Value → Prop} (h : k v) : forceV v k := forceV_iff.2 h
def forceL : List Value → (List Value → Prop) → Prop
  | [], k => k []
  | v :: l, k => forceV v fun v' => forceL l fun l' => k (v' :: l')
theorem forceL_iff : ∀ {l : List Value} {k : List Value → Prop}, forceL l k ↔ k l
  | [], _ => Iff.rfl
  | v :: l, k => by simp only [forceL, forceV_iff, forceL_iff]
theorem forceL_any {l : List Value} {k : List Value → Prop} (h : k l) : forceL l k := forceL_iff.2 h
def nthC : List Value → Nat → (Value → Prop) → Prop
  | [], _, _ => False
  | v :: _, 0, k => forceV v k
  | _ :: l, i + 1, k => nthC l i k
theorem nthC_out : ∀ {l : List Value} {i : Nat} {k : Value → Prop}, nthC l i k → ∃ v, l[i]? = some v ∧ k v
  | [], _, _, h => h.elim
  | v :: _, 0, _, h => ⟨v, rfl, forceV_iff.1 h⟩
  | _ :: l, i + 1, k, h => by simpa using nthC_out (l := l) (i := i) (k := k) h
def takeC : List Value → Nat → (List Value → Prop) → Prop
  | _, 0, k => k []
  | [], _ + 1, _ => False
  | v :: l, n + 1, k => forceV v fun v' => takeC l n fun r => k (v' :: r)
theorem takeC_out : ∀ {l : List Value} {n : Nat} {k : List Value → Prop}, takeC l n k → n ≤ l.length ∧ k (l.take n)
  | l, 0, k, h => by cases l <;> exact ⟨Nat.zero_le _, h⟩
  | [], _ + 1, _, h => h.elim
  | v :: l, n + 1, k, h => by
    simp only [takeC, forceV_iff] at h
    have := takeC_out h
    exact ⟨by simp; exact this.1, by simpa using this.2⟩
def cutC : List Value → Nat → Nat → (List Value → Prop) → Prop
  | l, 0, n, k => takeC l n k
  | [], _ + 1, _, _ => False
  | _ :: l, i + 1, n, k => cutC l i n k
theorem cutC_out : ∀ {l : List Value} {i n : Nat} {k : List Value → Prop}, cutC l i n k → ∃ r, cut l i n = some r ∧ k r
  | l, 0, n, k, h => by
    have h : takeC l n k := by cases l <;> exact h
    have := takeC_out h
    exact ⟨_, by unfold cut; rw [if_pos (by omega)], by simpa using this.2⟩
  | [], _ + 1, _, _, h => h.elim
  | _ :: l, i + 1, n, k, h => by
    obtain ⟨r, h1, h2⟩ := cutC_out (l := l) h
    refine ⟨r, ?_, h2⟩
    unfold cut at *
    split at h1
    · rw [if_pos (by simp; omega)]; simpa using h1
    · cases h1
/-- The list with its first n elements replaced. -/
def overC : List Value → Nat → List Value → (List Value → Prop) → Prop
  | z, 0, [], k => k z
  | _ :: z, n + 1, c :: cs, k => forceV c fun c' => overC z n cs fun r => k (c' :: r)
  | _, _, _, _ => False
theorem overC_out : ∀ {z : List Value} {n : Nat} {cs : List Value} {k : List Value → Prop}, overC z n cs k → cs.length = n ∧ n ≤ z.length ∧ k (cs ++ z.drop n)
  | z, 0, [], k, h => by
    have h : k z := by cases z <;> exact h
    exact ⟨rfl, Nat.zero_le _, by simpa using h⟩
  | _ :: z, n + 1, c :: cs, k, h => by
    simp only [overC, forceV_iff] at h
    obtain ⟨h1, h2, h3⟩ := overC_out h
    exact ⟨by simp [h1], by simp; exact h2, by simpa using h3⟩
  | [], n + 1, cs, _, h => by cases cs <;> exact h.elim
  | z, 0, _ :: _, _, h => by cases z <;> exact h.elim
  | _ :: _, _ + 1, [], _, h => h.elim
def spliceC : List Value → Nat → Nat → List Value → (List Value → Prop) → Prop
  | z, 0, n, cs, k => overC z n cs k
  | [], _ + 1, _, _, _ => False
  | v :: z, i + 1, n, cs, k => spliceC z i n cs fun r => k (v :: r)
theorem spliceC_out : ∀ {z : List Value} {i n : Nat} {cs : List Value} {k : List Value → Prop}, spliceC z i n cs k → cs.length = n ∧ i + n ≤ z.length ∧ k (splice z i cs)
  | z, 0, n, cs, k, h => by
    have h : overC z n cs k := by cases z <;> exact h
    obtain ⟨h1, h2, h3⟩ := overC_out h
    refine ⟨h1, by omega, ?_⟩
    unfold splice
    simpa [h1] using h3
  | [], _ + 1, _, _, _, h => h.elim
  | v :: z, i + 1, n, cs, k, h => by
    obtain ⟨h1, h2, h3⟩ := spliceC_out (z := z) h
    refine ⟨h1, by simp; omega, ?_⟩
    unfold splice at *
    have e : i + 1 + cs.length = (i + cs.length) + 1 := by omega
    simpa [e] using h3

def cellsC : Value → (List Value → Prop) → Prop
  | .agg ⟨l⟩, k => forceL l k
  | v, k => forceV v fun v' => k [v']
theorem cellsC_out {v : Value} {k : List Value → Prop} (h : cellsC v k) : k (cellsL v) := by
  unfold cellsC at h
  split at h
  · exact forceL_iff.1 h
  · rename_i hv
    have h := forceV_iff.1 h
    have : cellsL v = [v] := by
      cases v with
      | agg c => obtain ⟨l⟩ := c; exact (hv l rfl).elim
      | _ => rfl
    rw [this]; exact h
def fillC (ts : Ts) : List Value → List (Nat × Nat × Opd) → (List Value → Prop) → Prop
  | z, [], k => k z
  | z, (off, size, x) :: ps, k => cellsC (ev ts x) fun cs => spliceC z off size cs fun z' => fillC ts z' ps k
theorem fillC_out {ts : Ts} : ∀ {ps : List (Nat × Nat × Opd)} {z : List Value} {k : List Value → Prop}, fillC ts z ps k → ∃ l, afill ts z ps = some l ∧ k l
  | [], z, k, h => ⟨z, rfl, h⟩
  | (off, size, x) :: ps, z, k, h => by
    obtain ⟨h1, h2, h3⟩ := spliceC_out (cellsC_out h)
    obtain ⟨l, e, hk⟩ := fillC_out h3
    refine ⟨l, ?_, hk⟩
    simp only [afill]
    rw [if_pos ⟨h1, h2⟩]
    exact e
def evsC (ts : Ts) : List Opd → (List Value → Prop) → Prop
  | [], k => k []
  | x :: xs, k => forceV (ev ts x) fun v => evsC ts xs fun l => k (v :: l)
theorem evsC_iff {ts : Ts} : ∀ {xs : List Opd} {k : List Value → Prop}, evsC ts xs k ↔ k (xs.map (ev ts))
  | [], _ => Iff.rfl
  | x :: xs, k => by simp only [evsC, forceV_iff, evsC_iff, List.map_cons]
def appC : List Value → List Value → (List Value → Prop) → Prop
  | [], l, k => k l
  | v :: l', l, k => appC l' l fun r => k (v :: r)
theorem appC_iff : ∀ {a b : List Value} {k : List Value → Prop}, appC a b k ↔ k (a ++ b)
  | [], _, _ => Iff.rfl
  | v :: a, b, k => by simp only [appC, appC_iff, List.cons_append]

/-! ### operations -/

def ptrC : Value → (Addr → Prop) → Prop
  | .pointer (some a), k => k a
  | _, _ => False
theorem ptrC_out {v : Value} {k : Addr → Prop} (h : ptrC v k) : ∃ a, v = .pointer (some a) ∧ k a := by
  unfold ptrC at h; split at h
  · exact ⟨_, rfl, h⟩
  · exact h.elim
def aggC : Value → (List Value → Prop) → Prop
  | .agg ⟨l⟩, k => k l
  | _, _ => False
theorem aggC_out {v : Value} {k : List Value → Prop} (h : aggC v k) : ∃ l, v = .agg ⟨l⟩ ∧ k l := by
  unfold aggC at h; split at h
  · exact ⟨_, rfl, h⟩
  · exact h.elim
def int1C : Value → (Int → Prop) → Prop
  | .int .i64 a, k => k a
  | _, _ => False
theorem int1C_out {v : Value} {k : Int → Prop} (h : int1C v k) : ∃ a, v = .int .i64 a ∧ k a := by
  unfold int1C at h; split at h
  · exact ⟨_, rfl, h⟩
  · exact h.elim
def anyC : Value → (IntKind → Int → Prop) → Prop
  | .int t a, k => k t a
  | _, _ => False
theorem anyC_out {v : Value} {k : IntKind → Int → Prop} (h : anyC v k) : ∃ t a, v = .int t a ∧ k t a := by
  unfold anyC at h; split at h
  · exact ⟨_, _, rfl, h⟩
  · exact h.elim
def boolC : Value → Prop → Prop → Prop
  | .bool true, a, _ => a
  | .bool false, _, b => b
  | _, _, _ => False
theorem boolC_out {v : Value} {a b : Prop} (h : boolC v a b) : (v = .bool true ∧ a) ∨ (v = .bool false ∧ b) := by
  unfold boolC at h; split at h
  · exact .inl ⟨rfl, h⟩
  · exact .inr ⟨rfl, h⟩
  · exact h.elim
def in64 (z : Int) : Prop := -9223372036854775808 ≤ z ∧ z < 9223372036854775808
def iopC (k : Value → Prop) (a b : Int) : IOp → Prop
  | .add => Need (-9223372036854775808 ≤ a + b ∧ a + b < 9223372036854775808) (k (.int .i64 (a + b)))
  | .sub => Need (-9223372036854775808 ≤ a - b ∧ a - b < 9223372036854775808) (k (.int .i64 (a - b)))
  | .mul => Need (-9223372036854775808 ≤ a * b ∧ a * b < 9223372036854775808) (k (.int .i64 (a * b)))
  | .eql => Fork (a = b) (a ≠ b) (k (.bool true)) (k (.bool false))
  | .neq => Fork (a ≠ b) (a = b) (k (.bool true)) (k (.bool false))
  | .lss => Fork (a < b) (b ≤ a) (k (.bool true)) (k (.bool false))
  | .leq => Fork (a ≤ b) (b < a) (k (.bool true)) (k (.bool false))
  | .gtr => Fork (b < a) (a ≤ b) (k (.bool true)) (k (.bool false))
  | .geq => Fork (b ≤ a) (a < b) (k (.bool true)) (k (.bool false))
theorem iopC_out {k : Value → Prop} {a b : Int} {op : IOp} (h : iopC k a b op) : k (iop op a b) := by
  cases op
  case add => simp only [iop]; rw [w64_id h.h]; exact h.k
  case sub => simp only [iop]; rw [w64_id h.h]; exact h.k
  case mul => simp only [iop]; rw [w64_id h.h]; exact h.k
  case eql =>
    by_cases c : a = b
    · have := h.l c; simpa [iop, c] using this
    · show k (.bool (a == b)); rw [show (a == b) = false by simp [c]]; exact h.r c
  case neq =>
    by_cases c : a = b
    · have := h.r c; simpa [iop, c] using this
    · show k (.bool (a != b)); rw [show (a != b) = true by simp [c]]; exact h.l c
  case lss =>
    by_cases c : a < b
    · have := h.l c; simpa [iop, c] using this
    · have := h.r (by omega); simpa [iop, c] using this
  case leq =>
    by_cases c : a ≤ b
    · have := h.l c; simpa [iop, c] using this
    · have := h.r (by omega); simpa [iop, c] using this
  case gtr =>
    by_cases c : b < a
    · have := h.l c; simpa [iop, c] using this
    · have := h.r (by omega); simpa [iop, c] using this
  case geq =>
    by_cases c : b ≤ a
    · have := h.l c; simpa [iop, c] using this
    · have := h.r (by omega); simpa [iop, c] using this
def divC (k : Value → Prop) (a b : Int) : Bool → Prop
  | true => Need (0 ≤ a ∧ a < 9223372036854775808 ∧ 0 < b) (k (.int .i64 (a / b)))
  | false => Need (0 ≤ a ∧ 0 < b) (k (.int .i64 (a % b)))
theorem divC_out {k : Value → Prop} {a b : Int} {q : Bool} (h : divC k a b q) : ∃ v, xIdiv q (.int .i64 a) (.int .i64 b) = some v ∧ k v := by
  cases q
  · obtain ⟨h1, h2⟩ := h.h
    have e : a.tmod b = a % b := Int.tmod_eq_emod_of_nonneg h1
    exact ⟨_, by simp [xIdiv, e]; omega, h.k⟩
  · obtain ⟨h0, h1, h2⟩ := h.h
    have e : a.tdiv b = a / b := Int.tdiv_eq_ediv_of_nonneg h0
    have h3 : 0 ≤ a / b := Int.ediv_nonneg h0 (by omega)
    have h4 : a / b ≤ a := Int.ediv_le_self _ h0
    have hw : w64 (a / b) = a / b := w64_id (by omega)
    exact ⟨_, by simp [xIdiv, e, hw]; omega, h.k⟩
def mnmxC (k : Value → Prop) (a b : Int) : Bool → Prop
  | true => k (.int .i64 (max a b))
  | false => k (.int .i64 (min a b))
theorem mnmxC_out {k : Value → Prop} {a b : Int} {m : Bool} (h : mnmxC k a b m) : ∃ v, xMnmx m (.int .i64 a) (.int .i64 b) = some v ∧ k v := by
  cases m
  · refine ⟨_, ?_, h⟩
    have : (if b < a then b else a) = min a b := by split <;> omega
    simp [xMnmx, this]
  · refine ⟨_, ?_, h⟩
    have : (if a < b then b else a) = max a b := by split <;> omega
    simp [xMnmx, this]
def slC : Value → (Option Addr → Nat → Nat → Prop) → Prop
  | .slice b n c, k => k b n c
  | _, _ => False
theorem slC_out {v : Value} {k : Option Addr → Nat → Nat → Prop} (h : slC v k) : ∃ b n c, v = .slice b n c ∧ k b n c := by
  unfold slC at h; split at h
  · exact ⟨_, _, _, rfl, h⟩
  · exact h.elim
def tupC : Value → (List Value → Prop) → Prop
  | .tuple ⟨l⟩, k => k l
  | _, _ => False
theorem tupC_out {v : Value} {k : List Value → Prop} (h : tupC v k) : ∃ l, v = .tuple ⟨l⟩ ∧ k l := by
  unfold tupC at h; split at h
  · exact ⟨_, rfl, h⟩
  · exact h.elim
def negC (k : Value → Prop) (a : Int) : Prop := Need (-9223372036854775808 < a ∧ a < 9223372036854775808) (k (.int .i64 (-a)))

def opC (P : Program) (lo nid : Nat) (ts : Ts) (h : H) (k : Value → H → Prop) : AOp → Prop
  | .mv x => forceV (ev ts x) fun v => k v h
  | .pick c a b => boolC (ev ts c) (forceV (ev ts a) fun v => k v h) (forceV (ev ts b) fun v => k v h)
  | .alloc z e => New nid fun nid => k (.pointer (some ⟨nid, 0, none⟩)) (h.put nid (.cells z e))
  | .box x e => cellsC (ev ts x) fun cs => New nid fun nid => k (.pointer (some ⟨nid, 0, none⟩)) (h.put nid (.cells cs e))
  | .build z ps => fillC ts z ps fun l => k (.agg ⟨l⟩) h
  | .bslice z ps len e => fillC ts z ps fun l => New nid fun nid => k (.slice (some ⟨nid, 0, none⟩) len len) (h.put nid (.cells l e))
  | .load1 a => ptrC (ev ts a) fun ad => Load1 h ad fun v => k v h
  | .loadn n a => ptrC (ev ts a) fun ad => LoadN h ad n fun l => k (.agg ⟨l⟩) h
  | .store n a x => ptrC (ev ts a) fun ad => cellsC (ev ts x) fun cs => Sto lo h ad n cs fun h' => k undef h'
  | .nilck x => ptrC (ev ts x) fun a => k (.pointer (some a)) h
  | .int op x y => int1C (ev ts x) fun a => int1C (ev ts y) fun b => iopC (fun v => k v h) a b op
  | .idiv q x y => int1C (ev ts x) fun a => int1C (ev ts y) fun b => divC (fun v => k v h) a b q
  | .not x => boolC (ev ts x) (k (.bool false) h) (k (.bool true) h)
  | .neg x => int1C (ev ts x) fun a => negC (fun v => k v h) a
  | .conv t x => anyC (ev ts x) fun _ a => Wrap t a fun a => k (.int t a) h
  | .mnmx m x y => int1C (ev ts x) fun a => int1C (ev ts y) fun b => mnmxC (fun v => k v h) a b m
  | .mkif t x => forceV (ev ts x) fun v => k (.iface t v) h
  | .mkfn fn fs cs => evsC ts fs fun l => evsC ts cs fun m => k (.func fn ⟨l⟩ ⟨m⟩) h
  | .faddr off x => ptrC (ev ts x) fun a => k (.pointer (some (aadd a off))) h
  | .field1 off x => aggC (ev ts x) fun l => nthC l off fun v => k v h
  | .fieldn off n x => aggC (ev ts x) fun l => cutC l off n fun l' => k (.agg ⟨l'⟩) h
  | .ixsl sz x i => slC (ev ts x) fun b n _ => anyC (ev ts i) fun _ z => Ix b n z fun a m => k (.pointer (some (aadd a (m * sz)))) h
  | .ixarr n sz x i => ptrC (ev ts x) fun a => anyC (ev ts i) fun _ z => IxA n z fun m => k (.pointer (some (aadd a (m * sz)))) h
  | .extract x i => tupC (ev ts x) fun l => nthC l i fun v => k v h
  | .len x => slC (ev ts x) fun _ n _ => k (.int .i64 n) h
  | o => New nid fun nid => OpE P lo nid ts h o k

set_option maxHeartbeats 1000000 in
theorem opC_out {P : Program} {lo nid : Nat} {ts : Ts} {h : H} {k : Value → H → Prop} {o : AOp} (hc : opC P lo nid ts h k o) : ∃ v h', aop P lo nid ts h o = some (v, h') ∧ k v h' := by
  cases o <;> simp only [opC] at hc
  case mv x => exact ⟨_, _, rfl, forceV_iff.1 hc⟩
  case pick c a b =>
    rcases boolC_out hc with ⟨e, hk⟩ | ⟨e, hk⟩
    · exact ⟨_, _, by simp [aop, keep, xPick, e], forceV_iff.1 hk⟩
    · exact ⟨_, _, by simp [aop, keep, xPick, e], forceV_iff.1 hk⟩
  case alloc z e => exact ⟨_, _, rfl, hc.out⟩
  case box x e => exact ⟨_, _, rfl, (cellsC_out hc).out⟩
  case build z ps =>
    obtain ⟨l, e, hk⟩ := fillC_out hc
    exact ⟨_, _, by simp [aop, keep, e], hk⟩
  case bslice z ps len e =>
    obtain ⟨l, e, hk⟩ := fillC_out hc
    exact ⟨_, _, by simp [aop, e], hk.out⟩
  case load1 a =>
    obtain ⟨ad, e, hk⟩ := ptrC_out hc
    obtain ⟨e1, e2, e3⟩ := hk
    subst e2
    exact ⟨_, _, by simp [aop, keep, xLoad1, e, e1], e3⟩
  case loadn n a =>
    obtain ⟨ad, e, hk⟩ := ptrC_out hc
    obtain ⟨e1, e2, e3⟩ := hk
    have e2 := e2.eq
    subst e2
    exact ⟨_, _, by simp [aop, keep, xLoadn, e, e1], e3⟩
  case store n a x =>
    obtain ⟨ad, e, hk⟩ := ptrC_out hc
    have hk := cellsC_out hk
    obtain ⟨ha, hlo, hget, hn, ho, hl, hcc, hk⟩ := hk
    subst ha
    have hcc := hcc.eq
    subst hcc
    refine ⟨_, _, ?_, hk⟩
    have hl' := Nat.le_of_ble_eq_true hl
    subst hn
    have ho' : ∀ a ∈ cellsL (ev ts x), a.oneCell' = true := by simpa using ho
    simp [aop, xStore, e, H.storeN, hlo, hget, storeRow, hl']
    exact ho'
  case nilck x =>
    obtain ⟨ad, e, hk⟩ := ptrC_out hc
    exact ⟨_, _, by simp [aop, keep, xNilck, e], hk⟩
  case int op x y =>
    obtain ⟨a, e1, hk⟩ := int1C_out hc
    obtain ⟨b, e2, hk⟩ := int1C_out hk
    exact ⟨_, _, by simp [aop, keep, xInt, e1, e2], iopC_out hk⟩
  case idiv q x y =>
    obtain ⟨a, e1, hk⟩ := int1C_out hc
    obtain ⟨b, e2, hk⟩ := int1C_out hk
    obtain ⟨v, e3, hk⟩ := divC_out hk
    exact ⟨_, _, by simp [aop, keep, e1, e2, e3], hk⟩
  case not x =>
    rcases boolC_out hc with ⟨e, hk⟩ | ⟨e, hk⟩
    · exact ⟨_, _, by simp [aop, keep, xNot, e], hk⟩
    · exact ⟨_, _, by simp [aop, keep, xNot, e], hk⟩
  case neg x =>
    obtain ⟨a, e1, hk⟩ := int1C_out hc
    have hn := hk.h
    have : w64 (0 - a) = -a := by rw [w64_id (by omega)]; omega
    exact ⟨_, _, by simp only [aop, keep, xNeg, e1, this, Option.map], hk.k⟩
  case conv t x =>
    obtain ⟨t', a, e1, hk⟩ := anyC_out hc
    obtain ⟨hw, hk⟩ := hk
    exact ⟨_, _, by simp only [aop, keep, xConv, e1, hw, Option.map], hk⟩
  case mnmx m x y =>
    obtain ⟨a, e1, hk⟩ := int1C_out hc
    obtain ⟨b, e2, hk⟩ := int1C_out hk
    obtain ⟨v, e3, hk⟩ := mnmxC_out hk
    exact ⟨_, _, by simp [aop, keep, e1, e2, e3], hk⟩
  case mkif t x => exact ⟨_, _, rfl, forceV_iff.1 hc⟩
  case mkfn fn fs cs => exact ⟨_, _, rfl, evsC_iff.1 (evsC_iff.1 hc)⟩
  case faddr off x =>
    obtain ⟨ad, e, hk⟩ := ptrC_out hc
    exact ⟨_, _, by simp [aop, keep, xFaddr, e], hk⟩
  case field1 off x =>
    obtain ⟨l, e, hk⟩ := aggC_out hc
    obtain ⟨v, e2, hk⟩ := nthC_out hk
    exact ⟨_, _, by simp [aop, keep, xField1, e, e2], hk⟩
  case fieldn off n x =>
    obtain ⟨l, e, hk⟩ := aggC_out hc
    obtain ⟨v, e2, hk⟩ := cutC_out hk
    exact ⟨_, _, by simp [aop, keep, xFieldn, e, e2], hk⟩
  case ixsl sz x i =>
    obtain ⟨b, n, c, e, hk⟩ := slC_out hc
    obtain ⟨t, z, e2, hk⟩ := anyC_out hk
    obtain ⟨hb, hz, hm, hk'⟩ := hk
    subst hb hz
    exact ⟨_, _, by simp [aop, keep, xIxsl, e, e2, natOf?, hm], hk'⟩
  case ixarr n sz x i =>
    obtain ⟨a, e, hk⟩ := ptrC_out hc
    obtain ⟨t, z, e2, hk⟩ := anyC_out hk
    obtain ⟨hz, hm, hk'⟩ := hk
    subst hz
    exact ⟨_, _, by simp [aop, keep, xIxarr, e, e2, natOf?, hm], hk'⟩
  case extract x i =>
    obtain ⟨l, e, hk⟩ := tupC_out hc
    obtain ⟨v, e2, hk⟩ := nthC_out hk
    exact ⟨_, _, by simp [aop, keep, xExtract, e, e2], hk⟩
  case len x =>
    obtain ⟨b, n, c, e, hk⟩ := slC_out hc
    exact ⟨_, _, by simp [aop, keep, xLen, e], hk⟩
  all_goals
    obtain ⟨e, hk⟩ := hc.out
    exact ⟨_, _, e, hk⟩

/-! ### calls, regions, code -/

def callC (P : Program) (lo : Nat) (q : Bool) (h : H) (args : List Value) (k : Value → H → Prop) : Value → Prop
  | .func (.func g) ⟨first⟩ ⟨capt⟩ => appC args capt fun l => appC first l fun as => CallF P g lo q h (.func (.func g) ⟨first⟩ ⟨capt⟩) args as k
  | fv => CallV P fv lo q h args k
theorem callC_any {P : Program} {lo : Nat} {q : Bool} {h : H} {args : List Value} {k : Value → H → Prop} {fv : Value} (hc : CallV P fv lo q h args k) : callC P lo q h args k fv := by
  unfold callC
  split
  · rename_i g first capt
    obtain ⟨a, hk⟩ := hc
    exact appC_iff.2 (appC_iff.2 (.raw a hk))
  · exact hc
theorem callC_out {P : Program} {lo : Nat} {q : Bool} {h : H} {args : List Value} {k : Value → H → Prop} {fv : Value} (hc : callC P lo q h args k fv) : ∃ v h', ACall P fv (if q then h.next else lo) h args v h' ∧ k v h' := by
  unfold callC at hc
  split at hc
  · rename_i g first capt
    have := appC_iff.1 (appC_iff.1 hc)
    rcases this with ⟨a, hk⟩ | ⟨a, hk⟩
    · rw [← List.append_assoc] at a
      exact ⟨_, _, AF.acall a, hk⟩
    · exact ⟨_, _, a, hk⟩
  · obtain ⟨a, hk⟩ := hc
    exact ⟨_, _, a, hk⟩

def gateC (b : Bool) (x y : Prop) : Prop := match b with
  | true => x
  | false => y
theorem gateC_out {b : Bool} {x y : Prop} (h : gateC b x y) : (b = true ∧ x) ∨ (b = false ∧ y) := by
  cases b
  · exact .inr ⟨rfl, h⟩
  · exact .inl ⟨rfl, h⟩
def insC (P : Program) (lo : Nat) (q : Bool) (nid : Nat) (ts : Ts) (h : H) (k : Value → H → Prop) : AIns → Prop
  | .op ao => opC P lo nid ts h k ao
  | .call f args => evsC ts args fun as => callC P lo q h as k (ev ts f)
def putC (ts : Ts) (v : Value) (k : Ts → Prop) : Option Nat → Prop
  | some d => k (putT ts d v)
  | none => k ts
theorem putC_out {ts : Ts} {v : Value} {k : Ts → Prop} {d : Option Nat} (h : putC ts v k d) : k (aput ts v d) := by
  cases d with
  | none => exact h
  | some d => rw [← aputT_eq]; exact h
def runC (P : Program) (lo : Nat) (q : Bool) (base : Nat) (K : Ts → H → Prop) : Nat → List AOper → Ts → H → Prop
  | _, [] => K
  | i, ⟨d, g, ins⟩ :: rest => fun ts h => gateC (awanted ts g) (insC P lo q (base + i) ts h (fun v h' => putC ts v (fun ts' => runC P lo q base K (i + 1) rest ts' h') d) ins) (putC ts undef (fun ts' => runC P lo q base K (i + 1) rest ts' h) d)
theorem runC_out {P : Program} {lo base : Nat} {q : Bool} {K : Ts → H → Prop} : ∀ {xs : List AOper} {i : Nat} {ts : Ts} {h : H}, runC P lo q base K i xs ts h → Run P lo q base i xs K ts h
  | [], _, _, _, h => h
  | ⟨d, g, ins⟩ :: rest, i, ts, h, hc => by
    simp only [runC] at hc
    simp only [Run]
    rcases gateC_out hc with ⟨e, hk⟩ | ⟨e, hk⟩
    · rw [if_pos e]
      cases ins with
      | op ao =>
        simp only [insC] at hk
        obtain ⟨v, h', ha, hk⟩ := opC_out hk
        exact ⟨v, h', ha, runC_out (putC_out hk)⟩
      | call f args =>
        simp only [insC] at hk
        obtain ⟨v, h', ha, hk⟩ := callC_out (evsC_iff.1 hk)
        exact ⟨v, h', ha, runC_out (putC_out hk)⟩
    · rw [if_neg (by simp [e])]
      exact runC_out (putC_out hk)

def thenC (K : Ts → H → Prop) (Q : Exit → Ts → H → Prop) : Exit → Ts → H → Prop
  | .normal => K
  | e => Q e
theorem thenC_eq (K : Ts → H → Prop) (Q : Exit → Ts → H → Prop) : thenC K Q = thenQ K Q := by
  funext e ts h
  cases e <;> rfl
def blockC (id : Nat) (Q : Exit → Ts → H → Prop) : Exit → Ts → H → Prop
  | .exit id' => fun ts h => gateC (Nat.beq id' id) (Q .normal ts h) (Q (.exit id') ts h)
  | e => Q e
theorem blockC_out {id : Nat} {Q : Exit → Ts → H → Prop} {e : Exit} {ts : Ts} {h : H} (hc : blockC id Q e ts h) : blockQ id Q e ts h := by
  cases e <;> first | exact hc | skip
  rename_i id'
  simp only [blockC] at hc
  simp only [blockQ]
  rcases gateC_out hc with ⟨e, hk⟩ | ⟨e, hk⟩
  · rw [if_pos (Nat.eq_of_beq_eq_true e)]; exact hk
  · rw [if_neg (fun c => by subst c; simp at e)]; exact hk
def apC (ap : List (Opd × Opd)) (ts : Ts) (k : Prop) : Prop := match ap with
  | [] => k
  | _ :: _ => Need (Apart ap ts) k
theorem apC_out {ap : List (Opd × Opd)} {ts : Ts} {k : Prop} (h : apC ap ts k) : Apart ap ts ∧ k := by
  cases ap with
  | nil => exact ⟨by simp [Apart], h⟩
  | cons _ _ => exact ⟨h.h, h.k⟩

def wpC (P : Program) (lo : Nat) : ACode → (Exit → Ts → H → Prop) → Ts → H → Prop
  | .skip, Q => Q .normal
  | .ret, Q => Q .ret
  | .exit id, Q => Q (.exit id)
  | .seq a b, Q => wpC P lo a (thenC (wpC P lo b Q) Q)
  | .cond c a b, Q => fun ts h => boolC (ev ts c) (wpC P lo a Q ts h) (wpC P lo b Q ts h)
  | .block id c, Q => wpC P lo c (blockC id Q)
  | .reg ops, Q => fun ts h => Start h.next ops.length fun nb j => runC P lo false nb (Q .normal) 0 ops ts (h.bump j)
  | .dreg ops ap, Q => fun ts h => Start h.next ops.length fun nb j => runC P lo true nb (fun ts' h' => apC ap ts' (Q .normal ts' h')) 0 ops ts (h.bump j)
  | .loop c, Q => fun ts h => At (wpA P lo (.loop c) Q ts h)
  | .range f ps n asg body x y, Q => fun ts h => At (wpA P lo (.range f ps n asg body x y) Q ts h)

theorem iter_mono {F G : (Ts → H → Prop) → Ts → H → Prop} (hFG : ∀ K K' : Ts → H → Prop, (∀ ts h, K ts h → K' ts h) → ∀ ts h, F K ts h → G K' ts h) : ∀ k ts h, iter F k ts h → iter G k ts h
  | 0, _, _, h => h
  | k + 1, ts, h, hi => hFG _ _ (iter_mono hFG k) ts h hi
theorem run_mono {P : Program} {lo base : Nat} {q : Bool} {K K' : Ts → H → Prop} (hK : ∀ ts h, K ts h → K' ts h) : ∀ {xs : List AOper} {i : Nat} {ts : Ts} {h : H}, Run P lo q base i xs K ts h → Run P lo q base i xs K' ts h
  | [], _, _, _, h => hK _ _ h
  | o :: rest, i, ts, h, hr => by
    simp only [Run] at hr ⊢
    split
    · rename_i hw
      rw [if_pos hw] at hr
      cases hi : o.ins with
      | op ao =>
        rw [hi] at hr
        obtain ⟨v, h', ha, hr⟩ := hr
        exact ⟨v, h', ha, run_mono hK hr⟩
      | call f args =>
        rw [hi] at hr
        obtain ⟨v, h', ha, hr⟩ := hr
        exact ⟨v, h', ha, run_mono hK hr⟩
    · rename_i hw
      rw [if_neg hw] at hr
      exact run_mono hK hr
theorem wpA_mono {P : Program} {lo : Nat} : ∀ (A : ACode) {Q Q' : Exit → Ts → H → Prop}, (∀ e ts h, Q e ts h → Q' e ts h) → ∀ ts h, wpA P lo A Q ts h → wpA P lo A Q' ts h
  | .skip, _, _, hq, ts, h, w => hq _ _ _ w
  | .ret, _, _, hq, ts, h, w => hq _ _ _ w
  | .exit _, _, _, hq, ts, h, w => hq _ _ _ w
  | .seq a b, Q, Q', hq, ts, h, w => wpA_mono a (Q := thenQ (wpA P lo b Q) Q) (fun e ts h x => by cases e <;> first | exact wpA_mono b hq _ _ x | exact hq _ _ _ x) ts h w
  | .cond c a b, Q, Q', hq, ts, h, w => by
    obtain ⟨t, e, w⟩ := w
    refine ⟨t, e, ?_⟩
    split
    · rename_i ht; rw [if_pos ht] at w; exact wpA_mono a hq _ _ w
    · rename_i ht; rw [if_neg ht] at w; exact wpA_mono b hq _ _ w
  | .block id c, Q, Q', hq, ts, h, w => wpA_mono c (Q := blockQ id Q) (fun e ts h x => by
      cases e <;> first | exact hq _ _ _ x | skip
      simp only [blockQ] at x ⊢
      split
      · rename_i ht; rw [if_pos ht] at x; exact hq _ _ _ x
      · rename_i ht; rw [if_neg ht] at x; exact hq _ _ _ x) ts h w
  | .loop c, Q, Q', hq, ts, h, w => by
    obtain ⟨k, w⟩ := w
    exact ⟨k, iter_mono (fun K K' hK ts h x => wpA_mono c (Q := thenQ K Q) (fun e ts h y => by cases e <;> first | exact hK _ _ y | exact hq _ _ _ y) ts h x) k ts h w⟩
  | .reg ops, Q, Q', hq, ts, h, w => run_mono (hq .normal) w
  | .dreg ops ap, Q, Q', hq, ts, h, w => run_mono (K := fun ts' h' => Apart ap ts' ∧ Q .normal ts' h') (fun ts h x => ⟨x.1, hq _ _ _ x.2⟩) w
  | .range f ps n asg body x y, Q, Q', hq, ts, h, w => by
    obtain ⟨g, first, capt, e, v, h', a, L, hL, hs, w⟩ := w
    exact ⟨g, first, capt, e, v, h', a, L, hL, hs, hq _ _ _ w⟩

theorem wpC_out {P : Program} {lo : Nat} : ∀ (A : ACode) {Q : Exit → Ts → H → Prop} {ts : Ts} {h : H}, wpC P lo A Q ts h → wpA P lo A Q ts h
  | .skip, _, _, _, w => w
  | .ret, _, _, _, w => w
  | .exit _, _, _, _, w => w
  | .seq a b, Q, ts, h, w => by
    have := wpC_out a w
    rw [thenC_eq] at this
    exact wpA_mono a (fun e ts h x => by cases e <;> first | exact wpC_out b x | exact x) ts h this
  | .cond c a b, Q, ts, h, w => by
    rcases boolC_out w with ⟨e, w⟩ | ⟨e, w⟩
    · exact ⟨true, e, by simpa using wpC_out a w⟩
    · exact ⟨false, e, by simpa using wpC_out b w⟩
  | .block id c, Q, ts, h, w => wpA_mono c (fun e ts h x => blockC_out x) ts h (wpC_out c w)
  | .reg ops, Q, ts, h, w => by
    obtain ⟨e, e', w⟩ := w
    subst e e'
    exact runC_out w
  | .dreg ops ap, Q, ts, h, w => by
    obtain ⟨e, e', w⟩ := w
    subst e e'
    exact run_mono (fun ts h x => apC_out x) (runC_out w)
  | .loop c, Q, ts, h, w => w.h
  | .range f ps n asg body x y, Q, ts, h, w => w.h
theorem wpC.to {P : Program} {lo : Nat} {A : ACode} {Q : Exit → Ts → H → Prop} {ts : Ts} {h : H} (w : wpC P lo A Q ts h) : wpA P lo A Q ts h := wpC_out A w

/-! ### calls, by contract -/

section
variable {P : Program} {fn lo nb : Nat} {q : Bool} {h : H} {fv : Value} {args as : List Value} {k : Value → H → Prop}
/-- A call that turns nothing that was there. -/
theorem q_call {R : Value → H → Prop} (en : h.next = nb) (hlo : lo ≤ nb) (hc : AW P fn h.next h as R) (hr : ∀ v h', R v h' → Quiet nb h h' → nb ≤ h'.next → k v h') : CallF P fn lo q h fv args as k := by
  obtain ⟨v, h', r, a⟩ := hc
  subst en
  have hq := a.quiet
  exact .mk (a.mono (by split <;> omega)) (hr v h' r hq hq.next)
theorem q_callv {X : Value} (en : h.next = nb) (hlo : lo ≤ nb) (hc : AW P fn h.next h as (fun v _ => v = X)) (hr : ∀ h', Quiet nb h h' → nb ≤ h'.next → k X h') : CallF P fn lo q h fv args as k :=
  q_call en hlo hc fun _ h' e hq hn => by subst e; exact hr h' hq hn
theorem q_callB {b : Bool} (en : h.next = nb) (hlo : lo ≤ nb) (hc : AW P fn h.next h as (fun v _ => v = .bool b)) (ht : b = true → ∀ h', Quiet nb h h' → nb ≤ h'.next → k (.bool true) h') (hf : b = false → ∀ h', Quiet nb h h' → nb ≤ h'.next → k (.bool false) h') : CallF P fn lo q h fv args as k :=
  q_callv en hlo hc fun h' hq hn => by
    cases hb : b
    · exact hf hb h' hq hn
    · exact ht hb h' hq hn
theorem q_calli {p : Prop} {X Y : Value} {inst : Decidable p} (en : h.next = nb) (hlo : lo ≤ nb) (hc : AW P fn h.next h as (fun v _ => v = if p then X else Y)) (ht : p → ∀ h', Quiet nb h h' → nb ≤ h'.next → k X h') (hf : ¬ p → ∀ h', Quiet nb h h' → nb ≤ h'.next → k Y h') : CallF P fn lo q h fv args as k :=
  q_callv en hlo hc fun h' hq hn => by
    by_cases hp : p
    · simp only [hp, if_true]; exact ht hp h' hq hn
    · simp only [hp, if_false]; exact hf hp h' hq hn
theorem q_allB {b : Bool} (ht : b = true → ∀ h', Quiet nb h h' → nb ≤ h'.next → k (.bool true) h') (hf : b = false → ∀ h', Quiet nb h h' → nb ≤ h'.next → k (.bool false) h') : ∀ v h', v = .bool b → Quiet nb h h' → nb ≤ h'.next → k v h' := by
  rintro _ h' rfl hq hn
  cases hb : b
  · exact hf hb h' hq hn
  · exact ht hb h' hq hn
theorem q_alli {p : Prop} {X Y : Value} {inst : Decidable p} (ht : p → ∀ h', Quiet nb h h' → nb ≤ h'.next → k X h') (hf : ¬ p → ∀ h', Quiet nb h h' → nb ≤ h'.next → k Y h') : ∀ v h', v = (if p then X else Y) → Quiet nb h h' → nb ≤ h'.next → k v h' := by
  rintro _ h' rfl hq hn
  by_cases hp : p
  · simp only [hp, if_true]; exact ht hp h' hq hn
  · simp only [hp, if_false]; exact hf hp h' hq hn
theorem q_allv {X : Value} (hr : ∀ h', Quiet nb h h' → nb ≤ h'.next → k X h') : ∀ v h', v = X → Quiet nb h h' → nb ≤ h'.next → k v h' := by
  rintro _ h' rfl hq hn
  exact hr h' hq hn
/-- A call of a function value, outside of a drawn region. -/
theorem q_calla {R : Value → H → Prop} (hc : ∃ v h', R v h' ∧ ACall P fv lo h args v h') (hr : ∀ v h', R v h' → Quiet lo h h' → k v h') : CallV P fv lo false h args k := by
  obtain ⟨v, h', r, a⟩ := hc
  exact .mk a (hr v h' r a.quiet)
/-- A call of a function of the program, outside of a drawn region: it may turn rows from lo on. -/
theorem q_callw {R : Value → H → Prop} (hc : AW P fn lo h as R) (hr : ∀ v h', R v h' → Quiet lo h h' → k v h') : CallF P fn lo false h fv args as k := by
  obtain ⟨v, h', r, a⟩ := hc
  exact .mk a (hr v h' r a.quiet)
end
theorem ne_add {a i j : Nat} (e : Nat.beq i j = false) : a + i ≠ a + j := fun h => by
  have := Nat.add_left_cancel h
  subst this
  simp at e
theorem ne_add0 {a j : Nat} (e : Nat.beq 0 j = false) : a ≠ a + j := fun h => by
  have : 0 = j := by omega
  subst this
  simp at e
theorem ne_0add {a j : Nat} (e : Nat.beq 0 j = false) : a + j ≠ a := fun h => ne_add0 e h.symm
theorem ne_far {a b i n j : Nat} (h : a + n ≤ b) (e : Nat.ble (i + 1) n = true) : a + i ≠ b + j := by
  have := Nat.le_of_ble_eq_true e
  omega
theorem ne_far0 {a b n j : Nat} (h : a + n ≤ b) (e : Nat.ble 1 n = true) : a ≠ b + j := by
  have := Nat.le_of_ble_eq_true e
  omega
theorem OpE.val {P : Program} {lo nid : Nat} {ts : Ts} {h : H} {ao : AOp} {k : Value → H → Prop} {v0 v : Value} (ha : aop P lo nid ts h ao = some (v0, h)) (hv : v0 = v) (hk : k v h) : OpE P lo nid ts h ao k := by
  subst hv; exact .mk ha hk
theorem OpE.pure {P : Program} {lo nid : Nat} {ts : Ts} {h : H} {k : Value → H → Prop} {o : Oper} (v : Value) (ha : xPure P ts o = some v) (hk : k v h) : OpE P lo nid ts h (.pure o) k :=
  .mk (v := v) (h' := h) (by simp [aop, keep, ha]) hk
theorem Ix.nat {b : Option Addr} {n m : Nat} {k : Addr → Nat → Prop} {a : Addr} (hb : b = some a) (hm : m < n) (hk : k a m) : Ix b n (m : Int) k := .mk hb rfl hm hk
theorem Ix.natp {b : Option Addr} {n m : Nat} {k : Addr → Nat → Prop} {a : Addr} (hb : 0 < n → b = some a) (hm : m < n) (hk : k a m) : Ix b n (m : Int) k := .mk (hb (by omega)) rfl hm hk
theorem Ix.int {b : Option Addr} {n : Nat} {z : Int} {k : Addr → Nat → Prop} {a : Addr} (hb : b = some a) (h0 : 0 ≤ z) (hm : z < n) (hk : k a z.toNat) : Ix b n z k := .mk hb (by omega) (by omega) hk
theorem Ix.intp {b : Option Addr} {n : Nat} {z : Int} {k : Addr → Nat → Prop} {a : Addr} (hb : 0 < n → b = some a) (h0 : 0 ≤ z) (hm : z < n) (hk : k a z.toNat) : Ix b n z k := .mk (hb (by omega)) (by omega) (by omega) hk
theorem Ix.lit {b : Option Addr} {n m : Nat} {z : Int} {k : Addr → Nat → Prop} {a : Addr} (e : z.toNat = m) (hb : 0 < n → b = some a) (h0 : 0 ≤ z) (hm : z < n) (hk : k a m) : Ix b n z k := .mk (hb (by omega)) (by omega) (by omega) hk
theorem Ix.pred {b : Option Addr} {n m : Nat} {k : Addr → Nat → Prop} {a : Addr} (hb : 0 < n → b = some a) (h0 : 1 ≤ m) (hm : m ≤ n) (hk : k a (m - 1)) : Ix b n ((m : Int) - 1) k := .mk (hb (by omega)) (by omega) (by omega) hk
theorem IxA.lit {n m : Nat} {z : Int} {k : Nat → Prop} (e : z.toNat = m) (h0 : 0 ≤ z) (hm : z < n) (hk : k m) : IxA n z k := .mk (by omega) (by omega) hk
theorem IxA.nat {n m : Nat} {k : Nat → Prop} (hm : m < n) (hk : k m) : IxA n (m : Int) k := .mk rfl hm hk
theorem IxA.int {n : Nat} {z : Int} {k : Nat → Prop} (h0 : 0 ≤ z) (hm : z < n) (hk : k z.toNat) : IxA n z k := .mk (by omega) (by omega) hk
end AE
