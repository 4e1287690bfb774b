/- The evaluator and its laws: AEBase, AETabs, AEDefs, AELocal, AERead, AEComp, AELight, AELight2, AELight3, AERel, AEHeap, AEStore. No program in sight. -/
import Derived.WalkKit
import Derived.Orders
import Derived.Laws.CopyRow
set_option linter.unusedVariables false
set_option linter.unusedSimpArgs false
set_option linter.unusedSectionVars false

/- The abstract heap, and what it means that it lies in a world: rows are renamed into blocks. Plain definitions and lemmas; no program in sight. -/
namespace AE
open Go


structure Inj where
 at_ : Nat → Option Nat → Option (Nat × Nat)
 cap : Nat → Nat → Nat
 base : Nat

def Inj.blk (I : Inj) (r : Nat) : Nat := match I.at_ r none with | some p => p.1 | none => 0
def Inj.dom (I : Inj) (r : Nat) : Prop := ∃ s p, I.at_ r s = some p

def renA (I : Inj) (a : Addr) : Option Addr := match I.at_ a.block a.spot with | some p => some ⟨p.1, p.2 + a.off, none⟩ | none => none
def renCap (I : Inj) (a : Addr) (c : Nat) : Nat := match a.spot with | none => c | some g => if c % 2 = 1 then c / 2 else I.cap a.block g - c / 2
def renFn (I : Inj) : Fn → Fn
 | .yield l => .yield (I.blk l)
 | f => f

def far : Nat := 2 ^ 70
def tailC (D o : Nat) : Nat := far + 1 + (D * 4294967296 + o)
def farA (I : Inj) (a : Addr) (c : Nat) : Addr := if c = far then a else match a.spot with
 | none => a
 | some g => if I.cap a.block g = (c - far - 1) / 4294967296 then (renA I a).getD a else ((renA I a).getD a).add ((c - far - 1) % 4294967296)
def farC (I : Inj) (a : Addr) (c : Nat) : Nat := if c = far then 0 else match a.spot with
 | none => 0
 | some g => I.cap a.block g - (c - far - 1) / 4294967296
mutual
def ren (I : Inj) : Value → Value
 | .pointer (some a) => .pointer (renA I a)
 | .slice (some a) n c => if far ≤ c then .slice (some (farA I a c)) n (farC I a c) else .slice (renA I a) n (renCap I a c)
 | .map (some r) => .map (some (I.blk r))
 | .func fn ⟨f⟩ ⟨c⟩ => .func (renFn I fn) ⟨renL I f⟩ ⟨renL I c⟩
 | .iface t v => .iface t (ren I v)
 | .agg ⟨cs⟩ => .agg ⟨renL I cs⟩
 | .tuple ⟨vs⟩ => .tuple ⟨renL I vs⟩
 | v => v
def renL (I : Inj) : List Value → List Value
 | [] => []
 | v :: vs => ren I v :: renL I vs
end

def InA (I : Inj) (a : Addr) : Prop := ∃ p, I.at_ a.block a.spot = some p
def InCap (I : Inj) (a : Addr) (n c : Nat) : Prop := match a.spot with | none => n ≤ c | some g => if c % 2 = 1 then n ≤ c / 2 else c / 2 + n ≤ I.cap a.block g
def InR (I : Inj) (r : Nat) : Prop := ∃ b, I.at_ r none = some (b, 0)
def InFn (I : Inj) : Fn → Prop
 | .yield l => InR I l
 | _ => True

mutual
def In (I : Inj) : Value → Prop
 | .pointer (some a) => InA I a
 | .slice (some a) n c => if far ≤ c then n = 0 ∧ (c = far ∨ InA I a) else InA I a ∧ InCap I a n c
 | .slice none n c => n = 0 ∧ c = 0
 | .map (some r) => InR I r
 | .chan (some _) => False
 | .func fn ⟨f⟩ ⟨c⟩ => InFn I fn ∧ InL I f ∧ InL I c
 | .iface _ v => In I v
 | .agg ⟨cs⟩ => InL I cs
 | .tuple ⟨vs⟩ => InL I vs
 | _ => True
def InL (I : Inj) : List Value → Prop
 | [] => True
 | v :: vs => In I v ∧ InL I vs
end

theorem ren_sl {I : Inj} {a : Addr} {n c : Nat} (h : c < far) : ren I (.slice (some a) n c) = .slice (renA I a) n (renCap I a c) := by
 simp only [ren]; rw [if_neg (Nat.not_le.2 h)]
theorem In_sl {I : Inj} {a : Addr} {n c : Nat} (h : c < far) : In I (.slice (some a) n c) ↔ (InA I a ∧ InCap I a n c) := by
 simp only [In]; rw [if_neg (Nat.not_le.2 h)]
theorem ren_far {I : Inj} {a : Addr} {n c : Nat} (h : far ≤ c) : ren I (.slice (some a) n c) = .slice (some (farA I a c)) n (farC I a c) := by
 simp only [ren]; rw [if_pos h]
theorem In_far {I : Inj} {a : Addr} {n c : Nat} (h : far ≤ c) : In I (.slice (some a) n c) ↔ (n = 0 ∧ (c = far ∨ InA I a)) := by
 simp only [In]; rw [if_pos h]
theorem farA_far (I : Inj) (a : Addr) : farA I a far = a := if_pos rfl
theorem farC_far (I : Inj) (a : Addr) : farC I a far = 0 := if_pos rfl
theorem renL_map (I : Inj) : ∀ l : List Value, renL I l = l.map (ren I)
 | [] => by simp [renL]
 | v :: vs => by simp [renL, renL_map I vs]
theorem InL_iff (I : Inj) : ∀ l : List Value, InL I l ↔ ∀ v ∈ l, In I v
 | [] => by simp [InL]
 | v :: vs => by simp [InL, InL_iff I vs]
@[simp] theorem renL_length (I : Inj) (l : List Value) : (renL I l).length = l.length := by simp [renL_map]
theorem renL_getElem? (I : Inj) (l : List Value) (i : Nat) : (renL I l)[i]? = (l[i]?).map (ren I) := by simp [renL_map]
theorem InL_get {I : Inj} {l : List Value} (h : InL I l) {i : Nat} {v : Value} (hi : l[i]? = some v) : In I v :=
 (InL_iff I l).1 h v (List.mem_of_getElem? hi)
theorem InL_append {I : Inj} {a b : List Value} : InL I (a ++ b) ↔ InL I a ∧ InL I b := by
 simp only [InL_iff, List.mem_append]
 constructor
 ·intro h; exact ⟨fun v hv => h v (.inl hv), fun v hv => h v (.inr hv)⟩
 ·rintro ⟨h, k⟩ v (hv | hv)
  ·exact h v hv
  ·exact k v hv
theorem renL_append (I : Inj) (a b : List Value) : renL I (a ++ b) = renL I a ++ renL I b := by simp [renL_map]


structure Le (I J : Inj) : Prop where
 at_ : ∀ r s p, I.at_ r s = some p → J.at_ r s = some p
 cap : ∀ r g p, I.at_ r (some g) = some p → J.cap r g = I.cap r g
 base : J.base = I.base

theorem Le.refl (I : Inj) : Le I I := ⟨fun _ _ _ h => h, fun _ _ _ _ => rfl, rfl⟩
theorem Le.trans {I J K : Inj} (h : Le I J) (k : Le J K) : Le I K :=
 ⟨fun r s p e => k.at_ r s p (h.at_ r s p e), fun r g p e => (k.cap r g p (h.at_ r _ p e)).trans (h.cap r g p e), k.base.trans h.base⟩
theorem Le.dom {I J : Inj} (h : Le I J) {r : Nat} : I.dom r → J.dom r := fun ⟨s, p, e⟩ => ⟨s, p, h.at_ r s p e⟩
theorem Le.blk {I J : Inj} (h : Le I J) {r : Nat} (hr : InR I r) : J.blk r = I.blk r := by
 obtain ⟨b, hb⟩ := hr
 simp [Inj.blk, hb, h.at_ _ _ _ hb]
theorem Le.inR {I J : Inj} (h : Le I J) {r : Nat} : InR I r → InR J r := fun ⟨b, hb⟩ => ⟨b, h.at_ _ _ _ hb⟩
theorem Le.renA {I J : Inj} (h : Le I J) {a : Addr} (ha : InA I a) : renA J a = renA I a := by
 obtain ⟨p, hp⟩ := ha
 simp [AE.renA, hp, h.at_ _ _ _ hp]
theorem Le.inA {I J : Inj} (h : Le I J) {a : Addr} : InA I a → InA J a := fun ⟨p, hp⟩ => ⟨p, h.at_ _ _ _ hp⟩
theorem Le.renCap {I J : Inj} (h : Le I J) {a : Addr} {c : Nat} (ha : InA I a) : renCap J a c = renCap I a c := by
 obtain ⟨p, hp⟩ := ha
 unfold AE.renCap
 cases hs : a.spot with
 | none => rfl
 | some g => rw [hs] at hp; simp [h.cap _ _ _ hp]
theorem Le.inCap {I J : Inj} (h : Le I J) {a : Addr} {n c : Nat} (ha : InA I a) (hc : InCap I a n c) : InCap J a n c := by
 obtain ⟨p, hp⟩ := ha
 unfold InCap at *
 cases hs : a.spot with
 | none => rw [hs] at hc; exact hc
 | some g => rw [hs] at hp hc; simp only [h.cap _ _ _ hp] at *; exact hc
theorem Le.renFn {I J : Inj} (h : Le I J) {f : Fn} (hf : InFn I f) : renFn J f = renFn I f := by
 cases f <;> simp only [AE.renFn]
 rw [h.blk hf]
theorem Le.inFn {I J : Inj} (h : Le I J) {f : Fn} (hf : InFn I f) : InFn J f := by
 cases f <;> simp only [InFn] at *
 exact h.inR hf

mutual
theorem Le.ren {I J : Inj} (h : Le I J) : ∀ v : Value, In I v → ren J v = ren I v ∧ In J v
 | .pointer (some a), hv => by simp only [In, AE.ren] at *; exact ⟨by rw [h.renA hv], h.inA hv⟩
 | .pointer none, _ => by simp [In, AE.ren]
 | .slice (some a) n c, hv => by
   rcases Nat.lt_or_ge c far with hc | hc
   ·rw [In_sl hc] at hv
    rw [ren_sl hc, ren_sl hc, In_sl hc]
    exact ⟨by rw [h.renA hv.1, h.renCap hv.1], h.inA hv.1, h.inCap hv.1 hv.2⟩
   ·rw [In_far hc] at hv
    rw [ren_far hc, ren_far hc, In_far hc]
    obtain ⟨h0, hv⟩ := hv
    rcases hv with rfl | hv
    ·rw [farA_far, farA_far, farC_far, farC_far]
     exact ⟨rfl, h0, .inl rfl⟩
    ·refine ⟨?_, h0, .inr (h.inA hv)⟩
     have e1 := h.renA hv
     unfold farA farC
     rw [e1]
     cases hs : a.spot with
     | none => rfl
     | some g =>
       obtain ⟨p, hp⟩ := hv
       rw [hs] at hp
       dsimp only
       rw [h.cap _ _ _ hp]
 | .slice none n c, hv => by simp only [In] at hv; obtain ⟨rfl, rfl⟩ := hv; simp [In, AE.ren]
 | .map (some r), hv => by simp only [In, AE.ren] at *; exact ⟨by rw [h.blk hv], h.inR hv⟩
 | .map none, _ => by simp [In, AE.ren]
 | .chan (some _), hv => by simp [In] at hv
 | .chan none, _ => by simp [In, AE.ren]
 | .func fn ⟨f⟩ ⟨c⟩, hv => by
   simp only [In, AE.ren] at *
   obtain ⟨e1, i1⟩ := Le.renL h f hv.2.1
   obtain ⟨e2, i2⟩ := Le.renL h c hv.2.2
   exact ⟨by rw [h.renFn hv.1, e1, e2], h.inFn hv.1, i1, i2⟩
 | .iface t v, hv => by
   simp only [In, AE.ren] at *
   obtain ⟨e, i⟩ := Le.ren h v hv
   exact ⟨by rw [e], i⟩
 | .agg ⟨cs⟩, hv => by
   simp only [In, AE.ren] at *
   obtain ⟨e, i⟩ := Le.renL h cs hv
   exact ⟨by rw [e], i⟩
 | .tuple ⟨vs⟩, hv => by
   simp only [In, AE.ren] at *
   obtain ⟨e, i⟩ := Le.renL h vs hv
   exact ⟨by rw [e], i⟩
 | .bool _, _ => by simp [In, AE.ren]
 | .int _ _, _ => by simp [In, AE.ren]
 | .float _ _, _ => by simp [In, AE.ren]
 | .complex _ _ _, _ => by simp [In, AE.ren]
 | .string _, _ => by simp [In, AE.ren]
 | .nilFunc, _ => by simp [In, AE.ren]
 | .nilIface, _ => by simp [In, AE.ren]
theorem Le.renL {I J : Inj} (h : Le I J) : ∀ l : List Value, InL I l → renL J l = renL I l ∧ InL J l
 | [], _ => by simp [AE.renL, InL]
 | v :: vs, hv => by
   simp only [InL, AE.renL] at *
   obtain ⟨e1, i1⟩ := Le.ren h v hv.1
   obtain ⟨e2, i2⟩ := Le.renL h vs hv.2
   exact ⟨by rw [e1, e2], i1, i2⟩
end


def fnFlat : Fn → Bool
 | .yield _ => false
 | _ => true
mutual
def flat : Value → Bool
 | .bool _ | .int _ _ | .float _ _ | .complex _ _ _ | .string _ | .nilFunc | .nilIface => true
 | .pointer a => a.isNone
 | .slice a n c => a.isNone && n == 0 && c == 0
 | .map r => r.isNone
 | .chan r => r.isNone
 | .func fn ⟨f⟩ ⟨c⟩ => fnFlat fn && flatL f && flatL c
 | .iface _ v => flat v
 | .agg ⟨cs⟩ => flatL cs
 | .tuple ⟨vs⟩ => flatL vs
def flatL : List Value → Bool
 | [] => true
 | v :: vs => flat v && flatL vs
end

mutual
theorem flat_ren (I : Inj) : ∀ v : Value, flat v = true → ren I v = v ∧ In I v
 | .pointer (some a), h => by simp [flat] at h
 | .pointer none, _ => by simp [In, ren]
 | .slice (some a) n c, h => by simp [flat] at h
 | .slice none n c, h => by simp [flat] at h; simp [In, ren, h]
 | .map (some r), h => by simp [flat] at h
 | .map none, _ => by simp [In, ren]
 | .chan (some _), h => by simp [flat] at h
 | .chan none, _ => by simp [In, ren]
 | .func fn ⟨f⟩ ⟨c⟩, h => by
   simp only [flat, Bool.and_eq_true] at h
   obtain ⟨e1, i1⟩ := flat_renL I f h.1.2
   obtain ⟨e2, i2⟩ := flat_renL I c h.2
   have hf : renFn I fn = fn ∧ InFn I fn := by cases fn <;> simp_all [fnFlat, renFn, InFn]
   simp only [ren, In]
   exact ⟨by rw [hf.1, e1, e2], hf.2, i1, i2⟩
 | .iface t v, h => by
   simp only [flat] at h
   obtain ⟨e, i⟩ := flat_ren I v h
   simp only [ren, In]; exact ⟨by rw [e], i⟩
 | .agg ⟨cs⟩, h => by
   simp only [flat] at h
   obtain ⟨e, i⟩ := flat_renL I cs h
   simp only [ren, In]; exact ⟨by rw [e], i⟩
 | .tuple ⟨vs⟩, h => by
   simp only [flat] at h
   obtain ⟨e, i⟩ := flat_renL I vs h
   simp only [ren, In]; exact ⟨by rw [e], i⟩
 | .bool _, _ => by simp [In, ren]
 | .int _ _, _ => by simp [In, ren]
 | .float _ _, _ => by simp [In, ren]
 | .complex _ _ _, _ => by simp [In, ren]
 | .string _, _ => by simp [In, ren]
 | .nilFunc, _ => by simp [In, ren]
 | .nilIface, _ => by simp [In, ren]
theorem flat_renL (I : Inj) : ∀ l : List Value, flatL l = true → renL I l = l ∧ InL I l
 | [], _ => by simp [renL, InL]
 | v :: vs, h => by
   simp only [flatL, Bool.and_eq_true] at h
   obtain ⟨e1, i1⟩ := flat_ren I v h.1
   obtain ⟨e2, i2⟩ := flat_renL I vs h.2
   simp only [renL, InL]; exact ⟨by rw [e1, e2], i1, i2⟩
end


def cellsL : Value → List Value
 | .agg ⟨cs⟩ => cs
 | v => [v]
theorem cells_eq (v : Value) : v.cells = ⟨cellsL v⟩ := by cases v <;> rfl
theorem ren_agg (I : Inj) (cs : List Value) : ren I (.agg ⟨cs⟩) = .agg ⟨renL I cs⟩ := by simp [ren]
theorem cellsL_ren (I : Inj) (v : Value) : cellsL (ren I v) = renL I (cellsL v) := by
 match v with
 | .agg ⟨cs⟩ => simp [ren, cellsL]
 | .pointer (some a) => simp [ren, cellsL, renL]
 | .pointer none => simp [ren, cellsL, renL]
 | .slice (some a) n c => rcases Nat.lt_or_ge c far with hc | hc <;> simp [ren_sl, ren_far, hc, cellsL, renL]
 | .slice none n c => simp [ren, cellsL, renL]
 | .map (some r) => simp [ren, cellsL, renL]
 | .map none => simp [ren, cellsL, renL]
 | .chan _ => simp [ren, cellsL, renL]
 | .func fn ⟨f⟩ ⟨c⟩ => simp [ren, cellsL, renL]
 | .iface t v => simp [ren, cellsL, renL]
 | .tuple ⟨vs⟩ => simp [ren, cellsL, renL]
 | .bool _ => simp [ren, cellsL, renL]
 | .int _ _ => simp [ren, cellsL, renL]
 | .float _ _ => simp [ren, cellsL, renL]
 | .complex _ _ _ => simp [ren, cellsL, renL]
 | .string _ => simp [ren, cellsL, renL]
 | .nilFunc => simp [ren, cellsL, renL]
 | .nilIface => simp [ren, cellsL, renL]
theorem InL_cellsL {I : Inj} {v : Value} (h : In I v) : InL I (cellsL v) := by
 match v with
 | .agg ⟨cs⟩ => simpa [In, cellsL] using h
 | .pointer (some a) => simpa [cellsL, InL] using h
 | .pointer none => simp [cellsL, InL, In]
 | .slice (some a) n c => simpa [cellsL, InL] using h
 | .slice none n c => simpa [cellsL, InL] using h
 | .map (some r) => simpa [cellsL, InL] using h
 | .map none => simp [cellsL, InL, In]
 | .chan (some _) => simp [In] at h
 | .chan none => simp [cellsL, InL, In]
 | .func fn ⟨f⟩ ⟨c⟩ => simpa [cellsL, InL] using h
 | .iface t v => simpa [cellsL, InL] using h
 | .tuple ⟨vs⟩ => simpa [cellsL, InL] using h
 | .bool _ => simp [cellsL, InL, In]
 | .int _ _ => simp [cellsL, InL, In]
 | .float _ _ => simp [cellsL, InL, In]
 | .complex _ _ _ => simp [cellsL, InL, In]
 | .string _ => simp [cellsL, InL, In]
 | .nilFunc => simp [cellsL, InL, In]
 | .nilIface => simp [cellsL, InL, In]

end AE

/- The tables of the library's that the walk reads: the number of the variable, its cells. (None here; for the clerk's seat: tools/AETabs.clerk.lean.) -/
namespace AE
open Go
def theTabs : List (Nat × List Value) := []
end AE

/- The code of the abstract evaluator, its heap, and its single operations. Definitions alone. -/
namespace AE
open Go


inductive Opd where
 | t (n : Nat)
 | c (v : Value)
 | m (n : Nat) (nm : String)

inductive IOp where
 | add | sub | mul | eql | neq | lss | leq | gtr | geq

inductive AOp where
 | mv (x : Opd)
 | pick (c a b : Opd)
 | alloc (z : List Value) (e : TypeId)
 | box (x : Opd) (e : TypeId)
 | build (z : List Value) (parts : List (Nat × Nat × Opd))
 | bslice (z : List Value) (parts : List (Nat × Nat × Opd)) (len : Nat) (e : TypeId)
 | load1 (a : Opd)
 | loadn (n : Nat) (a : Opd)
 | store (n : Nat) (a x : Opd)
 | nilck (x : Opd)
 | int (op : IOp) (x y : Opd)
 | idiv (q : Bool) (x y : Opd)
 | not (x : Opd)
 | neg (x : Opd)
 | conv (k : IntKind) (x : Opd)
 | mnmx (mx : Bool) (x y : Opd)
 | pure (o : Oper)
 | cmp (sl : Option Bool) (ne : Bool) (x y : Opd) (o : Oper)
 | mkif (t : TypeId) (x : Opd)
 | mkfn (fn : Fn) (first captured : List Opd)
 | mkmap
 | mkslice (z : List Value) (bytes : Nat) (e : TypeId) (l c : Opd)
 | slarr (n sz : Nat) (x : Opd) (lo hi mx : Option Opd)
 | slsl (sz : Nat) (x : Opd) (lo hi mx : Option Opd)
 | faddr (off : Nat) (x : Opd)
 | field1 (off : Nat) (x : Opd)
 | fieldn (off n : Nat) (x : Opd)
 | ixarr (n sz : Nat) (x i : Opd)
 | ixsl (sz : Nat) (x i : Opd)
 | ixv1 (n : Nat) (x i : Opd)
 | ixvn (n sz : Nat) (x i : Opd)
 | extract (x : Opd) (i : Nat)
 | tass (t : TypeId) (z : Value) (ok : Bool) (x : Opd)
 | tiface (t : TypeId) (x : Opd)
 | lookup (kt : TypeId) (z : Value) (ok : Bool) (m k : Opd)
 | mapup (kt : TypeId) (m k v : Opd)
 | len (x : Opd)
 | lenstr (x : Opd)
 | lenmap (x : Opd)
 | b2s (x : Opd)
 | cap (x : Opd)
 | append (e : TypeId) (sz bytes : Nat) (s x : Opd)
 | copy (sz : Nat) (d s : Opd)
 | clr (z : List Value) (x : Opd)
 | dead
 | delete (kt : TypeId) (m k : Opd)
 | mrange (m : Opd)
 | srange (x : Opd)
 | snext (x : Opd)
 | entry (x : Opd)
 | mapent (kt : TypeId) (z : Value) (m k : Opd)
 | entst (m s v : Opd)

inductive AIns where
 | op (o : AOp)
 | call (f : Opd) (args : List Opd)

structure AOper where
 dst : Option Nat
 guard : Option (Nat × Bool)
 ins : AIns

inductive ACode where
 | skip
 | ret
 | exit (id : Nat)
 | seq (a b : ACode)
 | cond (c : Opd) (a b : ACode)
 | block (id : Nat) (c : ACode)
 | loop (c : ACode)
 | reg (ops : List AOper)
 | dreg (ops : List AOper) (apart : List (Opd × Opd))
 | range (f : Opd) (params : List Nat) (n : Nat) (asg body : Code) (casg cbody : ACode)
 | next (x : Opd) (a b : Nat)

inductive Pend where
 | none | ret | exit (id : Nat)

abbrev Ts := Nat → Value
def setV (ts : Ts) (i : Nat) (v : Value) : Ts := fun j => if j = i then v else ts j

structure ALoop where
 state : LoopState
 pend : Pend
 size : Nat
 tmps : Ts
 params : List Nat
 asg : Code
 body : Code

inductive ARow where
 | cells (c : List Value) (e : TypeId)
 | ro (c : List Value)
 | grow (c : List Value) (e : TypeId) (sz : Nat) (lens : List Nat) (valid : Nat)
 | map (es : List MapEntry) (clock : Nat)
 | iter (m since : Nat) (seen : List Nat) (last : Nat)
 | siter (s : ByteArray) (pos : Nat)
 | loop (l : ALoop)
 | defers
 | gone

structure H where
 get : Nat → Option ARow
 next : Nat

def H.put (h : H) (r : Nat) (x : ARow) : H := ⟨fun j => if j = r then some x else h.get j, h.next⟩
def H.empty : H := ⟨fun _ => none, 0⟩

def cut {α : Type} (xs : List α) (off n : Nat) : Option (List α) := if off + n ≤ xs.length then some ((xs.drop off).take n) else none
def splice {α : Type} (xs : List α) (off : Nat) (ys : List α) : List α := xs.take off ++ ys ++ xs.drop (off + ys.length)

def glen (lens : List Nat) (g : Nat) : Nat := (lens[lens.length - 1 - g]?).getD 0

def loadRow (off n : Nat) : ARow → Option Nat → Option (List Value)
 | .cells c _, none => cut c off n
 | .ro c, none => cut c off n
 | .grow c _ _ lens valid, some g => if valid ≤ g ∧ g < lens.length ∧ off + n ≤ glen lens g then cut c off n else none
 | _, _ => none

def H.loadN (h : H) (a : Addr) (n : Nat) : Option (List Value) := (h.get a.block).bind fun row => loadRow a.off n row a.spot

def storeRow (off : Nat) (vs : List Value) : ARow → Option Nat → Option ARow
 | .cells c e, none => if off + vs.length ≤ c.length then some (.cells (splice c off vs) e) else none
 | .grow c e sz lens valid, some g => if valid ≤ g ∧ g + 1 = lens.length ∧ off + vs.length ≤ c.length then some (.grow (splice c off vs) e sz lens g) else none
 | _, _ => none

def H.storeN (h : H) (lo : Nat) (a : Addr) (vs : List Value) : Option H :=
 if lo ≤ a.block ∧ vs.all Value.oneCell' = true then (h.get a.block).bind fun row => (storeRow a.off vs row a.spot).map fun row' => h.put a.block row' else none


def pureRun {α : Type} (P : Program) : Sem α → Option α
 | .pure a => some a
 | .program k => pureRun P (k P)
 | _ => none

def ev (ts : Ts) : Opd → Value
 | .t n => ts n
 | .c v => v
 | .m n nm => .func (.method nm) ⟨[ts n]⟩ ⟨[]⟩

def aadd (a : Addr) (n : Nat) : Addr := ⟨a.block, a.off + n, a.spot⟩

def reps (z : List Value) : Nat → List Value
 | 0 => []
 | n + 1 => z ++ reps z n

def afill (ts : Ts) : List Value → List (Nat × Nat × Opd) → Option (List Value)
 | cells, [] => some cells
 | cells, (off, size, x) :: rest =>
   if (cellsL (ev ts x)).length = size ∧ off + size ≤ cells.length then afill ts (splice cells off (cellsL (ev ts x))) rest else none

abbrev R := Option (Value × H)

def newCells (nid : Nat) (e : TypeId) (c : List Value) (h : H) : R := some (.pointer (some ⟨nid, 0, none⟩), h.put nid (.cells c e))

def xPick (a b : Value) : Value → Option Value
 | .bool t => some (if t then a else b)
 | _ => none
def xLoad1 (h : H) : Value → Option Value
 | .pointer (some a) => (h.loadN a 1).bind (·[0]?)
 | _ => none
def xLoadn (n : Nat) (h : H) : Value → Option Value
 | .pointer (some a) => (h.loadN a n).map fun l => .agg ⟨l⟩
 | _ => none
def xStore (lo n : Nat) (vs : List Value) (h : H) : Value → R
 | .pointer (some a) => if vs.length = n then (h.storeN lo a vs).map fun h' => (undef, h') else none
 | _ => none
def xNilck : Value → Option Value
 | .pointer (some a) => some (.pointer (some a))
 | _ => none

def w64 (n : Int) : Int := IntKind.i64.wrap n
def iop : IOp → Int → Int → Value
 | .add, a, b => .int .i64 (w64 (a + b))
 | .sub, a, b => .int .i64 (w64 (a - b))
 | .mul, a, b => .int .i64 (w64 (a * b))
 | .eql, a, b => .bool (a == b)
 | .neq, a, b => .bool (a != b)
 | .lss, a, b => .bool (a < b)
 | .leq, a, b => .bool (a ≤ b)
 | .gtr, a, b => .bool (a > b)
 | .geq, a, b => .bool (a ≥ b)
def xInt (op : IOp) : Value → Value → Option Value
 | .int .i64 a, .int .i64 b => some (iop op a b)
 | _, _ => none
def xIdiv (q : Bool) : Value → Value → Option Value
 | .int .i64 a, .int .i64 b => if b = 0 then none else some (.int .i64 (if q then w64 (a.tdiv b) else a.tmod b))
 | _, _ => none
def xNot : Value → Option Value
 | .bool b => some (.bool (!b))
 | _ => none
def xNeg : Value → Option Value
 | .int .i64 a => some (.int .i64 (w64 (0 - a)))
 | _ => none
def xConv (k : IntKind) : Value → Option Value
 | .int _ n => some (.int k (k.wrap n))
 | _ => none
def xMnmx (mx : Bool) : Value → Value → Option Value
 | .int .i64 a, .int .i64 b => some (.int .i64 (if mx then (if a < b then b else a) else (if b < a then b else a)))
 | _, _ => none

def pureOut : Option Next → Option Value
 | some (.value v) => if flat v then some v else none
 | _ => none
def evR (ts : Ts) : Operand → Value
 | .tmp t => ts t
 | .const v => v
 | .global _ => undef
 | .func f => .func (.func f) #[] #[]
def xPure (P : Program) (ts : Ts) (o : Oper) : Option Value :=
 if o.op.operands.toList.all (fun x => flat (evR ts x)) then pureOut (pureRun P (execOp (evR ts) o)) else none

def cmpNil (sl : Option Bool) : Value → Value → Option Bool
 | .pointer a, .pointer b => if sl = some false ∧ (a.isNone ∨ b.isNone) then some (a.isNone && b.isNone) else none
 | .slice a _ _, .slice b _ _ => if sl = some true ∧ (a.isNone ∨ b.isNone) then some (a.isNone && b.isNone) else none
 | .map a, .map b => if sl = none ∧ (a.isNone ∨ b.isNone) then some (a.isNone && b.isNone) else none
 | _, _ => none
def ptrSame (P : Program) (sl : Option Bool) (o : Oper) : Value → Value → Bool
 | .pointer (some a), .pointer (some b) => decide (a = b) && (sl == some false) && (match o.op with
   | .binOp _ t _ _ _ => (match P.underlying t with
     | some (.pointer e) => (P.info? e).isSome
     | _ => false)
   | _ => false)
 | _, _ => false
def xCmp (P : Program) (sl : Option Bool) (ne : Bool) (ts : Ts) (x y : Opd) (o : Oper) : Option Value :=
 match cmpNil sl (ev ts x) (ev ts y) with
 | some b => some (.bool (b != ne))
 | none => if ptrSame P sl o (ev ts x) (ev ts y) = true then some (.bool (!ne)) else xPure P ts o

def natOf? : Value → Option Nat
 | .int _ n => if 0 ≤ n then some n.toNat else none
 | _ => none
def optNat (d : Nat) : Option Value → Option Nat
 | none => some d
 | some v => natOf? v

def xMkslice (nid : Nat) (z : List Value) (bytes : Nat) (e : TypeId) (h : H) : Option Nat → Option Nat → R
 | some l, some c => if l ≤ c ∧ (c + 1) * (bytes + 1) ≤ 2 ^ 40 then some (.slice (some ⟨nid, 0, none⟩) l c, h.put nid (.cells (reps z c) e)) else none
 | _, _ => none

def slAddr (a : Addr) (l m sz : Nat) : Addr := if m = l then a else aadd a (l * sz)
def slKnown (enc : Nat → Nat) (c sz : Nat) (a : Addr) : Option Nat → Option Nat → Option Nat → Option Value
 | some l, some hi, some m => if m ≤ c ∧ hi ≤ m ∧ l ≤ hi ∧ enc (m - l) < far then some (.slice (some (slAddr a l m sz)) (hi - l) (enc (m - l))) else none
 | _, _, _ => none
def slOpen (len cap sz : Nat) (a : Addr) : Option Nat → Option Nat → Option Value
 | some l, some hi => if hi ≤ len ∧ l ≤ hi ∧ (l = 0 ∨ l < len) ∧ cap + 2 * l < far then some (.slice (some (aadd a (l * sz))) (hi - l) (cap + 2 * l)) else
   if hi ≤ len ∧ l = hi ∧ l = len ∧ l * sz < 4294967296 then some (.slice (some a) 0 (tailC (cap / 2 + l) (l * sz))) else none
 | _, _ => none
def enc1 (c : Nat) : Nat := c
def enc2 (c : Nat) : Nat := 2 * c + 1
def encAt : Option Nat → Nat → Nat
 | none => enc1
 | some _ => enc2
def slGrow (len cap sz : Nat) (a : Addr) (lo hi mx : Option Value) : Option Value :=
 if cap % 2 = 1 then slKnown enc2 (cap / 2) sz a (optNat 0 lo) (optNat len hi) (optNat (cap / 2) mx)
 else match mx with
  | none => slOpen len cap sz a (optNat 0 lo) (optNat len hi)
  | some m => slKnown enc2 len sz a (optNat 0 lo) (optNat len hi) (natOf? m)
def slNil : Option Nat → Option Nat → Option Nat → Option Value
 | some l, some hi, some m => if l = 0 ∧ hi = 0 ∧ m = 0 then some (.slice none 0 0) else none
 | _, _, _ => none
def slFar (a : Addr) : Option Nat → Option Nat → Option Nat → Option Value
 | some l, some hi, some m => if l = 0 ∧ hi = 0 ∧ m = 0 then some (.slice (some a) 0 far) else none
 | _, _, _ => none
def slsl (sz : Nat) (lo hi mx : Option Value) : Value → Option Value
 | .slice (some a) len cap =>
   if far ≤ cap then (if cap = far then slFar a (optNat 0 lo) (optNat 0 hi) (optNat 0 mx) else none) else
   match a.spot with
   | none => slKnown enc1 cap sz a (optNat 0 lo) (optNat len hi) (optNat cap mx)
   | some _ => slGrow len cap sz a lo hi mx
 | .slice none 0 0 => slNil (optNat 0 lo) (optNat 0 hi) (optNat 0 mx)
 | _ => none
def slarr (n sz : Nat) (lo hi mx : Option Value) : Value → Option Value
 | .pointer (some a) => slKnown (encAt a.spot) n sz a (optNat 0 lo) (optNat n hi) (optNat n mx)
 | _ => none

def xFaddr (off : Nat) : Value → Option Value
 | .pointer (some a) => some (.pointer (some (aadd a off)))
 | _ => none
def xField1 (off : Nat) : Value → Option Value
 | .agg cs => cs.toList[off]?
 | _ => none
def xFieldn (off n : Nat) : Value → Option Value
 | .agg cs => (cut cs.toList off n).map fun l => .agg ⟨l⟩
 | _ => none
def xIxarr (n sz : Nat) (i : Value) : Value → Option Value
 | .pointer (some a) => (natOf? i).bind fun i => if i < n then some (.pointer (some (aadd a (i * sz)))) else none
 | _ => none
def xIxsl (sz : Nat) (i : Value) : Value → Option Value
 | .slice (some a) n _ => (natOf? i).bind fun i => if i < n then some (.pointer (some (aadd a (i * sz)))) else none
 | _ => none
def xIxv1 (n : Nat) (i : Value) : Value → Option Value
 | .agg cs => (natOf? i).bind fun i => if i < n then cs.toList[i]? else none
 | _ => none
def xIxvn (n sz : Nat) (i : Value) : Value → Option Value
 | .agg cs => (natOf? i).bind fun i => if i < n then (cut cs.toList (i * sz) sz).map fun l => .agg ⟨l⟩ else none
 | _ => none
def xExtract (i : Nat) : Value → Option Value
 | .tuple vs => vs.toList[i]?
 | _ => none
def xTass (t : TypeId) (z : Value) (ok : Bool) : Value → Option Value
 | .iface u v => if u = t then some (if ok then .tuple #[v, .bool true] else v) else if ok then some (.tuple #[z, .bool false]) else none
 | .nilIface => if ok then some (.tuple #[z, .bool false]) else none
 | _ => none

def xTiface (P : Program) (t : TypeId) : Value → Option Value
 | .iface u v => match P.underlying t, P.info? u with
   | some (.interface want), some i => if (Instr.missingMethod want i.methods).isNone = true then some (.iface u v) else none
   | _, _ => none
 | _ => none


def bytesL (s : ByteArray) (n : Nat) : List Value := (s.extract 0 n).data.toList.map fun b => Value.int .u8 b.toNat

def acells (h : H) (sz n : Nat) : Value → Option (List Value)
 | .slice (some a) _ c => if far ≤ c then (if n = 0 then some [] else none) else h.loadN a (n * sz)
 | .slice none _ _ => some []
 | .string s => if sz = 1 ∧ n ≤ s.size then some (bytesL s n) else none
 | _ => none
def strL : List Value → ByteArray → Option ByteArray
 | [], s => some s
 | .int .u8 n :: t, s => strL t (s.push (UInt8.ofNat n.toNat))
 | _, _ => none
def xB2s (h : H) : Value → Option Value
 | .slice a n c => (acells h 1 n (.slice a n c)).bind fun l => (strL l .empty).map .string
 | _ => none
def alenOf : Value → Option Nat
 | .slice _ n _ => some n
 | .string s => some s.size
 | _ => none

def small (n bytes : Nat) : Prop := (n + 1) * (bytes + 1) ≤ 2 ^ 40
instance (n bytes : Nat) : Decidable (small n bytes) := by unfold small; infer_instance
def newGrow (nid n : Nat) (e : TypeId) (sz : Nat) (c : List Value) (h : H) : R := some (.slice (some ⟨nid, 0, some 0⟩) n 0, h.put nid (.grow c e sz [c.length] 0))
def apKnown (lo nid : Nat) (e : TypeId) (sz bytes : Nat) (a : Addr) (len cap c n : Nat) (nc : List Value) (h : H) : R :=
 if len + n ≤ c then (h.storeN lo (aadd a (len * sz)) nc).map fun h' => (.slice (some a) (len + n) cap, h')
 else if small (len + n) bytes ∧ small c bytes then (h.loadN a (len * sz)).bind fun oc => newGrow nid (len + n) e sz (oc ++ nc) h else none
def apRow (lo : Nat) (e : TypeId) (sz bytes : Nat) (a : Addr) (g len cap n : Nat) (nc : List Value) (h : H) : ARow → R
 | .grow c e' sz' lens valid =>
   if lo ≤ a.block ∧ valid ≤ g ∧ g + 1 = lens.length ∧ cap = 0 ∧ a.off = 0 ∧ len * sz = c.length ∧ e = e' ∧ sz = sz' ∧ small (len + n) bytes ∧ nc.all Value.oneCell' = true then
    some (.slice (some ⟨a.block, 0, some (g + 1)⟩) (len + n) 0, h.put a.block (.grow (c ++ nc) e sz ((c.length + nc.length) :: lens) valid))
   else if lo ≤ a.block ∧ valid ≤ g ∧ g + 1 = lens.length ∧ cap % 2 = 0 ∧ a.off = cap / 2 * sz ∧ a.off + len * sz = c.length ∧ e = e' ∧ sz = sz' ∧ small (len + n) bytes ∧ nc.all Value.oneCell' = true then
    some (.slice (some ⟨a.block, 0, some (g + 1)⟩) (len + n) 0, h.put a.block (.grow (c.drop a.off ++ nc) e sz ((len * sz + nc.length) :: lens.map fun _ => 0) (g + 1)))
   else none
 | _ => none
def apAddr (lo nid : Nat) (e : TypeId) (sz bytes : Nat) (a : Addr) (len cap n : Nat) (nc : List Value) (h : H) : R :=
 match a.spot with
 | none => apKnown lo nid e sz bytes a len cap cap n nc h
 | some g =>
   if cap % 2 = 1 then apKnown lo nid e sz bytes a len cap (cap / 2) n nc h
   else (h.get a.block).bind fun row => apRow lo e sz bytes a g len cap n nc h row
def xAppend (lo nid : Nat) (e : TypeId) (sz bytes : Nat) (s x : Value) (h : H) : R :=
 (alenOf x).bind fun n =>
 if n = 0 then (match s with | .slice _ _ _ => some (s, h) | _ => none) else
 (acells h sz n x).bind fun nc =>
 match s with
 | .slice (some a) len cap => if far ≤ cap then (if cap = far ∧ len = 0 ∧ small n bytes then newGrow nid n e sz nc h else none) else apAddr lo nid e sz bytes a len cap n nc h
 | .slice none 0 0 => if small n bytes then newGrow nid n e sz nc h else none
 | _ => none

def xCopy (lo sz : Nat) (d s : Value) (h : H) : R :=
 match d with
 | .slice base len cap =>
   if far ≤ cap then none else
   (alenOf s).bind fun k =>
   let n := if k ≤ len then k else len
   (acells h sz n s).bind fun nc =>
   match base with
   | some a => (if n = 0 then some h else h.storeN lo a nc).map fun h' => (.int .i64 n, h')
   | none => some (.int .i64 n, h)
 | _ => none

def xClr (lo : Nat) (z : List Value) (v : Value) (h : H) : R :=
 match v with
 | .slice (some a) n c => if n = 0 then some (.tuple #[], h) else if far ≤ c then none else (h.storeN lo a (reps z n)).map fun h' => (.tuple #[], h')
 | .slice none 0 0 => some (.tuple #[], h)
 | _ => none


def bare (es : List MapEntry) : List MapEntry := es.map fun e => ⟨e.key, undef, e.born⟩
def keysFlat (es : List MapEntry) : Bool := es.all fun e => flat e.key
def afind (P : Program) (empty : Bool) (kt : TypeId) (k : Value) (es : List MapEntry) : Option (Option Nat) :=
 if flat k ∧ keysFlat es ∧ (pureRun P (Instr.checkKey empty 10000 kt k)).isSome then
  (pureRun P (Instr.findKey kt k (bare es))).map fun r => r.map (·.1)
 else none

def luOut (z : Value) (ok : Bool) (es : List MapEntry) : Option Nat → Option Value
 | some i => (es[i]?).map fun x => if ok then .tuple #[x.val, .bool true] else x.val
 | none => some (if ok then .tuple #[z, .bool false] else z)
def xLookup (P : Program) (kt : TypeId) (z : Value) (ok : Bool) (k : Value) (h : H) : Value → Option Value
 | .map (some r) => match h.get r with
   | some (.map es _) => (afind P es.isEmpty kt k es).bind (luOut z ok es)
   | _ => none
 | .map none => (afind P true kt k []).bind (luOut z ok [])
 | _ => none

def muOut (r c : Nat) (es : List MapEntry) (k v : Value) (h : H) : Option Nat → Option H
 | some i => (es[i]?).bind fun x => if Instr.sameBits 10000 x.key k then some (h.put r (.map (es.set i ⟨k, v, x.born⟩) c)) else none
 | none => some (h.put r (.map (es ++ [⟨k, v, c⟩]) (c + 1)))
def xMapup (P : Program) (lo : Nat) (kt : TypeId) (k v : Value) (h : H) : Value → Option H
 | .map (some r) => if lo ≤ r then (match h.get r with
   | some (.map es c) => (afind P false kt k es).bind (muOut r c es k v h)
   | _ => none) else none
 | _ => none
def xDelete (P : Program) (lo : Nat) (kt : TypeId) (k : Value) (h : H) : Value → Option H
 | .map (some r) => if lo ≤ r then (match h.get r with
   | some (.map es c) => (afind P es.isEmpty kt k es).map fun o => match o with | some i => h.put r (.map (es.eraseIdx i) c) | none => h
   | _ => none) else none
 | _ => none

def xMrange (nid : Nat) (h : H) : Value → R
 | .map (some r) => match h.get r with
   | some (.map _ c) => some (.pointer (some ⟨nid, 0, none⟩), h.put nid (.iter r c [] c))
   | _ => none
 | _ => none
def xSrange (nid : Nat) (h : H) : Value → R
 | .string s => some (.pointer (some ⟨nid, 0, none⟩), h.put nid (.siter s 0))
 | _ => none
def xSnext (lo : Nat) (h : H) : Value → R
 | .pointer (some ⟨r, 0, none⟩) => if lo ≤ r then (match h.get r with
   | some (.siter s pos) => if pos < s.size then some (.tuple ⟨[.bool true, .int .i64 (pos : Int), .int .i32 ((Utf8.decode s pos).1 : Int)]⟩, h.put r (.siter s (pos + (Utf8.decode s pos).2))) else some (.tuple ⟨[.bool false]⟩, h)
   | _ => none) else none
 | _ => none
def entOf (s : Nat) (es : List MapEntry) : Option Value := (es.find? fun e => e.born == s).map fun e => .tuple #[e.key, e.val]
def enOut (h : H) : ARow → Option Value
 | .iter m _ seen c0 => seen.getLast?.bind fun s => match h.get m with
   | some (.map es c) => if c = c0 then entOf s es else none
   | _ => none
 | _ => none
def xEntry (h : H) : Value → Option Value
 | .pointer (some ⟨r, 0, none⟩) => (h.get r).bind (enOut h)
 | _ => none
mutual
def eqV : Value → Value → Bool
 | .int k a, .int k' b => decide (k = k' ∧ a = b)
 | .bool a, .bool b => decide (a = b)
 | .string a, .string b => decide (a = b) && (a == b)
 | .agg ⟨a⟩, .agg ⟨b⟩ => eqL a b
 | _, _ => false
def eqL : List Value → List Value → Bool
 | [], [] => true
 | a :: l, b :: m => eqV a b && eqL l m
 | _, _ => false
end
def strSelf : Value → Bool
 | .string a => a == a
 | _ => true
def selfEq (P : Program) (kt : TypeId) (k : Value) : Bool := strSelf k && (match pureRun P (Op.equal kt k k) with | some true => true | _ => false)
def meOut (P : Program) (kt : TypeId) (r c : Nat) (z : Value) (es : List MapEntry) (k : Value) (h : H) : Option Nat → R
 | some i => (es[i]?).bind fun x => if (eqV x.key k && Instr.sameBits 10000 x.key k) = true then some (.tuple #[x.val, .int .i64 x.born], h.put r (.map es c)) else none
 | none => if selfEq P kt k = true then some (.tuple #[z, .int .i64 c], h.put r (.map (es ++ [⟨k, z, c⟩]) (c + 1))) else none
def xMapent (P : Program) (lo : Nat) (kt : TypeId) (z k : Value) (h : H) : Value → R
 | .map (some r) => if lo ≤ r then (match h.get r with
   | some (.map es c) => (afind P false kt k es).bind (meOut P kt r c z es k h)
   | _ => none) else none
 | _ => none
def esOut (r c : Nat) (es : List MapEntry) (v : Value) (h : H) : Option Nat → Option H
 | some i => (es[i]?).map fun x => h.put r (.map (es.set i ⟨x.key, v, x.born⟩) c)
 | none => none
def xEntst (lo : Nat) (s v : Value) (h : H) : Value → Option H
 | .map (some r) => if lo ≤ r then (match h.get r, s with
   | some (.map es c), .int .i64 n => esOut r c es v h (es.findIdx? fun e => (e.born : Int) == n)
   | _, _ => none) else none
 | _ => none

def xLen : Value → Option Value
 | .slice _ n _ => some (.int .i64 n)
 | _ => none
def xLenstr : Value → Option Value
 | .string s => some (.int .i64 s.size)
 | _ => none
def xLenmap (h : H) : Value → Option Value
 | .map (some r) => match h.get r with
   | some (.map es _) => some (.int .i64 es.length)
   | _ => none
 | .map none => some (.int .i64 0)
 | _ => none
def xCap : Value → Option Value
 | .slice none _ c => some (.int .i64 c)
 | .slice (some a) _ c => if far ≤ c then none else match a.spot with
   | none => some (.int .i64 c)
   | some _ => if c % 2 = 1 then some (.int .i64 (c / 2 : Nat)) else none
 | _ => none

def keep (h : H) : Option Value → R := fun o => o.map fun v => (v, h)
def evO (ts : Ts) (o : Option Opd) : Option Value := o.map (ev ts)

def aop (P : Program) (lo nid : Nat) (ts : Ts) (h : H) : AOp → R
 | .mv x => some (ev ts x, h)
 | .pick c a b => keep h (xPick (ev ts a) (ev ts b) (ev ts c))
 | .alloc z e => newCells nid e z h
 | .box x e => newCells nid e (cellsL (ev ts x)) h
 | .build z ps => keep h ((afill ts z ps).map fun l => .agg ⟨l⟩)
 | .bslice z ps len e => (afill ts z ps).map fun cs => (.slice (some ⟨nid, 0, none⟩) len len, h.put nid (.cells cs e))
 | .load1 a => keep h (xLoad1 h (ev ts a))
 | .loadn n a => keep h (xLoadn n h (ev ts a))
 | .store n a x => xStore lo n (cellsL (ev ts x)) h (ev ts a)
 | .nilck x => keep h (xNilck (ev ts x))
 | .int op x y => keep h (xInt op (ev ts x) (ev ts y))
 | .idiv q x y => keep h (xIdiv q (ev ts x) (ev ts y))
 | .not x => keep h (xNot (ev ts x))
 | .neg x => keep h (xNeg (ev ts x))
 | .conv k x => keep h (xConv k (ev ts x))
 | .mnmx m x y => keep h (xMnmx m (ev ts x) (ev ts y))
 | .pure o => keep h (xPure P ts o)
 | .cmp sl ne x y o => keep h (xCmp P sl ne ts x y o)
 | .mkif t x => some (.iface t (ev ts x), h)
 | .mkfn fn fs cs => some (.func fn ⟨fs.map (ev ts)⟩ ⟨cs.map (ev ts)⟩, h)
 | .mkmap => some (.map (some nid), h.put nid (.map [] 0))
 | .mkslice z b e l c => xMkslice nid z b e h (natOf? (ev ts l)) (natOf? (ev ts c))
 | .slarr n sz x l hi m => keep h (slarr n sz (evO ts l) (evO ts hi) (evO ts m) (ev ts x))
 | .slsl sz x l hi m => keep h (slsl sz (evO ts l) (evO ts hi) (evO ts m) (ev ts x))
 | .faddr off x => keep h (xFaddr off (ev ts x))
 | .field1 off x => keep h (xField1 off (ev ts x))
 | .fieldn off n x => keep h (xFieldn off n (ev ts x))
 | .ixarr n sz x i => keep h (xIxarr n sz (ev ts i) (ev ts x))
 | .ixsl sz x i => keep h (xIxsl sz (ev ts i) (ev ts x))
 | .ixv1 n x i => keep h (xIxv1 n (ev ts i) (ev ts x))
 | .ixvn n sz x i => keep h (xIxvn n sz (ev ts i) (ev ts x))
 | .extract x i => keep h (xExtract i (ev ts x))
 | .tass t z ok x => keep h (xTass t z ok (ev ts x))
 | .b2s x => keep h (xB2s h (ev ts x))
 | .tiface t x => keep h (xTiface P t (ev ts x))
 | .lookup kt z ok m k => keep h (xLookup P kt z ok (ev ts k) h (ev ts m))
 | .mapup kt m k v => (xMapup P lo kt (ev ts k) (ev ts v) h (ev ts m)).map fun h' => (undef, h')
 | .len x => keep h (xLen (ev ts x))
 | .lenstr x => keep h (xLenstr (ev ts x))
 | .lenmap x => keep h (xLenmap h (ev ts x))
 | .cap x => keep h (xCap (ev ts x))
 | .append e sz b s x => xAppend lo nid e sz b (ev ts s) (ev ts x) h
 | .copy sz d s => xCopy lo sz (ev ts d) (ev ts s) h
 | .clr z x => xClr lo z (ev ts x) h
 | .dead => none
 | .delete kt m k => (xDelete P lo kt (ev ts k) h (ev ts m)).map fun h' => (.tuple #[], h')
 | .mrange m => xMrange nid h (ev ts m)
 | .srange x => xSrange nid h (ev ts x)
 | .snext x => xSnext lo h (ev ts x)
 | .entry x => keep h (xEntry h (ev ts x))
 | .mapent kt z m k => xMapent P lo kt z (ev ts k) h (ev ts m)
 | .entst m s v => (xEntst lo (ev ts s) (ev ts v) h (ev ts m)).map fun h' => (undef, h')

def AOp.fresh : AOp → Bool
 | .alloc _ _ | .box _ _ | .bslice _ _ _ _ | .mkmap | .mkslice _ _ _ _ _ | .append _ _ _ _ _ | .mrange _ | .srange _ => true
 | _ => false
def AOp.light : AOp → Bool
 | .load1 _ | .loadn _ _ | .store _ _ _ | .lookup _ _ _ _ _ | .mapup _ _ _ _ | .lenmap _ | .b2s _ | .append _ _ _ _ _ | .copy _ _ _ | .clr _ _ | .delete _ _ _ | .mrange _ | .srange _ | .snext _ | .entry _ | .mapent _ _ _ _ | .entst _ _ _ => false
 | _ => true

def awanted (ts : Ts) : Option (Nat × Bool) → Bool
 | none => true
 | some (j, want) => match ts j with | .bool b => b == want | _ => false
def aput (ts : Ts) (v : Value) : Option Nat → Ts
 | some d => setV ts d v
 | none => ts

end AE

/- Which rows an operation looks at, and which one it turns. -/
namespace AE
open Go

def H.upd (h : H) : Option (Nat × ARow) → H
 | none => h
 | some p => h.put p.1 p.2

def touchV : Value → List Nat
 | .pointer (some a) => [a.block]
 | .slice (some a) _ c => if far ≤ c then [] else [a.block]
 | .map (some r) => [r]
 | _ => []

def fullV : Value → Bool
 | .slice (some a) n c => if far ≤ c then true else match a.spot with | none => Nat.beq n c | some _ => Nat.beq c (2 * n + 1)
 | _ => false
theorem beq_false {a b : Nat} (h : a ≠ b) : Nat.beq a b = false := by
 cases e : Nat.beq a b
 ·rfl
 ·exact absurd (Nat.eq_of_beq_eq_true e) h
def AOp.wr (ts : Ts) : AOp → List Nat
 | .store _ a _ => touchV (ev ts a)
 | .append _ _ _ s _ => if fullV (ev ts s) = true then [] else touchV (ev ts s)
 | .copy _ d _ => touchV (ev ts d)
 | .clr _ x => touchV (ev ts x)
 | .mapup _ m _ _ => touchV (ev ts m)
 | .delete _ m _ => touchV (ev ts m)
 | .mapent _ _ m _ => touchV (ev ts m)
 | .entst m _ _ => touchV (ev ts m)
 | .snext x => touchV (ev ts x)
 | _ => []
def AOp.touch (ts : Ts) : AOp → List Nat
 | .load1 a | .loadn _ a => touchV (ev ts a)
 | .store _ a _ => touchV (ev ts a)
 | .lookup _ _ _ m _ => touchV (ev ts m)
 | .lenmap x => touchV (ev ts x)
 | .b2s x => touchV (ev ts x)
 | .append _ _ _ s x => touchV (ev ts s) ++ touchV (ev ts x)
 | .copy _ d s => touchV (ev ts d) ++ touchV (ev ts s)
 | .clr _ x => touchV (ev ts x)
 | .mapup _ m _ _ => touchV (ev ts m)
 | .delete _ m _ => touchV (ev ts m)
 | .mapent _ _ m _ => touchV (ev ts m)
 | .entst m _ _ => touchV (ev ts m)
 | .mrange m => touchV (ev ts m)
 | .snext x => touchV (ev ts x)
 | _ => []
def AOp.noEnt : AOp → Bool
 | .entry _ => false
 | _ => true

def Loc (lo nid : Nat) (wr touch : List Nat) (h : H) (f : H → R) (v : Value) (h' : H) : Prop :=
 ∃ u, h' = h.upd u ∧ (∀ r row, u = some (r, row) → (r = nid ∨ (lo ≤ r ∧ r ∈ wr ∧ h.get r ≠ none))) ∧ ∀ g : H, (∀ r ∈ touch, h.get r ≠ none → g.get r = h.get r) → f g = some (v, g.upd u)

theorem Loc.keep {lo nid : Nat} {wr touch : List Nat} {h h' : H} {o : H → Option Value} {v : Value} (hk : keep h (o h) = some (v, h')) (ho : o h = some v → ∀ g : H, (∀ r ∈ touch, h.get r ≠ none → g.get r = h.get r) → o g = o h) : Loc lo nid wr touch h (fun g => keep g (o g)) v h' := by
 simp only [AE.keep, Option.map_eq_some_iff, Prod.mk.injEq] at hk
 obtain ⟨v', hv, rfl, rfl⟩ := hk
 refine ⟨none, rfl, by simp, fun g hg => ?_⟩
 simp [AE.keep, ho hv g hg, hv, H.upd]
theorem Loc.flat {lo nid : Nat} {wr touch : List Nat} {h h' : H} {o : Option Value} {v : Value} (hk : AE.keep h o = some (v, h')) : Loc lo nid wr touch h (fun g => AE.keep g o) v h' :=
 Loc.keep (o := fun _ => o) hk fun _ _ _ => rfl
theorem Loc.new {lo nid : Nat} {wr touch : List Nat} {h h' : H} {v v' : Value} {row : ARow} (hk : some (v', h.put nid row) = some (v, h')) : Loc lo nid wr touch h (fun g => some (v', g.put nid row)) v h' := by
 simp only [Option.some.injEq, Prod.mk.injEq] at hk
 obtain ⟨rfl, rfl⟩ := hk
 exact ⟨some (nid, row), rfl, fun r row' e => .inl (by simp at e; exact e.1.symm), fun g _ => rfl⟩

theorem loadN_local {h g : H} {a : Addr} {n : Nat} {l : List Value} (hl : h.loadN a n = some l) (e : h.get a.block ≠ none → g.get a.block = h.get a.block) : g.loadN a n = some l := by
 have : h.get a.block ≠ none := fun e' => by simp [H.loadN, e'] at hl
 rw [← hl]; simp [H.loadN, e this]
theorem storeN_local {h h' : H} {lo : Nat} {a : Addr} {vs : List Value} (hs : h.storeN lo a vs = some h') : ∃ row, lo ≤ a.block ∧ h' = h.put a.block row ∧ h.get a.block ≠ none ∧ ∀ g : H, (h.get a.block ≠ none → g.get a.block = h.get a.block) → g.storeN lo a vs = some (g.put a.block row) := by
 unfold H.storeN at hs
 split at hs
 ·rename_i hc
  simp only [Option.bind_eq_some_iff, Option.map_eq_some_iff] at hs
  obtain ⟨row, hr, row', hr', rfl⟩ := hs
  refine ⟨row', hc.1, rfl, by simp [hr], fun g hg => ?_⟩
  unfold H.storeN
  rw [if_pos hc, hg (by simp [hr]), hr]
  simp [hr']
 ·simp at hs

theorem acells_local {h g : H} {sz n : Nat} {v : Value} {l : List Value} (hl : acells h sz n v = some l) (e : ∀ r ∈ touchV v, h.get r ≠ none → g.get r = h.get r) : acells g sz n v = some l := by
 unfold acells at hl
 split at hl
 ·split at hl
  ·rename_i hf
   simp only [acells]
   rw [if_pos hf]
   exact hl
  ·rename_i hf
   simp only [acells]
   rw [if_neg hf]
   exact loadN_local hl (e _ (by simp [touchV, hf]))
 all_goals
  simp only [acells]
  exact hl

theorem apKnown_local {lo nid : Nat} {e : TypeId} {sz bytes : Nat} {a : Addr} {len cap c n : Nat} {nc : List Value} {h h' : H} {v : Value} {wr touch : List Nat} (hw : len + n ≤ c → a.block ∈ wr) (ht : a.block ∈ touch)
 (ha : apKnown lo nid e sz bytes a len cap c n nc h = some (v, h')) : Loc lo nid wr touch h (fun g => apKnown lo nid e sz bytes a len cap c n nc g) v h' := by
 unfold apKnown at ha
 split at ha
 ·rename_i hf
  simp only [Option.map_eq_some_iff, Prod.mk.injEq] at ha
  obtain ⟨h1, hs, rfl, rfl⟩ := ha
  obtain ⟨row, hlo, rfl, hne, hg⟩ := storeN_local hs
  refine ⟨some (a.block, row), rfl, fun r row' er => .inr (by simp at er; rw [← er.1]; exact ⟨hlo, hw hf, hne⟩), fun g hgg => ?_⟩
  simp only [apKnown, if_pos hf]
  rw [hg g (hgg _ ht)]; rfl
 ·rename_i hf
  split at ha
  ·rename_i hs
   simp only [Option.bind_eq_some_iff] at ha
   obtain ⟨oc, ho, ha⟩ := ha
   simp only [newGrow, Option.some.injEq, Prod.mk.injEq] at ha
   obtain ⟨rfl, rfl⟩ := ha
   refine ⟨some (nid, _), rfl, fun r row' er => .inl (by simp at er; exact er.1.symm), fun g hgg => ?_⟩
   simp only [apKnown]
   rw [if_neg hf, if_pos hs, loadN_local ho (hgg _ ht)]; rfl
  ·simp at ha

theorem aop_local {P : Program} {lo nid : Nat} {ts : Ts} {h h' : H} {v : Value} {ao : AOp} (hne : ao.noEnt = true) (ha : aop P lo nid ts h ao = some (v, h')) :
 Loc lo nid (ao.wr ts) (ao.touch ts) h (fun g => aop P lo nid ts g ao) v h' := by
 cases ao
 case entry x => simp [AOp.noEnt] at hne
 case mrange m =>
  simp only [aop, AOp.wr, AOp.touch] at ha ⊢
  unfold xMrange at ha
  split at ha
  ·rename_i r he
   split at ha
   ·rename_i es c hg
    simp only [Option.some.injEq, Prod.mk.injEq] at ha
    obtain ⟨rfl, rfl⟩ := ha
    refine ⟨some (nid, _), rfl, fun r' row' er => .inl (by simp at er; exact er.1.symm), fun g hgg => ?_⟩
    rw [he] at hgg ⊢
    simp only [xMrange, hgg r (by simp [touchV]) (by simp [hg]), hg, H.upd]
   ·simp at ha
  ·simp at ha
 case srange x =>
  simp only [aop, AOp.wr, AOp.touch] at ha ⊢
  unfold xSrange at ha
  split at ha
  ·rename_i s he
   simp only [Option.some.injEq, Prod.mk.injEq] at ha
   obtain ⟨rfl, rfl⟩ := ha
   refine ⟨some (nid, _), rfl, fun r' row' er => .inl (by simp at er; exact er.1.symm), fun g hgg => ?_⟩
   rw [he]
   rfl
  ·simp at ha
 case snext x =>
  simp only [aop, AOp.wr, AOp.touch] at ha ⊢
  unfold xSnext at ha
  split at ha
  ·rename_i r he
   split at ha
   ·rename_i hlo
    split at ha
    ·rename_i s pos hg
     split at ha
     ·rename_i hp
      simp only [Option.some.injEq, Prod.mk.injEq] at ha
      obtain ⟨rfl, rfl⟩ := ha
      refine ⟨some (r, _), rfl, fun r' row' er => .inr ?_, fun g hgg => ?_⟩
      ·simp at er; rw [← er.1, he]; exact ⟨hlo, by simp [touchV], by simp [hg]⟩
      ·rw [he] at hgg ⊢
       simp only [xSnext, if_pos hlo, hgg r (by simp [touchV]) (by simp [hg]), hg, if_pos hp, H.upd]
     ·rename_i hp
      simp only [Option.some.injEq, Prod.mk.injEq] at ha
      obtain ⟨rfl, rfl⟩ := ha
      refine ⟨none, rfl, fun r' row' er => by simp at er, fun g hgg => ?_⟩
      rw [he] at hgg ⊢
      simp only [xSnext, if_pos hlo, hgg r (by simp [touchV]) (by simp [hg]), hg, if_neg hp, H.upd]
    ·simp at ha
   ·simp at ha
  ·simp at ha
 case mapent kt z m k =>
  simp only [aop, AOp.wr, AOp.touch] at ha ⊢
  unfold xMapent at ha
  split at ha
  ·rename_i r he
   split at ha
   ·rename_i hlo
    split at ha
    ·rename_i es c hg
     simp only [Option.bind_eq_some_iff] at ha
     obtain ⟨q, hq, ha⟩ := ha
     have : ∃ row, h' = h.put r row ∧ ∀ g : H, meOut P kt r c z es (ev ts k) g q = some (v, g.put r row) := by
      unfold meOut at ha
      split at ha
      ·simp only [Option.bind_eq_some_iff] at ha
       obtain ⟨x, hx, ha⟩ := ha
       split at ha
       ·rename_i hb; simp only [Option.some.injEq, Prod.mk.injEq] at ha; exact ⟨_, ha.2.symm, fun g => by simp only [meOut, hx, Option.bind_some, if_pos hb, ha.1]⟩
       ·simp at ha
      ·split at ha
       ·rename_i hb; simp only [Option.some.injEq, Prod.mk.injEq] at ha; exact ⟨_, ha.2.symm, fun g => by simp only [meOut, if_pos hb, ha.1]⟩
       ·simp at ha
     obtain ⟨row, rfl, hm⟩ := this
     refine ⟨some (r, row), rfl, fun r' row' er => .inr ?_, fun g hgg => ?_⟩
     ·simp at er; rw [← er.1, he]; exact ⟨hlo, by simp [touchV], by simp [hg]⟩
     ·rw [he] at hgg ⊢
      simp only [xMapent, if_pos hlo, hgg r (by simp [touchV]) (by simp [hg]), hg, hq, Option.bind_some, hm, H.upd]
    ·simp at ha
   ·simp at ha
  ·simp at ha
 case entst m s v' =>
  simp only [aop, AOp.wr, AOp.touch, Option.map_eq_some_iff, Prod.mk.injEq] at ha ⊢
  obtain ⟨h1, ha, rfl, rfl⟩ := ha
  unfold xEntst at ha
  split at ha
  ·rename_i r he
   split at ha
   ·rename_i hlo
    split at ha
    ·rename_i es c n hg hs
     have : ∃ row, h1 = h.put r row ∧ ∀ g : H, esOut r c es (ev ts v') g (es.findIdx? fun e => (e.born : Int) == n) = some (g.put r row) := by
      unfold esOut at ha
      split at ha
      ·simp only [Option.map_eq_some_iff] at ha
       obtain ⟨x, hx, ha⟩ := ha
       exact ⟨_, ha.symm, fun g => by simp [esOut, *]⟩
      ·simp at ha
     obtain ⟨row, rfl, hm⟩ := this
     refine ⟨some (r, row), rfl, fun r' row' er => .inr ?_, fun g hgg => ?_⟩
     ·simp at er; rw [← er.1, he]; exact ⟨hlo, by simp [touchV], by simp [hg]⟩
     ·rw [he] at hgg ⊢
      simp only [xEntst, if_pos hlo, hgg r (by simp [touchV]) (by simp [hg]), hg, hs, hm, Option.map_some, H.upd]
    ·simp at ha
   ·simp at ha
  ·simp at ha
 case mv x => exact Loc.flat (o := some (ev ts x)) ha
 case mkif t x => exact Loc.flat (o := some (.iface t (ev ts x))) ha
 case mkfn fn fs cs => exact Loc.flat (o := some (.func fn ⟨fs.map (ev ts)⟩ ⟨cs.map (ev ts)⟩)) ha
 case alloc z e => exact Loc.new ha
 case box x e => exact Loc.new ha
 case mkmap => exact Loc.new ha
 case bslice z ps len e =>
  simp only [aop] at ha ⊢
  cases hf : afill ts z ps with
  | none => rw [hf] at ha; simp at ha
  | some cs => rw [hf] at ha; exact Loc.new ha
 case mkslice z b e l c =>
  simp only [aop] at ha ⊢
  unfold xMkslice at ha
  split at ha
  ·rename_i l' c' hl hc
   split at ha
   ·rename_i hb
    simp only [hl, hc, xMkslice, if_pos hb]
    exact Loc.new ha
   ·simp at ha
  ·simp at ha
 case load1 a =>
  refine Loc.keep (o := fun g => xLoad1 g (ev ts a)) ha fun hv g hg => ?_
  simp only [AOp.touch] at hg
  unfold xLoad1 at hv ⊢
  split
  ·rename_i a' he
   rw [he] at hg hv
   simp only [hv]
   simp only [Option.bind_eq_some_iff] at hv
   obtain ⟨l, hl, hv⟩ := hv
   rw [loadN_local hl (hg _ (by simp [touchV])), Option.bind_some, hv]
  ·rfl
 case loadn n a =>
  refine Loc.keep (o := fun g => xLoadn n g (ev ts a)) ha fun hv g hg => ?_
  simp only [AOp.touch] at hg
  unfold xLoadn at hv ⊢
  split
  ·rename_i a' he
   rw [he] at hg hv
   simp only [hv]
   simp only [Option.map_eq_some_iff] at hv
   obtain ⟨l, hl, hv⟩ := hv
   rw [loadN_local hl (hg _ (by simp [touchV])), Option.map_some, hv]
  ·rfl
 case store n a x =>
  simp only [aop, AOp.wr, AOp.touch] at ha ⊢
  unfold xStore at ha
  split at ha
  ·rename_i a' he
   split at ha
   ·rename_i hl
    simp only [Option.map_eq_some_iff, Prod.mk.injEq] at ha
    obtain ⟨h1, hs, rfl, rfl⟩ := ha
    obtain ⟨row, hlo, rfl, hne, hg⟩ := storeN_local hs
    refine ⟨some (a'.block, row), rfl, fun r row' er => .inr ?_, fun g hgg => ?_⟩
    ·simp at er; rw [← er.1, he]; exact ⟨hlo, by simp [touchV], by first | exact hne | simp [hg]⟩
    ·rw [he] at hgg ⊢
     simp only [xStore, if_pos hl]
     rw [hg g (hgg _ (by simp [touchV]))]; rfl
   ·simp at ha
  ·simp at ha
 case lookup kt z ok m k =>
  refine Loc.keep (o := fun g => xLookup P kt z ok (ev ts k) g (ev ts m)) ha fun hv g hg => ?_
  simp only [AOp.touch] at hg
  unfold xLookup at hv ⊢
  split
  ·rename_i r he
   rw [he] at hg hv
   have : h.get r ≠ none := fun e => by simp [e] at hv
   rw [hg _ (by simp [touchV]) this]
  all_goals rfl
 case b2s x =>
  refine Loc.keep (o := fun g => xB2s g (ev ts x)) ha fun hv g hg => ?_
  simp only [AOp.touch] at hg
  unfold xB2s at hv ⊢
  split
  ·rename_i a n c he
   rw [he] at hg hv
   simp only [hv]
   simp only [Option.bind_eq_some_iff] at hv
   obtain ⟨l, hl, hv⟩ := hv
   rw [acells_local hl hg]
   exact hv
  ·rfl
 case lenmap x =>
  refine Loc.keep (o := fun g => xLenmap g (ev ts x)) ha fun hv g hg => ?_
  simp only [AOp.touch] at hg
  unfold xLenmap at hv ⊢
  split
  ·rename_i r he
   rw [he] at hg hv
   have : h.get r ≠ none := fun e => by simp [e] at hv
   rw [hg _ (by simp [touchV]) this]
  all_goals rfl
 case mapup kt m k v' =>
  simp only [aop, AOp.wr, AOp.touch, Option.map_eq_some_iff, Prod.mk.injEq] at ha ⊢
  obtain ⟨h1, ha, rfl, rfl⟩ := ha
  unfold xMapup at ha
  split at ha
  ·rename_i r he
   split at ha
   ·rename_i hlo
    split at ha
    ·rename_i es c hg
     simp only [Option.bind_eq_some_iff] at ha
     obtain ⟨q, hq, ha⟩ := ha
     have : ∃ row, h1 = h.put r row ∧ ∀ g : H, muOut r c es (ev ts k) (ev ts v') g q = some (g.put r row) := by
      unfold muOut at ha
      split at ha
      ·simp only [Option.bind_eq_some_iff] at ha
       obtain ⟨x, hx, ha⟩ := ha
       split at ha
       ·rename_i hb; simp at ha; exact ⟨_, ha.symm, fun g => by simp [muOut, hx, hb]⟩
       ·simp at ha
      ·simp at ha; exact ⟨_, ha.symm, fun g => by simp [muOut]⟩
     obtain ⟨row, rfl, hm⟩ := this
     refine ⟨some (r, row), rfl, fun r' row' er => .inr ?_, fun g hgg => ?_⟩
     ·simp at er; rw [← er.1, he]; exact ⟨hlo, by simp [touchV], by first | exact hne | simp [hg]⟩
     ·rw [he] at hgg ⊢
      simp only [xMapup, if_pos hlo, hgg r (by simp [touchV]) (by simp [hg]), hg, hq, Option.bind_some, hm, Option.map_some, H.upd]
    ·simp at ha
   ·simp at ha
  ·simp at ha
 case delete kt m k =>
  simp only [aop, AOp.wr, AOp.touch, Option.map_eq_some_iff, Prod.mk.injEq] at ha ⊢
  obtain ⟨h1, ha, rfl, rfl⟩ := ha
  unfold xDelete at ha
  split at ha
  ·rename_i r he
   split at ha
   ·rename_i hlo
    split at ha
    ·rename_i es c hg
     simp only [Option.map_eq_some_iff] at ha
     obtain ⟨q, hq, ha⟩ := ha
     cases q with
     | none =>
       simp only at ha; subst ha
       refine ⟨none, rfl, by simp, fun g hgg => ?_⟩
       rw [he] at hgg ⊢
       simp only [xDelete, if_pos hlo, hgg r (by simp [touchV]) (by simp [hg]), hg, hq, Option.map_some, H.upd]
     | some i =>
       simp only at ha; subst ha
       refine ⟨some (r, _), rfl, fun r' row' er => .inr ?_, fun g hgg => ?_⟩
       ·simp at er; rw [← er.1, he]; exact ⟨hlo, by simp [touchV], by first | exact hne | simp [hg]⟩
       ·rw [he] at hgg ⊢
        simp only [xDelete, if_pos hlo, hgg r (by simp [touchV]) (by simp [hg]), hg, hq, Option.map_some, H.upd]
    ·simp at ha
   ·simp at ha
  ·simp at ha
 case append e sz b s x =>
  simp only [aop, AOp.wr, AOp.touch] at ha ⊢
  unfold xAppend at ha
  simp only [Option.bind_eq_some_iff] at ha
  obtain ⟨n, hn, ha⟩ := ha
  split at ha
  ·rename_i hn0
   split at ha
   ·rename_i b0 l0 c0 he
    simp only [Option.some.injEq, Prod.mk.injEq] at ha
    obtain ⟨rfl, rfl⟩ := ha
    refine ⟨none, rfl, by simp, fun g hgg => ?_⟩
    simp only [xAppend, hn, Option.bind_some, if_pos hn0, he]
    rfl
   ·simp at ha
  ·rename_i hn0
   simp only [Option.bind_eq_some_iff] at ha
   obtain ⟨nc, hnc, ha⟩ := ha
   have hnc' : ∀ g : H, (∀ r ∈ touchV (ev ts s) ++ touchV (ev ts x), h.get r ≠ none → g.get r = h.get r) → acells g sz n (ev ts x) = some nc := fun g hg =>
    acells_local hnc (fun r hr => hg r (by simp [hr]))
   split at ha
   ·rename_i a len cap he
    split at ha
    ·rename_i hcf
     split at ha
     ·rename_i hcc
      simp only [newGrow, Option.some.injEq, Prod.mk.injEq] at ha
      obtain ⟨rfl, rfl⟩ := ha
      refine ⟨some (nid, _), rfl, fun r row' er => .inl (by simp at er; exact er.1.symm), fun g hgg => ?_⟩
      simp only [xAppend, hn, Option.bind_some, if_neg hn0, hnc' g hgg, he, if_pos hcf, if_pos hcc, newGrow, H.upd]
     ·simp at ha
    rename_i hcf
    have main : Loc lo nid (if fullV (ev ts s) = true then [] else touchV (ev ts s)) (touchV (ev ts s) ++ touchV (ev ts x)) h (fun g => apAddr lo nid e sz b a len cap n nc g) v h' := by
     have hm0 : a.block ∈ touchV (ev ts s) := by rw [he]; simp [touchV, hcf]
     have hm1 : fullV (ev ts s) = false → a.block ∈ (if fullV (ev ts s) = true then [] else touchV (ev ts s)) := fun hf => by rw [hf, if_neg (by simp)]; exact hm0
     have hm2 : a.block ∈ touchV (ev ts s) ++ touchV (ev ts x) := by simp [hm0]
     unfold apAddr at ha ⊢
     split at ha
     ·rename_i hsp
      exact apKnown_local (fun hle => hm1 (by rw [he]; simp only [fullV, if_neg hcf, hsp]; exact beq_false (by omega))) hm2 ha
     ·split at ha
      ·rename_i g0 hsp hodd
       simp only [if_pos hodd]
       exact apKnown_local (fun hle => hm1 (by rw [he]; simp only [fullV, if_neg hcf, hsp]; exact beq_false (by omega))) hm2 ha
      ·rename_i g0 hsp hodd
       simp only [Option.bind_eq_some_iff] at ha
       obtain ⟨row, hr, ha⟩ := ha
       unfold apRow at ha
       split at ha
       ·rename_i c e' sz' lens valid
        split at ha
        ·rename_i hb
         simp only [Option.some.injEq, Prod.mk.injEq] at ha
         obtain ⟨rfl, rfl⟩ := ha
         refine ⟨some (a.block, _), rfl, fun r' row' er => .inr ?_, fun g hgg => ?_⟩
         ·simp at er; rw [← er.1]; exact ⟨hb.1, hm1 (by rw [he]; simp only [fullV, if_neg hcf, hsp]; exact beq_false (by have := hb.2.2.2.1; omega)), by simp [hr]⟩
         ·simp only [if_neg hodd, hgg _ hm2 (by simp [hr]), hr, Option.bind_some, apRow, if_pos hb, H.upd]
        ·rename_i hnb
         split at ha
         ·rename_i hb
          simp only [Option.some.injEq, Prod.mk.injEq] at ha
          obtain ⟨rfl, rfl⟩ := ha
          refine ⟨some (a.block, _), rfl, fun r' row' er => .inr ?_, fun g hgg => ?_⟩
          ·simp at er; rw [← er.1]; exact ⟨hb.1, hm1 (by rw [he]; simp only [fullV, if_neg hcf, hsp]; exact beq_false (by have := hb.2.2.2.1; omega)), by simp [hr]⟩
          ·simp only [if_neg hodd, hgg _ hm2 (by simp [hr]), hr, Option.bind_some, apRow, if_neg hnb, if_pos hb, H.upd]
         ·simp at ha
       ·simp at ha
    obtain ⟨u, h1, h2, h3⟩ := main
    refine ⟨u, h1, h2, fun g hg => ?_⟩
    simp only [xAppend, hn, Option.bind_some, if_neg hn0, hnc' g hg, he, if_neg hcf]
    exact h3 g hg
   ·rename_i he
    split at ha
    ·rename_i hsm
     simp only [newGrow, Option.some.injEq, Prod.mk.injEq] at ha
     obtain ⟨rfl, rfl⟩ := ha
     refine ⟨some (nid, _), rfl, fun r row' er => .inl (by simp at er; exact er.1.symm), fun g hgg => ?_⟩
     simp only [xAppend, hn, Option.bind_some, if_neg hn0, hnc' g hgg, he, if_pos hsm, newGrow, H.upd]
    ·simp at ha
   ·simp at ha
 case copy sz d s =>
  simp only [aop, AOp.wr, AOp.touch] at ha ⊢
  unfold xCopy at ha
  split at ha
  ·rename_i base len cap he
   split at ha
   ·simp at ha
   rename_i hcf
   simp only [Option.bind_eq_some_iff] at ha
   obtain ⟨k, hk, ha⟩ := ha
   obtain ⟨nc, hnc, ha⟩ := ha
   have hnc' : ∀ g : H, (∀ r ∈ touchV (ev ts d) ++ touchV (ev ts s), h.get r ≠ none → g.get r = h.get r) → acells g sz (if k ≤ len then k else len) (ev ts s) = some nc := fun g hg =>
    acells_local hnc (fun r hr => hg r (by simp [hr]))
   cases base with
   | none =>
     simp only [Option.some.injEq, Prod.mk.injEq] at ha
     obtain ⟨rfl, rfl⟩ := ha
     refine ⟨none, rfl, by simp, fun g hgg => ?_⟩
     simp only [xCopy, he, if_neg hcf, hk, Option.bind_some, hnc' g hgg, H.upd]
   | some a =>
     simp only [Option.map_eq_some_iff, Prod.mk.injEq] at ha
     obtain ⟨h1, hs, rfl, rfl⟩ := ha
     by_cases h0 : (if k ≤ len then k else len) = 0
     ·rw [if_pos h0] at hs
      simp at hs; subst hs
      refine ⟨none, rfl, by simp, fun g hgg => ?_⟩
      simp only [xCopy, he, if_neg hcf, hk, Option.bind_some, hnc' g hgg, if_pos h0, Option.map_some, H.upd]
     ·rw [if_neg h0] at hs
      obtain ⟨row, hlo, rfl, hne, hg⟩ := storeN_local hs
      refine ⟨some (a.block, row), rfl, fun r' row' er => .inr ?_, fun g hgg => ?_⟩
      ·simp at er; rw [← er.1, he]; exact ⟨hlo, by simp [touchV, hcf], by first | exact hne | simp [hg]⟩
      ·simp only [xCopy, he, if_neg hcf, hk, Option.bind_some, hnc' g hgg, if_neg h0]
       rw [hg g (hgg _ (by rw [he]; simp [touchV, hcf]))]; rfl
  ·simp at ha
 case clr z x =>
  simp only [aop, AOp.wr, AOp.touch] at ha ⊢
  unfold xClr at ha
  split at ha
  ·rename_i a n cap he
   split at ha
   ·rename_i h0
    simp only [Option.some.injEq, Prod.mk.injEq] at ha
    obtain ⟨rfl, rfl⟩ := ha
    refine ⟨none, rfl, by simp, fun g hgg => ?_⟩
    simp only [xClr, he, if_pos h0, H.upd]
   ·rename_i h0
    split at ha
    ·simp at ha
    ·rename_i hcf
     simp only [Option.map_eq_some_iff, Prod.mk.injEq] at ha
     obtain ⟨h1, hs, rfl, rfl⟩ := ha
     obtain ⟨row, hlo, rfl, hne, hg⟩ := storeN_local hs
     refine ⟨some (a.block, row), rfl, fun r' row' er => .inr ?_, fun g hgg => ?_⟩
     ·simp at er; rw [← er.1, he]; exact ⟨hlo, by simp [touchV, hcf], hne⟩
     ·simp only [xClr, he, if_neg hcf, if_neg h0]
      rw [hg g (hgg _ (by rw [he]; simp [touchV, hcf]))]; rfl
  ·rename_i he
   simp only [Option.some.injEq, Prod.mk.injEq] at ha
   obtain ⟨rfl, rfl⟩ := ha
   refine ⟨none, rfl, by simp, fun g hgg => ?_⟩
   simp only [xClr, he, H.upd]
  ·simp at ha
 case dead => simp [aop] at ha
 all_goals exact Loc.flat ha

end AE

/- Which temporaries an operation reads. -/
namespace AE
open Go

def Opd.rd : Opd → List Nat
 | .t n => [n]
 | .c _ => []
 | .m n _ => [n]
def rdL : List Opd → List Nat
 | [] => []
 | x :: xs => x.rd ++ rdL xs
def rdO : Option Opd → List Nat
 | none => []
 | some x => x.rd
def rdP : List (Nat × Nat × Opd) → List Nat
 | [] => []
 | p :: ps => p.2.2.rd ++ rdP ps
def rdR (xs : List Operand) : List Nat := xs.filterMap fun x => match x with | .tmp t => some t | _ => none

def AOp.rd : AOp → List Nat
 | .mv x => x.rd
 | .pick c a b => c.rd ++ a.rd ++ b.rd
 | .alloc _ _ => []
 | .box x _ => x.rd
 | .build _ ps => rdP ps
 | .bslice _ ps _ _ => rdP ps
 | .load1 a => a.rd
 | .loadn _ a => a.rd
 | .store _ a x => a.rd ++ x.rd
 | .nilck x => x.rd
 | .int _ x y => x.rd ++ y.rd
 | .idiv _ x y => x.rd ++ y.rd
 | .not x => x.rd
 | .neg x => x.rd
 | .conv _ x => x.rd
 | .mnmx _ x y => x.rd ++ y.rd
 | .pure o => rdR o.op.operands.toList
 | .cmp _ _ x y o => x.rd ++ y.rd ++ rdR o.op.operands.toList
 | .mkif _ x => x.rd
 | .mkfn _ fs cs => rdL fs ++ rdL cs
 | .mkmap => []
 | .mkslice _ _ _ l c => l.rd ++ c.rd
 | .slarr _ _ x l hi m => x.rd ++ rdO l ++ rdO hi ++ rdO m
 | .slsl _ x l hi m => x.rd ++ rdO l ++ rdO hi ++ rdO m
 | .faddr _ x => x.rd
 | .field1 _ x => x.rd
 | .fieldn _ _ x => x.rd
 | .ixarr _ _ x i => x.rd ++ i.rd
 | .ixsl _ x i => x.rd ++ i.rd
 | .ixv1 _ x i => x.rd ++ i.rd
 | .ixvn _ _ x i => x.rd ++ i.rd
 | .extract x _ => x.rd
 | .tass _ _ _ x => x.rd
 | .tiface _ x => x.rd
 | .lookup _ _ _ m k => m.rd ++ k.rd
 | .mapup _ m k v => m.rd ++ k.rd ++ v.rd
 | .len x => x.rd
 | .lenstr x => x.rd
 | .lenmap x => x.rd
 | .b2s x => x.rd
 | .cap x => x.rd
 | .append _ _ _ s x => s.rd ++ x.rd
 | .copy _ d s => d.rd ++ s.rd
 | .clr _ x => x.rd
 | .dead => []
 | .delete _ m k => m.rd ++ k.rd
 | .mrange m => m.rd
 | .srange x => x.rd
 | .snext x => x.rd
 | .entry x => x.rd
 | .mapent _ _ m k => m.rd ++ k.rd
 | .entst m s v => m.rd ++ s.rd ++ v.rd

def noSel (o : Oper) : Bool := match o.op with | .select _ _ => false | _ => true
def AOp.noSel : AOp → Bool
 | .pure o => AE.noSel o
 | .cmp _ _ _ _ o => AE.noSel o
 | .entry _ => false
 | _ => true
theorem AOp.noEnt_of {ao : AOp} (h : ao.noSel = true) : ao.noEnt = true := by cases ao <;> first | rfl | (simp [AOp.noSel] at h)

variable {ts ts' : Ts}
theorem ev_ts {x : Opd} (e : ∀ t ∈ x.rd, ts' t = ts t) : ev ts' x = ev ts x := by
 cases x with
 | t n => exact e n (by simp [Opd.rd])
 | c v => rfl
 | m n nm => simp only [ev]; rw [e n (by simp [Opd.rd])]
theorem evO_ts {x : Option Opd} (e : ∀ t ∈ rdO x, ts' t = ts t) : evO ts' x = evO ts x := by
 cases x with
 | none => rfl
 | some x => simp [evO, ev_ts (x := x) e]
theorem evL_ts : ∀ {xs : List Opd}, (∀ t ∈ rdL xs, ts' t = ts t) → xs.map (ev ts') = xs.map (ev ts)
 | [], _ => rfl
 | x :: xs, e => by
   simp only [rdL, List.mem_append] at e
   rw [List.map_cons, List.map_cons, ev_ts (fun t h => e t (.inl h)), evL_ts (fun t h => e t (.inr h))]
theorem afill_ts : ∀ {ps : List (Nat × Nat × Opd)} (z : List Value), (∀ t ∈ rdP ps, ts' t = ts t) → afill ts' z ps = afill ts z ps
 | [], z, _ => rfl
 | (off, size, x) :: ps, z, e => by
   simp only [rdP, List.mem_append] at e
   simp only [afill, ev_ts (x := x) (fun t h => e t (.inl h))]
   split
   ·exact afill_ts _ (fun t h => e t (.inr h))
   ·rfl
theorem evR_ts {xs : List Operand} (e : ∀ t ∈ rdR xs, ts' t = ts t) : ∀ x ∈ xs, evR ts' x = evR ts x := by
 intro x hx
 cases x with
 | tmp t => exact e t (by simp only [rdR, List.mem_filterMap]; exact ⟨_, hx, rfl⟩)
 | _ => rfl
theorem xPure_ts {P : Program} {o : Oper} (hs : noSel o = true) (e : ∀ t ∈ rdR o.op.operands.toList, ts' t = ts t) : xPure P ts' o = xPure P ts o := by
 have h1 := evR_ts e
 have h2 : execOp (evR ts') o = execOp (evR ts) o := by
  refine execOp_congr o (fun cs b h => ?_) (fun x hx => h1 x (by simpa using hx))
  simp [noSel, h] at hs
 have h3 : (o.op.operands.toList.all fun x => flat (evR ts' x)) = o.op.operands.toList.all fun x => flat (evR ts x) := by
  rw [Bool.eq_iff_iff]
  simp only [List.all_eq_true]
  constructor <;> intro k x hx
  ·rw [← h1 x hx]; exact k x hx
  ·rw [h1 x hx]; exact k x hx
 simp only [xPure, h2, h3]

theorem aop_ts {P : Program} {lo nid : Nat} {h : H} {ao : AOp} (hs : ao.noSel = true) (e : ∀ t ∈ ao.rd, ts' t = ts t) : aop P lo nid ts' h ao = aop P lo nid ts h ao := by
 cases ao <;> simp only [AOp.rd, List.mem_append] at e
 case build z ps => simp only [aop, afill_ts z e]
 case bslice z ps l t => simp only [aop, afill_ts z e]
 case pure o => simp only [aop, xPure_ts (P := P) hs e]
 case cmp sl ne x y o =>
  simp only [aop, xCmp, ev_ts (x := x) (fun t h => e t (.inl (.inl h))), ev_ts (x := y) (fun t h => e t (.inl (.inr h))), xPure_ts (P := P) hs (fun t h => e t (.inr h))]
 case mkfn fn fs cs => simp only [aop, evL_ts (xs := fs) (fun t h => e t (.inl h)), evL_ts (xs := cs) (fun t h => e t (.inr h))]
 case slarr n sz x l hi m =>
  simp only [aop, ev_ts (x := x) (fun t h => e t (.inl (.inl (.inl h)))), evO_ts (x := l) (fun t h => e t (.inl (.inl (.inr h)))), evO_ts (x := hi) (fun t h => e t (.inl (.inr h))), evO_ts (x := m) (fun t h => e t (.inr h))]
 case slsl sz x l hi m =>
  simp only [aop, ev_ts (x := x) (fun t h => e t (.inl (.inl (.inl h)))), evO_ts (x := l) (fun t h => e t (.inl (.inl (.inr h)))), evO_ts (x := hi) (fun t h => e t (.inl (.inr h))), evO_ts (x := m) (fun t h => e t (.inr h))]
 case pick c a b => simp only [aop, ev_ts (x := c) (fun t h => e t (.inl (.inl h))), ev_ts (x := a) (fun t h => e t (.inl (.inr h))), ev_ts (x := b) (fun t h => e t (.inr h))]
 case mapup k m c b => simp only [aop, ev_ts (x := m) (fun t h => e t (.inl (.inl h))), ev_ts (x := c) (fun t h => e t (.inl (.inr h))), ev_ts (x := b) (fun t h => e t (.inr h))]
 case entst m s b => simp only [aop, ev_ts (x := m) (fun t h => e t (.inl (.inl h))), ev_ts (x := s) (fun t h => e t (.inl (.inr h))), ev_ts (x := b) (fun t h => e t (.inr h))]
 case alloc => rfl
 case mkmap => rfl
 case dead => rfl
 all_goals first
  | (rename_i x; simp only [aop, ev_ts (x := x) e]; done)
  | (rename_i x _; simp only [aop, ev_ts (x := x) e]; done)
  | (rename_i x y; simp only [aop, ev_ts (x := x) (fun t h => e t (.inl h)), ev_ts (x := y) (fun t h => e t (.inr h))]; done)

end AE

/- From the loaded operations to the evaluator's: which one stands for which. -/
namespace AE
open Go

def isAggT (P : Program) (t : TypeId) : Option Bool :=
 match P.underlying t with
 | some (.struct _) => some true
 | some (.array _ _) => some true
 | some _ => some false
 | none => none
def sizeT (P : Program) (t : TypeId) : Option Nat := (P.info? t).map (·.size)
def zeroT (P : Program) (t : TypeId) : Option Value := (P.info? t).bind (·.zero)
def zflat (P : Program) (t : TypeId) : Option Value := (zeroT P t).bind fun z => if flat z then some z else none

def cOpd : Operand → Option Opd
 | .tmp t => some (.t t)
 | .const v => if flat v then some (.c v) else none
 | .func f => some (.c (.func (.func f) #[] #[]))
 | .global _ => none
def cOpds : List Operand → Option (List Opd)
 | [] => some []
 | x :: xs => (cOpd x).bind fun y => (cOpds xs).map (y :: ·)
def cOptO : Option Operand → Option (Option Opd)
 | none => some none
 | some x => (cOpd x).map some
def cParts (place : Nat → Option (Nat × Nat)) : List (Nat × Operand) → Option (List (Nat × Nat × Opd))
 | [] => some []
 | (i, x) :: rest => (place i).bind fun p => (cOpd x).bind fun y => (cParts place rest).map ((p.1, p.2, y) :: ·)

def iopOf : BinOp → Option IOp
 | .add => some .add
 | .sub => some .sub
 | .mul => some .mul
 | .eql => some .eql
 | .neq => some .neq
 | .lss => some .lss
 | .leq => some .leq
 | .gtr => some .gtr
 | .geq => some .geq
 | _ => none

def fieldPlaces (P : Program) (fields : Array Field) (i : Nat) : Option (Nat × Nat) := (fields[i]?).bind fun f => (sizeT P f.type).map fun s => (f.offset, s)

def cBin (P : Program) (o : Oper) (op : BinOp) (t : TypeId) (x y : Operand) : Option AOp :=
 (cOpd x).bind fun x' => (cOpd y).bind fun y' =>
 match P.underlying t with
 | some (.int .i64) =>
   match iopOf op with
   | some i => some (.int i x' y')
   | none => match op with
     | .quo => some (.idiv true x' y')
     | .rem => some (.idiv false x' y')
     | _ => some (.pure o)
 | some (.pointer _) => match op with
   | .eql => some (.cmp (some false) false x' y' o)
   | .neq => some (.cmp (some false) true x' y' o)
   | _ => some (.pure o)
 | some (.slice _) => match op with
   | .eql => some (.cmp (some true) false x' y' o)
   | .neq => some (.cmp (some true) true x' y' o)
   | _ => some (.pure o)
 | some (.map _ _) => match op with
   | .eql => some (.cmp none false x' y' o)
   | .neq => some (.cmp none true x' y' o)
   | _ => some (.pure o)
 | _ => some (.pure o)

def cCall (P : Program) (o : Oper) (c : Call) : Option AIns :=
 match c.callee with
 | .value f => (cOpd f).bind fun f' => (cOpds c.args.toList).map fun as => .call f' as
 | .invoke x nm => match cOpd x with
   | some (.t n) => (cOpds c.args.toList).map fun as => .call (.m n nm) as
   | _ => none
 | .builtin b =>
   match c.args.toList, c.argTypes.toList with
   | [x], [t] =>
     (cOpd x).bind fun x' =>
     match b, P.underlying t with
     | .len, some (.slice _) => some (.op (.len x'))
     | .len, some .string => some (.op (.lenstr x'))
     | .len, some (.map _ _) => some (.op (.lenmap x'))
     | .cap, some (.slice _) => some (.op (.cap x'))
     | .clear, some (.slice e) => (zflat P e).map fun z => .op (.clr (cellsL z) x')
     | _, _ => none
   | [x, y], [t, u] =>
     (cOpd x).bind fun x' => (cOpd y).bind fun y' =>
     match b, P.underlying t with
     | .append, some (.slice e) =>
       match P.underlying u with
       | some (.int _) => none
       | some _ => (P.info? e).bind fun ie => (zflat P e).bind fun z => if ie.size ≠ 0 ∧ (cellsL z).length = ie.size then some (.op (.append e ie.size ie.bytes x' y')) else none
       | none => none
     | .copy, some (.slice e) => (sizeT P e).map fun s => .op (.copy s x' y')
     | .delete, some (.map k _) => some (.op (.delete k x' y'))
     | .min, some (.int .i64) => some (.op (.mnmx false x' y'))
     | .max, some (.int .i64) => some (.op (.mnmx true x' y'))
     | .min, _ => some (.op (.pure o))
     | .max, _ => some (.op (.pure o))
     | _, _ => none
   | xs, _ =>
     match b with
     | .min | .max => (cOpds xs).map fun _ => .op (.pure o)
     | _ => none

def comp0 (P : Program) (o : Oper) : Option AIns :=
 match o.op with
 | .move x => (cOpd x).map fun x' => .op (.mv x')
 | .assign x => (cOpd x).map fun x' => .op (.mv x')
 | .pick c a b => (cOpd c).bind fun c' => (cOpd a).bind fun a' => (cOpd b).map fun b' => .op (.pick c' a' b')
 | .alloc e => (zflat P e).map fun z => .op (.alloc (cellsL z) e)
 | .box e x => (cOpd x).map fun x' => .op (.box x' e)
 | .build t parts =>
   (zflat P t).bind fun z =>
   match P.underlying t with
   | some (.struct fields) => if fields.toList.all (fun f => (sizeT P f.type).isSome) = true then (cParts (fieldPlaces P fields) parts.toList).map fun ps => .op (.build (cellsL z) ps) else none
   | some (.array _ e) => (sizeT P e).bind fun s => (cParts (fun i => some (i * s, s)) parts.toList).map fun ps => .op (.build (cellsL z) ps)
   | _ => none
 | .buildSlice t len parts =>
   match P.underlying t with
   | some (.slice e) =>
     (P.info? e).bind fun ie => (zflat P e).bind fun z =>
     if len * ie.size ≤ 2 ^ 24 ∧ ie.size ≠ 0 ∧ (cellsL z).length = ie.size then
      (cParts (fun i => some (i * ie.size, ie.size)) parts.toList).map fun ps => .op (.bslice (reps (cellsL z) len) ps len e)
     else none
   | _ => none
 | .load t a =>
   (cOpd a).bind fun a' =>
   match isAggT P t with
   | some true => (sizeT P t).map fun n => .op (.loadn n a')
   | some false => some (.op (.load1 a'))
   | none => none
 | .store t a x => (sizeT P t).bind fun n => (cOpd a).bind fun a' => (cOpd x).map fun x' => .op (.store n a' x')
 | .nilCheck x => (cOpd x).map fun x' => .op (.nilck x')
 | .binOp op t x y _ => (cBin P o op t x y).map .op
 | .unOp op t x =>
   (cOpd x).bind fun x' =>
   match op, P.underlying t with
   | .not, _ => some (.op (.not x'))
   | .neg, some (.int .i64) => some (.op (.neg x'))
   | _, _ => some (.op (.pure o))
 | .convert s d x =>
   (cOpd x).bind fun x' =>
   match P.underlying s, P.underlying d with
   | some (.int _), some (.int k) => some (.op (.conv k x'))
   | some (.slice e), some .string => match P.underlying e with
     | some (.int .u8) => some (.op (.b2s x'))
     | _ => none
   | _, _ => some (.op (.pure o))
 | .makeInterface t x =>
   match P.underlying t with
   | some (.interface _) => none
   | some _ => (cOpd x).map fun x' => .op (.mkif t x')
   | none => none
 | .makeFunc fn first captured => if fnFlat fn then (cOpds first.toList).bind fun f => (cOpds captured.toList).map fun c => .op (.mkfn fn f c) else none
 | .makeMap _ none => some (.op .mkmap)
 | .makeSlice t l c =>
   match P.underlying t with
   | some (.slice e) =>
     (P.info? e).bind fun ie => (zflat P e).bind fun z =>
     if ie.size ≠ 0 ∧ (cellsL z).length = ie.size then
      (cOpd l).bind fun l' => (cOpd c).map fun c' => .op (.mkslice (cellsL z) ie.bytes e l' c')
     else none
   | _ => none
 | .slice t x lo hi mx =>
   (cOpd x).bind fun x' => (cOptO lo).bind fun lo' => (cOptO hi).bind fun hi' => (cOptO mx).bind fun mx' =>
   if mx'.isSome ∧ hi'.isNone then none else
   match P.underlying t with
   | some (.array n e) => (sizeT P e).map fun s => .op (.slarr n s x' lo' hi' mx')
   | some (.slice e) => (sizeT P e).map fun s => .op (.slsl s x' lo' hi' mx')
   | some .string => some (.op (.pure o))
   | _ => none
 | .fieldAddr s x f =>
   match P.underlying s with
   | some (.struct fields) => (fields[f]?).bind fun fd => (sizeT P fd.type).bind fun n => if n = 0 then none else (cOpd x).map fun x' => .op (.faddr fd.offset x')
   | _ => none
 | .field t x f =>
   match P.underlying t with
   | some (.struct fields) =>
     (fields[f]?).bind fun fd => (cOpd x).bind fun x' =>
     match isAggT P fd.type with
     | some true => (sizeT P fd.type).map fun n => .op (.fieldn fd.offset n x')
     | some false => some (.op (.field1 fd.offset x'))
     | none => none
   | _ => none
 | .indexAddr t x i =>
   (cOpd x).bind fun x' => (cOpd i).bind fun i' =>
   match P.underlying t with
   | some (.array n e) => (sizeT P e).map fun s => .op (.ixarr n s x' i')
   | some (.slice e) => (sizeT P e).map fun s => .op (.ixsl s x' i')
   | _ => none
 | .index t x i =>
   (cOpd x).bind fun x' => (cOpd i).bind fun i' =>
   match P.underlying t with
   | some (.array n e) =>
     match isAggT P e with
     | some true => (sizeT P e).map fun s => .op (.ixvn n s x' i')
     | some false => if sizeT P e = some 1 then some (.op (.ixv1 n x' i')) else none
     | none => none
   | some .string => some (.op (.pure o))
   | _ => none
 | .extract x i => (cOpd x).map fun x' => .op (.extract x' i)
 | .typeAssert x _ t ok =>
   match P.underlying t with
   | some (.interface _) => if ok = true then none else (cOpd x).map fun x' => .op (.tiface t x')
   | some _ => (zflat P t).bind fun z => (cOpd x).map fun x' => .op (.tass t z ok x')
   | none => none
 | .lookup t m k ok =>
   match P.underlying t with
   | some (.map kt e) => (zflat P e).bind fun z => (cOpd m).bind fun m' => (cOpd k).map fun k' => .op (.lookup kt z ok m' k')
   | _ => none
 | .mapUpdate t m k v =>
   match P.underlying t with
   | some (.map kt _) => (cOpd m).bind fun m' => (cOpd k).bind fun k' => (cOpd v).map fun v' => .op (.mapup kt m' k' v')
   | _ => none
 | .insert t m k v =>
   match P.underlying t with
   | some (.map kt _) => (cOpd m).bind fun m' => (cOpd k).bind fun k' => (cOpd v).map fun v' => .op (.mapup kt m' k' v')
   | _ => none
 | .call c => cCall P o c
 | .panic _ => some (.op .dead)
 | .range t x =>
   match P.underlying t with
   | some (.map _ _) => (cOpd x).map fun x' => .op (.mrange x')
   | some .string => (cOpd x).map fun x' => .op (.srange x')
   | _ => none
 | .next x st => if st = true then (cOpd x).map fun x' => .op (.snext x') else none
 | .entry x => (cOpd x).map fun x' => .op (.entry x')
 | .mapEntry t m k =>
   match P.underlying t with
   | some (.map kt e) => (zflat P e).bind fun z => (cOpd m).bind fun m' => (cOpd k).map fun k' => .op (.mapent kt z m' k')
   | _ => none
 | .entryStore _ m s v => (cOpd m).bind fun m' => (cOpd s).bind fun s' => (cOpd v).map fun v' => .op (.entst m' s' v')
 | _ => none

def comp (P : Program) (o : Oper) : Option AIns := match o.op with
 | .defer _ => none
 | .next _ false => none
 | _ => some ((comp0 P o).getD (.op .dead))
theorem comp_op {P : Program} {o : Oper} {ao : AOp} (h : comp P o = some (.op ao)) (hd : ao ≠ .dead) : comp0 P o = some (.op ao) := by
 unfold comp at h
 split at h
 ·cases h
 ·cases h
 ·cases e : comp0 P o with
  | none => rw [e] at h; simp at h; exact absurd h.symm hd
  | some x => rw [e] at h; simpa using h

end AE

/- Operations that touch nothing of the heap. -/
namespace AE
open Go

section
variable {P : Program} {I : Inj} {ts : Ts} {ρ : Operand → Value}

def Ev (I : Inj) (ts : Ts) (ρ : Operand → Value) : Prop := ∀ x x', cOpd x = some x' → ρ x = ren I (ev ts x') ∧ In I (ev ts x')

theorem pureRun_run {α : Type} (P : Program) : ∀ (s : Sem α) (a : α), pureRun P s = some a → ∀ w, s.run P w = .ok a w
 | .pure b, a, h, w => by simp [pureRun] at h; subst h; rfl
 | .program k, a, h, w => by
   simp only [pureRun] at h
   exact pureRun_run P (k P) a h w
 | .load _ _ _, _, h, _ => by simp [pureRun] at h
 | .store _ _ _ _, _, h, _ => by simp [pureRun] at h
 | .new _ _, _, h, _ => by simp [pureRun] at h
 | .shape _ _, _, h, _ => by simp [pureRun] at h
 | .freeze _ _ _, _, h, _ => by simp [pureRun] at h
 | .frozen _ _, _, h, _ => by simp [pureRun] at h
 | .getObj _ _, _, h, _ => by simp [pureRun] at h
 | .setObj _ _ _, _, h, _ => by simp [pureRun] at h
 | .choose _ _, _, h, _ => by simp [pureRun] at h
 | .sys _ _, _, h, _ => by simp [pureRun] at h
 | .mark _ _, _, h, _ => by simp [pureRun] at h
 | .halt _, _, h, _ => by simp [pureRun] at h

def Lite (P : Program) (I : Inj) (ρ : Operand → Value) (o : Oper) (v : Value) : Prop := In I v ∧ ∀ w, (execOp ρ o).run P w = .ok (.value (ren I v)) w

theorem lite_pure (hρ : Ev I ts ρ) {o : Oper} {v : Value} (hs : ∀ cs b, o.op ≠ .select cs b) (hx : ∀ x ∈ o.op.operands, ∃ x', cOpd x = some x')
 (h : xPure P ts o = some v) : Lite P I ρ o v := by
 unfold xPure at h
 split at h
 ·rename_i hf
  have hρ' : ∀ x ∈ o.op.operands, ρ x = evR ts x := by
   intro x hxm
   obtain ⟨x', e⟩ := hx x hxm
   have hfl : flat (evR ts x) = true := List.all_eq_true.1 hf x (by simpa using hxm)
   have hev : ev ts x' = evR ts x := by
    cases x with
    | tmp t => simp [cOpd] at e; subst e; rfl
    | const v => simp only [cOpd] at e; split at e <;> simp at e; subst e; rfl
    | global g => simp [cOpd] at e
    | func f => simp [cOpd] at e; subst e; rfl
   rw [(hρ x x' e).1, hev, (flat_ren I _ hfl).1]
  rw [Lite, execOp_congr o hs hρ']
  unfold pureOut at h
  split at h
  ·rename_i v' hr
   split at h
   ·rename_i hfv
    simp at h; subst h
    obtain ⟨e, i⟩ := flat_ren I v' hfv
    exact ⟨i, fun w => by rw [e]; exact pureRun_run P _ _ hr w⟩
   ·simp at h
  ·simp at h
 ·simp at h


theorem run_sizeT {t : TypeId} {n : Nat} (h : sizeT P t = some n) (w : World) : (Go.sizeOf t).run P w = .ok n w := by
 unfold sizeT at h
 cases hi : P.info? t with
 | none => simp [hi] at h
 | some i => simp [hi] at h; simp [Go.sizeOf, run_typeInfo w hi, h]
theorem run_isAggT {t : TypeId} {b : Bool} (h : isAggT P t = some b) (w : World) : (isAgg t).run P w = .ok b w := by
 unfold isAggT at h
 cases hu : P.underlying t with
 | none => simp [hu] at h
 | some d => cases d <;> simp [hu] at h <;> subst h <;> simp [isAgg, run_underlying hu]
theorem run_zflat {t : TypeId} {z : Value} (h : zflat P t = some z) (w : World) : (zeroValue t).run P w = .ok z w ∧ flat z = true := by
 unfold zflat zeroT at h
 cases hi : P.info? t with
 | none => simp [hi] at h
 | some i =>
   simp only [hi, Option.bind_some] at h
   cases hz : i.zero with
   | none => simp [hz] at h
   | some z' =>
     simp only [hz, Option.bind_some] at h
     split at h <;> simp at h
     subst h
     exact ⟨by simp [zeroValue, run_typeInfo w hi, hz], by assumption⟩

theorem lite_mv (hρ : Ev I ts ρ) {o : Oper} {x : Operand} {x' : Opd} (ho : o.op = .move x ∨ o.op = .assign x) (hx : cOpd x = some x') : Lite P I ρ o (ev ts x') := by
 obtain ⟨e, i⟩ := hρ x x' hx
 rcases ho with ho | ho <;> exact ⟨i, fun w => by simp [execOp, ho, e]⟩

theorem lite_pick (hρ : Ev I ts ρ) {o : Oper} {c a b : Operand} {c' a' b' : Opd} {v : Value} (ho : o.op = .pick c a b) (hc : cOpd c = some c') (ha : cOpd a = some a') (hb : cOpd b = some b')
 (h : xPick (ev ts a') (ev ts b') (ev ts c') = some v) : Lite P I ρ o v := by
 obtain ⟨ec, -⟩ := hρ c c' hc
 obtain ⟨ea, ia⟩ := hρ a a' ha
 obtain ⟨eb, ib⟩ := hρ b b' hb
 unfold xPick at h
 split at h
 ·rename_i t ht
  rw [ht] at ec
  simp at h; subst h
  refine ⟨by split <;> assumption, fun w => ?_⟩
  simp only [execOp, ho, ec, ea, eb, ren]
  cases t <;> simp [asBool]
 ·simp at h

theorem lite_nilck (hρ : Ev I ts ρ) {o : Oper} {x : Operand} {x' : Opd} {v : Value} (ho : o.op = .nilCheck x) (hx : cOpd x = some x') (h : xNilck (ev ts x') = some v) : Lite P I ρ o v := by
 obtain ⟨e, i⟩ := hρ x x' hx
 unfold xNilck at h
 split at h
 ·rename_i a ha
  rw [ha] at e i
  simp at h; subst h
  refine ⟨i, fun w => ?_⟩
  obtain ⟨p, hp⟩ := i
  simp [execOp, ho, e, ren, renA, hp]
 ·simp at h

theorem lite_int (hρ : Ev I ts ρ) {o : Oper} {op : BinOp} {i : IOp} {t t' : TypeId} {x y : Operand} {x' y' : Opd} {v : Value} (ho : o.op = .binOp op t x y t')
 (hi : iopOf op = some i) (hx : cOpd x = some x') (hy : cOpd y = some y') (h : xInt i (ev ts x') (ev ts y') = some v) : Lite P I ρ o v := by
 obtain ⟨ex, -⟩ := hρ x x' hx
 obtain ⟨ey, -⟩ := hρ y y' hy
 unfold xInt at h
 split at h
 ·rename_i a b ha hb
  rw [ha] at ex
  rw [hb] at ey
  simp only [ren] at ex ey
  simp at h; subst h
  cases op <;> simp [iopOf] at hi <;> subst hi <;>
   exact ⟨by simp [iop, In], fun w => by simp [execOp, ho, ex, ey, eqGuard, binOp, Op.intArith, Op.intCmp, iop, ren, w64]⟩
 ·simp at h

theorem lite_idiv (hρ : Ev I ts ρ) {o : Oper} {op : BinOp} {q : Bool} {t t' : TypeId} {x y : Operand} {x' y' : Opd} {v : Value} (ho : o.op = .binOp op t x y t')
 (hi : op = if q then .quo else .rem) (hx : cOpd x = some x') (hy : cOpd y = some y') (h : xIdiv q (ev ts x') (ev ts y') = some v) : Lite P I ρ o v := by
 obtain ⟨ex, -⟩ := hρ x x' hx
 obtain ⟨ey, -⟩ := hρ y y' hy
 unfold xIdiv at h
 split at h
 ·rename_i a b ha hb
  rw [ha] at ex
  rw [hb] at ey
  simp only [ren] at ex ey
  split at h <;> simp at h
  rename_i hb0
  subst h
  cases q <;> simp at hi <;> subst hi <;>
   exact ⟨by simp [In], fun w => by simp [execOp, ho, ex, ey, eqGuard, binOp, Op.intDiv, hb0, ren, w64]⟩
 ·simp at h

theorem lite_not (hρ : Ev I ts ρ) {o : Oper} {t : TypeId} {x : Operand} {x' : Opd} {v : Value} (ho : o.op = .unOp .not t x) (hx : cOpd x = some x') (h : xNot (ev ts x') = some v) : Lite P I ρ o v := by
 obtain ⟨e, -⟩ := hρ x x' hx
 unfold xNot at h
 split at h
 ·rename_i b hb
  rw [hb] at e
  simp at h; subst h
  exact ⟨by simp [In], fun w => by simp [execOp, ho, e, ren, Op.unary]⟩
 ·simp at h
theorem lite_neg (hρ : Ev I ts ρ) {o : Oper} {t : TypeId} {x : Operand} {x' : Opd} {v : Value} (ho : o.op = .unOp .neg t x) (hx : cOpd x = some x') (h : xNeg (ev ts x') = some v) : Lite P I ρ o v := by
 obtain ⟨e, -⟩ := hρ x x' hx
 unfold xNeg at h
 split at h
 ·rename_i b hb
  rw [hb] at e
  simp at h; subst h
  exact ⟨by simp [In], fun w => by simp [execOp, ho, e, ren, Op.unary, Op.intArith, w64]⟩
 ·simp at h
theorem lite_conv (hρ : Ev I ts ρ) {o : Oper} {s d : TypeId} {j k : IntKind} {x : Operand} {x' : Opd} {v : Value} (ho : o.op = .convert s d x) (hs : P.underlying s = some (.int j)) (hd : P.underlying d = some (.int k))
 (hx : cOpd x = some x') (h : xConv k (ev ts x') = some v) : Lite P I ρ o v := by
 obtain ⟨e, -⟩ := hρ x x' hx
 unfold xConv at h
 split at h
 ·rename_i b hb
  rw [hb] at e
  simp at h; subst h
  exact ⟨by simp [In], fun w => by simp [execOp, ho, e, ren, convert, run_underlying hs, run_underlying hd, Conv.intToInt]⟩
 ·simp at h
theorem lite_mnmx (hρ : Ev I ts ρ) {o : Oper} {m : Bool} {b : Builtin} {x y : Operand} {x' y' : Opd} {ty : Array TypeId} {v : Value} (hb : b = if m then .max else .min) (ho : o.op = .call ⟨.builtin b, #[x, y], ty⟩)
 (hx : cOpd x = some x') (hy : cOpd y = some y') (h : xMnmx m (ev ts x') (ev ts y') = some v) : Lite P I ρ o v := by
 obtain ⟨ex, -⟩ := hρ x x' hx
 obtain ⟨ey, -⟩ := hρ y y' hy
 unfold xMnmx at h
 split at h
 ·rename_i a c ha hc
  rw [ha] at ex
  rw [hc] at ey
  simp only [ren] at ex ey
  simp at h; subst h
  cases m <;> simp at hb <;> subst hb <;>
   exact ⟨by simp [In], fun w => by simp [execOp, ho, ex, ey, resolve, invoke, builtin, Builtin.min_, Builtin.max_, Builtin.min2, Builtin.max2, ren]⟩
 ·simp at h
theorem lite_mkif (hρ : Ev I ts ρ) {o : Oper} {t : TypeId} {d : TypeDesc} {x : Operand} {x' : Opd} (ho : o.op = .makeInterface t x) (ht : P.underlying t = some d) (hd : ∀ m, d ≠ .interface m) (hx : cOpd x = some x') :
 Lite P I ρ o (.iface t (ev ts x')) := by
 obtain ⟨e, i⟩ := hρ x x' hx
 refine ⟨by simpa [In] using i, fun w => ?_⟩
 cases d <;> first
  | exact absurd rfl (hd _)
  | simp [execOp, ho, e, ren, Instr.makeInterface, run_underlying ht]

theorem cOpds_ev (hρ : Ev I ts ρ) : ∀ (xs : List Operand) (ys : List Opd), cOpds xs = some ys → xs.map ρ = renL I (ys.map (ev ts)) ∧ InL I (ys.map (ev ts))
 | [], ys, h => by simp [cOpds] at h; subst h; simp [renL, InL]
 | x :: xs, ys, h => by
   simp only [cOpds, Option.bind_eq_some_iff, Option.map_eq_some_iff] at h
   obtain ⟨y, hy, zs, hz, rfl⟩ := h
   obtain ⟨e, i⟩ := hρ x y hy
   obtain ⟨e2, i2⟩ := cOpds_ev hρ xs zs hz
   simp only [List.map_cons, renL, InL]
   exact ⟨by rw [e, e2], i, i2⟩
theorem lite_mkfn (hρ : Ev I ts ρ) {o : Oper} {fn : Fn} {fs cs : Array Operand} {f' c' : List Opd} (ho : o.op = .makeFunc fn fs cs) (hf : fnFlat fn = true) (h1 : cOpds fs.toList = some f') (h2 : cOpds cs.toList = some c') :
 Lite P I ρ o (.func fn ⟨f'.map (ev ts)⟩ ⟨c'.map (ev ts)⟩) := by
 obtain ⟨e1, i1⟩ := cOpds_ev hρ _ _ h1
 obtain ⟨e2, i2⟩ := cOpds_ev hρ _ _ h2
 have hn : renFn I fn = fn ∧ InFn I fn := by cases fn <;> simp_all [fnFlat, renFn, InFn]
 refine ⟨by simp only [In]; exact ⟨hn.2, i1, i2⟩, fun w => ?_⟩
 have a1 : fs.map ρ = ⟨fs.toList.map ρ⟩ := by cases fs; simp
 have a2 : cs.map ρ = ⟨cs.toList.map ρ⟩ := by cases cs; simp
 simp [execOp, ho, Instr.makeFunc, ren, a1, a2, e1, e2, hn.1]

theorem renA_aadd {a : Addr} (ha : InA I a) (n : Nat) : InA I (aadd a n) ∧ renA I (aadd a n) = (renA I a).map (·.add n) := by
 obtain ⟨p, hp⟩ := ha
 refine ⟨⟨p, by simpa [aadd] using hp⟩, ?_⟩
 simp only [renA, aadd, hp, Option.map_some, Addr.add]
 split
 ·rename_i h; subst h; simp
 ·simp [Nat.add_assoc]
theorem renA_some {a : Addr} (ha : InA I a) : ∃ b, renA I a = some b := by
 obtain ⟨p, hp⟩ := ha
 exact ⟨⟨p.1, p.2 + a.off, none⟩, by simp only [renA, hp]⟩

theorem lite_faddr (hρ : Ev I ts ρ) {o : Oper} {s : TypeId} {f n : Nat} {fields : Array Field} {fd : Field} {x : Operand} {x' : Opd} {v : Value} (ho : o.op = .fieldAddr s x f) (hs : P.underlying s = some (.struct fields))
 (hf : fields[f]? = some fd) (hn : sizeT P fd.type = some n) (hn0 : n ≠ 0) (hx : cOpd x = some x') (h : xFaddr fd.offset (ev ts x') = some v) : Lite P I ρ o v := by
 obtain ⟨e, i⟩ := hρ x x' hx
 unfold xFaddr at h
 split at h
 ·rename_i a ha
  rw [ha] at e i
  simp at h; subst h
  simp only [In] at i
  obtain ⟨i2, e2⟩ := renA_aadd i fd.offset
  obtain ⟨b, hb⟩ := renA_some i
  refine ⟨by simpa [In] using i2, fun w => ?_⟩
  simp [execOp, ho, e, ren, Instr.fieldAt, run_underlying hs, hf, Instr.sureAddr, hb, fieldPlace, run_sizeT hn, hn0, e2]
 ·simp at h

theorem cut_some {α : Type} {xs l : List α} {off n : Nat} (h : cut xs off n = some l) : off + n ≤ xs.length ∧ l = (xs.drop off).take n := by
 unfold cut at h
 split at h <;> simp at h
 exact ⟨by assumption, h.symm⟩
theorem InL_cut {xs l : List Value} {off n : Nat} (hx : InL I xs) (h : cut xs off n = some l) : InL I l := by
 obtain ⟨-, rfl⟩ := cut_some h
 exact (InL_iff I _).2 fun v hv => (InL_iff I _).1 hx v (List.mem_of_mem_drop (List.mem_of_mem_take hv))
theorem renL_cut {xs l : List Value} {off n : Nat} (h : cut xs off n = some l) : renL I l = ((renL I xs).drop off).take n := by
 obtain ⟨-, rfl⟩ := cut_some h
 simp [renL_map, List.map_take, List.map_drop]

theorem run_part_agg {t : TypeId} {n off : Nat} {cs l : List Value} (ha : isAggT P t = some true) (hn : sizeT P t = some n) (hc : cut cs off n = some l) (w : World) :
 (part t ⟨renL I cs⟩ off).run P w = .ok (.agg ⟨renL I l⟩) w := by
 rw [renL_cut hc]
 simp [part, run_isAggT ha, run_sizeT hn]
theorem run_part_one {t : TypeId} {off : Nat} {cs : List Value} {v : Value} (ha : isAggT P t = some false) (hc : cs[off]? = some v) (w : World) :
 (part t ⟨renL I cs⟩ off).run P w = .ok (ren I v) w := by
 have : (renL I cs)[off]? = some (ren I v) := by rw [renL_getElem?, hc]; rfl
 simp [part, run_isAggT ha, this]

theorem lite_field1 (hρ : Ev I ts ρ) {o : Oper} {s : TypeId} {f : Nat} {fields : Array Field} {fd : Field} {x : Operand} {x' : Opd} {v : Value} (ho : o.op = .field s x f) (hs : P.underlying s = some (.struct fields))
 (hf : fields[f]? = some fd) (ha : isAggT P fd.type = some false) (hx : cOpd x = some x') (h : xField1 fd.offset (ev ts x') = some v) : Lite P I ρ o v := by
 obtain ⟨e, i⟩ := hρ x x' hx
 unfold xField1 at h
 split at h
 ·rename_i cs hcs
  rw [hcs] at e i
  cases cs with | mk cs =>
  simp only [In] at i
  refine ⟨InL_get i h, fun w => ?_⟩
  rw [ren_agg] at e
  simp [execOp, ho, e, Instr.field, run_underlying hs, hf, asAgg, run_part_one ha h]
 ·simp at h
theorem lite_fieldn (hρ : Ev I ts ρ) {o : Oper} {s : TypeId} {f n : Nat} {fields : Array Field} {fd : Field} {x : Operand} {x' : Opd} {v : Value} (ho : o.op = .field s x f) (hs : P.underlying s = some (.struct fields))
 (hf : fields[f]? = some fd) (ha : isAggT P fd.type = some true) (hn : sizeT P fd.type = some n) (hx : cOpd x = some x') (h : xFieldn fd.offset n (ev ts x') = some v) : Lite P I ρ o v := by
 obtain ⟨e, i⟩ := hρ x x' hx
 unfold xFieldn at h
 split at h
 ·rename_i cs hcs
  rw [hcs] at e i
  cases cs with | mk cs =>
  simp only [In] at i
  simp only [Option.map_eq_some_iff] at h
  obtain ⟨l, hl, rfl⟩ := h
  refine ⟨by simpa only [In] using InL_cut i hl, fun w => ?_⟩
  rw [ren_agg] at e
  simp [execOp, ho, e, Instr.field, run_underlying hs, hf, asAgg, run_part_agg ha hn hl, ren]
 ·simp at h

theorem natOf_ren {v : Value} {i : Nat} (h : natOf? v = some i) : ∃ k, ren I v = .int k (i : Int) := by
 unfold natOf? at h
 split at h
 ·rename_i k n
  split at h <;> simp at h
  exact ⟨k, by simp only [ren]; congr 1; omega⟩
 ·simp at h
theorem lite_ixarr (hρ : Ev I ts ρ) {o : Oper} {t e : TypeId} {n sz : Nat} {x y : Operand} {x' y' : Opd} {v : Value} (ho : o.op = .indexAddr t x y) (ht : P.underlying t = some (.array n e)) (hsz : sizeT P e = some sz)
 (hx : cOpd x = some x') (hy : cOpd y = some y') (h : xIxarr n sz (ev ts y') (ev ts x') = some v) : Lite P I ρ o v := by
 obtain ⟨e1, i1⟩ := hρ x x' hx
 obtain ⟨e2, -⟩ := hρ y y' hy
 unfold xIxarr at h
 split at h
 ·rename_i a ha
  rw [ha] at e1 i1
  simp only [Option.bind_eq_some_iff] at h
  obtain ⟨i, hi, h⟩ := h
  obtain ⟨k, hk⟩ := natOf_ren (I := I) hi
  rw [hk] at e2
  split at h <;> simp at h
  rename_i hlt
  subst h
  simp only [In] at i1
  obtain ⟨i3, e3⟩ := renA_aadd i1 (i * sz)
  obtain ⟨b, hb⟩ := renA_some i1
  refine ⟨by simpa [In] using i3, fun w => ?_⟩
  simp [execOp, ho, e1, e2, ren, Instr.indexAt, run_underlying ht, Instr.sureAddr, hb, asIntOf, run_sizeT hsz, e3, hlt]
 ·simp at h
theorem lite_ixsl (hρ : Ev I ts ρ) {o : Oper} {t e : TypeId} {sz : Nat} {x y : Operand} {x' y' : Opd} {v : Value} (ho : o.op = .indexAddr t x y) (ht : P.underlying t = some (.slice e)) (hsz : sizeT P e = some sz)
 (hx : cOpd x = some x') (hy : cOpd y = some y') (h : xIxsl sz (ev ts y') (ev ts x') = some v) : Lite P I ρ o v := by
 obtain ⟨e1, i1⟩ := hρ x x' hx
 obtain ⟨e2, -⟩ := hρ y y' hy
 unfold xIxsl at h
 split at h
 ·rename_i a n c ha
  rw [ha] at e1 i1
  simp only [Option.bind_eq_some_iff] at h
  obtain ⟨i, hi, h⟩ := h
  obtain ⟨k, hk⟩ := natOf_ren (I := I) hi
  rw [hk] at e2
  split at h <;> simp at h
  rename_i hlt
  subst h
  have hcf : c < far := by
   rcases Nat.lt_or_ge c far with hc | hc
   ·exact hc
   ·rw [In_far hc] at i1; omega
  rw [In_sl hcf] at i1
  rw [ren_sl hcf] at e1
  obtain ⟨i3, e3⟩ := renA_aadd i1.1 (i * sz)
  obtain ⟨b, hb⟩ := renA_some i1.1
  refine ⟨by simpa [In] using i3, fun w => ?_⟩
  simp [execOp, ho, e1, e2, ren, Instr.indexAt, run_underlying ht, hb, asIntOf, run_sizeT hsz, e3, hlt]
 ·simp at h
theorem lite_ixv1 (hρ : Ev I ts ρ) {o : Oper} {t e : TypeId} {n : Nat} {x y : Operand} {x' y' : Opd} {v : Value} (ho : o.op = .index t x y) (ht : P.underlying t = some (.array n e)) (hsz : sizeT P e = some 1) (ha : isAggT P e = some false)
 (hx : cOpd x = some x') (hy : cOpd y = some y') (h : xIxv1 n (ev ts y') (ev ts x') = some v) : Lite P I ρ o v := by
 obtain ⟨e1, i1⟩ := hρ x x' hx
 obtain ⟨e2, -⟩ := hρ y y' hy
 unfold xIxv1 at h
 split at h
 ·rename_i cs hcs
  rw [hcs] at e1 i1
  cases cs with | mk cs =>
  simp only [Option.bind_eq_some_iff] at h
  obtain ⟨i, hi, h⟩ := h
  obtain ⟨k, hk⟩ := natOf_ren (I := I) hi
  rw [hk] at e2
  split at h
  ·rename_i hlt
   simp only [In] at i1
   refine ⟨InL_get i1 h, fun w => ?_⟩
   rw [ren_agg] at e1
   simp [execOp, ho, e1, e2, Instr.index, run_underlying ht, asIntOf, run_sizeT hsz, hlt, run_part_one ha h]
  ·simp at h
 ·simp at h
theorem lite_ixvn (hρ : Ev I ts ρ) {o : Oper} {t e : TypeId} {n sz : Nat} {x y : Operand} {x' y' : Opd} {v : Value} (ho : o.op = .index t x y) (ht : P.underlying t = some (.array n e)) (hsz : sizeT P e = some sz) (ha : isAggT P e = some true)
 (hx : cOpd x = some x') (hy : cOpd y = some y') (h : xIxvn n sz (ev ts y') (ev ts x') = some v) : Lite P I ρ o v := by
 obtain ⟨e1, i1⟩ := hρ x x' hx
 obtain ⟨e2, -⟩ := hρ y y' hy
 unfold xIxvn at h
 split at h
 ·rename_i cs hcs
  rw [hcs] at e1 i1
  cases cs with | mk cs =>
  simp only [Option.bind_eq_some_iff] at h
  obtain ⟨i, hi, h⟩ := h
  obtain ⟨k, hk⟩ := natOf_ren (I := I) hi
  rw [hk] at e2
  split at h
  ·rename_i hlt
   simp only [Option.map_eq_some_iff] at h
   obtain ⟨l, hl, rfl⟩ := h
   simp only [In] at i1
   refine ⟨by simpa only [In] using InL_cut i1 hl, fun w => ?_⟩
   rw [ren_agg] at e1
   simp [execOp, ho, e1, e2, Instr.index, run_underlying ht, asIntOf, run_sizeT hsz, hlt, run_part_agg ha hsz hl, ren]
  ·simp at h
 ·simp at h
theorem lite_extract (hρ : Ev I ts ρ) {o : Oper} {x : Operand} {x' : Opd} {i : Nat} {v : Value} (ho : o.op = .extract x i) (hx : cOpd x = some x') (h : xExtract i (ev ts x') = some v) : Lite P I ρ o v := by
 obtain ⟨e, hi⟩ := hρ x x' hx
 unfold xExtract at h
 split at h
 ·rename_i vs hvs
  rw [hvs] at e hi
  cases vs with | mk vs =>
  simp only [In] at hi
  refine ⟨InL_get hi h, fun w => ?_⟩
  have : (renL I vs)[i]? = some (ren I v) := by rw [renL_getElem?]; simp at h; rw [h]; rfl
  simp [execOp, ho, e, ren, Instr.extract, this]
 ·simp at h
theorem lite_tiface (hρ : Ev I ts ρ) {o : Oper} {t xt : TypeId} {x : Operand} {x' : Opd} {v : Value} (ho : o.op = .typeAssert x xt t false)
 (hx : cOpd x = some x') (h : xTiface P t (ev ts x') = some v) : Lite P I ρ o v := by
 obtain ⟨e, i⟩ := hρ x x' hx
 unfold xTiface at h
 split at h
 ·rename_i u y hy
  rw [hy] at e i
  simp only [ren, In] at e i
  split at h
  ·rename_i want fi ht hu
   split at h
   ·rename_i hm
    simp at h; subst h
    refine ⟨by simpa [In] using i, fun w => ?_⟩
    have hm' : Instr.missingMethod want fi.methods = none := by simpa using hm
    have hti : (typeInfo u).run P w = .ok fi w := by simp [typeInfo, program, Sem.run, hu]
    simp [execOp, ho, e, Instr.typeAssert, run_underlying ht, hti, hm', ren]
   ·simp at h
  ·simp at h
 ·simp at h
theorem lite_tass (hρ : Ev I ts ρ) {o : Oper} {t xt : TypeId} {d : TypeDesc} {ok : Bool} {z : Value} {x : Operand} {x' : Opd} {v : Value} (ho : o.op = .typeAssert x xt t ok) (ht : P.underlying t = some d) (hd : ∀ m, d ≠ .interface m)
 (hz : zflat P t = some z) (hx : cOpd x = some x') (h : xTass t z ok (ev ts x') = some v) : Lite P I ρ o v := by
 obtain ⟨e, i⟩ := hρ x x' hx
 have hzf := (run_zflat hz default).2
 obtain ⟨ez, iz⟩ := flat_ren I z hzf
 unfold xTass at h
 split at h
 ·rename_i u y hy
  rw [hy] at e i
  simp only [ren, In] at e i
  split at h
  ·rename_i hut
   subst hut
   simp at h; subst h
   cases ok
   ·refine ⟨by simpa using i, fun w => ?_⟩
    cases d <;> first
     | exact absurd rfl (hd _)
     | simp [execOp, ho, e, Instr.typeAssert, run_underlying ht]
   ·refine ⟨by simp [In, InL, i], fun w => ?_⟩
    cases d <;> first
     | exact absurd rfl (hd _)
     | simp [execOp, ho, e, Instr.typeAssert, run_underlying ht, ren, renL]
  ·rename_i hut
   split at h <;> simp at h
   rename_i hok
   subst h
   refine ⟨by simp [In, InL, iz], fun w => ?_⟩
   cases d <;> first
    | exact absurd rfl (hd _)
    | simp [execOp, ho, e, Instr.typeAssert, run_underlying ht, ren, renL, hut, hok, (run_zflat hz w).1, ez]
 ·rename_i hy
  rw [hy] at e
  simp only [ren] at e
  split at h <;> simp at h
  rename_i hok
  subst h
  refine ⟨by simp [In, InL, iz], fun w => ?_⟩
  cases d <;> first
   | exact absurd rfl (hd _)
   | simp [execOp, ho, e, Instr.typeAssert, run_underlying ht, ren, renL, hok, (run_zflat hz w).1, ez]
 ·simp at h



theorem splice_length {α : Type} {xs ys : List α} {off : Nat} (h : off + ys.length ≤ xs.length) : (splice xs off ys).length = xs.length := by
 simp [splice]; omega
theorem renL_splice (xs ys : List Value) (off : Nat) : renL I (splice xs off ys) = splice (renL I xs) off (renL I ys) := by
 simp [splice, renL_map, List.map_take, List.map_drop]
theorem InL_splice {xs ys : List Value} {off : Nat} (hx : InL I xs) (hy : InL I ys) : InL I (splice xs off ys) := by
 rw [InL_iff] at *
 intro v hv
 simp only [splice, List.mem_append] at hv
 rcases hv with (hv | hv) | hv
 ·exact hx v (List.mem_of_mem_take hv)
 ·exact hy v hv
 ·exact hx v (List.mem_of_mem_drop hv)

theorem foldl_set (off : Nat) : ∀ (vs : List Value) (k : Nat) (l : List Value), off + k + vs.length ≤ l.length →
 (vs.zipIdx k).foldl (fun cs (x : Value × Nat) => cs.setIfInBounds (off + x.2) x.1) (⟨l⟩ : Array Value) = ⟨l.take (off + k) ++ vs ++ l.drop (off + k + vs.length)⟩
 | [], k, l, h => by simp
 | v :: vs, k, l, h => by
   simp only [List.length_cons] at h
   simp only [List.zipIdx_cons, List.foldl_cons, List.setIfInBounds_toArray]
   rw [foldl_set off vs (k + 1) _ (by simp; omega), List.set_eq_take_append_cons_drop, if_pos (by omega)]
   have e1 : (l.take (off + k)).length = off + k := by simp; omega
   congr 1
   have t1 : ((l.take (off + k)) ++ v :: l.drop (off + k + 1)).take (off + (k + 1)) = l.take (off + k) ++ [v] := by
    rw [List.take_append, e1]
    simp [show off + (k + 1) - (off + k) = 1 by omega]
    exact List.take_of_length_le (by simp; omega)
   have t2 : ((l.take (off + k)) ++ v :: l.drop (off + k + 1)).drop (off + (k + 1) + vs.length) = l.drop (off + k + (vs.length + 1)) := by
    rw [List.drop_append, e1, List.drop_eq_nil_of_le (by simp; omega)]
    simp [show off + (k + 1) + vs.length - (off + k) = vs.length + 1 by omega]
    congr 1; omega
   rw [t1, t2]
   simp

theorem run_fill (hρ : Ev I ts ρ) (place : Nat → Option (Nat × Nat)) : ∀ (ps : List (Nat × Operand)) (qs : List (Nat × Nat × Opd)) (cells l : List Value), cParts place ps = some qs → afill ts cells qs = some l → InL I cells →
 Instr.fill place ⟨renL I cells⟩ (ps.map fun (i, x) => (i, ρ x)) = some ⟨renL I l⟩ ∧ InL I l
 | [], qs, cells, l, hc, ha, hi => by
   simp [cParts] at hc; subst hc
   simp [afill] at ha; subst ha
   simp [Instr.fill, hi]
 | (i, x) :: ps, qs, cells, l, hc, ha, hi => by
   simp only [cParts, Option.bind_eq_some_iff, Option.map_eq_some_iff] at hc
   obtain ⟨p, hp, y, hy, qs', hq, rfl⟩ := hc
   obtain ⟨off, size⟩ := p
   simp only [afill] at ha
   split at ha
   ·rename_i hf
    obtain ⟨e, iv⟩ := hρ x y hy
    have hcl := cellsL_ren I (ev ts y)
    obtain ⟨hl, hoff⟩ := hf
    have ih := run_fill hρ place ps qs' _ l hq ha (InL_splice hi (InL_cellsL iv))
    refine ⟨?_, ih.2⟩
    simp only [List.map_cons, Instr.fill, hp, e, cells_eq]
    rw [if_neg (by simp [hcl, hl]; omega)]
    rw [← ih.1]
    congr 1
    rw [← Array.foldl_toList, Array.toList_zipIdx]
    have := foldl_set off (cellsL (ren I (ev ts y))) 0 (renL I cells) (by simp [hcl, hl]; omega)
    simp only [Nat.add_zero] at this
    rw [this, renL_splice]
    simp [splice, hcl]
   ·simp at ha

theorem run_mapM {α β : Type} (w : World) (f : α → Sem β) (g : α → β) : ∀ (l : List α), (∀ x ∈ l, (f x).run P w = .ok (g x) w) → (l.mapM f).run P w = .ok (l.map g) w
 | [], _ => by simp
 | x :: l, h => by
   have ih := run_mapM w f g l (fun y hy => h y (by simp [hy]))
   simp only [List.mapM_cons, Sem.run_bind, h x (by simp), Result.andThen_ok, ih, Sem.run_pure, List.map_cons]
theorem run_mapMA {α β : Type} (w : World) (f : α → Sem β) (g : α → β) (xs : Array α) (h : ∀ x ∈ xs.toList, (f x).run P w = .ok (g x) w) : (xs.mapM f).run P w = .ok ⟨xs.toList.map g⟩ w := by
 rw [Array.mapM_eq_mapM_toList, Sem.run_map, run_mapM w f g _ h]
 rfl

theorem lite_build (hρ : Ev I ts ρ) {o : Oper} {t : TypeId} {parts : Array (Nat × Operand)} {z : Value} {ps : List (Nat × Nat × Opd)} {l : List Value} (ho : o.op = .build t parts) (hz : zflat P t = some z)
 (hp : (∃ fields, P.underlying t = some (.struct fields) ∧ (fields.toList.all fun f => (sizeT P f.type).isSome) = true ∧ cParts (fieldPlaces P fields) parts.toList = some ps) ∨
  ∃ n e s, P.underlying t = some (.array n e) ∧ sizeT P e = some s ∧ cParts (fun i => some (i * s, s)) parts.toList = some ps)
 (h : afill ts (cellsL z) ps = some l) : Lite P I ρ o (.agg ⟨l⟩) := by
 have hzf := (run_zflat hz default).2
 have hi : InL I (cellsL z) := InL_cellsL (flat_ren I z hzf).2
 have hrz : renL I (cellsL z) = cellsL z := by rw [← cellsL_ren, (flat_ren I z hzf).1]
 rcases hp with ⟨fields, ht, hall, hc⟩ | ⟨n, e, s, ht, hs, hc⟩
 ·obtain ⟨e1, i1⟩ := run_fill hρ _ _ _ _ _ hc h hi
  refine ⟨by simpa [In] using i1, fun w => ?_⟩
  rw [hrz] at e1
  have hm := run_mapMA (P := P) w (fun f : Field => (do pure (f.offset, ← Go.sizeOf f.type) : Sem (Nat × Nat))) (fun f => (f.offset, (sizeT P f.type).getD 0)) fields (fun f hf => by
   obtain ⟨n, hn⟩ := Option.isSome_iff_exists.1 (List.all_eq_true.1 hall f hf)
   simp only [Sem.run_bind, run_sizeT hn, Result.andThen_ok, Sem.run_pure, hn, Option.getD_some])
  have hpl : (fun i => (⟨fields.toList.map fun f => (f.offset, (sizeT P f.type).getD 0)⟩ : Array (Nat × Nat))[i]?) = fieldPlaces P fields := by
   funext i
   simp only [fieldPlaces, List.getElem?_toArray, List.getElem?_map, Array.getElem?_toList]
   cases hf : fields[i]? with
   | none => rfl
   | some f =>
     obtain ⟨n, hn⟩ := Option.isSome_iff_exists.1 (List.all_eq_true.1 hall f (by
      have := Array.mem_of_getElem? hf
      simpa using this))
     simp [hn]
  simp only [execOp, ho, Instr.build, Sem.run_bind, (run_zflat hz w).1, run_underlying ht, Result.andThen_ok, hm, hpl]
  simp [cells_eq, e1, ren]
 ·obtain ⟨e1, i1⟩ := run_fill hρ _ _ _ _ _ hc h hi
  refine ⟨by simpa [In] using i1, fun w => ?_⟩
  rw [hrz] at e1
  simp [execOp, ho, Instr.build, (run_zflat hz w).1, run_underlying ht, run_sizeT hs, cells_eq, e1, ren]

end
end AE

/- Operations that touch nothing of the heap: comparisons with nil, slices, lengths. -/
namespace AE
open Go

section
variable {P : Program} {I : Inj} {ts : Ts} {ρ : Operand → Value}

theorem opds_tmp {o : Oper} {xs : List Operand} (ho : o.op.operands.toList = xs) (h : ∀ x ∈ xs, ∃ x', cOpd x = some x') : ∀ x ∈ o.op.operands, ∃ x', cOpd x = some x' := fun x hx => h x (by rw [← ho]; simpa using hx)

theorem run_equalIn_ptr (d : Nat) {t e : TypeId} (ht : P.underlying t = some (.pointer e)) (a b : Option Addr) (h : a.isNone = true ∨ b.isNone = true) (w : World) :
 (Op.equalIn (d + 1) t (.pointer a) (.pointer b)).run P w = .ok (a.isNone && b.isNone) w := by
 unfold Op.equalIn
 simp only [Sem.run_bind, run_underlying ht, Result.andThen_ok]
 cases a with
 | none => simp
 | some a => cases b with
   | none => simp
   | some b => simp at h
theorem run_equalIn_sl (d : Nat) {t e : TypeId} (ht : P.underlying t = some (.slice e)) (a b : Option Addr) (n1 c1 n2 c2 : Nat) (h : a.isNone = true ∨ b.isNone = true) (w : World) :
 (Op.equalIn (d + 1) t (.slice a n1 c1) (.slice b n2 c2)).run P w = .ok (a.isNone && b.isNone) w := by
 unfold Op.equalIn
 simp only [Sem.run_bind, run_underlying ht, Result.andThen_ok]
 cases a with
 | none => simp
 | some a => cases b with
   | none => simp
   | some b => simp at h
theorem run_equal_ptr {t e : TypeId} (ht : P.underlying t = some (.pointer e)) (a b : Option Addr) (h : a.isNone = true ∨ b.isNone = true) (w : World) :
 (Op.equal t (.pointer a) (.pointer b)).run P w = .ok (a.isNone && b.isNone) w := run_equalIn_ptr 9999 ht a b h w
theorem run_equal_sl {t e : TypeId} (ht : P.underlying t = some (.slice e)) (a b : Option Addr) (n1 c1 n2 c2 : Nat) (h : a.isNone = true ∨ b.isNone = true) (w : World) :
 (Op.equal t (.slice a n1 c1) (.slice b n2 c2)).run P w = .ok (a.isNone && b.isNone) w := run_equalIn_sl 9999 ht a b n1 c1 n2 c2 h w

theorem ptr_ev {x : Value} {a : Option Addr} (e : x = ren I (.pointer a)) (i : In I (.pointer a)) : ∃ a', x = .pointer a' ∧ a'.isNone = a.isNone := by
 cases a with
 | none => simp only [ren] at e; exact ⟨_, e, rfl⟩
 | some a =>
   simp only [ren, In] at e i
   obtain ⟨d, hd⟩ := renA_some i
   exact ⟨_, e, by simp [hd]⟩
theorem slice_ev {x : Value} {a : Option Addr} {n c : Nat} (e : x = ren I (.slice a n c)) (i : In I (.slice a n c)) : ∃ a' c', x = .slice a' n c' ∧ a'.isNone = a.isNone := by
 cases a with
 | none => simp only [ren] at e; exact ⟨_, _, e, rfl⟩
 | some a =>
   rcases Nat.lt_or_ge c far with hc | hc
   ·rw [ren_sl hc] at e
    rw [In_sl hc] at i
    obtain ⟨d, hd⟩ := renA_some i.1
    exact ⟨_, _, e, by simp [hd]⟩
   ·rw [ren_far hc] at e
    exact ⟨_, _, e, rfl⟩

theorem map_ev {a : Option Nat} {x : Value} (e : x = ren I (.map a)) : ∃ b, x = .map b ∧ b.isNone = a.isNone := by
 cases a with
 | none => exact ⟨none, by simpa [ren] using e, rfl⟩
 | some r => exact ⟨some (I.blk r), by simpa only [ren] using e, rfl⟩
theorem run_equal_map {t k e : TypeId} (ht : P.underlying t = some (.map k e)) (a b : Option Nat) (h : a.isNone = true ∨ b.isNone = true) (w : World) : (Op.equal t (.map a) (.map b)).run P w = .ok (a.isNone && b.isNone) w := by
 unfold Op.equal Op.maxDepth Op.equalIn
 cases a <;> cases b <;> simp_all [run_underlying ht]

theorem run_equal_same {t e : TypeId} (ht : P.underlying t = some (.pointer e)) {i : TypeInfo} (hi : P.info? e = some i) (a : Addr) (w : World) :
 (Op.equal t (.pointer (some a)) (.pointer (some a))).run P w = .ok true w := by
 have hs : (Go.sizeOf e).run P w = .ok i.size w := by simp [Go.sizeOf, typeInfo, program, Sem.run, hi]
 show (Op.equalIn (9999 + 1) t _ _).run P w = _
 unfold Op.equalIn
 simp only [Sem.run_bind, run_underlying ht, Result.andThen_ok, hs]
 by_cases h0 : i.size = 0
 ·simp [h0]
 ·simp [h0, sameAddr]
theorem lite_cmp (hρ : Ev I ts ρ) {o : Oper} {sl : Option Bool} {ne : Bool} {t t' : TypeId} {x y : Operand} {x' y' : Opd} {v : Value} (ho : o.op = .binOp (if ne then .neq else .eql) t x y t')
 (ht : match sl with | some true => ∃ e, P.underlying t = some (.slice e) | some false => ∃ e, P.underlying t = some (.pointer e) | none => ∃ k e, P.underlying t = some (.map k e)) (hx : cOpd x = some x') (hy : cOpd y = some y') (h : xCmp P sl ne ts x' y' o = some v) : Lite P I ρ o v := by
 have hpure : xPure P ts o = some v → Lite P I ρ o v := fun hp => lite_pure hρ (by simp [ho]) (opds_tmp (xs := [x, y]) (by simp [ho, Op.operands]) (by simp [hx, hy])) hp
 obtain ⟨e1, i1⟩ := hρ x x' hx
 obtain ⟨e2, i2⟩ := hρ y y' hy
 unfold xCmp at h
 split at h
 ·rename_i b hb
  simp at h; subst h
  refine ⟨by simp [In], fun w => ?_⟩
  unfold cmpNil at hb
  split at hb
  ·rename_i a c hvx hvy
   rw [hvx] at e1 i1
   rw [hvy] at e2 i2
   split at hb
   ·rename_i hc
    obtain ⟨rfl, hc⟩ := hc
    simp only at ht
    obtain ⟨e, ht⟩ := ht
    simp at hb; subst hb
    obtain ⟨a', e1, n1⟩ := ptr_ev e1 i1
    obtain ⟨c', e2, n2⟩ := ptr_ev e2 i2
    have hq := run_equal_ptr (P := P) ht a' c' (by rw [n1, n2]; exact hc) w
    rw [n1, n2] at hq
    cases ne <;> simp [execOp, ho, e1, e2, eqGuard, binOp, hq, ren]
   ·simp at hb
  ·rename_i a k1 c1 c k2 c2 hvx hvy
   rw [hvx] at e1 i1
   rw [hvy] at e2 i2
   split at hb
   ·rename_i hc
    obtain ⟨rfl, hc⟩ := hc
    simp only at ht
    obtain ⟨e, ht⟩ := ht
    simp at hb; subst hb
    obtain ⟨a', c1', e1, n1⟩ := slice_ev e1 i1
    obtain ⟨c', c2', e2, n2⟩ := slice_ev e2 i2
    have hq := run_equal_sl (P := P) ht a' c' k1 c1' k2 c2' (by rw [n1, n2]; exact hc) w
    rw [n1, n2] at hq
    cases ne <;> simp [execOp, ho, e1, e2, eqGuard, binOp, hq, ren]
   ·simp at hb
  ·rename_i a c hvx hvy
   rw [hvx] at e1
   rw [hvy] at e2
   split at hb
   ·rename_i hc
    obtain ⟨rfl, hc⟩ := hc
    simp only at ht
    obtain ⟨k, e, ht⟩ := ht
    simp at hb; subst hb
    obtain ⟨a', e1, n1⟩ := map_ev e1
    obtain ⟨c', e2, n2⟩ := map_ev e2
    have hq := run_equal_map (P := P) ht a' c' (by rw [n1, n2]; exact hc) w
    rw [n1, n2] at hq
    cases ne <;> simp [execOp, ho, e1, e2, eqGuard, binOp, hq, ren]
   ·simp at hb
  ·simp at hb
 ·split at h
  ·rename_i hsame
   simp at h; subst h
   refine ⟨by simp [In], fun w => ?_⟩
   unfold ptrSame at hsame
   split at hsame
   ·rename_i a b hvx hvy
    simp only [Bool.and_eq_true, decide_eq_true_eq, beq_iff_eq] at hsame
    obtain ⟨⟨rfl, rfl⟩, hi⟩ := hsame
    simp only at ht
    obtain ⟨e, ht⟩ := ht
    rw [ho] at hi
    simp only [ht] at hi
    obtain ⟨i, hi⟩ := Option.isSome_iff_exists.1 hi
    rw [hvx] at e1 i1
    rw [hvy] at e2
    simp only [ren, In] at e1 e2 i1
    obtain ⟨d, hd⟩ := renA_some i1
    rw [hd] at e1 e2
    have hq := run_equal_same (P := P) ht hi d w
    cases ne <;> simp [execOp, ho, e1, e2, eqGuard, binOp, hq, ren]
   ·simp at hsame
  ·exact hpure h

theorem lite_len (hρ : Ev I ts ρ) {o : Oper} {t e : TypeId} {x : Operand} {x' : Opd} {v : Value} (ho : o.op = .call ⟨.builtin .len, #[x], #[t]⟩)
 (ht : P.underlying t = some (.slice e)) (hx : cOpd x = some x') (h : xLen (ev ts x') = some v) : Lite P I ρ o v := by
 obtain ⟨e1, i⟩ := hρ x x' hx
 unfold xLen at h
 split at h
 ·rename_i a n c ha
  simp at h; subst h
  refine ⟨by simp [In], fun w => ?_⟩
  rw [ha] at e1
  obtain ⟨a', c', e', -⟩ := slice_ev e1 (by rw [ha] at i; exact i)
  simp [execOp, ho, resolve, invoke, builtin, Builtin.len_, e', run_underlying ht, goInt, ren]
 ·simp at h
theorem lite_lenstr (hρ : Ev I ts ρ) {o : Oper} {t : TypeId} {x : Operand} {x' : Opd} {v : Value} (ho : o.op = .call ⟨.builtin .len, #[x], #[t]⟩)
 (ht : P.underlying t = some .string) (hx : cOpd x = some x') (h : xLenstr (ev ts x') = some v) : Lite P I ρ o v := by
 obtain ⟨e, i⟩ := hρ x x' hx
 unfold xLenstr at h
 split at h
 ·rename_i s hs
  rw [hs] at e
  simp only [ren] at e
  simp at h; subst h
  refine ⟨by simp [In], fun w => ?_⟩
  simp [execOp, ho, resolve, invoke, builtin, Builtin.len_, e, run_underlying ht, goInt, ren]
 ·simp at h
theorem lite_cap (hρ : Ev I ts ρ) {o : Oper} {t e : TypeId} {x : Operand} {x' : Opd} {v : Value} (ho : o.op = .call ⟨.builtin .cap, #[x], #[t]⟩)
 (ht : P.underlying t = some (.slice e)) (hx : cOpd x = some x') (h : xCap (ev ts x') = some v) : Lite P I ρ o v := by
 obtain ⟨e1, i⟩ := hρ x x' hx
 unfold xCap at h
 split at h
 ·rename_i n c ha
  simp at h; subst h
  rw [ha] at e1
  simp only [ren] at e1
  refine ⟨by simp [In], fun w => ?_⟩
  simp [execOp, ho, resolve, invoke, builtin, Builtin.cap_, e1, run_underlying ht, goInt, ren]
 ·rename_i a n c ha
  rw [ha] at e1
  split at h
  ·simp at h
  rename_i hcf
  rw [ren_sl (Nat.not_le.1 hcf)] at e1
  simp only [renCap] at e1
  split at h
  ·rename_i hs
   simp at h; subst h
   rw [hs] at e1
   refine ⟨by simp [In], fun w => ?_⟩
   simp [execOp, ho, resolve, invoke, builtin, Builtin.cap_, e1, run_underlying ht, goInt, ren]
  ·rename_i g hs
   split at h <;> simp at h
   rename_i hc
   subst h
   rw [hs] at e1
   simp only [hc, if_true] at e1
   refine ⟨by simp [In], fun w => ?_⟩
   simp [execOp, ho, resolve, invoke, builtin, Builtin.cap_, e1, run_underlying ht, goInt, ren]
 ·simp at h


theorem optNat_ren {d : Nat} {o : Option Value} {i : Nat} (h : optNat d o = some i) : (o = none ∧ i = d) ∨ ∃ v k, o = some v ∧ ren I v = .int k (i : Int) := by
 cases o with
 | none => simp [optNat] at h; exact .inl ⟨rfl, h.symm⟩
 | some v =>
   obtain ⟨k, hk⟩ := natOf_ren (I := I) (by simpa [optNat] using h)
   exact .inr ⟨v, k, rfl, hk⟩

theorem run_bounds_ok {b : Bool} {len cap l hi m : Nat} {lo ho mo : Option Value} (hl : optNat 0 lo = some l) (hh : optNat len ho = some hi) (hm : optNat cap mo = some m) (hmh : mo.isSome → ho.isSome) (h1 : m ≤ cap) (h2 : hi ≤ m) (h3 : l ≤ hi) (w : World) :
 (Instr.sliceBounds b len cap (lo.map (ren I)) (ho.map (ren I)) (mo.map (ren I))).run P w = .ok (l, hi, m) w := by
 rcases optNat_ren (I := I) hm with ⟨rfl, rfl⟩ | ⟨vm, km, rfl, em⟩
 ·rcases optNat_ren (I := I) hh with ⟨rfl, rfl⟩ | ⟨vh, kh, rfl, eh⟩ <;> rcases optNat_ren (I := I) hl with ⟨rfl, rfl⟩ | ⟨vl, kl, rfl, el⟩ <;>
   simp [Instr.sliceBounds, Instr.sliceBound, asIntOf, *] <;> (try split) <;> simp_all <;> omega
 ·rcases optNat_ren (I := I) hh with ⟨rfl, rfl⟩ | ⟨vh, kh, rfl, eh⟩
  ·simp at hmh
  ·rcases optNat_ren (I := I) hl with ⟨rfl, rfl⟩ | ⟨vl, kl, rfl, el⟩ <;>
    simp [Instr.sliceBounds, Instr.sliceBound, asIntOf, *] <;> (try split) <;> simp_all <;> omega


theorem slAddr_ren {a b : Addr} (ha : InA I a) (hb : renA I a = some b) (l m sz : Nat) :
 InA I (slAddr a l m sz) ∧ renA I (slAddr a l m sz) = some (if m = l then b else b.add (l * sz)) := by
 unfold slAddr
 split
 ·exact ⟨ha, hb⟩
 ·obtain ⟨i, e⟩ := renA_aadd ha (l * sz)
  exact ⟨i, by rw [e, hb]; rfl⟩

theorem evO_ren (hρ : Ev I ts ρ) {o : Option Operand} {o' : Option Opd} (h : cOptO o = some o') : o.map ρ = (evO ts o').map (ren I) := by
 cases o with
 | none => simp [cOptO] at h; subst h; rfl
 | some x =>
   simp only [cOptO, Option.map_eq_some_iff] at h
   obtain ⟨x', hx, rfl⟩ := h
   simp [evO, (hρ x x' hx).1]
theorem evO_some {_o : Option Operand} {o' : Option Opd} : (evO ts o').isSome = o'.isSome := by cases o' <;> simp [evO]

theorem lite_slarr (hρ : Ev I ts ρ) {o : Oper} {t e : TypeId} {n sz : Nat} {x : Operand} {lo hi mx : Option Operand} {x' : Opd} {lo' hi' mx' : Option Opd} {v : Value} (ho : o.op = .slice t x lo hi mx) (ht : P.underlying t = some (.array n e))
 (hsz : sizeT P e = some sz) (hx : cOpd x = some x') (hlo : cOptO lo = some lo') (hhi : cOptO hi = some hi') (hmx : cOptO mx = some mx') (hmh : mx'.isSome → hi'.isSome)
 (h : slarr n sz (evO ts lo') (evO ts hi') (evO ts mx') (ev ts x') = some v) : Lite P I ρ o v := by
 obtain ⟨e1, i1⟩ := hρ x x' hx
 unfold slarr at h
 split at h
 ·rename_i a ha
  rw [ha] at e1 i1
  simp only [ren, In] at e1 i1
  unfold slKnown at h
  split at h
  ·rename_i l hi m hl hh hm
   split at h <;> simp at h
   rename_i hc
   subst h
   obtain ⟨b, hb⟩ := renA_some i1
   rw [hb] at e1
   obtain ⟨ia, ea⟩ := slAddr_ren i1 hb l m sz
   refine ⟨?_, fun w => ?_⟩
   ·rw [In_sl hc.2.2.2]
    refine ⟨ia, ?_⟩
    have hs : (slAddr a l m sz).spot = a.spot := by unfold slAddr; split <;> rfl
    unfold InCap encAt
    rw [hs]
    cases a.spot with
    | none => simp [enc1]; omega
    | some g => simp [enc2, Nat.add_mod]; omega
   ·have hb3 := run_bounds_ok (P := P) (I := I) (b := false) hl hh hm (by rw [evO_some (_o := mx), evO_some (_o := mx)]; exact hmh) hc.1 hc.2.1 hc.2.2.1 w
    have hs : (slAddr a l m sz).spot = a.spot := by unfold slAddr; split <;> rfl
    have hcap : renCap I (slAddr a l m sz) (encAt a.spot (m - l)) = m - l := by
     unfold renCap encAt
     rw [hs]
     cases a.spot with
     | none => simp [enc1]
     | some g => simp [enc2, Nat.add_mod]; omega
    simp only [execOp, ho, e1, Instr.sliceAt, Sem.run_bind, run_underlying ht, Result.andThen_ok, Instr.sureAddr, Sem.run_pure, evO_ren hρ hlo, evO_ren hρ hhi, evO_ren hρ hmx, hb3, run_sizeT hsz, ren_sl hc.2.2.2, ea, hcap]
  ·simp at h
 ·simp at h

theorem lite_slsl (hρ : Ev I ts ρ) {o : Oper} {t e : TypeId} {sz : Nat} {x : Operand} {lo hi mx : Option Operand} {x' : Opd} {lo' hi' mx' : Option Opd} {v : Value} (ho : o.op = .slice t x lo hi mx) (ht : P.underlying t = some (.slice e))
 (hsz : sizeT P e = some sz) (hx : cOpd x = some x') (hlo : cOptO lo = some lo') (hhi : cOptO hi = some hi') (hmx : cOptO mx = some mx') (hmh : mx'.isSome → hi'.isSome)
 (h : slsl sz (evO ts lo') (evO ts hi') (evO ts mx') (ev ts x') = some v) : Lite P I ρ o v := by
 obtain ⟨e1, i1⟩ := hρ x x' hx
 have hmh' : (evO ts mx').isSome → (evO ts hi').isSome := by rw [evO_some (_o := mx), evO_some (_o := mx)]; exact hmh
 unfold slsl at h
 split at h
 ·rename_i a len cap ha
  rw [ha] at e1 i1
  split at h
  ·split at h <;> try simp at h
   rename_i hc1 hc2
   subst hc2
   obtain ⟨hl0, -⟩ := (In_far (Nat.le_refl _)).1 i1
   subst hl0
   rw [ren_far (Nat.le_refl _), farA_far, farC_far] at e1
   unfold slFar at h
   split at h <;> try simp at h
   rename_i l hi m hl hh hm
   obtain ⟨⟨rfl, rfl, rfl⟩, rfl⟩ := h
   refine ⟨i1, fun w => ?_⟩
   have hb3 := run_bounds_ok (P := P) (I := I) (b := true) hl hh hm hmh' (by omega) (by omega) (by omega) w
   simp only [execOp, ho, e1, Instr.sliceAt, Instr.slice, Sem.run_bind, run_underlying ht, Result.andThen_ok, Sem.run_pure, evO_ren hρ hlo, evO_ren hρ hhi, evO_ren hρ hmx, hb3, run_sizeT hsz, ren_far (Nat.le_refl far), farA_far, farC_far, Option.map_some]
   rfl
  rename_i hcf
  rw [ren_sl (Nat.not_le.1 hcf)] at e1
  rw [In_sl (Nat.not_le.1 hcf)] at i1
  obtain ⟨b, hb⟩ := renA_some i1.1
  rw [hb] at e1
  -- whatever the capacity c: bounds that fit give the slice
  have main : ∀ (l hi m c : Nat) (cap' : Nat), renCap I a cap = c → optNat 0 (evO ts lo') = some l → optNat len (evO ts hi') = some hi → optNat c (evO ts mx') = some m → m ≤ c → hi ≤ m → l ≤ hi → cap' < far →
   InCap I (slAddr a l m sz) (hi - l) cap' → renCap I (slAddr a l m sz) cap' = m - l → Lite P I ρ o (.slice (some (slAddr a l m sz)) (hi - l) cap') := by
   intro l hi m c cap' hcap hl hh hm h1 h2 h3 hfar hin hrc
   obtain ⟨ia, ea⟩ := slAddr_ren i1.1 hb l m sz
   refine ⟨by rw [In_sl hfar]; exact ⟨ia, hin⟩, fun w => ?_⟩
   have hb3 := run_bounds_ok (P := P) (I := I) (b := true) hl hh hm hmh' h1 h2 h3 w
   simp only [execOp, ho, e1, Instr.sliceAt, Instr.slice, Sem.run_bind, run_underlying ht, Result.andThen_ok, Sem.run_pure, evO_ren hρ hlo, evO_ren hρ hhi, evO_ren hρ hmx, hcap, hb3, run_sizeT hsz, ren_sl hfar, ea, hrc, Option.map_some]
   split <;> rfl
  have hspot : ∀ l m, (slAddr a l m sz).spot = a.spot := fun l m => by unfold slAddr; split <;> rfl
  have hblk : ∀ l m, (slAddr a l m sz).block = a.block := fun l m => by unfold slAddr; split <;> rfl
  split at h
  ·rename_i hs
   unfold slKnown at h
   split at h
   ·rename_i l hi m hl hh hm
    split at h <;> simp at h
    rename_i hc
    subst h
    refine main l hi m cap _ (by unfold renCap; rw [hs]) hl hh hm hc.1 hc.2.1 hc.2.2.1 hc.2.2.2 ?_ ?_
    ·unfold InCap; rw [hspot, hs]; simp [enc1]; omega
    ·unfold renCap; rw [hspot, hs]; simp [enc1]
   ·simp at h
  ·rename_i g hs
   unfold slGrow at h
   have hin := i1.2
   unfold InCap at hin
   rw [hs] at hin
   split at h
   ·rename_i hodd
    unfold slKnown at h
    split at h
    ·rename_i l hi m hl hh hm
     split at h <;> simp at h
     rename_i hc
     subst h
     refine main l hi m (cap / 2) _ (by unfold renCap; rw [hs]; simp [hodd]) hl hh hm hc.1 hc.2.1 hc.2.2.1 hc.2.2.2 ?_ ?_
     ·unfold InCap; rw [hspot, hs]; simp [enc2, Nat.add_mod]; omega
     ·unfold renCap; rw [hspot, hs]; simp [enc2, Nat.add_mod]; omega
    ·simp at h
   ·rename_i heven
    simp only [heven, if_false] at hin
    have hcap : renCap I a cap = I.cap a.block g - cap / 2 := by unfold renCap; rw [hs]; simp [heven]
    split at h
    ·rename_i hmn
     unfold slOpen at h
     split at h
     ·rename_i l hi hl hh
      have hm : optNat (I.cap a.block g - cap / 2) (evO ts mx') = some (I.cap a.block g - cap / 2) := by rw [hmn]; rfl
      split at h
      rotate_left
      ·split at h <;> simp at h
       rename_i hc
       subst h
       obtain ⟨h1, h2, h3, h4⟩ := hc
       subst h2
       have hk : tailC (cap / 2 + l) (l * sz) - far - 1 = (cap / 2 + l) * 4294967296 + l * sz := by unfold tailC; omega
       have hD : ((cap / 2 + l) * 4294967296 + l * sz) / 4294967296 = cap / 2 + l := by omega
       have hO : ((cap / 2 + l) * 4294967296 + l * sz) % 4294967296 = l * sz := by omega
       have hfar : far ≤ tailC (cap / 2 + l) (l * sz) := by unfold tailC; omega
       have hne : tailC (cap / 2 + l) (l * sz) ≠ far := by unfold tailC; omega
       refine ⟨by rw [In_far hfar]; exact ⟨rfl, .inr i1.1⟩, fun w => ?_⟩
       have hb3 := run_bounds_ok (P := P) (I := I) (b := true) hl hh hm hmh' (by omega) (by omega) (by omega) w
       simp only [execOp, ho, e1, Instr.sliceAt, Instr.slice, Sem.run_bind, run_underlying ht, Result.andThen_ok, Sem.run_pure, evO_ren hρ hlo, evO_ren hρ hhi, evO_ren hρ hmx, hcap, hb3, run_sizeT hsz, ren_far hfar, Option.map_some]
       unfold farA farC
       rw [if_neg hne, if_neg hne, hs, hk]
       dsimp only
       rw [hD, hO, hb]
       by_cases hlm : I.cap a.block g - cap / 2 = l
       ·rw [if_pos (by omega)]
        simp only [Option.getD_some, Nat.sub_self]
        rw [show I.cap a.block g - cap / 2 - l = I.cap a.block g - (cap / 2 + l) by omega]
        rw [if_pos (show I.cap a.block g = cap / 2 + l by omega)]
       ·rw [if_neg (by omega)]
        simp only [Option.getD_some, Nat.sub_self]
        rw [show I.cap a.block g - cap / 2 - l = I.cap a.block g - (cap / 2 + l) by omega]
        rw [if_neg (show ¬ I.cap a.block g = cap / 2 + l by omega)]
      simp at h
      rename_i hc
      subst h
      by_cases hlm : I.cap a.block g - cap / 2 = l
      ·have hl0 : l = 0 := by omega
       subst hl0
       have := main 0 hi 0 (I.cap a.block g - cap / 2) (cap + 2 * 0) hcap hl hh (by rw [hm, hlm]) (by omega) (by omega) (by omega) hc.2.2.2
       simp only [slAddr, if_true] at this
       have e0 : aadd a (0 * sz) = a := by cases a; simp [aadd]
       rw [e0]
       refine this ?_ ?_
       ·unfold InCap; rw [hs]; simp [heven]; omega
       ·unfold renCap; rw [hs]; simp [heven]; omega
      ·have := main l hi (I.cap a.block g - cap / 2) (I.cap a.block g - cap / 2) (cap + 2 * l) hcap hl hh hm (by omega) (by omega) (by omega) hc.2.2.2
       simp only [slAddr, if_neg hlm] at this
       refine this ?_ ?_
       ·unfold InCap; simp only [aadd, hs]; rw [if_neg (by omega)]; omega
       ·unfold renCap; simp only [aadd, hs]; rw [if_neg (by omega)]; omega
     ·simp at h
    ·rename_i mv hmv
     unfold slKnown at h
     split at h
     ·rename_i l hi m hl hh hm
      split at h <;> simp at h
      rename_i hc
      subst h
      refine main l hi m _ _ hcap hl hh (by rw [hmv]; exact hm) (by omega) hc.2.1 hc.2.2.1 hc.2.2.2 ?_ ?_
      ·unfold InCap; rw [hspot, hs]; simp [enc2, Nat.add_mod]; omega
      ·unfold renCap; rw [hspot, hs]; simp [enc2, Nat.add_mod]; omega
     ·simp at h
 ·rename_i ha
  rw [ha] at e1 i1
  simp only [ren] at e1
  unfold slNil at h
  split at h
  ·rename_i l hi m hl hh hm
   split at h <;> simp at h
   rename_i hc
   obtain ⟨rfl, rfl, rfl⟩ := hc
   subst h
   refine ⟨by simp [In], fun w => ?_⟩
   have hb3 := run_bounds_ok (P := P) (I := I) (b := true) hl hh hm hmh' (by omega) (by omega) (by omega) w
   simp [execOp, ho, e1, Instr.sliceAt, Instr.slice, run_underlying ht, evO_ren hρ hlo, evO_ren hρ hhi, evO_ren hρ hmx, hb3, run_sizeT hsz, ren]
  ·simp at h
 ·simp at h

end
end AE

/- Light operations, all of them: by what the loaded operation is. -/
namespace AE
open Go

section
variable {P : Program} {I : Inj} {ts : Ts} {ρ : Operand → Value}

theorem keep_some {h h' : H} {o : Option Value} {v : Value} (e : keep h o = some (v, h')) : o = some v ∧ h' = h := by
 unfold keep at e
 simp only [Option.map_eq_some_iff, Prod.mk.injEq] at e
 obtain ⟨u, hu, rfl, rfl⟩ := e
 exact ⟨hu, rfl⟩

theorem cOpds_mem : ∀ (xs : List Operand) (ys : List Opd), cOpds xs = some ys → ∀ x ∈ xs, ∃ x', cOpd x = some x'
 | [], _, _, x, hx => by simp at hx
 | y :: xs, ys, h, x, hx => by
   simp only [cOpds, Option.bind_eq_some_iff, Option.map_eq_some_iff] at h
   obtain ⟨y', hy, zs, hz, rfl⟩ := h
   rcases List.mem_cons.1 hx with rfl | hx
   ·exact ⟨y', hy⟩
   ·exact cOpds_mem xs zs hz x hx

theorem call1 {c : Call} {b : Builtin} {x : Operand} {t : TypeId} (hb : c.callee = .builtin b) (hx : c.args.toList = [x]) (ht : c.argTypes.toList = [t]) : c = ⟨.builtin b, #[x], #[t]⟩ := by
 obtain ⟨ce, as, ty⟩ := c
 cases as; cases ty
 simp at hb hx ht
 subst hb; subst hx; subst ht; rfl
theorem call2 {c : Call} {b : Builtin} {x y : Operand} {t u : TypeId} (hb : c.callee = .builtin b) (hx : c.args.toList = [x, y]) (ht : c.argTypes.toList = [t, u]) : c = ⟨.builtin b, #[x, y], #[t, u]⟩ := by
 obtain ⟨ce, as, ty⟩ := c
 cases as; cases ty
 simp at hb hx ht
 subst hb; subst hx; subst ht; rfl

theorem light_bin (hρ : Ev I ts ρ) {o : Oper} {op : BinOp} {t t' : TypeId} {x y : Operand} {ao : AOp} {lo nid : Nat} {h h' : H} {v : Value} (ho : o.op = .binOp op t x y t') (hc : cBin P o op t x y = some ao)
 (ha : aop P lo nid ts h ao = some (v, h')) : h' = h ∧ Lite P I ρ o v := by
 unfold cBin at hc
 simp only [Option.bind_eq_some_iff] at hc
 obtain ⟨x', hx, y', hy, hc⟩ := hc
 have hpure : ∀ {h' : H} {v : Value}, aop P lo nid ts h (.pure o) = some (v, h') → h' = h ∧ Lite P I ρ o v := fun hp => by
  obtain ⟨hz9, rfl⟩ := keep_some hp
  exact ⟨rfl, lite_pure hρ (by simp [ho]) (opds_tmp (xs := [x, y]) (by simp [ho, Op.operands]) (by simp [hx, hy])) hz9⟩
 split at hc
 ·split at hc
  ·rename_i i hi
   simp at hc; subst hc
   obtain ⟨hz9, rfl⟩ := keep_some ha
   exact ⟨rfl, lite_int hρ ho hi hx hy hz9⟩
  ·split at hc
   ·simp at hc; subst hc
    obtain ⟨hz9, rfl⟩ := keep_some ha
    exact ⟨rfl, lite_idiv hρ ho rfl hx hy hz9⟩
   ·simp at hc; subst hc
    obtain ⟨hz9, rfl⟩ := keep_some ha
    exact ⟨rfl, lite_idiv hρ ho rfl hx hy hz9⟩
   ·simp at hc; subst hc
    exact hpure ha
 ·rename_i e ht
  split at hc <;> simp at hc <;> subst hc
  ·obtain ⟨hz9, rfl⟩ := keep_some ha
   exact ⟨rfl, lite_cmp hρ (sl := some false) (ne := false) (by simpa using ho) (by simp [ht]) hx hy hz9⟩
  ·obtain ⟨hz9, rfl⟩ := keep_some ha
   exact ⟨rfl, lite_cmp hρ (sl := some false) (ne := true) (by simpa using ho) (by simp [ht]) hx hy hz9⟩
  ·exact hpure ha
 ·rename_i e ht
  split at hc <;> simp at hc <;> subst hc
  ·obtain ⟨hz9, rfl⟩ := keep_some ha
   exact ⟨rfl, lite_cmp hρ (sl := some true) (ne := false) (by simpa using ho) (by simp [ht]) hx hy hz9⟩
  ·obtain ⟨hz9, rfl⟩ := keep_some ha
   exact ⟨rfl, lite_cmp hρ (sl := some true) (ne := true) (by simpa using ho) (by simp [ht]) hx hy hz9⟩
  ·exact hpure ha
 ·rename_i k e ht
  split at hc <;> simp at hc <;> subst hc
  ·obtain ⟨hz9, rfl⟩ := keep_some ha
   exact ⟨rfl, lite_cmp hρ (sl := none) (ne := false) (by simpa using ho) (by simp [ht]) hx hy hz9⟩
  ·obtain ⟨hz9, rfl⟩ := keep_some ha
   exact ⟨rfl, lite_cmp hρ (sl := none) (ne := true) (by simpa using ho) (by simp [ht]) hx hy hz9⟩
  ·exact hpure ha
 ·simp at hc; subst hc
  exact hpure ha

theorem light_call (hρ : Ev I ts ρ) {o : Oper} {c : Call} {ao : AOp} {lo nid : Nat} {h h' : H} {v : Value} (ho : o.op = .call c) (hc : cCall P o c = some (.op ao)) (hl : ao.light = true) (hf : ao.fresh = false)
 (ha : aop P lo nid ts h ao = some (v, h')) : h' = h ∧ Lite P I ρ o v := by
 unfold cCall at hc
 split at hc
 ·simp only [Option.bind_eq_some_iff, Option.map_eq_some_iff] at hc
  obtain ⟨_, _, _, _, hc⟩ := hc
  simp at hc
 ·split at hc
  ·simp only [Option.map_eq_some_iff] at hc
   obtain ⟨_, _, hc⟩ := hc
   simp at hc
  ·simp at hc
 ·rename_i b hb
  split at hc
  ·rename_i x t hx ht
   simp only [Option.bind_eq_some_iff] at hc
   obtain ⟨x', hx', hc⟩ := hc
   have hcc := call1 hb hx ht
   split at hc <;> simp at hc <;> first
    | (subst hc; simp [AOp.light] at hl; done)
    | (obtain ⟨_, _, hc⟩ := hc; subst hc; simp [AOp.light] at hl; done)
    | (subst hc; simp [AOp.light] at hl)
    | skip
   ·obtain ⟨hz9, rfl⟩ := keep_some ha
    exact ⟨rfl, lite_len hρ (by rw [ho, hcc]) (by assumption) hx' hz9⟩
   ·obtain ⟨hz9, rfl⟩ := keep_some ha
    exact ⟨rfl, lite_lenstr hρ (by rw [ho, hcc]) (by assumption) hx' hz9⟩
   ·obtain ⟨hz9, rfl⟩ := keep_some ha
    exact ⟨rfl, lite_cap hρ (by rw [ho, hcc]) (by assumption) hx' hz9⟩
  ·rename_i x y t u hx ht
   simp only [Option.bind_eq_some_iff] at hc
   obtain ⟨x', hx', y', hy', hc⟩ := hc
   have hcc := call2 hb hx ht
   have hpure : ∀ {h' : H} {v : Value}, aop P lo nid ts h (.pure o) = some (v, h') → h' = h ∧ Lite P I ρ o v := fun hp => by
    obtain ⟨hz9, rfl⟩ := keep_some hp
    exact ⟨rfl, lite_pure hρ (by simp [ho]) (opds_tmp (xs := [x, y]) (by simp [ho, hcc, Op.operands, Call.operands]) (by simp [hx', hy'])) hz9⟩
   split at hc
   ·split at hc
    ·simp at hc
    ·simp only [Option.bind_eq_some_iff] at hc
     obtain ⟨ie, _, z, _, hc⟩ := hc
     split at hc <;> simp at hc
     subst hc; simp [AOp.light] at hl
    ·simp at hc
   ·simp only [Option.map_eq_some_iff] at hc
    obtain ⟨s, _, hc⟩ := hc
    simp at hc; subst hc; simp [AOp.light] at hl
   ·simp at hc; subst hc; simp [AOp.light] at hl
   ·simp at hc; subst hc
    obtain ⟨hz9, rfl⟩ := keep_some ha
    exact ⟨rfl, lite_mnmx hρ (m := false) (by simp; rfl) (by rw [ho, hcc]) hx' hy' hz9⟩
   ·simp at hc; subst hc
    obtain ⟨hz9, rfl⟩ := keep_some ha
    exact ⟨rfl, lite_mnmx hρ (m := true) (by simp; rfl) (by rw [ho, hcc]) hx' hy' hz9⟩
   ·simp at hc; subst hc; exact hpure ha
   ·simp at hc; subst hc; exact hpure ha
   ·simp at hc
  ·split at hc
   all_goals first
    | (simp at hc; done)
    | (simp only [Option.map_eq_some_iff] at hc
       obtain ⟨ys, hys, hc⟩ := hc
       simp at hc; subst hc
       obtain ⟨hz9, rfl⟩ := keep_some ha
       exact ⟨rfl, lite_pure hρ (by simp [ho]) (opds_tmp (xs := c.args.toList) (by simp [ho, Op.operands, Call.operands, hb]) (cOpds_mem _ _ hys)) hz9⟩)

theorem aop_light (hρ : Ev I ts ρ) {o : Oper} {ao : AOp} {lo nid : Nat} {h h' : H} {v : Value} (hc : comp P o = some (.op ao)) (hl : ao.light = true) (hf : ao.fresh = false)
 (ha : aop P lo nid ts h ao = some (v, h')) : h' = h ∧ Lite P I ρ o v := by
 have hc := comp_op hc (by rintro rfl; simp [aop] at ha)
 unfold comp0 at hc
 cases ho : o.op <;> rw [ho] at hc <;> simp only [Option.bind_eq_some_iff, Option.map_eq_some_iff, reduceCtorEq] at hc
 case move x =>
  obtain ⟨x', hx, hc⟩ := hc
  simp at hc; subst hc
  simp [aop] at ha
  obtain ⟨rfl, rfl⟩ := ha
  exact ⟨rfl, lite_mv hρ (.inl ho) hx⟩
 case assign x =>
  obtain ⟨x', hx, hc⟩ := hc
  simp at hc; subst hc
  simp [aop] at ha
  obtain ⟨rfl, rfl⟩ := ha
  exact ⟨rfl, lite_mv hρ (.inr ho) hx⟩
 case pick c a b =>
  obtain ⟨c', hc', a', ha', b', hb', hc⟩ := hc
  simp at hc; subst hc
  obtain ⟨hz9, rfl⟩ := keep_some ha
  exact ⟨rfl, lite_pick hρ ho hc' ha' hb' hz9⟩
 case alloc => obtain ⟨_, _, hc⟩ := hc; simp at hc; subst hc; simp [AOp.fresh] at hf
 case box => obtain ⟨_, _, hc⟩ := hc; simp at hc; subst hc; simp [AOp.fresh] at hf
 case build t parts =>
  obtain ⟨z, hz, hc⟩ := hc
  split at hc
  ·rename_i fields ht
   split at hc
   ·rename_i hall
    simp only [Option.map_eq_some_iff] at hc
    obtain ⟨ps, hps, hc⟩ := hc
    simp at hc; subst hc
    obtain ⟨hz9, rfl⟩ := keep_some ha
    simp only [Option.map_eq_some_iff] at hz9
    obtain ⟨l, hl', rfl⟩ := hz9
    exact ⟨rfl, lite_build hρ ho hz (.inl ⟨_, ht, hall, hps⟩) hl'⟩
   ·simp at hc
  ·rename_i n e ht
   simp only [Option.bind_eq_some_iff, Option.map_eq_some_iff] at hc
   obtain ⟨s, hs, ps, hps, hc⟩ := hc
   simp at hc; subst hc
   obtain ⟨hz9, rfl⟩ := keep_some ha
   simp only [Option.map_eq_some_iff] at hz9
   obtain ⟨l, hl', rfl⟩ := hz9
   exact ⟨rfl, lite_build hρ ho hz (.inr ⟨_, _, _, ht, hs, hps⟩) hl'⟩
  ·simp at hc
 case buildSlice t len parts =>
  split at hc
  ·simp only [Option.bind_eq_some_iff] at hc
   obtain ⟨_, _, _, _, hc⟩ := hc
   split at hc
   ·simp only [Option.map_eq_some_iff] at hc
    obtain ⟨_, _, hc⟩ := hc
    simp at hc; subst hc; simp [AOp.fresh] at hf
   ·simp at hc
  ·simp at hc
 case load t a =>
  obtain ⟨a', _, hc⟩ := hc
  split at hc
  ·simp only [Option.map_eq_some_iff] at hc
   obtain ⟨_, _, hc⟩ := hc
   simp at hc; subst hc; simp [AOp.light] at hl
  ·simp at hc; subst hc; simp [AOp.light] at hl
  ·simp at hc
 case store t a x => obtain ⟨_, _, _, _, _, _, hc⟩ := hc; simp at hc; subst hc; simp [AOp.light] at hl
 case nilCheck x =>
  obtain ⟨x', hx, hc⟩ := hc
  simp at hc; subst hc
  obtain ⟨hz9, rfl⟩ := keep_some ha
  exact ⟨rfl, lite_nilck hρ ho hx hz9⟩
 case binOp op t x y t' =>
  obtain ⟨ao', hb, hc⟩ := hc
  simp at hc; subst hc
  exact light_bin hρ ho hb ha
 case unOp op t x =>
  obtain ⟨x', hx, hc⟩ := hc
  split at hc <;> simp at hc <;> subst hc
  ·obtain ⟨hz9, rfl⟩ := keep_some ha
   exact ⟨rfl, lite_not hρ ho hx hz9⟩
  ·obtain ⟨hz9, rfl⟩ := keep_some ha
   exact ⟨rfl, lite_neg hρ ho hx hz9⟩
  ·obtain ⟨hz9, rfl⟩ := keep_some ha
   exact ⟨rfl, lite_pure hρ (by simp [ho]) (opds_tmp (xs := [x]) (by simp [ho, Op.operands]) (by simp [hx])) hz9⟩
 case convert s d x =>
  obtain ⟨x', hx, hc⟩ := hc
  split at hc
  ·simp at hc; subst hc
   obtain ⟨hz9, rfl⟩ := keep_some ha
   exact ⟨rfl, lite_conv hρ ho (by assumption) (by assumption) hx hz9⟩
  ·split at hc
   ·simp at hc; subst hc; simp [AOp.light] at hl
   ·simp at hc
  ·simp at hc; subst hc
   obtain ⟨hz9, rfl⟩ := keep_some ha
   exact ⟨rfl, lite_pure hρ (by simp [ho]) (opds_tmp (xs := [x]) (by simp [ho, Op.operands]) (by simp [hx])) hz9⟩
 case makeInterface t x =>
  split at hc
  ·simp at hc
  ·rename_i d hd ht
   simp only [Option.map_eq_some_iff] at hc
   obtain ⟨x', hx, hc⟩ := hc
   simp at hc; subst hc
   simp [aop] at ha
   obtain ⟨rfl, rfl⟩ := ha
   exact ⟨rfl, lite_mkif hρ ho ht (fun m e => hd m e) hx⟩
  ·simp at hc
 case makeFunc fn fs cs =>
  split at hc
  ·rename_i hfl
   simp only [Option.bind_eq_some_iff, Option.map_eq_some_iff] at hc
   obtain ⟨f', hf', c', hc', hc⟩ := hc
   simp at hc; subst hc
   simp [aop] at ha
   obtain ⟨rfl, rfl⟩ := ha
   exact ⟨rfl, lite_mkfn hρ ho hfl hf' hc'⟩
  ·simp at hc
 case makeMap t r => cases r <;> simp at hc; subst hc; simp [AOp.fresh] at hf
 case makeSlice t l c =>
  split at hc
  ·simp only [Option.bind_eq_some_iff] at hc
   obtain ⟨_, _, _, _, hc⟩ := hc
   split at hc
   ·simp only [Option.bind_eq_some_iff, Option.map_eq_some_iff] at hc
    obtain ⟨_, _, _, _, hc⟩ := hc
    simp at hc; subst hc; simp [AOp.fresh] at hf
   ·simp at hc
  ·simp at hc
 case slice t x lo' hi mx =>
  obtain ⟨x', hx, lo'', hlo, hi', hhi, mx', hmx, hc⟩ := hc
  split at hc
  ·simp at hc
  ·rename_i hn
   have hmh : mx'.isSome → hi'.isSome := by cases mx' <;> cases hi' <;> simp_all
   split at hc
   ·rename_i n e ht
    simp only [Option.map_eq_some_iff] at hc
    obtain ⟨s, hs, hc⟩ := hc
    simp at hc; subst hc
    obtain ⟨hz9, rfl⟩ := keep_some ha
    exact ⟨rfl, lite_slarr hρ ho ht hs hx hlo hhi hmx hmh hz9⟩
   ·rename_i e ht
    simp only [Option.map_eq_some_iff] at hc
    obtain ⟨s, hs, hc⟩ := hc
    simp at hc; subst hc
    obtain ⟨hz9, rfl⟩ := keep_some ha
    exact ⟨rfl, lite_slsl hρ ho ht hs hx hlo hhi hmx hmh hz9⟩
   ·simp at hc; subst hc
    obtain ⟨hz9, rfl⟩ := keep_some ha
    refine ⟨rfl, lite_pure hρ (by simp [ho]) ?_ hz9⟩
    intro y hy
    simp only [ho, Op.operands, Array.mem_append, Option.mem_toArray] at hy
    have hO : ∀ {o : Option Operand} {o' : Option Opd}, cOptO o = some o' → ∀ z, o = some z → ∃ z', cOpd z = some z' := by
     intro o o' h z hz
     subst hz
     simp only [cOptO, Option.map_eq_some_iff] at h
     obtain ⟨z', hz', -⟩ := h
     exact ⟨z', hz'⟩
    rcases hy with ((hy | hy) | hy) | hy
    ·simp at hy; subst hy; exact ⟨x', hx⟩
    ·exact hO hlo y hy
    ·exact hO hhi y hy
    ·exact hO hmx y hy
   ·simp at hc
 case fieldAddr s x f =>
  split at hc
  ·rename_i fields hs
   simp only [Option.bind_eq_some_iff] at hc
   obtain ⟨fd, hfd, n, hn, hc⟩ := hc
   split at hc
   ·simp at hc
   ·rename_i hn0
    simp only [Option.map_eq_some_iff] at hc
    obtain ⟨x', hx, hc⟩ := hc
    simp at hc; subst hc
    obtain ⟨hz9, rfl⟩ := keep_some ha
    exact ⟨rfl, lite_faddr hρ ho hs hfd hn hn0 hx hz9⟩
  ·simp at hc
 case field t x f =>
  split at hc
  ·rename_i fields hs
   simp only [Option.bind_eq_some_iff] at hc
   obtain ⟨fd, hfd, x', hx, hc⟩ := hc
   split at hc
   ·rename_i hag
    simp only [Option.map_eq_some_iff] at hc
    obtain ⟨n, hn, hc⟩ := hc
    simp at hc; subst hc
    obtain ⟨hz9, rfl⟩ := keep_some ha
    exact ⟨rfl, lite_fieldn hρ ho hs hfd hag hn hx hz9⟩
   ·rename_i hag
    simp at hc; subst hc
    obtain ⟨hz9, rfl⟩ := keep_some ha
    exact ⟨rfl, lite_field1 hρ ho hs hfd hag hx hz9⟩
   ·simp at hc
  ·simp at hc
 case indexAddr t x i =>
  obtain ⟨x', hx, i', hi, hc⟩ := hc
  split at hc
  ·rename_i n e ht
   simp only [Option.map_eq_some_iff] at hc
   obtain ⟨s, hs, hc⟩ := hc
   simp at hc; subst hc
   obtain ⟨hz9, rfl⟩ := keep_some ha
   exact ⟨rfl, lite_ixarr hρ ho ht hs hx hi hz9⟩
  ·rename_i e ht
   simp only [Option.map_eq_some_iff] at hc
   obtain ⟨s, hs, hc⟩ := hc
   simp at hc; subst hc
   obtain ⟨hz9, rfl⟩ := keep_some ha
   exact ⟨rfl, lite_ixsl hρ ho ht hs hx hi hz9⟩
  ·simp at hc
 case index t x i =>
  obtain ⟨x', hx, i', hi, hc⟩ := hc
  split at hc
  ·rename_i n e ht
   split at hc
   ·rename_i hag
    simp only [Option.map_eq_some_iff] at hc
    obtain ⟨s, hs, hc⟩ := hc
    simp at hc; subst hc
    obtain ⟨hz9, rfl⟩ := keep_some ha
    exact ⟨rfl, lite_ixvn hρ ho ht hs hag hx hi hz9⟩
   ·rename_i hag
    split at hc <;> simp at hc
    rename_i hs
    subst hc
    obtain ⟨hz9, rfl⟩ := keep_some ha
    exact ⟨rfl, lite_ixv1 hρ ho ht hs hag hx hi hz9⟩
   ·simp at hc
  ·simp at hc; subst hc
   obtain ⟨hz9, rfl⟩ := keep_some ha
   exact ⟨rfl, lite_pure hρ (by simp [ho]) (opds_tmp (xs := [x, i]) (by simp [ho, Op.operands]) (by simp [hx, hi])) hz9⟩
  ·simp at hc
 case extract x i =>
  obtain ⟨x', hx, hc⟩ := hc
  simp at hc; subst hc
  obtain ⟨hz9, rfl⟩ := keep_some ha
  exact ⟨rfl, lite_extract hρ ho hx hz9⟩
 case typeAssert x xt t ok =>
  split at hc
  ·split at hc
   ·simp at hc
   ·rename_i hok
    simp only [Option.map_eq_some_iff] at hc
    obtain ⟨x', hx, hc⟩ := hc
    simp at hc; subst hc
    obtain ⟨hz9, rfl⟩ := keep_some ha
    have hok : ok = false := by simpa using hok
    subst hok
    exact ⟨rfl, lite_tiface hρ ho hx hz9⟩
  ·rename_i d hd ht
   simp only [Option.bind_eq_some_iff, Option.map_eq_some_iff] at hc
   obtain ⟨z, hz, x', hx, hc⟩ := hc
   simp at hc; subst hc
   obtain ⟨hz9, rfl⟩ := keep_some ha
   exact ⟨rfl, lite_tass hρ ho ht (fun m e => hd m e) hz hx hz9⟩
  ·simp at hc
 case lookup t m k ok =>
  split at hc
  ·simp only [Option.bind_eq_some_iff, Option.map_eq_some_iff] at hc
   obtain ⟨_, _, _, _, _, _, hc⟩ := hc
   simp at hc; subst hc; simp [AOp.light] at hl
  ·simp at hc
 case mapUpdate t m k v' =>
  split at hc
  ·simp only [Option.bind_eq_some_iff, Option.map_eq_some_iff] at hc
   obtain ⟨_, _, _, _, _, _, hc⟩ := hc
   simp at hc; subst hc; simp [AOp.light] at hl
  ·simp at hc
 case insert t m k v' =>
  split at hc
  ·simp only [Option.bind_eq_some_iff, Option.map_eq_some_iff] at hc
   obtain ⟨_, _, _, _, _, _, hc⟩ := hc
   simp at hc; subst hc; simp [AOp.light] at hl
  ·simp at hc
 case range =>
  split at hc
  ·simp only [Option.map_eq_some_iff] at hc
   obtain ⟨_, _, hc⟩ := hc; simp at hc; subst hc; simp [AOp.light] at hl
  ·simp only [Option.map_eq_some_iff] at hc
   obtain ⟨_, _, hc⟩ := hc; simp at hc; subst hc; simp [AOp.light] at hl
  ·simp at hc
 case next =>
  split at hc
  ·simp only [Option.map_eq_some_iff] at hc
   obtain ⟨_, _, hc⟩ := hc; simp at hc; subst hc; simp [AOp.light] at hl
  ·simp at hc
 case entry => obtain ⟨_, _, hc⟩ := hc; simp at hc; subst hc; simp [AOp.light] at hl
 case mapEntry =>
  split at hc
  ·simp only [Option.bind_eq_some_iff, Option.map_eq_some_iff] at hc
   obtain ⟨_, _, _, _, _, _, hc⟩ := hc; simp at hc; subst hc; simp [AOp.light] at hl
  ·simp at hc
 case entryStore => obtain ⟨_, _, _, _, _, _, hc⟩ := hc; simp at hc; subst hc; simp [AOp.light] at hl
 case call c => exact light_call hρ ho hc hl hf ha
 case panic x => simp at hc; subst hc; simp [aop] at ha

end
end AE

/- What it means that an abstract heap lies in a world; new rows, loads, stores. -/
namespace AE
open Go Go.RowKit

def renE (I : Inj) (e : MapEntry) : MapEntry := ⟨ren I e.key, ren I e.val, e.born⟩
def InE (I : Inj) (e : MapEntry) : Prop := In I e.key ∧ In I e.val

def pendCode : Pend → Option Code
 | .none => none
 | .ret => some .ret
 | .exit id => some (.exit id)

def TsRel (I : Inj) (n : Nat) (ts : Ts) (tmps : Array Value) : Prop := tmps.size = n ∧ ∀ i, tmps.getD i undef = ren I (ts i) ∧ In I (ts i)

def RowRel (I : Inj) (r : Nat) (w : World) : ARow → Prop
 | .cells c e => InL I c ∧ ∃ b, I.at_ r none = some (b, 0) ∧ I.base ≤ b ∧ w.heap[b]? = some (.cells ⟨renL I c⟩ e (0, 0))
 | .ro c => InL I c ∧ ∃ b d, I.at_ r none = some (b, d) ∧ ∀ i v, c[i]? = some v → w.cell? ⟨b, d + i, none⟩ = some (ren I v)
 | .grow c e sz lens valid => InL I c ∧ lens.head? = some c.length ∧ (∀ n ∈ lens, n ≤ c.length) ∧ (∀ g p, I.at_ r (some g) = some p → g < lens.length) ∧ (∀ g g' b d d', valid ≤ g → valid ≤ g' → I.at_ r (some g) = some (b, d) → I.at_ r (some g') = some (b, d') → d = d') ∧ ∀ g, valid ≤ g → g < lens.length → ∃ b d C, I.at_ r (some g) = some (b, d) ∧ I.base ≤ b ∧ w.heap[b]? = some (.cells C e (0, 0)) ∧
  d + glen lens g ≤ C.size ∧ C.size = d + I.cap r g * sz ∧ ∀ i, i < glen lens g → C[d + i]? = (renL I c)[i]?
 | .map es clock => (∀ e ∈ es, InE I e) ∧ ∃ b, I.at_ r none = some (b, 0) ∧ I.base ≤ b ∧ w.heap[b]? = some (.map ⟨es.map (renE I)⟩ clock)
 | .iter m since seen c0 => ∃ b bm, I.at_ r none = some (b, 0) ∧ I.base ≤ b ∧ I.at_ m none = some (bm, 0) ∧ w.heap[b]? = some (.mapIter (some bm) since ⟨seen⟩ c0)
 | .siter s pos => ∃ b, I.at_ r none = some (b, 0) ∧ I.base ≤ b ∧ w.heap[b]? = some (.stringIter s pos)
 | .loop l => ∃ b tmps db fn, I.at_ r none = some (b, 0) ∧ I.base ≤ b ∧ TsRel I l.size l.tmps tmps ∧
  w.heap[b]? = some (.loop { state := l.state, pending := pendCode l.pend, fn, tmps, params := ⟨l.params⟩, assign := l.asg, body := l.body, defers := db })
 | .defers => ∃ b, I.at_ r none = some (b, 0) ∧ I.base ≤ b ∧ w.heap[b]? = some (.deferred (some []))
 | .gone => True

def TabsIn (n : Nat) (w : World) : Prop := ∀ x ∈ theTabs, x.1 < n ∧ ∃ e fr, w.heap[x.1]? = some (.cells ⟨x.2⟩ e fr)
theorem TabsIn.same {n : Nat} {w w' : World} (k : TabsIn n w) (h : ∀ b, b < n → w'.heap[b]? = w.heap[b]?) : TabsIn n w' := fun x hx => let ⟨h1, e, fr, h2⟩ := k x hx; ⟨h1, e, fr, (h _ h1).trans h2⟩

structure Rel (I : Inj) (h : H) (w : World) : Prop where
 rows : ∀ r row, h.get r = some row → I.dom r → RowRel I r w row
 lt : ∀ r, I.dom r → r < h.next
 size : ∀ r s b d, I.at_ r s = some (b, d) → b < w.heap.size
 base : I.base ≤ w.heap.size
 tabs : TabsIn I.base w
 inj : ∀ r r' s s' b d d', I.at_ r s = some (b, d) → I.at_ r' s' = some (b, d') → I.base ≤ b → r = r'
 clean : ∀ r, h.next ≤ r → h.get r = none

structure Ext (I : Inj) (lo : Nat) (w w' : World) : Prop where
 os : w'.os = w.os
 tape : w'.tape = w.tape
 output : w'.output = w.output
 size : w.heap.size ≤ w'.heap.size
 block : ∀ b, b < w.heap.size → (∀ r s d, I.at_ r s = some (b, d) → I.base ≤ b → r < lo) → w'.heap[b]? = w.heap[b]?

theorem Ext.refl (I : Inj) (lo : Nat) (w : World) : Ext I lo w w := ⟨rfl, rfl, rfl, Nat.le_refl _, fun _ _ _ => rfl⟩
structure Grows (I J : Inj) (w : World) : Prop where
 le : Le I J
 new : ∀ r s b d, J.at_ r s = some (b, d) → I.at_ r s = some (b, d) ∨ w.heap.size ≤ b ∨ (∃ s' d', I.at_ r s' = some (b, d'))
theorem Grows.refl (I : Inj) (w : World) : Grows I I w := ⟨Le.refl I, fun _ _ _ _ h => .inl h⟩
theorem Grows.trans {I J K : Inj} {w w' : World} (h : Grows I J w) (k : Grows J K w') (hs : w.heap.size ≤ w'.heap.size) : Grows I K w := by
 refine ⟨h.le.trans k.le, fun r s b d e => ?_⟩
 rcases k.new r s b d e with e | e | ⟨s', d', e⟩
 ·exact h.new r s b d e
 ·exact .inr (.inl (by omega))
 ·rcases h.new r s' b d' e with e | e | e
  ·exact .inr (.inr ⟨_, _, e⟩)
  ·exact .inr (.inl e)
  ·exact .inr (.inr e)
theorem Ext.trans {I J : Inj} {lo : Nat} {w w' w'' : World} (h : Ext I lo w w') (g : Grows I J w) (k : Ext J lo w' w'') : Ext I lo w w'' := by
 refine ⟨k.os.trans h.os, k.tape.trans h.tape, k.output.trans h.output, Nat.le_trans h.size k.size, fun b hb hr => ?_⟩
 rw [k.block b (by have := h.size; omega) (fun r s d e hbase => ?_), h.block b hb hr]
 rw [g.le.base] at hbase
 rcases g.new r s b d e with e | e | ⟨s', d', e⟩
 ·exact hr r s d e hbase
 ·omega
 ·exact hr r s' d' e hbase
theorem Ext.mono {I : Inj} {lo lo' : Nat} {w w' : World} (h : Ext I lo w w') (hl : lo' ≤ lo) : Ext I lo' w w' :=
 ⟨h.os, h.tape, h.output, h.size, fun b hb hr => h.block b hb (fun r s d e k => Nat.lt_of_lt_of_le (hr r s d e k) hl)⟩


theorem TsRel.le {I J : Inj} (h : Le I J) {n : Nat} {ts : Ts} {tmps : Array Value} (k : TsRel I n ts tmps) : TsRel J n ts tmps :=
 ⟨k.1, fun i => ⟨by rw [(k.2 i).1, (h.ren _ (k.2 i).2).1], (h.ren _ (k.2 i).2).2⟩⟩
theorem InE.le {I J : Inj} (h : Le I J) {e : MapEntry} (k : InE I e) : InE J e ∧ renE J e = renE I e :=
 ⟨⟨(h.ren _ k.1).2, (h.ren _ k.2).2⟩, by simp [renE, (h.ren _ k.1).1, (h.ren _ k.2).1]⟩

def BlockOf (I : Inj) (r b : Nat) : Prop := ∃ s d, I.at_ r s = some (b, d)

theorem RowRel.le {I J : Inj} (h : Le I J) {r : Nat} {w w' : World} {row : ARow} (k : RowRel I r w row) (hJ : ∀ s p, J.at_ r s = some p → I.at_ r s = some p) (hb : ∀ b, BlockOf I r b → w'.heap[b]? = w.heap[b]?) : RowRel J r w' row := by
 cases row with
 | cells c e =>
   obtain ⟨i, b, e1, e2, e3⟩ := k
   obtain ⟨er, ir⟩ := h.renL c i
   exact ⟨ir, b, h.at_ _ _ _ e1, by rw [h.base]; exact e2, by rw [hb b ⟨_, _, e1⟩, e3, er]⟩
 | ro c =>
   obtain ⟨i, b, d, e1, e2⟩ := k
   refine ⟨(h.renL c i).2, b, d, h.at_ _ _ _ e1, fun j v hj => ?_⟩
   rw [(h.ren v (InL_get i hj)).1, ← e2 j v hj]
   simp only [World.cell?, hb b ⟨_, _, e1⟩]
 | grow c e sz lens valid =>
   obtain ⟨i, h1, h2, hgen, hof, h3⟩ := k
   obtain ⟨er, ir⟩ := h.renL c i
   refine ⟨ir, h1, h2, fun g p e => hgen g p (hJ _ _ e), fun g g' b d d' v v' e e' => hof g g' b d d' v v' (hJ _ _ e) (hJ _ _ e'), fun g hg hl => ?_⟩
   obtain ⟨b, d, C, e1, e2, e3, e4, e5, e6⟩ := h3 g hg hl
   refine ⟨b, d, C, h.at_ _ _ _ e1, by rw [h.base]; exact e2, by rw [hb b ⟨_, _, e1⟩, e3], e4, ?_, by rw [er]; exact e6⟩
   rw [h.cap _ _ _ e1]; exact e5
 | map es clock =>
   obtain ⟨i, b, e1, e2, e3⟩ := k
   refine ⟨fun e he => ((i e he).le h).1, b, h.at_ _ _ _ e1, by rw [h.base]; exact e2, ?_⟩
   rw [hb b ⟨_, _, e1⟩, e3]
   congr 3
   exact List.map_congr_left fun e he => ((i e he).le h).2.symm
 | iter m since seen c0 =>
   obtain ⟨b, bm, e1, e2, e3, e4⟩ := k
   exact ⟨b, bm, h.at_ _ _ _ e1, by rw [h.base]; exact e2, h.at_ _ _ _ e3, by rw [hb b ⟨_, _, e1⟩, e4]⟩
 | siter s p =>
   obtain ⟨b, e1, e2, e3⟩ := k
   exact ⟨b, h.at_ _ _ _ e1, by rw [h.base]; exact e2, by rw [hb b ⟨_, _, e1⟩, e3]⟩
 | loop l =>
   obtain ⟨b, tmps, db, fn, e1, e2, e3, e5⟩ := k
   exact ⟨b, tmps, db, fn, h.at_ _ _ _ e1, by rw [h.base]; exact e2, e3.le h, by rw [hb b ⟨_, _, e1⟩, e5]⟩
 | defers =>
   obtain ⟨b, e1, e2, e3⟩ := k
   exact ⟨b, h.at_ _ _ _ e1, by rw [h.base]; exact e2, by rw [hb b ⟨_, _, e1⟩, e3]⟩
 | gone => trivial

end AE

/- New rows, loads and stores: abstract and in a world. -/
namespace AE
open Go Go.RowKit

def Inj.plus (I : Inj) (r : Nat) (s : Option Nat) (b c : Nat) (d : Nat := 0) : Inj :=
 ⟨fun r' s' => if r' = r ∧ s' = s then some (b, d) else I.at_ r' s', fun r' g => if r' = r ∧ s = some g then c else I.cap r' g, I.base⟩

theorem Inj.plus_at (I : Inj) (r : Nat) (s : Option Nat) (b c : Nat) {d : Nat} : (I.plus r s b c d).at_ r s = some (b, d) := by simp [Inj.plus]
theorem Inj.plus_old {I : Inj} {r : Nat} {s : Option Nat} {b c d r' : Nat} {s' : Option Nat} (h : ¬ (r' = r ∧ s' = s)) : (I.plus r s b c d).at_ r' s' = I.at_ r' s' := by simp only [Inj.plus, if_neg h]
theorem Le.plus {I : Inj} {r : Nat} {s : Option Nat} {b c d : Nat} (h : I.at_ r s = none) : Le I (I.plus r s b c d) := by
 refine ⟨fun r' s' p e => ?_, fun r' g p e => ?_, rfl⟩
 ·rw [Inj.plus_old]; exact e
  rintro ⟨rfl, rfl⟩
  rw [h] at e; cases e
 ·simp only [Inj.plus]
  rw [if_neg]
  rintro ⟨rfl, rfl⟩
  rw [h] at e; cases e
theorem Inj.plus_dom {I : Inj} {r : Nat} {s : Option Nat} {b c d r' : Nat} (h : (I.plus r s b c d).dom r') : I.dom r' ∨ r' = r := by
 obtain ⟨s', p, e⟩ := h
 by_cases hr : r' = r
 ·exact .inr hr
 ·rw [Inj.plus_old (fun h => hr h.1)] at e
  exact .inl ⟨s', p, e⟩
theorem dom_none {I : Inj} {r : Nat} (h : ¬ I.dom r) (s : Option Nat) : I.at_ r s = none := by
 cases e : I.at_ r s with
 | none => rfl
 | some p => exact absurd ⟨s, p, e⟩ h

theorem heap_alloc (w : World) (o : Obj) : (w.alloc o).heap[w.heap.size]? = some o := by show (w.heap.push o)[w.heap.size]? = _; simp
theorem heap_alloc_old (w : World) (o : Obj) {b : Nat} (h : b < w.heap.size) : (w.alloc o).heap[b]? = w.heap[b]? := by
 show (w.heap.push o)[b]? = _
 rw [Array.getElem?_push, if_neg (by omega)]
theorem Ext.alloc (I : Inj) (lo : Nat) (w : World) (o : Obj) : Ext I lo w (w.alloc o) := by
 refine ⟨rfl, rfl, rfl, by simp, fun b hb _ => heap_alloc_old w o hb⟩

theorem Grows.plus {I : Inj} {w : World} {r : Nat} {s : Option Nat} {b c d : Nat} (h : I.at_ r s = none) (hb : w.heap.size ≤ b ∨ ∃ s' d', I.at_ r s' = some (b, d')) : Grows I (I.plus r s b c d) w := by
 refine ⟨Le.plus h, fun r' s' b' d e => ?_⟩
 by_cases hr : r' = r ∧ s' = s
 ·obtain ⟨rfl, rfl⟩ := hr
  rw [Inj.plus_at] at e
  simp at e
  obtain ⟨rfl, rfl⟩ := e
  exact .inr hb
 ·rw [Inj.plus_old hr] at e
  exact .inl e

theorem Inj.plus_lo {I : Inj} {r : Nat} {s : Option Nat} {b c d lo : Nat} (hr : lo ≤ r) : ∀ r' s' p, r' < lo → (I.plus r s b c d).at_ r' s' = some p → I.at_ r' s' = some p := fun r' s' p hl e => by
 rwa [Inj.plus_old (by omega)] at e

theorem Rel.new {I : Inj} {h : H} {w : World} (k : Rel I h w) {r : Nat} (hn : ¬ I.dom r) (hr : r < h.next) (s : Option Nat) (c : Nat) (o : Obj) {row : ARow} (hrow : RowRel (I.plus r s w.heap.size c) r (w.alloc o) row) :
 Rel (I.plus r s w.heap.size c) (h.put r row) (w.alloc o) := by
 have hle : Le I (I.plus r s w.heap.size c) := Le.plus (dom_none hn s)
 refine ⟨fun r' row' e d => ?_, fun r' d => ?_, fun r' s' b d e => ?_, ?_, ?_, ?_, ?_⟩
 ·simp only [H.put] at e
  split at e
  ·rename_i hrr
   subst hrr
   simp at e; subst e; exact hrow
  ·rename_i hrr
   rcases Inj.plus_dom d with d | d
   ·refine (k.rows r' row' e d).le hle (fun s' p e' => by rwa [Inj.plus_old (fun h => hrr h.1)] at e') (fun b hbo => by obtain ⟨s', d', hb⟩ := hbo; exact heap_alloc_old w o (k.size _ _ _ _ hb))
   ·exact absurd d hrr
 ·rcases Inj.plus_dom d with d | rfl
  ·exact k.lt r' d
  ·exact hr
 ·by_cases hrs : r' = r ∧ s' = s
  ·obtain ⟨rfl, rfl⟩ := hrs
   rw [Inj.plus_at] at e
   simp at e; simp [← e.1]
  ·rw [Inj.plus_old hrs] at e
   have := k.size _ _ _ _ e
   simp; omega
 ·have := k.base; simp [Inj.plus]; omega
 ·have := k.base; exact k.tabs.same fun b hb => heap_alloc_old w o (by omega)
 ·intro r1 r2 s1 s2 b d d' e1 e2 hb
  by_cases h1 : r1 = r ∧ s1 = s
  ·by_cases h2 : r2 = r ∧ s2 = s
   ·rw [h1.1, h2.1]
   ·rw [Inj.plus_old h2] at e2
    obtain ⟨rfl, rfl⟩ := h1
    rw [Inj.plus_at] at e1
    have := k.size _ _ _ _ e2
    simp at e1; omega
  ·rw [Inj.plus_old h1] at e1
   by_cases h2 : r2 = r ∧ s2 = s
   ·obtain ⟨rfl, rfl⟩ := h2
    rw [Inj.plus_at] at e2
    have := k.size _ _ _ _ e1
    simp at e2; omega
   ·rw [Inj.plus_old h2] at e2
    exact k.inj _ _ _ _ _ _ _ e1 e2 hb
 ·intro r' hr'
  simp only [H.put] at hr' ⊢
  rw [if_neg (by omega)]
  exact k.clean r' hr'


theorem glen_le {c : List Value} {lens : List Nat} (h : ∀ n ∈ lens, n ≤ c.length) (g : Nat) : glen lens g ≤ c.length := by
 unfold glen
 cases e : lens[lens.length - 1 - g]? with
 | none => simp
 | some n => simpa using h n (List.mem_of_getElem? e)

theorem load_cells {I : Inj} {h : H} {w : World} {a : Addr} {n : Nat} {l : List Value} {row : ARow} (hg : h.get a.block = some row) (k : RowRel I a.block w row) (ha : InA I a) (hl : h.loadN a n = some l) :
 ∃ b, renA I a = some b ∧ b.spot = none ∧ InL I l ∧ l.length = n ∧ ∀ j v, l[j]? = some v → w.cell? (b.add j) = some (ren I v) := by
 obtain ⟨p, hp⟩ := ha
 refine ⟨⟨p.1, p.2 + a.off, none⟩, by simp only [renA, hp], rfl, ?_⟩
 have hadd : ∀ j, (⟨p.1, p.2 + a.off, none⟩ : Addr).add j = ⟨p.1, p.2 + a.off + j, none⟩ := fun j => by
  unfold Addr.add; split <;> simp_all
 simp only [hadd]
 simp only [H.loadN, hg, Option.bind_some] at hl
 have fin : ∀ (c : List Value) (w' : Nat → Option Value), InL I c → cut c a.off n = some l → (∀ i v, c[i]? = some v → i < a.off + n → w' i = some (ren I v)) →
  InL I l ∧ l.length = n ∧ ∀ j v, l[j]? = some v → w' (a.off + j) = some (ren I v) := by
  intro c w' hi hc hw
  refine ⟨InL_cut hi hc, ?_, fun j v hj => ?_⟩
  ·obtain ⟨h1, rfl⟩ := cut_some hc
   simp; omega
  ·obtain ⟨h1, rfl⟩ := cut_some hc
   rw [List.getElem?_take] at hj
   split at hj
   ·rw [List.getElem?_drop] at hj
    exact hw _ v hj (by omega)
   ·simp at hj
 cases row with
 | cells c e =>
   cases hs : a.spot with
   | some g => rw [hs] at hl; simp [loadRow] at hl
   | none =>
     rw [hs] at hl hp
     obtain ⟨i, b, e1, e2, e3⟩ := k
     rw [hp] at e1; simp at e1; subst e1
     obtain ⟨f1, f2, f3⟩ := fin c (fun i => w.cell? ⟨b, i, none⟩) i hl (fun i v hv _ => by
      simp only [World.cell?, e3]
      simp [renL_getElem?, hv])
     exact ⟨f1, f2, fun j v hj => by simpa using f3 j v hj⟩
 | ro c =>
   cases hs : a.spot with
   | some g => rw [hs] at hl; simp [loadRow] at hl
   | none =>
     rw [hs] at hl hp
     obtain ⟨i, b, d, e1, e2⟩ := k
     rw [hp] at e1; simp at e1; subst e1
     obtain ⟨f1, f2, f3⟩ := fin c (fun i => w.cell? ⟨b, d + i, none⟩) i hl (fun i v hv _ => e2 i v hv)
     exact ⟨f1, f2, fun j v hj => by simpa [Nat.add_assoc] using f3 j v hj⟩
 | grow c e sz lens valid =>
   cases hs : a.spot with
   | none => rw [hs] at hl; simp [loadRow] at hl
   | some g =>
     rw [hs] at hl hp
     simp only [loadRow] at hl
     split at hl
     ·rename_i hc
      obtain ⟨i, h1, h2, hgen, -, h3⟩ := k
      obtain ⟨b, d, C, e1, e2, e3, e4, e5, e6⟩ := h3 g hc.1 hc.2.1
      rw [hp] at e1; simp at e1; subst e1
      obtain ⟨f1, f2, f3⟩ := fin c (fun i => w.cell? ⟨b, d + i, none⟩) i hl (fun i v hv hi => by
       simp only [World.cell?, e3]
       simp [e6 i (by omega), renL_getElem?, hv])
      exact ⟨f1, f2, fun j v hj => by simpa [Nat.add_assoc] using f3 j v hj⟩
     ·simp at hl
 | map es cl => simp [loadRow] at hl
 | iter m s l c => simp [loadRow] at hl
 | siter s p => simp [loadRow] at hl
 | loop l => simp [loadRow] at hl
 | defers => simp [loadRow] at hl
 | gone => simp [loadRow] at hl

theorem run_loadCells_ren {P : Program} {I : Inj} {w : World} {b : Addr} {l : List Value} (h : ∀ j v, l[j]? = some v → w.cell? (b.add j) = some (ren I v)) :
 (loadCells b l.length).run P w = .ok ⟨renL I l⟩ w := by
 have := run_loadCells_list (P := P) w b (renL I l) (fun j v hj => by
  rw [renL_getElem?, Option.map_eq_some_iff] at hj
  obtain ⟨u, hu, rfl⟩ := hj
  exact h j u hu)
 simpa using this

section
variable {P : Program} {I : Inj} {ts : Ts} {ρ : Operand → Value}

theorem run_load1 (hρ : Ev I ts ρ) {o : Oper} {t : TypeId} {x : Operand} {x' : Opd} {h : H} {w : World} {v : Value} (ho : o.op = .load t x) (ht : isAggT P t = some false) (hx : cOpd x = some x')
 (hv : xLoad1 h (ev ts x') = some v) (k : ∀ a row, ev ts x' = .pointer (some a) → h.get a.block = some row → RowRel I a.block w row) : In I v ∧ (execOp ρ o).run P w = .ok (.value (ren I v)) w := by
 obtain ⟨e, i⟩ := hρ x x' hx
 unfold xLoad1 at hv
 split at hv
 ·rename_i a ha
  rw [ha] at e i
  simp only [Option.bind_eq_some_iff] at hv
  obtain ⟨l, hl, hv⟩ := hv
  cases hg : h.get a.block with
  | none => simp [H.loadN, hg] at hl
  | some row =>
    obtain ⟨b, hb, hbs, il, hlen, hcell⟩ := load_cells hg (k a row ha hg) (by simpa [In] using i) hl
    have h0 : l[0]? = some v := by simpa using hv
    have hc := hcell 0 v h0
    have hb0 : b.add 0 = b := rfl
    rw [hb0] at hc
    refine ⟨InL_get il h0, ?_⟩
    simp [execOp, ho, e, ren, hb, Instr.loadAt, Instr.sureAddr, loadVar, run_isAggT ht, hc]
 ·simp at hv
theorem run_loadn (hρ : Ev I ts ρ) {o : Oper} {t : TypeId} {n : Nat} {x : Operand} {x' : Opd} {h : H} {w : World} {v : Value} (ho : o.op = .load t x) (ht : isAggT P t = some true) (hn : sizeT P t = some n) (hx : cOpd x = some x')
 (hv : xLoadn n h (ev ts x') = some v) (k : ∀ a row, ev ts x' = .pointer (some a) → h.get a.block = some row → RowRel I a.block w row) : In I v ∧ (execOp ρ o).run P w = .ok (.value (ren I v)) w := by
 obtain ⟨e, i⟩ := hρ x x' hx
 unfold xLoadn at hv
 split at hv
 ·rename_i a ha
  rw [ha] at e i
  simp only [Option.map_eq_some_iff] at hv
  obtain ⟨l, hl, rfl⟩ := hv
  cases hg : h.get a.block with
  | none => simp [H.loadN, hg] at hl
  | some row =>
    obtain ⟨b, hb, hbs, il, hlen, hcell⟩ := load_cells hg (k a row ha hg) (by simpa [In] using i) hl
    have hc := run_loadCells_ren (P := P) hcell
    rw [hlen] at hc
    refine ⟨by simpa only [In] using il, ?_⟩
    simp [execOp, ho, e, ren, hb, Instr.loadAt, Instr.sureAddr, loadVar, run_isAggT ht, run_sizeT hn, hc]
 ·simp at hv


def Fresh (P : Program) (I : Inj) (ρ : Operand → Value) (o : Oper) (nid : Nat) (h h' : H) (v : Value) : Prop :=
 ∃ row, h' = h.put nid row ∧ ∀ w, I.base ≤ w.heap.size → ¬ I.dom nid → ∃ ob, (execOp ρ o).run P w = .ok (.value (ren (I.plus nid none w.heap.size 0) v)) (w.alloc ob) ∧
  In (I.plus nid none w.heap.size 0) v ∧ RowRel (I.plus nid none w.heap.size 0) nid (w.alloc ob) row

theorem fresh_cells {nid : Nat} {w : World} {c : List Value} {e : TypeId} (hc : InL I c) (hb : I.base ≤ w.heap.size) (hn : ¬ I.dom nid) :
 RowRel (I.plus nid none w.heap.size 0) nid (w.alloc (.cells ⟨renL I c⟩ e)) (.cells c e) := by
 have hle : Le I (I.plus nid none w.heap.size 0) := Le.plus (dom_none hn none)
 obtain ⟨e1, i1⟩ := hle.renL c hc
 exact ⟨i1, w.heap.size, Inj.plus_at .., hb, by rw [heap_alloc, e1]⟩
theorem ren_new {nid b : Nat} : ren (I.plus nid none b 0) (.pointer (some ⟨nid, 0, none⟩)) = .pointer (some ⟨b, 0, none⟩) ∧ In (I.plus nid none b 0) (.pointer (some ⟨nid, 0, none⟩)) := by
 simp only [ren, In, renA, InA, Inj.plus_at]
 exact ⟨by simp, _, rfl⟩
theorem ren_newsl {nid b l c : Nat} (h : l ≤ c) (hf : c < far) : ren (I.plus nid none b 0) (.slice (some ⟨nid, 0, none⟩) l c) = .slice (some ⟨b, 0, none⟩) l c ∧ In (I.plus nid none b 0) (.slice (some ⟨nid, 0, none⟩) l c) := by
 rw [ren_sl hf, In_sl hf]
 simp only [renA, InA, Inj.plus_at, renCap, InCap]
 exact ⟨by simp, ⟨_, rfl⟩, h⟩

theorem fresh_alloc {o : Oper} {e : TypeId} {z : Value} {nid : Nat} {h h' : H} {v : Value} (ho : o.op = .alloc e) (hz : zflat P e = some z) (ha : newCells nid e (cellsL z) h = some (v, h')) : Fresh P I ρ o nid h h' v := by
 have hzf := (run_zflat hz default).2
 have hi : InL I (cellsL z) := InL_cellsL (flat_ren I z hzf).2
 have hrz : renL I (cellsL z) = cellsL z := by rw [← cellsL_ren, (flat_ren I z hzf).1]
 simp [newCells] at ha
 obtain ⟨rfl, rfl⟩ := ha
 refine ⟨_, rfl, fun w hb hn => ⟨.cells ⟨renL I (cellsL z)⟩ e, ?_, ren_new.2, fresh_cells hi hb hn⟩⟩
 rw [ren_new.1, hrz]
 simp [execOp, ho, Instr.alloc, (run_zflat hz w).1, newVar, newRow, cells_eq]
theorem fresh_box (hρ : Ev I ts ρ) {o : Oper} {e : TypeId} {x : Operand} {x' : Opd} {nid : Nat} {h h' : H} {v : Value} (ho : o.op = .box e x) (hx : cOpd x = some x') (ha : newCells nid e (cellsL (ev ts x')) h = some (v, h')) : Fresh P I ρ o nid h h' v := by
 obtain ⟨e1, i1⟩ := hρ x x' hx
 simp [newCells] at ha
 obtain ⟨rfl, rfl⟩ := ha
 refine ⟨_, rfl, fun w hb hn => ⟨.cells ⟨renL I (cellsL (ev ts x'))⟩ e, ?_, ren_new.2, fresh_cells (InL_cellsL i1) hb hn⟩⟩
 rw [ren_new.1]
 simp [execOp, ho, e1, Instr.box, newVar, newRow, cells_eq, cellsL_ren]
theorem reps_flat {z : List Value} (hz : flatL z = true) : ∀ n, flatL (reps z n) = true
 | 0 => rfl
 | n + 1 => by
   have : ∀ a b : List Value, flatL a = true → flatL b = true → flatL (a ++ b) = true := by
    intro a b h1 h2
    induction a with
    | nil => exact h2
    | cons x xs ih => simp only [List.cons_append, flatL, Bool.and_eq_true] at *; exact ⟨h1.1, ih h1.2⟩
   exact this _ _ hz (reps_flat hz n)
theorem reps_length (z : List Value) : ∀ n, (reps z n).length = n * z.length
 | 0 => by simp [reps]
 | n + 1 => by simp [reps, reps_length z n, Nat.add_mul]; omega
theorem reps_get {z : List Value} : ∀ (n i : Nat), i < n * z.length → (reps z n)[i]? = z[i % z.length]?
 | 0, i, h => by simp at h
 | n + 1, i, h => by
   have hz : 0 < z.length := by
    rcases Nat.eq_zero_or_pos z.length with h0 | h0
    ·rw [h0] at h; simp at h
    ·exact h0
   simp only [reps, List.getElem?_append]
   by_cases hi : i < z.length
   ·rw [if_pos hi, Nat.mod_eq_of_lt hi]
   ·have h' : i < n * z.length + 1 * z.length := by rw [← Nat.add_mul]; exact h
    rw [if_neg hi, reps_get n _ (by omega)]
    congr 1
    exact (Nat.mod_eq_sub_mod (by omega)).symm
theorem reps_eq (z : List Value) (n m : Nat) (hm : m = n * z.length) : (Array.range m).map (fun i => (⟨z⟩ : Array Value)[i % (⟨z⟩ : Array Value).size]!) = ⟨reps z n⟩ := by
 apply Array.ext'
 simp only [Array.toList_map, Array.toList_range]
 apply List.ext_getElem?
 intro i
 simp only [List.getElem?_map]
 by_cases hi : i < m
 ·have hz : 0 < z.length := by
   rcases Nat.eq_zero_or_pos z.length with h0 | h0
   ·rw [hm, h0] at hi; simp at hi
   ·exact h0
  rw [reps_get n i (by omega)]
  have hlt := Nat.mod_lt i hz
  simp [hi, hlt]
 ·simp [hi, List.getElem?_eq_none (show (reps z n).length ≤ i by rw [reps_length]; omega)]

theorem fresh_bslice (hρ : Ev I ts ρ) {o : Oper} {t e : TypeId} {len : Nat} {parts : Array (Nat × Operand)} {ie : TypeInfo} {z : Value} {ps : List (Nat × Nat × Opd)} {nid : Nat} {h h' : H} {v : Value} (ho : o.op = .buildSlice t len parts)
 (ht : P.underlying t = some (.slice e)) (hi : P.info? e = some ie) (hz : zflat P e = some z) (h24 : len * ie.size ≤ 2 ^ 24) (h0 : ie.size ≠ 0) (hzl : (cellsL z).length = ie.size)
 (hps : cParts (fun i => some (i * ie.size, ie.size)) parts.toList = some ps) (ha : (afill ts (reps (cellsL z) len) ps).map (fun cs => (Value.slice (some ⟨nid, 0, none⟩) len len, h.put nid (.cells cs e))) = some (v, h')) : Fresh P I ρ o nid h h' v := by
 have hzf := (run_zflat hz default).2
 have hzL : flatL (cellsL z) = true := by
  cases z <;> simp_all [cellsL, flatL, flat]
 obtain ⟨er, ir⟩ := flat_renL I _ (reps_flat hzL len)
 simp only [Option.map_eq_some_iff, Prod.mk.injEq] at ha
 obtain ⟨cs, hcs, rfl, rfl⟩ := ha
 obtain ⟨f1, f2⟩ := run_fill hρ _ _ _ _ _ hps hcs ir
 rw [er] at f1
 have hs : sizeT P e = some ie.size := by simp [sizeT, hi]
 have hfar : len < far := by
  have : len * 1 ≤ len * ie.size := Nat.mul_le_mul_left _ (by omega)
  unfold far
  omega
 refine ⟨_, rfl, fun w hb hn => ⟨.cells ⟨renL I cs⟩ e, ?_, (ren_newsl (Nat.le_refl _) hfar).2, fresh_cells f2 hb hn⟩⟩
 rw [(ren_newsl (Nat.le_refl _) hfar).1]
 have h24' : ¬ (len * ie.size > 16777216) := by omega
 have hrep := reps_eq (cellsL z) len (len * ie.size) (by rw [hzl])
 by_cases hl : len = 0
 ·subst hl
  simp only [reps] at f1
  have hr0 : ∀ f : Nat → Value, Array.map f (Array.range 0) = ⟨[]⟩ := fun f => by simp [Array.range]
  simp [execOp, ho, Instr.buildSlice, run_underlying ht, run_sizeT hs, hr0, newRow] at f1 ⊢
  simp [f1]
 ·have hne : ¬ (len * ie.size = 0) := by
   rw [Nat.mul_eq_zero]; omega
  simp only [execOp, ho, Instr.buildSlice, Sem.run_bind, run_underlying ht, Result.andThen_ok, run_sizeT hs]
  rw [if_neg (by simpa using h24')]
  simp only [hne, if_false, Sem.run_bind, (run_zflat hz w).1, Result.andThen_ok, Sem.run_pure, cells_eq]
  rw [hrep]
  simp [f1, newRow]
theorem fresh_mkmap {o : Oper} {t : TypeId} {nid : Nat} {h h' : H} {v : Value} (ho : o.op = .makeMap t none) (ha : some (Value.map (some nid), h.put nid (.map [] 0)) = some (v, h')) : Fresh P I ρ o nid h h' v := by
 simp at ha
 obtain ⟨rfl, rfl⟩ := ha
 refine ⟨_, rfl, fun w hb hn => ⟨.map #[] 0, ?_, ?_, ?_⟩⟩
 ·simp [execOp, ho, Instr.makeMap, ren, Inj.blk, Inj.plus_at]
 ·simp only [In, InR]; exact ⟨_, Inj.plus_at ..⟩
 ·exact ⟨by simp, w.heap.size, Inj.plus_at .., hb, by rw [heap_alloc]; rfl⟩
theorem fresh_mkslice (hρ : Ev I ts ρ) {o : Oper} {t e : TypeId} {x y : Operand} {x' y' : Opd} {ie : TypeInfo} {z : Value} {nid : Nat} {h h' : H} {v : Value} (ho : o.op = .makeSlice t x y) (ht : P.underlying t = some (.slice e)) (hi : P.info? e = some ie)
 (hz : zflat P e = some z) (h0 : ie.size ≠ 0) (hzl : (cellsL z).length = ie.size) (hx : cOpd x = some x') (hy : cOpd y = some y')
 (ha : xMkslice nid (cellsL z) ie.bytes e h (natOf? (ev ts x')) (natOf? (ev ts y')) = some (v, h')) : Fresh P I ρ o nid h h' v := by
 have hzf := (run_zflat hz default).2
 have hzL : flatL (cellsL z) = true := by
  cases z <;> simp_all [cellsL, flatL, flat]
 obtain ⟨e1, -⟩ := hρ x x' hx
 obtain ⟨e2, -⟩ := hρ y y' hy
 unfold xMkslice at ha
 split at ha
 ·rename_i l c hl hc
  split at ha <;> simp at ha
  rename_i hb
  obtain ⟨rfl, rfl⟩ := ha
  obtain ⟨k1, r1⟩ := natOf_ren (I := I) hl
  obtain ⟨k2, r2⟩ := natOf_ren (I := I) hc
  rw [r1] at e1
  rw [r2] at e2
  obtain ⟨er, ir⟩ := flat_renL I _ (reps_flat hzL c)
  have hs : sizeT P e = some ie.size := by simp [sizeT, hi]
  have hbig : c < 2 ^ 40 ∧ ie.bytes * c ≤ 2 ^ 40 := by
   have h1 := hb.2
   have h2 : (c + 1) * (ie.bytes + 1) = ie.bytes * c + c + ie.bytes + 1 := by rw [Nat.add_mul, Nat.mul_add, Nat.mul_comm c]; omega
   omega
  have hfar : c < far := by unfold far; omega
  refine ⟨_, rfl, fun w hbs hn => ⟨.cells ⟨renL I (reps (cellsL z) c)⟩ e, ?_, (ren_newsl hb.1 hfar).2, fresh_cells ir hbs hn⟩⟩
  rw [(ren_newsl hb.1 hfar).1]
  have hw : ∀ m : Nat, m < 2 ^ 40 → IntKind.i64.wrap (m : Int) = (m : Int) := fun m hm => by
   have h64 : (2 : Int) ^ 64 = 18446744073709551616 := by decide
   have h63 : (2 : Int) ^ 63 = 9223372036854775808 := by decide
   simp only [IntKind.wrap, IntKind.bits, IntKind.signed, h64, h63]
   rw [Int.emod_eq_of_lt (by omega) (by omega), if_neg (by simp; omega)]
  have hl40 : l < 2 ^ 40 := by omega
  have hrep := reps_eq (cellsL z) c (c * ie.size) (by rw [hzl])
  simp only [execOp, ho, Instr.makeSlice, Sem.run_bind, run_underlying ht, Result.andThen_ok, e1, e2, asInt, asIntOf, Sem.run_pure, run_typeInfo _ hi, hw l hl40, hw c hbig.1]
  rw [if_neg (by simp; omega)]
  simp only [Sem.run_bind, run_askRoom, Result.andThen_ok, run_sizeT hs, Int.toNat_natCast]
  by_cases hc0 : c = 0
  ·subst hc0
   have hr0 : ∀ f : Nat → Value, Array.map f (Array.range 0) = ⟨[]⟩ := fun f => by simp [Array.range]
   simp [hr0, newRow, reps, renL]
  ·have hne : ¬ (c * ie.size = 0) := by
    rw [Nat.mul_eq_zero]; omega
   rw [if_neg hne]
   simp only [Sem.run_bind, (run_zflat hz w).1, Result.andThen_ok, Sem.run_pure, cells_eq]
   rw [hrep, er]
   simp [newRow]
 ·simp at ha


theorem cBin_kind {o : Oper} {op : BinOp} {t : TypeId} {x y : Operand} {ao : AOp} (hc : cBin P o op t x y = some ao) : ao.fresh = false ∧ ao.light = true := by
 unfold cBin at hc
 simp only [Option.bind_eq_some_iff] at hc
 obtain ⟨x', hx, y', hy, hc⟩ := hc
 repeat' split at hc
 all_goals (simp at hc; subst hc; exact ⟨rfl, rfl⟩)
theorem cCall_kind {o : Oper} {c : Call} {ao : AOp} (hc : cCall P o c = some (.op ao)) (hl : ao.light = true) : ao.fresh = false := by
 unfold cCall at hc
 split at hc
 ·simp only [Option.bind_eq_some_iff, Option.map_eq_some_iff] at hc
  obtain ⟨_, _, _, _, hc⟩ := hc
  simp at hc
 ·split at hc
  ·simp only [Option.map_eq_some_iff] at hc
   obtain ⟨_, _, hc⟩ := hc
   simp at hc
  ·simp at hc
 ·split at hc
  ·simp only [Option.bind_eq_some_iff] at hc
   obtain ⟨x', hx', hc⟩ := hc
   split at hc <;> first
    | (simp at hc; done)
    | (simp at hc; subst hc; rfl)
    | (simp only [Option.map_eq_some_iff] at hc; obtain ⟨_, _, hc⟩ := hc; simp at hc; subst hc; rfl)
  ·simp only [Option.bind_eq_some_iff] at hc
   obtain ⟨x', hx', y', hy', hc⟩ := hc
   split at hc
   ·split at hc
    ·simp at hc
    ·simp only [Option.bind_eq_some_iff] at hc
     obtain ⟨ie, _, z, _, hc⟩ := hc
     split at hc <;> simp at hc
     subst hc; simp [AOp.light] at hl
    ·simp at hc
   ·simp only [Option.map_eq_some_iff] at hc
    obtain ⟨s, _, hc⟩ := hc
    simp at hc; subst hc; rfl
   all_goals first
    | (simp at hc; done)
    | (simp at hc; subst hc; rfl)
  ·split at hc
   all_goals first
    | (simp at hc; done)
    | (simp only [Option.map_eq_some_iff] at hc
       obtain ⟨ys, hys, hc⟩ := hc
       simp at hc; subst hc; rfl)

theorem aop_fresh (hρ : Ev I ts ρ) {o : Oper} {ao : AOp} {lo nid : Nat} {h h' : H} {v : Value} (hc : comp P o = some (.op ao)) (hl : ao.light = true) (hf : ao.fresh = true)
 (ha : aop P lo nid ts h ao = some (v, h')) : Fresh P I ρ o nid h h' v := by
 have hc := comp_op hc (by rintro rfl; simp [AOp.fresh] at hf)
 unfold comp0 at hc
 cases ho : o.op <;> rw [ho] at hc <;> simp only [Option.bind_eq_some_iff, Option.map_eq_some_iff, reduceCtorEq] at hc
 case alloc e => obtain ⟨z, hz, hc⟩ := hc; simp at hc; subst hc; exact fresh_alloc ho hz ha
 case box e x => obtain ⟨x', hx, hc⟩ := hc; simp at hc; subst hc; exact fresh_box hρ ho hx ha
 case buildSlice t len parts =>
  split at hc
  ·rename_i e ht
   simp only [Option.bind_eq_some_iff] at hc
   obtain ⟨ie, hi, z, hz, hc⟩ := hc
   split at hc
   ·rename_i hb
    simp only [Option.map_eq_some_iff] at hc
    obtain ⟨ps, hps, hc⟩ := hc
    simp at hc; subst hc
    exact fresh_bslice hρ ho ht hi hz hb.1 hb.2.1 hb.2.2 hps ha
   ·simp at hc
  ·simp at hc
 case makeMap t r => cases r <;> simp at hc; subst hc; exact fresh_mkmap ho ha
 case makeSlice t l c =>
  split at hc
  ·rename_i e ht
   simp only [Option.bind_eq_some_iff] at hc
   obtain ⟨ie, hi, z, hz, hc⟩ := hc
   split at hc
   ·rename_i hb
    simp only [Option.bind_eq_some_iff, Option.map_eq_some_iff] at hc
    obtain ⟨l', hl', c', hc', hc⟩ := hc
    simp at hc; subst hc
    exact fresh_mkslice hρ ho ht hi hz hb.1 hb.2 hl' hc' ha
   ·simp at hc
  ·simp at hc
 case binOp op t x y t' =>
  obtain ⟨ao', hb, hc⟩ := hc
  simp at hc; subst hc
  rw [(cBin_kind hb).1] at hf; cases hf
 case call c => rw [cCall_kind hc hl] at hf; cases hf
 case panic x => simp at hc; subst hc; simp [AOp.fresh] at hf
 case move => obtain ⟨_, _, hc⟩ := hc; simp at hc; subst hc; simp [AOp.fresh] at hf
 case assign => obtain ⟨_, _, hc⟩ := hc; simp at hc; subst hc; simp [AOp.fresh] at hf
 case pick => obtain ⟨_, _, _, _, _, _, hc⟩ := hc; simp at hc; subst hc; simp [AOp.fresh] at hf
 case build =>
  obtain ⟨_, _, hc⟩ := hc
  split at hc
  ·split at hc
   ·simp only [Option.map_eq_some_iff] at hc
    obtain ⟨_, _, hc⟩ := hc; simp at hc; subst hc; simp [AOp.fresh] at hf
   ·simp at hc
  ·simp only [Option.bind_eq_some_iff, Option.map_eq_some_iff] at hc
   obtain ⟨_, _, _, _, hc⟩ := hc; simp at hc; subst hc; simp [AOp.fresh] at hf
  ·simp at hc
 case load =>
  obtain ⟨_, _, hc⟩ := hc
  split at hc
  ·simp only [Option.map_eq_some_iff] at hc
   obtain ⟨_, _, hc⟩ := hc; simp at hc; subst hc; simp [AOp.fresh] at hf
  ·simp at hc; subst hc; simp [AOp.fresh] at hf
  ·simp at hc
 case store => obtain ⟨_, _, _, _, _, _, hc⟩ := hc; simp at hc; subst hc; simp [AOp.fresh] at hf
 case nilCheck => obtain ⟨_, _, hc⟩ := hc; simp at hc; subst hc; simp [AOp.fresh] at hf
 case unOp =>
  obtain ⟨_, _, hc⟩ := hc
  split at hc <;> (simp at hc; subst hc; simp [AOp.fresh] at hf)
 case convert =>
  obtain ⟨_, _, hc⟩ := hc
  split at hc
  ·simp at hc; subst hc; simp [AOp.fresh] at hf
  ·split at hc
   ·simp at hc; subst hc; simp [AOp.light] at hl
   ·simp at hc
  ·simp at hc; subst hc; simp [AOp.fresh] at hf
 case makeInterface =>
  split at hc
  ·simp at hc
  ·simp only [Option.map_eq_some_iff] at hc
   obtain ⟨_, _, hc⟩ := hc; simp at hc; subst hc; simp [AOp.fresh] at hf
  ·simp at hc
 case makeFunc =>
  split at hc
  ·simp only [Option.bind_eq_some_iff, Option.map_eq_some_iff] at hc
   obtain ⟨_, _, _, _, hc⟩ := hc; simp at hc; subst hc; simp [AOp.fresh] at hf
  ·simp at hc
 case slice =>
  obtain ⟨_, _, _, _, _, _, _, _, hc⟩ := hc
  split at hc
  ·simp at hc
  ·split at hc
   ·simp only [Option.map_eq_some_iff] at hc
    obtain ⟨_, _, hc⟩ := hc; simp at hc; subst hc; simp [AOp.fresh] at hf
   ·simp only [Option.map_eq_some_iff] at hc
    obtain ⟨_, _, hc⟩ := hc; simp at hc; subst hc; simp [AOp.fresh] at hf
   ·simp at hc; subst hc; simp [AOp.fresh] at hf
   ·simp at hc
 case fieldAddr =>
  split at hc
  ·simp only [Option.bind_eq_some_iff] at hc
   obtain ⟨_, _, _, _, hc⟩ := hc
   split at hc
   ·simp at hc
   ·simp only [Option.map_eq_some_iff] at hc
    obtain ⟨_, _, hc⟩ := hc; simp at hc; subst hc; simp [AOp.fresh] at hf
  ·simp at hc
 case field =>
  split at hc
  ·simp only [Option.bind_eq_some_iff] at hc
   obtain ⟨_, _, _, _, hc⟩ := hc
   split at hc
   ·simp only [Option.map_eq_some_iff] at hc
    obtain ⟨_, _, hc⟩ := hc; simp at hc; subst hc; simp [AOp.fresh] at hf
   ·simp at hc; subst hc; simp [AOp.fresh] at hf
   ·simp at hc
  ·simp at hc
 case indexAddr =>
  obtain ⟨_, _, _, _, hc⟩ := hc
  split at hc
  ·simp only [Option.map_eq_some_iff] at hc
   obtain ⟨_, _, hc⟩ := hc; simp at hc; subst hc; simp [AOp.fresh] at hf
  ·simp only [Option.map_eq_some_iff] at hc
   obtain ⟨_, _, hc⟩ := hc; simp at hc; subst hc; simp [AOp.fresh] at hf
  ·simp at hc
 case index =>
  obtain ⟨_, _, _, _, hc⟩ := hc
  split at hc
  ·split at hc
   ·simp only [Option.map_eq_some_iff] at hc
    obtain ⟨_, _, hc⟩ := hc; simp at hc; subst hc; simp [AOp.fresh] at hf
   ·split at hc
    ·simp at hc; subst hc; simp [AOp.fresh] at hf
    ·simp at hc
   ·simp at hc
  ·simp at hc; subst hc; simp [AOp.fresh] at hf
  ·simp at hc
 case extract => obtain ⟨_, _, hc⟩ := hc; simp at hc; subst hc; simp [AOp.fresh] at hf
 case typeAssert =>
  split at hc
  ·split at hc
   ·simp at hc
   ·simp only [Option.map_eq_some_iff] at hc
    obtain ⟨_, _, hc⟩ := hc; simp at hc; subst hc; simp [AOp.fresh] at hf
  ·simp only [Option.bind_eq_some_iff, Option.map_eq_some_iff] at hc
   obtain ⟨_, _, _, _, hc⟩ := hc; simp at hc; subst hc; simp [AOp.fresh] at hf
  ·simp at hc
 case lookup =>
  split at hc
  ·simp only [Option.bind_eq_some_iff, Option.map_eq_some_iff] at hc
   obtain ⟨_, _, _, _, _, _, hc⟩ := hc; simp at hc; subst hc; simp [AOp.fresh] at hf
  ·simp at hc
 case mapUpdate =>
  split at hc
  ·simp only [Option.bind_eq_some_iff, Option.map_eq_some_iff] at hc
   obtain ⟨_, _, _, _, _, _, hc⟩ := hc; simp at hc; subst hc; simp [AOp.fresh] at hf
  ·simp at hc
 case insert =>
  split at hc
  ·simp only [Option.bind_eq_some_iff, Option.map_eq_some_iff] at hc
   obtain ⟨_, _, _, _, _, _, hc⟩ := hc; simp at hc; subst hc; simp [AOp.fresh] at hf
  ·simp at hc
 case range =>
  split at hc
  ·simp only [Option.map_eq_some_iff] at hc
   obtain ⟨_, _, hc⟩ := hc; simp at hc; subst hc; simp [AOp.light] at hl
  ·simp only [Option.map_eq_some_iff] at hc
   obtain ⟨_, _, hc⟩ := hc; simp at hc; subst hc; simp [AOp.light] at hl
  ·simp at hc
 case next =>
  split at hc
  ·simp only [Option.map_eq_some_iff] at hc
   obtain ⟨_, _, hc⟩ := hc; simp at hc; subst hc; simp [AOp.light] at hl
  ·simp at hc
 case entry => obtain ⟨_, _, hc⟩ := hc; simp at hc; subst hc; simp [AOp.light] at hl
 case mapEntry =>
  split at hc
  ·simp only [Option.bind_eq_some_iff, Option.map_eq_some_iff] at hc
   obtain ⟨_, _, _, _, _, _, hc⟩ := hc; simp at hc; subst hc; simp [AOp.light] at hl
  ·simp at hc
 case entryStore => obtain ⟨_, _, _, _, _, _, hc⟩ := hc; simp at hc; subst hc; simp [AOp.light] at hl

end
end AE

/- Stores: abstract and in a world. -/
namespace AE
open Go Go.RowKit

structure But (b : Nat) (w w' : World) : Prop where
 os : w'.os = w.os
 tape : w'.tape = w.tape
 output : w'.output = w.output
 size : w'.heap.size = w.heap.size
 block : ∀ k, k ≠ b → w'.heap[k]? = w.heap[k]?

theorem But.setRow (w : World) (b : Nat) (cs : Array Value) : But b w (w.setRow b cs) := by
 refine ⟨rfl, rfl, rfl, by simp [World.setRow], fun k hk => ?_⟩
 simp only [World.setRow, Array.getElem?_modify]
 rw [if_neg (by omega)]

theorem oneCell_ren {I : Inj} {vs : List Value} (hone : vs.all Value.oneCell' = true) : ∀ v ∈ renL I vs, v.oneCell' = true := by
 intro v hv'
 rw [renL_map, List.mem_map] at hv'
 obtain ⟨u, hu, rfl⟩ := hv'
 have := List.all_eq_true.1 hone u hu
 match u with
 | .agg _ => simp [Value.oneCell'] at this
 | .tuple _ => simp [Value.oneCell'] at this
 | .pointer (some _) => simp [ren, Value.oneCell']
 | .pointer none => simp [ren, Value.oneCell']
 | .slice (some _) _ c => rcases Nat.lt_or_ge c far with hc | hc <;> simp [ren_sl, ren_far, hc, Value.oneCell']
 | .slice none _ _ => simp [ren, Value.oneCell']
 | .map (some _) => simp [ren, Value.oneCell']
 | .map none => simp [ren, Value.oneCell']
 | .chan _ => simp [ren, Value.oneCell']
 | .func _ ⟨_⟩ ⟨_⟩ => simp [ren, Value.oneCell']
 | .iface _ _ => simp [ren, Value.oneCell']
 | .bool _ => simp [ren, Value.oneCell']
 | .int _ _ => simp [ren, Value.oneCell']
 | .float _ _ => simp [ren, Value.oneCell']
 | .complex _ _ _ => simp [ren, Value.oneCell']
 | .string _ => simp [ren, Value.oneCell']
 | .nilFunc => simp [ren, Value.oneCell']
 | .nilIface => simp [ren, Value.oneCell']
theorem heap_setRow {w : World} {b : Nat} {C : Array Value} (D : Array Value) {e : TypeId} (hb : w.heap[b]? = some (.cells C e (0, 0))) : (w.setRow b D).heap[b]? = some (.cells D e (0, 0)) := by
 simp [World.setRow, Array.getElem?_modify, hb]

theorem store_cells {P : Program} {I : Inj} {h h' : H} {lo : Nat} {w : World} {a : Addr} {vs : List Value} {row : ARow} (hg : h.get a.block = some row) (k : RowRel I a.block w row) (ha : InA I a) (hv : InL I vs) (hs : h.storeN lo a vs = some h') :
 lo ≤ a.block ∧ ∃ b row' w', renA I a = some b ∧ h' = h.put a.block row' ∧ (storeCells b (renL I vs)).run P w = .ok () w' ∧ RowRel I a.block w' row' ∧ But b.block w w' ∧ I.base ≤ b.block ∧ (∃ s d, I.at_ a.block s = some (b.block, d)) := by
 obtain ⟨p, hp⟩ := ha
 unfold H.storeN at hs
 split at hs
 ·rename_i hc
  obtain ⟨hlo, hone⟩ := hc
  refine ⟨hlo, ⟨p.1, p.2 + a.off, none⟩, ?_⟩
  simp only [hg, Option.bind_some, Option.map_eq_some_iff] at hs
  obtain ⟨row', hrow, rfl⟩ := hs
  have hone' := oneCell_ren (I := I) hone
  have hheap : ∀ (b : Nat) (C D : Array Value) (e : TypeId), w.heap[b]? = some (.cells C e (0, 0)) → (w.setRow b D).heap[b]? = some (.cells D e (0, 0)) := by
   intro b C D e hb
   simp [World.setRow, Array.getElem?_modify, hb]
  cases row with
  | cells c e =>
    cases hsp : a.spot with
    | some g => rw [hsp] at hrow; simp [storeRow] at hrow
    | none =>
      rw [hsp] at hrow hp
      simp only [storeRow] at hrow
      split at hrow <;> simp at hrow
      rename_i hle
      subst hrow
      obtain ⟨i, b, e1, e2, e3⟩ := k
      rw [hp] at e1; simp at e1; subst e1
      have hrun := run_storeCells_at (P := P) b (0 + a.off) e (renL I vs) 0 ⟨renL I c⟩ w e3 (by simp; omega) hone'
      refine ⟨.cells (splice c a.off vs) e, _, by simp only [renA, hsp, hp], rfl, hrun, ⟨InL_splice i hv, b, hp, e2, ?_⟩, But.setRow _ _ _, e2, none, _, hp⟩
      rw [hheap b _ _ e e3, renL_splice]
      simp [splice]
  | grow c e sz lens valid =>
    cases hsp : a.spot with
    | none => rw [hsp] at hrow; simp [storeRow] at hrow
    | some g =>
      rw [hsp] at hrow hp
      simp only [storeRow] at hrow
      split at hrow <;> simp at hrow
      rename_i hle
      subst hrow
      obtain ⟨i, h1, h2, hgen, -, h3⟩ := k
      obtain ⟨hvl, hg1, hoff⟩ := hle
      obtain ⟨b, d, C, e1, e2, e3, e4, e5, e6⟩ := h3 g hvl (by omega)
      rw [hp] at e1; simp at e1; subst e1
      have hgl : glen lens g = c.length := by
       unfold glen
       rw [show lens.length - 1 - g = 0 by omega]
       cases lens with
       | nil => simp at h1
       | cons x xs => simp at h1 ⊢; exact h1
      have hlr : (renL I vs).length = vs.length := by simp
      have hrun := run_storeCells_at (P := P) b (d + a.off) e (renL I vs) 0 C w e3 (by rw [hlr]; omega) hone'
      refine ⟨.grow (splice c a.off vs) e sz lens g, _, by simp only [renA, hsp, hp], rfl, hrun, ⟨InL_splice i hv, ?_, ?_, hgen, fun g1 g2 b d d' v1 v2 x1 x2 => by obtain rfl : g1 = g2 := (by have := hgen _ _ x1; have := hgen _ _ x2; omega); rw [x1] at x2; simp at x2; exact x2, ?_⟩, But.setRow _ _ _, e2, some g, _, hp⟩
      ·rw [h1, splice_length hoff]
      ·rw [splice_length hoff]; exact h2
      ·intro g' hg' hlt
       obtain rfl : g' = g := by omega
       refine ⟨b, d, _, hp, e2, hheap b _ _ e e3, ?_, ?_, ?_⟩
       ·simp [hlr]; omega
       ·have : (C.toList.take (d + a.off + 0) ++ renL I vs ++ C.toList.drop (d + a.off + 0 + (renL I vs).length)).toArray.size = C.size := by
         simp [hlr]; omega
        rw [this]; exact e5
       ·intro j hj
        rw [hgl] at hj
        have e6' : ∀ j, j < c.length → C.toList[d + j]? = (renL I c)[j]? := fun j hj => by rw [Array.getElem?_toList]; exact e6 j (by omega)
        rw [renL_splice]
        simp only [List.getElem?_toArray, splice, List.append_assoc, List.getElem?_append, List.getElem?_take, List.getElem?_drop, List.length_take, hlr, renL_length, Array.length_toList, Nat.add_zero]
        have m1 : min (d + a.off) C.size = d + a.off := by omega
        have m2 : min a.off c.length = a.off := by omega
        rw [m1, m2]
        by_cases h7 : j < a.off
        ·rw [if_pos (by omega), if_pos (by omega), if_pos h7, if_pos h7, e6' j (by omega)]
        ·rw [if_neg (by omega), if_neg h7, show d + j - (d + a.off) = j - a.off by omega]
         by_cases h8 : j - a.off < vs.length
         ·rw [if_pos h8, if_pos h8]
         ·rw [if_neg h8, if_neg h8, show d + a.off + vs.length + (j - a.off - vs.length) = d + (a.off + vs.length + (j - a.off - vs.length)) by omega, e6' _ (by omega)]
  | ro c => simp [storeRow] at hrow
  | map es cl => simp [storeRow] at hrow
  | iter m s l c => simp [storeRow] at hrow
  | siter s p => simp [storeRow] at hrow
  | loop l => simp [storeRow] at hrow
  | defers => simp [storeRow] at hrow
  | gone => simp [storeRow] at hrow
 ·simp at hs


theorem Rel.clean_put {I : Inj} {h : H} {w : World} {r : Nat} {row : ARow} (k : Rel I h w) (hd : I.dom r) : ∀ r', (h.put r row).next ≤ r' → (h.put r row).get r' = none := by
 intro r' hr'
 have hlt := k.lt r hd
 simp only [H.put] at hr' ⊢
 rw [if_neg (by omega)]
 exact k.clean r' hr'
theorem Rel.store {I : Inj} {h : H} {w w' : World} {r b : Nat} {row : ARow} (k : Rel I h w) (hb : I.base ≤ b) (hr : ∃ s d, I.at_ r s = some (b, d)) (hw : But b w w') (hrow : RowRel I r w' row) : Rel I (h.put r row) w' := by
 obtain ⟨s0, d0, hs0⟩ := hr
 refine ⟨fun r' row' e d => ?_, k.lt, fun r' s b' d e => by rw [hw.size]; exact k.size _ _ _ _ e, by rw [hw.size]; exact k.base, k.tabs.same (fun b' h1 => hw.block b' (by omega)), k.inj, k.clean_put ⟨_, _, hs0⟩⟩
 simp only [H.put] at e
 split at e
 ·rename_i hrr
  simp at e; subst hrr; subst e; exact hrow
 ·rename_i hrr
  refine (k.rows r' row' e d).le (Le.refl I) (fun _ _ e => e) (fun b' ⟨s', d', hb'⟩ => hw.block b' (fun hbb => ?_))
  subst hbb
  exact hrr (k.inj _ _ _ _ _ _ _ hb' hs0 hb)
theorem But.ext {I : Inj} {lo b r : Nat} {w w' : World} {s : Option Nat} {d : Nat} (hw : But b w w') (hl : lo ≤ r) (hr : I.at_ r s = some (b, d)) (hb : I.base ≤ b) : Ext I lo w w' := by
 refine ⟨hw.os, hw.tape, hw.output, by rw [hw.size]; exact Nat.le_refl _, fun b' _ hx => hw.block b' (fun e => ?_)⟩
 subst e
 have := hx _ _ _ hr hb
 omega

section
variable {P : Program} {I : Inj} {ts : Ts} {ρ : Operand → Value}

def Sim (P : Program) (I : Inj) (ρ : Operand → Value) (o : Oper) (lo nid : Nat) (h' : H) (v : Value) (w : World) : Prop :=
 ∃ J w' nx, (Grows I J w ∧ (∀ r, J.dom r → I.dom r ∨ r = nid) ∧ ∀ r s p, r < lo → J.at_ r s = some p → I.at_ r s = some p) ∧ Rel J h' w' ∧ In J v ∧ Ext I lo w w' ∧ (execOp ρ o).run P w = .ok nx w' ∧ (nx = .value (ren J v) ∨ (nx = .skip ∧ v = undef))

theorem run_store_op (hρ : Ev I ts ρ) {o : Oper} {t : TypeId} {n lo : Nat} {x y : Operand} {x' y' : Opd} {h h' : H} {w : World} {v : Value} (ho : o.op = .store t x y) (hn : sizeT P t = some n) (hx : cOpd x = some x') (hy : cOpd y = some y')
 (hv : xStore lo n (cellsL (ev ts y')) h (ev ts x') = some (v, h')) (k : ∀ a row, ev ts x' = .pointer (some a) → h.get a.block = some row → RowRel I a.block w row) :
 ∃ a b row' w', ev ts x' = .pointer (some a) ∧ lo ≤ a.block ∧ v = undef ∧ h' = h.put a.block row' ∧ RowRel I a.block w' row' ∧ But b w w' ∧ I.base ≤ b ∧ (∃ s d, I.at_ a.block s = some (b, d)) ∧ (execOp ρ o).run P w = .ok .skip w' := by
 obtain ⟨e1, i1⟩ := hρ x x' hx
 obtain ⟨e2, i2⟩ := hρ y y' hy
 unfold xStore at hv
 split at hv
 ·rename_i a ha
  rw [ha] at e1 i1
  split at hv <;> simp only [Option.map_eq_some_iff, Prod.mk.injEq, reduceCtorEq] at hv
  rename_i hlen
  obtain ⟨h'', hs, rfl, rfl⟩ := hv
  cases hg : h.get a.block with
  | none =>
    unfold H.storeN at hs
    rw [hg] at hs
    split at hs <;> simp at hs
  | some row =>
    obtain ⟨hlo, b, row', w', hb, rfl, hrun, hrow, hbut, hbase, hat⟩ := store_cells (P := P) hg (k a row ha hg) (by simpa [In] using i1) (InL_cellsL i2) hs
    refine ⟨a, b.block, row', w', ha, hlo, rfl, rfl, hrow, hbut, hbase, hat, ?_⟩
    have hlen' : (⟨renL I (cellsL (ev ts y'))⟩ : Array Value).size = n := by simp [hlen]
    simp only [execOp, ho, e1, e2, ren, hb, Instr.storeAt, Instr.sureAddr, storeVar, Sem.run_bind, Sem.run_pure, Result.andThen_ok, run_sizeT hn, cells_eq, cellsL_ren, hlen', ne_eq, not_true_eq_false, if_false, hrun]
 ·simp at hv

end
end AE
