/- The abstract heap, and what it means that it lies in a world: rows are renamed into blocks. Plain definitions and lemmas; no program in sight. -/
import Derived.WalkKit
set_option linter.unusedVariables false
set_option linter.unusedSimpArgs false
set_option linter.unusedSectionVars false
namespace AE
open Go

/-! ### renaming -/

/-- Where the rows of the abstract heap lie: row and generation, to block and offset; what a generation can hold; from which block on the memory is the call's own. -/
structure Inj where
  at_ : Nat → Option Nat → Option (Nat × Nat)
  cap : Nat → Nat → Nat
  base : Nat

def Inj.blk (I : Inj) (r : Nat) : Nat := match I.at_ r none with | some p => p.1 | none => 0
def Inj.dom (I : Inj) (r : Nat) : Prop := ∃ s p, I.at_ r s = some p

def renA (I : Inj) (a : Addr) : Option Addr := match I.at_ a.block a.spot with | some p => some ⟨p.1, p.2 + a.off, none⟩ | none => none
def renCap (I : Inj) (a : Addr) (c : Nat) : Nat := match a.spot with | none => c | some g => if c % 2 = 1 then c / 2 else I.cap a.block g - c / 2
def renFn (I : Inj) : Fn → Fn
  | .yield l => .yield (I.blk l)
  | f => f

mutual
def ren (I : Inj) : Value → Value
  | .pointer (some a) => .pointer (renA I a)
  | .slice (some a) n c => .slice (renA I a) n (renCap I a c)
  | .map (some r) => .map (some (I.blk r))
  | .func fn ⟨f⟩ ⟨c⟩ => .func (renFn I fn) ⟨renL I f⟩ ⟨renL I c⟩
  | .iface t v => .iface t (ren I v)
  | .agg ⟨cs⟩ => .agg ⟨renL I cs⟩
  | .tuple ⟨vs⟩ => .tuple ⟨renL I vs⟩
  | v => v
def renL (I : Inj) : List Value → List Value
  | [] => []
  | v :: vs => ren I v :: renL I vs
end

def InA (I : Inj) (a : Addr) : Prop := ∃ p, I.at_ a.block a.spot = some p
def InCap (I : Inj) (a : Addr) (n c : Nat) : Prop := match a.spot with | none => n ≤ c | some g => if c % 2 = 1 then n ≤ c / 2 else c / 2 + n ≤ I.cap a.block g
def InR (I : Inj) (r : Nat) : Prop := ∃ b, I.at_ r none = some (b, 0)
def InFn (I : Inj) : Fn → Prop
  | .yield l => InR I l
  | _ => True

mutual
/-- All rows that a value names are there. -/
def In (I : Inj) : Value → Prop
  | .pointer (some a) => InA I a
  | .slice (some a) n c => InA I a ∧ InCap I a n c
  | .slice none n c => n = 0 ∧ c = 0
  | .map (some r) => InR I r
  | .chan (some _) => False
  | .func fn ⟨f⟩ ⟨c⟩ => InFn I fn ∧ InL I f ∧ InL I c
  | .iface _ v => In I v
  | .agg ⟨cs⟩ => InL I cs
  | .tuple ⟨vs⟩ => InL I vs
  | _ => True
def InL (I : Inj) : List Value → Prop
  | [] => True
  | v :: vs => In I v ∧ InL I vs
end

theorem renL_map (I : Inj) : ∀ l : List Value, renL I l = l.map (ren I)
  | [] => by simp [renL]
  | v :: vs => by simp [renL, renL_map I vs]
theorem InL_iff (I : Inj) : ∀ l : List Value, InL I l ↔ ∀ v ∈ l, In I v
  | [] => by simp [InL]
  | v :: vs => by simp [InL, InL_iff I vs]
@[simp] theorem renL_length (I : Inj) (l : List Value) : (renL I l).length = l.length := by simp [renL_map]
theorem renL_getElem? (I : Inj) (l : List Value) (i : Nat) : (renL I l)[i]? = (l[i]?).map (ren I) := by simp [renL_map]
theorem InL_get {I : Inj} {l : List Value} (h : InL I l) {i : Nat} {v : Value} (hi : l[i]? = some v) : In I v :=
  (InL_iff I l).1 h v (List.mem_of_getElem? hi)
theorem InL_append {I : Inj} {a b : List Value} : InL I (a ++ b) ↔ InL I a ∧ InL I b := by
  simp only [InL_iff, List.mem_append]
  constructor
  · intro h; exact ⟨fun v hv => h v (.inl hv), fun v hv => h v (.inr hv)⟩
  · rintro ⟨h, k⟩ v (hv | hv)
    · exact h v hv
    · exact k v hv
theorem renL_append (I : Inj) (a b : List Value) : renL I (a ++ b) = renL I a ++ renL I b := by simp [renL_map]

/-! ### one renaming goes on from another -/

structure Le (I J : Inj) : Prop where
  at_ : ∀ r s p, I.at_ r s = some p → J.at_ r s = some p
  cap : ∀ r g p, I.at_ r (some g) = some p → J.cap r g = I.cap r g
  base : J.base = I.base

theorem Le.refl (I : Inj) : Le I I := ⟨fun _ _ _ h => h, fun _ _ _ _ => rfl, rfl⟩
theorem Le.trans {I J K : Inj} (h : Le I J) (k : Le J K) : Le I K :=
  ⟨fun r s p e => k.at_ r s p (h.at_ r s p e), fun r g p e => (k.cap r g p (h.at_ r _ p e)).trans (h.cap r g p e), k.base.trans h.base⟩
theorem Le.dom {I J : Inj} (h : Le I J) {r : Nat} : I.dom r → J.dom r := fun ⟨s, p, e⟩ => ⟨s, p, h.at_ r s p e⟩
theorem Le.blk {I J : Inj} (h : Le I J) {r : Nat} (hr : InR I r) : J.blk r = I.blk r := by
  obtain ⟨b, hb⟩ := hr
  simp [Inj.blk, hb, h.at_ _ _ _ hb]
theorem Le.inR {I J : Inj} (h : Le I J) {r : Nat} : InR I r → InR J r := fun ⟨b, hb⟩ => ⟨b, h.at_ _ _ _ hb⟩
theorem Le.renA {I J : Inj} (h : Le I J) {a : Addr} (ha : InA I a) : renA J a = renA I a := by
  obtain ⟨p, hp⟩ := ha
  simp [AE.renA, hp, h.at_ _ _ _ hp]
theorem Le.inA {I J : Inj} (h : Le I J) {a : Addr} : InA I a → InA J a := fun ⟨p, hp⟩ => ⟨p, h.at_ _ _ _ hp⟩
theorem Le.renCap {I J : Inj} (h : Le I J) {a : Addr} {c : Nat} (ha : InA I a) : renCap J a c = renCap I a c := by
  obtain ⟨p, hp⟩ := ha
  unfold AE.renCap
  cases hs : a.spot with
  | none => rfl
  | some g => rw [hs] at hp; simp [h.cap _ _ _ hp]
theorem Le.inCap {I J : Inj} (h : Le I J) {a : Addr} {n c : Nat} (ha : InA I a) (hc : InCap I a n c) : InCap J a n c := by
  obtain ⟨p, hp⟩ := ha
  unfold InCap at *
  cases hs : a.spot with
  | none => rw [hs] at hc; exact hc
  | some g => rw [hs] at hp hc; simp only [h.cap _ _ _ hp] at *; exact hc
theorem Le.renFn {I J : Inj} (h : Le I J) {f : Fn} (hf : InFn I f) : renFn J f = renFn I f := by
  cases f <;> simp only [AE.renFn]
  rw [h.blk hf]
theorem Le.inFn {I J : Inj} (h : Le I J) {f : Fn} (hf : InFn I f) : InFn J f := by
  cases f <;> simp only [InFn] at *
  exact h.inR hf

mutual
theorem Le.ren {I J : Inj} (h : Le I J) : ∀ v : Value, In I v → ren J v = ren I v ∧ In J v
  | .pointer (some a), hv => by simp only [In, AE.ren] at *; exact ⟨by rw [h.renA hv], h.inA hv⟩
  | .pointer none, _ => by simp [In, AE.ren]
  | .slice (some a) n c, hv => by
    simp only [In, AE.ren] at *
    exact ⟨by rw [h.renA hv.1, h.renCap hv.1], h.inA hv.1, h.inCap hv.1 hv.2⟩
  | .slice none n c, hv => by simp only [In] at hv; obtain ⟨rfl, rfl⟩ := hv; simp [In, AE.ren]
  | .map (some r), hv => by simp only [In, AE.ren] at *; exact ⟨by rw [h.blk hv], h.inR hv⟩
  | .map none, _ => by simp [In, AE.ren]
  | .chan (some _), hv => by simp [In] at hv
  | .chan none, _ => by simp [In, AE.ren]
  | .func fn ⟨f⟩ ⟨c⟩, hv => by
    simp only [In, AE.ren] at *
    obtain ⟨e1, i1⟩ := Le.renL h f hv.2.1
    obtain ⟨e2, i2⟩ := Le.renL h c hv.2.2
    exact ⟨by rw [h.renFn hv.1, e1, e2], h.inFn hv.1, i1, i2⟩
  | .iface t v, hv => by
    simp only [In, AE.ren] at *
    obtain ⟨e, i⟩ := Le.ren h v hv
    exact ⟨by rw [e], i⟩
  | .agg ⟨cs⟩, hv => by
    simp only [In, AE.ren] at *
    obtain ⟨e, i⟩ := Le.renL h cs hv
    exact ⟨by rw [e], i⟩
  | .tuple ⟨vs⟩, hv => by
    simp only [In, AE.ren] at *
    obtain ⟨e, i⟩ := Le.renL h vs hv
    exact ⟨by rw [e], i⟩
  | .bool _, _ => by simp [In, AE.ren]
  | .int _ _, _ => by simp [In, AE.ren]
  | .float _ _, _ => by simp [In, AE.ren]
  | .complex _ _ _, _ => by simp [In, AE.ren]
  | .string _, _ => by simp [In, AE.ren]
  | .nilFunc, _ => by simp [In, AE.ren]
  | .nilIface, _ => by simp [In, AE.ren]
theorem Le.renL {I J : Inj} (h : Le I J) : ∀ l : List Value, InL I l → renL J l = renL I l ∧ InL J l
  | [], _ => by simp [AE.renL, InL]
  | v :: vs, hv => by
    simp only [InL, AE.renL] at *
    obtain ⟨e1, i1⟩ := Le.ren h v hv.1
    obtain ⟨e2, i2⟩ := Le.renL h vs hv.2
    exact ⟨by rw [e1, e2], i1, i2⟩
end

/-! ### values without an address -/

def fnFlat : Fn → Bool
  | .yield _ => false
  | _ => true
mutual
def flat : Value → Bool
  | .bool _ | .int _ _ | .float _ _ | .complex _ _ _ | .string _ | .nilFunc | .nilIface => true
  | .pointer a => a.isNone
  | .slice a n c => a.isNone && n == 0 && c == 0
  | .map r => r.isNone
  | .chan r => r.isNone
  | .func fn ⟨f⟩ ⟨c⟩ => fnFlat fn && flatL f && flatL c
  | .iface _ v => flat v
  | .agg ⟨cs⟩ => flatL cs
  | .tuple ⟨vs⟩ => flatL vs
def flatL : List Value → Bool
  | [] => true
  | v :: vs => flat v && flatL vs
end

mutual
theorem flat_ren (I : Inj) : ∀ v : Value, flat v = true → ren I v = v ∧ In I v
  | .pointer (some a), h => by simp [flat] at h
  | .pointer none, _ => by simp [In, ren]
  | .slice (some a) n c, h => by simp [flat] at h
  | .slice none n c, h => by simp [flat] at h; simp [In, ren, h]
  | .map (some r), h => by simp [flat] at h
  | .map none, _ => by simp [In, ren]
  | .chan (some _), h => by simp [flat] at h
  | .chan none, _ => by simp [In, ren]
  | .func fn ⟨f⟩ ⟨c⟩, h => by
    simp only [flat, Bool.and_eq_true] at h
    obtain ⟨e1, i1⟩ := flat_renL I f h.1.2
    obtain ⟨e2, i2⟩ := flat_renL I c h.2
    have hf : renFn I fn = fn ∧ InFn I fn := by cases fn <;> simp_all [fnFlat, renFn, InFn]
    simp only [ren, In]
    exact ⟨by rw [hf.1, e1, e2], hf.2, i1, i2⟩
  | .iface t v, h => by
    simp only [flat] at h
    obtain ⟨e, i⟩ := flat_ren I v h
    simp only [ren, In]; exact ⟨by rw [e], i⟩
  | .agg ⟨cs⟩, h => by
    simp only [flat] at h
    obtain ⟨e, i⟩ := flat_renL I cs h
    simp only [ren, In]; exact ⟨by rw [e], i⟩
  | .tuple ⟨vs⟩, h => by
    simp only [flat] at h
    obtain ⟨e, i⟩ := flat_renL I vs h
    simp only [ren, In]; exact ⟨by rw [e], i⟩
  | .bool _, _ => by simp [In, ren]
  | .int _ _, _ => by simp [In, ren]
  | .float _ _, _ => by simp [In, ren]
  | .complex _ _ _, _ => by simp [In, ren]
  | .string _, _ => by simp [In, ren]
  | .nilFunc, _ => by simp [In, ren]
  | .nilIface, _ => by simp [In, ren]
theorem flat_renL (I : Inj) : ∀ l : List Value, flatL l = true → renL I l = l ∧ InL I l
  | [], _ => by simp [renL, InL]
  | v :: vs, h => by
    simp only [flatL, Bool.and_eq_true] at h
    obtain ⟨e1, i1⟩ := flat_ren I v h.1
    obtain ⟨e2, i2⟩ := flat_renL I vs h.2
    simp only [renL, InL]; exact ⟨by rw [e1, e2], i1, i2⟩
end

/-! ### the cells of a value -/

def cellsL : Value → List Value
  | .agg ⟨cs⟩ => cs
  | v => [v]
theorem cells_eq (v : Value) : v.cells = ⟨cellsL v⟩ := by cases v <;> rfl
theorem ren_agg (I : Inj) (cs : List Value) : ren I (.agg ⟨cs⟩) = .agg ⟨renL I cs⟩ := by simp [ren]
theorem cellsL_ren (I : Inj) (v : Value) : cellsL (ren I v) = renL I (cellsL v) := by
  match v with
  | .agg ⟨cs⟩ => simp [ren, cellsL]
  | .pointer (some a) => simp [ren, cellsL, renL]
  | .pointer none => simp [ren, cellsL, renL]
  | .slice (some a) n c => simp [ren, cellsL, renL]
  | .slice none n c => simp [ren, cellsL, renL]
  | .map (some r) => simp [ren, cellsL, renL]
  | .map none => simp [ren, cellsL, renL]
  | .chan _ => simp [ren, cellsL, renL]
  | .func fn ⟨f⟩ ⟨c⟩ => simp [ren, cellsL, renL]
  | .iface t v => simp [ren, cellsL, renL]
  | .tuple ⟨vs⟩ => simp [ren, cellsL, renL]
  | .bool _ => simp [ren, cellsL, renL]
  | .int _ _ => simp [ren, cellsL, renL]
  | .float _ _ => simp [ren, cellsL, renL]
  | .complex _ _ _ => simp [ren, cellsL, renL]
  | .string _ => simp [ren, cellsL, renL]
  | .nilFunc => simp [ren, cellsL, renL]
  | .nilIface => simp [ren, cellsL, renL]
theorem InL_cellsL {I : Inj} {v : Value} (h : In I v) : InL I (cellsL v) := by
  match v with
  | .agg ⟨cs⟩ => simpa [In, cellsL] using h
  | .pointer (some a) => simpa [cellsL, InL] using h
  | .pointer none => simp [cellsL, InL, In]
  | .slice (some a) n c => simpa [cellsL, InL] using h
  | .slice none n c => simpa [cellsL, InL] using h
  | .map (some r) => simpa [cellsL, InL] using h
  | .map none => simp [cellsL, InL, In]
  | .chan (some _) => simp [In] at h
  | .chan none => simp [cellsL, InL, In]
  | .func fn ⟨f⟩ ⟨c⟩ => simpa [cellsL, InL] using h
  | .iface t v => simpa [cellsL, InL] using h
  | .tuple ⟨vs⟩ => simpa [cellsL, InL] using h
  | .bool _ => simp [cellsL, InL, In]
  | .int _ _ => simp [cellsL, InL, In]
  | .float _ _ => simp [cellsL, InL, In]
  | .complex _ _ _ => simp [cellsL, InL, In]
  | .string _ => simp [cellsL, InL, In]
  | .nilFunc => simp [cellsL, InL, In]
  | .nilIface => simp [cellsL, InL, In]

end AE
