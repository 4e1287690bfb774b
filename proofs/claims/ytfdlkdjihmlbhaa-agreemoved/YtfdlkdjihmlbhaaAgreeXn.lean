/- What the statements ask of tables with moved numbers, and with the other sign. -/
import Derived.Test.YtfdlkdjihmlbhaaAgreeXm
set_option linter.unusedVariables false
set_option linter.unusedSimpArgs false
set_option linter.unusedSectionVars false
namespace AE.Try
set_option linter.unusedSimpArgs false
set_option linter.unusedVariables false
open Go AE AE.Ag AgreeS Go.Proofs

theorem mem_testsT {T : Tab} {y : Test} : y ∈ T.toTable.tests ↔ ∃ i, i < T.n ∧ (T.f i).toTest = y := by simp [Tab.toTable]
/-- Fits, by the tests as they lie. -/
theorem fits_tab {T : Tab} {b x : Nat → Int} : Fits T.toTable b x ↔ (∀ i, i < T.tanks.toNat → T.blo ≤ b i ∧ b i ≤ T.bhi) ∧ ∀ i, i < T.n → (T.f i).lo ≤ b (T.f i).tank.toNat + x (T.f i).hull.toNat ∧ b (T.f i).tank.toNat + x (T.f i).hull.toNat ≤ (T.f i).hi := by
  constructor
  · rintro ⟨h1, h2⟩
    exact ⟨h1, fun i hi => h2 (T.f i).toTest (mem_testsT.2 ⟨i, hi, rfl⟩)⟩
  · rintro ⟨h1, h2⟩
    refine ⟨h1, fun y hy => ?_⟩
    obtain ⟨i, hi, rfl⟩ := mem_testsT.1 hy
    exact h2 i hi
def RTest.neg (r : RTest) : RTest := ⟨r.tank, r.hull, -r.hi, -r.lo⟩
def RTest.move (r : RTest) (M d : Int) : RTest := if r.hull = M then ⟨r.tank, r.hull, r.lo + d, r.hi + d⟩ else r
def Tab.turned (T : Tab) (v : Option Addr) (a : Addr) : Tab := ⟨T.tanks, T.hulls, -T.bhi, -T.blo, T.n, fun i => (T.f i).neg, v, a, 0⟩
def Tab.moved (T : Tab) (M d : Int) (v : Option Addr) (a : Addr) : Tab := ⟨T.tanks, T.hulls, T.blo, T.bhi, T.n, fun i => (T.f i).move M d, v, a, 0⟩
theorem RTest.move_is (r : RTest) (M d : Int) : (r.move M d).tank = r.tank ∧ (r.move M d).hull = r.hull := by
  unfold RTest.move
  split <;> exact ⟨rfl, rfl⟩

theorem Tab.turned_valid {T : Tab} (hv : T.Valid) (v : Option Addr) (a : Addr) : (T.turned v a).Valid := by
  have hb := hv.b
  unfold isR at hb
  refine ⟨hv.n, hv.t1, hv.t2, hv.h1, hv.h2, by unfold isR; simp only [Tab.turned]; omega, fun i hi => ?_⟩
  have := hv.f i hi
  unfold isR at this ⊢
  simp only [Tab.turned, RTest.neg]
  omega
theorem Tab.turned_facts {T : Tab} (hv : T.Valid) (v : Option Addr) (a : Addr) (i j : Nat) : sErr (T.turned v a).toTable i = sErr T.toTable i ∧ bErr (T.turned v a).toTable i j = bErr T.toTable i j ∧ (sErr T.toTable i = 0 → sLo (T.turned v a).toTable i = -sHi T.toTable i ∧ sHi (T.turned v a).toTable i = -sLo T.toTable i) ∧
    (bErr T.toTable i j = 0 → bLo (T.turned v a).toTable i j = -bHi T.toTable i j ∧ bHi (T.turned v a).toTable i j = -bLo T.toTable i j) := by
  refine AE.Try.turned_facts hv.ok (T.turned_valid hv v a).ok (fun b x f => ?_) (fun b x f => ?_) (fun k => ?_) i j
  · obtain ⟨f1, f2⟩ := fits_tab.1 f
    refine fits_tab.2 ⟨fun i hi => ?_, fun i hi => ?_⟩
    · have := f1 i hi; simp only [Tab.turned]; omega
    · have := f2 i hi; simp only [Tab.turned, RTest.neg]; omega
  · obtain ⟨f1, f2⟩ := fits_tab.1 f
    refine fits_tab.2 ⟨fun i hi => ?_, fun i hi => ?_⟩
    · have := f1 i hi; simp only [Tab.turned] at this; omega
    · have := f2 i hi; simp only [Tab.turned, RTest.neg] at this; omega
  · constructor
    · rintro ⟨y, hy, rfl⟩
      obtain ⟨i, hi, rfl⟩ := mem_testsT.1 hy
      exact ⟨((T.turned v a).f i).toTest, mem_testsT.2 ⟨i, hi, rfl⟩, rfl⟩
    · rintro ⟨y, hy, rfl⟩
      obtain ⟨i, hi, rfl⟩ := mem_testsT.1 hy
      exact ⟨(T.f i).toTest, mem_testsT.2 ⟨i, hi, rfl⟩, rfl⟩
theorem Tab.moved_facts {T : Tab} {M : Nat} {d : Int} {v : Option Addr} {a : Addr} (hv : T.Valid) (hx : (T.moved M d v a).Valid) (i : Nat) :
    sErr (T.moved M d v a).toTable i = sErr T.toTable i ∧ (sErr T.toTable i = 0 → sLo (T.moved M d v a).toTable i = sLo T.toTable i + (if i = M then d else 0) ∧ sHi (T.moved M d v a).toTable i = sHi T.toTable i + (if i = M then d else 0)) := by
  have hm : ∀ j, j < T.n → ((T.f j).hull = (M : Int) ↔ (T.f j).hull.toNat = M) := fun j hj => by have := hv.f j hj; omega
  refine AE.Try.moved_facts hv.ok hx.ok (fun b x f => ?_) (fun b x f => ?_) ?_
  · obtain ⟨f1, f2⟩ := fits_tab.1 f
    refine ⟨b, fun j => x j + (if j = M then d else 0), fits_tab.2 ⟨f1, fun j hj => ?_⟩, rfl⟩
    have h1 := f2 j hj
    have h2 := hm j hj
    show ((T.f j).move M d).lo ≤ b ((T.f j).move M d).tank.toNat + _ ∧ _
    simp only [Tab.moved, (RTest.move_is _ _ _).1, (RTest.move_is _ _ _).2]
    unfold RTest.move
    by_cases e : (T.f j).hull = (M : Int)
    · rw [if_pos e, if_pos (h2.1 e)]; simp only; omega
    · rw [if_neg e, if_neg (fun h => e (h2.2 h))]; omega
  · obtain ⟨f1, f2⟩ := fits_tab.1 f
    refine ⟨b, fun j => x j - (if j = M then d else 0), fits_tab.2 ⟨f1, fun j hj => ?_⟩, rfl⟩
    have h1 : ((T.f j).move M d).lo ≤ b ((T.f j).move M d).tank.toNat + x ((T.f j).move M d).hull.toNat ∧ b ((T.f j).move M d).tank.toNat + x ((T.f j).move M d).hull.toNat ≤ ((T.f j).move M d).hi := f2 j hj
    have h2 := hm j hj
    simp only [(RTest.move_is _ _ _).1, (RTest.move_is _ _ _).2] at h1
    unfold RTest.move at h1
    by_cases e : (T.f j).hull = (M : Int)
    · rw [if_pos e] at h1; rw [if_pos (h2.1 e)]; simp only at h1; omega
    · rw [if_neg e] at h1; rw [if_neg (fun h => e (h2.2 h))]; omega
  · constructor
    · rintro ⟨y, hy, rfl⟩
      obtain ⟨j, hj, rfl⟩ := mem_testsT.1 hy
      exact ⟨((T.moved M d v a).f j).toTest, mem_testsT.2 ⟨j, hj, rfl⟩, by show ((T.f j).move M d).hull.toNat = _; rw [(RTest.move_is _ _ _).2]; rfl⟩
    · rintro ⟨y, hy, rfl⟩
      obtain ⟨j, hj, rfl⟩ := mem_testsT.1 hy
      exact ⟨(T.f j).toTest, mem_testsT.2 ⟨j, hj, rfl⟩, by show _ = ((T.f j).move M d).hull.toNat; rw [(RTest.move_is _ _ _).2]; rfl⟩

end AE.Try
