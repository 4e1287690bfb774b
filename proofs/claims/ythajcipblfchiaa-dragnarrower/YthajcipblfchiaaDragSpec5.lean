/- The examples of the chapter, reckoned. -/
import Derived.Test.YthajcipblfchiaaDragSpec4
import Derived.KernelRfl
set_option linter.unusedVariables false
set_option linter.unusedSimpArgs false
set_option linter.unusedSectionVars false
namespace AE.Drag
open Go AE

def lineA (r s : Nat) : Line := ⟨3, fun i => if i = 0 then 10 else if i = 1 then 20 else 40, 3, fun i => if i = 0 then 100 else if i = 1 then 60 else 40, some ⟨r, 0, none⟩, ⟨r, 0, none⟩, 3, some ⟨s, 0, none⟩, ⟨s, 0, none⟩, 3⟩
def lineB (r s : Nat) : Line := ⟨2, fun i => if i = 0 then 5 else 50, 2, fun i => if i = 0 then 90 else 45, some ⟨r, 0, none⟩, ⟨r, 0, none⟩, 2, some ⟨s, 0, none⟩, ⟨s, 0, none⟩, 2⟩
def tA : T := ⟨10, 1000, 1000000, 2, 2, 3, 500, 1000, 2000, 2500, 200, 200, 0, 100, 0, 5⟩
def xA : X := ⟨2, 1000, 2000, 200, 100, 0⟩
theorem validA (r s : Nat) : Valid (lineA r s) := by
  refine ⟨of_decide_eq_true (by kernel_rfl), of_decide_eq_true (by kernel_rfl), rfl, fun i hi => ?_⟩
  have hi : i < 3 := hi
  have : i = 0 ∨ i = 1 ∨ i = 2 := by omega
  rcases this with rfl | rfl | rfl <;> simp [pointOk, lineA]
theorem validB (r s : Nat) : Valid (lineB r s) := by
  refine ⟨of_decide_eq_true (by kernel_rfl), of_decide_eq_true (by kernel_rfl), rfl, fun i hi => ?_⟩
  have hi : i < 2 := hi
  have : i = 0 ∨ i = 1 := by omega
  rcases this with rfl | rfl <;> simp [pointOk, lineB]
theorem okA : tA.Ok := by constructor <;> exact of_decide_eq_true (by kernel_rfl)
theorem trueA : IsTrue tA xA := by constructor <;> exact of_decide_eq_true (by kernel_rfl)
theorem reckonsA (r s : Nat) : reckons tA (lineA r s) := by unfold reckons; refine ⟨⟨?_, ?_⟩, ?_, ?_⟩ <;> exact of_decide_eq_true (by kernel_rfl)
theorem reckonsB (r s : Nat) : reckons tA (lineB r s) := by unfold reckons; refine ⟨⟨?_, ?_⟩, ?_, ?_⟩ <;> exact of_decide_eq_true (by kernel_rfl)
theorem fricA (r s : Nat) : fric (lineA r s) 13 = 88 := by kernel_rfl
theorem frictionR_A (r s : Nat) : frictionR (lineA r s) 13 = (88, 0) := by
  have hin : inside (lineA r s) 13 := by unfold inside; exact of_decide_eq_true (by kernel_rfl)
  unfold frictionR
  rw [if_neg (by rw [lineErr_valid.2 (validA r s)]; exact of_decide_eq_true (by kernel_rfl)), if_pos hin, fricA]
theorem reynR_A : AE.Drag.modelRe tA tA.th = 10 ∧ modelRe tA tA.tl = 20 ∧ shipRe tA tA.sh = 32 ∧ shipRe tA tA.sl = 40 := of_decide_eq_true (by kernel_rfl)
theorem coefA (r s : Nat) : coef tA (lineA r s) xA = 288 := by kernel_rfl
theorem shipR_A (r s : Nat) : shipR tA (lineA r s) xA = (288, 0) := by
  have hb : both tA (lineA r s) xA := both_of okA (reckonsA r s) trueA.t1 trueA.t2 trueA.e1 trueA.e2
  unfold shipR
  rw [if_neg (by rw [testErr_0 okA]; exact of_decide_eq_true (by kernel_rfl)), if_neg (by rw [lineErr_valid.2 (validA r s)]; exact of_decide_eq_true (by kernel_rfl)), if_neg (fun c => c trueA), if_pos hb, coefA]
theorem lowA (r s : Nat) : coef tA (lineA r s) (lowX tA 200) = 288 := by kernel_rfl
theorem highA (r s : Nat) : coef tA (lineA r s) (highX tA 200) = 590 := by kernel_rfl
theorem lowB (r s : Nat) : coef tA (lineB r s) (lowX tA 200) = 324 := by kernel_rfl
theorem highB (r s : Nat) : coef tA (lineB r s) (highX tA 200) = 590 := by kernel_rfl
/-- A contract of one line, of both. -/
def conA (r s q : Nat) : Lines := ⟨1, fun _ => lineA r s, some ⟨q, 0, none⟩, ⟨q, 0, none⟩, 1⟩
def conAB (r s r' s' q : Nat) : Lines := ⟨2, fun i => if i = 0 then lineA r s else lineB r' s', some ⟨q, 0, none⟩, ⟨q, 0, none⟩, 2⟩
theorem fineA (r s q : Nat) : Fine tA (conA r s q) := ⟨okA, ⟨of_decide_eq_true (by kernel_rfl), of_decide_eq_true (by kernel_rfl), fun _ _ => validA r s⟩, fun _ _ => reckonsA r s⟩
theorem fineAB (r s r' s' q : Nat) : Fine tA (conAB r s r' s' q) := by
  refine ⟨okA, ⟨by show 1 ≤ 2; omega, by show 2 ≤ 4; omega, fun i _ => ?_⟩, fun i _ => ?_⟩
  · show Valid (if i = 0 then lineA r s else lineB r' s'); split <;> first | exact validA r s | exact validB r' s'
  · show reckons tA (if i = 0 then lineA r s else lineB r' s'); split <;> first | exact reckonsA r s | exact reckonsB r' s'
theorem spanLoA (r s q : Nat) : spanLo tA (conA r s q) = 288 := theMin_eq ⟨⟨0, of_decide_eq_true (by kernel_rfl), 200, of_decide_eq_true (by kernel_rfl), of_decide_eq_true (by kernel_rfl), (lowA r s).symm⟩, by
  rintro w ⟨i, _, m, h1, h2, rfl⟩
  have h1 : 200 ≤ m := h1
  have h2 : m ≤ 200 := h2
  have : m = 200 := by omega
  subst this
  show (288 : Int) ≤ coef tA (lineA r s) (lowX tA 200)
  rw [lowA]; exact of_decide_eq_true (by kernel_rfl)⟩
theorem spanHiA (r s q : Nat) : spanHi tA (conA r s q) = 590 := theMax_eq ⟨⟨0, of_decide_eq_true (by kernel_rfl), 200, of_decide_eq_true (by kernel_rfl), of_decide_eq_true (by kernel_rfl), (highA r s).symm⟩, by
  rintro w ⟨i, _, m, h1, h2, rfl⟩
  have h1 : 200 ≤ m := h1
  have h2 : m ≤ 200 := h2
  have : m = 200 := by omega
  subst this
  show coef tA (lineA r s) (highX tA 200) ≤ (590 : Int)
  rw [highA]; exact of_decide_eq_true (by kernel_rfl)⟩
theorem spanLoAB (r s r' s' q : Nat) : spanLo tA (conAB r s r' s' q) = 288 := theMin_eq ⟨⟨0, by show 0 < 2; omega, 200, of_decide_eq_true (by kernel_rfl), of_decide_eq_true (by kernel_rfl), (lowA r s).symm⟩, by
  rintro w ⟨i, _, m, h1, h2, rfl⟩
  have h1 : 200 ≤ m := h1
  have h2 : m ≤ 200 := h2
  have : m = 200 := by omega
  subst this
  show (288 : Int) ≤ coef tA (if i = 0 then lineA r s else lineB r' s') (lowX tA 200)
  split
  · rw [lowA]; exact of_decide_eq_true (by kernel_rfl)
  · rw [lowB]; exact of_decide_eq_true (by kernel_rfl)⟩
theorem spanHiAB (r s r' s' q : Nat) : spanHi tA (conAB r s r' s' q) = 590 := theMax_eq ⟨⟨0, by show 0 < 2; omega, 200, of_decide_eq_true (by kernel_rfl), of_decide_eq_true (by kernel_rfl), (highA r s).symm⟩, by
  rintro w ⟨i, _, m, h1, h2, rfl⟩
  have h1 : 200 ≤ m := h1
  have h2 : m ≤ 200 := h2
  have : m = 200 := by omega
  subst this
  show coef tA (if i = 0 then lineA r s else lineB r' s') (highX tA 200) ≤ (590 : Int)
  split
  · rw [highA]; exact of_decide_eq_true (by kernel_rfl)
  · rw [highB]; exact of_decide_eq_true (by kernel_rfl)⟩
def twoTests (q : Nat) : Tests := ⟨2, fun _ => tA, some ⟨q, 0, none⟩, ⟨q, 0, none⟩, 2⟩
def twoLimits (q : Nat) : Limits := ⟨2, fun i => if i = 0 then 590 else 589, some ⟨q, 0, none⟩, ⟨q, 0, none⟩, 2⟩
theorem holdsR_A (r s q q' q'' : Nat) : holdsR (twoTests q) (conA r s q') (twoLimits q'') = (1, 2, 0) := by
  have e1 : holdsErr (twoTests q) (conA r s q') (twoLimits q'') = 0 := by
    unfold holdsErr
    have a1 : firstErr (fun i => testErr ((twoTests q).f i)) (twoTests q).k = 0 := firstErr_zero fun j _ => testErr_0 okA
    have a2 : firstErr (fun i => spanErr ((twoTests q).f i) (conA r s q')) (twoTests q).k = 0 := firstErr_zero fun j _ => spanErr_fine.2 (fineA r s q')
    rw [if_neg (by show ¬ 20 < 2; omega), a1, if_neg (by omega), linesErr_valid.2 (fineA r s q').sv, if_neg (by omega), if_neg (by show ¬ 2 ≠ 2; omega), a2]
  unfold holdsR
  rw [if_pos e1]
  have e2 : lead (fun i => spanHi ((twoTests q).f i) (conA r s q')) (twoLimits q'').f (twoTests q).k = 1 := by
    refine lead_stop (s := 1) (fun j hj => ?_) ?_ (by show 1 < 2; omega)
    · have : j = 0 := by omega
      subst this
      show spanHi tA _ ≤ (590 : Int)
      rw [spanHiA]; exact of_decide_eq_true (by kernel_rfl)
    · show (589 : Int) < spanHi tA _
      rw [spanHiA]; exact of_decide_eq_true (by kernel_rfl)
  have e3 : lead (fun i => spanLo ((twoTests q).f i) (conA r s q')) (twoLimits q'').f (twoTests q).k = 2 := by
    refine lead_full (n := 2) (fun j hj => ?_)
    show spanLo tA _ ≤ (if j = 0 then (590 : Int) else 589)
    rw [spanLoA]; split <;> exact of_decide_eq_true (by kernel_rfl)
  rw [e2, e3]
  rfl
end AE.Drag
