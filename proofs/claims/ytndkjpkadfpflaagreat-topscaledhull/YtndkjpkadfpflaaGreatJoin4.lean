/- Walks and plain laws: TDragD, DragSpec2. -/
import Derived.Test.YtndkjpkadfpflaaGreatTDragC
import Derived.Test.YtndkjpkadfpflaaGreatJoin14
set_option linter.unusedVariables false
set_option linter.unusedSimpArgs false
set_option linter.unusedSectionVars false

/- Walks of drag and its reference: Friction. -/
namespace AE.Tryz
open Go AE AE.Drag Go.Proofs
set_option maxRecDepth 100000

theorem kTDragD0 {G : Prop} (g : G := by ((apply AW.arg1; (focus (apply refFric_w; rotate_left; (focus (apply Line.Ok.same; (focus assumption); (focus exact bySame); (focus exact Nat.le_refl _))); (focus assumption); (focus exact byOm))); (focus exact Is.rfl)))) : G := g
end AE.Tryz

/- What drag computes, in plain words: tests, truths, coefficients. -/
namespace AE.Drag
open Go AE

/-- A test: speed, length, wetted surface, scale; then the ends of force, tank, sea, form, block, rough. -/
structure T where
  speed : Int
  long : Int
  wet : Int
  alpha : Int
  fl : Int
  fh : Int
  tl : Int
  th : Int
  sl : Int
  sh : Int
  ml : Int
  mh : Int
  bl : Int
  bh : Int
  rl : Int
  rh : Int
def T.cells (t : T) : List Value := [.int .i64 t.speed, .int .i64 t.long, .int .i64 t.wet, .int .i64 t.alpha, .int .i64 t.fl, .int .i64 t.fh, .int .i64 t.tl, .int .i64 t.th, .int .i64 t.sl, .int .i64 t.sh, .int .i64 t.ml, .int .i64 t.mh, .int .i64 t.bl, .int .i64 t.bh, .int .i64 t.rl, .int .i64 t.rh]
structure X where
  force : Int
  tank : Int
  sea : Int
  form : Int
  block : Int
  rough : Int
def X.cells (x : X) : List Value := [.int .i64 x.force, .int .i64 x.tank, .int .i64 x.sea, .int .i64 x.form, .int .i64 x.block, .int .i64 x.rough]
/-- Which one is meant. -/
inductive Known {α : Type} (a : α) : Prop
  | mk

structure T.Ok (t : T) : Prop where
  s1 : 1 ≤ t.speed
  s2 : t.speed ≤ 10000
  l1 : 1 ≤ t.long
  l2 : t.long ≤ 10000
  w1 : 1 ≤ t.wet
  w2 : t.wet ≤ 1000000
  a1 : 1 ≤ t.alpha
  a2 : t.alpha ≤ 10
  f1 : 0 ≤ t.fl
  f2 : t.fl ≤ t.fh
  f3 : t.fh ≤ 100000000
  t1 : 500 ≤ t.tl
  t2 : t.tl ≤ t.th
  t3 : t.th ≤ 3000
  e1 : 500 ≤ t.sl
  e2 : t.sl ≤ t.sh
  e3 : t.sh ≤ 3000
  m1 : 0 ≤ t.ml
  m2 : t.ml ≤ t.mh
  m3 : t.mh ≤ 1000
  b1 : 0 ≤ t.bl
  b2 : t.bl ≤ t.bh
  b3 : t.bh ≤ 200
  r1 : 0 ≤ t.rl
  r2 : t.rl ≤ t.rh
  r3 : t.rh ≤ 2000
open Classical in
noncomputable def testErr (t : T) : Int := if t.Ok then 0 else 2
theorem testErr_ok {t : T} : testErr t = 0 ↔ t.Ok := by
  unfold testErr; split <;> simp_all
theorem testErr_0 {t : T} (h : t.Ok) : testErr t = 0 := testErr_ok.2 h
theorem testErr_2 {t : T} (h : ¬ t.Ok) : testErr t = 2 := by unfold testErr; rw [if_neg h]

structure IsTrue (t : T) (x : X) : Prop where
  f1 : t.fl ≤ x.force
  f2 : x.force ≤ t.fh
  t1 : t.tl ≤ x.tank
  t2 : x.tank ≤ t.th
  e1 : t.sl ≤ x.sea
  e2 : x.sea ≤ t.sh
  m1 : t.ml ≤ x.form
  m2 : x.form ≤ t.mh
  b1 : t.bl ≤ x.block
  b2 : x.block ≤ t.bh
  r1 : t.rl ≤ x.rough
  r2 : x.rough ≤ t.rh

noncomputable instance (t : T) (x : X) : Decidable (IsTrue t x) := Classical.propDecidable _
def modelRe (t : T) (w : Int) : Int := t.speed * t.long / w
def shipRe (t : T) (w : Int) : Int := t.speed * t.long * t.alpha * t.alpha * t.alpha / w
/-- Products that are reckoned with. -/
structure T.Prod (t : T) : Prop where
  p1 : 0 ≤ t.speed * t.long
  p2 : t.speed * t.long ≤ 100000000
  p3 : 0 ≤ t.speed * t.long * t.alpha
  p4 : t.speed * t.long * t.alpha ≤ 1000000000
  p5 : 0 ≤ t.speed * t.long * t.alpha * t.alpha
  p6 : t.speed * t.long * t.alpha * t.alpha ≤ 10000000000
  p7 : 0 ≤ t.speed * t.long * t.alpha * t.alpha * t.alpha
  p8 : t.speed * t.long * t.alpha * t.alpha * t.alpha ≤ 100000000000
  q1 : 1 ≤ t.wet * t.speed
  q2 : t.wet * t.speed ≤ 10000000000
  q3 : 1 ≤ t.wet * t.speed * t.speed
  q4 : t.wet * t.speed * t.speed ≤ 100000000000000
theorem T.Ok.prod {t : T} (k : t.Ok) : t.Prod := by
  obtain ⟨s1, s2, l1, l2, w1, w2, a1, a2, -⟩ := k
  have p1 : 0 ≤ t.speed * t.long := Int.mul_nonneg (by omega) (by omega)
  have p2 : t.speed * t.long ≤ 10000 * 10000 := Int.mul_le_mul s2 l2 (by omega) (by omega)
  have p3 : 0 ≤ t.speed * t.long * t.alpha := Int.mul_nonneg (by omega) (by omega)
  have p4 : t.speed * t.long * t.alpha ≤ 100000000 * 10 := Int.mul_le_mul (by omega) a2 (by omega) (by omega)
  have p5 : 0 ≤ t.speed * t.long * t.alpha * t.alpha := Int.mul_nonneg (by omega) (by omega)
  have p6 : t.speed * t.long * t.alpha * t.alpha ≤ 1000000000 * 10 := Int.mul_le_mul (by omega) a2 (by omega) (by omega)
  have p7 : 0 ≤ t.speed * t.long * t.alpha * t.alpha * t.alpha := Int.mul_nonneg (by omega) (by omega)
  have p8 : t.speed * t.long * t.alpha * t.alpha * t.alpha ≤ 10000000000 * 10 := Int.mul_le_mul (by omega) a2 (by omega) (by omega)
  have q1 : 1 * 1 ≤ t.wet * t.speed := Int.mul_le_mul w1 s1 (by omega) (by omega)
  have q2 : t.wet * t.speed ≤ 1000000 * 10000 := Int.mul_le_mul w2 s2 (by omega) (by omega)
  have q3 : 1 * 1 ≤ t.wet * t.speed * t.speed := Int.mul_le_mul (by omega) s1 (by omega) (by omega)
  have q4 : t.wet * t.speed * t.speed ≤ 10000000000 * 10000 := Int.mul_le_mul (by omega) s2 (by omega) (by omega)
  exact ⟨p1, by omega, p3, by omega, p5, by omega, p7, by omega, by omega, by omega, by omega, by omega⟩
/-- Bounds of a truth. -/
structure X.Bd (x : X) : Prop where
  f1 : 0 ≤ x.force
  f2 : x.force ≤ 100000000
  t1 : 500 ≤ x.tank
  e1 : 500 ≤ x.sea
  m1 : 0 ≤ x.form
  m2 : x.form ≤ 1000
  b1 : 0 ≤ x.block
  b2 : x.block ≤ 200
  r1 : 0 ≤ x.rough
  r2 : x.rough ≤ 2000
theorem IsTrue.bd {t : T} {x : X} (k : t.Ok) (h : IsTrue t x) : x.Bd := by
  obtain ⟨s1, s2, l1, l2, w1, w2, a1, a2, f1, f2, f3, t1, t2, t3, e1, e2, e3, m1, m2, m3, b1, b2, b3, r1, r2, r3⟩ := k
  obtain ⟨x1, x2, x3, x4, x5, x6, x7, x8, x9, x10, x11, x12⟩ := h
  constructor <;> omega
def both (t : T) (L : Line) (x : X) : Prop := inside L (modelRe t x.tank) ∧ inside L (shipRe t x.sea)
instance (t : T) (L : Line) (x : X) : Decidable (both t L x) := by unfold both; infer_instance
end AE.Drag
