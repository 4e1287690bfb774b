/- Walks of box: the offsets that are furthest beyond a fraction. -/
import Derived.Test.YtndkjpkadfpflaaGreatTopB8
set_option linter.unusedVariables false
set_option linter.unusedSimpArgs false
set_option linter.unusedSectionVars false
namespace AE.Tryz
open Go AE Go.Proofs AE.Box
set_option maxRecDepth 100000
set_option linter.unusedVariables false

theorem sumP_bd2 {F : Nat → Nat → Int} {B : Int} {w : Nat} : ∀ {p : Nat}, (∀ j, j < p → -B ≤ F (j / w) (j % w) ∧ F (j / w) (j % w) ≤ B) → -(B * p) ≤ sumP F w p ∧ sumP F w p ≤ B * p
  | 0, _ => by simp [sumP, AE.Fair.sumF]
  | p + 1, h => by
    have ih := sumP_bd2 (F := F) (B := B) (w := w) (p := p) fun j hj => h j (by omega)
    have := h p (by omega)
    unfold sumP at *
    simp only [AE.Fair.sumF]
    have e : B * ((p + 1 : Nat) : Int) = B * p + B := by push_cast; rw [Int.mul_add, Int.mul_one]
    rw [e]
    omega
theorem sumP_congr' {F G : Nat → Nat → Int} {w p : Nat} (h : ∀ j, j < p → F (j / w) (j % w) = G (j / w) (j % w)) : sumP F w p = sumP G w p := sumF_congr h
theorem lo_w {h : H} {x : Rg} {i k : Int} : AW Tryz.prog 114 h.next h [.int .i64 i, .int .i64 k, .agg ⟨x.cells⟩] (fun v _ => v = .int .i64 x.lo) := by
  refine fun114.call rfl (Nat.le_refl _) ?_
  unfold a114 Rg.cells
  (focus ((try with_reducible apply wpC.to); (repeat' ((conv => whnf); first | refine byEv ?_ | refine xTopB20 ?_ | fail)); all_goals ((conv => whnf); try with_reducible apply At.mk)))
  (refine byFin ?_)
  rfl
set_option maxHeartbeats 1000000 in
theorem part_w {h : H} {T : Hull} {p q i k r3 r10 r4 : Nat} {x : Fr} {y : Int} (hp : p < h.next) (hg : h.get p = some (planRow T q)) (n3 : r3 < h.next) (n10 : r10 < h.next) (n4 : r4 < h.next) (h3 : h.get r3 = some (.cells [.pointer (some ⟨p, 0, none⟩)] 93)) (h10 : h.get r10 = some (.cells (placeC T.hul.toGeo i k) 179))
    (h4 : h.get r4 = some (.cells (frC x) 27)) (V : T.Valid) (hx : x.Q) (hq : q ≤ 2) (hi : i < T.n) (hk : k < T.w 0) (hy : 0 ≤ y ∧ y ≤ 500) :
    AW Tryz.prog 115 h.next h [.int .i64 y, .pointer (some ⟨r3, 0, none⟩), .pointer (some ⟨r10, 0, none⟩), .pointer (some ⟨r4, 0, none⟩)] (fun v _ => v = .int .i64 (T.hul.part q x i k y)) := by
  have gv := V.hul.toOk
  have st := gv.steps hi hk hy
  have pb := V.hul.part_bd (q := q) hx hi hk hy
  have hpc : placeC T.hul.toGeo i k = [.int .i64 i, .int .i64 k, .int .i64 (wt i T.hul.n * wt k T.hul.w), .int .i64 (wt i T.hul.n), .bool (decide (k + 1 = T.hul.w))] := rfl
  rw [hpc] at h10
  unfold frC at h4
  refine fun115.call rfl (Nat.le_refl _) ?_
  unfold a115
  (focus ((try with_reducible apply wpC.to); (repeat' ((conv => whnf); first | refine byEv ?_ | refine xTopB20 ?_ | fail)); all_goals ((conv => whnf); try with_reducible apply At.mk)))
  apply q_call
  focus (exact byNext)
  focus (exact byLo)
  focus (rw [← hpc]; exact terms_w (G := T.hul.toGeo) (p := p) (q := q) (i := i) (k := k) (y := y) byOm (by have := hg; unfold planRow at this; (exact byGet)) st hy hq)
  rintro _ h5 rfl q5 hn5
  (focus ((try with_reducible apply wpC.to); (repeat' ((conv => whnf); first | refine byEv ?_ | refine xTopB20 ?_ | fail)); all_goals ((conv => whnf); try with_reducible apply At.mk)))
  (refine byFin ?_)
  rfl

/-- The best offset at a place. -/
def BestAt (T : Hull) (q : Nat) (x : Fr) (s : Int) (i k : Nat) (y : Int) : Prop := ((T.f i k).lo ≤ y ∧ y ≤ (T.f i k).hi) ∧ ∀ z, (T.f i k).lo ≤ z → z ≤ (T.f i k).hi → s * T.hul.part q x i k z ≤ s * T.hul.part q x i k y
/-- The best offsets at all places before place c. -/
def BestTo (T : Hull) (q : Nat) (x : Fr) (s : Int) (c : Nat) (Z : Nat → Nat → Int) : Prop := ∀ j, j < c → BestAt T q x s (j / T.w 0) (j % T.w 0) (Z (j / T.w 0) (j % T.w 0))
theorem upd2_other {Z : Nat → Nat → Int} {i k w j : Nat} {y : Int} (hj : j < i * w + k) : upd2 Z i k y (j / w) (j % w) = Z (j / w) (j % w) := by
  unfold upd2
  rw [if_neg]
  rintro ⟨h1, h2⟩
  have := Nat.div_add_mod j w
  rw [h1, h2, Nat.mul_comm] at this
  omega
theorem upd2_at {Z : Nat → Nat → Int} {i k : Nat} {y : Int} : upd2 Z i k y i k = y := by unfold upd2; rw [if_pos ⟨rfl, rfl⟩]
theorem BestTo.next {T : Hull} {q : Nat} {x : Fr} {s : Int} {i k : Nat} {Z : Nat → Nat → Int} {y : Int} (b : BestTo T q x s (i * T.w 0 + k) Z) (hk : k < T.w 0) (hy : BestAt T q x s i k y) : BestTo T q x s (i * T.w 0 + k + 1) (upd2 Z i k y) := fun j hj => by
  by_cases e : j = i * T.w 0 + k
  · subst e
    rw [pl_div hk, pl_mod hk, upd2_at]
    exact hy
  · rw [upd2_other (by omega)]
    exact b j (by omega)
theorem BestTo.best {T : Hull} {q : Nat} {x : Fr} {s : Int} {Z : Nat → Nat → Int} (b : BestTo T q x s (T.n * T.w 0) Z) : (T.hul.sys q).Best s x.n x.d (Box.flat (T.w 0) Z) := fun p hp => b p hp
def Hull.psum (T : Hull) (q : Nat) (x : Fr) (Z : Nat → Nat → Int) (c : Nat) : Int := sumP (fun i k => T.hul.part q x i k (Z i k)) (T.w 0) c
theorem psum_next {T : Hull} {q : Nat} {x : Fr} {Z : Nat → Nat → Int} {i k : Nat} {y : Int} (hk : k < T.w 0) : T.psum q x (upd2 Z i k y) (i * T.w 0 + k + 1) = T.psum q x Z (i * T.w 0 + k) + T.hul.part q x i k y := by
  unfold Hull.psum
  rw [sumP_next _ hk, upd2_at]
  congr 1
  exact sumP_congr' fun j hj => by rw [upd2_other hj]
theorem BestTo.sum_bd {T : Hull} {q : Nat} {x : Fr} {s : Int} {Z : Nat → Nat → Int} {c : Nat} (V : T.Valid) (hx : x.Q) (b : BestTo T q x s c Z) (hc : c ≤ T.n * T.w 0) : -5160000000000000000 ≤ T.psum q x Z c ∧ T.psum q x Z c ≤ 5160000000000000000 := by
  have := sumP_bd2 (F := fun i k => T.hul.part q x i k (Z i k)) (B := 86000000000000000) (w := T.w 0) (p := c) fun j hj => by
    have hp := pl_of (Nat.lt_of_lt_of_le hj hc)
    have hb := (b j hj).1
    have hl := V.hul.pl _ _ hp.1 hp.2.1
    have := V.hul.part_bd (q := q) hx hp.1 hp.2.1 (y := Z (j / T.w 0) (j % T.w 0)) (by
      have e1 : T.hul.lo (j / T.w 0) (j % T.w 0) = (T.f (j / T.w 0) (j % T.w 0)).lo := rfl
      have e2 : T.hul.hi (j / T.w 0) (j % T.w 0) = (T.f (j / T.w 0) (j % T.w 0)).hi := rfl
      omega)
    unfold Hul.part
    omega
  have nw : T.n * T.w 0 ≤ 60 := V.hul.nw.2
  unfold Hull.psum
  omega
end AE.Tryz
