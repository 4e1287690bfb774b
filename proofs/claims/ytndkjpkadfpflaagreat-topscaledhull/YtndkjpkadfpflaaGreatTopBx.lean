/- Greatest and least fractions of sums over places, in plain words. -/
import Derived.Test.YtndkjpkadfpflaaGreatJoin13
set_option linter.unusedVariables false
set_option linter.unusedSimpArgs false
set_option linter.unusedSectionVars false
namespace AE.Box
open AE.Fair

theorem sumF_le {f g : Nat → Int} : ∀ {n : Nat}, (∀ p, p < n → f p ≤ g p) → sumF f n ≤ sumF g n
  | 0, _ => Int.le_refl _
  | n + 1, h => by
    have := sumF_le (f := f) (g := g) (n := n) fun p hp => h p (by omega)
    have := h n (by omega)
    simp only [sumF]
    omega
theorem sumF_lin (a b : Int) (f g : Nat → Int) : ∀ n : Nat, sumF (fun p => a * f p - b * g p) n = a * sumF f n - b * sumF g n
  | 0 => by simp [sumF]
  | n + 1 => by simp only [sumF, sumF_lin a b f g n, Int.mul_add]; omega
theorem sumF_mul (a : Int) (f : Nat → Int) : ∀ n : Nat, sumF (fun p => a * f p) n = a * sumF f n
  | 0 => by simp [sumF]
  | n + 1 => by simp only [sumF, sumF_mul a f n, Int.mul_add]
theorem sumF_congr {f g : Nat → Int} : ∀ {n : Nat}, (∀ p, p < n → f p = g p) → sumF f n = sumF g n
  | 0, _ => rfl
  | n + 1, h => by simp only [sumF, sumF_congr (n := n) fun p hp => h p (by omega), h n (by omega)]

/-- What is asked, place by place. -/
structure Sys where
  n : Nat
  A : Nat → Int → Int
  B : Nat → Int → Int
  lo : Nat → Int
  hi : Nat → Int
def Sys.Valid (S : Sys) (y : Nat → Int) : Prop := ∀ p, p < S.n → S.lo p ≤ y p ∧ y p ≤ S.hi p
def Sys.num (S : Sys) (y : Nat → Int) : Int := sumF (fun p => S.A p (y p)) S.n
def Sys.den (S : Sys) (y : Nat → Int) : Int := sumF (fun p => S.B p (y p)) S.n
/-- How far it is beyond N / D. -/
def Sys.over (S : Sys) (N D : Int) (y : Nat → Int) : Int := D * S.num y - N * S.den y
/-- At each place, none is further beyond. -/
def Sys.Best (S : Sys) (s N D : Int) (x : Nat → Int) : Prop := ∀ p, p < S.n → (S.lo p ≤ x p ∧ x p ≤ S.hi p) ∧ ∀ z, S.lo p ≤ z → z ≤ S.hi p → s * (D * S.A p z - N * S.B p z) ≤ s * (D * S.A p (x p) - N * S.B p (x p))
theorem Sys.over_sum (S : Sys) (s N D : Int) (y : Nat → Int) : s * S.over N D y = sumF (fun p => s * (D * S.A p (y p) - N * S.B p (y p))) S.n := by
  rw [sumF_mul]
  unfold Sys.over Sys.num Sys.den
  rw [sumF_lin D N (fun p => S.A p (y p)) (fun p => S.B p (y p))]
theorem Sys.Best.max {S : Sys} {s N D : Int} {x : Nat → Int} (b : S.Best s N D x) {y : Nat → Int} (hy : S.Valid y) : s * S.over N D y ≤ s * S.over N D x := by
  rw [S.over_sum, S.over_sum]
  exact sumF_le fun p hp => (b p hp).2 _ (hy p hp).1 (hy p hp).2
theorem Sys.Best.valid {S : Sys} {s N D : Int} {x : Nat → Int} (b : S.Best s N D x) : S.Valid x := fun p hp => (b p hp).1

/-- Fractions of which one is less differ by a step, if no denominator is above M. -/
theorem frac_step {a b c d M : Int} (hb : 0 < b) (hbM : b ≤ M) (hd : 0 < d) (hdM : d ≤ M) (h : a * d < c * b) : a * (M * M) / b < c * (M * M) / d := by
  have hq : a * (M * M) / b * b ≤ a * (M * M) := Int.ediv_mul_le _ (by omega)
  generalize a * (M * M) / b = q at hq
  have hbd : b * d ≤ M * M := Int.mul_le_mul hbM hdM (by omega) (by omega)
  have hM : 0 ≤ M * M := Int.mul_nonneg (by omega) (by omega)
  refine Int.lt_of_lt_of_le (Int.lt_add_one_iff.2 (Int.le_refl q)) ?_
  refine Int.le_ediv_of_mul_le hd ?_
  refine Int.le_of_mul_le_mul_right (a := b) ?_ hb
  have e1 : (q + 1) * d * b = q * b * d + b * d := by
    rw [Int.add_mul, Int.one_mul, Int.add_mul, Int.mul_right_comm, Int.mul_comm d b]
  have e2 : q * b * d ≤ a * (M * M) * d := Int.mul_le_mul_of_nonneg_right hq (by omega)
  have e3 : a * (M * M) * d = (M * M) * (a * d) := by rw [Int.mul_comm a, Int.mul_assoc]
  have e4 : (M * M) * (a * d) + (M * M) = (M * M) * (a * d + 1) := by rw [Int.mul_add, Int.mul_one]
  have e5 : (M * M) * (a * d + 1) ≤ (M * M) * (c * b) := Int.mul_le_mul_of_nonneg_left (by omega) hM
  have e6 : c * (M * M) * b = (M * M) * (c * b) := by rw [Int.mul_comm c, Int.mul_assoc]
  rw [e1, e6]
  omega

/-! ### fractions -/

/-- A fraction in least terms. -/
structure Fr where
  n : Int
  d : Int
theorem Fr.ext' {x y : Fr} (h1 : x.n = y.n) (h2 : x.d = y.d) : x = y := by cases x; cases y; dsimp only at h1 h2; rw [h1, h2]
instance : DecidableEq Fr := fun x y => decidable_of_iff (x.n = y.n ∧ x.d = y.d) ⟨fun h => Fr.ext' h.1 h.2, fun h => h ▸ ⟨rfl, rfl⟩⟩
def fr (n d : Int) : Fr := ⟨n / (Int.gcd n d : Int), d / (Int.gcd n d : Int)⟩
theorem gcd_abs (n d : Int) (hd : 0 ≤ d) : Int.gcd n d = Nat.gcd n.natAbs d.toNat := by
  unfold Int.gcd
  congr 1
  omega
/-- n / d in least terms. -/
structure FrOf (x : Fr) (n d : Int) : Prop where
  d0 : 0 < x.d
  ex : ∃ g : Int, 0 < g ∧ n = x.n * g ∧ d = x.d * g
theorem fr_of {n d : Int} (hd : 0 < d) : FrOf (fr n d) n d := by
  have hg : 0 < (Int.gcd n d : Int) := Int.natCast_pos.2 (Int.gcd_pos_of_ne_zero_right n (by omega))
  have e1 := Int.ediv_mul_cancel (Int.gcd_dvd_left n d)
  have e2 := Int.ediv_mul_cancel (Int.gcd_dvd_right n d)
  exact ⟨Int.ediv_pos_of_pos_of_dvd hd (by omega) (Int.gcd_dvd_right n d), _, hg, e1.symm, e2.symm⟩
theorem FrOf.cross {x : Fr} {n d : Int} (k : FrOf x n d) : x.n * d = n * x.d := by
  obtain ⟨-, g, -, rfl, rfl⟩ := k
  rw [Int.mul_assoc, Int.mul_comm g x.d]
theorem FrOf.le_d {x : Fr} {n d : Int} (k : FrOf x n d) : x.d ≤ d := by
  obtain ⟨h, g, hg, -, rfl⟩ := k
  have := Int.mul_le_mul_of_nonneg_left (show 1 ≤ g by omega) (show 0 ≤ x.d by omega)
  omega
theorem le_of_mul {a b c : Int} (hc : 0 < c) (h : a * c ≤ b * c) : a ≤ b := Int.le_of_mul_le_mul_right h hc
theorem FrOf.le {x y : Fr} {n d n' d' : Int} (k : FrOf x n d) (k' : FrOf y n' d') (h : n * d' ≤ n' * d) : x.n * y.d ≤ y.n * x.d := by
  obtain ⟨h1, g, hg, rfl, rfl⟩ := k
  obtain ⟨h2, g', hg', rfl, rfl⟩ := k'
  refine le_of_mul (c := g * g') (Int.mul_pos hg hg') ?_
  have e1 : x.n * y.d * (g * g') = x.n * g * (y.d * g') := by ac_rfl
  have e2 : y.n * x.d * (g * g') = y.n * g' * (x.d * g) := by ac_rfl
  rw [e1, e2]
  exact h
theorem FrOf.whole (a : Int) : FrOf ⟨a, 1⟩ a 1 := ⟨Int.one_pos, 1, by decide, by simp, rfl⟩
theorem fr_scale {n d c : Int} (hd : 0 < d) (hc : 0 < c) : fr (n * c) (d * c) = fr n d := by
  have e : (Int.gcd (n * c) (d * c) : Int) = (Int.gcd n d : Int) * c := by
    rw [Int.gcd_mul_right, Int.natCast_mul, Int.natAbs_of_nonneg (by omega)]
  unfold fr
  rw [e, Int.mul_ediv_mul_of_pos_left _ _ hc, Int.mul_ediv_mul_of_pos_left _ _ hc]
theorem fr_eq {n d n' d' : Int} (hd : 0 < d) (hd' : 0 < d') (h : n * d' = n' * d) : fr n d = fr n' d' := by
  rw [← fr_scale hd hd', h, Int.mul_comm d d', fr_scale hd' hd]
theorem fr_fr {n d : Int} (hd : 0 < d) : fr (fr n d).n (fr n d).d = fr n d := by
  obtain ⟨h, g, hg, e1, e2⟩ := fr_of (n := n) hd
  have : fr n d = fr ((fr n d).n * g) ((fr n d).d * g) := by rw [← e1, ← e2]
  rw [fr_scale h hg] at this
  exact this.symm

/-! ### the search for the greatest, or the least, fraction -/

/-- The sums of all true hulls are in bounds. -/
structure Sys.Bd (S : Sys) (V M : Int) : Prop where
  num : ∀ y, S.Valid y → 0 ≤ S.num y ∧ S.num y ≤ V * S.den y
  den : ∀ y, S.Valid y → 0 < S.den y ∧ S.den y ≤ M
def Sys.val (S : Sys) (y : Nat → Int) : Fr := fr (S.num y) (S.den y)
theorem Sys.val_of {S : Sys} {V M : Int} (B : S.Bd V M) {y : Nat → Int} (hy : S.Valid y) : FrOf (S.val y) (S.num y) (S.den y) := fr_of (B.den y hy).1
theorem Sys.over_self {S : Sys} {V M : Int} (B : S.Bd V M) {y : Nat → Int} (hy : S.Valid y) : S.over (S.val y).n (S.val y).d y = 0 := by
  have := (S.val_of B hy).cross
  unfold Sys.over
  rw [Int.mul_comm (S.val y).d, this]
  omega
/-- If the furthest beyond is not beyond, none is. -/
theorem Sys.done {S : Sys} {V M s : Int} (B : S.Bd V M) {y x : Nat → Int} (hb : S.Best s (S.val y).n (S.val y).d x) (he : S.val x = S.val y) : ∀ z, S.Valid z → s * S.over (S.val y).n (S.val y).d z ≤ 0 := fun z hz => by
  have := hb.max hz
  rw [← he, S.over_self B hb.valid, he] at this
  simpa using this
theorem Sys.more {S : Sys} {V M s : Int} (hs : s = 1 ∨ s = -1) (B : S.Bd V M) {y x : Nat → Int} (hy : S.Valid y) (hb : S.Best s (S.val y).n (S.val y).d x) (he : S.val x ≠ S.val y) : 0 < s * S.over (S.val y).n (S.val y).d x := by
  have h0 := hb.max hy
  rw [S.over_self B hy, Int.mul_zero] at h0
  rcases Int.lt_or_eq_of_le h0 with h | h
  · exact h
  · exfalso
    apply he
    have hx := hb.valid
    rcases Int.mul_eq_zero.1 h.symm with h1 | ho
    · omega
    · unfold Sys.over at ho
      have e : S.num x * (S.val y).d = (S.val y).n * S.den x := by rw [Int.mul_comm (S.num x)]; omega
      have k := S.val_of B hy
      have := fr_eq (B.den x hx).1 k.d0 e
      show fr (S.num x) (S.den x) = _
      rw [this]
      exact fr_fr (B.den y hy).1
/-- A number that falls as long as the search goes on. -/
def mu (s V M : Int) (v : Fr) : Nat := if s = 1 then (V * (M * M) - v.n * (M * M) / v.d).toNat else (v.n * (M * M) / v.d).toNat
theorem Sys.falls {S : Sys} {V M s : Int} (hs : s = 1 ∨ s = -1) (B : S.Bd V M) {y x : Nat → Int} (hy : S.Valid y) (hb : S.Best s (S.val y).n (S.val y).d x) (he : S.val x ≠ S.val y) : mu s V M (S.val x) < mu s V M (S.val y) := by
  have hx := hb.valid
  have h := S.more hs B hy hb he
  have kx := S.val_of B hx
  have ky := S.val_of B hy
  have dx := kx.le_d
  have dy := ky.le_d
  have bx := B.den x hx
  have bY := B.den y hy
  have hM : 0 ≤ M * M := Int.mul_nonneg (by omega) (by omega)
  have cx := kx.cross
  -- the fractions in least terms are as the sums are
  have hov : s * ((S.val y).d * (S.val x).n - (S.val y).n * (S.val x).d) > 0 := by
    obtain ⟨d0, g, hg, e1, e2⟩ := kx
    have : S.over (S.val y).n (S.val y).d x = ((S.val y).d * (S.val x).n - (S.val y).n * (S.val x).d) * g := by
      unfold Sys.over
      rw [Int.sub_mul, Int.mul_assoc, Int.mul_assoc, ← e1, ← e2]
    rw [this, ← Int.mul_assoc] at h
    exact Int.lt_of_not_ge fun hle => by
      have := Int.mul_nonneg (a := -(s * ((S.val y).d * (S.val x).n - (S.val y).n * (S.val x).d))) (b := g) (by omega) (by omega)
      rw [Int.neg_mul] at this
      omega
  have nn : ∀ {z : Nat → Int}, S.Valid z → 0 ≤ (S.val z).n ∧ (S.val z).n ≤ V * (S.val z).d := fun {z} hz => by
    have k := S.val_of B hz
    obtain ⟨d0, g, hg, e1, e2⟩ := k
    have b := B.num z hz
    rw [e1, e2, ← Int.mul_assoc] at b
    exact ⟨Int.le_of_mul_le_mul_right (by omega) hg, Int.le_of_mul_le_mul_right b.2 hg⟩
  have up : ∀ {z : Nat → Int}, S.Valid z → 0 ≤ (S.val z).n * (M * M) / (S.val z).d ∧ (S.val z).n * (M * M) / (S.val z).d ≤ V * (M * M) := fun {z} hz => by
    have d0 := (S.val_of B hz).d0
    have b := nn hz
    refine ⟨Int.ediv_nonneg (Int.mul_nonneg b.1 hM) (by omega), Int.ediv_le_of_le_mul d0 ?_⟩
    have := Int.mul_le_mul_of_nonneg_right b.2 hM
    rw [Int.mul_right_comm]
    exact this
  have ux := up hx
  have uy := up hy
  rcases hs with rfl | rfl
  · have := frac_step (a := (S.val y).n) (b := (S.val y).d) (c := (S.val x).n) (d := (S.val x).d) (M := M) ky.d0 (by omega) kx.d0 (by omega) (by rw [Int.mul_comm (S.val x).n]; omega)
    simp only [mu, if_true]
    omega
  · have := frac_step (a := (S.val x).n) (b := (S.val x).d) (c := (S.val y).n) (d := (S.val y).d) (M := M) kx.d0 (by omega) ky.d0 (by omega) (by rw [Int.mul_comm (S.val x).n]; omega)
    have h1 : ¬ (-1 : Int) = 1 := by omega
    simp only [mu, h1, if_false]
    omega
end AE.Box
