/- Walks of span: fractions; sums of sides. -/
import Derived.Test.YtkkndecbijgolaaJoin5
set_option linter.unusedVariables false
set_option linter.unusedSimpArgs false
set_option linter.unusedSectionVars false
namespace AE.Try
open Go AE Go.Proofs AE.Sp
set_option maxRecDepth 100000
set_option linter.unusedVariables false

/-! ### fractions -/

/-- A fraction in least terms. -/
structure Fr where
  n : Int
  d : Int
theorem Fr.ext' {x y : Fr} (h1 : x.n = y.n) (h2 : x.d = y.d) : x = y := by cases x; cases y; dsimp only at h1 h2; rw [h1, h2]
instance : DecidableEq Fr := fun x y => decidable_of_iff (x.n = y.n ∧ x.d = y.d) ⟨fun h => Fr.ext' h.1 h.2, fun h => h ▸ ⟨rfl, rfl⟩⟩
def Fr.cells (x : Fr) : List Value := [.int .i64 x.n, .int .i64 x.d]
def fr (n d : Int) : Fr := ⟨n / (Int.gcd n d : Int), d / (Int.gcd n d : Int)⟩
theorem gcd_abs (n d : Int) (hd : 0 ≤ d) : Int.gcd n d = Nat.gcd n.natAbs d.toNat := by
  unfold Int.gcd
  congr 1
  omega
theorem tdiv_gcd (n d : Int) : n.tdiv (Int.gcd n d : Int) = n / (Int.gcd n d : Int) := Int.tdiv_eq_ediv_of_dvd (Int.gcd_dvd_left ..)
theorem fr_one (a : Int) : fr a 1 = ⟨a, 1⟩ := by
  unfold fr
  rw [Int.gcd_one]
  simp
/-- n / d in least terms. -/
structure FrOf (x : Fr) (n d : Int) : Prop where
  d0 : 0 < x.d
  ex : ∃ g : Int, 0 < g ∧ n = x.n * g ∧ d = x.d * g
theorem fr_of {n d : Int} (hd : 0 < d) : FrOf (fr n d) n d := by
  have hg : 0 < (Int.gcd n d : Int) := Int.natCast_pos.2 (Int.gcd_pos_of_ne_zero_right n (by omega))
  have e1 := Int.ediv_mul_cancel (Int.gcd_dvd_left n d)
  have e2 := Int.ediv_mul_cancel (Int.gcd_dvd_right n d)
  exact ⟨Int.ediv_pos_of_pos_of_dvd hd (by omega) (Int.gcd_dvd_right n d), _, hg, e1.symm, e2.symm⟩
theorem FrOf.le_d {x : Fr} {n d : Int} (k : FrOf x n d) : x.d ≤ d := by
  obtain ⟨h, g, hg, -, rfl⟩ := k
  have := Int.mul_le_mul_of_nonneg_left (show 1 ≤ g by omega) (show 0 ≤ x.d by omega)
  omega
theorem le_of_mul {a b c : Int} (hc : 0 < c) (h : a * c ≤ b * c) : a ≤ b := Int.le_of_mul_le_mul_right h hc
theorem FrOf.le {x y : Fr} {n d n' d' : Int} (k : FrOf x n d) (k' : FrOf y n' d') (h : n * d' ≤ n' * d) : x.n * y.d ≤ y.n * x.d := by
  obtain ⟨h1, g, hg, rfl, rfl⟩ := k
  obtain ⟨h2, g', hg', rfl, rfl⟩ := k'
  refine le_of_mul (c := g * g') (Int.mul_pos hg hg') ?_
  have e1 : x.n * y.d * (g * g') = x.n * g * (y.d * g') := by ac_rfl
  have e2 : y.n * x.d * (g * g') = y.n * g' * (x.d * g) := by ac_rfl
  rw [e1, e2]
  exact h
theorem FrOf.whole (a : Int) : FrOf ⟨a, 1⟩ a 1 := ⟨Int.one_pos, 1, by decide, by simp, rfl⟩
theorem fr_scale {n d c : Int} (hd : 0 < d) (hc : 0 < c) : fr (n * c) (d * c) = fr n d := by
  have e : (Int.gcd (n * c) (d * c) : Int) = (Int.gcd n d : Int) * c := by
    rw [Int.gcd_mul_right, Int.natCast_mul, Int.natAbs_of_nonneg (by omega)]
  unfold fr
  rw [e, Int.mul_ediv_mul_of_pos_left _ _ hc, Int.mul_ediv_mul_of_pos_left _ _ hc]
theorem fr_eq {n d n' d' : Int} (hd : 0 < d) (hd' : 0 < d') (h : n * d' = n' * d) : fr n d = fr n' d' := by
  rw [← fr_scale hd hd', h, Int.mul_comm d d', fr_scale hd' hd]
theorem FrOf.bnd {z : Fr} {n d X : Int} (k : FrOf z n d) (h1 : -X ≤ n) (h2 : n ≤ X) : -X ≤ z.n ∧ z.n ≤ X := by
  obtain ⟨_, g, hg, rfl, rfl⟩ := k
  rcases Int.le_total 0 z.n with h | h
  · have := Int.mul_le_mul_of_nonneg_left (show 1 ≤ g by omega) h
    omega
  · have := Int.mul_le_mul_of_nonneg_left (show 1 ≤ g by omega) (show 0 ≤ -z.n by omega)
    rw [Int.neg_mul, Int.neg_mul] at this
    omega

theorem FrOf.uniq {x y : Fr} {n d : Int} (k : FrOf x n d) (hx : fr x.n x.d = x) (hd : 0 < d) : x = fr n d := by
  obtain ⟨h, g, hg, rfl, rfl⟩ := k
  rw [fr_scale h hg, hx]
theorem fr_fr {n d : Int} (hd : 0 < d) : fr (fr n d).n (fr n d).d = fr n d := by
  obtain ⟨h, g, hg, e1, e2⟩ := fr_of (n := n) hd
  have : fr n d = fr ((fr n d).n * g) ((fr n d).d * g) := by rw [← e1, ← e2]
  rw [fr_scale h hg] at this
  exact this.symm

theorem common_w {h : H} {n d : Int} (hn : -9223372036854775808 < n ∧ n < 9223372036854775808) (hd : 0 < d ∧ d < 9223372036854775808) : AW Try.prog 84 h.next h [.int .i64 n, .int .i64 d] (fun v _ => v = .int .i64 (Int.gcd n d : Int)) := by
  refine fun84.call rfl (Nat.le_refl _) ?_
  unfold a84
  (focus ((try with_reducible apply wpC.to); (repeat' ((conv => whnf); first | refine byEv ?_ | (apply Fork.mk <;> (intro _; try (exfalso; omega))) | fail)); all_goals ((conv => whnf); try with_reducible apply At.mk)))
  refine wp_loop (fun s : Nat × Nat => [(0, .int .i64 s.1), (1, .int .i64 s.2)]) (fun s h1 => Quiet h.next h h1 ∧ Nat.gcd s.1 s.2 = Int.gcd n d ∧ s.1 < 9223372036854775808 ∧ s.2 < 9223372036854775808 ∧ (0 < s.1 ∨ 0 < s.2)) (fun s => s.1) (n.natAbs, d.toNat) ⟨int_of rfl (by dsimp only; omega), int_of rfl (by dsimp only; omega), trivial⟩ ⟨byQuiet, (gcd_abs n d (by omega)).symm, by dsimp only; omega, by dsimp only; omega, by dsimp only; omega⟩ ?_
  rintro ⟨a, b⟩ g h1 ⟨q1, hg, ha, hb, hab⟩ K hK
  dsimp only at hg ha hb hab ⊢
  (focus ((try with_reducible apply wpC.to); (repeat' ((conv => whnf); first | refine byEv ?_ | (apply Fork.mk <;> (intro _; try (exfalso; omega))) | fail)); all_goals ((conv => whnf); try with_reducible apply At.mk)))
  · refine hK (b % a, a) _ _ ⟨int_of rfl (by dsimp only; omega), int_of rfl (by dsimp only), trivial⟩ ⟨byQuiet, ?_, ?_, ha, ?_⟩ ?_
    · dsimp only
      rw [← hg]
      exact (Nat.gcd_rec a b).symm
    · dsimp only
      have := Nat.mod_lt b (show 0 < a by omega)
      omega
    · dsimp only; omega
    · dsimp only
      exact Nat.mod_lt b (show 0 < a by omega)
  · obtain rfl : a = 0 := by omega
    (refine byFin ?_)
    rw [← hg]
    simp
theorem kSpanE0 {G G' : Prop} (g : G') (t : G' → G := by ((apply q_call); (focus exact byNext); (focus exact byLo); (focus ((apply common_w; (focus omega); (focus omega)))))) : G := t g
theorem ratio_w {h : H} {n d : Int} (hn : -9223372036854775808 < n ∧ n < 9223372036854775808) (hd : 0 < d ∧ d < 9223372036854775808) : AW Try.prog 54 h.next h [.int .i64 n, .int .i64 d] (fun v _ => v = .agg ⟨(fr n d).cells⟩) := by
  have hg0 : 0 < (Int.gcd n d : Int) := Int.natCast_pos.2 (Int.gcd_pos_of_ne_zero_right n (by omega))
  have hgl : (Int.gcd n d : Int) ≤ d := Int.le_of_dvd (by omega) (Int.gcd_dvd_right n d)
  refine fun54.call rfl (Nat.le_refl _) ?_
  unfold a54
  (focus ((try with_reducible apply wpC.to); (repeat' ((conv => whnf); first | refine byEv ?_ | ((refine kSpanE0 ?_); first | ((first | apply q_allD | apply q_alli | apply q_allB) <;> intro _ _ _ _ <;> try contradiction) | (apply q_allv; intro _ _ _)) | fail)); all_goals ((conv => whnf); try with_reducible apply At.mk)))
  refine DivQ.td ⟨by omega, by omega, by omega⟩ ?_
  rw [tdiv_gcd]
  (focus ((try with_reducible apply wpC.to); (repeat' ((conv => whnf); first | refine byEv ?_ | ((refine kSpanE0 ?_); first | ((first | apply q_allD | apply q_alli | apply q_allB) <;> intro _ _ _ _ <;> try contradiction) | (apply q_allv; intro _ _ _)) | fail)); all_goals ((conv => whnf); try with_reducible apply At.mk)))
  (refine byFin ?_)
  rfl

theorem gcd_r {h : H} {a b : Int} (ha : 0 ≤ a ∧ a < 9223372036854775808) (hb : 0 < b ∧ b < 9223372036854775808) : AW Try.prog 63 h.next h [.int .i64 a, .int .i64 b] (fun v _ => v = .int .i64 (Int.gcd a b : Int)) := by
  refine fun63.call rfl (Nat.le_refl _) ?_
  unfold a63
  (focus ((try with_reducible apply wpC.to); (repeat' ((conv => whnf); first | refine byEv ?_ | (apply Fork.mk <;> (intro _; try (exfalso; omega))) | fail)); all_goals ((conv => whnf); try with_reducible apply At.mk)))
  refine wp_loop (fun s : Nat × Nat => [(0, .int .i64 s.1), (1, .int .i64 s.2)]) (fun s h1 => Quiet h.next h h1 ∧ Nat.gcd s.1 s.2 = Int.gcd a b ∧ s.1 < 9223372036854775808 ∧ s.2 < 9223372036854775808 ∧ (0 < s.1 ∨ 0 < s.2)) (fun s => s.2) (a.natAbs, b.toNat) ⟨int_of rfl (by dsimp only; omega), int_of rfl (by dsimp only; omega), trivial⟩ ⟨byQuiet, (gcd_abs a b (by omega)).symm, by dsimp only; omega, by dsimp only; omega, by dsimp only; omega⟩ ?_
  rintro ⟨x, y⟩ g h1 ⟨q1, hg, hx, hy, hxy⟩ K hK
  dsimp only at hg hx hy hxy ⊢
  (focus ((try with_reducible apply wpC.to); (repeat' ((conv => whnf); first | refine byEv ?_ | (apply Fork.mk <;> (intro _; try (exfalso; omega))) | fail)); all_goals ((conv => whnf); try with_reducible apply At.mk)))
  · refine hK (y, x % y) _ _ ⟨int_of rfl (by dsimp only), int_of rfl (by dsimp only; omega), trivial⟩ ⟨byQuiet, ?_, hy, ?_, ?_⟩ ?_
    · dsimp only
      rw [← hg, Nat.gcd_comm x y]
      exact (Nat.gcd_rec y x).symm ▸ (Nat.gcd_comm y (x % y))
    · dsimp only
      have := Nat.mod_lt x (show 0 < y by omega)
      omega
    · dsimp only; omega
    · dsimp only
      exact Nat.mod_lt x (show 0 < y by omega)
  · obtain rfl : y = 0 := by omega
    (refine byFin ?_)
    rw [← hg]
    simp
theorem amount_r {h : H} {n : Int} (hn : -9223372036854775808 < n ∧ n < 9223372036854775808) : AW Try.prog 64 h.next h [.int .i64 n] (fun v _ => v = .int .i64 (max n (-n))) := by
  refine fun64.call rfl (Nat.le_refl _) ?_
  unfold a64
  (focus ((try with_reducible apply wpC.to); (repeat' ((conv => whnf); first | refine byEv ?_ | fail)); all_goals ((conv => whnf); try with_reducible apply At.mk)))
  (refine byFin ?_)
  rfl
theorem kSpanE1 {G G' : Prop} (g : G') (t : G' → G := by ((apply q_call); (focus exact byNext); (focus exact byLo); (focus ((apply gcd_r; (focus omega); (focus omega)))))) : G := t g
theorem kSpanE2 {G G' : Prop} (g : G') (t : G' → G := by ((apply q_call); (focus exact byNext); (focus exact byLo); (focus ((apply amount_r; (focus omega)))))) : G := t g
theorem reduced_r {h : H} {n d : Int} (hn : -9223372036854775808 < n ∧ n < 9223372036854775808) (hd : 0 < d ∧ d < 9223372036854775808) : AW Try.prog 33 h.next h [.int .i64 n, .int .i64 d] (fun v _ => v = .agg ⟨(fr n d).cells⟩) := by
  have hg0 : 0 < (Int.gcd n d : Int) := Int.natCast_pos.2 (Int.gcd_pos_of_ne_zero_right n (by omega))
  have hgl : (Int.gcd n d : Int) ≤ d := Int.le_of_dvd (by omega) (Int.gcd_dvd_right n d)
  have hga : (Int.gcd (max n (-n)) d) = Int.gcd n d := by rw [gcd_abs _ _ (by omega), gcd_abs _ _ (by omega)]; congr 1; omega
  refine fun33.call rfl (Nat.le_refl _) ?_
  unfold a33
  (focus ((try with_reducible apply wpC.to); (repeat' ((conv => whnf); first | refine byEv ?_ | ((first | refine kSpanE2 ?_ | refine kSpanE1 ?_); first | ((first | apply q_allD | apply q_alli | apply q_allB) <;> intro _ _ _ _ <;> try contradiction) | (apply q_allv; intro _ _ _)) | fail)); all_goals ((conv => whnf); try with_reducible apply At.mk)))
  rw [hga]
  refine DivQ.td ⟨by omega, by omega, by omega⟩ ?_
  rw [tdiv_gcd]
  (focus ((try with_reducible apply wpC.to); (repeat' ((conv => whnf); first | refine byEv ?_ | ((first | refine kSpanE2 ?_ | refine kSpanE1 ?_); first | ((first | apply q_allD | apply q_alli | apply q_allB) <;> intro _ _ _ _ <;> try contradiction) | (apply q_allv; intro _ _ _)) | fail)); all_goals ((conv => whnf); try with_reducible apply At.mk)))
  (refine byFin ?_)
  rfl

/-! ### sums of sides -/

set_option maxHeartbeats 1000000 in
theorem sum_w {h : H} {a b : Sd} {r : Nat} {F W : Int} {e : TypeId} (ka : a.Up F W) (kb : b.Up F W) (hF : F ≤ 2305843009213693952) (hW : W ≤ 2305843009213693952) (hg : h.get r = some (.cells (a.cells ++ b.cells) e)) (hr : r < h.next) : AW Try.prog 59 h.next h [.slice (some ⟨r, 0, none⟩) 2 2] (fun v _ => v = .agg ⟨(a.add b).cells⟩) := by
  obtain ⟨a1, a2, a3⟩ := ka
  obtain ⟨b1, b2, b3⟩ := kb
  unfold Sd.cells at hg
  simp only [List.cons_append, List.nil_append] at hg
  refine fun59.call rfl (Nat.le_refl _) ?_
  unfold a59
  (focus ((try with_reducible apply wpC.to); (repeat' ((conv => whnf); first | refine byEv ?_ | (apply Fork.mk <;> (intro _; try (exfalso; omega))) | fail)); all_goals ((conv => whnf); try with_reducible apply At.mk)))
  refine wp_loop (fun s : Nat × Int × Int × Int => [(2, .pointer (some ⟨h.next, 0, none⟩)), (3, .pointer (some ⟨h.next + 1, 0, none⟩)), (8, .slice (some ⟨r, 0, none⟩) 2 2), (9, .int .i64 2), (10, .int .i64 s.1)])
    (fun s h1 => h1.get r = some (.cells [.int .i64 a.u, .int .i64 a.v, .int .i64 a.w, .int .i64 b.u, .int .i64 b.v, .int .i64 b.w] e) ∧ h1.get h.next = some (.cells [.int .i64 0, .int .i64 0, .int .i64 0] 80) ∧ h1.get (h.next + 1) = some (.cells [.int .i64 s.2.1, .int .i64 s.2.2.1, .int .i64 s.2.2.2] 80) ∧ h.next + 2 ≤ h1.next ∧ s.1 ≤ 2 ∧ (s.1 = 0 → s.2.1 = 0 ∧ s.2.2.1 = 0 ∧ s.2.2.2 = 0) ∧ (s.1 = 1 → s.2.1 = a.u ∧ s.2.2.1 = a.v ∧ s.2.2.2 = a.w) ∧ (s.1 = 2 → s.2.1 = a.u + b.u ∧ s.2.2.1 = a.v + b.v ∧ s.2.2.2 = a.w + b.w)) (fun s => 2 - s.1) (0, 0, 0, 0) ⟨rfl, rfl, rfl, rfl, rfl, trivial⟩ ⟨byGet, byGet, byGet, byOm, by omega, fun _ => ⟨rfl, rfl, rfl⟩, fun h => absurd h (by decide), fun h => absurd h (by decide)⟩ ?_
  rintro ⟨s, x, y, z⟩ g h1 ⟨g1, g0, g2, n1, hs, z0, z1, z2⟩ K hK
  dsimp only at hs g2 z0 z1 z2 ⊢
  by_cases hsn : s < 2
  · obtain rfl | rfl : s = 0 ∨ s = 1 := by omega
    · obtain ⟨rfl, rfl, rfl⟩ := z0 rfl
      (focus ((try with_reducible apply wpC.to); (repeat' ((conv => whnf); first | refine byEv ?_ | (apply Fork.mk <;> (intro _; try (exfalso; omega))) | fail)); all_goals ((conv => whnf); try with_reducible apply At.mk)))
      refine wp_loop (fun q : Nat × Int × Int × Int => [(2, .pointer (some ⟨h.next, 0, none⟩)), (3, .pointer (some ⟨h.next + 1, 0, none⟩)), (8, .slice (some ⟨r, 0, none⟩) 2 2), (9, .int .i64 2), (10, .int .i64 ((0 : Nat) : Int)), (14, .agg ⟨[.int .i64 a.u, .int .i64 a.v, .int .i64 a.w]⟩), (15, .int .i64 q.1)])
        (fun q h2 => h2.get r = some (.cells [.int .i64 a.u, .int .i64 a.v, .int .i64 a.w, .int .i64 b.u, .int .i64 b.v, .int .i64 b.w] e) ∧ h2.get h.next = some (.cells [.int .i64 0, .int .i64 0, .int .i64 0] 80) ∧ h2.get (h.next + 1) = some (.cells [.int .i64 q.2.1, .int .i64 q.2.2.1, .int .i64 q.2.2.2] 80) ∧ h.next + 2 ≤ h2.next ∧ q.1 ≤ 3 ∧ q.2.1 = (if 0 < q.1 then (0 : Int) + a.u else (0 : Int)) ∧ q.2.2.1 = (if 1 < q.1 then (0 : Int) + a.v else (0 : Int)) ∧ q.2.2.2 = (if 2 < q.1 then (0 : Int) + a.w else (0 : Int))) (fun q => 3 - q.1) (0, (0 : Int), (0 : Int), (0 : Int)) ⟨rfl, rfl, rfl, rfl, rfl, rfl, rfl, trivial⟩ ⟨byGet, byGet, byGet, byOm, by omega, rfl, rfl, rfl⟩ ?_
      rintro ⟨q, x, y, z⟩ g' h2 ⟨g1, g0, g2, n2, hq, hx, hy, hz⟩ K' hK'
      dsimp only at hq g2 hx hy hz ⊢
      by_cases hqn : q < 3
      · obtain rfl | rfl | rfl : q = 0 ∨ q = 1 ∨ q = 2 := by omega
        · rw [if_neg (by omega)] at hx; rw [if_neg (by omega)] at hy; rw [if_neg (by omega)] at hz; subst x y z
          (focus ((try with_reducible apply wpC.to); (repeat' ((conv => whnf); first | refine byEv ?_ | (apply Fork.mk <;> (intro _; try (exfalso; omega))) | fail)); all_goals ((conv => whnf); try with_reducible apply At.mk)))
          exact hK' (1, (0 : Int) + a.u, (0 : Int), (0 : Int)) _ _ ⟨rfl, rfl, rfl, rfl, rfl, rfl, rfl, trivial⟩ ⟨byGet, byGet, byGet, byOm, by omega, rfl, rfl, rfl⟩ (by dsimp only; omega)
        · rw [if_pos (by omega)] at hx; rw [if_neg (by omega)] at hy; rw [if_neg (by omega)] at hz; subst x y z
          (focus ((try with_reducible apply wpC.to); (repeat' ((conv => whnf); first | refine byEv ?_ | (apply Fork.mk <;> (intro _; try (exfalso; omega))) | fail)); all_goals ((conv => whnf); try with_reducible apply At.mk)))
          exact hK' (2, (0 : Int) + a.u, (0 : Int) + a.v, (0 : Int)) _ _ ⟨rfl, rfl, rfl, rfl, rfl, rfl, rfl, trivial⟩ ⟨byGet, byGet, byGet, byOm, by omega, rfl, rfl, rfl⟩ (by dsimp only; omega)
        · rw [if_pos (by omega)] at hx; rw [if_pos (by omega)] at hy; rw [if_neg (by omega)] at hz; subst x y z
          (focus ((try with_reducible apply wpC.to); (repeat' ((conv => whnf); first | refine byEv ?_ | (apply Fork.mk <;> (intro _; try (exfalso; omega))) | fail)); all_goals ((conv => whnf); try with_reducible apply At.mk)))
          exact hK' (3, (0 : Int) + a.u, (0 : Int) + a.v, (0 : Int) + a.w) _ _ ⟨rfl, rfl, rfl, rfl, rfl, rfl, rfl, trivial⟩ ⟨byGet, byGet, byGet, byOm, by omega, rfl, rfl, rfl⟩ (by dsimp only; omega)
      · obtain rfl : q = 3 := by omega
        rw [if_pos (by omega)] at hx hy hz
        subst x y z
        (focus ((try with_reducible apply wpC.to); (repeat' ((conv => whnf); first | refine byEv ?_ | (apply Fork.mk <;> (intro _; try (exfalso; omega))) | fail)); all_goals ((conv => whnf); try with_reducible apply At.mk)))
        exact hK (1, _, _, _) _ _ ⟨rfl, rfl, rfl, rfl, rfl, trivial⟩ ⟨byGet, byGet, byGet, byOm, by dsimp only; omega, fun h => absurd h (by dsimp only; decide), by dsimp only; omega, by dsimp only; omega⟩ (by dsimp only; omega)
    · obtain ⟨rfl, rfl, rfl⟩ := z1 rfl
      (focus ((try with_reducible apply wpC.to); (repeat' ((conv => whnf); first | refine byEv ?_ | (apply Fork.mk <;> (intro _; try (exfalso; omega))) | fail)); all_goals ((conv => whnf); try with_reducible apply At.mk)))
      refine wp_loop (fun q : Nat × Int × Int × Int => [(2, .pointer (some ⟨h.next, 0, none⟩)), (3, .pointer (some ⟨h.next + 1, 0, none⟩)), (8, .slice (some ⟨r, 0, none⟩) 2 2), (9, .int .i64 2), (10, .int .i64 ((1 : Nat) : Int)), (14, .agg ⟨[.int .i64 b.u, .int .i64 b.v, .int .i64 b.w]⟩), (15, .int .i64 q.1)])
        (fun q h2 => h2.get r = some (.cells [.int .i64 a.u, .int .i64 a.v, .int .i64 a.w, .int .i64 b.u, .int .i64 b.v, .int .i64 b.w] e) ∧ h2.get h.next = some (.cells [.int .i64 0, .int .i64 0, .int .i64 0] 80) ∧ h2.get (h.next + 1) = some (.cells [.int .i64 q.2.1, .int .i64 q.2.2.1, .int .i64 q.2.2.2] 80) ∧ h.next + 2 ≤ h2.next ∧ q.1 ≤ 3 ∧ q.2.1 = (if 0 < q.1 then a.u + b.u else a.u) ∧ q.2.2.1 = (if 1 < q.1 then a.v + b.v else a.v) ∧ q.2.2.2 = (if 2 < q.1 then a.w + b.w else a.w)) (fun q => 3 - q.1) (0, a.u, a.v, a.w) ⟨rfl, rfl, rfl, rfl, rfl, rfl, rfl, trivial⟩ ⟨byGet, byGet, byGet, byOm, by omega, rfl, rfl, rfl⟩ ?_
      rintro ⟨q, x, y, z⟩ g' h2 ⟨g1, g0, g2, n2, hq, hx, hy, hz⟩ K' hK'
      dsimp only at hq g2 hx hy hz ⊢
      by_cases hqn : q < 3
      · obtain rfl | rfl | rfl : q = 0 ∨ q = 1 ∨ q = 2 := by omega
        · rw [if_neg (by omega)] at hx; rw [if_neg (by omega)] at hy; rw [if_neg (by omega)] at hz; subst x y z
          (focus ((try with_reducible apply wpC.to); (repeat' ((conv => whnf); first | refine byEv ?_ | (apply Fork.mk <;> (intro _; try (exfalso; omega))) | fail)); all_goals ((conv => whnf); try with_reducible apply At.mk)))
          exact hK' (1, a.u + b.u, a.v, a.w) _ _ ⟨rfl, rfl, rfl, rfl, rfl, rfl, rfl, trivial⟩ ⟨byGet, byGet, byGet, byOm, by omega, rfl, rfl, rfl⟩ (by dsimp only; omega)
        · rw [if_pos (by omega)] at hx; rw [if_neg (by omega)] at hy; rw [if_neg (by omega)] at hz; subst x y z
          (focus ((try with_reducible apply wpC.to); (repeat' ((conv => whnf); first | refine byEv ?_ | (apply Fork.mk <;> (intro _; try (exfalso; omega))) | fail)); all_goals ((conv => whnf); try with_reducible apply At.mk)))
          exact hK' (2, a.u + b.u, a.v + b.v, a.w) _ _ ⟨rfl, rfl, rfl, rfl, rfl, rfl, rfl, trivial⟩ ⟨byGet, byGet, byGet, byOm, by omega, rfl, rfl, rfl⟩ (by dsimp only; omega)
        · rw [if_pos (by omega)] at hx; rw [if_pos (by omega)] at hy; rw [if_neg (by omega)] at hz; subst x y z
          (focus ((try with_reducible apply wpC.to); (repeat' ((conv => whnf); first | refine byEv ?_ | (apply Fork.mk <;> (intro _; try (exfalso; omega))) | fail)); all_goals ((conv => whnf); try with_reducible apply At.mk)))
          exact hK' (3, a.u + b.u, a.v + b.v, a.w + b.w) _ _ ⟨rfl, rfl, rfl, rfl, rfl, rfl, rfl, trivial⟩ ⟨byGet, byGet, byGet, byOm, by omega, rfl, rfl, rfl⟩ (by dsimp only; omega)
      · obtain rfl : q = 3 := by omega
        rw [if_pos (by omega)] at hx hy hz
        subst x y z
        (focus ((try with_reducible apply wpC.to); (repeat' ((conv => whnf); first | refine byEv ?_ | (apply Fork.mk <;> (intro _; try (exfalso; omega))) | fail)); all_goals ((conv => whnf); try with_reducible apply At.mk)))
        exact hK (2, _, _, _) _ _ ⟨rfl, rfl, rfl, rfl, rfl, trivial⟩ ⟨byGet, byGet, byGet, byOm, by dsimp only; omega, fun h => absurd h (by dsimp only; decide), by dsimp only; omega, by dsimp only; omega⟩ (by dsimp only; omega)
  · obtain rfl : s = 2 := by omega
    obtain ⟨rfl, rfl, rfl⟩ := z2 rfl
    (focus ((try with_reducible apply wpC.to); (repeat' ((conv => whnf); first | refine byEv ?_ | (apply Fork.mk <;> (intro _; try (exfalso; omega))) | fail)); all_goals ((conv => whnf); try with_reducible apply At.mk)))
    (refine byFin ?_)
    rfl
end AE.Try
