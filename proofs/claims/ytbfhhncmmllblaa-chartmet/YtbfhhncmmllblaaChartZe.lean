/- Walks of the laws of charts: fractions compared by whole parts, what is left turned over. -/
import Derived.Test.YtbfhhncmmllblaaJoin7
set_option linter.unusedVariables false
set_option linter.unusedSimpArgs false
set_option linter.unusedSectionVars false
namespace AE.Try
open Go AE Go.Proofs
set_option maxRecDepth 100000
set_option linter.unusedVariables false

/-! ### plain laws -/

theorem tdiv_floor {n d : Int} (hd : 0 < d) : (if n.tmod d < 0 then n.tdiv d - 1 else n.tdiv d) = n / d := by
  have h1 := Int.emod_nonneg n (show d ≠ 0 by omega)
  have h2 := Int.emod_lt_of_pos n hd
  have e1 := Int.mul_ediv_add_emod n d
  have e2 := Int.mul_tdiv_add_tmod n d
  rcases Int.le_total 0 n with hn | hn
  · have : n.tmod d = n % d := Int.tmod_eq_emod_of_nonneg hn
    rw [this, if_neg (by omega), Int.tdiv_eq_ediv_of_nonneg hn]
  · have ht : n.tmod d ≤ 0 := by
      have h0 := Int.tmod_nonneg d (show 0 ≤ -n by omega)
      rw [Int.neg_tmod] at h0
      omega
    have ht2 : -d < n.tmod d := by
      have := Int.lt_tmod_of_pos n hd
      omega
    split
    · rename_i hlt
      -- d * (t - 1) + (m + d) = n
      have : n / d = n.tdiv d - 1 := by
        refine (Int.ediv_emod_unique (r := n.tmod d + d) hd).2 ⟨?_, by omega, by omega⟩ |>.1
        rw [Int.mul_sub]
        omega
      omega
    · rename_i hge
      have h0 : n.tmod d = 0 := by omega
      have : n / d = n.tdiv d := by
        refine (Int.ediv_emod_unique (r := 0) hd).2 ⟨by omega, by omega, by omega⟩ |>.1
      omega
theorem floor_le {a b c d : Int} (hb : 0 < b) (hd : 0 < d) (h : a * d ≤ c * b) : a / b ≤ c / d := by
  have e1 := Int.mul_ediv_add_emod a b
  have e2 := Int.mul_ediv_add_emod c d
  have u0 := emod_in (x := a) hb
  have v0 := emod_in (x := c) hd
  generalize a / b = p at *
  generalize c / d = q at *
  refine Classical.byContradiction fun hc => ?_
  have hpq : q + 1 ≤ p := by omega
  have h1 : b * (q + 1) ≤ b * p := Int.mul_le_mul_of_nonneg_left hpq (by omega)
  have h2 : (b * (q + 1)) * d ≤ a * d := Int.mul_le_mul_of_nonneg_right (by omega) (by omega)
  have h3 : c * b < (d * (q + 1)) * b := Int.mul_lt_mul_of_pos_right (by rw [Int.mul_add]; omega) hb
  have e3 : b * (q + 1) * d = d * (q + 1) * b := by ac_rfl
  omega
theorem rest_le {a b c d : Int} (hb : 0 < b) (hd : 0 < d) (h : a * d ≤ c * b) (he : a / b = c / d) : (a % b) * d ≤ (c % d) * b := by
  have e1 := Int.mul_ediv_add_emod a b
  have e2 := Int.mul_ediv_add_emod c d
  rw [he] at e1
  generalize c / d = q at *
  have f1 : a * d = b * q * d + a % b * d := by rw [← Int.add_mul, e1]
  have f2 : c * b = d * q * b + c % d * b := by rw [← Int.add_mul, e2]
  have f3 : b * q * d = d * q * b := by ac_rfl
  omega

/-- What is known when two fractions are compared, after i steps. -/
structure CF (i : Nat) (x y : Fr) : Prop where
  dx : 1 ≤ x.d ∧ x.d ≤ 70368744177664
  dy : 1 ≤ y.d ∧ y.d ≤ 70368744177664
  nx : -4611686018427387904 ≤ x.n ∧ x.n ≤ 4611686018427387904
  ny : -4611686018427387904 ≤ y.n ∧ y.n ≤ 4611686018427387904
  ev : i % 2 = 0 → x.n * y.d ≤ y.n * x.d
  od : i % 2 = 1 → y.n * x.d ≤ x.n * y.d
  p0 : i % 2 = 0 → x.d * 2 ^ (i / 2) ≤ 70368744177664
  p1 : i % 2 = 1 → x.d < x.n ∧ x.n * 2 ^ (i / 2) ≤ 70368744177664
theorem CF.ne {i : Nat} {x y : Fr} (k : CF i x y) (h : x.n / x.d ≠ y.n / y.d) : (x.n / x.d < y.n / y.d) ↔ i % 2 = 0 := by
  obtain ⟨dx, dy, -, -, ev, od, -, -⟩ := k
  constructor
  · intro hl
    refine Classical.byContradiction fun hi => ?_
    have := floor_le (by omega) (by omega) (od (by omega))
    omega
  · intro hi
    have := floor_le (by omega) (by omega) (ev hi)
    omega
theorem CF.stop {i : Nat} {x y : Fr} (k : CF i x y) (he : x.n / x.d = y.n / y.d) (h0 : x.n % x.d = 0 ∨ y.n % y.d = 0) : x.n % x.d = y.n % y.d ∨ (x.n % x.d = 0 ↔ i % 2 = 0) := by
  obtain ⟨dx, dy, -, -, ev, od, -, -⟩ := k
  have u0 := emod_in (x := x.n) (b := x.d) (by omega)
  have v0 := emod_in (x := y.n) (b := y.d) (by omega)
  generalize hu : x.n % x.d = u at *
  generalize hv : y.n % y.d = v at *
  by_cases hi : i % 2 = 0
  · have := rest_le (by omega) (by omega) (ev hi) he
    rw [hu, hv] at this
    by_cases hu0 : u = 0
    · exact .inr ⟨fun _ => hi, fun _ => hu0⟩
    · have hv0 : v = 0 := by omega
      rw [hv0, Int.zero_mul] at this
      have := Int.mul_pos (show 0 < u by omega) (show 0 < y.d by omega)
      omega
  · have := rest_le (by omega) (by omega) (od (by omega)) he.symm
    rw [hu, hv] at this
    by_cases hv0 : v = 0
    · by_cases hu0 : u = 0
      · exact .inl (by omega)
      · exact .inr ⟨fun h => absurd h hu0, fun h => absurd h hi⟩
    · have hu0 : u = 0 := by omega
      rw [hu0, Int.zero_mul] at this
      have := Int.mul_pos (show 0 < v by omega) (show 0 < x.d by omega)
      omega
theorem CF.next {i : Nat} {x y : Fr} (k : CF i x y) (he : x.n / x.d = y.n / y.d) (hu : x.n % x.d ≠ 0) (hv : y.n % y.d ≠ 0) : CF (i + 1) ⟨x.d, x.n % x.d⟩ ⟨y.d, y.n % y.d⟩ := by
  obtain ⟨dx, dy, nx, ny, ev, od, p0, p1⟩ := k
  have u0 := emod_in (x := x.n) (b := x.d) (by omega)
  have v0 := emod_in (x := y.n) (b := y.d) (by omega)
  refine ⟨by dsimp only; omega, by dsimp only; omega, by dsimp only; omega, by dsimp only; omega, fun hi => ?_, fun hi => ?_, fun hi => ?_, fun hi => ?_⟩
  · have := rest_le (by omega) (by omega) (od (by omega)) he.symm
    dsimp only
    rw [Int.mul_comm x.d, Int.mul_comm y.d]
    exact this
  · have := rest_le (by omega) (by omega) (ev (by omega)) he
    dsimp only
    rw [Int.mul_comm x.d, Int.mul_comm y.d]
    exact this
  · obtain ⟨h1, h2⟩ := p1 (by omega)
    have e : (i + 1) / 2 = i / 2 + 1 := by omega
    dsimp only
    rw [e, Int.pow_succ]
    have hp : (0 : Int) < 2 ^ (i / 2) := Int.pow_pos (by decide)
    have hq : 1 ≤ x.n / x.d := Int.le_ediv_of_mul_le (by omega) (by omega)
    have e1 := Int.mul_ediv_add_emod x.n x.d
    have hm : x.d * 1 ≤ x.d * (x.n / x.d) := Int.mul_le_mul_of_nonneg_left hq (by omega)
    have h3 : x.n % x.d * 2 ≤ x.n := by omega
    have h4 := Int.mul_le_mul_of_nonneg_right h3 (show 0 ≤ (2 : Int) ^ (i / 2) by omega)
    have e2 : x.n % x.d * (2 ^ (i / 2) * 2) = x.n % x.d * 2 * 2 ^ (i / 2) := by ac_rfl
    omega
  · have h1 := p0 (by omega)
    have e : (i + 1) / 2 = i / 2 := by omega
    dsimp only
    rw [e]
    exact ⟨by omega, h1⟩
theorem CF.last {x y : Fr} (k : CF 200 x y) : False := by
  have h := k.p0 (by decide)
  have hd := k.dx
  have e : (2 : Int) ^ (200 / 2) = 1267650600228229401496703205376 := by decide
  rw [e] at h
  omega
theorem CF.first {x y : Fr} (dx : 1 ≤ x.d ∧ x.d ≤ 70368744177664) (dy : 1 ≤ y.d ∧ y.d ≤ 70368744177664) (nx : -4611686018427387904 ≤ x.n ∧ x.n ≤ 4611686018427387904) (ny : -4611686018427387904 ≤ y.n ∧ y.n ≤ 4611686018427387904) (h : x.n * y.d ≤ y.n * x.d) : CF 0 x y :=
  ⟨dx, dy, nx, ny, fun _ => h, fun h => by omega, fun _ => by simp; omega, fun h => by omega⟩

/-! ### walks -/

theorem down_w {h : H} {x : Fr} (hd : 0 < x.d) (hn : -9223372036854775808 < x.n ∧ x.n < 9223372036854775808) : AW Try.prog 81 h.next h [.agg ⟨x.cells⟩] (fun v _ => v = .int .i64 (x.n / x.d)) := by
  have e := tdiv_floor (n := x.n) hd
  have r := tdiv_in hn.1 hn.2 (b := x.d)
  refine fun81.call rfl (Nat.le_refl _) ?_
  unfold a81 Fr.cells
  (focus ((try with_reducible apply wpC.to); (repeat' ((conv => whnf); first | refine byEv ?_ | ((apply Fork.mk) <;> (intro _; try (exfalso; omega; done))) | ((apply Load1.mk); (focus ((repeat (first | (apply el_lo <;> first | assumption | omega) | (apply el_hi <;> first | assumption | omega) | apply bump_old | ((apply put_old); focus (dsimp only [aadd]; omega)) | ((apply quiet_old); (focus assumption); focus (dsimp only [aadd]; omega)) | ((apply same_old); (focus assumption); focus (dsimp only [aadd]; omega)))); done)); (focus exact byVal)) | fail)); all_goals (conv => whnf); all_goals (try with_reducible apply At.mk)))
  refine DivQ.td ⟨hn.1, hn.2, by omega⟩ ?_
  (focus ((try with_reducible apply wpC.to); (repeat' ((conv => whnf); first | refine byEv ?_ | ((apply Fork.mk) <;> (intro _; try (exfalso; omega; done))) | ((apply Load1.mk); (focus ((repeat (first | (apply el_lo <;> first | assumption | omega) | (apply el_hi <;> first | assumption | omega) | apply bump_old | ((apply put_old); focus (dsimp only [aadd]; omega)) | ((apply quiet_old); (focus assumption); focus (dsimp only [aadd]; omega)) | ((apply same_old); (focus assumption); focus (dsimp only [aadd]; omega)))); done)); (focus exact byVal)) | fail)); all_goals (conv => whnf); all_goals (try with_reducible apply At.mk)))
  refine ModQ.tm (by omega) ?_
  (focus ((try with_reducible apply wpC.to); (repeat' ((conv => whnf); first | refine byEv ?_ | ((apply Fork.mk) <;> (intro _; try (exfalso; omega; done))) | ((apply Load1.mk); (focus ((repeat (first | (apply el_lo <;> first | assumption | omega) | (apply el_hi <;> first | assumption | omega) | apply bump_old | ((apply put_old); focus (dsimp only [aadd]; omega)) | ((apply quiet_old); (focus assumption); focus (dsimp only [aadd]; omega)) | ((apply same_old); (focus assumption); focus (dsimp only [aadd]; omega)))); done)); (focus exact byVal)) | fail)); all_goals (conv => whnf); all_goals (try with_reducible apply At.mk)))
  · rename_i hlt
    rw [if_pos hlt] at e
    by_cases hb : -9223372036854775808 < x.n.tdiv x.d
    · (focus ((try with_reducible apply wpC.to); (repeat' ((conv => whnf); first | refine byEv ?_ | ((apply Fork.mk) <;> (intro _; try (exfalso; omega; done))) | ((apply Load1.mk); (focus ((repeat (first | (apply el_lo <;> first | assumption | omega) | (apply el_hi <;> first | assumption | omega) | apply bump_old | ((apply put_old); focus (dsimp only [aadd]; omega)) | ((apply quiet_old); (focus assumption); focus (dsimp only [aadd]; omega)) | ((apply same_old); (focus assumption); focus (dsimp only [aadd]; omega)))); done)); (focus exact byVal)) | fail)); all_goals (conv => whnf); all_goals (try with_reducible apply At.mk)))
      (refine byFin ?_)
      rw [← e]
    · exfalso
      have h1 := Int.mul_ediv_add_emod x.n x.d
      have h2 := emod_in (x := x.n) hd
      have h3 := Int.mul_le_mul_of_nonneg_left (show 9223372036854775809 ≤ -(x.n / x.d) by omega) (show 0 ≤ x.d by omega)
      rw [Int.mul_neg] at h3
      omega
  · rename_i hge
    rw [if_neg (by omega)] at e
    (focus ((try with_reducible apply wpC.to); (repeat' ((conv => whnf); first | refine byEv ?_ | ((apply Fork.mk) <;> (intro _; try (exfalso; omega; done))) | ((apply Load1.mk); (focus ((repeat (first | (apply el_lo <;> first | assumption | omega) | (apply el_hi <;> first | assumption | omega) | apply bump_old | ((apply put_old); focus (dsimp only [aadd]; omega)) | ((apply quiet_old); (focus assumption); focus (dsimp only [aadd]; omega)) | ((apply same_old); (focus assumption); focus (dsimp only [aadd]; omega)))); done)); (focus exact byVal)) | fail)); all_goals (conv => whnf); all_goals (try with_reducible apply At.mk)))
    (refine byFin ?_)
    rw [e]

theorem kChartZe0 {G : Prop} (g : G := by ((apply fraction_r; rotate_left; (focus omega); (focus omega)))) : G := g
set_option maxHeartbeats 4000000 in
theorem notAbove_w {h : H} {x y : Fr} (k : CF 0 x y) : AW Try.prog 38 h.next h [.agg ⟨x.cells⟩, .agg ⟨y.cells⟩] (fun v _ => v = .bool true) := by
  have dx := k.dx
  have dy := k.dy
  refine fun38.call rfl (Nat.le_refl _) ?_
  unfold a38 Fr.cells
  (focus ((try with_reducible apply wpC.to); (repeat' ((conv => whnf); first | refine byEv ?_ | ((apply Fork.mk) <;> (intro _; try (exfalso; omega; done))) | ((apply Load1.mk); (focus ((repeat (first | (apply el_lo <;> first | assumption | omega) | (apply el_hi <;> first | assumption | omega) | apply bump_old | ((apply put_old); focus (dsimp only [aadd]; omega)) | ((apply quiet_old); (focus assumption); focus (dsimp only [aadd]; omega)) | ((apply same_old); (focus assumption); focus (dsimp only [aadd]; omega)))); done)); (focus exact byVal)) | fail)); all_goals (conv => whnf); all_goals (try with_reducible apply At.mk)))
  refine wp_loop (fun s : Nat × Fr × Fr => [(5, .pointer (some ⟨h.next + 23, 0, none⟩)), (6, .pointer (some ⟨h.next + 24, 0, none⟩)), (7, .int .i64 s.1)])
    (fun s g => Quiet h.next h g ∧ g.get (h.next + 23) = some (.cells s.2.1.cells 32) ∧ g.get (h.next + 24) = some (.cells s.2.2.cells 32) ∧ h.next + 25 ≤ g.next ∧ s.1 ≤ 200 ∧ CF s.1 s.2.1 s.2.2) (fun s => 200 - s.1) (0, x, y) ⟨rfl, rfl, rfl, trivial⟩ ⟨by (exact byQuiet), by (exact byGet), by (exact byGet), by (exact byOm), Nat.zero_le _, k⟩ ?_
  rintro ⟨s, x, y⟩ g' h1 ⟨q1, g1, g2, n1, hs, k⟩ K hK
  dsimp only at hs g1 g2 k ⊢
  unfold Fr.cells at g1 g2
  by_cases hs2 : s < 200
  · obtain ⟨dx, dy, nx, ny, -, -, -, -⟩ := id k
    have u0 := emod_in (x := x.n) (b := x.d) (by omega)
    have v0 := emod_in (x := y.n) (b := y.d) (by omega)
    have e1 := Int.mul_ediv_add_emod x.n x.d
    have e2 := Int.mul_ediv_add_emod y.n y.d
    rw [Int.mul_comm] at e1 e2
    (focus ((try with_reducible apply wpC.to); (repeat' ((conv => whnf); first | refine byEv ?_ | ((apply Fork.mk) <;> (intro _; try (exfalso; omega; done))) | ((apply Load1.mk); (focus ((repeat (first | (apply el_lo <;> first | assumption | omega) | (apply el_hi <;> first | assumption | omega) | apply bump_old | ((apply put_old); focus (dsimp only [aadd]; omega)) | ((apply quiet_old); (focus assumption); focus (dsimp only [aadd]; omega)) | ((apply same_old); (focus assumption); focus (dsimp only [aadd]; omega)))); done)); (focus exact byVal)) | fail)); all_goals (conv => whnf); all_goals (try with_reducible apply At.mk)))
    apply q_callv
    focus (exact byNext)
    focus (exact byLo)
    focus exact down_w (x := x) (by omega) (by omega)
    intro h2 q2 n2
    (focus ((try with_reducible apply wpC.to); (repeat' ((conv => whnf); first | refine byEv ?_ | ((apply Fork.mk) <;> (intro _; try (exfalso; omega; done))) | ((apply Load1.mk); (focus ((repeat (first | (apply el_lo <;> first | assumption | omega) | (apply el_hi <;> first | assumption | omega) | apply bump_old | ((apply put_old); focus (dsimp only [aadd]; omega)) | ((apply quiet_old); (focus assumption); focus (dsimp only [aadd]; omega)) | ((apply same_old); (focus assumption); focus (dsimp only [aadd]; omega)))); done)); (focus exact byVal)) | fail)); all_goals (conv => whnf); all_goals (try with_reducible apply At.mk)))
    apply q_callv
    focus (exact byNext)
    focus (exact byLo)
    focus exact down_w (x := y) (by omega) (by omega)
    intro h3 q3 n3
    have w1 : x.n % x.d = x.n - x.n / x.d * x.d := by omega
    have w2 : y.n % y.d = y.n - y.n / y.d * y.d := by omega
    have c1 := k.ne
    have c2 := k.stop
    have c3 := k.next
    (focus ((try with_reducible apply wpC.to); (repeat' ((conv => whnf); first | refine byEv ?_ | ((apply Fork.mk) <;> (intro _; try (exfalso; omega; done))) | ((apply Load1.mk); (focus ((repeat (first | (apply el_lo <;> first | assumption | omega) | (apply el_hi <;> first | assumption | omega) | apply bump_old | ((apply put_old); focus (dsimp only [aadd]; omega)) | ((apply quiet_old); (focus assumption); focus (dsimp only [aadd]; omega)) | ((apply same_old); (focus assumption); focus (dsimp only [aadd]; omega)))); done)); (focus exact byVal)) | fail)); all_goals (conv => whnf); all_goals (try with_reducible apply At.mk)))
    all_goals first
      | ((refine byFin ?_)
         first
         | rfl
         | (exfalso
            clear c3
            first
            | (have c1 := c1 (by omega); omega)
            | (have c2 := c2 (by omega) (by omega); omega)))
      | (refine hK (s + 1, ⟨x.d, x.n % x.d⟩, ⟨y.d, y.n % y.d⟩) _ _ ⟨rfl, rfl, int_of rfl (by dsimp only; omega), trivial⟩ ⟨by (exact byQuiet), by dsimp only [Fr.cells]; rw [w1]; (exact byGet), by dsimp only [Fr.cells]; rw [w2]; (exact byGet), by (exact byOm), by dsimp only; omega, c3 (by omega) (by omega) (by omega)⟩ (by dsimp only; omega))
  · obtain rfl : s = 200 := by omega
    exact k.last.elim
end AE.Try
