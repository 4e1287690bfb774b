/- Walks of chart: fractions; what is summed over the corners. -/
import Derived.Test.YtbfhhncmmllblaaChartF
set_option linter.unusedVariables false
set_option linter.unusedSimpArgs false
set_option linter.unusedSectionVars false
namespace AE.Try
open Go AE Go.Proofs
set_option maxRecDepth 100000
set_option linter.unusedVariables false

/-! ### fractions -/

/-- A fraction in least terms. -/
structure Fr where
  n : Int
  d : Int
def Fr.cells (x : Fr) : List Value := [.int .i64 x.n, .int .i64 x.d]
def fr (n d : Int) : Fr := ⟨n / (Int.gcd n d : Int), d / (Int.gcd n d : Int)⟩

theorem gcd_abs (n d : Int) (hd : 0 ≤ d) : Int.gcd n d = Nat.gcd n.natAbs d.toNat := by
  unfold Int.gcd
  congr 1
  omega
theorem tdiv_gcd (n d : Int) : n.tdiv (Int.gcd n d : Int) = n / (Int.gcd n d : Int) := Int.tdiv_eq_ediv_of_dvd (Int.gcd_dvd_left ..)

theorem fraction_w {h : H} {T : Tbl} {n d : Int} (hn : -9223372036854775808 < n ∧ n < 9223372036854775808) (hd : 0 < d ∧ d < 9223372036854775808) : AW Try.prog 90 h.next h [.agg ⟨T.cells⟩, .int .i64 n, .int .i64 d] (fun v _ => v = .agg ⟨(fr n d).cells⟩) := by
  refine fun90.call rfl (Nat.le_refl _) ?_
  unfold a90 Tbl.cells
  (focus ((try with_reducible apply wpC.to); (repeat' ((conv => whnf); first | refine byEv ?_ | ((apply Fork.mk) <;> (intro _; try (exfalso; omega; done))) | fail)); all_goals (conv => whnf); all_goals (try with_reducible apply At.mk)))
  refine wp_loop (fun s : Nat × Nat => [(1, .int .i64 n), (2, .int .i64 d), (6, .pointer (some ⟨h.next + 1, 0, none⟩)), (7, .int .i64 s.1), (8, .int .i64 s.2)]) (fun s h1 => h1.get (h.next + 1) = some (.cells [.int .i64 0, .int .i64 0] 32) ∧ Quiet h.next h h1 ∧ h.next + 2 ≤ h1.next ∧ Nat.gcd s.1 s.2 = Int.gcd n d ∧ s.1 < 9223372036854775808 ∧ s.2 < 9223372036854775808 ∧ (0 < s.1 ∨ 0 < s.2)) (fun s => s.2) (n.natAbs, d.toNat) ⟨rfl, rfl, rfl, int_of rfl (by dsimp only; omega), int_of rfl (by dsimp only; omega), trivial⟩ ⟨by (exact byGet), by (exact byQuiet), by (exact byOm), (gcd_abs n d (by omega)).symm, by dsimp only; omega, by dsimp only; omega, by dsimp only; omega⟩ ?_
  rintro ⟨a, b⟩ g h1 ⟨g1, q1, n1, hg, ha, hb, hab⟩ K hK
  dsimp only at hg ha hb hab ⊢
  (focus ((try with_reducible apply wpC.to); (repeat' ((conv => whnf); first | refine byEv ?_ | ((apply Fork.mk) <;> (intro _; try (exfalso; omega; done))) | fail)); all_goals (conv => whnf); all_goals (try with_reducible apply At.mk)))
  · refine hK (b, a % b) _ _ ⟨rfl, rfl, rfl, int_of rfl (by dsimp only), int_of rfl (by dsimp only; omega), trivial⟩ ⟨by (exact byGet), by (exact byQuiet), by (exact byOm), ?_, hb, ?_, ?_⟩ ?_
    · dsimp only
      rw [← hg, Nat.gcd_comm a b]
      exact (Nat.gcd_rec b a).symm ▸ (Nat.gcd_comm b (a % b))
    · dsimp only
      have := Nat.mod_lt a (show 0 < b by omega)
      omega
    · dsimp only; omega
    · dsimp only
      exact Nat.mod_lt a (show 0 < b by omega)
  · obtain rfl : b = 0 := by omega
    have hga : a = Int.gcd n d := by rw [← hg]; simp
    have ha0 : 0 < a := by omega
    (focus ((try with_reducible apply wpC.to); (repeat' ((conv => whnf); first | refine byEv ?_ | ((apply Fork.mk) <;> (intro _; try (exfalso; omega; done))) | fail)); all_goals (conv => whnf); all_goals (try with_reducible apply At.mk)))
    rw [hga]
    have hg0 : 0 < ((Int.gcd n d : Nat) : Int) := by omega
    refine DivQ.td ⟨by omega, by omega, by omega⟩ ?_
    rw [tdiv_gcd]
    (focus ((try with_reducible apply wpC.to); (repeat' ((conv => whnf); first | refine byEv ?_ | ((apply Fork.mk) <;> (intro _; try (exfalso; omega; done))) | fail)); all_goals (conv => whnf); all_goals (try with_reducible apply At.mk)))
    (refine byFin ?_)
    rfl

/-! ### corners, one after the other -/

def cornArg (T : Tbl) (p : Pt) (j : Nat) : List Value := [.agg ⟨[.int .i64 ((T.i p : Int) + ((j / 2 : Nat) : Int)), .int .i64 ((T.k p : Int) + ((j % 2 : Nat) : Int))]⟩, .int .i64 (T.x p (j / 2) * T.y p (j % 2))]

theorem corn_w {h : H} {T : Tbl} {p : Pt} {lo r1 r2 r3 r4 : Nat} {yv : Value} (ar : Around T p) (hlo : lo ≤ h.next) (hT : T.P.n < 1000000 ∧ T.A.n < 1000000) (Inv : Nat → H → Prop) (hI : ∀ j h1, Inv j h1 → CRows T p r1 r2 r3 r4 h1) (hst : ∀ i h1 h2, Inv i h1 → Quiet h1.next h1 h2 → Inv i h2)
    (hy : ∀ j h1, j < 4 → Inv j h1 → lo ≤ h1.next → ∃ v h2, (v = .bool true ∧ Inv (j + 1) h2) ∧ ACall Try.prog yv lo h1 (cornArg T p j) v h2) (h0 : Inv 0 h) (hr : r1 < h.next ∧ r2 < h.next ∧ r3 < h.next ∧ r4 < h.next) :
    AW Try.prog 99 lo h [yv, .pointer (some ⟨r1, 0, none⟩), .pointer (some ⟨r2, 0, none⟩), .pointer (some ⟨r3, 0, none⟩), .pointer (some ⟨r4, 0, none⟩)] (fun _ h' => Inv 4 h') := by
  have ai := ar.i
  have ak := ar.k
  have x0 := ar.x 0
  have x1 := ar.x 1
  have y0 := ar.y 0
  have y1 := ar.y 1
  have w00 := ar.wt 0 0
  have w01 := ar.wt 0 1
  have w10 := ar.wt 1 0
  have w11 := ar.wt 1 1
  unfold Tbl.wt at w00 w01 w10 w11
  refine fun99.call rfl hlo ?_
  unfold a99
  (focus ((try with_reducible apply wpC.to); (repeat' ((conv => whnf); first | refine byEv ?_ | ((apply Fork.mk) <;> (intro _; try (exfalso; omega; done))) | fail)); all_goals (conv => whnf); all_goals (try with_reducible apply At.mk)))
  refine wp_loop (fun s : Nat => [(0, yv), (1, .pointer (some ⟨r1, 0, none⟩)), (2, .pointer (some ⟨r2, 0, none⟩)), (3, .pointer (some ⟨r3, 0, none⟩)), (4, .pointer (some ⟨r4, 0, none⟩)), (8, .int .i64 s)]) (fun s h1 => Inv (2 * s) h1 ∧ Quiet lo h h1 ∧ s ≤ 2) (fun s => 2 - s) 0 ⟨rfl, rfl, rfl, rfl, rfl, rfl, trivial⟩ ⟨?_, by (exact byQuiet), by omega⟩ ?_
  · exact hst 0 h _ h0 (by (exact byQuiet))
  rintro s g h1 ⟨hi, q, hs⟩ K hK
  have hnx := q.next
  by_cases hs2 : s < 2
  · (focus ((try with_reducible apply wpC.to); (repeat' ((conv => whnf); first | refine byEv ?_ | ((apply Fork.mk) <;> (intro _; try (exfalso; omega; done))) | fail)); all_goals (conv => whnf); all_goals (try with_reducible apply At.mk)))
    refine wp_loop (fun t : Nat => [(0, yv), (1, .pointer (some ⟨r1, 0, none⟩)), (2, .pointer (some ⟨r2, 0, none⟩)), (3, .pointer (some ⟨r3, 0, none⟩)), (4, .pointer (some ⟨r4, 0, none⟩)), (6, .int .i64 s), (8, .int .i64 s), (11, .int .i64 t)]) (fun t h2 => Inv (2 * s + t) h2 ∧ Quiet lo h h2 ∧ t ≤ 2) (fun t => 2 - t) 0 ⟨rfl, rfl, rfl, rfl, rfl, rfl, rfl, rfl, trivial⟩ ⟨?_, by (exact byQuiet), by omega⟩ ?_
    · exact hst _ h1 _ hi (by (exact byQuiet))
    rintro t g' h2 ⟨hi2, q2, ht⟩ K' hK'
    have hnx2 := q2.next
    obtain ⟨g1, g2, g3, g4⟩ := hI _ _ hi2
    by_cases ht2 : t < 2
    · obtain rfl | rfl : s = 0 ∨ s = 1 := by omega
      all_goals
        obtain rfl | rfl : t = 0 ∨ t = 1 := by omega
      · (focus ((try with_reducible apply wpC.to); (repeat' ((conv => whnf); first | refine byEv ?_ | ((apply Fork.mk) <;> (intro _; try (exfalso; omega; done))) | fail)); all_goals (conv => whnf); all_goals (try with_reducible apply At.mk)))
        apply q_calla
        focus exact acall_mono (hy 0 _ (by omega) (hst _ h2 _ hi2 (by (exact byQuiet))) (by (exact byOm))) (by (exact byOm))
        rintro _ h3 ⟨rfl, hi3⟩ q3
        have hnx3 := q3.next
        (focus ((try with_reducible apply wpC.to); (repeat' ((conv => whnf); first | refine byEv ?_ | ((apply Fork.mk) <;> (intro _; try (exfalso; omega; done))) | fail)); all_goals (conv => whnf); all_goals (try with_reducible apply At.mk)))
        exact hK' (0 + 1) _ _ ⟨rfl, rfl, rfl, rfl, rfl, rfl, rfl, int_of rfl (by omega), trivial⟩ ⟨hst _ h3 _ hi3 (by (exact byQuiet)), by (exact byQuiet), by omega⟩ (by omega)
      · (focus ((try with_reducible apply wpC.to); (repeat' ((conv => whnf); first | refine byEv ?_ | ((apply Fork.mk) <;> (intro _; try (exfalso; omega; done))) | fail)); all_goals (conv => whnf); all_goals (try with_reducible apply At.mk)))
        apply q_calla
        focus exact acall_mono (hy 1 _ (by omega) (hst _ h2 _ hi2 (by (exact byQuiet))) (by (exact byOm))) (by (exact byOm))
        rintro _ h3 ⟨rfl, hi3⟩ q3
        have hnx3 := q3.next
        (focus ((try with_reducible apply wpC.to); (repeat' ((conv => whnf); first | refine byEv ?_ | ((apply Fork.mk) <;> (intro _; try (exfalso; omega; done))) | fail)); all_goals (conv => whnf); all_goals (try with_reducible apply At.mk)))
        exact hK' (1 + 1) _ _ ⟨rfl, rfl, rfl, rfl, rfl, rfl, rfl, int_of rfl (by omega), trivial⟩ ⟨hst _ h3 _ hi3 (by (exact byQuiet)), by (exact byQuiet), by omega⟩ (by omega)
      · (focus ((try with_reducible apply wpC.to); (repeat' ((conv => whnf); first | refine byEv ?_ | ((apply Fork.mk) <;> (intro _; try (exfalso; omega; done))) | fail)); all_goals (conv => whnf); all_goals (try with_reducible apply At.mk)))
        apply q_calla
        focus exact acall_mono (hy 2 _ (by omega) (hst _ h2 _ hi2 (by (exact byQuiet))) (by (exact byOm))) (by (exact byOm))
        rintro _ h3 ⟨rfl, hi3⟩ q3
        have hnx3 := q3.next
        (focus ((try with_reducible apply wpC.to); (repeat' ((conv => whnf); first | refine byEv ?_ | ((apply Fork.mk) <;> (intro _; try (exfalso; omega; done))) | fail)); all_goals (conv => whnf); all_goals (try with_reducible apply At.mk)))
        exact hK' (0 + 1) _ _ ⟨rfl, rfl, rfl, rfl, rfl, rfl, rfl, int_of rfl (by omega), trivial⟩ ⟨hst _ h3 _ hi3 (by (exact byQuiet)), by (exact byQuiet), by omega⟩ (by omega)
      · (focus ((try with_reducible apply wpC.to); (repeat' ((conv => whnf); first | refine byEv ?_ | ((apply Fork.mk) <;> (intro _; try (exfalso; omega; done))) | fail)); all_goals (conv => whnf); all_goals (try with_reducible apply At.mk)))
        apply q_calla
        focus exact acall_mono (hy 3 _ (by omega) (hst _ h2 _ hi2 (by (exact byQuiet))) (by (exact byOm))) (by (exact byOm))
        rintro _ h3 ⟨rfl, hi3⟩ q3
        have hnx3 := q3.next
        (focus ((try with_reducible apply wpC.to); (repeat' ((conv => whnf); first | refine byEv ?_ | ((apply Fork.mk) <;> (intro _; try (exfalso; omega; done))) | fail)); all_goals (conv => whnf); all_goals (try with_reducible apply At.mk)))
        exact hK' (1 + 1) _ _ ⟨rfl, rfl, rfl, rfl, rfl, rfl, rfl, int_of rfl (by omega), trivial⟩ ⟨hst _ h3 _ hi3 (by (exact byQuiet)), by (exact byQuiet), by omega⟩ (by omega)
    · obtain rfl : t = 2 := by omega
      (focus ((try with_reducible apply wpC.to); (repeat' ((conv => whnf); first | refine byEv ?_ | ((apply Fork.mk) <;> (intro _; try (exfalso; omega; done))) | fail)); all_goals (conv => whnf); all_goals (try with_reducible apply At.mk)))
      refine hK (s + 1) _ _ ⟨rfl, rfl, rfl, rfl, rfl, int_of rfl (by omega), trivial⟩ ⟨?_, by (exact byQuiet), by omega⟩ (by omega)
      rw [show 2 * (s + 1) = 2 * s + 2 by omega]
      exact hst _ h2 _ hi2 (by (exact byQuiet))
  · obtain rfl : s = 2 := by omega
    (focus ((try with_reducible apply wpC.to); (repeat' ((conv => whnf); first | refine byEv ?_ | ((apply Fork.mk) <;> (intro _; try (exfalso; omega; done))) | fail)); all_goals (conv => whnf); all_goals (try with_reducible apply At.mk)))
    (refine byFin ?_)
    exact hst _ h1 _ hi (by (exact byQuiet))

end AE.Try
