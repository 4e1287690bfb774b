/- Walks and plain laws: ChartG, ChartH. -/
import Derived.Test.YtbfhhncmmllblaaChartF
set_option linter.unusedVariables false
set_option linter.unusedSimpArgs false
set_option linter.unusedSectionVars false

/- Walks of chart: fractions; what is summed over the corners. -/
namespace AE.Try
open Go AE Go.Proofs
set_option maxRecDepth 100000
set_option linter.unusedVariables false

/-! ### fractions -/

/-- A fraction in least terms. -/
structure Fr where
  n : Int
  d : Int
def Fr.cells (x : Fr) : List Value := [.int .i64 x.n, .int .i64 x.d]
def fr (n d : Int) : Fr := ⟨n / (Int.gcd n d : Int), d / (Int.gcd n d : Int)⟩

theorem gcd_abs (n d : Int) (hd : 0 ≤ d) : Int.gcd n d = Nat.gcd n.natAbs d.toNat := by
  unfold Int.gcd
  congr 1
  omega
theorem tdiv_gcd (n d : Int) : n.tdiv (Int.gcd n d : Int) = n / (Int.gcd n d : Int) := Int.tdiv_eq_ediv_of_dvd (Int.gcd_dvd_left ..)

theorem fraction_w {h : H} {T : Tbl} {n d : Int} (hn : -9223372036854775808 < n ∧ n < 9223372036854775808) (hd : 0 < d ∧ d < 9223372036854775808) : AW Try.prog 90 h.next h [.agg ⟨T.cells⟩, .int .i64 n, .int .i64 d] (fun v _ => v = .agg ⟨(fr n d).cells⟩) := by
  refine fun90.call rfl (Nat.le_refl _) ?_
  unfold a90 Tbl.cells
  (focus ((try with_reducible apply wpC.to); (repeat' ((conv => whnf); first | refine byEv ?_ | ((apply Fork.mk) <;> (intro _; try (exfalso; omega; done))) | fail)); all_goals (conv => whnf); all_goals (try with_reducible apply At.mk)))
  refine wp_loop (fun s : Nat × Nat => [(1, .int .i64 n), (2, .int .i64 d), (6, .pointer (some ⟨h.next + 1, 0, none⟩)), (7, .int .i64 s.1), (8, .int .i64 s.2)]) (fun s h1 => h1.get (h.next + 1) = some (.cells [.int .i64 0, .int .i64 0] 32) ∧ Quiet h.next h h1 ∧ h.next + 2 ≤ h1.next ∧ Nat.gcd s.1 s.2 = Int.gcd n d ∧ s.1 < 9223372036854775808 ∧ s.2 < 9223372036854775808 ∧ (0 < s.1 ∨ 0 < s.2)) (fun s => s.2) (n.natAbs, d.toNat) ⟨rfl, rfl, rfl, int_of rfl (by dsimp only; omega), int_of rfl (by dsimp only; omega), trivial⟩ ⟨by (exact byGet), by (exact byQuiet), by (exact byOm), (gcd_abs n d (by omega)).symm, by dsimp only; omega, by dsimp only; omega, by dsimp only; omega⟩ ?_
  rintro ⟨a, b⟩ g h1 ⟨g1, q1, n1, hg, ha, hb, hab⟩ K hK
  dsimp only at hg ha hb hab ⊢
  (focus ((try with_reducible apply wpC.to); (repeat' ((conv => whnf); first | refine byEv ?_ | ((apply Fork.mk) <;> (intro _; try (exfalso; omega; done))) | fail)); all_goals (conv => whnf); all_goals (try with_reducible apply At.mk)))
  · refine hK (b, a % b) _ _ ⟨rfl, rfl, rfl, int_of rfl (by dsimp only), int_of rfl (by dsimp only; omega), trivial⟩ ⟨by (exact byGet), by (exact byQuiet), by (exact byOm), ?_, hb, ?_, ?_⟩ ?_
    · dsimp only
      rw [← hg, Nat.gcd_comm a b]
      exact (Nat.gcd_rec b a).symm ▸ (Nat.gcd_comm b (a % b))
    · dsimp only
      have := Nat.mod_lt a (show 0 < b by omega)
      omega
    · dsimp only; omega
    · dsimp only
      exact Nat.mod_lt a (show 0 < b by omega)
  · obtain rfl : b = 0 := by omega
    have hga : a = Int.gcd n d := by rw [← hg]; simp
    have ha0 : 0 < a := by omega
    (focus ((try with_reducible apply wpC.to); (repeat' ((conv => whnf); first | refine byEv ?_ | ((apply Fork.mk) <;> (intro _; try (exfalso; omega; done))) | fail)); all_goals (conv => whnf); all_goals (try with_reducible apply At.mk)))
    rw [hga]
    have hg0 : 0 < ((Int.gcd n d : Nat) : Int) := by omega
    refine DivQ.td ⟨by omega, by omega, by omega⟩ ?_
    rw [tdiv_gcd]
    (focus ((try with_reducible apply wpC.to); (repeat' ((conv => whnf); first | refine byEv ?_ | ((apply Fork.mk) <;> (intro _; try (exfalso; omega; done))) | fail)); all_goals (conv => whnf); all_goals (try with_reducible apply At.mk)))
    (refine byFin ?_)
    rfl

/-! ### corners, one after the other -/

def cornArg (T : Tbl) (p : Pt) (j : Nat) : List Value := [.agg ⟨[.int .i64 ((T.i p : Int) + ((j / 2 : Nat) : Int)), .int .i64 ((T.k p : Int) + ((j % 2 : Nat) : Int))]⟩, .int .i64 (T.x p (j / 2) * T.y p (j % 2))]

theorem corn_w {h : H} {T : Tbl} {p : Pt} {lo r1 r2 r3 r4 : Nat} {yv : Value} (ar : Around T p) (hlo : lo ≤ h.next) (hT : T.P.n < 1000000 ∧ T.A.n < 1000000) (Inv : Nat → H → Prop) (hI : ∀ j h1, Inv j h1 → CRows T p r1 r2 r3 r4 h1) (hst : ∀ i h1 h2, Inv i h1 → Quiet h1.next h1 h2 → Inv i h2)
    (hy : ∀ j h1, j < 4 → Inv j h1 → lo ≤ h1.next → ∃ v h2, (v = .bool true ∧ Inv (j + 1) h2) ∧ ACall Try.prog yv lo h1 (cornArg T p j) v h2) (h0 : Inv 0 h) (hr : r1 < h.next ∧ r2 < h.next ∧ r3 < h.next ∧ r4 < h.next) :
    AW Try.prog 99 lo h [yv, .pointer (some ⟨r1, 0, none⟩), .pointer (some ⟨r2, 0, none⟩), .pointer (some ⟨r3, 0, none⟩), .pointer (some ⟨r4, 0, none⟩)] (fun _ h' => Inv 4 h') := by
  have ai := ar.i
  have ak := ar.k
  have x0 := ar.x 0
  have x1 := ar.x 1
  have y0 := ar.y 0
  have y1 := ar.y 1
  have w00 := ar.wt 0 0
  have w01 := ar.wt 0 1
  have w10 := ar.wt 1 0
  have w11 := ar.wt 1 1
  unfold Tbl.wt at w00 w01 w10 w11
  refine fun99.call rfl hlo ?_
  unfold a99
  (focus ((try with_reducible apply wpC.to); (repeat' ((conv => whnf); first | refine byEv ?_ | ((apply Fork.mk) <;> (intro _; try (exfalso; omega; done))) | fail)); all_goals (conv => whnf); all_goals (try with_reducible apply At.mk)))
  refine wp_loop (fun s : Nat => [(0, yv), (1, .pointer (some ⟨r1, 0, none⟩)), (2, .pointer (some ⟨r2, 0, none⟩)), (3, .pointer (some ⟨r3, 0, none⟩)), (4, .pointer (some ⟨r4, 0, none⟩)), (8, .int .i64 s)]) (fun s h1 => Inv (2 * s) h1 ∧ Quiet lo h h1 ∧ s ≤ 2) (fun s => 2 - s) 0 ⟨rfl, rfl, rfl, rfl, rfl, rfl, trivial⟩ ⟨?_, by (exact byQuiet), by omega⟩ ?_
  · exact hst 0 h _ h0 (by (exact byQuiet))
  rintro s g h1 ⟨hi, q, hs⟩ K hK
  have hnx := q.next
  by_cases hs2 : s < 2
  · (focus ((try with_reducible apply wpC.to); (repeat' ((conv => whnf); first | refine byEv ?_ | ((apply Fork.mk) <;> (intro _; try (exfalso; omega; done))) | fail)); all_goals (conv => whnf); all_goals (try with_reducible apply At.mk)))
    refine wp_loop (fun t : Nat => [(0, yv), (1, .pointer (some ⟨r1, 0, none⟩)), (2, .pointer (some ⟨r2, 0, none⟩)), (3, .pointer (some ⟨r3, 0, none⟩)), (4, .pointer (some ⟨r4, 0, none⟩)), (6, .int .i64 s), (8, .int .i64 s), (11, .int .i64 t)]) (fun t h2 => Inv (2 * s + t) h2 ∧ Quiet lo h h2 ∧ t ≤ 2) (fun t => 2 - t) 0 ⟨rfl, rfl, rfl, rfl, rfl, rfl, rfl, rfl, trivial⟩ ⟨?_, by (exact byQuiet), by omega⟩ ?_
    · exact hst _ h1 _ hi (by (exact byQuiet))
    rintro t g' h2 ⟨hi2, q2, ht⟩ K' hK'
    have hnx2 := q2.next
    obtain ⟨g1, g2, g3, g4⟩ := hI _ _ hi2
    by_cases ht2 : t < 2
    · obtain rfl | rfl : s = 0 ∨ s = 1 := by omega
      all_goals
        obtain rfl | rfl : t = 0 ∨ t = 1 := by omega
      · (focus ((try with_reducible apply wpC.to); (repeat' ((conv => whnf); first | refine byEv ?_ | ((apply Fork.mk) <;> (intro _; try (exfalso; omega; done))) | fail)); all_goals (conv => whnf); all_goals (try with_reducible apply At.mk)))
        apply q_calla
        focus exact acall_mono (hy 0 _ (by omega) (hst _ h2 _ hi2 (by (exact byQuiet))) (by (exact byOm))) (by (exact byOm))
        rintro _ h3 ⟨rfl, hi3⟩ q3
        have hnx3 := q3.next
        (focus ((try with_reducible apply wpC.to); (repeat' ((conv => whnf); first | refine byEv ?_ | ((apply Fork.mk) <;> (intro _; try (exfalso; omega; done))) | fail)); all_goals (conv => whnf); all_goals (try with_reducible apply At.mk)))
        exact hK' (0 + 1) _ _ ⟨rfl, rfl, rfl, rfl, rfl, rfl, rfl, int_of rfl (by omega), trivial⟩ ⟨hst _ h3 _ hi3 (by (exact byQuiet)), by (exact byQuiet), by omega⟩ (by omega)
      · (focus ((try with_reducible apply wpC.to); (repeat' ((conv => whnf); first | refine byEv ?_ | ((apply Fork.mk) <;> (intro _; try (exfalso; omega; done))) | fail)); all_goals (conv => whnf); all_goals (try with_reducible apply At.mk)))
        apply q_calla
        focus exact acall_mono (hy 1 _ (by omega) (hst _ h2 _ hi2 (by (exact byQuiet))) (by (exact byOm))) (by (exact byOm))
        rintro _ h3 ⟨rfl, hi3⟩ q3
        have hnx3 := q3.next
        (focus ((try with_reducible apply wpC.to); (repeat' ((conv => whnf); first | refine byEv ?_ | ((apply Fork.mk) <;> (intro _; try (exfalso; omega; done))) | fail)); all_goals (conv => whnf); all_goals (try with_reducible apply At.mk)))
        exact hK' (1 + 1) _ _ ⟨rfl, rfl, rfl, rfl, rfl, rfl, rfl, int_of rfl (by omega), trivial⟩ ⟨hst _ h3 _ hi3 (by (exact byQuiet)), by (exact byQuiet), by omega⟩ (by omega)
      · (focus ((try with_reducible apply wpC.to); (repeat' ((conv => whnf); first | refine byEv ?_ | ((apply Fork.mk) <;> (intro _; try (exfalso; omega; done))) | fail)); all_goals (conv => whnf); all_goals (try with_reducible apply At.mk)))
        apply q_calla
        focus exact acall_mono (hy 2 _ (by omega) (hst _ h2 _ hi2 (by (exact byQuiet))) (by (exact byOm))) (by (exact byOm))
        rintro _ h3 ⟨rfl, hi3⟩ q3
        have hnx3 := q3.next
        (focus ((try with_reducible apply wpC.to); (repeat' ((conv => whnf); first | refine byEv ?_ | ((apply Fork.mk) <;> (intro _; try (exfalso; omega; done))) | fail)); all_goals (conv => whnf); all_goals (try with_reducible apply At.mk)))
        exact hK' (0 + 1) _ _ ⟨rfl, rfl, rfl, rfl, rfl, rfl, rfl, int_of rfl (by omega), trivial⟩ ⟨hst _ h3 _ hi3 (by (exact byQuiet)), by (exact byQuiet), by omega⟩ (by omega)
      · (focus ((try with_reducible apply wpC.to); (repeat' ((conv => whnf); first | refine byEv ?_ | ((apply Fork.mk) <;> (intro _; try (exfalso; omega; done))) | fail)); all_goals (conv => whnf); all_goals (try with_reducible apply At.mk)))
        apply q_calla
        focus exact acall_mono (hy 3 _ (by omega) (hst _ h2 _ hi2 (by (exact byQuiet))) (by (exact byOm))) (by (exact byOm))
        rintro _ h3 ⟨rfl, hi3⟩ q3
        have hnx3 := q3.next
        (focus ((try with_reducible apply wpC.to); (repeat' ((conv => whnf); first | refine byEv ?_ | ((apply Fork.mk) <;> (intro _; try (exfalso; omega; done))) | fail)); all_goals (conv => whnf); all_goals (try with_reducible apply At.mk)))
        exact hK' (1 + 1) _ _ ⟨rfl, rfl, rfl, rfl, rfl, rfl, rfl, int_of rfl (by omega), trivial⟩ ⟨hst _ h3 _ hi3 (by (exact byQuiet)), by (exact byQuiet), by omega⟩ (by omega)
    · obtain rfl : t = 2 := by omega
      (focus ((try with_reducible apply wpC.to); (repeat' ((conv => whnf); first | refine byEv ?_ | ((apply Fork.mk) <;> (intro _; try (exfalso; omega; done))) | fail)); all_goals (conv => whnf); all_goals (try with_reducible apply At.mk)))
      refine hK (s + 1) _ _ ⟨rfl, rfl, rfl, rfl, rfl, int_of rfl (by omega), trivial⟩ ⟨?_, by (exact byQuiet), by omega⟩ (by omega)
      rw [show 2 * (s + 1) = 2 * s + 2 by omega]
      exact hst _ h2 _ hi2 (by (exact byQuiet))
  · obtain rfl : s = 2 := by omega
    (focus ((try with_reducible apply wpC.to); (repeat' ((conv => whnf); first | refine byEv ?_ | ((apply Fork.mk) <;> (intro _; try (exfalso; omega; done))) | fail)); all_goals (conv => whnf); all_goals (try with_reducible apply At.mk)))
    (refine byFin ?_)
    exact hst _ h1 _ hi (by (exact byQuiet))

end AE.Try

/- Walks of chart: the sum of the weights; values. -/
namespace AE.Try
open Go AE Go.Proofs
set_option maxRecDepth 100000
set_option linter.unusedVariables false

/-- The sum of the first ones. -/
def ps (c : Nat → Int) : Nat → Int
  | 0 => 0
  | j + 1 => ps c j + c j
def Tbl.w (T : Tbl) (p : Pt) (j : Nat) : Int := T.x p (j / 2) * T.y p (j % 2)
def Tbl.whole (T : Tbl) (p : Pt) : Int := ps (T.w p) 4
theorem Around.w {T : Tbl} {p : Pt} (k : Around T p) (j : Nat) : 0 ≤ T.w p j ∧ T.w p j ≤ 4000000 := k.wt (j / 2) (j % 2)
theorem Tbl.whole_eq (T : Tbl) (p : Pt) : T.whole p = (T.x p 0 + T.x p 1) * (T.y p 0 + T.y p 1) := by
  have : T.whole p = 0 + T.x p 0 * T.y p 0 + T.x p 0 * T.y p 1 + T.x p 1 * T.y p 0 + T.x p 1 * T.y p 1 := rfl
  rw [this, Int.add_mul, Int.mul_add, Int.mul_add]
  omega
theorem Around.whole {T : Tbl} {p : Pt} (k : Around T p) : 0 < T.whole p ∧ T.whole p ≤ 4000000 := by
  rw [T.whole_eq]
  obtain ⟨x1, x2⟩ := k.xs
  obtain ⟨y1, y2⟩ := k.ys
  refine ⟨Int.mul_pos x1 y1, ?_⟩
  exact Int.le_trans (Int.mul_le_mul_of_nonneg_right x2 (by omega)) (by omega)

theorem Around.ps {T : Tbl} {p : Pt} (k : Around T p) : ∀ j, 0 ≤ ps (T.w p) j ∧ ps (T.w p) j ≤ 4000000 * j
  | 0 => ⟨Int.le_refl _, Int.le_refl _⟩
  | j + 1 => by
    obtain ⟨a, b⟩ := k.ps j
    obtain ⟨c, d⟩ := k.w j
    simp only [AE.Try.ps]
    omega
theorem bump_get (h : H) (k r : Nat) : (h.bump k).get r = h.get r := rfl

theorem kChartH0 {G : Prop} (g : G := by ((apply corners_w; rotate_left; (focus (apply Tbl.Ok.same; (focus assumption); (focus exact bySame); (focus exact Nat.le_refl _))); (focus assumption); (focus assumption); (focus exact byOm)))) : G := g

theorem CRows.frame {T : Tbl} {p : Pt} {r1 r2 r3 r4 : Nat} {h h' : H} (k : CRows T p r1 r2 r3 r4 h) (e1 : h'.get r1 = h.get r1) (e2 : h'.get r2 = h.get r2) (e3 : h'.get r3 = h.get r3) (e4 : h'.get r4 = h.get r4) : CRows T p r1 r2 r3 r4 h' :=
  ⟨by rw [e1]; exact k.g1, by rw [e2]; exact k.g2, by rw [e3]; exact k.g3, by rw [e4]; exact k.g4⟩
/-- The rows of a corners' function lie from b on, below N. -/
structure CIn (b N r1 r2 r3 r4 : Nat) : Prop where
  b1 : b ≤ r1 ∧ r1 < N
  b2 : b ≤ r2 ∧ r2 < N
  b3 : b ≤ r3 ∧ r3 < N
  b4 : b ≤ r4 ∧ r4 < N
theorem CRows.same {T : Tbl} {p : Pt} {b N r1 r2 r3 r4 : Nat} {h h' : H} (k : CRows T p r1 r2 r3 r4 h) (c : CIn b N r1 r2 r3 r4) (s : ∀ r, b ≤ r → r < N → h'.get r = h.get r) : CRows T p r1 r2 r3 r4 h' :=
  k.frame (s _ c.b1.1 c.b1.2) (s _ c.b2.1 c.b2.2) (s _ c.b3.1 c.b3.2) (s _ c.b4.1 c.b4.2)
theorem corners_c {h : H} {T : Tbl} {m : Nat} {p : Pt} (hm : m ≤ h.next) (hT : T.Ok m h) (g : T.Good) (o : T.On p) : AW Try.prog 89 h.next h [.agg ⟨T.cells⟩, .agg ⟨p.cells⟩] (fun v h' => ∃ r1 r2 r3 r4, v = cornV r1 r2 r3 r4 ∧ CRows T p r1 r2 r3 r4 h' ∧ CIn h.next h'.next r1 r2 r3 r4) := by
  obtain ⟨v, h', ⟨r1, r2, r3, r4, e, c, b1, b2, b3, b4⟩, k⟩ := corners_w hm hT g o
  exact ⟨v, h', ⟨r1, r2, r3, r4, e, c, b1, b2, b3, b4⟩, k⟩

set_option maxHeartbeats 1000000 in
theorem whole_w {h : H} {T : Tbl} {m : Nat} {p : Pt} (hm : m ≤ h.next) (hT : T.Ok m h) (g : T.Good) (o : T.On p) : AW Try.prog 91 h.next h [.agg ⟨T.cells⟩, .agg ⟨p.cells⟩] (fun v _ => v = .int .i64 (T.whole p)) := by
  have ar := g.around o
  refine fun91.call rfl (Nat.le_refl _) ?_
  unfold a91 Tbl.cells Pt.cells
  (focus ((try with_reducible apply wpC.to); (repeat' ((conv => whnf); first | refine byEv ?_ | ((apply q_call); (focus exact byNext); (focus exact byLo); (focus (exact kChartH0)); first | ((apply q_allB) <;> (intro z_b _ _ _; first | exact Bool.noConfusion z_b | replace z_b := of_decide_eq_true z_b | replace z_b := of_decide_eq_false z_b | skip) <;> (first | contradiction | (revert z_b; intros))) | ((apply q_alli) <;> (intro _ _ _ _; try contradiction)) | ((apply q_allv); intro _ _ _)) | fail)); all_goals (conv => whnf); all_goals (try with_reducible apply At.mk)))
  apply q_call
  focus (exact byNext)
  focus (exact byLo)
  focus
    apply AW.arg12
    focus exact corners_c (T := T) (p := p) (m := m) (by (exact byOm)) (hT.same (by (exact bySame)) (Nat.le_refl _)) g o
    focus exact Is.rfl
    focus exact Is.rfl
  rintro _ h2 ⟨r1, r2, r3, r4, rfl, cr, ci⟩ q2 n2
  simp only [put_next, bump_next] at ci
  have b1 := ci.b1
  have b2 := ci.b2
  have b3 := ci.b3
  have b4 := ci.b4
  (focus ((try with_reducible apply wpC.to); (repeat' ((conv => whnf); first | refine byEv ?_ | ((apply q_call); (focus exact byNext); (focus exact byLo); (focus (exact kChartH0)); first | ((apply q_allB) <;> (intro z_b _ _ _; first | exact Bool.noConfusion z_b | replace z_b := of_decide_eq_true z_b | replace z_b := of_decide_eq_false z_b | skip) <;> (first | contradiction | (revert z_b; intros))) | ((apply q_alli) <;> (intro _ _ _ _; try contradiction)) | ((apply q_allv); intro _ _ _)) | fail)); all_goals (conv => whnf); all_goals (try with_reducible apply At.mk)))
  have gn : h2.get (h.next + 3) = some (.cells [.int .i64 0] 2) := by (exact byGet)
  refine wp_forget (l := [(4, .int .i64 0), (5, .pointer (some ⟨h.next + 3, 0, none⟩)), (10, cornV r1 r2 r3 r4)]) ⟨rfl, rfl, rfl, trivial⟩ fun g' => ?_
  apply wp_range
  focus exact rfl
  focus (exact byNext)
  focus (exact byList)
  intro L0 hL0
  refine ⟨_, corn_w (T := T) (p := p) (r1 := r1) (r2 := r2) (r3 := r3) (r4 := r4) ar (by (exact byOm)) g.n6 (fun j h3 => CRows T p r1 r2 r3 r4 h3 ∧ h3.get (h.next + 3) = some (.cells [.int .i64 (ps (T.w p) j)] 2) ∧ h3.get h2.next = some (.loop L0) ∧ h2.next < h3.next) (fun j h3 k => k.1) ?_ ?_ ⟨?_, ?_, ?_, ?_⟩ ⟨?_, ?_, ?_, ?_⟩, ?_⟩
  · rintro i h3 h4 ⟨k1, k2, k3, k4⟩ qq
    have := qq.next
    exact ⟨k1.same ci fun r h1 h2 => qq.same r (by omega), by (exact byGet), by (exact byGet), by omega⟩
  · rintro j h3 hj ⟨k1, k2, k3, k4⟩ hle
    have hw := ar.w j
    have hs := ar.ps j
    refine YA.call fun91.mixed (A := a91A0) (B := a91B0) (L := L0) (by rw [hL0]; exact c91A0) (by rw [hL0]; exact c91B0) k3 (by omega) (by omega) (by rw [hL0]; exact rfl) (by rw [hL0]; exact rfl) ?_
    unfold YA a91A0
    refine wp_forget (l := [(5, .pointer (some ⟨h.next + 3, 0, none⟩)), (12, .int .i64 (T.w p j))]) ⟨by rw [hL0]; exact rfl, by rw [hL0]; exact rfl, trivial⟩ fun g'' => ?_
    (focus ((try with_reducible apply wpC.to); (repeat' ((conv => whnf); first | refine byEv ?_ | ((apply q_call); (focus exact byNext); (focus exact byLo); (focus (exact kChartH0)); first | ((apply q_allB) <;> (intro z_b _ _ _; first | exact Bool.noConfusion z_b | replace z_b := of_decide_eq_true z_b | replace z_b := of_decide_eq_false z_b | skip) <;> (first | contradiction | (revert z_b; intros))) | ((apply q_alli) <;> (intro _ _ _ _; try contradiction)) | ((apply q_allv); intro _ _ _)) | fail)); all_goals (conv => whnf); all_goals (try with_reducible apply At.mk)))
    refine ⟨rfl, L0, by (exact byGet), by rw [hL0]; exact rfl, ?_⟩
    unfold a91B0
    have hL1 : ended (busy L0) .none = L0 := by rw [hL0]; exact rfl
    (focus ((try with_reducible apply wpC.to); (repeat' ((conv => whnf); first | refine byEv ?_ | ((apply q_call); (focus exact byNext); (focus exact byLo); (focus (exact kChartH0)); first | ((apply q_allB) <;> (intro z_b _ _ _; first | exact Bool.noConfusion z_b | replace z_b := of_decide_eq_true z_b | replace z_b := of_decide_eq_false z_b | skip) <;> (first | contradiction | (revert z_b; intros))) | ((apply q_alli) <;> (intro _ _ _ _; try contradiction)) | ((apply q_allv); intro _ _ _)) | fail)); all_goals (conv => whnf); all_goals (try with_reducible apply At.mk)))
    refine ⟨.none, _, rfl, by (exact byGet), rfl, ?_, ?_, ?_, ?_⟩
    · exact k1.same ci fun r h1 h2 => by
        have hr1 : r ≠ h.next + 3 := by omega
        have hr2 : r ≠ _ := Nat.ne_of_lt h2
        simp only [H.put, bump_get, if_neg hr1, if_neg hr2]
    · (exact byGet)
    · rw [hL1]; (exact byGet)
    · (exact byOm)
  · exact cr.same ci fun r h1 h2 => by
      have hr2 : r ≠ _ := Nat.ne_of_lt h2
      simp only [H.put, bump_get, if_neg hr2]
  · (exact byGet)
  · (exact byGet)
  · (exact byOm)
  · (exact byOm)
  · (exact byOm)
  · (exact byOm)
  · (exact byOm)
  · rintro v h3 ⟨k1, k2, k3, k4⟩ qq
    refine ⟨_, k3, by rw [hL0]; simp [loop0], ?_⟩
    rw [hL0]
    simp only [loop0, pendE]
    (focus ((try with_reducible apply wpC.to); (repeat' ((conv => whnf); first | refine byEv ?_ | ((apply q_call); (focus exact byNext); (focus exact byLo); (focus (exact kChartH0)); first | ((apply q_allB) <;> (intro z_b _ _ _; first | exact Bool.noConfusion z_b | replace z_b := of_decide_eq_true z_b | replace z_b := of_decide_eq_false z_b | skip) <;> (first | contradiction | (revert z_b; intros))) | ((apply q_alli) <;> (intro _ _ _ _; try contradiction)) | ((apply q_allv); intro _ _ _)) | fail)); all_goals (conv => whnf); all_goals (try with_reducible apply At.mk)))
    (refine byFin ?_)
    rfl
end AE.Try
