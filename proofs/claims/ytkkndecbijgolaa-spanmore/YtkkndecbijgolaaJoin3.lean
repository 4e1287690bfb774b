/- Walks and plain laws: SpanZb, SpanZc. -/
import Derived.Test.YtkkndecbijgolaaJoin2
import Derived.Test.YtkkndecbijgolaaSpanZa
set_option linter.unusedVariables false
set_option linter.unusedSimpArgs false
set_option linter.unusedSectionVars false

/- Plain laws of span: fractions compared by whole parts, what is left turned over. -/
namespace AE.Try
open Go AE Go.Proofs AE.Sp
set_option maxRecDepth 100000
set_option linter.unusedVariables false

theorem emod_in {x b : Int} (hb : 0 < b) : 0 ≤ x % b ∧ x % b < b := ⟨Int.emod_nonneg _ (by omega), Int.emod_lt_of_pos _ hb⟩
theorem tdiv_floor {n d : Int} (hd : 0 < d) : (if n.tmod d < 0 then n.tdiv d - 1 else n.tdiv d) = n / d := by
  have h1 := Int.emod_nonneg n (show d ≠ 0 by omega)
  have h2 := Int.emod_lt_of_pos n hd
  have e1 := Int.mul_ediv_add_emod n d
  have e2 := Int.mul_tdiv_add_tmod n d
  rcases Int.le_total 0 n with hn | hn
  · have : n.tmod d = n % d := Int.tmod_eq_emod_of_nonneg hn
    rw [this, if_neg (by omega), Int.tdiv_eq_ediv_of_nonneg hn]
  · have ht : n.tmod d ≤ 0 := by
      have h0 := Int.tmod_nonneg d (show 0 ≤ -n by omega)
      rw [Int.neg_tmod] at h0
      omega
    have ht2 : -d < n.tmod d := by
      have := Int.lt_tmod_of_pos n hd
      omega
    split
    · rename_i hlt
      -- d * (t - 1) + (m + d) = n
      have : n / d = n.tdiv d - 1 := by
        refine (Int.ediv_emod_unique (r := n.tmod d + d) hd).2 ⟨?_, by omega, by omega⟩ |>.1
        rw [Int.mul_sub]
        omega
      omega
    · rename_i hge
      have h0 : n.tmod d = 0 := by omega
      have : n / d = n.tdiv d := by
        refine (Int.ediv_emod_unique (r := 0) hd).2 ⟨by omega, by omega, by omega⟩ |>.1
      omega
theorem floor_le {a b c d : Int} (hb : 0 < b) (hd : 0 < d) (h : a * d ≤ c * b) : a / b ≤ c / d := by
  have e1 := Int.mul_ediv_add_emod a b
  have e2 := Int.mul_ediv_add_emod c d
  have u0 := emod_in (x := a) hb
  have v0 := emod_in (x := c) hd
  generalize a / b = p at *
  generalize c / d = q at *
  refine Classical.byContradiction fun hc => ?_
  have hpq : q + 1 ≤ p := by omega
  have h1 : b * (q + 1) ≤ b * p := Int.mul_le_mul_of_nonneg_left hpq (by omega)
  have h2 : (b * (q + 1)) * d ≤ a * d := Int.mul_le_mul_of_nonneg_right (by omega) (by omega)
  have h3 : c * b < (d * (q + 1)) * b := Int.mul_lt_mul_of_pos_right (by rw [Int.mul_add]; omega) hb
  have e3 : b * (q + 1) * d = d * (q + 1) * b := by ac_rfl
  omega
/-- A fraction that can be compared. -/
structure LB (x : Fr) : Prop where
  d : 1 ≤ x.d ∧ x.d ≤ 2305843009213693952
  n : -4611686018427387904 ≤ x.n ∧ x.n ≤ 4611686018427387904
def flt (x y : Fr) : Prop := x.n * y.d < y.n * x.d
instance (x y : Fr) : Decidable (flt x y) := inferInstanceAs (Decidable (_ < _))
theorem flt_ne {x y : Fr} (kx : LB x) (ky : LB y) (h : x.n / x.d ≠ y.n / y.d) : flt x y ↔ x.n / x.d < y.n / y.d := by
  have dx := kx.d
  have dy := ky.d
  constructor
  · intro k
    have k : x.n * y.d < y.n * x.d := k
    have := floor_le (a := x.n) (b := x.d) (c := y.n) (d := y.d) (by omega) (by omega) (by omega)
    omega
  · intro k
    refine Int.not_le.1 fun hc => ?_
    have := floor_le (a := y.n) (b := y.d) (c := x.n) (d := x.d) (by omega) (by omega) hc
    omega
theorem flt_eq {x y : Fr} (h : x.n / x.d = y.n / y.d) : flt x y ↔ x.n % x.d * y.d < y.n % y.d * x.d := by
  have e1 := Int.mul_ediv_add_emod x.n x.d
  have e2 := Int.mul_ediv_add_emod y.n y.d
  unfold flt
  rw [h] at e1
  generalize y.n / y.d = q at *
  have f1 : x.n * y.d = x.d * q * y.d + x.n % x.d * y.d := by rw [← Int.add_mul, e1]
  have f2 : y.n * x.d = y.d * q * x.d + y.n % y.d * x.d := by rw [← Int.add_mul, e2]
  have f3 : x.d * q * y.d = y.d * q * x.d := by ac_rfl
  omega
/-- What is left, turned over. -/
def Fr.turn (x : Fr) : Fr := ⟨x.d, x.n % x.d⟩
theorem LB.turn {x : Fr} (k : LB x) (h : x.n % x.d ≠ 0) : LB x.turn := by
  have u := emod_in (x := x.n) (b := x.d) (by have := k.d; omega)
  have d := k.d
  exact ⟨by unfold Fr.turn; dsimp only; omega, by unfold Fr.turn; dsimp only; omega⟩
theorem flt_turn {x y : Fr} (h : x.n / x.d = y.n / y.d) : flt x y ↔ flt y.turn x.turn := by
  rw [flt_eq h]
  unfold flt Fr.turn
  dsimp only
  rw [Int.mul_comm y.d, Int.mul_comm x.d]
theorem flt_stop {x y : Fr} (kx : LB x) (ky : LB y) (h : x.n / x.d = y.n / y.d) (h0 : x.n % x.d = 0 ∨ y.n % y.d = 0) : flt x y ↔ x.n % x.d ≠ y.n % y.d ∧ x.n % x.d = 0 := by
  have u := emod_in (x := x.n) (b := x.d) (by have := kx.d; omega)
  have v := emod_in (x := y.n) (b := y.d) (by have := ky.d; omega)
  have dx := kx.d
  have dy := ky.d
  rw [flt_eq h]
  generalize x.n % x.d = a at *
  generalize y.n % y.d = b at *
  rcases h0 with rfl | rfl
  · rw [Int.zero_mul]
    constructor
    · intro k
      exact ⟨fun e => by rw [← e, Int.zero_mul] at k; omega, rfl⟩
    · rintro ⟨k, -⟩
      exact Int.mul_pos (by omega) (by omega)
  · rw [Int.zero_mul]
    constructor
    · intro k
      have := Int.mul_nonneg u.1 (show 0 ≤ y.d by omega)
      omega
    · rintro ⟨k1, k2⟩
      exact absurd k2 k1
theorem flt_fr {n d n' d' : Int} (hd : 0 < d) (hd' : 0 < d') : flt (fr n d) (fr n' d') ↔ n * d' < n' * d := (fr_of hd).lt_iff (fr_of hd')
theorem fr_LB {n d : Int} (hd : 1 ≤ d ∧ d ≤ 2305843009213693952) (hn : -4611686018427387904 ≤ n ∧ n ≤ 4611686018427387904) : LB (fr n d) := by
  have k := fr_of (n := n) (d := d) (by omega)
  have b := k.bnd (X := 4611686018427387904) (by omega) (by omega)
  have l := k.le_d
  have p := k.d0
  exact ⟨by omega, b⟩
end AE.Try

/- Walks of span's definitions: fractions compared; the least value. -/
namespace AE.Try
open Go AE Go.Proofs AE.Sp
set_option maxRecDepth 100000
set_option linter.unusedVariables false

theorem down_r {h : H} {x : Fr} (k : LB x) : AW Try.prog 62 h.next h [.agg ⟨x.cells⟩] (fun v _ => v = .int .i64 (x.n / x.d)) := by
  have hd := k.d
  have hn := k.n
  have e := tdiv_floor (n := x.n) (d := x.d) (by omega)
  have r := tdiv_in (a := x.n) (b := x.d) (by omega) (by omega)
  have b : -4611686018427387904 ≤ x.n.tdiv x.d := by
    have h1 := Int.natAbs_tdiv_le_natAbs x.n x.d
    omega
  refine fun62.call rfl (Nat.le_refl _) ?_
  unfold a62 Fr.cells
  (focus ((try with_reducible apply wpC.to); (repeat' ((conv => whnf); first | refine byEv ?_ | (apply Fork.mk <;> (intro _; try (exfalso; omega))) | fail)); all_goals ((conv => whnf); try with_reducible apply At.mk)))
  refine DivQ.td ⟨by omega, by omega, by omega⟩ ?_
  (focus ((try with_reducible apply wpC.to); (repeat' ((conv => whnf); first | refine byEv ?_ | (apply Fork.mk <;> (intro _; try (exfalso; omega))) | fail)); all_goals ((conv => whnf); try with_reducible apply At.mk)))
  refine ModQ.tm (by omega) ?_
  (focus ((try with_reducible apply wpC.to); (repeat' ((conv => whnf); first | refine byEv ?_ | (apply Fork.mk <;> (intro _; try (exfalso; omega))) | fail)); all_goals ((conv => whnf); try with_reducible apply At.mk)))
  · rename_i hlt
    rw [if_pos hlt] at e
    (focus ((try with_reducible apply wpC.to); (repeat' ((conv => whnf); first | refine byEv ?_ | (apply Fork.mk <;> (intro _; try (exfalso; omega))) | fail)); all_goals ((conv => whnf); try with_reducible apply At.mk)))
    (refine byFin ?_)
    rw [← e]
  · rename_i hge
    rw [if_neg (by omega)] at e
    (focus ((try with_reducible apply wpC.to); (repeat' ((conv => whnf); first | refine byEv ?_ | (apply Fork.mk <;> (intro _; try (exfalso; omega))) | fail)); all_goals ((conv => whnf); try with_reducible apply At.mk)))
    (refine byFin ?_)
    rw [e]

set_option maxHeartbeats 8000000 in
theorem less_r {h : H} {x y : Fr} (kx : LB x) (ky : LB y) : AW Try.prog 28 h.next h [.agg ⟨x.cells⟩, .agg ⟨y.cells⟩] (fun v _ => v = .bool (decide (flt x y))) := by
  have dx := kx.d
  have dy := ky.d
  refine fun28.call rfl (Nat.le_refl _) ?_
  unfold a28 Fr.cells
  (focus ((try with_reducible apply wpC.to); (repeat' ((conv => whnf); first | refine byEv ?_ | (apply Fork.mk <;> (intro _; try (exfalso; omega))) | fail)); all_goals ((conv => whnf); try with_reducible apply At.mk)))
  refine wp_loop (fun s : Fr × Fr × Bool => [(2, .pointer (some ⟨h.next, 0, none⟩)), (3, .pointer (some ⟨h.next + 1, 0, none⟩)), (5, .bool s.2.2)])
    (fun s g => Quiet h.next h g ∧ g.get h.next = some (.cells s.1.cells 38) ∧ g.get (h.next + 1) = some (.cells s.2.1.cells 38) ∧ h.next + 2 ≤ g.next ∧ LB s.1 ∧ LB s.2.1 ∧ (flt x y ↔ if s.2.2 = Bool.true then flt s.2.1 s.1 else flt s.1 s.2.1)) (fun s => s.1.d.toNat) (x, y, Bool.false) ⟨rfl, rfl, rfl, trivial⟩ ⟨byQuiet, byGet, byGet, byOm, kx, ky, by simp⟩ ?_
  rintro ⟨a, b, tn⟩ g' h1 ⟨q1, g1, g2, n1, ka, kb, ki⟩ K hK
  dsimp only at g1 g2 ka kb ki ⊢
  unfold Fr.cells at g1 g2
  have da := ka.d
  have db := kb.d
  have na := ka.n
  have nb := kb.n
  have u0 := emod_in (x := a.n) (b := a.d) (by omega)
  have v0 := emod_in (x := b.n) (b := b.d) (by omega)
  have e1 := Int.mul_ediv_add_emod a.n a.d
  have e2 := Int.mul_ediv_add_emod b.n b.d
  rw [Int.mul_comm] at e1 e2
  have w1 : a.n % a.d = a.n - a.n / a.d * a.d := by omega
  have w2 : b.n % b.d = b.n - b.n / b.d * b.d := by omega
  (focus ((try with_reducible apply wpC.to); (repeat' ((conv => whnf); first | refine byEv ?_ | (apply Fork.mk <;> (intro _; try (exfalso; omega))) | fail)); all_goals ((conv => whnf); try with_reducible apply At.mk)))
  apply q_callv
  focus (exact byNext)
  focus (exact byLo)
  focus exact down_r ka
  intro h2 q2 n2
  (focus ((try with_reducible apply wpC.to); (repeat' ((conv => whnf); first | refine byEv ?_ | (apply Fork.mk <;> (intro _; try (exfalso; omega))) | fail)); all_goals ((conv => whnf); try with_reducible apply At.mk)))
  apply q_callv
  focus (exact byNext)
  focus (exact byLo)
  focus exact down_r kb
  intro h3 q3 n3
  by_cases hf : a.n / a.d = b.n / b.d
  · by_cases hz : a.n % a.d = 0 ∨ b.n % b.d = 0
    · have st := flt_stop ka kb hf hz
      have st' := flt_stop kb ka hf.symm hz.symm
      cases tn
      · simp only [Bool.false_eq_true, if_false] at ki
        (focus ((try with_reducible apply wpC.to); (repeat' ((conv => whnf); first | refine byEv ?_ | (apply Fork.mk <;> (intro _; try (exfalso; omega))) | fail)); all_goals ((conv => whnf); try with_reducible apply At.mk)))
        all_goals first
          | (exfalso; omega)
          | ((refine byFin ?_); first | exact bool_t rfl (ki.2 (st.2 (by omega))) | exact bool_f rfl (fun k => by have := st.1 (ki.1 k); omega))
      · simp only [if_true] at ki
        (focus ((try with_reducible apply wpC.to); (repeat' ((conv => whnf); first | refine byEv ?_ | (apply Fork.mk <;> (intro _; try (exfalso; omega))) | fail)); all_goals ((conv => whnf); try with_reducible apply At.mk)))
        all_goals first
          | (exfalso; omega)
          | ((refine byFin ?_); first | exact bool_t rfl (ki.2 (st'.2 (by omega))) | exact bool_f rfl (fun k => by have := st'.1 (ki.1 k); omega))
    · have t1 := flt_turn hf
      have t2 := flt_turn hf.symm
      have hu : a.n % a.d ≠ 0 := fun e => hz (.inl e)
      have hv : b.n % b.d ≠ 0 := fun e => hz (.inr e)
      cases tn
      · simp only [Bool.false_eq_true, if_false] at ki
        (focus ((try with_reducible apply wpC.to); (repeat' ((conv => whnf); first | refine byEv ?_ | (apply Fork.mk <;> (intro _; try (exfalso; omega))) | fail)); all_goals ((conv => whnf); try with_reducible apply At.mk)))
        all_goals first
          | (exfalso; omega)
          | (refine hK (a.turn, b.turn, Bool.true) _ _ ⟨rfl, rfl, rfl, trivial⟩ ⟨byQuiet, by dsimp only [Fr.cells, Fr.turn]; rw [w1]; (exact byGet), by dsimp only [Fr.cells, Fr.turn]; rw [w2]; (exact byGet), byOm, ka.turn hu, kb.turn hv, by simp only [if_true]; exact ki.trans t1⟩ (by dsimp only [Fr.turn]; omega))
      · simp only [if_true] at ki
        (focus ((try with_reducible apply wpC.to); (repeat' ((conv => whnf); first | refine byEv ?_ | (apply Fork.mk <;> (intro _; try (exfalso; omega))) | fail)); all_goals ((conv => whnf); try with_reducible apply At.mk)))
        all_goals first
          | (exfalso; omega)
          | (refine hK (a.turn, b.turn, Bool.false) _ _ ⟨rfl, rfl, rfl, trivial⟩ ⟨byQuiet, by dsimp only [Fr.cells, Fr.turn]; rw [w1]; (exact byGet), by dsimp only [Fr.cells, Fr.turn]; rw [w2]; (exact byGet), byOm, ka.turn hu, kb.turn hv, by simp only [Bool.false_eq_true, if_false]; exact ki.trans t2⟩ (by dsimp only [Fr.turn]; omega))
  · have ne := flt_ne ka kb hf
    have ne' := flt_ne kb ka (fun e => hf e.symm)
    cases tn
    · simp only [Bool.false_eq_true, if_false] at ki
      (focus ((try with_reducible apply wpC.to); (repeat' ((conv => whnf); first | refine byEv ?_ | (apply Fork.mk <;> (intro _; try (exfalso; omega))) | fail)); all_goals ((conv => whnf); try with_reducible apply At.mk)))
      all_goals first
        | (exfalso; omega)
        | ((refine byFin ?_); first | exact bool_t rfl (ki.2 (ne.2 (by omega))) | exact bool_f rfl (fun k => by have := ne.1 (ki.1 k); omega))
    · simp only [if_true] at ki
      (focus ((try with_reducible apply wpC.to); (repeat' ((conv => whnf); first | refine byEv ?_ | (apply Fork.mk <;> (intro _; try (exfalso; omega))) | fail)); all_goals ((conv => whnf); try with_reducible apply At.mk)))
      all_goals first
        | (exfalso; omega)
        | ((refine byFin ?_); first | exact bool_t rfl (ki.2 (ne'.2 (by omega))) | exact bool_f rfl (fun k => by have := ne'.1 (ki.1 k); omega))
end AE.Try
