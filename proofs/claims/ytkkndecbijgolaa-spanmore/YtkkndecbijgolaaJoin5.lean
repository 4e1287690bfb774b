/- Walks and plain laws: SpanC, SpanD. -/
import Derived.Test.YtkkndecbijgolaaSpanB
set_option linter.unusedVariables false
set_option linter.unusedSimpArgs false
set_option linter.unusedSectionVars false

/- Walks of span: does a truth fit. -/
namespace AE.Try
open Go AE Go.Proofs AE.Sp
set_option maxRecDepth 100000
set_option linter.unusedVariables false

theorem mul_bnd {a b A B : Int} (h1 : -A ≤ a) (h2 : a ≤ A) (h3 : -B ≤ b) (h4 : b ≤ B) : -(A * B) ≤ a * b ∧ a * b ≤ A * B := by
  have hA : 0 ≤ A := by omega
  have hB : 0 ≤ B := by omega
  have m := Int.mul_le_mul (show (a.natAbs : Int) ≤ A by omega) (show (b.natAbs : Int) ≤ B by omega) (by omega) hA
  rw [← Int.natCast_mul, ← Int.natAbs_mul] at m
  omega

def _root_.AE.Sp.Tru.cells (t : Tru) : List Value := [.int .i64 t.a, .int .i64 t.b, .int .i64 t.d]
/-- A truth that is valid. -/
structure _root_.AE.Sp.Tru.Val (t : Tru) : Prop where
  d : 1 ≤ t.d ∧ t.d ≤ 1099511627776
  a : -1099511627776 ≤ t.a ∧ t.a ≤ 1099511627776
  b : -1099511627776 ≤ t.b ∧ t.b ≤ 1099511627776
/-- Truths whose numbers are not too great. -/
structure _root_.AE.Sp.Tru.Bd (t : Tru) : Prop where
  d : -1099511627776 ≤ t.d ∧ t.d ≤ 1099511627776
  a : -1099511627776 ≤ t.a ∧ t.a ≤ 1099511627776
  b : -1099511627776 ≤ t.b ∧ t.b ≤ 1099511627776
theorem _root_.AE.Sp.Tru.Val.bd {t : Tru} (k : t.Val) : t.Bd := ⟨by have := k.d; omega, k.a, k.b⟩
def Run.Fit (x : Run) (t : Tru) : Prop := x.lo * t.d ≤ x.p * t.a + x.q * t.b ∧ x.p * t.a + x.q * t.b ≤ x.hi * t.d
noncomputable instance (t : Tru) : Decidable t.Val := Classical.propDecidable _
instance (x : Run) (t : Tru) : Decidable (x.Fit t) := inferInstanceAs (Decidable (_ ∧ _))
def Runs.Fits (L : Runs) (t : Tru) : Prop := ∀ i, i < L.n → (L.f i).Fit t
noncomputable instance (L : Runs) (t : Tru) : Decidable (L.Fits t) := Classical.propDecidable _
open Classical in
noncomputable def Runs.fitErr (L : Runs) (t : Tru) : Int := if L.err ≠ 0 then L.err else if ¬ t.Val then 2 else if L.Fits t then 0 else 20
/-- The products of a run and a truth. -/
structure Prods (x : Run) (t : Tru) : Prop where
  pa : -(20 * 1099511627776) ≤ x.p * t.a ∧ x.p * t.a ≤ 20 * 1099511627776
  qb : -(20 * 1099511627776) ≤ x.q * t.b ∧ x.q * t.b ≤ 20 * 1099511627776
  ld : -(100000 * 1099511627776) ≤ x.lo * t.d ∧ x.lo * t.d ≤ 100000 * 1099511627776
  hd : -(100000 * 1099511627776) ≤ x.hi * t.d ∧ x.hi * t.d ≤ 100000 * 1099511627776
theorem prods {x : Run} {t : Tru} (k : x.Ok) (b : t.Bd) : Prods x t := by
  obtain ⟨k1, k2, k3, k4, k5, k6⟩ := k
  obtain ⟨b1, b2, b3⟩ := b
  exact ⟨mul_bnd k1.1 k1.2 b2.1 b2.2, mul_bnd k2.1 k2.2 b3.1 b3.2, mul_bnd (by omega) (by omega) b1.1 b1.2, mul_bnd (by omega) (by omega) b1.1 b1.2⟩

set_option maxHeartbeats 1000000 in
theorem fits_w {h : H} {L : Runs} {m : Nat} {t : Tru} (hm : m ≤ h.next) (hL : L.Ok m h) : AW Try.prog 15 h.next h [.slice L.b L.n L.c, .agg ⟨t.cells⟩] (fun v _ => v = .int .i64 (L.fitErr t)) := by
  have hL0 := hL
  obtain ⟨e1, i1, r1, l1⟩ := hL
  refine fun15.call rfl (Nat.le_refl _) ?_
  unfold a15 Tru.cells
  have bad1 : L.err ≠ 0 → L.fitErr t = L.err := fun h => by unfold Runs.fitErr; rw [if_pos h]
  have bad2 : L.err = 0 → ¬ t.Val → L.fitErr t = 2 := fun h h' => by unfold Runs.fitErr; rw [if_neg (fun k => k h), if_pos h']
  (focus ((try with_reducible apply wpC.to); (repeat' ((conv => whnf); first | refine byEv ?_ | (apply Fork.mk <;> (intro _; try (exfalso; omega))) | ((first | refine kSpanB4 ?_ | refine kSpanB1 ?_ | refine kSpanB0 ?_); first | ((first | apply q_allD | apply q_alli | apply q_allB) <;> intro _ _ _ _ <;> try contradiction) | (apply q_allv; intro _ _ _)) | refine xSpanB1 ?_ | refine xSpanB0 ?_ | fail)); all_goals ((conv => whnf); try with_reducible apply At.mk)))
  · (refine byFin ?_)
    rw [bad1 (by assumption)]
  rotate_left
  · (refine byFin ?_)
    rw [bad2 (by assumption) fun k => by obtain ⟨a, b, c⟩ := k; omega]
  · (refine byFin ?_)
    rw [bad2 (by assumption) fun k => by obtain ⟨a, b, c⟩ := k; omega]
  have he : L.err = 0 := by assumption
  have hv : t.Val := ⟨by assumption, by omega, by omega⟩
  obtain ⟨ln, lv⟩ := L.err_0 he
  have bad3 : ¬ L.Fits t → L.fitErr t = 20 := fun h' => by unfold Runs.fitErr; rw [if_neg (fun k => k he), if_neg (fun k => k hv), if_neg h']
  refine wp_loop (fun s : Nat => [(3, .pointer (some ⟨h.next, 0, none⟩)), (27, .slice L.b L.n L.c), (28, .int .i64 L.n), (29, .int .i64 s)])
    (fun s h1 => h1.get h.next = some (.cells [.int .i64 t.a, .int .i64 t.b, .int .i64 t.d] 24) ∧ Same m h h1 ∧ h.next + 1 ≤ h1.next ∧ s ≤ L.n ∧ ∀ i, i < s → (L.f i).Fit t) (fun s => L.n - s) 0 ⟨rfl, rfl, rfl, rfl, trivial⟩ ⟨byGet, bySame, byOm, by omega, fun i hi => absurd hi (Nat.not_lt_zero i)⟩ ?_
  rintro s g h1 ⟨x1, sm, n1, hs, hp⟩ K hK
  have i5 := i1.same sm r1
  by_cases hsn : s < L.n
  · have x5 := r1 (by omega)
    obtain ⟨p1, p2, p3, p4⟩ := prods (lv s hsn) hv.bd
    unfold Run.cells at i5
    (focus ((try with_reducible apply wpC.to); (repeat' ((conv => whnf); first | refine byEv ?_ | (apply Fork.mk <;> (intro _; try (exfalso; omega))) | ((first | refine kSpanB4 ?_ | refine kSpanB1 ?_ | refine kSpanB0 ?_); first | ((first | apply q_allD | apply q_alli | apply q_allB) <;> intro _ _ _ _ <;> try contradiction) | (apply q_allv; intro _ _ _)) | refine xSpanB1 ?_ | refine xSpanB0 ?_ | fail)); all_goals ((conv => whnf); try with_reducible apply At.mk)))
    · refine hK (s + 1) _ _ ⟨rfl, rfl, rfl, int_of rfl (by omega), trivial⟩ ⟨byGet, bySame, byOm, by omega, fun i hi => ?_⟩ (by omega)
      by_cases e : i = s
      · subst e; assumption
      · exact hp i (by omega)
    · (refine byFin ?_)
      rw [bad3 (fun k => by have := k s hsn; contradiction)]
  · obtain rfl : s = L.n := by omega
    (focus ((try with_reducible apply wpC.to); (repeat' ((conv => whnf); first | refine byEv ?_ | (apply Fork.mk <;> (intro _; try (exfalso; omega))) | ((first | refine kSpanB4 ?_ | refine kSpanB1 ?_ | refine kSpanB0 ?_); first | ((first | apply q_allD | apply q_alli | apply q_allB) <;> intro _ _ _ _ <;> try contradiction) | (apply q_allv; intro _ _ _)) | refine xSpanB1 ?_ | refine xSpanB0 ?_ | fail)); all_goals ((conv => whnf); try with_reducible apply At.mk)))
    (refine byFin ?_)
    unfold Runs.fitErr; rw [if_neg (fun k => k he), if_neg (fun k => k hv), if_pos (show L.Fits t from hp)]
theorem kSpanC0 {G G' : Prop} (g : G') (t : G' → G := by ((apply q_call); (focus exact byNext); (focus exact byLo); (focus ((apply fits_w; rotate_left; (focus (apply Runs.Ok.same; (focus assumption); (focus exact bySame); (focus exact Nat.le_refl _))); (focus exact byOm)))))) : G := t g

/-! ### those of the definitions -/

theorem valid_r {h : H} {t : Tru} : AW Try.prog 43 h.next h [.agg ⟨t.cells⟩] (fun v _ => v = .bool (decide t.Val)) := by
  refine fun43.call rfl (Nat.le_refl _) ?_
  unfold a43 Tru.cells
  (focus ((try with_reducible apply wpC.to); (repeat' ((conv => whnf); first | refine byEv ?_ | (apply Fork.mk <;> (intro _; try (exfalso; omega))) | fail)); all_goals ((conv => whnf); try with_reducible apply At.mk)))
  all_goals (refine byFin ?_)
  all_goals first | exact bool_t rfl ⟨by omega, by omega, by omega⟩ | exact bool_f rfl (fun k => by obtain ⟨a, b, c⟩ := k; omega)
theorem kSpanC1 {G G' : Prop} (g : G') (t : G' → G := by ((apply q_call); (focus exact byNext); (focus exact byLo); (focus ((apply valid_r))))) : G := t g
theorem run_part2 {h : H} {L : Runs} {i o o' k : Nat} {l : List Value} (e : Els h L.a L.n 4 (fun i => (L.f i).cells)) (hi : i < L.n) (hc : cut (L.f i).cells (o + o') k = some l) : h.loadN (aadd (aadd (aadd L.a (i * 4)) o) o') k = some l := by
  have := load_part (e i hi) hc
  unfold H.loadN aadd at this ⊢
  simp only [Nat.add_assoc] at this ⊢
  exact this
theorem xSpanC0 {G G' : Prop} (g : G') (t : G' → G := by (((with_reducible apply Load1.mk); (focus ((repeat (first | (apply run_part2 <;> first | assumption | omega | exact rfl) | with_reducible apply bump_old | ((with_reducible apply put_old); focus (dsimp only [aadd]; omega)) | ((with_reducible apply quiet_old); (focus assumption); focus (dsimp only [aadd]; omega)) | ((with_reducible apply same_old); (focus assumption); focus (dsimp only [aadd]; omega)))); (first | done | fail))); (focus exact byVal)))) : G := t g
set_option maxHeartbeats 1000000 in
theorem fits_r {h : H} {L : Runs} {m : Nat} {t : Tru} (hm : m ≤ h.next) (hL : L.Ok m h) (lv : L.Val) (tb : t.Bd) : AW Try.prog 44 h.next h [.slice L.b L.n L.c, .agg ⟨t.cells⟩] (fun v _ => v = .bool (decide (L.Fits t))) := by
  obtain ⟨e1, i1, r1, l1⟩ := hL
  refine fun44.call rfl (Nat.le_refl _) ?_
  unfold a44 Tru.cells
  (focus ((try with_reducible apply wpC.to); (repeat' ((conv => whnf); first | refine byEv ?_ | (apply Fork.mk <;> (intro _; try (exfalso; omega))) | refine xSpanC0 ?_ | refine xSpanB0 ?_ | fail)); all_goals ((conv => whnf); try with_reducible apply At.mk)))
  refine wp_loop (fun s : Nat => [(0, .slice L.b L.n L.c), (3, .pointer (some ⟨h.next, 0, none⟩)), (5, .int .i64 s)])
    (fun s h1 => h1.get h.next = some (.cells [.int .i64 t.a, .int .i64 t.b, .int .i64 t.d] 24) ∧ Same m h h1 ∧ h.next + 1 ≤ h1.next ∧ s ≤ L.n ∧ ∀ i, i < s → (L.f i).Fit t) (fun s => L.n - s) 0 ⟨rfl, rfl, rfl, trivial⟩ ⟨byGet, bySame, byOm, by omega, fun i hi => absurd hi (Nat.not_lt_zero i)⟩ ?_
  rintro s g h1 ⟨x1, sm, n1, hs, hp⟩ K hK
  have i5 := i1.same sm r1
  by_cases hsn : s < L.n
  · have x5 := r1 (by omega)
    obtain ⟨p1, p2, p3, p4⟩ := prods (lv s hsn) tb
    (focus ((try with_reducible apply wpC.to); (repeat' ((conv => whnf); first | refine byEv ?_ | (apply Fork.mk <;> (intro _; try (exfalso; omega))) | refine xSpanC0 ?_ | refine xSpanB0 ?_ | fail)); all_goals ((conv => whnf); try with_reducible apply At.mk)))
    · (refine byFin ?_)
      exact bool_f rfl (fun k => by have := (k s hsn).1; omega)
    · (refine byFin ?_)
      exact bool_f rfl (fun k => by have := (k s hsn).2; omega)
    · refine hK (s + 1) _ _ ⟨rfl, rfl, int_of rfl (by omega), trivial⟩ ⟨byGet, bySame, byOm, by omega, fun i hi => ?_⟩ (by omega)
      by_cases e : i = s
      · subst e; exact ⟨by omega, by omega⟩
      · exact hp i (by omega)
  · obtain rfl : s = L.n := by omega
    (focus ((try with_reducible apply wpC.to); (repeat' ((conv => whnf); first | refine byEv ?_ | (apply Fork.mk <;> (intro _; try (exfalso; omega))) | refine xSpanC0 ?_ | refine xSpanB0 ?_ | fail)); all_goals ((conv => whnf); try with_reducible apply At.mk)))
    (refine byFin ?_)
    exact bool_t rfl hp
theorem fitsErr_r {h : H} {L : Runs} {m : Nat} {t : Tru} (hm : m ≤ h.next) (hL : L.Ok m h) : AW Try.prog 16 h.next h [.slice L.b L.n L.c, .agg ⟨t.cells⟩] (fun v _ => v = .int .i64 (L.fitErr t)) := by
  have hL0 := hL
  refine fun16.call rfl (Nat.le_refl _) ?_
  unfold a16 Tru.cells
  (focus ((try with_reducible apply wpC.to); (repeat' ((conv => whnf); first | refine byEv ?_ | (apply Fork.mk <;> (intro _; try (exfalso; omega))) | ((first | refine kSpanC1 ?_ | refine kSpanB7 ?_); first | ((first | apply q_allD | apply q_alli | apply q_allB) <;> intro _ _ _ _ <;> try contradiction) | (apply q_allv; intro _ _ _)) | fail)); all_goals ((conv => whnf); try with_reducible apply At.mk)))
  · (refine byFin ?_)
    unfold Runs.fitErr; rw [if_pos (by assumption)]
  rotate_left
  · (refine byFin ?_)
    unfold Runs.fitErr; rw [if_neg (fun k => k (by assumption)), if_pos (by assumption)]
  obtain ⟨ln, lv⟩ := L.err_0 (by assumption)
  have tv : t.Val := by assumption
  apply q_callB
  focus (exact byNext)
  focus (exact byLo)
  focus exact fits_r (t := t) (m := m) byOm (hL.same bySame (Nat.le_refl _)) lv tv.bd
  · intro hb h2 q2 n2
    (focus ((try with_reducible apply wpC.to); (repeat' ((conv => whnf); first | refine byEv ?_ | (apply Fork.mk <;> (intro _; try (exfalso; omega))) | ((first | refine kSpanC1 ?_ | refine kSpanB7 ?_); first | ((first | apply q_allD | apply q_alli | apply q_allB) <;> intro _ _ _ _ <;> try contradiction) | (apply q_allv; intro _ _ _)) | fail)); all_goals ((conv => whnf); try with_reducible apply At.mk)))
    (refine byFin ?_)
    unfold Runs.fitErr; rw [if_neg (fun k => k (by assumption)), if_neg (fun k => k tv), if_pos (of_decide_eq_true hb)]
  · intro hb h2 q2 n2
    (focus ((try with_reducible apply wpC.to); (repeat' ((conv => whnf); first | refine byEv ?_ | (apply Fork.mk <;> (intro _; try (exfalso; omega))) | ((first | refine kSpanC1 ?_ | refine kSpanB7 ?_); first | ((first | apply q_allD | apply q_alli | apply q_allB) <;> intro _ _ _ _ <;> try contradiction) | (apply q_allv; intro _ _ _)) | fail)); all_goals ((conv => whnf); try with_reducible apply At.mk)))
    (refine byFin ?_)
    unfold Runs.fitErr; rw [if_neg (fun k => k (by assumption)), if_neg (fun k => k tv), if_neg (of_decide_eq_false hb)]
theorem kSpanC2 {G G' : Prop} (g : G') (t : G' → G := by ((apply q_call); (focus exact byNext); (focus exact byLo); (focus ((apply fitsErr_r; rotate_left; (focus (apply Runs.Ok.same; (focus assumption); (focus exact bySame); (focus exact Nat.le_refl _))); (focus exact byOm)))))) : G := t g
end AE.Try

/- Walks of span: sides, put together. -/
namespace AE.Try
open Go AE Go.Proofs AE.Sp
set_option maxRecDepth 100000
set_option linter.unusedVariables false

def _root_.AE.Sp.Sd.cells (s : Sd) : List Value := [.int .i64 s.u, .int .i64 s.v, .int .i64 s.w]
def _root_.AE.Sp.Sd.by (s : Sd) (n : Int) : Sd := ⟨s.u * n, s.v * n, s.w * n⟩
def _root_.AE.Sp.Sd.add (a b : Sd) : Sd := ⟨a.u + b.u, a.v + b.v, a.w + b.w⟩
def _root_.AE.Sp.Sd.flat (s : Sd) : Sd := ⟨s.u, s.v, 0⟩
def _root_.AE.Sp.Sd.size (s : Sd) : Int := max s.u (-s.u) + max s.v (-s.v)
def Run.lower (x : Run) : Sd := ⟨x.p, x.q, x.lo⟩
def Run.upper (x : Run) : Sd := ⟨-x.p, -x.q, -x.hi⟩
/-- Numbers up to X. -/
def Up (X x : Int) : Prop := -X ≤ x ∧ x ≤ X
/-- A side whose numbers are up to F, and W. -/
structure _root_.AE.Sp.Sd.Up (F W : Int) (s : Sd) : Prop where
  u : -F ≤ s.u ∧ s.u ≤ F
  v : -F ≤ s.v ∧ s.v ≤ F
  w : -W ≤ s.w ∧ s.w ≤ W
theorem Run.Ok.lower {x : Run} (k : x.Ok) : x.lower.Up 20 100000 := by obtain ⟨a, b, c, d, e, f⟩ := k; exact ⟨a, b, by unfold Run.lower; dsimp only; omega⟩
theorem Run.Ok.upper {x : Run} (k : x.Ok) : x.upper.Up 20 100000 := by obtain ⟨a, b, c, d, e, f⟩ := k; exact ⟨by unfold Run.upper; dsimp only; omega, by unfold Run.upper; dsimp only; omega, by unfold Run.upper; dsimp only; omega⟩

theorem by_w {h : H} {s : Sd} {n F W N : Int} (k : s.Up F W) (hn : -N ≤ n ∧ n ≤ N) (h1 : F * N ≤ 4611686018427387904) (h2 : W * N ≤ 4611686018427387904) : AW Try.prog 60 h.next h [.agg ⟨s.cells⟩, .int .i64 n] (fun v _ => v = .agg ⟨(s.by n).cells⟩) := by
  have b1 := mul_bnd k.u.1 k.u.2 hn.1 hn.2
  have b2 := mul_bnd k.v.1 k.v.2 hn.1 hn.2
  have b3 := mul_bnd k.w.1 k.w.2 hn.1 hn.2
  refine fun60.call rfl (Nat.le_refl _) ?_
  unfold a60 Sd.cells
  (focus ((try with_reducible apply wpC.to); (repeat' ((conv => whnf); first | refine byEv ?_ | fail)); all_goals ((conv => whnf); try with_reducible apply At.mk)))
  (refine byFin ?_)
  rfl
theorem flat_w {h : H} {s : Sd} : AW Try.prog 61 h.next h [.agg ⟨s.cells⟩] (fun v _ => v = .agg ⟨s.flat.cells⟩) := by
  refine fun61.call rfl (Nat.le_refl _) ?_
  unfold a61 Sd.cells
  (focus ((try with_reducible apply wpC.to); (repeat' ((conv => whnf); first | refine byEv ?_ | fail)); all_goals ((conv => whnf); try with_reducible apply At.mk)))
  (refine byFin ?_)
  rfl
theorem cross_w {h : H} {a b : Sd} {F W F' W' : Int} (k : a.Up F W) (k' : b.Up F' W') (h1 : F * F' ≤ 2305843009213693952) : AW Try.prog 83 h.next h [.agg ⟨a.cells⟩, .agg ⟨b.cells⟩] (fun v _ => v = .int .i64 (cr a b)) := by
  have b1 := mul_bnd k.u.1 k.u.2 k'.v.1 k'.v.2
  have b2 := mul_bnd k.v.1 k.v.2 k'.u.1 k'.u.2
  refine fun83.call rfl (Nat.le_refl _) ?_
  unfold a83 Sd.cells
  (focus ((try with_reducible apply wpC.to); (repeat' ((conv => whnf); first | refine byEv ?_ | fail)); all_goals ((conv => whnf); try with_reducible apply At.mk)))
  (refine byFin ?_)
  rfl
theorem size_w {h : H} {s : Sd} {F W : Int} (k : s.Up F W) (h1 : F ≤ 2305843009213693952) : AW Try.prog 91 h.next h [.agg ⟨s.cells⟩] (fun v _ => v = .int .i64 s.size) := by
  have b1 := k.u
  have b2 := k.v
  refine fun91.call rfl (Nat.le_refl _) ?_
  unfold a91 Sd.cells
  (focus ((try with_reducible apply wpC.to); (repeat' ((conv => whnf); first | refine byEv ?_ | fail)); all_goals ((conv => whnf); try with_reducible apply At.mk)))
  (refine byFin ?_)
  rfl
theorem pair_w {h : H} {x : Run} (k : x.Ok) : AW Try.prog 58 h.next h [.agg ⟨x.cells⟩] (fun v _ => v = .agg ⟨x.cells ++ x.lower.cells ++ x.upper.cells⟩) := by
  obtain ⟨k1, k2, k3, k4, k5, k6⟩ := k
  refine fun58.call rfl (Nat.le_refl _) ?_
  unfold a58 Run.cells
  (focus ((try with_reducible apply wpC.to); (repeat' ((conv => whnf); first | refine byEv ?_ | fail)); all_goals ((conv => whnf); try with_reducible apply At.mk)))
  (refine byFin ?_)
  rfl
end AE.Try
