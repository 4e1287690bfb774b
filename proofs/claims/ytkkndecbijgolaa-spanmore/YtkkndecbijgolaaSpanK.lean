/- Walks of span: the best of several. -/
import Derived.Test.YtkkndecbijgolaaSpanJ
import Derived.Test.YtkkndecbijgolaaAEthree
set_option linter.unusedVariables false
set_option linter.unusedSimpArgs false
set_option linter.unusedSectionVars false
namespace AE.Try
open Go AE Go.Proofs AE.Sp
set_option maxRecDepth 100000
set_option linter.unusedVariables false

theorem FrOf.lt_iff {x y : Fr} {n d n' d' : Int} (k : FrOf x n d) (k' : FrOf y n' d') : x.n * y.d < y.n * x.d ↔ n * d' < n' * d := by
  obtain ⟨h1, g, hg, rfl, rfl⟩ := k
  obtain ⟨h2, g', hg', rfl, rfl⟩ := k'
  have e1 : x.n * g * (y.d * g') = x.n * y.d * (g * g') := by ac_rfl
  have e2 : y.n * g' * (x.d * g) = y.n * x.d * (g * g') := by ac_rfl
  rw [e1, e2]
  have hp := Int.mul_pos hg hg'
  exact ⟨fun h => Int.mul_lt_mul_of_pos_right h hp, fun h => Int.lt_of_mul_lt_mul_right h (by omega)⟩

theorem less_w {h : H} {x y : Fr} {X Y : Int} (hx : -X ≤ x.n ∧ x.n ≤ X) (hy : -X ≤ y.n ∧ y.n ≤ X) (dx : 0 < x.d ∧ x.d ≤ Y) (dy : 0 < y.d ∧ y.d ≤ Y) (hb : X * Y ≤ 4611686018427387904) : AW Try.prog 69 h.next h [.agg ⟨x.cells⟩, .agg ⟨y.cells⟩] (fun v _ => v = .bool (decide (x.n * y.d < y.n * x.d))) := by
  have b1 := mul_bnd (b := y.d) (B := Y) hx.1 hx.2 (by omega) (by omega)
  have b2 := mul_bnd (b := x.d) (B := Y) hy.1 hy.2 (by omega) (by omega)
  refine fun69.call rfl (Nat.le_refl _) ?_
  unfold a69 Fr.cells
  (focus ((try with_reducible apply wpC.to); (repeat' ((conv => whnf); first | refine byEv ?_ | (apply Fork.mk <;> (intro _; try (exfalso; omega))) | fail)); all_goals ((conv => whnf); try with_reducible apply At.mk)))
  all_goals ((refine byFin ?_); first | exact bool_t rfl (by omega) | exact bool_f rfl (by omega))

/-- What is put together has a bound. -/
structure Mk.Nice (M : Mk) : Prop where
  t : 0 < M.t ∧ M.t ≤ 800
  w : -240000000 ≤ M.s.w ∧ M.s.w ≤ 240000000
def Mk.fr (M : Mk) : Fr := AE.Try.fr M.s.w M.t
theorem bound_w {h : H} {M : Mk} (k : M.Nice) : AW Try.prog 52 h.next h [.agg ⟨M.cells⟩] (fun v _ => v = .agg ⟨M.fr.cells⟩) := by
  have k1 := k.t
  have k2 := k.w
  refine fun52.call rfl (Nat.le_refl _) ?_
  unfold a52 Mk.cells
  (focus ((try with_reducible apply wpC.to); (repeat' ((conv => whnf); first | refine byEv ?_ | fail)); all_goals ((conv => whnf); try with_reducible apply At.mk)))
  apply q_callv
  focus (exact byNext)
  focus (exact byLo)
  focus exact ratio_w (by omega) (by omega)
  intro h2 q2 n2
  (focus ((try with_reducible apply wpC.to); (repeat' ((conv => whnf); first | refine byEv ?_ | fail)); all_goals ((conv => whnf); try with_reducible apply At.mk)))
  (refine byFin ?_)
  rfl
theorem Mk.Nice.of {M : Mk} (k : M.Nice) : FrOf M.fr M.s.w M.t := fr_of k.t.1
theorem Mk.Nice.rng {M : Mk} (k : M.Nice) : (-240000000 ≤ M.fr.n ∧ M.fr.n ≤ 240000000) ∧ 0 < M.fr.d ∧ M.fr.d ≤ 800 := by
  have := k.of.le_d
  have := k.t
  exact ⟨k.of.bnd k.w.1 k.w.2, k.of.d0, by omega⟩
theorem kSpanK0 {G G' : Prop} (g : G') (t : G' → G := by ((apply q_call); (focus exact byNext); (focus exact byLo); (focus ((apply bound_w; focus assumption))))) : G := t g
theorem better_w {h : H} {A B : Mk} (ka : A.Nice) (kb : B.Nice) : AW Try.prog 96 h.next h [.agg ⟨A.cells⟩, .agg ⟨B.cells⟩] (fun v _ => v = .bool (decide (B.s.w * A.t < A.s.w * B.t))) := by
  have ra := ka.rng
  have rb := kb.rng
  refine fun96.call rfl (Nat.le_refl _) ?_
  unfold a96
  have eA : (⟨A.cells⟩ : Array Value) = ⟨[.map A.r, .int .i64 A.s.u, .int .i64 A.s.v, .int .i64 A.s.w, .int .i64 A.t]⟩ := rfl
  have eB : (⟨B.cells⟩ : Array Value) = ⟨[.map B.r, .int .i64 B.s.u, .int .i64 B.s.v, .int .i64 B.s.w, .int .i64 B.t]⟩ := rfl
  rw [eA, eB]
  (focus ((try with_reducible apply wpC.to); (repeat' ((conv => whnf); first | refine byEv ?_ | ((refine kSpanK0 ?_); first | ((first | apply q_allD | apply q_alli | apply q_allB) <;> intro _ _ _ _ <;> try contradiction) | (apply q_allv; intro _ _ _)) | fail)); all_goals ((conv => whnf); try with_reducible apply At.mk)))
  apply q_callv
  focus (exact byNext)
  focus (exact byLo)
  focus exact less_w (x := B.fr) (y := A.fr) (X := 240000000) (Y := 800) rb.1 ra.1 rb.2 ra.2 (by decide)
  intro h2 q2 n2
  (focus ((try with_reducible apply wpC.to); (repeat' ((conv => whnf); first | refine byEv ?_ | ((refine kSpanK0 ?_); first | ((first | apply q_allD | apply q_alli | apply q_allB) <;> intro _ _ _ _ <;> try contradiction) | (apply q_allv; intro _ _ _)) | fail)); all_goals ((conv => whnf); try with_reducible apply At.mk)))
  (refine byFin ?_)
  congr 1
  exact decide_eq_decide.2 (kb.of.lt_iff ka.of)

/-- Several, as they lie. -/
structure Mks where
  n : Nat
  f : Nat → Mk
  b : Option Addr
  a : Addr
  c : Nat
structure Mks.Ok (L : Mks) (m : Nat) (h : H) : Prop where
  e : 0 < L.n → L.b = some L.a
  i : Els h L.a L.n 5 (fun i => (L.f i).cells)
  r : 0 < L.n → L.a.block < m
  l : L.n ≤ 100000
  s : 0 < L.n → SlOk L.a L.n L.c

set_option maxHeartbeats 2000000 in
theorem first_w {h : H} {L : Mks} {m : Nat} (hm : m ≤ h.next) (hL : L.Ok m h) (h0 : 0 < L.n) (nice : ∀ i, i < L.n → (L.f i).Nice) :
    AW Try.prog 95 h.next h [.slice L.b L.n L.c, .func (.func 96) ⟨[]⟩ ⟨[]⟩] (fun v _ => ∃ i, i < L.n ∧ v = .agg ⟨(L.f i).cells⟩ ∧ ∀ j, j < L.n → (L.f j).s.w * (L.f i).t ≤ (L.f i).s.w * (L.f j).t) := by
  obtain ⟨e1, i1, r1, l1, s1⟩ := hL
  have xb := r1 h0
  refine fun95.call rfl (Nat.le_refl _) ?_
  unfold a95
  (focus ((try with_reducible apply wpC.to); (repeat' ((conv => whnf); first | refine byEv ?_ | (apply Fork.mk <;> (intro _; try (exfalso; omega))) | ((refine kSpanH1 ?_); first | ((first | apply q_allD | apply q_alli | apply q_allB) <;> intro _ _ _ _ <;> try contradiction) | (apply q_allv; intro _ _ _)) | fail)); all_goals ((conv => whnf); try with_reducible apply At.mk)))
  apply q_from (a := L.a) (n := L.n) (c := L.c) (l := 1) (e1 h0 ▸ rfl) rfl (s1 h0) (by omega) h0 (by omega) (by omega)
  intro a' c' ha'
  have i2 : Els h a' (L.n - 1) 5 (fun i => (L.f (i + 1)).cells) := fun i hi => by
    have := i1 (i + 1) (by omega)
    rw [ha' (by omega)]
    have e : aadd (aadd L.a (1 * 5)) (i * 5) = aadd L.a ((i + 1) * 5) := by simp only [aadd]; congr 1; omega
    rw [e]; exact this
  have xb' : 1 < L.n → a'.block < m := fun h => by rw [ha' h]; exact xb
  clear ha'
  (focus ((try with_reducible apply wpC.to); (repeat' ((conv => whnf); first | refine byEv ?_ | (apply Fork.mk <;> (intro _; try (exfalso; omega))) | ((refine kSpanH1 ?_); first | ((first | apply q_allD | apply q_alli | apply q_allB) <;> intro _ _ _ _ <;> try contradiction) | (apply q_allv; intro _ _ _)) | fail)); all_goals ((conv => whnf); try with_reducible apply At.mk)))
  refine wp_loop (fun s : Nat × Nat => [(1, .func (.func 96) ⟨[]⟩ ⟨[]⟩), (4, .pointer (some ⟨h.next, 0, none⟩)), (5, .pointer (some ⟨h.next + 4, 0, none⟩)), (12, .slice (some a') (L.n - 1) c'), (13, .int .i64 ((L.n - 1 : Nat) : Int)), (14, .int .i64 s.1)])
    (fun s h1 => h1.get h.next = some (.cells [.map none, .int .i64 0, .int .i64 0, .int .i64 0, .int .i64 0] 82) ∧ h1.get (h.next + 4) = some (.cells [.map (L.f s.2).r, .int .i64 (L.f s.2).s.u, .int .i64 (L.f s.2).s.v, .int .i64 (L.f s.2).s.w, .int .i64 (L.f s.2).t] 82) ∧ Same m h h1 ∧ h.next + 5 ≤ h1.next ∧ s.1 ≤ L.n - 1 ∧ s.2 < L.n ∧ ∀ j, j ≤ s.1 → (L.f j).s.w * (L.f s.2).t ≤ (L.f s.2).s.w * (L.f j).t) (fun s => L.n - 1 - s.1) (0, 0) ⟨rfl, rfl, rfl, rfl, rfl, rfl, trivial⟩ ⟨byGet, byGet, bySame, byOm, by dsimp only; omega, h0, fun j hj => (Nat.le_zero.1 hj) ▸ Int.le_refl _⟩ ?_
  rintro ⟨s, b⟩ g h1 ⟨g0, g1, sm, n1, hs, hb, hbest⟩ K hK
  dsimp only at g1 hs hb hbest ⊢
  by_cases hsn : s < L.n - 1
  · have i5 := i2.same sm (fun _ => xb' (by omega))
    have nb := nice b hb
    have ns := nice (s + 1) (by omega)
    have xb5 := xb' (by omega)
    unfold Mk.cells at i5
    (focus ((try with_reducible apply wpC.to); (repeat' ((conv => whnf); first | refine byEv ?_ | (apply Fork.mk <;> (intro _; try (exfalso; omega))) | ((refine kSpanH1 ?_); first | ((first | apply q_allD | apply q_alli | apply q_allB) <;> intro _ _ _ _ <;> try contradiction) | (apply q_allv; intro _ _ _)) | fail)); all_goals ((conv => whnf); try with_reducible apply At.mk)))
    apply q_callB
    focus (exact byNext)
    focus (exact byLo)
    focus exact better_w ns nb
    · intro hc h2 q2 n2
      have hc := of_decide_eq_true hc
      (focus ((try with_reducible apply wpC.to); (repeat' ((conv => whnf); first | refine byEv ?_ | (apply Fork.mk <;> (intro _; try (exfalso; omega))) | ((refine kSpanH1 ?_); first | ((first | apply q_allD | apply q_alli | apply q_allB) <;> intro _ _ _ _ <;> try contradiction) | (apply q_allv; intro _ _ _)) | fail)); all_goals ((conv => whnf); try with_reducible apply At.mk)))
      refine hK (s + 1, s + 1) _ _ ⟨rfl, rfl, rfl, rfl, rfl, int_of rfl (by dsimp only; omega), trivial⟩ ⟨byGet, byGet, bySame, byOm, by dsimp only; omega, by dsimp only; omega, fun j hj => ?_⟩ (by dsimp only; omega)
      dsimp only at hj ⊢
      by_cases e : j = s + 1
      · subst e; exact Int.le_refl _
      · have h3 := hbest j (by omega)
        have nj := (nice j (by omega)).t
        refine Int.le_of_mul_le_mul_left (a := (L.f b).t) ?_ nb.t.1
        have m1 := Int.mul_le_mul_of_nonneg_right h3 (Int.le_of_lt ns.t.1)
        have m2 := Int.mul_le_mul_of_nonneg_right (Int.le_of_lt hc) (Int.le_of_lt nj.1)
        have e1 : (L.f b).t * ((L.f j).s.w * (L.f (s + 1)).t) = (L.f j).s.w * (L.f b).t * (L.f (s + 1)).t := by ac_rfl
        have e2 : (L.f b).t * ((L.f (s + 1)).s.w * (L.f j).t) = (L.f (s + 1)).s.w * (L.f b).t * (L.f j).t := by ac_rfl
        have e3 : (L.f b).s.w * (L.f j).t * (L.f (s + 1)).t = (L.f b).s.w * (L.f (s + 1)).t * (L.f j).t := by ac_rfl
        omega
    · intro hc h2 q2 n2
      have hc := of_decide_eq_false hc
      (focus ((try with_reducible apply wpC.to); (repeat' ((conv => whnf); first | refine byEv ?_ | (apply Fork.mk <;> (intro _; try (exfalso; omega))) | ((refine kSpanH1 ?_); first | ((first | apply q_allD | apply q_alli | apply q_allB) <;> intro _ _ _ _ <;> try contradiction) | (apply q_allv; intro _ _ _)) | fail)); all_goals ((conv => whnf); try with_reducible apply At.mk)))
      refine hK (s + 1, b) _ _ ⟨rfl, rfl, rfl, rfl, rfl, int_of rfl (by dsimp only; omega), trivial⟩ ⟨byGet, byGet, bySame, byOm, by dsimp only; omega, hb, fun j hj => ?_⟩ (by dsimp only; omega)
      dsimp only at hj ⊢
      by_cases e : j = s + 1
      · subst e; omega
      · exact hbest j (by omega)
  · obtain rfl : s = L.n - 1 := by omega
    (focus ((try with_reducible apply wpC.to); (repeat' ((conv => whnf); first | refine byEv ?_ | (apply Fork.mk <;> (intro _; try (exfalso; omega))) | ((refine kSpanH1 ?_); first | ((first | apply q_allD | apply q_alli | apply q_allB) <;> intro _ _ _ _ <;> try contradiction) | (apply q_allv; intro _ _ _)) | fail)); all_goals ((conv => whnf); try with_reducible apply At.mk)))
    (refine byFin ?_)
    exact ⟨b, hb, rfl, fun j hj => hbest j (by omega)⟩
end AE.Try
