/- Walks and plain laws: GSpanNc, GSpanNd. -/
import Derived.Test.YtkkndecbijgolaaGreatJoin4
set_option linter.unusedVariables false
set_option linter.unusedSimpArgs false
set_option linter.unusedSectionVars false

/- Walks of span's definitions: the span of two factors; which choices are valid. -/
namespace AE.Tryz
open Go AE Go.Proofs AE.Sp
set_option maxRecDepth 100000
set_option linter.unusedVariables false

end AE.Tryz

/- Walks of span's definitions: which choices are valid. -/
namespace AE.Tryz
open Go AE Go.Proofs AE.Sp
set_option maxRecDepth 100000
set_option linter.unusedVariables false

theorem el3_0 {h : H} {a : Addr} {n m : Nat} {f0 f1 f2 : Nat → Value} (hi : Els h a n 3 fun i => [f0 i, f1 i, f2 i]) (h1 : m < n) : h.loadN (aadd (aadd a (m * 3)) 0) 1 = some [f0 m] := load_part (hi m h1) rfl
theorem el3_1 {h : H} {a : Addr} {n m : Nat} {f0 f1 f2 : Nat → Value} (hi : Els h a n 3 fun i => [f0 i, f1 i, f2 i]) (h1 : m < n) : h.loadN (aadd (aadd a (m * 3)) 1) 1 = some [f1 m] := load_part (hi m h1) rfl
theorem el3_2 {h : H} {a : Addr} {n m : Nat} {f0 f1 f2 : Nat → Value} (hi : Els h a n 3 fun i => [f0 i, f1 i, f2 i]) (h1 : m < n) : h.loadN (aadd (aadd a (m * 3)) 2) 1 = some [f2 m] := load_part (hi m h1) rfl
theorem xGSpanNd0 {G G' : Prop} (g : G') (t : G' → G := by (((with_reducible apply Load1.mk); (focus ((repeat (first | (apply el3_0 <;> first | assumption | omega) | (apply el3_1 <;> first | assumption | omega) | (apply el3_2 <;> first | assumption | omega) | with_reducible apply bump_old | ((with_reducible apply put_old); focus (dsimp only [aadd]; omega)) | ((with_reducible apply quiet_old); (focus assumption); focus (dsimp only [aadd]; omega)) | ((with_reducible apply same_old); (focus assumption); focus (dsimp only [aadd]; omega)))); (first | done | fail))); (focus exact byVal)))) : G := t g

open Classical in
set_option maxHeartbeats 4000000 in
theorem choices_r {h : H} {C : Chs} {m : Nat} (hm : m ≤ h.next) (hC : C.Ok m h) : AW Tryz.prog 37 h.next h [.slice C.b C.n C.c] (fun v _ => v = .int .i64 C.err) := by
  have cl0 := hC.l
  have cb := hC.e
  refine fun37.call rfl (Nat.le_refl _) ?_
  unfold a37
  (focus ((try with_reducible apply wpC.to); (repeat' ((conv => whnf); first | refine byEv ?_ | (apply Fork.mk <;> (intro _; try (exfalso; omega))) | ((first | refine kGSpanB6 ?_ | refine kGSpanB5 ?_); first | ((first | apply q_allD | apply q_alli | apply q_allB) <;> intro _ _ _ _ <;> try contradiction) | (apply q_allv; intro _ _ _)) | refine xGSpanNd0 ?_ | fail)); all_goals ((conv => whnf); try with_reducible apply At.mk)))
  · (refine byFin ?_)
    rw [Chs.err_6 (by omega)]
  · (refine byFin ?_)
    rw [Chs.err_6 (by omega)]
  have cn : ¬ (C.n < 1 ∨ 8 < C.n) := by omega
  refine wp_loop (fun s : Nat => [(0, .slice C.b C.n C.c), (3, .int .i64 s)]) (fun s h1 => Same m h h1 ∧ h.next ≤ h1.next ∧ s ≤ C.n ∧ ∀ i, i < s → C.Good i) (fun s => C.n - s) 0 ⟨rfl, rfl, trivial⟩ ⟨bySame, byOm, by omega, fun i hi => absurd hi (Nat.not_lt_zero i)⟩ ?_
  rintro i g h1 ⟨sm, n1, hs, hp⟩ K hK
  by_cases hin : i < C.n
  · have hC1 := hC.same sm (Nat.le_refl _)
    obtain ⟨ce, ci, cr, cl', cee, cei, cer, cel⟩ := id hC1
    have cr' := cr (by omega)
    have cee' := cee i hin
    have cei' := cei i hin
    have cer' := cer i hin
    have cel' := cel i hin
    unfold Chs.cells at ci
    unfold Chs.rg at cei'
    have bad : ¬ C.Good i → C.err = 2 := fun k => Chs.err_2 cn fun hv => k (hv i hin)
    by_cases w0 : C.w i < 1 ∨ 6 < C.w i
    · (focus ((try with_reducible apply wpC.to); (repeat' ((conv => whnf); first | refine byEv ?_ | (apply Fork.mk <;> (intro _; try (exfalso; omega))) | ((first | refine kGSpanB6 ?_ | refine kGSpanB5 ?_); first | ((first | apply q_allD | apply q_alli | apply q_allB) <;> intro _ _ _ _ <;> try contradiction) | (apply q_allv; intro _ _ _)) | refine xGSpanNd0 ?_ | fail)); all_goals ((conv => whnf); try with_reducible apply At.mk)))
      all_goals
        (refine byFin ?_)
        rw [bad (fun k => by have := k.1; omega)]
    by_cases pq : ((-20 ≤ C.p i ∧ C.p i ≤ 20) ∧ (-20 ≤ C.q i ∧ C.q i ≤ 20)) ∧ (C.p i ≠ 0 ∨ C.q i ≠ 0)
    rotate_left
    · have b2 := bad (fun k => pq (by have k := k.2 0 (by omega); exact ⟨⟨k.p, k.q⟩, k.nz⟩))
      (focus ((try with_reducible apply wpC.to); (repeat' ((conv => whnf); first | refine byEv ?_ | (apply Fork.mk <;> (intro _; try (exfalso; omega))) | ((first | refine kGSpanB6 ?_ | refine kGSpanB5 ?_); first | ((first | apply q_allD | apply q_alli | apply q_allB) <;> intro _ _ _ _ <;> try contradiction) | (apply q_allv; intro _ _ _)) | refine xGSpanNd0 ?_ | fail)); all_goals ((conv => whnf); try with_reducible apply At.mk)))
      all_goals first
        | (exfalso; omega; done)
        | ((refine byFin ?_); rw [b2])
    obtain ⟨⟨⟨pq1, pq2⟩, pq3, pq4⟩, pq5⟩ := pq
    (focus ((try with_reducible apply wpC.to); (repeat' ((conv => whnf); first | refine byEv ?_ | (apply Fork.mk <;> (intro _; try (exfalso; omega))) | ((first | refine kGSpanB6 ?_ | refine kGSpanB5 ?_); first | ((first | apply q_allD | apply q_alli | apply q_allB) <;> intro _ _ _ _ <;> try contradiction) | (apply q_allv; intro _ _ _)) | refine xGSpanNd0 ?_ | fail)); all_goals ((conv => whnf); try with_reducible apply At.mk)))
    all_goals first
      | (exfalso; omega; done)
      | skip
    all_goals
      refine wp_loop (fun s : Nat => [(0, .slice C.b C.n C.c), (3, .int .i64 i), (4, .int .i64 s)]) (fun s h2 => Same m h h2 ∧ h.next ≤ h2.next ∧ s ≤ C.w i ∧ ∀ k, k < s → (C.run i k).Ok) (fun s => C.w i - s) 0 ⟨rfl, rfl, rfl, trivial⟩ ⟨bySame, byOm, by omega, fun i hi => absurd hi (Nat.not_lt_zero i)⟩ ?_
      rintro k g h2 ⟨sm2, n2, hs2, hp2⟩ K2 hK2
      have hC2 := hC.same sm2 (Nat.le_refl _)
      obtain ⟨de, di, dr, dl', dee, dei, der, del⟩ := id hC2
      have dr' := dr (by omega)
      have dei' := dei i hin
      unfold Chs.cells at di
      unfold Chs.rg at dei'
      by_cases hkw : k < C.w i
      · have der' := der i hin (by omega)
        (focus ((try with_reducible apply wpC.to); (repeat' ((conv => whnf); first | refine byEv ?_ | (apply Fork.mk <;> (intro _; try (exfalso; omega))) | ((first | refine kGSpanB6 ?_ | refine kGSpanB5 ?_); first | ((first | apply q_allD | apply q_alli | apply q_allB) <;> intro _ _ _ _ <;> try contradiction) | (apply q_allv; intro _ _ _)) | refine xGSpanNd0 ?_ | fail)); all_goals ((conv => whnf); try with_reducible apply At.mk)))
        · refine hK2 (k + 1) _ _ ⟨rfl, rfl, int_of rfl (by omega), trivial⟩ ⟨bySame, byOm, by omega, fun j hj => ?_⟩ (by omega)
          by_cases e : j = k
          · subst e; exact ⟨⟨pq1, pq2⟩, ⟨pq3, pq4⟩, pq5, by show -100000 ≤ C.lo i j; omega, by show C.lo i j ≤ C.hi i j; omega, by show C.hi i j ≤ 100000; omega⟩
          · exact hp2 j (by omega)
        · (refine byFin ?_)
          rw [bad (fun g => by have k := g.2 k hkw; have a := k.lo; have b := k.le; have c := k.hi; have a : -100000 ≤ C.lo i _ := a; have b : C.lo i _ ≤ C.hi i _ := b; have c : C.hi i _ ≤ 100000 := c; omega)]
      · obtain rfl : k = C.w i := by omega
        (focus ((try with_reducible apply wpC.to); (repeat' ((conv => whnf); first | refine byEv ?_ | (apply Fork.mk <;> (intro _; try (exfalso; omega))) | ((first | refine kGSpanB6 ?_ | refine kGSpanB5 ?_); first | ((first | apply q_allD | apply q_alli | apply q_allB) <;> intro _ _ _ _ <;> try contradiction) | (apply q_allv; intro _ _ _)) | refine xGSpanNd0 ?_ | fail)); all_goals ((conv => whnf); try with_reducible apply At.mk)))
        refine hK (i + 1) _ _ ⟨rfl, int_of rfl (by omega), trivial⟩ ⟨bySame, byOm, by omega, fun j hj => ?_⟩ (by omega)
        by_cases e : j = i
        · subst e; exact ⟨by omega, hp2⟩
        · exact hp j (by omega)
  · obtain rfl : i = C.n := by omega
    (focus ((try with_reducible apply wpC.to); (repeat' ((conv => whnf); first | refine byEv ?_ | (apply Fork.mk <;> (intro _; try (exfalso; omega))) | ((first | refine kGSpanB6 ?_ | refine kGSpanB5 ?_); first | ((first | apply q_allD | apply q_alli | apply q_allB) <;> intro _ _ _ _ <;> try contradiction) | (apply q_allv; intro _ _ _)) | refine xGSpanNd0 ?_ | fail)); all_goals ((conv => whnf); try with_reducible apply At.mk)))
    (refine byFin ?_)
    rw [Chs.err_0 cn hp]
end AE.Tryz
