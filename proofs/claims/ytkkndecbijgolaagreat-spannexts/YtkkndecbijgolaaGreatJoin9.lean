/- Walks and plain laws: GSpanNf, GSpanNg. -/
import Derived.Test.YtkkndecbijgolaaGreatGSpanNe
set_option linter.unusedVariables false
set_option linter.unusedSimpArgs false
set_option linter.unusedSectionVars false

/- Walks of the laws of spans: SpanNexts. -/
namespace AE.Tryz
open Go AE Go.Proofs AE.Sp
set_option maxRecDepth 100000
set_option linter.unusedVariables false

open Classical in
set_option maxHeartbeats 8000000 in
theorem nexts_law {h : H} {L : Runs} {C : Chs} {m : Nat} {p q : Int} (hm : m ≤ h.next) (hL : L.Ok m h) (hS : SlC L.b L.a L.n L.c m h) (hC : C.Ok m h) :
    AW Tryz.prog 3 h.next h [.slice L.b L.n L.c, .int .i64 p, .int .i64 q, .slice C.b C.n C.c] (fun v _ => v = .bool true) := by
  have ll := hL.l
  have cl0 := hC.l
  have cb := hC.e
  refine fun3.call rfl (Nat.le_refl _) ?_
  unfold a3
  (focus ((try with_reducible apply wpC.to); (repeat' ((conv => whnf); first | refine byEv ?_ | (apply Fork.mk <;> (intro _; try (exfalso; omega))) | ((refine kGSpanZu0 ?_); first | ((first | apply q_allD | apply q_alli | apply q_allB) <;> intro _ _ _ _ <;> try contradiction) | (apply q_allv; intro _ _ _)) | refine xGSpanNd0 ?_ | fail)); all_goals ((conv => whnf); try with_reducible apply At.mk)))
  · (refine byFin ?_)
    rfl
  · (refine byFin ?_)
    rfl
  refine wp_loop (fun s : Nat => [(0, .slice L.b L.n L.c), (1, .int .i64 p), (2, .int .i64 q), (3, .slice C.b C.n C.c), (9, .int .i64 s)]) (fun s h1 => Same m h h1 ∧ h.next ≤ h1.next ∧ s ≤ C.n) (fun s => C.n - s) 0 ⟨rfl, rfl, rfl, rfl, rfl, trivial⟩ ⟨bySame, byOm, by omega⟩ ?_
  rintro i g h1 ⟨sm, n1, hs⟩ K hK
  by_cases hin : i < C.n
  · have hC1 := hC.same sm (Nat.le_refl _)
    obtain ⟨ce, ci, cr, cl', cee, cei, cer, cel⟩ := id hC1
    have cr' := cr (by omega)
    have cel' := cel i hin
    unfold Chs.cells at ci
    (focus ((try with_reducible apply wpC.to); (repeat' ((conv => whnf); first | refine byEv ?_ | (apply Fork.mk <;> (intro _; try (exfalso; omega))) | ((refine kGSpanZu0 ?_); first | ((first | apply q_allD | apply q_alli | apply q_allB) <;> intro _ _ _ _ <;> try contradiction) | (apply q_allv; intro _ _ _)) | refine xGSpanNd0 ?_ | fail)); all_goals ((conv => whnf); try with_reducible apply At.mk)))
    · (refine byFin ?_)
      rfl
    · exact hK (i + 1) _ _ ⟨rfl, rfl, rfl, rfl, int_of rfl (by omega), trivial⟩ ⟨bySame, byOm, by omega⟩ (by omega)
  · obtain rfl : i = C.n := by omega
    (focus ((try with_reducible apply wpC.to); (repeat' ((conv => whnf); first | refine byEv ?_ | (apply Fork.mk <;> (intro _; try (exfalso; omega))) | ((refine kGSpanZu0 ?_); first | ((first | apply q_allD | apply q_alli | apply q_allB) <;> intro _ _ _ _ <;> try contradiction) | (apply q_allv; intro _ _ _)) | refine xGSpanNd0 ?_ | fail)); all_goals ((conv => whnf); try with_reducible apply At.mk)))
    apply q_callv
    focus (exact byNext)
    focus (exact byLo)
    focus exact next_w (L := L) (C := C) (m := m) (p := p) (q := q) byOm (hL.same bySame (Nat.le_refl _)) (hS.same bySame (Nat.le_refl _)) (hC.same bySame (Nat.le_refl _))
    intro h2 q2 n2
    unfold Fr.cells
    (focus ((try with_reducible apply wpC.to); (repeat' ((conv => whnf); first | refine byEv ?_ | (apply Fork.mk <;> (intro _; try (exfalso; omega))) | ((refine kGSpanZu0 ?_); first | ((first | apply q_allD | apply q_alli | apply q_allB) <;> intro _ _ _ _ <;> try contradiction) | (apply q_allv; intro _ _ _)) | refine xGSpanNd0 ?_ | fail)); all_goals ((conv => whnf); try with_reducible apply At.mk)))
    apply q_callv
    focus (exact byNext)
    focus (exact byLo)
    focus exact next_r (L := L) (C := C) (m := m) (p := p) (q := q) byOm (hL.same bySame (Nat.le_refl _)) (hS.same bySame (Nat.le_refl _)) (hC.same bySame (Nat.le_refl _))
    intro h3 q3 n3
    unfold Fr.cells
    (focus ((try with_reducible apply wpC.to); (repeat' ((conv => whnf); first | refine byEv ?_ | (apply Fork.mk <;> (intro _; try (exfalso; omega))) | ((refine kGSpanZu0 ?_); first | ((first | apply q_allD | apply q_alli | apply q_allB) <;> intro _ _ _ _ <;> try contradiction) | (apply q_allv; intro _ _ _)) | refine xGSpanNd0 ?_ | fail)); all_goals ((conv => whnf); try with_reducible apply At.mk)))
    refine OpE.pure (.bool true) (xPure_eql (A := ⟨((Nx.res L p q C).2).cells⟩) (B := ⟨((Nx.res L p q C).2).cells⟩) rfl rfl rfl rfl rfl (by kernel_rfl) (same_fr _)) ?_
    (focus ((try with_reducible apply wpC.to); (repeat' ((conv => whnf); first | refine byEv ?_ | (apply Fork.mk <;> (intro _; try (exfalso; omega))) | ((refine kGSpanZu0 ?_); first | ((first | apply q_allD | apply q_alli | apply q_allB) <;> intro _ _ _ _ <;> try contradiction) | (apply q_allv; intro _ _ _)) | refine xGSpanNd0 ?_ | fail)); all_goals ((conv => whnf); try with_reducible apply At.mk)))
    (refine byFin ?_)
    rfl
end AE.Tryz

/- Walks of the laws of spans: SpanNarrowed. -/
namespace AE.Tryz
open Go AE Go.Proofs AE.Sp
set_option maxRecDepth 100000
set_option linter.unusedVariables false

end AE.Tryz
