/- Walks of span: a truth; how wide two factors are. -/
import Derived.Test.YtkkndecbijgolaaSpanR
set_option linter.unusedVariables false
set_option linter.unusedSimpArgs false
set_option linter.unusedSectionVars false
namespace AE.Try
open Go AE Go.Proofs AE.Sp
set_option maxRecDepth 100000
set_option linter.unusedVariables false

theorem truth_w {h : H} {L : Runs} {m : Nat} (hm : m ≤ h.next) (hL : L.Ok m h) : AW Try.prog 17 h.next h [.slice L.b L.n L.c] (fun v _ => ∃ t : Tru, v = .tuple #[.agg ⟨t.cells⟩, .int .i64 (L.lerr 0 0)] ∧ (L.lerr 0 0 ≠ 0 → t = ⟨0, 0, 0⟩) ∧ (L.lerr 0 0 = 0 → Att L 0 0 t)) := by
  refine fun17.call rfl (Nat.le_refl _) ?_
  unfold a17
  (focus ((try with_reducible apply wpC.to); (repeat' ((conv => whnf); first | refine byEv ?_ | fail)); all_goals ((conv => whnf); try with_reducible apply At.mk)))
  apply q_call
  focus (exact byNext)
  focus (exact byLo)
  focus exact attain_w (L := L) (m := m) (p := 0) (q := 0) byOm (hL.same bySame (Nat.le_refl _))
  rintro _ h2 ⟨t, rfl, b1, b2⟩ q2 n2
  unfold Tru.cells
  (focus ((try with_reducible apply wpC.to); (repeat' ((conv => whnf); first | refine byEv ?_ | fail)); all_goals ((conv => whnf); try with_reducible apply At.mk)))
  (refine byFin ?_)
  exact ⟨t, rfl, b1, b2⟩

/-- The runs of a table. -/
def Tab.runs (T : Tab) : Runs := ⟨T.n, T.f, none, ⟨0, 0, none⟩, 0⟩
open Classical in
noncomputable def Runs.low (L : Runs) (p q : Int) : Fr := if h : ∃ N D, Lst L p q N D then fr (Classical.choose h) (Classical.choose (Classical.choose_spec h)) else ⟨0, 0⟩
theorem Lst.low {L : Runs} {p q N D : Int} (k : Lst L p q N D) : L.low p q = fr N D := by
  unfold Runs.low
  rw [dif_pos ⟨N, D, k⟩]
  exact (Classical.choose_spec (Classical.choose_spec (show ∃ N D, Lst L p q N D from ⟨N, D, k⟩))).same k
theorem Best.low {L : Runs} {p q : Int} {b m : Nat} {h : H} {M : Mk} (k : Best L p q b m h M) : M.fr = L.low p q := k.lst.low.symm
/-- The greatest value less the least one. -/
noncomputable def Runs.wide (L : Runs) (p q : Int) : Fr := fr (-(L.low (-p) (-q)).n * (L.low p q).d - (L.low p q).n * (L.low (-p) (-q)).d) ((L.low p q).d * (L.low (-p) (-q)).d)

set_option maxHeartbeats 2000000 in
theorem mostT_w {h : H} {T : Tab} {m : Nat} {p q : Int} (hm : m ≤ h.next) (hT : T.Ok m h) (fac : Fac p q) (c : T.runs.Cl) : AW Try.prog 81 h.next h [.pointer (some ⟨T.r, 0, none⟩), .int .i64 p, .int .i64 q] (fun v h' => ∃ (M : Mk) (b : Bool), v = .tuple #[.agg ⟨M.cells⟩, .bool b] ∧ (b = true → T.runs.Bnd p q ∧ Best T.runs p q h.next h'.next h' M) ∧ (b = false → M = Mk.none ∧ ¬ T.runs.Bnd p q)) := by
  have lv : T.runs.Val := hT.val
  by_cases hz : p = 0 ∧ q = 0
  · obtain ⟨rfl, rfl⟩ := hz
    obtain ⟨v, h', ⟨r, hr, rfl, g⟩, A⟩ := most0_w (h := h) (T := T)
    exact ⟨_, h', ⟨⟨some r, [], ⟨0, 0, 0⟩, 1⟩, true, rfl, fun _ => ⟨.inl ⟨rfl, rfl⟩, best_0 lv c hr g⟩, fun k => Bool.noConfusion k⟩, A⟩
  · obtain ⟨v, h', ⟨M, b, rfl, f1, f2⟩, A⟩ := most_w (h := h) hm hT fac hz
    refine ⟨_, h', ⟨M, b, rfl, fun k => ?_, fun k => ?_⟩, A⟩
    · obtain ⟨f3, f4⟩ := f1 k
      exact ⟨.inr (by obtain ⟨g, h1, h2⟩ := f3.g; exact ⟨g, _, _, h1, h2⟩), best_of lv c hz f3 f4⟩
    · obtain ⟨rfl, f3⟩ := f2 k
      exact ⟨rfl, fun k => k.elim hz fun ⟨g, N, D, h1, h2⟩ => f3 g N D h1 h2⟩

open Classical in
set_option maxHeartbeats 4000000 in
theorem span_w {h : H} {T : Tab} {m : Nat} {p q : Int} (hm : m ≤ h.next) (hT : T.Ok m h) (fac : Fac p q) (c : T.runs.Cl) : AW Try.prog 68 h.next h [.pointer (some ⟨T.r, 0, none⟩), .int .i64 p, .int .i64 q] (fun v _ => v = if T.runs.Bnd p q ∧ T.runs.Bnd (-p) (-q) then .tuple #[.agg ⟨(T.runs.wide p q).cells⟩, .bool true] else .tuple #[.agg ⟨(⟨0, 0⟩ : Fr).cells⟩, .bool false]) := by
  have fac' : Fac (-p) (-q) := ⟨by have := fac.1; omega, by have := fac.2; omega⟩
  have hp := fac.1
  have hq := fac.2
  refine fun68.call rfl (Nat.le_refl _) ?_
  unfold a68
  (focus ((try with_reducible apply wpC.to); (repeat' ((conv => whnf); first | refine byEv ?_ | ((first | refine kSpanR0 ?_ | refine kSpanK0 ?_); first | ((first | apply q_allD | apply q_alli | apply q_allB) <;> intro _ _ _ _ <;> try contradiction) | (apply q_allv; intro _ _ _)) | fail)); all_goals ((conv => whnf); try with_reducible apply At.mk)))
  apply q_call
  focus (exact byNext)
  focus (exact byLo)
  focus exact mostT_w (T := T) (m := m) (p := p) (q := q) byOm (hT.same bySame (Nat.le_refl _)) fac c
  rintro _ h2 ⟨M, b1, rfl, b2, b3⟩ q2 n2
  have eM : (⟨M.cells⟩ : Array Value) = ⟨[.map M.r, .int .i64 M.s.u, .int .i64 M.s.v, .int .i64 M.s.w, .int .i64 M.t]⟩ := rfl
  rw [eM]
  (focus ((try with_reducible apply wpC.to); (repeat' ((conv => whnf); first | refine byEv ?_ | ((first | refine kSpanR0 ?_ | refine kSpanK0 ?_); first | ((first | apply q_allD | apply q_alli | apply q_allB) <;> intro _ _ _ _ <;> try contradiction) | (apply q_allv; intro _ _ _)) | fail)); all_goals ((conv => whnf); try with_reducible apply At.mk)))
  apply q_call
  focus (exact byNext)
  focus (exact byLo)
  focus exact mostT_w (T := T) (m := m) (p := -p) (q := -q) byOm (hT.same bySame (Nat.le_refl _)) fac' c
  rintro _ h3 ⟨M', c1, rfl, c2, c3⟩ q3 n3
  have eM' : (⟨M'.cells⟩ : Array Value) = ⟨[.map M'.r, .int .i64 M'.s.u, .int .i64 M'.s.v, .int .i64 M'.s.w, .int .i64 M'.t]⟩ := rfl
  rw [eM']
  cases b1
  · obtain ⟨-, nb⟩ := b3 rfl
    (focus ((try with_reducible apply wpC.to); (repeat' ((conv => whnf); first | refine byEv ?_ | ((first | refine kSpanR0 ?_ | refine kSpanK0 ?_); first | ((first | apply q_allD | apply q_alli | apply q_allB) <;> intro _ _ _ _ <;> try contradiction) | (apply q_allv; intro _ _ _)) | fail)); all_goals ((conv => whnf); try with_reducible apply At.mk)))
    (refine byFin ?_)
    rw [if_neg fun k => nb k.1]; rfl
  cases c1
  · obtain ⟨-, nb⟩ := c3 rfl
    (focus ((try with_reducible apply wpC.to); (repeat' ((conv => whnf); first | refine byEv ?_ | ((first | refine kSpanR0 ?_ | refine kSpanK0 ?_); first | ((first | apply q_allD | apply q_alli | apply q_allB) <;> intro _ _ _ _ <;> try contradiction) | (apply q_allv; intro _ _ _)) | fail)); all_goals ((conv => whnf); try with_reducible apply At.mk)))
    (refine byFin ?_)
    rw [if_neg fun k => nb k.2]; rfl
  obtain ⟨bd, bs⟩ := b2 rfl
  obtain ⟨bd', bs'⟩ := c2 rfl
  have r1 := bs.nice.rng
  have r2 := bs'.nice.rng
  have m1 := mul_bnd (a := -M'.fr.n) (A := 240000000) (b := M.fr.d) (B := 800) (by omega) (by omega) (by omega) (by omega)
  have m2 := mul_bnd (a := M.fr.n) (A := 240000000) (b := M'.fr.d) (B := 800) (by omega) (by omega) (by omega) (by omega)
  have m3 := mul_bnd (a := M.fr.d) (A := 800) (b := M'.fr.d) (B := 800) (by omega) (by omega) (by omega) (by omega)
  have m4 := Int.mul_pos r1.2.1 r2.2.1
  (focus ((try with_reducible apply wpC.to); (repeat' ((conv => whnf); first | refine byEv ?_ | ((first | refine kSpanR0 ?_ | refine kSpanK0 ?_); first | ((first | apply q_allD | apply q_alli | apply q_allB) <;> intro _ _ _ _ <;> try contradiction) | (apply q_allv; intro _ _ _)) | fail)); all_goals ((conv => whnf); try with_reducible apply At.mk)))
  apply q_callv
  focus (exact byNext)
  focus (exact byLo)
  focus exact ratio_w (by omega) (by omega)
  intro h6 q6 n6
  (focus ((try with_reducible apply wpC.to); (repeat' ((conv => whnf); first | refine byEv ?_ | ((first | refine kSpanR0 ?_ | refine kSpanK0 ?_); first | ((first | apply q_allD | apply q_alli | apply q_allB) <;> intro _ _ _ _ <;> try contradiction) | (apply q_allv; intro _ _ _)) | fail)); all_goals ((conv => whnf); try with_reducible apply At.mk)))
  (refine byFin ?_)
  rw [if_pos ⟨bd, bd'⟩]
  unfold Runs.wide
  rw [← bs.low, ← bs'.low]
  rfl
end AE.Try
