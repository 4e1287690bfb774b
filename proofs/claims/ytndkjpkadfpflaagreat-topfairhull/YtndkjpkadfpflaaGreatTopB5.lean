/- Walks of box: all places of a hull, one after the other. -/
import Derived.Test.YtndkjpkadfpflaaGreatTopB2
set_option linter.unusedVariables false
set_option linter.unusedSimpArgs false
set_option linter.unusedSectionVars false
namespace AE.Tryz
open Go AE Go.Proofs AE.Box
set_option maxRecDepth 100000
set_option linter.unusedVariables false

/-- What a plan's row holds. -/
def planRow (T : Hull) (q : Nat) : ARow := .cells [.int .i64 T.sp, .int .i64 T.st, .slice T.b T.n T.c, .int .i64 q] 174
theorem places_w {h : H} {p : Nat} : AW Tryz.prog 110 h.next h [.pointer (some ⟨p, 0, none⟩)] (fun v h' => ∃ rp rw, v = .func (.func 160) ⟨[]⟩ ⟨[.pointer (some ⟨rp, 0, none⟩), .pointer (some ⟨rw, 0, none⟩)]⟩ ∧ (h.next ≤ rp ∧ rp < h'.next) ∧ (h.next ≤ rw ∧ rw < h'.next) ∧
    h'.get rp = some (.cells [.pointer (some ⟨p, 0, none⟩)] 93) ∧ h'.get rw = some (.cells [.func (.func 159) ⟨[.agg ⟨[.int .i64 1, .int .i64 2]⟩]⟩ ⟨[]⟩] 248)) := by
  refine fun110.call rfl (Nat.le_refl _) ?_
  unfold a110
  (focus ((try with_reducible apply wpC.to); (repeat' ((conv => whnf); first | refine byEv ?_ | fail)); all_goals ((conv => whnf); try with_reducible apply At.mk)))
  (refine byFin ?_)
  exact ⟨_, _, rfl, ⟨byOm, byOm⟩, ⟨byOm, byOm⟩, byGet, byGet⟩

/-- What the walk over the places needs of the heap, whatever is done on the way. -/
structure PStat (h : H) (m rp rw p q : Nat) (T : Hull) : Prop where
  ok : T.Ok m h
  gp : h.get rp = some (.cells [.pointer (some ⟨p, 0, none⟩)] 93)
  gw : h.get rw = some (.cells [.func (.func 159) ⟨[.agg ⟨[.int .i64 1, .int .i64 2]⟩]⟩ ⟨[]⟩] 248)
  pl : h.get p = some (planRow T q)
set_option maxHeartbeats 1000000 in
theorem iterP_w {h : H} {lo : Nat} {yv : Value} {T : Hull} {m rp rw p q : Nat} (hlo : lo ≤ h.next) (V : T.Valid)
    (Inv : Nat → H → Prop) (hs : ∀ s h1, Inv s h1 → PStat h1 m rp rw p q T) (hst : ∀ s h1 h2, Inv s h1 → Quiet h1.next h1 h2 → Inv s h2)
    (hy : ∀ i k h1, i < T.n → k < T.w 0 → Inv (i * T.w 0 + k) h1 → h.next ≤ h1.next → ∃ v h2, (v = .bool true ∧ Inv (i * T.w 0 + k + 1) h2) ∧ ACall Tryz.prog yv lo h1 [.agg ⟨placeC T.hul.toGeo i k⟩] v h2) (hz : Inv 0 h) :
    AW Tryz.prog 160 lo h [yv, .pointer (some ⟨rp, 0, none⟩), .pointer (some ⟨rw, 0, none⟩)] (fun _ h' => Inv (T.n * T.w 0) h') := by
  obtain ⟨n1, n2, w1, w2, eq, s1, s2, pl, some⟩ := V
  refine fun160.call rfl hlo ?_
  unfold a160
  have hz' := hst _ _ (h.bump 7) hz ⟨by simp [bump_next], fun _ _ => rfl, fun hc r hr => hc r (by simp [bump_next] at hr; omega)⟩
  obtain ⟨⟨e1, i1, r1, l1, re, ri, rr, rl⟩, gp, gw, gpl⟩ := hs _ _ hz
  unfold planRow at gpl
  (focus ((try with_reducible apply wpC.to); (repeat' ((conv => whnf); first | refine byEv ?_ | (apply Fork.mk <;> (intro _; try (exfalso; omega))) | ((refine kTopSc1 ?_); first | ((first | apply q_allD | apply q_alli | apply q_allB) <;> intro _ _ _ _ <;> try contradiction) | (apply q_allv; intro _ _ _)) | refine xTopB20 ?_ | fail)); all_goals ((conv => whnf); try with_reducible apply At.mk)))
  clear i1 r1 ri rr gp gw gpl
  refine wp_loop (fun s : Nat => [(0, yv), (1, .pointer (.some ⟨rp, 0, none⟩)), (2, .pointer (.some ⟨rw, 0, none⟩)), (12, .slice T.b T.n T.c), (13, .int .i64 T.n), (14, .int .i64 s)]) (fun s h1 => Inv (s * T.w 0) h1 ∧ Quiet lo h h1 ∧ h.next ≤ h1.next ∧ s ≤ T.n) (fun s => T.n - s) 0 ⟨rfl, rfl, rfl, rfl, rfl, rfl, trivial⟩ ⟨by rw [Nat.zero_mul]; exact hz', byQuiet, byOm, by omega⟩ ?_
  clear hz hz'
  rintro i g1 h1 ⟨iv1, q1, hn1, hi⟩ K hK
  have bmp : ∀ {s : Nat} {h1 : H} (k : Nat), Inv s h1 → Inv s (h1.bump k) := fun k iv => hst _ _ _ iv ⟨by simp [bump_next], fun _ _ => rfl, fun hc r hr => hc r (by simp [bump_next] at hr; omega)⟩
  by_cases hin : i < T.n
  · have rei := re i hin
    have ewi := eq i hin
    obtain ⟨⟨-, i1, -, -, -, ri, -, -⟩, gp, gw, gpl⟩ := hs _ _ iv1
    have rii := ri i hin
    (focus ((try with_reducible apply wpC.to); (repeat' ((conv => whnf); first | refine byEv ?_ | (apply Fork.mk <;> (intro _; try (exfalso; omega))) | ((refine kTopSc1 ?_); first | ((first | apply q_allD | apply q_alli | apply q_allB) <;> intro _ _ _ _ <;> try contradiction) | (apply q_allv; intro _ _ _)) | refine xTopB20 ?_ | fail)); all_goals ((conv => whnf); try with_reducible apply At.mk)))
    clear i1 rii ri gp gw gpl
    refine wp_loop (fun s : Nat => [(0, yv), (1, .pointer (.some ⟨rp, 0, none⟩)), (2, .pointer (.some ⟨rw, 0, none⟩)), (12, .slice T.b T.n T.c), (13, .int .i64 T.n), (14, .int .i64 i), (4, .int .i64 i), (5, .slice (T.rb i) (T.w i) (T.rc i)), (20, .int .i64 (T.w i)), (21, .int .i64 s)]) (fun s h1 => Inv (i * T.w 0 + s) h1 ∧ Quiet lo h h1 ∧ h.next ≤ h1.next ∧ s ≤ T.w 0) (fun s => T.w 0 - s) 0 ⟨rfl, rfl, rfl, rfl, rfl, rfl, rfl, rfl, rfl, rfl, trivial⟩ ⟨by first | exact bmp _ iv1 | exact bmp _ (bmp _ iv1) | exact bmp _ (bmp _ (bmp _ iv1)), byQuiet, byOm, by omega⟩ ?_
    rintro k g2 h2 ⟨iv2, q2, hn2, hk⟩ K2 hK2
    by_cases hkw : k < T.w 0
    · obtain ⟨⟨-, i1, -, -, -, ri, -, -⟩, gp, gw, gpl⟩ := hs _ _ iv2
      unfold planRow at gpl
      (focus ((try with_reducible apply wpC.to); (repeat' ((conv => whnf); first | refine byEv ?_ | (apply Fork.mk <;> (intro _; try (exfalso; omega))) | ((refine kTopSc1 ?_); first | ((first | apply q_allD | apply q_alli | apply q_allB) <;> intro _ _ _ _ <;> try contradiction) | (apply q_allv; intro _ _ _)) | refine xTopB20 ?_ | fail)); all_goals ((conv => whnf); try with_reducible apply At.mk)))
      apply q_call
      focus (exact byNext)
      focus (exact byLo)
      focus exact weight_w (i := i) (n := T.n) n1 (by omega) hin
      rintro _ h3 rfl q3 hn3
      have q23 : Quiet h2.next h2 h3 := by (exact byQuiet)
      have iv3 := hst _ _ h3 iv2 q23
      have q3' : Quiet lo h h3 := by (exact byQuiet)
      have hn3' : h.next ≤ h3.next := by (exact byOm)
      clear i1 ri gp gw gpl iv2 q23 q3 hn3 hn2
      obtain ⟨⟨-, i1, -, -, -, ri, -, -⟩, gp, gw, gpl⟩ := hs _ _ iv3
      (focus ((try with_reducible apply wpC.to); (repeat' ((conv => whnf); first | refine byEv ?_ | (apply Fork.mk <;> (intro _; try (exfalso; omega))) | ((refine kTopSc1 ?_); first | ((first | apply q_allD | apply q_alli | apply q_allB) <;> intro _ _ _ _ <;> try contradiction) | (apply q_allv; intro _ _ _)) | refine xTopB20 ?_ | fail)); all_goals ((conv => whnf); try with_reducible apply At.mk)))
      apply q_call
      focus (exact byNext)
      focus (exact byLo)
      focus (rw [ewi]; exact weight_w (i := k) (n := T.w 0) w1 (by omega) hkw)
      rintro _ h4 rfl q4 hn4
      have q34 : Quiet h3.next h3 h4 := by (exact byQuiet)
      have iv4 := hst _ _ h4 iv3 q34
      have q4' : Quiet lo h h4 := by (exact byQuiet)
      have hn4' : h.next ≤ h4.next := by (exact byOm)
      clear i1 ri gp gw gpl iv3 q34 q4 hn4 hn3' q3' q2
      have hv := mul_bd (a := wt i T.n) (b := wt k (T.w 0)) (A := 2) (B := 2) (by have := wt_bd i T.n; omega) (by have := wt_bd k (T.w 0); omega)
      have hyk := fun h5 iv hn5 => hy i k h5 hin hkw iv hn5
      by_cases hk1 : k + 1 = T.w 0
      · have hpc : placeC T.hul.toGeo i k = [.int .i64 i, .int .i64 k, .int .i64 (wt i T.n * wt k (T.w 0)), .int .i64 (wt i T.n), .bool true] := by
          unfold placeC
          rw [show decide (k + 1 = T.hul.toGeo.w) = true from decide_eq_true hk1]
          rfl
        rw [hpc] at hyk
        (focus ((try with_reducible apply wpC.to); (repeat' ((conv => whnf); first | refine byEv ?_ | (apply Fork.mk <;> (intro _; try (exfalso; omega))) | ((refine kTopSc1 ?_); first | ((first | apply q_allD | apply q_alli | apply q_allB) <;> intro _ _ _ _ <;> try contradiction) | (apply q_allv; intro _ _ _)) | refine xTopB20 ?_ | fail)); all_goals ((conv => whnf); try with_reducible apply At.mk)))
        apply q_calla
        focus exact hyk _ (hst _ _ _ iv4 byQuiet) byOm
        rintro _ h5 ⟨rfl, iv5⟩ q5
        have hn5 := q5.next
        (focus ((try with_reducible apply wpC.to); (repeat' ((conv => whnf); first | refine byEv ?_ | (apply Fork.mk <;> (intro _; try (exfalso; omega))) | ((refine kTopSc1 ?_); first | ((first | apply q_allD | apply q_alli | apply q_allB) <;> intro _ _ _ _ <;> try contradiction) | (apply q_allv; intro _ _ _)) | refine xTopB20 ?_ | fail)); all_goals ((conv => whnf); try with_reducible apply At.mk)))
        exact hK2 (k + 1) _ _ ⟨rfl, rfl, rfl, rfl, rfl, rfl, rfl, rfl, rfl, int_of rfl (by omega), trivial⟩ ⟨hst _ _ _ iv5 byQuiet, byQuiet, byOm, by omega⟩ (by omega)
      · have hpc : placeC T.hul.toGeo i k = [.int .i64 i, .int .i64 k, .int .i64 (wt i T.n * wt k (T.w 0)), .int .i64 (wt i T.n), .bool false] := by
          unfold placeC
          rw [show decide (k + 1 = T.hul.toGeo.w) = false from decide_eq_false hk1]
          rfl
        rw [hpc] at hyk
        (focus ((try with_reducible apply wpC.to); (repeat' ((conv => whnf); first | refine byEv ?_ | (apply Fork.mk <;> (intro _; try (exfalso; omega))) | ((refine kTopSc1 ?_); first | ((first | apply q_allD | apply q_alli | apply q_allB) <;> intro _ _ _ _ <;> try contradiction) | (apply q_allv; intro _ _ _)) | refine xTopB20 ?_ | fail)); all_goals ((conv => whnf); try with_reducible apply At.mk)))
        apply q_calla
        focus exact hyk _ (hst _ _ _ iv4 byQuiet) byOm
        rintro _ h5 ⟨rfl, iv5⟩ q5
        have hn5 := q5.next
        (focus ((try with_reducible apply wpC.to); (repeat' ((conv => whnf); first | refine byEv ?_ | (apply Fork.mk <;> (intro _; try (exfalso; omega))) | ((refine kTopSc1 ?_); first | ((first | apply q_allD | apply q_alli | apply q_allB) <;> intro _ _ _ _ <;> try contradiction) | (apply q_allv; intro _ _ _)) | refine xTopB20 ?_ | fail)); all_goals ((conv => whnf); try with_reducible apply At.mk)))
        exact hK2 (k + 1) _ _ ⟨rfl, rfl, rfl, rfl, rfl, rfl, rfl, rfl, rfl, int_of rfl (by omega), trivial⟩ ⟨hst _ _ _ iv5 byQuiet, byQuiet, byOm, by omega⟩ (by omega)
    · obtain rfl : k = T.w 0 := by omega
      (focus ((try with_reducible apply wpC.to); (repeat' ((conv => whnf); first | refine byEv ?_ | (apply Fork.mk <;> (intro _; try (exfalso; omega))) | ((refine kTopSc1 ?_); first | ((first | apply q_allD | apply q_alli | apply q_allB) <;> intro _ _ _ _ <;> try contradiction) | (apply q_allv; intro _ _ _)) | refine xTopB20 ?_ | fail)); all_goals ((conv => whnf); try with_reducible apply At.mk)))
      refine hK (i + 1) _ _ ⟨rfl, rfl, rfl, rfl, rfl, int_of rfl (by omega), trivial⟩ ⟨?_, byQuiet, byOm, by omega⟩ (by omega)
      rw [Nat.succ_mul]
      exact hst _ _ _ iv2 byQuiet
  · obtain rfl : i = T.n := by omega
    (focus ((try with_reducible apply wpC.to); (repeat' ((conv => whnf); first | refine byEv ?_ | (apply Fork.mk <;> (intro _; try (exfalso; omega))) | ((refine kTopSc1 ?_); first | ((first | apply q_allD | apply q_alli | apply q_allB) <;> intro _ _ _ _ <;> try contradiction) | (apply q_allv; intro _ _ _)) | refine xTopB20 ?_ | fail)); all_goals ((conv => whnf); try with_reducible apply At.mk)))
    (refine byFin ?_)
    exact hst _ _ _ iv1 byQuiet
end AE.Tryz
