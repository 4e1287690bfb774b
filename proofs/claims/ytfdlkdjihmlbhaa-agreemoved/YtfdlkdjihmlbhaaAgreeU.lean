/- What is known of the examples; truths that are returned fit. -/
import Derived.Test.YtfdlkdjihmlbhaaAgreeT
set_option linter.unusedVariables false
set_option linter.unusedSimpArgs false
set_option linter.unusedSectionVars false
namespace AE.Try
set_option linter.unusedSimpArgs false
set_option linter.unusedVariables false
open Go AE AE.Ag AgreeS Go.Proofs
set_option maxRecDepth 100000

theorem agrees_tab0 : Agrees tab0 := ⟨fun i => if i = 0 then -1 else 3, fun j => if j = 0 then 102 else 51, fun i hi => by simp only [tab0] at hi ⊢; split <;> omega, fun y hy => by
  simp only [tab0, List.mem_cons, List.not_mem_nil, or_false] at hy
  rcases hy with rfl | rfl | rfl <;> decide⟩
theorem not_worse : ¬ Agrees worse := by
  rintro ⟨b, x, hb, ht⟩
  have a1 := ht ⟨0, 0, 100, 102⟩ (by simp [worse])
  have a2 := ht ⟨0, 1, 50, 51⟩ (by simp [worse])
  have a3 := ht ⟨1, 0, 105, 106⟩ (by simp [worse])
  have a4 := ht ⟨1, 1, 60, 61⟩ (by simp [worse])
  simp only at a1 a2 a3 a4
  omega
theorem wo_worse0 : Agrees (woT worse 0) := ⟨fun _ => 0, fun j => if j = 0 then 105 else 60, fun i hi => by simp only [woT, worse]; omega, fun y hy => by
  simp only [woT, worse, List.mem_filter, List.mem_cons, List.not_mem_nil, or_false, decide_eq_true_eq] at hy
  obtain ⟨hy, hne⟩ := hy
  rcases hy with rfl | rfl | rfl | rfl
  · exact absurd rfl hne
  · exact absurd rfl hne
  · decide
  · decide⟩
theorem wo_worse1 : Agrees (woT worse 1) := ⟨fun _ => 0, fun j => if j = 0 then 100 else 50, fun i hi => by simp only [woT, worse]; omega, fun y hy => by
  simp only [woT, worse, List.mem_filter, List.mem_cons, List.not_mem_nil, or_false, decide_eq_true_eq] at hy
  obtain ⟨hy, hne⟩ := hy
  rcases hy with rfl | rfl | rfl | rfl
  · decide
  · decide
  · exact absurd rfl hne
  · exact absurd rfl hne⟩
theorem oddL_worse : oddL worse = [0, 1] := by
  unfold oddL
  rw [if_neg not_worse]
  show oddTo worse 2 = _
  rw [(oddTo_succ worse 1).1 wo_worse1, (oddTo_succ worse 0).1 wo_worse0]
  rfl
theorem tested0 : Tested tab0 0 := ⟨⟨0, 0, 100, 102⟩, by simp [tab0], rfl⟩
theorem tested1 : Tested tab0 1 := ⟨⟨0, 1, 50, 51⟩, by simp [tab0], rfl⟩
theorem ok_tab0 : tab0.Ok := ⟨by decide, by decide, by decide, by decide, by decide, by decide, by decide, fun y hy => by
  simp only [tab0, List.mem_cons, List.not_mem_nil, or_false] at hy
  rcases hy with rfl | rfl | rfl <;> exact ⟨by decide, by decide, by decide, by decide, by decide⟩⟩
theorem fits_tab0 {b0 b1 x0 x1 : Int} (h1 : -3 ≤ b0 ∧ b0 ≤ 3) (h2 : -3 ≤ b1 ∧ b1 ≤ 3) (h3 : 100 ≤ b0 + x0 ∧ b0 + x0 ≤ 102) (h4 : 50 ≤ b0 + x1 ∧ b0 + x1 ≤ 51) (h5 : 105 ≤ b1 + x0 ∧ b1 + x0 ≤ 106) : Fits tab0 (fun i => if i = 0 then b0 else b1) (fun j => if j = 0 then x0 else x1) := by
  refine ⟨fun i hi => ?_, fun y hy => ?_⟩
  · simp only [tab0] at hi ⊢
    split <;> omega
  · simp only [tab0, List.mem_cons, List.not_mem_nil, or_false] at hy
    rcases hy with rfl | rfl | rfl
    · exact h3
    · exact h4
    · exact h5
theorem fits_tab0' {b x : Nat → Int} (h : Fits tab0 b x) : (-3 ≤ b 0 ∧ b 0 ≤ 3) ∧ (-3 ≤ b 1 ∧ b 1 ≤ 3) ∧ (100 ≤ b 0 + x 0 ∧ b 0 + x 0 ≤ 102) ∧ (50 ≤ b 0 + x 1 ∧ b 0 + x 1 ≤ 51) ∧ (105 ≤ b 1 + x 0 ∧ b 1 + x 0 ≤ 106) :=
  ⟨h.bias 0 (by decide), h.bias 1 (by decide), h.test ⟨0, 0, 100, 102⟩ (by simp [tab0]), h.test ⟨0, 1, 50, 51⟩ (by simp [tab0]), h.test ⟨1, 0, 105, 106⟩ (by simp [tab0])⟩
theorem ends_tab0 : lowX tab0 0 = 102 ∧ highX tab0 0 = 105 ∧ lowX tab0 1 = 50 ∧ highX tab0 1 = 54 ∧ AgreeS.far tab0 0 1 = 52 ∧ AgreeS.far tab0 1 0 = -49 := by
  have l := fits_tab0' (low_fits ok_tab0 agrees_tab0)
  have u := fits_tab0' (high_fits ok_tab0 agrees_tab0)
  have s1 := fits_tab0 (b0 := 0) (b1 := 3) (x0 := 102) (x1 := 50) (by omega) (by omega) (by omega) (by omega) (by omega)
  have s2 := fits_tab0 (b0 := -3) (b1 := 1) (x0 := 105) (x1 := 54) (by omega) (by omega) (by omega) (by omega) (by omega)
  have s3 := fits_tab0 (b0 := 0) (b1 := 3) (x0 := 102) (x1 := 50) (by omega) (by omega) (by omega) (by omega) (by omega)
  have s4 := fits_tab0 (b0 := 0) (b1 := 3) (x0 := 102) (x1 := 51) (by omega) (by omega) (by omega) (by omega) (by omega)
  have s5 := fits_tab0 (b0 := -2) (b1 := 3) (x0 := 102) (x1 := 53) (by omega) (by omega) (by omega) (by omega) (by omega)
  have a1 := spread_holds ok_tab0 s1 tested0
  have a2 := spread_holds ok_tab0 s2 tested0
  have a3 := spread_holds ok_tab0 s1 tested1
  have a4 := spread_holds ok_tab0 s2 tested1
  have f1 := far_holds ok_tab0 s1 tested0 tested1
  have f2 := far_holds ok_tab0 s5 tested1 tested0
  obtain ⟨b, x, g1, e1⟩ := far_is ok_tab0 agrees_tab0 tested0 tested1
  obtain ⟨b', x', g2, e2⟩ := far_is ok_tab0 agrees_tab0 tested1 tested0
  have g1 := fits_tab0' g1
  have g2 := fits_tab0' g2
  simp only [if_true] at a1 a2 a3 a4 f1 f2
  simp only [show ¬ (1 = 0) by omega, if_false] at a3 a4 f1 f2
  omega

/-- The truths that are returned fit. -/
theorem truthAt_ok {T : Tab} (hv : T.Valid) (ha : Agrees T.toTable) {top : Bool} {m : Nat} {t : Tru} {h : H} (k : TruthAt T (endK T.toTable top) (endS top) m t h) : TruthOk T t := by
  have hok := hv.ok
  have hs : ∀ v, -12000000 ≤ hts (endK T.toTable top) v ∧ hts (endK T.toTable top) v ≤ 12000000 := fun v => by
    cases top
    · have := low_small hok ha v
      unfold AgreeS.M at this
      exact this
    · have := high_small hok ha v
      unfold AgreeS.M at this
      exact this
  have hf : Fits T.toTable (fun i => endS top * hts (endK T.toTable top) (1 + i)) (fun j => -(endS top * hts (endK T.toTable top) (1 + T.tanks.toNat + j))) := by
    cases top
    · have := low_fits hok ha
      refine this.congr hok (fun i _ => ?_) (fun j _ => ?_)
      · show 1 * _ = _; rw [Int.one_mul]; rfl
      · show -(1 * _) = _; rw [Int.one_mul]; rfl
    · have := high_fits hok ha
      refine this.congr hok (fun i _ => ?_) (fun j _ => ?_)
      · show -1 * hts (AgreeS.found (turn (netOf T.toTable)) T.toTable.many 0).known (1 + i) = -hts (AgreeS.found (turn (netOf T.toTable)) T.toTable.many 0).known (1 + i); omega
      · show -(-1 * hts (AgreeS.found (turn (netOf T.toTable)) T.toTable.many 0).known (1 + T.tanks.toNat + j)) = hts (AgreeS.found (turn (netOf T.toTable)) T.toTable.many 0).known (1 + T.tanks.toNat + j); omega
  have hsg : ∀ v, -12000000 ≤ endS top * hts (endK T.toTable top) v ∧ endS top * hts (endK T.toTable top) v ≤ 12000000 := fun v => by
    have := hs v
    cases top <;> simp only [endS] <;> first | (simp only [if_true]; omega) | (simp only [Bool.false_eq_true, if_false]; omega)
  have han := k.an
  have hcn := k.cn
  refine ⟨han, hcn, fun i hi => ?_, fun j hj => ?_, fun i hi => ?_, fun i hi => ?_⟩
  · rw [k.af i hi]; have := hsg (1 + i); omega
  · rw [k.cf j hj]; have := hsg (1 + T.tanks.toNat + j); omega
  · rw [k.af i hi]
    exact hf.bias i (by simp only [Tab.toTable]; omega)
  · have hfi := hv.f i hi
    rw [k.af _ (by omega), k.cf _ (by omega)]
    exact hf.test (T.f i).toTest (by rw [T.tests_eq]; exact List.mem_map_of_mem (Tab.mem_rs.2 ⟨i, hi, rfl⟩))
theorem truthAt_hull {T : Tab} {top : Bool} {m : Nat} {t : Tru} {h : H} (k : TruthAt T (endK T.toTable top) (endS top) m t h) {j : Nat} (hj : (j : Int) < T.hulls) : t.C.f j = if top then highX T.toTable j else lowX T.toTable j := by
  have hcn := k.cn
  rw [k.cf j (by omega)]
  cases top
  · show -(1 * _) = lowX T.toTable j; rw [Int.one_mul]; rfl
  · show -(-1 * hts (AgreeS.found (turn (netOf T.toTable)) T.toTable.many 0).known (1 + T.tanks.toNat + j)) = hts (AgreeS.found (turn (netOf T.toTable)) T.toTable.many 0).known (1 + T.tanks.toNat + j)
    omega
/-- A truth is accepted just if it fits. -/
theorem truthOk_fits {T : Tab} (hv : T.Valid) {t : Tru} (k : TruthOk T t) : Fits T.toTable t.A.f t.C.f := by
  have h1 := k.an
  refine ⟨fun i hi => k.b i (by simp only [Tab.toTable] at hi; omega), fun y hy => ?_⟩
  rw [T.tests_eq] at hy
  obtain ⟨r, hr, rfl⟩ := List.mem_map.1 hy
  obtain ⟨i, hi, rfl⟩ := Tab.mem_rs.1 hr
  exact k.t i hi

end AE.Try
