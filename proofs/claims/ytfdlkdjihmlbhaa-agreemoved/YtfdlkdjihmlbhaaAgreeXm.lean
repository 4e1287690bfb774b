/- What the statements ask of tables that are changed. -/
import Derived.Test.YtfdlkdjihmlbhaaAgreeX
set_option linter.unusedVariables false
set_option linter.unusedSimpArgs false
set_option linter.unusedSectionVars false
namespace AE.Try
set_option linter.unusedSimpArgs false
set_option linter.unusedVariables false
open Go AE AE.Ag AgreeS Go.Proofs

/-- A table that has fewer truths. -/
theorem more_facts {T X : Table} (h : T.Ok) (h' : X.Ok) (hs : ∀ b x, Fits X b x → Fits T b x) (ht : ∀ j, Tested T j → Tested X j) (i j : Nat) :
    (sErr T i = 20 → sErr X i = 20 ∧ bErr T i j = 20 ∧ bErr X i j = 20) ∧ (sErr T i = 0 → sErr X i ≠ 20 → sErr X i = 0 ∧ sLo T i ≤ sLo X i ∧ sHi X i ≤ sHi T i ∧ sLo X i ≤ sHi X i) ∧
      (bErr T i j = 0 → bErr X i j ≠ 20 → bErr X i j = 0 ∧ bLo T i j ≤ bLo X i j ∧ bHi X i j ≤ bHi T i j ∧ bLo X i j ≤ bHi X i j) := by
  have hd : Agrees X → Agrees T := fun ⟨b, x, f⟩ => ⟨b, x, hs b x f⟩
  refine ⟨fun e => ?_, fun e1 e2 => ?_, fun e1 e2 => ?_⟩
  · have hn := sErr_doubt.1 e
    exact ⟨sErr_doubt.2 fun k => hn (hd k), bErr_doubt.2 hn, bErr_doubt.2 fun k => hn (hd k)⟩
  · obtain ⟨ha, hi⟩ := sErr_ok.1 e1
    have hax : Agrees X := Classical.byContradiction fun k => e2 (sErr_doubt.2 k)
    have e3 : sErr X i = 0 := sErr_ok.2 ⟨hax, ht i hi⟩
    rw [sLo_eq e1, sHi_eq e1, sLo_eq e3, sHi_eq e3]
    have := less_spread h h' hs hax hi
    have := low_high h' hax (ht i hi)
    omega
  · obtain ⟨ha, hi, hj⟩ := bErr_ok.1 e1
    have hax : Agrees X := Classical.byContradiction fun k => e2 (bErr_doubt.2 k)
    have e3 : bErr X i j = 0 := bErr_ok.2 ⟨hax, ht i hi, ht j hj⟩
    rw [bLo_eq e1, bHi_eq e1, bLo_eq e3, bHi_eq e3]
    have := less_far h h' hs hax hi hj (ht i hi) (ht j hj)
    have := less_far h h' hs hax hj hi (ht j hj) (ht i hi)
    have := far_back h' hax (ht i hi) (ht j hj)
    omega
/-- The other sign. -/
theorem turned_facts {T Y : Table} (h : T.Ok) (h' : Y.Ok) (hs : ∀ b x, Fits T b x → Fits Y (fun i => -b i) fun i => -x i) (hs' : ∀ b x, Fits Y b x → Fits T (fun i => -b i) fun i => -x i) (ht : ∀ j, Tested T j ↔ Tested Y j) (i j : Nat) :
    sErr Y i = sErr T i ∧ bErr Y i j = bErr T i j ∧ (sErr T i = 0 → sLo Y i = -sHi T i ∧ sHi Y i = -sLo T i) ∧ (bErr T i j = 0 → bLo Y i j = -bHi T i j ∧ bHi Y i j = -bLo T i j) := by
  have hd : Agrees Y ↔ Agrees T := ⟨fun ⟨b, x, f⟩ => ⟨_, _, hs' b x f⟩, fun ⟨b, x, f⟩ => ⟨_, _, hs b x f⟩⟩
  have e1 : sErr Y i = sErr T i := by
    unfold sErr
    by_cases ha : Agrees T <;> by_cases hi : Tested T i <;> simp [hd, ← ht i, ha, hi]
  have e2 : bErr Y i j = bErr T i j := by
    unfold bErr
    by_cases ha : Agrees T <;> by_cases hi : Tested T i <;> by_cases hj : Tested T j <;> simp [hd, ← ht i, ← ht j, ha, hi, hj]
  refine ⟨e1, e2, fun e => ?_, fun e => ?_⟩
  · obtain ⟨ha, hi⟩ := sErr_ok.1 e
    rw [e] at e1
    rw [sLo_eq e, sHi_eq e, sLo_eq e1, sHi_eq e1]
    exact turned_spread h h' hs hs' ha hi ((ht i).1 hi)
  · obtain ⟨ha, hi, hj⟩ := bErr_ok.1 e
    rw [e] at e2
    rw [bLo_eq e, bHi_eq e, bLo_eq e2, bHi_eq e2]
    have f1 := turned_far h h' hs hs' ha hi hj ((ht i).1 hi) ((ht j).1 hj)
    have f2 := turned_far h h' hs hs' ha hj hi ((ht j).1 hj) ((ht i).1 hi)
    omega
/-- A hull that is moved. -/
theorem moved_facts {T X : Table} (h : T.Ok) (h' : X.Ok) {i : Nat} {d : Int} (hs : ∀ b x, Fits T b x → ∃ b' x', Fits X b' x' ∧ x' i = x i + d) (hs' : ∀ b x, Fits X b x → ∃ b' x', Fits T b' x' ∧ x' i = x i - d) (ht : Tested T i ↔ Tested X i) :
    sErr X i = sErr T i ∧ (sErr T i = 0 → sLo X i = sLo T i + d ∧ sHi X i = sHi T i + d) := by
  have hd : Agrees X ↔ Agrees T := ⟨fun ⟨b, x, f⟩ => by obtain ⟨b', x', f', -⟩ := hs' b x f; exact ⟨b', x', f'⟩, fun ⟨b, x, f⟩ => by obtain ⟨b', x', f', -⟩ := hs b x f; exact ⟨b', x', f'⟩⟩
  have e1 : sErr X i = sErr T i := by
    unfold sErr
    by_cases ha : Agrees T <;> by_cases hi : Tested T i <;> simp [hd, ← ht, ha, hi]
  refine ⟨e1, fun e => ?_⟩
  obtain ⟨ha, hi⟩ := sErr_ok.1 e
  rw [e] at e1
  rw [sLo_eq e, sHi_eq e, sLo_eq e1, sHi_eq e1]
  exact moved_spread h h' hs hs' ha hi (ht.1 hi)

end AE.Try
