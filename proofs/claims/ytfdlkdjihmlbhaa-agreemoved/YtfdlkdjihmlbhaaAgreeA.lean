/- Walks of agree: tables, small functions. -/
import Derived.Test.YtfdlkdjihmlbhaaAgreeCode
import Derived.Test.YtfdlkdjihmlbhaaAEthree
import Derived.Test.YtfdlkdjihmlbhaaAgreeCells
set_option linter.unusedVariables false
set_option linter.unusedSimpArgs false
set_option linter.unusedSectionVars false
namespace AE.Try
open Go AE AE.Ag AgreeS Go.Proofs
set_option maxRecDepth 100000

/-- A table as it comes: any numbers. -/
structure RTest where
  tank : Int
  hull : Int
  lo : Int
  hi : Int
def RTest.cells (x : RTest) : List Value := [.int .i64 x.tank, .int .i64 x.hull, .int .i64 x.lo, .int .i64 x.hi]
structure Tab where
  tanks : Int
  hulls : Int
  blo : Int
  bhi : Int
  n : Nat
  f : Nat → RTest
  b : Option Addr
  a : Addr
  c : Nat
def Tab.cells (T : Tab) : List Value := [.int .i64 T.tanks, .int .i64 T.hulls, .int .i64 T.blo, .int .i64 T.bhi, .slice T.b T.n T.c]
structure Tab.Ok (T : Tab) (m : Nat) (h : H) : Prop where
  e : 0 < T.n → T.b = some T.a
  i : Els h T.a T.n 4 (fun i => (T.f i).cells)
  r : 0 < T.n → T.a.block < m
  l : T.n ≤ 9223372036854775807
theorem Tab.Ok.same {T : Tab} {m m' : Nat} {h h' : H} (k : T.Ok m h) (s : Same m h h') (hm : m ≤ m') : T.Ok m' h' :=
  ⟨k.e, k.i.same s k.r, fun h => by have := k.r h; omega, k.l⟩

/-! ### searches -/

theorem acall_of {g : FuncId} {first capt args xs : List Value} {lo : Nat} {h : H} {R : Value → H → Prop} (hc : AW Try.prog g lo h xs R) (e : first ++ args ++ capt = xs) : ∃ v h', R v h' ∧ ACall Try.prog (.func (.func g) ⟨first⟩ ⟨capt⟩) lo h args v h' := by
  obtain ⟨v, h', r, a⟩ := hc
  subst e
  exact ⟨v, h', r, a.acall⟩
theorem acall_lo {g : FuncId} {first capt args xs : List Value} {lo : Nat} {h : H} {R : Value → H → Prop} (hl : lo ≤ h.next) (hc : AW Try.prog g h.next h xs R) (e : first ++ args ++ capt = xs) : ∃ v h', R v h' ∧ ACall Try.prog (.func (.func g) ⟨first⟩ ⟨capt⟩) lo h args v h' := by
  obtain ⟨v, h', r, a⟩ := hc
  subst e
  exact ⟨v, h', r, (a.mono hl).acall⟩

theorem acall_mono {fv : Value} {args : List Value} {lo lo' : Nat} {h : H} {R : Value → H → Prop} (hc : ∃ v h', R v h' ∧ ACall Try.prog fv lo h args v h') (hl : lo' ≤ lo) : ∃ v h', R v h' ∧ ACall Try.prog fv lo' h args v h' :=
  let ⟨v, h', r, a⟩ := hc; ⟨v, h', r, a.mono hl⟩

/-- Element i of a slice of numbers, as it comes. -/
structure Arr where
  n : Nat
  f : Nat → Int
  b : Option Addr
  a : Addr
  c : Nat
def Arr.val (T : Arr) : Value := .slice T.b T.n T.c
structure Arr.Ok (T : Arr) (m : Nat) (h : H) : Prop where
  e : 0 < T.n → T.b = some T.a
  i : Ints h T.a T.n T.f
  r : 0 < T.n → T.a.block < m
  l : T.n ≤ 9223372036854775807
theorem Arr.Ok.same {T : Arr} {m m' : Nat} {h h' : H} (k : T.Ok m h) (s : Same m h h') (hm : m ≤ m') : T.Ok m' h' :=
  ⟨k.e, k.i.same s k.r, fun h => by have := k.r h; omega, k.l⟩

theorem indexTests_w {h : H} {T : Tab} {m : Nat} (hm : m ≤ h.next) (hT : T.Ok m h) {pf : Value} {p : Nat → Bool} (hy : ∀ i h1, i < T.n → Quiet h.next h h1 → ∃ v h2, v = .bool (p i) ∧ ACall Try.prog pf h1.next h1 [.agg ⟨(T.f i).cells⟩] v h2) :
    AW Try.prog 59 h.next h [.slice T.b T.n T.c, pf] (fun v _ => ∃ z, v = .int .i64 z ∧ (0 ≤ z ↔ ∃ i, i < T.n ∧ p i = true)) := by
  obtain ⟨e1, i1, r1, l1⟩ := hT
  refine fun59.call rfl (Nat.le_refl _) ?_
  unfold a59
  (focus ((try with_reducible apply wpC.to); (repeat' ((conv => whnf); first | ((apply Start.mk); (focus exact byNext); (focus exact byLen)) | ((apply Need.mk); (focus exact byNeed)) | ((apply Fork.mk) <;> (intro _; try (exfalso; omega; done))) | ((apply LoadN.mk); (focus exact byMem); (focus exact byList)) | ((with_reducible apply Ix.nat); (focus exact rfl); (focus omega)) | ((with_reducible apply Ix.natp); (focus assumption); (focus omega)) | ((with_reducible apply Ix.pred); (focus first | assumption | exact fun _ => rfl); (focus omega); (focus omega)) | ((with_reducible apply Ix.lit); (focus exact byLit); (focus first | assumption | exact fun _ => rfl); (focus omega); (focus omega)) | ((with_reducible apply Ix.int); (focus exact rfl); (focus omega); (focus omega)) | ((with_reducible apply Ix.intp); (focus assumption); (focus omega); (focus omega)) | apply callC_any | apply forceV_any | apply forceL_any)); all_goals (conv => whnf); all_goals (try with_reducible apply At.mk)))
  refine wp_loop (fun s : Nat => [(0, .slice T.b T.n T.c), (1, pf), (7, .int .i64 T.n), (8, .int .i64 s)]) (fun s h1 => Quiet h.next h h1 ∧ s ≤ T.n ∧ ∀ i, i < s → p i = false) (fun s => T.n - s) 0 ⟨rfl, rfl, rfl, rfl, trivial⟩ ⟨?_, by omega, fun i hi => by omega⟩ ?_
  · (exact byQuiet)
  rintro s g h1 ⟨q, hs, hp⟩ K hK
  have hnx := q.next
  (focus ((try with_reducible apply wpC.to); (repeat' ((conv => whnf); first | ((apply Start.mk); (focus exact byNext); (focus exact byLen)) | ((apply Need.mk); (focus exact byNeed)) | ((apply Fork.mk) <;> (intro _; try (exfalso; omega; done))) | ((apply LoadN.mk); (focus exact byMem); (focus exact byList)) | ((with_reducible apply Ix.nat); (focus exact rfl); (focus omega)) | ((with_reducible apply Ix.natp); (focus assumption); (focus omega)) | ((with_reducible apply Ix.pred); (focus first | assumption | exact fun _ => rfl); (focus omega); (focus omega)) | ((with_reducible apply Ix.lit); (focus exact byLit); (focus first | assumption | exact fun _ => rfl); (focus omega); (focus omega)) | ((with_reducible apply Ix.int); (focus exact rfl); (focus omega); (focus omega)) | ((with_reducible apply Ix.intp); (focus assumption); (focus omega); (focus omega)) | apply callC_any | apply forceV_any | apply forceL_any)); all_goals (conv => whnf); all_goals (try with_reducible apply At.mk)))
  · apply q_calla
    focus exact acall_mono (hy s _ (by omega) (by (exact byQuiet))) (by (exact byOm))
    rintro _ h2 rfl q2
    have hnx2 := q2.next
    cases hb : p s with
    | true =>
      (focus ((try with_reducible apply wpC.to); (repeat' ((conv => whnf); first | ((apply Start.mk); (focus exact byNext); (focus exact byLen)) | ((apply Need.mk); (focus exact byNeed)) | ((apply Fork.mk) <;> (intro _; try (exfalso; omega; done))) | ((apply LoadN.mk); (focus exact byMem); (focus exact byList)) | ((with_reducible apply Ix.nat); (focus exact rfl); (focus omega)) | ((with_reducible apply Ix.natp); (focus assumption); (focus omega)) | ((with_reducible apply Ix.pred); (focus first | assumption | exact fun _ => rfl); (focus omega); (focus omega)) | ((with_reducible apply Ix.lit); (focus exact byLit); (focus first | assumption | exact fun _ => rfl); (focus omega); (focus omega)) | ((with_reducible apply Ix.int); (focus exact rfl); (focus omega); (focus omega)) | ((with_reducible apply Ix.intp); (focus assumption); (focus omega); (focus omega)) | apply callC_any | apply forceV_any | apply forceL_any)); all_goals (conv => whnf); all_goals (try with_reducible apply At.mk)))
      (first | (apply fin1; (focus first | exact .inl rfl | exact .inr rfl); focus exact byR1) | (apply fin2; (focus first | exact .inl rfl | exact .inr rfl); (focus exact byR1); (focus exact byR1)) | (apply fin3; (focus first | exact .inl rfl | exact .inr rfl); (focus exact byR1); (focus exact byR1); (focus exact byR1)) | (apply fin0; (focus first | exact .inl rfl | exact .inr rfl)))
      exact ⟨_, rfl, ⟨fun _ => ⟨s, by omega, hb⟩, fun _ => by omega⟩⟩
    | false =>
      (focus ((try with_reducible apply wpC.to); (repeat' ((conv => whnf); first | ((apply Start.mk); (focus exact byNext); (focus exact byLen)) | ((apply Need.mk); (focus exact byNeed)) | ((apply Fork.mk) <;> (intro _; try (exfalso; omega; done))) | ((apply LoadN.mk); (focus exact byMem); (focus exact byList)) | ((with_reducible apply Ix.nat); (focus exact rfl); (focus omega)) | ((with_reducible apply Ix.natp); (focus assumption); (focus omega)) | ((with_reducible apply Ix.pred); (focus first | assumption | exact fun _ => rfl); (focus omega); (focus omega)) | ((with_reducible apply Ix.lit); (focus exact byLit); (focus first | assumption | exact fun _ => rfl); (focus omega); (focus omega)) | ((with_reducible apply Ix.int); (focus exact rfl); (focus omega); (focus omega)) | ((with_reducible apply Ix.intp); (focus assumption); (focus omega); (focus omega)) | apply callC_any | apply forceV_any | apply forceL_any)); all_goals (conv => whnf); all_goals (try with_reducible apply At.mk)))
      refine hK (s + 1) _ _ ⟨rfl, rfl, rfl, int_of rfl (by omega), trivial⟩ ⟨by (exact byQuiet), by omega, fun i hi => ?_⟩ (by omega)
      by_cases e : i = s
      · subst e; exact hb
      · exact hp i (by omega)
  · (first | (apply fin1; (focus first | exact .inl rfl | exact .inr rfl); focus exact byR1) | (apply fin2; (focus first | exact .inl rfl | exact .inr rfl); (focus exact byR1); (focus exact byR1)) | (apply fin3; (focus first | exact .inl rfl | exact .inr rfl); (focus exact byR1); (focus exact byR1); (focus exact byR1)) | (apply fin0; (focus first | exact .inl rfl | exact .inr rfl)))
    refine ⟨_, rfl, ⟨fun h => by omega, fun ⟨i, hi, hpi⟩ => ?_⟩⟩
    rw [hp i (by omega)] at hpi
    cases hpi
theorem anyTests_w {h : H} {T : Tab} {m : Nat} (hm : m ≤ h.next) (hT : T.Ok m h) {pf : Value} {p : Nat → Bool} (hy : ∀ i h1, i < T.n → Quiet h.next h h1 → ∃ v h2, v = .bool (p i) ∧ ACall Try.prog pf h1.next h1 [.agg ⟨(T.f i).cells⟩] v h2) :
    AW Try.prog 45 h.next h [.slice T.b T.n T.c, pf] (fun v _ => v = .bool (decide (∃ i, i < T.n ∧ p i = true))) := by
  refine fun45.call rfl (Nat.le_refl _) ?_
  unfold a45
  (focus ((try with_reducible apply wpC.to); (repeat' ((conv => whnf); first | ((apply Start.mk); (focus exact byNext); (focus exact byLen)) | ((apply Fork.mk) <;> (intro _; try (exfalso; omega; done))) | ((with_reducible apply Ix.pred); (focus first | assumption | exact fun _ => rfl); (focus omega); (focus omega)) | apply forceV_any | apply forceL_any)); all_goals (conv => whnf); all_goals (try with_reducible apply At.mk)))
  apply q_call
  focus (exact byNext)
  focus (exact byLo)
  focus exact indexTests_w (m := m) (by (exact byOm)) (hT.same (by (exact bySame)) (Nat.le_refl _)) fun i h1 hi q => hy i h1 hi (Quiet.trans (by (exact byQuiet)) (q.mono (by (exact byOm))))
  rintro _ h1 ⟨z, rfl, hz⟩ q hn
  (focus ((try with_reducible apply wpC.to); (repeat' ((conv => whnf); first | ((apply Start.mk); (focus exact byNext); (focus exact byLen)) | ((apply Fork.mk) <;> (intro _; try (exfalso; omega; done))) | ((with_reducible apply Ix.pred); (focus first | assumption | exact fun _ => rfl); (focus omega); (focus omega)) | apply forceV_any | apply forceL_any)); all_goals (conv => whnf); all_goals (try with_reducible apply At.mk)))
  all_goals (first | (apply fin1; (focus first | exact .inl rfl | exact .inr rfl); focus exact byR1) | (apply fin2; (focus first | exact .inl rfl | exact .inr rfl); (focus exact byR1); (focus exact byR1)) | (apply fin3; (focus first | exact .inl rfl | exact .inr rfl); (focus exact byR1); (focus exact byR1); (focus exact byR1)) | (apply fin0; (focus first | exact .inl rfl | exact .inr rfl)))
  · exact bool_t rfl (hz.1 (by omega))
  · exact bool_f rfl (fun h => by have := hz.2 h; omega)

theorem indexInts_w {h : H} {T : Arr} {m : Nat} (hm : m ≤ h.next) (hT : T.Ok m h) {pf : Value} {p : Nat → Bool} (hy : ∀ i h1, i < T.n → Quiet h.next h h1 → ∃ v h2, v = .bool (p i) ∧ ACall Try.prog pf h1.next h1 [.int .i64 (T.f i)] v h2) :
    AW Try.prog 61 h.next h [.slice T.b T.n T.c, pf] (fun v _ => ∃ z, v = .int .i64 z ∧ (0 ≤ z ↔ ∃ i, i < T.n ∧ p i = true)) := by
  obtain ⟨e1, i1, r1, l1⟩ := hT
  refine fun61.call rfl (Nat.le_refl _) ?_
  unfold a61
  (focus ((try with_reducible apply wpC.to); (repeat' ((conv => whnf); first | ((apply Start.mk); (focus exact byNext); (focus exact byLen)) | ((apply Need.mk); (focus exact byNeed)) | ((apply Fork.mk) <;> (intro _; try (exfalso; omega; done))) | ((apply Load1.mk); (focus exact byMem); (focus exact byVal)) | ((with_reducible apply Ix.nat); (focus exact rfl); (focus omega)) | ((with_reducible apply Ix.natp); (focus assumption); (focus omega)) | ((with_reducible apply Ix.pred); (focus first | assumption | exact fun _ => rfl); (focus omega); (focus omega)) | ((with_reducible apply Ix.lit); (focus exact byLit); (focus first | assumption | exact fun _ => rfl); (focus omega); (focus omega)) | ((with_reducible apply Ix.int); (focus exact rfl); (focus omega); (focus omega)) | ((with_reducible apply Ix.intp); (focus assumption); (focus omega); (focus omega)) | apply callC_any | apply forceV_any | apply forceL_any)); all_goals (conv => whnf); all_goals (try with_reducible apply At.mk)))
  refine wp_loop (fun s : Nat => [(0, .slice T.b T.n T.c), (1, pf), (7, .int .i64 T.n), (8, .int .i64 s)]) (fun s h1 => Quiet h.next h h1 ∧ s ≤ T.n ∧ ∀ i, i < s → p i = false) (fun s => T.n - s) 0 ⟨rfl, rfl, rfl, rfl, trivial⟩ ⟨?_, by omega, fun i hi => by omega⟩ ?_
  · (exact byQuiet)
  rintro s g h1 ⟨q, hs, hp⟩ K hK
  have hnx := q.next
  (focus ((try with_reducible apply wpC.to); (repeat' ((conv => whnf); first | ((apply Start.mk); (focus exact byNext); (focus exact byLen)) | ((apply Need.mk); (focus exact byNeed)) | ((apply Fork.mk) <;> (intro _; try (exfalso; omega; done))) | ((apply Load1.mk); (focus exact byMem); (focus exact byVal)) | ((with_reducible apply Ix.nat); (focus exact rfl); (focus omega)) | ((with_reducible apply Ix.natp); (focus assumption); (focus omega)) | ((with_reducible apply Ix.pred); (focus first | assumption | exact fun _ => rfl); (focus omega); (focus omega)) | ((with_reducible apply Ix.lit); (focus exact byLit); (focus first | assumption | exact fun _ => rfl); (focus omega); (focus omega)) | ((with_reducible apply Ix.int); (focus exact rfl); (focus omega); (focus omega)) | ((with_reducible apply Ix.intp); (focus assumption); (focus omega); (focus omega)) | apply callC_any | apply forceV_any | apply forceL_any)); all_goals (conv => whnf); all_goals (try with_reducible apply At.mk)))
  · apply q_calla
    focus exact acall_mono (hy s _ (by omega) (by (exact byQuiet))) (by (exact byOm))
    rintro _ h2 rfl q2
    have hnx2 := q2.next
    cases hb : p s with
    | true =>
      (focus ((try with_reducible apply wpC.to); (repeat' ((conv => whnf); first | ((apply Start.mk); (focus exact byNext); (focus exact byLen)) | ((apply Need.mk); (focus exact byNeed)) | ((apply Fork.mk) <;> (intro _; try (exfalso; omega; done))) | ((apply Load1.mk); (focus exact byMem); (focus exact byVal)) | ((with_reducible apply Ix.nat); (focus exact rfl); (focus omega)) | ((with_reducible apply Ix.natp); (focus assumption); (focus omega)) | ((with_reducible apply Ix.pred); (focus first | assumption | exact fun _ => rfl); (focus omega); (focus omega)) | ((with_reducible apply Ix.lit); (focus exact byLit); (focus first | assumption | exact fun _ => rfl); (focus omega); (focus omega)) | ((with_reducible apply Ix.int); (focus exact rfl); (focus omega); (focus omega)) | ((with_reducible apply Ix.intp); (focus assumption); (focus omega); (focus omega)) | apply callC_any | apply forceV_any | apply forceL_any)); all_goals (conv => whnf); all_goals (try with_reducible apply At.mk)))
      (first | (apply fin1; (focus first | exact .inl rfl | exact .inr rfl); focus exact byR1) | (apply fin2; (focus first | exact .inl rfl | exact .inr rfl); (focus exact byR1); (focus exact byR1)) | (apply fin3; (focus first | exact .inl rfl | exact .inr rfl); (focus exact byR1); (focus exact byR1); (focus exact byR1)) | (apply fin0; (focus first | exact .inl rfl | exact .inr rfl)))
      exact ⟨_, rfl, ⟨fun _ => ⟨s, by omega, hb⟩, fun _ => by omega⟩⟩
    | false =>
      (focus ((try with_reducible apply wpC.to); (repeat' ((conv => whnf); first | ((apply Start.mk); (focus exact byNext); (focus exact byLen)) | ((apply Need.mk); (focus exact byNeed)) | ((apply Fork.mk) <;> (intro _; try (exfalso; omega; done))) | ((apply Load1.mk); (focus exact byMem); (focus exact byVal)) | ((with_reducible apply Ix.nat); (focus exact rfl); (focus omega)) | ((with_reducible apply Ix.natp); (focus assumption); (focus omega)) | ((with_reducible apply Ix.pred); (focus first | assumption | exact fun _ => rfl); (focus omega); (focus omega)) | ((with_reducible apply Ix.lit); (focus exact byLit); (focus first | assumption | exact fun _ => rfl); (focus omega); (focus omega)) | ((with_reducible apply Ix.int); (focus exact rfl); (focus omega); (focus omega)) | ((with_reducible apply Ix.intp); (focus assumption); (focus omega); (focus omega)) | apply callC_any | apply forceV_any | apply forceL_any)); all_goals (conv => whnf); all_goals (try with_reducible apply At.mk)))
      refine hK (s + 1) _ _ ⟨rfl, rfl, rfl, int_of rfl (by omega), trivial⟩ ⟨by (exact byQuiet), by omega, fun i hi => ?_⟩ (by omega)
      by_cases e : i = s
      · subst e; exact hb
      · exact hp i (by omega)
  · (first | (apply fin1; (focus first | exact .inl rfl | exact .inr rfl); focus exact byR1) | (apply fin2; (focus first | exact .inl rfl | exact .inr rfl); (focus exact byR1); (focus exact byR1)) | (apply fin3; (focus first | exact .inl rfl | exact .inr rfl); (focus exact byR1); (focus exact byR1); (focus exact byR1)) | (apply fin0; (focus first | exact .inl rfl | exact .inr rfl)))
    refine ⟨_, rfl, ⟨fun h => by omega, fun ⟨i, hi, hpi⟩ => ?_⟩⟩
    rw [hp i (by omega)] at hpi
    cases hpi
theorem anyInts_w {h : H} {T : Arr} {m : Nat} (hm : m ≤ h.next) (hT : T.Ok m h) {pf : Value} {p : Nat → Bool} (hy : ∀ i h1, i < T.n → Quiet h.next h h1 → ∃ v h2, v = .bool (p i) ∧ ACall Try.prog pf h1.next h1 [.int .i64 (T.f i)] v h2) :
    AW Try.prog 53 h.next h [.slice T.b T.n T.c, pf] (fun v _ => v = .bool (decide (∃ i, i < T.n ∧ p i = true))) := by
  refine fun53.call rfl (Nat.le_refl _) ?_
  unfold a53
  (focus ((try with_reducible apply wpC.to); (repeat' ((conv => whnf); first | ((apply Start.mk); (focus exact byNext); (focus exact byLen)) | ((apply Fork.mk) <;> (intro _; try (exfalso; omega; done))) | ((with_reducible apply Ix.pred); (focus first | assumption | exact fun _ => rfl); (focus omega); (focus omega)) | apply forceV_any | apply forceL_any)); all_goals (conv => whnf); all_goals (try with_reducible apply At.mk)))
  apply q_call
  focus (exact byNext)
  focus (exact byLo)
  focus exact indexInts_w (m := m) (by (exact byOm)) (hT.same (by (exact bySame)) (Nat.le_refl _)) fun i h1 hi q => hy i h1 hi (Quiet.trans (by (exact byQuiet)) (q.mono (by (exact byOm))))
  rintro _ h1 ⟨z, rfl, hz⟩ q hn
  (focus ((try with_reducible apply wpC.to); (repeat' ((conv => whnf); first | ((apply Start.mk); (focus exact byNext); (focus exact byLen)) | ((apply Fork.mk) <;> (intro _; try (exfalso; omega; done))) | ((with_reducible apply Ix.pred); (focus first | assumption | exact fun _ => rfl); (focus omega); (focus omega)) | apply forceV_any | apply forceL_any)); all_goals (conv => whnf); all_goals (try with_reducible apply At.mk)))
  all_goals (first | (apply fin1; (focus first | exact .inl rfl | exact .inr rfl); focus exact byR1) | (apply fin2; (focus first | exact .inl rfl | exact .inr rfl); (focus exact byR1); (focus exact byR1)) | (apply fin3; (focus first | exact .inl rfl | exact .inr rfl); (focus exact byR1); (focus exact byR1); (focus exact byR1)) | (apply fin0; (focus first | exact .inl rfl | exact .inr rfl)))
  · exact bool_t rfl (hz.1 (by omega))
  · exact bool_f rfl (fun h => by have := hz.2 h; omega)

/-! ### within, isRange -/

theorem beyond_w {h : H} {r : Nat} {n most : Int} {e : TypeId} (hg : h.get r = some (.cells [.int .i64 most] e)) (h0 : 0 ≤ most) (h1 : most ≤ 4611686018427387904) : AW Try.prog 54 h.next h [.int .i64 n, .pointer (some ⟨r, 0, none⟩)] (fun v _ => v = .bool (decide (n < -most ∨ most < n))) := by
  refine fun54.call rfl (Nat.le_refl _) ?_
  unfold a54
  (focus ((try with_reducible apply wpC.to); (repeat' ((conv => whnf); first | ((apply Start.mk); (focus exact byNext); (focus exact byLen)) | ((apply Need.mk); (focus exact byNeed)) | ((apply Fork.mk) <;> (intro _; try (exfalso; omega; done))) | ((apply Load1.mk); (focus exact byMem); (focus exact byVal)) | ((with_reducible apply Ix.pred); (focus first | assumption | exact fun _ => rfl); (focus omega); (focus omega)) | apply forceV_any | apply forceL_any)); all_goals (conv => whnf); all_goals (try with_reducible apply At.mk)))
  all_goals (((first | (apply fin1; (focus first | exact .inl rfl | exact .inr rfl); focus exact byR1) | (apply fin2; (focus first | exact .inl rfl | exact .inr rfl); (focus exact byR1); (focus exact byR1)) | (apply fin3; (focus first | exact .inl rfl | exact .inr rfl); (focus exact byR1); (focus exact byR1); (focus exact byR1)) | (apply fin0; (focus first | exact .inl rfl | exact .inr rfl))); first | exact bool_t rfl (by omega) | exact bool_f rfl (by omega)))

theorem within_w {h : H} {T : Arr} {m : Nat} {most : Int} (hm : m ≤ h.next) (hT : T.Ok m h) (h0 : 0 ≤ most) (h1 : most ≤ 4611686018427387904) :
    AW Try.prog 35 h.next h [.int .i64 most, .slice T.b T.n T.c] (fun v _ => v = .bool (decide (∀ i, i < T.n → -most ≤ T.f i ∧ T.f i ≤ most))) := by
  refine fun35.call rfl (Nat.le_refl _) ?_
  unfold a35
  (focus ((try with_reducible apply wpC.to); (repeat' ((conv => whnf); first | ((apply Start.mk); (focus exact byNext); (focus exact byLen)) | ((apply New.mk); (focus exact byNid)) | ((apply Need.mk); (focus exact byNeed)) | ((with_reducible apply Ix.pred); (focus first | assumption | exact fun _ => rfl); (focus omega); (focus omega)) | apply forceV_any | apply forceL_any)); all_goals (conv => whnf); all_goals (try with_reducible apply At.mk)))
  apply q_callB
  focus (exact byNext)
  focus (exact byLo)
  focus
    refine anyInts_w (m := m) (p := fun i => decide (T.f i < -most ∨ most < T.f i)) (by (exact byOm)) (hT.same (by (exact bySame)) (Nat.le_refl _)) fun i k1 hi q => ?_
    exact acall_of (beyond_w (e := 2) (r := h.next) (most := most) ((q.same _ (by (exact byOm))).trans (by (exact byGet))) h0 h1) rfl
  · intro hb h2 q hn
    (focus ((try with_reducible apply wpC.to); (repeat' ((conv => whnf); first | ((apply Start.mk); (focus exact byNext); (focus exact byLen)) | ((apply New.mk); (focus exact byNid)) | ((apply Need.mk); (focus exact byNeed)) | ((with_reducible apply Ix.pred); (focus first | assumption | exact fun _ => rfl); (focus omega); (focus omega)) | apply forceV_any | apply forceL_any)); all_goals (conv => whnf); all_goals (try with_reducible apply At.mk)))
    (first | (apply fin1; (focus first | exact .inl rfl | exact .inr rfl); focus exact byR1) | (apply fin2; (focus first | exact .inl rfl | exact .inr rfl); (focus exact byR1); (focus exact byR1)) | (apply fin3; (focus first | exact .inl rfl | exact .inr rfl); (focus exact byR1); (focus exact byR1); (focus exact byR1)) | (apply fin0; (focus first | exact .inl rfl | exact .inr rfl)))
    refine bool_f rfl fun hall => ?_
    obtain ⟨i, hi, h3⟩ := of_decide_eq_true hb
    have := hall i hi
    have := of_decide_eq_true h3
    omega
  · intro hb h2 q hn
    (focus ((try with_reducible apply wpC.to); (repeat' ((conv => whnf); first | ((apply Start.mk); (focus exact byNext); (focus exact byLen)) | ((apply New.mk); (focus exact byNid)) | ((apply Need.mk); (focus exact byNeed)) | ((with_reducible apply Ix.pred); (focus first | assumption | exact fun _ => rfl); (focus omega); (focus omega)) | apply forceV_any | apply forceL_any)); all_goals (conv => whnf); all_goals (try with_reducible apply At.mk)))
    (first | (apply fin1; (focus first | exact .inl rfl | exact .inr rfl); focus exact byR1) | (apply fin2; (focus first | exact .inl rfl | exact .inr rfl); (focus exact byR1); (focus exact byR1)) | (apply fin3; (focus first | exact .inl rfl | exact .inr rfl); (focus exact byR1); (focus exact byR1); (focus exact byR1)) | (apply fin0; (focus first | exact .inl rfl | exact .inr rfl)))
    refine bool_t rfl fun i hi => ?_
    have := of_decide_eq_false hb
    by_cases hx : T.f i < -most ∨ most < T.f i
    · exact absurd ⟨i, hi, decide_eq_true hx⟩ this
    · omega

end AE.Try
