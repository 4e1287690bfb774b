/- Walks of span: what comes in; searches in slices. -/
import Derived.Test.YtkkndecbijgolaaSpanCode
import Derived.Test.YtkkndecbijgolaaAEthree
import Derived.Test.YtkkndecbijgolaaSpanSpec
set_option linter.unusedVariables false
set_option linter.unusedSimpArgs false
set_option linter.unusedSectionVars false
namespace AE.Try
open Go AE Go.Proofs AE.Sp
set_option maxRecDepth 100000
set_option linter.unusedVariables false

theorem acall_of {g : FuncId} {first capt args xs : List Value} {lo : Nat} {h : H} {R : Value → H → Prop} (hc : AW Try.prog g lo h xs R) (e : first ++ args ++ capt = xs) : ∃ v h', R v h' ∧ ACall Try.prog (.func (.func g) ⟨first⟩ ⟨capt⟩) lo h args v h' := by
  obtain ⟨v, h', r, a⟩ := hc
  subst e
  exact ⟨v, h', r, a.acall⟩
theorem acall_mono {fv : Value} {args : List Value} {lo lo' : Nat} {h : H} {R : Value → H → Prop} (hc : ∃ v h', R v h' ∧ ACall Try.prog fv lo h args v h') (hl : lo' ≤ lo) : ∃ v h', R v h' ∧ ACall Try.prog fv lo' h args v h' :=
  let ⟨v, h', r, a⟩ := hc; ⟨v, h', r, a.mono hl⟩

/-- Numbers, as they come. -/
structure Arr where
  n : Nat
  f : Nat → Int
  b : Option Addr
  a : Addr
  c : Nat
def Arr.val (T : Arr) : Value := .slice T.b T.n T.c
structure Arr.Ok (T : Arr) (m : Nat) (h : H) : Prop where
  e : 0 < T.n → T.b = some T.a
  i : Ints h T.a T.n T.f
  r : 0 < T.n → T.a.block < m
  l : T.n ≤ 9223372036854775807
theorem Arr.Ok.same {T : Arr} {m m' : Nat} {h h' : H} (k : T.Ok m h) (s : Same m h h') (hm : m ≤ m') : T.Ok m' h' :=
  ⟨k.e, k.i.same s k.r, fun h => by have := k.r h; omega, k.l⟩
/-- A list of lists: sz cells each. -/
structure Mat where
  n : Nat
  w : Nat → Nat
  b : Option Addr
  a : Addr
  c : Nat
  rb : Nat → Option Addr
  ra : Nat → Addr
  rc : Nat → Nat
def Mat.val (M : Mat) : Value := .slice M.b M.n M.c
def Mat.row (M : Mat) (i : Nat) : Value := .slice (M.rb i) (M.w i) (M.rc i)
structure Mat.Ok (M : Mat) (sz : Nat) (el : Nat → Nat → List Value) (m : Nat) (h : H) : Prop where
  e : 0 < M.n → M.b = some M.a
  i : Vals h M.a M.n M.row
  r : 0 < M.n → M.a.block < m
  l : M.n ≤ 9223372036854775807
  re : ∀ i, i < M.n → 0 < M.w i → M.rb i = some (M.ra i)
  ri : ∀ i, i < M.n → Els h (M.ra i) (M.w i) sz (el i)
  rr : ∀ i, i < M.n → 0 < M.w i → (M.ra i).block < m
  rl : ∀ i, i < M.n → M.w i ≤ 9223372036854775807
theorem Mat.Ok.same {M : Mat} {sz : Nat} {el : Nat → Nat → List Value} {m m' : Nat} {h h' : H} (k : M.Ok sz el m h) (s : Same m h h') (hm : m ≤ m') : M.Ok sz el m' h' :=
  ⟨k.e, k.i.same s k.r, fun h => by have := k.r h; omega, k.l, k.re, fun i hi => (k.ri i hi).same s (k.rr i hi), fun i hi h => by have := k.rr i hi h; omega, k.rl⟩

/-- A run. -/
structure Run where
  p : Int
  q : Int
  lo : Int
  hi : Int
def Run.cells (x : Run) : List Value := [.int .i64 x.p, .int .i64 x.q, .int .i64 x.lo, .int .i64 x.hi]
/-- A side of a proof. -/
structure PS where
  r : Int
  up : Bool
  t : Int
def PS.cells (x : PS) : List Value := [.int .i64 x.r, .bool x.up, .int .i64 x.t]
/-- Bounds. -/
structure Rg where
  lo : Int
  hi : Int
def Rg.cells (x : Rg) : List Value := [.int .i64 x.lo, .int .i64 x.hi]

/-- Runs, as they come. -/
structure Runs where
  n : Nat
  f : Nat → Run
  b : Option Addr
  a : Addr
  c : Nat
structure Runs.Ok (T : Runs) (m : Nat) (h : H) : Prop where
  e : 0 < T.n → T.b = some T.a
  i : Els h T.a T.n 4 (fun i => (T.f i).cells)
  r : 0 < T.n → T.a.block < m
  l : T.n ≤ 9223372036854775807
theorem Runs.Ok.same {T : Runs} {m m' : Nat} {h h' : H} (k : T.Ok m h) (s : Same m h h') (hm : m ≤ m') : T.Ok m' h' :=
  ⟨k.e, k.i.same s k.r, fun h => by have := k.r h; omega, k.l⟩

/-- Sides of a proof, as they come. -/
structure PSs where
  n : Nat
  f : Nat → PS
  b : Option Addr
  a : Addr
  c : Nat
structure PSs.Ok (T : PSs) (m : Nat) (h : H) : Prop where
  e : 0 < T.n → T.b = some T.a
  i : Els h T.a T.n 3 (fun i => (T.f i).cells)
  r : 0 < T.n → T.a.block < m
  l : T.n ≤ 9223372036854775807
theorem PSs.Ok.same {T : PSs} {m m' : Nat} {h h' : H} (k : T.Ok m h) (s : Same m h h') (hm : m ≤ m') : T.Ok m' h' :=
  ⟨k.e, k.i.same s k.r, fun h => by have := k.r h; omega, k.l⟩

/-- Bounds, as they come. -/
structure Rgs where
  n : Nat
  f : Nat → Rg
  b : Option Addr
  a : Addr
  c : Nat
structure Rgs.Ok (T : Rgs) (m : Nat) (h : H) : Prop where
  e : 0 < T.n → T.b = some T.a
  i : Els h T.a T.n 2 (fun i => (T.f i).cells)
  r : 0 < T.n → T.a.block < m
  l : T.n ≤ 9223372036854775807
theorem Rgs.Ok.same {T : Rgs} {m m' : Nat} {h h' : H} (k : T.Ok m h) (s : Same m h h') (hm : m ≤ m') : T.Ok m' h' :=
  ⟨k.e, k.i.same s k.r, fun h => by have := k.r h; omega, k.l⟩


theorem indexInts_w {h : H} {T : Arr} {m : Nat} (hm : m ≤ h.next) (hT : T.Ok m h) {pf : Value} {p : Nat → Bool} (hy : ∀ i h1, i < T.n → Quiet h.next h h1 → ∃ v h2, v = .bool (p i) ∧ ACall Try.prog pf h1.next h1 [.int .i64 (T.f i)] v h2) :
    AW Try.prog 89 h.next h [.slice T.b T.n T.c, pf] (fun v _ => ∃ z, v = .int .i64 z ∧ (0 ≤ z ↔ ∃ i, i < T.n ∧ p i = true)) := by
  obtain ⟨e1, i1, r1, l1⟩ := hT
  refine fun89.call rfl (Nat.le_refl _) ?_
  unfold a89
  (focus ((try with_reducible apply wpC.to); (repeat' ((conv => whnf); first | refine byEv ?_ | (apply Fork.mk <;> (intro _; try (exfalso; omega))) | fail)); all_goals ((conv => whnf); try with_reducible apply At.mk)))
  refine wp_loop (fun s : Nat => [(0, .slice T.b T.n T.c), (1, pf), (7, .int .i64 T.n), (8, .int .i64 s)]) (fun s h1 => Quiet h.next h h1 ∧ s ≤ T.n ∧ ∀ i, i < s → p i = false) (fun s => T.n - s) 0 ⟨rfl, rfl, rfl, rfl, trivial⟩ ⟨?_, by omega, fun i hi => by omega⟩ ?_
  · (exact byQuiet)
  rintro s g h1 ⟨q, hs, hp⟩ K hK
  have hnx := q.next
  (focus ((try with_reducible apply wpC.to); (repeat' ((conv => whnf); first | refine byEv ?_ | (apply Fork.mk <;> (intro _; try (exfalso; omega))) | fail)); all_goals ((conv => whnf); try with_reducible apply At.mk)))
  · apply q_calla
    focus exact acall_mono (hy s _ (by omega) byQuiet) byOm
    rintro _ h2 rfl q2
    have hnx2 := q2.next
    cases hb : p s with
    | true =>
      (focus ((try with_reducible apply wpC.to); (repeat' ((conv => whnf); first | refine byEv ?_ | (apply Fork.mk <;> (intro _; try (exfalso; omega))) | fail)); all_goals ((conv => whnf); try with_reducible apply At.mk)))
      (refine byFin ?_)
      exact ⟨_, rfl, ⟨fun _ => ⟨s, by omega, hb⟩, fun _ => by omega⟩⟩
    | false =>
      (focus ((try with_reducible apply wpC.to); (repeat' ((conv => whnf); first | refine byEv ?_ | (apply Fork.mk <;> (intro _; try (exfalso; omega))) | fail)); all_goals ((conv => whnf); try with_reducible apply At.mk)))
      refine hK (s + 1) _ _ ⟨rfl, rfl, rfl, int_of rfl (by omega), trivial⟩ ⟨byQuiet, by omega, fun i hi => ?_⟩ (by omega)
      by_cases e : i = s
      · subst e; exact hb
      · exact hp i (by omega)
  · (refine byFin ?_)
    refine ⟨_, rfl, ⟨fun h => by omega, fun ⟨i, hi, hpi⟩ => ?_⟩⟩
    rw [hp i (by omega)] at hpi
    cases hpi
theorem anyInts_w {h : H} {T : Arr} {m : Nat} (hm : m ≤ h.next) (hT : T.Ok m h) {pf : Value} {p : Nat → Bool} (hy : ∀ i h1, i < T.n → Quiet h.next h h1 → ∃ v h2, v = .bool (p i) ∧ ACall Try.prog pf h1.next h1 [.int .i64 (T.f i)] v h2) :
    AW Try.prog 74 h.next h [.slice T.b T.n T.c, pf] (fun v _ => v = .bool (decide (∃ i, i < T.n ∧ p i = true))) := by
  refine fun74.call rfl (Nat.le_refl _) ?_
  unfold a74
  (focus ((try with_reducible apply wpC.to); (repeat' ((conv => whnf); first | refine byEv ?_ | (apply Fork.mk <;> (intro _; try (exfalso; omega))) | fail)); all_goals ((conv => whnf); try with_reducible apply At.mk)))
  apply q_call
  focus (exact byNext)
  focus (exact byLo)
  focus exact indexInts_w (m := m) byOm (hT.same bySame (Nat.le_refl _)) fun i h1 hi q => hy i h1 hi (Quiet.trans byQuiet (q.mono byOm))
  rintro _ h1 ⟨z, rfl, hz⟩ q hn
  (focus ((try with_reducible apply wpC.to); (repeat' ((conv => whnf); first | refine byEv ?_ | (apply Fork.mk <;> (intro _; try (exfalso; omega))) | fail)); all_goals ((conv => whnf); try with_reducible apply At.mk)))
  all_goals (refine byFin ?_)
  · exact bool_t rfl (hz.1 (by omega))
  · exact bool_f rfl (fun h => by have := hz.2 h; omega)


theorem indexRuns_w {h : H} {T : Runs} {m : Nat} (hm : m ≤ h.next) (hT : T.Ok m h) {pf : Value} {p : Nat → Bool} (hy : ∀ i h1, i < T.n → Quiet h.next h h1 → ∃ v h2, v = .bool (p i) ∧ ACall Try.prog pf h1.next h1 [.agg ⟨(T.f i).cells⟩] v h2) :
    AW Try.prog 72 h.next h [.slice T.b T.n T.c, pf] (fun v _ => ∃ z, v = .int .i64 z ∧ (0 ≤ z ↔ ∃ i, i < T.n ∧ p i = true)) := by
  obtain ⟨e1, i1, r1, l1⟩ := hT
  refine fun72.call rfl (Nat.le_refl _) ?_
  unfold a72
  (focus ((try with_reducible apply wpC.to); (repeat' ((conv => whnf); first | refine byEv ?_ | (apply Fork.mk <;> (intro _; try (exfalso; omega))) | fail)); all_goals ((conv => whnf); try with_reducible apply At.mk)))
  refine wp_loop (fun s : Nat => [(0, .slice T.b T.n T.c), (1, pf), (7, .int .i64 T.n), (8, .int .i64 s)]) (fun s h1 => Quiet h.next h h1 ∧ s ≤ T.n ∧ ∀ i, i < s → p i = false) (fun s => T.n - s) 0 ⟨rfl, rfl, rfl, rfl, trivial⟩ ⟨?_, by omega, fun i hi => by omega⟩ ?_
  · (exact byQuiet)
  rintro s g h1 ⟨q, hs, hp⟩ K hK
  have hnx := q.next
  (focus ((try with_reducible apply wpC.to); (repeat' ((conv => whnf); first | refine byEv ?_ | (apply Fork.mk <;> (intro _; try (exfalso; omega))) | fail)); all_goals ((conv => whnf); try with_reducible apply At.mk)))
  · apply q_calla
    focus exact acall_mono (hy s _ (by omega) byQuiet) byOm
    rintro _ h2 rfl q2
    have hnx2 := q2.next
    cases hb : p s with
    | true =>
      (focus ((try with_reducible apply wpC.to); (repeat' ((conv => whnf); first | refine byEv ?_ | (apply Fork.mk <;> (intro _; try (exfalso; omega))) | fail)); all_goals ((conv => whnf); try with_reducible apply At.mk)))
      (refine byFin ?_)
      exact ⟨_, rfl, ⟨fun _ => ⟨s, by omega, hb⟩, fun _ => by omega⟩⟩
    | false =>
      (focus ((try with_reducible apply wpC.to); (repeat' ((conv => whnf); first | refine byEv ?_ | (apply Fork.mk <;> (intro _; try (exfalso; omega))) | fail)); all_goals ((conv => whnf); try with_reducible apply At.mk)))
      refine hK (s + 1) _ _ ⟨rfl, rfl, rfl, int_of rfl (by omega), trivial⟩ ⟨byQuiet, by omega, fun i hi => ?_⟩ (by omega)
      by_cases e : i = s
      · subst e; exact hb
      · exact hp i (by omega)
  · (refine byFin ?_)
    refine ⟨_, rfl, ⟨fun h => by omega, fun ⟨i, hi, hpi⟩ => ?_⟩⟩
    rw [hp i (by omega)] at hpi
    cases hpi
theorem anyRuns_w {h : H} {T : Runs} {m : Nat} (hm : m ≤ h.next) (hT : T.Ok m h) {pf : Value} {p : Nat → Bool} (hy : ∀ i h1, i < T.n → Quiet h.next h h1 → ∃ v h2, v = .bool (p i) ∧ ACall Try.prog pf h1.next h1 [.agg ⟨(T.f i).cells⟩] v h2) :
    AW Try.prog 37 h.next h [.slice T.b T.n T.c, pf] (fun v _ => v = .bool (decide (∃ i, i < T.n ∧ p i = true))) := by
  refine fun37.call rfl (Nat.le_refl _) ?_
  unfold a37
  (focus ((try with_reducible apply wpC.to); (repeat' ((conv => whnf); first | refine byEv ?_ | (apply Fork.mk <;> (intro _; try (exfalso; omega))) | fail)); all_goals ((conv => whnf); try with_reducible apply At.mk)))
  apply q_call
  focus (exact byNext)
  focus (exact byLo)
  focus exact indexRuns_w (m := m) byOm (hT.same bySame (Nat.le_refl _)) fun i h1 hi q => hy i h1 hi (Quiet.trans byQuiet (q.mono byOm))
  rintro _ h1 ⟨z, rfl, hz⟩ q hn
  (focus ((try with_reducible apply wpC.to); (repeat' ((conv => whnf); first | refine byEv ?_ | (apply Fork.mk <;> (intro _; try (exfalso; omega))) | fail)); all_goals ((conv => whnf); try with_reducible apply At.mk)))
  all_goals (refine byFin ?_)
  · exact bool_t rfl (hz.1 (by omega))
  · exact bool_f rfl (fun h => by have := hz.2 h; omega)


theorem indexPSs_w {h : H} {T : PSs} {m : Nat} (hm : m ≤ h.next) (hT : T.Ok m h) {pf : Value} {p : Nat → Bool} (hy : ∀ i h1, i < T.n → Quiet h.next h h1 → ∃ v h2, v = .bool (p i) ∧ ACall Try.prog pf h1.next h1 [.agg ⟨(T.f i).cells⟩] v h2) :
    AW Try.prog 85 h.next h [.slice T.b T.n T.c, pf] (fun v _ => ∃ z, v = .int .i64 z ∧ (0 ≤ z ↔ ∃ i, i < T.n ∧ p i = true)) := by
  obtain ⟨e1, i1, r1, l1⟩ := hT
  refine fun85.call rfl (Nat.le_refl _) ?_
  unfold a85
  (focus ((try with_reducible apply wpC.to); (repeat' ((conv => whnf); first | refine byEv ?_ | (apply Fork.mk <;> (intro _; try (exfalso; omega))) | fail)); all_goals ((conv => whnf); try with_reducible apply At.mk)))
  refine wp_loop (fun s : Nat => [(0, .slice T.b T.n T.c), (1, pf), (7, .int .i64 T.n), (8, .int .i64 s)]) (fun s h1 => Quiet h.next h h1 ∧ s ≤ T.n ∧ ∀ i, i < s → p i = false) (fun s => T.n - s) 0 ⟨rfl, rfl, rfl, rfl, trivial⟩ ⟨?_, by omega, fun i hi => by omega⟩ ?_
  · (exact byQuiet)
  rintro s g h1 ⟨q, hs, hp⟩ K hK
  have hnx := q.next
  (focus ((try with_reducible apply wpC.to); (repeat' ((conv => whnf); first | refine byEv ?_ | (apply Fork.mk <;> (intro _; try (exfalso; omega))) | fail)); all_goals ((conv => whnf); try with_reducible apply At.mk)))
  · apply q_calla
    focus exact acall_mono (hy s _ (by omega) byQuiet) byOm
    rintro _ h2 rfl q2
    have hnx2 := q2.next
    cases hb : p s with
    | true =>
      (focus ((try with_reducible apply wpC.to); (repeat' ((conv => whnf); first | refine byEv ?_ | (apply Fork.mk <;> (intro _; try (exfalso; omega))) | fail)); all_goals ((conv => whnf); try with_reducible apply At.mk)))
      (refine byFin ?_)
      exact ⟨_, rfl, ⟨fun _ => ⟨s, by omega, hb⟩, fun _ => by omega⟩⟩
    | false =>
      (focus ((try with_reducible apply wpC.to); (repeat' ((conv => whnf); first | refine byEv ?_ | (apply Fork.mk <;> (intro _; try (exfalso; omega))) | fail)); all_goals ((conv => whnf); try with_reducible apply At.mk)))
      refine hK (s + 1) _ _ ⟨rfl, rfl, rfl, int_of rfl (by omega), trivial⟩ ⟨byQuiet, by omega, fun i hi => ?_⟩ (by omega)
      by_cases e : i = s
      · subst e; exact hb
      · exact hp i (by omega)
  · (refine byFin ?_)
    refine ⟨_, rfl, ⟨fun h => by omega, fun ⟨i, hi, hpi⟩ => ?_⟩⟩
    rw [hp i (by omega)] at hpi
    cases hpi
theorem anyPSs_w {h : H} {T : PSs} {m : Nat} (hm : m ≤ h.next) (hT : T.Ok m h) {pf : Value} {p : Nat → Bool} (hy : ∀ i h1, i < T.n → Quiet h.next h h1 → ∃ v h2, v = .bool (p i) ∧ ACall Try.prog pf h1.next h1 [.agg ⟨(T.f i).cells⟩] v h2) :
    AW Try.prog 57 h.next h [.slice T.b T.n T.c, pf] (fun v _ => v = .bool (decide (∃ i, i < T.n ∧ p i = true))) := by
  refine fun57.call rfl (Nat.le_refl _) ?_
  unfold a57
  (focus ((try with_reducible apply wpC.to); (repeat' ((conv => whnf); first | refine byEv ?_ | (apply Fork.mk <;> (intro _; try (exfalso; omega))) | fail)); all_goals ((conv => whnf); try with_reducible apply At.mk)))
  apply q_call
  focus (exact byNext)
  focus (exact byLo)
  focus exact indexPSs_w (m := m) byOm (hT.same bySame (Nat.le_refl _)) fun i h1 hi q => hy i h1 hi (Quiet.trans byQuiet (q.mono byOm))
  rintro _ h1 ⟨z, rfl, hz⟩ q hn
  (focus ((try with_reducible apply wpC.to); (repeat' ((conv => whnf); first | refine byEv ?_ | (apply Fork.mk <;> (intro _; try (exfalso; omega))) | fail)); all_goals ((conv => whnf); try with_reducible apply At.mk)))
  all_goals (refine byFin ?_)
  · exact bool_t rfl (hz.1 (by omega))
  · exact bool_f rfl (fun h => by have := hz.2 h; omega)


theorem indexRgs_w {h : H} {T : Rgs} {m : Nat} (hm : m ≤ h.next) (hT : T.Ok m h) {pf : Value} {p : Nat → Bool} (hy : ∀ i h1, i < T.n → Quiet h.next h h1 → ∃ v h2, v = .bool (p i) ∧ ACall Try.prog pf h1.next h1 [.agg ⟨(T.f i).cells⟩] v h2) :
    AW Try.prog 97 h.next h [.slice T.b T.n T.c, pf] (fun v _ => ∃ z, v = .int .i64 z ∧ (0 ≤ z ↔ ∃ i, i < T.n ∧ p i = true)) := by
  obtain ⟨e1, i1, r1, l1⟩ := hT
  refine fun97.call rfl (Nat.le_refl _) ?_
  unfold a97
  (focus ((try with_reducible apply wpC.to); (repeat' ((conv => whnf); first | refine byEv ?_ | (apply Fork.mk <;> (intro _; try (exfalso; omega))) | fail)); all_goals ((conv => whnf); try with_reducible apply At.mk)))
  refine wp_loop (fun s : Nat => [(0, .slice T.b T.n T.c), (1, pf), (7, .int .i64 T.n), (8, .int .i64 s)]) (fun s h1 => Quiet h.next h h1 ∧ s ≤ T.n ∧ ∀ i, i < s → p i = false) (fun s => T.n - s) 0 ⟨rfl, rfl, rfl, rfl, trivial⟩ ⟨?_, by omega, fun i hi => by omega⟩ ?_
  · (exact byQuiet)
  rintro s g h1 ⟨q, hs, hp⟩ K hK
  have hnx := q.next
  (focus ((try with_reducible apply wpC.to); (repeat' ((conv => whnf); first | refine byEv ?_ | (apply Fork.mk <;> (intro _; try (exfalso; omega))) | fail)); all_goals ((conv => whnf); try with_reducible apply At.mk)))
  · apply q_calla
    focus exact acall_mono (hy s _ (by omega) byQuiet) byOm
    rintro _ h2 rfl q2
    have hnx2 := q2.next
    cases hb : p s with
    | true =>
      (focus ((try with_reducible apply wpC.to); (repeat' ((conv => whnf); first | refine byEv ?_ | (apply Fork.mk <;> (intro _; try (exfalso; omega))) | fail)); all_goals ((conv => whnf); try with_reducible apply At.mk)))
      (refine byFin ?_)
      exact ⟨_, rfl, ⟨fun _ => ⟨s, by omega, hb⟩, fun _ => by omega⟩⟩
    | false =>
      (focus ((try with_reducible apply wpC.to); (repeat' ((conv => whnf); first | refine byEv ?_ | (apply Fork.mk <;> (intro _; try (exfalso; omega))) | fail)); all_goals ((conv => whnf); try with_reducible apply At.mk)))
      refine hK (s + 1) _ _ ⟨rfl, rfl, rfl, int_of rfl (by omega), trivial⟩ ⟨byQuiet, by omega, fun i hi => ?_⟩ (by omega)
      by_cases e : i = s
      · subst e; exact hb
      · exact hp i (by omega)
  · (refine byFin ?_)
    refine ⟨_, rfl, ⟨fun h => by omega, fun ⟨i, hi, hpi⟩ => ?_⟩⟩
    rw [hp i (by omega)] at hpi
    cases hpi
theorem anyRgs_w {h : H} {T : Rgs} {m : Nat} (hm : m ≤ h.next) (hT : T.Ok m h) {pf : Value} {p : Nat → Bool} (hy : ∀ i h1, i < T.n → Quiet h.next h h1 → ∃ v h2, v = .bool (p i) ∧ ACall Try.prog pf h1.next h1 [.agg ⟨(T.f i).cells⟩] v h2) :
    AW Try.prog 87 h.next h [.slice T.b T.n T.c, pf] (fun v _ => v = .bool (decide (∃ i, i < T.n ∧ p i = true))) := by
  refine fun87.call rfl (Nat.le_refl _) ?_
  unfold a87
  (focus ((try with_reducible apply wpC.to); (repeat' ((conv => whnf); first | refine byEv ?_ | (apply Fork.mk <;> (intro _; try (exfalso; omega))) | fail)); all_goals ((conv => whnf); try with_reducible apply At.mk)))
  apply q_call
  focus (exact byNext)
  focus (exact byLo)
  focus exact indexRgs_w (m := m) byOm (hT.same bySame (Nat.le_refl _)) fun i h1 hi q => hy i h1 hi (Quiet.trans byQuiet (q.mono byOm))
  rintro _ h1 ⟨z, rfl, hz⟩ q hn
  (focus ((try with_reducible apply wpC.to); (repeat' ((conv => whnf); first | refine byEv ?_ | (apply Fork.mk <;> (intro _; try (exfalso; omega))) | fail)); all_goals ((conv => whnf); try with_reducible apply At.mk)))
  all_goals (refine byFin ?_)
  · exact bool_t rfl (hz.1 (by omega))
  · exact bool_f rfl (fun h => by have := hz.2 h; omega)

end AE.Try
