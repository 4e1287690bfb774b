/- Walks of chart: which charts are valid. -/
import Derived.Test.YtbfhhncmmllblaaChartA
set_option linter.unusedVariables false
set_option linter.unusedSimpArgs false
set_option linter.unusedSectionVars false
namespace AE.Try
open Go AE Go.Proofs
set_option maxRecDepth 100000
set_option linter.unusedVariables false

/-- A chart, as it comes. -/
structure Tbl where
  P : Arr
  A : Arr
  R : Mat
  lo : Nat → Nat → Int
  hi : Nat → Nat → Int
def Tbl.el (T : Tbl) (i k : Nat) : List Value := [.int .i64 (T.lo i k), .int .i64 (T.hi i k)]
def Tbl.cells (T : Tbl) : List Value := [.slice T.P.b T.P.n T.P.c, .slice T.A.b T.A.n T.A.c, .slice T.R.b T.R.n T.R.c]
structure Tbl.Ok (T : Tbl) (m : Nat) (h : H) : Prop where
  P : T.P.Ok m h
  A : T.A.Ok m h
  R : T.R.Ok 2 T.el m h
theorem Tbl.Ok.same {T : Tbl} {m m' : Nat} {h h' : H} (k : T.Ok m h) (s : Same m h h') (hm : m ≤ m') : T.Ok m' h' := ⟨k.P.same s hm, k.A.same s hm, k.R.same s hm⟩

/-! ### within, rising -/

theorem beyond_w {h : H} {r : Nat} {n most : Int} {e : TypeId} (hg : h.get r = some (.cells [.int .i64 most] e)) : AW Try.prog 94 h.next h [.int .i64 n, .pointer (some ⟨r, 0, none⟩)] (fun v _ => v = .bool (decide (n < 0 ∨ most < n))) := by
  refine fun94.call rfl (Nat.le_refl _) ?_
  unfold a94
  (focus ((try with_reducible apply wpC.to); (repeat' ((conv => whnf); first | refine byEv ?_ | ((apply Fork.mk) <;> (intro _; try (exfalso; omega; done))) | fail)); all_goals (conv => whnf); all_goals (try with_reducible apply At.mk)))
  all_goals ((refine byFin ?_); first | exact bool_t rfl (by omega) | exact bool_f rfl (by omega))

theorem within_w {h : H} {T : Arr} {m : Nat} {most : Int} (hm : m ≤ h.next) (hT : T.Ok m h) :
    AW Try.prog 61 h.next h [.int .i64 most, .slice T.b T.n T.c] (fun v _ => v = .bool (decide (∀ i, i < T.n → 0 ≤ T.f i ∧ T.f i ≤ most))) := by
  refine fun61.call rfl (Nat.le_refl _) ?_
  unfold a61
  (focus ((try with_reducible apply wpC.to); (repeat' ((conv => whnf); first | refine byEv ?_ | fail)); all_goals (conv => whnf); all_goals (try with_reducible apply At.mk)))
  apply q_callB
  focus (exact byNext)
  focus (exact byLo)
  focus
    refine anyInts_w (m := m) (p := fun i => decide (T.f i < 0 ∨ most < T.f i)) (by (exact byOm)) (hT.same (by (exact bySame)) (Nat.le_refl _)) fun i k1 hi q => ?_
    exact acall_of (beyond_w (e := 2) (r := h.next) (most := most) ((q.same _ (by (exact byOm))).trans (by (exact byGet)))) rfl
  · intro hb h2 q hn
    (focus ((try with_reducible apply wpC.to); (repeat' ((conv => whnf); first | refine byEv ?_ | fail)); all_goals (conv => whnf); all_goals (try with_reducible apply At.mk)))
    (refine byFin ?_)
    refine bool_f rfl fun hall => ?_
    obtain ⟨i, hi, h3⟩ := of_decide_eq_true hb
    have := hall i hi
    have := of_decide_eq_true h3
    omega
  · intro hb h2 q hn
    (focus ((try with_reducible apply wpC.to); (repeat' ((conv => whnf); first | refine byEv ?_ | fail)); all_goals (conv => whnf); all_goals (try with_reducible apply At.mk)))
    (refine byFin ?_)
    refine bool_t rfl fun i hi => ?_
    have := of_decide_eq_false hb
    by_cases hx : T.f i < 0 ∨ most < T.f i
    · exact absurd ⟨i, hi, decide_eq_true hx⟩ this
    · omega
/-- A list of numbers that the code has made. -/
theorem ints_list {h : H} {r : Nat} {e : TypeId} {l : List Int} (hg : h.get r = some (.cells (l.map (Value.int .i64)) e)) : Ints h ⟨r, 0, none⟩ l.length (fun i => l.getD i 0) := fun i hi => by
  refine loadN_one hg ?_
  show (l.map (Value.int .i64))[0 + i]? = _
  simp [hi]
theorem within1_w {h : H} {most a : Int} {r : Nat} {e : TypeId} (hg : h.get r = some (.cells [.int .i64 a] e)) (hr : r < h.next) :
    AW Try.prog 61 h.next h [.int .i64 most, .slice (some ⟨r, 0, none⟩) 1 1] (fun v _ => v = .bool (decide (0 ≤ a ∧ a ≤ most))) := by
  obtain ⟨v, h', e1, k⟩ := within_w (h := h) (T := ⟨1, fun i => [a].getD i 0, some ⟨r, 0, none⟩, ⟨r, 0, none⟩, 1⟩) (m := h.next) (most := most) (Nat.le_refl _) ⟨fun _ => rfl, ints_list (l := [a]) hg, fun _ => hr, by show 1 ≤ _; omega⟩
  refine ⟨v, h', ?_, k⟩
  rw [e1]
  congr 1
  refine decide_eq_decide.2 ⟨fun k => k 0 (by show 0 < 1; omega), fun k i hi => ?_⟩
  have hi : i < 1 := hi
  obtain rfl : i = 0 := by omega
  exact k
theorem within3_w {h : H} {most a b c : Int} {r : Nat} {e : TypeId} (hg : h.get r = some (.cells [.int .i64 a, .int .i64 b, .int .i64 c] e)) (hr : r < h.next) :
    AW Try.prog 61 h.next h [.int .i64 most, .slice (some ⟨r, 0, none⟩) 3 3] (fun v _ => v = .bool (decide ((0 ≤ a ∧ a ≤ most) ∧ (0 ≤ b ∧ b ≤ most) ∧ (0 ≤ c ∧ c ≤ most)))) := by
  obtain ⟨v, h', e1, k⟩ := within_w (h := h) (T := ⟨3, fun i => [a, b, c].getD i 0, some ⟨r, 0, none⟩, ⟨r, 0, none⟩, 3⟩) (m := h.next) (most := most) (Nat.le_refl _) ⟨fun _ => rfl, ints_list (l := [a, b, c]) hg, fun _ => hr, by show 3 ≤ _; omega⟩
  refine ⟨v, h', ?_, k⟩
  rw [e1]
  congr 1
  refine decide_eq_decide.2 ⟨fun k => ⟨k 0 (by show 0 < 3; omega), k 1 (by show 1 < 3; omega), k 2 (by show 2 < 3; omega)⟩, fun k i hi => ?_⟩
  have hi : i < 3 := hi
  obtain rfl | rfl | rfl : i = 0 ∨ i = 1 ∨ i = 2 := by omega
  · exact k.1
  · exact k.2.1
  · exact k.2.2

/-- The numbers of a scale. -/
structure Rising (f : Nat → Int) (n : Nat) : Prop where
  rng : ∀ i, i < n → 0 ≤ f i ∧ f i ≤ 2000
  up : ∀ i, i + 1 < n → f i < f (i + 1)
noncomputable instance (f : Nat → Int) (n : Nat) : Decidable (Rising f n) := Classical.propDecidable _

theorem rising_w {h : H} {T : Arr} {m : Nat} (hm : m ≤ h.next) (hT : T.Ok m h) : AW Try.prog 60 h.next h [.slice T.b T.n T.c] (fun v _ => v = .bool (decide (Rising T.f T.n))) := by
  have hT0 := hT
  obtain ⟨e1, i1, r1, l1⟩ := hT
  refine fun60.call rfl (Nat.le_refl _) ?_
  unfold a60
  (focus ((try with_reducible apply wpC.to); (repeat' ((conv => whnf); first | refine byEv ?_ | ((apply Fork.mk) <;> (intro _; try (exfalso; omega; done))) | fail)); all_goals (conv => whnf); all_goals (try with_reducible apply At.mk)))
  refine wp_loop (fun s : Nat => [(0, .slice T.b T.n T.c), (5, .slice T.b T.n T.c), (6, .int .i64 T.n), (7, .int .i64 s)]) (fun s h1 => Quiet h.next h h1 ∧ s ≤ T.n ∧ ∀ i, i + 1 < s → T.f i < T.f (i + 1)) (fun s => T.n - s) 0 ⟨rfl, rfl, rfl, rfl, trivial⟩ ⟨?_, by omega, fun i hi => by omega⟩ ?_
  · (exact byQuiet)
  rintro s g h1 ⟨q, hs, hp⟩ K hK
  have hnx := q.next
  by_cases hsn : s < T.n
  · rcases Nat.eq_zero_or_pos s with h0 | h0
    · subst h0
      (focus ((try with_reducible apply wpC.to); (repeat' ((conv => whnf); first | refine byEv ?_ | ((apply Fork.mk) <;> (intro _; try (exfalso; omega; done))) | fail)); all_goals (conv => whnf); all_goals (try with_reducible apply At.mk)))
      refine hK (0 + 1) _ _ ⟨rfl, rfl, rfl, int_of rfl (by omega), trivial⟩ ⟨by (exact byQuiet), by omega, fun i hi => by omega⟩ (by omega)
    · have hold := i1 (s - 1) (by omega)
      (focus ((try with_reducible apply wpC.to); (repeat' ((conv => whnf); first | refine byEv ?_ | ((apply Fork.mk) <;> (intro _; try (exfalso; omega; done))) | fail)); all_goals (conv => whnf); all_goals (try with_reducible apply At.mk)))
      · (refine byFin ?_)
        refine bool_f rfl fun k => ?_
        have := k.up (s - 1) (by omega)
        rw [show s - 1 + 1 = s by omega] at this
        omega
      · refine hK (s + 1) _ _ ⟨rfl, rfl, rfl, int_of rfl (by omega), trivial⟩ ⟨by (exact byQuiet), by omega, fun i hi => ?_⟩ (by omega)
        by_cases e : i + 1 = s
        · have : i = s - 1 := by omega
          subst this
          rw [e]; omega
        · exact hp i (by omega)
  · have : s = T.n := by omega
    subst this
    (focus ((try with_reducible apply wpC.to); (repeat' ((conv => whnf); first | refine byEv ?_ | ((apply Fork.mk) <;> (intro _; try (exfalso; omega; done))) | fail)); all_goals (conv => whnf); all_goals (try with_reducible apply At.mk)))
    apply q_callB
    focus (exact byNext)
    focus (exact byLo)
    focus exact within_w (m := m) (by (exact byOm)) (hT0.same (by (exact bySame)) (Nat.le_refl _))
    · intro hb h2 q2 hn
      (focus ((try with_reducible apply wpC.to); (repeat' ((conv => whnf); first | refine byEv ?_ | ((apply Fork.mk) <;> (intro _; try (exfalso; omega; done))) | fail)); all_goals (conv => whnf); all_goals (try with_reducible apply At.mk)))
      (refine byFin ?_)
      exact bool_t rfl ⟨of_decide_eq_true hb, hp⟩
    · intro hb h2 q2 hn
      (focus ((try with_reducible apply wpC.to); (repeat' ((conv => whnf); first | refine byEv ?_ | ((apply Fork.mk) <;> (intro _; try (exfalso; omega; done))) | fail)); all_goals (conv => whnf); all_goals (try with_reducible apply At.mk)))
      (refine byFin ?_)
      exact bool_f rfl fun k => of_decide_eq_false hb k.rng
end AE.Try
