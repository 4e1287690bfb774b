/- Walks of fair: what it measures. -/
import Derived.Test.YtndkjpkadfpflaaGreatTopCode
import Derived.Test.YtndkjpkadfpflaaGreatAEthree
import Derived.Test.YtndkjpkadfpflaaGreatTopSa
set_option linter.unusedVariables false
set_option linter.unusedSimpArgs false
set_option linter.unusedSectionVars false
namespace AE.Tryz
open Go AE Go.Proofs AE.Fair
set_option maxRecDepth 100000
set_option linter.unusedVariables false

theorem acall_of {g : FuncId} {first capt args xs : List Value} {lo : Nat} {h : H} {R : Value → H → Prop} (hc : AW Tryz.prog g lo h xs R) (e : first ++ args ++ capt = xs) : ∃ v h', R v h' ∧ ACall Tryz.prog (.func (.func g) ⟨first⟩ ⟨capt⟩) lo h args v h' := by
  obtain ⟨v, h', r, a⟩ := hc
  subst e
  exact ⟨v, h', r, a.acall⟩
theorem acall_mono {fv : Value} {args : List Value} {lo lo' : Nat} {h : H} {R : Value → H → Prop} (hc : ∃ v h', R v h' ∧ ACall Tryz.prog fv lo h args v h') (hl : lo' ≤ lo) : ∃ v h', R v h' ∧ ACall Tryz.prog fv lo' h args v h' :=
  let ⟨v, h', r, a⟩ := hc; ⟨v, h', r, a.mono hl⟩

/-- Numbers, as they come. -/
structure Arr where
  n : Nat
  f : Nat → Int
  b : Option Addr
  a : Addr
  c : Nat
structure Arr.Ok (T : Arr) (m : Nat) (h : H) : Prop where
  e : 0 < T.n → T.b = some T.a
  i : Ints h T.a T.n T.f
  r : 0 < T.n → T.a.block < m
  l : T.n ≤ 9223372036854775807
theorem Arr.Ok.same {T : Arr} {m m' : Nat} {h h' : H} (k : T.Ok m h) (s : Same m h h') (hm : m ≤ m') : T.Ok m' h' :=
  ⟨k.e, k.i.same s k.r, fun h => by have := k.r h; omega, k.l⟩

theorem indexInts_w {h : H} {T : Arr} {m : Nat} (hm : m ≤ h.next) (hT : T.Ok m h) {pf : Value} {p : Nat → Bool} (hy : ∀ i h1, i < T.n → Quiet h.next h h1 → ∃ v h2, v = .bool (p i) ∧ ACall Tryz.prog pf h1.next h1 [.int .i64 (T.f i)] v h2) :
    AW Tryz.prog 165 h.next h [.slice T.b T.n T.c, pf] (fun v _ => ∃ z, v = .int .i64 z ∧ (0 ≤ z ↔ ∃ i, i < T.n ∧ p i = true)) := by
  obtain ⟨e1, i1, r1, l1⟩ := hT
  refine fun165.call rfl (Nat.le_refl _) ?_
  unfold a165
  (focus ((try with_reducible apply wpC.to); (repeat' ((conv => whnf); first | refine byEv ?_ | (apply Fork.mk <;> (intro _; try (exfalso; omega))) | fail)); all_goals ((conv => whnf); try with_reducible apply At.mk)))
  refine wp_loop (fun s : Nat => [(0, .slice T.b T.n T.c), (1, pf), (7, .int .i64 T.n), (8, .int .i64 s)]) (fun s h1 => Quiet h.next h h1 ∧ s ≤ T.n ∧ ∀ i, i < s → p i = false) (fun s => T.n - s) 0 ⟨rfl, rfl, rfl, rfl, trivial⟩ ⟨?_, by omega, fun i hi => by omega⟩ ?_
  · (exact byQuiet)
  rintro s g h1 ⟨q, hs, hp⟩ K hK
  have hnx := q.next
  (focus ((try with_reducible apply wpC.to); (repeat' ((conv => whnf); first | refine byEv ?_ | (apply Fork.mk <;> (intro _; try (exfalso; omega))) | fail)); all_goals ((conv => whnf); try with_reducible apply At.mk)))
  · apply q_calla
    focus exact acall_mono (hy s _ (by omega) byQuiet) byOm
    rintro _ h2 rfl q2
    have hnx2 := q2.next
    cases hb : p s with
    | true =>
      (focus ((try with_reducible apply wpC.to); (repeat' ((conv => whnf); first | refine byEv ?_ | (apply Fork.mk <;> (intro _; try (exfalso; omega))) | fail)); all_goals ((conv => whnf); try with_reducible apply At.mk)))
      (refine byFin ?_)
      exact ⟨_, rfl, ⟨fun _ => ⟨s, by omega, hb⟩, fun _ => by omega⟩⟩
    | false =>
      (focus ((try with_reducible apply wpC.to); (repeat' ((conv => whnf); first | refine byEv ?_ | (apply Fork.mk <;> (intro _; try (exfalso; omega))) | fail)); all_goals ((conv => whnf); try with_reducible apply At.mk)))
      refine hK (s + 1) _ _ ⟨rfl, rfl, rfl, int_of rfl (by omega), trivial⟩ ⟨byQuiet, by omega, fun i hi => ?_⟩ (by omega)
      by_cases e : i = s
      · subst e; exact hb
      · exact hp i (by omega)
  · (refine byFin ?_)
    refine ⟨_, rfl, ⟨fun h => by omega, fun ⟨i, hi, hpi⟩ => ?_⟩⟩
    rw [hp i (by omega)] at hpi
    cases hpi
theorem anyInts_w {h : H} {T : Arr} {m : Nat} (hm : m ≤ h.next) (hT : T.Ok m h) {pf : Value} {p : Nat → Bool} (hy : ∀ i h1, i < T.n → Quiet h.next h h1 → ∃ v h2, v = .bool (p i) ∧ ACall Tryz.prog pf h1.next h1 [.int .i64 (T.f i)] v h2) :
    AW Tryz.prog 122 h.next h [.slice T.b T.n T.c, pf] (fun v _ => v = .bool (decide (∃ i, i < T.n ∧ p i = true))) := by
  refine fun122.call rfl (Nat.le_refl _) ?_
  unfold a122
  (focus ((try with_reducible apply wpC.to); (repeat' ((conv => whnf); first | refine byEv ?_ | (apply Fork.mk <;> (intro _; try (exfalso; omega))) | fail)); all_goals ((conv => whnf); try with_reducible apply At.mk)))
  apply q_call
  focus (exact byNext)
  focus (exact byLo)
  focus exact indexInts_w (m := m) byOm (hT.same bySame (Nat.le_refl _)) fun i h1 hi q => hy i h1 hi (Quiet.trans byQuiet (q.mono byOm))
  rintro _ h1 ⟨z, rfl, hz⟩ q hn
  (focus ((try with_reducible apply wpC.to); (repeat' ((conv => whnf); first | refine byEv ?_ | (apply Fork.mk <;> (intro _; try (exfalso; omega))) | fail)); all_goals ((conv => whnf); try with_reducible apply At.mk)))
  all_goals (refine byFin ?_)
  · exact bool_t rfl (hz.1 (by omega))
  · exact bool_f rfl (fun h => by have := hz.2 h; omega)

theorem out_w {h : H} {x lo hi : Int} {r s : Nat} {e1 e2 : TypeId} (hr : h.get r = some (.cells [.int .i64 lo] e1)) (hs : h.get s = some (.cells [.int .i64 hi] e2)) : AW Tryz.prog 123 h.next h [.int .i64 x, .pointer (some ⟨r, 0, none⟩), .pointer (some ⟨s, 0, none⟩)] (fun v _ => v = .bool (decide (x < lo ∨ hi < x))) := by
  refine fun123.call rfl (Nat.le_refl _) ?_
  unfold a123
  (focus ((try with_reducible apply wpC.to); (repeat' ((conv => whnf); first | refine byEv ?_ | (apply Fork.mk <;> (intro _; try (exfalso; omega))) | fail)); all_goals ((conv => whnf); try with_reducible apply At.mk)))
  all_goals ((refine byFin ?_); first | exact bool_t rfl (by omega) | exact bool_f rfl (by omega))
theorem fwithin_w {h : H} {T : Arr} {m : Nat} {lo hi : Int} (hm : m ≤ h.next) (hT : T.Ok m h) : AW Tryz.prog 59 h.next h [.int .i64 lo, .int .i64 hi, .slice T.b T.n T.c] (fun v _ => v = .bool (decide (∀ i, i < T.n → lo ≤ T.f i ∧ T.f i ≤ hi))) := by
  refine fun59.call rfl (Nat.le_refl _) ?_
  unfold a59
  (focus ((try with_reducible apply wpC.to); (repeat' ((conv => whnf); first | refine byEv ?_ | fail)); all_goals ((conv => whnf); try with_reducible apply At.mk)))
  apply q_call
  focus (exact byNext)
  focus (exact byLo)
  focus exact anyInts_w (m := m) (p := fun i => decide (T.f i < lo ∨ hi < T.f i)) byOm (hT.same bySame (Nat.le_refl _)) fun i h1 hi q => acall_of (out_w ((q.same _ byOm).trans byGet) ((q.same _ byOm).trans byGet)) rfl
  intro w h1 hw q hn
  by_cases hd : ∃ i, i < T.n ∧ decide (T.f i < lo ∨ hi < T.f i) = true
  · rw [decide_eq_true hd] at hw
    subst hw
    obtain ⟨i, hi, hp⟩ := hd
    simp only [decide_eq_true_eq] at hp
    (focus ((try with_reducible apply wpC.to); (repeat' ((conv => whnf); first | refine byEv ?_ | fail)); all_goals ((conv => whnf); try with_reducible apply At.mk)))
    (refine byFin ?_)
    exact bool_f rfl fun hc => by have := hc i hi; omega
  · rw [decide_eq_false hd] at hw
    subst hw
    (focus ((try with_reducible apply wpC.to); (repeat' ((conv => whnf); first | refine byEv ?_ | fail)); all_goals ((conv => whnf); try with_reducible apply At.mk)))
    (refine byFin ?_)
    exact bool_t rfl fun i hi => Classical.byContradiction fun hc => hd ⟨i, hi, by simp only [decide_eq_true_eq]; omega⟩
theorem kTopSc0 {G G' : Prop} (g : G') (t : G' → G := by ((apply q_call); (focus exact byNext); (focus exact byLo); (focus ((apply fwithin_w; rotate_left; (focus (apply Arr.Ok.same; (focus assumption); (focus exact bySame); (focus exact Nat.le_refl _))); (focus exact byOm)))))) : G := t g

def chg (s d : Int) : Int := if s ≠ 0 ∧ sgn s d ≠ s then 1 else 0
theorem ms_ch (f : Nat → Int) (k : Nat) : (ms f (k + 1)).ch = (ms f k).ch + chg (ms f k).sign (sd f (k + 1)) := by
  simp only [ms, MS.step, chg]; split <;> omega
theorem ms_bend (f : Nat → Int) (k : Nat) : (ms f (k + 1)).bend = (ms f k).bend + max (sd f (k + 1)) (-(sd f (k + 1))) := rfl
theorem next_w {h : H} {s d : Int} : AW Tryz.prog 124 h.next h [.agg ⟨[.int .i64 s]⟩, .int .i64 d] (fun v _ => v = .tuple #[.agg ⟨[.int .i64 (sgn s d)]⟩, .int .i64 (chg s d)]) := by
  refine fun124.call rfl (Nat.le_refl _) ?_
  unfold a124 sgn chg
  by_cases h1 : 0 < d
  · (focus ((try with_reducible apply wpC.to); (repeat' ((conv => whnf); first | refine byEv ?_ | (apply Fork.mk <;> (intro _; try (exfalso; omega))) | fail)); all_goals ((conv => whnf); try with_reducible apply At.mk)))
    all_goals (refine byFin ?_)
    all_goals (simp only [sgn, h1, if_true]; first | rw [if_pos (by omega)] | rw [if_neg (by omega)])
  · by_cases h2 : d < 0
    · (focus ((try with_reducible apply wpC.to); (repeat' ((conv => whnf); first | refine byEv ?_ | (apply Fork.mk <;> (intro _; try (exfalso; omega))) | fail)); all_goals ((conv => whnf); try with_reducible apply At.mk)))
      all_goals (refine byFin ?_)
      all_goals (simp only [sgn, h1, h2, if_true, if_false]; first | rw [if_pos (by omega)] | rw [if_neg (by omega)])
    · (focus ((try with_reducible apply wpC.to); (repeat' ((conv => whnf); first | refine byEv ?_ | (apply Fork.mk <;> (intro _; try (exfalso; omega))) | fail)); all_goals ((conv => whnf); try with_reducible apply At.mk)))
      all_goals (refine byFin ?_)
      all_goals (simp only [sgn, h1, h2, if_false]; first | rw [if_pos (by omega)] | rw [if_neg (by omega)])
theorem kTopSc1 {G G' : Prop} (g : G') (t : G' → G := by ((apply q_call); (focus exact byNext); (focus exact byLo); (focus ((apply next_w))))) : G := t g

end AE.Tryz
