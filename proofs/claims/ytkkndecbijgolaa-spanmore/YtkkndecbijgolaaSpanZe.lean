/- Walks of span: choices that come in; which are valid. -/
import Derived.Test.YtkkndecbijgolaaSpanZd
set_option linter.unusedVariables false
set_option linter.unusedSimpArgs false
set_option linter.unusedSectionVars false
namespace AE.Try
open Go AE Go.Proofs AE.Sp
set_option maxRecDepth 100000
set_option linter.unusedVariables false

/-- Choices, as they come. -/
structure Chs where
  n : Nat
  p : Nat → Int
  q : Nat → Int
  w : Nat → Nat
  lo : Nat → Nat → Int
  hi : Nat → Nat → Int
  b : Option Addr
  a : Addr
  c : Nat
  eb : Nat → Option Addr
  ea : Nat → Addr
  ec : Nat → Nat
def Chs.cells (C : Chs) (i : Nat) : List Value := [.int .i64 (C.p i), .int .i64 (C.q i), .slice (C.eb i) (C.w i) (C.ec i)]
def Chs.rg (C : Chs) (i k : Nat) : List Value := [.int .i64 (C.lo i k), .int .i64 (C.hi i k)]
structure Chs.Ok (C : Chs) (m : Nat) (h : H) : Prop where
  e : 0 < C.n → C.b = some C.a
  i : Els h C.a C.n 3 C.cells
  r : 0 < C.n → C.a.block < m
  l : C.n ≤ 9223372036854775807
  ee : ∀ i, i < C.n → 0 < C.w i → C.eb i = some (C.ea i)
  ei : ∀ i, i < C.n → Els h (C.ea i) (C.w i) 2 (C.rg i)
  er : ∀ i, i < C.n → 0 < C.w i → (C.ea i).block < m
  el : ∀ i, i < C.n → C.w i ≤ 9223372036854775807
theorem Chs.Ok.same {T : Chs} {m m' : Nat} {h h' : H} (k : T.Ok m h) (s : Same m h h') (hm : m ≤ m') : T.Ok m' h' :=
  ⟨k.e, k.i.same s k.r, fun h => by have := k.r h; omega, k.l, k.ee, fun i hi => (k.ei i hi).same s (k.er i hi), fun i hi h => by have := k.er i hi h; omega, k.el⟩
def Chs.run (C : Chs) (i k : Nat) : Run := ⟨C.p i, C.q i, C.lo i k, C.hi i k⟩
/-- The bounds of a choice. -/
def Chs.rgs (C : Chs) (i : Nat) : Rgs := ⟨C.w i, fun k => ⟨C.lo i k, C.hi i k⟩, C.eb i, C.ea i, C.ec i⟩
theorem Chs.Ok.rgs {C : Chs} {m : Nat} {h : H} (k : C.Ok m h) {i : Nat} (hi : i < C.n) : (C.rgs i).Ok m h := ⟨k.ee i hi, k.ei i hi, k.er i hi, k.el i hi⟩
/-- A choice that is valid. -/
def Chs.Good (C : Chs) (i : Nat) : Prop := (1 ≤ C.w i ∧ C.w i ≤ 6) ∧ ∀ k, k < C.w i → (C.run i k).Ok
open Classical in
/-- The error of choices. -/
noncomputable def Chs.err (C : Chs) : Int := if C.n < 1 ∨ 8 < C.n then 6 else if ∀ i, i < C.n → C.Good i then 0 else 2


theorem indexChs_w {h : H} {T : Chs} {m : Nat} (hm : m ≤ h.next) (hT : T.Ok m h) {pf : Value} {p : Nat → Bool} (hy : ∀ i h1, i < T.n → Quiet h.next h h1 → ∃ v h2, v = .bool (p i) ∧ ACall Try.prog pf h1.next h1 [.agg ⟨T.cells i⟩] v h2) :
    AW Try.prog 86 h.next h [.slice T.b T.n T.c, pf] (fun v _ => ∃ z, v = .int .i64 z ∧ (0 ≤ z ↔ ∃ i, i < T.n ∧ p i = true)) := by
  obtain ⟨e1, i1, r1, l1, -, -, -, -⟩ := hT
  unfold Chs.cells at i1
  refine fun86.call rfl (Nat.le_refl _) ?_
  unfold a86
  (focus ((try with_reducible apply wpC.to); (repeat' ((conv => whnf); first | refine byEv ?_ | (apply Fork.mk <;> (intro _; try (exfalso; omega))) | ((refine kSpanH1 ?_); first | ((first | apply q_allD | apply q_alli | apply q_allB) <;> intro _ _ _ _ <;> try contradiction) | (apply q_allv; intro _ _ _)) | fail)); all_goals ((conv => whnf); try with_reducible apply At.mk)))
  refine wp_loop (fun s : Nat => [(0, .slice T.b T.n T.c), (1, pf), (7, .int .i64 T.n), (8, .int .i64 s)]) (fun s h1 => Quiet h.next h h1 ∧ s ≤ T.n ∧ ∀ i, i < s → p i = false) (fun s => T.n - s) 0 ⟨rfl, rfl, rfl, rfl, trivial⟩ ⟨?_, by omega, fun i hi => by omega⟩ ?_
  · (exact byQuiet)
  rintro s g h1 ⟨q, hs, hp⟩ K hK
  have hnx := q.next
  (focus ((try with_reducible apply wpC.to); (repeat' ((conv => whnf); first | refine byEv ?_ | (apply Fork.mk <;> (intro _; try (exfalso; omega))) | ((refine kSpanH1 ?_); first | ((first | apply q_allD | apply q_alli | apply q_allB) <;> intro _ _ _ _ <;> try contradiction) | (apply q_allv; intro _ _ _)) | fail)); all_goals ((conv => whnf); try with_reducible apply At.mk)))
  · apply q_calla
    focus exact acall_mono (hy s _ (by omega) byQuiet) byOm
    rintro _ h2 rfl q2
    have hnx2 := q2.next
    cases hb : p s with
    | true =>
      (focus ((try with_reducible apply wpC.to); (repeat' ((conv => whnf); first | refine byEv ?_ | (apply Fork.mk <;> (intro _; try (exfalso; omega))) | ((refine kSpanH1 ?_); first | ((first | apply q_allD | apply q_alli | apply q_allB) <;> intro _ _ _ _ <;> try contradiction) | (apply q_allv; intro _ _ _)) | fail)); all_goals ((conv => whnf); try with_reducible apply At.mk)))
      (refine byFin ?_)
      exact ⟨_, rfl, ⟨fun _ => ⟨s, by omega, hb⟩, fun _ => by omega⟩⟩
    | false =>
      (focus ((try with_reducible apply wpC.to); (repeat' ((conv => whnf); first | refine byEv ?_ | (apply Fork.mk <;> (intro _; try (exfalso; omega))) | ((refine kSpanH1 ?_); first | ((first | apply q_allD | apply q_alli | apply q_allB) <;> intro _ _ _ _ <;> try contradiction) | (apply q_allv; intro _ _ _)) | fail)); all_goals ((conv => whnf); try with_reducible apply At.mk)))
      refine hK (s + 1) _ _ ⟨rfl, rfl, rfl, int_of rfl (by omega), trivial⟩ ⟨byQuiet, by omega, fun i hi => ?_⟩ (by omega)
      by_cases e : i = s
      · subst e; exact hb
      · exact hp i (by omega)
  · (refine byFin ?_)
    refine ⟨_, rfl, ⟨fun h => by omega, fun ⟨i, hi, hpi⟩ => ?_⟩⟩
    rw [hp i (by omega)] at hpi
    cases hpi
theorem anyChs_w {h : H} {T : Chs} {m : Nat} (hm : m ≤ h.next) (hT : T.Ok m h) {pf : Value} {p : Nat → Bool} (hy : ∀ i h1, i < T.n → Quiet h.next h h1 → ∃ v h2, v = .bool (p i) ∧ ACall Try.prog pf h1.next h1 [.agg ⟨T.cells i⟩] v h2) :
    AW Try.prog 65 h.next h [.slice T.b T.n T.c, pf] (fun v _ => v = .bool (decide (∃ i, i < T.n ∧ p i = true))) := by
  refine fun65.call rfl (Nat.le_refl _) ?_
  unfold a65
  (focus ((try with_reducible apply wpC.to); (repeat' ((conv => whnf); first | refine byEv ?_ | (apply Fork.mk <;> (intro _; try (exfalso; omega))) | fail)); all_goals ((conv => whnf); try with_reducible apply At.mk)))
  apply q_call
  focus (exact byNext)
  focus (exact byLo)
  focus exact indexChs_w (m := m) byOm (hT.same bySame (Nat.le_refl _)) fun i h1 hi q => hy i h1 hi (Quiet.trans byQuiet (q.mono byOm))
  rintro _ h1 ⟨z, rfl, hz⟩ q hn
  (focus ((try with_reducible apply wpC.to); (repeat' ((conv => whnf); first | refine byEv ?_ | (apply Fork.mk <;> (intro _; try (exfalso; omega))) | fail)); all_goals ((conv => whnf); try with_reducible apply At.mk)))
  all_goals (refine byFin ?_)
  · exact bool_t rfl (hz.1 (by omega))
  · exact bool_f rfl (fun h => by have := hz.2 h; omega)


theorem badRun_w {h : H} {C : Chs} {i k r : Nat} (hr : r < h.next) (hg : h.get r = some (.cells (C.cells i) 111)) : AW Try.prog 88 h.next h [.agg ⟨C.rg i k⟩, .pointer (some ⟨r, 0, none⟩)] (fun v _ => v = .bool (decide (¬ (C.run i k).Ok))) := by
  unfold Chs.cells at hg
  refine fun88.call rfl (Nat.le_refl _) ?_
  unfold a88 Chs.rg
  (focus ((try with_reducible apply wpC.to); (repeat' ((conv => whnf); first | refine byEv ?_ | ((refine kSpanB3 ?_); first | ((first | apply q_allD | apply q_alli | apply q_allB) <;> intro _ _ _ _ <;> try contradiction) | (apply q_allv; intro _ _ _)) | fail)); all_goals ((conv => whnf); try with_reducible apply At.mk)))
  apply q_callB
  focus (exact byNext)
  focus (exact byLo)
  focus exact isRun_w (x := C.run i k)
  · intro hb h2 q2 n2
    have := of_decide_eq_true hb
    (focus ((try with_reducible apply wpC.to); (repeat' ((conv => whnf); first | refine byEv ?_ | ((refine kSpanB3 ?_); first | ((first | apply q_allD | apply q_alli | apply q_allB) <;> intro _ _ _ _ <;> try contradiction) | (apply q_allv; intro _ _ _)) | fail)); all_goals ((conv => whnf); try with_reducible apply At.mk)))
    (refine byFin ?_)
    exact bool_f rfl (fun k => k this)
  · intro hb h2 q2 n2
    have := of_decide_eq_false hb
    (focus ((try with_reducible apply wpC.to); (repeat' ((conv => whnf); first | refine byEv ?_ | ((refine kSpanB3 ?_); first | ((first | apply q_allD | apply q_alli | apply q_allB) <;> intro _ _ _ _ <;> try contradiction) | (apply q_allv; intro _ _ _)) | fail)); all_goals ((conv => whnf); try with_reducible apply At.mk)))
    (refine byFin ?_)
    exact bool_t rfl this
open Classical in
theorem isChoice_w {h : H} {C : Chs} {m i : Nat} (hm : m ≤ h.next) (hC : C.Ok m h) (hi : i < C.n) : AW Try.prog 67 h.next h [.agg ⟨C.cells i⟩] (fun v _ => v = .bool (decide (C.Good i))) := by
  have wl := hC.el i hi
  refine fun67.call rfl (Nat.le_refl _) ?_
  unfold a67 Chs.cells
  (focus ((try with_reducible apply wpC.to); (repeat' ((conv => whnf); first | refine byEv ?_ | (apply Fork.mk <;> (intro _; try (exfalso; omega))) | fail)); all_goals ((conv => whnf); try with_reducible apply At.mk)))
  · (refine byFin ?_)
    exact bool_f rfl (fun k => by have := k.1; omega)
  · (refine byFin ?_)
    exact bool_f rfl (fun k => by have := k.1; omega)
  apply q_callB
  focus (exact byNext)
  focus (exact byLo)
  focus
    refine anyRgs_w (T := C.rgs i) (m := m) (p := fun k => decide ¬ (C.run i k).Ok) byOm ((hC.rgs hi).same bySame (Nat.le_refl _)) fun k k1 hk qq => ?_
    have hn := qq.next
    simp only [put_next, bump_next] at hn
    exact acall_of (badRun_w (h := k1) (C := C) (i := i) (k := k) (r := h.next) byOm ((qq.same _ byOm).trans (by unfold Chs.cells; (exact byGet)))) rfl
  · intro hb h2 q2 n2
    obtain ⟨k, hk, h3⟩ := of_decide_eq_true hb
    have h3 := of_decide_eq_true h3
    (focus ((try with_reducible apply wpC.to); (repeat' ((conv => whnf); first | refine byEv ?_ | (apply Fork.mk <;> (intro _; try (exfalso; omega))) | fail)); all_goals ((conv => whnf); try with_reducible apply At.mk)))
    (refine byFin ?_)
    exact bool_f rfl (fun g => h3 (g.2 k hk))
  · intro hb h2 q2 n2
    have := of_decide_eq_false hb
    have gs : ∀ k, k < C.w i → (C.run i k).Ok := fun k hk => Classical.byContradiction fun h => this ⟨k, hk, decide_eq_true h⟩
    (focus ((try with_reducible apply wpC.to); (repeat' ((conv => whnf); first | refine byEv ?_ | (apply Fork.mk <;> (intro _; try (exfalso; omega))) | fail)); all_goals ((conv => whnf); try with_reducible apply At.mk)))
    (refine byFin ?_)
    exact bool_t rfl ⟨by omega, gs⟩
open Classical in
theorem noChoice_w {h : H} {C : Chs} {m i : Nat} (hm : m ≤ h.next) (hC : C.Ok m h) (hi : i < C.n) : AW Try.prog 66 h.next h [.agg ⟨C.cells i⟩] (fun v _ => v = .bool (decide ¬ C.Good i)) := by
  refine fun66.call rfl (Nat.le_refl _) ?_
  unfold a66 Chs.cells
  (focus ((try with_reducible apply wpC.to); (repeat' ((conv => whnf); first | refine byEv ?_ | fail)); all_goals ((conv => whnf); try with_reducible apply At.mk)))
  apply q_callB
  focus (exact byNext)
  focus (exact byLo)
  focus exact isChoice_w (C := C) (m := m) byOm (hC.same bySame (Nat.le_refl _)) hi
  · intro hb h2 q2 n2
    have := of_decide_eq_true hb
    (focus ((try with_reducible apply wpC.to); (repeat' ((conv => whnf); first | refine byEv ?_ | fail)); all_goals ((conv => whnf); try with_reducible apply At.mk)))
    (refine byFin ?_)
    exact bool_f rfl (fun k => k this)
  · intro hb h2 q2 n2
    have := of_decide_eq_false hb
    (focus ((try with_reducible apply wpC.to); (repeat' ((conv => whnf); first | refine byEv ?_ | fail)); all_goals ((conv => whnf); try with_reducible apply At.mk)))
    (refine byFin ?_)
    exact bool_t rfl this
end AE.Try
