/- Walks of span: the first of several choices. -/
import Derived.Test.YtkkndecbijgolaaSpanZf
import Derived.Test.YtkkndecbijgolaaAEMapV
import Derived.Test.YtkkndecbijgolaaAESl3
set_option linter.unusedVariables false
set_option linter.unusedSimpArgs false
set_option linter.unusedSectionVars false
namespace AE.Try
open Go AE Go.Proofs AE.Sp
set_option maxRecDepth 100000
set_option linter.unusedVariables false

/-- What the map of the widest spans holds. -/
def wEnt (es : List (Nat × Fr)) : List (Nat × Value) := es.map fun e => (e.1, .agg ⟨e.2.cells⟩)
theorem wEnt_keys (es : List (Nat × Fr)) : (wEnt es).map Prod.fst = es.map Prod.fst := by
  unfold wEnt
  rw [List.map_map]
  rfl
theorem wEnt_mem {es : List (Nat × Fr)} {i : Nat} {x : Fr} (h : (i, x) ∈ es) : (i, Value.agg ⟨x.cells⟩) ∈ wEnt es := List.mem_map.2 ⟨_, h, rfl⟩
theorem wEnt_ne {es : List (Nat × Fr)} {i : Nat} (h : ∀ e ∈ es, e.1 ≠ i) : ∀ p ∈ wEnt es, p.1 ≠ i := fun p hp => by
  obtain ⟨e, he, rfl⟩ := List.mem_map.1 hp
  exact h e he

theorem before_w {h : H} {es : List (Nat × Fr)} {i j r rm c : Nat} {x y : Fr} (hr : r < h.next) (hg : h.get r = some (.cells [.map (some rm)] 114)) (hgm : h.get rm = some (.map (entV (wEnt es) 0) c)) (hn : (es.map Prod.fst).Nodup) (hx : (i, x) ∈ es) (hy : (j, y) ∈ es) (kx : WideOk x) (ky : WideOk y) :
    AW Try.prog 71 h.next h [.int .i64 (i : Int), .int .i64 (j : Int), .pointer (some ⟨r, 0, none⟩)] (fun v _ => v = .bool (decide (flt x y))) := by
  have dx := kx.d
  have dy := ky.d
  have nx := kx.n
  have ny := ky.n
  refine fun71.call rfl (Nat.le_refl _) ?_
  unfold a71
  (focus ((try with_reducible apply wpC.to); (repeat' ((conv => whnf); first | refine byEv ?_ | fail)); all_goals ((conv => whnf); try with_reducible apply At.mk)))
  refine OpE.mk (v := .agg ⟨x.cells⟩) (lookV (r := rm) (l := wEnt es) (a := i) (v := .agg ⟨x.cells⟩) (ok := Bool.false) (c := c) Try.underlying3 rfl rfl byGet (wEnt_mem hx) (by rw [wEnt_keys]; exact hn)) ?_
  (focus ((try with_reducible apply wpC.to); (repeat' ((conv => whnf); first | refine byEv ?_ | fail)); all_goals ((conv => whnf); try with_reducible apply At.mk)))
  refine OpE.mk (v := .agg ⟨y.cells⟩) (lookV (r := rm) (l := wEnt es) (a := j) (v := .agg ⟨y.cells⟩) (ok := Bool.false) (c := c) Try.underlying3 rfl rfl byGet (wEnt_mem hy) (by rw [wEnt_keys]; exact hn)) ?_
  (focus ((try with_reducible apply wpC.to); (repeat' ((conv => whnf); first | refine byEv ?_ | fail)); all_goals ((conv => whnf); try with_reducible apply At.mk)))
  apply q_callv
  focus (exact byNext)
  focus (exact byLo)
  focus exact less_w (x := x) (y := y) (X := 256000000000) (Y := 640000) (by omega) (by omega) dx dy (by decide)
  intro h2 q2 n2
  (focus ((try with_reducible apply wpC.to); (repeat' ((conv => whnf); first | refine byEv ?_ | fail)); all_goals ((conv => whnf); try with_reducible apply At.mk)))
  (refine byFin ?_)
  rfl

def entAt (es : List (Nat × Fr)) (i : Nat) : Nat × Fr := es.getD i (0, ⟨0, 0⟩)
theorem entAt_mem {es : List (Nat × Fr)} {i : Nat} (h : i < es.length) : entAt es i ∈ es := by
  unfold entAt
  rw [← List.getElem_eq_getD (h := h) _]
  exact List.getElem_mem h
theorem keys_ints {h : H} {es : List (Nat × Fr)} {rr : Nat} {v : Option Addr} (G : GAt rr h 3 1 es.length (natC (es.map Prod.fst)) v) : ∃ a, v = some a ∧ a.block = rr ∧ (∃ g, a.spot = some g) ∧ Ints h a es.length (fun i => ((entAt es i).1 : Int)) := by
  obtain ⟨g, lens, valid, hv, -⟩ := G.is
  have G2 : IR rr h es.length (fun i => (((es.map Prod.fst).getD i 0 : Nat) : Int)) v := by
    unfold IR
    rw [natC_iCells, List.length_map] at G
    exact G
  obtain ⟨a, h1, h2, h3⟩ := G2.ints
  have h4 := hv
  rw [h1] at h4
  refine ⟨a, h1, h2, ⟨g, by rw [Option.some.inj h4]⟩, fun i hi => ?_⟩
  have := h3 i hi
  dsimp only at this ⊢
  have e : (es.map Prod.fst).getD i 0 = (entAt es i).1 := by
    unfold entAt
    rw [← List.getElem_eq_getD (h := hi) _, ← List.getElem_eq_getD (h := by rw [List.length_map]; exact hi) _, List.getElem_map]
  rw [e] at this
  exact this

/-- This one comes first, of those up to s. -/
def FirstAt (es : List (Nat × Fr)) (s b : Nat) : Prop := b < es.length ∧ ∀ k, k ≤ s → (k < b → flt (entAt es b).2 (entAt es k).2) ∧ (b < k → ¬ flt (entAt es k).2 (entAt es b).2)
theorem FirstAt.keep {es : List (Nat × Fr)} {s b : Nat} (k : FirstAt es s b) (hb : b ≤ s) (h : ¬ flt (entAt es (s + 1)).2 (entAt es b).2) : FirstAt es (s + 1) b := by
  refine ⟨k.1, fun j hj => ?_⟩
  by_cases e : j = s + 1
  · subst e; exact ⟨fun h => by omega, fun _ => h⟩
  · exact k.2 j (by omega)
theorem FirstAt.more {es : List (Nat × Fr)} {s b : Nat} (k : FirstAt es s b) (hs : s + 1 < es.length) (ok : ∀ e ∈ es, WideOk e.2) (h : flt (entAt es (s + 1)).2 (entAt es b).2) : FirstAt es (s + 1) (s + 1) := by
  refine ⟨hs, fun j hj => ⟨fun hjs => ?_, fun h => by omega⟩⟩
  have d1 := (ok _ (entAt_mem hs)).d.1
  have d2 := (ok _ (entAt_mem k.1)).d.1
  have d3 := (ok _ (entAt_mem (show j < es.length by omega))).d.1
  refine flt_trans d1 d2 d3 h fun hz => ?_
  have a := k.2 j (by omega)
  rcases Nat.lt_trichotomy j b with e | e | e
  · have a : _ < _ := a.1 e
    have hz : _ < _ := hz
    omega
  · subst e; exact flt_irr _ hz
  · exact a.2 e hz

set_option maxHeartbeats 2000000 in
theorem firstI_w {h : H} {es : List (Nat × Fr)} {v : Option Addr} {rr r rm c : Nat} (G : GAt rr h 3 1 es.length (natC (es.map Prod.fst)) v) (hrr : rr < h.next) (hr : r < h.next) (hrm : rm < h.next) (hg : h.get r = some (.cells [.map (some rm)] 114)) (hgm : h.get rm = some (.map (entV (wEnt es) 0) c)) (hn : (es.map Prod.fst).Nodup) (ok : ∀ e ∈ es, WideOk e.2) (h0 : 0 < es.length) (hl : es.length ≤ 100) :
    AW Try.prog 70 h.next h [.slice v es.length 0, .func (.func 71) ⟨[]⟩ ⟨[.pointer (some ⟨r, 0, none⟩)]⟩] (fun w _ => ∃ b, FirstAt es (es.length - 1) b ∧ w = .int .i64 ((entAt es b).1 : Int)) := by
  obtain ⟨a, rfl, ab, asp, i1⟩ := keys_ints G
  refine fun70.call rfl (Nat.le_refl _) ?_
  unfold a70
  (focus ((try with_reducible apply wpC.to); (repeat' ((conv => whnf); first | refine byEv ?_ | (apply Fork.mk <;> (intro _; try (exfalso; omega))) | ((refine kSpanH1 ?_); first | ((first | apply q_allD | apply q_alli | apply q_allB) <;> intro _ _ _ _ <;> try contradiction) | (apply q_allv; intro _ _ _)) | fail)); all_goals ((conv => whnf); try with_reducible apply At.mk)))
  apply q_from (a := a) (n := es.length) (c := 0) (l := 1) rfl rfl (.inr ⟨asp, rfl⟩) (by omega) h0 (by omega) (by omega)
  intro a' c' ha'
  have i2 : Ints h a' (es.length - 1) (fun i => ((entAt es (i + 1)).1 : Int)) := fun i hi => by
    have := i1 (i + 1) (by omega)
    rw [ha' (by omega)]
    have e : aadd (aadd a (1 * 1)) i = aadd a (i + 1) := by simp only [aadd]; congr 1; omega
    rw [e]; exact this
  have xb' : 1 < es.length → a'.block < h.next := fun h => by rw [ha' h]; show a.block < _; omega
  clear ha'
  (focus ((try with_reducible apply wpC.to); (repeat' ((conv => whnf); first | refine byEv ?_ | (apply Fork.mk <;> (intro _; try (exfalso; omega))) | ((refine kSpanH1 ?_); first | ((first | apply q_allD | apply q_alli | apply q_allB) <;> intro _ _ _ _ <;> try contradiction) | (apply q_allv; intro _ _ _)) | fail)); all_goals ((conv => whnf); try with_reducible apply At.mk)))
  refine wp_loop (fun s : Nat × Nat => [(1, .func (.func 71) ⟨[]⟩ ⟨[.pointer (some ⟨r, 0, none⟩)]⟩), (5, .int .i64 ((entAt es s.2).1 : Int)), (12, .slice (some a') (es.length - 1) c'), (13, .int .i64 ((es.length - 1 : Nat) : Int)), (14, .int .i64 s.1)])
    (fun s h1 => Quiet h.next h h1 ∧ s.1 ≤ es.length - 1 ∧ s.2 ≤ s.1 ∧ FirstAt es s.1 s.2) (fun s => es.length - 1 - s.1) (0, 0) ⟨rfl, rfl, rfl, rfl, rfl, trivial⟩ ⟨byQuiet, by dsimp only; omega, Nat.le_refl _, h0, fun k hk => ⟨fun h => by omega, fun h => by dsimp only at hk h; omega⟩⟩ ?_
  rintro ⟨s, b⟩ g h1 ⟨q1, hs, hb, hf⟩ K hK
  dsimp only at hs hb hf ⊢
  have n1 := q1.next
  by_cases hsn : s < es.length - 1
  · have i5 : Ints h1 a' (es.length - 1) (fun i => ((entAt es (i + 1)).1 : Int)) := i2.same (m := h.next) (fun r hr => q1.same r (by omega)) (fun _ => xb' (by omega))
    have xb5 := xb' (by omega)
    have m1 : ((entAt es (s + 1)).1, (entAt es (s + 1)).2) ∈ es := entAt_mem (by omega)
    have m2 : ((entAt es b).1, (entAt es b).2) ∈ es := entAt_mem (by omega)
    (focus ((try with_reducible apply wpC.to); (repeat' ((conv => whnf); first | refine byEv ?_ | (apply Fork.mk <;> (intro _; try (exfalso; omega))) | ((refine kSpanH1 ?_); first | ((first | apply q_allD | apply q_alli | apply q_allB) <;> intro _ _ _ _ <;> try contradiction) | (apply q_allv; intro _ _ _)) | fail)); all_goals ((conv => whnf); try with_reducible apply At.mk)))
    apply q_callB
    focus (exact byNext)
    focus (exact byLo)
    focus exact before_w (es := es) (i := (entAt es (s + 1)).1) (j := (entAt es b).1) (r := r) (rm := rm) (c := c) byOm byGet byGet hn m1 m2 (ok _ m1) (ok _ m2)
    · intro hc h2 q2 n2
      have hc := of_decide_eq_true hc
      (focus ((try with_reducible apply wpC.to); (repeat' ((conv => whnf); first | refine byEv ?_ | (apply Fork.mk <;> (intro _; try (exfalso; omega))) | ((refine kSpanH1 ?_); first | ((first | apply q_allD | apply q_alli | apply q_allB) <;> intro _ _ _ _ <;> try contradiction) | (apply q_allv; intro _ _ _)) | fail)); all_goals ((conv => whnf); try with_reducible apply At.mk)))
      exact hK (s + 1, s + 1) _ _ ⟨rfl, rfl, rfl, rfl, int_of rfl (by dsimp only; omega), trivial⟩ ⟨byQuiet, by dsimp only; omega, Nat.le_refl _, hf.more (by omega) ok hc⟩ (by dsimp only; omega)
    · intro hc h2 q2 n2
      have hc := of_decide_eq_false hc
      (focus ((try with_reducible apply wpC.to); (repeat' ((conv => whnf); first | refine byEv ?_ | (apply Fork.mk <;> (intro _; try (exfalso; omega))) | ((refine kSpanH1 ?_); first | ((first | apply q_allD | apply q_alli | apply q_allB) <;> intro _ _ _ _ <;> try contradiction) | (apply q_allv; intro _ _ _)) | fail)); all_goals ((conv => whnf); try with_reducible apply At.mk)))
      exact hK (s + 1, b) _ _ ⟨rfl, rfl, rfl, rfl, int_of rfl (by dsimp only; omega), trivial⟩ ⟨byQuiet, by dsimp only; omega, by dsimp only; omega, hf.keep hb hc⟩ (by dsimp only; omega)
  · obtain rfl : s = es.length - 1 := by omega
    (focus ((try with_reducible apply wpC.to); (repeat' ((conv => whnf); first | refine byEv ?_ | (apply Fork.mk <;> (intro _; try (exfalso; omega))) | ((refine kSpanH1 ?_); first | ((first | apply q_allD | apply q_alli | apply q_allB) <;> intro _ _ _ _ <;> try contradiction) | (apply q_allv; intro _ _ _)) | fail)); all_goals ((conv => whnf); try with_reducible apply At.mk)))
    (refine byFin ?_)
    exact ⟨b, hf, rfl⟩
end AE.Try
