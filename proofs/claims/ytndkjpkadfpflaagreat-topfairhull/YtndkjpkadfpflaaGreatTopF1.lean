/- Walks of fair: spots, and a drawer. -/
import Derived.Test.YtndkjpkadfpflaaGreatTopSc
import Derived.Test.YtndkjpkadfpflaaGreatTopSp
set_option linter.unusedVariables false
set_option linter.unusedSimpArgs false
set_option linter.unusedSectionVars false
namespace AE.Tryz
open Go AE Go.Proofs AE.Fair
set_option maxRecDepth 100000
set_option linter.unusedVariables false

/-- Bounds. -/
structure Rg where
  lo : Int
  hi : Int
def Rg.cells (x : Rg) : List Value := [.int .i64 x.lo, .int .i64 x.hi]
/-- Bounds, as they come. -/
structure Rgs where
  n : Nat
  f : Nat → Rg
  b : Option Addr
  a : Addr
  c : Nat
structure Rgs.Ok (T : Rgs) (m : Nat) (h : H) : Prop where
  e : 0 < T.n → T.b = some T.a
  i : Els h T.a T.n 2 (fun i => (T.f i).cells)
  r : 0 < T.n → T.a.block < m
  l : T.n ≤ 9223372036854775807
theorem Rgs.Ok.same {T : Rgs} {m m' : Nat} {h h' : H} (k : T.Ok m h) (s : Same m h h') (hm : m ≤ m') : T.Ok m' h' :=
  ⟨k.e, k.i.same s k.r, fun h => by have := k.r h; omega, k.l⟩

theorem indexRgs_w {h : H} {T : Rgs} {m : Nat} (hm : m ≤ h.next) (hT : T.Ok m h) {pf : Value} {p : Nat → Bool} (hy : ∀ i h1, i < T.n → Quiet h.next h h1 → ∃ v h2, v = .bool (p i) ∧ ACall Tryz.prog pf h1.next h1 [.agg ⟨(T.f i).cells⟩] v h2) :
    AW Tryz.prog 153 h.next h [.slice T.b T.n T.c, pf] (fun v _ => ∃ z, v = .int .i64 z ∧ (0 ≤ z ↔ ∃ i, i < T.n ∧ p i = true)) := by
  obtain ⟨e1, i1, r1, l1⟩ := hT
  refine fun153.call rfl (Nat.le_refl _) ?_
  unfold a153
  (focus ((try with_reducible apply wpC.to); (repeat' ((conv => whnf); first | refine byEv ?_ | (apply Fork.mk <;> (intro _; try (exfalso; omega))) | ((refine kTopSc1 ?_); first | ((first | apply q_allD | apply q_alli | apply q_allB) <;> intro _ _ _ _ <;> try contradiction) | (apply q_allv; intro _ _ _)) | fail)); all_goals ((conv => whnf); try with_reducible apply At.mk)))
  refine wp_loop (fun s : Nat => [(0, .slice T.b T.n T.c), (1, pf), (7, .int .i64 T.n), (8, .int .i64 s)]) (fun s h1 => Quiet h.next h h1 ∧ s ≤ T.n ∧ ∀ i, i < s → p i = false) (fun s => T.n - s) 0 ⟨rfl, rfl, rfl, rfl, trivial⟩ ⟨?_, by omega, fun i hi => by omega⟩ ?_
  · (exact byQuiet)
  rintro s g h1 ⟨q, hs, hp⟩ K hK
  have hnx := q.next
  (focus ((try with_reducible apply wpC.to); (repeat' ((conv => whnf); first | refine byEv ?_ | (apply Fork.mk <;> (intro _; try (exfalso; omega))) | ((refine kTopSc1 ?_); first | ((first | apply q_allD | apply q_alli | apply q_allB) <;> intro _ _ _ _ <;> try contradiction) | (apply q_allv; intro _ _ _)) | fail)); all_goals ((conv => whnf); try with_reducible apply At.mk)))
  · apply q_calla
    focus exact acall_mono (hy s _ (by omega) byQuiet) byOm
    rintro _ h2 rfl q2
    have hnx2 := q2.next
    cases hb : p s with
    | true =>
      (focus ((try with_reducible apply wpC.to); (repeat' ((conv => whnf); first | refine byEv ?_ | (apply Fork.mk <;> (intro _; try (exfalso; omega))) | ((refine kTopSc1 ?_); first | ((first | apply q_allD | apply q_alli | apply q_allB) <;> intro _ _ _ _ <;> try contradiction) | (apply q_allv; intro _ _ _)) | fail)); all_goals ((conv => whnf); try with_reducible apply At.mk)))
      (refine byFin ?_)
      exact ⟨_, rfl, ⟨fun _ => ⟨s, by omega, hb⟩, fun _ => by omega⟩⟩
    | false =>
      (focus ((try with_reducible apply wpC.to); (repeat' ((conv => whnf); first | refine byEv ?_ | (apply Fork.mk <;> (intro _; try (exfalso; omega))) | ((refine kTopSc1 ?_); first | ((first | apply q_allD | apply q_alli | apply q_allB) <;> intro _ _ _ _ <;> try contradiction) | (apply q_allv; intro _ _ _)) | fail)); all_goals ((conv => whnf); try with_reducible apply At.mk)))
      refine hK (s + 1) _ _ ⟨rfl, rfl, rfl, int_of rfl (by omega), trivial⟩ ⟨byQuiet, by omega, fun i hi => ?_⟩ (by omega)
      by_cases e : i = s
      · subst e; exact hb
      · exact hp i (by omega)
  · (refine byFin ?_)
    refine ⟨_, rfl, ⟨fun h => by omega, fun ⟨i, hi, hpi⟩ => ?_⟩⟩
    rw [hp i (by omega)] at hpi
    cases hpi
theorem anyRgs_w {h : H} {T : Rgs} {m : Nat} (hm : m ≤ h.next) (hT : T.Ok m h) {pf : Value} {p : Nat → Bool} (hy : ∀ i h1, i < T.n → Quiet h.next h h1 → ∃ v h2, v = .bool (p i) ∧ ACall Tryz.prog pf h1.next h1 [.agg ⟨(T.f i).cells⟩] v h2) :
    AW Tryz.prog 97 h.next h [.slice T.b T.n T.c, pf] (fun v _ => v = .bool (decide (∃ i, i < T.n ∧ p i = true))) := by
  refine fun97.call rfl (Nat.le_refl _) ?_
  unfold a97
  (focus ((try with_reducible apply wpC.to); (repeat' ((conv => whnf); first | refine byEv ?_ | (apply Fork.mk <;> (intro _; try (exfalso; omega))) | fail)); all_goals ((conv => whnf); try with_reducible apply At.mk)))
  apply q_call
  focus (exact byNext)
  focus (exact byLo)
  focus exact indexRgs_w (m := m) byOm (hT.same bySame (Nat.le_refl _)) fun i h1 hi q => hy i h1 hi (Quiet.trans byQuiet (q.mono byOm))
  rintro _ h1 ⟨z, rfl, hz⟩ q hn
  (focus ((try with_reducible apply wpC.to); (repeat' ((conv => whnf); first | refine byEv ?_ | (apply Fork.mk <;> (intro _; try (exfalso; omega))) | fail)); all_goals ((conv => whnf); try with_reducible apply At.mk)))
  all_goals (refine byFin ?_)
  · exact bool_t rfl (hz.1 (by omega))
  · exact bool_f rfl (fun h => by have := hz.2 h; omega)

/-- One number, or two, written down. -/
def one (x : Int) : Nat → Int := fun _ => x
def two (x y : Int) : Nat → Int := fun i => if i = 0 then x else y
theorem within1_w {h : H} {x lo hi : Int} {r : Nat} (hr : r < h.next) (hg : h.get r = some (.cells [.int .i64 x] 2)) : AW Tryz.prog 59 h.next h [.int .i64 lo, .int .i64 hi, .slice (some ⟨r, 0, none⟩) 1 1] (fun v _ => v = .bool (decide (lo ≤ x ∧ x ≤ hi))) := by
  have := fwithin_w (h := h) (T := ⟨1, one x, some ⟨r, 0, none⟩, ⟨r, 0, none⟩, 1⟩) (m := h.next) (lo := lo) (hi := hi) (Nat.le_refl _) ⟨fun _ => rfl, fun i hi => by
    obtain rfl : i = 0 := by dsimp only at hi; omega
    exact loadN_one (off := 0) hg rfl, fun _ => hr, by dsimp only; omega⟩
  obtain ⟨v, h', e, a⟩ := this
  refine ⟨v, h', e.trans (congrArg Value.bool ?_), a⟩
  exact decide_eq_decide.2 ⟨fun a => a 0 (Nat.one_pos), fun a i _ => a⟩
theorem within2_w {h : H} {x y lo hi : Int} {r : Nat} (hr : r < h.next) (hg : h.get r = some (.cells [.int .i64 x, .int .i64 y] 2)) : AW Tryz.prog 59 h.next h [.int .i64 lo, .int .i64 hi, .slice (some ⟨r, 0, none⟩) 2 2] (fun v _ => v = .bool (decide ((lo ≤ x ∧ x ≤ hi) ∧ lo ≤ y ∧ y ≤ hi))) := by
  have := fwithin_w (h := h) (T := ⟨2, two x y, some ⟨r, 0, none⟩, ⟨r, 0, none⟩, 2⟩) (m := h.next) (lo := lo) (hi := hi) (Nat.le_refl _) ⟨fun _ => rfl, fun i hi => by
    dsimp only at hi
    rcases Nat.lt_or_ge i 1 with h1 | h1
    · obtain rfl : i = 0 := by omega
      exact loadN_one (off := 0) hg rfl
    · obtain rfl : i = 1 := by omega
      exact loadN_one (off := 1) hg rfl, fun _ => hr, by dsimp only; omega⟩
  obtain ⟨v, h', e, a⟩ := this
  refine ⟨v, h', e.trans (congrArg Value.bool ?_), a⟩
  refine decide_eq_decide.2 ⟨fun a => ⟨a 0 (by show 0 < 2; omega), a 1 (by show 1 < 2; omega)⟩, fun a i hi => ?_⟩
  dsimp only at hi
  rcases Nat.lt_or_ge i 1 with h1 | h1
  · obtain rfl : i = 0 := by omega
    exact a.1
  · obtain rfl : i = 1 := by omega
    exact a.2
theorem kTopF10 {G G' : Prop} (g : G') (t : G' → G := by ((apply q_call); (focus exact byNext); (focus exact byLo); (focus ((apply within1_w; (focus exact byOm); (focus exact byGet)))))) : G := t g
theorem kTopF11 {G G' : Prop} (g : G') (t : G' → G := by ((apply q_call); (focus exact byNext); (focus exact byLo); (focus ((apply within2_w; (focus exact byOm); (focus exact byGet)))))) : G := t g

/-- A spot is not as it has to be. -/
def BadR (x : Rg) : Prop := ¬ ((-1000000 ≤ x.lo ∧ x.lo ≤ 1000000) ∧ -1000000 ≤ x.hi ∧ x.hi ≤ 1000000) ∨ ¬ (0 ≤ x.hi - x.lo ∧ x.hi - x.lo ≤ 4)
instance (x : Rg) : Decidable (BadR x) := by unfold BadR; infer_instance
theorem badR_w {h : H} {x : Rg} : AW Tryz.prog 96 h.next h [.agg ⟨x.cells⟩] (fun v _ => v = .bool (decide (BadR x))) := by
  refine fun96.call rfl (Nat.le_refl _) ?_
  unfold a96 Rg.cells
  (focus ((try with_reducible apply wpC.to); (repeat' ((conv => whnf); first | refine byEv ?_ | ((first | refine kTopF11 ?_ | refine kTopF10 ?_ | refine kTopSc0 ?_); first | ((first | apply q_allD | apply q_alli | apply q_allB) <;> intro _ _ _ _ <;> try contradiction) | (apply q_allv; intro _ _ _)) | fail)); all_goals ((conv => whnf); try with_reducible apply At.mk)))
  all_goals (refine byFin ?_)
  all_goals first
    | (refine bool_t rfl ?_; unfold BadR; omega)
    | (refine bool_f rfl ?_; unfold BadR; omega)

/-- Spots that are to be drawn through, as they come. -/
structure Spots where
  r : Rgs
  t : Int
def Spots.cells (S : Spots) : List Value := [.slice S.r.b S.r.n S.r.c, .int .i64 S.t]
/-- What CheckSpots answers. -/
noncomputable def spotsErr (S : Spots) : Int := if S.r.n = 0 ∨ 24 < S.r.n then 6 else if (0 ≤ S.t ∧ S.t ≤ 1000000) ∧ ∀ i, i < S.r.n → ¬ BadR (S.r.f i) then 0 else 2
theorem checkSpots_w {h : H} {S : Spots} {m : Nat} (hm : m ≤ h.next) (hS : S.r.Ok m h) : AW Tryz.prog 38 h.next h [.agg ⟨S.cells⟩] (fun v _ => v = .int .i64 (spotsErr S)) := by
  have l1 := hS.l
  refine fun38.call rfl (Nat.le_refl _) ?_
  unfold a38 spotsErr Spots.cells
  by_cases h0 : S.r.n = 0
  · rw [if_pos (.inl h0)]
    (focus ((try with_reducible apply wpC.to); (repeat' ((conv => whnf); first | refine byEv ?_ | (apply Fork.mk <;> (intro _; try (exfalso; omega))) | ((first | refine kTopF11 ?_ | refine kTopF10 ?_ | refine kTopSc0 ?_); first | ((first | apply q_allD | apply q_alli | apply q_allB) <;> intro _ _ _ _ <;> try contradiction) | (apply q_allv; intro _ _ _)) | fail)); all_goals ((conv => whnf); try with_reducible apply At.mk)))
    all_goals ((refine byFin ?_); rfl)
  by_cases h1 : 24 < S.r.n
  · rw [if_pos (.inr h1)]
    (focus ((try with_reducible apply wpC.to); (repeat' ((conv => whnf); first | refine byEv ?_ | (apply Fork.mk <;> (intro _; try (exfalso; omega))) | ((first | refine kTopF11 ?_ | refine kTopF10 ?_ | refine kTopSc0 ?_); first | ((first | apply q_allD | apply q_alli | apply q_allB) <;> intro _ _ _ _ <;> try contradiction) | (apply q_allv; intro _ _ _)) | fail)); all_goals ((conv => whnf); try with_reducible apply At.mk)))
    all_goals ((refine byFin ?_); rfl)
  rw [if_neg (by omega)]
  by_cases ht : 0 ≤ S.t ∧ S.t ≤ 1000000
  · (focus ((try with_reducible apply wpC.to); (repeat' ((conv => whnf); first | refine byEv ?_ | (apply Fork.mk <;> (intro _; try (exfalso; omega))) | ((first | refine kTopF11 ?_ | refine kTopF10 ?_ | refine kTopSc0 ?_); first | ((first | apply q_allD | apply q_alli | apply q_allB) <;> intro _ _ _ _ <;> try contradiction) | (apply q_allv; intro _ _ _)) | fail)); all_goals ((conv => whnf); try with_reducible apply At.mk)))
    apply q_call
    focus (exact byNext)
    focus (exact byLo)
    focus exact anyRgs_w (m := m) (p := fun i => decide (BadR (S.r.f i))) byOm (hS.same bySame (Nat.le_refl _)) fun i h1 hi q => acall_of badR_w rfl
    intro w h1 hw q hn
    by_cases hd : ∃ i, i < S.r.n ∧ decide (BadR (S.r.f i)) = true
    · rw [decide_eq_true hd] at hw
      subst hw
      rw [if_neg fun hc => by obtain ⟨i, hi, hp⟩ := hd; exact hc.2 i hi (of_decide_eq_true hp)]
      (focus ((try with_reducible apply wpC.to); (repeat' ((conv => whnf); first | refine byEv ?_ | (apply Fork.mk <;> (intro _; try (exfalso; omega))) | ((first | refine kTopF11 ?_ | refine kTopF10 ?_ | refine kTopSc0 ?_); first | ((first | apply q_allD | apply q_alli | apply q_allB) <;> intro _ _ _ _ <;> try contradiction) | (apply q_allv; intro _ _ _)) | fail)); all_goals ((conv => whnf); try with_reducible apply At.mk)))
      (refine byFin ?_)
      rfl
    · rw [decide_eq_false hd] at hw
      subst hw
      rw [if_pos ⟨ht, fun i hi hb => hd ⟨i, hi, decide_eq_true hb⟩⟩]
      (focus ((try with_reducible apply wpC.to); (repeat' ((conv => whnf); first | refine byEv ?_ | (apply Fork.mk <;> (intro _; try (exfalso; omega))) | ((first | refine kTopF11 ?_ | refine kTopF10 ?_ | refine kTopSc0 ?_); first | ((first | apply q_allD | apply q_alli | apply q_allB) <;> intro _ _ _ _ <;> try contradiction) | (apply q_allv; intro _ _ _)) | fail)); all_goals ((conv => whnf); try with_reducible apply At.mk)))
      (refine byFin ?_)
      rfl
  · rw [if_neg fun hc => ht hc.1]
    (focus ((try with_reducible apply wpC.to); (repeat' ((conv => whnf); first | refine byEv ?_ | (apply Fork.mk <;> (intro _; try (exfalso; omega))) | ((first | refine kTopF11 ?_ | refine kTopF10 ?_ | refine kTopSc0 ?_); first | ((first | apply q_allD | apply q_alli | apply q_allB) <;> intro _ _ _ _ <;> try contradiction) | (apply q_allv; intro _ _ _)) | fail)); all_goals ((conv => whnf); try with_reducible apply At.mk)))
    all_goals ((refine byFin ?_); rfl)
end AE.Tryz
