/- Walks of span's definitions: is a proof one; what the laws ask first. -/
import Derived.Test.YtkkndecbijgolaaSpanZp
set_option linter.unusedVariables false
set_option linter.unusedSimpArgs false
set_option linter.unusedSectionVars false
namespace AE.Try
open Go AE Go.Proofs AE.Sp
set_option maxRecDepth 100000
set_option linter.unusedVariables false

set_option maxHeartbeats 8000000 in
theorem checkProof_r {h : H} {L : Runs} {P : PSs} {m : Nat} {p q tm : Int} (hm : m ≤ h.next) (hL : L.Ok m h) (hP : P.Ok m h) : AW Try.prog 20 h.next h [.slice L.b L.n L.c, .int .i64 p, .int .i64 q, .agg ⟨[.slice P.b P.n P.c, .int .i64 tm]⟩] (fun v _ => v = .tuple #[.agg ⟨(L.cval p q P tm).cells⟩, .int .i64 (L.cerr p q P tm)]) := by
  have fin : ∀ e, L.cerr p q P tm = e → e ≠ 0 → Value.tuple #[.agg ⟨[.int .i64 0, .int .i64 0]⟩, .int .i64 e] = .tuple #[.agg ⟨(L.cval p q P tm).cells⟩, .int .i64 (L.cerr p q P tm)] := fun e h1 h2 => by
    unfold Runs.cval
    rw [h1, if_neg h2]; rfl
  have b1 : L.err2 p q ≠ 0 → L.cerr p q P tm = L.err2 p q := fun h => by unfold Runs.cerr; rw [if_pos h]
  have b2 : L.err2 p q = 0 → 24 < P.n → L.cerr p q P tm = 6 := fun h h' => by unfold Runs.cerr; rw [if_neg (by omega), if_pos h']
  have b3 : L.err2 p q = 0 → P.n ≤ 24 → ¬ (P.Goods L.n ∧ 1 ≤ tm ∧ tm ≤ 1099511627776) → L.cerr p q P tm = 3 := fun h h' h'' => by unfold Runs.cerr; rw [if_neg (by omega), if_neg (by omega), if_pos h'']
  have b4 : L.err2 p q = 0 → P.n ≤ 24 → (P.Goods L.n ∧ 1 ≤ tm ∧ tm ≤ 1099511627776) → ¬ ((P.sum L).u = tm * p ∧ (P.sum L).v = tm * q) → L.cerr p q P tm = 14 := fun h h' h'' h3 => by unfold Runs.cerr; rw [if_neg (by omega), if_neg (by omega), if_neg (fun k => k h''), if_pos h3]
  have b5 : L.err2 p q = 0 → P.n ≤ 24 → (P.Goods L.n ∧ 1 ≤ tm ∧ tm ≤ 1099511627776) → ((P.sum L).u = tm * p ∧ (P.sum L).v = tm * q) → L.cerr p q P tm = 0 := fun h h' h'' h3 => by unfold Runs.cerr; rw [if_neg (by omega), if_neg (by omega), if_neg (fun k => k h''), if_neg (fun k => k h3)]
  obtain ⟨pe, pi, pr, pl⟩ := id hP
  obtain ⟨le, li, lr, ll⟩ := id hL
  refine fun20.call rfl (Nat.le_refl _) ?_
  unfold a20
  (focus ((try with_reducible apply wpC.to); (repeat' ((conv => whnf); first | refine byEv ?_ | (apply Fork.mk <;> (intro _; try (exfalso; omega))) | refine xSpanC0 ?_ | refine xSpanB1 ?_ | refine xSpanB0 ?_ | fail)); all_goals ((conv => whnf); try with_reducible apply At.mk)))
  apply q_callv
  focus (exact byNext)
  focus (exact byLo)
  focus exact asked_r (L := L) (m := m) (p := p) (q := q) byOm (hL.same bySame (Nat.le_refl _))
  intro h2 q2 n2
  by_cases he : L.err2 p q ≠ 0
  · (focus ((try with_reducible apply wpC.to); (repeat' ((conv => whnf); first | refine byEv ?_ | (apply Fork.mk <;> (intro _; try (exfalso; omega))) | refine xSpanC0 ?_ | refine xSpanB1 ?_ | refine xSpanB0 ?_ | fail)); all_goals ((conv => whnf); try with_reducible apply At.mk)))
    apply q_callv
    focus (exact byNext)
    focus (exact byLo)
    focus exact asked_r (L := L) (m := m) (p := p) (q := q) byOm (hL.same bySame (Nat.le_refl _))
    intro h3 q3 n3
    (focus ((try with_reducible apply wpC.to); (repeat' ((conv => whnf); first | refine byEv ?_ | (apply Fork.mk <;> (intro _; try (exfalso; omega))) | refine xSpanC0 ?_ | refine xSpanB1 ?_ | refine xSpanB0 ?_ | fail)); all_goals ((conv => whnf); try with_reducible apply At.mk)))
    (refine byFin ?_)
    exact fin _ (b1 he) he
  have e0 : L.err2 p q = 0 := by omega
  obtain ⟨e1, fac⟩ := Runs.err2_0 e0
  obtain ⟨ln, lv⟩ := L.err_0 e1
  (focus ((try with_reducible apply wpC.to); (repeat' ((conv => whnf); first | refine byEv ?_ | (apply Fork.mk <;> (intro _; try (exfalso; omega))) | refine xSpanC0 ?_ | refine xSpanB1 ?_ | refine xSpanB0 ?_ | fail)); all_goals ((conv => whnf); try with_reducible apply At.mk)))
  · (refine byFin ?_)
    exact fin 6 (b2 e0 (by omega)) (by decide)
  have pn : P.n ≤ 24 := by omega
  refine wp_loop (fun s : Nat => [(0, .slice L.b L.n L.c), (1, .int .i64 p), (2, .int .i64 q), (7, .pointer (some ⟨h.next, 0, none⟩)), (8, .pointer (some ⟨h.next + 1, 0, none⟩)), (10, .int .i64 s)])
    (fun s h1 => h1.get h.next = some (.cells [.slice P.b P.n P.c, .int .i64 tm] 33) ∧ h1.get (h.next + 1) = some (.cells [.int .i64 0, .int .i64 0] 38) ∧ Same m h h1 ∧ h.next + 2 ≤ h1.next ∧ s ≤ P.n ∧ ∀ i, i < s → (P.f i).Good L.n) (fun s => P.n - s) 0 ⟨rfl, rfl, rfl, rfl, rfl, rfl, trivial⟩ ⟨byGet, byGet, bySame, byOm, by omega, fun i hi => absurd hi (Nat.not_lt_zero i)⟩ ?_
  rintro s g h3 ⟨x0, x1, sm, n3, hs, gd⟩ K hK
  by_cases hsn : s < P.n
  · have pi5 := pi.same sm pr
    have pr' := pr (by omega)
    unfold PS.cells at pi5
    (focus ((try with_reducible apply wpC.to); (repeat' ((conv => whnf); first | refine byEv ?_ | (apply Fork.mk <;> (intro _; try (exfalso; omega))) | refine xSpanC0 ?_ | refine xSpanB1 ?_ | refine xSpanB0 ?_ | fail)); all_goals ((conv => whnf); try with_reducible apply At.mk)))
    all_goals first
      | ((refine byFin ?_)
         exact fin 3 (b3 e0 pn fun k => by obtain ⟨⟨k1, k2⟩, k3, k4⟩ := k.1 s hsn; omega) (by decide))
      | (refine hK (s + 1) _ _ ⟨rfl, rfl, rfl, rfl, rfl, int_of rfl (by omega), trivial⟩ ⟨byGet, byGet, bySame, byOm, by omega, fun i hi => ?_⟩ (by omega)
         by_cases e : i = s
         · subst e; exact ⟨⟨by omega, by omega⟩, by omega, by omega⟩
         · exact gd i (by omega))
  obtain rfl : s = P.n := by omega
  have gs : P.Goods L.n := gd
  (focus ((try with_reducible apply wpC.to); (repeat' ((conv => whnf); first | refine byEv ?_ | (apply Fork.mk <;> (intro _; try (exfalso; omega))) | refine xSpanC0 ?_ | refine xSpanB1 ?_ | refine xSpanB0 ?_ | fail)); all_goals ((conv => whnf); try with_reducible apply At.mk)))
  · (refine byFin ?_)
    exact fin 3 (b3 e0 pn fun k => by have := k.2; omega) (by decide)
  · (refine byFin ?_)
    exact fin 3 (b3 e0 pn fun k => by have := k.2; omega) (by decide)
  have ht : 1 ≤ tm ∧ tm ≤ 1099511627776 := by omega
  refine wp_loop (fun s : Nat => [(0, .slice L.b L.n L.c), (1, .int .i64 p), (2, .int .i64 q), (7, .pointer (some ⟨h.next, 0, none⟩)), (8, .pointer (some ⟨h.next + 1, 0, none⟩)), (12, .int .i64 (P.part L s).u), (13, .int .i64 (P.part L s).v), (14, .int .i64 (P.part L s).w), (15, .int .i64 s)])
    (fun s h1 => h1.get h.next = some (.cells [.slice P.b P.n P.c, .int .i64 tm] 33) ∧ h1.get (h.next + 1) = some (.cells [.int .i64 0, .int .i64 0] 38) ∧ Same m h h1 ∧ h.next + 2 ≤ h1.next ∧ s ≤ P.n) (fun s => P.n - s) 0 ⟨rfl, rfl, rfl, rfl, rfl, rfl, rfl, rfl, rfl, trivial⟩ ⟨byGet, byGet, bySame, byOm, by omega⟩ ?_
  rintro s g h4 ⟨x0, x1, sm, n4, hs⟩ K hK
  by_cases hsn : s < P.n
  · have gd := gs s hsn
    obtain ⟨⟨gr1, gr2⟩, gt⟩ := id gd
    have pi5 := pi.same sm pr
    have li5 := li.same sm lr
    have pr' := pr (by omega)
    have lr' := lr (by omega)
    unfold PS.cells at pi5
    unfold Run.cells at li5
    have xr : (P.f s).r.toNat < L.n := by omega
    obtain ⟨⟨v1, v2⟩, ⟨v3, v4⟩, -, v5, v6, v7⟩ := lv _ xr
    have m1 := mul_bnd (b := (P.f s).t) (B := 1000000) v1 v2 (by omega) (by omega)
    have m2 := mul_bnd (b := (P.f s).t) (B := 1000000) v3 v4 (by omega) (by omega)
    have m3 := mul_bnd (a := (L.f (P.f s).r.toNat).lo) (A := 100000) (b := (P.f s).t) (B := 1000000) (by omega) (by omega) (by omega) (by omega)
    have m4 := mul_bnd (a := (L.f (P.f s).r.toNat).hi) (A := 100000) (b := (P.f s).t) (B := 1000000) (by omega) (by omega) (by omega) (by omega)
    obtain ⟨u1, u2, u3⟩ := part_up lv gs s (by omega)
    have eq := P.part_succ L s
    cases hup : (P.f s).up
    · have es : sdOf L (P.f s) = (L.f (P.f s).r.toNat).lower := by unfold sdOf; rw [hup]; rfl
      rw [es] at eq
      have e1 : (P.part L (s + 1)).u = (P.part L s).u + (L.f (P.f s).r.toNat).p * (P.f s).t := by rw [eq]; rfl
      have e2 : (P.part L (s + 1)).v = (P.part L s).v + (L.f (P.f s).r.toNat).q * (P.f s).t := by rw [eq]; rfl
      have e3 : (P.part L (s + 1)).w = (P.part L s).w + (L.f (P.f s).r.toNat).lo * (P.f s).t := by rw [eq]; rfl
      (focus ((try with_reducible apply wpC.to); (repeat' ((conv => whnf); first | refine byEv ?_ | (apply Fork.mk <;> (intro _; try (exfalso; omega))) | refine xSpanC0 ?_ | refine xSpanB1 ?_ | refine xSpanB0 ?_ | fail)); all_goals ((conv => whnf); try with_reducible apply At.mk)))
      rw [hup]
      (focus ((try with_reducible apply wpC.to); (repeat' ((conv => whnf); first | refine byEv ?_ | (apply Fork.mk <;> (intro _; try (exfalso; omega))) | refine xSpanC0 ?_ | refine xSpanB1 ?_ | refine xSpanB0 ?_ | fail)); all_goals ((conv => whnf); try with_reducible apply At.mk)))
      exact hK (s + 1) _ _ ⟨rfl, rfl, rfl, rfl, rfl, int_of rfl e1.symm, int_of rfl e2.symm, int_of rfl e3.symm, int_of rfl (by omega), trivial⟩ ⟨byGet, byGet, bySame, byOm, by omega⟩ (by omega)
    · have es : sdOf L (P.f s) = (L.f (P.f s).r.toNat).upper := by unfold sdOf; rw [hup]; rfl
      rw [es] at eq
      have e1 : (P.part L (s + 1)).u = (P.part L s).u - (L.f (P.f s).r.toNat).p * (P.f s).t := by rw [eq]; show (P.part L s).u + -(L.f (P.f s).r.toNat).p * (P.f s).t = _; rw [Int.neg_mul]; omega
      have e2 : (P.part L (s + 1)).v = (P.part L s).v - (L.f (P.f s).r.toNat).q * (P.f s).t := by rw [eq]; show (P.part L s).v + -(L.f (P.f s).r.toNat).q * (P.f s).t = _; rw [Int.neg_mul]; omega
      have e3 : (P.part L (s + 1)).w = (P.part L s).w - (L.f (P.f s).r.toNat).hi * (P.f s).t := by rw [eq]; show (P.part L s).w + -(L.f (P.f s).r.toNat).hi * (P.f s).t = _; rw [Int.neg_mul]; omega
      (focus ((try with_reducible apply wpC.to); (repeat' ((conv => whnf); first | refine byEv ?_ | (apply Fork.mk <;> (intro _; try (exfalso; omega))) | refine xSpanC0 ?_ | refine xSpanB1 ?_ | refine xSpanB0 ?_ | fail)); all_goals ((conv => whnf); try with_reducible apply At.mk)))
      rw [hup]
      (focus ((try with_reducible apply wpC.to); (repeat' ((conv => whnf); first | refine byEv ?_ | (apply Fork.mk <;> (intro _; try (exfalso; omega))) | refine xSpanC0 ?_ | refine xSpanB1 ?_ | refine xSpanB0 ?_ | fail)); all_goals ((conv => whnf); try with_reducible apply At.mk)))
      exact hK (s + 1) _ _ ⟨rfl, rfl, rfl, rfl, rfl, int_of rfl e1.symm, int_of rfl e2.symm, int_of rfl e3.symm, int_of rfl (by omega), trivial⟩ ⟨byGet, byGet, bySame, byOm, by omega⟩ (by omega)
  obtain rfl : s = P.n := by omega
  have es : P.part L P.n = P.sum L := rfl
  rw [es]
  obtain ⟨u1, u2, u3⟩ := part_up lv gs P.n (Nat.le_refl _)
  rw [es] at u1 u2 u3
  have m1 := mul_bnd fac.1.1 fac.1.2 (show -1099511627776 ≤ tm by omega) ht.2
  have m2 := mul_bnd fac.2.1 fac.2.2 (show -1099511627776 ≤ tm by omega) ht.2
  (focus ((try with_reducible apply wpC.to); (repeat' ((conv => whnf); first | refine byEv ?_ | (apply Fork.mk <;> (intro _; try (exfalso; omega))) | refine xSpanC0 ?_ | refine xSpanB1 ?_ | refine xSpanB0 ?_ | fail)); all_goals ((conv => whnf); try with_reducible apply At.mk)))
  · (refine byFin ?_)
    exact fin 14 (b4 e0 pn ⟨gs, ht⟩ fun k => by have := k.1; rw [Int.mul_comm] at this; contradiction) (by decide)
  · (refine byFin ?_)
    exact fin 14 (b4 e0 pn ⟨gs, ht⟩ fun k => by have := k.2; rw [Int.mul_comm] at this; contradiction) (by decide)
  rename_i hu hv
  have ec := b5 e0 pn ⟨gs, ht⟩ ⟨by rw [hu, Int.mul_comm], by rw [hv, Int.mul_comm]⟩
  apply q_callv
  focus (exact byNext)
  focus (exact byLo)
  focus exact reduced_r (by omega) (by omega)
  intro h9 q9 n9
  unfold Fr.cells
  (focus ((try with_reducible apply wpC.to); (repeat' ((conv => whnf); first | refine byEv ?_ | (apply Fork.mk <;> (intro _; try (exfalso; omega))) | refine xSpanC0 ?_ | refine xSpanB1 ?_ | refine xSpanB0 ?_ | fail)); all_goals ((conv => whnf); try with_reducible apply At.mk)))
  (refine byFin ?_)
  unfold Runs.cval
  rw [ec, if_pos rfl]

theorem factor_l {h : H} {n : Int} : AW Try.prog 32 h.next h [.int .i64 n] (fun v _ => v = .bool (decide (-20 ≤ n ∧ n ≤ 20))) := by
  refine fun32.call rfl (Nat.le_refl _) ?_
  unfold a32
  (focus ((try with_reducible apply wpC.to); (repeat' ((conv => whnf); first | refine byEv ?_ | (apply Fork.mk <;> (intro _; try (exfalso; omega))) | fail)); all_goals ((conv => whnf); try with_reducible apply At.mk)))
  all_goals ((refine byFin ?_); first | exact bool_t rfl (by omega) | exact bool_f rfl (by omega))
theorem whole_l {h : H} {n : Int} : AW Try.prog 30 h.next h [.int .i64 n] (fun v _ => v = .agg ⟨(⟨n, 1⟩ : Fr).cells⟩) := by
  refine fun30.call rfl (Nat.le_refl _) ?_
  unfold a30
  (focus ((try with_reducible apply wpC.to); (repeat' ((conv => whnf); first | refine byEv ?_ | fail)); all_goals ((conv => whnf); try with_reducible apply At.mk)))
  (refine byFin ?_)
  rfl
def Fr.Proper (x : Fr) : Prop := (1 ≤ x.d ∧ x.d ≤ 1000) ∧ -1073741824 ≤ x.n ∧ x.n ≤ 1073741824
instance (x : Fr) : Decidable x.Proper := inferInstanceAs (Decidable (_ ∧ _))
theorem Runs.err2_of {L : Runs} {p q : Int} (h : L.err = 0) (f : Fac p q) : L.err2 p q = 0 := by unfold Runs.err2; rw [if_neg (by omega), if_pos f]
theorem fine_l {h : H} {L : Runs} {m : Nat} {p q : Int} (hm : m ≤ h.next) (hL : L.Ok m h) : AW Try.prog 27 h.next h [.slice L.b L.n L.c, .int .i64 p, .int .i64 q] (fun v _ => v = .bool (decide (L.err2 p q = 0))) := by
  refine fun27.call rfl (Nat.le_refl _) ?_
  unfold a27
  (focus ((try with_reducible apply wpC.to); (repeat' ((conv => whnf); first | refine byEv ?_ | (apply Fork.mk <;> (intro _; try (exfalso; omega))) | ((refine kSpanB7 ?_); first | ((first | apply q_allD | apply q_alli | apply q_allB) <;> intro _ _ _ _ <;> try contradiction) | (apply q_allv; intro _ _ _)) | fail)); all_goals ((conv => whnf); try with_reducible apply At.mk)))
  · apply q_callB
    focus (exact byNext)
    focus (exact byLo)
    focus exact factor_l
    · intro hb h2 q2 n2
      have hb := of_decide_eq_true hb
      (focus ((try with_reducible apply wpC.to); (repeat' ((conv => whnf); first | refine byEv ?_ | (apply Fork.mk <;> (intro _; try (exfalso; omega))) | ((refine kSpanB7 ?_); first | ((first | apply q_allD | apply q_alli | apply q_allB) <;> intro _ _ _ _ <;> try contradiction) | (apply q_allv; intro _ _ _)) | fail)); all_goals ((conv => whnf); try with_reducible apply At.mk)))
      apply q_callB
      focus (exact byNext)
      focus (exact byLo)
      focus exact factor_l
      · intro hb2 h3 q3 n3
        have hb2 := of_decide_eq_true hb2
        (focus ((try with_reducible apply wpC.to); (repeat' ((conv => whnf); first | refine byEv ?_ | (apply Fork.mk <;> (intro _; try (exfalso; omega))) | ((refine kSpanB7 ?_); first | ((first | apply q_allD | apply q_alli | apply q_allB) <;> intro _ _ _ _ <;> try contradiction) | (apply q_allv; intro _ _ _)) | fail)); all_goals ((conv => whnf); try with_reducible apply At.mk)))
        (refine byFin ?_)
        exact bool_t rfl (Runs.err2_of (by assumption) ⟨hb, hb2⟩)
      · intro hb2 h3 q3 n3
        have hb2 := of_decide_eq_false hb2
        (focus ((try with_reducible apply wpC.to); (repeat' ((conv => whnf); first | refine byEv ?_ | (apply Fork.mk <;> (intro _; try (exfalso; omega))) | ((refine kSpanB7 ?_); first | ((first | apply q_allD | apply q_alli | apply q_allB) <;> intro _ _ _ _ <;> try contradiction) | (apply q_allv; intro _ _ _)) | fail)); all_goals ((conv => whnf); try with_reducible apply At.mk)))
        (refine byFin ?_)
        exact bool_f rfl (fun k => hb2 (Runs.err2_0 k).2.2)
    · intro hb h2 q2 n2
      have hb := of_decide_eq_false hb
      (focus ((try with_reducible apply wpC.to); (repeat' ((conv => whnf); first | refine byEv ?_ | (apply Fork.mk <;> (intro _; try (exfalso; omega))) | ((refine kSpanB7 ?_); first | ((first | apply q_allD | apply q_alli | apply q_allB) <;> intro _ _ _ _ <;> try contradiction) | (apply q_allv; intro _ _ _)) | fail)); all_goals ((conv => whnf); try with_reducible apply At.mk)))
      (refine byFin ?_)
      exact bool_f rfl (fun k => hb (Runs.err2_0 k).2.1)
  · (refine byFin ?_)
    exact bool_f rfl (fun k => by have := (Runs.err2_0 k).1; contradiction)
end AE.Try
