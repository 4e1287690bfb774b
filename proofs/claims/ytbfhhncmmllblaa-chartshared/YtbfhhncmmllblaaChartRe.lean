/- Walks of the definitions of charts: all ends. -/
import Derived.Test.YtbfhhncmmllblaaChartRd
set_option linter.unusedVariables false
set_option linter.unusedSimpArgs false
set_option linter.unusedSectionVars false
namespace AE.Try
open Go AE Go.Proofs
set_option maxRecDepth 100000
set_option linter.unusedVariables false

theorem IG.touch {r n N : Nat} {h : H} {f : Nat → Int} {v : Option Addr} (k : IG r h n f v) (hr : 0 < n → N ≤ r) : ∀ j ∈ touchV (.slice v n 0), N ≤ j := by
  rcases k with ⟨-, rfl⟩ | ⟨h0, G⟩
  · intro j hj
    simp [touchV] at hj
  · obtain ⟨a, rfl, ha, -⟩ := G.load
    intro j hj
    simp [touchV] at hj
    have := hr h0
    omega
theorem Apart.above {ts : Ts} {a b : Opd} {l : List (Opd × Opd)} {s N : Nat} (ha : ∀ r ∈ touchV (ev ts a), N ≤ r) (hb : touchV (ev ts b) = [s]) (hlt : s < N) (hl : Apart l ts) : Apart ((a, b) :: l) ts := by
  intro p hp
  rcases List.mem_cons.1 hp with rfl | hp
  · intro r hr
    rw [hb]
    have := ha r hr
    simp
    omega
  · exact hl p hp
def noMat : Mat := ⟨0, fun _ => 0, none, ⟨0, 0, none⟩, 0, fun _ => none, fun _ => ⟨0, 0, none⟩, fun _ => 0⟩

set_option maxHeartbeats 4000000 in
theorem ends_r {h : H} {T : Tbl} {m : Nat} (hm : m ≤ h.next) (hT : T.Ok m h) (g : T.Good) : AW Try.prog 57 h.next h [.agg ⟨T.cells⟩] (fun v h' => ∃ A B : Pul, v = .tuple #[.slice A.M.b A.M.n A.M.c, .slice B.M.b B.M.n B.M.c] ∧ (∃ O1 O2 : Nat → Prop, (∀ r, O1 r → O2 r → False) ∧ OM O1 A h.next h'.next h' ∧ OM O2 B h.next h'.next h') ∧ (A.M.n = T.P.n ∧ ∀ i, i < T.P.n → A.M.w i = T.A.n) ∧ (B.M.n = T.P.n ∧ ∀ i, i < T.P.n → B.M.w i = T.A.n) ∧ A.f = T.lo ∧ B.f = T.hi) := by
  have gn := g.n
  have gw := g.w
  have gp2 := g.p2
  have ga2 := g.a2
  have gp8 := g.p8
  have ga10 := g.a10
  obtain ⟨kP, kA, kR⟩ := hT
  obtain ⟨e1, i1, r1, l1, re, ri, rr, rl⟩ := kR
  refine fun57.call rfl (Nat.le_refl _) ?_
  unfold a57 Tbl.cells
  (focus ((try with_reducible apply wpC.to); (repeat' ((conv => whnf); first | refine byEv ?_ | ((apply Fork.mk) <;> (intro _; try (exfalso; omega; done))) | ((apply Load1.mk); (focus ((repeat (first | (apply el_lo <;> first | assumption | omega) | (apply el_hi <;> first | assumption | omega) | apply bump_old | ((apply put_old); focus (dsimp only [aadd]; omega)) | ((apply quiet_old); (focus assumption); focus (dsimp only [aadd]; omega)) | ((apply same_old); (focus assumption); focus (dsimp only [aadd]; omega)))); done)); (focus exact byVal)) | fail)); all_goals (conv => whnf); all_goals (try with_reducible apply At.mk)))
  refine wp_loop (fun s : (Nat × Option Addr × Mat) × Option Addr × Mat => [(1, .pointer (some ⟨h.next, 0, none⟩)), (4, .slice s.1.2.1 s.1.1 0), (5, .slice s.2.1 s.1.1 0), (6, .int .i64 s.1.1)])
    (fun s h1 => h1.get h.next = some (.cells (exBox T) 25) ∧ Same m h h1 ∧ h.next + 1 ≤ h1.next ∧ s.1.1 ≤ T.R.n ∧ ((∀ i, i < s.1.1 → s.1.2.2.w i = T.A.n) ∧ ∀ i, i < s.1.1 → s.2.2.w i = T.A.n) ∧ ∃ O1 O2 : Nat → Prop, (∀ r, O1 r → O2 r → False) ∧ (∀ r, O1 r ∨ O2 r → r < h1.next) ∧ LB O1 s.1.2.2 s.1.1 T.lo (h.next + 1) h1.next h1 s.1.2.1 ∧ LB O2 s.2.2 s.1.1 T.hi (h.next + 1) h1.next h1 s.2.1) (fun s => T.R.n - s.1.1) ((0, none, noMat), none, noMat) ⟨rfl, rfl, rfl, rfl, trivial⟩ ⟨by (exact byGet), by (exact bySame), by (exact byOm), by dsimp only; omega, ⟨fun i hi => by dsimp only at hi; omega, fun i hi => by dsimp only at hi; omega⟩, fun _ => False, fun _ => False, fun _ h _ => h, fun _ h => by simp at h, LB.zero, LB.zero⟩ ?_
  rintro ⟨⟨s, v4, M1⟩, v5, M2⟩ g' h1 ⟨g1, sm, n1, hs, ⟨hw1, hw2⟩, O1, O2, hO, hOb, hP1, hP2⟩ K hK
  dsimp only at hs hw1 hw2 hP1 hP2 ⊢
  unfold exBox at g1
  have i5 := i1.same sm r1
  by_cases hsn : s < T.R.n
  · have hww : T.R.w s = T.A.n := gw s (by omega)
    have lw := rl s hsn
    (focus ((try with_reducible apply wpC.to); (repeat' ((conv => whnf); first | refine byEv ?_ | ((apply Fork.mk) <;> (intro _; try (exfalso; omega; done))) | ((apply Load1.mk); (focus ((repeat (first | (apply el_lo <;> first | assumption | omega) | (apply el_hi <;> first | assumption | omega) | apply bump_old | ((apply put_old); focus (dsimp only [aadd]; omega)) | ((apply quiet_old); (focus assumption); focus (dsimp only [aadd]; omega)) | ((apply same_old); (focus assumption); focus (dsimp only [aadd]; omega)))); done)); (focus exact byVal)) | fail)); all_goals (conv => whnf); all_goals (try with_reducible apply At.mk)))
    refine wp_loop (fun t : Nat × (Option Addr × Nat) × Option Addr × Nat => [(1, .pointer (some ⟨h.next, 0, none⟩)), (4, .slice v4 s 0), (5, .slice v5 s 0), (6, .int .i64 s), (7, .slice t.2.1.1 t.1 0), (8, .slice t.2.2.1 t.1 0), (9, .int .i64 t.1)])
      (fun t h2 => h2.get h.next = some (.cells (exBox T) 25) ∧ Same m h h2 ∧ h1.next ≤ h2.next ∧ t.1 ≤ T.R.w s ∧ (IG t.2.1.2 h2 t.1 (T.lo s) t.2.1.1 ∧ IG t.2.2.2 h2 t.1 (T.hi s) t.2.2.1) ∧ (0 < t.1 → t.2.1.2 ≠ t.2.2.2 ∧ (h1.next ≤ t.2.1.2 ∧ t.2.1.2 < h2.next) ∧ (h1.next ≤ t.2.2.2 ∧ t.2.2.2 < h2.next)) ∧ LB O1 M1 s T.lo (h.next + 1) h1.next h2 v4 ∧ LB O2 M2 s T.hi (h.next + 1) h1.next h2 v5) (fun t => T.R.w s - t.1) (0, (none, 0), none, 0) ⟨rfl, rfl, rfl, rfl, rfl, rfl, rfl, trivial⟩ ⟨by (exact byGet), by (exact bySame), by (exact byOm), by dsimp only; omega, ⟨IG.zero, IG.zero⟩, fun h => absurd h (Nat.lt_irrefl 0), hP1.frame (Nat.le_refl _) fun _ _ _ _ => rfl, hP2.frame (Nat.le_refl _) fun _ _ _ _ => rfl⟩ ?_
    rintro ⟨t, ⟨v1, q1⟩, v2, q2⟩ g'' h2 ⟨g2, sm2, n2, ht, ⟨G1, G2⟩, hq, hL1, hL2⟩ K' hK'
    dsimp only at ht G1 G2 hq ⊢
    unfold exBox at g2
    have i7 := i1.same sm2 r1
    have re7 := re s hsn
    have ri7 := (ri s hsn).same sm2 (rr s hsn)
    by_cases htw : t < T.R.w s
    · have rr7 := rr s hsn (by omega)
      (focus ((try with_reducible apply wpC.to); (repeat' ((conv => whnf); first | refine byEv ?_ | ((apply Fork.mk) <;> (intro _; try (exfalso; omega; done))) | ((apply Load1.mk); (focus ((repeat (first | (apply el_lo <;> first | assumption | omega) | (apply el_hi <;> first | assumption | omega) | apply bump_old | ((apply put_old); focus (dsimp only [aadd]; omega)) | ((apply quiet_old); (focus assumption); focus (dsimp only [aadd]; omega)) | ((apply same_old); (focus assumption); focus (dsimp only [aadd]; omega)))); done)); (focus exact byVal)) | fail)); all_goals (conv => whnf); all_goals (try with_reducible apply At.mk)))
      apply q_appI (r := q1) (n := t) (f := T.lo s) (v := v1)
      case G => exact G1.frame fun h0 => get_of fun y hy => by have := hq h0; (exact byGet)
      case hsv => exact rfl
      case C => exact Cells.one (by (exact byMem)) (by unfold far; omega) rfl rfl
      case hlo => omega
      case hlr => exact fun h0 => by have := hq h0; omega
      case hsm => omega
      intro v1' q1' row1 a1 a2 a3 G1'
      have c1 : h1.next ≤ q1' ∧ q1' < h2.next + 20 ∧ q1' ≠ h2.next + 30 := by
        rcases Nat.eq_zero_or_pos t with h0 | h0
        · have := a1 h0; omega
        · have := a2 h0; have := hq h0; omega
      (focus ((try with_reducible apply wpC.to); (repeat' ((conv => whnf); first | refine byEv ?_ | ((apply Fork.mk) <;> (intro _; try (exfalso; omega; done))) | ((apply Load1.mk); (focus ((repeat (first | (apply el_lo <;> first | assumption | omega) | (apply el_hi <;> first | assumption | omega) | apply bump_old | ((apply put_old); focus (dsimp only [aadd]; omega)) | ((apply quiet_old); (focus assumption); focus (dsimp only [aadd]; omega)) | ((apply same_old); (focus assumption); focus (dsimp only [aadd]; omega)))); done)); (focus exact byVal)) | fail)); all_goals (conv => whnf); all_goals (try with_reducible apply At.mk)))
      apply q_appI (r := q2) (n := t) (f := T.hi s) (v := v2)
      case G => exact G2.frame fun h0 => get_of fun y hy => by have := hq h0; have := a2 h0; (exact byGet)
      case hsv => exact rfl
      case C => exact Cells.one (by (exact byMem)) (by unfold far; omega) rfl rfl
      case hlo => omega
      case hlr => exact fun h0 => by have := hq h0; omega
      case hsm => omega
      intro v2' q2' row2 b1 b2 b3 G2'
      have c2 : h1.next ≤ q2' ∧ q2' < h2.next + 32 ∧ q2' ≠ q1' := by
        rcases Nat.eq_zero_or_pos t with h0 | h0
        · have := b1 h0; omega
        · have := b2 h0; have := a2 h0; have := hq h0; omega
      (focus ((try with_reducible apply wpC.to); (repeat' ((conv => whnf); first | refine byEv ?_ | ((apply Fork.mk) <;> (intro _; try (exfalso; omega; done))) | ((apply Load1.mk); (focus ((repeat (first | (apply el_lo <;> first | assumption | omega) | (apply el_hi <;> first | assumption | omega) | apply bump_old | ((apply put_old); focus (dsimp only [aadd]; omega)) | ((apply quiet_old); (focus assumption); focus (dsimp only [aadd]; omega)) | ((apply same_old); (focus assumption); focus (dsimp only [aadd]; omega)))); done)); (focus exact byVal)) | fail)); all_goals (conv => whnf); all_goals (try with_reducible apply At.mk)))
      have hv1 := G1.touch (N := h1.next) fun h0 => (hq h0).2.1.1
      refine Need.mk (Apart.above hv1 rfl (by show h.next < _; omega) (Apart.above hv1 rfl (by show T.R.a.block < _; have := r1 (by omega); omega) (Apart.above hv1 rfl (by show (T.R.ra s).block < _; omega) Apart.nil))) ?_
      (focus ((try with_reducible apply wpC.to); (repeat' ((conv => whnf); first | refine byEv ?_ | ((apply Fork.mk) <;> (intro _; try (exfalso; omega; done))) | ((apply Load1.mk); (focus ((repeat (first | (apply el_lo <;> first | assumption | omega) | (apply el_hi <;> first | assumption | omega) | apply bump_old | ((apply put_old); focus (dsimp only [aadd]; omega)) | ((apply quiet_old); (focus assumption); focus (dsimp only [aadd]; omega)) | ((apply same_old); (focus assumption); focus (dsimp only [aadd]; omega)))); done)); (focus exact byVal)) | fail)); all_goals (conv => whnf); all_goals (try with_reducible apply At.mk)))
      refine hK' (t + 1, (v1', q1'), v2', q2') _ _ ⟨rfl, rfl, rfl, rfl, rfl, rfl, int_of rfl (by omega), trivial⟩ ⟨by (exact byGet), by (exact bySame), by (exact byOm), by dsimp only; omega, ⟨G1'.frame fun _ => get_of fun y hy => by (exact byGet), G2'.frame fun _ => rfl⟩, fun _ => ⟨by dsimp only; omega, ⟨by dsimp only; omega, by dsimp only; (exact byOm)⟩, ⟨by dsimp only; omega, by dsimp only; (exact byOm)⟩⟩, hL1.frame (Nat.le_refl _) fun r hr1 hr2 _ => get_of fun y hy => by (exact byGet), hL2.frame (Nat.le_refl _) fun r hr1 hr2 _ => get_of fun y hy => by (exact byGet)⟩ (by dsimp only; omega)
    · obtain rfl : t = T.R.w s := by omega
      have hq' := hq (by omega)
      have R1 := G1.row (by omega)
      have R2 := G2.row (by omega)
      obtain ⟨x1, rfl, hx1, -⟩ := R1.ints
      obtain ⟨x2, rfl, hx2, -⟩ := R2.ints
      (focus ((try with_reducible apply wpC.to); (repeat' ((conv => whnf); first | refine byEv ?_ | ((apply Fork.mk) <;> (intro _; try (exfalso; omega; done))) | ((apply Load1.mk); (focus ((repeat (first | (apply el_lo <;> first | assumption | omega) | (apply el_hi <;> first | assumption | omega) | apply bump_old | ((apply put_old); focus (dsimp only [aadd]; omega)) | ((apply quiet_old); (focus assumption); focus (dsimp only [aadd]; omega)) | ((apply same_old); (focus assumption); focus (dsimp only [aadd]; omega)))); done)); (focus exact byVal)) | fail)); all_goals (conv => whnf); all_goals (try with_reducible apply At.mk)))
      apply q_appLB (O := O1) (O' := fun j => O1 j ∨ j = q1 ∨ j = h2.next + 11) (M := M1) (s := s) (b := h.next + 1) (m := h1.next) (w := T.R.w s) (rc := 0) (cx := 1) (F := T.lo) (rb := some x1) (ra := x1)
      case hP => exact hL1.frame (Nat.le_refl _) fun r hr1 hr2 _ => get_of fun y hy => by (exact byGet)
      case hO => exact fun _ h => .inl h
      case hO1 => exact .inr (.inr rfl)
      case hsv => exact rfl
      case hx => exact rfl
      case hcx => unfold far; omega
      case hld => (exact byMem)
      case e6 => exact fun _ => rfl
      case G6 => exact fun _ => by rw [hx1]; exact R1.frame (get_of fun y hy => by (exact byGet))
      case r6 => exact fun _ => ⟨by rw [hx1]; omega, .inr (.inl hx1)⟩
      case l6 => exact lw
      case f6 => exact fun _ => by unfold far; omega
      case hlo => omega
      case hbm => omega
      case hm => omega
      case hsm => omega
      intro a4 r row d1 d2 d3 hP3
      have d4 : r ≠ q2 ∧ (r = h2.next + 11 ∨ r < h1.next) := by
        rcases d3 with ⟨_, d3⟩ | d3 <;> omega
      have d5 : ∀ j, O2 j → j < h1.next → j ≠ r := fun j hj hl e => by
        subst e
        rcases d3 with ⟨d3, _⟩ | d3
        · exact hO _ d3 hj
        · omega
      (focus ((try with_reducible apply wpC.to); (repeat' ((conv => whnf); first | refine byEv ?_ | ((apply Fork.mk) <;> (intro _; try (exfalso; omega; done))) | ((apply Load1.mk); (focus ((repeat (first | (apply el_lo <;> first | assumption | omega) | (apply el_hi <;> first | assumption | omega) | apply bump_old | ((apply put_old); focus (dsimp only [aadd]; omega)) | ((apply quiet_old); (focus assumption); focus (dsimp only [aadd]; omega)) | ((apply same_old); (focus assumption); focus (dsimp only [aadd]; omega)))); done)); (focus exact byVal)) | fail)); all_goals (conv => whnf); all_goals (try with_reducible apply At.mk)))
      apply q_appLB (O := O2) (O' := fun j => O2 j ∨ j = q2 ∨ j = h2.next + 15) (M := M2) (s := s) (b := h.next + 1) (m := h1.next) (w := T.R.w s) (rc := 0) (cx := 1) (F := T.hi) (rb := some x2) (ra := x2)
      case hP => exact hL2.frame (Nat.le_refl _) fun j hr1 hr2 ho => get_of fun y hy => by have := d5 j ho hr2; (exact byGet)
      case hO => exact fun _ h => .inl h
      case hO1 => exact .inr (.inr rfl)
      case hsv => exact rfl
      case hx => exact rfl
      case hcx => unfold far; omega
      case hld => (exact byMem)
      case e6 => exact fun _ => rfl
      case G6 => exact fun _ => by rw [hx2]; exact R2.frame (get_of fun y hy => by (exact byGet))
      case r6 => exact fun _ => ⟨by rw [hx2]; omega, .inr (.inl hx2)⟩
      case l6 => exact lw
      case f6 => exact fun _ => by unfold far; omega
      case hlo => omega
      case hbm => omega
      case hm => omega
      case hsm => omega
      intro a5 r' row' f1 f2 f3 hP4
      have f5 : ∀ j, (O1 j ∨ j = q1 ∨ j = h2.next + 11) → j < h2.next + 12 → j ≠ h2.next + 14 ∧ j ≠ r' := fun j hj hl => by
        refine ⟨by omega, fun e => ?_⟩
        subst e
        rcases f3 with ⟨f3, f3'⟩ | f3
        · rcases hj with hj | hj | hj
          · exact hO _ hj f3
          · omega
          · omega
        · omega
      (focus ((try with_reducible apply wpC.to); (repeat' ((conv => whnf); first | refine byEv ?_ | ((apply Fork.mk) <;> (intro _; try (exfalso; omega; done))) | ((apply Load1.mk); (focus ((repeat (first | (apply el_lo <;> first | assumption | omega) | (apply el_hi <;> first | assumption | omega) | apply bump_old | ((apply put_old); focus (dsimp only [aadd]; omega)) | ((apply quiet_old); (focus assumption); focus (dsimp only [aadd]; omega)) | ((apply same_old); (focus assumption); focus (dsimp only [aadd]; omega)))); done)); (focus exact byVal)) | fail)); all_goals (conv => whnf); all_goals (try with_reducible apply At.mk)))
      refine hK ((s + 1, some a4, M1.add s (some x1) (T.R.w s) 0 x1), some a5, M2.add s (some x2) (T.R.w s) 0 x2) _ _ ⟨rfl, rfl, rfl, int_of rfl (by dsimp only; omega), trivial⟩ ⟨by (exact byGet), by (exact bySame), by (exact byOm), by dsimp only; omega, ⟨fun i hi => ?_, fun i hi => ?_⟩, (fun j => O1 j ∨ j = q1 ∨ j = h2.next + 11), (fun j => O2 j ∨ j = q2 ∨ j = h2.next + 15), ?_, ?_, hP3.frame (by (exact byOm)) fun j hj1 hj2 ho => get_of fun y hy => by have := f5 j ho hj2; (exact byGet), hP4.frame (by (exact byOm)) fun j hj1 hj2 ho => rfl⟩ (by dsimp only; omega)
      · dsimp only at hi ⊢
        by_cases e : i = s
        · simp only [Mat.add, if_pos e]; exact hww
        · simp only [Mat.add, if_neg e]; exact hw1 i (by omega)
      · dsimp only at hi ⊢
        by_cases e : i = s
        · simp only [Mat.add, if_pos e]; exact hww
        · simp only [Mat.add, if_neg e]; exact hw2 i (by omega)
      · rintro j (h1 | h1 | h1) (h2 | h2 | h2)
        · exact hO j h1 h2
        · have := hOb j (.inl h1); omega
        · have := hOb j (.inl h1); omega
        · have := hOb j (.inr h2); omega
        · omega
        · omega
        · have := hOb j (.inr h2); omega
        · omega
        · omega
      · rintro j ((h1 | h1 | h1) | (h1 | h1 | h1))
        · have := hOb j (.inl h1); (exact byOm)
        · (exact byOm)
        · (exact byOm)
        · have := hOb j (.inr h1); (exact byOm)
        · (exact byOm)
        · (exact byOm)
  · obtain rfl : s = T.R.n := by omega
    obtain ⟨a1, o1⟩ := hP1.om l1
    obtain ⟨a2, o2⟩ := hP2.om l1
    (focus ((try with_reducible apply wpC.to); (repeat' ((conv => whnf); first | refine byEv ?_ | ((apply Fork.mk) <;> (intro _; try (exfalso; omega; done))) | ((apply Load1.mk); (focus ((repeat (first | (apply el_lo <;> first | assumption | omega) | (apply el_hi <;> first | assumption | omega) | apply bump_old | ((apply put_old); focus (dsimp only [aadd]; omega)) | ((apply quiet_old); (focus assumption); focus (dsimp only [aadd]; omega)) | ((apply same_old); (focus assumption); focus (dsimp only [aadd]; omega)))); done)); (focus exact byVal)) | fail)); all_goals (conv => whnf); all_goals (try with_reducible apply At.mk)))
    (refine byFin ?_)
    refine ⟨⟨{ M1 with n := T.R.n, b := v4, a := a1, c := 0 }, T.lo⟩, ⟨{ M2 with n := T.R.n, b := v5, a := a2, c := 0 }, T.hi⟩, rfl, ⟨O1, O2, hO, ?_, ?_⟩, ⟨gn, fun i hi => hw1 i (by omega)⟩, ⟨gn, fun i hi => hw2 i (by omega)⟩, rfl, rfl⟩
    · exact OM.lower (b := h.next + 1) (m := h1.next) (o1.frame (Nat.le_refl _) fun _ _ _ _ => rfl) (by omega) (by (exact byOm))
    · exact OM.lower (b := h.next + 1) (m := h1.next) (o2.frame (Nat.le_refl _) fun _ _ _ _ => rfl) (by omega) (by (exact byOm))
end AE.Try
