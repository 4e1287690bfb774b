/- Walk of TopFairTests. -/
import Derived.Test.YtndkjpkadfpflaaGreatJoin4
import Derived.Test.YtndkjpkadfpflaaGreatTopF8
import Derived.Test.YtndkjpkadfpflaaGreatJoin3
set_option linter.unusedVariables false
set_option linter.unusedSimpArgs false
set_option linter.unusedSectionVars false
namespace AE.Tryz
open Go AE Go.Proofs AE.Fair AE.Drag
set_option maxRecDepth 100000
set_option linter.unusedVariables false

/-- Where the walk over the tests is. -/
structure TS where
  i : Nat
  r1 : Nat
  r2 : Nat
  w1 : Option Addr
  w2 : Option Addr
noncomputable def rgOf (Q : Tests) (S : Lines) (i : Nat) : Rg := ⟨spanLo (Q.f i) S, spanHi (Q.f i) S⟩
noncomputable def cOf (Q : Tests) (S : Lines) (s : Six) (j i : Nat) : Int := coef (Q.f i) (S.ln j) (pickX (Q.f i) s)
/-- What stands while a test is looked at. -/
structure TK (Q : Tests) (S : Lines) (s : Six) (t : Int) (j : Nat) (h : H) (B N i r1 r2 : Nat) (w1 w2 : Option Addr) (X : H) : Prop where
  sm : Same h.next h X
  ga : X.get h.next = some (.cells s.cells 67)
  gs : X.get B = some (.cells [.slice w1 i 0, .int .i64 t] 34)
  G1 : GG r1 X 36 2 i (rowsOf (fun i => (rgOf Q S i).cells) i) w1
  G2 : GG r2 X 2 1 i (iCells (cOf Q S s j) i) w2
  hr : 0 < i → r1 ≠ r2 ∧ B + 1 ≤ r1 ∧ r1 < N ∧ B + 1 ≤ r2 ∧ r2 < N
  hb : h.next < B
  hn : B < N
  nx : N ≤ X.next
theorem TK.of {Q : Tests} {S : Lines} {s : Six} {t : Int} {j B N i r1 r2 : Nat} {w1 w2 : Option Addr} {h X Y : H} (k : TK Q S s t j h B N i r1 r2 w1 w2 X) (hs : ∀ r, r < N → Y.get r = X.get r) (hx : N ≤ Y.next) : TK Q S s t j h B N i r1 r2 w1 w2 Y :=
  have a := k.hb
  have b := k.hn
  ⟨fun r hr => (hs r (by omega)).trans (k.sm r hr), (hs _ (by omega)).trans k.ga, (hs _ (by omega)).trans k.gs, k.G1.frame fun h0 => hs _ (k.hr h0).2.2.1, k.G2.frame fun h0 => hs _ (k.hr h0).2.2.2.2, k.hr, a, b, hx⟩
set_option maxHeartbeats 4000000 in
theorem fairTests_w {h : H} {Q : Tests} {S : Lines} {m0 : Nat} {s : Six} {turn which : Int} (hm : m0 ≤ h.next) (hQ : Q.Ok m0 h) (hS : S.Ok m0 h) (ht : 0 ≤ turn ∧ turn < 4294967296) (hw : 0 ≤ which ∧ which < 256) (hs : s.Ok) :
    AW Tryz.prog 5 h.next h [.slice Q.b Q.k Q.c, .slice S.b S.k S.c, .int .u32 turn, .int .u8 which, .agg ⟨s.cells⟩] (fun v _ => v = .bool true) := by
  obtain ⟨qe, qi, qr, ql⟩ := hQ
  have sl := hS.l
  refine fun5.call rfl (Nat.le_refl _) ?_
  unfold a5 Six.cells
  by_cases hk : Q.k < 1 ∨ 6 < Q.k
  · (focus ((try with_reducible apply wpC.to); (repeat' ((conv => whnf); first | refine byEv ?_ | (apply Fork.mk <;> (intro _; try (exfalso; omega))) | ((apply q_call); (focus exact byNext); (focus exact byLo); (focus (first | exact kTopW1 | exact kTopG10 | exact kTDragR1 | exact kTDragQ1 | exact kTDragG2 | exact kTDragF5 | exact kTDragF4 | exact kTDragE1 | exact kTDragD0)); first | ((apply q_allB) <;> (intro z_b _ _ _; first | exact Bool.noConfusion z_b | replace z_b := of_decide_eq_true z_b | replace z_b := of_decide_eq_false z_b | skip) <;> ((try simp only [AllOk, Bd.ok, and_true] at z_b); first | contradiction | (revert z_b; intros))) | ((apply q_alli) <;> intro _ _ _ _ <;> try contradiction) | (apply q_allv; intro _ _ _)) | refine xTopF20 ?_ | refine xTopG10 ?_ | fail)); all_goals ((conv => whnf); try with_reducible apply At.mk)))
    all_goals ((refine byFin ?_); rfl)
  by_cases hl : linesErr S = 0
  · have v := linesErr_valid.1 hl
    have hT : ∃ t, t = turn % 1000001 := ⟨_, rfl⟩
    obtain ⟨t, et⟩ := hT
    have htb : 0 ≤ t ∧ t ≤ 1000000 := by omega
    have hk1 := v.lo
    have hk4 := v.hi
    obtain ⟨j, ej⟩ : ∃ j : Nat, (which % (S.k : Int)).toNat = j := ⟨_, rfl⟩
    have hj : j < S.k := by
      have := Int.emod_nonneg which (by omega : (S.k : Int) ≠ 0)
      have := Int.emod_lt_of_pos which (by omega : 0 < (S.k : Int)); omega
    have hjm : 0 ≤ which % (S.k : Int) ∧ which % (S.k : Int) < S.k := ⟨Int.emod_nonneg which (by omega), Int.emod_lt_of_pos which (by omega)⟩
    (focus ((try with_reducible apply wpC.to); (repeat' ((conv => whnf); first | refine byEv ?_ | (apply Fork.mk <;> (intro _; try (exfalso; omega))) | ((apply q_call); (focus exact byNext); (focus exact byLo); (focus (first | exact kTopW1 | exact kTopG10 | exact kTDragR1 | exact kTDragQ1 | exact kTDragG2 | exact kTDragF5 | exact kTDragF4 | exact kTDragE1 | exact kTDragD0)); first | ((apply q_allB) <;> (intro z_b _ _ _; first | exact Bool.noConfusion z_b | replace z_b := of_decide_eq_true z_b | replace z_b := of_decide_eq_false z_b | skip) <;> ((try simp only [AllOk, Bd.ok, and_true] at z_b); first | contradiction | (revert z_b; intros))) | ((apply q_alli) <;> intro _ _ _ _ <;> try contradiction) | (apply q_allv; intro _ _ _)) | refine xTopF20 ?_ | refine xTopG10 ?_ | fail)); all_goals ((conv => whnf); try with_reducible apply At.mk)))
    rw [← et]
    rename_i h1 q1 hn1 hl1
    have s1 : Same h.next h h1 := fun x hx => (q1.same x byOm).trans (get_of fun y hy => byGet)
    have g1 : h1.get h.next = some (.cells s.cells 67) := (q1.same _ byOm).trans (by unfold Six.cells; (exact byGet))
    have hn1' : h.next + 2 ≤ h1.next := by (exact byOm)
    clear q1 hn1 hl1
    unfold Six.cells at g1
    refine wp_loop (fun x : TS => [(0, .slice Q.b Q.k Q.c), (1, .slice S.b S.k S.c), (3, .int .u8 which), (9, .pointer (some ⟨h.next, 0, none⟩)), (11, .pointer (some ⟨h1.next + 4, 0, none⟩)), (12, .slice x.w2 x.i 0), (13, .int .i64 x.i)])
      (fun x h2 => Same h.next h h2 ∧ h2.get h.next = some (.cells s.cells 67) ∧ h2.get (h1.next + 4) = some (.cells [.slice x.w1 x.i 0, .int .i64 t] 34) ∧ GG x.r1 h2 36 2 x.i (rowsOf (fun i => (rgOf Q S i).cells) x.i) x.w1 ∧ GG x.r2 h2 2 1 x.i (iCells (cOf Q S s j) x.i) x.w2 ∧
        (0 < x.i → x.r1 ≠ x.r2 ∧ h1.next + 5 ≤ x.r1 ∧ x.r1 < h2.next ∧ h1.next + 5 ≤ x.r2 ∧ x.r2 < h2.next) ∧ h1.next + 6 ≤ h2.next ∧ x.i ≤ Q.k ∧ ∀ p, p < x.i → Fine (Q.f p) S ∧ spanHi (Q.f p) S - spanLo (Q.f p) S ≤ 4 ∧ -1000000 ≤ spanLo (Q.f p) S ∧ spanHi (Q.f p) S ≤ 1000000)
      (fun x => Q.k - x.i) ⟨0, 0, 0, none, none⟩ ⟨rfl, rfl, rfl, rfl, rfl, rfl, rfl, trivial⟩ ⟨bySame, by unfold Six.cells; (exact byGet), byGet, .inl ⟨rfl, rfl, rfl⟩, .inl ⟨rfl, rfl, by unfold iCells; rfl⟩, fun h => absurd h (by simp), byOm, by simp, fun p hp => absurd hp (by simp)⟩ ?_
    clear g1 s1
    rintro ⟨i, r1, r2, w1, w2⟩ g h2 ⟨s2, g2, g2', G1, G2, hr, hn2, hi, hall⟩ K hK
    dsimp only at g2' G1 G2 hr hi hall
    dsimp only
    have k2 : TK Q S s t j h (h1.next + 4) h2.next i r1 r2 w1 w2 h2 := ⟨s2, g2, g2', G1, G2, fun h0 => by have := hr h0; omega, by omega, by omega, Nat.le_refl _⟩
    clear G1 G2 g2 g2' hr
    by_cases hik : i < Q.k
    · have kn : Known (Q.f i) := .mk
      by_cases hok : testErr (Q.f i) = 0
      · have tk := testErr_ok.1 hok
        by_cases hrk : Reckoned (Q.f i) S
        · have F : Fine (Q.f i) S := ⟨tk, v, hrk⟩
          have hse := spanErr_fine.2 F
          have hpt := pickX_true tk s
          have hship : shipR (Q.f i) (S.ln j) (pickX (Q.f i) s) = (cOf Q S s j i, 0) := by
            unfold shipR
            rw [if_neg (by omega), if_neg (by have := lineErr_valid.2 (v.v j hj); omega), if_neg (fun hn => hn hpt), if_pos (both_of tk (hrk j hj) hpt.t1 hpt.t2 hpt.e1 hpt.e2)]
            rfl
          (focus ((try with_reducible apply wpC.to); (repeat' ((conv => whnf); first | refine byEv ?_ | (apply Fork.mk <;> (intro _; try (exfalso; omega))) | ((apply q_call); (focus exact byNext); (focus exact byLo); (focus (first | exact kTopW1 | exact kTopG10 | exact kTDragR1 | exact kTDragQ1 | exact kTDragG2 | exact kTDragF5 | exact kTDragF4 | exact kTDragE1 | exact kTDragD0)); first | ((apply q_allB) <;> (intro z_b _ _ _; first | exact Bool.noConfusion z_b | replace z_b := of_decide_eq_true z_b | replace z_b := of_decide_eq_false z_b | skip) <;> ((try simp only [AllOk, Bd.ok, and_true] at z_b); first | contradiction | (revert z_b; intros))) | ((apply q_alli) <;> intro _ _ _ _ <;> try contradiction) | (apply q_allv; intro _ _ _)) | refine xTopF20 ?_ | refine xTopG10 ?_ | fail)); all_goals ((conv => whnf); try with_reducible apply At.mk)))
          rename_i h3 q3 hn3 _ h4 q4 hn4 _
          have k4 : TK Q S s t j h (h1.next + 4) h2.next i r1 r2 w1 w2 h4 := (k2.of (Y := h3) (fun r hr => (q3.same r (by omega)).trans (get_of fun y hy => byGet)) (by omega)).of (fun r hr => q4.same r (by omega)) (by omega)
          have t4 : h4.get (h2.next + 8) = some (.cells (Q.f i).cells 70) := (q4.same _ (by omega)).trans ((q3.same _ (by omega)).trans (by unfold T.cells; (exact byGet)))
          have s4 := k4.sm
          clear q3 q4 s2
          apply q_call
          focus (exact byNext)
          focus (exact byLo)
          focus exact span_w (t := Q.f i) (m := m0) byOm kn (hS.same bySame (Nat.le_refl _))
          intro v5 h5 hv5 q5 hn5
          have e5 : spanV (Q.f i) S = .tuple #[.agg ⟨[.int .i64 (spanLo (Q.f i) S), .int .i64 (spanHi (Q.f i) S)]⟩, .int .i64 0] := by unfold spanV; simp only [hse, if_true]
          rw [e5] at hv5
          subst hv5
          have k5 := k4.of (Y := h5) (fun r hr => (q5.same r byOm).trans (get_of fun y hy => byGet)) byOm
          have t5 : h5.get (h2.next + 8) = some (.cells (Q.f i).cells 70) := (q5.same _ byOm).trans ((get_of fun y hy => byGet).trans t4)
          have s5 := k5.sm
          have g5 := k5.ga
          have hn5' : h4.next + 9 ≤ h5.next := by (exact byOm)
          have hn4' : h2.next + 9 ≤ h4.next := by omega
          have hspan := span_bd F
          have si := hS.i
          have se := hS.e
          have sr := hS.r
          unfold T.cells at t5
          unfold Six.cells at g5
          clear q5 k4 t4 s4
          (focus ((try with_reducible apply wpC.to); (repeat' ((conv => whnf); first | refine byEv ?_ | (apply Fork.mk <;> (intro _; try (exfalso; omega))) | ((apply q_call); (focus exact byNext); (focus exact byLo); (focus (first | exact kTopW1 | exact kTopG10 | exact kTDragR1 | exact kTDragQ1 | exact kTDragG2 | exact kTDragF5 | exact kTDragF4 | exact kTDragE1 | exact kTDragD0)); first | ((apply q_allB) <;> (intro z_b _ _ _; first | exact Bool.noConfusion z_b | replace z_b := of_decide_eq_true z_b | replace z_b := of_decide_eq_false z_b | skip) <;> ((try simp only [AllOk, Bd.ok, and_true] at z_b); first | contradiction | (revert z_b; intros))) | ((apply q_alli) <;> intro _ _ _ _ <;> try contradiction) | (apply q_allv; intro _ _ _)) | refine xTopF20 ?_ | refine xTopG10 ?_ | fail)); all_goals ((conv => whnf); try with_reducible apply At.mk)))
          rename_i h6 q6 hn6
          rw [ej]
          have k6 := k5.of (Y := h6) (fun r hr => (q6.same r byOm).trans (get_of fun y hy => byGet)) byOm
          have hn6' : h5.next ≤ h6.next := by (exact byOm)
          have g6' : h6.get (h4.next + 6) = some (.cells [.int .i64 (spanLo (Q.f i) S), .int .i64 (spanHi (Q.f i) S)] 36) := (q6.same _ byOm).trans byGet
          have s6 := k6.sm
          clear q6 k5 t5 s5 g5
          apply q_call
          focus (exact byNext)
          focus (exact byLo)
          focus exact ship_api (t := Q.f i) (L := S.ln j) (x := pickX (Q.f i) s) (m := m0) byOm kn ((hS.ok j hj).same bySame (Nat.le_refl _)) .mk
          intro v7 h7 hv7 q7 hn7
          rw [hship] at hv7
          dsimp only at hv7
          subst hv7
          have k7 := k6.of (Y := h7) (fun r hr => q7.same r (by omega)) (by omega)
          have g7 : h7.get (h4.next + 6) = some (.cells [.int .i64 (spanLo (Q.f i) S), .int .i64 (spanHi (Q.f i) S)] 36) := (q7.same _ (by omega)).trans g6'
          have g7' := k7.gs
          have hn7' : h5.next + 18 ≤ h7.next := by omega
          clear q7 k6 g6' s6
          by_cases hgood : spanHi (Q.f i) S - spanLo (Q.f i) S ≤ 4 ∧ -1000000 ≤ spanLo (Q.f i) S ∧ spanHi (Q.f i) S ≤ 1000000
          · (focus ((try with_reducible apply wpC.to); (repeat' ((conv => whnf); first | refine byEv ?_ | (apply Fork.mk <;> (intro _; try (exfalso; omega))) | ((apply q_call); (focus exact byNext); (focus exact byLo); (focus (first | exact kTopW1 | exact kTopG10 | exact kTDragR1 | exact kTDragQ1 | exact kTDragG2 | exact kTDragF5 | exact kTDragF4 | exact kTDragE1 | exact kTDragD0)); first | ((apply q_allB) <;> (intro z_b _ _ _; first | exact Bool.noConfusion z_b | replace z_b := of_decide_eq_true z_b | replace z_b := of_decide_eq_false z_b | skip) <;> ((try simp only [AllOk, Bd.ok, and_true] at z_b); first | contradiction | (revert z_b; intros))) | ((apply q_alli) <;> intro _ _ _ _ <;> try contradiction) | (apply q_allv; intro _ _ _)) | refine xTopF20 ?_ | refine xTopG10 ?_ | fail)); all_goals ((conv => whnf); try with_reducible apply At.mk)))
            have kr := k7.hr
            apply q_appGG (r := r1) (n := i) (m := 1) (cs := rowsOf (fun i => (rgOf Q S i).cells) i) (nc := [.int .i64 (spanLo (Q.f i) S), .int .i64 (spanHi (Q.f i) S)]) (v := w1)
            case G => exact k7.G1.frame fun h0 => get_of fun y hy => by have := kr h0; (exact byGet)
            case hsv => exact rfl
            case C => exact Cells.one byMem (by unfold AE.far; omega) rfl rfl
            case hm => omega
            case hlo => (exact byOm)
            case hlr => exact fun h0 => by have := kr h0; exact ⟨byOm, byOm⟩
            case hsm => omega
            intro w1' r1' row1 ha1 hb1 hc1 G1'
            have hr1 : h1.next + 5 ≤ r1' ∧ r1' < h7.next + 34 ∧ r1' ≠ h7.next + 36 ∧ r1' ≠ h7.next + 32 ∧ (0 < i → r1' = r1) ∧ (i = 0 → h7.next ≤ r1') := by
              rcases Nat.eq_zero_or_pos i with h0 | h0
              · have := ha1 h0; exact ⟨byOm, byOm, byOm, byOm, fun h => by omega, fun _ => byOm⟩
              · have := hb1 h0; have := kr h0; exact ⟨byOm, byOm, byOm, byOm, fun _ => by omega, fun h => by omega⟩
            (focus ((try with_reducible apply wpC.to); (repeat' ((conv => whnf); first | refine byEv ?_ | (apply Fork.mk <;> (intro _; try (exfalso; omega))) | ((apply q_call); (focus exact byNext); (focus exact byLo); (focus (first | exact kTopW1 | exact kTopG10 | exact kTDragR1 | exact kTDragQ1 | exact kTDragG2 | exact kTDragF5 | exact kTDragF4 | exact kTDragE1 | exact kTDragD0)); first | ((apply q_allB) <;> (intro z_b _ _ _; first | exact Bool.noConfusion z_b | replace z_b := of_decide_eq_true z_b | replace z_b := of_decide_eq_false z_b | skip) <;> ((try simp only [AllOk, Bd.ok, and_true] at z_b); first | contradiction | (revert z_b; intros))) | ((apply q_alli) <;> intro _ _ _ _ <;> try contradiction) | (apply q_allv; intro _ _ _)) | refine xTopF20 ?_ | refine xTopG10 ?_ | fail)); all_goals ((conv => whnf); try with_reducible apply At.mk)))
            apply q_appGG (r := r2) (n := i) (m := 1) (cs := iCells (cOf Q S s j) i) (nc := [.int .i64 (cOf Q S s j i)]) (v := w2)
            case G => exact k7.G2.frame fun h0 => get_of fun y hy => by have := kr h0; have := hr1.2.2.2.2.1 h0; (exact byGet)
            case hsv => exact rfl
            case C => exact Cells.one byMem (by unfold AE.far; omega) rfl rfl
            case hm => omega
            case hlo => (exact byOm)
            case hlr => exact fun h0 => by have := kr h0; exact ⟨byOm, byOm⟩
            case hsm => omega
            intro w2' r2' row2 ha2 hb2 hc2 G2'
            have hr2 : h1.next + 5 ≤ r2' ∧ r2' < h7.next + 38 ∧ r2' ≠ h7.next + 36 ∧ r2' ≠ h7.next + 32 ∧ r1' ≠ r2' := by
              rcases Nat.eq_zero_or_pos i with h0 | h0
              · have := ha2 h0; exact ⟨byOm, byOm, byOm, byOm, byOm⟩
              · have := hb2 h0; have := hr1.2.2.2.2.1 h0; have := kr h0; exact ⟨byOm, byOm, byOm, byOm, byOm⟩
            have s7 := k7.sm
            have g7'' := k7.ga
            obtain ⟨x1, x2, x3, x4, x5, x6⟩ := hr1
            obtain ⟨y1, y2, y3, y4, y5⟩ := hr2
            unfold Six.cells at g7''
            (focus ((try with_reducible apply wpC.to); (repeat' ((conv => whnf); first | refine byEv ?_ | (apply Fork.mk <;> (intro _; try (exfalso; omega))) | ((apply q_call); (focus exact byNext); (focus exact byLo); (focus (first | exact kTopW1 | exact kTopG10 | exact kTDragR1 | exact kTDragQ1 | exact kTDragG2 | exact kTDragF5 | exact kTDragF4 | exact kTDragE1 | exact kTDragD0)); first | ((apply q_allB) <;> (intro z_b _ _ _; first | exact Bool.noConfusion z_b | replace z_b := of_decide_eq_true z_b | replace z_b := of_decide_eq_false z_b | skip) <;> ((try simp only [AllOk, Bd.ok, and_true] at z_b); first | contradiction | (revert z_b; intros))) | ((apply q_alli) <;> intro _ _ _ _ <;> try contradiction) | (apply q_allv; intro _ _ _)) | refine xTopF20 ?_ | refine xTopG10 ?_ | fail)); all_goals ((conv => whnf); try with_reducible apply At.mk)))
            have E1 : rowsOf (fun i => (rgOf Q S i).cells) (i + 1) = rowsOf (fun i => (rgOf Q S i).cells) i ++ [.int .i64 (spanLo (Q.f i) S), .int .i64 (spanHi (Q.f i) S)] := rfl
            have E2 : iCells (cOf Q S s j) (i + 1) = iCells (cOf Q S s j) i ++ [.int .i64 (cOf Q S s j i)] := by unfold iCells; rfl
            refine hK ⟨i + 1, r1', r2', w1', w2'⟩ _ _ ⟨rfl, rfl, rfl, rfl, rfl, rfl, int_of rfl (by dsimp only; omega), trivial⟩ ⟨bySame, by unfold Six.cells; (exact byGet), byGet, ?_, ?_, fun _ => ⟨y5, by dsimp only; omega, by dsimp only; (exact byOm), by dsimp only; omega, by dsimp only; (exact byOm)⟩, byOm, by dsimp only; omega, fun p hp => ?_⟩ (by dsimp only; omega)
            · dsimp only
              rw [E1]
              exact G1'.frame fun _ => get_of fun y hy => by (exact byGet)
            · dsimp only
              rw [E2]
              exact G2'.frame fun _ => get_of fun y hy => by (exact byGet)
            · dsimp only at hp
              by_cases e : p = i
              · subst e; exact ⟨F, hgood⟩
              · exact hall p (by omega)
          · (focus ((try with_reducible apply wpC.to); (repeat' ((conv => whnf); first | refine byEv ?_ | (apply Fork.mk <;> (intro _; try (exfalso; omega))) | ((apply q_call); (focus exact byNext); (focus exact byLo); (focus (first | exact kTopW1 | exact kTopG10 | exact kTDragR1 | exact kTDragQ1 | exact kTDragG2 | exact kTDragF5 | exact kTDragF4 | exact kTDragE1 | exact kTDragD0)); first | ((apply q_allB) <;> (intro z_b _ _ _; first | exact Bool.noConfusion z_b | replace z_b := of_decide_eq_true z_b | replace z_b := of_decide_eq_false z_b | skip) <;> ((try simp only [AllOk, Bd.ok, and_true] at z_b); first | contradiction | (revert z_b; intros))) | ((apply q_alli) <;> intro _ _ _ _ <;> try contradiction) | (apply q_allv; intro _ _ _)) | refine xTopF20 ?_ | refine xTopG10 ?_ | fail)); all_goals ((conv => whnf); try with_reducible apply At.mk)))
            all_goals ((refine byFin ?_); rfl)
        · (focus ((try with_reducible apply wpC.to); (repeat' ((conv => whnf); first | refine byEv ?_ | (apply Fork.mk <;> (intro _; try (exfalso; omega))) | ((apply q_call); (focus exact byNext); (focus exact byLo); (focus (first | exact kTopW1 | exact kTopG10 | exact kTDragR1 | exact kTDragQ1 | exact kTDragG2 | exact kTDragF5 | exact kTDragF4 | exact kTDragE1 | exact kTDragD0)); first | ((apply q_allB) <;> (intro z_b _ _ _; first | exact Bool.noConfusion z_b | replace z_b := of_decide_eq_true z_b | replace z_b := of_decide_eq_false z_b | skip) <;> ((try simp only [AllOk, Bd.ok, and_true] at z_b); first | contradiction | (revert z_b; intros))) | ((apply q_alli) <;> intro _ _ _ _ <;> try contradiction) | (apply q_allv; intro _ _ _)) | refine xTopF20 ?_ | refine xTopG10 ?_ | fail)); all_goals ((conv => whnf); try with_reducible apply At.mk)))
          all_goals ((refine byFin ?_); rfl)
      · (focus ((try with_reducible apply wpC.to); (repeat' ((conv => whnf); first | refine byEv ?_ | (apply Fork.mk <;> (intro _; try (exfalso; omega))) | ((apply q_call); (focus exact byNext); (focus exact byLo); (focus (first | exact kTopW1 | exact kTopG10 | exact kTDragR1 | exact kTDragQ1 | exact kTDragG2 | exact kTDragF5 | exact kTDragF4 | exact kTDragE1 | exact kTDragD0)); first | ((apply q_allB) <;> (intro z_b _ _ _; first | exact Bool.noConfusion z_b | replace z_b := of_decide_eq_true z_b | replace z_b := of_decide_eq_false z_b | skip) <;> ((try simp only [AllOk, Bd.ok, and_true] at z_b); first | contradiction | (revert z_b; intros))) | ((apply q_alli) <;> intro _ _ _ _ <;> try contradiction) | (apply q_allv; intro _ _ _)) | refine xTopF20 ?_ | refine xTopG10 ?_ | fail)); all_goals ((conv => whnf); try with_reducible apply At.mk)))
        all_goals ((refine byFin ?_); rfl)
    have ei : i = Q.k := by omega
    subst ei
    obtain ⟨a1, hw1, e1, b1⟩ := k2.G1.els (f := fun i => (rgOf Q S i).cells) fun _ => rfl
    have G2 := k2.G2
    unfold iCells at G2
    obtain ⟨a2, hw2, e2, b2⟩ := G2.els (f := fun i => [.int .i64 (cOf Q S s j i)]) fun _ => rfl
    have hr := k2.hr (by omega)
    have hk0 : 0 < Q.k := by omega
    have hw1 := hw1 hk0
    have hw2 := hw2 hk0
    have b1 := b1 hk0
    have b2 := b2 hk0
    subst hw1 hw2
    obtain ⟨Z, hZ⟩ : ∃ Z : Spots, Z = ⟨⟨Q.k, rgOf Q S, some a1, a1, 0⟩, t⟩ := ⟨_, rfl⟩
    obtain ⟨Y, hY⟩ : ∃ Y : Arr, Y = ⟨Q.k, cOf Q S s j, some a2, a2, 0⟩ := ⟨_, rfl⟩
    have kZ : Z.r.Ok h2.next h2 := by
      subst hZ
      exact ⟨fun _ => rfl, e1, fun _ => by dsimp only; omega, by dsimp only; omega⟩
    have kY : Y.Ok h2.next h2 := by
      subst hY
      exact ⟨fun _ => rfl, fun i hi => by have := e2 i hi; rw [Nat.mul_one] at this; exact this, fun _ => by dsimp only; omega, by dsimp only; omega⟩
    have hbox : ∀ p, p < Q.k → spanLo (Q.f p) S ≤ cOf Q S s j p ∧ cOf Q S s j p ≤ spanHi (Q.f p) S := fun p hp => by
      have F := (hall p hp).1
      have hx := pickX_true F.tk s
      exact boxed F hj (hx.among F.tk) hx.m1 hx.m2
    have hbad : ∀ p, p < Q.k → ¬ BadR (rgOf Q S p) := fun p hp => by
      have := hall p hp
      have := span_bd (hall p hp).1
      unfold BadR rgOf
      dsimp only
      omega
    have hze : spotsErr Z = 0 := by
      subst hZ
      exact (if_neg (by dsimp only; omega)).trans (if_pos ⟨htb, hbad⟩)
    have fit := spots_fit hze
    have zn : Z.r.n = Q.k := by rw [hZ]
    have zt : Z.t = t := by rw [hZ]
    have zb : Z.r.b = some a1 := by rw [hZ]
    have zc : Z.r.c = 0 := by rw [hZ]
    have za : Z.r.a = a1 := by rw [hZ]
    have zlo : ∀ p, (Z.r.f p).lo = spanLo (Q.f p) S := fun p => by rw [hZ]; rfl
    have zhi : ∀ p, (Z.r.f p).hi = spanHi (Q.f p) S := fun p => by rw [hZ]; rfl
    have g2' := k2.gs
    have s2' := k2.sm
    clear G2 e1 e2 k2
    have q2 : Same h2.next h2 h2 := fun _ _ => rfl
    (focus ((try with_reducible apply wpC.to); (repeat' ((conv => whnf); first | refine byEv ?_ | (apply Fork.mk <;> (intro _; try (exfalso; omega))) | ((apply q_call); (focus exact byNext); (focus exact byLo); (focus (first | exact kTopW1 | exact kTopG10 | exact kTDragR1 | exact kTDragQ1 | exact kTDragG2 | exact kTDragF5 | exact kTDragF4 | exact kTDragE1 | exact kTDragD0)); first | ((apply q_allB) <;> (intro z_b _ _ _; first | exact Bool.noConfusion z_b | replace z_b := of_decide_eq_true z_b | replace z_b := of_decide_eq_false z_b | skip) <;> ((try simp only [AllOk, Bd.ok, and_true] at z_b); first | contradiction | (revert z_b; intros))) | ((apply q_alli) <;> intro _ _ _ _ <;> try contradiction) | (apply q_allv; intro _ _ _)) | refine xTopF20 ?_ | refine xTopG10 ?_ | fail)); all_goals ((conv => whnf); try with_reducible apply At.mk)))
    apply q_call
    focus (exact byNext)
    focus (exact byLo)
    focus exact (show AW Tryz.prog 10 _ _ [.agg ⟨[.slice (some a1) Q.k 0, .int .i64 t]⟩] _ by
            have := fairest_w (S := Z) (m := h2.next) (h := (h2.bump 4).bump 9) byOm (kZ.same bySame (Nat.le_refl _)) hze
            unfold Spots.cells at this
            rw [zb, zn, zc, zt] at this
            exact this)
    rintro _ h3 ⟨r, w, c, x, T, rfl, L3, f1, f2, FF⟩ q3 hn3
    have f1' : h2.next + 13 ≤ r := by (exact byOm)
    have z1 := L3.cap
    obtain ⟨ax, rfl, bx, jx⟩ := L3.ints
    have q3' : Same h2.next h2 h3 := fun y hy => (q3.same y byOm).trans (get_of fun z hz => byGet)
    have g3 : h3.get (h1.next + 4) = some (.cells [.slice (some a1) Q.k 0, .int .i64 t] 34) := (q3' _ (by omega)).trans g2'
    clear q3 q2
    (focus ((try with_reducible apply wpC.to); (repeat' ((conv => whnf); first | refine byEv ?_ | (apply Fork.mk <;> (intro _; try (exfalso; omega))) | ((apply q_call); (focus exact byNext); (focus exact byLo); (focus (first | exact kTopW1 | exact kTopG10 | exact kTDragR1 | exact kTDragQ1 | exact kTDragG2 | exact kTDragF5 | exact kTDragF4 | exact kTDragE1 | exact kTDragD0)); first | ((apply q_allB) <;> (intro z_b _ _ _; first | exact Bool.noConfusion z_b | replace z_b := of_decide_eq_true z_b | replace z_b := of_decide_eq_false z_b | skip) <;> ((try simp only [AllOk, Bd.ok, and_true] at z_b); first | contradiction | (revert z_b; intros))) | ((apply q_alli) <;> intro _ _ _ _ <;> try contradiction) | (apply q_allv; intro _ _ _)) | refine xTopF20 ?_ | refine xTopG10 ?_ | fail)); all_goals ((conv => whnf); try with_reducible apply At.mk)))
    apply q_call
    focus (exact byNext)
    focus (exact byLo)
    focus exact (show AW Tryz.prog 30 _ _ [.agg ⟨[.slice (some a1) Q.k 0, .int .i64 t]⟩, .slice (some a2) Q.k 0] _ by
            have := check_w (S := Z) (T := Y) (m := h2.next) (m' := h2.next) (h := h3.bump 8) byOm byOm (kZ.same bySame (Nat.le_refl _)) (kY.same bySame (Nat.le_refl _)) hze (by rw [hY, zn]) (fun p hp => by
              have := hbox p (by omega)
              rw [zlo, zhi, hY]
              exact this)
            unfold Spots.cells at this
            rw [zb, zn, zc, zt, hY] at this
            dsimp only at this
            exact this)
    rintro _ h4 rfl q4 hn4
    have hM : T ≤ Fair.bend (cOf Q S s j) Q.k + t * changes (cOf Q S s j) Q.k := by
      by_cases h1 : Q.k = 1
      · rw [FF.one (by omega), h1]
        simp [Fair.bend, changes, ms]
      · have e := (FF.two (by omega)).1
        have l := bestP_le (x := cOf Q S s j) fit.good (by omega) fun p hp => by
          have a := hbox p (by omega)
          have b := fit.hi p hp
          rw [zhi] at b
          have c : Z.lo p = spanLo (Q.f p) S := zlo p
          omega
        rw [e]
        rw [zt, zn] at l
        rw [zt, zn]
        exact l
    generalize Fair.bend (cOf Q S s j) Q.k + t * changes (cOf Q S s j) Q.k = M at hM
    have hinn : ∀ p, p < Q.k → spanLo (Q.f p) S ≤ x p ∧ x p ≤ spanHi (Q.f p) S := fun p hp => by
      have a := FF.inn p (by omega)
      have b := fit.hi p (by omega)
      rw [zhi] at b
      have c : Z.lo p = spanLo (Q.f p) S := zlo p
      omega
    have q4' : Same h2.next h2 h4 := fun y hy => (q4.same y byOm).trans ((get_of fun z hz => byGet).trans (q3' y hy))
    have j4 : Ints h4 ax Q.k x := jx.same (m := h3.next) (fun y hy => (q4.same y byOm).trans (get_of fun z hz => byGet)) (fun _ => by omega)
    have g4 : h4.get (h1.next + 4) = some (.cells [.slice (some a1) Q.k 0, .int .i64 t] 34) := (q4' _ (by omega)).trans g2'
    have k4 := kZ.same q4' (Nat.le_refl _)
    have hn4' : h3.next ≤ h4.next := by (exact byOm)
    clear q4 q3' jx L3 g3
    (focus ((try with_reducible apply wpC.to); (repeat' ((conv => whnf); first | refine byEv ?_ | (apply Fork.mk <;> (intro _; try (exfalso; omega))) | ((apply q_call); (focus exact byNext); (focus exact byLo); (focus (first | exact kTopW1 | exact kTopG10 | exact kTDragR1 | exact kTDragQ1 | exact kTDragG2 | exact kTDragF5 | exact kTDragF4 | exact kTDragE1 | exact kTDragD0)); first | ((apply q_allB) <;> (intro z_b _ _ _; first | exact Bool.noConfusion z_b | replace z_b := of_decide_eq_true z_b | replace z_b := of_decide_eq_false z_b | skip) <;> ((try simp only [AllOk, Bd.ok, and_true] at z_b); first | contradiction | (revert z_b; intros))) | ((apply q_alli) <;> intro _ _ _ _ <;> try contradiction) | (apply q_allv; intro _ _ _)) | refine xTopF20 ?_ | refine xTopG10 ?_ | fail)); all_goals ((conv => whnf); try with_reducible apply At.mk)))
    have g5 : h4.get (h1.next + 4) = some (.cells [.slice Z.r.b Z.r.n Z.r.c, .int .i64 Z.t] 34) := by rw [zb, zn, zc, zt]; exact g4
    obtain ⟨ze4, zi4, zr4, zl4⟩ := k4
    have hax : ax.block < h4.next := by omega
    have zr4' : 0 < Z.r.n → Z.r.a.block < h4.next := fun h0 => by have := zr4 h0; omega
    clear g4 zr4 g2' hall
    refine wp_loop (fun p : Nat => [(11, .pointer (some ⟨h1.next + 4, 0, none⟩)), (19, .slice (some ax) Q.k c), (24, .int .i64 p)]) (fun p h5 => Same h4.next h4 h5 ∧ h4.next ≤ h5.next ∧ p ≤ Q.k) (fun p => Q.k - p) 0 ⟨rfl, rfl, rfl, trivial⟩ ⟨bySame, byOm, by omega⟩ ?_
    rintro p g6 h5 ⟨s5, hn5, hp⟩ K6 hK6
    by_cases hpk : p < Q.k
    · have hb1 : (Z.r.f p).lo ≤ x p ∧ x p ≤ (Z.r.f p).hi := by rw [zlo, zhi]; exact hinn p hpk
      have g6' := (s5 _ (by omega : h1.next + 4 < h4.next)).trans g5
      (focus ((try with_reducible apply wpC.to); (repeat' ((conv => whnf); first | refine byEv ?_ | (apply Fork.mk <;> (intro _; try (exfalso; omega))) | ((apply q_call); (focus exact byNext); (focus exact byLo); (focus (first | exact kTopW1 | exact kTopG10 | exact kTDragR1 | exact kTDragQ1 | exact kTDragG2 | exact kTDragF5 | exact kTDragF4 | exact kTDragE1 | exact kTDragD0)); first | ((apply q_allB) <;> (intro z_b _ _ _; first | exact Bool.noConfusion z_b | replace z_b := of_decide_eq_true z_b | replace z_b := of_decide_eq_false z_b | skip) <;> ((try simp only [AllOk, Bd.ok, and_true] at z_b); first | contradiction | (revert z_b; intros))) | ((apply q_alli) <;> intro _ _ _ _ <;> try contradiction) | (apply q_allv; intro _ _ _)) | refine xTopF20 ?_ | refine xTopG10 ?_ | fail)); all_goals ((conv => whnf); try with_reducible apply At.mk)))
      exact hK6 (p + 1) _ _ ⟨rfl, rfl, int_of rfl (by omega), trivial⟩ ⟨bySame, byOm, by omega⟩ (by omega)
    · (focus ((try with_reducible apply wpC.to); (repeat' ((conv => whnf); first | refine byEv ?_ | (apply Fork.mk <;> (intro _; try (exfalso; omega))) | ((apply q_call); (focus exact byNext); (focus exact byLo); (focus (first | exact kTopW1 | exact kTopG10 | exact kTDragR1 | exact kTDragQ1 | exact kTDragG2 | exact kTDragF5 | exact kTDragF4 | exact kTDragE1 | exact kTDragD0)); first | ((apply q_allB) <;> (intro z_b _ _ _; first | exact Bool.noConfusion z_b | replace z_b := of_decide_eq_true z_b | replace z_b := of_decide_eq_false z_b | skip) <;> ((try simp only [AllOk, Bd.ok, and_true] at z_b); first | contradiction | (revert z_b; intros))) | ((apply q_alli) <;> intro _ _ _ _ <;> try contradiction) | (apply q_allv; intro _ _ _)) | refine xTopF20 ?_ | refine xTopG10 ?_ | fail)); all_goals ((conv => whnf); try with_reducible apply At.mk)))
      (refine byFin ?_)
      rfl
  · (focus ((try with_reducible apply wpC.to); (repeat' ((conv => whnf); first | refine byEv ?_ | (apply Fork.mk <;> (intro _; try (exfalso; omega))) | ((apply q_call); (focus exact byNext); (focus exact byLo); (focus (first | exact kTopW1 | exact kTopG10 | exact kTDragR1 | exact kTDragQ1 | exact kTDragG2 | exact kTDragF5 | exact kTDragF4 | exact kTDragE1 | exact kTDragD0)); first | ((apply q_allB) <;> (intro z_b _ _ _; first | exact Bool.noConfusion z_b | replace z_b := of_decide_eq_true z_b | replace z_b := of_decide_eq_false z_b | skip) <;> ((try simp only [AllOk, Bd.ok, and_true] at z_b); first | contradiction | (revert z_b; intros))) | ((apply q_alli) <;> intro _ _ _ _ <;> try contradiction) | (apply q_allv; intro _ _ _)) | refine xTopF20 ?_ | refine xTopG10 ?_ | fail)); all_goals ((conv => whnf); try with_reducible apply At.mk)))
    (refine byFin ?_)
    rfl
end AE.Tryz
