/- Walks and plain laws: ChartZq, ChartEq. -/
import Derived.Test.YtbfhhncmmllblaaChartZo
import Derived.Test.YtbfhhncmmllblaaJoin9
import Derived.Test.YtbfhhncmmllblaaChartRc
import Derived.Test.YtbfhhncmmllblaaJoin6
import Derived.Test.YtbfhhncmmllblaaAEthree
set_option linter.unusedVariables false
set_option linter.unusedSimpArgs false
set_option linter.unusedSectionVars false

/- Walks of the laws of charts: the pulls of a true chart that falls. -/
namespace AE.Try
open Go AE Go.Proofs
set_option maxRecDepth 100000
set_option linter.unusedVariables false

set_option maxHeartbeats 4000000 in
theorem falling_w {h : H} {T : Tbl} {B : Arr} {m : Nat} (hm : m ≤ h.next) (hT : T.Ok m h) (g : T.Good) (hB : By .u32 B m h) : AW Try.prog 35 h.next h [.agg ⟨T.cells⟩, .slice B.b B.n B.c] (fun v h' => ∃ A : Pul, v = .slice A.M.b A.M.n A.M.c ∧ (∃ O : Nat → Prop, OM O A h.next h'.next h') ∧ (A.M.n = T.P.n ∧ ∀ i, i < T.P.n → A.M.w i = T.A.n) ∧ (∀ i k, i < T.P.n → k < T.A.n → T.lo i k ≤ A.f i k ∧ A.f i k ≤ T.hi i k) ∧ T.Fall A.f) := by
  have gp8 := g.p8
  have ga10 := g.a10
  have ga2 := g.a2
  have gn := g.n
  refine fun35.call rfl (Nat.le_refl _) ?_
  unfold a35 Tbl.cells
  (focus ((try with_reducible apply wpC.to); (repeat' ((conv => whnf); first | refine byEv ?_ | ((apply Fork.mk) <;> (intro _; try (exfalso; omega; done))) | ((apply Load1.mk); (focus ((repeat (first | (apply el_lo <;> first | assumption | omega) | (apply el_hi <;> first | assumption | omega) | apply bump_old | ((apply put_old); focus (dsimp only [aadd]; omega)) | ((apply quiet_old); (focus assumption); focus (dsimp only [aadd]; omega)) | ((apply same_old); (focus assumption); focus (dsimp only [aadd]; omega)))); done)); (focus exact byVal)) | fail)); all_goals (conv => whnf); all_goals (try with_reducible apply At.mk)))
  apply q_call
  focus (exact byNext)
  focus (exact byLo)
  focus exact draw_w (T := T) (B := B) (m := m) (by (exact byOm)) (hT.same (by (exact bySame)) (Nat.le_refl _)) g (hB.same (by (exact bySame)) (Nat.le_refl _))
  rintro _ h2 ⟨A, rfl, ⟨O, oA⟩, ⟨an, aw⟩, af⟩ q2 n2
  simp only [put_next, bump_next] at oA
  (focus ((try with_reducible apply wpC.to); (repeat' ((conv => whnf); first | refine byEv ?_ | ((apply Fork.mk) <;> (intro _; try (exfalso; omega; done))) | ((apply Load1.mk); (focus ((repeat (first | (apply el_lo <;> first | assumption | omega) | (apply el_hi <;> first | assumption | omega) | apply bump_old | ((apply put_old); focus (dsimp only [aadd]; omega)) | ((apply quiet_old); (focus assumption); focus (dsimp only [aadd]; omega)) | ((apply same_old); (focus assumption); focus (dsimp only [aadd]; omega)))); done)); (focus exact byVal)) | fail)); all_goals (conv => whnf); all_goals (try with_reducible apply At.mk)))
  refine wp_loop (fun s : Nat × (Nat → Nat → Int) => [(2, .pointer (some ⟨h.next, 0, none⟩)), (5, .slice A.M.b A.M.n A.M.c), (6, .int .i64 s.1)])
    (fun s h1 => h1.get h.next = some (.cells (exBox T) 25) ∧ Same m h h1 ∧ OM O ⟨A.M, s.2⟩ (h.next + 6) h2.next h1 ∧ h2.next ≤ h1.next ∧ s.1 ≤ T.P.n ∧ (∀ i k, i < T.P.n → k < T.A.n → T.lo i k ≤ s.2 i k ∧ s.2 i k ≤ T.hi i k) ∧ ∀ i k, i < s.1 → i < T.P.n → k + 1 < T.A.n → s.2 i (k + 1) ≤ s.2 i k) (fun s => T.P.n - s.1) (0, A.f) ⟨rfl, rfl, rfl, trivial⟩ ⟨by unfold exBox; (exact byGet), by (exact bySame), oA.frame (Nat.le_refl _) fun r h1 h2 _ => rfl, by (exact byOm), by dsimp only; omega, fun i k hi hk => by dsimp only; rw [af]; have := g.bd i k hi hk; unfold Tbl.Bd at this; exact drawn_in this.2.1, fun i k hi => absurd hi (Nat.not_lt_zero _)⟩ ?_
  rintro ⟨s, F⟩ g' h3 ⟨g3, sm3, o3, n3, hs, hF, hf⟩ K hK
  dsimp only at o3 hs hF hf ⊢
  unfold exBox at g3
  obtain ⟨de, di, dr, dl, dse, dsi, dsr, dsl, -⟩ := o3.ok
  dsimp only at de di dr dl dse dsi dsr dsl
  by_cases hsn : s < T.P.n
  · have aw' := aw s hsn
    (focus ((try with_reducible apply wpC.to); (repeat' ((conv => whnf); first | refine byEv ?_ | ((apply Fork.mk) <;> (intro _; try (exfalso; omega; done))) | ((apply Load1.mk); (focus ((repeat (first | (apply el_lo <;> first | assumption | omega) | (apply el_hi <;> first | assumption | omega) | apply bump_old | ((apply put_old); focus (dsimp only [aadd]; omega)) | ((apply quiet_old); (focus assumption); focus (dsimp only [aadd]; omega)) | ((apply same_old); (focus assumption); focus (dsimp only [aadd]; omega)))); done)); (focus exact byVal)) | fail)); all_goals (conv => whnf); all_goals (try with_reducible apply At.mk)))
    refine wp_loop (fun s' : Nat × (Nat → Nat → Int) => [(2, .pointer (some ⟨h.next, 0, none⟩)), (5, .slice A.M.b A.M.n A.M.c), (6, .int .i64 s), (7, .int .i64 s'.1)])
      (fun s' h1 => h1.get h.next = some (.cells (exBox T) 25) ∧ Same m h h1 ∧ OM O ⟨A.M, s'.2⟩ (h.next + 6) h2.next h1 ∧ h2.next ≤ h1.next ∧ (1 ≤ s'.1 ∧ s'.1 ≤ T.A.n) ∧ (∀ i k, i < T.P.n → k < T.A.n → T.lo i k ≤ s'.2 i k ∧ s'.2 i k ≤ T.hi i k) ∧ (∀ i k, i < s → i < T.P.n → k + 1 < T.A.n → s'.2 i (k + 1) ≤ s'.2 i k) ∧ ∀ k, k + 1 < s'.1 → s'.2 s (k + 1) ≤ s'.2 s k) (fun s' => T.A.n - s'.1) (1, F) ⟨rfl, rfl, rfl, rfl, trivial⟩ ⟨by unfold exBox; (exact byGet), by (exact bySame), o3.frame (Nat.le_refl _) fun r h1 h2 _ => rfl, by (exact byOm), by dsimp only; omega, hF, hf, fun k hk => by dsimp only at hk; omega⟩ ?_
    rintro ⟨t, G⟩ g'' h4 ⟨g4, sm4, o4, n4, ht, hG, hg, hgt⟩ K' hK'
    dsimp only at o4 ht hG hg hgt ⊢
    unfold exBox at g4
    obtain ⟨de, di, dr, dl, dse, dsi, dsr, dsl, -⟩ := o4.ok
    dsimp only at de di dr dl dse dsi dsr dsl
    have dse' := dse s (by omega)
    have dsi' := dsi s (by omega)
    have dsr' := dsr s (by omega)
    have dsl' := dsl s (by omega)
    obtain ⟨e1, i1, r1, l1, re, ri, rr, rl⟩ := hT.R
    have hsR : s < T.R.n := by omega
    have gws := g.w s hsn
    have re7 := re s hsR
    have i7 := i1.same sm4 r1
    have ri7 := (ri s hsR).same sm4 (rr s hsR)
    by_cases htw : t < T.A.n
    · have rr7 := rr s hsR (by omega)
      have b0 := g.bd s t hsn htw
      have b1 := g.fl s (t - 1) hsn (by omega)
      have c0 := hG s t hsn htw
      have c1 := hG s (t - 1) hsn (by omega)
      unfold Tbl.Bd at b0
      unfold Tbl.Fl at b1
      rw [show t - 1 + 1 = t by omega] at b1
      (focus ((try with_reducible apply wpC.to); (repeat' ((conv => whnf); first | refine byEv ?_ | ((apply Fork.mk) <;> (intro _; try (exfalso; omega; done))) | ((apply Load1.mk); (focus ((repeat (first | (apply el_lo <;> first | assumption | omega) | (apply el_hi <;> first | assumption | omega) | apply bump_old | ((apply put_old); focus (dsimp only [aadd]; omega)) | ((apply quiet_old); (focus assumption); focus (dsimp only [aadd]; omega)) | ((apply same_old); (focus assumption); focus (dsimp only [aadd]; omega)))); done)); (focus exact byVal)) | fail)); all_goals (conv => whnf); all_goals (try with_reducible apply At.mk)))
      refine OM.sto2 (p := ⟨A.M, G⟩) (b := h.next + 6) (m := h2.next) (o4.frame (Nat.le_refl _) fun r h1 h2 _ => rfl) (by show s < A.M.n; omega) (by show t < A.M.w s; omega) rfl (by omega) fun hx en es oX => ?_
      have nx : h2.next ≤ hx.next := by rw [en]; (exact byOm)
      have gx : hx.get h.next = some (.cells (exBox T) 25) := (es _ (.inl (by omega))).trans (by unfold exBox; (exact byGet))
      have sx : Same m h hx := fun r hr => (es r (.inl (by omega))).trans (sm4 r hr)
      (focus ((try with_reducible apply wpC.to); (repeat' ((conv => whnf); first | refine byEv ?_ | ((apply Fork.mk) <;> (intro _; try (exfalso; omega; done))) | ((apply Load1.mk); (focus ((repeat (first | (apply el_lo <;> first | assumption | omega) | (apply el_hi <;> first | assumption | omega) | apply bump_old | ((apply put_old); focus (dsimp only [aadd]; omega)) | ((apply quiet_old); (focus assumption); focus (dsimp only [aadd]; omega)) | ((apply same_old); (focus assumption); focus (dsimp only [aadd]; omega)))); done)); (focus exact byVal)) | fail)); all_goals (conv => whnf); all_goals (try with_reducible apply At.mk)))
      generalize hX : max (T.lo s t) (min (G s t) (G s (t - 1))) = X at oX
      refine hK' (t + 1, (Pul.upd ⟨A.M, G⟩ s t X).f) _ _ ⟨rfl, rfl, rfl, int_of rfl (by omega), trivial⟩ ⟨by unfold exBox; unfold exBox at gx; (exact byGet), by (exact bySame), oX.frame (Nat.le_refl _) fun r h1 h2 _ => rfl, by (exact byOm), by dsimp only; omega, fun i k hi hk => ?_, fun i k hi hi' hk => ?_, fun k hk => ?_⟩ (by dsimp only; omega)
      · show _ ≤ (if i = s then updN (G s) t X else G i) k ∧ (if i = s then updN (G s) t X else G i) k ≤ _
        by_cases ei : i = s
        · subst ei
          rw [if_pos rfl]
          show _ ≤ (if k = t then X else G i k) ∧ (if k = t then X else G i k) ≤ _
          by_cases ek : k = t
          · subst ek; rw [if_pos rfl]; omega
          · rw [if_neg ek]; exact hG i k hi hk
        · rw [if_neg ei]; exact hG i k hi hk
      · show (if i = s then updN (G s) t X else G i) (k + 1) ≤ (if i = s then updN (G s) t X else G i) k
        rw [if_neg (by omega)]
        exact hg i k hi hi' hk
      · show (if s = s then updN (G s) t X else G s) (k + 1) ≤ (if s = s then updN (G s) t X else G s) k
        rw [if_pos rfl]
        show (if k + 1 = t then X else G s (k + 1)) ≤ (if k = t then X else G s k)
        dsimp only at hk
        rw [if_neg (show ¬ k = t by omega)]
        by_cases ek : k + 1 = t
        · rw [if_pos ek]
          have : t - 1 = k := by omega
          rw [this] at hX c1 b1
          omega
        · rw [if_neg ek]; exact hgt k (by omega)
    · obtain rfl : t = T.A.n := by omega
      (focus ((try with_reducible apply wpC.to); (repeat' ((conv => whnf); first | refine byEv ?_ | ((apply Fork.mk) <;> (intro _; try (exfalso; omega; done))) | ((apply Load1.mk); (focus ((repeat (first | (apply el_lo <;> first | assumption | omega) | (apply el_hi <;> first | assumption | omega) | apply bump_old | ((apply put_old); focus (dsimp only [aadd]; omega)) | ((apply quiet_old); (focus assumption); focus (dsimp only [aadd]; omega)) | ((apply same_old); (focus assumption); focus (dsimp only [aadd]; omega)))); done)); (focus exact byVal)) | fail)); all_goals (conv => whnf); all_goals (try with_reducible apply At.mk)))
      refine hK (s + 1, G) _ _ ⟨rfl, rfl, int_of rfl (by omega), trivial⟩ ⟨by unfold exBox; (exact byGet), by (exact bySame), o4.frame (Nat.le_refl _) fun r h1 h2 _ => rfl, by (exact byOm), by dsimp only; omega, hG, fun i k hi hi' hk => ?_⟩ (by dsimp only; omega)
      dsimp only at hi ⊢
      by_cases e : i = s
      · subst e; exact hgt k hk
      · exact hg i k (by omega) hi' hk
  · obtain rfl : s = T.P.n := by omega
    (focus ((try with_reducible apply wpC.to); (repeat' ((conv => whnf); first | refine byEv ?_ | ((apply Fork.mk) <;> (intro _; try (exfalso; omega; done))) | ((apply Load1.mk); (focus ((repeat (first | (apply el_lo <;> first | assumption | omega) | (apply el_hi <;> first | assumption | omega) | apply bump_old | ((apply put_old); focus (dsimp only [aadd]; omega)) | ((apply quiet_old); (focus assumption); focus (dsimp only [aadd]; omega)) | ((apply same_old); (focus assumption); focus (dsimp only [aadd]; omega)))); done)); (focus exact byVal)) | fail)); all_goals (conv => whnf); all_goals (try with_reducible apply At.mk)))
    (refine byFin ?_)
    exact ⟨⟨A.M, F⟩, rfl, ⟨O, (o3.lower (by omega) (by (exact byOm))).frame (Nat.le_refl _) fun _ _ _ _ => rfl⟩, ⟨an, aw⟩, hF, fun i k hi hk => hf i k hi hi hk⟩
end AE.Try

/- Comparisons of fractions and spans. -/
namespace AE.Try
open Go AE Go.Proofs
set_option maxRecDepth 100000
set_option linter.unusedVariables false

theorem PartOf.one {P : Program} {e : TypeId} {cs : List Value} {off : Nat} {v : Value} (h1 : isAggT P e = some false) (h2 : cs[off]? = some v) : PartOf P e false cs off [v] := ⟨h1, by rw [if_neg (by simp)]; exact ⟨v, h2, rfl⟩⟩
theorem PartOf.agg {P : Program} {e : TypeId} {s : Nat} {cs x : List Value} {off : Nat} (h1 : isAggT P e = some true) (h2 : sizeT P e = some s) (h3 : cut cs off s = some x) : PartOf P e true cs off x := ⟨h1, by rw [if_pos rfl]; exact ⟨s, h2, h3⟩⟩
theorem fr_eqc (x y : Fr) : EqC Try.prog 2 32 true x.cells y.cells (x.n == y.n && (x.d == y.d && true)) := by
  refine EqC.struct (fs := ?fs) ?ht ?hs ?h
  case ht => exact Try.underlying32
  case hs => kernel_rfl
  refine EqFs.cons (agg := false) (x := [.int .i64 x.n]) (y := [.int .i64 y.n]) (by decide) (PartOf.one rfl rfl) (PartOf.one rfl rfl) (EqC.int rfl) ?_
  exact EqFs.cons (agg := false) (x := [.int .i64 x.d]) (y := [.int .i64 y.d]) (by decide) (PartOf.one rfl rfl) (PartOf.one rfl rfl) (EqC.int rfl) EqFs.nil
theorem eql_fr (x : Fr) : pureRun Try.prog (Op.equalIn Op.maxDepth 32 (.agg ⟨x.cells⟩) (.agg ⟨x.cells⟩)) = some true := by
  have := (fr_eqc x x).run 2 Op.maxDepth (by decide)
  simpa [asVal] using this
end AE.Try
