/- Walks of agree: a net turned round. -/
import Derived.Test.YtfdlkdjihmlbhaaAgreeD
set_option linter.unusedVariables false
set_option linter.unusedSimpArgs false
set_option linter.unusedSectionVars false
namespace AE.Try
open Go AE AE.Ag AgreeS Go.Proofs
set_option maxRecDepth 100000

/-- A net that is turned as far as row a, and of it as far as b. -/
def partT (B : Net) (a b : Nat) : Net := fun t f => if f < a ∨ (f = a ∧ t < b) then B f t else none
theorem partT_zero (B : Net) : partT B 0 0 = empty := by funext t f; simp [partT, empty]
theorem partT_row {B : Net} {N a : Nat} (hB : ∀ f t m, B f t = some m → f < N ∧ t < N) : partT B a N = partT B (a + 1) 0 := by
  funext t f
  simp only [partT]
  by_cases h : f = a
  · subst h
    by_cases ht : t < N
    · simp [ht]
    · have : B f t = none := by
        cases e : B f t with
        | none => rfl
        | some m => exact absurd (hB _ _ _ e).2 ht
      simp [this]
  · have : (f < a ∨ f = a ∧ t < N) ↔ (f < a + 1 ∨ f = a + 1 ∧ t < 0) := by omega
    simp only [this]
theorem partT_all {B : Net} {N : Nat} (hB : ∀ f t m, B f t = some m → f < N ∧ t < N) : partT B N 0 = turn B := by
  funext t f
  simp only [partT, turn]
  by_cases h : f < N
  · simp [h]
  · have : B f t = none := by
      cases e : B f t with
      | none => rfl
      | some m => exact absurd (hB _ _ _ e).1 h
    simp [this]
theorem partT_step (B : Net) (a b i j : Nat) : partT B a (b + 1) i j = if i = b ∧ j = a then B a b else partT B a b i j := by
  simp only [partT]
  by_cases h : i = b ∧ j = a
  · obtain ⟨rfl, rfl⟩ := h; simp
  · rw [if_neg h]
    have : (j < a ∨ j = a ∧ i < b + 1) ↔ (j < a ∨ j = a ∧ i < b) := by omega
    simp only [this]

theorem boundV_is (o : Option Int) : ∃ b x, boundV o = [.bool b, .int .i64 x] := by cases o <;> exact ⟨_, _, rfl⟩

set_option maxHeartbeats 1000000 in
theorem turned_w {h : H} {T : Tab} {r : Nat} {B : Net} {e : TypeId} (hv : T.Valid) (hr : r < h.next) (hB : ∀ f t m, B f t = some m → f < T.toTable.many ∧ t < T.toTable.many) (hg : h.get r = some (.cells (T.head ++ netRows B) e)) :
    AW Try.prog 29 h.next h [.pointer (some ⟨r, 0, none⟩)] (fun v h' => ∃ r' e', v = .pointer (some ⟨r', 0, none⟩) ∧ h.next ≤ r' ∧ r' < h'.next ∧ h'.get r' = some (.cells (T.head ++ netRows (turn B)) e')) := by
  obtain ⟨n24, t1, t2, h1, h2, hb, hf⟩ := hv
  obtain ⟨N, hN, hNi⟩ : ∃ N, N = T.toTable.many ∧ (N : Int) = 1 + T.tanks + T.hulls := ⟨_, rfl, by simp only [Table.many, Tab.toTable]; omega⟩
  rw [← hN] at hB
  refine fun29.call rfl (by omega) ?_
  unfold a29
  (focus ((try with_reducible apply wpC.to); (repeat' ((conv => whnf); first | ((apply Start.mk); (focus exact byNext); (focus exact byLen)) | ((apply New.mk); (focus exact byNid)) | ((apply Need.mk); (focus exact byNeed)) | ((apply Fork.mk) <;> (intro _; try (exfalso; omega; done))) | ((apply Load1.mk); (focus exact byMem); (focus exact byVal)) | ((apply LoadN.mk); (focus exact byMem); (focus exact byList)) | ((apply Sto.mk); (focus exact bySto); (focus exact byLo); (focus exact byGet); (focus exact rfl); (focus exact rfl); (focus exact rfl); (focus exact byList)) | ((with_reducible apply Ix.pred); (focus first | assumption | exact fun _ => rfl); (focus omega); (focus omega)) | ((with_reducible apply IxA.nat); (focus omega)) | ((with_reducible apply IxA.lit); (focus exact byLit); (focus omega); (focus omega)) | ((with_reducible apply IxA.int); (focus omega); (focus omega)) | apply forceV_any | apply forceL_any)); all_goals (conv => whnf); all_goals (try with_reducible apply At.mk)))
  refine wp_loop (fun s : Nat => [(0, .pointer (some ⟨r, 0, none⟩)), (3, .pointer (some ⟨h.next + 10, 0, none⟩)), (19, .int .i64 (1 + T.tanks + T.hulls)), (20, .int .i64 s)])
    (fun s h1 => h1.get (h.next + 10) = some (.cells (T.head ++ netRows (partT B s 0)) 83) ∧ h1.get r = some (.cells (T.head ++ netRows B) e) ∧ h.next + 11 ≤ h1.next ∧ s ≤ N) (fun s => N - s) 0 ⟨rfl, rfl, rfl, rfl, trivial⟩ ⟨?_, ?_, by (exact byOm), by omega⟩ ?_
  · rw [partT_zero]
    refine Eq.trans (b := some (ARow.cells ?zz 83)) ?_ ?_
    rotate_left
    focus (((try dsimp only [aadd]); (repeat (first | assumption | exact put_get rfl | ((with_reducible apply put_skip); focus exact byNe) | with_reducible apply bump_skip | ((with_reducible apply quiet_skip); (focus assumption); focus exact byLt) | exact put_get (by omega) | ((with_reducible apply same_get); (focus assumption); focus exact byLt))); done))
    focus kernel_rfl
  · (with_reducible apply bump_skip)
    (with_reducible apply put_skip)
    focus omega
    (exact byGet)
  rintro s g h1 ⟨g1, g2, hn, hs⟩ K hK
  (focus ((try with_reducible apply wpC.to); (repeat' ((conv => whnf); first | ((apply Start.mk); (focus exact byNext); (focus exact byLen)) | ((apply New.mk); (focus exact byNid)) | ((apply Need.mk); (focus exact byNeed)) | ((apply Fork.mk) <;> (intro _; try (exfalso; omega; done))) | ((apply Load1.mk); (focus exact byMem); (focus exact byVal)) | ((apply LoadN.mk); (focus exact byMem); (focus exact byList)) | ((apply Sto.mk); (focus exact bySto); (focus exact byLo); (focus exact byGet); (focus exact rfl); (focus exact rfl); (focus exact rfl); (focus exact byList)) | ((with_reducible apply Ix.pred); (focus first | assumption | exact fun _ => rfl); (focus omega); (focus omega)) | ((with_reducible apply IxA.nat); (focus omega)) | ((with_reducible apply IxA.lit); (focus exact byLit); (focus omega); (focus omega)) | ((with_reducible apply IxA.int); (focus omega); (focus omega)) | apply forceV_any | apply forceL_any)); all_goals (conv => whnf); all_goals (try with_reducible apply At.mk)))
  · refine wp_loop (fun u : Nat => [(0, .pointer (some ⟨r, 0, none⟩)), (3, .pointer (some ⟨h.next + 10, 0, none⟩)), (4, .int .i64 s), (19, .int .i64 (1 + T.tanks + T.hulls)), (20, .int .i64 s), (26, .int .i64 (1 + T.tanks + T.hulls)), (27, .int .i64 u)])
      (fun u h1 => h1.get (h.next + 10) = some (.cells (T.head ++ netRows (partT B s u)) 83) ∧ h1.get r = some (.cells (T.head ++ netRows B) e) ∧ h.next + 11 ≤ h1.next ∧ u ≤ N) (fun u => N - u) 0 ⟨rfl, rfl, rfl, rfl, rfl, rfl, rfl, trivial⟩ ⟨by (exact byGet), by (exact byGet), by (exact byOm), by omega⟩ ?_
    rintro u g' h2 ⟨g3, g4, hn2, hu⟩ K' hK'
    obtain ⟨b, x, hbx⟩ := boundV_is (B s u)
    have hld : s < N → u < N → ∀ h1 : H, h1.get r = some (.cells (T.head ++ netRows B) e) → h1.loadN ⟨r, 0 + 6 + s * 26 + u * 2, none⟩ 2 = some [.bool b, .int .i64 x] := fun hs hu h1 h1g =>
      loadN_cells h1g (by
        have := netRows_get B (f := s) (t := u) (by omega) (by omega) T.head [] (a := 0 + 6 + s * 26 + u * 2) (by rw [T.head_len])
        rw [← hbx]
        simpa using this)
    have hst : s < N → u < N → splice (T.head ++ netRows (partT B s u)) (0 + 6 + u * 26 + s * 2) [.bool b, .int .i64 x] = T.head ++ netRows (partT B s (u + 1)) := fun hs hu => by
      have := netRows_set (B := partT B s u) (B' := partT B s (u + 1)) (v := B s u) (a := 0 + 6 + u * 26 + s * 2) (f := u) (t := s) (partT_step B s u) (by omega) (by omega) T.head [] (by rw [T.head_len])
      rw [hbx] at this
      simpa using this
    (focus ((try with_reducible apply wpC.to); (repeat' ((conv => whnf); first | ((apply Start.mk); (focus exact byNext); (focus exact byLen)) | ((apply New.mk); (focus exact byNid)) | ((apply Need.mk); (focus exact byNeed)) | ((apply Fork.mk) <;> (intro _; try (exfalso; omega; done))) | ((apply Load1.mk); (focus exact byMem); (focus exact byVal)) | ((apply LoadN.mk); (focus exact byMem); (focus exact byList)) | ((apply Sto.mk); (focus exact bySto); (focus exact byLo); (focus exact byGet); (focus exact rfl); (focus exact rfl); (focus exact rfl); (focus exact byList)) | ((with_reducible apply Ix.pred); (focus first | assumption | exact fun _ => rfl); (focus omega); (focus omega)) | ((with_reducible apply IxA.nat); (focus omega)) | ((with_reducible apply IxA.lit); (focus exact byLit); (focus omega); (focus omega)) | ((with_reducible apply IxA.int); (focus omega); (focus omega)) | apply forceV_any | apply forceL_any)); all_goals (conv => whnf); all_goals (try with_reducible apply At.mk)))
    · refine LoadN.mk (hld (by omega) (by omega) _ (by (exact byGet))) Is.rfl ?_
      (focus ((try with_reducible apply wpC.to); (repeat' ((conv => whnf); first | ((apply Start.mk); (focus exact byNext); (focus exact byLen)) | ((apply New.mk); (focus exact byNid)) | ((apply Need.mk); (focus exact byNeed)) | ((apply Fork.mk) <;> (intro _; try (exfalso; omega; done))) | ((apply Load1.mk); (focus exact byMem); (focus exact byVal)) | ((apply LoadN.mk); (focus exact byMem); (focus exact byList)) | ((apply Sto.mk); (focus exact bySto); (focus exact byLo); (focus exact byGet); (focus exact rfl); (focus exact rfl); (focus exact rfl); (focus exact byList)) | ((with_reducible apply Ix.pred); (focus first | assumption | exact fun _ => rfl); (focus omega); (focus omega)) | ((with_reducible apply IxA.nat); (focus omega)) | ((with_reducible apply IxA.lit); (focus exact byLit); (focus omega); (focus omega)) | ((with_reducible apply IxA.int); (focus omega); (focus omega)) | apply forceV_any | apply forceL_any)); all_goals (conv => whnf); all_goals (try with_reducible apply At.mk)))
      refine Sto.mk (r := h.next + 10) (off := 0 + 6 + u * 26 + s * 2) rfl (by omega) (by (exact byGet)) rfl rfl (Nat.ble_eq_true_of_le (by simp [T.head_len, netRows_len]; omega)) (is_eq (hst (by omega) (by omega))) ?_
      (focus ((try with_reducible apply wpC.to); (repeat' ((conv => whnf); first | ((apply Start.mk); (focus exact byNext); (focus exact byLen)) | ((apply New.mk); (focus exact byNid)) | ((apply Need.mk); (focus exact byNeed)) | ((apply Fork.mk) <;> (intro _; try (exfalso; omega; done))) | ((apply Load1.mk); (focus exact byMem); (focus exact byVal)) | ((apply LoadN.mk); (focus exact byMem); (focus exact byList)) | ((apply Sto.mk); (focus exact bySto); (focus exact byLo); (focus exact byGet); (focus exact rfl); (focus exact rfl); (focus exact rfl); (focus exact byList)) | ((with_reducible apply Ix.pred); (focus first | assumption | exact fun _ => rfl); (focus omega); (focus omega)) | ((with_reducible apply IxA.nat); (focus omega)) | ((with_reducible apply IxA.lit); (focus exact byLit); (focus omega); (focus omega)) | ((with_reducible apply IxA.int); (focus omega); (focus omega)) | apply forceV_any | apply forceL_any)); all_goals (conv => whnf); all_goals (try with_reducible apply At.mk)))
      refine hK' (u + 1) _ _ ⟨rfl, rfl, rfl, rfl, rfl, rfl, int_of rfl (by omega), trivial⟩ ⟨by (exact byGet), ?_, by (exact byOm), by omega⟩ (by omega)
      (exact byGet)
    · have : u = N := by omega
      subst this
      rw [partT_row hB] at g3
      refine hK (s + 1) _ _ ⟨rfl, rfl, rfl, int_of rfl (by omega), trivial⟩ ⟨by (exact byGet), by (exact byGet), by (exact byOm), by omega⟩ (by omega)
  · (first | (apply fin1; (focus first | exact .inl rfl | exact .inr rfl); focus exact byR1) | (apply fin2; (focus first | exact .inl rfl | exact .inr rfl); (focus exact byR1); (focus exact byR1)) | (apply fin3; (focus first | exact .inl rfl | exact .inr rfl); (focus exact byR1); (focus exact byR1); (focus exact byR1)) | (apply fin0; (focus first | exact .inl rfl | exact .inr rfl)))
    have : s = N := by omega
    subst this
    rw [partT_all hB] at g1
    exact ⟨_, _, rfl, by omega, by (exact byOm), by (exact byGet)⟩

end AE.Try
