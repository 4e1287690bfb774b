/- Walks of agree: the net of a table. -/
import Derived.Test.YtfdlkdjihmlbhaaAgreeC
set_option linter.unusedVariables false
set_option linter.unusedSimpArgs false
set_option linter.unusedSectionVars false
namespace AE.Try
open Go AE AE.Ag AgreeS Go.Proofs
set_option maxRecDepth 100000

def RTest.toTest (x : RTest) : Test := ⟨x.tank.toNat, x.hull.toNat, x.lo, x.hi⟩
def Tab.toTable (T : Tab) : Table := ⟨T.tanks.toNat, T.hulls.toNat, T.blo, T.bhi, (List.range T.n).map fun i => (T.f i).toTest⟩
theorem Tab.Valid.ok {T : Tab} (v : T.Valid) : T.toTable.Ok := by
  obtain ⟨n24, t1, t2, h1, h2, hb, hf⟩ := v
  unfold isR at hb
  refine ⟨by simp only [Tab.toTable]; omega, by simp only [Tab.toTable]; omega, by simp only [Tab.toTable]; omega, by simp only [Tab.toTable]; omega, hb.1, by simp only [Tab.toTable, M]; omega, by simp only [Tab.toTable, M]; omega, fun x hx => ?_⟩
  simp only [Tab.toTable, List.mem_map, List.mem_range] at hx
  obtain ⟨i, hi, rfl⟩ := hx
  obtain ⟨a, b, c⟩ := hf i hi
  unfold isR at c
  exact ⟨by simp only [Tab.toTable, RTest.toTest]; omega, by simp only [Tab.toTable, RTest.toTest]; omega, c.1, by simp only [RTest.toTest, M]; omega, by simp only [RTest.toTest, M]; omega⟩

/-- The cells of a net ahead of its bounds. -/
def Tab.head (T : Tab) : List Value := T.cells ++ [.int .i64 (1 + T.tanks + T.hulls)]
theorem Tab.head_len (T : Tab) : T.head.length = 6 := rfl

/-- The bounds of a table after so many tests. -/
def netTo (T : Tab) (k : Nat) : Net := ((List.range k).map fun i => (T.f i).toTest).foldl (putTest T.toTable) ((List.range T.tanks.toNat).foldl (putTank T.toTable) empty)
theorem netTo_all (T : Tab) : netTo T T.n = netOf T.toTable := rfl
theorem netTo_succ (T : Tab) (k : Nat) : netTo T (k + 1) = putTest T.toTable (netTo T k) (T.f k).toTest := by
  simp [netTo, List.range_succ]
def tankTo (T : Tab) (k : Nat) : Net := (List.range k).foldl (putTank T.toTable) empty
theorem tankTo_succ (T : Tab) (k : Nat) : tankTo T (k + 1) = putTank T.toTable (tankTo T k) k := by
  simp [tankTo, List.range_succ]
theorem netTo_zero (T : Tab) : netTo T 0 = tankTo T T.tanks.toNat := rfl

theorem put_i {h : H} {lo r f t : Nat} {fi ti m : Int} {hd : List Value} {B : Net} {e : TypeId} (hlo : lo ≤ r) (hr : r < h.next) (hd6 : hd.length = 6) (hf : f < 13) (ht : t < 13) (hfi : fi = (f : Int)) (hti : ti = (t : Int)) (hg : h.get r = some (.cells (hd ++ netRows B) e)) :
    AW Try.prog 55 lo h [.pointer (some ⟨r, 0, none⟩), .int .i64 fi, .int .i64 ti, .int .i64 m] (fun _ h' => h'.get r = some (.cells (hd ++ netRows (AgreeS.put B f t m)) e) ∧ ∀ s, s < h.next → s ≠ r → h'.get s = h.get s) := by
  subst hfi; subst hti
  exact put_w hlo hr hd6 hf ht hg

set_option maxHeartbeats 1000000 in
theorem newNet_w {h : H} {T : Tab} {m : Nat} (hm : m ≤ h.next) (hT : T.Ok m h) (hv : T.Valid) :
    AW Try.prog 37 h.next h [.agg ⟨T.cells⟩] (fun v h' => ∃ r e, v = .pointer (some ⟨r, 0, none⟩) ∧ h.next ≤ r ∧ r < h'.next ∧ h'.get r = some (.cells (T.head ++ netRows (netOf T.toTable)) e)) := by
  have hok := hv.ok
  obtain ⟨n24, t1, t2, h1, h2, hb, hf⟩ := hv
  unfold isR at hb
  refine fun37.call rfl (by omega) ?_
  unfold a37
  (focus ((try with_reducible apply wpC.to); (repeat' ((conv => whnf); first | ((apply Start.mk); (focus exact byNext); (focus exact byLen)) | ((apply New.mk); (focus exact byNid)) | ((apply Need.mk); (focus exact byNeed)) | ((apply Fork.mk) <;> (intro _; try (exfalso; omega; done))) | ((apply Load1.mk); (focus exact byMem); (focus exact byVal)) | ((apply LoadN.mk); (focus exact byMem); (focus exact byList)) | ((apply Sto.mk); (focus exact bySto); (focus exact byLo); (focus exact byGet); (focus exact rfl); (focus exact rfl); (focus exact rfl); (focus exact byList)) | ((with_reducible apply Ix.nat); (focus exact rfl); (focus omega)) | ((with_reducible apply Ix.natp); (focus assumption); (focus omega)) | ((with_reducible apply Ix.pred); (focus first | assumption | exact fun _ => rfl); (focus omega); (focus omega)) | ((with_reducible apply Ix.lit); (focus exact byLit); (focus first | assumption | exact fun _ => rfl); (focus omega); (focus omega)) | ((with_reducible apply Ix.int); (focus exact rfl); (focus omega); (focus omega)) | ((with_reducible apply Ix.intp); (focus assumption); (focus omega); (focus omega)) | apply forceV_any | apply forceL_any)); all_goals (conv => whnf); all_goals (try with_reducible apply At.mk)))
  refine wp_loop (fun s : Nat => [(1, .pointer (some ⟨h.next, 0, none⟩)), (3, .pointer (some ⟨h.next + 10, 0, none⟩)), (22, .int .i64 T.tanks), (23, .int .i64 s)])
    (fun s h1 => h1.get (h.next + 10) = some (.cells (T.head ++ netRows (tankTo T s)) 83) ∧ h1.get h.next = some (.cells T.cells 26) ∧ Same h.next h h1 ∧ h.next + 11 ≤ h1.next ∧ (s : Int) ≤ T.tanks) (fun s => T.tanks.toNat - s) 0 ⟨rfl, rfl, rfl, rfl, trivial⟩ ⟨?_, ?_, ?_, ?_, by omega⟩ ?_
  · refine Eq.trans (b := some (ARow.cells ?zz 83)) ?_ ?_
    rotate_left
    focus (((try dsimp only [aadd]); (repeat (first | assumption | exact put_get rfl | ((with_reducible apply put_skip); focus exact byNe) | with_reducible apply bump_skip | ((with_reducible apply quiet_skip); (focus assumption); focus exact byLt) | exact put_get (by omega) | ((with_reducible apply same_get); (focus assumption); focus exact byLt))); done))
    focus kernel_rfl
  · (exact byGet)
  · (exact bySame)
  · (exact byOm)
  rintro s g h1 ⟨g1, g2, sm, hn, hs⟩ K hK
  (focus ((try with_reducible apply wpC.to); (repeat' ((conv => whnf); first | ((apply Start.mk); (focus exact byNext); (focus exact byLen)) | ((apply New.mk); (focus exact byNid)) | ((apply Need.mk); (focus exact byNeed)) | ((apply Fork.mk) <;> (intro _; try (exfalso; omega; done))) | ((apply Load1.mk); (focus exact byMem); (focus exact byVal)) | ((apply LoadN.mk); (focus exact byMem); (focus exact byList)) | ((apply Sto.mk); (focus exact bySto); (focus exact byLo); (focus exact byGet); (focus exact rfl); (focus exact rfl); (focus exact rfl); (focus exact byList)) | ((with_reducible apply Ix.nat); (focus exact rfl); (focus omega)) | ((with_reducible apply Ix.natp); (focus assumption); (focus omega)) | ((with_reducible apply Ix.pred); (focus first | assumption | exact fun _ => rfl); (focus omega); (focus omega)) | ((with_reducible apply Ix.lit); (focus exact byLit); (focus first | assumption | exact fun _ => rfl); (focus omega); (focus omega)) | ((with_reducible apply Ix.int); (focus exact rfl); (focus omega); (focus omega)) | ((with_reducible apply Ix.intp); (focus assumption); (focus omega); (focus omega)) | apply forceV_any | apply forceL_any)); all_goals (conv => whnf); all_goals (try with_reducible apply At.mk)))
  · apply q_callw
    focus exact put_i (f := 0) (t := 1 + s) (B := tankTo T s) (by omega) (by (exact byOm)) T.head_len (by omega) (by omega) rfl (by omega) (by (exact byGet))
    rintro _ h2 ⟨g3, g4⟩ q2
    have g5 : h2.get h.next = some (ARow.cells T.cells 26) := (g4 h.next (by (exact byOm)) (by omega)).trans (by (exact byGet))
    have hn2 := q2.next
    (focus ((try with_reducible apply wpC.to); (repeat' ((conv => whnf); first | ((apply Start.mk); (focus exact byNext); (focus exact byLen)) | ((apply New.mk); (focus exact byNid)) | ((apply Need.mk); (focus exact byNeed)) | ((apply Fork.mk) <;> (intro _; try (exfalso; omega; done))) | ((apply Load1.mk); (focus exact byMem); (focus exact byVal)) | ((apply LoadN.mk); (focus exact byMem); (focus exact byList)) | ((apply Sto.mk); (focus exact bySto); (focus exact byLo); (focus exact byGet); (focus exact rfl); (focus exact rfl); (focus exact rfl); (focus exact byList)) | ((with_reducible apply Ix.nat); (focus exact rfl); (focus omega)) | ((with_reducible apply Ix.natp); (focus assumption); (focus omega)) | ((with_reducible apply Ix.pred); (focus first | assumption | exact fun _ => rfl); (focus omega); (focus omega)) | ((with_reducible apply Ix.lit); (focus exact byLit); (focus first | assumption | exact fun _ => rfl); (focus omega); (focus omega)) | ((with_reducible apply Ix.int); (focus exact rfl); (focus omega); (focus omega)) | ((with_reducible apply Ix.intp); (focus assumption); (focus omega); (focus omega)) | apply forceV_any | apply forceL_any)); all_goals (conv => whnf); all_goals (try with_reducible apply At.mk)))
    apply q_callw
    focus exact put_i (f := 1 + s) (t := 0) (by omega) (by (exact byOm)) T.head_len (by omega) (by omega) (by omega) rfl (by (exact byGet))
    rintro _ h3 ⟨g6, g7⟩ q3
    have g8 : h3.get h.next = some (ARow.cells T.cells 26) := (g7 h.next (by (exact byOm)) (by omega)).trans (by (exact byGet))
    have hn3 := q3.next
    (focus ((try with_reducible apply wpC.to); (repeat' ((conv => whnf); first | ((apply Start.mk); (focus exact byNext); (focus exact byLen)) | ((apply New.mk); (focus exact byNid)) | ((apply Need.mk); (focus exact byNeed)) | ((apply Fork.mk) <;> (intro _; try (exfalso; omega; done))) | ((apply Load1.mk); (focus exact byMem); (focus exact byVal)) | ((apply LoadN.mk); (focus exact byMem); (focus exact byList)) | ((apply Sto.mk); (focus exact bySto); (focus exact byLo); (focus exact byGet); (focus exact rfl); (focus exact rfl); (focus exact rfl); (focus exact byList)) | ((with_reducible apply Ix.nat); (focus exact rfl); (focus omega)) | ((with_reducible apply Ix.natp); (focus assumption); (focus omega)) | ((with_reducible apply Ix.pred); (focus first | assumption | exact fun _ => rfl); (focus omega); (focus omega)) | ((with_reducible apply Ix.lit); (focus exact byLit); (focus first | assumption | exact fun _ => rfl); (focus omega); (focus omega)) | ((with_reducible apply Ix.int); (focus exact rfl); (focus omega); (focus omega)) | ((with_reducible apply Ix.intp); (focus assumption); (focus omega); (focus omega)) | apply forceV_any | apply forceL_any)); all_goals (conv => whnf); all_goals (try with_reducible apply At.mk)))
    refine hK (s + 1) _ _ ⟨rfl, rfl, rfl, int_of rfl (by omega), trivial⟩ ⟨?_, by (exact byGet), by (exact bySame), by (exact byOm), by omega⟩ (by omega)
    rw [tankTo_succ]
    exact bump_skip g6
  · have : s = T.tanks.toNat := by omega
    subst this
    rw [← netTo_zero] at g1
    refine wp_loop (fun s : Nat => [(1, .pointer (some ⟨h.next, 0, none⟩)), (3, .pointer (some ⟨h.next + 10, 0, none⟩)), (52, .slice T.b T.n T.c), (53, .int .i64 T.n), (54, .int .i64 s)])
      (fun s h1 => h1.get (h.next + 10) = some (.cells (T.head ++ netRows (netTo T s)) 83) ∧ h1.get h.next = some (.cells T.cells 26) ∧ Same h.next h h1 ∧ h.next + 11 ≤ h1.next ∧ s ≤ T.n) (fun s => T.n - s) 0 ⟨rfl, rfl, rfl, rfl, rfl, trivial⟩ ⟨by (exact byGet), by (exact byGet), by (exact bySame), by (exact byOm), by omega⟩ ?_
    rintro s g' h1' ⟨g1, g2, sm, hn, hs⟩ K hK
    have hT0 : T.Ok m h1' := hT.same (by (exact bySame)) (Nat.le_refl _)
    obtain ⟨te, ti, tr, tl⟩ := hT0
    have hfs : s < T.n → 0 ≤ (T.f s).tank ∧ (T.f s).tank < T.tanks ∧ 0 ≤ (T.f s).hull ∧ (T.f s).hull < T.hulls ∧ (T.f s).lo ≤ (T.f s).hi ∧ -1000000 ≤ (T.f s).lo ∧ (T.f s).hi ≤ 1000000 := fun hlt => by
      obtain ⟨a, b, c⟩ := hf s hlt
      unfold isR at c
      omega
    (focus ((try with_reducible apply wpC.to); (repeat' ((conv => whnf); first | ((apply Start.mk); (focus exact byNext); (focus exact byLen)) | ((apply New.mk); (focus exact byNid)) | ((apply Need.mk); (focus exact byNeed)) | ((apply Fork.mk) <;> (intro _; try (exfalso; omega; done))) | ((apply Load1.mk); (focus exact byMem); (focus exact byVal)) | ((apply LoadN.mk); (focus exact byMem); (focus exact byList)) | ((apply Sto.mk); (focus exact bySto); (focus exact byLo); (focus exact byGet); (focus exact rfl); (focus exact rfl); (focus exact rfl); (focus exact byList)) | ((with_reducible apply Ix.nat); (focus exact rfl); (focus omega)) | ((with_reducible apply Ix.natp); (focus assumption); (focus omega)) | ((with_reducible apply Ix.pred); (focus first | assumption | exact fun _ => rfl); (focus omega); (focus omega)) | ((with_reducible apply Ix.lit); (focus exact byLit); (focus first | assumption | exact fun _ => rfl); (focus omega); (focus omega)) | ((with_reducible apply Ix.int); (focus exact rfl); (focus omega); (focus omega)) | ((with_reducible apply Ix.intp); (focus assumption); (focus omega); (focus omega)) | apply forceV_any | apply forceL_any)); all_goals (conv => whnf); all_goals (try with_reducible apply At.mk)))
    · have hfs := hfs (by omega)
      apply q_callw
      focus exact put_i (f := 1 + T.tanks.toNat + (T.f s).hull.toNat) (t := 1 + (T.f s).tank.toNat) (B := netTo T s) (by omega) (by (exact byOm)) T.head_len (by omega) (by omega) (by omega) (by omega) (by (exact byGet))
      rintro _ h2 ⟨g3, g4⟩ q2
      have g5 : h2.get h.next = some (ARow.cells T.cells 26) := (g4 h.next (by (exact byOm)) (by omega)).trans (by (exact byGet))
      have g9 : h2.get (h1'.next + 3) = some (ARow.cells (T.f s).cells 42) := (g4 (h1'.next + 3) (by (exact byOm)) (by omega)).trans (by (exact byGet))
      have hn2 := q2.next
      unfold RTest.cells at g9
      (focus ((try with_reducible apply wpC.to); (repeat' ((conv => whnf); first | ((apply Start.mk); (focus exact byNext); (focus exact byLen)) | ((apply New.mk); (focus exact byNid)) | ((apply Need.mk); (focus exact byNeed)) | ((apply Fork.mk) <;> (intro _; try (exfalso; omega; done))) | ((apply Load1.mk); (focus exact byMem); (focus exact byVal)) | ((apply LoadN.mk); (focus exact byMem); (focus exact byList)) | ((apply Sto.mk); (focus exact bySto); (focus exact byLo); (focus exact byGet); (focus exact rfl); (focus exact rfl); (focus exact rfl); (focus exact byList)) | ((with_reducible apply Ix.nat); (focus exact rfl); (focus omega)) | ((with_reducible apply Ix.natp); (focus assumption); (focus omega)) | ((with_reducible apply Ix.pred); (focus first | assumption | exact fun _ => rfl); (focus omega); (focus omega)) | ((with_reducible apply Ix.lit); (focus exact byLit); (focus first | assumption | exact fun _ => rfl); (focus omega); (focus omega)) | ((with_reducible apply Ix.int); (focus exact rfl); (focus omega); (focus omega)) | ((with_reducible apply Ix.intp); (focus assumption); (focus omega); (focus omega)) | apply forceV_any | apply forceL_any)); all_goals (conv => whnf); all_goals (try with_reducible apply At.mk)))
      apply q_callw
      focus exact put_i (f := 1 + (T.f s).tank.toNat) (t := 1 + T.tanks.toNat + (T.f s).hull.toNat) (by omega) (by (exact byOm)) T.head_len (by omega) (by omega) (by omega) (by omega) (by (exact byGet))
      rintro _ h3 ⟨g6, g7⟩ q3
      have g8 : h3.get h.next = some (ARow.cells T.cells 26) := (g7 h.next (by (exact byOm)) (by omega)).trans (by (exact byGet))
      have hn3 := q3.next
      (focus ((try with_reducible apply wpC.to); (repeat' ((conv => whnf); first | ((apply Start.mk); (focus exact byNext); (focus exact byLen)) | ((apply New.mk); (focus exact byNid)) | ((apply Need.mk); (focus exact byNeed)) | ((apply Fork.mk) <;> (intro _; try (exfalso; omega; done))) | ((apply Load1.mk); (focus exact byMem); (focus exact byVal)) | ((apply LoadN.mk); (focus exact byMem); (focus exact byList)) | ((apply Sto.mk); (focus exact bySto); (focus exact byLo); (focus exact byGet); (focus exact rfl); (focus exact rfl); (focus exact rfl); (focus exact byList)) | ((with_reducible apply Ix.nat); (focus exact rfl); (focus omega)) | ((with_reducible apply Ix.natp); (focus assumption); (focus omega)) | ((with_reducible apply Ix.pred); (focus first | assumption | exact fun _ => rfl); (focus omega); (focus omega)) | ((with_reducible apply Ix.lit); (focus exact byLit); (focus first | assumption | exact fun _ => rfl); (focus omega); (focus omega)) | ((with_reducible apply Ix.int); (focus exact rfl); (focus omega); (focus omega)) | ((with_reducible apply Ix.intp); (focus assumption); (focus omega); (focus omega)) | apply forceV_any | apply forceL_any)); all_goals (conv => whnf); all_goals (try with_reducible apply At.mk)))
      refine hK (s + 1) _ _ ⟨rfl, rfl, rfl, rfl, int_of rfl (by omega), trivial⟩ ⟨?_, by (exact byGet), by (exact bySame), by (exact byOm), by omega⟩ (by omega)
      rw [netTo_succ]
      exact bump_skip g6
    · (first | (apply fin1; (focus first | exact .inl rfl | exact .inr rfl); focus exact byR1) | (apply fin2; (focus first | exact .inl rfl | exact .inr rfl); (focus exact byR1); (focus exact byR1)) | (apply fin3; (focus first | exact .inl rfl | exact .inr rfl); (focus exact byR1); (focus exact byR1); (focus exact byR1)) | (apply fin0; (focus first | exact .inl rfl | exact .inr rfl)))
      have : s = T.n := by omega
      subst this
      rw [netTo_all] at g1
      exact ⟨_, _, rfl, by omega, by (exact byOm), by (exact byGet)⟩

end AE.Try
