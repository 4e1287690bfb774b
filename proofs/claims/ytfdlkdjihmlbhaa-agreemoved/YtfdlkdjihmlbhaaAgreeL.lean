/- Walks of agree: a table without a tank, odd tanks. -/
import Derived.Test.YtfdlkdjihmlbhaaAgreeK
set_option linter.unusedVariables false
set_option linter.unusedSimpArgs false
set_option linter.unusedSectionVars false
namespace AE.Try
set_option linter.unusedSimpArgs false
open Go AE AE.Ag AgreeS Go.Proofs
set_option maxRecDepth 100000

/-- The tests of a table. -/
def Tab.rs (T : Tab) : List RTest := (List.range T.n).map T.f
def Tab.upTo (T : Tab) (s : Nat) : List RTest := (List.range s).map T.f
theorem Tab.upTo_all (T : Tab) : T.upTo T.n = T.rs := rfl
theorem Tab.upTo_succ (T : Tab) (s : Nat) : T.upTo (s + 1) = T.upTo s ++ [T.f s] := by simp [Tab.upTo, List.range_succ]
theorem Tab.tests_eq (T : Tab) : T.toTable.tests = T.rs.map RTest.toTest := by simp [Tab.toTable, Tab.rs]
def wo (k : Int) (l : List RTest) : List RTest := l.filter fun x => decide (x.tank ≠ k)
theorem wo_add (k : Int) (l : List RTest) (x : RTest) : wo k (l ++ [x]) = if x.tank ≠ k then wo k l ++ [x] else wo k l := by
  unfold wo
  rw [List.filter_append]
  by_cases h : x.tank = k <;> simp [h]
def RTest.zero : RTest := ⟨0, 0, 0, 0⟩
/-- A table with these tests and else that of T. -/
structure Tab.With (T : Tab) (rs : List RTest) (T' : Tab) : Prop where
  tanks : T'.tanks = T.tanks
  hulls : T'.hulls = T.hulls
  blo : T'.blo = T.blo
  bhi : T'.bhi = T.bhi
  rs : T'.rs = rs
theorem Tab.rs_len (T : Tab) : T.rs.length = T.n := by simp [Tab.rs]
theorem Tab.With.n {T T' : Tab} {rs : List RTest} (w : T.With rs T') : T'.n = rs.length := by rw [← w.rs, T'.rs_len]
theorem Tab.With.mem {T T' : Tab} {rs : List RTest} (w : T.With rs T') {i : Nat} (hi : i < T'.n) : T'.f i ∈ rs := by
  rw [← w.rs]; simp only [Tab.rs, List.mem_map, List.mem_range]; exact ⟨i, hi, rfl⟩
theorem Tab.mem_rs {T : Tab} {x : RTest} : x ∈ T.rs ↔ ∃ i, i < T.n ∧ T.f i = x := by simp [Tab.rs]
def Tab.grown (T : Tab) (rs : List RTest) (v : Option Addr) (a : Addr) : Tab := ⟨T.tanks, T.hulls, T.blo, T.bhi, rs.length, fun i => rs.getD i RTest.zero, v, a, 0⟩
theorem Tab.grown_with (T : Tab) (rs : List RTest) (v : Option Addr) (a : Addr) : T.With rs (T.grown rs v a) := ⟨rfl, rfl, rfl, rfl, by unfold Tab.rs Tab.grown; exact range_getD rs _⟩
theorem RTest.cells_len (x : RTest) : x.cells.length = 4 := rfl

/-- A table that grew lies. -/
theorem grown_ok {T : Tab} {rs : List RTest} {b N m : Nat} {h : H} {e : TypeId} {v : Option Addr} (G : Grown b N h e 4 rs.length (cellsOf RTest.cells rs) v) (hN : N ≤ m) (hl : rs.length ≤ 1000) : ∃ a, (T.grown rs v a).Ok m h ∧ (0 < rs.length → b ≤ a.block) := by
  rw [cellsOf_rows RTest.cells rs RTest.zero] at G
  obtain ⟨a, ha, hE, hb⟩ := G.els (f := fun i => (rs.getD i RTest.zero).cells) (fun i => rfl)
  exact ⟨a, ⟨ha, hE, fun h0 => by have := hb h0; show a.block < m; omega, by show rs.length ≤ _; omega⟩, fun h0 => (hb h0).1⟩

theorem Tab.Ok.frame {T : Tab} {b m m' : Nat} {h h' : H} (k : T.Ok m h) (hb : 0 < T.n → b ≤ T.a.block) (hm : m ≤ m') (hs : ∀ r, b ≤ r → r < m → h'.get r = h.get r) : T.Ok m' h' :=
  ⟨k.e, fun i hi => by
    have := k.i i hi
    rw [← this]
    simp only [H.loadN, aadd]
    rw [hs _ (hb (by omega)) (k.r (by omega))], fun h0 => by have := k.r h0; omega, k.l⟩
theorem wo_le (k : Int) (T : Tab) (s : Nat) : (wo k (T.upTo s)).length ≤ s := by
  have : (wo k (T.upTo s)).length ≤ (T.upTo s).length := List.length_filter_le _ _
  simpa [Tab.upTo] using this

set_option maxHeartbeats 1000000 in
theorem without_w {h : H} {T : Tab} {m : Nat} {k : Int} (hm : m ≤ h.next) (hT : T.Ok m h) (hv : T.Valid) :
    AW Try.prog 19 h.next h [.agg ⟨T.cells⟩, .int .i64 k] (fun v h' => ∃ T' : Tab, v = .agg ⟨T'.cells⟩ ∧ T.With (wo k T.rs) T' ∧ T'.Ok h'.next h' ∧ (0 < T'.n → h.next ≤ T'.a.block)) := by
  have hn24 := hv.n
  obtain ⟨te, ti, tr, tl⟩ := hT
  refine fun19.call rfl (Nat.le_refl _) ?_
  unfold a19
  (focus ((try with_reducible apply wpC.to); (repeat' ((conv => whnf); first | ((apply Start.mk); (focus exact byNext); (focus exact byLen)) | ((apply New.mk); (focus exact byNid)) | ((apply Need.mk); (focus exact byNeed)) | ((apply Fork.mk) <;> (intro _; try (exfalso; omega; done))) | ((apply Load1.mk); (focus exact byMem); (focus exact byVal)) | ((apply LoadN.mk); (focus exact byMem); (focus exact byList)) | ((apply Sto.mk); (focus exact bySto); (focus exact byLo); (focus exact byGet); (focus exact rfl); (focus exact rfl); (focus exact rfl); (focus exact byList)) | ((with_reducible apply Ix.nat); (focus exact rfl); (focus omega)) | ((with_reducible apply Ix.natp); (focus assumption); (focus omega)) | ((with_reducible apply Ix.pred); (focus first | assumption | exact fun _ => rfl); (focus omega); (focus omega)) | ((with_reducible apply Ix.lit); (focus exact byLit); (focus first | assumption | exact fun _ => rfl); (focus omega); (focus omega)) | ((with_reducible apply Ix.int); (focus exact rfl); (focus omega); (focus omega)) | ((with_reducible apply Ix.intp); (focus assumption); (focus omega); (focus omega)) | apply forceV_any | apply forceL_any)); all_goals (conv => whnf); all_goals (try with_reducible apply At.mk)))
  refine wp_loop (fun s : Nat => [(1, .int .i64 k), (2, .pointer (some ⟨h.next, 0, none⟩)), (4, .pointer (some ⟨h.next + 1, 0, none⟩)), (5, .pointer (some ⟨h.next + 9, 0, none⟩)), (6, .int .i64 s)])
    (fun s h1 => Same h.next h h1 ∧ h.next + 11 ≤ h1.next ∧ s ≤ T.n ∧ h1.get h.next = some (.cells T.cells 26) ∧ h1.get (h.next + 1) = some (.cells [.int .i64 0, .int .i64 0, .int .i64 0, .int .i64 0, .slice none 0 0] 26) ∧
      ∃ v, h1.get (h.next + 9) = some (.cells [.int .i64 T.tanks, .int .i64 T.hulls, .int .i64 T.blo, .int .i64 T.bhi, .slice v (wo k (T.upTo s)).length 0] 26) ∧ Grown (h.next + 10) h1.next h1 42 4 (wo k (T.upTo s)).length (cellsOf RTest.cells (wo k (T.upTo s))) v) (fun s => T.n - s) 0
    ⟨rfl, rfl, rfl, rfl, rfl, trivial⟩ ⟨by (exact bySame), by (exact byOm), by omega, by (exact byGet), by (exact byGet), none, by (exact byGet), Grown.nil⟩ ?_
  rintro s g h1 ⟨sm, hn, hs, g1, g2, v, g3, G⟩ K hK
  have hT1 : T.Ok m h1 := Tab.Ok.same ⟨te, ti, tr, tl⟩ (sm.mono hm) (Nat.le_refl _)
  obtain ⟨te1, ti1, tr1, tl1⟩ := hT1
  have hwl := wo_le k T s
  (focus ((try with_reducible apply wpC.to); (repeat' ((conv => whnf); first | ((apply Start.mk); (focus exact byNext); (focus exact byLen)) | ((apply New.mk); (focus exact byNid)) | ((apply Need.mk); (focus exact byNeed)) | ((apply Fork.mk) <;> (intro _; try (exfalso; omega; done))) | ((apply Load1.mk); (focus exact byMem); (focus exact byVal)) | ((apply LoadN.mk); (focus exact byMem); (focus exact byList)) | ((apply Sto.mk); (focus exact bySto); (focus exact byLo); (focus exact byGet); (focus exact rfl); (focus exact rfl); (focus exact rfl); (focus exact byList)) | ((with_reducible apply Ix.nat); (focus exact rfl); (focus omega)) | ((with_reducible apply Ix.natp); (focus assumption); (focus omega)) | ((with_reducible apply Ix.pred); (focus first | assumption | exact fun _ => rfl); (focus omega); (focus omega)) | ((with_reducible apply Ix.lit); (focus exact byLit); (focus first | assumption | exact fun _ => rfl); (focus omega); (focus omega)) | ((with_reducible apply Ix.int); (focus exact rfl); (focus omega); (focus omega)) | ((with_reducible apply Ix.intp); (focus assumption); (focus omega); (focus omega)) | apply forceV_any | apply forceL_any)); all_goals (conv => whnf); all_goals (try with_reducible apply At.mk)))
  · refine Load1.mk (load_part (l := (T.f s).cells) (by (exact byOld)) rfl) rfl ?_
    have hadd := wo_add k (T.upTo s) (T.f s)
    rw [← T.upTo_succ] at hadd
    (focus ((try with_reducible apply wpC.to); (repeat' ((conv => whnf); first | ((apply Start.mk); (focus exact byNext); (focus exact byLen)) | ((apply New.mk); (focus exact byNid)) | ((apply Need.mk); (focus exact byNeed)) | ((apply Fork.mk) <;> (intro _; try (exfalso; omega; done))) | ((apply Load1.mk); (focus exact byMem); (focus exact byVal)) | ((apply LoadN.mk); (focus exact byMem); (focus exact byList)) | ((apply Sto.mk); (focus exact bySto); (focus exact byLo); (focus exact byGet); (focus exact rfl); (focus exact rfl); (focus exact rfl); (focus exact byList)) | ((with_reducible apply Ix.nat); (focus exact rfl); (focus omega)) | ((with_reducible apply Ix.natp); (focus assumption); (focus omega)) | ((with_reducible apply Ix.pred); (focus first | assumption | exact fun _ => rfl); (focus omega); (focus omega)) | ((with_reducible apply Ix.lit); (focus exact byLit); (focus first | assumption | exact fun _ => rfl); (focus omega); (focus omega)) | ((with_reducible apply Ix.int); (focus exact rfl); (focus omega); (focus omega)) | ((with_reducible apply Ix.intp); (focus assumption); (focus omega); (focus omega)) | apply forceV_any | apply forceL_any)); all_goals (conv => whnf); all_goals (try with_reducible apply At.mk)))
    · rw [if_pos (by assumption)] at hadd
      have hE := ti1 s (by omega)
      (focus ((try with_reducible apply wpC.to); (repeat' ((conv => whnf); first | ((apply Start.mk); (focus exact byNext); (focus exact byLen)) | ((apply New.mk); (focus exact byNid)) | ((apply Need.mk); (focus exact byNeed)) | ((apply Fork.mk) <;> (intro _; try (exfalso; omega; done))) | ((apply Load1.mk); (focus exact byMem); (focus exact byVal)) | ((apply LoadN.mk); (focus exact byMem); (focus exact byList)) | ((apply Sto.mk); (focus exact bySto); (focus exact byLo); (focus exact byGet); (focus exact rfl); (focus exact rfl); (focus exact rfl); (focus exact byList)) | ((with_reducible apply Ix.nat); (focus exact rfl); (focus omega)) | ((with_reducible apply Ix.natp); (focus assumption); (focus omega)) | ((with_reducible apply Ix.pred); (focus first | assumption | exact fun _ => rfl); (focus omega); (focus omega)) | ((with_reducible apply Ix.lit); (focus exact byLit); (focus first | assumption | exact fun _ => rfl); (focus omega); (focus omega)) | ((with_reducible apply Ix.int); (focus exact rfl); (focus omega); (focus omega)) | ((with_reducible apply Ix.intp); (focus assumption); (focus omega); (focus omega)) | apply forceV_any | apply forceL_any)); all_goals (conv => whnf); all_goals (try with_reducible apply At.mk)))
      apply q_appG (b := h.next + 10) (N := h1.next) (n := (wo k (T.upTo s)).length) (m := 1) (nc := (T.f s).cells)
      case hsv => exact rfl
      case G => exact G.frame (Nat.le_refl _) fun j hj1 hj2 => get_of fun y hy => by (exact byGet)
      case C => exact Cells.one (by (exact byMem)) (by unfold far; omega) rfl rfl
      case hm => omega
      case hlo => omega
      case hb => omega
      case hN => omega
      case hsm => omega
      intro v' j row hj1 hj2 hj3 G'
      rw [← cellsOf_add, show (wo k (T.upTo s)).length + 1 = (wo k (T.upTo (s + 1))).length by rw [hadd]; simp, ← hadd] at G'
      (focus ((try with_reducible apply wpC.to); (repeat' ((conv => whnf); first | ((apply Start.mk); (focus exact byNext); (focus exact byLen)) | ((apply New.mk); (focus exact byNid)) | ((apply Need.mk); (focus exact byNeed)) | ((apply Fork.mk) <;> (intro _; try (exfalso; omega; done))) | ((apply Load1.mk); (focus exact byMem); (focus exact byVal)) | ((apply LoadN.mk); (focus exact byMem); (focus exact byList)) | ((apply Sto.mk); (focus exact bySto); (focus exact byLo); (focus exact byGet); (focus exact rfl); (focus exact rfl); (focus exact rfl); (focus exact byList)) | ((with_reducible apply Ix.nat); (focus exact rfl); (focus omega)) | ((with_reducible apply Ix.natp); (focus assumption); (focus omega)) | ((with_reducible apply Ix.pred); (focus first | assumption | exact fun _ => rfl); (focus omega); (focus omega)) | ((with_reducible apply Ix.lit); (focus exact byLit); (focus first | assumption | exact fun _ => rfl); (focus omega); (focus omega)) | ((with_reducible apply Ix.int); (focus exact rfl); (focus omega); (focus omega)) | ((with_reducible apply Ix.intp); (focus assumption); (focus omega); (focus omega)) | apply forceV_any | apply forceL_any)); all_goals (conv => whnf); all_goals (try with_reducible apply At.mk)))
      refine hK (s + 1) _ _ ⟨rfl, rfl, rfl, rfl, int_of rfl (by omega), trivial⟩ ⟨by (exact bySame), by (exact byOm), by omega, by (exact byGet), by (exact byGet), v', ?_, ?_⟩ (by omega)
      · rw [show (wo k (T.upTo (s + 1))).length = (wo k (T.upTo s)).length + 1 by rw [hadd]; simp]
        (exact byGet)
      · exact G'.frame (by (exact byOm)) fun i hi1 hi2 => get_of fun y hy => by (exact byGet)
    · rw [if_neg (by simpa using ‹(T.f s).tank = k›)] at hadd
      (focus ((try with_reducible apply wpC.to); (repeat' ((conv => whnf); first | ((apply Start.mk); (focus exact byNext); (focus exact byLen)) | ((apply New.mk); (focus exact byNid)) | ((apply Need.mk); (focus exact byNeed)) | ((apply Fork.mk) <;> (intro _; try (exfalso; omega; done))) | ((apply Load1.mk); (focus exact byMem); (focus exact byVal)) | ((apply LoadN.mk); (focus exact byMem); (focus exact byList)) | ((apply Sto.mk); (focus exact bySto); (focus exact byLo); (focus exact byGet); (focus exact rfl); (focus exact rfl); (focus exact rfl); (focus exact byList)) | ((with_reducible apply Ix.nat); (focus exact rfl); (focus omega)) | ((with_reducible apply Ix.natp); (focus assumption); (focus omega)) | ((with_reducible apply Ix.pred); (focus first | assumption | exact fun _ => rfl); (focus omega); (focus omega)) | ((with_reducible apply Ix.lit); (focus exact byLit); (focus first | assumption | exact fun _ => rfl); (focus omega); (focus omega)) | ((with_reducible apply Ix.int); (focus exact rfl); (focus omega); (focus omega)) | ((with_reducible apply Ix.intp); (focus assumption); (focus omega); (focus omega)) | apply forceV_any | apply forceL_any)); all_goals (conv => whnf); all_goals (try with_reducible apply At.mk)))
      refine hK (s + 1) _ _ ⟨rfl, rfl, rfl, rfl, int_of rfl (by omega), trivial⟩ ⟨by (exact bySame), by (exact byOm), by omega, by (exact byGet), by (exact byGet), v, ?_, ?_⟩ (by omega)
      · rw [hadd]; (exact byGet)
      · rw [hadd]; exact G.frame (by (exact byOm)) fun i hi1 hi2 => get_of fun y hy => by (exact byGet)
  · have : s = T.n := by omega
    subst this
    rw [T.upTo_all] at g3 G hwl
    (first | (apply fin1; (focus first | exact .inl rfl | exact .inr rfl); focus exact byR1) | (apply fin2; (focus first | exact .inl rfl | exact .inr rfl); (focus exact byR1); (focus exact byR1)) | (apply fin3; (focus first | exact .inl rfl | exact .inr rfl); (focus exact byR1); (focus exact byR1); (focus exact byR1)) | (apply fin0; (focus first | exact .inl rfl | exact .inr rfl)))
    obtain ⟨a, hok, hb⟩ := grown_ok (T := T) (m := h1.next) G (Nat.le_refl _) (by omega)
    refine ⟨T.grown (wo k T.rs) v a, rfl, T.grown_with _ _ _, ?_, fun h0 => ?_⟩
    · exact hok.frame hb (by (exact byOm)) fun j hj1 hj2 => get_of fun y hy => by (exact byGet)
    · have := hb h0
      show h.next ≤ a.block
      omega

set_option maxHeartbeats 1000000 in
theorem odd1_w {h : H} {T : Tab} {m r : Nat} {k : Int} (hm : m ≤ h.next) (hT : T.Ok m h) (hv : T.Valid) (hr : r < h.next) (hg : h.get r = some (.cells T.cells 26)) :
    AW Try.prog 38 h.next h [.int .i64 k, .pointer (some ⟨r, 0, none⟩)] (fun v h' => ∃ T' : Tab, v = .agg ⟨T'.cells⟩ ∧ T.With (wo k T.rs) T' ∧ T'.Ok h'.next h' ∧ (0 < T'.n → h.next ≤ T'.a.block)) := by
  have hn24 := hv.n
  obtain ⟨te, ti, tr, tl⟩ := hT
  refine fun38.call rfl (Nat.le_refl _) ?_
  unfold a38
  (focus ((try with_reducible apply wpC.to); (repeat' ((conv => whnf); first | ((apply Start.mk); (focus exact byNext); (focus exact byLen)) | ((apply New.mk); (focus exact byNid)) | ((apply Need.mk); (focus exact byNeed)) | ((apply Fork.mk) <;> (intro _; try (exfalso; omega; done))) | ((apply Load1.mk); (focus exact byMem); (focus exact byVal)) | ((apply LoadN.mk); (focus exact byMem); (focus exact byList)) | ((apply Sto.mk); (focus exact bySto); (focus exact byLo); (focus exact byGet); (focus exact rfl); (focus exact rfl); (focus exact rfl); (focus exact byList)) | ((with_reducible apply Ix.nat); (focus exact rfl); (focus omega)) | ((with_reducible apply Ix.natp); (focus assumption); (focus omega)) | ((with_reducible apply Ix.pred); (focus first | assumption | exact fun _ => rfl); (focus omega); (focus omega)) | ((with_reducible apply Ix.lit); (focus exact byLit); (focus first | assumption | exact fun _ => rfl); (focus omega); (focus omega)) | ((with_reducible apply Ix.int); (focus exact rfl); (focus omega); (focus omega)) | ((with_reducible apply Ix.intp); (focus assumption); (focus omega); (focus omega)) | ((apply OpE.val); (focus exact rfl); (focus exact byVal)) | apply forceV_any | apply forceL_any)); all_goals (conv => whnf); all_goals (try with_reducible apply At.mk)))
  refine wp_loop (fun s : Nat => [(0, .int .i64 k), (1, .pointer (some ⟨r, 0, none⟩)), (3, .pointer (some ⟨h.next, 0, none⟩)), (4, .pointer (some ⟨h.next + 2, 0, none⟩)), (10, .slice T.b T.n T.c), (11, .int .i64 T.n), (12, .int .i64 s)])
    (fun s h1 => Same h.next h h1 ∧ h.next + 8 ≤ h1.next ∧ s ≤ T.n ∧ h1.get h.next = some (.cells [.int .i64 0, .int .i64 0, .int .i64 0, .int .i64 0, .slice none 0 0] 26) ∧
      ∃ v, h1.get (h.next + 2) = some (.cells [.int .i64 T.tanks, .int .i64 T.hulls, .int .i64 T.blo, .int .i64 T.bhi, .slice v (wo k (T.upTo s)).length 0] 26) ∧ Grown (h.next + 8) h1.next h1 42 4 (wo k (T.upTo s)).length (cellsOf RTest.cells (wo k (T.upTo s))) v) (fun s => T.n - s) 0
    ⟨rfl, rfl, rfl, rfl, rfl, rfl, rfl, trivial⟩ ⟨by (exact bySame), by (exact byOm), by omega, by (exact byGet), none, by (exact byGet), Grown.nil⟩ ?_
  rintro s g h1 ⟨sm, hn, hs, g2, v, g3, G⟩ K hK
  have g1 : h1.get r = some (.cells T.cells 26) := (sm r hr).trans hg
  have hT1 : T.Ok m h1 := Tab.Ok.same ⟨te, ti, tr, tl⟩ (sm.mono hm) (Nat.le_refl _)
  obtain ⟨te1, ti1, tr1, tl1⟩ := hT1
  have hwl := wo_le k T s
  (focus ((try with_reducible apply wpC.to); (repeat' ((conv => whnf); first | ((apply Start.mk); (focus exact byNext); (focus exact byLen)) | ((apply New.mk); (focus exact byNid)) | ((apply Need.mk); (focus exact byNeed)) | ((apply Fork.mk) <;> (intro _; try (exfalso; omega; done))) | ((apply Load1.mk); (focus exact byMem); (focus exact byVal)) | ((apply LoadN.mk); (focus exact byMem); (focus exact byList)) | ((apply Sto.mk); (focus exact bySto); (focus exact byLo); (focus exact byGet); (focus exact rfl); (focus exact rfl); (focus exact rfl); (focus exact byList)) | ((with_reducible apply Ix.nat); (focus exact rfl); (focus omega)) | ((with_reducible apply Ix.natp); (focus assumption); (focus omega)) | ((with_reducible apply Ix.pred); (focus first | assumption | exact fun _ => rfl); (focus omega); (focus omega)) | ((with_reducible apply Ix.lit); (focus exact byLit); (focus first | assumption | exact fun _ => rfl); (focus omega); (focus omega)) | ((with_reducible apply Ix.int); (focus exact rfl); (focus omega); (focus omega)) | ((with_reducible apply Ix.intp); (focus assumption); (focus omega); (focus omega)) | ((apply OpE.val); (focus exact rfl); (focus exact byVal)) | apply forceV_any | apply forceL_any)); all_goals (conv => whnf); all_goals (try with_reducible apply At.mk)))
  · have hadd := wo_add k (T.upTo s) (T.f s)
    rw [← T.upTo_succ, if_pos (by assumption)] at hadd
    have G1 : ∀ h2 : H, (∀ r, h.next + 8 ≤ r → r < h1.next → h2.get r = h1.get r) → Grown (h.next + 8) h1.next h2 42 4 (wo k (T.upTo s)).length (cellsOf RTest.cells (wo k (T.upTo s))) v := fun h2 hh => G.frame (Nat.le_refl _) hh
    apply q_clip
    case hsv => exact rfl
    case G => exact G1 _ fun j hj1 hj2 => get_of fun y hy => by (exact byGet)
    case hh => exact rfl
    case hx => exact rfl
    case hsm => omega
    intro v' c' F
    (focus ((try with_reducible apply wpC.to); (repeat' ((conv => whnf); first | ((apply Start.mk); (focus exact byNext); (focus exact byLen)) | ((apply New.mk); (focus exact byNid)) | ((apply Need.mk); (focus exact byNeed)) | ((apply Fork.mk) <;> (intro _; try (exfalso; omega; done))) | ((apply Load1.mk); (focus exact byMem); (focus exact byVal)) | ((apply LoadN.mk); (focus exact byMem); (focus exact byList)) | ((apply Sto.mk); (focus exact bySto); (focus exact byLo); (focus exact byGet); (focus exact rfl); (focus exact rfl); (focus exact rfl); (focus exact byList)) | ((with_reducible apply Ix.nat); (focus exact rfl); (focus omega)) | ((with_reducible apply Ix.natp); (focus assumption); (focus omega)) | ((with_reducible apply Ix.pred); (focus first | assumption | exact fun _ => rfl); (focus omega); (focus omega)) | ((with_reducible apply Ix.lit); (focus exact byLit); (focus first | assumption | exact fun _ => rfl); (focus omega); (focus omega)) | ((with_reducible apply Ix.int); (focus exact rfl); (focus omega); (focus omega)) | ((with_reducible apply Ix.intp); (focus assumption); (focus omega); (focus omega)) | ((apply OpE.val); (focus exact rfl); (focus exact byVal)) | apply forceV_any | apply forceL_any)); all_goals (conv => whnf); all_goals (try with_reducible apply At.mk)))
    apply q_appF (b := h.next + 8) (m := 1) (nc := (T.f s).cells)
    case hsv => exact rfl
    case G => exact F _ fun j hj1 hj2 => get_of fun y hy => by (exact byGet)
    case C => exact Cells.one (by (exact byMem)) (by unfold far; omega) rfl rfl
    case hm => omega
    case hb => omega
    case hsm => omega
    intro v2 row G'
    rw [← cellsOf_add, show (wo k (T.upTo s)).length + 1 = (wo k (T.upTo (s + 1))).length by rw [hadd]; simp, ← hadd] at G'
    (focus ((try with_reducible apply wpC.to); (repeat' ((conv => whnf); first | ((apply Start.mk); (focus exact byNext); (focus exact byLen)) | ((apply New.mk); (focus exact byNid)) | ((apply Need.mk); (focus exact byNeed)) | ((apply Fork.mk) <;> (intro _; try (exfalso; omega; done))) | ((apply Load1.mk); (focus exact byMem); (focus exact byVal)) | ((apply LoadN.mk); (focus exact byMem); (focus exact byList)) | ((apply Sto.mk); (focus exact bySto); (focus exact byLo); (focus exact byGet); (focus exact rfl); (focus exact rfl); (focus exact rfl); (focus exact byList)) | ((with_reducible apply Ix.nat); (focus exact rfl); (focus omega)) | ((with_reducible apply Ix.natp); (focus assumption); (focus omega)) | ((with_reducible apply Ix.pred); (focus first | assumption | exact fun _ => rfl); (focus omega); (focus omega)) | ((with_reducible apply Ix.lit); (focus exact byLit); (focus first | assumption | exact fun _ => rfl); (focus omega); (focus omega)) | ((with_reducible apply Ix.int); (focus exact rfl); (focus omega); (focus omega)) | ((with_reducible apply Ix.intp); (focus assumption); (focus omega); (focus omega)) | ((apply OpE.val); (focus exact rfl); (focus exact byVal)) | apply forceV_any | apply forceL_any)); all_goals (conv => whnf); all_goals (try with_reducible apply At.mk)))
    refine hK (s + 1) _ _ ⟨rfl, rfl, rfl, rfl, rfl, rfl, int_of rfl (by omega), trivial⟩ ⟨by (exact bySame), by (exact byOm), by omega, by (exact byGet), v2, ?_, ?_⟩ (by omega)
    · rw [show (wo k (T.upTo (s + 1))).length = (wo k (T.upTo s)).length + 1 by rw [hadd]; simp]
      (exact byGet)
    · exact G'.frame (by (exact byOm)) fun i hi1 hi2 => get_of fun y hy => by (exact byGet)
  · have hadd := wo_add k (T.upTo s) (T.f s)
    rw [← T.upTo_succ, if_neg (by simpa using ‹(T.f s).tank = k›)] at hadd
    refine hK (s + 1) _ _ ⟨rfl, rfl, rfl, rfl, rfl, rfl, int_of rfl (by omega), trivial⟩ ⟨by (exact bySame), by (exact byOm), by omega, by (exact byGet), v, ?_, ?_⟩ (by omega)
    · rw [hadd]; (exact byGet)
    · rw [hadd]; exact G.frame (by (exact byOm)) fun i hi1 hi2 => get_of fun y hy => by (exact byGet)
  · have : s = T.n := by omega
    subst this
    rw [T.upTo_all] at g3 G hwl
    (first | (apply fin1; (focus first | exact .inl rfl | exact .inr rfl); focus exact byR1) | (apply fin2; (focus first | exact .inl rfl | exact .inr rfl); (focus exact byR1); (focus exact byR1)) | (apply fin3; (focus first | exact .inl rfl | exact .inr rfl); (focus exact byR1); (focus exact byR1); (focus exact byR1)) | (apply fin0; (focus first | exact .inl rfl | exact .inr rfl)))
    obtain ⟨a, hok, hb⟩ := grown_ok (T := T) (m := h1.next) G (Nat.le_refl _) (by omega)
    refine ⟨T.grown (wo k T.rs) v a, rfl, T.grown_with _ _ _, ?_, fun h0 => ?_⟩
    · exact hok.frame hb (by (exact byOm)) fun j hj1 hj2 => get_of fun y hy => by (exact byGet)
    · have := hb h0
      show h.next ≤ a.block
      omega

/-! ### odd tanks -/
def woT (T : Table) (k : Nat) : Table := { T with tests := T.tests.filter fun x => decide (x.tank ≠ k) }
theorem woT_ok {T : Table} (h : T.Ok) (k : Nat) : (woT T k).Ok := ⟨h.tanks0, h.tanks, h.hulls0, h.hulls, h.le, h.lo, h.hi, fun x hx => by
  have := h.tests x (List.mem_filter.1 hx).1
  exact ⟨this.tank, this.hull, this.le, this.lo, this.hi⟩⟩
theorem Tab.Valid.mem {T : Tab} (v : T.Valid) {x : RTest} (hx : x ∈ T.rs) : (0 ≤ x.tank ∧ x.tank < T.tanks) ∧ (0 ≤ x.hull ∧ x.hull < T.hulls) ∧ isR x.lo x.hi := by
  obtain ⟨i, hi, rfl⟩ := Tab.mem_rs.1 hx
  exact v.f i hi
theorem Tab.With.valid {T T' : Tab} {rs : List RTest} (w : T.With rs T') (v : T.Valid) (hn : rs.length ≤ 24) (hm : ∀ x ∈ rs, (0 ≤ x.tank ∧ x.tank < T.tanks) ∧ (0 ≤ x.hull ∧ x.hull < T.hulls) ∧ isR x.lo x.hi) : T'.Valid := by
  refine ⟨by rw [w.n]; exact hn, by rw [w.tanks]; exact v.t1, by rw [w.tanks]; exact v.t2, by rw [w.hulls]; exact v.h1, by rw [w.hulls]; exact v.h2, by rw [w.blo, w.bhi]; exact v.b, fun i hi => ?_⟩
  rw [w.tanks, w.hulls]
  exact hm _ (w.mem hi)
theorem Tab.Valid.wo {T T' : Tab} {k : Int} (v : T.Valid) (w : T.With (wo k T.rs) T') : T'.Valid := by
  refine w.valid v ?_ fun x hx => v.mem (List.mem_filter.1 hx).1
  have : (AE.Try.wo k T.rs).length ≤ T.rs.length := List.length_filter_le _ _
  rw [T.rs_len] at this
  have := v.n
  omega
theorem Tab.With.table {T T' : Tab} {rs : List RTest} (w : T.With rs T') : T'.toTable = { T.toTable with tests := rs.map RTest.toTest } := by
  have h := T'.tests_eq
  rw [w.rs] at h
  have e1 : T'.toTable.tanks = T.toTable.tanks := by simp [Tab.toTable, w.tanks]
  have e2 : T'.toTable.hulls = T.toTable.hulls := by simp [Tab.toTable, w.hulls]
  have e3 : T'.toTable.blo = T.toTable.blo := by simp [Tab.toTable, w.blo]
  have e4 : T'.toTable.bhi = T.toTable.bhi := by simp [Tab.toTable, w.bhi]
  revert h e1 e2 e3 e4
  cases T'.toTable
  intro h e1 e2 e3 e4
  simp only at h e1 e2 e3 e4
  subst h; subst e1; subst e2; subst e3; subst e4
  rfl
theorem wo_table {T T' : Tab} {k : Nat} (v : T.Valid) (w : T.With (wo k T.rs) T') : T'.toTable = woT T.toTable k := by
  rw [w.table]
  unfold woT
  rw [T.tests_eq]
  unfold wo
  rw [List.filter_map]
  refine congrArg (fun l => ({ tanks := T.toTable.tanks, hulls := T.toTable.hulls, blo := T.toTable.blo, bhi := T.toTable.bhi, tests := List.map RTest.toTest l } : Table)) ?_
  refine List.filter_congr fun x hx => ?_
  have := (v.mem hx).1.1
  simp only [RTest.toTest, Function.comp]
  exact decide_eq_decide.2 (by omega)

open Classical in
noncomputable def oddTo (T : Table) (n : Nat) : List Nat := (List.range n).filter fun k => decide (Agrees (woT T k))
open Classical in
noncomputable def oddL (T : Table) : List Nat := if Agrees T then [] else oddTo T T.tanks
open Classical in
noncomputable def oErr (T : Table) : Int := if Agrees T then 5 else 0
theorem oddTo_succ (T : Table) (n : Nat) : (Agrees (woT T n) → oddTo T (n + 1) = oddTo T n ++ [n]) ∧ (¬ Agrees (woT T n) → oddTo T (n + 1) = oddTo T n) := by
  unfold oddTo
  rw [List.range_succ, List.filter_append]
  constructor <;> intro h <;> simp [h]
theorem oddTo_le (T : Table) (n : Nat) : (oddTo T n).length ≤ n := by
  have : (oddTo T n).length ≤ (List.range n).length := List.length_filter_le _ _
  simpa using this
def natC (n : Nat) : List Value := [.int .i64 n]
/-- Numbers that lie as they are in a list. -/
structure Arr.Nats (A : Arr) (l : List Nat) : Prop where
  n : A.n = l.length
  f : ∀ i, i < A.n → A.f i = (l.getD i 0 : Nat)

set_option maxHeartbeats 1000000 in
theorem odd_w {h : H} {T : Tab} {m : Nat} (hm : m ≤ h.next) (hT : T.Ok m h) (hv : T.Valid) :
    AW Try.prog 17 h.next h [.agg ⟨T.cells⟩] (fun v h' => ∃ A : Arr, v = .tuple #[A.val, .int .i64 (oErr T.toTable)] ∧ A.Nats (oddL T.toTable) ∧ A.Ok h'.next h' ∧ (0 < A.n → h.next ≤ A.a.block)) := by
  have hok := hv.ok
  refine fun17.call rfl (Nat.le_refl _) ?_
  unfold a17
  (focus ((try with_reducible apply wpC.to); (repeat' ((conv => whnf); first | ((apply Start.mk); (focus exact byNext); (focus exact byLen)) | ((apply New.mk); (focus exact byNid)) | ((apply Need.mk); (focus exact byNeed)) | ((apply Fork.mk) <;> (intro _; try (exfalso; omega; done))) | ((apply Load1.mk); (focus exact byMem); (focus exact byVal)) | ((apply LoadN.mk); (focus exact byMem); (focus exact byList)) | ((with_reducible apply Ix.pred); (focus first | assumption | exact fun _ => rfl); (focus omega); (focus omega)) | ((apply q_call); (focus exact byNext); (focus exact byLo); (focus (exact is_w)); first | ((apply q_allB) <;> (intro z_b _ _ _; first | exact Bool.noConfusion z_b | replace z_b := of_decide_eq_true z_b | replace z_b := of_decide_eq_false z_b | skip) <;> (first | contradiction | (revert z_b; intros))) | ((apply q_alli) <;> (intro _ _ _ _; try contradiction)) | ((apply q_allv); intro _ _ _)) | apply callC_any | apply forceV_any | apply forceL_any)); all_goals (conv => whnf); all_goals (try with_reducible apply At.mk)))
  apply q_callv
  focus (exact byNext)
  focus (exact byLo)
  focus exact checkTable_w (m := m) (by (exact byOm)) (hT.same (by (exact bySame)) (Nat.le_refl _)) hv
  intro h1 q1 hn1
  (focus ((try with_reducible apply wpC.to); (repeat' ((conv => whnf); first | ((apply Start.mk); (focus exact byNext); (focus exact byLen)) | ((apply New.mk); (focus exact byNid)) | ((apply Need.mk); (focus exact byNeed)) | ((apply Fork.mk) <;> (intro _; try (exfalso; omega; done))) | ((apply Load1.mk); (focus exact byMem); (focus exact byVal)) | ((apply LoadN.mk); (focus exact byMem); (focus exact byList)) | ((with_reducible apply Ix.pred); (focus first | assumption | exact fun _ => rfl); (focus omega); (focus omega)) | ((apply q_call); (focus exact byNext); (focus exact byLo); (focus (exact is_w)); first | ((apply q_allB) <;> (intro z_b _ _ _; first | exact Bool.noConfusion z_b | replace z_b := of_decide_eq_true z_b | replace z_b := of_decide_eq_false z_b | skip) <;> (first | contradiction | (revert z_b; intros))) | ((apply q_alli) <;> (intro _ _ _ _; try contradiction)) | ((apply q_allv); intro _ _ _)) | apply callC_any | apply forceV_any | apply forceL_any)); all_goals (conv => whnf); all_goals (try with_reducible apply At.mk)))
  apply q_call
  focus (exact byNext)
  focus (exact byLo)
  focus exact newNet_w (m := m) (by (exact byOm)) (hT.same (by (exact bySame)) (Nat.le_refl _)) hv
  rintro _ h3 ⟨r, e, rfl, hr1, hr2, hr3⟩ q3 hn3
  try simp only [put_next, bump_next] at hr1 hr2
  (focus ((try with_reducible apply wpC.to); (repeat' ((conv => whnf); first | ((apply Start.mk); (focus exact byNext); (focus exact byLen)) | ((apply New.mk); (focus exact byNid)) | ((apply Need.mk); (focus exact byNeed)) | ((apply Fork.mk) <;> (intro _; try (exfalso; omega; done))) | ((apply Load1.mk); (focus exact byMem); (focus exact byVal)) | ((apply LoadN.mk); (focus exact byMem); (focus exact byList)) | ((with_reducible apply Ix.pred); (focus first | assumption | exact fun _ => rfl); (focus omega); (focus omega)) | ((apply q_call); (focus exact byNext); (focus exact byLo); (focus (exact is_w)); first | ((apply q_allB) <;> (intro z_b _ _ _; first | exact Bool.noConfusion z_b | replace z_b := of_decide_eq_true z_b | replace z_b := of_decide_eq_false z_b | skip) <;> (first | contradiction | (revert z_b; intros))) | ((apply q_alli) <;> (intro _ _ _ _; try contradiction)) | ((apply q_allv); intro _ _ _)) | apply callC_any | apply forceV_any | apply forceL_any)); all_goals (conv => whnf); all_goals (try with_reducible apply At.mk)))
  apply q_call
  focus (exact byNext)
  focus (exact byLo)
  focus exact heights_w (B := netOf T.toTable) (e := e) hv (by (exact byOm)) (lim_net hok) (by (exact byGet))
  rintro _ h4 ⟨hr, rfl, -⟩ q4 hn4
  by_cases ha : (AgreeS.found (netOf T.toTable) T.toTable.many 0).last < 0
  · rw [decide_eq_true ha]
    have ha := (agrees_iff hok).1 ha
    (focus ((try with_reducible apply wpC.to); (repeat' ((conv => whnf); first | ((apply Start.mk); (focus exact byNext); (focus exact byLen)) | ((apply New.mk); (focus exact byNid)) | ((apply Need.mk); (focus exact byNeed)) | ((apply Fork.mk) <;> (intro _; try (exfalso; omega; done))) | ((apply Load1.mk); (focus exact byMem); (focus exact byVal)) | ((apply LoadN.mk); (focus exact byMem); (focus exact byList)) | ((with_reducible apply Ix.pred); (focus first | assumption | exact fun _ => rfl); (focus omega); (focus omega)) | ((apply q_call); (focus exact byNext); (focus exact byLo); (focus (exact is_w)); first | ((apply q_allB) <;> (intro z_b _ _ _; first | exact Bool.noConfusion z_b | replace z_b := of_decide_eq_true z_b | replace z_b := of_decide_eq_false z_b | skip) <;> (first | contradiction | (revert z_b; intros))) | ((apply q_alli) <;> (intro _ _ _ _; try contradiction)) | ((apply q_allv); intro _ _ _)) | apply callC_any | apply forceV_any | apply forceL_any)); all_goals (conv => whnf); all_goals (try with_reducible apply At.mk)))
    (first | (apply fin1; (focus first | exact .inl rfl | exact .inr rfl); focus exact byR1) | (apply fin2; (focus first | exact .inl rfl | exact .inr rfl); (focus exact byR1); (focus exact byR1)) | (apply fin3; (focus first | exact .inl rfl | exact .inr rfl); (focus exact byR1); (focus exact byR1); (focus exact byR1)) | (apply fin0; (focus first | exact .inl rfl | exact .inr rfl)))
    exact ⟨⟨0, fun _ => 0, none, ⟨0, 0, none⟩, 0⟩, by unfold oErr; rw [if_pos ha]; rfl, ⟨by unfold oddL; rw [if_pos ha]; rfl, fun i hi => absurd hi (Nat.not_lt_zero i)⟩, ⟨fun h => absurd h (Nat.not_lt_zero _), fun i hi => absurd hi (Nat.not_lt_zero i), fun h => absurd h (Nat.not_lt_zero _), Nat.zero_le _⟩, fun h => absurd h (Nat.not_lt_zero _)⟩
  rw [decide_eq_false ha]
  have ha : ¬ Agrees T.toTable := fun h => ha ((agrees_iff hok).2 h)
  have ht := hv.t1
  have ht2 := hv.t2
  (focus ((try with_reducible apply wpC.to); (repeat' ((conv => whnf); first | ((apply Start.mk); (focus exact byNext); (focus exact byLen)) | ((apply New.mk); (focus exact byNid)) | ((apply Need.mk); (focus exact byNeed)) | ((apply Fork.mk) <;> (intro _; try (exfalso; omega; done))) | ((apply Load1.mk); (focus exact byMem); (focus exact byVal)) | ((apply LoadN.mk); (focus exact byMem); (focus exact byList)) | ((with_reducible apply Ix.pred); (focus first | assumption | exact fun _ => rfl); (focus omega); (focus omega)) | ((apply q_call); (focus exact byNext); (focus exact byLo); (focus (exact is_w)); first | ((apply q_allB) <;> (intro z_b _ _ _; first | exact Bool.noConfusion z_b | replace z_b := of_decide_eq_true z_b | replace z_b := of_decide_eq_false z_b | skip) <;> (first | contradiction | (revert z_b; intros))) | ((apply q_alli) <;> (intro _ _ _ _; try contradiction)) | ((apply q_allv); intro _ _ _)) | apply callC_any | apply forceV_any | apply forceL_any)); all_goals (conv => whnf); all_goals (try with_reducible apply At.mk)))
  refine wp_loop (fun s : Nat × Option Addr => [(1, .pointer (some ⟨h.next, 0, none⟩)), (7, .func (.func 38) ⟨[]⟩ ⟨[.pointer (some ⟨h.next, 0, none⟩)]⟩), (8, .slice s.2 (oddTo T.toTable s.1).length 0), (26, .int .i64 T.tanks), (27, .int .i64 s.1)])
    (fun s h5 => Same h.next h h5 ∧ h.next + 1 ≤ h5.next ∧ (s.1 : Int) ≤ T.tanks ∧ h5.get h.next = some (.cells T.cells 26) ∧ Grown (h.next + 1) h5.next h5 3 1 (oddTo T.toTable s.1).length (cellsOf natC (oddTo T.toTable s.1)) s.2) (fun s => T.tanks.toNat - s.1) (0, none)
    ⟨rfl, rfl, rfl, rfl, rfl, trivial⟩ ⟨by (exact bySame), by (exact byOm), by simp only; omega, by (exact byGet), Grown.nil⟩ ?_
  rintro ⟨s, v⟩ g h5 ⟨sm, hn5, hs, g1, G⟩ K hK
  simp only at hs G hK
  have hT5 : T.Ok m h5 := hT.same (sm.mono hm) (Nat.le_refl _)
  have hol := oddTo_le T.toTable s
  obtain ⟨hy, hno⟩ := oddTo_succ T.toTable s
  (focus ((try with_reducible apply wpC.to); (repeat' ((conv => whnf); first | ((apply Start.mk); (focus exact byNext); (focus exact byLen)) | ((apply New.mk); (focus exact byNid)) | ((apply Need.mk); (focus exact byNeed)) | ((apply Fork.mk) <;> (intro _; try (exfalso; omega; done))) | ((apply Load1.mk); (focus exact byMem); (focus exact byVal)) | ((apply LoadN.mk); (focus exact byMem); (focus exact byList)) | ((with_reducible apply Ix.pred); (focus first | assumption | exact fun _ => rfl); (focus omega); (focus omega)) | ((apply q_call); (focus exact byNext); (focus exact byLo); (focus (exact is_w)); first | ((apply q_allB) <;> (intro z_b _ _ _; first | exact Bool.noConfusion z_b | replace z_b := of_decide_eq_true z_b | replace z_b := of_decide_eq_false z_b | skip) <;> (first | contradiction | (revert z_b; intros))) | ((apply q_alli) <;> (intro _ _ _ _; try contradiction)) | ((apply q_allv); intro _ _ _)) | apply callC_any | apply forceV_any | apply forceL_any)); all_goals (conv => whnf); all_goals (try with_reducible apply At.mk)))
  · apply q_call
    focus (exact byNext)
    focus (exact byLo)
    focus exact odd1_w (m := m) (k := s) (by (exact byOm)) (hT5.same (by (exact bySame)) (Nat.le_refl _)) hv (by (exact byOm)) (by (exact byGet))
    rintro _ h6 ⟨T', rfl, hw, hT', hb⟩ q6 hn6
    have hv' := hv.wo hw
    have hok' := hv'.ok
    have htab := wo_table hv hw
    (focus ((try with_reducible apply wpC.to); (repeat' ((conv => whnf); first | ((apply Start.mk); (focus exact byNext); (focus exact byLen)) | ((apply New.mk); (focus exact byNid)) | ((apply Need.mk); (focus exact byNeed)) | ((apply Fork.mk) <;> (intro _; try (exfalso; omega; done))) | ((apply Load1.mk); (focus exact byMem); (focus exact byVal)) | ((apply LoadN.mk); (focus exact byMem); (focus exact byList)) | ((with_reducible apply Ix.pred); (focus first | assumption | exact fun _ => rfl); (focus omega); (focus omega)) | ((apply q_call); (focus exact byNext); (focus exact byLo); (focus (exact is_w)); first | ((apply q_allB) <;> (intro z_b _ _ _; first | exact Bool.noConfusion z_b | replace z_b := of_decide_eq_true z_b | replace z_b := of_decide_eq_false z_b | skip) <;> (first | contradiction | (revert z_b; intros))) | ((apply q_alli) <;> (intro _ _ _ _; try contradiction)) | ((apply q_allv); intro _ _ _)) | apply callC_any | apply forceV_any | apply forceL_any)); all_goals (conv => whnf); all_goals (try with_reducible apply At.mk)))
    apply q_call
    focus (exact byNext)
    focus (exact byLo)
    focus exact newNet_w (m := h6.next) (by (exact byOm)) (hT'.same (by (exact bySame)) (Nat.le_refl _)) hv'
    rintro _ h7 ⟨r', e', rfl, hr1', hr2', hr3'⟩ q7 hn7
    (focus ((try with_reducible apply wpC.to); (repeat' ((conv => whnf); first | ((apply Start.mk); (focus exact byNext); (focus exact byLen)) | ((apply New.mk); (focus exact byNid)) | ((apply Need.mk); (focus exact byNeed)) | ((apply Fork.mk) <;> (intro _; try (exfalso; omega; done))) | ((apply Load1.mk); (focus exact byMem); (focus exact byVal)) | ((apply LoadN.mk); (focus exact byMem); (focus exact byList)) | ((with_reducible apply Ix.pred); (focus first | assumption | exact fun _ => rfl); (focus omega); (focus omega)) | ((apply q_call); (focus exact byNext); (focus exact byLo); (focus (exact is_w)); first | ((apply q_allB) <;> (intro z_b _ _ _; first | exact Bool.noConfusion z_b | replace z_b := of_decide_eq_true z_b | replace z_b := of_decide_eq_false z_b | skip) <;> (first | contradiction | (revert z_b; intros))) | ((apply q_alli) <;> (intro _ _ _ _; try contradiction)) | ((apply q_allv); intro _ _ _)) | apply callC_any | apply forceV_any | apply forceL_any)); all_goals (conv => whnf); all_goals (try with_reducible apply At.mk)))
    apply q_call
    focus (exact byNext)
    focus (exact byLo)
    focus exact heights_w (B := netOf T'.toTable) (e := e') hv' (by (exact byOm)) (lim_net hok') (by (exact byGet))
    rintro _ h8 ⟨hr8, rfl, -⟩ q8 hn8
    by_cases ha8 : (AgreeS.found (netOf T'.toTable) T'.toTable.many 0).last < 0
    · rw [decide_eq_true ha8]
      have hk := (agrees_iff hok').1 ha8
      rw [htab] at hk
      have hod := hy hk
      (focus ((try with_reducible apply wpC.to); (repeat' ((conv => whnf); first | ((apply Start.mk); (focus exact byNext); (focus exact byLen)) | ((apply New.mk); (focus exact byNid)) | ((apply Need.mk); (focus exact byNeed)) | ((apply Fork.mk) <;> (intro _; try (exfalso; omega; done))) | ((apply Load1.mk); (focus exact byMem); (focus exact byVal)) | ((apply LoadN.mk); (focus exact byMem); (focus exact byList)) | ((with_reducible apply Ix.pred); (focus first | assumption | exact fun _ => rfl); (focus omega); (focus omega)) | ((apply q_call); (focus exact byNext); (focus exact byLo); (focus (exact is_w)); first | ((apply q_allB) <;> (intro z_b _ _ _; first | exact Bool.noConfusion z_b | replace z_b := of_decide_eq_true z_b | replace z_b := of_decide_eq_false z_b | skip) <;> (first | contradiction | (revert z_b; intros))) | ((apply q_alli) <;> (intro _ _ _ _; try contradiction)) | ((apply q_allv); intro _ _ _)) | apply callC_any | apply forceV_any | apply forceL_any)); all_goals (conv => whnf); all_goals (try with_reducible apply At.mk)))
      apply q_appG (b := h.next + 1) (N := h5.next) (n := (oddTo T.toTable s).length) (m := 1) (nc := natC s)
      case hsv => exact rfl
      case G => exact G.frame (Nat.le_refl _) fun j hj1 hj2 => get_of fun y hy => by (exact byGet)
      case C => exact Cells.one (by (exact byMem)) (by unfold far; omega) rfl rfl
      case hm => omega
      case hlo => omega
      case hb => (exact byOm)
      case hN => (exact byOm)
      case hsm => omega
      intro v' j row hj1 hj2 hj3 G'
      rw [← cellsOf_add, show (oddTo T.toTable s).length + 1 = (oddTo T.toTable (s + 1)).length by rw [hod]; simp, ← hod] at G'
      have hl1 : (oddTo T.toTable s).length + 1 = (oddTo T.toTable (s + 1)).length := by rw [hod]; simp
      rw [hl1]
      (focus ((try with_reducible apply wpC.to); (repeat' ((conv => whnf); first | ((apply Start.mk); (focus exact byNext); (focus exact byLen)) | ((apply New.mk); (focus exact byNid)) | ((apply Need.mk); (focus exact byNeed)) | ((apply Fork.mk) <;> (intro _; try (exfalso; omega; done))) | ((apply Load1.mk); (focus exact byMem); (focus exact byVal)) | ((apply LoadN.mk); (focus exact byMem); (focus exact byList)) | ((with_reducible apply Ix.pred); (focus first | assumption | exact fun _ => rfl); (focus omega); (focus omega)) | ((apply q_call); (focus exact byNext); (focus exact byLo); (focus (exact is_w)); first | ((apply q_allB) <;> (intro z_b _ _ _; first | exact Bool.noConfusion z_b | replace z_b := of_decide_eq_true z_b | replace z_b := of_decide_eq_false z_b | skip) <;> (first | contradiction | (revert z_b; intros))) | ((apply q_alli) <;> (intro _ _ _ _; try contradiction)) | ((apply q_allv); intro _ _ _)) | apply callC_any | apply forceV_any | apply forceL_any)); all_goals (conv => whnf); all_goals (try with_reducible apply At.mk)))
      refine hK (s + 1, v') _ _ ⟨rfl, rfl, rfl, rfl, int_of rfl (by simp only; omega), trivial⟩ ⟨by (exact bySame), by (exact byOm), by simp only; omega, by (exact byGet), ?_⟩ (by simp only; omega)
      exact G'.frame (by (exact byOm)) fun i hi1 hi2 => get_of fun y hy => by (exact byGet)
    · rw [decide_eq_false ha8]
      have hk : ¬ Agrees (woT T.toTable s) := fun hk => ha8 ((agrees_iff hok').2 (htab ▸ hk))
      have hod := hno hk
      (focus ((try with_reducible apply wpC.to); (repeat' ((conv => whnf); first | ((apply Start.mk); (focus exact byNext); (focus exact byLen)) | ((apply New.mk); (focus exact byNid)) | ((apply Need.mk); (focus exact byNeed)) | ((apply Fork.mk) <;> (intro _; try (exfalso; omega; done))) | ((apply Load1.mk); (focus exact byMem); (focus exact byVal)) | ((apply LoadN.mk); (focus exact byMem); (focus exact byList)) | ((with_reducible apply Ix.pred); (focus first | assumption | exact fun _ => rfl); (focus omega); (focus omega)) | ((apply q_call); (focus exact byNext); (focus exact byLo); (focus (exact is_w)); first | ((apply q_allB) <;> (intro z_b _ _ _; first | exact Bool.noConfusion z_b | replace z_b := of_decide_eq_true z_b | replace z_b := of_decide_eq_false z_b | skip) <;> (first | contradiction | (revert z_b; intros))) | ((apply q_alli) <;> (intro _ _ _ _; try contradiction)) | ((apply q_allv); intro _ _ _)) | apply callC_any | apply forceV_any | apply forceL_any)); all_goals (conv => whnf); all_goals (try with_reducible apply At.mk)))
      refine hK (s + 1, v) _ _ ⟨rfl, rfl, by rw [hod]; rfl, rfl, int_of rfl (by simp only; omega), trivial⟩ ⟨by (exact bySame), by (exact byOm), by simp only; omega, by (exact byGet), ?_⟩ (by simp only; omega)
      simp only [hod]
      exact G.frame (by (exact byOm)) fun i hi1 hi2 => get_of fun y hy => by (exact byGet)
  · have : s = T.tanks.toNat := by omega
    subst this
    (first | (apply fin1; (focus first | exact .inl rfl | exact .inr rfl); focus exact byR1) | (apply fin2; (focus first | exact .inl rfl | exact .inr rfl); (focus exact byR1); (focus exact byR1)) | (apply fin3; (focus first | exact .inl rfl | exact .inr rfl); (focus exact byR1); (focus exact byR1); (focus exact byR1)) | (apply fin0; (focus first | exact .inl rfl | exact .inr rfl)))
    have hl : oddTo T.toTable T.tanks.toNat = oddL T.toTable := by unfold oddL; rw [if_neg ha]; rfl
    rw [hl] at G ⊢
    rw [cellsOf_rows natC _ 0] at G
    obtain ⟨a, ha1, hE, hb⟩ := G.els (f := fun i => natC ((oddL T.toTable).getD i 0)) (fun i => rfl)
    refine ⟨⟨(oddL T.toTable).length, fun i => ((oddL T.toTable).getD i 0 : Nat), v, a, 0⟩, by unfold oErr; rw [if_neg ha]; rfl, ⟨rfl, fun i hi => rfl⟩, ⟨ha1, fun i hi => ?_, fun h0 => ?_, ?_⟩, fun h0 => ?_⟩
    · have := hE i hi
      rw [Nat.mul_one] at this
      exact this
    · have := (hb h0).2
      show a.block < h5.next + 1 + 3
      omega
    · rw [← hl]
      show (oddTo T.toTable T.tanks.toNat).length ≤ _
      omega
    · have := hb h0
      show h.next ≤ a.block
      omega

end AE.Try
