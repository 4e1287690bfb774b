/- Walks and plain laws: SpanF, SpanEq. -/
import Derived.Test.YtkkndecbijgolaaSpanE
import Derived.Test.YtkkndecbijgolaaAEthree
set_option linter.unusedVariables false
set_option linter.unusedSimpArgs false
set_option linter.unusedSectionVars false

/- Walks of span: tables. -/
namespace AE.Try
open Go AE Go.Proofs AE.Sp
set_option maxRecDepth 100000
set_option linter.unusedVariables false

def Run.pair (x : Run) : List Value := x.cells ++ x.lower.cells ++ x.upper.cells
/-- The sides of runs, one after another. -/
def sides (f : Nat → Run) (i : Nat) : Sd := if i % 2 = 0 then (f (i / 2)).lower else (f (i / 2)).upper
theorem sides_lo (f : Nat → Run) (i : Nat) : sides f (2 * i) = (f i).lower := by
  unfold sides; rw [if_pos (by omega)]; congr 1; congr 1; omega
theorem sides_up (f : Nat → Run) (i : Nat) : sides f (2 * i + 1) = (f i).upper := by
  unfold sides; rw [if_neg (by omega)]; congr 1; congr 1; omega
/-- A table, as it lies. -/
structure Tab where
  n : Nat
  f : Nat → Run
  r : Nat
  pb : Option Addr
  pa : Addr
  sb : Option Addr
  sa : Addr
def Tab.S (T : Tab) : Nat → Sd := sides T.f
structure Tab.Ok (T : Tab) (m : Nat) (h : H) : Prop where
  g : h.get T.r = some (.cells [.slice T.pb T.n 0, .slice T.sb (2 * T.n) 0] 125)
  rr : T.r < m
  pe : 0 < T.n → T.pb = some T.pa
  pi : Els h T.pa T.n 10 (fun i => (T.f i).pair)
  pr : 0 < T.n → T.pa.block < m
  se : 0 < 2 * T.n → T.sb = some T.sa
  si : Els h T.sa (2 * T.n) 3 (fun i => (T.S i).cells)
  sr : 0 < 2 * T.n → T.sa.block < m
  le : T.n ≤ 13
  val : ∀ i, i < T.n → (T.f i).Ok
  ne : T.n = 0 → T.sb = none
theorem Tab.Ok.same {T : Tab} {m m' : Nat} {h h' : H} (k : T.Ok m h) (s : Same m h h') (hm : m ≤ m') : T.Ok m' h' :=
  ⟨(s _ k.rr).trans k.g, by have := k.rr; omega, k.pe, k.pi.same s k.pr, fun h => by have := k.pr h; omega, k.se, k.si.same s k.sr, fun h => by have := k.sr h; omega, k.le, k.val, k.ne⟩
theorem Tab.Ok.up {T : Tab} {m : Nat} {h : H} (k : T.Ok m h) {i : Nat} (hi : i < 2 * T.n) : (T.S i).Up 20 100000 := by
  unfold Tab.S sides
  split
  · exact (k.val _ (by omega)).lower
  · exact (k.val _ (by omega)).upper
theorem Tab.Ok.nz {T : Tab} {m : Nat} {h : H} (k : T.Ok m h) {i : Nat} (hi : i < 2 * T.n) : (T.S i).Nz := by
  have := (k.val (i / 2) (by omega)).nz
  unfold Tab.S sides Sd.Nz
  split
  · exact this
  · unfold Run.upper; dsimp only; omega

theorem _root_.AE.GG.none {r n sz : Nat} {h : H} {e : TypeId} {cs : List Value} {v : Option Addr} (G : GG r h e sz n cs v) (h0 : n = 0) : v = .none := by
  rcases G with ⟨-, e, -⟩ | ⟨h, -⟩
  · exact e
  · omega
theorem kSpanF0 {G G' : Prop} (g : G') (t : G' → G := by ((apply q_call); (focus exact byNext); (focus exact byLo); (focus ((apply pair_w; (focus assumption)))))) : G := t g

set_option maxHeartbeats 2000000 in
theorem newTable_w {h : H} {L : Runs} {m : Nat} (hm : m ≤ h.next) (hL : L.Ok m h) (ln : L.n ≤ 13) (lv : L.Val) : AW Try.prog 45 h.next h [.slice L.b L.n L.c] (fun v h' => ∃ T : Tab, v = .pointer (some ⟨T.r, 0, none⟩) ∧ T.n = L.n ∧ T.f = L.f ∧ T.Ok h'.next h') := by
  obtain ⟨e1, i1, r1, l1⟩ := hL
  refine fun45.call rfl (Nat.le_refl _) ?_
  unfold a45
  (focus ((try with_reducible apply wpC.to); (repeat' ((conv => whnf); first | refine byEv ?_ | (apply Fork.mk <;> (intro _; try (exfalso; omega))) | ((refine kSpanF0 ?_); first | ((first | apply q_allD | apply q_alli | apply q_allB) <;> intro _ _ _ _ <;> try contradiction) | (apply q_allv; intro _ _ _)) | refine xSpanC0 ?_ | refine xSpanB1 ?_ | refine xSpanB0 ?_ | fail)); all_goals ((conv => whnf); try with_reducible apply At.mk)))
  refine wp_loop (fun s : Nat × Option Addr × Nat × Option Addr × Nat => [(3, .pointer (some ⟨h.next + 2, 0, none⟩)), (9, .slice L.b L.n L.c), (10, .int .i64 L.n), (11, .int .i64 s.1)])
    (fun s h1 => h1.get (h.next + 2) = some (.cells [.slice s.2.1 s.1 0, .slice s.2.2.2.1 (s.1 * 2) 0] 125) ∧ Same h.next h h1 ∧ h.next + 3 ≤ h1.next ∧ s.1 ≤ L.n ∧ GG s.2.2.1 h1 100 10 s.1 (rowsOf (fun i => (L.f i).pair) s.1) s.2.1 ∧ GG s.2.2.2.2 h1 80 3 (s.1 * 2) (rowsOf (fun i => (sides L.f i).cells) (s.1 * 2)) s.2.2.2.1 ∧ (0 < s.1 → (h.next + 3 ≤ s.2.2.1 ∧ s.2.2.1 < h1.next) ∧ (h.next + 3 ≤ s.2.2.2.2 ∧ s.2.2.2.2 < h1.next) ∧ s.2.2.1 ≠ s.2.2.2.2)) (fun s => L.n - s.1) (0, none, 0, none, 0) ⟨rfl, rfl, rfl, rfl, trivial⟩ ⟨byGet, bySame, byOm, by dsimp only; omega, GG.nil, GG.nil, fun h => absurd h (by dsimp only; omega)⟩ ?_
  rintro ⟨s, v1, q1, v2, q2⟩ g h1 ⟨g1, sm, n1, hs, G1, G2, hq⟩ K hK
  dsimp only at g1 hs G1 G2 hq ⊢
  have i5 := i1.same (sm.mono hm) r1
  by_cases hsn : s < L.n
  · have x5 := r1 (by omega)
    have ok := lv s hsn
    unfold Run.cells at i5
    (focus ((try with_reducible apply wpC.to); (repeat' ((conv => whnf); first | refine byEv ?_ | (apply Fork.mk <;> (intro _; try (exfalso; omega))) | ((refine kSpanF0 ?_); first | ((first | apply q_allD | apply q_alli | apply q_allB) <;> intro _ _ _ _ <;> try contradiction) | (apply q_allv; intro _ _ _)) | refine xSpanC0 ?_ | refine xSpanB1 ?_ | refine xSpanB0 ?_ | fail)); all_goals ((conv => whnf); try with_reducible apply At.mk)))
    apply q_appGG (r := q1) (n := s) (m := 1) (cs := rowsOf (fun i => (L.f i).pair) s) (nc := (L.f s).pair)
    case G => exact G1.frame fun h0 => get_of fun y hy => by have := hq h0; (exact byGet)
    case hsv => exact rfl
    case C => exact Cells.one (by unfold Run.pair Run.cells; (exact byMem)) (by unfold far; omega) rfl rfl
    case hm => omega
    case hlo => (exact byOm)
    case hlr => exact fun h0 => by have := hq h0; (exact byOm)
    case hsm => omega
    intro v1' q1' row1 a1 a2 a3 G1'
    have c4 : (0 < s ∧ q1' = q1 ∧ q1 < h1.next) ∨ (s = 0 ∧ h1.next + 16 ≤ q1') := by
      rcases Nat.eq_zero_or_pos s with h0 | h0
      · have := a1 h0; exact .inr ⟨h0, byOm⟩
      · have := a2 h0; have := hq h0; exact .inl ⟨h0, by omega, by omega⟩
    have c3 : h.next + 3 ≤ q1' := by
      rcases c4 with c4 | c4
      · have := hq c4.1; omega
      · omega
    (focus ((try with_reducible apply wpC.to); (repeat' ((conv => whnf); first | refine byEv ?_ | (apply Fork.mk <;> (intro _; try (exfalso; omega))) | ((refine kSpanF0 ?_); first | ((first | apply q_allD | apply q_alli | apply q_allB) <;> intro _ _ _ _ <;> try contradiction) | (apply q_allv; intro _ _ _)) | refine xSpanC0 ?_ | refine xSpanB1 ?_ | refine xSpanB0 ?_ | fail)); all_goals ((conv => whnf); try with_reducible apply At.mk)))
    apply q_appGG (r := q2) (n := s * 2) (m := 2) (cs := rowsOf (fun i => (sides L.f i).cells) (s * 2)) (nc := (L.f s).lower.cells ++ (L.f s).upper.cells)
    case G => exact G2.frame fun h0 => get_of fun y hy => by have := hq (by omega); (exact byGet)
    case hsv => exact rfl
    case C => exact ⟨rfl, fun _ => loadN_cells byGet rfl, rfl, rfl⟩
    case hm => omega
    case hlo => (exact byOm)
    case hlr => exact fun h0 => by have := hq (by omega); (exact byOm)
    case hsm => omega
    intro v2' q2' row2 d1 d2 d3 G2'
    have d4 : (0 < s ∧ q2' = q2 ∧ q2 < h1.next) ∨ (s = 0 ∧ q1' < q2' ∧ h1.next + 16 ≤ q2') := by
      rcases Nat.eq_zero_or_pos s with h0 | h0
      · have := d1 (by omega); have := a1 h0; exact .inr ⟨h0, byOm, byOm⟩
      · have := d2 (by omega); have := hq h0; exact .inl ⟨h0, by omega, by omega⟩
    have e3 : rowsOf (fun i => (sides L.f i).cells) (s * 2) ++ ((L.f s).lower.cells ++ (L.f s).upper.cells) = rowsOf (fun i => (sides L.f i).cells) (s * 2 + 2) := by
      show _ = (rowsOf (fun i => (sides L.f i).cells) (s * 2) ++ (sides L.f (s * 2)).cells) ++ (sides L.f (s * 2 + 1)).cells
      rw [List.append_assoc, Nat.mul_comm s 2, sides_lo, sides_up]
    rw [e3] at G2'
    have hq' := hq
    (focus ((try with_reducible apply wpC.to); (repeat' ((conv => whnf); first | refine byEv ?_ | (apply Fork.mk <;> (intro _; try (exfalso; omega))) | ((refine kSpanF0 ?_); first | ((first | apply q_allD | apply q_alli | apply q_allB) <;> intro _ _ _ _ <;> try contradiction) | (apply q_allv; intro _ _ _)) | refine xSpanC0 ?_ | refine xSpanB1 ?_ | refine xSpanB0 ?_ | fail)); all_goals ((conv => whnf); try with_reducible apply At.mk)))
    refine hK (s + 1, v1', q1', v2', q2') _ _ ⟨rfl, rfl, rfl, int_of rfl (by dsimp only; omega), trivial⟩ ⟨?_, bySame, byOm, by dsimp only; omega, G1'.frame fun h0 => get_of fun y hy => byGet, ?_, fun h0 => ?_⟩ (by dsimp only; omega)
    · have e4 : (s + 1) * 2 = s * 2 + 2 := by omega
      dsimp only
      rw [e4]
      (exact byGet)
    · have e4 : (s + 1) * 2 = s * 2 + 2 := by omega
      dsimp only
      rw [e4]
      exact G2'.frame fun h0 => get_of fun y hy => by (exact byGet)
    · dsimp only
      rcases c4 with c4 | c4 <;> rcases d4 with d4 | d4
      · have := hq c4.1; exact ⟨byOm, byOm, byOm⟩
      · omega
      · omega
      · exact ⟨byOm, byOm, byOm⟩
  · obtain rfl : s = L.n := by omega
    obtain ⟨a1, b1, b2, b3⟩ := G1.els (fun i => rfl)
    obtain ⟨a2, c1, c2, c3⟩ := G2.els (fun i => rfl)
    (focus ((try with_reducible apply wpC.to); (repeat' ((conv => whnf); first | refine byEv ?_ | (apply Fork.mk <;> (intro _; try (exfalso; omega))) | ((refine kSpanF0 ?_); first | ((first | apply q_allD | apply q_alli | apply q_allB) <;> intro _ _ _ _ <;> try contradiction) | (apply q_allv; intro _ _ _)) | refine xSpanC0 ?_ | refine xSpanB1 ?_ | refine xSpanB0 ?_ | fail)); all_goals ((conv => whnf); try with_reducible apply At.mk)))
    (refine byFin ?_)
    have e2 : L.n * 2 = 2 * L.n := by omega
    rw [e2] at g1 c1 c2 c3
    refine ⟨⟨L.n, L.f, h.next + 2, v1, a1, v2, a2⟩, rfl, rfl, rfl, ⟨byGet, by dsimp only; (exact byOm), b1, ?_, fun h0 => ?_, c1, ?_, fun h0 => ?_, ln, lv, fun h0 => G2.none (by dsimp only at h0; omega)⟩⟩
    · exact fun i hi => by have := b2 i hi; exact this
    · have := b3 h0; have := hq h0; dsimp only; (exact byOm)
    · exact fun i hi => by have := c2 i hi; exact this
    · have := c3 h0; have := hq (by dsimp only at h0; omega); dsimp only; (exact byOm)
end AE.Try

/- Comparisons of sides, fractions and truths. -/
namespace AE.Try
open Go AE Go.Proofs AE.Sp
set_option maxRecDepth 100000
set_option linter.unusedVariables false

theorem PartOf.one {P : Program} {e : TypeId} {cs : List Value} {off : Nat} {v : Value} (h1 : isAggT P e = some false) (h2 : cs[off]? = some v) : PartOf P e false cs off [v] := ⟨h1, by rw [if_neg (by simp)]; exact ⟨v, h2, rfl⟩⟩
theorem PartOf.agg {P : Program} {e : TypeId} {s : Nat} {cs x : List Value} {off : Nat} (h1 : isAggT P e = some true) (h2 : sizeT P e = some s) (h3 : cut cs off s = some x) : PartOf P e true cs off x := ⟨h1, by rw [if_pos rfl]; exact ⟨s, h2, h3⟩⟩
theorem fr_eqc (x y : Fr) : EqC Try.prog 2 38 true x.cells y.cells (x.n == y.n && (x.d == y.d && true)) := by
  refine EqC.struct (fs := ?fs) ?ht ?hs ?h
  case ht => exact Try.underlying38
  case hs => kernel_rfl
  refine EqFs.cons (agg := false) (x := [.int .i64 x.n]) (y := [.int .i64 y.n]) (by decide) (PartOf.one rfl rfl) (PartOf.one rfl rfl) (EqC.int rfl) ?_
  exact EqFs.cons (agg := false) (x := [.int .i64 x.d]) (y := [.int .i64 y.d]) (by decide) (PartOf.one rfl rfl) (PartOf.one rfl rfl) (EqC.int rfl) EqFs.nil
def sdc (s : Sd) (i : Nat) : Int := match i with | 0 => s.u | 1 => s.v | _ => s.w
theorem sd_eqc (x y : Sd) : EqC Try.prog 2 80 true x.cells y.cells (allB (fun i => sdc x i == sdc y i) 3) := by
  have part : ∀ (z : Sd) (i : Nat), i < 3 → PartOf Try.prog 2 false z.cells (i * 1) [.int .i64 (sdc z i)] := fun z i hi => by
    obtain rfl | rfl | rfl : i = 0 ∨ i = 1 ∨ i = 2 := by omega
    · exact PartOf.one rfl rfl
    · exact PartOf.one rfl rfl
    · exact PartOf.one rfl rfl
  refine EqC.arr (e := 2) (s := 1) (agg := false) (x := fun i => [.int .i64 (sdc x i)]) (y := fun i => [.int .i64 (sdc y i)]) ?ht ?hs (part x) (part y) (fun i hi => EqC.int rfl)
  case ht => exact Try.underlying80
  case hs => kernel_rfl
theorem eql_fr (x y : Fr) : pureRun Try.prog (Op.equalIn Op.maxDepth 38 (.agg ⟨x.cells⟩) (.agg ⟨y.cells⟩)) = some (decide (x = y)) := by
  have := (fr_eqc x y).run 2 Op.maxDepth (by decide)
  rw [show (.agg ⟨x.cells⟩ : Value) = asVal true x.cells from rfl, show (.agg ⟨y.cells⟩ : Value) = asVal true y.cells from rfl, this]
  congr 1
  rw [Bool.eq_iff_iff]
  simp only [Bool.and_eq_true, beq_iff_eq, and_true, decide_eq_true_eq]
  exact ⟨fun h => Fr.ext' h.1 h.2, fun h => h ▸ ⟨rfl, rfl⟩⟩
theorem eql_sd (x y : Sd) : pureRun Try.prog (Op.equalIn Op.maxDepth 80 (.agg ⟨x.cells⟩) (.agg ⟨y.cells⟩)) = some (decide (x.u = y.u ∧ x.v = y.v ∧ x.w = y.w)) := by
  have := (sd_eqc x y).run 2 Op.maxDepth (by decide)
  rw [show (.agg ⟨x.cells⟩ : Value) = asVal true x.cells from rfl, show (.agg ⟨y.cells⟩ : Value) = asVal true y.cells from rfl, this]
  congr 1
  rw [Bool.eq_iff_iff]
  simp [allB, List.range_succ, sdc]
end AE.Try
