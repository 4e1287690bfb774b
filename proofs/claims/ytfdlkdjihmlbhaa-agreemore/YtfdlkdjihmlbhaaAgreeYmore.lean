/- Walks of agree: a test more, or a narrower one. -/
import Derived.Test.YtfdlkdjihmlbhaaAgreeXm
import Derived.Test.YtfdlkdjihmlbhaaAgreeV
import Derived.Test.YtfdlkdjihmlbhaaAgreeFit
set_option linter.unusedVariables false
set_option linter.unusedSimpArgs false
set_option linter.unusedSectionVars false
namespace AE.Try
set_option linter.unusedSimpArgs false
set_option linter.unusedVariables false
open Go AE AE.Ag AE.AgreeIn AgreeS Go.Proofs
set_option maxRecDepth 100000

/-- A table with the tests of another one, or narrower ones, and perhaps more. -/
structure Tab.Less (T X : Tab) : Prop where
  tanks : X.tanks = T.tanks
  hulls : X.hulls = T.hulls
  blo : X.blo = T.blo
  bhi : X.bhi = T.bhi
  sub : ∀ i, i < T.n → ∃ j, j < X.n ∧ (X.f j).tank = (T.f i).tank ∧ (X.f j).hull = (T.f i).hull ∧ (T.f i).lo ≤ (X.f j).lo ∧ (X.f j).hi ≤ (T.f i).hi
theorem mem_tests {T : Tab} {y : Test} : y ∈ T.toTable.tests ↔ ∃ i, i < T.n ∧ (T.f i).toTest = y := by simp [Tab.toTable]
theorem Tab.Less.fits {T X : Tab} (k : T.Less X) {b x : Nat → Int} (f : AgreeS.Fits X.toTable b x) : AgreeS.Fits T.toTable b x := by
  refine ⟨fun i hi => ?_, fun y hy => ?_⟩
  · have := f.bias i (by simp only [Tab.toTable, k.tanks] at hi ⊢; exact hi)
    simp only [Tab.toTable, k.blo, k.bhi] at this ⊢
    exact this
  · obtain ⟨i, hi, rfl⟩ := mem_tests.1 hy
    obtain ⟨j, hj, e1, e2, e3, e4⟩ := k.sub i hi
    have := f.test (X.f j).toTest (mem_tests.2 ⟨j, hj, rfl⟩)
    simp only [RTest.toTest, e1, e2] at this ⊢
    omega
theorem Tab.Less.tested {T X : Tab} (k : T.Less X) {j : Nat} (h : Tested T.toTable j) : Tested X.toTable j := by
  obtain ⟨y, hy, rfl⟩ := h
  obtain ⟨i, hi, rfl⟩ := mem_tests.1 hy
  obtain ⟨j, hj, e1, e2, -⟩ := k.sub i hi
  exact ⟨(X.f j).toTest, mem_tests.2 ⟨j, hj, rfl⟩, by simp only [RTest.toTest, e2]⟩
theorem Tab.Less.facts {T X : Tab} (k : T.Less X) (hv : T.Valid) (hx : X.Valid) (i j : Nat) :
    (sErr T.toTable i = 20 → sErr X.toTable i = 20 ∧ bErr T.toTable i j = 20 ∧ bErr X.toTable i j = 20) ∧ (sErr T.toTable i = 0 → sErr X.toTable i ≠ 20 → sErr X.toTable i = 0 ∧ sLo T.toTable i ≤ sLo X.toTable i ∧ sHi X.toTable i ≤ sHi T.toTable i ∧ sLo X.toTable i ≤ sHi X.toTable i) ∧
      (bErr T.toTable i j = 0 → bErr X.toTable i j ≠ 20 → bErr X.toTable i j = 0 ∧ bLo T.toTable i j ≤ bLo X.toTable i j ∧ bHi X.toTable i j ≤ bHi T.toTable i j ∧ bLo X.toTable i j ≤ bHi X.toTable i j) :=
  more_facts hv.ok hx.ok (fun _ _ f => k.fits f) (fun _ h => k.tested h) i j

/-- The table with one test more. -/
def Tab.plus (T : Tab) (x : RTest) (v : Option Addr) (a : Addr) : Tab := ⟨T.tanks, T.hulls, T.blo, T.bhi, T.n + 1, fun i => if i < T.n then T.f i else x, v, a, 0⟩
theorem Tab.plus_less (T : Tab) (x : RTest) (v : Option Addr) (a : Addr) : T.Less (T.plus x v a) :=
  ⟨rfl, rfl, rfl, rfl, fun i hi => ⟨i, by show i < T.n + 1; omega, by simp only [Tab.plus, if_pos hi], by simp only [Tab.plus, if_pos hi], by simp only [Tab.plus, if_pos hi]; omega, by simp only [Tab.plus, if_pos hi]; omega⟩⟩
/-- A narrower test. -/
def narrow (r : RTest) (p q : Int) : RTest := ⟨r.tank, r.hull, min r.hi (r.lo + p), max (min r.hi (r.lo + p)) (r.hi - q)⟩
def Tab.narrowed (T : Tab) (k : Nat) (p q : Int) (v : Option Addr) (a : Addr) : Tab := ⟨T.tanks, T.hulls, T.blo, T.bhi, T.n, fun i => if i = k then narrow (T.f k) p q else T.f i, v, a, 0⟩
theorem Tab.narrowed_less {T : Tab} (hv : T.Valid) {k : Nat} {p q : Int} (hp : 0 ≤ p) (hq : 0 ≤ q) (v : Option Addr) (a : Addr) : T.Less (T.narrowed k p q v a) :=
  ⟨rfl, rfl, rfl, rfl, fun i hi => ⟨i, hi, by
    have := hv.f i hi
    unfold isR at this
    by_cases e : i = k
    · subst e; simp only [Tab.narrowed, if_true, narrow]; refine ⟨trivial, trivial, by omega, by omega⟩
    · simp only [Tab.narrowed, if_neg e]; refine ⟨trivial, trivial, by omega, by omega⟩⟩⟩
theorem Tab.narrowed_valid {T : Tab} (hv : T.Valid) {k : Nat} {p q : Int} (hp : 0 ≤ p) (hq : 0 ≤ q) (v : Option Addr) (a : Addr) : (T.narrowed k p q v a).Valid := by
  refine ⟨hv.n, hv.t1, hv.t2, hv.h1, hv.h2, hv.b, fun i hi => ?_⟩
  have := hv.f i hi
  unfold isR at this ⊢
  by_cases e : i = k
  · subst e; simp only [Tab.narrowed, if_true, narrow]; omega
  · simp only [Tab.narrowed, if_neg e]; omega
/-- A table without tests. -/
def Tab.bare (T : Tab) (v : Option Addr) (a : Addr) : Tab := ⟨T.tanks, T.hulls, T.blo, T.bhi, 0, T.f, v, a, 0⟩

theorem plus_ok {T : Tab} {x : RTest} {b N : Nat} {h : H} {v : Option Addr} (G : Grown b N h 42 4 (T.n + 1) (rowsOf (fun i => (T.f i).cells) T.n ++ x.cells) v) (hn : T.n ≤ 1000) : ∃ a, (T.plus x v a).Ok N h ∧ b ≤ a.block ∧ a.block < N := by
  have e : rowsOf (fun i => (T.f i).cells) T.n ++ x.cells = rowsOf (fun i => (if i < T.n then T.f i else x).cells) (T.n + 1) := by
    show _ = rowsOf (fun i => (if i < T.n then T.f i else x).cells) T.n ++ (if T.n < T.n then T.f T.n else x).cells
    rw [if_neg (by omega), rowsOf_congr (g := fun i => (if i < T.n then T.f i else x).cells) T.n fun i hi => by rw [if_pos hi]]
  rw [e] at G
  obtain ⟨a, ha, hE, hb⟩ := G.els (f := fun i => (if i < T.n then T.f i else x).cells) (fun i => rfl)
  have hb := hb (by omega)
  exact ⟨a, ⟨ha, hE, fun _ => hb.2, by show T.n + 1 ≤ _; omega⟩, hb⟩
theorem narrow_rows {T : Tab} {k : Nat} {p q : Int} (hk : k < T.n) : splice (rowsOf (fun i => (T.f i).cells) T.n) (k * 4 + 2) [.int .i64 (min (T.f k).hi ((T.f k).lo + p)), .int .i64 (max (min (T.f k).hi ((T.f k).lo + p)) ((T.f k).hi - q))] = rowsOf (fun i => (if i = k then narrow (T.f k) p q else T.f i).cells) T.n := by
  have hc : cut (rowsOf (fun i => (T.f i).cells) T.n) (k * 4) 4 = some (T.f k).cells := by
    have := cut_rowsOf (g := fun i => (T.f i).cells) (w := 4) (fun _ => rfl) hk [] [] (a := k * 4) (by simp)
    simpa using this
  rw [splice_splice hc (by simp)]
  have := splice_rowsOf (g := fun i => (T.f i).cells) (w := 4) (fun _ => rfl) hk [] [] (splice (T.f k).cells 2 [.int .i64 (min (T.f k).hi ((T.f k).lo + p)), .int .i64 (max (min (T.f k).hi ((T.f k).lo + p)) ((T.f k).hi - q))]) rfl (a := k * 4) (by simp)
  simp only [List.nil_append, List.append_nil] at this
  rw [this]
  refine rowsOf_congr T.n fun i hi => ?_
  unfold updL
  by_cases e : i = k
  · subst e; rw [if_pos rfl, if_pos rfl]; rfl
  · rw [if_neg e, if_neg e]
theorem narrowed_ok {T : Tab} {k r N : Nat} {p q : Int} {h : H} {a : Addr} (G : GAt r h 42 4 T.n (rowsOf (fun i => (if i = k then narrow (T.f k) p q else T.f i).cells) T.n) (some a)) (hr : r < N) (h0 : 0 < T.n) (hn : T.n ≤ 1000) : (T.narrowed k p q (some a) a).Ok N h := by
  obtain ⟨a', ha, hE, hb⟩ := (G.grown (b := 0) (N := N) (Nat.zero_le _) hr).els (f := fun i => (if i = k then narrow (T.f k) p q else T.f i).cells) (fun i => rfl)
  have ha := ha h0
  have hb := hb h0
  simp only [Option.some.injEq] at ha
  subst ha
  exact ⟨fun _ => rfl, hE, fun _ => hb.2, by show T.n ≤ _; omega⟩
theorem gat_els {r n : Nat} {h : H} {e : TypeId} {f : Nat → List Value} {a : Addr} {sz : Nat} (G : GAt r h e sz n (rowsOf f n) (some a)) (hf : ∀ i, (f i).length = sz) : Els h a n sz f := by
  obtain ⟨a', ha, -, hld, -⟩ := G.load
  simp only [Option.some.injEq] at ha
  subst ha
  refine rows_els hf ?_
  have := hld 0 (n * sz) (rowsOf f n) (by rw [← rowsOf_len hf n]; exact cut_whole _)
  simpa [aadd] using this
theorem callF_gen {P : Program} {g lo : Nat} {q : Bool} {h : H} {fv : Value} {args xs : List Value} {k : Value → H → Prop} (f : ∀ hc, hc = h → CallF P g lo q hc fv args xs k) : CallF P g lo q h fv args xs k := f h rfl

set_option maxHeartbeats 8000000 in
theorem more_w {h : H} {T : Tab} {x : RTest} {wh : Int} {by2 at2 : Two} {m : Nat} (hm : m ≤ h.next) (hI : T.In m h) (hwh : 0 ≤ wh ∧ wh < 256) (hby : by2.Ok 65536) (h2 : at2.Ok 256) :
    AW Try.prog 4 h.next h [.agg ⟨T.cells⟩, .agg ⟨x.cells⟩, .int .u8 wh, .agg ⟨by2.cells .u16⟩, .agg ⟨at2.cells .u8⟩] (fun v _ => v = .bool true) := by
  have hT := hI.ok
  obtain ⟨ha2, hb2⟩ := h2
  obtain ⟨hp0, hq0⟩ := hby
  refine fun4.call rfl (Nat.le_refl _) ?_
  unfold a4
  (focus ((try with_reducible apply wpC.to); (repeat' ((conv => whnf); first | ((apply Start.mk); (focus exact byNext); (focus exact byLen)) | ((apply New.mk); (focus exact byNid)) | ((apply Need.mk); (focus exact byNeed)) | ((apply Fork.mk) <;> (intro _; try (exfalso; omega; done))) | ((apply Load1.mk); (focus exact byMem); (focus exact byVal)) | ((apply LoadN.mk); (focus exact byMem); (focus exact byList)) | ((apply Sto.mk); (focus exact bySto); (focus exact byLo); (focus exact byGet); (focus exact rfl); (focus exact rfl); (focus exact rfl); (focus exact byList)) | ((with_reducible apply Ix.nat); (focus exact rfl); (focus omega)) | ((with_reducible apply Ix.natp); (focus assumption); (focus omega)) | ((with_reducible apply Ix.pred); (focus first | assumption | exact fun _ => rfl); (focus omega); (focus omega)) | ((with_reducible apply Ix.lit); (focus exact byLit); (focus first | assumption | exact fun _ => rfl); (focus omega); (focus omega)) | ((with_reducible apply Ix.int); (focus exact rfl); (focus omega); (focus omega)) | ((with_reducible apply Ix.intp); (focus assumption); (focus omega); (focus omega)) | ((with_reducible apply IxA.nat); (focus omega)) | ((with_reducible apply IxA.lit); (focus exact byLit); (focus omega); (focus omega)) | ((with_reducible apply IxA.int); (focus omega); (focus omega)) | ((apply Wrap.mk); (focus exact byWrap)) | ((apply q_call); (focus exact byNext); (focus exact byLo); (focus (first | exact inside_w | exact works_w)); first | ((apply q_allB) <;> (intro z_b _ _ _; first | exact Bool.noConfusion z_b | replace z_b := of_decide_eq_true z_b | replace z_b := of_decide_eq_false z_b | skip) <;> (first | contradiction | (revert z_b; intros))) | ((apply q_alli) <;> (intro _ _ _ _; try contradiction)) | ((apply q_allv); intro _ _ _)) | apply forceV_any | apply forceL_any)); all_goals (conv => whnf); all_goals (try with_reducible apply At.mk)))
  apply q_call
  focus (exact byNext)
  focus (exact byLo)
  focus exact fine_w (T := T) (m := m) (by (exact byOm)) (hT.same (by (exact bySame)) (Nat.le_refl _))
  rintro _ h1 ⟨b, rfl, hbv⟩ q1 hn1
  cases b with
  | false =>
    (focus ((try with_reducible apply wpC.to); (repeat' ((conv => whnf); first | ((apply Start.mk); (focus exact byNext); (focus exact byLen)) | ((apply New.mk); (focus exact byNid)) | ((apply Need.mk); (focus exact byNeed)) | ((apply Fork.mk) <;> (intro _; try (exfalso; omega; done))) | ((apply Load1.mk); (focus exact byMem); (focus exact byVal)) | ((apply LoadN.mk); (focus exact byMem); (focus exact byList)) | ((apply Sto.mk); (focus exact bySto); (focus exact byLo); (focus exact byGet); (focus exact rfl); (focus exact rfl); (focus exact rfl); (focus exact byList)) | ((with_reducible apply Ix.nat); (focus exact rfl); (focus omega)) | ((with_reducible apply Ix.natp); (focus assumption); (focus omega)) | ((with_reducible apply Ix.pred); (focus first | assumption | exact fun _ => rfl); (focus omega); (focus omega)) | ((with_reducible apply Ix.lit); (focus exact byLit); (focus first | assumption | exact fun _ => rfl); (focus omega); (focus omega)) | ((with_reducible apply Ix.int); (focus exact rfl); (focus omega); (focus omega)) | ((with_reducible apply Ix.intp); (focus assumption); (focus omega); (focus omega)) | ((with_reducible apply IxA.nat); (focus omega)) | ((with_reducible apply IxA.lit); (focus exact byLit); (focus omega); (focus omega)) | ((with_reducible apply IxA.int); (focus omega); (focus omega)) | ((apply Wrap.mk); (focus exact byWrap)) | ((apply q_call); (focus exact byNext); (focus exact byLo); (focus (first | exact inside_w | exact works_w)); first | ((apply q_allB) <;> (intro z_b _ _ _; first | exact Bool.noConfusion z_b | replace z_b := of_decide_eq_true z_b | replace z_b := of_decide_eq_false z_b | skip) <;> (first | contradiction | (revert z_b; intros))) | ((apply q_alli) <;> (intro _ _ _ _; try contradiction)) | ((apply q_allv); intro _ _ _)) | apply forceV_any | apply forceL_any)); all_goals (conv => whnf); all_goals (try with_reducible apply At.mk)))
    (first | (apply fin1; (focus first | exact .inl rfl | exact .inr rfl); focus exact byR1) | (apply fin2; (focus first | exact .inl rfl | exact .inr rfl); (focus exact byR1); (focus exact byR1)) | (apply fin3; (focus first | exact .inl rfl | exact .inr rfl); (focus exact byR1); (focus exact byR1); (focus exact byR1)) | (apply fin0; (focus first | exact .inl rfl | exact .inr rfl)))
    rfl
  | true =>
  have hv := hbv.1 rfl
  have hok := hv.ok
  have hp := hv.h1
  have hn24 := hv.n
  have za := mod_hulls hv at2.a
  have zb := mod_hulls hv at2.b
  (focus ((try with_reducible apply wpC.to); (repeat' ((conv => whnf); first | ((apply Start.mk); (focus exact byNext); (focus exact byLen)) | ((apply New.mk); (focus exact byNid)) | ((apply Need.mk); (focus exact byNeed)) | ((apply Fork.mk) <;> (intro _; try (exfalso; omega; done))) | ((apply Load1.mk); (focus exact byMem); (focus exact byVal)) | ((apply LoadN.mk); (focus exact byMem); (focus exact byList)) | ((apply Sto.mk); (focus exact bySto); (focus exact byLo); (focus exact byGet); (focus exact rfl); (focus exact rfl); (focus exact rfl); (focus exact byList)) | ((with_reducible apply Ix.nat); (focus exact rfl); (focus omega)) | ((with_reducible apply Ix.natp); (focus assumption); (focus omega)) | ((with_reducible apply Ix.pred); (focus first | assumption | exact fun _ => rfl); (focus omega); (focus omega)) | ((with_reducible apply Ix.lit); (focus exact byLit); (focus first | assumption | exact fun _ => rfl); (focus omega); (focus omega)) | ((with_reducible apply Ix.int); (focus exact rfl); (focus omega); (focus omega)) | ((with_reducible apply Ix.intp); (focus assumption); (focus omega); (focus omega)) | ((with_reducible apply IxA.nat); (focus omega)) | ((with_reducible apply IxA.lit); (focus exact byLit); (focus omega); (focus omega)) | ((with_reducible apply IxA.int); (focus omega); (focus omega)) | ((apply Wrap.mk); (focus exact byWrap)) | ((apply q_call); (focus exact byNext); (focus exact byLo); (focus (first | exact inside_w | exact works_w)); first | ((apply q_allB) <;> (intro z_b _ _ _; first | exact Bool.noConfusion z_b | replace z_b := of_decide_eq_true z_b | replace z_b := of_decide_eq_false z_b | skip) <;> (first | contradiction | (revert z_b; intros))) | ((apply q_alli) <;> (intro _ _ _ _; try contradiction)) | ((apply q_allv); intro _ _ _)) | apply forceV_any | apply forceL_any)); all_goals (conv => whnf); all_goals (try with_reducible apply At.mk)))
  generalize at2.a % T.hulls = A at za ⊢
  generalize at2.b % T.hulls = B at zb ⊢
  obtain ⟨te, ti, tr, tl⟩ := hT
  have hT : T.Ok m h := ⟨te, ti, tr, tl⟩
  have hTf : ∀ h' : H, Same m h h' → T.Ok m h' := fun h' s => hT.same s (Nat.le_refl _)
  have hCf : ∀ h' : H, Same m h h' → Cells h' 4 T.n (.slice T.b T.n T.c) (rowsOf (fun i => (T.f i).cells) T.n) := fun h' s => Cells.els (ti.same s tr) te (fun h0 => (hI.flat h0).1) (fun _ => rfl) (fun _ => rfl)
  rcases Nat.eq_zero_or_pos T.n with h0 | h0
  apply q_app0 (n := 0) (c := 0) (b := some ⟨h1.next + 20, 0, none⟩)
  case hs => exact rfl
  case hx => show some T.n = some 0; rw [h0]
  (focus ((try with_reducible apply wpC.to); (repeat' ((conv => whnf); first | ((apply Start.mk); (focus exact byNext); (focus exact byLen)) | ((apply New.mk); (focus exact byNid)) | ((apply Need.mk); (focus exact byNeed)) | ((apply Fork.mk) <;> (intro _; try (exfalso; omega; done))) | ((apply Load1.mk); (focus exact byMem); (focus exact byVal)) | ((apply LoadN.mk); (focus exact byMem); (focus exact byList)) | ((apply Sto.mk); (focus exact bySto); (focus exact byLo); (focus exact byGet); (focus exact rfl); (focus exact rfl); (focus exact rfl); (focus exact byList)) | ((with_reducible apply Ix.nat); (focus exact rfl); (focus omega)) | ((with_reducible apply Ix.natp); (focus assumption); (focus omega)) | ((with_reducible apply Ix.pred); (focus first | assumption | exact fun _ => rfl); (focus omega); (focus omega)) | ((with_reducible apply Ix.lit); (focus exact byLit); (focus first | assumption | exact fun _ => rfl); (focus omega); (focus omega)) | ((with_reducible apply Ix.int); (focus exact rfl); (focus omega); (focus omega)) | ((with_reducible apply Ix.intp); (focus assumption); (focus omega); (focus omega)) | ((with_reducible apply IxA.nat); (focus omega)) | ((with_reducible apply IxA.lit); (focus exact byLit); (focus omega); (focus omega)) | ((with_reducible apply IxA.int); (focus omega); (focus omega)) | ((apply Wrap.mk); (focus exact byWrap)) | ((apply q_call); (focus exact byNext); (focus exact byLo); (focus (first | exact inside_w | exact works_w)); first | ((apply q_allB) <;> (intro z_b _ _ _; first | exact Bool.noConfusion z_b | replace z_b := of_decide_eq_true z_b | replace z_b := of_decide_eq_false z_b | skip) <;> (first | contradiction | (revert z_b; intros))) | ((apply q_alli) <;> (intro _ _ _ _; try contradiction)) | ((apply q_allv); intro _ _ _)) | apply forceV_any | apply forceL_any)); all_goals (conv => whnf); all_goals (try with_reducible apply At.mk)))
  apply q_appF (b := h1.next + 24) (n := 0) (m := 1) (cs := []) (nc := x.cells)
  case hsv => exact rfl
  case G => exact ⟨rfl, .inr ⟨_, rfl, by unfold far; omega, .inl ⟨rfl, rfl⟩, loadN_cells (by (exact byGet)) rfl⟩⟩
  case C => exact Cells.one (by (exact byMem)) (by unfold far; omega) rfl rfl
  case hm => omega
  case hb => omega
  case hsm => omega
  intro vx rowx Gx
  rw [show Value.slice vx (0 + 1) 0 = .slice vx (T.n + 1) 0 by rw [h0]]
  rw [List.nil_append, show 0 + 1 = T.n + 1 by omega] at Gx
  (focus ((try with_reducible apply wpC.to); (repeat' ((conv => whnf); first | ((apply Start.mk); (focus exact byNext); (focus exact byLen)) | ((apply New.mk); (focus exact byNid)) | ((apply Need.mk); (focus exact byNeed)) | ((apply Fork.mk) <;> (intro _; try (exfalso; omega; done))) | ((apply Load1.mk); (focus exact byMem); (focus exact byVal)) | ((apply LoadN.mk); (focus exact byMem); (focus exact byList)) | ((apply Sto.mk); (focus exact bySto); (focus exact byLo); (focus exact byGet); (focus exact rfl); (focus exact rfl); (focus exact rfl); (focus exact byList)) | ((with_reducible apply Ix.nat); (focus exact rfl); (focus omega)) | ((with_reducible apply Ix.natp); (focus assumption); (focus omega)) | ((with_reducible apply Ix.pred); (focus first | assumption | exact fun _ => rfl); (focus omega); (focus omega)) | ((with_reducible apply Ix.lit); (focus exact byLit); (focus first | assumption | exact fun _ => rfl); (focus omega); (focus omega)) | ((with_reducible apply Ix.int); (focus exact rfl); (focus omega); (focus omega)) | ((with_reducible apply Ix.intp); (focus assumption); (focus omega); (focus omega)) | ((with_reducible apply IxA.nat); (focus omega)) | ((with_reducible apply IxA.lit); (focus exact byLit); (focus omega); (focus omega)) | ((with_reducible apply IxA.int); (focus omega); (focus omega)) | ((apply Wrap.mk); (focus exact byWrap)) | ((apply q_call); (focus exact byNext); (focus exact byLo); (focus (first | exact inside_w | exact works_w)); first | ((apply q_allB) <;> (intro z_b _ _ _; first | exact Bool.noConfusion z_b | replace z_b := of_decide_eq_true z_b | replace z_b := of_decide_eq_false z_b | skip) <;> (first | contradiction | (revert z_b; intros))) | ((apply q_alli) <;> (intro _ _ _ _; try contradiction)) | ((apply q_allv); intro _ _ _)) | apply forceV_any | apply forceL_any)); all_goals (conv => whnf); all_goals (try with_reducible apply At.mk)))
  apply q_app0 (n := 0) (c := 0) (b := some ⟨h1.next + 29, 0, none⟩)
  case hs => exact rfl
  case hx => show some T.n = some 0; rw [h0]
  (focus ((try with_reducible apply wpC.to); (repeat' ((conv => whnf); first | ((apply Start.mk); (focus exact byNext); (focus exact byLen)) | ((apply New.mk); (focus exact byNid)) | ((apply Need.mk); (focus exact byNeed)) | ((apply Fork.mk) <;> (intro _; try (exfalso; omega; done))) | ((apply Load1.mk); (focus exact byMem); (focus exact byVal)) | ((apply LoadN.mk); (focus exact byMem); (focus exact byList)) | ((apply Sto.mk); (focus exact bySto); (focus exact byLo); (focus exact byGet); (focus exact rfl); (focus exact rfl); (focus exact rfl); (focus exact byList)) | ((with_reducible apply Ix.nat); (focus exact rfl); (focus omega)) | ((with_reducible apply Ix.natp); (focus assumption); (focus omega)) | ((with_reducible apply Ix.pred); (focus first | assumption | exact fun _ => rfl); (focus omega); (focus omega)) | ((with_reducible apply Ix.lit); (focus exact byLit); (focus first | assumption | exact fun _ => rfl); (focus omega); (focus omega)) | ((with_reducible apply Ix.int); (focus exact rfl); (focus omega); (focus omega)) | ((with_reducible apply Ix.intp); (focus assumption); (focus omega); (focus omega)) | ((with_reducible apply IxA.nat); (focus omega)) | ((with_reducible apply IxA.lit); (focus exact byLit); (focus omega); (focus omega)) | ((with_reducible apply IxA.int); (focus omega); (focus omega)) | ((apply Wrap.mk); (focus exact byWrap)) | ((apply q_call); (focus exact byNext); (focus exact byLo); (focus (first | exact inside_w | exact works_w)); first | ((apply q_allB) <;> (intro z_b _ _ _; first | exact Bool.noConfusion z_b | replace z_b := of_decide_eq_true z_b | replace z_b := of_decide_eq_false z_b | skip) <;> (first | contradiction | (revert z_b; intros))) | ((apply q_alli) <;> (intro _ _ _ _; try contradiction)) | ((apply q_allv); intro _ _ _)) | apply forceV_any | apply forceL_any)); all_goals (conv => whnf); all_goals (try with_reducible apply At.mk)))
  apply callF_gen
  intro hc ehc
  have g5 : hc.get h.next = some (.cells T.cells 26) := by rw [ehc]; (exact byGet)
  have g9 : hc.get (h.next + 3) = some (.cells (at2.cells .u8) 30) := by rw [ehc]; (exact byGet)
  have hcs : Same m h hc := by rw [ehc]; (exact bySame)
  have hcn : h1.next + 33 ≤ hc.next := by rw [ehc]; (exact byOm)
  obtain ⟨ax, hXo, hX1, hX2⟩ := plus_ok (T := T) (x := x) (show Grown (h1.next + 24) (h1.next + 26 + 1) _ 42 4 (T.n + 1) (rowsOf (fun i => (T.f i).cells) T.n ++ x.cells) vx by
    rw [show rowsOf (fun i => (T.f i).cells) T.n = [] by rw [h0]; rfl]; exact Gx) (by omega)
  have hXo : (T.plus x vx ax).Ok hc.next hc := hXo.frame (fun _ => hX1) (by omega) fun r hr1 hr2 => get_of fun y hy => by rw [ehc]; (exact byGet)
  have hYo : (T.bare (some ⟨h1.next + 29, 0, none⟩) ⟨h1.next + 29, 0, none⟩).Ok hc.next hc := ⟨fun h => absurd h (Nat.lt_irrefl 0), fun i hi => absurd hi (Nat.not_lt_zero i), fun h => absurd h (Nat.lt_irrefl 0), Nat.zero_le _⟩
  have hYv : (T.bare (some ⟨h1.next + 29, 0, none⟩) ⟨h1.next + 29, 0, none⟩).Valid := ⟨Nat.zero_le _, hv.t1, hv.t2, hv.h1, hv.h2, hv.b, fun i hi => absurd hi (Nat.not_lt_zero i)⟩
  have hYl : T.Less (T.bare (some ⟨h1.next + 29, 0, none⟩) ⟨h1.next + 29, 0, none⟩) := ⟨rfl, rfl, rfl, rfl, fun i hi => by omega⟩
  obtain ⟨X, hXe, hXc⟩ : ∃ X, X = T.plus x vx ax ∧ X.cells = [.int .i64 T.tanks, .int .i64 T.hulls, .int .i64 T.blo, .int .i64 T.bhi, .slice vx (T.n + 1) 0] := ⟨_, rfl, rfl⟩
  obtain ⟨Y, hYe, hYc⟩ : ∃ Y, Y = T.bare (some ⟨h1.next + 29, 0, none⟩) ⟨h1.next + 29, 0, none⟩ ∧ Y.cells = [.int .i64 T.tanks, .int .i64 T.hulls, .int .i64 T.blo, .int .i64 T.bhi, .slice (some ⟨h1.next + 29, 0, none⟩) 0 0] := ⟨_, rfl, rfl⟩
  rw [← hXe] at hXo
  rw [← hYe] at hYo hYv hYl
  have hXl : T.Less X := hXe ▸ T.plus_less x vx ax
  have hXb : h1.next + 20 ≤ X.a.block := by rw [hXe]; show _ ≤ ax.block; omega
  have g13 : hc.get (h1.next + 16) = some (.cells X.cells 26) := by rw [ehc, hXc]; (exact byGet)
  have g14 : hc.get (h1.next + 17) = some (.cells Y.cells 26) := by rw [ehc, hYc]; (exact byGet)
  have hYb : 0 < Y.n → h1.next + 20 ≤ Y.a.block := fun h0 => by rw [hYe] at h0; exact absurd h0 (Nat.lt_irrefl 0)
  rw [← hXc]
  clear ehc hXe hXc hYe hYc Gx
  rotate_left
  apply q_appF (b := h1.next + 23) (n := 0) (m := T.n) (cs := []) (nc := rowsOf (fun i => (T.f i).cells) T.n)
  case hsv => exact rfl
  case G => exact ⟨rfl, .inr ⟨_, rfl, by unfold far; omega, .inl ⟨rfl, rfl⟩, loadN_cells (by (exact byGet)) rfl⟩⟩
  case C => exact hCf _ (by (exact bySame))
  case hm => omega
  case hb => omega
  case hsm => omega
  intro vx rowx Gx
  rw [List.nil_append, Nat.zero_add] at Gx
  rw [Nat.zero_add]
  (focus ((try with_reducible apply wpC.to); (repeat' ((conv => whnf); first | ((apply Start.mk); (focus exact byNext); (focus exact byLen)) | ((apply New.mk); (focus exact byNid)) | ((apply Need.mk); (focus exact byNeed)) | ((apply Fork.mk) <;> (intro _; try (exfalso; omega; done))) | ((apply Load1.mk); (focus exact byMem); (focus exact byVal)) | ((apply LoadN.mk); (focus exact byMem); (focus exact byList)) | ((apply Sto.mk); (focus exact bySto); (focus exact byLo); (focus exact byGet); (focus exact rfl); (focus exact rfl); (focus exact rfl); (focus exact byList)) | ((with_reducible apply Ix.nat); (focus exact rfl); (focus omega)) | ((with_reducible apply Ix.natp); (focus assumption); (focus omega)) | ((with_reducible apply Ix.pred); (focus first | assumption | exact fun _ => rfl); (focus omega); (focus omega)) | ((with_reducible apply Ix.lit); (focus exact byLit); (focus first | assumption | exact fun _ => rfl); (focus omega); (focus omega)) | ((with_reducible apply Ix.int); (focus exact rfl); (focus omega); (focus omega)) | ((with_reducible apply Ix.intp); (focus assumption); (focus omega); (focus omega)) | ((with_reducible apply IxA.nat); (focus omega)) | ((with_reducible apply IxA.lit); (focus exact byLit); (focus omega); (focus omega)) | ((with_reducible apply IxA.int); (focus omega); (focus omega)) | ((apply Wrap.mk); (focus exact byWrap)) | ((apply q_call); (focus exact byNext); (focus exact byLo); (focus (first | exact inside_w | exact works_w)); first | ((apply q_allB) <;> (intro z_b _ _ _; first | exact Bool.noConfusion z_b | replace z_b := of_decide_eq_true z_b | replace z_b := of_decide_eq_false z_b | skip) <;> (first | contradiction | (revert z_b; intros))) | ((apply q_alli) <;> (intro _ _ _ _; try contradiction)) | ((apply q_allv); intro _ _ _)) | apply forceV_any | apply forceL_any)); all_goals (conv => whnf); all_goals (try with_reducible apply At.mk)))
  apply q_appG (b := h1.next + 23) (N := h1.next + 24) (n := T.n) (m := 1) (nc := x.cells)
  case hsv => exact rfl
  case G => exact Gx.frame (Nat.le_refl _) fun j hj1 hj2 => get_of fun y hy => by (exact byGet)
  case C => exact Cells.one (by (exact byMem)) (by unfold far; omega) rfl rfl
  case hm => omega
  case hlo => omega
  case hb => omega
  case hN => omega
  case hsm => omega
  intro vx2 jx rowx2 hjx1 hjx2 hjx3 Gx2
  (focus ((try with_reducible apply wpC.to); (repeat' ((conv => whnf); first | ((apply Start.mk); (focus exact byNext); (focus exact byLen)) | ((apply New.mk); (focus exact byNid)) | ((apply Need.mk); (focus exact byNeed)) | ((apply Fork.mk) <;> (intro _; try (exfalso; omega; done))) | ((apply Load1.mk); (focus exact byMem); (focus exact byVal)) | ((apply LoadN.mk); (focus exact byMem); (focus exact byList)) | ((apply Sto.mk); (focus exact bySto); (focus exact byLo); (focus exact byGet); (focus exact rfl); (focus exact rfl); (focus exact rfl); (focus exact byList)) | ((with_reducible apply Ix.nat); (focus exact rfl); (focus omega)) | ((with_reducible apply Ix.natp); (focus assumption); (focus omega)) | ((with_reducible apply Ix.pred); (focus first | assumption | exact fun _ => rfl); (focus omega); (focus omega)) | ((with_reducible apply Ix.lit); (focus exact byLit); (focus first | assumption | exact fun _ => rfl); (focus omega); (focus omega)) | ((with_reducible apply Ix.int); (focus exact rfl); (focus omega); (focus omega)) | ((with_reducible apply Ix.intp); (focus assumption); (focus omega); (focus omega)) | ((with_reducible apply IxA.nat); (focus omega)) | ((with_reducible apply IxA.lit); (focus exact byLit); (focus omega); (focus omega)) | ((with_reducible apply IxA.int); (focus omega); (focus omega)) | ((apply Wrap.mk); (focus exact byWrap)) | ((apply q_call); (focus exact byNext); (focus exact byLo); (focus (first | exact inside_w | exact works_w)); first | ((apply q_allB) <;> (intro z_b _ _ _; first | exact Bool.noConfusion z_b | replace z_b := of_decide_eq_true z_b | replace z_b := of_decide_eq_false z_b | skip) <;> (first | contradiction | (revert z_b; intros))) | ((apply q_alli) <;> (intro _ _ _ _; try contradiction)) | ((apply q_allv); intro _ _ _)) | apply forceV_any | apply forceL_any)); all_goals (conv => whnf); all_goals (try with_reducible apply At.mk)))
  apply q_appF (b := h1.next + 32) (n := 0) (m := T.n) (cs := []) (nc := rowsOf (fun i => (T.f i).cells) T.n)
  case hsv => exact rfl
  case G => exact ⟨rfl, .inr ⟨_, rfl, by unfold far; omega, .inl ⟨rfl, rfl⟩, loadN_cells (by (exact byGet)) rfl⟩⟩
  case C => exact hCf _ (by (exact bySame))
  case hm => omega
  case hb => omega
  case hsm => omega
  intro vy rowy Gy
  rw [List.nil_append, Nat.zero_add] at Gy
  rw [Nat.zero_add]
  obtain ⟨ry, Gy, hry1, hry2⟩ := Gy.gat h0
  obtain ⟨ay, rfl, hay, hldy, hsty⟩ := Gy.load
  subst hay
  have hk : 0 ≤ wh % T.n ∧ wh % T.n < T.n := ⟨Int.emod_nonneg _ (by omega), Int.emod_lt_of_pos _ (by omega)⟩
  obtain ⟨k, hke, hkn⟩ : ∃ k : Nat, wh % T.n = k ∧ k < T.n := ⟨(wh % T.n).toNat, by omega, by omega⟩
  have hfk := hv.f k hkn
  unfold isR at hfk
  (focus ((try with_reducible apply wpC.to); (repeat' ((conv => whnf); first | ((apply Start.mk); (focus exact byNext); (focus exact byLen)) | ((apply New.mk); (focus exact byNid)) | ((apply Need.mk); (focus exact byNeed)) | ((apply Fork.mk) <;> (intro _; try (exfalso; omega; done))) | ((apply Load1.mk); (focus exact byMem); (focus exact byVal)) | ((apply LoadN.mk); (focus exact byMem); (focus exact byList)) | ((apply Sto.mk); (focus exact bySto); (focus exact byLo); (focus exact byGet); (focus exact rfl); (focus exact rfl); (focus exact rfl); (focus exact byList)) | ((with_reducible apply Ix.nat); (focus exact rfl); (focus omega)) | ((with_reducible apply Ix.natp); (focus assumption); (focus omega)) | ((with_reducible apply Ix.pred); (focus first | assumption | exact fun _ => rfl); (focus omega); (focus omega)) | ((with_reducible apply Ix.lit); (focus exact byLit); (focus first | assumption | exact fun _ => rfl); (focus omega); (focus omega)) | ((with_reducible apply Ix.int); (focus exact rfl); (focus omega); (focus omega)) | ((with_reducible apply Ix.intp); (focus assumption); (focus omega); (focus omega)) | ((with_reducible apply IxA.nat); (focus omega)) | ((with_reducible apply IxA.lit); (focus exact byLit); (focus omega); (focus omega)) | ((with_reducible apply IxA.int); (focus omega); (focus omega)) | ((apply Wrap.mk); (focus exact byWrap)) | ((apply q_call); (focus exact byNext); (focus exact byLo); (focus (first | exact inside_w | exact works_w)); first | ((apply q_allB) <;> (intro z_b _ _ _; first | exact Bool.noConfusion z_b | replace z_b := of_decide_eq_true z_b | replace z_b := of_decide_eq_false z_b | skip) <;> (first | contradiction | (revert z_b; intros))) | ((apply q_alli) <;> (intro _ _ _ _; try contradiction)) | ((apply q_allv); intro _ _ _)) | apply forceV_any | apply forceL_any)); all_goals (conv => whnf); all_goals (try with_reducible apply At.mk)))
  rw [hke]
  refine LoadN.mk (l := [.int .i64 (T.f k).lo, .int .i64 (T.f k).hi]) (load_part (l := (T.f k).cells) (gat_els (Gy.frame (get_of fun y hy => by (exact byGet))) (fun _ => rfl) k hkn) rfl) Is.rfl ?_
  (focus ((try with_reducible apply wpC.to); (repeat' ((conv => whnf); first | ((apply Start.mk); (focus exact byNext); (focus exact byLen)) | ((apply New.mk); (focus exact byNid)) | ((apply Need.mk); (focus exact byNeed)) | ((apply Fork.mk) <;> (intro _; try (exfalso; omega; done))) | ((apply Load1.mk); (focus exact byMem); (focus exact byVal)) | ((apply LoadN.mk); (focus exact byMem); (focus exact byList)) | ((apply Sto.mk); (focus exact bySto); (focus exact byLo); (focus exact byGet); (focus exact rfl); (focus exact rfl); (focus exact rfl); (focus exact byList)) | ((with_reducible apply Ix.nat); (focus exact rfl); (focus omega)) | ((with_reducible apply Ix.natp); (focus assumption); (focus omega)) | ((with_reducible apply Ix.pred); (focus first | assumption | exact fun _ => rfl); (focus omega); (focus omega)) | ((with_reducible apply Ix.lit); (focus exact byLit); (focus first | assumption | exact fun _ => rfl); (focus omega); (focus omega)) | ((with_reducible apply Ix.int); (focus exact rfl); (focus omega); (focus omega)) | ((with_reducible apply Ix.intp); (focus assumption); (focus omega); (focus omega)) | ((with_reducible apply IxA.nat); (focus omega)) | ((with_reducible apply IxA.lit); (focus exact byLit); (focus omega); (focus omega)) | ((with_reducible apply IxA.int); (focus omega); (focus omega)) | ((apply Wrap.mk); (focus exact byWrap)) | ((apply q_call); (focus exact byNext); (focus exact byLo); (focus (first | exact inside_w | exact works_w)); first | ((apply q_allB) <;> (intro z_b _ _ _; first | exact Bool.noConfusion z_b | replace z_b := of_decide_eq_true z_b | replace z_b := of_decide_eq_false z_b | skip) <;> (first | contradiction | (revert z_b; intros))) | ((apply q_alli) <;> (intro _ _ _ _; try contradiction)) | ((apply q_allv); intro _ _ _)) | apply forceV_any | apply forceL_any)); all_goals (conv => whnf); all_goals (try with_reducible apply At.mk)))
  refine sto_gat (r := ay.block) (a := ay) (off := k * 4 + 2) (vs := [.int .i64 (min (T.f k).hi ((T.f k).lo + by2.a)), .int .i64 (max (min (T.f k).hi ((T.f k).lo + by2.a)) ((T.f k).hi - by2.b))]) (Gy.frame (get_of fun y hy => by (exact byGet))) (by omega) rfl (by rw [rowsOf_len (w := 4) (fun _ => rfl)]; simp; omega) rfl fun rowz Gz => ?_
  rw [narrow_rows hkn] at Gz
  (focus ((try with_reducible apply wpC.to); (repeat' ((conv => whnf); first | ((apply Start.mk); (focus exact byNext); (focus exact byLen)) | ((apply New.mk); (focus exact byNid)) | ((apply Need.mk); (focus exact byNeed)) | ((apply Fork.mk) <;> (intro _; try (exfalso; omega; done))) | ((apply Load1.mk); (focus exact byMem); (focus exact byVal)) | ((apply LoadN.mk); (focus exact byMem); (focus exact byList)) | ((apply Sto.mk); (focus exact bySto); (focus exact byLo); (focus exact byGet); (focus exact rfl); (focus exact rfl); (focus exact rfl); (focus exact byList)) | ((with_reducible apply Ix.nat); (focus exact rfl); (focus omega)) | ((with_reducible apply Ix.natp); (focus assumption); (focus omega)) | ((with_reducible apply Ix.pred); (focus first | assumption | exact fun _ => rfl); (focus omega); (focus omega)) | ((with_reducible apply Ix.lit); (focus exact byLit); (focus first | assumption | exact fun _ => rfl); (focus omega); (focus omega)) | ((with_reducible apply Ix.int); (focus exact rfl); (focus omega); (focus omega)) | ((with_reducible apply Ix.intp); (focus assumption); (focus omega); (focus omega)) | ((with_reducible apply IxA.nat); (focus omega)) | ((with_reducible apply IxA.lit); (focus exact byLit); (focus omega); (focus omega)) | ((with_reducible apply IxA.int); (focus omega); (focus omega)) | ((apply Wrap.mk); (focus exact byWrap)) | ((apply q_call); (focus exact byNext); (focus exact byLo); (focus (first | exact inside_w | exact works_w)); first | ((apply q_allB) <;> (intro z_b _ _ _; first | exact Bool.noConfusion z_b | replace z_b := of_decide_eq_true z_b | replace z_b := of_decide_eq_false z_b | skip) <;> (first | contradiction | (revert z_b; intros))) | ((apply q_alli) <;> (intro _ _ _ _; try contradiction)) | ((apply q_allv); intro _ _ _)) | apply forceV_any | apply forceL_any)); all_goals (conv => whnf); all_goals (try with_reducible apply At.mk)))
  apply callF_gen
  intro hc ehc
  have g5 : hc.get h.next = some (.cells T.cells 26) := by rw [ehc]; (exact byGet)
  have g9 : hc.get (h.next + 3) = some (.cells (at2.cells .u8) 30) := by rw [ehc]; (exact byGet)
  have hcs : Same m h hc := by rw [ehc]; (exact bySame)
  have hcn : h1.next + 33 ≤ hc.next := by rw [ehc]; (exact byOm)
  obtain ⟨ax, hXo, hX1, hX2⟩ := plus_ok (T := T) (x := x) Gx2 (by omega)
  have hXo : (T.plus x vx2 ax).Ok hc.next hc := hXo.frame (fun _ => hX1) (by omega) fun r hr1 hr2 => get_of fun y hy => by rw [ehc]; (exact byGet)
  have hYo : (T.narrowed k by2.a by2.b (some ay) ay).Ok hc.next hc := narrowed_ok (Gz.frame (get_of fun y hy => by rw [ehc]; (exact byGet))) (by omega) (by omega) (by omega)
  have hYv : (T.narrowed k by2.a by2.b (some ay) ay).Valid := T.narrowed_valid hv hp0.1 hq0.1 _ _
  have hYl : T.Less (T.narrowed k by2.a by2.b (some ay) ay) := Tab.narrowed_less hv hp0.1 hq0.1 _ _
  obtain ⟨X, hXe, hXc⟩ : ∃ X, X = T.plus x vx2 ax ∧ X.cells = [.int .i64 T.tanks, .int .i64 T.hulls, .int .i64 T.blo, .int .i64 T.bhi, .slice vx2 (T.n + 1) 0] := ⟨_, rfl, rfl⟩
  obtain ⟨Y, hYe, hYc⟩ : ∃ Y, Y = T.narrowed k by2.a by2.b (some ay) ay ∧ Y.cells = [.int .i64 T.tanks, .int .i64 T.hulls, .int .i64 T.blo, .int .i64 T.bhi, .slice (some ay) T.n 0] := ⟨_, rfl, rfl⟩
  rw [← hXe] at hXo
  rw [← hYe] at hYo hYv hYl
  have hXl : T.Less X := hXe ▸ T.plus_less x vx2 ax
  have hXb : h1.next + 20 ≤ X.a.block := by rw [hXe]; show _ ≤ ax.block; omega
  have g13 : hc.get (h1.next + 16) = some (.cells X.cells 26) := by rw [ehc, hXc]; (exact byGet)
  have g14 : hc.get (h1.next + 17) = some (.cells Y.cells 26) := by rw [ehc, hYc]; (exact byGet)
  have hYb : 0 < Y.n → h1.next + 20 ≤ Y.a.block := fun h0 => by rw [hYe]; show _ ≤ ay.block; omega
  rw [← hXc]
  clear ehc hXe hXc hYe hYc Gx Gx2 Gy Gz hldy hsty
  all_goals
    apply q_call
    focus (exact byNext)
    focus (exact byLo)
    focus exact fine_w (T := X) (m := hc.next) (by (exact byOm)) (hXo.frame (fun _ => hXb) (by (exact byOm)) fun r hr1 hr2 => rfl)
    rintro _ h3 ⟨bx, rfl, hbx⟩ q3 hn3
    have v0 := sErr_val T.toTable A.toNat
    have v1 := bErr_val T.toTable A.toNat B.toNat
    cases bx
    obtain ⟨Z, hZe, hZl, hZv, hZb⟩ : ∃ Z, Z = Y ∧ T.Less Z ∧ Z.Valid ∧ (0 < Z.n → h1.next + 20 ≤ Z.a.block) := ⟨Y, rfl, hYl, hYv, hYb⟩
    (focus ((try with_reducible apply wpC.to); (repeat' ((conv => whnf); first | ((apply Start.mk); (focus exact byNext); (focus exact byLen)) | ((apply New.mk); (focus exact byNid)) | ((apply Need.mk); (focus exact byNeed)) | ((apply Fork.mk) <;> (intro _; try (exfalso; omega; done))) | ((apply Load1.mk); (focus exact byMem); (focus exact byVal)) | ((apply LoadN.mk); (focus exact byMem); (focus exact byList)) | ((apply Sto.mk); (focus exact bySto); (focus exact byLo); (focus exact byGet); (focus exact rfl); (focus exact rfl); (focus exact rfl); (focus exact byList)) | ((with_reducible apply Ix.nat); (focus exact rfl); (focus omega)) | ((with_reducible apply Ix.natp); (focus assumption); (focus omega)) | ((with_reducible apply Ix.pred); (focus first | assumption | exact fun _ => rfl); (focus omega); (focus omega)) | ((with_reducible apply Ix.lit); (focus exact byLit); (focus first | assumption | exact fun _ => rfl); (focus omega); (focus omega)) | ((with_reducible apply Ix.int); (focus exact rfl); (focus omega); (focus omega)) | ((with_reducible apply Ix.intp); (focus assumption); (focus omega); (focus omega)) | ((with_reducible apply IxA.nat); (focus omega)) | ((with_reducible apply IxA.lit); (focus exact byLit); (focus omega); (focus omega)) | ((with_reducible apply IxA.int); (focus omega); (focus omega)) | ((apply Wrap.mk); (focus exact byWrap)) | ((apply q_call); (focus exact byNext); (focus exact byLo); (focus (first | exact inside_w | exact works_w)); first | ((apply q_allB) <;> (intro z_b _ _ _; first | exact Bool.noConfusion z_b | replace z_b := of_decide_eq_true z_b | replace z_b := of_decide_eq_false z_b | skip) <;> (first | contradiction | (revert z_b; intros))) | ((apply q_alli) <;> (intro _ _ _ _; try contradiction)) | ((apply q_allv); intro _ _ _)) | apply forceV_any | apply forceL_any)); all_goals (conv => whnf); all_goals (try with_reducible apply At.mk)))
    apply callF_gen
    intro hd ehd
    have d5 : hd.get h.next = some (.cells T.cells 26) := by rw [ehd]; (exact byGet)
    have d17 : hd.get (h3.next + 4) = some (.cells (Z.cells ++ Y.cells) 26) := by rw [ehd, hZe]; (exact byGet)
    have dsm : Same m h hd := by rw [ehd]; (exact bySame)
    have dnx : h3.next + 4 < hd.next := by rw [ehd]; (exact byOm)
    have dge : h1.next + 20 ≤ h3.next + 4 := by omega
    have dhc : ∀ r, h1.next + 20 ≤ r → r < hc.next → hd.get r = hc.get r := fun r hr1 hr2 => get_of fun y hy => by rw [ehd]; (exact byGet)
    have dYo : Y.Ok hc.next hd := hYo.frame hYb (Nat.le_refl _) dhc
    have dZo : Z.Ok hc.next hd := by rw [hZe]; exact dYo
    obtain ⟨r18, hr18⟩ : ∃ r, h3.next + 12 = r := ⟨_, rfl⟩
    have dn18 : h3.next + 13 ≤ hd.next := by rw [ehd]; (exact byOm)
    generalize hr17 : h3.next + 4 = r17 at *
    clear ehd
    rotate_left
    obtain ⟨Z, hZe, hZl, hZv, hZb⟩ : ∃ Z, Z = X ∧ T.Less Z ∧ Z.Valid ∧ (0 < Z.n → h1.next + 20 ≤ Z.a.block) := ⟨X, rfl, hXl, hbx.1 rfl, fun _ => hXb⟩
    (focus ((try with_reducible apply wpC.to); (repeat' ((conv => whnf); first | ((apply Start.mk); (focus exact byNext); (focus exact byLen)) | ((apply New.mk); (focus exact byNid)) | ((apply Need.mk); (focus exact byNeed)) | ((apply Fork.mk) <;> (intro _; try (exfalso; omega; done))) | ((apply Load1.mk); (focus exact byMem); (focus exact byVal)) | ((apply LoadN.mk); (focus exact byMem); (focus exact byList)) | ((apply Sto.mk); (focus exact bySto); (focus exact byLo); (focus exact byGet); (focus exact rfl); (focus exact rfl); (focus exact rfl); (focus exact byList)) | ((with_reducible apply Ix.nat); (focus exact rfl); (focus omega)) | ((with_reducible apply Ix.natp); (focus assumption); (focus omega)) | ((with_reducible apply Ix.pred); (focus first | assumption | exact fun _ => rfl); (focus omega); (focus omega)) | ((with_reducible apply Ix.lit); (focus exact byLit); (focus first | assumption | exact fun _ => rfl); (focus omega); (focus omega)) | ((with_reducible apply Ix.int); (focus exact rfl); (focus omega); (focus omega)) | ((with_reducible apply Ix.intp); (focus assumption); (focus omega); (focus omega)) | ((with_reducible apply IxA.nat); (focus omega)) | ((with_reducible apply IxA.lit); (focus exact byLit); (focus omega); (focus omega)) | ((with_reducible apply IxA.int); (focus omega); (focus omega)) | ((apply Wrap.mk); (focus exact byWrap)) | ((apply q_call); (focus exact byNext); (focus exact byLo); (focus (first | exact inside_w | exact works_w)); first | ((apply q_allB) <;> (intro z_b _ _ _; first | exact Bool.noConfusion z_b | replace z_b := of_decide_eq_true z_b | replace z_b := of_decide_eq_false z_b | skip) <;> (first | contradiction | (revert z_b; intros))) | ((apply q_alli) <;> (intro _ _ _ _; try contradiction)) | ((apply q_allv); intro _ _ _)) | apply forceV_any | apply forceL_any)); all_goals (conv => whnf); all_goals (try with_reducible apply At.mk)))
    apply callF_gen
    intro hd ehd
    have d5 : hd.get h.next = some (.cells T.cells 26) := by rw [ehd]; (exact byGet)
    have d17 : hd.get (h3.next + 2) = some (.cells (Z.cells ++ Y.cells) 26) := by rw [ehd, hZe]; (exact byGet)
    have dsm : Same m h hd := by rw [ehd]; (exact bySame)
    have dnx : h3.next + 2 < hd.next := by rw [ehd]; (exact byOm)
    have dge : h1.next + 20 ≤ h3.next + 2 := by omega
    have dhc : ∀ r, h1.next + 20 ≤ r → r < hc.next → hd.get r = hc.get r := fun r hr1 hr2 => get_of fun y hy => by rw [ehd]; (exact byGet)
    have dYo : Y.Ok hc.next hd := hYo.frame hYb (Nat.le_refl _) dhc
    have dZo : Z.Ok hc.next hd := by rw [hZe]; exact hXo.frame (fun _ => hXb) (Nat.le_refl _) dhc
    obtain ⟨r18, hr18⟩ : ∃ r, h3.next + 10 = r := ⟨_, rfl⟩
    have dn18 : h3.next + 11 ≤ hd.next := by rw [ehd]; (exact byOm)
    generalize hr17 : h3.next + 2 = r17 at *
    clear ehd
    all_goals
      apply q_callv
      focus (exact byNext)
      focus (exact byLo)
      focus exact spread_w (T := T) (m := m) (by (exact byOm)) (hTf _ (by (exact bySame))) hv za
      intro h4 q4 hn4
      (focus ((try with_reducible apply wpC.to); (repeat' ((conv => whnf); first | ((apply Start.mk); (focus exact byNext); (focus exact byLen)) | ((apply New.mk); (focus exact byNid)) | ((apply Need.mk); (focus exact byNeed)) | ((apply Fork.mk) <;> (intro _; try (exfalso; omega; done))) | ((apply Load1.mk); (focus exact byMem); (focus exact byVal)) | ((apply LoadN.mk); (focus exact byMem); (focus exact byList)) | ((apply Sto.mk); (focus exact bySto); (focus exact byLo); (focus exact byGet); (focus exact rfl); (focus exact rfl); (focus exact rfl); (focus exact byList)) | ((with_reducible apply Ix.nat); (focus exact rfl); (focus omega)) | ((with_reducible apply Ix.natp); (focus assumption); (focus omega)) | ((with_reducible apply Ix.pred); (focus first | assumption | exact fun _ => rfl); (focus omega); (focus omega)) | ((with_reducible apply Ix.lit); (focus exact byLit); (focus first | assumption | exact fun _ => rfl); (focus omega); (focus omega)) | ((with_reducible apply Ix.int); (focus exact rfl); (focus omega); (focus omega)) | ((with_reducible apply Ix.intp); (focus assumption); (focus omega); (focus omega)) | ((with_reducible apply IxA.nat); (focus omega)) | ((with_reducible apply IxA.lit); (focus exact byLit); (focus omega); (focus omega)) | ((with_reducible apply IxA.int); (focus omega); (focus omega)) | ((apply Wrap.mk); (focus exact byWrap)) | ((apply q_call); (focus exact byNext); (focus exact byLo); (focus (first | exact inside_w | exact works_w)); first | ((apply q_allB) <;> (intro z_b _ _ _; first | exact Bool.noConfusion z_b | replace z_b := of_decide_eq_true z_b | replace z_b := of_decide_eq_false z_b | skip) <;> (first | contradiction | (revert z_b; intros))) | ((apply q_alli) <;> (intro _ _ _ _; try contradiction)) | ((apply q_allv); intro _ _ _)) | apply forceV_any | apply forceL_any)); all_goals (conv => whnf); all_goals (try with_reducible apply At.mk)))
      rw [hr18]
      apply q_callv
      focus (exact byNext)
      focus (exact byLo)
      focus exact between_w (T := T) (m := m) (by (exact byOm)) (hTf _ (by (exact bySame))) hv za zb
      intro h5 q5 hn5
      (focus ((try with_reducible apply wpC.to); (repeat' ((conv => whnf); first | ((apply Start.mk); (focus exact byNext); (focus exact byLen)) | ((apply New.mk); (focus exact byNid)) | ((apply Need.mk); (focus exact byNeed)) | ((apply Fork.mk) <;> (intro _; try (exfalso; omega; done))) | ((apply Load1.mk); (focus exact byMem); (focus exact byVal)) | ((apply LoadN.mk); (focus exact byMem); (focus exact byList)) | ((apply Sto.mk); (focus exact bySto); (focus exact byLo); (focus exact byGet); (focus exact rfl); (focus exact rfl); (focus exact rfl); (focus exact byList)) | ((with_reducible apply Ix.nat); (focus exact rfl); (focus omega)) | ((with_reducible apply Ix.natp); (focus assumption); (focus omega)) | ((with_reducible apply Ix.pred); (focus first | assumption | exact fun _ => rfl); (focus omega); (focus omega)) | ((with_reducible apply Ix.lit); (focus exact byLit); (focus first | assumption | exact fun _ => rfl); (focus omega); (focus omega)) | ((with_reducible apply Ix.int); (focus exact rfl); (focus omega); (focus omega)) | ((with_reducible apply Ix.intp); (focus assumption); (focus omega); (focus omega)) | ((with_reducible apply IxA.nat); (focus omega)) | ((with_reducible apply IxA.lit); (focus exact byLit); (focus omega); (focus omega)) | ((with_reducible apply IxA.int); (focus omega); (focus omega)) | ((apply Wrap.mk); (focus exact byWrap)) | ((apply q_call); (focus exact byNext); (focus exact byLo); (focus (first | exact inside_w | exact works_w)); first | ((apply q_allB) <;> (intro z_b _ _ _; first | exact Bool.noConfusion z_b | replace z_b := of_decide_eq_true z_b | replace z_b := of_decide_eq_false z_b | skip) <;> (first | contradiction | (revert z_b; intros))) | ((apply q_alli) <;> (intro _ _ _ _; try contradiction)) | ((apply q_allv); intro _ _ _)) | apply forceV_any | apply forceL_any)); all_goals (conv => whnf); all_goals (try with_reducible apply At.mk)))
      have hrd : r17 < h5.next ∧ r18 < h5.next ∧ hd.next ≤ h4.next ∧ hc.next ≤ r17 ∧ hc.next ≤ r18 ∧ r17 ≠ r18 := by refine ⟨?_, ?_, ?_, ?_, ?_, ?_⟩ <;> (exact byOm)
      have hW : ∀ s, s < 2 → ∃ W : Tab, W.Valid ∧ T.Less W ∧ ∀ h' : H, (∀ r, r < hc.next → h'.get r = hd.get r) → h'.get r17 = some (.cells (Z.cells ++ Y.cells) 26) → h'.loadN ⟨r17, 0 + s * 5, none⟩ 5 = some W.cells ∧ W.Ok hc.next h' := fun s hs => by
        have : s = 0 ∨ s = 1 := by omega
        rcases this with rfl | rfl
        · exact ⟨Z, hZv, hZl, fun h' hh g => ⟨loadN_cells g rfl, dZo.frame (b := 0) (fun _ => Nat.zero_le _) (Nat.le_refl _) fun r _ hr => hh r hr⟩⟩
        · exact ⟨Y, hYv, hYl, fun h' hh g => ⟨loadN_cells g rfl, dYo.frame (b := 0) (fun _ => Nat.zero_le _) (Nat.le_refl _) fun r _ hr => hh r hr⟩⟩
      refine wp_loop (fun s : Nat => [(11, .int .i64 A), (12, .int .i64 B), (17, .slice (some ⟨r17, 0, none⟩) 2 2), (18, .pointer (some ⟨r18, 0, none⟩)), (19, .int .i64 (sErr T.toTable A.toNat)), (20, .pointer (some ⟨h4.next + 7, 0, none⟩)), (21, .int .i64 (bErr T.toTable A.toNat B.toNat)), (22, .int .i64 s)])
        (fun s h6 => (∀ r, r < hc.next → h6.get r = hd.get r) ∧ h5.next ≤ h6.next ∧ s ≤ 2 ∧ h6.get r17 = some (.cells (Z.cells ++ Y.cells) 26) ∧ h6.get r18 = some (.cells [.int .i64 (sLo T.toTable A.toNat), .int .i64 (sHi T.toTable A.toNat)] 23) ∧ h6.get (h4.next + 7) = some (.cells [.int .i64 (bLo T.toTable A.toNat B.toNat), .int .i64 (bHi T.toTable A.toNat B.toNat)] 23)) (fun s => 2 - s) 0
        ⟨rfl, rfl, rfl, rfl, rfl, rfl, rfl, rfl, trivial⟩ ⟨fun r hr => get_of fun y hy => by (exact byGet), by (exact byOm), by omega, by (exact byGet), by (exact byGet), by (exact byGet)⟩ ?_
      rintro s g h6 ⟨k1, hn6, hs, k2, k3, k4⟩ K hK
      (focus ((try with_reducible apply wpC.to); (repeat' ((conv => whnf); first | ((apply Start.mk); (focus exact byNext); (focus exact byLen)) | ((apply New.mk); (focus exact byNid)) | ((apply Need.mk); (focus exact byNeed)) | ((apply Fork.mk) <;> (intro _; try (exfalso; omega; done))) | ((apply Load1.mk); (focus exact byMem); (focus exact byVal)) | ((apply LoadN.mk); (focus exact byMem); (focus exact byList)) | ((apply Sto.mk); (focus exact bySto); (focus exact byLo); (focus exact byGet); (focus exact rfl); (focus exact rfl); (focus exact rfl); (focus exact byList)) | ((with_reducible apply Ix.nat); (focus exact rfl); (focus omega)) | ((with_reducible apply Ix.natp); (focus assumption); (focus omega)) | ((with_reducible apply Ix.pred); (focus first | assumption | exact fun _ => rfl); (focus omega); (focus omega)) | ((with_reducible apply Ix.lit); (focus exact byLit); (focus first | assumption | exact fun _ => rfl); (focus omega); (focus omega)) | ((with_reducible apply Ix.int); (focus exact rfl); (focus omega); (focus omega)) | ((with_reducible apply Ix.intp); (focus assumption); (focus omega); (focus omega)) | ((with_reducible apply IxA.nat); (focus omega)) | ((with_reducible apply IxA.lit); (focus exact byLit); (focus omega); (focus omega)) | ((with_reducible apply IxA.int); (focus omega); (focus omega)) | ((apply Wrap.mk); (focus exact byWrap)) | ((apply q_call); (focus exact byNext); (focus exact byLo); (focus (first | exact inside_w | exact works_w)); first | ((apply q_allB) <;> (intro z_b _ _ _; first | exact Bool.noConfusion z_b | replace z_b := of_decide_eq_true z_b | replace z_b := of_decide_eq_false z_b | skip) <;> (first | contradiction | (revert z_b; intros))) | ((apply q_alli) <;> (intro _ _ _ _; try contradiction)) | ((apply q_allv); intro _ _ _)) | apply forceV_any | apply forceL_any)); all_goals (conv => whnf); all_goals (try with_reducible apply At.mk)))
      rotate_left
      · (first | (apply fin1; (focus first | exact .inl rfl | exact .inr rfl); focus exact byR1) | (apply fin2; (focus first | exact .inl rfl | exact .inr rfl); (focus exact byR1); (focus exact byR1)) | (apply fin3; (focus first | exact .inl rfl | exact .inr rfl); (focus exact byR1); (focus exact byR1); (focus exact byR1)) | (apply fin0; (focus first | exact .inl rfl | exact .inr rfl)))
        rfl
      obtain ⟨W, w2, w3, wf⟩ := hW s (by omega)
      obtain ⟨f1, f2, f3⟩ := w3.facts hv w2 A.toNat B.toNat
      have wv1 := sErr_val W.toTable A.toNat
      have wv2 := bErr_val W.toTable A.toNat B.toNat
      have hWf : ∀ h' : H, Same hc.next h6 h' → W.Ok hc.next h' := fun h' s6 => (wf h6 k1 k2).2.same s6 (Nat.le_refl _)
      refine LoadN.mk (l := W.cells) (wf h6 k1 k2).1 Is.rfl ?_
      (focus ((try with_reducible apply wpC.to); (repeat' ((conv => whnf); first | ((apply Start.mk); (focus exact byNext); (focus exact byLen)) | ((apply New.mk); (focus exact byNid)) | ((apply Need.mk); (focus exact byNeed)) | ((apply Fork.mk) <;> (intro _; try (exfalso; omega; done))) | ((apply Load1.mk); (focus exact byMem); (focus exact byVal)) | ((apply LoadN.mk); (focus exact byMem); (focus exact byList)) | ((apply Sto.mk); (focus exact bySto); (focus exact byLo); (focus exact byGet); (focus exact rfl); (focus exact rfl); (focus exact rfl); (focus exact byList)) | ((with_reducible apply Ix.nat); (focus exact rfl); (focus omega)) | ((with_reducible apply Ix.natp); (focus assumption); (focus omega)) | ((with_reducible apply Ix.pred); (focus first | assumption | exact fun _ => rfl); (focus omega); (focus omega)) | ((with_reducible apply Ix.lit); (focus exact byLit); (focus first | assumption | exact fun _ => rfl); (focus omega); (focus omega)) | ((with_reducible apply Ix.int); (focus exact rfl); (focus omega); (focus omega)) | ((with_reducible apply Ix.intp); (focus assumption); (focus omega); (focus omega)) | ((with_reducible apply IxA.nat); (focus omega)) | ((with_reducible apply IxA.lit); (focus exact byLit); (focus omega); (focus omega)) | ((with_reducible apply IxA.int); (focus omega); (focus omega)) | ((apply Wrap.mk); (focus exact byWrap)) | ((apply q_call); (focus exact byNext); (focus exact byLo); (focus (first | exact inside_w | exact works_w)); first | ((apply q_allB) <;> (intro z_b _ _ _; first | exact Bool.noConfusion z_b | replace z_b := of_decide_eq_true z_b | replace z_b := of_decide_eq_false z_b | skip) <;> (first | contradiction | (revert z_b; intros))) | ((apply q_alli) <;> (intro _ _ _ _; try contradiction)) | ((apply q_allv); intro _ _ _)) | apply forceV_any | apply forceL_any)); all_goals (conv => whnf); all_goals (try with_reducible apply At.mk)))
      apply q_callv
      focus (exact byNext)
      focus (exact byLo)
      focus exact spread_w (T := W) (m := hc.next) (by (exact byOm)) (hWf _ (by (exact bySame))) w2 (by rw [w3.hulls]; exact za)
      intro h7 q7 hn7
      (focus ((try with_reducible apply wpC.to); (repeat' ((conv => whnf); first | ((apply Start.mk); (focus exact byNext); (focus exact byLen)) | ((apply New.mk); (focus exact byNid)) | ((apply Need.mk); (focus exact byNeed)) | ((apply Fork.mk) <;> (intro _; try (exfalso; omega; done))) | ((apply Load1.mk); (focus exact byMem); (focus exact byVal)) | ((apply LoadN.mk); (focus exact byMem); (focus exact byList)) | ((apply Sto.mk); (focus exact bySto); (focus exact byLo); (focus exact byGet); (focus exact rfl); (focus exact rfl); (focus exact rfl); (focus exact byList)) | ((with_reducible apply Ix.nat); (focus exact rfl); (focus omega)) | ((with_reducible apply Ix.natp); (focus assumption); (focus omega)) | ((with_reducible apply Ix.pred); (focus first | assumption | exact fun _ => rfl); (focus omega); (focus omega)) | ((with_reducible apply Ix.lit); (focus exact byLit); (focus first | assumption | exact fun _ => rfl); (focus omega); (focus omega)) | ((with_reducible apply Ix.int); (focus exact rfl); (focus omega); (focus omega)) | ((with_reducible apply Ix.intp); (focus assumption); (focus omega); (focus omega)) | ((with_reducible apply IxA.nat); (focus omega)) | ((with_reducible apply IxA.lit); (focus exact byLit); (focus omega); (focus omega)) | ((with_reducible apply IxA.int); (focus omega); (focus omega)) | ((apply Wrap.mk); (focus exact byWrap)) | ((apply q_call); (focus exact byNext); (focus exact byLo); (focus (first | exact inside_w | exact works_w)); first | ((apply q_allB) <;> (intro z_b _ _ _; first | exact Bool.noConfusion z_b | replace z_b := of_decide_eq_true z_b | replace z_b := of_decide_eq_false z_b | skip) <;> (first | contradiction | (revert z_b; intros))) | ((apply q_alli) <;> (intro _ _ _ _; try contradiction)) | ((apply q_allv); intro _ _ _)) | apply forceV_any | apply forceL_any)); all_goals (conv => whnf); all_goals (try with_reducible apply At.mk)))
      refine LoadN.mk (l := W.cells) (wf _ (fun r hr => (get_of fun y hy => by (exact byGet) : _ = h6.get r).trans (k1 r hr)) (by (exact byGet))).1 Is.rfl ?_
      (focus ((try with_reducible apply wpC.to); (repeat' ((conv => whnf); first | ((apply Start.mk); (focus exact byNext); (focus exact byLen)) | ((apply New.mk); (focus exact byNid)) | ((apply Need.mk); (focus exact byNeed)) | ((apply Fork.mk) <;> (intro _; try (exfalso; omega; done))) | ((apply Load1.mk); (focus exact byMem); (focus exact byVal)) | ((apply LoadN.mk); (focus exact byMem); (focus exact byList)) | ((apply Sto.mk); (focus exact bySto); (focus exact byLo); (focus exact byGet); (focus exact rfl); (focus exact rfl); (focus exact rfl); (focus exact byList)) | ((with_reducible apply Ix.nat); (focus exact rfl); (focus omega)) | ((with_reducible apply Ix.natp); (focus assumption); (focus omega)) | ((with_reducible apply Ix.pred); (focus first | assumption | exact fun _ => rfl); (focus omega); (focus omega)) | ((with_reducible apply Ix.lit); (focus exact byLit); (focus first | assumption | exact fun _ => rfl); (focus omega); (focus omega)) | ((with_reducible apply Ix.int); (focus exact rfl); (focus omega); (focus omega)) | ((with_reducible apply Ix.intp); (focus assumption); (focus omega); (focus omega)) | ((with_reducible apply IxA.nat); (focus omega)) | ((with_reducible apply IxA.lit); (focus exact byLit); (focus omega); (focus omega)) | ((with_reducible apply IxA.int); (focus omega); (focus omega)) | ((apply Wrap.mk); (focus exact byWrap)) | ((apply q_call); (focus exact byNext); (focus exact byLo); (focus (first | exact inside_w | exact works_w)); first | ((apply q_allB) <;> (intro z_b _ _ _; first | exact Bool.noConfusion z_b | replace z_b := of_decide_eq_true z_b | replace z_b := of_decide_eq_false z_b | skip) <;> (first | contradiction | (revert z_b; intros))) | ((apply q_alli) <;> (intro _ _ _ _; try contradiction)) | ((apply q_allv); intro _ _ _)) | apply forceV_any | apply forceL_any)); all_goals (conv => whnf); all_goals (try with_reducible apply At.mk)))
      apply q_callv
      focus (exact byNext)
      focus (exact byLo)
      focus exact between_w (T := W) (m := hc.next) (by (exact byOm)) (hWf _ (by (exact bySame))) w2 (by rw [w3.hulls]; exact za) (by rw [w3.hulls]; exact zb)
      intro h8 q8 hn8
      (focus ((try with_reducible apply wpC.to); (repeat' ((conv => whnf); first | ((apply Start.mk); (focus exact byNext); (focus exact byLen)) | ((apply New.mk); (focus exact byNid)) | ((apply Need.mk); (focus exact byNeed)) | ((apply Fork.mk) <;> (intro _; try (exfalso; omega; done))) | ((apply Load1.mk); (focus exact byMem); (focus exact byVal)) | ((apply LoadN.mk); (focus exact byMem); (focus exact byList)) | ((apply Sto.mk); (focus exact bySto); (focus exact byLo); (focus exact byGet); (focus exact rfl); (focus exact rfl); (focus exact rfl); (focus exact byList)) | ((with_reducible apply Ix.nat); (focus exact rfl); (focus omega)) | ((with_reducible apply Ix.natp); (focus assumption); (focus omega)) | ((with_reducible apply Ix.pred); (focus first | assumption | exact fun _ => rfl); (focus omega); (focus omega)) | ((with_reducible apply Ix.lit); (focus exact byLit); (focus first | assumption | exact fun _ => rfl); (focus omega); (focus omega)) | ((with_reducible apply Ix.int); (focus exact rfl); (focus omega); (focus omega)) | ((with_reducible apply Ix.intp); (focus assumption); (focus omega); (focus omega)) | ((with_reducible apply IxA.nat); (focus omega)) | ((with_reducible apply IxA.lit); (focus exact byLit); (focus omega); (focus omega)) | ((with_reducible apply IxA.int); (focus omega); (focus omega)) | ((apply Wrap.mk); (focus exact byWrap)) | ((apply q_call); (focus exact byNext); (focus exact byLo); (focus (first | exact inside_w | exact works_w)); first | ((apply q_allB) <;> (intro z_b _ _ _; first | exact Bool.noConfusion z_b | replace z_b := of_decide_eq_true z_b | replace z_b := of_decide_eq_false z_b | skip) <;> (first | contradiction | (revert z_b; intros))) | ((apply q_alli) <;> (intro _ _ _ _; try contradiction)) | ((apply q_allv); intro _ _ _)) | apply forceV_any | apply forceL_any)); all_goals (conv => whnf); all_goals (try with_reducible apply At.mk)))
      all_goals first
        | (refine hK (s + 1) _ _ ⟨rfl, rfl, rfl, rfl, rfl, rfl, rfl, int_of rfl (by omega), trivial⟩ ⟨fun r hr => (get_of fun y hy => by (exact byGet) : _ = h6.get r).trans (k1 r hr), by (exact byOm), by omega, by (exact byGet), by (exact byGet), by (exact byGet)⟩ (by omega); done)
        | (exfalso; omega)

end AE.Try
