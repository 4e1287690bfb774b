/- Walks of span: groups of sides that contradict each other. -/
import Derived.Test.YtkkndecbijgolaaSpanG
import Derived.Test.YtkkndecbijgolaaAEthree
set_option linter.unusedVariables false
set_option linter.unusedSimpArgs false
set_option linter.unusedSectionVars false
namespace AE.Try
open Go AE Go.Proofs AE.Sp
set_option maxRecDepth 100000
set_option linter.unusedVariables false

theorem size_up {s : Sd} (k : s.Up 20 100000) : 0 ≤ s.size ∧ s.size ≤ 40 := by
  have := k.u
  have := k.v
  unfold Sd.size
  omega
theorem cr_up {a b : Sd} (k : a.Up 20 100000) (k' : b.Up 20 100000) : -800 ≤ cr a b ∧ cr a b ≤ 800 := by
  have b1 := mul_bnd k.u.1 k.u.2 k'.v.1 k'.v.2
  have b2 := mul_bnd k.v.1 k.v.2 k'.u.1 k'.u.2
  unfold cr
  omega
/-- Two sides point in opposite directions. -/
def Opp (a b : Sd) : Prop := cr a b = 0 ∧ a.u * b.size + b.u * a.size = 0 ∧ a.v * b.size + b.v * a.size = 0
instance (a b : Sd) : Decidable (Opp a b) := inferInstanceAs (Decidable (_ ∧ _ ∧ _))
/-- Two sides contradict each other. -/
def Bad2 (S : Nat → Sd) (i j : Nat) : Prop := Opp (S i) (S j) ∧ 0 < (S i).w * (S j).size + (S j).w * (S i).size
/-- Three sides go around, and contradict each other. -/
def Bad3 (S : Nat → Sd) (i j k : Nat) : Prop :=
  (0 < cr (S j) (S k) ∧ 0 < cr (S k) (S i) ∧ 0 < cr (S i) (S j) ∧ 0 < (S i).w * cr (S j) (S k) + (S j).w * cr (S k) (S i) + (S k).w * cr (S i) (S j)) ∨
  (cr (S j) (S k) < 0 ∧ cr (S k) (S i) < 0 ∧ cr (S i) (S j) < 0 ∧ 0 < (S i).w * -cr (S j) (S k) + (S j).w * -cr (S k) (S i) + (S k).w * -cr (S i) (S j))
/-- What was put together contradicts itself. -/
def Mk.Bad (M : Mk) : Prop := M.t = 1 ∧ (M.s.u = 0 ∧ M.s.v = 0) ∧ 0 < M.s.w
theorem Mk.none_ok {S : Nat → Sd} {N b m : Nat} {h : H} : Mk.none.Ok S N b m h := ⟨fun q e => absurd e (by simp [Mk.none]), fun _ => rfl, by simp [Mk.none], fun p hp => absurd hp (by simp [Mk.none]), by simp [Mk.none], rfl⟩

theorem kSpanH0 {G G' : Prop} (g : G') (t : G' → G := by ((apply q_call); (focus exact byNext); (focus exact byLo); (focus ((apply size_w (F := 20) (W := 100000); (focus assumption); (focus decide)))))) : G := t g
theorem kSpanH1 {G G' : Prop} (g : G') (t : G' → G := by ((apply q_call); (focus exact byNext); (focus exact byLo); (focus ((apply cross_w (F := 20) (W := 100000) (F' := 20) (W' := 100000); (focus assumption); (focus assumption); (focus decide)))))) : G := t g
theorem kSpanH2 {G G' : Prop} (g : G') (t : G' → G := by ((apply q_call); (focus exact byNext); (focus exact byLo); (focus ((apply flat_w))))) : G := t g

theorem take1_w {h : H} {T : Tab} {m q q' : Nat} {e e' : TypeId} {i : Nat} {x t : Int} (hm : m ≤ h.next) (hT : T.Ok m h)  (hl : i < 2 * T.n) (rx : 0 ≤ x ∧ x ≤ 800) (hg : h.get q = some (.cells [.int .i64 (i : Int)] e)) (hb : h.get q' = some (.cells [.int .i64 x] e')) (hq : q < h.next) (hq' : q' < h.next) :
    AW Try.prog 92 h.next h [.pointer (some ⟨T.r, 0, none⟩), .slice (some ⟨q, 0, none⟩) 1 1, .int .i64 t, .slice (some ⟨q', 0, none⟩) 1 1] (fun v h' => ∃ M : Mk, v = .agg ⟨M.cells⟩ ∧ M.Ok T.S (2 * T.n) h.next h'.next h' ∧ M.t = t ∧ M.s = (Sd.add (⟨0, 0, 0⟩ : Sd) ((T.S i).by x)) ∧ M.r ≠ .none ∧ ∀ p ∈ M.l, 0 < p.2 ∨ x = 0) := by
  have i1 := ints_list (l := [(i : Int)]) hg
  have i2 := ints_list (l := [x]) hb
  obtain ⟨v, h', ⟨r, rfl, ok⟩, A⟩ := take_w (h := h) (T := T) (m := max m (max (q + 1) (q' + 1))) (t := t) (G := ⟨1, fun a => [(i : Int)].getD a 0, some ⟨q, 0, none⟩, ⟨q, 0, none⟩, 1⟩) (B := ⟨1, fun a => [x].getD a 0, some ⟨q', 0, none⟩, ⟨q', 0, none⟩, 1⟩) (g := fun a => [i].getD a 0) (b := fun a => [x.toNat].getD a 0) (by omega) (hT.same (Same.refl _ _) (by omega)) ⟨fun _ => rfl, i1, fun _ => by dsimp only; omega, by dsimp only; omega⟩ ⟨fun _ => rfl, i2, fun _ => by dsimp only; omega, by dsimp only; omega⟩ (by dsimp only; omega) rfl
    (fun a ha => by
      have ha : a < 1 := ha
      obtain rfl : a = 0 := by omega
      all_goals exact ⟨rfl, by first | exact hl | (show _ < 2 * T.n; simp; omega)⟩)
    (fun a ha => by
      have ha : a < 1 := ha
      obtain rfl : a = 0 := by omega
      · exact ⟨(Int.toNat_of_nonneg rx.1).symm, by show x.toNat ≤ 800; omega⟩)
    (fun a b hab hb => by
      have hb : b < 1 := hb
      omega
)
  refine ⟨_, h', ⟨_, rfl, ok, rfl, ?_, by simp, fun p hp => ?_⟩, A⟩
  · show comb T.S [(i, x.toNat)] = _
    simp only [comb, List.foldl, Int.toNat_of_nonneg rx.1]
  · have hp : p ∈ [(i, x.toNat)] := hp
    simp only [List.mem_cons, List.not_mem_nil, or_false] at hp
    rcases hp with rfl
    all_goals (dsimp only; omega)
theorem take2_w {h : H} {T : Tab} {m q q' : Nat} {e e' : TypeId} {i j : Nat} {x y t : Int} (hm : m ≤ h.next) (hT : T.Ok m h) (hij : i < j) (hl : j < 2 * T.n) (rx : 0 ≤ x ∧ x ≤ 800) (ry : 0 ≤ y ∧ y ≤ 800) (hg : h.get q = some (.cells [.int .i64 (i : Int), .int .i64 (j : Int)] e)) (hb : h.get q' = some (.cells [.int .i64 x, .int .i64 y] e')) (hq : q < h.next) (hq' : q' < h.next) :
    AW Try.prog 92 h.next h [.pointer (some ⟨T.r, 0, none⟩), .slice (some ⟨q, 0, none⟩) 2 2, .int .i64 t, .slice (some ⟨q', 0, none⟩) 2 2] (fun v h' => ∃ M : Mk, v = .agg ⟨M.cells⟩ ∧ M.Ok T.S (2 * T.n) h.next h'.next h' ∧ M.t = t ∧ M.s = (Sd.add (Sd.add (⟨0, 0, 0⟩ : Sd) ((T.S i).by x)) ((T.S j).by y)) ∧ M.r ≠ .none ∧ ∀ p ∈ M.l, 0 < p.2 ∨ x = 0 ∨ y = 0) := by
  have i1 := ints_list (l := [(i : Int), (j : Int)]) hg
  have i2 := ints_list (l := [x, y]) hb
  obtain ⟨v, h', ⟨r, rfl, ok⟩, A⟩ := take_w (h := h) (T := T) (m := max m (max (q + 1) (q' + 1))) (t := t) (G := ⟨2, fun a => [(i : Int), (j : Int)].getD a 0, some ⟨q, 0, none⟩, ⟨q, 0, none⟩, 2⟩) (B := ⟨2, fun a => [x, y].getD a 0, some ⟨q', 0, none⟩, ⟨q', 0, none⟩, 2⟩) (g := fun a => [i, j].getD a 0) (b := fun a => [x.toNat, y.toNat].getD a 0) (by omega) (hT.same (Same.refl _ _) (by omega)) ⟨fun _ => rfl, i1, fun _ => by dsimp only; omega, by dsimp only; omega⟩ ⟨fun _ => rfl, i2, fun _ => by dsimp only; omega, by dsimp only; omega⟩ (by dsimp only; omega) rfl
    (fun a ha => by
      have ha : a < 2 := ha
      obtain rfl | rfl : a = 0 ∨ a = 1 := by omega
      all_goals exact ⟨rfl, by first | exact hl | (show _ < 2 * T.n; simp; omega)⟩)
    (fun a ha => by
      have ha : a < 2 := ha
      obtain rfl | rfl : a = 0 ∨ a = 1 := by omega
      · exact ⟨(Int.toNat_of_nonneg rx.1).symm, by show x.toNat ≤ 800; omega⟩
      · exact ⟨(Int.toNat_of_nonneg ry.1).symm, by show y.toNat ≤ 800; omega⟩)
    (fun a b hab hb => by
      have hb : b < 2 := hb
      obtain ⟨rfl, rfl⟩ : a = 0 ∧ b = 1 := by omega
      all_goals (simp; omega))
  refine ⟨_, h', ⟨_, rfl, ok, rfl, ?_, by simp, fun p hp => ?_⟩, A⟩
  · show comb T.S [(i, x.toNat), (j, y.toNat)] = _
    simp only [comb, List.foldl, Int.toNat_of_nonneg rx.1, Int.toNat_of_nonneg ry.1]
  · have hp : p ∈ [(i, x.toNat), (j, y.toNat)] := hp
    simp only [List.mem_cons, List.not_mem_nil, or_false] at hp
    rcases hp with rfl | rfl
    all_goals (dsimp only; omega)
theorem take3_w {h : H} {T : Tab} {m q q' : Nat} {e e' : TypeId} {i j k : Nat} {x y z t : Int} (hm : m ≤ h.next) (hT : T.Ok m h) (hij : i < j) (hjk : j < k) (hl : k < 2 * T.n) (rx : 0 ≤ x ∧ x ≤ 800) (ry : 0 ≤ y ∧ y ≤ 800) (rz : 0 ≤ z ∧ z ≤ 800) (hg : h.get q = some (.cells [.int .i64 (i : Int), .int .i64 (j : Int), .int .i64 (k : Int)] e)) (hb : h.get q' = some (.cells [.int .i64 x, .int .i64 y, .int .i64 z] e')) (hq : q < h.next) (hq' : q' < h.next) :
    AW Try.prog 92 h.next h [.pointer (some ⟨T.r, 0, none⟩), .slice (some ⟨q, 0, none⟩) 3 3, .int .i64 t, .slice (some ⟨q', 0, none⟩) 3 3] (fun v h' => ∃ M : Mk, v = .agg ⟨M.cells⟩ ∧ M.Ok T.S (2 * T.n) h.next h'.next h' ∧ M.t = t ∧ M.s = (Sd.add (Sd.add (Sd.add (⟨0, 0, 0⟩ : Sd) ((T.S i).by x)) ((T.S j).by y)) ((T.S k).by z)) ∧ M.r ≠ .none ∧ ∀ p ∈ M.l, 0 < p.2 ∨ x = 0 ∨ y = 0 ∨ z = 0) := by
  have i1 := ints_list (l := [(i : Int), (j : Int), (k : Int)]) hg
  have i2 := ints_list (l := [x, y, z]) hb
  obtain ⟨v, h', ⟨r, rfl, ok⟩, A⟩ := take_w (h := h) (T := T) (m := max m (max (q + 1) (q' + 1))) (t := t) (G := ⟨3, fun a => [(i : Int), (j : Int), (k : Int)].getD a 0, some ⟨q, 0, none⟩, ⟨q, 0, none⟩, 3⟩) (B := ⟨3, fun a => [x, y, z].getD a 0, some ⟨q', 0, none⟩, ⟨q', 0, none⟩, 3⟩) (g := fun a => [i, j, k].getD a 0) (b := fun a => [x.toNat, y.toNat, z.toNat].getD a 0) (by omega) (hT.same (Same.refl _ _) (by omega)) ⟨fun _ => rfl, i1, fun _ => by dsimp only; omega, by dsimp only; omega⟩ ⟨fun _ => rfl, i2, fun _ => by dsimp only; omega, by dsimp only; omega⟩ (by dsimp only; omega) rfl
    (fun a ha => by
      have ha : a < 3 := ha
      obtain rfl | rfl | rfl : a = 0 ∨ a = 1 ∨ a = 2 := by omega
      all_goals exact ⟨rfl, by first | exact hl | (show _ < 2 * T.n; simp; omega)⟩)
    (fun a ha => by
      have ha : a < 3 := ha
      obtain rfl | rfl | rfl : a = 0 ∨ a = 1 ∨ a = 2 := by omega
      · exact ⟨(Int.toNat_of_nonneg rx.1).symm, by show x.toNat ≤ 800; omega⟩
      · exact ⟨(Int.toNat_of_nonneg ry.1).symm, by show y.toNat ≤ 800; omega⟩
      · exact ⟨(Int.toNat_of_nonneg rz.1).symm, by show z.toNat ≤ 800; omega⟩)
    (fun a b hab hb => by
      have hb : b < 3 := hb
      obtain ⟨rfl, rfl⟩ | ⟨rfl, rfl⟩ | ⟨rfl, rfl⟩ : (a = 0 ∧ b = 1) ∨ (a = 0 ∧ b = 2) ∨ (a = 1 ∧ b = 2) := by omega
      all_goals (simp; omega))
  refine ⟨_, h', ⟨_, rfl, ok, rfl, ?_, by simp, fun p hp => ?_⟩, A⟩
  · show comb T.S [(i, x.toNat), (j, y.toNat), (k, z.toNat)] = _
    simp only [comb, List.foldl, Int.toNat_of_nonneg rx.1, Int.toNat_of_nonneg ry.1, Int.toNat_of_nonneg rz.1]
  · have hp : p ∈ [(i, x.toNat), (j, y.toNat), (k, z.toNat)] := hp
    simp only [List.mem_cons, List.not_mem_nil, or_false] at hp
    rcases hp with rfl | rfl | rfl
    all_goals (dsimp only; omega)
/-- A group of sides, as the code makes it. -/
theorem zero1_w {h : H} {T : Tab} {m q : Nat} {e : TypeId} {i : Nat} (hm : m ≤ h.next) (hT : T.Ok m h) : AW Try.prog 77 h.next h [.pointer (some ⟨T.r, 0, none⟩), .slice (some ⟨q, 0, none⟩) 1 1] (fun v h' => v = .agg ⟨Mk.none.cells⟩) := by
  refine fun77.call rfl (Nat.le_refl _) ?_
  unfold a77
  (focus ((try with_reducible apply wpC.to); (repeat' ((conv => whnf); first | refine byEv ?_ | (apply Fork.mk <;> (intro _; try (exfalso; omega))) | ((first | refine kSpanH2 ?_ | refine kSpanH1 ?_ | refine kSpanH0 ?_ | refine kSpanG0 ?_); first | ((first | apply q_allD | apply q_alli | apply q_allB) <;> intro _ _ _ _ <;> try contradiction) | (apply q_allv; intro _ _ _)) | fail)); all_goals ((conv => whnf); try with_reducible apply At.mk)))
  (refine byFin ?_)
  rfl
set_option maxHeartbeats 4000000 in
theorem zero2_w {h : H} {T : Tab} {m q : Nat} {e : TypeId} {i j : Nat} (hm : m ≤ h.next) (hT : T.Ok m h) (hij : i < j) (hj : j < 2 * T.n) (hg : h.get q = some (.cells [.int .i64 (i : Int), .int .i64 (j : Int)] e)) (hq : q < h.next) :
    AW Try.prog 77 h.next h [.pointer (some ⟨T.r, 0, none⟩), .slice (some ⟨q, 0, none⟩) 2 2] (fun v h' => ∃ M : Mk, v = .agg ⟨M.cells⟩ ∧ M.Ok T.S (2 * T.n) h.next h'.next h' ∧ (M.Bad ↔ Bad2 T.S i j)) := by
  have ui := hT.up (i := i) (by omega)
  have uj := hT.up (i := j) hj
  have si := size_up ui
  have sj := size_up uj
  have tsi := hT.si
  have tse := hT.se
  have tsr := hT.sr (by omega)
  have tg := hT.g
  have trr := hT.rr
  refine fun77.call rfl (Nat.le_refl _) ?_
  unfold a77
  (focus ((try with_reducible apply wpC.to); (repeat' ((conv => whnf); first | refine byEv ?_ | (apply Fork.mk <;> (intro _; try (exfalso; omega))) | ((first | refine kSpanH2 ?_ | refine kSpanH1 ?_ | refine kSpanH0 ?_ | refine kSpanG0 ?_); first | ((first | apply q_allD | apply q_alli | apply q_allB) <;> intro _ _ _ _ <;> try contradiction) | (apply q_allv; intro _ _ _)) | fail)); all_goals ((conv => whnf); try with_reducible apply At.mk)))
  rotate_left
  · (refine byFin ?_)
    exact ⟨Mk.none, rfl, Mk.none_ok, fun k => absurd k.1 (by simp [Mk.none]), fun k => absurd k.1.1 (by assumption)⟩
  have hc : cr (T.S i) (T.S j) = 0 := by assumption
  have b1 := by_up ui (n := (T.S j).size.toNat) (by omega)
  have b2 := by_up uj (n := (T.S i).size.toNat) (by omega)
  rw [Int.toNat_of_nonneg sj.1] at b1
  rw [Int.toNat_of_nonneg si.1] at b2
  apply q_callv
  focus (exact byNext)
  focus (exact byLo)
  focus exact sum2_w (a := (T.S i).by (T.S j).size) (b := (T.S j).by (T.S i).size) (F := 16000) (W := 80000000) (e := 80) b1 b2 (by decide) (by decide) byGet byOm
  intro h2 q2 n2
  (focus ((try with_reducible apply wpC.to); (repeat' ((conv => whnf); first | refine byEv ?_ | (apply Fork.mk <;> (intro _; try (exfalso; omega))) | ((first | refine kSpanH2 ?_ | refine kSpanH1 ?_ | refine kSpanH0 ?_ | refine kSpanG0 ?_); first | ((first | apply q_allD | apply q_alli | apply q_allB) <;> intro _ _ _ _ <;> try contradiction) | (apply q_allv; intro _ _ _)) | fail)); all_goals ((conv => whnf); try with_reducible apply At.mk)))
  have hopp : (((T.S i).u * (T.S j).size + (T.S j).u * (T.S i).size = 0 ∧ (T.S i).v * (T.S j).size + (T.S j).v * (T.S i).size = 0 ∧ (0 : Int) = 0) ↔ Opp (T.S i) (T.S j)) := ⟨fun k => ⟨hc, k.1, k.2.1⟩, fun k => ⟨k.2.1, k.2.2, rfl⟩⟩
  by_cases hP : Opp (T.S i) (T.S j)
  · have heq := (eql_sd (((T.S i).by (T.S j).size).add ((T.S j).by (T.S i).size)).flat ⟨0, 0, 0⟩).trans (congrArg some (decide_eq_true (hopp.2 hP)))
    refine OpE.pure (.bool true) (xPure_eql (A := ⟨(((T.S i).by (T.S j).size).add ((T.S j).by (T.S i).size)).flat.cells⟩) (B := ⟨(⟨0, 0, 0⟩ : Sd).cells⟩) rfl rfl rfl rfl rfl (by kernel_rfl) heq) ?_
    (focus ((try with_reducible apply wpC.to); (repeat' ((conv => whnf); first | refine byEv ?_ | (apply Fork.mk <;> (intro _; try (exfalso; omega))) | ((first | refine kSpanH2 ?_ | refine kSpanH1 ?_ | refine kSpanH0 ?_ | refine kSpanG0 ?_); first | ((first | apply q_allD | apply q_alli | apply q_allB) <;> intro _ _ _ _ <;> try contradiction) | (apply q_allv; intro _ _ _)) | fail)); all_goals ((conv => whnf); try with_reducible apply At.mk)))
    apply q_call
    focus (exact byNext)
    focus (exact byLo)
    focus exact take2_w (T := T) (m := m) (i := i) (j := j) (x := (T.S j).size) (y := (T.S i).size) (e := e) (e' := 2) byOm (hT.same bySame (Nat.le_refl _)) hij hj (by omega) (by omega) byGet byGet byOm byOm
    rintro _ h4 ⟨M, rfl, ok, mt, ms, mr, -⟩ q4 n4
    simp only [put_next, bump_next] at ok
    unfold Mk.cells
    (focus ((try with_reducible apply wpC.to); (repeat' ((conv => whnf); first | refine byEv ?_ | (apply Fork.mk <;> (intro _; try (exfalso; omega))) | ((first | refine kSpanH2 ?_ | refine kSpanH1 ?_ | refine kSpanH0 ?_ | refine kSpanG0 ?_); first | ((first | apply q_allD | apply q_alli | apply q_allB) <;> intro _ _ _ _ <;> try contradiction) | (apply q_allv; intro _ _ _)) | fail)); all_goals ((conv => whnf); try with_reducible apply At.mk)))
    (refine byFin ?_)
    refine ⟨M, rfl, ok.frame byOm byOm (fun r hr1 hr2 => get_of fun y hy => byGet), ⟨fun k => ⟨hP, ?_⟩, fun k => ⟨mt, ?_, ?_⟩⟩⟩
    · have := k.2.2
      rw [ms] at this
      simp only [Sd.add, Sd.by, Int.zero_add] at this
      exact this
    · rw [ms]
      simp only [Sd.add, Sd.by, Int.zero_add]
      exact hP.2
    · rw [ms]
      simp only [Sd.add, Sd.by, Int.zero_add]
      exact k.2
  · have heq := (eql_sd (((T.S i).by (T.S j).size).add ((T.S j).by (T.S i).size)).flat ⟨0, 0, 0⟩).trans (congrArg some (decide_eq_false (fun k => hP (hopp.1 k))))
    refine OpE.pure (.bool false) (xPure_eql (A := ⟨(((T.S i).by (T.S j).size).add ((T.S j).by (T.S i).size)).flat.cells⟩) (B := ⟨(⟨0, 0, 0⟩ : Sd).cells⟩) rfl rfl rfl rfl rfl (by kernel_rfl) heq) ?_
    (focus ((try with_reducible apply wpC.to); (repeat' ((conv => whnf); first | refine byEv ?_ | (apply Fork.mk <;> (intro _; try (exfalso; omega))) | ((first | refine kSpanH2 ?_ | refine kSpanH1 ?_ | refine kSpanH0 ?_ | refine kSpanG0 ?_); first | ((first | apply q_allD | apply q_alli | apply q_allB) <;> intro _ _ _ _ <;> try contradiction) | (apply q_allv; intro _ _ _)) | fail)); all_goals ((conv => whnf); try with_reducible apply At.mk)))
    (refine byFin ?_)
    exact ⟨Mk.none, rfl, Mk.none_ok, fun k => absurd k.1 (by simp [Mk.none]), fun k => absurd k.1 hP⟩
set_option maxHeartbeats 4000000 in
theorem zero3_w {h : H} {T : Tab} {m q : Nat} {e : TypeId} {i j k : Nat} (hm : m ≤ h.next) (hT : T.Ok m h) (hij : i < j) (hjk : j < k) (hk : k < 2 * T.n) (hg : h.get q = some (.cells [.int .i64 (i : Int), .int .i64 (j : Int), .int .i64 (k : Int)] e)) (hq : q < h.next) :
    AW Try.prog 77 h.next h [.pointer (some ⟨T.r, 0, none⟩), .slice (some ⟨q, 0, none⟩) 3 3] (fun v h' => ∃ M : Mk, v = .agg ⟨M.cells⟩ ∧ M.Ok T.S (2 * T.n) h.next h'.next h' ∧ (M.Bad ↔ Bad3 T.S i j k)) := by
  have ui := hT.up (i := i) (by omega)
  have uj := hT.up (i := j) (by omega)
  have uk := hT.up (i := k) hk
  have cx := cr_up uj uk
  have cy := cr_up uk ui
  have cz := cr_up ui uj
  have tsi := hT.si
  have tse := hT.se
  have tsr := hT.sr (by omega)
  have tg := hT.g
  have trr := hT.rr
  refine fun77.call rfl (Nat.le_refl _) ?_
  unfold a77
  (focus ((try with_reducible apply wpC.to); (repeat' ((conv => whnf); first | refine byEv ?_ | (apply Fork.mk <;> (intro _; try (exfalso; omega))) | ((first | refine kSpanH2 ?_ | refine kSpanH1 ?_ | refine kSpanH0 ?_ | refine kSpanG0 ?_); first | ((first | apply q_allD | apply q_alli | apply q_allB) <;> intro _ _ _ _ <;> try contradiction) | (apply q_allv; intro _ _ _)) | fail)); all_goals ((conv => whnf); try with_reducible apply At.mk)))
  refine OpE.pure (.int .i64 (max (max (cr (T.S j) (T.S k)) (cr (T.S k) (T.S i))) (cr (T.S i) (T.S j)))) (xPure_max3 rfl rfl rfl rfl) ?_
  (focus ((try with_reducible apply wpC.to); (repeat' ((conv => whnf); first | refine byEv ?_ | (apply Fork.mk <;> (intro _; try (exfalso; omega))) | ((first | refine kSpanH2 ?_ | refine kSpanH1 ?_ | refine kSpanH0 ?_ | refine kSpanG0 ?_); first | ((first | apply q_allD | apply q_alli | apply q_allB) <;> intro _ _ _ _ <;> try contradiction) | (apply q_allv; intro _ _ _)) | fail)); all_goals ((conv => whnf); try with_reducible apply At.mk)))
  · refine OpE.pure (.int .i64 (min (min (-cr (T.S j) (T.S k)) (-cr (T.S k) (T.S i))) (-cr (T.S i) (T.S j)))) (xPure_min3 rfl rfl rfl rfl) ?_
    (focus ((try with_reducible apply wpC.to); (repeat' ((conv => whnf); first | refine byEv ?_ | (apply Fork.mk <;> (intro _; try (exfalso; omega))) | ((first | refine kSpanH2 ?_ | refine kSpanH1 ?_ | refine kSpanH0 ?_ | refine kSpanG0 ?_); first | ((first | apply q_allD | apply q_alli | apply q_allB) <;> intro _ _ _ _ <;> try contradiction) | (apply q_allv; intro _ _ _)) | fail)); all_goals ((conv => whnf); try with_reducible apply At.mk)))
    · apply q_call
      focus (exact byNext)
      focus (exact byLo)
      focus exact take3_w (T := T) (m := m) (i := i) (j := j) (k := k) (x := -cr (T.S j) (T.S k)) (y := -cr (T.S k) (T.S i)) (z := -cr (T.S i) (T.S j)) (e := e) (e' := 2) byOm (hT.same bySame (Nat.le_refl _)) hij hjk hk (by omega) (by omega) (by omega) byGet byGet byOm byOm
      rintro _ h4 ⟨M, rfl, ok, mt, ms, mr, -⟩ q4 n4
      simp only [put_next, bump_next] at ok
      unfold Mk.cells
      (focus ((try with_reducible apply wpC.to); (repeat' ((conv => whnf); first | refine byEv ?_ | (apply Fork.mk <;> (intro _; try (exfalso; omega))) | ((first | refine kSpanH2 ?_ | refine kSpanH1 ?_ | refine kSpanH0 ?_ | refine kSpanG0 ?_); first | ((first | apply q_allD | apply q_alli | apply q_allB) <;> intro _ _ _ _ <;> try contradiction) | (apply q_allv; intro _ _ _)) | fail)); all_goals ((conv => whnf); try with_reducible apply At.mk)))
      (refine byFin ?_)
      refine ⟨M, rfl, ok.frame byOm byOm (fun r hr1 hr2 => get_of fun y hy => byGet), ⟨fun k => Or.inr ⟨by omega, by omega, by omega, ?_⟩, fun k => ⟨mt, ?_, ?_⟩⟩⟩
      · have := k.2.2
        rw [ms] at this
        simp only [Sd.add, Sd.by, Int.zero_add] at this
        exact this
      · rw [ms]
        simp only [Sd.add, Sd.by, Int.zero_add]
        unfold cr
        constructor <;> grind
      · rw [ms]
        simp only [Sd.add, Sd.by, Int.zero_add]
        rcases k with k | k
        · exfalso; omega
        · exact k.2.2.2
  · refine OpE.pure (.int .i64 (min (min (cr (T.S j) (T.S k)) (cr (T.S k) (T.S i))) (cr (T.S i) (T.S j)))) (xPure_min3 rfl rfl rfl rfl) ?_
    (focus ((try with_reducible apply wpC.to); (repeat' ((conv => whnf); first | refine byEv ?_ | (apply Fork.mk <;> (intro _; try (exfalso; omega))) | ((first | refine kSpanH2 ?_ | refine kSpanH1 ?_ | refine kSpanH0 ?_ | refine kSpanG0 ?_); first | ((first | apply q_allD | apply q_alli | apply q_allB) <;> intro _ _ _ _ <;> try contradiction) | (apply q_allv; intro _ _ _)) | fail)); all_goals ((conv => whnf); try with_reducible apply At.mk)))
    · apply q_call
      focus (exact byNext)
      focus (exact byLo)
      focus exact take3_w (T := T) (m := m) (i := i) (j := j) (k := k) (x := cr (T.S j) (T.S k)) (y := cr (T.S k) (T.S i)) (z := cr (T.S i) (T.S j)) (e := e) (e' := 2) byOm (hT.same bySame (Nat.le_refl _)) hij hjk hk (by omega) (by omega) (by omega) byGet byGet byOm byOm
      rintro _ h4 ⟨M, rfl, ok, mt, ms, mr, -⟩ q4 n4
      simp only [put_next, bump_next] at ok
      unfold Mk.cells
      (focus ((try with_reducible apply wpC.to); (repeat' ((conv => whnf); first | refine byEv ?_ | (apply Fork.mk <;> (intro _; try (exfalso; omega))) | ((first | refine kSpanH2 ?_ | refine kSpanH1 ?_ | refine kSpanH0 ?_ | refine kSpanG0 ?_); first | ((first | apply q_allD | apply q_alli | apply q_allB) <;> intro _ _ _ _ <;> try contradiction) | (apply q_allv; intro _ _ _)) | fail)); all_goals ((conv => whnf); try with_reducible apply At.mk)))
      (refine byFin ?_)
      refine ⟨M, rfl, ok.frame byOm byOm (fun r hr1 hr2 => get_of fun y hy => byGet), ⟨fun k => Or.inl ⟨by omega, by omega, by omega, ?_⟩, fun k => ⟨mt, ?_, ?_⟩⟩⟩
      · have := k.2.2
        rw [ms] at this
        simp only [Sd.add, Sd.by, Int.zero_add] at this
        exact this
      · rw [ms]
        simp only [Sd.add, Sd.by, Int.zero_add]
        unfold cr
        constructor <;> grind
      · rw [ms]
        simp only [Sd.add, Sd.by, Int.zero_add]
        rcases k with k | k
        · exact k.2.2.2
        · exfalso; omega
    · (refine byFin ?_)
      exact ⟨Mk.none, rfl, Mk.none_ok, fun k => absurd k.1 (by simp [Mk.none]), fun k => by rcases k with k | k <;> (exfalso; omega)⟩
end AE.Try
