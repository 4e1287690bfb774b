/- Walks of span: do runs contradict each other. -/
import Derived.Test.YtkkndecbijgolaaSpanI
set_option linter.unusedVariables false
set_option linter.unusedSimpArgs false
set_option linter.unusedSectionVars false
namespace AE.Try
open Go AE Go.Proofs AE.Sp
set_option maxRecDepth 100000
set_option linter.unusedVariables false

/-- Is a group one that contradicts itself? -/
def GBad (S : Nat → Sd) : List Nat → Prop
  | [i, j] => Bad2 S i j
  | [i, j, k] => Bad3 S i j k
  | _ => False

theorem groups_c {h : H} {T : Tab} {mo : Int} : AW Try.prog 76 h.next h [.pointer (some ⟨T.r, 0, none⟩), .int .i64 mo] (fun v h' => ∃ r1 r2, v = .func (.func 90) ⟨[]⟩ ⟨[.pointer (some ⟨r1, 0, none⟩), .pointer (some ⟨r2, 0, none⟩)]⟩ ∧ (h.next ≤ r1 ∧ r1 < h'.next) ∧ (h.next ≤ r2 ∧ r2 < h'.next) ∧ h'.get r1 = some (.cells [.pointer (some ⟨T.r, 0, none⟩)] 84) ∧ h'.get r2 = some (.cells [.int .i64 mo] 3)) := by
  refine fun76.call rfl (Nat.le_refl _) ?_
  unfold a76
  (focus ((try with_reducible apply wpC.to); (repeat' ((conv => whnf); first | refine byEv ?_ | fail)); all_goals ((conv => whnf); try with_reducible apply At.mk)))
  (refine byFin ?_)
  exact ⟨h.next, h.next + 1, rfl, ⟨by omega, byOm⟩, ⟨by omega, byOm⟩, byGet, byGet⟩

set_option maxHeartbeats 4000000 in
theorem zero_w {h : H} {T : Tab} {m q : Nat} {g : List Nat} (hm : m ≤ h.next) (hT : T.Ok m h) (hgr : Grp (2 * T.n) 3 g) (hg : h.get q = some (.cells (grpCells g) 3)) (hq : q < h.next) :
    AW Try.prog 77 h.next h [.pointer (some ⟨T.r, 0, none⟩), .slice (some ⟨q, 0, none⟩) g.length g.length] (fun v h' => ∃ M : Mk, v = .agg ⟨M.cells⟩ ∧ M.Ok T.S (2 * T.n) h.next h'.next h' ∧ (M.Bad ↔ GBad T.S g)) := by
  rcases hgr with ⟨a, ha, rfl⟩ | ⟨a, b, h1, h2, rfl⟩ | ⟨-, a, b, c, h1, h2, h3, rfl⟩
  · obtain ⟨v, h', rfl, A⟩ := zero1_w (q := q) (e := 3) (i := a) hm hT
    exact ⟨_, h', ⟨Mk.none, rfl, Mk.none_ok, fun k => absurd k.1 (by simp [Mk.none]), fun k => k.elim⟩, A⟩
  · exact zero2_w (e := 3) hm hT h1 h2 hg hq
  · exact zero3_w (e := 3) hm hT h1 h2 h3 hg hq

def ab (n : Int) : Int := max n (-n)
theorem ab_mul {n x : Int} (hx : 0 < x) : ab n * x = ab (n * x) := by
  unfold ab
  rcases Int.le_total 0 n with h | h
  · have := Int.mul_nonneg h (Int.le_of_lt hx)
    rw [show max n (-n) = n by omega]
    omega
  · have := Int.mul_nonneg (show 0 ≤ -n by omega) (Int.le_of_lt hx)
    rw [Int.neg_mul] at this
    rw [show max n (-n) = -n by omega, Int.neg_mul]
    omega
theorem ab_neg (n : Int) : ab (-n) = ab n := by unfold ab; omega
theorem size_eq (s : Sd) : s.size = ab s.u + ab s.v := rfl
theorem size_pos {s : Sd} (h : s.Nz) : 0 < s.size := by
  unfold Sd.Nz at h
  unfold Sd.size
  omega
theorem opp_of {a b : Sd} {x y : Int} (hx : 0 < x) (hy : 0 < y) (eu : x * a.u + y * b.u = 0) (ev : x * a.v + y * b.v = 0) : Opp a b ∧ x * a.size = y * b.size := by
  have u1 : a.u * x = -(b.u * y) := by rw [Int.mul_comm a.u, Int.mul_comm b.u]; omega
  have v1 : a.v * x = -(b.v * y) := by rw [Int.mul_comm a.v, Int.mul_comm b.v]; omega
  have hs : x * a.size = y * b.size := by
    rw [Int.mul_comm x, Int.mul_comm y, size_eq, size_eq, Int.add_mul, Int.add_mul, ab_mul hx, ab_mul hx, ab_mul hy, ab_mul hy, u1, v1, ab_neg, ab_neg]
  refine ⟨⟨zero_of_mul (a := x) (by omega) ?_, zero_of_mul (a := x) (by omega) ?_, zero_of_mul (a := x) (by omega) ?_⟩, hs⟩
  · unfold cr; grind
  · grind
  · grind
theorem clean_of {T : Tab} {m : Nat} {h : H} (hT : T.Ok m h) (k : ∀ g, Grp (2 * T.n) 3 g → ¬ GBad T.S g) : Clean T.S (2 * T.n) := by
  have two : ∀ i j, i < j → j < 2 * T.n → ∀ x y : Int, 0 < x → 0 < y → x * (T.S i).u + y * (T.S j).u = 0 → x * (T.S i).v + y * (T.S j).v = 0 → x * (T.S i).w + y * (T.S j).w ≤ 0 := by
    intro i j hij hj x y hx hy eu ev
    obtain ⟨ho, hs⟩ := opp_of hx hy eu ev
    have hb : ¬ Bad2 T.S i j := k [i, j] (.inr (.inl ⟨i, j, hij, hj, rfl⟩))
    have hle : (T.S i).w * (T.S j).size + (T.S j).w * (T.S i).size ≤ 0 := Int.not_lt.1 fun h => hb ⟨ho, h⟩
    refine np_of_mul (size_pos (hT.nz hj)) ?_
    have e : (T.S j).size * (x * (T.S i).w + y * (T.S j).w) = x * ((T.S i).w * (T.S j).size + (T.S j).w * (T.S i).size) := by grind
    rw [e]
    exact Int.mul_nonpos_of_nonneg_of_nonpos (Int.le_of_lt hx) hle
  have tri : ∀ i j l, i < j → j < l → l < 2 * T.n → ¬ Bad3 T.S i j l := fun i j l h1 h2 h3 => k [i, j, l] (.inr (.inr ⟨rfl, i, j, l, h1, h2, h3, rfl⟩))
  refine ⟨fun i hi => hT.nz hi, fun i j hi hj x y hx hy eu ev => ?_, fun i j l hi hj hl cx cy cz => ?_⟩
  · rcases Nat.lt_trichotomy i j with h | h | h
    · exact two i j h hj x y hx hy eu ev
    · subst h
      exfalso
      rcases hT.nz hi with h | h
      · exact h (zero_of_mul (a := x + y) (by omega) (by rw [Int.add_mul]; exact eu))
      · exact h (zero_of_mul (a := x + y) (by omega) (by rw [Int.add_mul]; exact ev))
    · have := two j i h hi y x hy hx (by omega) (by omega)
      omega
  · have ne : ∀ {a b : Nat}, 0 < cr (T.S a) (T.S b) → a ≠ b := fun h e => by subst e; unfold cr at h; rw [Int.mul_comm] at h; omega
    have n1 := ne cx
    have n2 := ne cy
    have n3 := ne cz
    have sw : ∀ a b, cr (T.S b) (T.S a) = -cr (T.S a) (T.S b) := fun a b => cr_swap _ _
    refine Int.not_lt.1 fun hlt => ?_
    have e1 := sw i j
    have e2 := sw j l
    have e3 := sw l i
    rw [Int.mul_comm (cr (T.S j) (T.S l)), Int.mul_comm (cr (T.S l) (T.S i)), Int.mul_comm (cr (T.S i) (T.S j))] at hlt
    rcases Nat.lt_or_gt_of_ne n3 with h1 | h1 <;> rcases Nat.lt_or_gt_of_ne n1 with h2 | h2 <;> rcases Nat.lt_or_gt_of_ne n2 with h3 | h3
    all_goals first
      | (exfalso; omega)
      | exact tri i j l (by omega) (by omega) (by omega) (.inl ⟨by omega, by omega, by omega, by omega⟩)
      | exact tri j l i (by omega) (by omega) (by omega) (.inl ⟨by omega, by omega, by omega, by omega⟩)
      | exact tri l i j (by omega) (by omega) (by omega) (.inl ⟨by omega, by omega, by omega, by omega⟩)
      | exact tri i l j (by omega) (by omega) (by omega) (.inr ⟨by omega, by omega, by omega, by rw [e1, e2, e3]; simp only [Int.neg_neg]; omega⟩)
      | exact tri j i l (by omega) (by omega) (by omega) (.inr ⟨by omega, by omega, by omega, by rw [e1, e2, e3]; simp only [Int.neg_neg]; omega⟩)
      | exact tri l j i (by omega) (by omega) (by omega) (.inr ⟨by omega, by omega, by omega, by rw [e1, e2, e3]; simp only [Int.neg_neg]; omega⟩)

set_option maxHeartbeats 8000000 in
theorem doubt_w {h : H} {T : Tab} {m : Nat} (hm : m ≤ h.next) (hT : T.Ok m h) : AW Try.prog 46 h.next h [.pointer (some ⟨T.r, 0, none⟩)] (fun v h' => ∃ (M : Mk) (b : Bool), v = .tuple #[.agg ⟨M.cells⟩, .bool b] ∧ (b = true → M.Ok T.S (2 * T.n) h.next h'.next h' ∧ M.Bad) ∧ (b = false → M = Mk.none ∧ Clean T.S (2 * T.n))) := by
  refine fun46.call rfl (Nat.le_refl _) ?_
  unfold a46
  (focus ((try with_reducible apply wpC.to); (repeat' ((conv => whnf); first | refine byEv ?_ | (apply Fork.mk <;> (intro _; try (exfalso; omega))) | ((refine kSpanH2 ?_); first | ((first | apply q_allD | apply q_alli | apply q_allB) <;> intro _ _ _ _ <;> try contradiction) | (apply q_allv; intro _ _ _)) | fail)); all_goals ((conv => whnf); try with_reducible apply At.mk)))
  apply q_call
  focus (exact byNext)
  focus (exact byLo)
  focus exact groups_c (T := T) (mo := 3)
  rintro _ h2 ⟨r1, r2, rfl, b1, b2, g1, g2⟩ q2 n2
  simp only [put_next, bump_next] at b1 b2
  (focus ((try with_reducible apply wpC.to); (repeat' ((conv => whnf); first | refine byEv ?_ | (apply Fork.mk <;> (intro _; try (exfalso; omega))) | ((refine kSpanH2 ?_); first | ((first | apply q_allD | apply q_alli | apply q_allB) <;> intro _ _ _ _ <;> try contradiction) | (apply q_allv; intro _ _ _)) | fail)); all_goals ((conv => whnf); try with_reducible apply At.mk)))
  refine wp_forget (l := [(1, .pointer (some ⟨h.next, 0, none⟩)), (2, .pointer (some ⟨h.next + 1, 0, none⟩)), (3, .bool false), (4, .pointer (some ⟨h.next + 3, 0, none⟩)), (5, .pointer (some ⟨h.next + 4, 0, none⟩)), (9, .func (.func 90) ⟨[]⟩ ⟨[.pointer (some ⟨r1, 0, none⟩), .pointer (some ⟨r2, 0, none⟩)]⟩)]) ⟨rfl, rfl, rfl, rfl, rfl, rfl, trivial⟩ fun g' => ?_
  apply wp_range
  focus exact rfl
  focus (exact byNext)
  focus (exact byList)
  intro L0 hL0
  have x0 : h2.get h.next = some (.cells [.pointer (some ⟨T.r, 0, none⟩)] 84) := by (exact byGet)
  have x1 : h2.get (h.next + 1) = some (.cells [.map none, .int .i64 0, .int .i64 0, .int .i64 0, .int .i64 0] 82) := by (exact byGet)
  have x3 : h2.get (h.next + 3) = some (.cells [.map none, .int .i64 0, .int .i64 0, .int .i64 0, .int .i64 0] 82) := by (exact byGet)
  have x4 : h2.get (h.next + 4) = some (.cells [.bool false] 4) := by (exact byGet)
  have sm2 : Same m h h2 := by (exact bySame)
  refine ⟨_, groups_w (T := T) (m := m) (r1 := r1) (r2 := r2) (mo := 3) (.inr rfl) byOm (hT.same bySame (Nat.le_refl _)) byOm byGet byOm
    (fun l h1 => h1.get h.next = some (.cells [.pointer (some ⟨T.r, 0, none⟩)] 84) ∧ h1.get (h.next + 1) = some (.cells [.map none, .int .i64 0, .int .i64 0, .int .i64 0, .int .i64 0] 82) ∧ h1.get (h.next + 3) = some (.cells [.map none, .int .i64 0, .int .i64 0, .int .i64 0, .int .i64 0] 82) ∧ h1.get (h.next + 4) = some (.cells [.bool false] 4) ∧ h1.get r2 = some (.cells [.int .i64 3] 3) ∧ Same m h h1 ∧ h1.get h2.next = some (.loop L0) ∧ h2.next < h1.next ∧ ∀ g ∈ l, ¬ GBad T.S g)
    (fun h1 => ∃ M : Mk, h1.get (h.next + 1) = some (.cells [.map none, .int .i64 0, .int .i64 0, .int .i64 0, .int .i64 0] 82) ∧ h1.get (h.next + 3) = some (.cells M.cells 82) ∧ h1.get (h.next + 4) = some (.cells [.bool true] 4) ∧ M.Ok T.S (2 * T.n) (h2.next + 1) h1.next h1 ∧ M.Bad ∧ h1.get h2.next = some (.loop (ended (busy L0) (.exit 0))) ∧ h2.next < h1.next)
    (fun l h1 k => k.2.2.2.2.1) ?_ ?_ ?_ ?_ byOm, ?_⟩
  · rintro l h3 h4 ⟨k0, k1, k2, k3, k4, k5, k6, k7, k8⟩ qq
    have := qq.next
    exact ⟨byGet, byGet, byGet, byGet, byGet, bySame, byGet, by omega, k8⟩
  · rintro h3 h4 ⟨M, k1, k2, k3, k4, k5, k6, k7⟩ qq
    have := qq.next
    exact ⟨M, byGet, byGet, byGet, k4.frame (Nat.le_refl _) (by omega) fun r hr1 hr2 => qq.same r hr2, k5, byGet, by omega⟩
  · rintro l g q h3 hg - ⟨k0, k1, k2, k3, k4, k5, k6, k7, k8⟩ hle gq hq1 hq2
    simp only [put_next, bump_next] at hq1
    refine YA.call fun46.mixed (A := a46A0) (B := a46B0) (L := L0) (by rw [hL0]; exact c46A0) (by rw [hL0]; exact c46B0) k6 (by omega) (by omega) (by rw [hL0]; exact rfl) (by rw [hL0]; exact rfl) ?_
    unfold YA a46A0
    refine wp_forget (l := [(1, .pointer (some ⟨h.next, 0, none⟩)), (4, .pointer (some ⟨h.next + 3, 0, none⟩)), (5, .pointer (some ⟨h.next + 4, 0, none⟩)), (10, .slice (some ⟨q, 0, none⟩) g.length g.length)]) ⟨by rw [hL0]; exact rfl, by rw [hL0]; exact rfl, by rw [hL0]; exact rfl, by rw [hL0]; exact rfl, trivial⟩ fun g'' => ?_
    (focus ((try with_reducible apply wpC.to); (repeat' ((conv => whnf); first | refine byEv ?_ | (apply Fork.mk <;> (intro _; try (exfalso; omega))) | ((refine kSpanH2 ?_); first | ((first | apply q_allD | apply q_alli | apply q_allB) <;> intro _ _ _ _ <;> try contradiction) | (apply q_allv; intro _ _ _)) | fail)); all_goals ((conv => whnf); try with_reducible apply At.mk)))
    refine ⟨rfl, L0, byGet, by rw [hL0]; exact rfl, ?_⟩
    unfold a46B0
    (focus ((try with_reducible apply wpC.to); (repeat' ((conv => whnf); first | refine byEv ?_ | (apply Fork.mk <;> (intro _; try (exfalso; omega))) | ((refine kSpanH2 ?_); first | ((first | apply q_allD | apply q_alli | apply q_allB) <;> intro _ _ _ _ <;> try contradiction) | (apply q_allv; intro _ _ _)) | fail)); all_goals ((conv => whnf); try with_reducible apply At.mk)))
    apply q_call
    focus (exact byNext)
    focus (exact byLo)
    focus exact zero_w (T := T) (m := m) (q := q) (g := g) byOm (hT.same bySame (Nat.le_refl _)) hg byGet byOm
    rintro _ h4 ⟨M, rfl, ok, bad⟩ q4 n4
    simp only [put_next, bump_next] at ok n4
    have hL1 : ended (busy L0) .none = L0 := by rw [hL0]; exact rfl
    have go : ¬ M.Bad → ∀ g' ∈ l ++ [g], ¬ GBad T.S g' := fun hb g' hg' => by
      rcases List.mem_append.1 hg' with h1 | h1
      · exact k8 g' h1
      · rw [List.mem_singleton.1 h1]; exact fun k => hb (bad.2 k)
    unfold Mk.cells
    (focus ((try with_reducible apply wpC.to); (repeat' ((conv => whnf); first | refine byEv ?_ | (apply Fork.mk <;> (intro _; try (exfalso; omega))) | ((refine kSpanH2 ?_); first | ((first | apply q_allD | apply q_alli | apply q_allB) <;> intro _ _ _ _ <;> try contradiction) | (apply q_allv; intro _ _ _)) | fail)); all_goals ((conv => whnf); try with_reducible apply At.mk)))
    · have mt : M.t = 1 := by assumption
      by_cases hz : M.s.u = 0 ∧ M.s.v = 0
      · refine OpE.pure (.bool true) (xPure_eql (A := ⟨M.s.flat.cells⟩) (B := ⟨(⟨0, 0, 0⟩ : Sd).cells⟩) rfl rfl rfl rfl rfl (by kernel_rfl) ((eql_sd M.s.flat ⟨0, 0, 0⟩).trans (congrArg some (decide_eq_true ⟨hz.1, hz.2, rfl⟩)))) ?_
        (focus ((try with_reducible apply wpC.to); (repeat' ((conv => whnf); first | refine byEv ?_ | (apply Fork.mk <;> (intro _; try (exfalso; omega))) | ((refine kSpanH2 ?_); first | ((first | apply q_allD | apply q_alli | apply q_allB) <;> intro _ _ _ _ <;> try contradiction) | (apply q_allv; intro _ _ _)) | fail)); all_goals ((conv => whnf); try with_reducible apply At.mk)))
        · have hb : M.Bad := ⟨mt, hz, by assumption⟩
          refine ⟨.exit 0, _, rfl, byGet, .inr ⟨rfl, M, byGet, by first | (exact byGet) | (unfold Mk.cells; (exact byGet)), byGet, ok.frame byOm byOm fun r hr1 hr2 => get_of fun y hy => byGet, hb, byGet, byOm⟩⟩
        · exact ⟨.none, _, rfl, byGet, .inl ⟨rfl, byGet, byGet, byGet, byGet, byGet, bySame, by rw [hL1]; (exact byGet), byOm, go fun k => by have := k.2.2; omega⟩⟩
      · refine OpE.pure (.bool false) (xPure_eql (A := ⟨M.s.flat.cells⟩) (B := ⟨(⟨0, 0, 0⟩ : Sd).cells⟩) rfl rfl rfl rfl rfl (by kernel_rfl) ((eql_sd M.s.flat ⟨0, 0, 0⟩).trans (congrArg some (decide_eq_false fun k => hz ⟨k.1, k.2.1⟩)))) ?_
        (focus ((try with_reducible apply wpC.to); (repeat' ((conv => whnf); first | refine byEv ?_ | (apply Fork.mk <;> (intro _; try (exfalso; omega))) | ((refine kSpanH2 ?_); first | ((first | apply q_allD | apply q_alli | apply q_allB) <;> intro _ _ _ _ <;> try contradiction) | (apply q_allv; intro _ _ _)) | fail)); all_goals ((conv => whnf); try with_reducible apply At.mk)))
        exact ⟨.none, _, rfl, byGet, .inl ⟨rfl, byGet, byGet, byGet, byGet, byGet, bySame, by rw [hL1]; (exact byGet), byOm, go fun k => hz k.2.1⟩⟩
    · exact ⟨.none, _, rfl, byGet, .inl ⟨rfl, byGet, byGet, byGet, byGet, byGet, bySame, by rw [hL1]; (exact byGet), byOm, go fun k => absurd k.1 (by assumption)⟩⟩
  · exact ⟨byGet, byGet, byGet, byGet, byGet, bySame, byGet, byOm, fun g hg => absurd hg (by simp)⟩
  · rintro v h3 hv qq
    rcases hv with ⟨l, hl, -, k0, k1, k2, k3, k4, k5, k6, k7, k8⟩ | ⟨M, k1, k2, k3, k4, k5, k6, k7⟩
    · refine ⟨_, k6, by rw [hL0]; simp [loop0], ?_⟩
      rw [hL0]
      simp only [loop0, pendE]
      (focus ((try with_reducible apply wpC.to); (repeat' ((conv => whnf); first | refine byEv ?_ | (apply Fork.mk <;> (intro _; try (exfalso; omega))) | ((refine kSpanH2 ?_); first | ((first | apply q_allD | apply q_alli | apply q_allB) <;> intro _ _ _ _ <;> try contradiction) | (apply q_allv; intro _ _ _)) | fail)); all_goals ((conv => whnf); try with_reducible apply At.mk)))
      (refine byFin ?_)
      exact ⟨Mk.none, false, rfl, fun h => Bool.noConfusion h, fun _ => ⟨rfl, clean_of hT fun g hg => k8 g (hl g hg)⟩⟩
    · refine ⟨_, k6, by rw [hL0]; simp [loop0, ended, busy, pendS], ?_⟩
      simp only [ended, pendE]
      unfold Mk.cells at k2
      (focus ((try with_reducible apply wpC.to); (repeat' ((conv => whnf); first | refine byEv ?_ | (apply Fork.mk <;> (intro _; try (exfalso; omega))) | ((refine kSpanH2 ?_); first | ((first | apply q_allD | apply q_alli | apply q_allB) <;> intro _ _ _ _ <;> try contradiction) | (apply q_allv; intro _ _ _)) | fail)); all_goals ((conv => whnf); try with_reducible apply At.mk)))
      (refine byFin ?_)
      exact ⟨M, true, rfl, fun _ => ⟨k4.frame byOm byOm fun r hr1 hr2 => get_of fun y hy => byGet, k5⟩, fun h => Bool.noConfusion h⟩
end AE.Try
