/- Walks of drag and its reference: the friction of a line. -/
import Derived.Test.YtndkjpkadfpflaaGreatTDragB
set_option linter.unusedVariables false
set_option linter.unusedSimpArgs false
set_option linter.unusedSectionVars false
namespace AE.Tryz
open Go AE AE.Drag Go.Proofs
set_option maxRecDepth 100000

theorem nan1_w {h : H} {x : Int} : AW Tryz.prog 181 h.next h [.int .i64 x] (fun v _ => v = .bool false) := by
  refine fun181.call rfl (Nat.le_refl _) ?_
  unfold a181
  (focus ((try with_reducible apply wpC.to); (repeat' ((conv => whnf); first | refine byEv ?_ | (apply Fork.mk <;> (intro _; try (exfalso; omega))) | fail)); all_goals ((conv => whnf); try with_reducible apply At.mk)))
  all_goals ((refine byFin ?_); rfl)
theorem nan2_w {h : H} {x : Int} : AW Tryz.prog 180 h.next h [.int .i64 x] (fun v _ => v = .bool false) := by
  refine fun180.call rfl (Nat.le_refl _) ?_
  unfold a180
  (focus ((try with_reducible apply wpC.to); (repeat' ((conv => whnf); first | refine byEv ?_ | (apply Fork.mk <;> (intro _; try (exfalso; omega))) | fail)); all_goals ((conv => whnf); try with_reducible apply At.mk)))
  all_goals ((refine byFin ?_); rfl)
theorem kTDragC0 {G : Prop} (g : G := by (exact nan1_w)) : G := g
theorem kTDragC1 {G : Prop} (g : G := by (exact nan2_w)) : G := g
theorem less_w {h : H} {x y : Int} : AW Tryz.prog 179 h.next h [.int .i64 x, .int .i64 y] (fun v _ => v = .bool (decide (x < y))) := by
  refine fun179.call rfl (Nat.le_refl _) ?_
  unfold a179
  (focus ((try with_reducible apply wpC.to); (repeat' ((conv => whnf); first | refine byEv ?_ | (apply Fork.mk <;> (intro _; try (exfalso; omega))) | ((apply q_call); (focus exact byNext); (focus exact byLo); (focus (exact kTDragC0)); first | ((apply q_allB) <;> (intro z_b _ _ _; first | exact Bool.noConfusion z_b | replace z_b := of_decide_eq_true z_b | replace z_b := of_decide_eq_false z_b | skip) <;> ((try simp only [AllOk, Bd.ok, and_true] at z_b); first | contradiction | (revert z_b; intros))) | ((apply q_alli) <;> intro _ _ _ _ <;> try contradiction) | (apply q_allv; intro _ _ _)) | fail)); all_goals ((conv => whnf); try with_reducible apply At.mk)))
  all_goals ((refine byFin ?_); first | exact bool_t rfl (by omega) | exact bool_f rfl (by omega))
theorem kTDragC2 {G : Prop} (g : G := by (exact less_w)) : G := g
theorem search_w {h : H} {b : Option Addr} {a : Addr} {n c : Nat} {f : Nat → Int} {x : Int} {m : Nat} (hm : m ≤ h.next) (hb : 0 < n → b = some a) (hi : Ints h a n f) (ha : 0 < n → a.block < m) (hn : n < 1000000000000000) (hs : ∀ i j, i < j → j < n → f i < f j) :
    AW Tryz.prog 164 h.next h [.slice b n c, .int .i64 x] (fun v _ => ∃ t, v = .tuple #[.int .i64 (cnt f x n), .bool t]) := by
  refine fun164.call rfl (Nat.le_refl _) ?_
  unfold a164
  (focus ((try with_reducible apply wpC.to); (repeat' ((conv => whnf); first | refine byEv ?_ | (apply Fork.mk <;> (intro _; try (exfalso; omega))) | ((apply q_call); (focus exact byNext); (focus exact byLo); (focus (first | exact kTDragC2 | exact kTDragC1)); first | ((apply q_allB) <;> (intro z_b _ _ _; first | exact Bool.noConfusion z_b | replace z_b := of_decide_eq_true z_b | replace z_b := of_decide_eq_false z_b | skip) <;> ((try simp only [AllOk, Bd.ok, and_true] at z_b); first | contradiction | (revert z_b; intros))) | ((apply q_alli) <;> intro _ _ _ _ <;> try contradiction) | (apply q_allv; intro _ _ _)) | fail)); all_goals ((conv => whnf); try with_reducible apply At.mk)))
  refine wp_loop (fun s : Nat × Nat => [(0, .slice b n c), (1, .int .i64 x), (6, .int .i64 n), (7, .int .i64 s.1), (8, .int .i64 s.2)])
    (fun s h1 => Same h.next h h1 ∧ h.next ≤ h1.next ∧ s.1 ≤ s.2 ∧ s.2 ≤ n ∧ (∀ i, i < s.1 → f i < x) ∧ (∀ i, s.2 ≤ i → i < n → x ≤ f i)) (fun s => s.2 - s.1) (0, n) ⟨rfl, rfl, rfl, rfl, rfl, trivial⟩ ⟨bySame, byOm, by simp, by simp, fun i hi => by simp at hi, fun i h1 h2 => by simp at h1; omega⟩ ?_
  rintro ⟨s, e⟩ g h1 ⟨q, hn1, hs1, hs2, hlo, hhi⟩ K hK
  simp only at hs1 hs2 hlo hhi hK ⊢
  (focus ((try with_reducible apply wpC.to); (repeat' ((conv => whnf); first | refine byEv ?_ | (apply Fork.mk <;> (intro _; try (exfalso; omega))) | ((apply q_call); (focus exact byNext); (focus exact byLo); (focus (first | exact kTDragC2 | exact kTDragC1)); first | ((apply q_allB) <;> (intro z_b _ _ _; first | exact Bool.noConfusion z_b | replace z_b := of_decide_eq_true z_b | replace z_b := of_decide_eq_false z_b | skip) <;> ((try simp only [AllOk, Bd.ok, and_true] at z_b); first | contradiction | (revert z_b; intros))) | ((apply q_alli) <;> intro _ _ _ _ <;> try contradiction) | (apply q_allv; intro _ _ _)) | fail)); all_goals ((conv => whnf); try with_reducible apply At.mk)))
  · have hmid : IntKind.i64.wrap (((s : Int) + (e : Int)).fdiv (2 ^ min (Int.toNat 1) IntKind.u64.bits)) = (((s + e) / 2 : Nat) : Int) := by
      have e1 : (2 : Int) ^ min (Int.toNat 1) IntKind.u64.bits = 2 := rfl
      have e2 : IntKind.i64.wrap (((s : Int) + (e : Int)) / 2) = ((s : Int) + (e : Int)) / 2 := w64_id (by omega)
      rw [e1, Int.fdiv_eq_ediv_of_nonneg _ (by omega), e2]
      omega
    refine Wrap.mk hmid ?_
    have hm1 : s ≤ (s + e) / 2 := by omega
    have hm2 : (s + e) / 2 < e := by omega
    generalize (s + e) / 2 = mid at *
    (focus ((try with_reducible apply wpC.to); (repeat' ((conv => whnf); first | refine byEv ?_ | (apply Fork.mk <;> (intro _; try (exfalso; omega))) | ((apply q_call); (focus exact byNext); (focus exact byLo); (focus (first | exact kTDragC2 | exact kTDragC1)); first | ((apply q_allB) <;> (intro z_b _ _ _; first | exact Bool.noConfusion z_b | replace z_b := of_decide_eq_true z_b | replace z_b := of_decide_eq_false z_b | skip) <;> ((try simp only [AllOk, Bd.ok, and_true] at z_b); first | contradiction | (revert z_b; intros))) | ((apply q_alli) <;> intro _ _ _ _ <;> try contradiction) | (apply q_allv; intro _ _ _)) | fail)); all_goals ((conv => whnf); try with_reducible apply At.mk)))
    · refine hK (mid + 1, e) _ _ ⟨rfl, rfl, rfl, int_of rfl (by simp), rfl, trivial⟩ ⟨bySame, byOm, by simp only; omega, hs2, fun i hi => ?_, hhi⟩ (by simp only; omega)
      simp only at hi
      by_cases he : i = mid
      · subst he; assumption
      · have := hs i mid (by omega) (by omega); omega
    · refine hK (s, mid) _ _ ⟨rfl, rfl, rfl, rfl, rfl, trivial⟩ ⟨bySame, byOm, by simp only; omega, by simp only; omega, hlo, fun i hi1 hi2 => ?_⟩ (by simp only; omega)
      simp only at hi1
      by_cases he : i = mid
      · subst he; omega
      · have := hs mid i (by omega) (by omega); omega
  all_goals
    have hse : s = e := by omega
    subst hse
    have hc : cnt f x n = s := by
      obtain ⟨s1, s2⟩ := cnt_spec (re := f) (x := x) (k := n) hs
      have hl := cnt_le f x n
      rcases Nat.lt_trichotomy (cnt f x n) s with h | h | h
      · have a1 := s2 _ (Nat.le_refl _) (by omega)
        have b1 := hlo _ h
        omega
      · exact h
      · have a1 := s1 s h
        have b1 := hhi s (Nat.le_refl _) (by omega)
        omega
    (refine byFin ?_)
    exact ⟨_, by rw [hc]⟩
theorem after_w {h : H} {b : Option Addr} {a : Addr} {n c : Nat} {f : Nat → Int} {x : Int} {m : Nat} (hm : m ≤ h.next) (hb : 0 < n → b = some a) (hi : Ints h a n f) (ha : 0 < n → a.block < m) (hn : n < 1000000000000000) (hs : ∀ i j, i < j → j < n → f i < f j) {k : Nat} (hk : cnt f x n = k) :
    AW Tryz.prog 121 h.next h [.slice b n c, .int .i64 x] (fun v _ => v = .int .i64 k) := by
  subst hk
  refine fun121.call rfl (Nat.le_refl _) ?_
  unfold a121
  (focus ((try with_reducible apply wpC.to); (repeat' ((conv => whnf); first | refine byEv ?_ | (apply q_call; (focus exact byNext); (focus omega); (focus (apply search_w; rotate_left; (focus assumption); (focus (apply Ints.same'; (focus assumption); (focus assumption); (focus exact bySame))); (focus assumption); (focus assumption); (focus assumption); (focus exact byOm))); rintro _ z_h1 ⟨z_t, z_e⟩ z_q z_hn; subst z_e; revert z_hn z_q z_t z_h1; intros) | fail)); all_goals ((conv => whnf); try with_reducible apply At.mk)))
  all_goals ((refine byFin ?_); rfl)
theorem kTDragC3 {G : Prop} (g : G := by ((apply after_w; rotate_left; (focus assumption); (focus (apply Ints.same'; (focus assumption); (focus assumption); (focus exact bySame))); (focus assumption); (focus assumption); (focus assumption); (focus first | assumption | exact rfl); (focus exact byOm)))) : G := g
theorem ends_w {h : H} {L : Line} {m : Nat} (hm : m ≤ h.next) (hL : L.Ok m h) (hn : 0 < L.n) : AW Tryz.prog 120 h.next h [.agg ⟨L.cells⟩] (fun v _ => v = .agg ⟨[.int .i64 (L.re 0), .int .i64 (L.re (L.n - 1))]⟩) := by
  obtain ⟨e1, i1, r1, e2, i2, r2, l1, l2⟩ := hL
  refine fun120.call rfl (Nat.le_refl _) ?_
  unfold a120
  (focus ((try with_reducible apply wpC.to); (repeat' ((conv => whnf); first | refine byEv ?_ | fail)); all_goals ((conv => whnf); try with_reducible apply At.mk)))
  (refine byFin ?_)
  rfl
theorem kTDragC4 {G : Prop} (g : G := by ((apply AW.arg1; (focus (apply ends_w; rotate_left; (focus (apply Line.Ok.same; (focus assumption); (focus exact bySame); (focus exact Nat.le_refl _))); (focus assumption); (focus exact byOm))); (focus exact Is.rfl)))) : G := g
theorem has_w {h : H} {L : Line} {m : Nat} {lo hi : Int} (hm : m ≤ h.next) (hL : L.Ok m h) (hn : 0 < L.n) : AW Tryz.prog 57 h.next h [.agg ⟨L.cells⟩, .agg ⟨[.int .i64 lo, .int .i64 hi]⟩] (fun v _ => v = .bool (decide (L.re 0 ≤ lo ∧ hi ≤ L.re (L.n - 1)))) := by
  refine fun57.call rfl (Nat.le_refl _) ?_
  unfold a57
  (focus ((try with_reducible apply wpC.to); (repeat' ((conv => whnf); first | refine byEv ?_ | (apply Fork.mk <;> (intro _; try (exfalso; omega))) | ((apply q_call); (focus exact byNext); (focus exact byLo); (focus (exact kTDragC4)); first | ((apply q_allB) <;> (intro z_b _ _ _; first | exact Bool.noConfusion z_b | replace z_b := of_decide_eq_true z_b | replace z_b := of_decide_eq_false z_b | skip) <;> ((try simp only [AllOk, Bd.ok, and_true] at z_b); first | contradiction | (revert z_b; intros))) | ((apply q_alli) <;> intro _ _ _ _ <;> try contradiction) | (apply q_allv; intro _ _ _)) | fail)); all_goals ((conv => whnf); try with_reducible apply At.mk)))
  all_goals ((refine byFin ?_); first | exact bool_t rfl (by omega) | exact bool_f rfl (by omega))
theorem inside_w {h : H} {L : Line} {m : Nat} {lo hi : Int} (hm : m ≤ h.next) (hL : L.Ok m h) (hn : 0 < L.n) : AW Tryz.prog 64 h.next h [.agg ⟨L.cells⟩, .agg ⟨[.int .i64 lo, .int .i64 hi]⟩] (fun v _ => v = .bool (decide (L.re 0 ≤ lo ∧ hi ≤ L.re (L.n - 1)))) := by
  obtain ⟨e1, i1, r1, e2, i2, r2, l1, l2⟩ := hL
  refine fun64.call rfl (Nat.le_refl _) ?_
  unfold a64
  (focus ((try with_reducible apply wpC.to); (repeat' ((conv => whnf); first | refine byEv ?_ | (apply Fork.mk <;> (intro _; try (exfalso; omega))) | fail)); all_goals ((conv => whnf); try with_reducible apply At.mk)))
  all_goals ((refine byFin ?_); first | exact bool_t rfl (by omega) | exact bool_f rfl (by omega))
theorem kTDragC5 {G : Prop} (g : G := by ((apply AW.arg1; (focus (apply has_w; rotate_left; (focus (apply Line.Ok.same; (focus assumption); (focus exact bySame); (focus exact Nat.le_refl _))); (focus omega); (focus exact byOm))); (focus exact Is.rfl)))) : G := g
theorem kTDragC6 {G : Prop} (g : G := by ((apply AW.arg1; (focus (apply inside_w; rotate_left; (focus (apply Line.Ok.same; (focus assumption); (focus exact bySame); (focus exact Nat.le_refl _))); (focus omega); (focus exact byOm))); (focus exact Is.rfl)))) : G := g
set_option maxHeartbeats 1000000 in
theorem friction_w {h : H} {L : Line} {m : Nat} {x : Int} (hm : m ≤ h.next) (hL : L.Ok m h) (v : Valid L) (hin : inside L x) : AW Tryz.prog 58 h.next h [.agg ⟨L.cells⟩, .int .i64 x] (fun w _ => w = .int .i64 (fric L x)) := by
  obtain ⟨e1, i1, r1, e2, i2, r2, l1, l2⟩ := hL
  obtain ⟨k1, k2⟩ := idx_in v hin
  have hmn := v.eq
  have hmid := fun hne => idx_mid v hin hne
  have l3 : L.n < 1000000000000000 := by have := v.hi; omega
  have hs : ∀ i j, i < j → j < L.n → L.re i < L.re j := fun i j a b => v.re_lt a b
  have hc := v.cf_bd k1
  refine fun58.call rfl (Nat.le_refl _) ?_
  unfold a58
  unfold fric fr
  obtain ⟨k, hk⟩ : ∃ k, cnt L.re x L.n = k := ⟨_, rfl⟩
  have hki : idx L x = k := hk
  simp only [hki] at k1 k2 hmid hc ⊢
  have hlo := v.lo
  by_cases hx : L.re k = x
  · (focus ((try with_reducible apply wpC.to); (repeat' ((conv => whnf); first | refine byEv ?_ | (apply Fork.mk <;> (intro _; try (exfalso; omega))) | ((apply q_call); (focus exact byNext); (focus exact byLo); (focus (exact kTDragC3)); first | ((apply q_allB) <;> (intro z_b _ _ _; first | exact Bool.noConfusion z_b | replace z_b := of_decide_eq_true z_b | replace z_b := of_decide_eq_false z_b | skip) <;> ((try simp only [AllOk, Bd.ok, and_true] at z_b); first | contradiction | (revert z_b; intros))) | ((apply q_alli) <;> intro _ _ _ _ <;> try contradiction) | (apply q_allv; intro _ _ _)) | fail)); all_goals ((conv => whnf); try with_reducible apply At.mk)))
    all_goals (refine byFin ?_)
    all_goals rw [if_pos hx]
  · obtain ⟨m1, m2, m3, m4, m5, m6, m7, m8, m9, m10, m11, m12⟩ := hmid hx
    rw [if_neg hx]
    (focus ((try with_reducible apply wpC.to); (repeat' ((conv => whnf); first | refine byEv ?_ | (apply Fork.mk <;> (intro _; try (exfalso; omega))) | ((apply q_call); (focus exact byNext); (focus exact byLo); (focus (exact kTDragC3)); first | ((apply q_allB) <;> (intro z_b _ _ _; first | exact Bool.noConfusion z_b | replace z_b := of_decide_eq_true z_b | replace z_b := of_decide_eq_false z_b | skip) <;> ((try simp only [AllOk, Bd.ok, and_true] at z_b); first | contradiction | (revert z_b; intros))) | ((apply q_alli) <;> intro _ _ _ _ <;> try contradiction) | (apply q_allv; intro _ _ _)) | fail)); all_goals ((conv => whnf); try with_reducible apply At.mk)))
    all_goals ((refine byFin ?_); rfl)
theorem kTDragC7 {G : Prop} (g : G := by ((apply AW.arg1; (focus (apply friction_w; rotate_left; (focus (apply Line.Ok.same; (focus assumption); (focus exact bySame); (focus exact Nat.le_refl _))); (focus assumption); (focus assumption); (focus exact byOm))); (focus exact Is.rfl)))) : G := g
end AE.Tryz
