/- Walks and plain laws: TDragB, TDragC, TDragD. -/
import Derived.Test.YtneenfjffejnoaaGreatJoin16
set_option linter.unusedVariables false
set_option linter.unusedSimpArgs false
set_option linter.unusedSectionVars false

/- Walks of drag and its reference: which lines are valid. -/
namespace AE.Tryz
open Go AE AE.Drag Go.Proofs
set_option maxRecDepth 100000

inductive BdL : List Value → List Bd → Prop
 | nil : BdL [] []
 | cons {a b lo hi : Int} {cs : List Value} {l : List Bd} (h : BdL cs l) : BdL (.int .i64 a :: .int .i64 b :: .int .i64 lo :: .int .i64 hi :: cs) (⟨a, b, lo, hi⟩ :: l)
def AllOk : List Bd → Prop
 | [] => True
 | b :: l => b.ok ∧ AllOk l
instance : (l : List Bd) → Decidable (AllOk l)
 | [] => .isTrue trivial
 | b :: l => by unfold AllOk; have := instDecidableAllOk l; infer_instance
theorem BdL.len {cs : List Value} {l : List Bd} (h : BdL cs l) : cs.length = l.length * 4 := by
 induction h with
 | nil => rfl
 | cons _ ih => simp only [List.length_cons, ih]; omega
theorem BdL.get {cs : List Value} {l : List Bd} (h : BdL cs l) : ∀ i, i < l.length → (cs.drop (i * 4)).take 4 = (l.getD i ⟨0, 0, 0, 0⟩).cells := by
 induction h with
 | nil => intro i hi; simp at hi
 | cons h ih =>
   intro i hi
   cases i with
   | zero => simp [Bd.cells]
   | succ i =>
     have := ih i (by simpa using hi)
     rw [show (i + 1) * 4 = i * 4 + 4 by omega]
     simpa using this
theorem allOk_iff (l : List Bd) : AllOk l ↔ ∀ i, i < l.length → (l.getD i ⟨0, 0, 0, 0⟩).ok := by
 induction l with
 | nil => simp [AllOk]
 | cons b l ih =>
   rw [AllOk, ih]
   constructor
   ·rintro ⟨h1, h2⟩ i hi
    cases i with
    | zero => simpa using h1
    | succ i => simpa using h2 i (by simpa using hi)
   ·intro h
    refine ⟨by simpa using h 0 (by simp), fun i hi => by simpa using h (i + 1) (by simpa using hi)⟩

theorem goodL_w {h : H} {r s n c : Nat} {cs : List Value} {l : List Bd} (hr : r < h.next) (hg : h.get r = some (.cells [.slice (some ⟨s, 0, none⟩) n c] 423)) (ha : s < h.next) (hs : h.get s = some (.cells cs 327)) (hl : BdL cs l) (hn : n = l.length) (hn' : l.length < 1000000000000000) :
 AW Tryz.prog 209 h.next h [.func (.func 361) ⟨[]⟩ ⟨[.pointer (some ⟨r, 0, none⟩)]⟩] (fun v _ => v = .bool (decide (AllOk l))) := by
 subst hn
 have e : decide (AllOk l) = decide (∀ i, i < l.length → ((fun i => l.getD i ⟨0, 0, 0, 0⟩) i).ok) := by simp only [allOk_iff]
 rw [e]
 refine good_w hr hg ha hn' fun i hi => ?_
 refine loadN_cells hs ?_
 unfold cut
 have := hl.len
 rw [if_pos (by show 0 + i * 4 + 4 ≤ _; omega)]
 rw [show 0 + i * 4 = i * 4 by omega, hl.get i hi]
theorem kTDragB0 {G : Prop} (g : G := by ((apply goodL_w; (focus exact byOm); (focus exact byGet); (focus exact byOm); (focus exact byGet); (focus (repeat (first | exact BdL.nil | apply BdL.cons))); (focus exact rfl); (focus (simp only [List.length_cons, List.length_nil]; omega))))) : G := g
theorem lineErr_6 {L : Line} (h : L.n < 2 ∨ 12 < L.n) : lineErr L = 6 := by unfold lineErr; rw [if_pos h]
theorem lineErr_15 {L : Line} (h : 2 ≤ L.n) (h' : L.n ≤ 12) (e : L.m ≠ L.n) : lineErr L = 15 := by unfold lineErr; rw [if_neg byO, if_pos e]
theorem lineErr_2 {L : Line} (h : 2 ≤ L.n) (h' : L.n ≤ 12) (e : L.m = L.n) {i : Nat} (hi : i < L.n) (hp : ¬ pointOk L i) : lineErr L = 2 := by
 unfold lineErr; rw [if_neg byO, if_neg byO, if_neg (fun k => hp (k i hi))]
theorem lineErr_0 {L : Line} (h : 2 ≤ L.n) (h' : L.n ≤ 12) (e : L.m = L.n) (hp : ∀ i, i < L.n → pointOk L i) : lineErr L = 0 := by
 unfold lineErr; rw [if_neg byO, if_neg byO, if_pos hp]

set_option maxHeartbeats 1000000 in
theorem checkLine_w {h : H} {L : Line} {m : Nat} (hm : m ≤ h.next) (hL : L.Ok m h) : AW Tryz.prog 212 h.next h [.agg ⟨L.cells⟩] (fun v _ => v = .int .i64 (lineErr L)) := by
 obtain ⟨e1, i1, r1, e2, i2, r2, l1, l2⟩ := hL
 refine fun212.call rfl (Nat.le_refl _) ?_
 unfold a212
 (focus ((try with_reducible apply wpC.to); (repeat' ((conv => whnf); first | refine byEv ?_ | (apply Fork.mk <;> (intro _; try (exfalso; omega))) | ((apply q_call); (focus exact byNext); (focus exact byLo); (focus (first | exact kTDragB0 | exact kTDragA2)); first | ((apply q_allB) <;> (intro z_b _ _ _; first | exact Bool.noConfusion z_b | replace z_b := of_decide_eq_true z_b | replace z_b := of_decide_eq_false z_b | skip) <;> ((try simp only [AllOk, Bd.ok, and_true] at z_b); first | contradiction | (revert z_b; intros))) | ((apply q_alli) <;> intro _ _ _ _ <;> try contradiction) | (apply q_allv; intro _ _ _)) | (apply q_call; (focus exact byNext); (focus omega); (focus exact bounds_w); rintro _ z_h1 ⟨z_r, z_e, z_hr1, z_hr2, z_hg⟩ z_q z_hn; subst z_e; (try simp only [put_next, bump_next] at z_hr1); revert z_hn z_q z_hg z_hr2 z_hr1 z_r z_h1; intros) | fail)); all_goals ((conv => whnf); try with_reducible apply At.mk)))
 ·(refine byFin ?_)
  exact int_of rfl (lineErr_6 byO).symm
 ·(refine byFin ?_)
  exact int_of rfl (lineErr_6 byO).symm
 ·(refine byFin ?_)
  exact int_of rfl (lineErr_15 byO byO byO).symm
 have hmn : L.m = L.n := by omega
 refine wp_loop (fun s : Nat => [(1, .pointer (some ⟨h.next + 0, 0, none⟩)), (3, .int .i64 (if s = 0 then 0 else L.re (s - 1))), (4, .int .i64 (if s = 0 then 100000 else L.cf (s - 1))), (27, .slice L.b1 L.n L.c1), (28, .int .i64 L.n), (29, .int .i64 s)])
  (fun s h1 => h1.get (h.next + 0) = some (.cells L.cells 71) ∧ Same h.next h h1 ∧ h.next < h1.next ∧ s ≤ L.n ∧ ∀ i, i < s → pointOk L i) (fun s => L.n - s) 0 ⟨rfl, rfl, rfl, rfl, rfl, rfl, trivial⟩ ⟨byGet, bySame, byOm, by omega, fun i hi => by omega⟩ ?_
 rintro s g h1 ⟨g1, q, hn1, hs, hok⟩ K hK
 unfold Line.cells at g1
 have hp : ∃ p : Int, p = (if s = 0 then 0 else L.re (s - 1)) ∧ 0 ≤ p ∧ p ≤ 1000000000 := ⟨_, rfl, by
  split
  ·omega
  ·have := hok (s - 1) byO; unfold pointOk at this; omega⟩
 obtain ⟨p, hp, hp0, hp1⟩ := hp
 rw [← hp]
 have hc : ∃ c : Int, c = (if s = 0 then 100000 else L.cf (s - 1)) ∧ c ≤ 100000 := ⟨_, rfl, by
  split
  ·omega
  ·have := hok (s - 1) byO; unfold pointOk at this; omega⟩
 obtain ⟨c, hc, hc1⟩ := hc
 rw [← hc]
 (focus ((try with_reducible apply wpC.to); (repeat' ((conv => whnf); first | refine byEv ?_ | (apply Fork.mk <;> (intro _; try (exfalso; omega))) | ((apply q_call); (focus exact byNext); (focus exact byLo); (focus (first | exact kTDragB0 | exact kTDragA2)); first | ((apply q_allB) <;> (intro z_b _ _ _; first | exact Bool.noConfusion z_b | replace z_b := of_decide_eq_true z_b | replace z_b := of_decide_eq_false z_b | skip) <;> ((try simp only [AllOk, Bd.ok, and_true] at z_b); first | contradiction | (revert z_b; intros))) | ((apply q_alli) <;> intro _ _ _ _ <;> try contradiction) | (apply q_allv; intro _ _ _)) | (apply q_call; (focus exact byNext); (focus omega); (focus exact bounds_w); rintro _ z_h1 ⟨z_r, z_e, z_hr1, z_hr2, z_hg⟩ z_q z_hn; subst z_e; (try simp only [put_next, bump_next] at z_hr1); revert z_hn z_q z_hg z_hr2 z_hr1 z_r z_h1; intros) | fail)); all_goals ((conv => whnf); try with_reducible apply At.mk)))
 ·apply hK (s + 1)
  ·refine ⟨rfl, int_of rfl (by simp), int_of rfl (by simp), rfl, rfl, int_of rfl byO, trivial⟩
  ·refine ⟨byGet, bySame, byOm, by omega, fun i hi => ?_⟩
   by_cases e : i = s
   ·subst e
    unfold pointOk
    refine ⟨by omega, by omega, by omega, by omega, ?_⟩
    intro hi0
    rw [if_neg byO] at hp hc
    omega
   ·exact hok i byO
  ·omega
 ·(refine byFin ?_)
  refine int_of rfl (lineErr_2 byO byO hmn (i := s) byO ?_).symm
  unfold pointOk
  split at hp
  ·rename_i h0; subst h0; rw [if_pos rfl] at hc; omega
  ·rename_i h0; rw [if_neg h0] at hc; omega
 ·(refine byFin ?_)
  have : s = L.n := by omega
  subst this
  exact int_of rfl (lineErr_0 byO byO hmn hok).symm
theorem kTDragB1 {G : Prop} (g : G := by ((apply AW.arg1; (focus (apply checkLine_w; rotate_left; (focus (apply Line.Ok.same; (focus assumption); (focus exact bySame); (focus exact Nat.le_refl _))); (focus exact byOm))); (focus exact Is.rfl)))) : G := g
set_option maxHeartbeats 1000000 in
theorem refCheckLine_w {h : H} {L : Line} {m : Nat} (hm : m ≤ h.next) (hL : L.Ok m h) : AW Tryz.prog 22 h.next h [.agg ⟨L.cells⟩] (fun v _ => v = .int .i64 (lineErr L)) := by
 obtain ⟨e1, i1, r1, e2, i2, r2, l1, l2⟩ := hL
 refine fun22.call rfl (Nat.le_refl _) ?_
 unfold a22
 (focus ((try with_reducible apply wpC.to); (repeat' ((conv => whnf); first | refine byEv ?_ | (apply Fork.mk <;> (intro _; try (exfalso; omega))) | ((apply q_call); (focus exact byNext); (focus exact byLo); (focus (exact kTDragA0)); first | ((apply q_allB) <;> (intro z_b _ _ _; first | exact Bool.noConfusion z_b | replace z_b := of_decide_eq_true z_b | replace z_b := of_decide_eq_false z_b | skip) <;> ((try simp only [AllOk, Bd.ok, and_true] at z_b); first | contradiction | (revert z_b; intros))) | ((apply q_alli) <;> intro _ _ _ _ <;> try contradiction) | (apply q_allv; intro _ _ _)) | fail)); all_goals ((conv => whnf); try with_reducible apply At.mk)))
 ·(refine byFin ?_)
  exact int_of rfl (lineErr_6 byO).symm
 ·(refine byFin ?_)
  exact int_of rfl (lineErr_6 byO).symm
 ·(refine byFin ?_)
  exact int_of rfl (lineErr_15 byO byO byO).symm
 have hmn : L.m = L.n := by omega
 refine wp_loop (fun s : Nat => [(1, .pointer (some ⟨h.next + 0, 0, none⟩)), (3, .int .i64 s)])
  (fun s h1 => h1.get (h.next + 0) = some (.cells L.cells 71) ∧ Same h.next h h1 ∧ h.next < h1.next ∧ s ≤ L.n ∧ ∀ i, i < s → pointOk L i) (fun s => L.n - s) 0 ⟨rfl, rfl, trivial⟩ ⟨byGet, bySame, byOm, by omega, fun i hi => by omega⟩ ?_
 rintro s g h1 ⟨g1, q, hn1, hs, hok⟩ K hK
 unfold Line.cells at g1
 (focus ((try with_reducible apply wpC.to); (repeat' ((conv => whnf); first | refine byEv ?_ | (apply Fork.mk <;> (intro _; try (exfalso; omega))) | ((apply q_call); (focus exact byNext); (focus exact byLo); (focus (exact kTDragA0)); first | ((apply q_allB) <;> (intro z_b _ _ _; first | exact Bool.noConfusion z_b | replace z_b := of_decide_eq_true z_b | replace z_b := of_decide_eq_false z_b | skip) <;> ((try simp only [AllOk, Bd.ok, and_true] at z_b); first | contradiction | (revert z_b; intros))) | ((apply q_alli) <;> intro _ _ _ _ <;> try contradiction) | (apply q_allv; intro _ _ _)) | fail)); all_goals ((conv => whnf); try with_reducible apply At.mk)))
 all_goals first
  | ((refine byFin ?_); exact int_of rfl (lineErr_2 byO byO hmn (i := s) byO (by unfold pointOk; omega)).symm)
  | ((refine byFin ?_)
     have : s = L.n := by omega
     subst this
     exact int_of rfl (lineErr_0 byO byO hmn hok).symm)
  | (refine hK (s + 1) _ _ ⟨rfl, int_of rfl byO, trivial⟩ ⟨byGet, bySame, byOm, by omega, fun i hi => ?_⟩ byO
     by_cases e : i = s
     ·subst e; unfold pointOk; omega
     ·exact hok i byO)
theorem kTDragB2 {G : Prop} (g : G := by ((apply AW.arg1; (focus (apply refCheckLine_w; rotate_left; (focus (apply Line.Ok.same; (focus assumption); (focus exact bySame); (focus exact Nat.le_refl _))); (focus exact byOm))); (focus exact Is.rfl)))) : G := g
end AE.Tryz

/- Walks of drag and its reference: the friction of a line. -/
namespace AE.Tryz
open Go AE AE.Drag Go.Proofs
set_option maxRecDepth 100000

theorem nan1_w {h : H} {x : Int} : AW Tryz.prog 354 h.next h [.int .i64 x] (fun v _ => v = .bool false) := by
 refine fun354.call rfl (Nat.le_refl _) ?_
 unfold a354
 (focus ((try with_reducible apply wpC.to); (repeat' ((conv => whnf); first | refine byEv ?_ | (apply Fork.mk <;> (intro _; try (exfalso; omega))) | fail)); all_goals ((conv => whnf); try with_reducible apply At.mk)))
 all_goals ((refine byFin ?_); rfl)
theorem nan2_w {h : H} {x : Int} : AW Tryz.prog 396 h.next h [.int .i64 x] (fun v _ => v = .bool false) := by
 refine fun396.call rfl (Nat.le_refl _) ?_
 unfold a396
 (focus ((try with_reducible apply wpC.to); (repeat' ((conv => whnf); first | refine byEv ?_ | (apply Fork.mk <;> (intro _; try (exfalso; omega))) | fail)); all_goals ((conv => whnf); try with_reducible apply At.mk)))
 all_goals ((refine byFin ?_); rfl)
theorem kTDragC0 {G : Prop} (g : G := by (exact nan1_w)) : G := g
theorem kTDragC1 {G : Prop} (g : G := by (exact nan2_w)) : G := g
theorem less_w {h : H} {x y : Int} : AW Tryz.prog 278 h.next h [.int .i64 x, .int .i64 y] (fun v _ => v = .bool (decide (x < y))) := by
 refine fun278.call rfl (Nat.le_refl _) ?_
 unfold a278
 (focus ((try with_reducible apply wpC.to); (repeat' ((conv => whnf); first | refine byEv ?_ | (apply Fork.mk <;> (intro _; try (exfalso; omega))) | ((apply q_call); (focus exact byNext); (focus exact byLo); (focus (exact kTDragC0)); first | ((apply q_allB) <;> (intro z_b _ _ _; first | exact Bool.noConfusion z_b | replace z_b := of_decide_eq_true z_b | replace z_b := of_decide_eq_false z_b | skip) <;> ((try simp only [AllOk, Bd.ok, and_true] at z_b); first | contradiction | (revert z_b; intros))) | ((apply q_alli) <;> intro _ _ _ _ <;> try contradiction) | (apply q_allv; intro _ _ _)) | fail)); all_goals ((conv => whnf); try with_reducible apply At.mk)))
 all_goals ((refine byFin ?_); first | exact bool_t rfl byO | exact bool_f rfl byO)
theorem kTDragC2 {G : Prop} (g : G := by (exact less_w)) : G := g
theorem search_w {h : H} {b : Option Addr} {a : Addr} {n c : Nat} {f : Nat → Int} {x : Int} {m : Nat} (hm : m ≤ h.next) (hb : 0 < n → b = some a) (hi : Ints h a n f) (ha : 0 < n → a.block < m) (hn : n < 1000000000000000) (hs : ∀ i j, i < j → j < n → f i < f j) :
 AW Tryz.prog 351 h.next h [.slice b n c, .int .i64 x] (fun v _ => ∃ t, v = .tuple #[.int .i64 (cnt f x n), .bool t]) := by
 refine fun351.call rfl (Nat.le_refl _) ?_
 unfold a351
 (focus ((try with_reducible apply wpC.to); (repeat' ((conv => whnf); first | refine byEv ?_ | (apply Fork.mk <;> (intro _; try (exfalso; omega))) | ((apply q_call); (focus exact byNext); (focus exact byLo); (focus (first | exact kTDragC2 | exact kTDragC1)); first | ((apply q_allB) <;> (intro z_b _ _ _; first | exact Bool.noConfusion z_b | replace z_b := of_decide_eq_true z_b | replace z_b := of_decide_eq_false z_b | skip) <;> ((try simp only [AllOk, Bd.ok, and_true] at z_b); first | contradiction | (revert z_b; intros))) | ((apply q_alli) <;> intro _ _ _ _ <;> try contradiction) | (apply q_allv; intro _ _ _)) | fail)); all_goals ((conv => whnf); try with_reducible apply At.mk)))
 refine wp_loop (fun s : Nat × Nat => [(0, .slice b n c), (1, .int .i64 x), (6, .int .i64 n), (7, .int .i64 s.1), (8, .int .i64 s.2)])
  (fun s h1 => Same h.next h h1 ∧ h.next ≤ h1.next ∧ s.1 ≤ s.2 ∧ s.2 ≤ n ∧ (∀ i, i < s.1 → f i < x) ∧ (∀ i, s.2 ≤ i → i < n → x ≤ f i)) (fun s => s.2 - s.1) (0, n) ⟨rfl, rfl, rfl, rfl, rfl, trivial⟩ ⟨bySame, byOm, by simp, by simp, fun i hi => by simp at hi, fun i h1 h2 => by simp at h1; omega⟩ ?_
 rintro ⟨s, e⟩ g h1 ⟨q, hn1, hs1, hs2, hlo, hhi⟩ K hK
 simp only at hs1 hs2 hlo hhi hK ⊢
 (focus ((try with_reducible apply wpC.to); (repeat' ((conv => whnf); first | refine byEv ?_ | (apply Fork.mk <;> (intro _; try (exfalso; omega))) | ((apply q_call); (focus exact byNext); (focus exact byLo); (focus (first | exact kTDragC2 | exact kTDragC1)); first | ((apply q_allB) <;> (intro z_b _ _ _; first | exact Bool.noConfusion z_b | replace z_b := of_decide_eq_true z_b | replace z_b := of_decide_eq_false z_b | skip) <;> ((try simp only [AllOk, Bd.ok, and_true] at z_b); first | contradiction | (revert z_b; intros))) | ((apply q_alli) <;> intro _ _ _ _ <;> try contradiction) | (apply q_allv; intro _ _ _)) | fail)); all_goals ((conv => whnf); try with_reducible apply At.mk)))
 ·have hmid : IntKind.i64.wrap (((s : Int) + (e : Int)).fdiv (2 ^ min (Int.toNat 1) IntKind.u64.bits)) = (((s + e) / 2 : Nat) : Int) := by
   have e1 : (2 : Int) ^ min (Int.toNat 1) IntKind.u64.bits = 2 := rfl
   have e2 : IntKind.i64.wrap (((s : Int) + (e : Int)) / 2) = ((s : Int) + (e : Int)) / 2 := w64_id byO
   rw [e1, Int.fdiv_eq_ediv_of_nonneg _ byO, e2]
   omega
  refine Wrap.mk hmid ?_
  have hm1 : s ≤ (s + e) / 2 := by omega
  have hm2 : (s + e) / 2 < e := by omega
  generalize (s + e) / 2 = mid at *
  (focus ((try with_reducible apply wpC.to); (repeat' ((conv => whnf); first | refine byEv ?_ | (apply Fork.mk <;> (intro _; try (exfalso; omega))) | ((apply q_call); (focus exact byNext); (focus exact byLo); (focus (first | exact kTDragC2 | exact kTDragC1)); first | ((apply q_allB) <;> (intro z_b _ _ _; first | exact Bool.noConfusion z_b | replace z_b := of_decide_eq_true z_b | replace z_b := of_decide_eq_false z_b | skip) <;> ((try simp only [AllOk, Bd.ok, and_true] at z_b); first | contradiction | (revert z_b; intros))) | ((apply q_alli) <;> intro _ _ _ _ <;> try contradiction) | (apply q_allv; intro _ _ _)) | fail)); all_goals ((conv => whnf); try with_reducible apply At.mk)))
  ·refine hK (mid + 1, e) _ _ ⟨rfl, rfl, rfl, int_of rfl (by simp), rfl, trivial⟩ ⟨bySame, byOm, by simp only; omega, hs2, fun i hi => ?_, hhi⟩ (by simp only; omega)
   simp only at hi
   by_cases he : i = mid
   ·subst he; assumption
   ·have := hs i mid byO byO; omega
  ·refine hK (s, mid) _ _ ⟨rfl, rfl, rfl, rfl, rfl, trivial⟩ ⟨bySame, byOm, by simp only; omega, by simp only; omega, hlo, fun i hi1 hi2 => ?_⟩ (by simp only; omega)
   simp only at hi1
   by_cases he : i = mid
   ·subst he; omega
   ·have := hs mid i byO byO; omega
 all_goals
  have hse : s = e := by omega
  subst hse
  have hc : cnt f x n = s := by
   obtain ⟨s1, s2⟩ := cnt_spec (re := f) (x := x) (k := n) hs
   have hl := cnt_le f x n
   rcases Nat.lt_trichotomy (cnt f x n) s with h | h | h
   ·have a1 := s2 _ (Nat.le_refl _) byO
    have b1 := hlo _ h
    omega
   ·exact h
   ·have a1 := s1 s h
    have b1 := hhi s (Nat.le_refl _) byO
    omega
  (refine byFin ?_)
  exact ⟨_, by rw [hc]⟩
theorem after_w {h : H} {b : Option Addr} {a : Addr} {n c : Nat} {f : Nat → Int} {x : Int} {m : Nat} (hm : m ≤ h.next) (hb : 0 < n → b = some a) (hi : Ints h a n f) (ha : 0 < n → a.block < m) (hn : n < 1000000000000000) (hs : ∀ i j, i < j → j < n → f i < f j) {k : Nat} (hk : cnt f x n = k) :
 AW Tryz.prog 296 h.next h [.slice b n c, .int .i64 x] (fun v _ => v = .int .i64 k) := by
 subst hk
 refine fun296.call rfl (Nat.le_refl _) ?_
 unfold a296
 (focus ((try with_reducible apply wpC.to); (repeat' ((conv => whnf); first | refine byEv ?_ | (apply q_call; (focus exact byNext); (focus omega); (focus (apply search_w; rotate_left; (focus assumption); (focus (apply Ints.same'; (focus assumption); (focus assumption); (focus exact bySame))); (focus assumption); (focus assumption); (focus assumption); (focus exact byOm))); rintro _ z_h1 ⟨z_t, z_e⟩ z_q z_hn; subst z_e; revert z_hn z_q z_t z_h1; intros) | fail)); all_goals ((conv => whnf); try with_reducible apply At.mk)))
 all_goals ((refine byFin ?_); rfl)
theorem kTDragC3 {G : Prop} (g : G := by ((apply after_w; rotate_left; (focus assumption); (focus (apply Ints.same'; (focus assumption); (focus assumption); (focus exact bySame))); (focus assumption); (focus assumption); (focus assumption); (focus first | assumption | exact rfl); (focus exact byOm)))) : G := g
theorem ends_w {h : H} {L : Line} {m : Nat} (hm : m ≤ h.next) (hL : L.Ok m h) (hn : 0 < L.n) : AW Tryz.prog 295 h.next h [.agg ⟨L.cells⟩] (fun v _ => v = .agg ⟨[.int .i64 (L.re 0), .int .i64 (L.re (L.n - 1))]⟩) := by
 obtain ⟨e1, i1, r1, e2, i2, r2, l1, l2⟩ := hL
 refine fun295.call rfl (Nat.le_refl _) ?_
 unfold a295
 (focus ((try with_reducible apply wpC.to); (repeat' ((conv => whnf); first | refine byEv ?_ | fail)); all_goals ((conv => whnf); try with_reducible apply At.mk)))
 (refine byFin ?_)
 rfl
theorem kTDragC4 {G : Prop} (g : G := by ((apply AW.arg1; (focus (apply ends_w; rotate_left; (focus (apply Line.Ok.same; (focus assumption); (focus exact bySame); (focus exact Nat.le_refl _))); (focus assumption); (focus exact byOm))); (focus exact Is.rfl)))) : G := g
theorem has_w {h : H} {L : Line} {m : Nat} {lo hi : Int} (hm : m ≤ h.next) (hL : L.Ok m h) (hn : 0 < L.n) : AW Tryz.prog 215 h.next h [.agg ⟨L.cells⟩, .agg ⟨[.int .i64 lo, .int .i64 hi]⟩] (fun v _ => v = .bool (decide (L.re 0 ≤ lo ∧ hi ≤ L.re (L.n - 1)))) := by
 refine fun215.call rfl (Nat.le_refl _) ?_
 unfold a215
 (focus ((try with_reducible apply wpC.to); (repeat' ((conv => whnf); first | refine byEv ?_ | (apply Fork.mk <;> (intro _; try (exfalso; omega))) | ((apply q_call); (focus exact byNext); (focus exact byLo); (focus (exact kTDragC4)); first | ((apply q_allB) <;> (intro z_b _ _ _; first | exact Bool.noConfusion z_b | replace z_b := of_decide_eq_true z_b | replace z_b := of_decide_eq_false z_b | skip) <;> ((try simp only [AllOk, Bd.ok, and_true] at z_b); first | contradiction | (revert z_b; intros))) | ((apply q_alli) <;> intro _ _ _ _ <;> try contradiction) | (apply q_allv; intro _ _ _)) | fail)); all_goals ((conv => whnf); try with_reducible apply At.mk)))
 all_goals ((refine byFin ?_); first | exact bool_t rfl byO | exact bool_f rfl byO)
theorem kTDragC5 {G : Prop} (g : G := by ((apply AW.arg1; (focus (apply has_w; rotate_left; (focus (apply Line.Ok.same; (focus assumption); (focus exact bySame); (focus exact Nat.le_refl _))); (focus omega); (focus exact byOm))); (focus exact Is.rfl)))) : G := g
theorem kTDragC6 {G : Prop} (g : G := by ((apply AW.arg1; (focus (apply inside_w; rotate_left; (focus (apply Line.Ok.same; (focus assumption); (focus exact bySame); (focus exact Nat.le_refl _))); (focus omega); (focus exact byOm))); (focus exact Is.rfl)))) : G := g
set_option maxHeartbeats 1000000 in
theorem friction_w {h : H} {L : Line} {m : Nat} {x : Int} (hm : m ≤ h.next) (hL : L.Ok m h) (v : Valid L) (hin : inside L x) : AW Tryz.prog 216 h.next h [.agg ⟨L.cells⟩, .int .i64 x] (fun w _ => w = .int .i64 (fric L x)) := by
 obtain ⟨e1, i1, r1, e2, i2, r2, l1, l2⟩ := hL
 obtain ⟨k1, k2⟩ := idx_in v hin
 have hmn := v.eq
 have hmid := fun hne => idx_mid v hin hne
 have l3 : L.n < 1000000000000000 := by have := v.hi; omega
 have hs : ∀ i j, i < j → j < L.n → L.re i < L.re j := fun i j a b => v.re_lt a b
 have hc := v.cf_bd k1
 refine fun216.call rfl (Nat.le_refl _) ?_
 unfold a216
 unfold fric fr
 obtain ⟨k, hk⟩ : ∃ k, cnt L.re x L.n = k := ⟨_, rfl⟩
 have hki : idx L x = k := hk
 simp only [hki] at k1 k2 hmid hc ⊢
 have hlo := v.lo
 by_cases hx : L.re k = x
 ·(focus ((try with_reducible apply wpC.to); (repeat' ((conv => whnf); first | refine byEv ?_ | (apply Fork.mk <;> (intro _; try (exfalso; omega))) | ((apply q_call); (focus exact byNext); (focus exact byLo); (focus (first | exact kTDragC6 | exact kTDragC3)); first | ((apply q_allB) <;> (intro z_b _ _ _; first | exact Bool.noConfusion z_b | replace z_b := of_decide_eq_true z_b | replace z_b := of_decide_eq_false z_b | skip) <;> ((try simp only [AllOk, Bd.ok, and_true] at z_b); first | contradiction | (revert z_b; intros))) | ((apply q_alli) <;> intro _ _ _ _ <;> try contradiction) | (apply q_allv; intro _ _ _)) | fail)); all_goals ((conv => whnf); try with_reducible apply At.mk)))
  all_goals (refine byFin ?_)
  all_goals rw [if_pos hx]
 ·obtain ⟨m1, m2, m3, m4, m5, m6, m7, m8, m9, m10, m11, m12⟩ := hmid hx
  rw [if_neg hx]
  (focus ((try with_reducible apply wpC.to); (repeat' ((conv => whnf); first | refine byEv ?_ | (apply Fork.mk <;> (intro _; try (exfalso; omega))) | ((apply q_call); (focus exact byNext); (focus exact byLo); (focus (first | exact kTDragC6 | exact kTDragC3)); first | ((apply q_allB) <;> (intro z_b _ _ _; first | exact Bool.noConfusion z_b | replace z_b := of_decide_eq_true z_b | replace z_b := of_decide_eq_false z_b | skip) <;> ((try simp only [AllOk, Bd.ok, and_true] at z_b); first | contradiction | (revert z_b; intros))) | ((apply q_alli) <;> intro _ _ _ _ <;> try contradiction) | (apply q_allv; intro _ _ _)) | fail)); all_goals ((conv => whnf); try with_reducible apply At.mk)))
  all_goals ((refine byFin ?_); rfl)
theorem kTDragC7 {G : Prop} (g : G := by ((apply AW.arg1; (focus (apply friction_w; rotate_left; (focus (apply Line.Ok.same; (focus assumption); (focus exact bySame); (focus exact Nat.le_refl _))); (focus assumption); (focus assumption); (focus exact byOm))); (focus exact Is.rfl)))) : G := g
end AE.Tryz

/- Walks of drag and its reference: Friction. -/
namespace AE.Tryz
open Go AE AE.Drag Go.Proofs
set_option maxRecDepth 100000

theorem kTDragD0 {G : Prop} (g : G := by ((apply AW.arg1; (focus (apply refFric_w; rotate_left; (focus (apply Line.Ok.same; (focus assumption); (focus exact bySame); (focus exact Nat.le_refl _))); (focus assumption); (focus exact byOm))); (focus exact Is.rfl)))) : G := g
end AE.Tryz
