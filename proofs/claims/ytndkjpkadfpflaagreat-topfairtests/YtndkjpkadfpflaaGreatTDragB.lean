/- Walks of drag and its reference: which lines are valid. -/
import Derived.Test.YtndkjpkadfpflaaGreatTDragA
set_option linter.unusedVariables false
set_option linter.unusedSimpArgs false
set_option linter.unusedSectionVars false
namespace AE.Tryz
open Go AE AE.Drag Go.Proofs
set_option maxRecDepth 100000

/-- Bounds, as cells. -/
inductive BdL : List Value → List Bd → Prop
  | nil : BdL [] []
  | cons {a b lo hi : Int} {cs : List Value} {l : List Bd} (h : BdL cs l) : BdL (.int .i64 a :: .int .i64 b :: .int .i64 lo :: .int .i64 hi :: cs) (⟨a, b, lo, hi⟩ :: l)
def AllOk : List Bd → Prop
  | [] => True
  | b :: l => b.ok ∧ AllOk l
instance : (l : List Bd) → Decidable (AllOk l)
  | [] => .isTrue trivial
  | b :: l => by unfold AllOk; have := instDecidableAllOk l; infer_instance
theorem BdL.len {cs : List Value} {l : List Bd} (h : BdL cs l) : cs.length = l.length * 4 := by
  induction h with
  | nil => rfl
  | cons _ ih => simp only [List.length_cons, ih]; omega
theorem BdL.get {cs : List Value} {l : List Bd} (h : BdL cs l) : ∀ i, i < l.length → (cs.drop (i * 4)).take 4 = (l.getD i ⟨0, 0, 0, 0⟩).cells := by
  induction h with
  | nil => intro i hi; simp at hi
  | cons h ih =>
    intro i hi
    cases i with
    | zero => simp [Bd.cells]
    | succ i =>
      have := ih i (by simpa using hi)
      rw [show (i + 1) * 4 = i * 4 + 4 by omega]
      simpa using this
theorem allOk_iff (l : List Bd) : AllOk l ↔ ∀ i, i < l.length → (l.getD i ⟨0, 0, 0, 0⟩).ok := by
  induction l with
  | nil => simp [AllOk]
  | cons b l ih =>
    rw [AllOk, ih]
    constructor
    · rintro ⟨h1, h2⟩ i hi
      cases i with
      | zero => simpa using h1
      | succ i => simpa using h2 i (by simpa using hi)
    · intro h
      refine ⟨by simpa using h 0 (by simp), fun i hi => by simpa using h (i + 1) (by simpa using hi)⟩

theorem goodL_w {h : H} {r s n c : Nat} {cs : List Value} {l : List Bd} (hr : r < h.next) (hg : h.get r = some (.cells [.slice (some ⟨s, 0, none⟩) n c] 199)) (ha : s < h.next) (hs : h.get s = some (.cells cs 126)) (hl : BdL cs l) (hn : n = l.length) (hn' : l.length < 1000000000000000) :
    AW Tryz.prog 68 h.next h [.func (.func 167) ⟨[]⟩ ⟨[.pointer (some ⟨r, 0, none⟩)]⟩] (fun v _ => v = .bool (decide (AllOk l))) := by
  subst hn
  have e : decide (AllOk l) = decide (∀ i, i < l.length → ((fun i => l.getD i ⟨0, 0, 0, 0⟩) i).ok) := by simp only [allOk_iff]
  rw [e]
  refine good_w hr hg ha hn' fun i hi => ?_
  refine loadN_cells hs ?_
  unfold cut
  have := hl.len
  rw [if_pos (by show 0 + i * 4 + 4 ≤ _; omega)]
  rw [show 0 + i * 4 = i * 4 by omega, hl.get i hi]
theorem kTDragB0 {G : Prop} (g : G := by ((apply goodL_w; (focus exact byOm); (focus exact byGet); (focus exact byOm); (focus exact byGet); (focus (repeat (first | exact BdL.nil | apply BdL.cons))); (focus exact rfl); (focus (simp only [List.length_cons, List.length_nil]; omega))))) : G := g
theorem lineErr_6 {L : Line} (h : L.n < 2 ∨ 12 < L.n) : lineErr L = 6 := by unfold lineErr; rw [if_pos h]
theorem lineErr_15 {L : Line} (h : 2 ≤ L.n) (h' : L.n ≤ 12) (e : L.m ≠ L.n) : lineErr L = 15 := by unfold lineErr; rw [if_neg (by omega), if_pos e]
theorem lineErr_2 {L : Line} (h : 2 ≤ L.n) (h' : L.n ≤ 12) (e : L.m = L.n) {i : Nat} (hi : i < L.n) (hp : ¬ pointOk L i) : lineErr L = 2 := by
  unfold lineErr; rw [if_neg (by omega), if_neg (by omega), if_neg (fun k => hp (k i hi))]
theorem lineErr_0 {L : Line} (h : 2 ≤ L.n) (h' : L.n ≤ 12) (e : L.m = L.n) (hp : ∀ i, i < L.n → pointOk L i) : lineErr L = 0 := by
  unfold lineErr; rw [if_neg (by omega), if_neg (by omega), if_pos hp]

set_option maxHeartbeats 1000000 in
theorem checkLine_w {h : H} {L : Line} {m : Nat} (hm : m ≤ h.next) (hL : L.Ok m h) : AW Tryz.prog 56 h.next h [.agg ⟨L.cells⟩] (fun v _ => v = .int .i64 (lineErr L)) := by
  obtain ⟨e1, i1, r1, e2, i2, r2, l1, l2⟩ := hL
  refine fun56.call rfl (Nat.le_refl _) ?_
  unfold a56
  (focus ((try with_reducible apply wpC.to); (repeat' ((conv => whnf); first | refine byEv ?_ | (apply Fork.mk <;> (intro _; try (exfalso; omega))) | ((apply q_call); (focus exact byNext); (focus exact byLo); (focus (first | exact kTDragB0 | exact kTDragA2)); first | ((apply q_allB) <;> (intro z_b _ _ _; first | exact Bool.noConfusion z_b | replace z_b := of_decide_eq_true z_b | replace z_b := of_decide_eq_false z_b | skip) <;> ((try simp only [AllOk, Bd.ok, and_true] at z_b); first | contradiction | (revert z_b; intros))) | ((apply q_alli) <;> intro _ _ _ _ <;> try contradiction) | (apply q_allv; intro _ _ _)) | (apply q_call; (focus exact byNext); (focus omega); (focus exact bounds_w); rintro _ z_h1 ⟨z_r, z_e, z_hr1, z_hr2, z_hg⟩ z_q z_hn; subst z_e; (try simp only [put_next, bump_next] at z_hr1); revert z_hn z_q z_hg z_hr2 z_hr1 z_r z_h1; intros) | fail)); all_goals ((conv => whnf); try with_reducible apply At.mk)))
  · (refine byFin ?_)
    exact int_of rfl (lineErr_6 (by omega)).symm
  · (refine byFin ?_)
    exact int_of rfl (lineErr_6 (by omega)).symm
  · (refine byFin ?_)
    exact int_of rfl (lineErr_15 (by omega) (by omega) (by omega)).symm
  have hmn : L.m = L.n := by omega
  refine wp_loop (fun s : Nat => [(1, .pointer (some ⟨h.next + 0, 0, none⟩)), (3, .int .i64 (if s = 0 then 0 else L.re (s - 1))), (4, .int .i64 (if s = 0 then 100000 else L.cf (s - 1))), (27, .slice L.b1 L.n L.c1), (28, .int .i64 L.n), (29, .int .i64 s)])
    (fun s h1 => h1.get (h.next + 0) = some (.cells L.cells 59) ∧ Same h.next h h1 ∧ h.next < h1.next ∧ s ≤ L.n ∧ ∀ i, i < s → pointOk L i) (fun s => L.n - s) 0 ⟨rfl, rfl, rfl, rfl, rfl, rfl, trivial⟩ ⟨byGet, bySame, byOm, by omega, fun i hi => by omega⟩ ?_
  rintro s g h1 ⟨g1, q, hn1, hs, hok⟩ K hK
  unfold Line.cells at g1
  have hp : ∃ p : Int, p = (if s = 0 then 0 else L.re (s - 1)) ∧ 0 ≤ p ∧ p ≤ 1000000000 := ⟨_, rfl, by
    split
    · omega
    · have := hok (s - 1) (by omega); unfold pointOk at this; omega⟩
  obtain ⟨p, hp, hp0, hp1⟩ := hp
  rw [← hp]
  have hc : ∃ c : Int, c = (if s = 0 then 100000 else L.cf (s - 1)) ∧ c ≤ 100000 := ⟨_, rfl, by
    split
    · omega
    · have := hok (s - 1) (by omega); unfold pointOk at this; omega⟩
  obtain ⟨c, hc, hc1⟩ := hc
  rw [← hc]
  (focus ((try with_reducible apply wpC.to); (repeat' ((conv => whnf); first | refine byEv ?_ | (apply Fork.mk <;> (intro _; try (exfalso; omega))) | ((apply q_call); (focus exact byNext); (focus exact byLo); (focus (first | exact kTDragB0 | exact kTDragA2)); first | ((apply q_allB) <;> (intro z_b _ _ _; first | exact Bool.noConfusion z_b | replace z_b := of_decide_eq_true z_b | replace z_b := of_decide_eq_false z_b | skip) <;> ((try simp only [AllOk, Bd.ok, and_true] at z_b); first | contradiction | (revert z_b; intros))) | ((apply q_alli) <;> intro _ _ _ _ <;> try contradiction) | (apply q_allv; intro _ _ _)) | (apply q_call; (focus exact byNext); (focus omega); (focus exact bounds_w); rintro _ z_h1 ⟨z_r, z_e, z_hr1, z_hr2, z_hg⟩ z_q z_hn; subst z_e; (try simp only [put_next, bump_next] at z_hr1); revert z_hn z_q z_hg z_hr2 z_hr1 z_r z_h1; intros) | fail)); all_goals ((conv => whnf); try with_reducible apply At.mk)))
  · apply hK (s + 1)
    · refine ⟨rfl, int_of rfl (by simp), int_of rfl (by simp), rfl, rfl, int_of rfl (by omega), trivial⟩
    · refine ⟨byGet, bySame, byOm, by omega, fun i hi => ?_⟩
      by_cases e : i = s
      · subst e
        unfold pointOk
        refine ⟨by omega, by omega, by omega, by omega, ?_⟩
        intro hi0
        rw [if_neg (by omega)] at hp hc
        omega
      · exact hok i (by omega)
    · omega
  · (refine byFin ?_)
    refine int_of rfl (lineErr_2 (by omega) (by omega) hmn (i := s) (by omega) ?_).symm
    unfold pointOk
    split at hp
    · rename_i h0; subst h0; rw [if_pos rfl] at hc; omega
    · rename_i h0; rw [if_neg h0] at hc; omega
  · (refine byFin ?_)
    have : s = L.n := by omega
    subst this
    exact int_of rfl (lineErr_0 (by omega) (by omega) hmn hok).symm
theorem kTDragB1 {G : Prop} (g : G := by ((apply AW.arg1; (focus (apply checkLine_w; rotate_left; (focus (apply Line.Ok.same; (focus assumption); (focus exact bySame); (focus exact Nat.le_refl _))); (focus exact byOm))); (focus exact Is.rfl)))) : G := g
set_option maxHeartbeats 1000000 in
theorem refCheckLine_w {h : H} {L : Line} {m : Nat} (hm : m ≤ h.next) (hL : L.Ok m h) : AW Tryz.prog 21 h.next h [.agg ⟨L.cells⟩] (fun v _ => v = .int .i64 (lineErr L)) := by
  obtain ⟨e1, i1, r1, e2, i2, r2, l1, l2⟩ := hL
  refine fun21.call rfl (Nat.le_refl _) ?_
  unfold a21
  (focus ((try with_reducible apply wpC.to); (repeat' ((conv => whnf); first | refine byEv ?_ | (apply Fork.mk <;> (intro _; try (exfalso; omega))) | ((apply q_call); (focus exact byNext); (focus exact byLo); (focus (exact kTDragA0)); first | ((apply q_allB) <;> (intro z_b _ _ _; first | exact Bool.noConfusion z_b | replace z_b := of_decide_eq_true z_b | replace z_b := of_decide_eq_false z_b | skip) <;> ((try simp only [AllOk, Bd.ok, and_true] at z_b); first | contradiction | (revert z_b; intros))) | ((apply q_alli) <;> intro _ _ _ _ <;> try contradiction) | (apply q_allv; intro _ _ _)) | fail)); all_goals ((conv => whnf); try with_reducible apply At.mk)))
  · (refine byFin ?_)
    exact int_of rfl (lineErr_6 (by omega)).symm
  · (refine byFin ?_)
    exact int_of rfl (lineErr_6 (by omega)).symm
  · (refine byFin ?_)
    exact int_of rfl (lineErr_15 (by omega) (by omega) (by omega)).symm
  have hmn : L.m = L.n := by omega
  refine wp_loop (fun s : Nat => [(1, .pointer (some ⟨h.next + 0, 0, none⟩)), (3, .int .i64 s)])
    (fun s h1 => h1.get (h.next + 0) = some (.cells L.cells 59) ∧ Same h.next h h1 ∧ h.next < h1.next ∧ s ≤ L.n ∧ ∀ i, i < s → pointOk L i) (fun s => L.n - s) 0 ⟨rfl, rfl, trivial⟩ ⟨byGet, bySame, byOm, by omega, fun i hi => by omega⟩ ?_
  rintro s g h1 ⟨g1, q, hn1, hs, hok⟩ K hK
  unfold Line.cells at g1
  (focus ((try with_reducible apply wpC.to); (repeat' ((conv => whnf); first | refine byEv ?_ | (apply Fork.mk <;> (intro _; try (exfalso; omega))) | ((apply q_call); (focus exact byNext); (focus exact byLo); (focus (exact kTDragA0)); first | ((apply q_allB) <;> (intro z_b _ _ _; first | exact Bool.noConfusion z_b | replace z_b := of_decide_eq_true z_b | replace z_b := of_decide_eq_false z_b | skip) <;> ((try simp only [AllOk, Bd.ok, and_true] at z_b); first | contradiction | (revert z_b; intros))) | ((apply q_alli) <;> intro _ _ _ _ <;> try contradiction) | (apply q_allv; intro _ _ _)) | fail)); all_goals ((conv => whnf); try with_reducible apply At.mk)))
  all_goals first
    | ((refine byFin ?_); exact int_of rfl (lineErr_2 (by omega) (by omega) hmn (i := s) (by omega) (by unfold pointOk; omega)).symm)
    | ((refine byFin ?_)
       have : s = L.n := by omega
       subst this
       exact int_of rfl (lineErr_0 (by omega) (by omega) hmn hok).symm)
    | (refine hK (s + 1) _ _ ⟨rfl, int_of rfl (by omega), trivial⟩ ⟨byGet, bySame, byOm, by omega, fun i hi => ?_⟩ (by omega)
       by_cases e : i = s
       · subst e; unfold pointOk; omega
       · exact hok i (by omega))
theorem kTDragB2 {G : Prop} (g : G := by ((apply AW.arg1; (focus (apply refCheckLine_w; rotate_left; (focus (apply Line.Ok.same; (focus assumption); (focus exact bySame); (focus exact Nat.le_refl _))); (focus exact byOm))); (focus exact Is.rfl)))) : G := g
end AE.Tryz
