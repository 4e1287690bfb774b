/- Walks and plain laws: ClkO, ClkP. -/
import Derived.Test.YtcminnjimlopbaaGreatDoorJoin39
set_option linter.unusedVariables false
set_option linter.unusedSimpArgs false
set_option linter.unusedSectionVars false

/- Clerk, walked: deep, climb of the definitions. -/
namespace AE.Tryz
open Go AE Go.Proofs AE.Clerk
set_option maxRecDepth 100000
set_option linter.unusedVariables false

theorem deep_w : ∀ (n : Nat) {h : H} {j : Nat} (a : Nat), 1 ≤ n → n ≤ 60 → j < n → AW Tryz.prog 60 h.next h [.int .i64 j, .int .i64 n] (fun v _ => v = .int .i64 ((parts a n j).length : Nat)) := by
 intro n
 induction n using Nat.strongRecOn with
 | ind n ih =>
   intro h j a h0 hn hj
   refine fun60.call rfl (Nat.le_refl _) ?_
   unfold a60
   by_cases h1 : n = 1
   ·subst h1
    (refine byRun ?_)
    (refine byFin ?_)
    rw [parts_one]; rfl
   have hh := half_bd (n := n) byO
   (refine byRun ?_)
   apply q_callv
   focus (exact byNext)
   focus (exact byLo)
   focus exact rhalf_w byO
   intro h2 q n2
   by_cases hl : j < half n
   ·have pl := parts_len (n := half n) (a := a) (i := j) byO
    (refine byRun ?_)
    apply q_callv
    focus (exact byNext)
    focus (exact byLo)
    focus exact ih (half n) hh.2 a byO byO hl
    intro h3 q3 n3
    (refine byRun ?_)
    (refine byFin ?_)
    rw [parts_left (a := a) (n := n) (i := j) byO hl, List.length_append]
    exact int_of rfl (by simp; omega)
   ·have pl := parts_len (n := n - half n) (a := a + half n) (i := j - half n) byO
    have ej : (j : Int) - (half n : Nat) = ((j - half n : Nat) : Int) := by omega
    have en : (n : Int) - (half n : Nat) = ((n - half n : Nat) : Int) := by omega
    (refine byRun ?_)
    rw [ej, en]
    apply q_callv
    focus (exact byNext)
    focus (exact byLo)
    focus exact ih (n - half n) byO (a + half n) byO byO byO
    intro h3 q3 n3
    (refine byRun ?_)
    (refine byFin ?_)
    rw [parts_right (a := a) (n := n) (i := j) byO byO, List.length_append]
    exact int_of rfl (by simp; omega)
theorem NumL.take {m : Nat} {h : H} {l : List Int} {b : Option Addr} {a : Addr} {c c' : Nat} (k : NumL m h l b a c) (n : Nat) (hn : n ≤ l.length) (h0 : 0 < l.length) : NumL m h (l.take n) (some a) a c' :=
 ⟨fun _ => rfl, fun i hi => by
  rw [List.length_take] at hi
  have := k.i i byO
  rw [this]
  simp only [List.getD_eq_getElem?_getD, List.getElem?_take]
  rw [if_pos byO], fun h => k.r h0⟩
theorem rclimb_w : ∀ (n : Nat) {h : H} {m j a0 : Nat} {z : Int} {ys : List Int} {b : Option Addr} {a : Addr} {c nl : Nat}, nl = ys.length → m ≤ h.next → 1 ≤ n → n ≤ 60 → j < n → (0 ≤ z ∧ z < Clerk.P) → (∀ y ∈ ys, 0 ≤ y ∧ y < Clerk.P) → ys.length = (parts a0 n j).length → NumL m h ys b a c → (0 < nl → SlG a nl c) →
 AW Tryz.prog 61 h.next h [.int .i64 z, .int .i64 j, .int .i64 n, .slice b nl c] (fun v _ => v = .int .i64 (climbP z (parts a0 n j) ys)) := by
 intro n
 induction n using Nat.strongRecOn with
 | ind n ih =>
   intro h m j a0 z ys b a c nl en hm h0 hn hj hz hy hlen k g
   subst en
   refine fun61.call rfl (Nat.le_refl _) ?_
   unfold a61
   by_cases h1 : n = 1
   ·subst h1
    (refine byRun ?_)
    (refine byFin ?_)
    rw [parts_one]; rfl
   have hh := half_bd (n := n) byO
   have pl := parts_len (n := n) (a := a0) (i := j) byO
   have hpos : 0 < ys.length := by
    rw [hlen]
    by_cases hl : j < half n
    ·rw [parts_left byO hl]; simp
    ·rw [parts_right byO byO]; simp
   have e1 := k.e hpos
   subst e1
   have k1 := k.i
   have kr := k.r
   have hyl : ys.getD (ys.length - 1) 0 ∈ ys := by
    rw [List.getD_eq_getElem?_getD, List.getElem?_eq_getElem byO]
    exact List.getElem_mem _
   have hyb := hy _ hyl
   have eys : ys.take (ys.length - 1) ++ [ys.getD (ys.length - 1) 0] = ys := by
    conv => rhs; rw [← List.take_append_drop (ys.length - 1) ys]
    congr 1
    rw [List.drop_eq_getElem_cons byO, List.getD_eq_getElem?_getD, List.getElem?_eq_getElem byO]
    rw [List.drop_eq_nil_of_le (show ys.length ≤ ys.length - 1 + 1 by omega)]
    rfl
   have htl : (ys.take (ys.length - 1)).length = ys.length - 1 := by rw [List.length_take]; omega
   (refine byRun ?_)
   apply q_callv
   focus (exact byNext)
   focus (exact byLo)
   focus exact rhalf_w byO
   intro h2 q n2
   have hyt : ∀ y ∈ ys.take (ys.length - 1), 0 ≤ y ∧ y < Clerk.P := fun y h => hy y (List.mem_of_mem_take h)
   have hb60 : ys.length ≤ 60 := by omega
   have e9 : ((ys.length : Int) - 1).toNat = ys.length - 1 := by omega
   have e10 : (ys.length : Int) - 1 = ((ys.length - 1 : Nat) : Int) := by omega
   by_cases hl : j < half n
   ·have ep : parts a0 n j = parts a0 (half n) j ++ [(a0 + half n, n - half n, false)] := parts_left byO hl
    rw [ep, List.length_append] at hlen
    have hr : climbP z (parts a0 n j) ys = node (climbP z (parts a0 (half n) j) (ys.take (ys.length - 1))) (ys.getD (ys.length - 1) 0) := by
     conv => lhs; rw [ep, ← eys]
     rw [climbP_snoc (by simp only [List.length_cons, List.length_nil] at hlen; omega)]
     rfl
    rw [hr]
    (refine byRun ?_)
    rw [e10]
    refine q_gto rfl rfl (g hpos) hpos byO ?_
    intro c1 g1
    (refine byRun ?_)
    apply q_callv
    focus (exact byNext)
    focus (exact byLo)
    focus exact ih (half n) hh.2 (a0 := a0) (ys := ys.take (ys.length - 1)) htl.symm (show m ≤ _ from byOm) byO byO hl hz hyt (by rw [htl]; simp only [List.length_cons, List.length_nil] at hlen; omega) ((k.take (c' := c1) (ys.length - 1) byO hpos).same bySame (Nat.le_refl _)) (fun _ => g1)
    intro h3 q3 n3
    (refine byRun ?_)
    apply q_callv
    focus (exact byNext)
    focus (exact byLo)
    focus exact rnode_w (climb_bd hz) hyb
    intro h4 q4 n4
    (refine byRun ?_)
    (refine byFin ?_)
    rfl
   ·have ep : parts a0 n j = parts (a0 + half n) (n - half n) (j - half n) ++ [(a0, half n, true)] := parts_right byO byO
    rw [ep, List.length_append] at hlen
    have hr : climbP z (parts a0 n j) ys = node (ys.getD (ys.length - 1) 0) (climbP z (parts (a0 + half n) (n - half n) (j - half n)) (ys.take (ys.length - 1))) := by
     conv => lhs; rw [ep, ← eys]
     rw [climbP_snoc (by simp only [List.length_cons, List.length_nil] at hlen; omega)]
     rfl
    have ej : (j : Int) - (half n : Nat) = ((j - half n : Nat) : Int) := by omega
    have en : (n : Int) - (half n : Nat) = ((n - half n : Nat) : Int) := by omega
    rw [hr]
    (refine byRun ?_)
    rw [e10]
    refine q_gto rfl rfl (g hpos) hpos byO ?_
    intro c1 g1
    (refine byRun ?_)
    rw [ej, en]
    apply q_callv
    focus (exact byNext)
    focus (exact byLo)
    focus exact ih (n - half n) byO (a0 := a0 + half n) (ys := ys.take (ys.length - 1)) htl.symm (show m ≤ _ from byOm) byO byO byO hz hyt (by rw [htl]; simp only [List.length_cons, List.length_nil] at hlen; omega) ((k.take (c' := c1) (ys.length - 1) byO hpos).same bySame (Nat.le_refl _)) (fun _ => g1)
    intro h3 q3 n3
    (refine byRun ?_)
    apply q_callv
    focus (exact byNext)
    focus (exact byLo)
    focus exact rnode_w hyb (climb_bd hz)
    intro h4 q4 n4
    (refine byRun ?_)
    (refine byFin ?_)
    rfl
end AE.Tryz

/- Clerk, walked: CheckReceipt by the definitions. -/
namespace AE.Tryz
open Go AE Go.Proofs AE.Clerk
set_option maxRecDepth 100000
set_option linter.unusedVariables false

def AllS (ys : List Int) : Prop := ∀ y ∈ ys, btw y 0 (Clerk.P - 1)
instance (ys : List Int) : Decidable (AllS ys) := by unfold AllS; infer_instance
def ckErr (sl : Int) (x : Ln) (i n : Int) (ys : List Int) : Int :=
 if ¬ x.Valid 1099511627776 ∨ ¬ btw sl 0 (Clerk.P - 1) then 2
 else if n < 1 ∨ 60 < n then 6
 else if i < 0 ∨ n ≤ i then 3
 else if ys.length ≠ (parts 0 n.toNat i.toNat).length then 15
 else if ¬ AllS ys then 3
 else if climbP (leaf x.text) (parts 0 n.toNat i.toNat) ys ≠ sl then 14 else 0
theorem getD_mem {ys : List Int} {k : Nat} (h : k < ys.length) : ys.getD k 0 ∈ ys := by
 rw [List.getD_eq_getElem?_getD, List.getElem?_eq_getElem h]
 exact List.getElem_mem _
theorem ePm : Clerk.P - 1 = 2147483646 := by decide
theorem rcheckReceipt_w {h : H} {m : Nat} {sl : Int} {x : Ln} {i n : Int} {ys : List Int} {b : Option Addr} {a : Addr} {c : Nat} (hm : m ≤ h.next) (hi : -9223372036854775808 ≤ i ∧ i ≤ 9223372036854775807) (hn : -9223372036854775808 ≤ n ∧ n ≤ 9223372036854775807) (hys : ys.length ≤ 9223372036854775807) (k : NumL m h ys b a c) (g : 0 < ys.length → SlG a ys.length c) :
 AW Tryz.prog 29 h.next h [.int .i64 sl, .agg ⟨x.cells⟩, .agg ⟨[.int .i64 i, .int .i64 n, .slice b ys.length c]⟩] (fun v _ => v = .int .i64 (ckErr sl x i n ys)) := by
 refine fun29.call rfl (Nat.le_refl _) ?_
 unfold a29 ckErr Ln.cells
 by_cases hv : x.Valid 1099511627776
 rotate_left
 ·(focus ((try with_reducible apply wpC.to); (repeat' ((conv => whnf); first | refine byEv ?_ | (apply Fork.mk <;> (intro _; try (exfalso; omega))) | ((apply q_call); (focus exact byNext); (focus exact byLo); (focus (first | exact kClkE0 | exact kClkA0)); first | ((apply q_allB) <;> (intro z_b _ _ _; first | exact Bool.noConfusion z_b | replace z_b := of_decide_eq_true z_b | replace z_b := of_decide_eq_false z_b | skip) <;> ((try (unfold btw at z_b)); first | contradiction | (revert z_b; intros))) | ((apply q_alli) <;> intro _ _ _ _ <;> try contradiction) | (apply q_allv; intro _ _ _)) | fail)); all_goals ((conv => whnf); try with_reducible apply At.mk)))
  (refine byFin ?_)
  rw [if_pos (.inl hv)]
 by_cases hs : btw sl 0 (Clerk.P - 1)
 rotate_left
 ·rw [if_pos (.inr hs)]
  rw [ePm] at hs
  (focus ((try with_reducible apply wpC.to); (repeat' ((conv => whnf); first | refine byEv ?_ | (apply Fork.mk <;> (intro _; try (exfalso; omega))) | ((apply q_call); (focus exact byNext); (focus exact byLo); (focus (first | exact kClkE0 | exact kClkA0)); first | ((apply q_allB) <;> (intro z_b _ _ _; first | exact Bool.noConfusion z_b | replace z_b := of_decide_eq_true z_b | replace z_b := of_decide_eq_false z_b | skip) <;> ((try (unfold btw at z_b)); first | contradiction | (revert z_b; intros))) | ((apply q_alli) <;> intro _ _ _ _ <;> try contradiction) | (apply q_allv; intro _ _ _)) | fail)); all_goals ((conv => whnf); try with_reducible apply At.mk)))
  (refine byFin ?_)
  rfl
 rw [if_neg (by rintro (h | h); exact h hv; exact h hs)]
 rw [ePm] at hs
 by_cases hn2 : n < 1 ∨ 60 < n
 ·rw [if_pos hn2]
  (focus ((try with_reducible apply wpC.to); (repeat' ((conv => whnf); first | refine byEv ?_ | (apply Fork.mk <;> (intro _; try (exfalso; omega))) | ((apply q_call); (focus exact byNext); (focus exact byLo); (focus (first | exact kClkE0 | exact kClkA0)); first | ((apply q_allB) <;> (intro z_b _ _ _; first | exact Bool.noConfusion z_b | replace z_b := of_decide_eq_true z_b | replace z_b := of_decide_eq_false z_b | skip) <;> ((try (unfold btw at z_b)); first | contradiction | (revert z_b; intros))) | ((apply q_alli) <;> intro _ _ _ _ <;> try contradiction) | (apply q_allv; intro _ _ _)) | fail)); all_goals ((conv => whnf); try with_reducible apply At.mk)))
  all_goals ((refine byFin ?_); rfl)
 rw [if_neg hn2]
 by_cases hi2 : i < 0 ∨ n ≤ i
 ·rw [if_pos hi2]
  (focus ((try with_reducible apply wpC.to); (repeat' ((conv => whnf); first | refine byEv ?_ | (apply Fork.mk <;> (intro _; try (exfalso; omega))) | ((apply q_call); (focus exact byNext); (focus exact byLo); (focus (first | exact kClkE0 | exact kClkA0)); first | ((apply q_allB) <;> (intro z_b _ _ _; first | exact Bool.noConfusion z_b | replace z_b := of_decide_eq_true z_b | replace z_b := of_decide_eq_false z_b | skip) <;> ((try (unfold btw at z_b)); first | contradiction | (revert z_b; intros))) | ((apply q_alli) <;> intro _ _ _ _ <;> try contradiction) | (apply q_allv; intro _ _ _)) | fail)); all_goals ((conv => whnf); try with_reducible apply At.mk)))
  all_goals ((refine byFin ?_); rfl)
 rw [if_neg hi2]
 obtain ⟨nn, rfl⟩ : ∃ nn : Nat, n = nn := ⟨n.toNat, by omega⟩
 obtain ⟨j, rfl⟩ : ∃ j : Nat, i = j := ⟨i.toNat, by omega⟩
 simp only [Int.toNat_natCast]
 (focus ((try with_reducible apply wpC.to); (repeat' ((conv => whnf); first | refine byEv ?_ | (apply Fork.mk <;> (intro _; try (exfalso; omega))) | ((apply q_call); (focus exact byNext); (focus exact byLo); (focus (first | exact kClkE0 | exact kClkA0)); first | ((apply q_allB) <;> (intro z_b _ _ _; first | exact Bool.noConfusion z_b | replace z_b := of_decide_eq_true z_b | replace z_b := of_decide_eq_false z_b | skip) <;> ((try (unfold btw at z_b)); first | contradiction | (revert z_b; intros))) | ((apply q_alli) <;> intro _ _ _ _ <;> try contradiction) | (apply q_allv; intro _ _ _)) | fail)); all_goals ((conv => whnf); try with_reducible apply At.mk)))
 apply q_callv
 focus (exact byNext)
 focus (exact byLo)
 focus exact deep_w nn 0 byO byO byO
 intro h2 q2 n2
 by_cases hl : ys.length = (parts 0 nn j).length
 rotate_left
 ·rw [if_pos hl]
  (refine byRun ?_)
  (refine byFin ?_)
  rfl
 rw [if_neg (fun h => h hl)]
 (refine byRun ?_)
 refine wp_loop (fun q : Nat => [(0, .int .i64 sl), (4, .pointer (some ⟨h.next, 0, none⟩)), (5, .pointer (some ⟨h.next + 1, 0, none⟩)), (7, .int .i64 q)]) (fun q h1 => Same h.next h h1 ∧ h.next + 2 ≤ h1.next ∧ h1.get h.next = some (.cells [.int .i64 x.k, .int .i64 x.m, .int .i64 x.a, .int .i64 x.b] 38) ∧ h1.get (h.next + 1) = some (.cells [.int .i64 j, .int .i64 nn, .slice b ys.length c] 45) ∧ q ≤ ys.length ∧ ∀ p, p < q → btw (ys.getD p 0) 0 2147483646) (fun q => ys.length - q) 0 ⟨rfl, rfl, rfl, rfl, trivial⟩ ⟨bySame, byOm, byGet, byGet, by omega, fun p hp => by omega⟩ ?_
 rintro q g' h1 ⟨s1, n1, x1, x2, hq, hall⟩ K hK
 by_cases hlt : q < ys.length
 ·have k1 := k.i
  have ke := k.e
  have kr := k.r
  by_cases hb : btw (ys.getD q 0) 0 2147483646
  ·(focus ((try with_reducible apply wpC.to); (repeat' ((conv => whnf); first | refine byEv ?_ | (apply Fork.mk <;> (intro _; try (exfalso; omega))) | ((apply q_call); (focus exact byNext); (focus exact byLo); (focus (first | exact kClkE0 | exact kClkA0)); first | ((apply q_allB) <;> (intro z_b _ _ _; first | exact Bool.noConfusion z_b | replace z_b := of_decide_eq_true z_b | replace z_b := of_decide_eq_false z_b | skip) <;> ((try (unfold btw at z_b)); first | contradiction | (revert z_b; intros))) | ((apply q_alli) <;> intro _ _ _ _ <;> try contradiction) | (apply q_allv; intro _ _ _)) | fail)); all_goals ((conv => whnf); try with_reducible apply At.mk)))
   exact hK (q + 1) _ _ ⟨rfl, rfl, rfl, int_of rfl byO, trivial⟩ ⟨bySame, byOm, byGet, byGet, by omega, fun p hp => by
    by_cases e : p = q
    ·subst e; exact hb
    ·exact hall p byO⟩ byO
  ·(focus ((try with_reducible apply wpC.to); (repeat' ((conv => whnf); first | refine byEv ?_ | (apply Fork.mk <;> (intro _; try (exfalso; omega))) | ((apply q_call); (focus exact byNext); (focus exact byLo); (focus (first | exact kClkE0 | exact kClkA0)); first | ((apply q_allB) <;> (intro z_b _ _ _; first | exact Bool.noConfusion z_b | replace z_b := of_decide_eq_true z_b | replace z_b := of_decide_eq_false z_b | skip) <;> ((try (unfold btw at z_b)); first | contradiction | (revert z_b; intros))) | ((apply q_alli) <;> intro _ _ _ _ <;> try contradiction) | (apply q_allv; intro _ _ _)) | fail)); all_goals ((conv => whnf); try with_reducible apply At.mk)))
   (refine byFin ?_)
   rw [if_pos (fun h => hb (by rw [← ePm]; exact h _ (getD_mem hlt)))]
 obtain rfl : q = ys.length := by omega
 clear hK
 have hA : AllS ys := fun y hy => by
  obtain ⟨p, hp, rfl⟩ := List.mem_iff_getElem.1 hy
  have := hall p hp
  rw [List.getD_eq_getElem?_getD, List.getElem?_eq_getElem hp] at this
  rw [ePm]
  exact this
 rw [if_neg (fun h => h hA)]
 have hyb : ∀ y ∈ ys, 0 ≤ y ∧ y < Clerk.P := fun y hy => by
  have := hA y hy
  unfold btw at this
  omega
 (refine byRun ?_)
 apply q_callv
 focus (exact byNext)
 focus (exact byLo)
 focus exact rtext_w hv
 intro h3 q3 n3
 (refine byRun ?_)
 apply q_callv
 focus (exact byNext)
 focus (exact byLo)
 focus exact rleaf_w (by rw [bs_len]; have := text_len hv; omega)
 intro h4 q4 n4
 rw [nats_text]
 (refine byRun ?_)
 apply q_callv
 focus (exact byNext)
 focus (exact byLo)
 focus exact rclimb_w nn (a0 := 0) (ys := ys) rfl (show m ≤ _ from byOm) byO byO byO (leaf_bd _) hyb hl (k.same bySame (Nat.le_refl _)) g
 intro h5 q5 n5
 by_cases hz : climbP (leaf x.text) (parts 0 nn j) ys = sl
 ·rw [if_neg (fun h => h hz), hz]
  (refine byRun ?_)
  (refine byFin ?_)
  rfl
 ·rw [if_pos hz]
  generalize climbP (leaf x.text) (parts 0 nn j) ys = zz at hz
  (refine byRun ?_)
  (refine byFin ?_)
  rfl
end AE.Tryz
