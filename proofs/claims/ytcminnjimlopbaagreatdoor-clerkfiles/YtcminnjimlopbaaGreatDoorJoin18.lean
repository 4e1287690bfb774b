/- Walks and plain laws: ClkA, ClkB, ClkC. -/
import Derived.Test.YtcminnjimlopbaaGreatDoorAEthree
import Derived.Test.YtcminnjimlopbaaGreatDoorClerkCode
import Derived.Test.YtcminnjimlopbaaGreatDoorJoin38
set_option linter.unusedVariables false
set_option linter.unusedSimpArgs false
set_option linter.unusedSectionVars false

/- Clerk, walked: within, leaf, node, half, sealed. -/
namespace AE.Tryz
open Go AE Go.Proofs AE.Clerk
set_option maxRecDepth 100000
set_option linter.unusedVariables false

theorem within_w {h : H} {n a b : Int} : AW Tryz.prog 78 h.next h [.int .i64 n, .int .i64 a, .int .i64 b] (fun v _ => v = .bool (decide (btw n a b))) := by
 refine fun78.call rfl (Nat.le_refl _) ?_
 unfold a78
 by_cases hb : btw n a b
 ·have hb' := hb
  unfold btw at hb'
  (refine byRun ?_)
  (refine byFin ?_); rw [decide_eq_true hb]
 ·rw [decide_eq_false hb]
  unfold btw at hb
  (focus ((try with_reducible apply wpC.to); (repeat' ((conv => whnf); first | refine byEv ?_ | (apply Fork.mk <;> (intro _; try (exfalso; omega))) | fail)); all_goals ((conv => whnf); try with_reducible apply At.mk)))
  all_goals ((refine byFin ?_); rfl)
theorem between_w {h : H} {n a b : Int} : AW Tryz.prog 59 h.next h [.int .i64 n, .int .i64 a, .int .i64 b] (fun v _ => v = .bool (decide (btw n a b))) := by
 refine fun59.call rfl (Nat.le_refl _) ?_
 unfold a59
 by_cases hb : btw n a b
 ·have hb' := hb
  unfold btw at hb'
  (refine byRun ?_)
  (refine byFin ?_); rw [decide_eq_true hb]
 ·rw [decide_eq_false hb]
  unfold btw at hb
  (focus ((try with_reducible apply wpC.to); (repeat' ((conv => whnf); first | refine byEv ?_ | (apply Fork.mk <;> (intro _; try (exfalso; omega))) | fail)); all_goals ((conv => whnf); try with_reducible apply At.mk)))
  all_goals ((refine byFin ?_); rfl)
theorem kClkA0 {G : Prop} (g : G := by (exact between_w)) : G := g
theorem kClkA1 {G : Prop} (g : G := by (exact within_w)) : G := g
theorem kClkA1c {G G' : Prop} (g : G') (t : G' → G := by ((apply q_call); (focus exact byNext); (focus exact byLo); (focus (exact within_w)))) : G := t g
theorem sealed_w {h : H} {n : Int} : AW Tryz.prog 53 h.next h [.int .i64 n] (fun v _ => v = .bool (decide (btw n 0 (Clerk.P - 1)))) := by
 refine fun53.call rfl (Nat.le_refl _) ?_
 unfold a53
 have e : Clerk.P - 1 = 2147483646 := by decide
 rw [e]
 by_cases hb : btw n 0 2147483646
 ·rw [decide_eq_true hb]
  (focus ((try with_reducible apply wpC.to); (repeat' ((conv => whnf); first | refine byEv ?_ | ((refine kClkA1c ?_); first | ((first | apply q_allD | apply q_alli | apply q_allB) <;> intro _ _ _ _ <;> try contradiction) | (apply q_allv; intro _ _ _)) | fail)); all_goals ((conv => whnf); try with_reducible apply At.mk)))
  (refine byFin ?_); rfl
 ·rw [decide_eq_false hb]
  (focus ((try with_reducible apply wpC.to); (repeat' ((conv => whnf); first | refine byEv ?_ | ((refine kClkA1c ?_); first | ((first | apply q_allD | apply q_alli | apply q_allB) <;> intro _ _ _ _ <;> try contradiction) | (apply q_allv; intro _ _ _)) | fail)); all_goals ((conv => whnf); try with_reducible apply At.mk)))
  (refine byFin ?_); rfl
theorem node_w {h : H} {x y : Int} (hx : 0 ≤ x ∧ x < Clerk.P) (hy : 0 ≤ y ∧ y < Clerk.P) : AW Tryz.prog 58 h.next h [.int .i64 x, .int .i64 y] (fun v _ => v = .int .i64 (node x y)) := by
 refine fun58.call rfl (Nat.le_refl _) ?_
 unfold Clerk.P at hx hy
 unfold a58
 (refine byRun ?_)
 (refine byFin ?_)
 unfold node Clerk.P
 rfl
theorem rnode_w {h : H} {x y : Int} (hx : 0 ≤ x ∧ x < Clerk.P) (hy : 0 ≤ y ∧ y < Clerk.P) : AW Tryz.prog 81 h.next h [.int .i64 x, .int .i64 y] (fun v _ => v = .int .i64 (node x y)) := by
 refine fun81.call rfl (Nat.le_refl _) ?_
 unfold Clerk.P at hx hy
 unfold a81
 (refine byRun ?_)
 (refine byFin ?_)
 unfold node Clerk.P
 rfl
theorem leaf_take (l : List Nat) (k : Nat) (hk : k < l.length) : leafF (leaf (l.take k)) (l.getD k 0) = leaf (l.take (k + 1)) := by
 unfold leaf
 rw [List.take_add_one, List.foldl_append]
 simp [List.getD_eq_getElem?_getD, hk]
theorem nats_getD_lt (s : ByteArray) (k : Nat) : (nats s).getD k 0 < 256 := by
 rw [List.getD_eq_getElem?_getD]
 cases h : (nats s)[k]? with
 | none => simp
 | some c => exact nats_lt s c (List.mem_of_getElem? h)
theorem leaf_w {h : H} {s : ByteArray} (hs : s.size ≤ 9223372036854775807) : AW Tryz.prog 57 h.next h [.string s] (fun v h' => v = .int .i64 (leaf (nats s))) := by
 refine fun57.call rfl (Nat.le_refl _) ?_
 unfold a57
 (refine byRunP ?_)
 refine wp_loop (fun k : Nat => [(0, .string s), (3, .int .i64 (leaf ((nats s).take k))), (6, .int .i64 s.size), (7, .int .i64 k)]) (fun k h1 => k ≤ s.size) (fun k => s.size - k) 0 ⟨rfl, rfl, rfl, rfl, trivial⟩ (Nat.zero_le _) ?_
 intro k g h1 hk K hK
 have hb := leaf_bd ((nats s).take k)
 have hc := nats_getD_lt s k
 by_cases hlt : k < s.size
 ·have hst := leaf_take (nats s) k (by rw [nats_len]; exact hlt)
  unfold leafF Clerk.P at hst
  unfold Clerk.P at hb
  (refine byRunP ?_)
  exact hK (k + 1) _ _ ⟨rfl, int_of rfl hst, rfl, int_of rfl byO, trivial⟩ byO byO
 ·obtain rfl : k = s.size := by omega
  clear hK
  (refine byRunP ?_)
  (refine byFin ?_)
  rw [List.take_of_length_le (by rw [nats_len]; exact Nat.le_refl _)]
theorem rleaf_w {h : H} {s : ByteArray} (hs : s.size ≤ 9223372036854775807) : AW Tryz.prog 62 h.next h [.string s] (fun v h' => v = .int .i64 (leaf (nats s))) := by
 refine fun62.call rfl (Nat.le_refl _) ?_
 unfold a62
 (refine byRunP ?_)
 refine wp_loop (fun k : Nat => [(0, .string s), (3, .int .i64 (leaf ((nats s).take k))), (4, .int .i64 k)]) (fun k h1 => k ≤ s.size) (fun k => s.size - k) 0 ⟨rfl, rfl, rfl, trivial⟩ (Nat.zero_le _) ?_
 intro k g h1 hk K hK
 have hb := leaf_bd ((nats s).take k)
 have hc := nats_getD_lt s k
 by_cases hlt : k < s.size
 ·have hst := leaf_take (nats s) k (by rw [nats_len]; exact hlt)
  unfold leafF Clerk.P at hst
  rw [Int.mul_comm] at hst
  unfold Clerk.P at hb
  (refine byRunP ?_)
  exact hK (k + 1) _ _ ⟨rfl, int_of rfl hst, int_of rfl byO, trivial⟩ byO byO
 ·obtain rfl : k = s.size := by omega
  clear hK
  (refine byRunP ?_)
  (refine byFin ?_)
  rw [List.take_of_length_le (by rw [nats_len]; exact Nat.le_refl _)]
end AE.Tryz

/- Clerk, walked: halves; kinds; which lines are valid. -/
namespace AE.Tryz
open Go AE Go.Proofs AE.Clerk
set_option maxRecDepth 100000
set_option linter.unusedVariables false

theorem halfF_done {t k n : Nat} (h : ¬ k < n - k) : halfF t k n = k := by
 cases t with
 | zero => rfl
 | succ t => unfold halfF; rw [if_neg h]
theorem halfF_more : ∀ {t u k n : Nat}, 1 ≤ k → n ≤ t + k → n ≤ u + k → halfF t k n = halfF u k n
 | 0, u, k, n, h1, h2, h3 => by rw [halfF_done (t := u) byO]; rfl
 | t + 1, 0, k, n, h1, h2, h3 => by rw [halfF_done (t := t + 1) byO]; rfl
 | t + 1, u + 1, k, n, h1, h2, h3 => by
   unfold halfF
   split
   ·exact halfF_more byO byO byO
   ·rfl
theorem half_step {k n : Nat} (h1 : 1 ≤ k) (h : k < n - k) : halfF n k n = halfF n (2 * k) n := by
 rw [halfF_more (t := n) (u := n + 1) h1 byO byO]
 conv => lhs; unfold halfF
 rw [if_pos h]
theorem half_w {h : H} {n : Nat} (hn : n ≤ 1000000) : AW Tryz.prog 79 h.next h [.int .i64 n] (fun v _ => v = .int .i64 (half n : Nat)) := by
 refine fun79.call rfl (Nat.le_refl _) ?_
 unfold a79
 (refine byRun ?_)
 refine wp_loop (fun k : Nat => [(0, .int .i64 n), (3, .int .i64 k)]) (fun k h1 => 1 ≤ k ∧ (k ≤ n ∨ k = 1) ∧ halfF n k n = half n) (fun k => n - k) 1 ⟨rfl, rfl, trivial⟩ ⟨by omega, by omega, rfl⟩ ?_
 rintro k g h1 ⟨hk, hkn, hh⟩ K hK
 by_cases hlt : k < n - k
 ·(refine byRun ?_)
  exact hK (2 * k) _ _ ⟨rfl, int_of rfl byO, trivial⟩ ⟨by omega, by omega, by rw [← half_step hk hlt]; exact hh⟩ byO
 ·rw [halfF_done hlt] at hh
  clear hK
  (refine byRun ?_)
  (refine byFin ?_)
  rw [← hh]
theorem rhalf_w {h : H} {n : Nat} (hn : n ≤ 1000000) : AW Tryz.prog 80 h.next h [.int .i64 n] (fun v _ => v = .int .i64 (half n : Nat)) := by
 refine fun80.call rfl (Nat.le_refl _) ?_
 unfold a80
 (refine byRun ?_)
 refine wp_loop (fun k : Nat => [(0, .int .i64 n), (3, .int .i64 k)]) (fun k h1 => 1 ≤ k ∧ (k ≤ n ∨ k = 1) ∧ halfF n k n = half n) (fun k => n - k) 1 ⟨rfl, rfl, trivial⟩ ⟨by omega, by omega, rfl⟩ ?_
 rintro k g h1 ⟨hk, hkn, hh⟩ K hK
 by_cases hlt : k < n - k
 ·(refine byRun ?_)
  exact hK (2 * k) _ _ ⟨rfl, int_of rfl byO, trivial⟩ ⟨by omega, by omega, by rw [← half_step hk hlt]; exact hh⟩ byO
 ·rw [halfF_done hlt] at hh
  clear hK
  (refine byRun ?_)
  (refine byFin ?_)
  rw [← hh]


def fnV (f : Nat) : Value := .func (.func f) ⟨[]⟩ ⟨[]⟩
def kindC (w : Array UInt8) (m0 m1 a0 a1 b0 b1 n : Int) (f : Nat) : List Value := [.string ⟨w⟩, .int .i64 m0, .int .i64 m1, .int .i64 a0, .int .i64 a1, .int .i64 b0, .int .i64 b1, .int .i64 n, fnV f]
def kindsC : List Value :=
 kindC #[98, 117, 121] 0 0 1 1000000 0 0 1 93 ++ kindC #[100, 114, 97, 119] 1 1099511627776 1 1000000 0 1000 3 94 ++ kindC #[99, 117, 116] 1 1099511627776 0 0 0 0 1 95 ++ kindC #[114, 117, 110] 1 1099511627776 1 1000000 0 1000000 3 96 ++
 kindC #[109, 101, 108, 116] 1 1099511627776 0 0 0 0 1 97 ++ kindC #[98, 105, 108, 108] 1 1099511627776 1 1000000 0 0 2 98 ++ kindC #[112, 97, 121] 1 1099511627776 1 1000000000 0 0 2 99 ++ kindC #[99, 108, 97, 105, 109] 1 1099511627776 0 59 0 0 2 100
theorem to_w {h : H} {n : Int} : AW Tryz.prog 92 h.next h [.int .i64 n] (fun v _ => v = .agg ⟨[.int .i64 1, .int .i64 n]⟩) := by
 refine fun92.call rfl (Nat.le_refl _) ?_
 unfold a92
 (refine byRun ?_)
 (refine byFin ?_)
 rfl
theorem kClkB0 {G : Prop} (g : G := by (exact to_w)) : G := g
theorem kClkB0c {G G' : Prop} (g : G') (t : G' → G := by ((apply q_call); (focus exact byNext); (focus exact byLo); (focus (exact to_w)))) : G := t g
set_option maxHeartbeats 1000000 in
theorem kinds_w {h : H} : AW Tryz.prog 67 h.next h [] (fun v _ => v = .agg ⟨kindsC⟩) := by
 refine fun67.call rfl (Nat.le_refl _) ?_
 unfold a67
 (focus ((try with_reducible apply wpC.to); (repeat' ((conv => whnf); first | refine byEv ?_ | ((refine kClkB0c ?_); first | ((first | apply q_allD | apply q_alli | apply q_allB) <;> intro _ _ _ _ <;> try contradiction) | (apply q_allv; intro _ _ _)) | fail)); all_goals ((conv => whnf); try with_reducible apply At.mk)))
 (refine byFin ?_)
 rfl
end AE.Tryz

/- Clerk, walked: which lines are valid. -/
namespace AE.Tryz
open Go AE Go.Proofs AE.Clerk
set_option maxRecDepth 100000
set_option linter.unusedVariables false

def _root_.AE.Clerk.Ln.cells (x : Ln) : List Value := [.int .i64 x.k, .int .i64 x.m, .int .i64 x.a, .int .i64 x.b]
theorem kClkC0 {G : Prop} (g : G := by (exact kinds_w)) : G := g
set_option maxHeartbeats 2000000 in
theorem valid_w {h : H} {x : Ln} : AW Tryz.prog 45 h.next h [.agg ⟨x.cells⟩] (fun v _ => v = .bool (decide (x.Valid 1099511627776))) := by
 refine fun45.call rfl (Nat.le_refl _) ?_
 obtain ⟨k, m, a, b⟩ := x
 unfold a45 Ln.cells
 dsimp only
 by_cases hk : 0 ≤ k ∧ k ≤ 7
 ·have hk' : k = 0 ∨ k = 1 ∨ k = 2 ∨ k = 3 ∨ k = 4 ∨ k = 5 ∨ k = 6 ∨ k = 7 := by omega
  clear hk
  rcases hk' with rfl | rfl | rfl | rfl | rfl | rfl | rfl | rfl
  all_goals (focus ((try with_reducible apply wpC.to); (repeat' ((conv => whnf); first | refine byEv ?_ | (apply Fork.mk <;> (intro _; try (exfalso; omega))) | ((apply q_call); (focus exact byNext); (focus exact byLo); (focus (first | exact kClkA1 | exact kClkC0)); first | ((apply q_allB) <;> (intro z_b _ _ _; first | exact Bool.noConfusion z_b | replace z_b := of_decide_eq_true z_b | replace z_b := of_decide_eq_false z_b | skip) <;> ((try (unfold btw at z_b)); first | contradiction | (revert z_b; intros))) | ((apply q_alli) <;> intro _ _ _ _ <;> try contradiction) | (apply q_allv; intro _ _ _)) | fail)); all_goals ((conv => whnf); try with_reducible apply At.mk)))
  all_goals ((refine byFin ?_); first | exact bool_t rfl (by unfold Ln.Valid btw; dsimp only; omega) | exact bool_f rfl (by unfold Ln.Valid btw; dsimp only; omega))
 ·(focus ((try with_reducible apply wpC.to); (repeat' ((conv => whnf); first | refine byEv ?_ | (apply Fork.mk <;> (intro _; try (exfalso; omega))) | ((apply q_call); (focus exact byNext); (focus exact byLo); (focus (first | exact kClkA1 | exact kClkC0)); first | ((apply q_allB) <;> (intro z_b _ _ _; first | exact Bool.noConfusion z_b | replace z_b := of_decide_eq_true z_b | replace z_b := of_decide_eq_false z_b | skip) <;> ((try (unfold btw at z_b)); first | contradiction | (revert z_b; intros))) | ((apply q_alli) <;> intro _ _ _ _ <;> try contradiction) | (apply q_allv; intro _ _ _)) | fail)); all_goals ((conv => whnf); try with_reducible apply At.mk)))
  all_goals ((refine byFin ?_); exact bool_f rfl (by unfold Ln.Valid btw; dsimp only; omega))
set_option maxHeartbeats 2000000 in
theorem rvalid_w {h : H} {x : Ln} : AW Tryz.prog 46 h.next h [.agg ⟨x.cells⟩] (fun v _ => v = .bool (decide (x.Valid 1099511627776))) := by
 refine fun46.call rfl (Nat.le_refl _) ?_
 obtain ⟨k, m, a, b⟩ := x
 unfold a46 Ln.cells
 dsimp only
 (focus ((try with_reducible apply wpC.to); (repeat' ((conv => whnf); first | refine byEv ?_ | (apply Fork.mk <;> (intro _; try (exfalso; omega))) | ((apply q_call); (focus exact byNext); (focus exact byLo); (focus (exact kClkA0)); first | ((apply q_allB) <;> (intro z_b _ _ _; first | exact Bool.noConfusion z_b | replace z_b := of_decide_eq_true z_b | replace z_b := of_decide_eq_false z_b | skip) <;> ((try (unfold btw at z_b)); first | contradiction | (revert z_b; intros))) | ((apply q_alli) <;> intro _ _ _ _ <;> try contradiction) | (apply q_allv; intro _ _ _)) | fail)); all_goals ((conv => whnf); try with_reducible apply At.mk)))
 all_goals ((refine byFin ?_); first | exact bool_t rfl (by unfold Ln.Valid btw; dsimp only; omega) | exact bool_f rfl (by unfold Ln.Valid btw; dsimp only; omega))
end AE.Tryz
