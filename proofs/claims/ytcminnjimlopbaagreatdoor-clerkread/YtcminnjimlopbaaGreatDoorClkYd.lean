/- Clerk, walked: the law Read. -/
import Derived.Test.YtcminnjimlopbaaGreatDoorClkWk
set_option linter.unusedVariables false
set_option linter.unusedSimpArgs false
set_option linter.unusedSectionVars false
namespace AE.Tryz
open Go AE Go.Proofs AE.Clerk
set_option maxRecDepth 100000
set_option linter.unusedVariables false

theorem q_b2s1 {lo nid : Nat} {ts : Ts} {h : H} {k : Value → H → Prop} {x : Opd} {a : Addr} {c d : Nat} (hx : ev ts x = .slice (some a) 1 c) (hc : c < far) (hl : h.loadN a 1 = some [.int .u8 (d : Int)]) (hk : k (.string (bs [d])) h) : OpE Tryz.prog lo nid ts h (.b2s x) k := by
 refine OpE.mk (v := .string (bs [d])) (h' := h) ?_ hk
 have hf : ¬ far ≤ c := by omega
 simp only [aop, keep, hx, xB2s, acells, if_neg hf, Nat.mul_one, hl, Option.bind_some, strL, Int.toNat_natCast, Option.map_some]
 rfl
theorem other_byte {c : Nat} {bz : Int} (hc : c < 256) (hb : 0 ≤ bz ∧ bz < 256) : ∃ d : Nat, IntKind.u8.wrap (IntKind.u8.wrap ((c : Int) + 1) + bz.tmod 255) = d ∧ d < 256 ∧ d ≠ c := by
 have hw : ∀ z : Int, IntKind.u8.wrap z = z % 256 := fun z => by simp [IntKind.wrap, IntKind.bits, IntKind.signed]
 rw [hw, hw, Int.tmod_eq_emod_of_nonneg hb.1]
 refine ⟨(((c : Int) + 1) % 256 + bz % 255).toNat % 256, ?_, ?_, ?_⟩ <;> omega
theorem near_change {F : List Nat} {k d : Nat} (hk : k < F.length) (hd : d ≠ F.getD k 0) : Near F (F.take k ++ [d] ++ F.drop (k + 1)) := by
 refine ⟨F.take k, F[k], d, F.drop (k + 1), ?_, by simp, ?_⟩
 ·rw [List.getElem_cons_drop, List.take_append_drop]
 ·rw [List.getD_eq_getElem?_getD, List.getElem?_eq_getElem hk] at hd
  exact fun e => hd e.symm
set_option maxHeartbeats 4000000 in
theorem read_law {h : H} {B : Bk} {s : ByteArray} {m : Nat} {az bz : Int} (hm : m ≤ h.next) (hB : B.Ok m h) (ha : 0 ≤ az ∧ az < 65536) (hb : 0 ≤ bz ∧ bz < 256) (hs : s.size ≤ 9223372036854775807) : AW Tryz.prog 10 h.next h [.slice B.b B.n B.c, .int .u16 az, .int .u8 bz, .string s] (fun v _ => v = .bool true) := by
 have hbl := hB.l
 refine fun10.call rfl (Nat.le_refl _) ?_
 unfold a10
 (refine byRunS ?_)
 apply q_callv
 focus (exact byNext)
 focus (exact byLo)
 focus exact right_w (m := m) byOm (hB.same (m' := m) bySame (Nat.le_refl _))
 intro h1 q1 n1
 by_cases hw : ¬ Good B.n B.f ∨ 4000 < s.size
 ·by_cases hg : Good B.n B.f
  ·have h4 : 4000 < s.size := hw.resolve_left (fun h => h hg)
   rw [decide_eq_true hg]
   (refine byRunS ?_)
   apply q_callv
   focus (exact byNext)
   focus (exact byLo)
   focus exact works_w
   intro h2 q2 n2
   (refine byRunP ?_)
   (refine byFin ?_)
   rfl
  ·rw [decide_eq_false hg]
   (refine byRunS ?_)
   apply q_callv
   focus (exact byNext)
   focus (exact byLo)
   focus exact works_w
   intro h2 q2 n2
   (refine byRunP ?_)
   (refine byFin ?_)
   rfl
 obtain ⟨hg, hs4⟩ : Good B.n B.f ∧ s.size ≤ 4000 := ⟨Classical.byContradiction fun h => hw (.inl h), by omega⟩
 rw [decide_eq_true hg]
 have h60 := hg.1
 (refine byRunS ?_)
 apply q_callv
 focus (exact byNext)
 focus (exact byLo)
 focus exact write_w (m := m) byOm (hB.same (m' := m) bySame (Nat.le_refl _))
 intro h2 q2 n2
 rw [show WrR B.n B.f = .tuple #[.string (bs (file B.f B.n)), .int .i64 0] from if_pos hg]
 have hfl := file_len hg.2
 have hfb : (bs (file B.f B.n)).size = (file B.f B.n).length := bs_len _
 have hf0 : 0 < (file B.f B.n).length := by unfold file; simp; omega
 (refine byRunP ?_)
 apply q_call
 focus (exact byNext)
 focus (exact byLo)
 focus exact Read_w byO
 rintro v h3 hv q3 n3
 rw [nats_bs file_lt] at hv
 obtain ⟨rb, rfl, gb, rb1⟩ := readV_file hg hv
 obtain ⟨ab, Bb⟩ := gx_bk (m := h3.next) gb byO (fun h0 => (rb1 h0).2)
 clear hv
 (refine byRunP ?_)
 apply q_callv
 focus (exact byNext)
 focus (exact byLo)
 focus exact same_w (B := ⟨B.n, B.f, addrX rb B.n, ab, 0⟩) (m := h3.next) byOm (Bb.same (m' := h3.next) bySame (Nat.le_refl _)) (hB.same (m' := h3.next) bySame byOm)
 intro h4 q4 n4
 rw [decide_eq_true (p := (B.n = B.n ∧ SameB B.n B.f B.f)) ⟨rfl, fun i hi => rfl⟩]
 obtain ⟨k, hk, hkl⟩ : ∃ k : Nat, az % ((bs (file B.f B.n)).size : Int) = k ∧ k < (file B.f B.n).length := by
  rw [hfb]
  exact ⟨(az % ((file B.f B.n).length : Int)).toNat, by have := Int.emod_nonneg az (show ((file B.f B.n).length : Int) ≠ 0 by omega); omega, by
   have := Int.emod_lt_of_pos az (show 0 < ((file B.f B.n).length : Int) by omega)
   have := Int.emod_nonneg az (show ((file B.f B.n).length : Int) ≠ 0 by omega)
   omega⟩
 (refine byRunS ?_)
 rw [hk]
 apply q_slst (m := k)
 focus exact rfl
 focus exact rfl
 focus exact rfl
 focus exact rfl
 focus omega
 (refine byRunS ?_)
 obtain ⟨d, hd1, hd2, hd3⟩ := other_byte (c := (nats (bs (file B.f B.n))).getD k 0) (bz := bz) (nats_getD_lt _ _) hb
 rw [hd1]
 rw [nats_bs file_lt] at hd3
 apply q_b2s1 (d := d)
 focus exact rfl
 focus (unfold far; omega)
 focus (apply loadN_cells; (focus (exact byGet)); (focus exact rfl))
 (refine byRunS ?_)
 apply q_cat
 focus exact rfl
 focus exact rfl
 focus exact rfl
 focus (rw [ByteArray.size_extract]; simp [bs_len]; omega)
 (refine byRunS ?_)
 apply q_slsf (l := k + 1)
 focus exact rfl
 focus exact rfl
 focus exact rfl
 focus exact rfl
 focus omega
 (refine byRunS ?_)
 apply q_cat
 focus exact rfl
 focus exact rfl
 focus exact rfl
 focus (rw [ByteArray.size_append, ByteArray.size_extract, ByteArray.size_extract]; simp [bs_len]; omega)
 generalize hbad : (bs (file B.f B.n)).extract 0 k ++ bs [d] ++ (bs (file B.f B.n)).extract (k + 1) (bs (file B.f B.n)).size = bad
 have hnb : nats bad = (file B.f B.n).take k ++ [d] ++ (file B.f B.n).drop (k + 1) := by
  rw [← hbad, nats_append, nats_append, nats_extract, nats_extract, nats_bs file_lt, nats_bs (by intro c hc; simp at hc; omega), hfb]
  simp
 have hsz : bad.size ≤ 70000 := by
  rw [← nats_len, hnb]
  simp
  omega
 (refine byRunS ?_)
 apply q_call
 focus (exact byNext)
 focus (exact byLo)
 focus exact Read_w hsz
 rintro v h5 hv q5 n5
 rw [hnb] at hv
 obtain ⟨e, he, rfl⟩ := readV_near hg (near_change hkl hd3) hv
 clear hv
 rcases he with rfl | rfl
 all_goals
  (refine byRunS ?_)
  apply q_call
  focus (exact byNext)
  focus (exact byLo)
  focus exact Read_w byO
  rintro v h6 hv q6 n6
  rcases hv with ⟨g1, -⟩ | ⟨-, -, rfl⟩ | ⟨-, f, n, z, hf, ⟨-, rfl⟩ | ⟨g4, r, rfl, gx, hbd⟩⟩
  ·rw [nats_len] at g1; omega
  ·(refine byRunS ?_)
   apply q_callv
   focus (exact byNext)
   focus (exact byLo)
   focus exact works_w
   intro hw qw nw
   (refine byRunP ?_)
   (refine byFin ?_)
   rfl
  ·(refine byRunS ?_)
   apply q_callv
   focus (exact byNext)
   focus (exact byLo)
   focus exact works_w
   intro hw qw nw
   (refine byRunP ?_)
   (refine byFin ?_)
   rfl
  ·have hsE : s = bs (file f n) := by
    apply nats_inj
    rw [nats_bs file_lt, hf.2.2]
    exact fileZ_of g4
   have n60 := hf.1.1
   have hgf := hf.1.2
   obtain ⟨a1, B1⟩ := gx_bk (m := h6.next) gx byO (fun h0 => (hbd h0).2)
   clear hf gx
   subst hsE
   (refine byRunS ?_)
   apply q_callv
   focus (exact byNext)
   focus (exact byLo)
   focus exact write_w (B := ⟨n, f, addrX r n, a1, 0⟩) (m := h6.next) byOm (B1.same (m' := h6.next) bySame (Nat.le_refl _))
   intro h7 q7 n7
   rw [show WrR n f = .tuple #[.string (bs (file f n)), .int .i64 0] from if_pos ⟨n60, hgf⟩]
   (refine byRunS ?_)
   apply q_callv
   focus (exact byNext)
   focus (exact byLo)
   focus exact works_w
   intro hw qw nw
   (refine byRunP ?_)
   (refine byFin ?_)
   rfl
end AE.Tryz
