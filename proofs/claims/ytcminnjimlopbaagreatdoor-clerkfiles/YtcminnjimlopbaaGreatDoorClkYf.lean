/- Clerk, walked: the law Files. -/
import Derived.Test.YtcminnjimlopbaaGreatDoorClkWk
import Derived.Test.YtcminnjimlopbaaGreatDoorJoin40
import Derived.Test.YtcminnjimlopbaaGreatDoorJoin23
set_option linter.unusedVariables false
set_option linter.unusedSimpArgs false
set_option linter.unusedSectionVars false
namespace AE.Tryz
open Go AE Go.Proofs AE.Clerk
set_option maxRecDepth 100000
set_option linter.unusedVariables false

theorem readV_two {l : List Nat} {lo lo2 : Nat} {v v2 : Value} {h h2 : H} (k : ReadV l lo v h) (k2 : ReadV l lo2 v2 h2) :
 (∃ e : Int, v = .tuple #[.slice none 0 0, .int .i64 e] ∧ v2 = .tuple #[.slice none 0 0, .int .i64 e]) ∨
 ∃ (f : Nat → Ln) (n r r2 : Nat), n ≤ 60 ∧ v = .tuple #[.slice (addrX r n) n 0, .int .i64 0] ∧ v2 = .tuple #[.slice (addrX r2 n) n 0, .int .i64 0] ∧ GX r h 38 4 n (rowsOf (fun i => (f i).cells) n) ∧ (0 < n → lo ≤ r ∧ r < h.next) ∧ GX r2 h2 38 4 n (rowsOf (fun i => (f i).cells) n) ∧ (0 < n → lo2 ≤ r2 ∧ r2 < h2.next) := by
 rcases k with ⟨h1, rfl⟩ | ⟨h1, h2, rfl⟩ | ⟨h1, f, n, z, hf, h3⟩
 ·rcases k2 with ⟨-, rfl⟩ | ⟨g1, -, -⟩ | ⟨g1, -⟩
  ·exact .inl ⟨7, rfl, rfl⟩
  ·omega
  ·omega
 ·rcases k2 with ⟨g1, -⟩ | ⟨-, -, rfl⟩ | ⟨-, f, n, z, hf, -⟩
  ·omega
  ·exact .inl ⟨8, rfl, rfl⟩
  ·exact absurd ⟨f, n, z, hf⟩ h2
 ·rcases k2 with ⟨g1, -⟩ | ⟨-, g2, -⟩ | ⟨-, f', n', z', hf', g3⟩
  ·omega
  ·exact absurd ⟨f, n, z, hf⟩ g2
  ·obtain ⟨rfl, rfl, e3⟩ := isFile_un hf hf'
   have er : root f' 0 n = root f 0 n := root_congr fun i _ hi => (e3 i byO).symm
   rw [er] at g3
   rcases h3 with ⟨h4, rfl⟩ | ⟨h4, r, rfl, gx, hb⟩
   ·rcases g3 with ⟨-, rfl⟩ | ⟨g4, -⟩
    ·exact .inl ⟨14, rfl, rfl⟩
    ·exact absurd g4 h4
   ·rcases g3 with ⟨g4, -⟩ | ⟨-, r2, rfl, gx2, hb2⟩
    ·exact absurd h4 g4
    ·refine .inr ⟨f, n, r, r2, hf.1.1, rfl, rfl, gx, hb, ?_, hb2⟩
     rw [show rowsOf (fun i => (f i).cells) n = rowsOf (fun i => (f' i).cells) n from rowsOf_congr n fun i hi => by rw [e3 i hi]]
     exact gx2
theorem readV_form {l : List Nat} {lo : Nat} {v : Value} {h : H} (k : ReadV l lo v h) : ∃ c1 e1, v = .tuple #[c1, .int .i64 e1] := by
 rcases k with ⟨-, rfl⟩ | ⟨-, -, rfl⟩ | ⟨-, f, n, z, -, ⟨-, rfl⟩ | ⟨-, r, rfl, -⟩⟩
 ·exact ⟨_, _, rfl⟩
 ·exact ⟨_, _, rfl⟩
 ·exact ⟨_, _, rfl⟩
 ·exact ⟨_, _, rfl⟩
theorem nil_bk2 {m : Nat} {h : H} {f : Nat → Ln} : Bk.Ok ⟨0, f, none, ⟨0, 0, none⟩, 0⟩ m h := ⟨fun h => absurd h (Nat.lt_irrefl 0), fun i hi => absurd hi (Nat.not_lt_zero i), fun h => absurd h (Nat.lt_irrefl 0), Nat.zero_le _, fun h => absurd h (Nat.lt_irrefl 0)⟩
set_option maxHeartbeats 4000000 in
theorem files_w {h : H} {B : Bk} {s : ByteArray} {m : Nat} (hm : m ≤ h.next) (hB : B.Ok m h) (hs : s.size ≤ 9223372036854775807) : AW Tryz.prog 6 h.next h [.slice B.b B.n B.c, .string s] (fun v _ => v = .bool true) := by
 have hbl := hB.l
 refine fun6.call rfl (Nat.le_refl _) ?_
 unfold a6
 by_cases hw : 70 < B.n ∨ (4000 < s.size ∧ s.size ≤ 65536) ∨ 65600 < s.size
 ·(focus ((try with_reducible apply wpC.to); (repeat' ((conv => whnf); first | ((apply q_cmpk); (focus exact rfl); (focus exact rfl); (focus exact rfl); (focus exact rfl); (all_goals (intro hb; first | (replace hb := of_decide_eq_true hb) | (replace hb := of_decide_eq_false hb))); (all_goals (try (exfalso; omega; done))); (all_goals (revert hb; intros))) | ((apply q_streq); (focus exact rfl); (focus exact rfl); (focus exact rfl); (focus exact rfl); (all_goals (intro hb; first | (replace hb := of_decide_eq_true hb) | (replace hb := of_decide_eq_false hb))); (all_goals (try contradiction)); (all_goals (revert hb; intros))) | ((apply q_ark); (focus exact rfl); (focus exact rfl); (focus exact rfl); (focus exact rfl); (focus first | exact wrap_u8 byO | exact wrap_i32 byO)) | refine byEv ?_ | (apply Fork.mk <;> (intro _; try (exfalso; omega))) | refine xClkG0 ?_ | ((apply q_cmpk); (focus exact rfl); (focus exact rfl); (focus exact rfl); (focus exact rfl); (all_goals (intro hb; first | (replace hb := of_decide_eq_true hb) | (replace hb := of_decide_eq_false hb))); (all_goals (try (exfalso; omega; done))); (all_goals (revert hb; intros))) | refine xAEStrN3 ?_ | ((apply q_streq); (focus exact rfl); (focus exact rfl); (focus exact rfl); (focus exact rfl); (all_goals (intro hb; first | (replace hb := of_decide_eq_true hb) | (replace hb := of_decide_eq_false hb))); (all_goals (try contradiction)); (all_goals (revert hb; intros))) | refine xAEStrN1 ?_ | refine xAEStrN0 ?_ | fail)); all_goals ((conv => whnf); try with_reducible apply At.mk)))
  all_goals
   apply q_callv
   focus (exact byNext)
   focus (exact byLo)
   focus exact works_w
   intro h2 q2 n2
   (refine byRunP ?_)
   (refine byFin ?_)
   rfl
 have hs2 : s.size ≤ 70000 := by omega
 obtain ⟨T, te, hT⟩ : ∃ T te, WrR B.n B.f = .tuple #[.string T, .int .i64 te] := by
  unfold WrR
  split
  ·exact ⟨_, _, rfl⟩
  ·exact ⟨_, _, rfl⟩
 by_cases hq : 4000 < s.size
 all_goals
  (refine byRunS ?_)
  apply q_callv
  focus (exact byNext)
  focus (exact byLo)
  focus exact write_w (m := m) byOm (hB.same (m' := m) bySame (Nat.le_refl _))
  intro h2 q2 n2
  rw [hT]
  (refine byRunP ?_)
  apply q_callv
  focus (exact byNext)
  focus (exact byLo)
  focus exact rwrite_w (m := m) byOm (hB.same (m' := m) bySame (Nat.le_refl _))
  intro h3 q3 n3
  rw [hT]
  (refine byRunP ?_)
  apply q_call
  focus (exact byNext)
  focus (exact byLo)
  focus exact Read_w hs2
  rintro v h4 hv q4 n4
  obtain ⟨c1, e1, hc1⟩ : ∃ c1 e1, v = .tuple #[c1, .int .i64 e1] := readV_form hv
  subst hc1
  (refine byRunP ?_)
  apply q_call
  focus (exact byNext)
  focus (exact byLo)
  focus exact rRead_w hs2
  rintro v2 h5 hv2 q5 n5
  rcases readV_two hv hv2 with ⟨e, f1, rfl⟩ | ⟨f, n, r, r2, n60, f1, rfl, gx, gb, gx2, gb2⟩
  ·simp only [Value.tuple.injEq, Array.mk.injEq, List.cons.injEq, Value.int.injEq, and_true, true_and] at f1
   obtain ⟨rfl, rfl⟩ := f1
   (refine byRunS ?_)
   apply q_callv
   focus (exact byNext)
   focus (exact byLo)
   focus exact same_w (B := ⟨0, fun _ => ⟨0, 0, 0, 0⟩, none, ⟨0, 0, none⟩, 0⟩) (C := ⟨0, fun _ => ⟨0, 0, 0, 0⟩, none, ⟨0, 0, none⟩, 0⟩) (m := 0) (Nat.zero_le _) nil_bk2 nil_bk2
   intro h6 q6 n6
   rw [decide_eq_true (p := ((0 : Nat) = 0 ∧ SameB 0 (fun _ => ⟨0, 0, 0, 0⟩) (fun _ => ⟨0, 0, 0, 0⟩))) ⟨rfl, fun i hi => rfl⟩]
   (refine byRunS ?_)
   apply q_callv
   focus (exact byNext)
   focus (exact byLo)
   focus exact works_w
   intro hw qw nw
   (refine byRunP ?_)
   (refine byFin ?_)
   rfl
  ·simp only [Value.tuple.injEq, Array.mk.injEq, List.cons.injEq, Value.int.injEq, and_true, true_and] at f1
   obtain ⟨rfl, rfl⟩ := f1
   obtain ⟨a1, B1⟩ := gx_bk (m := h4.next) gx byO (fun h0 => (gb h0).2)
   obtain ⟨a2, B2⟩ := gx_bk (m := h5.next) gx2 byO (fun h0 => (gb2 h0).2)
   (refine byRunS ?_)
   apply q_callv
   focus (exact byNext)
   focus (exact byLo)
   focus exact same_w (B := ⟨n, f, addrX r n, a1, 0⟩) (C := ⟨n, f, addrX r2 n, a2, 0⟩) (m := h5.next) byOm (B1.same (m' := h5.next) bySame byOm) (B2.same (m' := h5.next) bySame (Nat.le_refl _))
   intro h6 q6 n6
   rw [decide_eq_true (p := (n = n ∧ SameB n f f)) ⟨rfl, fun i hi => rfl⟩]
   (refine byRunS ?_)
   apply q_callv
   focus (exact byNext)
   focus (exact byLo)
   focus exact works_w
   intro hw qw nw
   (refine byRunP ?_)
   (refine byFin ?_)
   rfl
end AE.Tryz
