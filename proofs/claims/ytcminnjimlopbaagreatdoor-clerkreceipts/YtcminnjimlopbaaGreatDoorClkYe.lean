/- Clerk, walked: the law Seals. -/
import Derived.Test.YtcminnjimlopbaaGreatDoorClkWk
import Derived.Test.YtcminnjimlopbaaGreatDoorJoin39
set_option linter.unusedVariables false
set_option linter.unusedSimpArgs false
set_option linter.unusedSectionVars false
namespace AE.Tryz
open Go AE Go.Proofs AE.Clerk
set_option maxRecDepth 100000
set_option linter.unusedVariables false

theorem NumL.ns {m : Nat} {h : H} {l : List Int} {b : Option Addr} {a : Addr} {c : Nat} (k : NumL m h l b a c) (hl : l.length ≤ 9223372036854775807) : Ns.Ok ⟨l.length, fun i => l.getD i 0, b, a, c⟩ m h := ⟨k.e, k.i, k.r, hl⟩
theorem nil_ns2 {m : Nat} {h : H} : Ns.Ok ⟨0, fun _ => 0, none, ⟨0, 0, none⟩, 0⟩ m h := ⟨fun h => absurd h (Nat.lt_irrefl 0), fun i hi => absurd hi (Nat.not_lt_zero i), fun h => absurd h (Nat.lt_irrefl 0), Nat.zero_le _⟩
set_option maxHeartbeats 4000000 in
theorem seals_w {h : H} {B : Bk} {x : Ln} {m : Nat} {i : Int} (hm : m ≤ h.next) (hB : B.Ok m h) (hi : -9223372036854775808 ≤ i ∧ i ≤ 9223372036854775807) : AW Tryz.prog 4 h.next h [.agg ⟨x.cells⟩, .slice B.b B.n B.c, .int .i64 i] (fun v _ => v = .bool true) := by
 have hbl := hB.l
 refine fun4.call rfl (Nat.le_refl _) ?_
 unfold a4 Ln.cells
 by_cases h70 : 70 < B.n
 ·(refine byRunP ?_)
  apply q_callv
  focus (exact byNext)
  focus (exact byLo)
  focus exact works_w
  intro h2 q2 n2
  (refine byRunP ?_)
  (refine byFin ?_)
  rfl
 obtain ⟨T, te, hT⟩ : ∃ T te, textR x = .tuple #[.string T, .int .i64 te] := by
  unfold textR
  split
  ·exact ⟨_, _, rfl⟩
  ·exact ⟨_, _, rfl⟩
 (refine byRunP ?_)
 apply q_callv
 focus (exact byNext)
 focus (exact byLo)
 focus exact text_api (x := x)
 intro h2 q2 n2
 rw [hT]
 (refine byRunP ?_)
 apply q_callv
 focus (exact byNext)
 focus (exact byLo)
 focus exact rtext_api (x := x)
 intro h3 q3 n3
 rw [hT]
 generalize hR : (if Good B.n B.f then root B.f 0 B.n else 0) = R
 generalize hE : bookErr B.n B.f = E
 have hRR : rootR B.n B.f = .tuple #[.int .i64 R, .int .i64 E] := by unfold rootR; rw [hR, hE]
 (refine byRunP ?_)
 apply q_callv
 focus (exact byNext)
 focus (exact byLo)
 focus exact root_api (m := m) byOm (hB.same (m' := m) bySame (Nat.le_refl _))
 intro h4 q4 n4
 rw [hRR]
 (refine byRunP ?_)
 apply q_callv
 focus (exact byNext)
 focus (exact byLo)
 focus exact rroot_api (m := m) byOm (hB.same (m' := m) bySame (Nat.le_refl _))
 intro h5 q5 n5
 rw [hRR]
 (refine byRunP ?_)
 apply q_call
 focus (exact byNext)
 focus (exact byLo)
 focus exact receipt_w (i := i) (m := m) byOm (hB.same (m' := m) bySame (Nat.le_refl _)) hi
 rintro v h6 hv q6 n6
 by_cases hin : Good B.n B.f ∧ (0 ≤ i ∧ i < B.n)
 ·unfold RecR at hv
  rw [if_pos hin.1, if_pos hin.2] at hv
  obtain ⟨b, a, c, rfl, nl, -, sg⟩ := hv
  have hl60 : (besideL B.f B.n i.toNat).length ≤ 60 := by rw [besideL_len]; have := parts_len (a := 0) (n := B.n) (i := i.toNat) byO; have := hin.1.1; omega
  have sgl : 0 < (besideL B.f B.n i.toNat).length → h5.next + 8 ≤ a.block ∧ a.block < h6.next := fun h => by have := (sg h).1; have := nl.r h; simp only [put_next, bump_next] at *; omega
  clear sg
  generalize hLL : besideL B.f B.n i.toNat = L at *
  (refine byRunP ?_)
  apply q_call
  focus (exact byNext)
  focus (exact byLo)
  focus exact rreceipt_w (i := i) (m := m) byOm (hB.same (m' := m) bySame (Nat.le_refl _)) hi
  rintro v h7 hv q7 n7
  unfold RecR at hv
  rw [if_pos hin.1, if_pos hin.2, hLL] at hv
  obtain ⟨b', a', c', rfl, nl', -, sg'⟩ := hv
  have sgl' : 0 < L.length → h6.next + 7 ≤ a'.block ∧ a'.block < h7.next := fun h => by have := (sg' h).1; have := nl'.r h; simp only [put_next, bump_next] at *; omega
  clear sg'
  (refine byRunS ?_)
  apply q_callv
  focus (exact byNext)
  focus (exact byLo)
  focus exact longs_w (B := ⟨L.length, fun i => L.getD i 0, b, a, c⟩) (C := ⟨L.length, fun i => L.getD i 0, b', a', c'⟩) (m := h7.next) byOm ((nl.get' (fun h => get_of fun y hy => by have := sgl h; (exact byGet)) (fun h => by have := sgl h; omega)).ns byO) ((nl'.get' (fun h => get_of fun y hy => by have := sgl' h; (exact byGet)) (fun h => (sgl' h).2)).ns byO)
  intro h8 q8 n8
  rw [decide_eq_true (p := (L.length = L.length ∧ SameI L.length (fun i => L.getD i 0) (fun i => L.getD i 0))) ⟨rfl, fun i _ => rfl⟩]
  (refine byRunS ?_)
  apply q_callv
  focus (exact byNext)
  focus (exact byLo)
  focus exact works_w
  intro hw qw nw
  (refine byRunP ?_)
  (refine byFin ?_)
  rfl
 ·obtain ⟨e, he⟩ : ∃ e : Int, ∀ v : Value, ∀ h' : H, ∀ lo, RecR lo B.n B.f i v h' → v = noRec e := by
   by_cases hg : Good B.n B.f
   ·refine ⟨3, fun v h' lo hv => ?_⟩
    unfold RecR at hv
    rw [if_pos hg, if_neg (fun h => hin ⟨hg, h⟩)] at hv
    exact hv
   ·refine ⟨bookErr B.n B.f, fun v h' lo hv => ?_⟩
    unfold RecR at hv
    rw [if_neg hg] at hv
    exact hv
  have e1 := he v h6 _ hv
  subst e1
  clear hv
  unfold noRec at he ⊢
  (refine byRunP ?_)
  apply q_call
  focus (exact byNext)
  focus (exact byLo)
  focus exact rreceipt_w (i := i) (m := m) byOm (hB.same (m' := m) bySame (Nat.le_refl _)) hi
  rintro v h7 hv q7 n7
  have e1 := he v h7 _ hv
  subst e1
  clear hv
  (refine byRunS ?_)
  apply q_callv
  focus (exact byNext)
  focus (exact byLo)
  focus exact longs_w (B := ⟨0, fun _ => 0, none, ⟨0, 0, none⟩, 0⟩) (C := ⟨0, fun _ => 0, none, ⟨0, 0, none⟩, 0⟩) (m := 0) (Nat.zero_le _) nil_ns2 nil_ns2
  intro h8 q8 n8
  rw [decide_eq_true (p := ((0 : Nat) = 0 ∧ SameI 0 (fun _ => 0) (fun _ => 0))) ⟨rfl, fun i _ => rfl⟩]
  (refine byRunS ?_)
  apply q_callv
  focus (exact byNext)
  focus (exact byLo)
  focus exact works_w
  intro hw qw nw
  (refine byRunP ?_)
  (refine byFin ?_)
  rfl
end AE.Tryz
