/- Clerk, walked: Works. -/
import Derived.Test.YtcminnjimlopbaaGreatDoorJoin26
import Derived.Test.YtcminnjimlopbaaGreatDoorJoin34
import Derived.Test.YtcminnjimlopbaaGreatDoorJoin27
import Derived.Test.YtcminnjimlopbaaGreatDoorJoin37
import Derived.Test.YtcminnjimlopbaaGreatDoorJoin23
set_option linter.unusedVariables false
set_option linter.unusedSimpArgs false
set_option linter.unusedSectionVars false
namespace AE.Tryz
open Go AE Go.Proofs AE.Clerk
set_option maxRecDepth 100000
set_option linter.unusedVariables false

theorem works_w {h : H} : AW Tryz.prog 12 h.next h [] (fun v _ => v = .bool true) := by
 refine fun12.call rfl (Nat.le_refl _) ?_
 unfold a12
 (refine byRunP ?_)
 apply q_call
 focus (exact byNext)
 focus (exact byLo)
 focus exact book_w
 rintro v h1 ⟨r, rfl, gr, r1, r2⟩ q1 n1
 have B1 := book_bk (m := h1.next) gr r2
 (refine byRunP ?_)
 apply q_call
 focus (exact byNext)
 focus (exact byLo)
 focus exact Replay_w (B := ⟨12, bookF, some ⟨r, 0, none⟩, ⟨r, 0, none⟩, 12⟩) (m := h1.next) byOm (B1.same (m' := h1.next) bySame (Nat.le_refl _))
 rintro v h2 hv q2 n2
 obtain ⟨re, rfl, ge, re1, re2⟩ : ∃ re : Nat, v = .tuple #[.slice (some ⟨re, 0, none⟩) 12 12, .int .i64 0] ∧ h2.get re = some (.cells (outC bookF 12 12) 25) ∧ _ ≤ re ∧ re < h2.next := hv.elim (fun h => absurd book_good h.1) (·.2)
 clear hv
 (refine byRunP ?_)
 apply q_call
 focus (exact byNext)
 focus (exact byLo)
 focus exact State_w (B := ⟨12, bookF, some ⟨r, 0, none⟩, ⟨r, 0, none⟩, 12⟩) (m := h1.next) byOm (B1.same (m' := h1.next) bySame (Nat.le_refl _))
 rintro v h3 hv q3 n3
 unfold StaR at hv
 dsimp only at hv
 rw [after_book] at hv
 obtain ⟨rs, rfl, gs, bs1⟩ : ∃ rs : Nat, v = .tuple #[.agg ⟨[.int .i64 970, .int .i64 30, .slice (addrX rs 1) 1 0]⟩, .int .i64 0] ∧ GX rs h3 61 8 1 (cellsOf mC8 (sortM stB.ms)) ∧ (0 < 1 → _ ≤ rs ∧ rs < h3.next) := hv.elim (fun h => absurd book_good h.1) (·.2)
 clear hv
 have e3 : (h3.loadN (aadd ⟨r, 0, none⟩ (3 * 4)) 4) = some (bookF 3).cells := (B1.same (m' := h1.next) (h' := h3) bySame (Nat.le_refl _)).i 3 (by show 3 < 12; decide)
 unfold Ln.cells at e3
 (refine byRunP ?_)
 apply q_callv
 focus (exact byNext)
 focus (exact byLo)
 focus exact text_api (x := bookF 3)
 intro h4 q4 n4
 rw [show textR (bookF 3) = .tuple #[.string ⟨#[114, 117, 110, 32, 55, 32, 49, 53, 48, 48, 32, 51, 50]⟩, .int .i64 0] from (if_pos (book_good.2 3 (by decide))).trans (by rw [show bs (bookF 3).text = ⟨#[114, 117, 110, 32, 55, 32, 49, 53, 48, 48, 32, 51, 50]⟩ by rw [text_book3]; rfl])]
 (refine byRunP ?_)
 apply q_callv
 focus (exact byNext)
 focus (exact byLo)
 focus exact root_api (m := 0) (Nat.zero_le _) nilBk
 intro h5 q5 n5
 rw [show rootR 0 bookF = .tuple #[.int .i64 0, .int .i64 0] by unfold rootR; rw [if_pos nil_good, bookErr_ok.2 nil_good, root_nil]]
 (refine byRunP ?_)
 apply q_call
 focus (exact byNext)
 focus (exact byLo)
 focus exact receipt_w (B := ⟨12, bookF, some ⟨r, 0, none⟩, ⟨r, 0, none⟩, 12⟩) (i := 8) (m := h1.next) byOm (B1.same (m' := h1.next) bySame (Nat.le_refl _)) byO
 rintro v h6 hv q6 n6
 unfold RecR at hv
 dsimp only at hv
 rw [if_pos book_good, if_pos (by decide)] at hv
 obtain ⟨b, a, c, rfl, nl, cf, sg⟩ := hv
 have e8 : (8 : Int).toNat = 8 := rfl
 have hl3 : (besideL bookF 12 8).length = 3 := by rw [besideL_len]; exact parts_book.1
 rw [e8] at nl sg ⊢
 have sgl := (sg (by rw [hl3]; decide)).1
 have sgr := nl.r (by rw [hl3]; decide)
 simp only [put_next, bump_next] at sgl
 have bs2 := bs1 (by decide)
 simp only [put_next, bump_next] at bs2
 have gs6 := gs.frame (h' := h6) fun _ => get_of fun y hy => by (exact byGet)
 have B6 := B1.same (m' := h1.next) (h' := h6) bySame (Nat.le_refl _)
 have ge6 : h6.get re = some (.cells (outC bookF 12 12) 25) := by (exact byGet)
 rw [hl3]
 (refine byRunP ?_)
 apply q_callv
 focus (exact byNext)
 focus (exact byLo)
 focus exact root_api (B := ⟨12, bookF, some ⟨r, 0, none⟩, ⟨r, 0, none⟩, 12⟩) (m := h1.next) byOm (B6.same (m' := h1.next) bySame (Nat.le_refl _))
 intro h7 q7 n7
 rw [show rootR 12 bookF = .tuple #[.int .i64 (root bookF 0 12), .int .i64 0] by unfold rootR; rw [if_pos book_good, bookErr_ok.2 book_good]]
 have l8 : (h7.loadN (aadd ⟨r, 0, none⟩ (8 * 4)) 4) = some (bookF 8).cells := (B6.same (m' := h1.next) (h' := h7) bySame (Nat.le_refl _)).i 8 (by show 8 < 12; decide)
 unfold Ln.cells at l8
 have hz := root_bd bookF 0 12
 generalize hzz : root bookF 0 12 = z at *
 have nl7 := nl.get' (m' := h7.next) (h' := h7) (fun _ => get_of fun y hy => byGet) (by have := nl.r (by rw [hl3]; decide); omega)
 have ck := ck_good book_good (show 8 < 12 by decide)
 rw [hzz] at ck
 have gs7 := gs6.frame (h' := h7) fun _ => get_of fun y hy => by (exact byGet)
 have ge7 : h7.get re = some (.cells (outC bookF 12 12) 25) := by (exact byGet)
 have B7 := B6.same (m' := h1.next) (h' := h7) bySame (Nat.le_refl _)
 (refine byRunP ?_)
 apply q_callv
 focus (exact byNext)
 focus (exact byLo)
 focus (have := checkReceipt_w (h := h7.bump 7) (sl := z) (x := bookF 8) (i := 8) (n := 12) (m := h7.next) byOm byO byO (by rw [hl3]; omega) (nl7.same (m' := h7.next) bySame (Nat.le_refl _)); rw [hl3] at this; exact this)
 intro h8 q8 n8
 rw [show ckErr z (bookF 8) 8 12 (besideL bookF 12 8) = 0 from ck]
 have ge8 : h8.get re = some (.cells (outC bookF 12 12) 25) := by (exact byGet)
 have gs8 := gs7.frame (h' := h8) fun _ => get_of fun y hy => by (exact byGet)
 have x4 : h8.get (h2.next + 5) = some (.cells [.int .i64 970, .int .i64 30, .slice (addrX rs 1) 1 0] 30) := by (exact byGet)
 have x10 : h8.get (h5.next + 5) = some (.cells [.int .i64 8, .int .i64 12, .slice b 3 c] 45) := by (exact byGet)
 have B8 := B7.same (m' := h1.next) (h' := h8) bySame (Nat.le_refl _)
 have hlt8 : re < h8.next ∧ rs < h8.next ∧ h1.next ≤ h8.next ∧ h2.next + 6 ≤ h8.next ∧ h5.next + 6 ≤ h8.next ∧ h.next ≤ h1.next := by (exact byOm)
 clear ge ge6 ge7 gs gs6 gs7 B1 B6 B7 q1 q2 q3 q4 q5 q6 q7 q8 nl nl7 l8 e3 gr
 (refine byRunP ?_)
 apply q_callv
 focus (exact byNext)
 focus (exact byLo)
 focus exact write_w (B := ⟨12, bookF, some ⟨r, 0, none⟩, ⟨r, 0, none⟩, 12⟩) (m := h1.next) byOm (B8.same (m' := h1.next) bySame (Nat.le_refl _))
 intro h9 q9 n9
 rw [show WrR 12 bookF = .tuple #[.string (bs (file bookF 12)), .int .i64 0] from if_pos book_good]
 (refine byRunP ?_)
 apply q_call
 focus (exact byNext)
 focus (exact byLo)
 focus exact Read_w (by rw [bs_len]; have := file_len book_good.2; omega)
 rintro v h10 hv q10 n10
 rw [nats_bs file_lt] at hv
 obtain ⟨rb, rfl, gb, rb1⟩ := readV_file book_good hv
 have rb2 := rb1 (by decide)
 simp only [put_next, bump_next] at rb2
 obtain ⟨ab, Bb⟩ := gx_bk (m := h10.next) gb (by decide) (fun _ => rb2.2)
 clear hv rb1
 have B10 := B8.same (m' := h1.next) (h' := h10) bySame (Nat.le_refl _)
 have ge10 : h10.get re = some (.cells (outC bookF 12 12) 25) := by (exact byGet)
 have gs10 := gs8.frame (h' := h10) fun _ => get_of fun y hy => by (exact byGet)
 have x4' : h10.get (h2.next + 5) = some (.cells [.int .i64 970, .int .i64 30, .slice (addrX rs 1) 1 0] 30) := by (exact byGet)
 have x10' : h10.get (h5.next + 5) = some (.cells [.int .i64 8, .int .i64 12, .slice b 3 c] 45) := by (exact byGet)
 have Ne := outC_ns (m := h10.next) ge10 byO byO
 have hlt10 : h8.next ≤ h10.next := by omega
 clear ge8 gs8 x4 x10 B8 q9 q10
 obtain ⟨-, iE, -, -⟩ := Ne
 dsimp only at iE
 (refine byRunP ?_)
 refine wp_loop (fun q : Nat => [(1, .slice (some ⟨r, 0, none⟩) 12 12), (2, .slice (some ⟨re, 0, none⟩) 12 12), (4, .pointer (some ⟨h2.next + 5, 0, none⟩)), (6, (.string ⟨#[114, 117, 110, 32, 55, 32, 49, 53, 48, 48, 32, 51, 50]⟩)), (8, .int .i64 0), (10, .pointer (some ⟨h5.next + 5, 0, none⟩)), (17, .slice (addrX rb 12) 12 0), (19, .int .i64 q)]) (fun q h1 => Same h10.next h10 h1 ∧ h10.next ≤ h1.next ∧ q ≤ 12) (fun q => 12 - q) 0 ⟨rfl, rfl, rfl, rfl, rfl, rfl, rfl, rfl, trivial⟩ ⟨bySame, byOm, by omega⟩ ?_
 rintro q g' h11 ⟨s11, n11, hq⟩ K hK
 by_cases hlt : q < 12
 ·have eq := err_book q hlt
  have iq := (iE.same s11 (fun _ => by show re < _; omega)) q hlt
  rw [eq] at iq
  by_cases c9 : q = 9
  ·rw [if_pos c9] at iq
   (refine byRunP ?_)
   exact hK (q + 1) _ _ ⟨rfl, rfl, rfl, rfl, rfl, rfl, rfl, int_of rfl byO, trivial⟩ ⟨bySame, byOm, by omega⟩ byO
  by_cases c10 : q = 10
  ·rw [if_neg c9, if_pos c10] at iq
   (refine byRunP ?_)
   exact hK (q + 1) _ _ ⟨rfl, rfl, rfl, rfl, rfl, rfl, rfl, int_of rfl byO, trivial⟩ ⟨bySame, byOm, by omega⟩ byO
  by_cases c11 : q = 11
  ·rw [if_neg c9, if_neg c10, if_pos c11] at iq
   (refine byRunP ?_)
   exact hK (q + 1) _ _ ⟨rfl, rfl, rfl, rfl, rfl, rfl, rfl, int_of rfl byO, trivial⟩ ⟨bySame, byOm, by omega⟩ byO
  rw [if_neg c9, if_neg c10, if_neg c11] at iq
  (refine byRunP ?_)
  exact hK (q + 1) _ _ ⟨rfl, rfl, rfl, rfl, rfl, rfl, rfl, int_of rfl byO, trivial⟩ ⟨bySame, byOm, by omega⟩ byO
 ·obtain rfl : q = 12 := by omega
  clear hK
  have x4q : h11.get (h2.next + 5) = some (.cells [.int .i64 970, .int .i64 30, .slice (addrX rs 1) 1 0] 30) := by (exact byGet)
  have x10q : h11.get (h5.next + 5) = some (.cells [.int .i64 8, .int .i64 12, .slice b 3 c] 45) := by (exact byGet)
  have gsq := gx_rd (m := h10.next) (gs10.frame (h' := h11) fun _ => get_of fun y hy => byGet) (cM8_one _) (fun _ => by omega) (by decide)
  have Bbq := Bb.same (m' := h10.next) s11 (Nat.le_refl _)
  have B11 := B10.same (m' := h10.next) (h' := h11) (s11.mono byO) byO
  rw [show sortM stB.ms = [⟨7, 2, 600, 2, 1, 100, 100, 60, 30⟩] from sort1 _] at gsq
  (refine byRunP ?_)
  apply q_callv
  focus (exact byNext)
  focus (exact byLo)
  focus exact sameState_w (l := [⟨7, 2, 600, 2, 1, 100, 100, 60, 30⟩]) (m := h11.next + 29) byOm (gsq.rd0.same (m' := h11.next + 29) bySame byO) (lit_rd0 byGet byO) (by decide)
  intro h12 q12 n12
  (refine byRunS ?_)
  apply q_callv
  focus (exact byNext)
  focus (exact byLo)
  focus exact same_w (B := ⟨12, bookF, addrX rb 12, ab, 0⟩) (C := ⟨12, bookF, some ⟨r, 0, none⟩, ⟨r, 0, none⟩, 12⟩) (m := h10.next) byOm (Bbq.same (m' := h10.next) bySame (Nat.le_refl _)) (B11.same (m' := h10.next) bySame (Nat.le_refl _))
  intro h13 q13 n13
  rw [decide_eq_true (p := (12 = 12 ∧ SameB 12 bookF bookF)) ⟨rfl, fun i _ => rfl⟩]
  (refine byRunP ?_)
  (refine byFin ?_)
  rfl
end AE.Tryz
