/- Walks and plain laws: ClkRj, ClkSt. -/
import Derived.Test.YtcminnjimlopbaaGreatDoorClkRi
import Derived.Test.YtcminnjimlopbaaGreatDoorClkRe
set_option linter.unusedVariables false
set_option linter.unusedSimpArgs false
set_option linter.unusedSectionVars false

/- Clerk, walked: Read by the definitions. -/
namespace AE.Tryz
open Go AE Go.Proofs AE.Clerk
set_option maxRecDepth 100000
set_option linter.unusedVariables false

theorem valR_un {w : List Nat} {y z : Int} (h : ValR w y) (k : ValR w z) : y = z := by
 rcases h with ⟨m, ⟨m1, h1⟩, rfl⟩ | ⟨h1, rfl⟩
 ·rcases k with ⟨n, ⟨_, k1⟩, rfl⟩ | ⟨k1, rfl⟩
  ·rw [dec_inj (h1.symm.trans k1)]
  ·exact absurd ⟨m, m1, h1⟩ k1
 ·rcases k with ⟨n, ⟨n1, k1⟩, rfl⟩ | ⟨k1, rfl⟩
  ·exact absurd ⟨n, n1, k1⟩ h1
  ·rfl
theorem gat_els {h : H} {r : Nat} {ps : List ByteArray} {b : Option Addr} (g : GAt r h 9 1 ps.length (ps.map Value.string) b) (h0 : 0 < ps.length) : ∃ a, b = some a ∧ Els h a ps.length 1 (fun i => [.string (ps.getD i ⟨#[]⟩)]) ∧ a.block = r := by
 have e1 : ps.map Value.string = rowsOf (fun i => [.string (ps.getD i ⟨#[]⟩)]) ps.length := by
  have := cellsOf_rows (fun x : ByteArray => [Value.string x]) ps ⟨#[]⟩
  rw [← this]
  simp [cellsOf]
  try rw [List.map_eq_flatMap]
 rw [e1] at g
 obtain ⟨a, h1, h2, h3⟩ := GG.els (f := fun i => [.string (ps.getD i ⟨#[]⟩)]) (.inr ⟨h0, g⟩) (fun _ => rfl)
 exact ⟨a, h1 h0, h2, h3 h0⟩
set_option maxHeartbeats 4000000 in
theorem rRead_w {h : H} {s : ByteArray} (hs : s.size ≤ 70000) : AW Tryz.prog 33 h.next h [.string s] (fun v h' => ReadV (nats s) h.next v h') := by
 refine fun33.call rfl (Nat.le_refl _) ?_
 unfold a33
 (focus ((try with_reducible apply wpC.to); (repeat' ((conv => whnf); first | ((apply q_cmpk); (focus exact rfl); (focus exact rfl); (focus exact rfl); (focus exact rfl); (all_goals (intro hb; first | (replace hb := of_decide_eq_true hb) | (replace hb := of_decide_eq_false hb))); (all_goals (try (exfalso; omega; done))); (all_goals (revert hb; intros))) | ((apply q_streq); (focus exact rfl); (focus exact rfl); (focus exact rfl); (focus exact rfl); (all_goals (intro hb; first | (replace hb := of_decide_eq_true hb) | (replace hb := of_decide_eq_false hb))); (all_goals (try contradiction)); (all_goals (revert hb; intros))) | ((apply q_ark); (focus exact rfl); (focus exact rfl); (focus exact rfl); (focus exact rfl); (focus first | exact wrap_u8 byO | exact wrap_i32 byO)) | refine byEv ?_ | (apply Fork.mk <;> (intro _; try (exfalso; omega))) | ((apply q_call); (focus exact byNext); (focus exact byLo); (focus (exact kClkA0)); first | ((apply q_allB) <;> (intro z_b _ _ _; first | exact Bool.noConfusion z_b | replace z_b := of_decide_eq_true z_b | replace z_b := of_decide_eq_false z_b | skip) <;> ((try (unfold btw at z_b)); first | contradiction | (revert z_b; intros))) | ((apply q_alli) <;> intro _ _ _ _ <;> try contradiction) | (apply q_allv; intro _ _ _)) | refine xClkG0 ?_ | ((apply q_cmpk); (focus exact rfl); (focus exact rfl); (focus exact rfl); (focus exact rfl); (all_goals (intro hb; first | (replace hb := of_decide_eq_true hb) | (replace hb := of_decide_eq_false hb))); (all_goals (try (exfalso; omega; done))); (all_goals (revert hb; intros))) | refine xAEStrN3 ?_ | ((apply q_streq); (focus exact rfl); (focus exact rfl); (focus exact rfl); (focus exact rfl); (all_goals (intro hb; first | (replace hb := of_decide_eq_true hb) | (replace hb := of_decide_eq_false hb))); (all_goals (try contradiction)); (all_goals (revert hb; intros))) | refine xAEStrN1 ?_ | refine xAEStrN0 ?_ | fail)); all_goals ((conv => whnf); try with_reducible apply At.mk)))
 ·(refine byFin ?_)
  exact .inl ⟨by rw [nats_len]; omega, rfl⟩
 have hsl : s.size ≤ 65536 := by omega
 apply q_call
 focus (exact byNext)
 focus (exact byLo)
 focus exact rsplit_w (c := 10) byO byO
 rintro v h2 ⟨ps, pr, bb, his, rfl, gp, pr1, pr2, pl⟩ q2 n2
 simp only [bump_next] at pr1
 have hne : 0 < ps.length := by
  have := his.ne
  cases ps with
  | nil => exact absurd rfl this
  | cons p ps => simp
 obtain ⟨pa, rfl, els, epr⟩ := gat_els gp hne
 clear gp
 by_cases hb : 2 ≤ ps.length ∧ ps.length ≤ 62 ∧ nats (ps.getD (ps.length - 1) ⟨#[]⟩) = []
 rotate_left
 ·have hwrong : ¬ ∃ f n z, IsFile (nats s) f n z := fun ⟨f', n', z', hf⟩ => hb (file_len2 his hf)
  by_cases h1 : 2 ≤ ps.length
  ·by_cases h3 : ps.length ≤ 62
   ·have el1 : h2.loadN (aadd pa ((ps.length - 1) * 1)) 1 = some [.string (ps.getD (ps.length - 1) ⟨#[]⟩)] := by
     exact els (ps.length - 1) byO
    have hne2 : ¬ nats (ps.getD (ps.length - 1) ⟨#[]⟩) = nats ⟨#[]⟩ := fun h => hb ⟨h1, h3, h⟩
    (refine byRunS ?_)
    (refine byFin ?_)
    exact .inr (.inl ⟨by rw [nats_len]; omega, hwrong, rfl⟩)
   ·(refine byRunS ?_)
    (refine byFin ?_)
    exact .inr (.inl ⟨by rw [nats_len]; omega, hwrong, rfl⟩)
  ·(refine byRunS ?_)
   (refine byFin ?_)
   exact .inr (.inl ⟨by rw [nats_len]; omega, hwrong, rfl⟩)
 obtain ⟨hb1, hb2, hb3⟩ := hb
 obtain ⟨n, en⟩ : ∃ n, ps.length = n + 2 := ⟨ps.length - 2, by omega⟩
 have e0 : ps.getD (ps.length - 1) ⟨#[]⟩ = ⟨#[]⟩ := by rw [← bs_nats (ps.getD (ps.length - 1) ⟨#[]⟩), hb3]; rfl
 have el1 : h2.loadN (aadd pa ((ps.length - 1) * 1)) 1 = some [.string ⟨#[]⟩] := by
  have := els (ps.length - 1) byO
  dsimp only at this
  rw [e0] at this
  exact this
 (refine byRunS ?_)
 refine wp_loop (fun q : Nat × (Nat → Ln) × Nat => [(0, .string s), (4, .slice (some pa) ps.length 0), (5, .int .i64 ((n : Int) + 2)), (6, .slice (addrX q.2.2 q.1) q.1 0), (7, .int .i64 q.1)])
  (fun q h1 => Same h2.next h2 h1 ∧ h2.next ≤ h1.next ∧ q.1 ≤ n ∧ (∀ i, i < q.1 → LineP (nats (ps.getD i ⟨#[]⟩)) true (q.2.1 i)) ∧ GX q.2.2 h1 38 4 q.1 (rowsOf (fun i => (q.2.1 i).cells) q.1) ∧ (0 < q.1 → h2.next ≤ q.2.2 ∧ q.2.2 < h1.next)) (fun q => n - q.1) (0, fun _ => ⟨0, 0, 0, 0⟩, 0) ⟨rfl, rfl, int_of rfl byO, rfl, rfl, trivial⟩ ⟨bySame, byOm, by simp, fun i hi => absurd hi (Nat.not_lt_zero i), GX.nil, fun h => absurd h (Nat.lt_irrefl 0)⟩ ?_
 rintro ⟨j, f, r⟩ g5 h5 ⟨s5, n5, hj, hrow, gx, gb⟩ K hK
 dsimp only at hj hrow gx gb ⊢
 by_cases hlt2 : j < n
 ·have el : h5.loadN (aadd pa (j * 1)) 1 = some [.string (ps.getD j ⟨#[]⟩)] := (els.same s5 (fun _ => by omega)).at (m := j) byO
  have hmem : nats (ps.getD j ⟨#[]⟩) ∈ ps.map nats := by
   rw [List.getD_eq_getElem?_getD, List.getElem?_eq_getElem byO]
   exact List.mem_map_of_mem (List.getElem_mem _)
  have hpl := split_part his hmem
  rw [nats_len, nats_len] at hpl
  (refine byRunS ?_)
  apply q_call
  focus (exact byNext)
  focus (exact byLo)
  focus exact rsplit_w (c := 32) byO byO
  rintro v h6 ⟨ws, wr, wb, hwis, rfl, gw, wr1, wr2, wl⟩ q6 n6
  have wne : 0 < ws.length := by
   have := hwis.ne
   cases ws with
   | nil => exact absurd rfl this
   | cons p ps => simp
  obtain ⟨wa, rfl, wels, ewr⟩ := gat_els gw wne
  clear gw
  (refine byRunS ?_)
  apply q_call
  focus (exact byNext)
  focus (exact byLo)
  focus exact rline_w (n := ws.length) rfl hwis byO (fun p hp => by
   have := split_part hwis (List.mem_map_of_mem (f := nats) hp)
   rw [nats_len, nats_len] at this
   omega) byOm (wels.same (m := h6.next) bySame (fun _ => by omega))
  rintro v h7 ⟨x, ok, rfl, hlp⟩ q7 n7
  cases ok
  ·have hwrong : ¬ ∃ f n z, IsFile (nats s) f n z := fun ⟨f', n', z', hf⟩ => absurd (hlp.1 _ ((file_un his en hf).2.1 j hlt2)).1 (by simp)
   (refine byRunS ?_)
   (refine byFin ?_)
   exact .inr (.inl ⟨by rw [nats_len]; omega, hwrong, rfl⟩)
  unfold Ln.cells
  (refine byRunS ?_)
  apply q_appX (r := r) (n := j) (cs := rowsOf (fun i => (f i).cells) j) (nc := x.cells)
  case G =>
   refine gx.frame fun h0 => get_of fun y hy => ?_
   have := gb h0
   (exact byGet)
  case hsv => exact rfl
  case C =>
   apply Cells.one
   focus (apply loadN_cells; (focus (exact byGet)); (focus exact rfl))
   focus (unfold far; omega)
   focus exact rfl
   focus exact rfl
  case hlo => exact fun h0 => by have := gb h0; omega
  case hsm => omega
  intro r' hr0 hr1 g8
  have rb : h2.next ≤ r' := by
   rcases Nat.eq_zero_or_pos j with h0 | h0
   ·have := hr0 h0; omega
   ·have := hr1 h0; have := gb h0; omega
  have rb2 : r' < h7.next + 40 := by
   rcases Nat.eq_zero_or_pos j with h0 | h0
   ·have := hr0 h0; omega
   ·have := hr1 h0; have := gb h0; omega
  (refine byRunS ?_)
  have ecs : rowsOf (fun i => (f i).cells) j ++ x.cells = rowsOf (fun i => ((fun i => if i = j then x else f i) i).cells) (j + 1) := by
   show _ = rowsOf _ j ++ (if j = j then x else f j).cells
   rw [if_pos rfl]
   congr 1
   exact rowsOf_congr j fun i hi => by dsimp only; rw [if_neg byO]
  refine hK (j + 1, (fun i => if i = j then x else f i), r') _ _ ⟨rfl, rfl, rfl, rfl, int_of rfl (by dsimp only; omega), trivial⟩ ⟨bySame, byOm, by dsimp only; omega, fun i hi => ?_, ?_, fun _ => ⟨rb, ?_⟩⟩ (by dsimp only; omega)
  ·dsimp only
   by_cases hij : i = j
   ·subst hij; rw [if_pos rfl]; exact hlp
   ·rw [if_neg hij]; exact hrow i (by dsimp only at hi; omega)
  ·dsimp only at g8 ⊢
   rw [← ecs]
   exact g8.frame fun _ => get_of fun y hy => by (exact byGet)
  ·dsimp only
   rcases Nat.eq_zero_or_pos j with h0 | h0
   ·have := hr0 h0; (exact byOm)
   ·have := hr1 h0; have := gb h0; (exact byOm)
 obtain rfl : j = n := by omega
 clear hK
 have el9 : h5.loadN (aadd pa (((j : Int) + 2 - 2).toNat * 1)) 1 = some [.string (ps.getD j ⟨#[]⟩)] := by
  rw [show ((j : Int) + 2 - 2).toNat = j by omega]
  exact (els.same s5 (fun _ => by omega)).at (m := j) byO
 have hmem9 : nats (ps.getD j ⟨#[]⟩) ∈ ps.map nats := by
  rw [List.getD_eq_getElem?_getD, List.getElem?_eq_getElem byO]
  exact List.mem_map_of_mem (List.getElem_mem _)
 have hpl9 := split_part his hmem9
 rw [nats_len, nats_len] at hpl9
 (refine byRunS ?_)
 apply q_call
 focus (exact byNext)
 focus (exact byLo)
 focus exact rsplit_w (c := 32) byO byO
 rintro v h6 ⟨ws, wr, wb, hwis, rfl, gw, wr1, wr2, wl⟩ q6 n6
 have wne : 0 < ws.length := by
  have := hwis.ne
  cases ws with
  | nil => exact absurd rfl this
  | cons p ps => simp
 obtain ⟨wa, rfl, wels, ewr⟩ := gat_els gw wne
 clear gw
 have s6 : Same h2.next h2 h6 := by (exact bySame)
 obtain ⟨aB, hB⟩ := gx_bk (m := h5.next) gx byO (fun h0 => by have := gb h0; omega)
 (refine byRunS ?_)
 apply q_callv
 focus (exact byNext)
 focus (exact byLo)
 focus exact rcheckBook_w (B := ⟨j, f, addrX r j, aB, 0⟩) (m := h5.next) byOm (hB.same bySame (Nat.le_refl _))
 intro h7 q7 n7
 have hrows : ∀ f' n' z', IsFile (nats s) f' n' z' → (∀ i, i < j → f i = f' i) ∧ ws.map nats = [sealW, dec z'] ∧ (z' : Int) < 2147483647 := fun f' n' z' hf => by
  have hu := file_un his en hf
  have hz := hf.2.1
  unfold Clerk.P at hz
  refine ⟨fun i hi => ((hrow i hi).1 _ (hu.2.1 i hi)).2, ?_, hz⟩
  rw [hu.2.2] at hwis
  exact hwis.uniq (seal_row byO).1
 by_cases hg : Good j f
 rotate_left
 ·have hwrong : ¬ ∃ f n z, IsFile (nats s) f n z := fun ⟨f', n', z', hf⟩ => hg ⟨by omega, fun i hi => by
   have hu := file_un his en hf
   rw [(hrows _ _ _ hf).1 i hi]
   exact (hu.2.1 i hi).1⟩
  have hne4 : bookErr j f ≠ 0 := fun h => hg (bookErr_ok.1 h)
  dsimp only
  (refine byRunS ?_)
  (refine byFin ?_)
  exact .inr (.inl ⟨by rw [nats_len]; omega, hwrong, rfl⟩)
 have hb0 : bookErr j f = 0 := bookErr_ok.2 hg
 dsimp only
 rw [hb0]
 by_cases hw2 : ws.length = 2
 rotate_left
 ·have hwrong : ¬ ∃ f n z, IsFile (nats s) f n z := fun ⟨f', n', z', hf⟩ => hw2 (by
   have := congrArg List.length (hrows _ _ _ hf).2.1
   simpa using this)
  (refine byRunS ?_)
  (refine byFin ?_)
  exact .inr (.inl ⟨by rw [nats_len]; omega, hwrong, rfl⟩)
 obtain ⟨w0, w1, rfl⟩ := len2 hw2
 have we0 : h6.loadN (aadd wa (0 * 1)) 1 = some [.string w0] := wels 0 (by simp)
 have we1 : h6.loadN (aadd wa (1 * 1)) 1 = some [.string w1] := wels 1 (by simp)
 simp only [List.length_cons, List.length_nil, Nat.zero_add, Nat.reduceAdd]
 have hwr : ∀ f' n' z', IsFile (nats s) f' n' z' → nats w0 = sealW ∧ nats w1 = dec z' ∧ (z' : Int) < 2147483647 := fun f' n' z' hf => by
  have := hrows _ _ _ hf
  simp only [List.map_cons, List.map_nil, List.cons.injEq, and_true] at this
  exact ⟨this.2.1.1, this.2.1.2, this.2.2⟩
 by_cases hw0 : nats w0 = nats ⟨#[115, 101, 97, 108]⟩
 rotate_left
 ·have hwrong : ¬ ∃ f n z, IsFile (nats s) f n z := fun ⟨f', n', z', hf⟩ => hw0 (hwr _ _ _ hf).1
  (refine byRunS ?_)
  (refine byFin ?_)
  exact .inr (.inl ⟨by rw [nats_len]; omega, hwrong, rfl⟩)
 have hwl : w1.size ≤ 100000 := by
  have := split_part hwis (List.mem_map_of_mem (f := nats) (show w1 ∈ [w0, w1] by simp))
  rw [nats_len, nats_len] at this
  omega
 (refine byRunS ?_)
 apply q_call
 focus (exact byNext)
 focus (exact byLo)
 focus exact value_w hwl
 rintro v h8 ⟨z, rfl, hz⟩ q8 n8
 (focus ((try with_reducible apply wpC.to); (repeat' ((conv => whnf); first | ((apply q_cmpk); (focus exact rfl); (focus exact rfl); (focus exact rfl); (focus exact rfl); (all_goals (intro hb; first | (replace hb := of_decide_eq_true hb) | (replace hb := of_decide_eq_false hb))); (all_goals (try (exfalso; omega; done))); (all_goals (revert hb; intros))) | ((apply q_streq); (focus exact rfl); (focus exact rfl); (focus exact rfl); (focus exact rfl); (all_goals (intro hb; first | (replace hb := of_decide_eq_true hb) | (replace hb := of_decide_eq_false hb))); (all_goals (try contradiction)); (all_goals (revert hb; intros))) | ((apply q_ark); (focus exact rfl); (focus exact rfl); (focus exact rfl); (focus exact rfl); (focus first | exact wrap_u8 byO | exact wrap_i32 byO)) | refine byEv ?_ | (apply Fork.mk <;> (intro _; try (exfalso; omega))) | ((apply q_call); (focus exact byNext); (focus exact byLo); (focus (exact kClkA0)); first | ((apply q_allB) <;> (intro z_b _ _ _; first | exact Bool.noConfusion z_b | replace z_b := of_decide_eq_true z_b | replace z_b := of_decide_eq_false z_b | skip) <;> ((try (unfold btw at z_b)); first | contradiction | (revert z_b; intros))) | ((apply q_alli) <;> intro _ _ _ _ <;> try contradiction) | (apply q_allv; intro _ _ _)) | refine xClkG0 ?_ | ((apply q_cmpk); (focus exact rfl); (focus exact rfl); (focus exact rfl); (focus exact rfl); (all_goals (intro hb; first | (replace hb := of_decide_eq_true hb) | (replace hb := of_decide_eq_false hb))); (all_goals (try (exfalso; omega; done))); (all_goals (revert hb; intros))) | refine xAEStrN3 ?_ | ((apply q_streq); (focus exact rfl); (focus exact rfl); (focus exact rfl); (focus exact rfl); (all_goals (intro hb; first | (replace hb := of_decide_eq_true hb) | (replace hb := of_decide_eq_false hb))); (all_goals (try contradiction)); (all_goals (revert hb; intros))) | refine xAEStrN1 ?_ | refine xAEStrN0 ?_ | fail)); all_goals ((conv => whnf); try with_reducible apply At.mk)))
 rotate_left
 ·rename_i hbad
  have hwrong : ¬ ∃ f n z, IsFile (nats s) f n z := by
   rintro ⟨f', n', z', hf⟩
   have h1 := hwr _ _ _ hf
   have := valR_dec byO (h1.2.1 ▸ hz)
   exact hbad ⟨by omega, by omega⟩
  (refine byFin ?_)
  exact .inr (.inl ⟨by rw [nats_len]; omega, hwrong, rfl⟩)
 rename_i h9 q9 n9 hbz
 apply q_call
 focus (exact byNext)
 focus (exact byLo)
 focus exact value_w hwl
 rintro v h10 ⟨y, rfl, hy⟩ q10 n10
 obtain rfl := valR_un hz hy
 obtain ⟨z, rfl⟩ : ∃ k : Nat, z = k := ⟨z.toNat, by omega⟩
 have hw1 : nats w1 = dec z := valR_pos hz byO
 have hrow' : ∀ i, i < j → RowLn (nats (ps.getD i ⟨#[]⟩)) (f i) := fun i hi => (hrow i hi).2 rfl (hg.2 i hi)
 have hrz : nats (ps.getD j ⟨#[]⟩) = sealW ++ sep z := by
  rw [← hwis.join]
  simp only [List.map_cons, List.map_nil, hw0, hw1]
  simp [joinN, sep, sealW, nats]
 have hfile : IsFile (nats s) f j z := ⟨hg, by unfold Clerk.P; omega, file_of his en hb3 hrow' hrz⟩
 have hP : Part h5.next h5 f 0 j (addrX r j) aB 0 := hB.part hg
 (refine byRunS ?_)
 apply q_callv
 focus (exact byNext)
 focus (exact byLo)
 focus exact rroot_w j (show h5.next ≤ _ from byOm) (hP.same bySame (Nat.le_refl _))
 intro h11 q11 n11
 have hrb := root_bd f 0 j
 unfold Clerk.P at hrb
 by_cases hzr : (z : Int) = root f 0 j
 ·(refine byRunS ?_)
  (refine byFin ?_)
  refine .inr (.inr ⟨by rw [nats_len]; omega, f, j, z, hfile, .inr ⟨hzr, r, rfl, ?_, fun h0 => ?_⟩⟩)
  ·refine gx.frame fun h0 => get_of fun y hy => ?_
   have := gb h0
   (exact byGet)
  ·have := gb h0
   refine ⟨by omega, byOm⟩
 ·(refine byRunS ?_)
  (refine byFin ?_)
  exact .inr (.inr ⟨by rw [nats_len]; omega, f, j, z, hfile, .inl ⟨hzr, rfl⟩⟩)
end AE.Tryz

/- Clerk: how the ledger lies in the heap. -/
namespace AE.Clerk
structure Mdl.Ok (t : Int) (m : Mdl) : Prop where
 wax : 1 ≤ m.wax ∧ m.wax ≤ 1000000
 loss : 0 ≤ m.loss ∧ m.loss ≤ 1000001
 stage : 0 ≤ m.stage ∧ m.stage ≤ 2
 opn : 0 ≤ m.opn ∧ m.opn ≤ t
 runs : 0 ≤ m.runs ∧ m.runs ≤ t
 billed : 0 ≤ m.billed ∧ m.billed ≤ 60000000 * t
 claimed : 0 ≤ m.claimed ∧ m.claimed ≤ 1000000 * t
 paid : 0 ≤ m.paid ∧ m.paid ≤ 1000000000 * t
 no : 1 ≤ m.no ∧ m.no ≤ 1099511627776
structure St.Ok (t : Nat) (s : St) : Prop where
 stock : 0 ≤ s.stock ∧ s.stock ≤ 1000000 * t
 lost : 0 ≤ s.lost ∧ s.lost ≤ 1000001 * t
 ms : ∀ m ∈ s.ms, m.Ok t
 rs : ∀ r ∈ s.rs, r.at_ < t ∧ 0 ≤ r.cost ∧ r.cost ≤ 1000000 ∧ 1 ≤ r.no ∧ r.no ≤ 1099511627776
 mn : (s.ms.map Mdl.no).Nodup
 rn : (s.rs.map Rn.at_).Nodup
 ml : s.ms.length ≤ t
 rl : s.rs.length ≤ t
theorem Mdl.Ok.mono {t u : Int} {m : Mdl} (h : m.Ok t) (htu : t ≤ u) : m.Ok u := by
 obtain ⟨h1, h2, h3, h4, h5, h6, h7, h8, h9⟩ := h
 exact ⟨h1, h2, h3, by omega, by omega, by omega, by omega, by omega, h9⟩
theorem St.Ok.mono {t u : Nat} {s : St} (h : s.Ok t) (htu : t ≤ u) : s.Ok u := by
 obtain ⟨h1, h2, h3, h4, h5, h6, h7, h8⟩ := h
 exact ⟨by omega, by omega, fun m hm => (h3 m hm).mono byO, fun r hr => by have := h4 r hr; omega, h5, h6, by omega, by omega⟩
end AE.Clerk
namespace AE.Tryz
open Go AE Go.Proofs AE.Clerk
set_option maxRecDepth 100000
set_option linter.unusedVariables false

def ptrV (p : Nat) : Value := .pointer (some ⟨p, 0, none⟩)
def mCells (m : Mdl) : List Value := [.int .i64 m.no, .int .i64 m.stage, .int .i64 m.wax, .int .i64 m.runs, .int .i64 m.opn, .int .i64 m.billed, .int .i64 m.claimed, .int .i64 m.paid, .int .i64 m.loss]
def modE (ps : Nat → Nat) : List Mdl → Nat → List (EG Int)
 | [], _ => []
 | m :: ms, i => ⟨m.no, ptrV (ps i), i⟩ :: modE ps ms (i + 1)
def ownE : List Rn → Nat → List (EG Int)
 | [], _ => []
 | r :: rs, i => ⟨(r.at_ : Nat), .int .i64 r.no, i⟩ :: ownE rs (i + 1)
def costE : List Rn → Nat → List (EG Int)
 | [], _ => []
 | r :: rs, i => if r.back then costE rs (i + 1) else ⟨(r.at_ : Nat), .int .i64 r.cost, i⟩ :: costE rs (i + 1)
def entI (l : List (EG Int)) : List MapEntry := l.map (EG.ent fun k : Int => Value.int .i64 k)
structure LP where
 g1 : Nat
 g2 : Nat
 g3 : Nat
 g : Nat
 B : Nat
structure Lg (L : LP) (h : H) (ps : Nat → Nat) (s : St) : Prop where
 g : h.get L.g = some (.cells [.int .i64 s.stock, .int .i64 s.lost, .map (some L.g1), .map (some L.g2), .map (some L.g3)] 80)
 m : h.get L.g1 = some (.map (entI (modE ps s.ms 0)) s.ms.length)
 c : h.get L.g2 = some (.map (entI (costE s.rs 0)) s.rs.length)
 o : h.get L.g3 = some (.map (entI (ownE s.rs 0)) s.rs.length)
 p : ∀ i m, s.ms[i]? = some m → h.get (ps i) = some (.cells (mCells m) 85)
 pb : ∀ i, i < s.ms.length → L.B ≤ ps i ∧ ps i < h.next
 pn : ∀ i j, i < s.ms.length → j < s.ms.length → ps i = ps j → i = j
 ord : L.g1 < L.g2 ∧ L.g2 < L.g3 ∧ L.g3 < L.g ∧ L.g < L.B ∧ L.B ≤ h.next
def Fr (L : LP) (h h' : H) : Prop := ∀ q, q < L.B → (q < L.g1 ∨ L.g < q) → h'.get q = h.get q
theorem modE_congr {ps : Nat → Nat} : ∀ {ms ms' : List Mdl} {i : Nat}, ms.map Mdl.no = ms'.map Mdl.no → modE ps ms i = modE ps ms' i
 | [], [], _, _ => rfl
 | [], _ :: _, _, h => by simp at h
 | _ :: _, [], _, h => by simp at h
 | m :: ms, m' :: ms', i, h => by
   simp only [List.map_cons, List.cons.injEq] at h
   simp only [modE, h.1, modE_congr h.2]
theorem map_set_no {ms : List Mdl} {i : Nat} {m m' : Mdl} (hi : ms[i]? = some m) (hno : m'.no = m.no) : (ms.set i m').map Mdl.no = ms.map Mdl.no := by
 rw [List.map_set]
 apply List.ext_getElem?
 intro j
 rw [List.getElem?_set]
 by_cases hij : i = j
 ·subst hij
  obtain ⟨hi1, hi2⟩ := List.getElem?_eq_some_iff.1 hi
  simp only [List.length_map, List.getElem?_map, if_true]
  rw [if_pos hi1, hi]
  simp [hno]
 ·rw [if_neg hij]
theorem Lg.step {L : LP} {h h' : H} {ps : Nat → Nat} {s s' : St} (k : Lg L h ps s) {i : Nat} {m m' : Mdl} (hi : s.ms[i]? = some m) (hno : m'.no = m.no) (hms : s'.ms = s.ms.set i m')
 (hg : h'.get L.g = some (.cells [.int .i64 s'.stock, .int .i64 s'.lost, .map (some L.g1), .map (some L.g2), .map (some L.g3)] 80)) (h1 : h'.get L.g1 = h.get L.g1)
 (hc : h'.get L.g2 = some (.map (entI (costE s'.rs 0)) s'.rs.length)) (ho : h'.get L.g3 = some (.map (entI (ownE s'.rs 0)) s'.rs.length)) (hp : h'.get (ps i) = some (.cells (mCells m') 85))
 (hq : ∀ q, L.B ≤ q → q < h.next → q ≠ ps i → h'.get q = h.get q) (hn : h.next ≤ h'.next) : Lg L h' ps s' := by
 have hi1 : i < s.ms.length := (List.getElem?_eq_some_iff.1 hi).1
 have hl : s'.ms.length = s.ms.length := by rw [hms, List.length_set]
 refine ⟨hg, ?_, hc, ho, fun j y hy => ?_, fun j hj => ?_, fun a b ha hb => k.pn a b byO byO, ?_⟩
 ·rw [h1, k.m, hl]
  congr 3
  exact modE_congr (by rw [hms, map_set_no hi hno])
 ·rw [hms, List.getElem?_set] at hy
  by_cases hij : i = j
  ·subst hij
   rw [if_pos rfl, if_pos hi1] at hy
   simp only [Option.some.injEq] at hy
   subst hy
   exact hp
  ·rw [if_neg hij] at hy
   have hj : j < s.ms.length := (List.getElem?_eq_some_iff.1 hy).1
   have := k.pb j hj
   rw [hq _ this.1 this.2 fun e => hij (k.pn i j hi1 hj e.symm)]
   exact k.p j y hy
 ·have := k.pb j byO
  omega
 ·have := k.ord
  omega
theorem Lg.step0 {L : LP} {h h' : H} {ps : Nat → Nat} {s s' : St} (k : Lg L h ps s) (hms : s'.ms = s.ms)
 (hg : h'.get L.g = some (.cells [.int .i64 s'.stock, .int .i64 s'.lost, .map (some L.g1), .map (some L.g2), .map (some L.g3)] 80)) (h1 : h'.get L.g1 = h.get L.g1)
 (hc : h'.get L.g2 = some (.map (entI (costE s'.rs 0)) s'.rs.length)) (ho : h'.get L.g3 = some (.map (entI (ownE s'.rs 0)) s'.rs.length))
 (hq : ∀ q, L.B ≤ q → q < h.next → h'.get q = h.get q) (hn : h.next ≤ h'.next) : Lg L h' ps s' := by
 refine ⟨hg, by rw [h1, k.m, hms], hc, ho, fun j y hy => ?_, fun j hj => ?_, fun a b ha hb => k.pn a b (by rwa [hms] at ha) (by rwa [hms] at hb), ?_⟩
 ·rw [hms] at hy
  have := k.pb j (List.getElem?_eq_some_iff.1 hy).1
  rw [hq _ this.1 this.2]
  exact k.p j y hy
 ·rw [hms] at hj
  have := k.pb j hj
  omega
 ·have := k.ord
  omega
theorem Lg.same {L : LP} {h h' : H} {ps : Nat → Nat} {s : St} (k : Lg L h ps s) (hs : Same h.next h h') (hn : h.next ≤ h'.next) : Lg L h' ps s := by
 have o := k.ord
 exact ⟨(hs _ byO).trans k.g, (hs _ byO).trans k.m, (hs _ byO).trans k.c, (hs _ byO).trans k.o, fun i m hi => by
  have := k.pb i (List.getElem?_eq_some_iff.1 hi).1
  exact (hs _ this.2).trans (k.p i m hi), fun i hi => by have := k.pb i hi; omega, k.pn, by omega⟩
def RefP (e : Int) (v : Value) : Prop := (e = 0 ∧ v = .nilIface) ∨ (e = 5 ∧ v = .iface 131 (.agg ⟨[]⟩)) ∨ (e = 10 ∧ ∃ z, v = .iface 173 (.agg ⟨[.int .i64 z]⟩)) ∨ (e ≠ 0 ∧ e ≠ 5 ∧ e ≠ 10 ∧ 0 ≤ e ∧ e ≤ 100 ∧ v = .iface 171 (.agg ⟨[.int .i64 e]⟩))
def ActR (L : LP) (h : H) (s' : St) (e : Int) (v : Value) (h' : H) : Prop := (∃ ps', Lg L h' ps' s') ∧ RefP e v ∧ Fr L h h' ∧ h.next ≤ h'.next
theorem act_no {s : St} {i : Nat} {m : Mdl} (h : s.ms[i]? = some m) : m ∈ s.ms := List.mem_of_getElem? h
end AE.Tryz
