/- Walks and plain laws: ClkS, ClkT, ClerkSpec5. -/
import Derived.Test.YtcminnjimlopbaaGreatDoorJoin27
set_option linter.unusedVariables false
set_option linter.unusedSimpArgs false
set_option linter.unusedSectionVars false

/- Clerk, walked: Write. -/
namespace AE.Tryz
open Go AE Go.Proofs AE.Clerk
set_option maxRecDepth 100000
set_option linter.unusedVariables false

theorem joinN_snoc2 (c : Nat) (q : List Nat) : ∀ ps : List (List Nat), joinN [c] (ps ++ [q, []]) = ps.flatMap (· ++ [c]) ++ q ++ [c]
 | [] => by simp [joinN]
 | p :: ps => by
   have ih := joinN_snoc2 c q ps
   cases ps with
   | nil => simp [joinN]
   | cons p' ps =>
     rw [List.cons_append, List.cons_append, joinN_cons, ← List.cons_append, ih]
     simp [List.append_assoc]
theorem rowsN_flat (f : Nat → Ln) : ∀ n, ((List.range n).map fun i => (f i).text).flatMap (· ++ [10]) = rowsN f n
 | 0 => rfl
 | n + 1 => by
   rw [List.range_succ, List.map_append, List.flatMap_append, rowsN_flat f n]
   simp [rowsN]
def WrR (n : Nat) (f : Nat → Ln) : Value := if Good n f then .tuple #[.string (bs (file f n)), .int .i64 0] else .tuple #[.string ⟨#[]⟩, .int .i64 (bookErr n f)]
def rowV (f : Nat → Ln) (n : Nat) : List Value := (List.range n).map fun i => .string (bs (f i).text)
theorem rowV_succ (f : Nat → Ln) (n : Nat) : rowV f (n + 1) = rowV f n ++ [.string (bs (f n).text)] := by simp [rowV, List.range_succ]
theorem gx_gg {r n sz : Nat} {h : H} {e : TypeId} {cs : List Value} (g : GX r h e sz n cs) : GG r h e sz n cs (addrX r n) := by
 rcases Nat.eq_zero_or_pos n with h0 | h0
 ·subst h0
  have : cs = [] := List.length_eq_zero_iff.1 (by rw [g.len]; simp)
  exact .inl ⟨rfl, rfl, this⟩
 ·exact .inr ⟨h0, g.gat h0⟩
theorem cells_two {h : H} {r : Nat} {x y : ByteArray} {e : TypeId} (hg : h.get r = some (.cells [.string x, .string y] e)) : Cells h 1 2 (.slice (some ⟨r, 0, none⟩) 2 2) [.string x, .string y] := by
 refine ⟨rfl, fun _ => ?_, rfl, rfl⟩
 have : ¬ far ≤ 2 := by unfold far; omega
 simp only [acells, if_neg this]
 exact loadN_cells hg rfl
theorem write_w {h : H} {B : Bk} {m : Nat} (hm : m ≤ h.next) (hB : B.Ok m h) : AW Tryz.prog 30 h.next h [.slice B.b B.n B.c] (fun v _ => v = WrR B.n B.f) := by
 have l1 := hB.l
 refine fun30.call rfl (Nat.le_refl _) ?_
 unfold a30 WrR
 (refine byRun ?_)
 apply q_callv
 focus (exact byNext)
 focus (exact byLo)
 focus exact checkBook_w (m := m) byOm (hB.same (m' := m) bySame (Nat.le_refl _))
 intro h2 q2 n2
 by_cases hg : Good B.n B.f
 rotate_left
 ·have hne : bookErr B.n B.f ≠ 0 := fun h => hg (bookErr_ok.1 h)
  rw [if_neg hg]
  generalize he : bookErr B.n B.f = e at hne
  (refine byRun ?_)
  (refine byFin ?_)
  rfl
 rw [bookErr_ok.2 hg, if_pos hg]
 (refine byRun ?_)
 have n60 := hg.1
 have sm2 : Same m h h2 := by (exact bySame)
 have b2 := hB.same sm2 (Nat.le_refl _)
 have om : m ≤ h2.next := by (exact byOm)
 refine wp_loop (fun s : Nat × Nat => [(0, .slice B.b B.n B.c), (5, .slice (addrX s.2 s.1) s.1 0), (13, .slice B.b B.n B.c), (14, .int .i64 B.n), (15, .int .i64 s.1)]) (fun s h1 => Same h2.next h2 h1 ∧ h2.next ≤ h1.next ∧ s.1 ≤ B.n ∧ GX s.2 h1 9 1 s.1 (rowV B.f s.1) ∧ (0 < s.1 → h2.next ≤ s.2 ∧ s.2 < h1.next)) (fun s => B.n - s.1) (0, 0) ⟨rfl, rfl, rfl, rfl, rfl, trivial⟩ ⟨bySame, byOm, by simp, GX.nil, fun h => absurd h (Nat.lt_irrefl _)⟩ ?_
 rintro ⟨q, r⟩ g' h1 ⟨s1, n1, hq, gx, gb⟩ K hK
 dsimp only at hq gx gb ⊢
 by_cases hlt : q < B.n
 ·have hv := hg.2 q hlt
  have b3 := b2.same (s1.mono om) (Nat.le_refl _)
  have i3 := b3.i
  have e3 := b3.e
  have r3 := b3.r
  unfold Ln.cells at i3
  (refine byRun ?_)
  apply q_callv
  focus (exact byNext)
  focus (exact byLo)
  focus exact text_w hv
  intro h4 q4 n4
  (refine byRun ?_)
  apply q_appX (r := r) (n := q) (cs := rowV B.f q) (nc := [.string (bs (B.f q).text)])
  case G =>
   refine gx.frame fun h0 => get_of fun y hy => ?_
   have := gb h0
   (exact byGet)
  case hsv => exact rfl
  case C =>
   apply Cells.one
   focus (apply loadN_cells; (focus (exact byGet)); (focus exact rfl))
   focus (unfold far; omega)
   focus exact rfl
   focus exact rfl
  case hlo => exact fun h0 => by have := gb h0; omega
  case hsm => omega
  intro r' hr0 hr1 g7
  (refine byRun ?_)
  have rb : h2.next ≤ r' ∧ r' < h1.next + 12 := by
   rcases Nat.eq_zero_or_pos q with h0 | h0
   ·have := hr0 h0; omega
   ·have := hr1 h0; have := gb h0; omega
  refine hK (q + 1, r') _ _ ⟨rfl, rfl, rfl, rfl, int_of rfl (by dsimp only; omega), trivial⟩ ⟨?_, byOm, by dsimp only; omega, ?_, fun _ => ⟨rb.1, byOm⟩⟩ (by dsimp only; omega)
  ·(exact bySame)
  ·dsimp only
   rw [rowV_succ]
   exact g7.frame fun _ => get_of fun y hy => by (exact byGet)
 obtain rfl : q = B.n := by omega
 clear hK
 have b4 := b2.same (s1.mono om) (Nat.le_refl _)
 (refine byRun ?_)
 apply q_callv
 focus (exact byNext)
 focus (exact byLo)
 focus exact root_w B.n (show m ≤ _ from byOm) ((b4.part hg).same bySame (Nat.le_refl _))
 intro h5 q5 n5
 have hz := root_bd B.f 0 B.n
 unfold Clerk.P at hz
 (refine byRun ?_)
 apply q_call
 focus (exact byNext)
 focus (exact byLo)
 focus
  apply line_w3 (zs := [root B.f 0 B.n])
  focus (intro z hz2; rw [List.mem_singleton] at hz2; omega)
  focus exact rfl
  focus (exact byGet)
  focus decide
  focus exact Nat.le_of_ble_eq_true rfl
  focus exact rfl
  focus (unfold far; decide)
  focus exact rfl
 rintro v h6 ⟨rfl, rfl⟩ q6 n6
 have eL : lineN (nats ⟨#[115, 101, 97, 108]⟩) [root B.f 0 B.n] = sealW ++ sep (root B.f 0 B.n) := by simp [lineN, sealW, nats]
 rw [eL]
 (refine byRun ?_)
 apply q_appGG (r := r) (n := B.n) (m := 2) (cs := rowV B.f B.n) (nc := [.string (bs (sealW ++ sep (root B.f 0 B.n))), .string ⟨#[]⟩])
 case G =>
  refine (gx_gg gx).frame fun h0 => get_of fun y hy => ?_
  have := gb h0
  (exact byGet)
 case hsv => exact rfl
 case C => exact cells_two byGet
 case hm => omega
 case hlo => omega
 case hlr => exact fun h0 => by have := gb h0; omega
 case hsm => omega
 intro v' r' row hr0 hr1 hr2 g7
 (refine byRun ?_)
 rcases g7 with ⟨h0, -⟩ | ⟨h0, g7⟩
 ·omega
 obtain ⟨a, rfl, ha, hcut, -⟩ := g7.load
 have hall : rowV B.f B.n ++ [Value.string (bs (sealW ++ sep (root B.f 0 B.n))), .string ⟨#[]⟩] = ((List.range B.n).map (fun i => bs (B.f i).text) ++ [bs (sealW ++ sep (root B.f 0 B.n)), ⟨#[]⟩]).map Value.string := by simp [rowV]
 have hjoin : joinN (nats ⟨#[10]⟩) (((List.range B.n).map (fun i => bs (B.f i).text) ++ [bs (sealW ++ sep (root B.f 0 B.n)), ⟨#[]⟩]).map nats) = file B.f B.n := by
  have e1 : nats (bs (sealW ++ sep (root B.f 0 B.n))) = sealW ++ sep (root B.f 0 B.n) := nats_bs fun c hc => by
   rcases List.mem_append.1 hc with hc | hc
   ·simp [sealW] at hc; omega
   ·exact sep_lt c hc
  have e2 : nats ⟨#[]⟩ = [] := rfl
  have e3 : nats ⟨#[10]⟩ = [10] := rfl
  rw [List.map_append, List.map_map]
  simp only [List.map_cons, List.map_nil, e1, e2, e3, Function.comp_def, nats_text]
  rw [joinN_snoc2, rowsN_flat]
  simp [file, List.append_assoc]
 have hfl := file_len hg.2
 apply q_call
 focus (exact byNext)
 focus (exact byLo)
 focus
  apply join_w (xs := (List.range B.n).map (fun i => bs (B.f i).text) ++ [bs (sealW ++ sep (root B.f 0 B.n)), ⟨#[]⟩])
  focus simp
  focus simp
  focus (simp; omega)
  focus (unfold far; omega)
  focus
   rw [← hall]
   have := hcut 0 (B.n + 2) _ (by rw [show B.n + 2 = (rowV B.f B.n ++ [Value.string (bs (sealW ++ sep (root B.f 0 B.n))), .string ⟨#[]⟩]).length by simp [rowV]]; exact cut_whole _)
   rw [show aadd a 0 = a by simp [aadd]] at this
   (exact byOld)
  focus (rw [hjoin]; omega)
 rintro v h8 ⟨rfl, rfl⟩ q8 n8
 rw [hjoin]
 (refine byRun ?_)
 (refine byFin ?_)
 rfl
end AE.Tryz

/- Clerk, walked: Write by the definitions. -/
namespace AE.Tryz
open Go AE Go.Proofs AE.Clerk
set_option maxRecDepth 100000
set_option linter.unusedVariables false

theorem rwrite_w {h : H} {B : Bk} {m : Nat} (hm : m ≤ h.next) (hB : B.Ok m h) : AW Tryz.prog 31 h.next h [.slice B.b B.n B.c] (fun v _ => v = WrR B.n B.f) := by
 have l1 := hB.l
 refine fun31.call rfl (Nat.le_refl _) ?_
 unfold a31 WrR
 (refine byRunP ?_)
 apply q_callv
 focus (exact byNext)
 focus (exact byLo)
 focus exact rcheckBook_w (m := m) byOm (hB.same (m' := m) bySame (Nat.le_refl _))
 intro h2 q2 n2
 by_cases hg : Good B.n B.f
 rotate_left
 ·have hne : bookErr B.n B.f ≠ 0 := fun h => hg (bookErr_ok.1 h)
  rw [if_neg hg]
  generalize he : bookErr B.n B.f = e at hne
  (refine byRunP ?_)
  apply q_callv
  focus (exact byNext)
  focus (exact byLo)
  focus exact rcheckBook_w (m := m) byOm (hB.same (m' := m) bySame (Nat.le_refl _))
  intro h3 q3 n3
  rw [he]
  (refine byRunP ?_)
  (refine byFin ?_)
  rfl
 rw [bookErr_ok.2 hg, if_pos hg]
 (refine byRunP ?_)
 have n60 := hg.1
 have sm2 : Same m h h2 := by (exact bySame)
 have b2 := hB.same sm2 (Nat.le_refl _)
 have om : m ≤ h2.next := by (exact byOm)
 refine wp_loop (fun q : Nat => [(0, .slice B.b B.n B.c), (4, .string (bs (rowsN B.f q))), (5, .int .i64 q)]) (fun q h1 => Same h2.next h2 h1 ∧ h2.next ≤ h1.next ∧ q ≤ B.n) (fun q => B.n - q) 0 ⟨rfl, rfl, rfl, trivial⟩ ⟨bySame, byOm, by simp⟩ ?_
 rintro q g' h1 ⟨s1, n1, hq⟩ K hK
 have hrl := rowsN_len (f := B.f) (n := q) fun i hi => hg.2 i byO
 by_cases hlt : q < B.n
 ·have hv := hg.2 q hlt
  have b3 := b2.same (s1.mono om) (Nat.le_refl _)
  have i3 := b3.i
  have e3 := b3.e
  have r3 := b3.r
  have htl := text_len47 hv
  unfold Ln.cells at i3
  (refine byRunP ?_)
  apply q_callv
  focus (exact byNext)
  focus (exact byLo)
  focus exact rtext_w hv
  intro h4 q4 n4
  (focus ((try with_reducible apply wpC.to); (repeat' ((conv => whnf); first | refine byEv ?_ | (apply Fork.mk <;> (intro _; try (exfalso; omega))) | ((apply q_call); (focus exact byNext); (focus exact byLo); (focus (exact kClkG4)); first | ((apply q_allB) <;> (intro z_b _ _ _; first | exact Bool.noConfusion z_b | replace z_b := of_decide_eq_true z_b | replace z_b := of_decide_eq_false z_b | skip) <;> ((try (unfold btw at z_b)); first | contradiction | (revert z_b; intros))) | ((apply q_alli) <;> intro _ _ _ _ <;> try contradiction) | (apply q_allv; intro _ _ _)) | refine xClkG0 ?_ | ((apply q_cmpk); (focus exact rfl); (focus exact rfl); (focus exact rfl); (focus exact rfl); (all_goals (intro hb; first | (replace hb := of_decide_eq_true hb) | (replace hb := of_decide_eq_false hb))); (all_goals (try (exfalso; omega; done))); (all_goals (revert hb; intros))) | refine xAEStrN3 ?_ | ((apply q_streq); (focus exact rfl); (focus exact rfl); (focus exact rfl); (focus exact rfl); (all_goals (intro hb; first | (replace hb := of_decide_eq_true hb) | (replace hb := of_decide_eq_false hb))); (all_goals (try contradiction)); (all_goals (revert hb; intros))) | refine xAEStrN1 ?_ | refine xAEStrN0 ?_ | fail)); all_goals ((conv => whnf); try with_reducible apply At.mk)))
  exact hK (q + 1) _ _ ⟨rfl, rfl, int_of rfl byO, trivial⟩ ⟨bySame, byOm, by omega⟩ byO
 obtain rfl : q = B.n := by omega
 clear hK
 have b4 := b2.same (s1.mono om) (Nat.le_refl _)
 have hz := root_bd B.f 0 B.n
 unfold Clerk.P at hz
 have hsl := sep_len14 (root_le B.f 0 B.n)
 (focus ((try with_reducible apply wpC.to); (repeat' ((conv => whnf); first | refine byEv ?_ | (apply Fork.mk <;> (intro _; try (exfalso; omega))) | ((apply q_call); (focus exact byNext); (focus exact byLo); (focus (exact kClkG4)); first | ((apply q_allB) <;> (intro z_b _ _ _; first | exact Bool.noConfusion z_b | replace z_b := of_decide_eq_true z_b | replace z_b := of_decide_eq_false z_b | skip) <;> ((try (unfold btw at z_b)); first | contradiction | (revert z_b; intros))) | ((apply q_alli) <;> intro _ _ _ _ <;> try contradiction) | (apply q_allv; intro _ _ _)) | refine xClkG0 ?_ | ((apply q_cmpk); (focus exact rfl); (focus exact rfl); (focus exact rfl); (focus exact rfl); (all_goals (intro hb; first | (replace hb := of_decide_eq_true hb) | (replace hb := of_decide_eq_false hb))); (all_goals (try (exfalso; omega; done))); (all_goals (revert hb; intros))) | refine xAEStrN3 ?_ | ((apply q_streq); (focus exact rfl); (focus exact rfl); (focus exact rfl); (focus exact rfl); (all_goals (intro hb; first | (replace hb := of_decide_eq_true hb) | (replace hb := of_decide_eq_false hb))); (all_goals (try contradiction)); (all_goals (revert hb; intros))) | refine xAEStrN1 ?_ | refine xAEStrN0 ?_ | fail)); all_goals ((conv => whnf); try with_reducible apply At.mk)))
 apply q_callv
 focus (exact byNext)
 focus (exact byLo)
 focus exact rroot_w B.n (show m ≤ _ from byOm) ((b4.part hg).same bySame (Nat.le_refl _))
 intro h5 q5 n5
 (focus ((try with_reducible apply wpC.to); (repeat' ((conv => whnf); first | refine byEv ?_ | (apply Fork.mk <;> (intro _; try (exfalso; omega))) | ((apply q_call); (focus exact byNext); (focus exact byLo); (focus (exact kClkG4)); first | ((apply q_allB) <;> (intro z_b _ _ _; first | exact Bool.noConfusion z_b | replace z_b := of_decide_eq_true z_b | replace z_b := of_decide_eq_false z_b | skip) <;> ((try (unfold btw at z_b)); first | contradiction | (revert z_b; intros))) | ((apply q_alli) <;> intro _ _ _ _ <;> try contradiction) | (apply q_allv; intro _ _ _)) | refine xClkG0 ?_ | ((apply q_cmpk); (focus exact rfl); (focus exact rfl); (focus exact rfl); (focus exact rfl); (all_goals (intro hb; first | (replace hb := of_decide_eq_true hb) | (replace hb := of_decide_eq_false hb))); (all_goals (try (exfalso; omega; done))); (all_goals (revert hb; intros))) | refine xAEStrN3 ?_ | ((apply q_streq); (focus exact rfl); (focus exact rfl); (focus exact rfl); (focus exact rfl); (all_goals (intro hb; first | (replace hb := of_decide_eq_true hb) | (replace hb := of_decide_eq_false hb))); (all_goals (try contradiction)); (all_goals (revert hb; intros))) | refine xAEStrN1 ?_ | refine xAEStrN0 ?_ | fail)); all_goals ((conv => whnf); try with_reducible apply At.mk)))
 (refine byFin ?_)
 rfl
end AE.Tryz

/- Numbers that are read, in plain words. -/
namespace AE.Clerk

theorem foldD_ge : ∀ (l : List Nat) (n : Nat), n ≤ l.foldl (fun n c => 10 * n + (c - 48)) n
 | [], n => Nat.le_refl _
 | c :: l, n => by
   have := foldD_ge l (10 * n + (c - 48))
   simp only [List.foldl_cons]
   omega
theorem valD_app (a b : List Nat) : valD a ≤ valD (a ++ b) := by
 unfold valD
 rw [List.foldl_append]
 exact foldD_ge b _
def IsNum (w : List Nat) (z : Nat) : Prop := z / 10 ≤ 1099511627776 ∧ w = dec z
theorem IsNum.le {w : List Nat} {z : Nat} (h : IsNum w z) : z ≤ 10995116277769 := by have := h.1; omega
def Dig (l : List Nat) : Prop := ∀ c ∈ l, 48 ≤ c ∧ c ≤ 57
theorem valD_take {l : List Nat} {k : Nat} (h : k < l.length) : valD (l.take (k + 1)) = 10 * valD (l.take k) + (l.getD k 0 - 48) := by
 rw [List.take_add_one, List.getElem?_eq_getElem h]
 simp only [Option.toList_some]
 rw [valD_snoc]
 simp [List.getD_eq_getElem?_getD, h]
theorem valD_div {l : List Nat} (hd : Dig l) (hl : l ≠ []) {k : Nat} (hk : k < l.length) : valD (l.take k) ≤ valD l / 10 := by
 obtain ⟨m, c, rfl⟩ : ∃ m c, l = m ++ [c] := ⟨l.dropLast, l.getLast hl, (List.dropLast_concat_getLast hl).symm⟩
 have hc := hd c (by simp)
 rw [valD_snoc]
 have hkm : k ≤ m.length := by simp at hk; omega
 have e : (m ++ [c]).take k = m.take k := by rw [List.take_append_of_le_length hkm]
 rw [e]
 have := valD_app (m.take k) (m.drop k)
 rw [List.take_append_drop] at this
 omega
theorem valD_last {l : List Nat} (hd : Dig l) (hl : l ≠ []) : valD l / 10 = valD (l.take (l.length - 1)) := by
 obtain ⟨m, c, rfl⟩ : ∃ m c, l = m ++ [c] := ⟨l.dropLast, l.getLast hl, (List.dropLast_concat_getLast hl).symm⟩
 have hc := hd c (by simp)
 rw [valD_snoc]
 have e : (m ++ [c]).take ((m ++ [c]).length - 1) = m := by simp
 rw [e]
 omega
theorem dec_dig (n : Nat) : Dig (dec n) := fun c h => dec_digit c h
theorem not_num {w : List Nat} {k : Nat} (hk : k < w.length) (h : ¬ (48 ≤ w.getD k 0 ∧ w.getD k 0 ≤ 57) ∨ 1099511627776 < valD (w.take k)) : ¬ ∃ z, IsNum w z := by
 rintro ⟨z, h1, rfl⟩
 rcases h with h | h
 ·apply h
  have := dec_dig z ((dec z)[k]) (List.getElem_mem hk)
  simpa [List.getD_eq_getElem?_getD, hk] using this
 ·have := valD_div (dec_dig z) (dec_ne z) hk
  rw [valD_dec] at this
  omega
theorem is_num {w : List Nat} (hd : Dig w) (hp : w ≠ [] → valD (w.take (w.length - 1)) ≤ 1099511627776) : (∃ z, IsNum w z) ↔ dec (valD w) = w := by
 constructor
 ·rintro ⟨z, h1, rfl⟩
  rw [valD_dec]
 ·intro h
  refine ⟨valD w, ?_, h.symm⟩
  have hne : w ≠ [] := by rw [← h]; exact dec_ne _
  rw [valD_last hd hne]
  exact hp hne
end AE.Clerk
