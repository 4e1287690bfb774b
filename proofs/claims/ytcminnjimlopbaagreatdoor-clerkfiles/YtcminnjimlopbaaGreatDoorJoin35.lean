/- Walks and plain laws: ClkU, ClkV, ClkW. -/
import Derived.Test.YtcminnjimlopbaaGreatDoorJoin23
import Derived.Test.YtcminnjimlopbaaGreatDoorAEthree
set_option linter.unusedVariables false
set_option linter.unusedSimpArgs false
set_option linter.unusedSectionVars false

/- Clerk, walked: the number of a word. -/
namespace AE.Tryz
open Go AE Go.Proofs AE.Clerk
set_option maxRecDepth 100000
set_option linter.unusedVariables false

theorem nats_take_all (s : ByteArray) : (nats s).take s.size = nats s := List.take_of_length_le (by rw [nats_len]; exact Nat.le_refl _)
def NumR (w : List Nat) (v : Value) : Prop := (∃ z : Nat, IsNum w z ∧ v = .tuple #[.int .i64 z, .bool true]) ∨ ((¬ ∃ z, IsNum w z) ∧ ∃ z : Int, v = .tuple #[.int .i64 z, .bool false])
theorem number_w {h : H} {s : ByteArray} (hs : s.size ≤ 100000) : AW Tryz.prog 101 h.next h [.string s] (fun v _ => NumR (nats s) v) := by
 refine fun101.call rfl (Nat.le_refl _) ?_
 unfold a101
 (refine byRunP ?_)
 refine q_srange rfl ?_
 (refine byRunP ?_)
 refine wp_loop (fun k : Nat => [(0, .string s), (4, .int .i64 (valD ((nats s).take k))), (8, .pointer (some ⟨h.next + 4, 0, none⟩))]) (fun k h1 => h1.get (h.next + 4) = some (.siter s k) ∧ h.next + 4 < h1.next ∧ k ≤ s.size ∧ Dig ((nats s).take k) ∧ (k ≠ 0 → valD ((nats s).take (k - 1)) ≤ 1099511627776) ∧ valD ((nats s).take k) ≤ 10995116277769) (fun k => s.size - k) 0 ⟨rfl, rfl, rfl, trivial⟩ ⟨byGet, byOm, by omega, fun c hc => by simp at hc, fun h => absurd rfl h, by simp [valD]⟩ ?_
 rintro k g h1 ⟨x1, n1, hk, hd, hp, hv⟩ K hK
 by_cases hlt : k < s.size
 ·have hkl : k < (nats s).length := by rw [nats_len]; exact hlt
  (refine byRunP ?_)
  refine q_snext rfl byO x1 hlt ?_ ?_
  ·intro hb
   by_cases hdig : 48 ≤ (nats s).getD k 0 ∧ (nats s).getD k 0 ≤ 57
   ·by_cases hbig : 1099511627776 < valD ((nats s).take k)
    ·(refine byRunS ?_)
     all_goals ((refine byFin ?_); exact .inr ⟨not_num hkl (.inr hbig), _, rfl⟩)
    ·have hst := valD_take hkl
     (refine byRunS ?_)
     refine hK (k + 1) _ _ ⟨rfl, int_of rfl byO, rfl, trivial⟩ ⟨byGet, byOm, by omega, fun c hc => ?_, fun _ => by rw [Nat.add_sub_cancel]; omega, by omega⟩ byO
     rw [List.take_add_one, List.getElem?_eq_getElem hkl] at hc
     simp only [Option.toList_some, List.mem_append, List.mem_singleton] at hc
     rcases hc with hc | rfl
     ·exact hd c hc
     ·simpa [List.getD_eq_getElem?_getD, hkl] using hdig
   ·(focus ((try with_reducible apply wpC.to); (repeat' ((conv => whnf); first | ((apply q_cmpk); (focus exact rfl); (focus exact rfl); (focus exact rfl); (focus exact rfl); (all_goals (intro hb; first | (replace hb := of_decide_eq_true hb) | (replace hb := of_decide_eq_false hb))); (all_goals (try (exfalso; omega; done))); (all_goals (revert hb; intros))) | ((apply q_streq); (focus exact rfl); (focus exact rfl); (focus exact rfl); (focus exact rfl); (all_goals (intro hb; first | (replace hb := of_decide_eq_true hb) | (replace hb := of_decide_eq_false hb))); (all_goals (try contradiction)); (all_goals (revert hb; intros))) | ((apply q_ark); (focus exact rfl); (focus exact rfl); (focus exact rfl); (focus exact rfl); (focus first | exact wrap_u8 byO | exact wrap_i32 byO)) | refine byEv ?_ | (apply Fork.mk <;> (intro _; try (exfalso; omega))) | ((apply q_call); (focus exact byNext); (focus exact byLo); (focus (exact kClkG0)); first | ((apply q_allB) <;> (intro z_b _ _ _; first | exact Bool.noConfusion z_b | replace z_b := of_decide_eq_true z_b | replace z_b := of_decide_eq_false z_b | skip) <;> ((try (unfold btw at z_b)); first | contradiction | (revert z_b; intros))) | ((apply q_alli) <;> intro _ _ _ _ <;> try contradiction) | (apply q_allv; intro _ _ _)) | refine xClkG0 ?_ | ((apply q_cmpk); (focus exact rfl); (focus exact rfl); (focus exact rfl); (focus exact rfl); (all_goals (intro hb; first | (replace hb := of_decide_eq_true hb) | (replace hb := of_decide_eq_false hb))); (all_goals (try (exfalso; omega; done))); (all_goals (revert hb; intros))) | refine xAEStrN3 ?_ | ((apply q_streq); (focus exact rfl); (focus exact rfl); (focus exact rfl); (focus exact rfl); (all_goals (intro hb; first | (replace hb := of_decide_eq_true hb) | (replace hb := of_decide_eq_false hb))); (all_goals (try contradiction)); (all_goals (revert hb; intros))) | refine xAEStrN1 ?_ | refine xAEStrN0 ?_ | fail)); all_goals ((conv => whnf); try with_reducible apply At.mk)))
    all_goals ((refine byFin ?_); exact .inr ⟨not_num hkl (.inl hdig), _, rfl⟩)
  ·intro hb c p' hc hc2
   (refine byRunS ?_)
   all_goals ((refine byFin ?_); exact .inr ⟨not_num hkl (.inl byO), _, rfl⟩)
 obtain rfl : k = s.size := by omega
 clear hK
 rw [nats_take_all] at hd hv
 have hp' : nats s ≠ [] → valD ((nats s).take ((nats s).length - 1)) ≤ 1099511627776 := fun h => by
  rw [nats_len]
  exact hp fun h0 => h (List.length_eq_zero_iff.1 (by rw [nats_len]; exact h0))
 have hn := is_num hd hp'
 (refine byRunP ?_)
 refine q_sdone rfl byO x1 byO ?_
 rw [nats_take_all]
 (focus ((try with_reducible apply wpC.to); (repeat' ((conv => whnf); first | ((apply q_cmpk); (focus exact rfl); (focus exact rfl); (focus exact rfl); (focus exact rfl); (all_goals (intro hb; first | (replace hb := of_decide_eq_true hb) | (replace hb := of_decide_eq_false hb))); (all_goals (try (exfalso; omega; done))); (all_goals (revert hb; intros))) | ((apply q_streq); (focus exact rfl); (focus exact rfl); (focus exact rfl); (focus exact rfl); (all_goals (intro hb; first | (replace hb := of_decide_eq_true hb) | (replace hb := of_decide_eq_false hb))); (all_goals (try contradiction)); (all_goals (revert hb; intros))) | ((apply q_ark); (focus exact rfl); (focus exact rfl); (focus exact rfl); (focus exact rfl); (focus first | exact wrap_u8 byO | exact wrap_i32 byO)) | refine byEv ?_ | (apply Fork.mk <;> (intro _; try (exfalso; omega))) | ((apply q_call); (focus exact byNext); (focus exact byLo); (focus (exact kClkG0)); first | ((apply q_allB) <;> (intro z_b _ _ _; first | exact Bool.noConfusion z_b | replace z_b := of_decide_eq_true z_b | replace z_b := of_decide_eq_false z_b | skip) <;> ((try (unfold btw at z_b)); first | contradiction | (revert z_b; intros))) | ((apply q_alli) <;> intro _ _ _ _ <;> try contradiction) | (apply q_allv; intro _ _ _)) | refine xClkG0 ?_ | ((apply q_cmpk); (focus exact rfl); (focus exact rfl); (focus exact rfl); (focus exact rfl); (all_goals (intro hb; first | (replace hb := of_decide_eq_true hb) | (replace hb := of_decide_eq_false hb))); (all_goals (try (exfalso; omega; done))); (all_goals (revert hb; intros))) | refine xAEStrN3 ?_ | ((apply q_streq); (focus exact rfl); (focus exact rfl); (focus exact rfl); (focus exact rfl); (all_goals (intro hb; first | (replace hb := of_decide_eq_true hb) | (replace hb := of_decide_eq_false hb))); (all_goals (try contradiction)); (all_goals (revert hb; intros))) | refine xAEStrN1 ?_ | refine xAEStrN0 ?_ | fail)); all_goals ((conv => whnf); try with_reducible apply At.mk)))
 ·rename_i he
  (refine byFin ?_)
  rw [nats_bs dec_lt256, Int.toNat_natCast] at he
  obtain ⟨z, hz⟩ := hn.2 he
  have : valD (nats s) = z := by rw [hz.2, valD_dec]
  rw [← this] at hz
  exact .inl ⟨_, hz, rfl⟩
 ·rename_i he
  (refine byFin ?_)
  rw [nats_bs dec_lt256, Int.toNat_natCast] at he
  exact .inr ⟨fun h => he (hn.1 h), _, rfl⟩
end AE.Tryz

/- Clerk, walked: the value of a word by the definitions. -/
namespace AE.Tryz
open Go AE Go.Proofs AE.Clerk
set_option maxRecDepth 100000
set_option linter.unusedVariables false

theorem valD_lt : ∀ {k : Nat} {l : List Nat}, Dig l → l.length = k → valD l < 10 ^ k
 | 0, l, _, h => by rw [List.length_eq_zero_iff.1 h]; simp [valD]
 | k + 1, l, hd, h => by
   have hl : l ≠ [] := fun e => by rw [e] at h; simp at h
   obtain ⟨m, c, rfl⟩ : ∃ m c, l = m ++ [c] := ⟨l.dropLast, l.getLast hl, (List.dropLast_concat_getLast hl).symm⟩
   have hc := hd c (by simp)
   have := valD_lt (k := k) (l := m) (fun x hx => hd x (List.mem_append_left _ hx)) (by simpa using h)
   rw [valD_snoc, Nat.pow_succ]
   omega
def IsVal (w : List Nat) (z : Nat) : Prop := z < 10000000000000 ∧ w = dec z
def ValR (w : List Nat) (z : Int) : Prop := (∃ n : Nat, IsVal w n ∧ z = n) ∨ ((¬ ∃ n, IsVal w n) ∧ z = -1)
theorem val_short {w : List Nat} {z : Nat} (h : IsVal w z) : 1 ≤ w.length ∧ w.length ≤ 13 ∧ (1 < w.length → w.getD 0 0 ≠ 48) := by
 obtain ⟨h1, rfl⟩ := h
 have e : (10 : Nat) ^ 13 = 10000000000000 := by decide
 refine ⟨dec_len, dec_len_pow byO byO, fun hl => ?_⟩
 rcases Nat.lt_or_ge z 10 with h | h
 ·rw [dec_lt h] at hl; simp at hl
 ·obtain ⟨c, l, e, hc, -⟩ := dec_head h
  rw [e]; simp; omega
theorem value_w {h : H} {s : ByteArray} (hs : s.size ≤ 100000) : AW Tryz.prog 72 h.next h [.string s] (fun v _ => ∃ z : Int, v = .int .i64 z ∧ ValR (nats s) z) := by
 refine fun72.call rfl (Nat.le_refl _) ?_
 unfold a72
 have hl : (nats s).length = s.size := nats_len s
 by_cases h1 : s.size < 1 ∨ 13 < s.size
 ·(focus ((try with_reducible apply wpC.to); (repeat' ((conv => whnf); first | ((apply q_cmpk); (focus exact rfl); (focus exact rfl); (focus exact rfl); (focus exact rfl); (all_goals (intro hb; first | (replace hb := of_decide_eq_true hb) | (replace hb := of_decide_eq_false hb))); (all_goals (try (exfalso; omega; done))); (all_goals (revert hb; intros))) | ((apply q_streq); (focus exact rfl); (focus exact rfl); (focus exact rfl); (focus exact rfl); (all_goals (intro hb; first | (replace hb := of_decide_eq_true hb) | (replace hb := of_decide_eq_false hb))); (all_goals (try contradiction)); (all_goals (revert hb; intros))) | ((apply q_ark); (focus exact rfl); (focus exact rfl); (focus exact rfl); (focus exact rfl); (focus first | exact wrap_u8 byO | exact wrap_i32 byO)) | refine byEv ?_ | (apply Fork.mk <;> (intro _; try (exfalso; omega))) | refine xClkG0 ?_ | ((apply q_cmpk); (focus exact rfl); (focus exact rfl); (focus exact rfl); (focus exact rfl); (all_goals (intro hb; first | (replace hb := of_decide_eq_true hb) | (replace hb := of_decide_eq_false hb))); (all_goals (try (exfalso; omega; done))); (all_goals (revert hb; intros))) | refine xAEStrN3 ?_ | ((apply q_streq); (focus exact rfl); (focus exact rfl); (focus exact rfl); (focus exact rfl); (all_goals (intro hb; first | (replace hb := of_decide_eq_true hb) | (replace hb := of_decide_eq_false hb))); (all_goals (try contradiction)); (all_goals (revert hb; intros))) | refine xAEStrN1 ?_ | refine xAEStrN0 ?_ | fail)); all_goals ((conv => whnf); try with_reducible apply At.mk)))
  all_goals ((refine byFin ?_); exact ⟨_, rfl, .inr ⟨fun ⟨n, hn⟩ => by have := val_short hn; omega, rfl⟩⟩)
 by_cases h0 : 1 < s.size ∧ (nats s).getD 0 0 = 48
 ·(refine byRunS ?_)
  all_goals ((refine byFin ?_); exact ⟨_, rfl, .inr ⟨fun ⟨n, hn⟩ => (val_short hn).2.2 byO h0.2, rfl⟩⟩)
 have fin : ∀ {l : List Nat}, Dig l → l ≠ [] → (l.length = 1 ∨ l.getD 0 0 ≠ 48) → l.length ≤ 13 → ValR l (valD l) := fun {l} hd hne h48 hlen => by
  refine .inl ⟨valD l, ⟨?_, (dec_valD hne hd (h48.imp id fun h => ?_)).symm⟩, rfl⟩
  ·have := valD_lt hd rfl
   have := Nat.pow_le_pow_right (n := 10) byO hlen
   omega
  ·cases l with
   | nil => exact absurd rfl hne
   | cons c l => simpa using h
 have hne : nats s ≠ [] := fun e => by rw [e] at hl; simp at hl; omega
 (focus ((try with_reducible apply wpC.to); (repeat' ((conv => whnf); first | ((apply q_cmpk); (focus exact rfl); (focus exact rfl); (focus exact rfl); (focus exact rfl); (all_goals (intro hb; first | (replace hb := of_decide_eq_true hb) | (replace hb := of_decide_eq_false hb))); (all_goals (try (exfalso; omega; done))); (all_goals (revert hb; intros))) | ((apply q_streq); (focus exact rfl); (focus exact rfl); (focus exact rfl); (focus exact rfl); (all_goals (intro hb; first | (replace hb := of_decide_eq_true hb) | (replace hb := of_decide_eq_false hb))); (all_goals (try contradiction)); (all_goals (revert hb; intros))) | ((apply q_ark); (focus exact rfl); (focus exact rfl); (focus exact rfl); (focus exact rfl); (focus first | exact wrap_u8 byO | exact wrap_i32 byO)) | refine byEv ?_ | (apply Fork.mk <;> (intro _; try (exfalso; omega))) | refine xClkG0 ?_ | ((apply q_cmpk); (focus exact rfl); (focus exact rfl); (focus exact rfl); (focus exact rfl); (all_goals (intro hb; first | (replace hb := of_decide_eq_true hb) | (replace hb := of_decide_eq_false hb))); (all_goals (try (exfalso; omega; done))); (all_goals (revert hb; intros))) | refine xAEStrN3 ?_ | ((apply q_streq); (focus exact rfl); (focus exact rfl); (focus exact rfl); (focus exact rfl); (all_goals (intro hb; first | (replace hb := of_decide_eq_true hb) | (replace hb := of_decide_eq_false hb))); (all_goals (try contradiction)); (all_goals (revert hb; intros))) | refine xAEStrN1 ?_ | refine xAEStrN0 ?_ | fail)); all_goals ((conv => whnf); try with_reducible apply At.mk)))
 all_goals (
  refine wp_loop (fun k : Nat => [(0, .string s), (3, .int .i64 (valD ((nats s).take k))), (4, .int .i64 k)]) (fun k h1 => k ≤ s.size ∧ Dig ((nats s).take k)) (fun k => s.size - k) 0 ⟨rfl, rfl, rfl, trivial⟩ ⟨by omega, fun c hc => by simp at hc⟩ ?_
  rintro k g h2 ⟨hk, hd⟩ K hK
  have hv := valD_lt (k := k) hd (by rw [List.length_take, hl]; exact Nat.min_eq_left hk)
  have hv2 := Nat.pow_le_pow_right (n := 10) byO (show k ≤ 13 by omega)
  have e13 : (10 : Nat) ^ 13 = 10000000000000 := by decide
  by_cases hlt : k < s.size
  ·have hkl : k < (nats s).length := by omega
   by_cases hdig : 48 ≤ (nats s).getD k 0 ∧ (nats s).getD k 0 ≤ 57
   ·have hst := valD_take hkl
    (refine byRunS ?_)
    refine hK (k + 1) _ _ ⟨rfl, int_of rfl byO, int_of rfl byO, trivial⟩ ⟨by omega, fun c hc => ?_⟩ byO
    rw [List.take_add_one, List.getElem?_eq_getElem hkl] at hc
    simp only [Option.toList_some, List.mem_append, List.mem_singleton] at hc
    rcases hc with hc | rfl
    ·exact hd c hc
    ·simpa [List.getD_eq_getElem?_getD, hkl] using hdig
   ·(focus ((try with_reducible apply wpC.to); (repeat' ((conv => whnf); first | ((apply q_cmpk); (focus exact rfl); (focus exact rfl); (focus exact rfl); (focus exact rfl); (all_goals (intro hb; first | (replace hb := of_decide_eq_true hb) | (replace hb := of_decide_eq_false hb))); (all_goals (try (exfalso; omega; done))); (all_goals (revert hb; intros))) | ((apply q_streq); (focus exact rfl); (focus exact rfl); (focus exact rfl); (focus exact rfl); (all_goals (intro hb; first | (replace hb := of_decide_eq_true hb) | (replace hb := of_decide_eq_false hb))); (all_goals (try contradiction)); (all_goals (revert hb; intros))) | ((apply q_ark); (focus exact rfl); (focus exact rfl); (focus exact rfl); (focus exact rfl); (focus first | exact wrap_u8 byO | exact wrap_i32 byO)) | refine byEv ?_ | (apply Fork.mk <;> (intro _; try (exfalso; omega))) | refine xClkG0 ?_ | ((apply q_cmpk); (focus exact rfl); (focus exact rfl); (focus exact rfl); (focus exact rfl); (all_goals (intro hb; first | (replace hb := of_decide_eq_true hb) | (replace hb := of_decide_eq_false hb))); (all_goals (try (exfalso; omega; done))); (all_goals (revert hb; intros))) | refine xAEStrN3 ?_ | ((apply q_streq); (focus exact rfl); (focus exact rfl); (focus exact rfl); (focus exact rfl); (all_goals (intro hb; first | (replace hb := of_decide_eq_true hb) | (replace hb := of_decide_eq_false hb))); (all_goals (try contradiction)); (all_goals (revert hb; intros))) | refine xAEStrN1 ?_ | refine xAEStrN0 ?_ | fail)); all_goals ((conv => whnf); try with_reducible apply At.mk)))
    all_goals (
     (refine byFin ?_)
     refine ⟨_, rfl, .inr ⟨fun ⟨n, hn⟩ => hdig ?_, rfl⟩⟩
     have := dec_dig n ((dec n)[k]'(by rw [← hn.2]; exact hkl)) (List.getElem_mem _)
     simp only [hn.2, List.getD_eq_getElem?_getD, List.getElem?_eq_getElem (show k < (dec n).length by rw [← hn.2]; exact hkl)]
     exact this)
  ·obtain rfl : k = s.size := by omega
   clear hK
   rw [nats_take_all] at hd
   rw [nats_take_all]
   (refine byRunS ?_)
   (refine byFin ?_)
   exact ⟨_, rfl, fin hd hne byO byO⟩)
end AE.Tryz

/- Clerk, walked: the word and the numbers of a row. -/
namespace AE.Tryz
open Go AE Go.Proofs AE.Clerk
set_option maxRecDepth 100000
set_option linter.unusedVariables false

def IsRow (l w : List Nat) (zs : List Nat) : Prop := IsSplit 32 l (w :: zs.map dec) ∧ ∀ z ∈ zs, z / 10 ≤ 1099511627776
theorem IsRow.split {l w : List Nat} {zs : List Nat} {ps : List (List Nat)} (h : IsRow l w zs) (k : IsSplit 32 l ps) : ps = w :: zs.map dec := k.uniq h.1
theorem strs_els {h : H} {r : Nat} {ps : List ByteArray} {e : TypeId} (hg : h.get r = some (.cells (ps.map Value.string) e)) : Els h ⟨r, 0, none⟩ ps.length 1 (fun i => [.string (ps.getD i ⟨#[]⟩)]) := by
 have e1 : ps.map Value.string = rowsOf (fun i => [.string (ps.getD i ⟨#[]⟩)]) ps.length := by
  have := cellsOf_rows (fun x : ByteArray => [Value.string x]) ps ⟨#[]⟩
  rw [← this]
  simp [cellsOf]
  try rw [List.map_eq_flatMap]
 rw [e1] at hg
 exact rows_els (fun _ => rfl) (loadN_cells hg (by
  have := rowsOf_len (g := fun i => [Value.string (ps.getD i ⟨#[]⟩)]) (w := 1) (fun _ => rfl) ps.length
  unfold cut
  rw [if_pos byO, ← this]
  simp))
def ReadR (h : H) (rr : Nat) (c4 : List Value) (l : List Nat) (v : Value) (h' : H) : Prop :=
 (∀ q, q < h.next → q ≠ rr → h'.get q = h.get q) ∧
 ((∃ (w zs : List Nat) (r : Nat), IsRow l w zs ∧ v = .tuple #[.string (bs w), .bool true] ∧ h'.get rr = some (.cells (c4 ++ [.slice (addrX r zs.length) zs.length 0]) 119) ∧ GX r h' 2 1 zs.length (zs.map fun z : Nat => .int .i64 (z : Int)) ∧ (0 < zs.length → h.next ≤ r ∧ r < h'.next)) ∨
  ((¬ ∃ w zs, IsRow l w zs) ∧ v = .tuple #[.string ⟨#[]⟩, .bool false] ∧ ∃ x, h'.get rr = some (.cells (c4 ++ [x]) 119)))
theorem split_len {c : Nat} : ∀ {ps : List (List Nat)} {l : List Nat}, IsSplit c l ps → ps.length ≤ l.length + 1
 | [], l, h => by simp
 | [p], l, h => by simp
 | p :: q :: r, l, h => by
   have hj := h.join
   rw [joinN_cons] at hj
   have := split_len (l := joinN [c] (q :: r)) ⟨by simp, rfl, fun x hx => h.free x (List.mem_cons_of_mem _ hx)⟩
   rw [← hj]
   simp only [List.length_append, List.length_cons, List.length_nil] at this ⊢
   omega
theorem split_part {c : Nat} : ∀ {ps : List (List Nat)} {l p : List Nat}, IsSplit c l ps → p ∈ ps → p.length ≤ l.length
 | [], l, p, h, hp => by simp at hp
 | [q], l, p, h, hp => by
   have := h.join
   simp only [joinN, List.map_nil, List.flatten_nil, List.append_nil] at this
   simp at hp
   rw [hp, this]
   exact Nat.le_refl _
 | q :: q' :: r, l, p, h, hp => by
   have hj := h.join
   rw [joinN_cons] at hj
   rcases List.mem_cons.1 hp with rfl | hp
   ·rw [← hj]; simp
   ·have := split_part (l := joinN [c] (q' :: r)) (p := p) ⟨by simp, rfl, fun x hx => h.free x (List.mem_cons_of_mem _ hx)⟩ hp
    rw [← hj]
    simp only [List.length_append, List.length_cons, List.length_nil] at this ⊢
    omega
theorem split_v {h : H} {s : ByteArray} {c : UInt8} (hs : s.size ≤ 4294967280) : AW Tryz.prog 66 h.next h [.string s, .string ⟨#[c]⟩] (fun v h' => ∃ (ps : List ByteArray) (r : Nat), IsSplit c.toNat (nats s) (ps.map nats) ∧ v = .slice (some ⟨r, 0, none⟩) ps.length ps.length ∧ h'.get r = some (.cells (ps.map Value.string) 9) ∧ h.next ≤ r ∧ r < h'.next ∧ ps.length ≤ s.size + 1) := by
 obtain ⟨v, h', ⟨ps, his, rfl, rfl⟩, a⟩ := split_w (h := h) (c := c) hs
 refine ⟨_, _, ⟨ps, h.next, his, rfl, by simp [H.put], Nat.le_refl _, by simp [H.put, H.bump], ?_⟩, a⟩
 have := split_len his
 rw [List.length_map, nats_len] at this
 exact this
theorem read_w {h : H} {lo rr : Nat} {s : ByteArray} {k m a b x : Value} (hs : s.size ≤ 70000) (hlo : lo ≤ rr) (hr : rr < h.next) (hg : h.get rr = some (.cells [k, m, a, b, x] 119)) : AW Tryz.prog 68 lo h [.pointer (some ⟨rr, 0, none⟩), .string s] (fun v h' => ReadR h rr [k, m, a, b] (nats s) v h') := by
 refine fun68.call rfl byO ?_
 unfold a68
 (refine byRun ?_)
 apply q_call
 focus (exact byNext)
 focus (exact byLo)
 focus exact split_v byO
 rintro v h2 ⟨ps, pr, his, rfl, gp, pr1, pr2, pl⟩ q2 n2
 simp only [bump_next] at pr1
 have hne : 0 < ps.length := by
  have := his.ne
  cases ps with
  | nil => exact absurd rfl this
  | cons p ps => simp
 (refine byRun ?_)
 have fr2 : ∀ q, q < h.next → h2.get q = h.get q := fun q hq => q2.same q byO
 apply q_from (n := ps.length) (c := ps.length) (l := 1) (a := ⟨pr, 0, none⟩)
 case hx => exact rfl
 case hh => exact rfl
 case hs => exact .inl ⟨rfl, Nat.le_refl _, by unfold far; omega⟩
 case h1 => omega
 case h0 => omega
 case hn => omega
 case hz => omega
 intro a' c' ha'
 (refine byRun ?_)
 refine wp_loop (fun s : Nat × List Nat × Nat => [(0, .pointer (some ⟨rr, 0, none⟩)), (6, .slice (some ⟨pr, 0, none⟩) ps.length ps.length), (17, .slice (some a') (ps.length - 1) c'), (18, .int .i64 ((ps.length - 1 : Nat) : Int)), (19, .int .i64 s.1)])
  (fun s h1 => (h1.get pr = some (.cells (ps.map Value.string) 9) ∧ h1.get rr = some (.cells [k, m, a, b, .slice (addrX s.2.2 s.2.1.length) s.2.1.length 0] 119)) ∧ (GX s.2.2 h1 2 1 s.2.1.length (s.2.1.map fun z : Nat => .int .i64 (z : Int)) ∧ (0 < s.2.1.length → h2.next ≤ s.2.2 ∧ s.2.2 < h1.next)) ∧ (s.2.1.length = s.1 ∧ s.1 ≤ ps.length - 1) ∧ ((ps.map nats).tail.take s.1 = s.2.1.map dec ∧ ∀ z ∈ s.2.1, z / 10 ≤ 1099511627776) ∧ (∀ q, q < h.next → q ≠ rr → h1.get q = h.get q) ∧ h2.next + 8 ≤ h1.next) (fun s => ps.length - 1 - s.1) (0, [], 0) ⟨rfl, rfl, rfl, rfl, rfl, trivial⟩ ⟨⟨byGet, byGet⟩, ⟨GX.nil, fun h => absurd h (Nat.lt_irrefl _)⟩, ⟨rfl, by simp⟩, ⟨by simp, fun z hz => by simp at hz⟩, fun q h1 h2 => (get_of fun y hy => by (exact byGet) : _ = h.get q), byOm⟩ ?_
 rintro ⟨j, zs, r⟩ g' h1 ⟨⟨x1, x2⟩, ⟨gx, gb⟩, ⟨hzl, hj⟩, ⟨ht, hz⟩, fr, n1⟩ K hK
 dsimp only at x1 x2 gx gb hzl hj ht hz fr ⊢
 by_cases hlt : j < ps.length - 1
 ·have el := strs_els x1
  rw [ha' byO]
  have el2 : h1.loadN (aadd (aadd ⟨pr, 0, none⟩ (1 * 1)) (j * 1)) 1 = some [.string (ps.getD (j + 1) ⟨#[]⟩)] := by
   have := el (j + 1) byO
   have ea : aadd (aadd (⟨pr, 0, none⟩ : Addr) (1 * 1)) (j * 1) = aadd ⟨pr, 0, none⟩ ((j + 1) * 1) := by simp only [aadd]; congr 1; omega
   rw [ea]; exact this
  have hmem : nats (ps.getD (j + 1) ⟨#[]⟩) ∈ ps.map nats := by
   rw [List.getD_eq_getElem?_getD, List.getElem?_eq_getElem byO]
   exact List.mem_map_of_mem (List.getElem_mem _)
  have hpl := split_part his hmem
  rw [nats_len, nats_len] at hpl
  (refine byRun ?_)
  apply q_call
  focus (exact byNext)
  focus (exact byLo)
  focus exact number_w byO
  rintro v h4 (⟨z, hz2, rfl⟩ | ⟨hno, z, rfl⟩) q4 n4
  ·have hzb := hz2.le
   (refine byRun ?_)
   apply q_appX (r := r) (n := zs.length) (cs := zs.map fun z : Nat => .int .i64 (z : Int)) (nc := [.int .i64 (z : Int)])
   case G =>
    refine gx.frame fun h0 => get_of fun y hy => ?_
    have := gb h0
    (exact byGet)
   case hsv => exact rfl
   case C =>
    apply Cells.one
    focus (apply loadN_cells; (focus (exact byGet)); (focus exact rfl))
    focus (unfold far; omega)
    focus exact rfl
    focus exact rfl
   case hlo => exact fun h0 => by have := gb h0; omega
   case hsm => omega
   intro r' hr0 hr1 g7
   have rb : h2.next ≤ r' ∧ r' < h4.next + 13 := by
    rcases Nat.eq_zero_or_pos zs.length with h0 | h0
    ·have := hr0 h0; omega
    ·have := hr1 h0; have := gb h0; omega
   have h4n : h1.next + 11 ≤ h4.next := by (exact byOm)
   (refine byRun ?_)
   have hlen : (zs ++ [z]).length = zs.length + 1 := by simp
   refine hK (j + 1, zs ++ [z], r') _ _ ⟨rfl, rfl, by rw [ha' byO]; rfl, rfl, int_of rfl (by dsimp only; omega), trivial⟩ ⟨⟨?_, ?_⟩, ⟨?_, fun _ => ⟨rb.1, ?_⟩⟩, ⟨by dsimp only; omega, by dsimp only; omega⟩, ⟨?_, fun y hy => ?_⟩, fun q hq1 hq2 => ?_, ?_⟩ (by dsimp only; omega)
   ·(exact byGet)
   ·dsimp only
    rw [hlen]
    (exact byGet)
   ·dsimp only
    rw [hlen, List.map_append]
    exact g7.frame fun _ => get_of fun y hy => by (exact byGet)
   ·have := rb.2; (exact byOm)
   ·dsimp only
    rw [List.take_add_one, ht, List.map_append, List.getElem?_tail, List.getElem?_map, List.getElem?_eq_getElem (show j + 1 < ps.length by omega)]
    simp only [Option.map_some, Option.toList_some, List.map_cons, List.map_nil]
    have := hz2.2
    rw [List.getD_eq_getElem?_getD, List.getElem?_eq_getElem (show j + 1 < ps.length by omega)] at this
    simp only [Option.getD_some] at this
    rw [this]
   ·rcases List.mem_append.1 hy with hy | hy
    ·exact hz y hy
    ·rw [List.mem_singleton] at hy; subst hy; exact hz2.1
   ·exact (get_of fun y hy => by (exact byGet) : _ = h1.get q).trans (fr q hq1 hq2)
   ·(exact byOm)
  ·(refine byRun ?_)
   (refine byFin ?_)
   refine ⟨fun q hq1 hq2 => (get_of fun y hy => by (exact byGet) : _ = h1.get q).trans (fr q hq1 hq2), .inr ⟨?_, rfl, _, byGet⟩⟩
   rintro ⟨w, zs', hrow⟩
   apply hno
   have e1 := hrow.split his
   have e2 : (ps.map nats)[j + 1]? = some (nats (ps.getD (j + 1) ⟨#[]⟩)) := by
    rw [List.getElem?_map, List.getD_eq_getElem?_getD, List.getElem?_eq_getElem (show j + 1 < ps.length by omega)]
    rfl
   rw [e1, List.getElem?_cons_succ, List.getElem?_map] at e2
   cases e3 : zs'[j]? with
   | none => rw [e3] at e2; simp at e2
   | some y =>
     rw [e3] at e2
     simp only [Option.map_some, Option.some.injEq] at e2
     exact ⟨y, hrow.2 y (List.mem_of_getElem? e3), e2.symm⟩
 ·obtain rfl : j = ps.length - 1 := by omega
  clear hK
  have el := strs_els x1 0 hne
  (refine byRun ?_)
  (refine byFin ?_)
  have hw : ps.map nats = nats (ps.getD 0 ⟨#[]⟩) :: zs.map dec := by
   rw [← ht]
   cases ps with
   | nil => simp at hne
   | cons p ps =>
     simp only [List.map_cons, List.tail_cons, List.length_cons, Nat.add_sub_cancel]
     rw [List.take_of_length_le (by simp)]
     rfl
  rw [hw] at his
  refine ⟨fun q hq1 hq2 => (get_of fun y hy => by (exact byGet) : _ = h1.get q).trans (fr q hq1 hq2), .inl ⟨_, zs, r, ⟨his, hz⟩, by rw [bs_nats], byGet, gx.frame fun _ => get_of fun y hy => byGet, fun h0 => ?_⟩⟩
  have := gb h0
  (exact byOm)
end AE.Tryz
