/- Walks and plain laws: ClkRg, ClkRh. -/
import Derived.Test.YtcminnjimlopbaaGreatDoorJoin24
import Derived.Test.YtcminnjimlopbaaGreatDoorAEthree
set_option linter.unusedVariables false
set_option linter.unusedSimpArgs false
set_option linter.unusedSectionVars false

/- Clerk, walked: the definitions' split. -/
namespace AE.Tryz
open Go AE Go.Proofs AE.Clerk
set_option maxRecDepth 100000
set_option linter.unusedVariables false

theorem joinN_snoc (c : Nat) (q : List Nat) : ∀ ps : List (List Nat), joinN [c] (ps ++ [q]) = ps.flatMap (· ++ [c]) ++ q
 | [] => by simp [joinN]
 | p :: ps => by
   have ih := joinN_snoc c q ps
   cases ps with
   | nil => simp [joinN]
   | cons p' ps =>
     rw [List.cons_append, List.cons_append, joinN_cons, ← List.cons_append, ih]
     simp [List.append_assoc]
theorem split_end {c : Nat} {l : List Nat} {ps : List (List Nat)} {fr : Nat} (h1 : ps.flatMap (· ++ [c]) = l.take fr) (h2 : ∀ p ∈ ps, c ∉ p) (h3 : c ∉ l.drop fr) : IsSplit c l (ps ++ [l.drop fr]) := by
 refine ⟨by simp, ?_, fun p hp => ?_⟩
 ·rw [joinN_snoc, h1, List.take_append_drop]
 ·rcases List.mem_append.1 hp with hp | hp
  ·exact h2 p hp
  ·simp at hp; subst hp; exact h3
theorem rsplit_w {h : H} {s : ByteArray} {c : Nat} (hs : s.size ≤ 100000) (hc : c < 256) : AW Tryz.prog 70 h.next h [.string s, .int .u8 c] (fun v h' => ∃ (ps : List ByteArray) (r : Nat) (b : Option Addr), IsSplit c (nats s) (ps.map nats) ∧ v = .slice b ps.length 0 ∧ GAt r h' 9 1 ps.length (ps.map Value.string) b ∧ h.next ≤ r ∧ r < h'.next ∧ ps.length ≤ s.size + 1) := by
 refine fun70.call rfl (Nat.le_refl _) ?_
 unfold a70
 have hl : (nats s).length = s.size := nats_len s
 (refine byRunS ?_)
 refine wp_loop (fun q : Nat × Nat × List ByteArray × Nat × Option Addr => [(0, .string s), (1, .int .u8 c), (5, .slice q.2.2.2.2 q.2.2.1.length 0), (6, .int .i64 q.2.1), (7, .int .i64 q.1)])
  (fun q h1 => GE (h.next + 1) q.2.2.2.1 h1 9 1 q.2.2.1.length (q.2.2.1.map Value.string) q.2.2.2.2 ∧ (0 < q.2.2.1.length → h.next ≤ q.2.2.2.1 ∧ q.2.2.2.1 < h1.next) ∧ h.next + 5 ≤ h1.next ∧ (q.2.1 ≤ q.1 ∧ q.1 ≤ s.size ∧ q.2.2.1.length ≤ q.2.1) ∧ (q.2.2.1.map nats).flatMap (· ++ [c]) = (nats s).take q.2.1 ∧ (∀ p ∈ q.2.2.1, c ∉ nats p) ∧ c ∉ ((nats s).take q.1).drop q.2.1) (fun q => s.size - q.1) (0, 0, [], 0, some ⟨h.next + 1, 0, none⟩) ⟨rfl, rfl, rfl, rfl, rfl, trivial⟩ ⟨.inl ⟨rfl, rfl, rfl, byGet⟩, fun h => absurd h (Nat.lt_irrefl 0), byOm, ⟨by simp, by simp, by simp⟩, by simp, by simp, by simp⟩ ?_
 rintro ⟨i, fr, ps, r, b⟩ g' h1 ⟨ge, gb, n1, ⟨hfi, his, hlen⟩, hfl, hps, hcur⟩ K hK
 dsimp only at ge gb hfi his hlen hfl hps hcur ⊢
 by_cases hlt : i < s.size
 ·have hil : i < (nats s).length := by omega
  have etk : (nats s).take (i + 1) = (nats s).take i ++ [(nats s).getD i 0] := by
   rw [List.take_add_one, List.getElem?_eq_getElem hil, List.getD_eq_getElem?_getD, List.getElem?_eq_getElem hil]
   rfl
  by_cases hm : (nats s).getD i 0 = c
  ·(refine byRunS ?_)
   apply q_sls2 (s := s) (l := fr) (m := i)
   focus exact rfl
   focus exact rfl
   focus exact rfl
   focus exact rfl
   focus exact rfl
   focus omega
   focus omega
   (refine byRunS ?_)
   apply q_appGE (r0 := h.next + 1) (r := r) (n := ps.length) (cs := ps.map Value.string) (nc := [.string (s.extract fr i)])
   case G => exact ge.frame (fun h0 => get_of fun y hy => byGet) (fun h0 => get_of fun y hy => by have := gb h0; (exact byGet))
   case hsv => exact rfl
   case C =>
    apply Cells.one
    focus (apply loadN_cells; (focus (exact byGet)); (focus exact rfl))
    focus (unfold far; omega)
    focus exact rfl
    focus exact rfl
   case hlo => omega
   case hlr => exact fun h0 => by have := gb h0; omega
   case hsm => omega
   intro v' r' row hr0 hr1 hr2 ge'
   (refine byRunS ?_)
   have ec : nats (s.extract fr i) = ((nats s).take i).drop fr := nats_extract s fr i
   have hlen2 : (ps ++ [s.extract fr i]).length = ps.length + 1 := by simp
   have rb : h.next ≤ r' := by
    rcases Nat.eq_zero_or_pos ps.length with h0 | h0
    ·have := hr0 h0; omega
    ·have := hr1 h0; have := gb h0; omega
   refine hK (i + 1, i + 1, ps ++ [s.extract fr i], r', v') _ _ ⟨rfl, rfl, (by dsimp only; rw [hlen2]; rfl), int_of rfl (by dsimp only; omega), int_of rfl (by dsimp only; omega), trivial⟩ ⟨?_, fun _ => ⟨rb, byOm⟩, byOm, ⟨by dsimp only; omega, by dsimp only; omega, by dsimp only; omega⟩, ?_, ?_, ?_⟩ (by dsimp only; omega)
   ·dsimp only
    rw [hlen2, List.map_append]
    exact ge'.frame (fun h0 => absurd h0 (Nat.succ_ne_zero _)) (fun h0 => get_of fun y hy => byGet)
   ·dsimp only
    rw [List.map_append, List.flatMap_append, hfl, etk, hm]
    simp only [List.map_cons, List.map_nil, List.flatMap_cons, List.flatMap_nil, List.append_nil, ec]
    rw [← List.append_assoc]
    congr 1
    have e := List.take_append_drop fr ((nats s).take i)
    rw [List.take_take, Nat.min_eq_left hfi] at e
    exact e
   ·intro p hp
    rcases List.mem_append.1 hp with hp | hp
    ·exact hps p hp
    ·rw [List.mem_singleton] at hp; subst hp; rw [ec]; exact hcur
   ·simp
  ·(refine byRunS ?_)
   refine hK (i + 1, fr, ps, r, b) _ _ ⟨rfl, rfl, rfl, rfl, int_of rfl (by dsimp only; omega), trivial⟩ ⟨ge.frame (fun h0 => get_of fun y hy => byGet) (fun h0 => get_of fun y hy => by have := gb h0; (exact byGet)), fun h0 => by have := gb h0; dsimp only at this ⊢; (exact byOm), byOm, ⟨by dsimp only; omega, by dsimp only; omega, by dsimp only; omega⟩, hfl, hps, ?_⟩ (by dsimp only; omega)
   dsimp only
   rw [etk, List.drop_append_of_le_length (by rw [List.length_take]; omega)]
   intro h3
   rcases List.mem_append.1 h3 with h3 | h3
   ·exact hcur h3
   ·rw [List.mem_singleton] at h3; exact hm h3.symm
 obtain rfl : i = s.size := by omega
 clear hK
 have et : (nats s).take s.size = nats s := nats_take_all s
 rw [et] at hcur
 have ec : nats (s.extract fr s.size) = (nats s).drop fr := by rw [nats_extract, et]
 (refine byRunS ?_)
 apply q_slsf (s := s) (l := fr)
 focus exact rfl
 focus exact rfl
 focus exact rfl
 focus exact rfl
 focus omega
 (refine byRunS ?_)
 apply q_appGE (r0 := h.next + 1) (r := r) (n := ps.length) (cs := ps.map Value.string) (nc := [.string (s.extract fr s.size)])
 case G => exact ge.frame (fun h0 => get_of fun y hy => byGet) (fun h0 => get_of fun y hy => by have := gb h0; (exact byGet))
 case hsv => exact rfl
 case C =>
  apply Cells.one
  focus (apply loadN_cells; (focus (exact byGet)); (focus exact rfl))
  focus (unfold far; omega)
  focus exact rfl
  focus exact rfl
 case hlo => omega
 case hlr => exact fun h0 => by have := gb h0; omega
 case hsm => omega
 intro v' r' row hr0 hr1 hr2 ge'
 (refine byRunS ?_)
 (refine byFin ?_)
 have hlen2 : (ps ++ [s.extract fr s.size]).length = ps.length + 1 := by simp
 have rb : h.next ≤ r' := by
  rcases Nat.eq_zero_or_pos ps.length with h0 | h0
  ·have := hr0 h0; omega
  ·have := hr1 h0; have := gb h0; omega
 refine ⟨ps ++ [s.extract fr s.size], r', v', ?_, by rw [hlen2], ?_, rb, byOm, by omega⟩
 ·rw [List.map_append, List.map_cons, List.map_nil, ec]
  exact split_end hfl (fun p hp => by obtain ⟨q, hq, rfl⟩ := List.mem_map.1 hp; exact hps q hq) hcur
 ·rw [hlen2, List.map_append]
  rcases ge' with ⟨h0, -⟩ | ⟨h0, g⟩
  ·omega
  ·exact g.frame byGo
end AE.Tryz

/- Clerk: the line that the words of a row could be, in plain words. -/
namespace AE.Tryz
open Go AE Go.Proofs AE.Clerk
set_option maxRecDepth 100000
set_option linter.unusedVariables false

def many (k : Int) : Nat := if k = 0 ∨ k = 2 ∨ k = 4 then 1 else if k = 1 ∨ k = 3 then 3 else 2
theorem many_nums (x : Ln) (h : 0 ≤ x.k ∧ x.k ≤ 7) : x.nums.length = many x.k := by
 unfold Ln.nums many
 by_cases h0 : x.k = 0
 ·simp [h0]
 by_cases h1 : x.k = 1 ∨ x.k = 3
 ·rw [if_neg h0, if_pos h1, if_neg byO, if_pos h1]; rfl
 by_cases h2 : x.k = 2 ∨ x.k = 4
 ·rw [if_neg h0, if_neg h1, if_pos h2, if_pos byO]; rfl
 ·rw [if_neg h0, if_neg h1, if_neg h2, if_neg byO, if_neg h1]; rfl
def mkLn (k a b c : Int) : Ln := if k = 0 then ⟨0, 0, a, 0⟩ else ⟨k, a, b, c⟩
def LineP (l : List Nat) (ok : Bool) (x : Ln) : Prop := (∀ x', RowLn l x' → ok = true ∧ x = x') ∧ (ok = true → x.Valid 1099511627776 → RowLn l x)
theorem valR_dec {z : Int} {n : Nat} (hn : (n : Int) ≤ 1099511627776) (h : ValR (dec n) z) : z = n := by
 rcases h with ⟨m, ⟨_, h1⟩, rfl⟩ | ⟨h1, -⟩
 ·rw [dec_inj h1]
 ·exact absurd ⟨n, by omega, rfl⟩ h1
theorem valR_pos {w : List Nat} {z : Int} (h : ValR w z) (hz : 0 ≤ z) : w = dec z.toNat := by
 rcases h with ⟨m, ⟨_, h1⟩, rfl⟩ | ⟨h1, rfl⟩
 ·rw [h1]; rfl
 ·omega
theorem line_no {l w : List Nat} {rs : List (List Nat)} {x : Ln} (h : IsSplit 32 l (w :: rs)) (hno : ∀ k : Int, 0 ≤ k ∧ k ≤ 7 → w = word k → rs.length ≠ many k) : LineP l false x := by
 refine ⟨fun x' hx => ?_, fun h => by simp at h⟩
 obtain ⟨hv, rfl⟩ := hx
 have e := h.uniq (text_row hv).1
 simp only [List.cons.injEq] at e
 exact absurd (by rw [e.2]; simp [many_nums x' (kind_bd hv)]) (hno x'.k (kind_bd hv) e.1)
theorem line_un {l w : List Nat} {rs : List (List Nat)} {k : Int} (h : IsSplit 32 l (w :: rs)) (hk : 0 ≤ k ∧ k ≤ 7) (hw : w = word k) {x' : Ln} (hx : RowLn l x') : k = x'.k ∧ rs = x'.nums.map fun z => dec z.toNat := by
 obtain ⟨hv, rfl⟩ := hx
 have e := h.uniq (text_row hv).1
 simp only [List.cons.injEq, List.map_map] at e
 exact ⟨word_inj hk (kind_bd hv) (hw.symm.trans e.1), e.2⟩
theorem line_mk {l w : List Nat} {rs : List (List Nat)} {x : Ln} (h : IsSplit 32 l (w :: rs)) (hw : w = word x.k) (hv : x.Valid 1099511627776) (hn : rs = x.nums.map fun z => dec z.toNat) : RowLn l x := by
 refine ⟨hv, ?_⟩
 rw [text_join, ← hn, ← hw]
 exact h.join.symm
theorem valid_nn {x : Ln} (hv : x.Valid 1099511627776) : 0 ≤ x.m ∧ 0 ≤ x.a ∧ 0 ≤ x.b ∧ x.m ≤ 1099511627776 ∧ x.a ≤ 1099511627776 ∧ x.b ≤ 1099511627776 := by
 unfold Ln.Valid btw at hv; omega
theorem ln_ext {x y : Ln} (h1 : x.k = y.k) (h2 : x.m = y.m) (h3 : x.a = y.a) (h4 : x.b = y.b) : x = y := by
 obtain ⟨k, m, a, b⟩ := x
 obtain ⟨k', m', a', b'⟩ := y
 simp only at h1 h2 h3 h4
 rw [h1, h2, h3, h4]
theorem valid_z {x : Ln} (hv : x.Valid 1099511627776) : (x.k = 0 → x.m = 0 ∧ x.b = 0) ∧ (x.k = 2 ∨ x.k = 4 → x.a = 0 ∧ x.b = 0) ∧ (x.k = 5 ∨ x.k = 6 ∨ x.k = 7 → x.b = 0) := by
 unfold Ln.Valid btw at hv; omega
theorem line_1 {l w r1 : List Nat} {k a : Int} (h : IsSplit 32 l [w, r1]) (hk : k = 0 ∨ k = 2 ∨ k = 4) (hw : w = word k) (h1 : ValR r1 a) : LineP l true (mkLn k a 0 0) := by
 have hk7 : 0 ≤ k ∧ k ≤ 7 := by omega
 refine ⟨fun x' hx => ⟨rfl, ?_⟩, fun _ hv => ?_⟩
 ·obtain ⟨e1, e2⟩ := line_un h hk7 hw hx
  have nn := valid_nn hx.1
  have zz := valid_z hx.1
  unfold mkLn
  unfold Ln.nums at e2
  by_cases h0 : k = 0
  ·rw [if_pos byO] at e2
   simp only [List.map_cons, List.map_nil, List.cons.injEq, and_true] at e2
   have := valR_dec byO (e2 ▸ h1)
   rw [if_pos h0]
   exact ln_ext (by simp only; omega) (by simp only; omega) (by simp only; omega) (by simp only; omega)
  ·rw [if_neg byO, if_neg byO, if_pos byO] at e2
   simp only [List.map_cons, List.map_nil, List.cons.injEq, and_true] at e2
   have := valR_dec byO (e2 ▸ h1)
   rw [if_neg h0]
   exact ln_ext (by simp only; omega) (by simp only; omega) (by simp only; omega) (by simp only; omega)
 ·have nn := valid_nn hv
  unfold mkLn at hv nn ⊢
  by_cases h0 : k = 0
  ·rw [if_pos h0] at hv nn ⊢
   exact line_mk h (by rw [hw, h0]) hv (by rw [valR_pos h1 nn.2.1]; rfl)
  ·rw [if_neg h0] at hv nn ⊢
   refine line_mk h hw hv ?_
   unfold Ln.nums
   simp only
   rw [if_neg h0, if_neg byO, if_pos byO, valR_pos h1 nn.1]
   rfl
theorem line_2 {l w r1 r2 : List Nat} {k a b : Int} (h : IsSplit 32 l [w, r1, r2]) (hk : k = 5 ∨ k = 6 ∨ k = 7) (hw : w = word k) (h1 : ValR r1 a) (h2 : ValR r2 b) : LineP l true (mkLn k a b 0) := by
 have hk7 : 0 ≤ k ∧ k ≤ 7 := by omega
 have h0 : k ≠ 0 := by omega
 unfold mkLn
 rw [if_neg h0]
 refine ⟨fun x' hx => ⟨rfl, ?_⟩, fun _ hv => ?_⟩
 ·obtain ⟨e1, e2⟩ := line_un h hk7 hw hx
  have nn := valid_nn hx.1
  have zz := valid_z hx.1
  unfold Ln.nums at e2
  rw [if_neg byO, if_neg byO, if_neg byO] at e2
  simp only [List.map_cons, List.map_nil, List.cons.injEq, and_true] at e2
  have q1 := valR_dec byO (e2.1 ▸ h1)
  have q2 := valR_dec byO (e2.2 ▸ h2)
  exact ln_ext (by simp only; omega) (by simp only; omega) (by simp only; omega) (by simp only; omega)
 ·have nn := valid_nn hv
  refine line_mk h hw hv ?_
  unfold Ln.nums
  simp only
  rw [if_neg h0, if_neg byO, if_neg byO, valR_pos h1 nn.1, valR_pos h2 nn.2.1]
  rfl
theorem line_3 {l w r1 r2 r3 : List Nat} {k a b c : Int} (h : IsSplit 32 l [w, r1, r2, r3]) (hk : k = 1 ∨ k = 3) (hw : w = word k) (h1 : ValR r1 a) (h2 : ValR r2 b) (h3 : ValR r3 c) : LineP l true (mkLn k a b c) := by
 have hk7 : 0 ≤ k ∧ k ≤ 7 := by omega
 have h0 : k ≠ 0 := by omega
 unfold mkLn
 rw [if_neg h0]
 refine ⟨fun x' hx => ⟨rfl, ?_⟩, fun _ hv => ?_⟩
 ·obtain ⟨e1, e2⟩ := line_un h hk7 hw hx
  have nn := valid_nn hx.1
  unfold Ln.nums at e2
  rw [if_neg byO, if_pos byO] at e2
  simp only [List.map_cons, List.map_nil, List.cons.injEq, and_true] at e2
  have q1 := valR_dec byO (e2.1 ▸ h1)
  have q2 := valR_dec byO (e2.2.1 ▸ h2)
  have q3 := valR_dec byO (e2.2.2 ▸ h3)
  exact ln_ext (by simp only; omega) (by simp only; omega) (by simp only; omega) (by simp only; omega)
 ·have nn := valid_nn hv
  refine line_mk h hw hv ?_
  unfold Ln.nums
  simp only
  rw [if_neg h0, if_pos byO, valR_pos h1 nn.1, valR_pos h2 nn.2.1, valR_pos h3 nn.2.2.1]
  rfl
end AE.Tryz
