/- Walks and plain laws: ClkX, ClkSplit. -/
import Derived.Test.YtcminnjimlopbaaGreatDoorJoin25
import Derived.Test.YtcminnjimlopbaaGreatDoorClkJoin
import Derived.Test.YtcminnjimlopbaaGreatDoorJoin18
import Derived.Test.YtcminnjimlopbaaGreatDoorClkLays
import Derived.Shelf.Strings.Split
set_option linter.unusedVariables false
set_option linter.unusedSimpArgs false
set_option linter.unusedSectionVars false

/- Clerk: library functions, and line, as calls of the evaluator. -/
namespace AE.Tryz
open Go AE Go.Proofs AE.Clerk Go.RowKit
set_option maxRecDepth 100000
set_option linter.unusedVariables false

theorem g0 : Tryz.prog.globalNamed "internal/strconv.uint64pow10" = some 0 := by kernel_rfl
theorem tab_is {n : Nat} {w : World} (k : TabsIn n w) : Lib.TabIs Tryz.prog w "internal/strconv.uint64pow10" .u64 Lib.pow10Tab := by
 obtain ⟨-, e, fr, hh⟩ := k (0, pow10s.map (Value.int .u64)) (by simp [theTabs])
 unfold Lib.TabIs World.var?
 rw [g0, Option.bind_some, hh]
 rfl
theorem dec_digits (n : Nat) : (Lib.decDigits n).map (·.toNat) = dec n := by
 induction n using Nat.strongRecOn with
 | ind n ih =>
   rcases Nat.lt_or_ge n 10 with h | h
   ·rw [dec_lt h]
    unfold Lib.decDigits
    simp [h]
    omega
   ·rw [dec_ge h, ← ih (n / 10) byO]
    conv => lhs; unfold Lib.decDigits
    simp [show ¬ n < 10 by omega]
    omega
theorem dec_lt256 {n : Nat} : ∀ c ∈ dec n, c < 256 := fun c hc => by have := dec_digit c hc; omega
theorem itoa_bs {n : Int} (h : 0 ≤ n) : (⟨(Lib.itoa n).toArray⟩ : ByteArray) = bs (dec n.toNat) := by
 apply nats_inj
 rw [nats_bs dec_lt256, ← dec_digits]
 unfold Lib.itoa
 rw [if_neg byO]
 rfl
theorem formatInt_w {h : H} {n : Int} (h0 : 0 ≤ n) (h1 : n ≤ 9223372036854775807) : AW Tryz.prog 88 h.next h [.int .i64 n, .int .i64 10] (fun v h' => v = .string (bs (dec n.toNat)) ∧ h' = h) := by
 refine ⟨_, h, ⟨rfl, rfl⟩, AF.of_below (enters_of Tryz.func88 (by kernel_rfl) rfl) rfl fun I w k i => ?_⟩
 refine (Tryz.strconv_FormatInt_10 n byO h1 w (tab_is k.tabs)).mono ?_
 rintro e w' ⟨rfl, q, os, rfl⟩
 exact ⟨by rw [itoa_bs h0], below_grow w q os⟩
theorem inCap_le {I : Inj} {a : Addr} {n c : Nat} (h : InCap I a n c) : n ≤ renCap I a c := by
 unfold InCap at h
 unfold renCap
 cases hs : a.spot with
 | none => rw [hs] at h; exact h
 | some g =>
   rw [hs] at h
   dsimp only at h ⊢
   split
   ·rename_i e; rw [if_pos e] at h; exact h
   ·rename_i e; rw [if_neg e] at h; omega
theorem slice_cells {I : Inj} {h : H} {w : World} (k : Rel I h w) {a : Addr} {n c : Nat} {l : List Value} (hc : c < far) (i : In I (.slice (some a) n c)) (hl : h.loadN a n = some l) (hf : flatL l = true) :
 ∃ bk o cp, ren I (.slice (some a) n c) = .slice (some ⟨bk, o, none⟩) n cp ∧ n ≤ cp ∧ bk < w.heap.size ∧ ∀ j v, l[j]? = some v → w.cell? ⟨bk, o + j, none⟩ = some v := by
 rw [In_sl hc] at i
 obtain ⟨b, h1, h2, h3, h4, h5, h6⟩ := rel_cells k i.1 hl
 obtain ⟨bk, o, sp⟩ := b
 simp only at h2 h3
 subst h2
 refine ⟨bk, o, renCap I a c, by rw [ren_sl hc, h1], inCap_le i.2, h3, fun j v hj => ?_⟩
 have := h6 j v hj
 have hadd : (⟨bk, o, none⟩ : Addr).add j = ⟨bk, o + j, none⟩ := by
  simp only [Addr.add]
  split
  ·rename_i h0; rw [h0]; rfl
  ·rfl
 rw [hadd] at this
 rw [this]
 have e1 := (flat_renL I l hf).1
 have := congrArg (·[j]?) e1
 simp only [renL_getElem?, hj, Option.map_some] at this
 exact this
theorem flat_ints : ∀ zs : List Int, flatL (zs.map (Value.int .i64)) = true
 | [] => rfl
 | z :: zs => by simp only [List.map_cons, flatL, flat, Bool.true_and]; exact flat_ints zs
theorem flat_strs : ∀ xs : List ByteArray, flatL (xs.map Value.string) = true
 | [] => rfl
 | z :: zs => by simp only [List.map_cons, flatL, flat, Bool.true_and]; exact flat_strs zs
def lineN (w : List Nat) (zs : List Int) : List Nat := w ++ zs.flatMap sep
theorem lineB_bs (w : ByteArray) : ∀ (zs : List Int), (∀ z ∈ zs, 0 ≤ z) → (lineB w.data.toList zs).map (·.toNat) = lineN (nats w) zs := by
 intro zs h
 unfold lineB lineN
 rw [List.map_append, List.map_flatMap]
 congr 1
 induction zs with
 | nil => rfl
 | cons z zs ih =>
   rw [List.flatMap_cons, List.flatMap_cons, ih fun z hz => h z (List.mem_cons_of_mem _ hz)]
   congr 1
   have h0 := h z (List.mem_cons_self ..)
   unfold sep
   rw [← dec_digits]
   unfold Lib.itoa
   rw [if_neg byO]
   rfl
theorem line_w {h : H} {w : ByteArray} {zs : List Int} {a : Addr} {c n : Nat} (hw : w.size ≤ 1000) (hn : zs.length ≤ 3) (en : n = zs.length) (hc : c < far) (hl : h.loadN a n = some (zs.map (Value.int .i64))) (hb : ∀ z ∈ zs, 0 ≤ z ∧ z ≤ 9223372036854775807) :
 AW Tryz.prog 63 h.next h [.string w, .slice (some a) n c] (fun v h' => v = .string (bs (lineN (nats w) zs)) ∧ h' = h) := by
 subst en
 refine ⟨_, h, ⟨rfl, rfl⟩, AF.of_below (enters_of Tryz.func63 (by kernel_rfl) rfl) rfl fun I W k i => ?_⟩
 simp only [InL] at i
 obtain ⟨bk, o, cp, e, h1, h2, h3⟩ := slice_cells k hc i.2.1 hl (flat_ints zs)
 simp only [renL, e]
 refine (Tryz.line_world w zs bk o cp W hw hn h1 (fun j z hj => h3 j _ (by simp [hj])) h2 hb (tab_is k.tabs)).mono ?_
 rintro e w' ⟨rfl, b⟩
 refine ⟨?_, b⟩
 rw [← lineB_bs w zs fun z hz => (hb z hz).1]
 congr 2
 exact (bs_nats _).symm
end AE.Tryz

/- Clerk: strings.Split at one byte, in the world, and in plain words. -/
set_option linter.unusedVariables false
namespace Go.Proofs
open Go Go.Shelf Go.RowKit
theorem Tryz.genSplit_one (s : ByteArray) (c : UInt8) (w : World) (hs : s.size < 4294967281) :
 Calls Tryz.prog 91 #[.string s, .string ⟨#[c]⟩, .int .i64 0, .int .i64 (-1)] w fun e w' =>
  e = .returned (.slice (some ⟨w.heap.size, 0, none⟩) (Lib.countB s ⟨#[c]⟩ + 1) (Lib.countB s ⟨#[c]⟩ + 1)) ∧ w' = w.alloc (.cells ((Lib.splitB ⟨#[c]⟩ 0 (Lib.countB s ⟨#[c]⟩) s).map Value.string).toArray 9) := by
 have h1 : 1 ≤ (⟨#[c]⟩ : ByteArray).size := by simp [ByteArray.size]
 have hle := Lib.countB_le ⟨#[c]⟩ h1 s.size s (Nat.le_refl _)
 have hlen := Lib.splitB_all ⟨#[c]⟩ h1 0 _ s rfl
 have hI : ∀ (x : ByteArray) (cs : Array Value), x.size ≤ s.size → Calls Tryz.prog 113 #[.string x, .string ⟨#[c]⟩] (w.alloc (.cells cs 9)) fun e w' => e = .returned (.int .i64 (Lib.indexB x ⟨#[c]⟩)) ∧ w' = w.alloc (.cells cs 9) := fun x cs _ => by
  refine (Any.strings_Index_one Tryz.lays143 x c _).mono ?_
  rintro e w' ⟨rfl, rfl⟩
  refine ⟨?_, rfl⟩
  show _ = Ending.returned (Value.int .i64 (Lib.index x.data.toList [c]))
  rw [Lib.index_one]
 have hC : Calls Tryz.prog 112 #[.string s, .string ⟨#[c]⟩] w fun e w' => e = .returned (.int .i64 (Lib.countB s ⟨#[c]⟩)) ∧ w' = w := by
  refine (Any.strings_Count_one Tryz.lays138 s c w).mono ?_
  rintro e w' ⟨rfl, rfl⟩
  refine ⟨?_, rfl⟩
  show _ = Ending.returned (Value.int .i64 ((Lib.count s.data.toList [c] : Nat) : Int))
  rw [Lib.count_one]
  rfl
 have k := Any.strings_genSplit_core Tryz.lays221 (by kernel_rfl) s ⟨#[c]⟩ 0 (-1) (Lib.countB s ⟨#[c]⟩ + 1) w hs h1 (Nat.zero_le _) hI hC (by decide) (by decide) (by rw [if_pos (by decide)]; omega)
 rw [Nat.add_sub_cancel, hlen] at k
 have e2 : Lib.cellsOf (Lib.splitB ⟨#[c]⟩ 0 (Lib.countB s ⟨#[c]⟩) s) (Lib.countB s ⟨#[c]⟩ + 1) = ((Lib.splitB ⟨#[c]⟩ 0 (Lib.countB s ⟨#[c]⟩) s).map Value.string).toArray := by rw [← hlen]; exact Lib.cellsOf_full _
 rw [e2] at k
 exact k
theorem Tryz.split_one (s : ByteArray) (c : UInt8) (w : World) (hs : s.size < 4294967281) :
 Calls Tryz.prog 66 #[.string s, .string ⟨#[c]⟩] w fun e w' =>
  e = .returned (.slice (some ⟨w.heap.size, 0, none⟩) (Lib.countB s ⟨#[c]⟩ + 1) (Lib.countB s ⟨#[c]⟩ + 1)) ∧ w' = w.alloc (.cells ((Lib.splitB ⟨#[c]⟩ 0 (Lib.countB s ⟨#[c]⟩) s).map Value.string).toArray 9) := by
 have k := Tryz.genSplit_one s c w hs
 generalize Lib.countB s ⟨#[c]⟩ = n at k ⊢
 generalize Lib.splitB ⟨#[c]⟩ 0 n s = l at k ⊢
 go_enter Tryz.func66, Tryz.ntmps66
 go_wp2_with (go_at_call 91; refine k.mono ?_; rintro e w' ⟨rfl, hw⟩; rw [hw])
 go_ret
 exact ⟨rfl, rfl⟩
end Go.Proofs
namespace AE.Clerk
open Go


def joinN (sep : List Nat) : List (List Nat) → List Nat
 | [] => []
 | x :: r => x ++ (r.map (sep ++ ·)).flatten
theorem joinN_cons (sep x y : List Nat) (r : List (List Nat)) : joinN sep (x :: y :: r) = x ++ sep ++ joinN sep (y :: r) := by simp [joinN]
structure IsSplit (c : Nat) (l : List Nat) (ps : List (List Nat)) : Prop where
 ne : ps ≠ []
 join : joinN [c] ps = l
 free : ∀ p ∈ ps, c ∉ p
theorem IsSplit.one {c : Nat} {l : List Nat} (h : c ∉ l) : IsSplit c l [l] := ⟨by simp, by simp [joinN], fun p hp => by simp at hp; subst hp; exact h⟩
theorem IsSplit.cons {c : Nat} {p l : List Nat} {ps : List (List Nat)} (h : c ∉ p) (k : IsSplit c l ps) : IsSplit c (p ++ c :: l) (p :: ps) := by
 refine ⟨by simp, ?_, fun q hq => ?_⟩
 ·obtain ⟨h1, h2, -⟩ := k
  cases ps with
  | nil => exact absurd rfl h1
  | cons y r => rw [joinN_cons, h2]; simp
 ·rcases List.mem_cons.1 hq with rfl | hq
  ·exact h
  ·exact k.free q hq
theorem free_inj {c : Nat} : ∀ {p q l m : List Nat}, c ∉ p → c ∉ q → p ++ c :: l = q ++ c :: m → p = q ∧ l = m
 | [], [], l, m, _, _, h => by simp at h; exact ⟨rfl, h⟩
 | [], b :: q, l, m, _, hq, h => by simp at h; obtain ⟨rfl, -⟩ := h; simp at hq
 | a :: p, [], l, m, hp, _, h => by simp at h; obtain ⟨rfl, -⟩ := h; simp at hp
 | a :: p, b :: q, l, m, hp, hq, h => by
   simp only [List.cons_append, List.cons.injEq] at h
   obtain ⟨rfl, h⟩ := h
   obtain ⟨e1, e2⟩ := free_inj (fun k => hp (List.mem_cons_of_mem _ k)) (fun k => hq (List.mem_cons_of_mem _ k)) h
   exact ⟨by rw [e1], e2⟩
theorem IsSplit.uniq {c : Nat} : ∀ {l : List Nat} {ps qs : List (List Nat)}, IsSplit c l ps → IsSplit c l qs → ps = qs
 | l, [], qs, h, _ => absurd rfl h.ne
 | l, _, [], _, k => absurd rfl k.ne
 | l, [p], [q], h, k => by
   have h1 := h.join; have h2 := k.join
   simp only [joinN, List.map_nil, List.flatten_nil, List.append_nil] at h1 h2
   rw [h1, h2]
 | l, [p], q :: q' :: r, h, k => by
   have h1 := h.join; have h2 := k.join
   rw [joinN_cons] at h2
   simp only [joinN, List.map_nil, List.flatten_nil, List.append_nil] at h1
   have := h.free p (by simp)
   rw [h1, ← h2] at this
   simp at this
 | l, p :: p' :: r, [q], h, k => by
   have h1 := h.join; have h2 := k.join
   rw [joinN_cons] at h1
   simp only [joinN, List.map_nil, List.flatten_nil, List.append_nil] at h2
   have := k.free q (by simp)
   rw [h2, ← h1] at this
   simp at this
 | l, p :: p' :: r, q :: q' :: r', h, k => by
   have h1 := h.join; have h2 := k.join
   rw [joinN_cons, List.append_assoc] at h1 h2
   obtain ⟨rfl, e⟩ := free_inj (h.free p (by simp)) (k.free q (by simp)) (h1.trans h2.symm)
   have := IsSplit.uniq (l := joinN [c] (p' :: r)) ⟨by simp, rfl, fun x hx => h.free x (List.mem_cons_of_mem _ hx)⟩ ⟨by simp, e.symm, fun x hx => k.free x (List.mem_cons_of_mem _ hx)⟩
   rw [this]
theorem mem_nats {s : ByteArray} {c : UInt8} : c.toNat ∈ nats s ↔ c ∈ s.data.toList := by
 unfold nats
 rw [List.mem_map]
 constructor
 ·rintro ⟨b, hb, e⟩
  rwa [← UInt8.toNat_inj.1 e]
 ·exact fun h => ⟨c, h, rfl⟩
theorem splitB_is (c : UInt8) : ∀ (k : Nat) (s : ByteArray), Lib.countB s ⟨#[c]⟩ = k → IsSplit c.toNat (nats s) ((Lib.splitB ⟨#[c]⟩ 0 k s).map nats)
 | 0, s, h => by
   have h : Lib.count s.data.toList [c] = 0 := h
   rw [Lib.count_one, List.count_eq_zero] at h
   exact IsSplit.one (fun hm => h (mem_nats.1 hm))
 | k + 1, s, h => by
   have h : Lib.count s.data.toList [c] = k + 1 := h
   rw [Lib.count_one] at h
   obtain ⟨o, ho⟩ : ∃ o : Nat, Lib.indexByte s.data.toList c = o := by
    rcases Int.lt_or_le (Lib.indexByte s.data.toList c) 0 with hn | hn
    ·have := Lib.indexByte_ge s.data.toList c
     have hx := Lib.indexByte_none (show Lib.indexByte s.data.toList c = -1 by omega)
     have : c ∈ s.data.toList := by
      rw [← List.count_pos_iff]; omega
     obtain ⟨i, hi⟩ := List.mem_iff_getElem?.1 this
     exact absurd hi (hx i)
    ·exact ⟨_, (Int.toNat_of_nonneg hn).symm⟩
   obtain ⟨h1, h2⟩ := Lib.indexByte_some ho
   have hidx : Lib.indexB s ⟨#[c]⟩ = (o : Int) := by
    show Lib.index s.data.toList [c] = _
    rw [Lib.index_one]; exact ho
   rw [Lib.splitB_hit _ _ _ _ _ hidx, List.map_cons]
   have hsz : (⟨#[c]⟩ : ByteArray).size = 1 := rfl
   rw [hsz, Nat.add_zero]
   obtain ⟨hol, hoc⟩ := List.getElem?_eq_some_iff.1 h1
   have hsplit : s.data.toList = s.data.toList.take o ++ c :: s.data.toList.drop (o + 1) := by
    conv => lhs; rw [← List.take_append_drop o s.data.toList, List.drop_eq_getElem_cons hol, hoc]
   have hnot : c ∉ s.data.toList.take o := fun hm => by
    obtain ⟨i, hi⟩ := List.mem_iff_getElem?.1 hm
    rw [List.getElem?_take] at hi
    split at hi
    ·exact h2 i (by assumption) hi
    ·simp at hi
   have e1 : nats (s.extract 0 o) = (s.data.toList.take o).map (·.toNat) := by
    rw [nats_extract, List.drop_zero]; unfold nats; rw [List.map_take]
   have e2 : nats (s.extract (o + 1) s.size) = (s.data.toList.drop (o + 1)).map (·.toNat) := by
    rw [nats_extract, List.take_of_length_le (by rw [nats_len]; exact Nat.le_refl _)]; unfold nats; rw [List.map_drop]
   have hrest : Lib.countB (s.extract (o + 1) s.size) ⟨#[c]⟩ = k := by
    show Lib.count (s.extract (o + 1) s.size).data.toList [c] = k
    have e3 : (s.extract (o + 1) s.size).data.toList = s.data.toList.drop (o + 1) := by
     rw [ByteArray.data_extract, Array.toList_extract, List.extract_eq_drop_take']
     rw [List.take_of_length_le (by rw [Array.length_toList]; exact Nat.le_refl _)]
    rw [Lib.count_one, e3]
    rw [hsplit, List.count_append, List.count_cons_self, List.count_eq_zero.2 hnot] at h
    omega
   have ih := splitB_is c k _ hrest
   have hall : nats s = nats (s.extract 0 o) ++ c.toNat :: nats (s.extract (o + 1) s.size) := by
    rw [e1, e2]
    conv => lhs; unfold nats; rw [hsplit, List.map_append, List.map_cons]
   rw [hall]
   refine IsSplit.cons ?_ ih
   rw [e1]
   intro hm
   rw [List.mem_map] at hm
   obtain ⟨b, hb, e⟩ := hm
   rw [UInt8.toNat_inj.1 e] at hb
   exact hnot hb
end AE.Clerk
