/- Walks and plain laws: ClkLine, ClkBld3, ClkGrow. -/
import Derived.Test.YtcminnjimlopbaaGreatDoorClkLays
import Derived.Test.YtcminnjimlopbaaGreatDoorJoin12
import Derived.Shelf.Strconv.Itoa4
import Derived.Sort.Grow
import Derived.Lib.ItoaLen
set_option linter.unusedVariables false
set_option linter.unusedSimpArgs false
set_option linter.unusedSectionVars false

/- Clerk: the text of a word and numbers, walked in the world by contracts of strings.Builder and strconv.FormatInt. -/
set_option linter.unusedVariables false
namespace Go.Proofs
open Go Go.Shelf Go.RowKit
theorem Tryz.strconv_FormatInt_10 (n : Int) (h0 : -9223372036854775808 ≤ n) (h1 : n ≤ 9223372036854775807) (w : World) (htab : Lib.TabIs Tryz.prog w "internal/strconv.uint64pow10" .u64 Lib.pow10Tab) :
 Calls Tryz.prog 88 #[.int .i64 n, .int .i64 10] w fun e w' => e = .returned (.string ⟨(Lib.itoa n).toArray⟩) ∧ ∃ k os, w' = Sort.grow (w.drewN k) os := Any.strconv_FormatInt_10 Tryz.lays173 n h0 h1 w htab
theorem Tryz.Extra169 : Builder.Extra Tryz.prog Tryz.lays169_ren := { sizeBuilder := by kernel_rfl, liesBuilder := by kernel_rfl, t5 := Tryz.underlying5, a5 := Tryz.isAgg5, z5 := Tryz.sizeOf5, v5 := Tryz.zeroValue5, infoByte := by kernel_rfl, cellsByte := by kernel_rfl, sizeByte := by kernel_rfl, neB5 := by decide }
theorem Tryz.Builder_String_any (B b : Nat) (l : List UInt8) (w : World) (h : Lib.IsBuilder 147 5 B b (Lib.byteCells l) w) (hBw : B ≤ w.heap.size) :
 Calls Tryz.prog 89 #[.pointer (some ⟨b, 0, none⟩)] w fun e w' => e = .returned (.string ⟨l.toArray⟩) ∧ Below B w w' := Any.Builder_String_any Tryz.lays169 Tryz.Extra169 B b l w h hBw

theorem below_grow (w : World) (k : Nat) (os : Array Obj) : Below w.heap.size w (Sort.grow (w.drewN k) os) :=
 ⟨rfl, rfl, rfl, by simp [Sort.grow, World.drewN], fun b hb => by simp only [Sort.grow, World.drewN]; rw [Array.getElem?_append_left hb]⟩
theorem BuilderAt.below {T e : TypeId} {B b : Nat} {p : Value} {bs : List Value} {w w' : World} (h : Lib.BuilderAt T e B b p bs w) (k : Below w.heap.size w w') : Lib.BuilderAt T e B b p bs w' := by
 have hlt := h.lt
 obtain ⟨hB, v, hb, hown, hne⟩ := h
 refine ⟨hB, v, (k.block b hlt).trans hb, ⟨hown.1, ?_⟩, hne⟩
 rcases hown.2 with hn | ⟨g, cap, cur, hv, hg, hgg, rest⟩
 ·exact .inl hn
 ·exact .inr ⟨g, cap, cur, hv, hg, (k.block g (lt_block hgg)).trans hgg, rest⟩
theorem IsBuilder.below {T e : TypeId} {B b : Nat} {bs : List Value} {w w' : World} (h : Lib.IsBuilder T e B b bs w) (k : Below w.heap.size w w') : Lib.IsBuilder T e B b bs w' :=
 h.imp (fun h => BuilderAt.below h k) (fun h => BuilderAt.below h k)
theorem tab_below {w w' : World} (h : Lib.TabIs Tryz.prog w "internal/strconv.uint64pow10" .u64 Lib.pow10Tab) (k : Below w.heap.size w w') : Lib.TabIs Tryz.prog w' "internal/strconv.uint64pow10" .u64 Lib.pow10Tab := by
 unfold Lib.TabIs World.var? at *
 cases hg : Tryz.prog.globalNamed "internal/strconv.uint64pow10" with
 | none => simp [hg] at h
 | some g =>
   simp only [hg, Option.bind_some] at h ⊢
   have hlt : g < w.heap.size := by
    rcases Nat.lt_or_ge g w.heap.size with h' | h'
    ·exact h'
    ·rw [Array.getElem?_eq_none h'] at h; simp at h
   rw [k.block g hlt]
   exact h
def lineB (word : List UInt8) (zs : List Int) : List UInt8 := word ++ zs.flatMap fun z => 32 :: Lib.itoa z
theorem lineB_snoc (word : List UInt8) (zs : List Int) (z : Int) : lineB word (zs ++ [z]) = lineB word zs ++ (32 :: Lib.itoa z) := by simp [lineB, List.flatMap_append]
theorem itoa_len (z : Int) (h0 : 0 ≤ z) (h1 : z ≤ 9223372036854775807) : (Lib.itoa z).length ≤ 21 := Lib.itoa_length_le z (by omega) h1
theorem lineB_len (word : List UInt8) : ∀ (zs : List Int), (∀ z ∈ zs, 0 ≤ z ∧ z ≤ 9223372036854775807) → (lineB word zs).length ≤ word.length + 22 * zs.length
 | [], _ => by simp [lineB]
 | z :: zs, h => by
   have h1 := lineB_len word zs fun z hz => h z (List.mem_cons_of_mem _ hz)
   have h2 := itoa_len z (h z (List.mem_cons_self ..)).1 (h z (List.mem_cons_self ..)).2
   simp only [lineB, List.flatMap_cons, List.length_append, List.length_cons] at h1 ⊢
   omega
theorem hidC {p : Prop} (h : p) : Hid p := h

set_option maxHeartbeats 4000000 in
set_option maxRecDepth 100000 in
theorem Tryz.line_world (word : ByteArray) (zs : List Int) (bk o cap : Nat) (w : World) (hw : word.size ≤ 1000) (hn : zs.length ≤ 3) (hc : zs.length ≤ cap) (hcells : ∀ (j : Nat) z, zs[j]? = some z → w.cell? ⟨bk, o + j, none⟩ = some (.int .i64 z)) (hbk : bk < w.heap.size)
 (hb : ∀ z ∈ zs, 0 ≤ z ∧ z ≤ 9223372036854775807) (htab : Lib.TabIs Tryz.prog w "internal/strconv.uint64pow10" .u64 Lib.pow10Tab) :
 Calls Tryz.prog 63 #[.string word, .slice (some ⟨bk, o, none⟩) zs.length cap] w fun e w' => e = .returned (.string ⟨(lineB word.data.toList zs).toArray⟩) ∧ Below w.heap.size w w' := by
 have HC := hidC hcells
 clear hcells
 have HB := hidC hb
 clear hb
 have HT := hidC htab
 clear htab
 go_enter Tryz.func63, Tryz.ntmps63
 go_wp2_with (go_at_call 86; refine (Tryz.Builder_WriteString w.heap.size w.heap.size [] word _ (Lib.fresh_isBuilder 147 5 w) (by simp; omega) (by simp)).mono ?_)
 rintro e w1 ⟨rfl, h1, hb1⟩
 have hb1' : Below w.heap.size w w1 := ((Below.refl w.heap.size w).alloc (Nat.le_refl _) _).trans hb1
 have hstart : ([] : List Value) ++ Lib.strCells word = Lib.byteCells (lineB word.data.toList (zs.take 0)) := by
  simp [Lib.strCells_eq, lineB]
 rw [hstart] at h1
 have H1 := hidC (Or.inr h1 : Lib.IsBuilder 147 5 w.heap.size w.heap.size _ w1)
 have Hb1 := hidC hb1'
 clear h1 hb1 hb1' hstart
 go_wp2_with fail
 go_loopw [12] (fun i wr => ∃ k : Nat, k ≤ zs.length ∧ i = .int .i64 k ∧ Hid (Lib.IsBuilder 147 5 w.heap.size w.heap.size (Lib.byteCells (lineB word.data.toList (zs.take k))) wr) ∧ Hid (Below w.heap.size w wr)) (fun i _ => zs.length - (intOf i).toNat)
 case atStart => exact ⟨0, Nat.zero_le _, rfl, H1, Hb1⟩
 case round =>
  obtain ⟨k, hk, rfl, HI, HW⟩ := hrel
  by_cases hkn : k < zs.length
  ·obtain ⟨z, hz⟩ : ∃ z, zs[k]? = some z := ⟨zs[k], List.getElem?_eq_getElem hkn⟩
   have hzm := HB.out z (List.mem_of_getElem? hz)
   have hcz : wr.cell? ⟨bk, o + k, none⟩ = some (.int .i64 z) := by
    rw [HW.out.cell (p := ⟨bk, o + k, none⟩) hbk]
    exact HC.out k z hz
   have hBw : w.heap.size ≤ wr.heap.size := HW.out.size
   have hl := lineB_len word.data.toList (zs.take k) fun z hz => HB.out z (List.mem_of_mem_take hz)
   rw [List.length_take, Nat.min_eq_left hk, ← Lib.size_eq] at hl
   have hi := itoa_len z hzm.1 hzm.2
   have hnext : Lib.byteCells (lineB word.data.toList (zs.take k)) ++ [Value.int .u8 32] ++ Lib.strCells ⟨(Lib.itoa z).toArray⟩ = Lib.byteCells (lineB word.data.toList (zs.take (k + 1))) := by
    rw [List.take_add_one, hz]
    simp only [Option.toList_some]
    rw [lineB_snoc, Lib.byteCells_append, Lib.strCells_eq, List.append_assoc]
    rfl
   have Hn := hidC hnext
   clear hnext
   go_wp2_with (go_at_call 87; refine (Tryz.Builder_WriteByte w.heap.size w.heap.size _ 32 wr HI.out (by rw [Lib.byteCells_length]; omega) hBw).mono ?_)
   rintro e w2 ⟨rfl, h2, hb2⟩
   have H2 := hidC h2
   have Hb2 := hidC (HW.out.trans hb2)
   have hBw2 : w.heap.size ≤ w2.heap.size := Hb2.out.size
   clear h2 hb2
   go_wp2_with (go_at_call 88; refine (Tryz.strconv_FormatInt_10 z (by omega) hzm.2 w2 (by
    have h := HT.out
    have k := Hb2.out
    exact tab_below h k)).mono ?_)
   rintro e w3 ⟨rfl, k3, os3, rfl⟩
   have hb3 := below_grow w2 k3 os3
   have H3 := hidC (IsBuilder.below (Or.inr H2.out) hb3)
   have Hb3 := hidC (Hb2.out.trans (hb3.mono hBw2))
   have hBw3 := Hb3.out.size
   clear hb3
   generalize Sort.grow (w2.drewN k3) os3 = w3 at H3 Hb3 hBw3
   go_wp2_with (go_at_call 86; refine (Tryz.Builder_WriteString w.heap.size w.heap.size _ ⟨(Lib.itoa z).toArray⟩ w3 H3.out (by
    rw [List.length_append, Lib.byteCells_length]; simp [Lib.size_eq]; omega) hBw3).mono ?_)
   rintro e w4 ⟨rfl, h4, hb4⟩
   rw [Hn.out] at h4
   have H4 := hidC (Or.inr h4 : Lib.IsBuilder 147 5 w.heap.size w.heap.size _ w4)
   have Hb4 := hidC (Hb3.out.trans hb4)
   clear h4 hb4
   go_wp2
   exact ⟨⟨k + 1, by omega, by go_num, H4, Hb4⟩, by simp [intOf]; omega⟩
  ·have hke : k = zs.length := by omega
   subst hke
   rw [List.take_length] at HI
   have hBw : w.heap.size ≤ wr.heap.size := HW.out.size
   go_wp2_with (go_at_call 89; refine (Tryz.Builder_String_any w.heap.size w.heap.size _ wr HI.out hBw).mono ?_)
   rintro e w2 ⟨rfl, hb2⟩
   go_wp2
   go_ret
   exact ⟨rfl, HW.out.trans hb2⟩
end Go.Proofs

/- Clerk: strings.Builder grows. After the shelf's walks. -/
set_option linter.unusedVariables false
namespace Go.Proofs
open Go Go.Shelf Go.RowKit

theorem alloc_set (w : World) (o : Obj) (a : Addr) (v : Value) (h : a.block < w.heap.size) : (w.alloc o).setCell a v = (w.setCell a v).alloc o := by
 simp only [Sort.alloc_eq_grow]
 unfold World.setCell Sort.grow
 simp only
 rw [Sort.modify_append_left _ _ _ _ h]

set_option maxHeartbeats 2000000 in
set_option maxRecDepth 100000 in
theorem Tryz.Builder_grow_fresh (B b n : Nat) (w : World) (hB : B ≤ b) (hbk : w.heap[b]? = some (.cells #[.pointer (some ⟨b, 0, none⟩), .slice none 0 0] 147 (0, 0))) (hBw : B ≤ w.heap.size) (hn : n ≤ 281474976710656) :
 Calls Tryz.prog 110 #[.pointer (some ⟨b, 0, none⟩), .int .i64 n] w fun e w' => e = .returned (.tuple #[]) ∧ (Lib.BuilderAt 147 5 B b (.pointer (some ⟨b, 0, none⟩)) [] w' ∧ Below B w w') := by
 obtain ⟨cs, hrun, hle, hmax⟩ := Lib.run_makeNoZero (P := Tryz.prog) w.drew #[3] 65 5 Tryz.underlying65 n hn
 have hw : IntKind.i64.wrap (IntKind.i64.wrap 0 + (n : Int)) = n := by
  rw [IntKind.wrap_i64, IntKind.wrap_i64]
  omega
 have hcall : (callFunc 123 #[.int .i64 (IntKind.i64.wrap (IntKind.i64.wrap 0 + (n : Int)))]).run Tryz.prog w.drew = .ok (.value (.slice (some ⟨w.drew.heap.size, 0, none⟩) n cs.size)) (w.drew.drew.drew.alloc (.cells cs 5)) := by
  rw [hw, run_callFunc_extern Tryz.func123 (by kernel_rfl) (by kernel_rfl) (by kernel_rfl) (e := Extern.BytealgMakeNoZero.makeNoZero #[3] #[65]) (by kernel_rfl), hrun]
  rfl
 have c1 : w.drew.cell? ⟨b, 1, none⟩ = some (.slice none 0 0) := by
  have : w.drew.heap[b]? = _ := hbk
  rw [Lib.cell_of_heap this]; rfl
 have hlt := lt_block hbk
 have c2 : (w.alloc (.cells cs 5)).cell? ⟨b, 1, none⟩ = some (.slice none 0 0) := by
  have : (w.alloc (.cells cs 5)).heap[b]? = _ := (Lib.alloc_old w _ b hlt).trans hbk
  rw [Lib.cell_of_heap this]; rfl
 have f2 : (w.alloc (.cells cs 5)).frozen? ⟨b, 1, none⟩ = false := Lib.frozen_of_heap ((Lib.alloc_old w _ b hlt).trans hbk) 1
 have hcopy : ∀ W : World, (Builtin.copy_ #[65, 65] 3 #[.slice (some ⟨w.heap.size, 0, none⟩) 0 cs.size, .slice none 0 0]).run Tryz.prog W = .ok (goInt 0) W :=
  fun W => run_copy_none W 65 65 3 5 _ _ 0 cs.size 0 0 Tryz.underlying65 (by kernel_rfl) rfl
 clear hw
 go_enter Tryz.func110, Tryz.ntmps110
 go_wp2
 have hfin := Lib.grown_fresh (T := 147) (e := 5) (cs := cs) hB hbk hBw (hmax (by unfold maxLen; omega)) (by decide)
 rw [alloc_set w _ ⟨b, 1, none⟩ _ hlt] at hfin
 go_region
 all_goals (go_wp2; go_end0; exact ⟨rfl, hfin⟩)
end Go.Proofs

/- Clerk: strings.Builder's Grow at a new builder. After the shelf's walks. -/
set_option linter.unusedVariables false
namespace Go.Proofs
open Go Go.Shelf Go.RowKit
set_option maxHeartbeats 2000000 in
set_option maxRecDepth 1000000 in
theorem Tryz.Builder_Grow_fresh (B b n : Nat) (w : World) (hB : B ≤ b) (hbk : w.heap[b]? = some (.cells #[.pointer none, .slice none 0 0] 147 (0, 0))) (hBw : B ≤ w.heap.size) (hn : n ≤ 281474976710656) :
 Calls Tryz.prog 90 #[.pointer (some ⟨b, 0, none⟩), .int .i64 n] w fun e w' => e = .returned (.tuple #[]) ∧ (Lib.BuilderAt 147 5 B b (.pointer (some ⟨b, 0, none⟩)) [] w' ∧ Below B w w') := by
 have hbk1 : (w.setCell ⟨b, 0, none⟩ (.pointer (some ⟨b, 0, none⟩))).heap[b]? = some (.cells #[.pointer (some ⟨b, 0, none⟩), .slice none 0 0] 147 (0, 0)) := by
  simp [World.setCell, Array.getElem?_modify, hbk]
 have c1 : (w.setCell ⟨b, 0, none⟩ (.pointer (some ⟨b, 0, none⟩))).cell? ⟨b, 1, none⟩ = some (.slice none 0 0) := by rw [Lib.cell_of_heap hbk1]; rfl
 have hb1 : Below B w (w.setCell ⟨b, 0, none⟩ (.pointer (some ⟨b, 0, none⟩))) := (Below.refl B w).setCell (p := ⟨b, 0, none⟩) hB _
 go_enter Tryz.func90, Tryz.ntmps90
 have hU : Lib.BuilderAt 147 5 B b (.pointer (some ⟨b, 0, none⟩)) [] (w.setCell ⟨b, 0, none⟩ (.pointer (some ⟨b, 0, none⟩))) := ⟨hB, .slice none 0 0, hbk1, World.ownsRow_nil _ _ _ _, by simp [Value.ownBlock]⟩
 have c1' : (w.setCell ⟨b, 0, none⟩ (.pointer (some ⟨b, 0, none⟩))).drew.cell? ⟨b, 1, none⟩ = some (.slice none 0 0) := c1
 go_wp2_with (go_at_call 108; refine (Tryz.copyCheck_fresh b w (by rw [Lib.cell_of_heap hbk]; rfl) (by simp [World.shape?, hbk]) (Lib.frozen_of_heap hbk 0)).mono ?_; rintro e w' ⟨rfl, rfl⟩)
 go_region
 all_goals go_wp2_with (go_at_call 110; refine (Tryz.Builder_grow_fresh B b n (w.setCell ⟨b, 0, none⟩ (.pointer (some ⟨b, 0, none⟩))).drew hB hbk1 (by simpa [World.setCell, World.drew, -World.drew_eq] using hBw) hn).mono ?_; rintro e w' ⟨rfl, h1, h2⟩)
 all_goals first
  | (go_end0; exact ⟨rfl, h1, hb1.drew.trans h2⟩)
  | (go_end0; exact ⟨rfl, hU.drew, hb1.drew⟩)
end Go.Proofs
