/- Walks and plain laws: ClkBld, ClkBld2, ClkLine, ClkBld3, ClkGrow. -/
import Derived.Test.YtcminnjimlopbaaGreatDoorAEthree
import Derived.Test.YtcminnjimlopbaaGreatDoorProg
import Derived.Shelf.Strings.Builder2
import Derived.Shelf.Lay
import Derived.Test.YtcminnjimlopbaaGreatDoorClkLays
import Derived.Shelf.Strconv.Itoa4
import Derived.Sort.Grow
import Derived.Lib.ItoaLen
set_option linter.unusedVariables false
set_option linter.unusedSimpArgs false
set_option linter.unusedSectionVars false

/- Clerk: strings.Builder at this program, whose check for copies is refused where it would fail. After the shelf's walks. -/
set_option linter.unusedVariables false
namespace Go.Proofs
open Go Go.Shelf Go.RowKit

set_option maxHeartbeats 1000000 in
set_option maxRecDepth 100000 in
theorem Tryz.copyCheck_used (b : Nat) (w : World) (h0 : w.cell? ⟨b, 0, none⟩ = some (.pointer (some ⟨b, 0, none⟩))) :
 Calls Tryz.prog 108 #[.pointer (some ⟨b, 0, none⟩)] w fun e w' => e = .returned (.tuple #[]) ∧ w' = w := by
 obtain ⟨j, hj, _⟩ := Option.map_eq_some_iff.1 (show (Tryz.prog.info? 147).map (·.size) = some 2 by kernel_rfl)
 go_enter Tryz.func108, Tryz.ntmps108
 go_wp2
 rw [Lib.run_neq_ptr_same w _ Tryz.underlying145 hj]
 go_wp2
 go_end0
 exact ⟨rfl, rfl⟩

set_option maxHeartbeats 1000000 in
set_option maxRecDepth 100000 in
theorem Tryz.copyCheck_fresh (b : Nat) (w : World) (h0 : w.cell? ⟨b, 0, none⟩ = some (.pointer none)) (hsh : w.shape? b = some (147, 2)) (hfz : w.frozen? ⟨b, 0, none⟩ = false) :
 Calls Tryz.prog 108 #[.pointer (some ⟨b, 0, none⟩)] w fun e w' => e = .returned (.tuple #[]) ∧ w' = w.setCell ⟨b, 0, none⟩ (.pointer (some ⟨b, 0, none⟩)) := by
 obtain ⟨j, hj, hjs⟩ := Option.map_eq_some_iff.1 (show (Tryz.prog.info? 147).map (·.size) = some 2 by kernel_rfl)
 go_enter Tryz.func108, Tryz.ntmps108
 go_wp2
 rw [Lib.run_to_unsafe w ⟨b, 0, none⟩ Tryz.underlying145 Tryz.underlying179 hj (by rw [hjs]; decide) hsh (Nat.zero_lt_succ 1)]
 simp only [Result.andThen]
 rw [Oper.upon_value]
 go_wp2
 rw [run_callFunc_extern Tryz.func118 (by kernel_rfl) (by kernel_rfl) (by kernel_rfl) (e := Extern.AbiNoEscape.same) (by kernel_rfl)]
 rw [Lib.run_noEscape]
 simp only [Result.andThen]
 rw [Oper.upon_value]
 go_wp2
 rw [Lib.run_from_unsafe w ⟨b, 0, none⟩ Tryz.underlying179 Tryz.underlying145 hj hsh (by kernel_rfl)]
 simp only [Result.andThen]
 rw [Oper.upon_value]
 go_wp2
 go_end0
 exact ⟨rfl, rfl⟩
theorem Tryz.copyCheck (B b : Nat) (bs : List Value) (w : World) (h : Lib.IsBuilder 147 5 B b bs w) :
 Calls Tryz.prog 108 #[.pointer (some ⟨b, 0, none⟩)] w fun e w' => e = .returned (.tuple #[]) ∧ (Lib.BuilderAt 147 5 B b (.pointer (some ⟨b, 0, none⟩)) bs w' ∧ Below B w w') := by
 rcases h with h | h
 ·refine (Tryz.copyCheck_fresh b w h.cell0 h.shape h.frozen0).mono ?_
  rintro e w' ⟨rfl, rfl⟩
  exact ⟨rfl, h.used _, (Below.refl B w).setCell (p := ⟨b, 0, none⟩) h.1 _⟩
 ·refine (Tryz.copyCheck_used b w h.cell0).mono ?_
  rintro e w' ⟨rfl, rfl⟩
  exact ⟨rfl, h, Below.refl B _⟩
end Go.Proofs

/- Clerk: what strings.Builder's methods do, in the world. After the shelf's walks. -/
set_option linter.unusedVariables false
namespace Go.Proofs
open Go Go.Shelf Go.RowKit

theorem Tryz.infoByte : (Tryz.prog.info? 5).map (fun i => (i.zero, i.size, i.bytes)) = some (some (.int .u8 0), 1, 1) := by kernel_rfl
theorem lt_block {w : World} {b : Nat} {o : Obj} (h : w.heap[b]? = some o) : b < w.heap.size := by
 rcases Nat.lt_or_ge b w.heap.size with h' | h'
 ·exact h'
 ·simp [Array.getElem?_eq_none h'] at h

set_option maxHeartbeats 2000000 in
set_option maxRecDepth 100000 in
theorem Tryz.Builder_WriteByte (B b : Nat) (bs : List Value) (c : Int) (w : World) (h : Lib.IsBuilder 147 5 B b bs w) (hlen : bs.length + 1 ≤ 140737488355328) (hBw : B ≤ w.heap.size) :
 Calls Tryz.prog 87 #[.pointer (some ⟨b, 0, none⟩), .int .u8 c] w fun e w' => e = .returned .nilIface ∧ (Lib.BuilderAt 147 5 B b (.pointer (some ⟨b, 0, none⟩)) (bs ++ [.int .u8 c]) w' ∧ Below B w w') := by
 obtain ⟨i0, hi, hz0, hz1, hz2⟩ := info_parts Tryz.infoByte
 go_enter Tryz.func87, Tryz.ntmps87
 go_wp2_with (go_at_call 108; refine (Tryz.copyCheck B b bs _ h).mono ?_)
 rintro e w1 ⟨rfl, h1, hb1⟩
 obtain ⟨hB, v, hbk, hown, hne⟩ := h1
 have c0 : w1.cell? ⟨b, 0, none⟩ = some (.pointer (some ⟨b, 0, none⟩)) := by rw [Lib.cell_of_heap hbk]; rfl
 have c1 : w1.cell? ⟨b, 1, none⟩ = some v := by rw [Lib.cell_of_heap hbk]; rfl
 go_wp2_with (at_builtin; refine wpList_append_own _ rfl _ _ 65 rfl B 5 i0 (.int .u8 0) 1 1 Tryz.underlying65 hi hz0 hz1 hz2 rfl (by decide) _ _ _ rfl (hown.alloc _) ⟨w1.heap.size, 0, none⟩ 1 1 [.int .u8 c] rfl rfl ?c1 ?c2 ?c3 ?c4 ?c5 ?_)
 case c1 =>
  intro j u hj
  match j, hj with
  | 0, hj => simp at hj; subst hj; simp [Addr.add]
 case c2 => intro u hu; simp at hu; subst hu; rfl
 case c3 => unfold maxLen; omega
 case c4 => omega
 case c5 => have := hb1.size; simp; omega
 intro v' w2 hown' hgrow _
 have hlt := lt_block hbk
 have hb2 : w2.heap[b]? = some (.cells #[.pointer (some ⟨b, 0, none⟩), v] 147 (0, 0)) := by
  rw [hgrow.block b (by simp; omega) (fun e => hne e.symm), Lib.alloc_old w1 _ b hlt]
  exact hbk
 have d0 : w2.cell? ⟨b, 0, none⟩ = some (.pointer (some ⟨b, 0, none⟩)) := by rw [Lib.cell_of_heap hb2]; rfl
 have d1 : w2.cell? ⟨b, 1, none⟩ = some v := by rw [Lib.cell_of_heap hb2]; rfl
 have f1 : w2.frozen? ⟨b, 1, none⟩ = false := Lib.frozen_of_heap hb2 1
 obtain ⟨g, cap, rfl⟩ : ∃ g cap, v' = .slice (some ⟨g, 0, none⟩) (bs.length + 1) cap := by
  rcases hown'.2 with ⟨_, h0⟩ | ⟨g, cap, cur, hv, _⟩
  ·omega
  ·exact ⟨g, cap, hv⟩
 go_wp2
 go_ret
 refine ⟨rfl, ?_, ?_⟩
 ·exact Lib.BuilderAt.put (T := 147) (e := 5) hB hb2 (bs' := bs ++ [.int .u8 c]) (by simpa using hown') (by decide)
 ·exact ((hb1.alloc (by have := hb1.size; omega) _).grown hgrow (by have := hb1.size; simp; omega) (fun k hk => (hown.lt k hk).1)).setCell (p := ⟨b, 1, none⟩) hB _

set_option maxHeartbeats 2000000 in
set_option maxRecDepth 100000 in
theorem Tryz.Builder_WriteString (B b : Nat) (bs : List Value) (s : ByteArray) (w : World) (h : Lib.IsBuilder 147 5 B b bs w) (hlen : bs.length + s.size ≤ 140737488355328) (hBw : B ≤ w.heap.size) :
 Calls Tryz.prog 86 #[.pointer (some ⟨b, 0, none⟩), .string s] w fun e w' => e = .returned (.tuple #[.int .i64 s.size, .nilIface]) ∧ (Lib.BuilderAt 147 5 B b (.pointer (some ⟨b, 0, none⟩)) (bs ++ Lib.strCells s) w' ∧ Below B w w') := by
 obtain ⟨i0, hi, hz0, hz1, hz2⟩ := info_parts Tryz.infoByte
 go_enter Tryz.func86, Tryz.ntmps86
 go_wp2_with (go_at_call 108; refine (Tryz.copyCheck B b bs _ h).mono ?_)
 rintro e w1 ⟨rfl, h1, hb1⟩
 obtain ⟨hB, v, hbk, hown, hne⟩ := h1
 have c0 : w1.cell? ⟨b, 0, none⟩ = some (.pointer (some ⟨b, 0, none⟩)) := by rw [Lib.cell_of_heap hbk]; rfl
 have c1 : w1.cell? ⟨b, 1, none⟩ = some v := by rw [Lib.cell_of_heap hbk]; rfl
 go_wp2_with (at_builtin; refine Lib.wpList_append_own_string _ rfl _ _ 65 9 rfl B 5 i0 Tryz.underlying65 Tryz.underlying9 hi hz0 hz1 hz2 _ _ _ rfl hown s rfl ?c3 ?c4 ?c5 ?_)
 case c3 => unfold maxLen; omega
 case c4 => omega
 case c5 => have := hb1.size; omega
 intro v' w2 hown' hgrow _
 have hlt := lt_block hbk
 have hb2 : w2.heap[b]? = some (.cells #[.pointer (some ⟨b, 0, none⟩), v] 147 (0, 0)) := by
  rw [hgrow.block b hlt (fun e => hne e.symm)]
  exact hbk
 have d0 : w2.cell? ⟨b, 0, none⟩ = some (.pointer (some ⟨b, 0, none⟩)) := by rw [Lib.cell_of_heap hb2]; rfl
 have d1 : w2.cell? ⟨b, 1, none⟩ = some v := by rw [Lib.cell_of_heap hb2]; rfl
 have f1 : w2.frozen? ⟨b, 1, none⟩ = false := Lib.frozen_of_heap hb2 1
 obtain ⟨ao, n', cap, rfl⟩ : ∃ ao n' cap, v' = .slice ao n' cap := by
  rcases hown'.2 with ⟨hv, _⟩ | ⟨g, cap, cur, hv, _⟩
  ·exact ⟨_, _, _, hv⟩
  ·exact ⟨_, _, _, hv⟩
 go_wp2
 go_ret2
 refine ⟨rfl, ?_, ?_⟩
 ·exact Lib.BuilderAt.put (T := 147) (e := 5) hB hb2 (bs' := bs ++ Lib.strCells s) (by simpa [Lib.strCells_length] using hown') (by decide)
 ·exact (hb1.grown hgrow (by have := hb1.size; omega) (fun k hk => (hown.lt k hk).1)).setCell (p := ⟨b, 1, none⟩) hB _

end Go.Proofs

/- Clerk: the text of a word and numbers, walked in the world by contracts of strings.Builder and strconv.FormatInt. -/
set_option linter.unusedVariables false
namespace Go.Proofs
open Go Go.Shelf Go.RowKit
theorem Tryz.strconv_FormatInt_10 (n : Int) (h0 : -9223372036854775808 ≤ n) (h1 : n ≤ 9223372036854775807) (w : World) (htab : Lib.TabIs Tryz.prog w "internal/strconv.uint64pow10" .u64 Lib.pow10Tab) :
 Calls Tryz.prog 88 #[.int .i64 n, .int .i64 10] w fun e w' => e = .returned (.string ⟨(Lib.itoa n).toArray⟩) ∧ ∃ k os, w' = Sort.grow (w.drewN k) os := Any.strconv_FormatInt_10 Tryz.lays173 n h0 h1 w htab
theorem Tryz.Extra169 : Builder.Extra Tryz.prog Tryz.lays169_ren := { sizeBuilder := by kernel_rfl, liesBuilder := by kernel_rfl, t5 := Tryz.underlying5, a5 := Tryz.isAgg5, z5 := Tryz.sizeOf5, v5 := Tryz.zeroValue5, infoByte := by kernel_rfl, cellsByte := by kernel_rfl, sizeByte := by kernel_rfl, neB5 := by decide }
theorem Tryz.Builder_String_any (B b : Nat) (l : List UInt8) (w : World) (h : Lib.IsBuilder 147 5 B b (Lib.byteCells l) w) (hBw : B ≤ w.heap.size) :
 Calls Tryz.prog 89 #[.pointer (some ⟨b, 0, none⟩)] w fun e w' => e = .returned (.string ⟨l.toArray⟩) ∧ Below B w w' := Any.Builder_String_any Tryz.lays169 Tryz.Extra169 B b l w h hBw

theorem below_grow (w : World) (k : Nat) (os : Array Obj) : Below w.heap.size w (Sort.grow (w.drewN k) os) :=
 ⟨rfl, rfl, rfl, by simp [Sort.grow, World.drewN], fun b hb => by simp only [Sort.grow, World.drewN]; rw [Array.getElem?_append_left hb]⟩
theorem BuilderAt.below {T e : TypeId} {B b : Nat} {p : Value} {bs : List Value} {w w' : World} (h : Lib.BuilderAt T e B b p bs w) (k : Below w.heap.size w w') : Lib.BuilderAt T e B b p bs w' := by
 have hlt := h.lt
 obtain ⟨hB, v, hb, hown, hne⟩ := h
 refine ⟨hB, v, (k.block b hlt).trans hb, ⟨hown.1, ?_⟩, hne⟩
 rcases hown.2 with hn | ⟨g, cap, cur, hv, hg, hgg, rest⟩
 ·exact .inl hn
 ·exact .inr ⟨g, cap, cur, hv, hg, (k.block g (lt_block hgg)).trans hgg, rest⟩
theorem IsBuilder.below {T e : TypeId} {B b : Nat} {bs : List Value} {w w' : World} (h : Lib.IsBuilder T e B b bs w) (k : Below w.heap.size w w') : Lib.IsBuilder T e B b bs w' :=
 h.imp (fun h => BuilderAt.below h k) (fun h => BuilderAt.below h k)
theorem tab_below {w w' : World} (h : Lib.TabIs Tryz.prog w "internal/strconv.uint64pow10" .u64 Lib.pow10Tab) (k : Below w.heap.size w w') : Lib.TabIs Tryz.prog w' "internal/strconv.uint64pow10" .u64 Lib.pow10Tab := by
 unfold Lib.TabIs World.var? at *
 cases hg : Tryz.prog.globalNamed "internal/strconv.uint64pow10" with
 | none => simp [hg] at h
 | some g =>
   simp only [hg, Option.bind_some] at h ⊢
   have hlt : g < w.heap.size := by
    rcases Nat.lt_or_ge g w.heap.size with h' | h'
    ·exact h'
    ·rw [Array.getElem?_eq_none h'] at h; simp at h
   rw [k.block g hlt]
   exact h
def lineB (word : List UInt8) (zs : List Int) : List UInt8 := word ++ zs.flatMap fun z => 32 :: Lib.itoa z
theorem lineB_snoc (word : List UInt8) (zs : List Int) (z : Int) : lineB word (zs ++ [z]) = lineB word zs ++ (32 :: Lib.itoa z) := by simp [lineB, List.flatMap_append]
theorem itoa_len (z : Int) (h0 : 0 ≤ z) (h1 : z ≤ 9223372036854775807) : (Lib.itoa z).length ≤ 21 := Lib.itoa_length_le z (by omega) h1
theorem lineB_len (word : List UInt8) : ∀ (zs : List Int), (∀ z ∈ zs, 0 ≤ z ∧ z ≤ 9223372036854775807) → (lineB word zs).length ≤ word.length + 22 * zs.length
 | [], _ => by simp [lineB]
 | z :: zs, h => by
   have h1 := lineB_len word zs fun z hz => h z (List.mem_cons_of_mem _ hz)
   have h2 := itoa_len z (h z (List.mem_cons_self ..)).1 (h z (List.mem_cons_self ..)).2
   simp only [lineB, List.flatMap_cons, List.length_append, List.length_cons] at h1 ⊢
   omega
theorem hidC {p : Prop} (h : p) : Hid p := h

set_option maxHeartbeats 4000000 in
set_option maxRecDepth 100000 in
theorem Tryz.line_world (word : ByteArray) (zs : List Int) (bk o cap : Nat) (w : World) (hw : word.size ≤ 1000) (hn : zs.length ≤ 3) (hc : zs.length ≤ cap) (hcells : ∀ (j : Nat) z, zs[j]? = some z → w.cell? ⟨bk, o + j, none⟩ = some (.int .i64 z)) (hbk : bk < w.heap.size)
 (hb : ∀ z ∈ zs, 0 ≤ z ∧ z ≤ 9223372036854775807) (htab : Lib.TabIs Tryz.prog w "internal/strconv.uint64pow10" .u64 Lib.pow10Tab) :
 Calls Tryz.prog 63 #[.string word, .slice (some ⟨bk, o, none⟩) zs.length cap] w fun e w' => e = .returned (.string ⟨(lineB word.data.toList zs).toArray⟩) ∧ Below w.heap.size w w' := by
 have HC := hidC hcells
 clear hcells
 have HB := hidC hb
 clear hb
 have HT := hidC htab
 clear htab
 go_enter Tryz.func63, Tryz.ntmps63
 go_wp2_with (go_at_call 86; refine (Tryz.Builder_WriteString w.heap.size w.heap.size [] word _ (Lib.fresh_isBuilder 147 5 w) (by simp; omega) (by simp)).mono ?_)
 rintro e w1 ⟨rfl, h1, hb1⟩
 have hb1' : Below w.heap.size w w1 := ((Below.refl w.heap.size w).alloc (Nat.le_refl _) _).trans hb1
 have hstart : ([] : List Value) ++ Lib.strCells word = Lib.byteCells (lineB word.data.toList (zs.take 0)) := by
  simp [Lib.strCells_eq, lineB]
 rw [hstart] at h1
 have H1 := hidC (Or.inr h1 : Lib.IsBuilder 147 5 w.heap.size w.heap.size _ w1)
 have Hb1 := hidC hb1'
 clear h1 hb1 hb1' hstart
 go_wp2_with fail
 go_loopw [12] (fun i wr => ∃ k : Nat, k ≤ zs.length ∧ i = .int .i64 k ∧ Hid (Lib.IsBuilder 147 5 w.heap.size w.heap.size (Lib.byteCells (lineB word.data.toList (zs.take k))) wr) ∧ Hid (Below w.heap.size w wr)) (fun i _ => zs.length - (intOf i).toNat)
 case atStart => exact ⟨0, Nat.zero_le _, rfl, H1, Hb1⟩
 case round =>
  obtain ⟨k, hk, rfl, HI, HW⟩ := hrel
  by_cases hkn : k < zs.length
  ·obtain ⟨z, hz⟩ : ∃ z, zs[k]? = some z := ⟨zs[k], List.getElem?_eq_getElem hkn⟩
   have hzm := HB.out z (List.mem_of_getElem? hz)
   have hcz : wr.cell? ⟨bk, o + k, none⟩ = some (.int .i64 z) := by
    rw [HW.out.cell (p := ⟨bk, o + k, none⟩) hbk]
    exact HC.out k z hz
   have hBw : w.heap.size ≤ wr.heap.size := HW.out.size
   have hl := lineB_len word.data.toList (zs.take k) fun z hz => HB.out z (List.mem_of_mem_take hz)
   rw [List.length_take, Nat.min_eq_left hk, ← Lib.size_eq] at hl
   have hi := itoa_len z hzm.1 hzm.2
   have hnext : Lib.byteCells (lineB word.data.toList (zs.take k)) ++ [Value.int .u8 32] ++ Lib.strCells ⟨(Lib.itoa z).toArray⟩ = Lib.byteCells (lineB word.data.toList (zs.take (k + 1))) := by
    rw [List.take_add_one, hz]
    simp only [Option.toList_some]
    rw [lineB_snoc, Lib.byteCells_append, Lib.strCells_eq, List.append_assoc]
    rfl
   have Hn := hidC hnext
   clear hnext
   go_wp2_with (go_at_call 87; refine (Tryz.Builder_WriteByte w.heap.size w.heap.size _ 32 wr HI.out (by rw [Lib.byteCells_length]; omega) hBw).mono ?_)
   rintro e w2 ⟨rfl, h2, hb2⟩
   have H2 := hidC h2
   have Hb2 := hidC (HW.out.trans hb2)
   have hBw2 : w.heap.size ≤ w2.heap.size := Hb2.out.size
   clear h2 hb2
   go_wp2_with (go_at_call 88; refine (Tryz.strconv_FormatInt_10 z (by omega) hzm.2 w2 (by
    have h := HT.out
    have k := Hb2.out
    exact tab_below h k)).mono ?_)
   rintro e w3 ⟨rfl, k3, os3, rfl⟩
   have hb3 := below_grow w2 k3 os3
   have H3 := hidC (IsBuilder.below (Or.inr H2.out) hb3)
   have Hb3 := hidC (Hb2.out.trans (hb3.mono hBw2))
   have hBw3 := Hb3.out.size
   clear hb3
   generalize Sort.grow (w2.drewN k3) os3 = w3 at H3 Hb3 hBw3
   go_wp2_with (go_at_call 86; refine (Tryz.Builder_WriteString w.heap.size w.heap.size _ ⟨(Lib.itoa z).toArray⟩ w3 H3.out (by
    rw [List.length_append, Lib.byteCells_length]; simp [Lib.size_eq]; omega) hBw3).mono ?_)
   rintro e w4 ⟨rfl, h4, hb4⟩
   rw [Hn.out] at h4
   have H4 := hidC (Or.inr h4 : Lib.IsBuilder 147 5 w.heap.size w.heap.size _ w4)
   have Hb4 := hidC (Hb3.out.trans hb4)
   clear h4 hb4
   go_wp2
   exact ⟨⟨k + 1, by omega, by go_num, H4, Hb4⟩, by simp [intOf]; omega⟩
  ·have hke : k = zs.length := by omega
   subst hke
   rw [List.take_length] at HI
   have hBw : w.heap.size ≤ wr.heap.size := HW.out.size
   go_wp2_with (go_at_call 89; refine (Tryz.Builder_String_any w.heap.size w.heap.size _ wr HI.out hBw).mono ?_)
   rintro e w2 ⟨rfl, hb2⟩
   go_wp2
   go_ret
   exact ⟨rfl, HW.out.trans hb2⟩
end Go.Proofs

/- Clerk: strings.Builder grows. After the shelf's walks. -/
set_option linter.unusedVariables false
namespace Go.Proofs
open Go Go.Shelf Go.RowKit

theorem alloc_set (w : World) (o : Obj) (a : Addr) (v : Value) (h : a.block < w.heap.size) : (w.alloc o).setCell a v = (w.setCell a v).alloc o := by
 simp only [Sort.alloc_eq_grow]
 unfold World.setCell Sort.grow
 simp only
 rw [Sort.modify_append_left _ _ _ _ h]

set_option maxHeartbeats 2000000 in
set_option maxRecDepth 100000 in
theorem Tryz.Builder_grow_fresh (B b n : Nat) (w : World) (hB : B ≤ b) (hbk : w.heap[b]? = some (.cells #[.pointer (some ⟨b, 0, none⟩), .slice none 0 0] 147 (0, 0))) (hBw : B ≤ w.heap.size) (hn : n ≤ 281474976710656) :
 Calls Tryz.prog 110 #[.pointer (some ⟨b, 0, none⟩), .int .i64 n] w fun e w' => e = .returned (.tuple #[]) ∧ (Lib.BuilderAt 147 5 B b (.pointer (some ⟨b, 0, none⟩)) [] w' ∧ Below B w w') := by
 obtain ⟨cs, hrun, hle, hmax⟩ := Lib.run_makeNoZero (P := Tryz.prog) w.drew #[3] 65 5 Tryz.underlying65 n hn
 have hw : IntKind.i64.wrap (IntKind.i64.wrap 0 + (n : Int)) = n := by
  rw [IntKind.wrap_i64, IntKind.wrap_i64]
  omega
 have hcall : (callFunc 123 #[.int .i64 (IntKind.i64.wrap (IntKind.i64.wrap 0 + (n : Int)))]).run Tryz.prog w.drew = .ok (.value (.slice (some ⟨w.drew.heap.size, 0, none⟩) n cs.size)) (w.drew.drew.drew.alloc (.cells cs 5)) := by
  rw [hw, run_callFunc_extern Tryz.func123 (by kernel_rfl) (by kernel_rfl) (by kernel_rfl) (e := Extern.BytealgMakeNoZero.makeNoZero #[3] #[65]) (by kernel_rfl), hrun]
  rfl
 have c1 : w.drew.cell? ⟨b, 1, none⟩ = some (.slice none 0 0) := by
  have : w.drew.heap[b]? = _ := hbk
  rw [Lib.cell_of_heap this]; rfl
 have hlt := lt_block hbk
 have c2 : (w.alloc (.cells cs 5)).cell? ⟨b, 1, none⟩ = some (.slice none 0 0) := by
  have : (w.alloc (.cells cs 5)).heap[b]? = _ := (Lib.alloc_old w _ b hlt).trans hbk
  rw [Lib.cell_of_heap this]; rfl
 have f2 : (w.alloc (.cells cs 5)).frozen? ⟨b, 1, none⟩ = false := Lib.frozen_of_heap ((Lib.alloc_old w _ b hlt).trans hbk) 1
 have hcopy : ∀ W : World, (Builtin.copy_ #[65, 65] 3 #[.slice (some ⟨w.heap.size, 0, none⟩) 0 cs.size, .slice none 0 0]).run Tryz.prog W = .ok (goInt 0) W :=
  fun W => run_copy_none W 65 65 3 5 _ _ 0 cs.size 0 0 Tryz.underlying65 (by kernel_rfl) rfl
 clear hw
 go_enter Tryz.func110, Tryz.ntmps110
 go_wp2
 have hfin := Lib.grown_fresh (T := 147) (e := 5) (cs := cs) hB hbk hBw (hmax (by unfold maxLen; omega)) (by decide)
 rw [alloc_set w _ ⟨b, 1, none⟩ _ hlt] at hfin
 go_region
 all_goals (go_wp2; go_end0; exact ⟨rfl, hfin⟩)
end Go.Proofs

/- Clerk: strings.Builder's Grow at a new builder. After the shelf's walks. -/
set_option linter.unusedVariables false
namespace Go.Proofs
open Go Go.Shelf Go.RowKit
set_option maxHeartbeats 2000000 in
set_option maxRecDepth 1000000 in
theorem Tryz.Builder_Grow_fresh (B b n : Nat) (w : World) (hB : B ≤ b) (hbk : w.heap[b]? = some (.cells #[.pointer none, .slice none 0 0] 147 (0, 0))) (hBw : B ≤ w.heap.size) (hn : n ≤ 281474976710656) :
 Calls Tryz.prog 90 #[.pointer (some ⟨b, 0, none⟩), .int .i64 n] w fun e w' => e = .returned (.tuple #[]) ∧ (Lib.BuilderAt 147 5 B b (.pointer (some ⟨b, 0, none⟩)) [] w' ∧ Below B w w') := by
 have hbk1 : (w.setCell ⟨b, 0, none⟩ (.pointer (some ⟨b, 0, none⟩))).heap[b]? = some (.cells #[.pointer (some ⟨b, 0, none⟩), .slice none 0 0] 147 (0, 0)) := by
  simp [World.setCell, Array.getElem?_modify, hbk]
 have c1 : (w.setCell ⟨b, 0, none⟩ (.pointer (some ⟨b, 0, none⟩))).cell? ⟨b, 1, none⟩ = some (.slice none 0 0) := by rw [Lib.cell_of_heap hbk1]; rfl
 have hb1 : Below B w (w.setCell ⟨b, 0, none⟩ (.pointer (some ⟨b, 0, none⟩))) := (Below.refl B w).setCell (p := ⟨b, 0, none⟩) hB _
 go_enter Tryz.func90, Tryz.ntmps90
 have hU : Lib.BuilderAt 147 5 B b (.pointer (some ⟨b, 0, none⟩)) [] (w.setCell ⟨b, 0, none⟩ (.pointer (some ⟨b, 0, none⟩))) := ⟨hB, .slice none 0 0, hbk1, World.ownsRow_nil _ _ _ _, by simp [Value.ownBlock]⟩
 have c1' : (w.setCell ⟨b, 0, none⟩ (.pointer (some ⟨b, 0, none⟩))).drew.cell? ⟨b, 1, none⟩ = some (.slice none 0 0) := c1
 go_wp2_with (go_at_call 108; refine (Tryz.copyCheck_fresh b w (by rw [Lib.cell_of_heap hbk]; rfl) (by simp [World.shape?, hbk]) (Lib.frozen_of_heap hbk 0)).mono ?_; rintro e w' ⟨rfl, rfl⟩)
 go_region
 all_goals go_wp2_with (go_at_call 110; refine (Tryz.Builder_grow_fresh B b n (w.setCell ⟨b, 0, none⟩ (.pointer (some ⟨b, 0, none⟩))).drew hB hbk1 (by simpa [World.setCell, World.drew, -World.drew_eq] using hBw) hn).mono ?_; rintro e w' ⟨rfl, h1, h2⟩)
 all_goals first
  | (go_end0; exact ⟨rfl, h1, hb1.drew.trans h2⟩)
  | (go_end0; exact ⟨rfl, hU.drew, hb1.drew⟩)
end Go.Proofs
