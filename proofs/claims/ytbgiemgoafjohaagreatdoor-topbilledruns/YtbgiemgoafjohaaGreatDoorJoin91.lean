/- Walks and plain laws: KClkBld, KClkBld2, KClkLine, KClkBld3, KClkGrow, KClkJoin, KClkA, KClkB, KClkC, KClkX, KClkSplit, KClkX2, KClkD, KClkE, KClkF, KClkG, KClkH, KClkI, KClkJ, KClkK, KClkL. -/
import Derived.Test.YtbgiemgoafjohaaGreatDoorAEthree
import Derived.Test.YtbgiemgoafjohaaGreatDoorProg
import Derived.Shelf.Strings.Builder2
import Derived.Shelf.Lay
import Derived.Test.YtbgiemgoafjohaaGreatDoorJoin90
import Derived.Shelf.Strconv.Itoa4
import Derived.Sort.Grow
import Derived.Lib.ItoaLen
import Derived.Lib.Join
import Derived.BigCall
import Derived.BigGuard
import Derived.Test.YtbgiemgoafjohaaGreatDoorT12Code
import Derived.Shelf.Strings.Split
set_option linter.unusedVariables false
set_option linter.unusedSimpArgs false
set_option linter.unusedSectionVars false

/- Clerk: strings.Builder at this program, whose check for copies is refused where it would fail. After the shelf's walks. -/
set_option linter.unusedVariables false
namespace Go.Proofs
open Go Go.Shelf Go.RowKit

set_option maxHeartbeats 1000000 in
set_option maxRecDepth 100000 in
theorem Tryz.copyCheck_used (b:Nat) (w:World) (h0:w.cell? ⟨b,0,none⟩=some (.pointer (some ⟨b,0,none⟩))):
 Calls Tryz.prog 277 #[.pointer (some ⟨b,0,none⟩)] w fun e w'=>e= .returned (.tuple #[])/\w'=w:=by
 obtain⟨j,hj,_⟩:=Option.map_eq_some_iff.1 (show(Tryz.prog.info? 327).map (·.size)=some 2 by kernel_rfl)
 go_enter Tryz.func277,Tryz.ntmps277
 go_wp2
 rw[Lib.run_neq_ptr_same w _ Tryz.underlying325 hj]
 go_wp2
 go_end0
 exact⟨rfl,rfl⟩

set_option maxHeartbeats 1000000 in
set_option maxRecDepth 100000 in
theorem Tryz.copyCheck_fresh (b:Nat) (w:World) (h0:w.cell? ⟨b,0,none⟩=some (.pointer none)) (hsh:w.shape? b=some (327,2)) (hfz:w.frozen? ⟨b,0,none⟩=false):
 Calls Tryz.prog 277 #[.pointer (some ⟨b,0,none⟩)] w fun e w'=>e= .returned (.tuple #[])/\w'=w.setCell ⟨b,0,none⟩ (.pointer (some ⟨b,0,none⟩)):=by
 obtain⟨j,hj,hjs⟩:=Option.map_eq_some_iff.1 (show(Tryz.prog.info? 327).map (·.size)=some 2 by kernel_rfl)
 go_enter Tryz.func277,Tryz.ntmps277
 go_wp2
 rw[Lib.run_to_unsafe w ⟨b,0,none⟩ Tryz.underlying325 Tryz.underlying516 hj (by rw[hjs];decide) hsh (Nat.zero_lt_succ 1)]
 simp only[Result.andThen]
 rw[Oper.upon_value]
 go_wp2
 rw[run_callFunc_extern Tryz.func374 (by kernel_rfl) (by kernel_rfl) (by kernel_rfl) (e:=Extern.AbiNoEscape.same) (by kernel_rfl)]
 rw[Lib.run_noEscape]
 simp only[Result.andThen]
 rw[Oper.upon_value]
 go_wp2
 rw[Lib.run_from_unsafe w ⟨b,0,none⟩ Tryz.underlying516 Tryz.underlying325 hj hsh (by kernel_rfl)]
 simp only[Result.andThen]
 rw[Oper.upon_value]
 go_wp2
 go_end0
 exact⟨rfl,rfl⟩
theorem Tryz.copyCheck (B b:Nat) (bs:List Value) (w:World) (h:Lib.IsBuilder 327 5 B b bs w):
 Calls Tryz.prog 277 #[.pointer (some ⟨b,0,none⟩)] w fun e w'=>e= .returned (.tuple #[])/\(Lib.BuilderAt 327 5 B b (.pointer (some ⟨b,0,none⟩)) bs w'/\Below B w w'):=by
 rcases h with h|h
 ·refine(Tryz.copyCheck_fresh b w h.cell0 h.shape h.frozen0).mono ?_
  rintro e w' ⟨rfl,rfl⟩
  exact⟨rfl,h.used _,(Below.refl B w).setCell (p:=⟨b,0,none⟩) h.1 _⟩
 ·refine(Tryz.copyCheck_used b w h.cell0).mono ?_
  rintro e w' ⟨rfl,rfl⟩
  exact⟨rfl,h,Below.refl B _⟩
end Go.Proofs

/- Clerk: what strings.Builder's methods do, in the world. After the shelf's walks. -/
set_option linter.unusedVariables false
namespace Go.Proofs
open Go Go.Shelf Go.RowKit

theorem Tryz.infoByte:(Tryz.prog.info? 5).map (fun i=>(i.zero,i.size,i.bytes))=some (some (.int .u8 0),1,1):=by kernel_rfl
theorem KA {w:World}{b:Nat}{o:Obj}(h:w.heap[b]? =some o):b<w.heap.size:=by
 rcases Nat.lt_or_ge b w.heap.size with h'|h'
 ·exact h'
 ·simp[Array.getElem?_eq_none h']at h

set_option maxHeartbeats 2000000 in
set_option maxRecDepth 100000 in
theorem Tryz.Builder_WriteByte (B b:Nat) (bs:List Value) (c:Int) (w:World) (h:Lib.IsBuilder 327 5 B b bs w) (hlen:bs.length+1<=140737488355328) (hBw:B<=w.heap.size):
 Calls Tryz.prog 205 #[.pointer (some ⟨b,0,none⟩),.int .u8 c] w fun e w'=>e= .returned .nilIface/\(Lib.BuilderAt 327 5 B b (.pointer (some ⟨b,0,none⟩)) (bs++[.int .u8 c]) w'/\Below B w w'):=by
 obtain⟨i0,hi,hz0,hz1,hz2⟩:=info_parts Tryz.infoByte
 go_enter Tryz.func205,Tryz.ntmps205
 go_wp2_with (go_at_call 277;refine(Tryz.copyCheck B b bs _ h).mono ?_)
 rintro e w1 ⟨rfl,h1,hb1⟩
 obtain⟨hB,v,hbk,hown,hne⟩:=h1
 have c0:w1.cell? ⟨b,0,none⟩=some (.pointer (some ⟨b,0,none⟩)):=by rw[Lib.cell_of_heap hbk];rfl
 have c1:w1.cell? ⟨b,1,none⟩=some v:=by rw[Lib.cell_of_heap hbk];rfl
 go_wp2_with (at_builtin;refine wpList_append_own _ rfl _ _ 101 rfl B 5 i0 (.int .u8 0) 1 1 Tryz.underlying101 hi hz0 hz1 hz2 rfl (by decide) _ _ _ rfl (hown.alloc _) ⟨w1.heap.size,0,none⟩ 1 1 [.int .u8 c] rfl rfl ?c1 ?c2 ?c3 ?c4 ?c5 ?_)
 case c1=>
  intro j u hj
  match j,hj with
  |0,hj=>simp at hj;subst hj;simp[Addr.add]
 case c2=>intro u hu;simp at hu;subst hu;rfl
 case c3=>unfold maxLen;omega
 case c4=>omega
 case c5=>have:=hb1.size;simp;omega
 intro v' w2 hown' hgrow _
 have hlt:=KA hbk
 have hb2:w2.heap[b]? =some (.cells #[.pointer (some ⟨b,0,none⟩),v] 327 (0,0)):=by
  rw[hgrow.block b (by simp;omega) (fun e=>hne e.symm),Lib.alloc_old w1 _ b hlt]
  exact hbk
 have d0:w2.cell? ⟨b,0,none⟩=some (.pointer (some ⟨b,0,none⟩)):=by rw[Lib.cell_of_heap hb2];rfl
 have d1:w2.cell? ⟨b,1,none⟩=some v:=by rw[Lib.cell_of_heap hb2];rfl
 have f1:w2.frozen? ⟨b,1,none⟩=false:=Lib.frozen_of_heap hb2 1
 obtain⟨g,cap,rfl⟩:∃g cap,v'= .slice (some ⟨g,0,none⟩) (bs.length+1) cap:=by
  rcases hown'.2 with⟨_,h0⟩|⟨g,cap,cur,hv,_⟩
  ·omega
  ·exact⟨g,cap,hv⟩
 go_wp2
 go_ret
 refine⟨rfl,?_,?_⟩
 ·exact Lib.BuilderAt.put (T:=327) (e:=5) hB hb2 (bs':=bs++[.int .u8 c]) (by simpa using hown') (by decide)
 ·exact((hb1.alloc (by have:=hb1.size;omega) _).grown hgrow (by have:=hb1.size;simp;omega) (fun k hk=>(hown.lt k hk).1)).setCell (p:=⟨b,1,none⟩) hB _

set_option maxHeartbeats 2000000 in
set_option maxRecDepth 100000 in
theorem Tryz.Builder_WriteString (B b:Nat) (bs:List Value) (s:ByteArray) (w:World) (h:Lib.IsBuilder 327 5 B b bs w) (hlen:bs.length+s.size<=140737488355328) (hBw:B<=w.heap.size):
 Calls Tryz.prog 204 #[.pointer (some ⟨b,0,none⟩),.string s] w fun e w'=>e= .returned (.tuple #[.int .i64 s.size,.nilIface])/\(Lib.BuilderAt 327 5 B b (.pointer (some ⟨b,0,none⟩)) (bs++Lib.strCells s) w'/\Below B w w'):=by
 obtain⟨i0,hi,hz0,hz1,hz2⟩:=info_parts Tryz.infoByte
 go_enter Tryz.func204,Tryz.ntmps204
 go_wp2_with (go_at_call 277;refine(Tryz.copyCheck B b bs _ h).mono ?_)
 rintro e w1 ⟨rfl,h1,hb1⟩
 obtain⟨hB,v,hbk,hown,hne⟩:=h1
 have c0:w1.cell? ⟨b,0,none⟩=some (.pointer (some ⟨b,0,none⟩)):=by rw[Lib.cell_of_heap hbk];rfl
 have c1:w1.cell? ⟨b,1,none⟩=some v:=by rw[Lib.cell_of_heap hbk];rfl
 go_wp2_with (at_builtin;refine Lib.wpList_append_own_string _ rfl _ _ 101 9 rfl B 5 i0 Tryz.underlying101 Tryz.underlying9 hi hz0 hz1 hz2 _ _ _ rfl hown s rfl ?c3 ?c4 ?c5 ?_)
 case c3=>unfold maxLen;omega
 case c4=>omega
 case c5=>have:=hb1.size;omega
 intro v' w2 hown' hgrow _
 have hlt:=KA hbk
 have hb2:w2.heap[b]? =some (.cells #[.pointer (some ⟨b,0,none⟩),v] 327 (0,0)):=by
  rw[hgrow.block b hlt (fun e=>hne e.symm)]
  exact hbk
 have d0:w2.cell? ⟨b,0,none⟩=some (.pointer (some ⟨b,0,none⟩)):=by rw[Lib.cell_of_heap hb2];rfl
 have d1:w2.cell? ⟨b,1,none⟩=some v:=by rw[Lib.cell_of_heap hb2];rfl
 have f1:w2.frozen? ⟨b,1,none⟩=false:=Lib.frozen_of_heap hb2 1
 obtain⟨ao,n',cap,rfl⟩:∃ao n' cap,v'= .slice ao n' cap:=by
  rcases hown'.2 with⟨hv,_⟩|⟨g,cap,cur,hv,_⟩
  ·exact⟨_,_,_,hv⟩
  ·exact⟨_,_,_,hv⟩
 go_wp2
 go_ret2
 refine⟨rfl,?_,?_⟩
 ·exact Lib.BuilderAt.put (T:=327) (e:=5) hB hb2 (bs':=bs++Lib.strCells s) (by simpa[Lib.strCells_length]using hown') (by decide)
 ·exact(hb1.grown hgrow (by have:=hb1.size;omega) (fun k hk=>(hown.lt k hk).1)).setCell (p:=⟨b,1,none⟩) hB _

end Go.Proofs

/- Clerk: the text of a word and numbers, walked in the world by contracts of strings.Builder and strconv.FormatInt. -/
set_option linter.unusedVariables false
namespace Go.Proofs
open Go Go.Shelf Go.RowKit
theorem Tryz.strconv_FormatInt_10 (n:Int) (h0: -9223372036854775808<=n) (h1:n<=9223372036854775807) (w:World) (htab:Lib.TabIs Tryz.prog w "internal/strconv.uint64pow10" .u64 Lib.pow10Tab):
 Calls Tryz.prog 206 #[.int .i64 n,.int .i64 10] w fun e w'=>e= .returned (.string ⟨(Lib.itoa n).toArray⟩)/\∃k os,w'=Sort.grow (w.drewN k) os:=Any.strconv_FormatInt_10 Tryz.lays173 n h0 h1 w htab
theorem Tryz.Extra169:Builder.Extra Tryz.prog Tryz.lays169_ren:={sizeBuilder:=by kernel_rfl,liesBuilder:=by kernel_rfl,t5:=Tryz.underlying5,a5:=Tryz.isAgg5,z5:=Tryz.sizeOf5,v5:=Tryz.zeroValue5,infoByte:=by kernel_rfl,cellsByte:=by kernel_rfl,sizeByte:=by kernel_rfl,neB5:=by decide}
theorem Tryz.Builder_String_any (B b:Nat) (l:List UInt8) (w:World) (h:Lib.IsBuilder 327 5 B b (Lib.byteCells l) w) (hBw:B<=w.heap.size):
 Calls Tryz.prog 207 #[.pointer (some ⟨b,0,none⟩)] w fun e w'=>e= .returned (.string ⟨l.toArray⟩)/\Below B w w':=Any.Builder_String_any Tryz.lays169 Tryz.Extra169 B b l w h hBw

theorem below_grow (w:World) (k:Nat) (os:Array Obj):Below w.heap.size w (Sort.grow (w.drewN k) os):=
 ⟨rfl,rfl,rfl,by simp[Sort.grow,World.drewN],fun b hb=>by simp only[Sort.grow,World.drewN];rw[Array.getElem?_append_left hb]⟩
theorem BuilderAt.below {T e:TypeId}{B b:Nat}{p:Value}{bs:List Value}{w w':World}(h:Lib.BuilderAt T e B b p bs w) (k:Below w.heap.size w w'):Lib.BuilderAt T e B b p bs w':=by
 have hlt:=h.lt
 obtain⟨hB,v,hb,hown,hne⟩:=h
 refine⟨hB,v,(k.block b hlt).trans hb,⟨hown.1,?_⟩,hne⟩
 rcases hown.2 with hn|⟨g,cap,cur,hv,hg,hgg,rest⟩
 ·exact .inl hn
 ·exact .inr ⟨g,cap,cur,hv,hg,(k.block g (KA hgg)).trans hgg,rest⟩
theorem IsBuilder.below {T e:TypeId}{B b:Nat}{bs:List Value}{w w':World}(h:Lib.IsBuilder T e B b bs w) (k:Below w.heap.size w w'):Lib.IsBuilder T e B b bs w':=
 h.imp (fun h=>BuilderAt.below h k) (fun h=>BuilderAt.below h k)
theorem Wq {w w':World}(h:Lib.TabIs Tryz.prog w "internal/strconv.uint64pow10" .u64 Lib.pow10Tab) (k:Below w.heap.size w w'):Lib.TabIs Tryz.prog w' "internal/strconv.uint64pow10" .u64 Lib.pow10Tab:=by
 unfold Lib.TabIs World.var? at*
 cases hg:Tryz.prog.globalNamed "internal/strconv.uint64pow10" with
 |none=>simp[hg]at h
 | some g=>
   simp only[hg,Option.bind_some]at h⊢
   have hlt:g<w.heap.size:=by
    rcases Nat.lt_or_ge g w.heap.size with h'|h'
    ·exact h'
    ·rw[Array.getElem?_eq_none h']at h;simp at h
   rw[k.block g hlt]
   exact h
def Gx (word:List UInt8) (zs:List Int):List UInt8:=word++zs.flatMap fun z=>32::Lib.itoa z
theorem Ub (word:List UInt8) (zs:List Int) (z:Int):Gx word (zs++[z])=Gx word zs++(32::Lib.itoa z):=by simp[Gx,List.flatMap_append]
theorem Sw (z:Int) (h0:0<=z) (h1:z<=9223372036854775807):(Lib.itoa z).length<=21:=Lib.itoa_length_le z Af h1
theorem Ph (word:List UInt8):∀(zs:List Int),(∀z∈zs,0<=z/\z<=9223372036854775807)->(Gx word zs).length<=word.length+22*zs.length
 |[],_=>by simp[Gx]
 | z::zs,h=>by
   have h1:=Ph word zs fun z hz=>h z (List.mem_cons_of_mem _ hz)
   have h2:=Sw z (h z (List.mem_cons_self ..)).1 (h z (List.mem_cons_self ..)).2
   simp only[Gx,List.flatMap_cons,List.length_append,List.length_cons]at h1⊢
   omega
theorem Mv {p:Prop}(h:p):Hid p:=h

set_option maxHeartbeats 4000000 in
set_option maxRecDepth 100000 in
theorem Tryz.line_world (word:ByteArray) (zs:List Int) (bk o cap:Nat) (w:World) (hw:word.size<=1000) (hn:zs.length<=3) (hc:zs.length<=cap) (hcells:∀(j:Nat) z,zs[j]? =some z->w.cell? ⟨bk,o+j,none⟩=some (.int .i64 z)) (hbk:bk<w.heap.size)
 (hb:∀z∈zs,0<=z/\z<=9223372036854775807) (htab:Lib.TabIs Tryz.prog w "internal/strconv.uint64pow10" .u64 Lib.pow10Tab):
 Calls Tryz.prog 138 #[.string word,.slice (some ⟨bk,o,none⟩) zs.length cap] w fun e w'=>e= .returned (.string ⟨(Gx word.data.toList zs).toArray⟩)/\Below w.heap.size w w':=by
 have HC:=Mv hcells
 clear hcells
 have HB:=Mv hb
 clear hb
 have HT:=Mv htab
 clear htab
 go_enter Tryz.func138,Tryz.ntmps138
 go_wp2_with (go_at_call 204;refine(Tryz.Builder_WriteString w.heap.size w.heap.size [] word _ (Lib.fresh_isBuilder 327 5 w) (by simp;omega) (by simp)).mono ?_)
 rintro e w1 ⟨rfl,h1,hb1⟩
 have hb1':Below w.heap.size w w1:=((Below.refl w.heap.size w).alloc (Nat.le_refl _) _).trans hb1
 have hstart:([]:List Value)++Lib.strCells word=Lib.byteCells (Gx word.data.toList (zs.take 0)):=by
  simp[Lib.strCells_eq,Gx]
 rw[hstart]at h1
 have H1:=Mv (Or.inr h1:Lib.IsBuilder 327 5 w.heap.size w.heap.size _ w1)
 have Hb1:=Mv hb1'
 clear h1 hb1 hb1' hstart
 go_wp2_with fail
 go_loopw [12] (fun i wr=>∃k:Nat,k<=zs.length/\i= .int .i64 k/\Hid (Lib.IsBuilder 327 5 w.heap.size w.heap.size (Lib.byteCells (Gx word.data.toList (zs.take k))) wr)/\Hid (Below w.heap.size w wr)) (fun i _=>zs.length - (intOf i).toNat)
 case atStart=>exact⟨0,Nat.zero_le _,rfl,H1,Hb1⟩
 case round=>
  obtain⟨k,hk,rfl,HI,HW⟩:=hrel
  by_cases hkn:k<zs.length
  ·obtain⟨z,hz⟩:∃z,zs[k]? =some z:=⟨zs[k],List.getElem?_eq_getElem hkn⟩
   have qq:=HB.out z (List.mem_of_getElem? hz)
   have hcz:wr.cell? ⟨bk,o+k,none⟩=some (.int .i64 z):=by
    rw[HW.out.cell (p:=⟨bk,o+k,none⟩) hbk]
    exact HC.out k z hz
   have hBw:w.heap.size<=wr.heap.size:=HW.out.size
   have hl:=Ph word.data.toList (zs.take k) fun z hz=>HB.out z (List.mem_of_mem_take hz)
   rw[List.length_take,Nat.min_eq_left hk,<-Lib.size_eq]at hl
   have hi:=Sw z qq.1 qq.2
   have hnext:Lib.byteCells (Gx word.data.toList (zs.take k))++[Value.int .u8 32]++Lib.strCells ⟨(Lib.itoa z).toArray⟩=Lib.byteCells (Gx word.data.toList (zs.take (k+1))):=by
    rw[List.take_add_one,hz]
    simp only[Option.toList_some]
    rw[Ub,Lib.byteCells_append,Lib.strCells_eq,List.append_assoc]
    rfl
   have Hn:=Mv hnext
   clear hnext
   go_wp2_with (go_at_call 205;refine(Tryz.Builder_WriteByte w.heap.size w.heap.size _ 32 wr HI.out (by rw[Lib.byteCells_length];omega) hBw).mono ?_)
   rintro e w2 ⟨rfl,h2,hb2⟩
   have H2:=Mv h2
   have Hb2:=Mv (HW.out.trans hb2)
   have hBw2:w.heap.size<=w2.heap.size:=Hb2.out.size
   clear h2 hb2
   go_wp2_with (go_at_call 206;refine(Tryz.strconv_FormatInt_10 z Af qq.2 w2 (by
    have h:=HT.out
    have k:=Hb2.out
    exact Wq h k)).mono ?_)
   rintro e w3 ⟨rfl,k3,os3,rfl⟩
   have hb3:=below_grow w2 k3 os3
   have H3:=Mv (IsBuilder.below (Or.inr H2.out) hb3)
   have Hb3:=Mv (Hb2.out.trans (hb3.mono hBw2))
   have hBw3:=Hb3.out.size
   clear hb3
   generalize Sort.grow (w2.drewN k3) os3=w3 at H3 Hb3 hBw3
   go_wp2_with (go_at_call 204;refine(Tryz.Builder_WriteString w.heap.size w.heap.size _ ⟨(Lib.itoa z).toArray⟩ w3 H3.out (by
    rw[List.length_append,Lib.byteCells_length];simp[Lib.size_eq];omega) hBw3).mono ?_)
   rintro e w4 ⟨rfl,h4,hb4⟩
   rw[Hn.out]at h4
   have H4:=Mv (Or.inr h4:Lib.IsBuilder 327 5 w.heap.size w.heap.size _ w4)
   have Hb4:=Mv (Hb3.out.trans hb4)
   clear h4 hb4
   go_wp2
   exact⟨⟨k+1,by omega,by go_num,H4,Hb4⟩,by simp[intOf];omega⟩
  ·have hke:k=zs.length:=by omega
   subst hke
   rw[List.take_length]at HI
   have hBw:w.heap.size<=wr.heap.size:=HW.out.size
   go_wp2_with (go_at_call 207;refine(Tryz.Builder_String_any w.heap.size w.heap.size _ wr HI.out hBw).mono ?_)
   rintro e w2 ⟨rfl,hb2⟩
   go_wp2
   go_ret
   exact⟨rfl,HW.out.trans hb2⟩
end Go.Proofs

/- Clerk: strings.Builder grows. After the shelf's walks. -/
set_option linter.unusedVariables false
namespace Go.Proofs
open Go Go.Shelf Go.RowKit

theorem XJ (w:World) (o:Obj) (a:Addr) (v:Value) (h:a.block<w.heap.size):(w.alloc o).setCell a v=(w.setCell a v).alloc o:=by
 simp only[Sort.alloc_eq_grow]
 unfold World.setCell Sort.grow
 simp only
 rw[Sort.modify_append_left _ _ _ _ h]

set_option maxHeartbeats 2000000 in
set_option maxRecDepth 100000 in
theorem Tryz.Builder_grow_fresh (B b n:Nat) (w:World) (hB:B<=b) (hbk:w.heap[b]? =some (.cells #[.pointer (some ⟨b,0,none⟩),.slice none 0 0] 327 (0,0))) (hBw:B<=w.heap.size) (hn:n<=281474976710656):
 Calls Tryz.prog 358 #[.pointer (some ⟨b,0,none⟩),.int .i64 n] w fun e w'=>e= .returned (.tuple #[])/\(Lib.BuilderAt 327 5 B b (.pointer (some ⟨b,0,none⟩)) [] w'/\Below B w w'):=by
 obtain⟨cs,hrun,hle,hmax⟩:=Lib.run_makeNoZero (P:=Tryz.prog) w.drew #[3] 101 5 Tryz.underlying101 n hn
 have hw:IntKind.i64.wrap (IntKind.i64.wrap 0+(n:Int))=n:=by
  rw[IntKind.wrap_i64,IntKind.wrap_i64]
  omega
 have hcall:(callFunc 462 #[.int .i64 (IntKind.i64.wrap (IntKind.i64.wrap 0+(n:Int)))]).run Tryz.prog w.drew= .ok (.value (.slice (some ⟨w.drew.heap.size,0,none⟩) n cs.size)) (w.drew.drew.drew.alloc (.cells cs 5)):=by
  rw[hw,run_callFunc_extern Tryz.func462 (by kernel_rfl) (by kernel_rfl) (by kernel_rfl) (e:=Extern.BytealgMakeNoZero.makeNoZero #[3] #[101]) (by kernel_rfl),hrun]
  rfl
 have c1:w.drew.cell? ⟨b,1,none⟩=some (.slice none 0 0):=by
  have:w.drew.heap[b]? =_:=hbk
  rw[Lib.cell_of_heap this];rfl
 have hlt:=KA hbk
 have c2:(w.alloc (.cells cs 5)).cell? ⟨b,1,none⟩=some (.slice none 0 0):=by
  have:(w.alloc (.cells cs 5)).heap[b]? =_:=(Lib.alloc_old w _ b hlt).trans hbk
  rw[Lib.cell_of_heap this];rfl
 have f2:(w.alloc (.cells cs 5)).frozen? ⟨b,1,none⟩=false:=Lib.frozen_of_heap ((Lib.alloc_old w _ b hlt).trans hbk) 1
 have hcopy:∀W:World,(Builtin.copy_ #[101,101] 3 #[.slice (some ⟨w.heap.size,0,none⟩) 0 cs.size,.slice none 0 0]).run Tryz.prog W= .ok (goInt 0) W:=
  fun W=>run_copy_none W 101 101 3 5 _ _ 0 cs.size 0 0 Tryz.underlying101 (by kernel_rfl) rfl
 clear hw
 go_enter Tryz.func358,Tryz.ntmps358
 go_wp2
 have hfin:=Lib.grown_fresh (T:=327) (e:=5) (cs:=cs) hB hbk hBw (hmax (by unfold maxLen;omega)) (by decide)
 rw[XJ w _ ⟨b,1,none⟩ _ hlt]at hfin
 go_region
 all_goals(go_wp2;go_end0;exact⟨rfl,hfin⟩)
end Go.Proofs

/- Clerk: strings.Builder's Grow at a new builder. After the shelf's walks. -/
set_option linter.unusedVariables false
namespace Go.Proofs
open Go Go.Shelf Go.RowKit
set_option maxHeartbeats 2000000 in
set_option maxRecDepth 1000000 in
theorem Tryz.Builder_Grow_fresh (B b n:Nat) (w:World) (hB:B<=b) (hbk:w.heap[b]? =some (.cells #[.pointer none,.slice none 0 0] 327 (0,0))) (hBw:B<=w.heap.size) (hn:n<=281474976710656):
 Calls Tryz.prog 264 #[.pointer (some ⟨b,0,none⟩),.int .i64 n] w fun e w'=>e= .returned (.tuple #[])/\(Lib.BuilderAt 327 5 B b (.pointer (some ⟨b,0,none⟩)) [] w'/\Below B w w'):=by
 have hbk1:(w.setCell ⟨b,0,none⟩ (.pointer (some ⟨b,0,none⟩))).heap[b]? =some (.cells #[.pointer (some ⟨b,0,none⟩),.slice none 0 0] 327 (0,0)):=by
  simp[World.setCell,Array.getElem?_modify,hbk]
 have c1:(w.setCell ⟨b,0,none⟩ (.pointer (some ⟨b,0,none⟩))).cell? ⟨b,1,none⟩=some (.slice none 0 0):=by rw[Lib.cell_of_heap hbk1];rfl
 have hb1:Below B w (w.setCell ⟨b,0,none⟩ (.pointer (some ⟨b,0,none⟩))):=(Below.refl B w).setCell (p:=⟨b,0,none⟩) hB _
 go_enter Tryz.func264,Tryz.ntmps264
 have hU:Lib.BuilderAt 327 5 B b (.pointer (some ⟨b,0,none⟩)) [] (w.setCell ⟨b,0,none⟩ (.pointer (some ⟨b,0,none⟩))):=⟨hB,.slice none 0 0,hbk1,World.ownsRow_nil _ _ _ _,by simp[Value.ownBlock]⟩
 have c1':(w.setCell ⟨b,0,none⟩ (.pointer (some ⟨b,0,none⟩))).drew.cell? ⟨b,1,none⟩=some (.slice none 0 0):=c1
 go_wp2_with (go_at_call 277;refine(Tryz.copyCheck_fresh b w (by rw[Lib.cell_of_heap hbk];rfl) (by simp[World.shape?,hbk]) (Lib.frozen_of_heap hbk 0)).mono ?_;rintro e w' ⟨rfl,rfl⟩)
 go_region
 all_goals go_wp2_with (go_at_call 358;refine(Tryz.Builder_grow_fresh B b n (w.setCell ⟨b,0,none⟩ (.pointer (some ⟨b,0,none⟩))).drew hB hbk1 (by simpa[World.setCell,World.drew, -World.drew_eq]using hBw) hn).mono ?_;rintro e w' ⟨rfl,h1,h2⟩)
 all_goals first
  |(go_end0;exact⟨rfl,h1,hb1.drew.trans h2⟩)
  |(go_end0;exact⟨rfl,hU.drew,hb1.drew⟩)
end Go.Proofs

/- Clerk: strings.Join of at least two strings, in the world. After the shelf's walk. -/
set_option linter.unusedVariables false
namespace Go.Proofs
open Go Go.Shelf Go.RowKit

set_option maxHeartbeats 4000000 in
set_option maxRecDepth 100000 in
theorem Tryz.strings_Join_many (bk o c:Nat) (xs:List ByteArray) (sep:ByteArray) (w:World)
 (hcells:∀(j:Nat) x,xs[j]? =some x->w.cell? ⟨bk,o+j,none⟩=some (.string x))
 (hbk:bk<w.heap.size) (h2:2<=xs.length) (hN:xs.length<=140737488355328) (hcap:xs.length<=c)
 (hlen:(Lib.join (xs.map (·.data.toList)) sep.data.toList).length<=140737488355328):
 Calls Tryz.prog 179 #[.slice (some ⟨bk,o,none⟩) xs.length c,.string sep] w fun e w'=>e= .returned (.string ⟨(Lib.join (xs.map (·.data.toList)) sep.data.toList).toArray⟩)/\Below w.heap.size w w':=by
 have HC:=hid hcells
 clear hcells
 obtain⟨x0,r,hxs⟩:∃x0 r,xs=x0::r:=by
  cases xs with
  |nil=>simp at h2
  |cons a t=>exact⟨a,t,rfl⟩
 have hjl:sep.size* (xs.length - 1)+Lib.lens (xs.map (·.data.toList))<=140737488355328:=by
  have:=Lib.join_length x0.data.toList (r.map (·.data.toList)) sep.data.toList
  rw[hxs]at hlen⊢
  simp only[List.map_cons]at hlen⊢
  rw[this,List.length_map]at hlen
  rw[Lib.size_eq,List.length_cons,Nat.add_sub_cancel]
  exact hlen
 have hmul:sep.size* (xs.length - 1)<=140737488355328:=by omega
 generalize hM:sep.size* (xs.length - 1)=M at hjl hmul
 have hcast:((xs.length:Int) - 1)=((xs.length - 1:Nat):Int):=by omega
 have hlt:sep.size<9223372036854775807 / (xs.length - 1):=by
  have:sep.size+1<=9223372036854775807 / (xs.length - 1):=by
   rw[Nat.le_div_iff_mul_le Af,Nat.add_mul,hM]
   omega
  omega
 have hdv:¬(9223372036854775807 / ((xs.length:Int) - 1)<=(sep.size:Int)):=by
  have e:(9223372036854775807:Int) / ((xs.length - 1:Nat):Int)=((9223372036854775807 / (xs.length - 1):Nat):Int):=IntWalk.up_div (x:=9223372036854775807) rfl rfl
  rw[hcast,e]
  generalize 9223372036854775807 / (xs.length - 1)=q at hlt
  omega
 have hprod:wrap64 ((sep.size:Int) * ((xs.length:Int) - 1))=(M:Int):=by
  have e:(sep.size:Int) * ((xs.length - 1:Nat):Int)=((sep.size* (xs.length - 1):Nat):Int):=IntWalk.up_mul rfl rfl
  rw[hcast,e,hM]
  exact IntWalk.wrap64_in _ ⟨by omega,by omega⟩
 have hM0:sep.size=0->M=0:=fun h=>by rw[<-hM,h,Nat.zero_mul]
 clear hlt hcast
 have hne0:((xs.length:Int)==0)=false:=beq_eq_false_iff_ne.2 Af
 have hne1:((xs.length:Int)==1)=false:=beq_eq_false_iff_ne.2 Af
 have Hxs:=hid hxs
 have Hlen:=hid hlen
 clear hxs hlen
 have e108:∀args w,(callFunc 277 args).run Tryz.prog w= .ok (.enter 277 args) w:=enters_of Tryz.func277 (by kernel_rfl) rfl
 go_enter Tryz.func179,Tryz.ntmps179
 go_wp2_with fail
 all_goals(
  go_loop [5,41] (fun n i=>∃k:Nat,k<=xs.length/\i= .int .i64 k/\n= .int .i64 ((M+Lib.lens ((xs.map (·.data.toList)).take k):Nat):Int)) (fun _ i=>xs.length - (intOf i).toNat)
  case atStart=>exact⟨0,Nat.zero_le _,rfl,by first|(simp[Lib.lens];done)|(have:=hM0 Af;simp[Lib.lens,this])⟩
  case round=>
   obtain⟨k,hk,rfl,rfl⟩:=hrel
   by_cases hkn:k<xs.length
   ·obtain⟨x,hx⟩:∃x,xs[k]? =some x:=⟨xs[k],List.getElem?_eq_getElem hkn⟩
    have hc:=HC.out k x hx
    have hstep:=Lib.lens_take_succ (xs.map (·.data.toList)) k x.data.toList (by simp[hx])
    have hbound:Lib.lens ((xs.map (·.data.toList)).take (k+1))<=Lib.lens (xs.map (·.data.toList)):=Lib.lens_take_le _ _
    rw[<-Lib.size_eq]at hstep
    generalize hA1:Lib.lens ((xs.map (·.data.toList)).take (k+1))=A1 at hstep hbound
    generalize Lib.lens ((xs.map (·.data.toList)).take k)=A0 at hstep
    have HA1:=hid hA1
    clear hA1
    go_wp2
    exact⟨⟨k+1,by omega,by go_num,by rw[HA1.out];refine congrArg _ ?_;omega⟩,by simp[intOf];omega⟩
   ·have hke:k=xs.length:=by omega
    subst hke
    have hall:(xs.map (·.data.toList)).take xs.length=xs.map (·.data.toList):=List.take_of_length_le (by simp)
    rw[hall]
    generalize hT:Lib.lens (xs.map (·.data.toList))=T at hjl
    have HT:=hid hT
    clear hT hall
    go_wp2_with fail
    have hMT:((M:Int)+(T:Int))=((M+T:Nat):Int):=by omega
    rw[hMT]
    refine(Tryz.Builder_Grow_fresh w.heap.size w.heap.size (M+T) _ (Nat.le_refl _) (heap_alloc_new w _) (by simp) Af).mono ?_
    rintro e w1 ⟨rfl,h1,hb1⟩
    have hb1':Below w.heap.size w w1:=((Below.refl w.heap.size w).alloc (Nat.le_refl _) _).trans hb1
    have hx0:xs[0]? =some x0:=by rw[Hxs.out];rfl
    have hc0:w1.cell? ⟨bk,o,none⟩=some (.string x0):=by
     rw[hb1'.cell (p:=⟨bk,o,none⟩) hbk]
     exact HC.out 0 x0 hx0
    have H1:=hid (Or.inr h1:Lib.IsBuilder 327 5 w.heap.size w.heap.size [] w1)
    have Hb1:=hid hb1'
    have hBw1:w.heap.size<=w1.heap.size:=hb1'.size
    clear h1 hb1 hb1' hMT
    have hwhole:Lib.join (xs.map (·.data.toList)) sep.data.toList=x0.data.toList++Lib.joinTail sep.data.toList (r.map (·.data.toList)):=by
     rw[Hxs.out,List.map_cons,Lib.join_cons]
    have hCle:∀k,(x0.data.toList++Lib.joinTail sep.data.toList ((r.map (·.data.toList)).take k)).length<=140737488355328:=fun k=>by
     have h1:=Hlen.out
     rw[hwhole,List.length_append]at h1
     have h2:=Lib.joinTail_take_le sep.data.toList (r.map (·.data.toList)) k
     rw[List.length_append]
     omega
    have HCle:=hid hCle
    have Hwhole:=hid hwhole
    clear hCle hwhole
    go_wp2_with fail
    refine(Tryz.Builder_WriteString w.heap.size w.heap.size [] x0 w1 H1.out (by have:=HCle.out 0;simp[Lib.joinTail]at this⊢;omega) hBw1).mono ?_
    rintro e w2 ⟨rfl,h2',hb2⟩
    have hstart:([]:List Value)++Lib.strCells x0=Lib.byteCells (x0.data.toList++Lib.joinTail sep.data.toList ((r.map (·.data.toList)).take 0)):=by
     simp[Lib.joinTail,Lib.strCells_eq]
    rw[hstart]at h2'
    have H2:=hid (Or.inr h2':Lib.IsBuilder 327 5 w.heap.size w.heap.size _ w2)
    have Hb2:=hid (Hb1.out.trans hb2)
    clear h2' hb2 hstart
    have hrl:r.length=xs.length - 1:=by rw[Hxs.out];simp
    go_wp2_with fail
    go_loopw [65] (fun i wr=>∃k:Nat,k<=r.length/\i= .int .i64 k/\Hid (Lib.IsBuilder 327 5 w.heap.size w.heap.size (Lib.byteCells (x0.data.toList++Lib.joinTail sep.data.toList ((r.map (·.data.toList)).take k))) wr)/\Hid (Below w.heap.size w wr)) (fun i _=>r.length - (intOf i).toNat)
    case atStart=>exact⟨0,Nat.zero_le _,rfl,H2,Hb2⟩
    case round=>
     obtain⟨k,hk',rfl,HB,HW⟩:=hrel
     by_cases hkr:k<r.length
     ·obtain⟨y,hy⟩:∃y,r[k]? =some y:=⟨r[k],List.getElem?_eq_getElem hkr⟩
      have hxy:xs[k+1]? =some y:=by rw[Hxs.out];simpa using hy
      have hcy:wr.cell? ⟨bk,o+1+k,none⟩=some (.string y):=by
       rw[HW.out.cell (p:=⟨bk,o+1+k,none⟩) hbk,show o+1+k=o+(k+1) by omega]
       exact HC.out (k+1) y hxy
      have hBw:w.heap.size<=wr.heap.size:=HW.out.size
      have hnext:Lib.byteCells (x0.data.toList++Lib.joinTail sep.data.toList ((r.map (·.data.toList)).take k))++Lib.strCells sep++Lib.strCells y=Lib.byteCells (x0.data.toList++Lib.joinTail sep.data.toList ((r.map (·.data.toList)).take (k+1))):=by
       rw[Lib.joinTail_take_succ sep.data.toList (r.map (·.data.toList)) k y.data.toList (by simp[hy]),Lib.strCells_eq,Lib.strCells_eq,<-Lib.byteCells_append,<-Lib.byteCells_append,List.append_assoc,List.append_assoc,List.append_assoc]
      have hl1:=HCle.out (k+1)
      rw[Lib.joinTail_take_succ sep.data.toList (r.map (·.data.toList)) k y.data.toList (by simp[hy])]at hl1
      simp only[List.length_append,<-Lib.size_eq]at hl1
      have hl0:(Lib.byteCells (x0.data.toList++Lib.joinTail sep.data.toList ((r.map (·.data.toList)).take k))).length=x0.size+(Lib.joinTail sep.data.toList ((r.map (·.data.toList)).take k)).length:=by
       rw[Lib.byteCells_length,List.length_append,<-Lib.size_eq]
      generalize (Lib.joinTail sep.data.toList ((r.map (·.data.toList)).take k)).length=J at hl0 hl1
      have Hn:=hid hnext
      clear hnext hy hxy
      go_wp2_with fail
      refine(Tryz.Builder_WriteString w.heap.size w.heap.size _ sep wr HB.out (by rw[hl0];omega) hBw).mono ?_
      rintro e w3 ⟨rfl,h3,hb3⟩
      have hBw3:w.heap.size<=w3.heap.size:=Nat.le_trans hBw hb3.size
      have H3:=hid h3
      have Hb3:=hid hb3
      clear h3 hb3
      go_wp2_with fail
      refine(Tryz.Builder_WriteString w.heap.size w.heap.size _ y w3 (Or.inr H3.out) (by rw[List.length_append,hl0,Lib.strCells_length];omega) hBw3).mono ?_
      rintro e w4 ⟨rfl,h4,hb4⟩
      rw[Hn.out]at h4
      have H4:=hid (Or.inr h4:Lib.IsBuilder 327 5 w.heap.size w.heap.size _ w4)
      have Hb4:=hid ((HW.out.trans Hb3.out).trans hb4)
      clear h4 hb4
      go_wp2
      exact⟨⟨k+1,by omega,by go_num,H4,Hb4⟩,by simp[intOf];omega⟩
     ·have hke:k=r.length:=by omega
      subst hke
      have hBw:w.heap.size<=wr.heap.size:=HW.out.size
      have hfull:(r.map (·.data.toList)).take r.length=r.map (·.data.toList):=List.take_of_length_le (by simp)
      rw[hfull,<-Hwhole.out]at HB
      go_wp2_with fail
      refine(Tryz.Builder_String_any w.heap.size w.heap.size _ wr HB.out hBw).mono ?_
      rintro e w3 ⟨rfl,hb3⟩
      go_wp2
      go_ret
      exact⟨rfl,HW.out.trans hb3⟩)
end Go.Proofs

/- Clerk, walked: within, leaf, node, half, sealed. -/
namespace AE.Tryz
open Go AE Go.Proofs AE.Clerk
set_option maxRecDepth 100000
set_option linter.unusedVariables false

theorem Ru {h:H}{n a b:Int}:AW Tryz.prog 135 h.next h [.int .i64 n,.int .i64 a,.int .i64 b] (fun v _=>v= .bool (decide (CP n a b))):=by
 refine iJ.call rfl (Nat.le_refl _) ?_
 unfold nh
 by_cases hb:CP n a b
 ·have hb':=hb
  unfold CP at hb'
  (refine Ai ?_)
  (refine AA ?_);rw[decide_eq_true hb]
 ·rw[decide_eq_false hb]
  unfold CP at hb
  (focus((try with_reducible apply wpC.to);(repeat'((conv=>whnf);first|refine Aw ?_|(apply Fork.mk<;>(intro _;try(exfalso;omega)))|fail));all_goals((conv=>whnf);try with_reducible apply At.mk)))
  all_goals((refine AA ?_);rfl)
theorem XG {h:H}{n a b:Int}:AW Tryz.prog 139 h.next h [.int .i64 n,.int .i64 a,.int .i64 b] (fun v _=>v= .bool (decide (CP n a b))):=by
 refine iI.call rfl (Nat.le_refl _) ?_
 unfold a139
 by_cases hb:CP n a b
 ·have hb':=hb
  unfold CP at hb'
  (refine Ai ?_)
  (refine AA ?_);rw[decide_eq_true hb]
 ·rw[decide_eq_false hb]
  unfold CP at hb
  (focus((try with_reducible apply wpC.to);(repeat'((conv=>whnf);first|refine Aw ?_|(apply Fork.mk<;>(intro _;try(exfalso;omega)))|fail));all_goals((conv=>whnf);try with_reducible apply At.mk)))
  all_goals((refine AA ?_);rfl)
theorem Et {G:Prop}(g:G:=by(exact XG)):G:=g
theorem D9 {G:Prop}(g:G:=by(exact Ru)):G:=g
theorem Sv {G G':Prop}(g:G') (t:G'->G:=by((apply Ak);(focus exact Ae);(focus exact AK);(focus(exact Ru)))):G:=t g
theorem Yu {h:H}{n:Int}:AW Tryz.prog 66 h.next h [.int .i64 n] (fun v _=>v= .bool (decide (CP n 0 (Clerk.P - 1)))):=by
 refine lR.call rfl (Nat.le_refl _) ?_
 unfold a66
 have e:Clerk.P - 1=2147483646:=by decide
 rw[e]
 by_cases hb:CP n 0 2147483646
 ·rw[decide_eq_true hb]
  (focus((try with_reducible apply wpC.to);(repeat'((conv=>whnf);first|refine Aw ?_|((refine Sv ?_);first|((first|apply Ey|apply AG|apply AH)<;>intro _ _ _ _<;>try contradiction)|(apply AB;intro _ _ _))|fail));all_goals((conv=>whnf);try with_reducible apply At.mk)))
  (refine AA ?_);rfl
 ·rw[decide_eq_false hb]
  (focus((try with_reducible apply wpC.to);(repeat'((conv=>whnf);first|refine Aw ?_|((refine Sv ?_);first|((first|apply Ey|apply AG|apply AH)<;>intro _ _ _ _<;>try contradiction)|(apply AB;intro _ _ _))|fail));all_goals((conv=>whnf);try with_reducible apply At.mk)))
  (refine AA ?_);rfl
theorem Xb (l:List Nat) (k:Nat) (hk:k<l.length):Sl (leaf (l.take k)) (l.getD k 0)=leaf (l.take (k+1)):=by
 unfold leaf
 rw[List.take_add_one,List.foldl_append]
 simp[List.getD_eq_getElem?_getD,hk]
theorem Qv (s:ByteArray) (k:Nat):(BK s).getD k 0<256:=by
 rw[List.getD_eq_getElem?_getD]
 cases h:(BK s)[k]? with
 |none=>simp
 |some c=>exact bV s c (List.mem_of_getElem? h)
theorem fX {h:H}{s:ByteArray}(hs:s.size<=9223372036854775807):AW Tryz.prog 70 h.next h [.string s] (fun v h'=>v= .int .i64 (leaf (BK s))):=by
 refine lQ.call rfl (Nat.le_refl _) ?_
 unfold a70
 (refine Cl ?_)
 refine wp_loop (fun k:Nat=>[(0,.string s),(3,.int .i64 (leaf ((BK s).take k))),(6,.int .i64 s.size),(7,.int .i64 k)]) (fun k h1=>k<=s.size) (fun k=>s.size - k) 0 ⟨rfl,rfl,rfl,rfl,trivial⟩ (Nat.zero_le _) ?_
 intro k g h1 hk K hK
 have hb:=cw ((BK s).take k)
 have hc:=Qv s k
 by_cases hlt:k<s.size
 ·have hst:=Xb (BK s) k (by rw[Kx];exact hlt)
  unfold Sl Clerk.P at hst
  unfold Clerk.P at hb
  (refine Cl ?_)
  exact hK (k+1) _ _ ⟨rfl,BQ rfl hst,rfl,BQ rfl Af,trivial⟩ Af Af
 ·obtain rfl:k=s.size:=by omega
  clear hK
  (refine Cl ?_)
  (refine AA ?_)
  rw[List.take_of_length_le (by rw[Kx];exact Nat.le_refl _)]
end AE.Tryz

/- Clerk, walked: halves; kinds; which lines are valid. -/
namespace AE.Tryz
open Go AE Go.Proofs AE.Clerk
set_option maxRecDepth 100000
set_option linter.unusedVariables false

def jJ (f:Nat):Value:=.func (.func f) ⟨[]⟩ ⟨[]⟩
def Mc (w:Array UInt8) (m0 m1 a0 a1 b0 b1 n:Int) (f:Nat):List Value:=[.string ⟨w⟩,.int .i64 m0,.int .i64 m1,.int .i64 a0,.int .i64 a1,.int .i64 b0,.int .i64 b1,.int .i64 n,jJ f]
def fZ:List Value:=
 Mc #[98,117,121] 0 0 1 1000000 0 0 1 196++Mc #[100,114,97,119] 1 1099511627776 1 1000000 0 1000 3 197++Mc #[99,117,116] 1 1099511627776 0 0 0 0 1 198++Mc #[114,117,110] 1 1099511627776 1 1000000 0 1000000 3 199++
 Mc #[109,101,108,116] 1 1099511627776 0 0 0 0 1 200++Mc #[98,105,108,108] 1 1099511627776 1 1000000 0 0 2 201++Mc #[112,97,121] 1 1099511627776 1 1000000000 0 0 2 202++Mc #[99,108,97,105,109] 1 1099511627776 0 59 0 0 2 203
theorem jR {h:H}{n:Int}:AW Tryz.prog 195 h.next h [.int .i64 n] (fun v _=>v= .agg ⟨[.int .i64 1,.int .i64 n]⟩):=by
 refine iy.call rfl (Nat.le_refl _) ?_
 unfold mZ
 (refine Ai ?_)
 (refine AA ?_)
 rfl
theorem Ci {G:Prop}(g:G:=by(exact jR)):G:=g
theorem Zi {G G':Prop}(g:G') (t:G'->G:=by((apply Ak);(focus exact Ae);(focus exact AK);(focus(exact jR)))):G:=t g
set_option maxHeartbeats 1000000 in
theorem cz {h:H}:AW Tryz.prog 134 h.next h [] (fun v _=>v= .agg ⟨fZ⟩):=by
 refine iK.call rfl (Nat.le_refl _) ?_
 unfold ni
 (focus((try with_reducible apply wpC.to);(repeat'((conv=>whnf);first|refine Aw ?_|((refine Zi ?_);first|((first|apply Ey|apply AG|apply AH)<;>intro _ _ _ _<;>try contradiction)|(apply AB;intro _ _ _))|fail));all_goals((conv=>whnf);try with_reducible apply At.mk)))
 (refine AA ?_)
 rfl
end AE.Tryz

/- Clerk, walked: which lines are valid. -/
namespace AE.Tryz
open Go AE Go.Proofs AE.Clerk
set_option maxRecDepth 100000
set_option linter.unusedVariables false

def _root_.AE.Clerk.Ln.cells (x:Ln):List Value:=[.int .i64 x.k,.int .i64 x.m,.int .i64 x.a,.int .i64 x.b]
theorem Cc {G:Prop}(g:G:=by(exact cz)):G:=g
set_option maxHeartbeats 2000000 in
theorem U4 {h:H}{x:Ln}:AW Tryz.prog 65 h.next h [.agg ⟨x.cells⟩] (fun v _=>v= .bool (decide (x.Valid 1099511627776))):=by
 refine lS.call rfl (Nat.le_refl _) ?_
 obtain⟨k,m,a,b⟩:=x
 unfold a65 Ln.cells
 dsimp only
 by_cases hk:0<=k/\k<=7
 ·have hk':k=0\/k=1\/k=2\/k=3\/k=4\/k=5\/k=6\/k=7:=by omega
  clear hk
  rcases hk' with rfl|rfl|rfl|rfl|rfl|rfl|rfl|rfl
  all_goals(focus((try with_reducible apply wpC.to);(repeat'((conv=>whnf);first|refine Aw ?_|(apply Fork.mk<;>(intro _;try(exfalso;omega)))|((apply Ak);(focus exact Ae);(focus exact AK);(focus(first|exact D9|exact Cc));first|((apply AH)<;>(intro Am _ _ _;first|exact Bool.noConfusion Am|replace Am:=of_decide_eq_true Am|replace Am:=of_decide_eq_false Am|skip)<;>((try(unfold CP at Am));first|contradiction|(revert Am;intros)))|((apply AG)<;>intro _ _ _ _<;>try contradiction)|(apply AB;intro _ _ _))|fail));all_goals((conv=>whnf);try with_reducible apply At.mk)))
  all_goals((refine AA ?_);first|exact HP rfl (by unfold Ln.Valid CP;dsimp only;omega)|exact GQ rfl (by unfold Ln.Valid CP;dsimp only;omega))
 ·(focus((try with_reducible apply wpC.to);(repeat'((conv=>whnf);first|refine Aw ?_|(apply Fork.mk<;>(intro _;try(exfalso;omega)))|((apply Ak);(focus exact Ae);(focus exact AK);(focus(first|exact D9|exact Cc));first|((apply AH)<;>(intro Am _ _ _;first|exact Bool.noConfusion Am|replace Am:=of_decide_eq_true Am|replace Am:=of_decide_eq_false Am|skip)<;>((try(unfold CP at Am));first|contradiction|(revert Am;intros)))|((apply AG)<;>intro _ _ _ _<;>try contradiction)|(apply AB;intro _ _ _))|fail));all_goals((conv=>whnf);try with_reducible apply At.mk)))
  all_goals((refine AA ?_);exact GQ rfl (by unfold Ln.Valid CP;dsimp only;omega))
set_option maxHeartbeats 2000000 in
theorem Yx {h:H}{x:Ln}:AW Tryz.prog 73 h.next h [.agg ⟨x.cells⟩] (fun v _=>v= .bool (decide (x.Valid 1099511627776))):=by
 refine lO.call rfl (Nat.le_refl _) ?_
 obtain⟨k,m,a,b⟩:=x
 unfold a73 Ln.cells
 dsimp only
 (focus((try with_reducible apply wpC.to);(repeat'((conv=>whnf);first|refine Aw ?_|(apply Fork.mk<;>(intro _;try(exfalso;omega)))|((apply Ak);(focus exact Ae);(focus exact AK);(focus(exact Et));first|((apply AH)<;>(intro Am _ _ _;first|exact Bool.noConfusion Am|replace Am:=of_decide_eq_true Am|replace Am:=of_decide_eq_false Am|skip)<;>((try(unfold CP at Am));first|contradiction|(revert Am;intros)))|((apply AG)<;>intro _ _ _ _<;>try contradiction)|(apply AB;intro _ _ _))|fail));all_goals((conv=>whnf);try with_reducible apply At.mk)))
 all_goals((refine AA ?_);first|exact HP rfl (by unfold Ln.Valid CP;dsimp only;omega)|exact GQ rfl (by unfold Ln.Valid CP;dsimp only;omega))
end AE.Tryz

/- Clerk: library functions, and line, as_ calls of the evaluator. -/
namespace AE.Tryz
open Go AE Go.Proofs AE.Clerk Go.RowKit
set_option maxRecDepth 100000
set_option linter.unusedVariables false

theorem g0:Tryz.prog.globalNamed "internal/strconv.uint64pow10" =some 0:=by kernel_rfl
theorem Yj {n:Nat}{w:World}(k:I7 n w):Lib.TabIs Tryz.prog w "internal/strconv.uint64pow10" .u64 Lib.pow10Tab:=by
 obtain⟨-,e,fr,hh⟩:=k (0,Np.map (Value.int .u64)) (by simp[PW])
 unfold Lib.TabIs World.var?
 rw[g0,Option.bind_some,hh]
 rfl
theorem N8 (n:Nat):(Lib.decDigits n).map (·.toNat)=dec n:=by
 induction n using Nat.strongRecOn with
 | ind n ih=>
   rcases Nat.lt_or_ge n 10 with h|h
   ·rw[dec_lt h]
    unfold Lib.decDigits
    simp[h]
    omega
   ·rw[QW h,<-ih (n / 10) Af]
    conv=>lhs;unfold Lib.decDigits
    simp[show¬n<10 by omega]
    omega
theorem Xw {n:Nat}:∀c∈dec n,c<256:=fun c hc=>by have:=Xx c hc;omega
theorem cB {n:Int}(h:0<=n):(⟨(Lib.itoa n).toArray⟩:ByteArray)=bs (dec n.toNat):=by
 apply R6
 rw[bW Xw,<-N8]
 unfold Lib.itoa
 rw[if_neg Af]
 rfl
theorem Me {h:H}{n:Int}(h0:0<=n) (h1:n<=9223372036854775807):AW Tryz.prog 206 h.next h [.int .i64 n,.int .i64 10] (fun v h'=>v= .string (bs (dec n.toNat))/\h'=h):=by
 refine⟨_,h,⟨rfl,rfl⟩,AF.of_below (enters_of Tryz.func206 (by kernel_rfl) rfl) rfl fun I w k i=>?_⟩
 refine(Tryz.strconv_FormatInt_10 n Af h1 w (Yj k.tabs)).mono ?_
 rintro e w' ⟨rfl,q,os,rfl⟩
 exact⟨by rw[cB h0],below_grow w q os⟩
theorem NP {I:Al}{a:Addr}{n c:Nat}(h:C6 I a n c):n<=Bq I a c:=by
 unfold C6 at h
 unfold Bq
 cases hs:a.spot with
 |none=>rw[hs]at h;exact h
 | some g=>
   rw[hs]at h
   dsimp only at h⊢
   split
   ·rename_i e;rw[if_pos e]at h;exact h
   ·rename_i e;rw[if_neg e]at h;omega
theorem L5 {I:Al}{h:H}{w:World}(k:Rel I h w) {a:Addr}{n c:Nat}{l:List Value}(hc:c<far) (i:In I (.slice (some a) n c)) (hl:h.Az a n=some l) (hf:B7 l=true):
 ∃bk o cp,ren I (.slice (some a) n c)= .slice (some ⟨bk,o,none⟩) n cp/\n<=cp/\bk<w.heap.size/\∀j v,l[j]? =some v->w.cell? ⟨bk,o+j,none⟩=some v:=by
 rw[B8 hc]at i
 obtain⟨b,h1,h2,h3,h4,h5,h6⟩:=WI k i.1 hl
 obtain⟨bk,o,sp⟩:=b
 simp only at h2 h3
 subst h2
 refine⟨bk,o,Bq I a c,by rw[BD hc,h1],NP i.2,h3,fun j v hj=>?_⟩
 have:=h6 j v hj
 have hadd:(⟨bk,o,none⟩:Addr).add j=⟨bk,o+j,none⟩:=by
  simp only[Addr.add]
  split
  ·rename_i h0;rw[h0];rfl
  ·rfl
 rw[hadd]at this
 rw[this]
 have e1:=(CN I l hf).1
 have:=congrArg (·[j]?) e1
 simp only[BO,hj,Option.map_some]at this
 exact this
theorem Pw:∀zs:List Int,B7 (zs.map (Value.int .i64))=true
 |[]=>rfl
 |z::zs=>by simp only[List.map_cons,B7,flat,Bool.true_and];exact Pw zs
theorem LB:∀xs:List ByteArray,B7 (xs.map Value.string)=true
 |[]=>rfl
 |z::zs=>by simp only[List.map_cons,B7,flat,Bool.true_and];exact LB zs
def KC (w:List Nat) (zs:List Int):List Nat:=w++zs.flatMap sep
theorem Y7 (w:ByteArray):∀(zs:List Int),(∀z∈zs,0<=z)->(Gx w.data.toList zs).map (·.toNat)=KC (BK w) zs:=by
 intro zs h
 unfold Gx KC
 rw[List.map_append,List.map_flatMap]
 congr 1
 induction zs with
 |nil=>rfl
 | cons z zs ih=>
   rw[List.flatMap_cons,List.flatMap_cons,ih fun z hz=>h z (List.mem_cons_of_mem _ hz)]
   congr 1
   have h0:=h z (List.mem_cons_self ..)
   unfold sep
   rw[<-N8]
   unfold Lib.itoa
   rw[if_neg Af]
   rfl
theorem Y6 {h:H}{w:ByteArray}{zs:List Int}{a:Addr}{c n:Nat}(hw:w.size<=1000) (hn:zs.length<=3) (en:n=zs.length) (hc:c<far) (hl:h.Az a n=some (zs.map (Value.int .i64))) (hb:∀z∈zs,0<=z/\z<=9223372036854775807):
 AW Tryz.prog 138 h.next h [.string w,.slice (some a) n c] (fun v h'=>v= .string (bs (KC (BK w) zs))/\h'=h):=by
 subst en
 refine⟨_,h,⟨rfl,rfl⟩,AF.of_below (enters_of Tryz.func138 (by kernel_rfl) rfl) rfl fun I W k i=>?_⟩
 simp only[BH]at i
 obtain⟨bk,o,cp,e,h1,h2,h3⟩:=L5 k hc i.2.1 hl (Pw zs)
 simp only[Ah,e]
 refine(Tryz.line_world w zs bk o cp W hw hn h1 (fun j z hj=>h3 j _ (by simp[hj])) h2 hb (Yj k.tabs)).mono ?_
 rintro e w' ⟨rfl,b⟩
 refine⟨?_,b⟩
 rw[<-Y7 w zs fun z hz=>(hb z hz).1]
 congr 2
 exact(KX _).symm
end AE.Tryz

/- Clerk: strings.Split at one byte, in the world, and in plain words. -/
set_option linter.unusedVariables false
namespace Go.Proofs
open Go Go.Shelf Go.RowKit
theorem Tryz.genSplit_one (s:ByteArray) (c:UInt8) (w:World) (hs:s.size<4294967281):
 Calls Tryz.prog 265 #[.string s,.string ⟨#[c]⟩,.int .i64 0,.int .i64 (-1)] w fun e w'=>
  e= .returned (.slice (some ⟨w.heap.size,0,none⟩) (Lib.countB s ⟨#[c]⟩+1) (Lib.countB s ⟨#[c]⟩+1))/\w'=w.alloc (.cells ((Lib.splitB ⟨#[c]⟩ 0 (Lib.countB s ⟨#[c]⟩) s).map Value.string).toArray 9):=by
 have h1:1<=(⟨#[c]⟩:ByteArray).size:=by simp[ByteArray.size]
 have hle:=Lib.countB_le ⟨#[c]⟩ h1 s.size s (Nat.le_refl _)
 have hlen:=Lib.splitB_all ⟨#[c]⟩ h1 0 _ s rfl
 have hI:∀(x:ByteArray) (cs:Array Value),x.size<=s.size->Calls Tryz.prog 361 #[.string x,.string ⟨#[c]⟩] (w.alloc (.cells cs 9)) fun e w'=>e= .returned (.int .i64 (Lib.indexB x ⟨#[c]⟩))/\w'=w.alloc (.cells cs 9):=fun x cs _=>by
  refine(Any.strings_Index_one Tryz.lays143 x c _).mono ?_
  rintro e w' ⟨rfl,rfl⟩
  refine⟨?_,rfl⟩
  show _=Ending.returned (Value.int .i64 (Lib.index x.data.toList [c]))
  rw[Lib.index_one]
 have hC:Calls Tryz.prog 360 #[.string s,.string ⟨#[c]⟩] w fun e w'=>e= .returned (.int .i64 (Lib.countB s ⟨#[c]⟩))/\w'=w:=by
  refine(Any.strings_Count_one Tryz.lays138 s c w).mono ?_
  rintro e w' ⟨rfl,rfl⟩
  refine⟨?_,rfl⟩
  show _=Ending.returned (Value.int .i64 ((Lib.count s.data.toList [c]:Nat):Int))
  rw[Lib.count_one]
  rfl
 have k:=Any.strings_genSplit_core Tryz.lays221 (by kernel_rfl) s ⟨#[c]⟩ 0 (-1) (Lib.countB s ⟨#[c]⟩+1) w hs h1 (Nat.zero_le _) hI hC (by decide) (by decide) (by rw[if_pos (by decide)];omega)
 rw[Nat.add_sub_cancel,hlen]at k
 have e2:Lib.cellsOf (Lib.splitB ⟨#[c]⟩ 0 (Lib.countB s ⟨#[c]⟩) s) (Lib.countB s ⟨#[c]⟩+1)=((Lib.splitB ⟨#[c]⟩ 0 (Lib.countB s ⟨#[c]⟩) s).map Value.string).toArray:=by rw[<-hlen];exact Lib.cellsOf_full _
 rw[e2]at k
 exact k
theorem Tryz.split_one (s:ByteArray) (c:UInt8) (w:World) (hs:s.size<4294967281):
 Calls Tryz.prog 180 #[.string s,.string ⟨#[c]⟩] w fun e w'=>
  e= .returned (.slice (some ⟨w.heap.size,0,none⟩) (Lib.countB s ⟨#[c]⟩+1) (Lib.countB s ⟨#[c]⟩+1))/\w'=w.alloc (.cells ((Lib.splitB ⟨#[c]⟩ 0 (Lib.countB s ⟨#[c]⟩) s).map Value.string).toArray 9):=by
 have k:=Tryz.genSplit_one s c w hs
 generalize Lib.countB s ⟨#[c]⟩=n at k⊢
 generalize Lib.splitB ⟨#[c]⟩ 0 n s=l at k⊢
 go_enter Tryz.func180,Tryz.ntmps180
 go_wp2_with (go_at_call 265;refine k.mono ?_;rintro e w' ⟨rfl,hw⟩;rw[hw])
 go_ret
 exact⟨rfl,rfl⟩
end Go.Proofs
namespace AE.Clerk
open Go

def Ft (sep:List Nat):List (List Nat)->List Nat
 |[]=>[]
 |x::r=>x++(r.map (sep++ ·)).flatten
theorem HL (sep x y:List Nat) (r:List (List Nat)):Ft sep (x::y::r)=x++sep++Ft sep (y::r):=by simp[Ft]
structure CJ (c:Nat) (l:List Nat) (ps:List (List Nat)):Prop where
 ne:ps≠[]
 join:Ft [c] ps=l
 free:∀p∈ps,c∉p
theorem CJ.one {c:Nat}{l:List Nat}(h:c∉l):CJ c l [l]:=⟨by simp,by simp[Ft],fun p hp=>by simp at hp;subst hp;exact h⟩
theorem CJ.cons {c:Nat}{p l:List Nat}{ps:List (List Nat)}(h:c∉p) (k:CJ c l ps):CJ c (p++c::l) (p::ps):=by
 refine⟨by simp,?_,fun q hq=>?_⟩
 ·obtain⟨h1,h2, -⟩:=k
  cases ps with
  |nil=>exact absurd rfl h1
  |cons y r=>rw[HL,h2];simp
 ·rcases List.mem_cons.1 hq with rfl|hq
  ·exact h
  ·exact k.free q hq
theorem SI {c:Nat}:∀{p q l m:List Nat},c∉p->c∉q->p++c::l=q++c::m->p=q/\l=m
 |[],[],l,m,_,_,h=>by simp at h;exact⟨rfl,h⟩
 |[],b::q,l,m,_,hq,h=>by simp at h;obtain⟨rfl, -⟩:=h;simp at hq
 |a::p,[],l,m,hp,_,h=>by simp at h;obtain⟨rfl, -⟩:=h;simp at hp
 | a::p,b::q,l,m,hp,hq,h=>by
   simp only[List.cons_append,List.cons.injEq]at h
   obtain⟨rfl,h⟩:=h
   obtain⟨e1,e2⟩:=SI (fun k=>hp (List.mem_cons_of_mem _ k)) (fun k=>hq (List.mem_cons_of_mem _ k)) h
   exact⟨by rw[e1],e2⟩
theorem CJ.uniq {c:Nat}:∀{l:List Nat} {ps qs:List (List Nat)},CJ c l ps->CJ c l qs->ps=qs
 |l,[],qs,h,_=>absurd rfl h.ne
 |l,_,[],_,k=>absurd rfl k.ne
 | l,[p],[q],h,k=>by
   have h1:=h.join;have h2:=k.join
   simp only[Ft,List.map_nil,List.flatten_nil,List.append_nil]at h1 h2
   rw[h1,h2]
 | l,[p],q::q'::r,h,k=>by
   have h1:=h.join;have h2:=k.join
   rw[HL]at h2
   simp only[Ft,List.map_nil,List.flatten_nil,List.append_nil]at h1
   have:=h.free p (by simp)
   rw[h1,<-h2]at this
   simp at this
 | l,p::p'::r,[q],h,k=>by
   have h1:=h.join;have h2:=k.join
   rw[HL]at h1
   simp only[Ft,List.map_nil,List.flatten_nil,List.append_nil]at h2
   have:=k.free q (by simp)
   rw[h2,<-h1]at this
   simp at this
 | l,p::p'::r,q::q'::r',h,k=>by
   have h1:=h.join;have h2:=k.join
   rw[HL,List.append_assoc]at h1 h2
   obtain⟨rfl,e⟩:=SI (h.free p (by simp)) (k.free q (by simp)) (h1.trans h2.symm)
   have:=CJ.uniq (l:=Ft [c] (p'::r)) ⟨by simp,rfl,fun x hx=>h.free x (List.mem_cons_of_mem _ hx)⟩ ⟨by simp,e.symm,fun x hx=>k.free x (List.mem_cons_of_mem _ hx)⟩
   rw[this]
theorem YR {s:ByteArray}{c:UInt8}:c.toNat∈BK s↔c∈s.data.toList:=by
 unfold BK
 rw[List.mem_map]
 constructor
 ·rintro⟨b,hb,e⟩
  rwa [<-UInt8.toNat_inj.1 e]
 ·exact fun h=>⟨c,h,rfl⟩
theorem OT (c:UInt8):∀(k:Nat) (s:ByteArray),Lib.countB s ⟨#[c]⟩=k->CJ c.toNat (BK s) ((Lib.splitB ⟨#[c]⟩ 0 k s).map BK)
 | 0,s,h=>by
   have h:Lib.count s.data.toList [c]=0:=h
   rw[Lib.count_one,List.count_eq_zero]at h
   exact CJ.one (fun hm=>h (YR.1 hm))
 | k +1,s,h=>by
   have h:Lib.count s.data.toList [c]=k+1:=h
   rw[Lib.count_one]at h
   obtain⟨o,ho⟩:∃o:Nat,Lib.indexByte s.data.toList c=o:=by
    rcases Int.lt_or_le (Lib.indexByte s.data.toList c) 0 with hn|hn
    ·have:=Lib.indexByte_ge s.data.toList c
     have hx:=Lib.indexByte_none (show Lib.indexByte s.data.toList c= -1 by omega)
     have:c∈s.data.toList:=by
      rw[<-List.count_pos_iff];omega
     obtain⟨i,hi⟩:=List.mem_iff_getElem?.1 this
     exact absurd hi (hx i)
    ·exact⟨_,(Int.toNat_of_nonneg hn).symm⟩
   obtain⟨h1,h2⟩:=Lib.indexByte_some ho
   have hidx:Lib.indexB s ⟨#[c]⟩=(o:Int):=by
    show Lib.index s.data.toList [c]=_
    rw[Lib.index_one];exact ho
   rw[Lib.splitB_hit _ _ _ _ _ hidx,List.map_cons]
   have hsz:(⟨#[c]⟩:ByteArray).size=1:=rfl
   rw[hsz,Nat.add_zero]
   obtain⟨hol,hoc⟩:=List.getElem?_eq_some_iff.1 h1
   have hsplit:s.data.toList=s.data.toList.take o++c::s.data.toList.drop (o+1):=by
    conv=>lhs;rw[<-List.take_append_drop o s.data.toList,List.drop_eq_getElem_cons hol,hoc]
   have hnot:c∉s.data.toList.take o:=fun hm=>by
    obtain⟨i,hi⟩:=List.mem_iff_getElem?.1 hm
    rw[List.getElem?_take]at hi
    split at hi
    ·exact h2 i (by assumption) hi
    ·simp at hi
   have e1:BK (s.extract 0 o)=(s.data.toList.take o).map (·.toNat):=by
    rw[Ky,List.drop_zero];unfold BK;rw[List.map_take]
   have e2:BK (s.extract (o+1) s.size)=(s.data.toList.drop (o+1)).map (·.toNat):=by
    rw[Ky,List.take_of_length_le (by rw[Kx];exact Nat.le_refl _)];unfold BK;rw[List.map_drop]
   have hrest:Lib.countB (s.extract (o+1) s.size) ⟨#[c]⟩=k:=by
    show Lib.count (s.extract (o+1) s.size).data.toList [c]=k
    have e3:(s.extract (o+1) s.size).data.toList=s.data.toList.drop (o+1):=by
     rw[ByteArray.data_extract,Array.toList_extract,List.extract_eq_drop_take']
     rw[List.take_of_length_le (by rw[Array.length_toList];exact Nat.le_refl _)]
    rw[Lib.count_one,e3]
    rw[hsplit,List.count_append,List.count_cons_self,List.count_eq_zero.2 hnot]at h
    omega
   have ih:=OT c k _ hrest
   have hall:BK s=BK (s.extract 0 o)++c.toNat::BK (s.extract (o+1) s.size):=by
    rw[e1,e2]
    conv=>lhs;unfold BK;rw[hsplit,List.map_append,List.map_cons]
   rw[hall]
   refine CJ.cons ?_ ih
   rw[e1]
   intro hm
   rw[List.mem_map]at hm
   obtain⟨b,hb,e⟩:=hm
   rw[UInt8.toNat_inj.1 e]at hb
   exact hnot hb
end AE.Clerk

/- Clerk: Split and Join as_ calls of the evaluator. -/
namespace AE.Tryz
open Go AE Go.Proofs AE.Clerk Go.RowKit
set_option maxRecDepth 100000
set_option linter.unusedVariables false

theorem Q6 (w:World) (o:Obj):Below w.heap.size w (w.alloc o):=(Below.refl w.heap.size w).alloc (Nat.le_refl _) o
theorem bj {h:H}{s:ByteArray}{c:UInt8}(hs:s.size<=4294967280):AW Tryz.prog 180 h.next h [.string s,.string ⟨#[c]⟩] (fun v h'=>∃ps:List ByteArray,CJ c.toNat (BK s) (ps.map BK)/\v= .slice (some ⟨h.next,0,none⟩) ps.length ps.length/\h'=(h.bump 1).put h.next (.cells (ps.map Value.string) 9)):=by
 have h1:1<=(⟨#[c]⟩:ByteArray).size:=by simp[ByteArray.size]
 have hlen:(Lib.splitB ⟨#[c]⟩ 0 (Lib.countB s ⟨#[c]⟩) s).length=Lib.countB s ⟨#[c]⟩+1:=Lib.splitB_all ⟨#[c]⟩ h1 0 _ s rfl
 have hle:=Lib.countB_le ⟨#[c]⟩ h1 s.size s (Nat.le_refl _)
 have his:=OT c _ s rfl
 refine⟨_,_,⟨Lib.splitB ⟨#[c]⟩ 0 (Lib.countB s ⟨#[c]⟩) s,his,rfl,rfl⟩,AF.R5 (enters_of Tryz.func180 (by kernel_rfl) rfl) (LB _) (Nat.le_refl _) (by rw[hlen];unfold far;omega) (Nat.le_refl _) fun I w k i=>?_⟩
 refine(Tryz.split_one s c w Af).mono ?_
 rintro e w' ⟨rfl,rfl⟩
 rw[hlen]
 exact⟨w.heap.size,Nat.le_refl _,AE.heap_alloc w _,Q6 w _,rfl⟩
theorem Zk (sep:List UInt8):∀xs:List (List UInt8),(Lib.join xs sep).map (·.toNat)=Ft (sep.map (·.toNat)) (xs.map fun x=>x.map (·.toNat))
 |[]=>rfl
 | x::r=>by
   rw[Lib.join_cons]
   simp only[Ft,List.map_cons,List.map_append,Lib.joinTail]
   congr 1
   rw[List.map_flatten,List.map_map,List.map_map]
   congr 1
   refine List.map_congr_left fun y _=>?_
   simp
theorem gq {h:H}{xs:List ByteArray}{sep:ByteArray}{a:Addr}{c n:Nat}(en:n=xs.length) (h2:2<=xs.length) (hN:xs.length<=1000000) (hc:c<far) (hl:h.Az a n=some (xs.map Value.string)) (hlen:(Ft (BK sep) (xs.map BK)).length<=140737488355328):
 AW Tryz.prog 179 h.next h [.slice (some a) n c,.string sep] (fun v h'=>v= .string (bs (Ft (BK sep) (xs.map BK)))/\h'=h):=by
 subst en
 have ej:(Lib.join (xs.map (·.data.toList)) sep.data.toList).map (·.toNat)=Ft (BK sep) (xs.map BK):=by
  rw[Zk,List.map_map]
  rfl
 refine⟨_,h,⟨rfl,rfl⟩,AF.of_below (enters_of Tryz.func179 (by kernel_rfl) rfl) rfl fun I W k i=>?_⟩
 simp only[BH]at i
 obtain⟨bk,o,cp,e,h1,h3,h4⟩:=L5 k hc i.1 hl (LB xs)
 simp only[Ah,e]
 refine(Tryz.strings_Join_many bk o cp xs sep W (fun j z hj=>h4 j _ (by simp[hj])) h3 h2 Af h1 (by rw[<-ej,List.length_map]at hlen;exact hlen)).mono ?_
 rintro e w' ⟨rfl,b⟩
 refine⟨?_,b⟩
 rw[<-ej]
 congr 2
 exact(KX _).symm
end AE.Tryz

/- Clerk, walked: the text of a line. -/
namespace AE.Tryz
open Go AE Go.Proofs AE.Clerk
set_option maxRecDepth 100000
set_option linter.unusedVariables false

theorem cm {h:H}{w:ByteArray}{zs:List Int}{a:Addr}{r o n c:Nat}{cs:List Value}{e:TypeId}(hb:∀z∈zs,0<=z/\z<=9223372036854775807) (ha:a=⟨r,o,none⟩) (hg:h.get r=some (.cells cs e)) (hw:w.size<=1000) (hn:zs.length<=3) (en:n=zs.length) (hc:c<far) (hl:cut cs o n=some (zs.map (Value.int .i64))):
 AW Tryz.prog 138 h.next h [.string w,.slice (some a) n c] (fun v h'=>v= .string (bs (KC (BK w) zs))/\h'=h):=by
 subst ha
 exact Y6 hw hn en hc (by simp only[H.Az,hg,Option.bind_some,Br];exact hl) hb
theorem Wo {x:Ln}{w:ByteArray}(hw:BK w=word x.k):bs (KC (BK w) x.nums)=bs x.text:=by rw[hw];rfl
set_option maxHeartbeats 4000000 in
theorem fe {h:H}{x:Ln}(hv:x.Valid 1099511627776):AW Tryz.prog 71 h.next h [.agg ⟨x.cells⟩] (fun v _=>v= .string (bs x.text)):=by
 have hk:x.k=0\/x.k=1\/x.k=2\/x.k=3\/x.k=4\/x.k=5\/x.k=6\/x.k=7:=by unfold Ln.Valid at hv;omega
 have hb:∀z∈x.nums,0<=z/\z<=9223372036854775807:=fun z hz=>by
  unfold Ln.Valid CP at hv
  unfold Ln.nums at hz
  split at hz<;>(try split at hz)<;>(try split at hz)<;>simp at hz<;>omega
 have ht:∀w:ByteArray,BK w=word x.k->bs (KC (BK w) x.nums)=bs x.text:=fun w hw=>Wo hw
 clear hv
 refine lP.call rfl (Nat.le_refl _) ?_
 obtain⟨k,m,a,b⟩:=x
 unfold a71 Ln.cells
 dsimp only at hk ht⊢
 rcases hk with rfl|rfl|rfl|rfl|rfl|rfl|rfl|rfl
 all_goals(focus((try with_reducible apply wpC.to);(repeat'((conv=>whnf);first|refine Aw ?_|(apply Fork.mk<;>(intro _;try(exfalso;omega)))|((apply Ak);(focus exact Ae);(focus exact AK);(focus(exact Cc));first|((apply AH)<;>(intro Am _ _ _;first|exact Bool.noConfusion Am|replace Am:=of_decide_eq_true Am|replace Am:=of_decide_eq_false Am|skip)<;>((try(unfold CP at Am));first|contradiction|(revert Am;intros)))|((apply AG)<;>intro _ _ _ _<;>try contradiction)|(apply AB;intro _ _ _))|fail));all_goals((conv=>whnf);try with_reducible apply At.mk)))
 all_goals(
  apply Ak
  focus(exact Ae)
  focus(exact AK)
  focus
   apply cm
   focus exact hb
   focus exact rfl
   focus(exact Aa)
   focus decide
   focus exact Nat.le_of_ble_eq_true rfl
   focus exact rfl
   focus(unfold far;decide)
   focus exact rfl
  rintro v h2 ⟨rfl,rfl⟩ q n
  rw[ht _ rfl]
  (refine Ai ?_)
  (refine AA ?_)
  rfl)
end AE.Tryz

/- Clerk, walked: which lines are a book. -/
namespace AE.Tryz
open Go AE Go.Proofs AE.Clerk
set_option maxRecDepth 100000
set_option linter.unusedVariables false

structure Bk where
 n:Nat
 f:Nat->Ln
 b:Option Addr
 a:Addr
 c:Nat
def Bk.val (B:Bk):Value:=.slice B.b B.n B.c
structure Bk.Ok (B:Bk) (m:Nat) (h:H):Prop where
 e:0<B.n->B.b=some B.a
 i:Ro h B.a B.n 4 (fun k=>(B.f k).cells)
 r:0<B.n->B.a.block<m
 l:B.n<=9223372036854775807
 g:0<B.n->eE B.a B.n B.c
theorem Bk.Ok.same {T:Bk}{m m':Nat}{h h':H}(k:T.Ok m h) (s:Same m h h') (hm:m<=m'):T.Ok m' h':=
 ⟨k.e,k.i.same s k.r,fun h=>by have:=k.r h;omega,k.l,k.g⟩
def Tm (n:Nat) (f:Nat->Ln):Prop:=∀i,i<n->(f i).Valid 1099511627776
instance (n:Nat) (f:Nat->Ln):Decidable (Tm n f):=by unfold Tm;infer_instance
def EX (n:Nat) (f:Nat->Ln):Int:=if 60<n then 6 else if Tm n f then 0 else 2
theorem ES {G:Prop}(g:G:=by(exact Yx)):G:=g
theorem D8 {G:Prop}(g:G:=by(exact U4)):G:=g
theorem ZX {h:H}{x:Ln}:AW Tryz.prog 130 h.next h [.agg ⟨x.cells⟩] (fun v _=>v= .bool (decide (¬x.Valid 1099511627776))):=by
 refine iL.call rfl (Nat.le_refl _) ?_
 unfold a130 Ln.cells
 by_cases hv:x.Valid 1099511627776
 ·(focus((try with_reducible apply wpC.to);(repeat'((conv=>whnf);first|refine Aw ?_|((apply Ak);(focus exact Ae);(focus exact AK);(focus(exact D8));first|((apply AH)<;>(intro Am _ _ _;first|exact Bool.noConfusion Am|replace Am:=of_decide_eq_true Am|replace Am:=of_decide_eq_false Am|skip)<;>((try(unfold CP at Am));first|contradiction|(revert Am;intros)))|((apply AG)<;>intro _ _ _ _<;>try contradiction)|(apply AB;intro _ _ _))|fail));all_goals((conv=>whnf);try with_reducible apply At.mk)))
  (refine AA ?_);exact GQ rfl (by simpa using hv)
 ·(focus((try with_reducible apply wpC.to);(repeat'((conv=>whnf);first|refine Aw ?_|((apply Ak);(focus exact Ae);(focus exact AK);(focus(exact D8));first|((apply AH)<;>(intro Am _ _ _;first|exact Bool.noConfusion Am|replace Am:=of_decide_eq_true Am|replace Am:=of_decide_eq_false Am|skip)<;>((try(unfold CP at Am));first|contradiction|(revert Am;intros)))|((apply AG)<;>intro _ _ _ _<;>try contradiction)|(apply AB;intro _ _ _))|fail));all_goals((conv=>whnf);try with_reducible apply At.mk)))
  (refine AA ?_);exact HP rfl hv
theorem Ch {G:Prop}(g:G:=by(exact ZX)):G:=g
theorem cD {h:H}{B:Bk}{m:Nat}(hm:m<=h.next) (hB:B.Ok m h):AW Tryz.prog 194 h.next h [.slice B.b B.n B.c,jJ 130] (fun v _=>∃z:Int,v= .int .i64 z/\ -1<=z/\(0<=z↔¬Tm B.n B.f)):=by
 obtain⟨e1,i1,r1,l1, -⟩:=hB
 refine iA.call rfl (Nat.le_refl _) ?_
 unfold a194 jJ
 (refine Ai ?_)
 refine wp_loop (fun k:Nat=>[(0,.slice B.b B.n B.c),(1,jJ 130),(7,.int .i64 B.n),(8,.int .i64 k)]) (fun k h1=>Same h.next h h1/\h.next<=h1.next/\k<=B.n/\Tm k B.f) (fun k=>B.n - k) 0 ⟨rfl,rfl,rfl,rfl,trivial⟩ ⟨AO,Ag,by omega,fun i hi=>by omega⟩ ?_
 rintro k g h1 ⟨s1,hn1,hk,hall⟩ K hK
 unfold jJ
 by_cases hlt:k<B.n
 ·by_cases hv:(B.f k).Valid 1099511627776
  ·(focus((try with_reducible apply wpC.to);(repeat'((conv=>whnf);first|refine Aw ?_|(apply Fork.mk<;>(intro _;try(exfalso;omega)))|((apply Ak);(focus exact Ae);(focus exact AK);(focus(first|exact Ch|exact Ci));first|((apply AH)<;>(intro Am _ _ _;first|exact Bool.noConfusion Am|replace Am:=of_decide_eq_true Am|replace Am:=of_decide_eq_false Am|skip)<;>((try(unfold CP at Am));first|contradiction|(revert Am;intros)))|((apply AG)<;>intro _ _ _ _<;>try contradiction)|(apply AB;intro _ _ _))|fail));all_goals((conv=>whnf);try with_reducible apply At.mk)))
   exact hK (k+1) _ _ ⟨rfl,rfl,rfl,BQ rfl Af,trivial⟩ ⟨AO,Ag,by omega,fun i hi=>by
    by_cases e:i=k
    ·subst e;exact hv
    ·exact hall i Af⟩ Af
  ·(focus((try with_reducible apply wpC.to);(repeat'((conv=>whnf);first|refine Aw ?_|(apply Fork.mk<;>(intro _;try(exfalso;omega)))|((apply Ak);(focus exact Ae);(focus exact AK);(focus(first|exact Ch|exact Ci));first|((apply AH)<;>(intro Am _ _ _;first|exact Bool.noConfusion Am|replace Am:=of_decide_eq_true Am|replace Am:=of_decide_eq_false Am|skip)<;>((try(unfold CP at Am));first|contradiction|(revert Am;intros)))|((apply AG)<;>intro _ _ _ _<;>try contradiction)|(apply AB;intro _ _ _))|fail));all_goals((conv=>whnf);try with_reducible apply At.mk)))
   (refine AA ?_)
   exact⟨_,rfl,by omega,⟨fun _ h=>hv (h k hlt),fun _=>by omega⟩⟩
 ·obtain rfl:k=B.n:=by omega
  clear hK
  (refine Ai ?_)
  (refine AA ?_)
  exact⟨_,rfl,by omega,⟨fun h=>by omega,fun h=>absurd hall h⟩⟩
end AE.Tryz

/- Clerk, walked: CheckBook. -/
namespace AE.Tryz
open Go AE Go.Proofs AE.Clerk
set_option maxRecDepth 100000
set_option linter.unusedVariables false

theorem UE {h:H}{B:Bk}{m:Nat}(hm:m<=h.next) (hB:B.Ok m h):AW Tryz.prog 129 h.next h [.slice B.b B.n B.c,jJ 130] (fun v _=>v= .bool (decide (¬Tm B.n B.f))):=by
 refine iM.call rfl (Nat.le_refl _) ?_
 unfold nj
 (refine Ai ?_)
 apply Ak
 focus(exact Ae)
 focus(exact AK)
 focus exact cD (m:=m) Ag (hB.same (m':=m) AO (Nat.le_refl _))
 rintro v h2 ⟨z,rfl,h1,h3⟩ q n
 by_cases hz:0<=z
 ·(refine Ai ?_)
  (refine AA ?_);exact HP rfl (h3.1 hz)
 ·(refine Ai ?_)
  (refine AA ?_);exact GQ rfl (fun h=>hz (h3.2 h))
theorem S3 {h:H}{B:Bk}{m:Nat}(hm:m<=h.next) (hB:B.Ok m h):AW Tryz.prog 62 h.next h [.slice B.b B.n B.c] (fun v _=>v= .int .i64 (EX B.n B.f)):=by
 refine lT.call rfl (Nat.le_refl _) ?_
 unfold a62 EX
 have l1:=hB.l
 by_cases hn:60<B.n
 ·(refine Ai ?_)
  (refine AA ?_);rw[if_pos hn]
 rw[if_neg hn]
 (refine Ai ?_)
 apply Eo
 focus(exact Ae)
 focus(exact AK)
 focus exact UE (m:=m) Ag (hB.same (m':=m) AO (Nat.le_refl _))
 intro h2 q n
 by_cases ha:Tm B.n B.f
 ·rw[decide_eq_false (fun h=>h ha)]
  (refine Ai ?_)
  (refine AA ?_);rw[if_pos ha]
 ·rw[decide_eq_true ha]
  (refine Ai ?_)
  (refine AA ?_);rw[if_neg ha]
def Good (n:Nat) (f:Nat->Ln):Prop:=n<=60/\Tm n f
instance (n:Nat) (f:Nat->Ln):Decidable (Good n f):=by unfold Good;infer_instance
theorem J5 {n:Nat}{f:Nat->Ln}:EX n f=0↔Good n f:=by
 unfold EX Good
 split
 ·constructor<;>intro h<;>omega
 ·split
  ·rename_i h1 h2;exact⟨fun _=>⟨by omega,h2⟩,fun _=>rfl⟩
  ·rename_i h1 h2;exact⟨fun h=>by omega,fun h=>absurd h.2 h2⟩
end AE.Tryz

/- Clerk, walked: the text of a line by the definitions; Text. -/
namespace AE
open Go
section
variable {P:Program}{ts:Ts}{o:Oper}{lo Av:Nat}{h:H}{k:Value->H->Prop}
theorem Y5 (l:List UInt8):(⟨⟨l⟩⟩:ByteArray)=bs (l.map (·.toNat)):=by simp[bs,Function.comp_def]
theorem fG {t c:TypeId}{x y:Operand}{a b:ByteArray}{la lb:List Nat}(ho:o.op= .binOp .add t x y c) (hx:Ii ts x= .string a) (hy:Ii ts y= .string b) (ea:a=bs la) (eb:b=bs lb) (hl:la.length+lb.length<=9223372036854775807) (hk:k (.string (bs (la++lb))) h):Dj P lo Av ts h (.pure o) k:=by
 subst ea eb
 refine Dj.pure _ (V9 ho hx hy (by rw[UL,UL];exact hl)) ?_
 rw[<-XE];exact hk
end
end AE
namespace AE.Tryz
open Go AE Go.Proofs AE.Clerk
set_option maxRecDepth 100000
set_option linter.unusedVariables false

theorem UB (n:Nat):(dec n).length<=n+1:=by
 induction n using Nat.strongRecOn with
 | ind n ih=>
   rcases Nat.lt_or_ge n 10 with h|h
   ·rw[dec_lt h];simp
   ·rw[QW h]
    have:=ih (n / 10) Af
    simp only[List.length_append,List.length_cons,List.length_nil]
    omega
theorem SJ {h:H}{n:Int}(h0:0<=n) (h1:n<=9223372036854775807):AW Tryz.prog 206 h.next h [.int .i64 n,.int .i64 10] (fun v _=>v= .string (bs (dec n.toNat))):=by
 obtain⟨v,h',⟨e, -⟩,a⟩:=Me (h:=h) h0 h1
 exact⟨v,h',e,a⟩
theorem Es {G:Prop}(g:G:=by(exact SJ Af Af)):G:=g
theorem Em {G G':Prop}(g:G') (t:G'->G:=by(((with_reducible apply fG);(focus exact rfl);(focus exact rfl);(focus exact rfl);(focus first|exact rfl|exact Y5 _);(focus first|exact rfl|exact Y5 _);(focus((try simp only[List.length_append,List.length_map,List.length_cons,List.length_nil,UL]);omega))))):G:=t g
theorem ZP {h:H}{n:Int}(h0:0<=n) (h1:n<=1099511627776):AW Tryz.prog 140 h.next h [.int .i64 n] (fun v _=>v= .string (bs (sep n))):=by
 have:=UB n.toNat
 refine iH.call rfl (Nat.le_refl _) ?_
 unfold m9
 (focus((try with_reducible apply wpC.to);(repeat'((conv=>whnf);first|refine Aw ?_|((apply Ak);(focus exact Ae);(focus exact AK);(focus(exact Es));first|((apply AH)<;>(intro Am _ _ _;first|exact Bool.noConfusion Am|replace Am:=of_decide_eq_true Am|replace Am:=of_decide_eq_false Am|skip)<;>((try(unfold CP at Am));first|contradiction|(revert Am;intros)))|((apply AG)<;>intro _ _ _ _<;>try contradiction)|(apply AB;intro _ _ _))|refine Em ?_|((apply E8);(focus exact rfl);(focus exact rfl);(focus exact rfl);(focus exact rfl);(all_goals(intro hb;first|(replace hb:=of_decide_eq_true hb)|(replace hb:=of_decide_eq_false hb)));(all_goals(try(exfalso;omega;done)));(all_goals(revert hb;intros)))|refine Dq ?_|((apply D7);(focus exact rfl);(focus exact rfl);(focus exact rfl);(focus exact rfl);(all_goals(intro hb;first|(replace hb:=of_decide_eq_true hb)|(replace hb:=of_decide_eq_false hb)));(all_goals(try contradiction));(all_goals(revert hb;intros)))|refine Dr ?_|refine Dt ?_|fail));all_goals((conv=>whnf);try with_reducible apply At.mk)))
 (refine AA ?_)
 rfl
theorem ER {G:Prop}(g:G:=by(exact ZP Af Af)):G:=g
end AE.Tryz

/- Clerk, walked: Text; the seal of a book. -/
namespace AE.Tryz
open Go AE Go.Proofs AE.Clerk
set_option maxRecDepth 100000
set_option linter.unusedVariables false

structure Part (m:Nat) (h:H) (f:Nat->Ln) (a0 n:Nat) (b:Option Addr) (a:Addr) (c:Nat):Prop where
 e:0<n->b=some a
 i:Ro h a n 4 (fun k=>(f (a0+k)).cells)
 r:0<n->a.block<m
 g:0<n->eE a n c
 l:n<=60
 v:∀i,i<n->(f (a0+i)).Valid 1099511627776
theorem Part.same {m m':Nat}{h h':H}{f:Nat->Ln}{a0 n:Nat}{b:Option Addr}{a:Addr}{c:Nat}(k:Part m h f a0 n b a c) (s:Same m h h') (hm:m<=m'):Part m' h' f a0 n b a c:=
 ⟨k.e,k.i.same s k.r,fun h=>by have:=k.r h;omega,k.g,k.l,k.v⟩
theorem Part.sub {m:Nat}{h:H}{f:Nat->Ln}{a0 n:Nat}{b:Option Addr}{a:Addr}{c:Nat}(k:Part m h f a0 n b a c) {i n' c':Nat}(hi:i+n'<=n) (hg:0<n'->eE (BB a (i*4)) n' c'):Part m h f (a0+i) n' (some (BB a (i*4))) (BB a (i*4)) c':=by
 refine⟨fun _=>rfl,fun j hj=>?_,fun hp=>k.r Af,hg,by have:=k.l;omega,fun j hj=>?_⟩
 ·have:=k.i (i+j) Af
  have ea:BB (BB a (i*4)) (j*4)=BB a ((i+j) *4):=by simp only[BB];congr 1;omega
  rw[ea]
  show _=some (f (a0+i+j)).cells
  rw[Nat.add_assoc]
  exact this
 ·have:=k.v (i+j) Af
  rwa [Nat.add_assoc]
theorem Part.to {m:Nat}{h:H}{f:Nat->Ln}{a0 n:Nat}{b:Option Addr}{a:Addr}{c:Nat}(k:Part m h f a0 n b a c) {n' c':Nat}(hi:n'<=n) (hg:0<n'->eE a n' c'):Part m h f a0 n' (some a) a c':=
 ⟨fun _=>rfl,fun j hj=>k.i j Af,fun hp=>k.r Af,hg,by have:=k.l;omega,fun j hj=>k.v j Af⟩
end AE.Tryz

/- Clerk, walked: the seal of a book by the definitions; Root. -/
namespace AE.Tryz
open Go AE Go.Proofs AE.Clerk
set_option maxRecDepth 100000
set_option linter.unusedVariables false

theorem Bk.Ok.part {B:Bk}{m:Nat}{h:H}(k:B.Ok m h) (g:Good B.n B.f):Part m h B.f 0 B.n B.b B.a B.c:=
 ⟨k.e,fun i hi=>by
  show _=some (B.f (0+i)).cells
  rw[Nat.zero_add];exact k.i i hi,k.r,k.g,g.1,fun i hi=>by rw[Nat.zero_add];exact g.2 i hi⟩
end AE.Tryz

/- Clerk, walked: the parts beside a line, yielded. -/
namespace AE.Tryz
open Go AE Go.Proofs AE.Clerk
set_option maxRecDepth 100000
set_option linter.unusedVariables false

def ky (p:Nat × Nat × Bool):List Value:=[.int .i64 p.1,.int .i64 ((p.1+p.2.1:Nat):Int),.bool p.2.2]
abbrev P3:=Nat × Nat × Bool
end AE.Tryz

/- Clerk, walked: beside. -/
namespace AE.Tryz
open Go AE Go.Proofs AE.Clerk
set_option maxRecDepth 100000
set_option linter.unusedVariables false

end AE.Tryz

/- Clerk, walked: Receipt. -/
namespace AE.Tryz
open Go AE Go.Proofs AE.Clerk
set_option maxRecDepth 100000
set_option linter.unusedVariables false

structure XP (m:Nat) (h:H) (l:List Int) (b:Option Addr) (a:Addr) (c:Nat):Prop where
 e:0<l.length->b=some a
 i:Ints h a l.length (fun k=>l.getD k 0)
 r:0<l.length->a.block<m
theorem XP.same {m m':Nat}{h h':H}{l:List Int}{b:Option Addr}{a:Addr}{c:Nat}(k:XP m h l b a c) (s:Same m h h') (hm:m<=m'):XP m' h' l b a c:=
 ⟨k.e,k.i.same s k.r,fun h=>by have:=k.r h;omega⟩
def fA (f:Nat->Ln) (l:List P3):List Value:=l.map fun p=>.int .i64 (root f p.1 p.2.1)
structure jA (B:Bk) (j m:Nat) (h:H) (n2:Nat) (h3:H) (L0:DN) (r1:Nat) (l:List P3) (h1:H):Prop where
 x2:h1.get h.next=some (.cells [.slice B.b B.n B.c] 38)
 x4:h1.get (h.next+1)=some (.cells [.int .i64 0,.int .i64 0,.slice none 0 0] 91)
 x7:∃r,GX r h1 2 1 l.length (fA B.f l)/\h1.get (n2+14)=some (.cells [.int .i64 j,.int .i64 B.n,.slice (FF r l.length) l.length 0] 91)/\(0<l.length->h3.next+3<=r/\r<h1.next)
 sm:Same m h h1
 e1:h1.get r1=h3.get r1
 lp:h1.get h3.next=some (.loop L0)
 nx:h3.next<h1.next
 lt:h.next+1<h1.next/\n2+14<h1.next/\r1<h1.next/\m<=h1.next
theorem jA.quiet {B:Bk}{j m:Nat}{h:H}{n2:Nat}{h3:H}{L0:DN}{r1:Nat}{l:List P3}{h1 h4:H}(k:jA B j m h n2 h3 L0 r1 l h1) (q:Quiet h1.next h1 h4):jA B j m h n2 h3 L0 r1 l h4:=by
 obtain⟨x2,x4,⟨r,g,x7,b⟩,sm,e1,lp,nx,lt⟩:=k
 have hn:=q.next
 exact⟨(q.same _ Af).trans x2,(q.same _ Af).trans x4,⟨r,g.frame fun h0=>q.same _ (by have:=b h0;omega),(q.same _ Af).trans x7,fun h0=>by have:=b h0;omega⟩,fun r hr=>(q.same _ Af).trans (sm r hr),(q.same _ Af).trans e1,(q.same _ nx).trans lp,by omega,by omega⟩
end AE.Tryz
