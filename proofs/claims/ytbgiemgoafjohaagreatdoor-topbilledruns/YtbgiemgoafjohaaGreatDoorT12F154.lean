/- run.CheckTable at the table of the chapter's day: what it answers, whatever the order. -/
import Derived.Test.YtbgiemgoafjohaaGreatDoorT12E154
import Derived.Test.YtbgiemgoafjohaaGreatDoorAEthree
set_option linter.unusedVariables false
set_option linter.unusedSimpArgs false
set_option linter.unusedSectionVars false
namespace AE.Tryz
open Go AE Go.Proofs
set_option maxRecDepth 100000
set_option linter.unusedVariables false
theorem X5 {P:Program}{lo r:Nat}{ts:Ts}{h:H}{x:AP}{Q:Exit->Ts->H->Prop}{a b mr since c0 clock:Nat}{seen:List Nat}{es:List MapEntry}(e1:ev ts x= .pointer (some ⟨r,0,none⟩)) (hlo:lo<=r) (hrm:r≠mr) (hg:h.get r=some (.iter mr since seen c0)) (hgm:h.get mr=some (.map es clock)) (hold:∀e∈es,e.born<since) (hsc:since<=c0)
 (h0:(∀e∈es,e.born∈seen)->Q .normal (Mr (Mr ts a (.tuple ⟨[.bool false]⟩)) b (.bool false)) h)
 (h1:∀e∈es,e.born∉seen->Q .normal (Mr (Mr ts a (.tuple ⟨[.bool true,e.key,e.val]⟩)) b (.bool true)) (h.put r (.iter mr since (seen++[e.born]) clock))):DV P lo (.next x a b) Q ts h:=by
 refine⟨r,mr,since,seen,c0,es,clock,e1,hlo,hrm,hg,hgm,hold,hsc,fun hz=>?_,fun e he hn=>?_⟩
 ·have:=h0 hz
  rw[FI,FI]at this
  exact this
 ·have:=h1 e he hn
  rw[FI,FI]at this
  exact this
structure eO (ts:Ts) (h:H):Prop where
 t:Holds ts [(6,.pointer (some ⟨15150,0,none⟩)),(9,.map (some 17098)),(12,.int .i64 0),(13,.pointer (some ⟨17538,0,none⟩)),(14,.pointer (some ⟨17541,0,none⟩))]
 n:h.next=17543
 g:∀r x,(r,x)∈Ol->h.get r=some x
theorem KU {tk:Dk}{i:Nat}{v:Value}(h:JX (tk.get i) v=true):DR tk i=v:=by
 unfold JX at h
 unfold DR
 cases e:tk.get i with
 |none=>rw[e]at h;cases h
 |some w=>rw[e]at h;exact(AE.Memo.EK 8 h).1
theorem jl {tk:Dk}{kh:KH}{e:Exit}(h:ax e tk kh=true):e= .normal/\eO (DR tk) kh.abs:=by
 unfold ax at h
 split at h
 ·simp only[Bool.and_eq_true]at h
  obtain⟨⟨⟨⟨⟨⟨h1,h2⟩,h3⟩,h4⟩,h5⟩,h6⟩,h7⟩:=h
  refine⟨rfl,⟨KU h1,KU h2,KU h3,KU h4,KU h5,trivial⟩,Nat.eq_of_beq_eq_true h6,fun r x hm=>?_⟩
  obtain⟨-,q, -⟩:=AE.Memo.Gt h7 r x hm
  simp only[KH.abs,q]
  rfl
 ·cases h
theorem P1:AE.KerT.TabOk Tryz.prog kt:=AE.KerP.Lh rfl Jk AE.KerP.E9
theorem P4:AE.KerD.TabDOk Tryz.prog Ow:=AE.KerP.Jd rfl Jk
theorem H5 {x:Nat × Nat × Nat}{z:Int}(hx:x∈Ba) (hi:isIn x=true) (hz:(x.2.2:Int)=z) {h:H}(hn:17543<=h.next) (hg:∀r y,(r,y)∈Gu->h.get r=some y):AW Tryz.prog 428 h.next h [.pointer (some ⟨15150,0,none⟩),.map (some 17098),.agg ⟨[.int .i64 x.1,.int .i64 x.2.1]⟩] (fun v h'=>v= .int .i64 z/\h'=h):=by
 subst hz
 have hr:=List.all_eq_true.1 cP x (List.mem_filter.2 ⟨hx,hi⟩)
 refine(Lx x).aw rfl P1 P4 hr ?_ ?_ hn hg h.next
 ·show AE.Memo.Ir 17543 Gu=true
  kernel_rfl
 ·have:AE.Memo.DL (AE.Memo.Mp 17543 8) (Lx x).args (Lx x).args=true:=by
   have key:Ba.all (fun x=>AE.Memo.DL (AE.Memo.Mp 17543 8) (Lx x).args (Lx x).args)=true:=by kernel_rfl
   exact List.all_eq_true.1 key x hx
  exact this
theorem L8 {n:Nat}{z:Int}(hn:n<8) (hz:(fI n:Int)=z) {h:H}:AW Tryz.prog 429 h.next h [.int .u64 n] (fun v h'=>v= .int .i64 z/\h'=h):=by
 subst hz
 have hr:=List.all_eq_true.1 bN n (List.mem_range.2 hn)
 refine(Qs n).aw rfl P1 P4 hr rfl ?_ (Nat.zero_le _) (fun r y hm=>nomatch hm) h.next
 have key:(List.range 8).all (fun n=>AE.Memo.DL (AE.Memo.Mp 0 8) (Qs n).args (Qs n).args)=true:=by kernel_rfl
 exact List.all_eq_true.1 key n (List.mem_range.2 hn)
theorem N3:∀{l:List (Nat × Nat × Nat)}{k:Nat}{e:MapEntry},e∈Bo k l->∃i x,l[i]? =some x/\e=Uz (k+i) x
 |[],_,_,h=>nomatch h
 | x::l,k,e,h=>by
   rcases List.mem_cons.1 h with rfl|h
   ·exact⟨0,x,rfl,rfl⟩
   ·obtain⟨i,y,h1,h2⟩:=N3 h
    exact⟨i+1,y,by simpa using h1,by rw[h2];congr 1;omega⟩

section
variable {P:Program}{lo Av r mr c b since:Nat}{ts:Ts}{h:H}{m x:AP}{es:List MapEntry}{e:MapEntry}{seen:List Nat}
theorem bX (hm:ev ts m= .map (some r)) (hg:h.get r=some (.map es c)):BZ P lo Av ts h (.EN m)=some (.pointer (some ⟨Av,0,none⟩),h.put Av (.iter r c [] c)):=by
 simp only[BZ,hm,Ht,hg]
theorem CH (hx:ev ts x= .pointer (some ⟨r,0,none⟩)) (hg:h.get r=some (.iter mr since (seen++[b]) c)) (hgm:h.get mr=some (.map es c)) (hf:es.find? (fun y=>y.born==b)=some e):
 BZ P lo Av ts h (.entry x)=some (.tuple ⟨[e.key,e.val]⟩,h):=by
 simp only[BZ,hx,MW,hg,Option.bind_some,VN,List.getLast?_append,List.getLast?_singleton,Option.some_or,hgm,if_true,VL,hf,Option.map_some,keep]
end
def M5 (x:Nat × Nat × Nat):Nat:=if isIn x=true/\x.2.2<1048576 then fI x.1 else 0
def MF (seen:List Nat):Nat:=((List.range 24).filter fun i=>decide (i∉seen)).length
theorem B9 {seen:List Nat}{i:Nat}(hi:i<24) (hn:i∉seen):MF (seen++[i])<MF seen:=by
 unfold MF
 have key:∀l:List Nat,i∈l->(l.filter fun j=>decide (j∉seen++[i])).length<(l.filter fun j=>decide (j∉seen)).length:=fun l=>by
  have le:∀l:List Nat,(l.filter fun j=>decide (j∉seen++[i])).length<=(l.filter fun j=>decide (j∉seen)).length:=fun l=>by
   induction l with
   |nil=>simp
   | cons a l ih=>
     rw[List.filter_cons,List.filter_cons]
     by_cases ha:a∉seen++[i]
     ·have hb:a∉seen:=fun h=>ha (by simp[h])
      rw[if_pos (by simpa using ha),if_pos (by simpa using hb)]
      simp only[List.length_cons];omega
     ·rw[if_neg (by simpa using ha)]
      split
      ·simp only[List.length_cons];omega
      ·exact ih
  induction l with
  |nil=>intro h;cases h
  | cons a l ih=>
    intro h
    rw[List.filter_cons,List.filter_cons]
    by_cases e:a=i
    ·subst e
     rw[if_neg (by simp),if_pos (by simpa using hn)]
     have:=le l
     simp only[List.length_cons];omega
    ·have hl:i∈l:=by
      rcases List.mem_cons.1 h with h|h
      ·exact absurd h.symm e
      ·exact h
     have ih:=ih hl
     by_cases ha:a∉seen
     ·have hb:a∉seen++[i]:=by simp[ha,e]
      rw[if_pos (by simpa using hb),if_pos (by simpa using ha)]
      simp only[List.length_cons];omega
     ·have hb:¬a∉seen++[i]:=fun h=>ha fun h'=>h (by simp[h'])
      rw[if_neg (by simpa using hb),if_neg (by simpa using ha)]
      exact ih
 exact key _ (List.mem_range.2 hi)
theorem DK {seen:List Nat}{most YQ i:Nat}{x:Nat × Nat × Nat}{v:Nat}(hall:∀j y,Ba[j]? =some y->j∈seen->M5 y<=most) (hx:Ba[i]? =some x) (hv:M5 x=v) (h1:most<=YQ) (h2:v<=YQ) {j:Nat}{y:Nat × Nat × Nat}(hy:Ba[j]? =some y) (hj:j∈seen++[i]):M5 y<=YQ:=by
 rcases List.mem_append.1 hj with hj|hj
 ·exact Nat.le_trans (hall j y hy hj) h1
 ·obtain rfl:=List.mem_singleton.1 hj
  rw[hx]at hy
  cases hy
  omega
set_option maxHeartbeats 8000000 in
theorem fB {ts:Ts}{h:H}(k:eO ts h):DV Tryz.prog 14370 bD (fun e ts h'=>(e= .normal\/e= .ret)/\∃v,E1 Tryz.prog h' ts jN=some v/\v= .tuple ⟨[.int .i64 3,.int .i64 0]⟩) ts h:=by
 obtain⟨kt,kn,kg⟩:=k
 have gm:h.get 17098=some YT:=kg _ _ (by simp[Ol,Gu])
 have ga:h.get 17538=some (.cells [.int .i64 0,.int .i64 0] 601):=kg _ _ (by simp[Ol])
 have gb:h.get 17541=some (.cells [.int .i64 0,.int .i64 0] 601):=kg _ _ (by simp[Ol])
 refine E6 kt fun g=>?_
 unfold bD
 have XQ:∀r y,(r,y)∈Gu->r<h.next:=fun r y hm=>by
  simp only[Gu,List.mem_cons,Prod.mk.injEq,List.not_mem_nil,or_false]at hm
  rcases hm with⟨rfl, -⟩|⟨rfl, -⟩|⟨rfl, -⟩<;>omega
 have kr:∀r y,(r,y)∈Gu->h.get r=some y:=fun r y hm=>kg r y (List.mem_append.2 (.inl hm))
 (focus((try with_reducible apply wpC.to);(repeat'((conv=>whnf);first|refine Aw ?_|(apply Fork.mk<;>(intro _;try(exfalso;omega)))|fail));all_goals((conv=>whnf);try with_reducible apply At.mk)))
 refine Dj.mk (bX (r:=17098) (es:=Bo 0 Ba) (c:=24) rfl Aa) ?_
 (focus((try with_reducible apply wpC.to);(repeat'((conv=>whnf);first|refine Aw ?_|(apply Fork.mk<;>(intro _;try(exfalso;omega)))|fail));all_goals((conv=>whnf);try with_reducible apply At.mk)))
 refine wp_loop (fun x:List Nat × Nat=>[(6,.pointer (some ⟨15150,0,none⟩)),(9,.map (some 17098)),(12,.int .i64 x.2),(13,.pointer (some ⟨17538,0,none⟩)),(14,.pointer (some ⟨17541,0,none⟩)),(67,.pointer (some ⟨h.next+1,0,none⟩))])
  (fun x h2=>(∀r,r<h.next->h2.get r=h.get r)/\h2.get (h.next+1)=some (.iter 17098 24 x.1 24)/\h.next+2<=h2.next/\x.2<=3/\∀i y,Ba[i]? =some y->i∈x.1->M5 y<=x.2) (fun x=>MF x.1) ([],0)
  ⟨rfl,rfl,rfl,rfl,rfl,rfl,trivial⟩ ⟨fun r hr=>Ac fun y hy=>Aa,Aa,Ag,by simp,fun i y _ hi=>absurd hi (by simp)⟩ ?_
 rintro⟨seen,most⟩ g2 h2 ⟨s2,gi,hn2,NU,hall⟩ K hK
 dsimp only at gi NU hall
 dsimp only
 have wB:=(s2 17098 Af).trans gm
 have wE:=(s2 17538 Af).trans ga
 have wD:=(s2 17541 Af).trans gb
 (focus((try with_reducible apply wpC.to);(repeat'((conv=>whnf);first|refine Aw ?_|(apply Fork.mk<;>(intro _;try(exfalso;omega)))|fail));all_goals((conv=>whnf);try with_reducible apply At.mk)))
 refine X5 (r:=h.next+1) (mr:=17098) (es:=Bo 0 Ba) (clock:=24) rfl Af Af Aa Aa (fun e he=>?_) (Nat.le_refl _) (fun hz=>?_) (fun e he hns=>?_)
 ·obtain⟨i,x,h1,rfl⟩:=N3 he
  have:=(List.getElem?_eq_some_iff.1 h1).1
  show 0+i<24
  simp only[Ba,List.length_cons,List.length_nil]at this
  omega
 ·have h3:most=3:=by
   have h21:(Bo 0 Ba)[21]? =some (Uz 21 (7,0,42)):=rfl
   have:=hall 21 (7,0,42) rfl (hz _ (List.mem_of_getElem? h21))
   have e:M5 (7,0,42)=3:=rfl
   omega
  subst h3
  (focus((try with_reducible apply wpC.to);(repeat'((conv=>whnf);first|refine Aw ?_|(apply Fork.mk<;>(intro _;try(exfalso;omega)))|fail));all_goals((conv=>whnf);try with_reducible apply At.mk)))
  refine Dj.pure (.bool false) (by kernel_rfl) ?_
  (focus((try with_reducible apply wpC.to);(repeat'((conv=>whnf);first|refine Aw ?_|(apply Fork.mk<;>(intro _;try(exfalso;omega)))|fail));all_goals((conv=>whnf);try with_reducible apply At.mk)))
  (refine AA ?_)
  rfl
 ·obtain⟨i,x,h1,rfl⟩:=N3 he
  have hi:i<24:=by
   have:=(List.getElem?_eq_some_iff.1 h1).1
   simp only[Ba,List.length_cons,List.length_nil]at this
   omega
  rw[show 0+i=i by omega]at hns⊢
  have hns:i∉seen:=hns
  have hcase:i=0\/i=1\/i=2\/i=3\/i=4\/i=5\/i=6\/i=7\/i=8\/i=9\/i=10\/i=11\/i=12\/i=13\/i=14\/i=15\/i=16\/i=17\/i=18\/i=19\/i=20\/i=21\/i=22\/i=23:=by omega
  rcases hcase with rfl|rfl|rfl|rfl|rfl|rfl|rfl|rfl|rfl|rfl|rfl|rfl|rfl|rfl|rfl|rfl|rfl|rfl|rfl|rfl|rfl|rfl|rfl|rfl
  ·cases h1
   (focus((try with_reducible apply wpC.to);(repeat'((conv=>whnf);first|refine Aw ?_|(apply Fork.mk<;>(intro _;try(exfalso;omega)))|fail));all_goals((conv=>whnf);try with_reducible apply At.mk)))
   refine Dj.mk (CH (r:=h.next+1) (mr:=17098) (es:=Bo 0 Ba) (b:=0) (e:=⟨.agg ⟨[.int .i64 0,.int .i64 0]⟩,.int .i64 1048576,0⟩) (c:=24) (since:=24) (seen:=seen) rfl Aa Aa rfl) ?_
   (focus((try with_reducible apply wpC.to);(repeat'((conv=>whnf);first|refine Aw ?_|(apply Fork.mk<;>(intro _;try(exfalso;omega)))|fail));all_goals((conv=>whnf);try with_reducible apply At.mk)))
   any_goals(exfalso;have a:IntKind.i64.wrap _=(1:Int):=(by assumption);exact absurd a (of_decide_eq_false (by kernel_rfl)))
   exact hK (seen++[0],most) _ _ ⟨rfl,rfl,rfl,rfl,rfl,rfl,trivial⟩ ⟨fun r hr=>(Ac fun y hy=>Aa).trans (s2 r hr),Aa,Ag,NU,fun j y hy hj=>DK hall (i:=0) (x:=(0,0,1048576)) (v:=0) rfl rfl (Nat.le_refl _) (Nat.zero_le _) hy hj⟩ (B9 Af hns)
  ·cases h1
   (focus((try with_reducible apply wpC.to);(repeat'((conv=>whnf);first|refine Aw ?_|(apply Fork.mk<;>(intro _;try(exfalso;omega)))|fail));all_goals((conv=>whnf);try with_reducible apply At.mk)))
   refine Dj.mk (CH (r:=h.next+1) (mr:=17098) (es:=Bo 0 Ba) (b:=1) (e:=⟨.agg ⟨[.int .i64 0,.int .i64 1]⟩,.int .i64 1048576,1⟩) (c:=24) (since:=24) (seen:=seen) rfl Aa Aa rfl) ?_
   (focus((try with_reducible apply wpC.to);(repeat'((conv=>whnf);first|refine Aw ?_|(apply Fork.mk<;>(intro _;try(exfalso;omega)))|fail));all_goals((conv=>whnf);try with_reducible apply At.mk)))
   any_goals(exfalso;have a:IntKind.i64.wrap _=(1:Int):=(by assumption);exact absurd a (of_decide_eq_false (by kernel_rfl)))
   exact hK (seen++[1],most) _ _ ⟨rfl,rfl,rfl,rfl,rfl,rfl,trivial⟩ ⟨fun r hr=>(Ac fun y hy=>Aa).trans (s2 r hr),Aa,Ag,NU,fun j y hy hj=>DK hall (i:=1) (x:=(0,1,1048576)) (v:=0) rfl rfl (Nat.le_refl _) (Nat.zero_le _) hy hj⟩ (B9 Af hns)
  ·cases h1
   (focus((try with_reducible apply wpC.to);(repeat'((conv=>whnf);first|refine Aw ?_|(apply Fork.mk<;>(intro _;try(exfalso;omega)))|fail));all_goals((conv=>whnf);try with_reducible apply At.mk)))
   refine Dj.mk (CH (r:=h.next+1) (mr:=17098) (es:=Bo 0 Ba) (b:=2) (e:=⟨.agg ⟨[.int .i64 0,.int .i64 2]⟩,.int .i64 1048576,2⟩) (c:=24) (since:=24) (seen:=seen) rfl Aa Aa rfl) ?_
   (focus((try with_reducible apply wpC.to);(repeat'((conv=>whnf);first|refine Aw ?_|(apply Fork.mk<;>(intro _;try(exfalso;omega)))|fail));all_goals((conv=>whnf);try with_reducible apply At.mk)))
   any_goals(exfalso;have a:IntKind.i64.wrap _=(1:Int):=(by assumption);exact absurd a (of_decide_eq_false (by kernel_rfl)))
   exact hK (seen++[2],most) _ _ ⟨rfl,rfl,rfl,rfl,rfl,rfl,trivial⟩ ⟨fun r hr=>(Ac fun y hy=>Aa).trans (s2 r hr),Aa,Ag,NU,fun j y hy hj=>DK hall (i:=2) (x:=(0,2,1048576)) (v:=0) rfl rfl (Nat.le_refl _) (Nat.zero_le _) hy hj⟩ (B9 Af hns)
  ·cases h1
   (focus((try with_reducible apply wpC.to);(repeat'((conv=>whnf);first|refine Aw ?_|(apply Fork.mk<;>(intro _;try(exfalso;omega)))|fail));all_goals((conv=>whnf);try with_reducible apply At.mk)))
   refine Dj.mk (CH (r:=h.next+1) (mr:=17098) (es:=Bo 0 Ba) (b:=3) (e:=⟨.agg ⟨[.int .i64 1,.int .i64 0]⟩,.int .i64 10,3⟩) (c:=24) (since:=24) (seen:=seen) rfl Aa Aa rfl) ?_
   (focus((try with_reducible apply wpC.to);(repeat'((conv=>whnf);first|refine Aw ?_|(apply Fork.mk<;>(intro _;try(exfalso;omega)))|fail));all_goals((conv=>whnf);try with_reducible apply At.mk)))
   any_goals(exfalso;have a:IntKind.i64.wrap _≠(1:Int):=(by assumption);exact absurd (of_decide_eq_true (by kernel_rfl)) a)
   apply Ak
   focus(exact Ae)
   focus(exact AK)
   focus exact H5 (x:=(1,0,10)) (by simp[Ba]) rfl (z:=10) rfl Ag (fun r y hm=>by have:=XQ r y hm;exact(Ac fun z hz=>Aa).trans ((s2 r this).trans (kr r y hm)))
   rintro _ _ ⟨rfl,rfl⟩ q hn
   (focus((try with_reducible apply wpC.to);(repeat'((conv=>whnf);first|refine Aw ?_|(apply Fork.mk<;>(intro _;try(exfalso;omega)))|fail));all_goals((conv=>whnf);try with_reducible apply At.mk)))
   apply Ak
   focus(exact Ae)
   focus(exact AK)
   focus exact L8 (n:=1) Af (z:=1) rfl
   rintro _ _ ⟨rfl,rfl⟩ q hn
   (focus((try with_reducible apply wpC.to);(repeat'((conv=>whnf);first|refine Aw ?_|(apply Fork.mk<;>(intro _;try(exfalso;omega)))|fail));all_goals((conv=>whnf);try with_reducible apply At.mk)))
   exact hK (seen++[3],max most 1) _ _ ⟨rfl,rfl,BQ rfl (by dsimp only;omega),rfl,rfl,rfl,trivial⟩ ⟨fun r hr=>(Ac fun y hy=>Aa).trans (s2 r hr),Aa,Ag,by dsimp only;omega,fun j y hy hj=>DK hall (i:=3) (x:=(1,0,10)) (v:=1) rfl rfl (by dsimp only;omega) (by dsimp only;omega) hy hj⟩ (B9 Af hns)
  ·cases h1
   (focus((try with_reducible apply wpC.to);(repeat'((conv=>whnf);first|refine Aw ?_|(apply Fork.mk<;>(intro _;try(exfalso;omega)))|fail));all_goals((conv=>whnf);try with_reducible apply At.mk)))
   refine Dj.mk (CH (r:=h.next+1) (mr:=17098) (es:=Bo 0 Ba) (b:=4) (e:=⟨.agg ⟨[.int .i64 1,.int .i64 1]⟩,.int .i64 1048576,4⟩) (c:=24) (since:=24) (seen:=seen) rfl Aa Aa rfl) ?_
   (focus((try with_reducible apply wpC.to);(repeat'((conv=>whnf);first|refine Aw ?_|(apply Fork.mk<;>(intro _;try(exfalso;omega)))|fail));all_goals((conv=>whnf);try with_reducible apply At.mk)))
   any_goals(exfalso;have a:IntKind.i64.wrap _=(1:Int):=(by assumption);exact absurd a (of_decide_eq_false (by kernel_rfl)))
   exact hK (seen++[4],most) _ _ ⟨rfl,rfl,rfl,rfl,rfl,rfl,trivial⟩ ⟨fun r hr=>(Ac fun y hy=>Aa).trans (s2 r hr),Aa,Ag,NU,fun j y hy hj=>DK hall (i:=4) (x:=(1,1,1048576)) (v:=0) rfl rfl (Nat.le_refl _) (Nat.zero_le _) hy hj⟩ (B9 Af hns)
  ·cases h1
   (focus((try with_reducible apply wpC.to);(repeat'((conv=>whnf);first|refine Aw ?_|(apply Fork.mk<;>(intro _;try(exfalso;omega)))|fail));all_goals((conv=>whnf);try with_reducible apply At.mk)))
   refine Dj.mk (CH (r:=h.next+1) (mr:=17098) (es:=Bo 0 Ba) (b:=5) (e:=⟨.agg ⟨[.int .i64 1,.int .i64 2]⟩,.int .i64 1048576,5⟩) (c:=24) (since:=24) (seen:=seen) rfl Aa Aa rfl) ?_
   (focus((try with_reducible apply wpC.to);(repeat'((conv=>whnf);first|refine Aw ?_|(apply Fork.mk<;>(intro _;try(exfalso;omega)))|fail));all_goals((conv=>whnf);try with_reducible apply At.mk)))
   any_goals(exfalso;have a:IntKind.i64.wrap _=(1:Int):=(by assumption);exact absurd a (of_decide_eq_false (by kernel_rfl)))
   exact hK (seen++[5],most) _ _ ⟨rfl,rfl,rfl,rfl,rfl,rfl,trivial⟩ ⟨fun r hr=>(Ac fun y hy=>Aa).trans (s2 r hr),Aa,Ag,NU,fun j y hy hj=>DK hall (i:=5) (x:=(1,2,1048576)) (v:=0) rfl rfl (Nat.le_refl _) (Nat.zero_le _) hy hj⟩ (B9 Af hns)
  ·cases h1
   (focus((try with_reducible apply wpC.to);(repeat'((conv=>whnf);first|refine Aw ?_|(apply Fork.mk<;>(intro _;try(exfalso;omega)))|fail));all_goals((conv=>whnf);try with_reducible apply At.mk)))
   refine Dj.mk (CH (r:=h.next+1) (mr:=17098) (es:=Bo 0 Ba) (b:=6) (e:=⟨.agg ⟨[.int .i64 2,.int .i64 0]⟩,.int .i64 1048576,6⟩) (c:=24) (since:=24) (seen:=seen) rfl Aa Aa rfl) ?_
   (focus((try with_reducible apply wpC.to);(repeat'((conv=>whnf);first|refine Aw ?_|(apply Fork.mk<;>(intro _;try(exfalso;omega)))|fail));all_goals((conv=>whnf);try with_reducible apply At.mk)))
   any_goals(exfalso;have a:IntKind.i64.wrap _=(1:Int):=(by assumption);exact absurd a (of_decide_eq_false (by kernel_rfl)))
   exact hK (seen++[6],most) _ _ ⟨rfl,rfl,rfl,rfl,rfl,rfl,trivial⟩ ⟨fun r hr=>(Ac fun y hy=>Aa).trans (s2 r hr),Aa,Ag,NU,fun j y hy hj=>DK hall (i:=6) (x:=(2,0,1048576)) (v:=0) rfl rfl (Nat.le_refl _) (Nat.zero_le _) hy hj⟩ (B9 Af hns)
  ·cases h1
   (focus((try with_reducible apply wpC.to);(repeat'((conv=>whnf);first|refine Aw ?_|(apply Fork.mk<;>(intro _;try(exfalso;omega)))|fail));all_goals((conv=>whnf);try with_reducible apply At.mk)))
   refine Dj.mk (CH (r:=h.next+1) (mr:=17098) (es:=Bo 0 Ba) (b:=7) (e:=⟨.agg ⟨[.int .i64 2,.int .i64 1]⟩,.int .i64 5,7⟩) (c:=24) (since:=24) (seen:=seen) rfl Aa Aa rfl) ?_
   (focus((try with_reducible apply wpC.to);(repeat'((conv=>whnf);first|refine Aw ?_|(apply Fork.mk<;>(intro _;try(exfalso;omega)))|fail));all_goals((conv=>whnf);try with_reducible apply At.mk)))
   any_goals(exfalso;have a:IntKind.i64.wrap _≠(1:Int):=(by assumption);exact absurd (of_decide_eq_true (by kernel_rfl)) a)
   apply Ak
   focus(exact Ae)
   focus(exact AK)
   focus exact H5 (x:=(2,1,5)) (by simp[Ba]) rfl (z:=5) rfl Ag (fun r y hm=>by have:=XQ r y hm;exact(Ac fun z hz=>Aa).trans ((s2 r this).trans (kr r y hm)))
   rintro _ _ ⟨rfl,rfl⟩ q hn
   (focus((try with_reducible apply wpC.to);(repeat'((conv=>whnf);first|refine Aw ?_|(apply Fork.mk<;>(intro _;try(exfalso;omega)))|fail));all_goals((conv=>whnf);try with_reducible apply At.mk)))
   apply Ak
   focus(exact Ae)
   focus(exact AK)
   focus exact L8 (n:=2) Af (z:=1) rfl
   rintro _ _ ⟨rfl,rfl⟩ q hn
   (focus((try with_reducible apply wpC.to);(repeat'((conv=>whnf);first|refine Aw ?_|(apply Fork.mk<;>(intro _;try(exfalso;omega)))|fail));all_goals((conv=>whnf);try with_reducible apply At.mk)))
   exact hK (seen++[7],max most 1) _ _ ⟨rfl,rfl,BQ rfl (by dsimp only;omega),rfl,rfl,rfl,trivial⟩ ⟨fun r hr=>(Ac fun y hy=>Aa).trans (s2 r hr),Aa,Ag,by dsimp only;omega,fun j y hy hj=>DK hall (i:=7) (x:=(2,1,5)) (v:=1) rfl rfl (by dsimp only;omega) (by dsimp only;omega) hy hj⟩ (B9 Af hns)
  ·cases h1
   (focus((try with_reducible apply wpC.to);(repeat'((conv=>whnf);first|refine Aw ?_|(apply Fork.mk<;>(intro _;try(exfalso;omega)))|fail));all_goals((conv=>whnf);try with_reducible apply At.mk)))
   refine Dj.mk (CH (r:=h.next+1) (mr:=17098) (es:=Bo 0 Ba) (b:=8) (e:=⟨.agg ⟨[.int .i64 2,.int .i64 2]⟩,.int .i64 1048576,8⟩) (c:=24) (since:=24) (seen:=seen) rfl Aa Aa rfl) ?_
   (focus((try with_reducible apply wpC.to);(repeat'((conv=>whnf);first|refine Aw ?_|(apply Fork.mk<;>(intro _;try(exfalso;omega)))|fail));all_goals((conv=>whnf);try with_reducible apply At.mk)))
   any_goals(exfalso;have a:IntKind.i64.wrap _=(1:Int):=(by assumption);exact absurd a (of_decide_eq_false (by kernel_rfl)))
   exact hK (seen++[8],most) _ _ ⟨rfl,rfl,rfl,rfl,rfl,rfl,trivial⟩ ⟨fun r hr=>(Ac fun y hy=>Aa).trans (s2 r hr),Aa,Ag,NU,fun j y hy hj=>DK hall (i:=8) (x:=(2,2,1048576)) (v:=0) rfl rfl (Nat.le_refl _) (Nat.zero_le _) hy hj⟩ (B9 Af hns)
  ·cases h1
   (focus((try with_reducible apply wpC.to);(repeat'((conv=>whnf);first|refine Aw ?_|(apply Fork.mk<;>(intro _;try(exfalso;omega)))|fail));all_goals((conv=>whnf);try with_reducible apply At.mk)))
   refine Dj.mk (CH (r:=h.next+1) (mr:=17098) (es:=Bo 0 Ba) (b:=9) (e:=⟨.agg ⟨[.int .i64 3,.int .i64 0]⟩,.int .i64 15,9⟩) (c:=24) (since:=24) (seen:=seen) rfl Aa Aa rfl) ?_
   (focus((try with_reducible apply wpC.to);(repeat'((conv=>whnf);first|refine Aw ?_|(apply Fork.mk<;>(intro _;try(exfalso;omega)))|fail));all_goals((conv=>whnf);try with_reducible apply At.mk)))
   any_goals(exfalso;have a:IntKind.i64.wrap _≠(1:Int):=(by assumption);exact absurd (of_decide_eq_true (by kernel_rfl)) a)
   apply Ak
   focus(exact Ae)
   focus(exact AK)
   focus exact H5 (x:=(3,0,15)) (by simp[Ba]) rfl (z:=15) rfl Ag (fun r y hm=>by have:=XQ r y hm;exact(Ac fun z hz=>Aa).trans ((s2 r this).trans (kr r y hm)))
   rintro _ _ ⟨rfl,rfl⟩ q hn
   (focus((try with_reducible apply wpC.to);(repeat'((conv=>whnf);first|refine Aw ?_|(apply Fork.mk<;>(intro _;try(exfalso;omega)))|fail));all_goals((conv=>whnf);try with_reducible apply At.mk)))
   apply Ak
   focus(exact Ae)
   focus(exact AK)
   focus exact L8 (n:=3) Af (z:=2) rfl
   rintro _ _ ⟨rfl,rfl⟩ q hn
   (focus((try with_reducible apply wpC.to);(repeat'((conv=>whnf);first|refine Aw ?_|(apply Fork.mk<;>(intro _;try(exfalso;omega)))|fail));all_goals((conv=>whnf);try with_reducible apply At.mk)))
   exact hK (seen++[9],max most 2) _ _ ⟨rfl,rfl,BQ rfl (by dsimp only;omega),rfl,rfl,rfl,trivial⟩ ⟨fun r hr=>(Ac fun y hy=>Aa).trans (s2 r hr),Aa,Ag,by dsimp only;omega,fun j y hy hj=>DK hall (i:=9) (x:=(3,0,15)) (v:=2) rfl rfl (by dsimp only;omega) (by dsimp only;omega) hy hj⟩ (B9 Af hns)
  ·cases h1
   (focus((try with_reducible apply wpC.to);(repeat'((conv=>whnf);first|refine Aw ?_|(apply Fork.mk<;>(intro _;try(exfalso;omega)))|fail));all_goals((conv=>whnf);try with_reducible apply At.mk)))
   refine Dj.mk (CH (r:=h.next+1) (mr:=17098) (es:=Bo 0 Ba) (b:=10) (e:=⟨.agg ⟨[.int .i64 3,.int .i64 1]⟩,.int .i64 19,10⟩) (c:=24) (since:=24) (seen:=seen) rfl Aa Aa rfl) ?_
   (focus((try with_reducible apply wpC.to);(repeat'((conv=>whnf);first|refine Aw ?_|(apply Fork.mk<;>(intro _;try(exfalso;omega)))|fail));all_goals((conv=>whnf);try with_reducible apply At.mk)))
   any_goals(exfalso;have a:IntKind.i64.wrap _≠(1:Int):=(by assumption);exact absurd (of_decide_eq_true (by kernel_rfl)) a)
   apply Ak
   focus(exact Ae)
   focus(exact AK)
   focus exact H5 (x:=(3,1,19)) (by simp[Ba]) rfl (z:=19) rfl Ag (fun r y hm=>by have:=XQ r y hm;exact(Ac fun z hz=>Aa).trans ((s2 r this).trans (kr r y hm)))
   rintro _ _ ⟨rfl,rfl⟩ q hn
   (focus((try with_reducible apply wpC.to);(repeat'((conv=>whnf);first|refine Aw ?_|(apply Fork.mk<;>(intro _;try(exfalso;omega)))|fail));all_goals((conv=>whnf);try with_reducible apply At.mk)))
   apply Ak
   focus(exact Ae)
   focus(exact AK)
   focus exact L8 (n:=3) Af (z:=2) rfl
   rintro _ _ ⟨rfl,rfl⟩ q hn
   (focus((try with_reducible apply wpC.to);(repeat'((conv=>whnf);first|refine Aw ?_|(apply Fork.mk<;>(intro _;try(exfalso;omega)))|fail));all_goals((conv=>whnf);try with_reducible apply At.mk)))
   exact hK (seen++[10],max most 2) _ _ ⟨rfl,rfl,BQ rfl (by dsimp only;omega),rfl,rfl,rfl,trivial⟩ ⟨fun r hr=>(Ac fun y hy=>Aa).trans (s2 r hr),Aa,Ag,by dsimp only;omega,fun j y hy hj=>DK hall (i:=10) (x:=(3,1,19)) (v:=2) rfl rfl (by dsimp only;omega) (by dsimp only;omega) hy hj⟩ (B9 Af hns)
  ·cases h1
   (focus((try with_reducible apply wpC.to);(repeat'((conv=>whnf);first|refine Aw ?_|(apply Fork.mk<;>(intro _;try(exfalso;omega)))|fail));all_goals((conv=>whnf);try with_reducible apply At.mk)))
   refine Dj.mk (CH (r:=h.next+1) (mr:=17098) (es:=Bo 0 Ba) (b:=11) (e:=⟨.agg ⟨[.int .i64 3,.int .i64 2]⟩,.int .i64 1048576,11⟩) (c:=24) (since:=24) (seen:=seen) rfl Aa Aa rfl) ?_
   (focus((try with_reducible apply wpC.to);(repeat'((conv=>whnf);first|refine Aw ?_|(apply Fork.mk<;>(intro _;try(exfalso;omega)))|fail));all_goals((conv=>whnf);try with_reducible apply At.mk)))
   any_goals(exfalso;have a:IntKind.i64.wrap _=(1:Int):=(by assumption);exact absurd a (of_decide_eq_false (by kernel_rfl)))
   exact hK (seen++[11],most) _ _ ⟨rfl,rfl,rfl,rfl,rfl,rfl,trivial⟩ ⟨fun r hr=>(Ac fun y hy=>Aa).trans (s2 r hr),Aa,Ag,NU,fun j y hy hj=>DK hall (i:=11) (x:=(3,2,1048576)) (v:=0) rfl rfl (Nat.le_refl _) (Nat.zero_le _) hy hj⟩ (B9 Af hns)
  ·cases h1
   (focus((try with_reducible apply wpC.to);(repeat'((conv=>whnf);first|refine Aw ?_|(apply Fork.mk<;>(intro _;try(exfalso;omega)))|fail));all_goals((conv=>whnf);try with_reducible apply At.mk)))
   refine Dj.mk (CH (r:=h.next+1) (mr:=17098) (es:=Bo 0 Ba) (b:=12) (e:=⟨.agg ⟨[.int .i64 4,.int .i64 0]⟩,.int .i64 1048576,12⟩) (c:=24) (since:=24) (seen:=seen) rfl Aa Aa rfl) ?_
   (focus((try with_reducible apply wpC.to);(repeat'((conv=>whnf);first|refine Aw ?_|(apply Fork.mk<;>(intro _;try(exfalso;omega)))|fail));all_goals((conv=>whnf);try with_reducible apply At.mk)))
   any_goals(exfalso;have a:IntKind.i64.wrap _=(1:Int):=(by assumption);exact absurd a (of_decide_eq_false (by kernel_rfl)))
   exact hK (seen++[12],most) _ _ ⟨rfl,rfl,rfl,rfl,rfl,rfl,trivial⟩ ⟨fun r hr=>(Ac fun y hy=>Aa).trans (s2 r hr),Aa,Ag,NU,fun j y hy hj=>DK hall (i:=12) (x:=(4,0,1048576)) (v:=0) rfl rfl (Nat.le_refl _) (Nat.zero_le _) hy hj⟩ (B9 Af hns)
  ·cases h1
   (focus((try with_reducible apply wpC.to);(repeat'((conv=>whnf);first|refine Aw ?_|(apply Fork.mk<;>(intro _;try(exfalso;omega)))|fail));all_goals((conv=>whnf);try with_reducible apply At.mk)))
   refine Dj.mk (CH (r:=h.next+1) (mr:=17098) (es:=Bo 0 Ba) (b:=13) (e:=⟨.agg ⟨[.int .i64 4,.int .i64 1]⟩,.int .i64 1048576,13⟩) (c:=24) (since:=24) (seen:=seen) rfl Aa Aa rfl) ?_
   (focus((try with_reducible apply wpC.to);(repeat'((conv=>whnf);first|refine Aw ?_|(apply Fork.mk<;>(intro _;try(exfalso;omega)))|fail));all_goals((conv=>whnf);try with_reducible apply At.mk)))
   any_goals(exfalso;have a:IntKind.i64.wrap _=(1:Int):=(by assumption);exact absurd a (of_decide_eq_false (by kernel_rfl)))
   exact hK (seen++[13],most) _ _ ⟨rfl,rfl,rfl,rfl,rfl,rfl,trivial⟩ ⟨fun r hr=>(Ac fun y hy=>Aa).trans (s2 r hr),Aa,Ag,NU,fun j y hy hj=>DK hall (i:=13) (x:=(4,1,1048576)) (v:=0) rfl rfl (Nat.le_refl _) (Nat.zero_le _) hy hj⟩ (B9 Af hns)
  ·cases h1
   (focus((try with_reducible apply wpC.to);(repeat'((conv=>whnf);first|refine Aw ?_|(apply Fork.mk<;>(intro _;try(exfalso;omega)))|fail));all_goals((conv=>whnf);try with_reducible apply At.mk)))
   refine Dj.mk (CH (r:=h.next+1) (mr:=17098) (es:=Bo 0 Ba) (b:=14) (e:=⟨.agg ⟨[.int .i64 4,.int .i64 2]⟩,.int .i64 20,14⟩) (c:=24) (since:=24) (seen:=seen) rfl Aa Aa rfl) ?_
   (focus((try with_reducible apply wpC.to);(repeat'((conv=>whnf);first|refine Aw ?_|(apply Fork.mk<;>(intro _;try(exfalso;omega)))|fail));all_goals((conv=>whnf);try with_reducible apply At.mk)))
   any_goals(exfalso;have a:IntKind.i64.wrap _≠(1:Int):=(by assumption);exact absurd (of_decide_eq_true (by kernel_rfl)) a)
   apply Ak
   focus(exact Ae)
   focus(exact AK)
   focus exact H5 (x:=(4,2,20)) (by simp[Ba]) rfl (z:=20) rfl Ag (fun r y hm=>by have:=XQ r y hm;exact(Ac fun z hz=>Aa).trans ((s2 r this).trans (kr r y hm)))
   rintro _ _ ⟨rfl,rfl⟩ q hn
   (focus((try with_reducible apply wpC.to);(repeat'((conv=>whnf);first|refine Aw ?_|(apply Fork.mk<;>(intro _;try(exfalso;omega)))|fail));all_goals((conv=>whnf);try with_reducible apply At.mk)))
   apply Ak
   focus(exact Ae)
   focus(exact AK)
   focus exact L8 (n:=4) Af (z:=1) rfl
   rintro _ _ ⟨rfl,rfl⟩ q hn
   (focus((try with_reducible apply wpC.to);(repeat'((conv=>whnf);first|refine Aw ?_|(apply Fork.mk<;>(intro _;try(exfalso;omega)))|fail));all_goals((conv=>whnf);try with_reducible apply At.mk)))
   exact hK (seen++[14],max most 1) _ _ ⟨rfl,rfl,BQ rfl (by dsimp only;omega),rfl,rfl,rfl,trivial⟩ ⟨fun r hr=>(Ac fun y hy=>Aa).trans (s2 r hr),Aa,Ag,by dsimp only;omega,fun j y hy hj=>DK hall (i:=14) (x:=(4,2,20)) (v:=1) rfl rfl (by dsimp only;omega) (by dsimp only;omega) hy hj⟩ (B9 Af hns)
  ·cases h1
   (focus((try with_reducible apply wpC.to);(repeat'((conv=>whnf);first|refine Aw ?_|(apply Fork.mk<;>(intro _;try(exfalso;omega)))|fail));all_goals((conv=>whnf);try with_reducible apply At.mk)))
   refine Dj.mk (CH (r:=h.next+1) (mr:=17098) (es:=Bo 0 Ba) (b:=15) (e:=⟨.agg ⟨[.int .i64 5,.int .i64 0]⟩,.int .i64 35,15⟩) (c:=24) (since:=24) (seen:=seen) rfl Aa Aa rfl) ?_
   (focus((try with_reducible apply wpC.to);(repeat'((conv=>whnf);first|refine Aw ?_|(apply Fork.mk<;>(intro _;try(exfalso;omega)))|fail));all_goals((conv=>whnf);try with_reducible apply At.mk)))
   any_goals(exfalso;have a:IntKind.i64.wrap _≠(1:Int):=(by assumption);exact absurd (of_decide_eq_true (by kernel_rfl)) a)
   apply Ak
   focus(exact Ae)
   focus(exact AK)
   focus exact H5 (x:=(5,0,35)) (by simp[Ba]) rfl (z:=35) rfl Ag (fun r y hm=>by have:=XQ r y hm;exact(Ac fun z hz=>Aa).trans ((s2 r this).trans (kr r y hm)))
   rintro _ _ ⟨rfl,rfl⟩ q hn
   (focus((try with_reducible apply wpC.to);(repeat'((conv=>whnf);first|refine Aw ?_|(apply Fork.mk<;>(intro _;try(exfalso;omega)))|fail));all_goals((conv=>whnf);try with_reducible apply At.mk)))
   apply Ak
   focus(exact Ae)
   focus(exact AK)
   focus exact L8 (n:=5) Af (z:=2) rfl
   rintro _ _ ⟨rfl,rfl⟩ q hn
   (focus((try with_reducible apply wpC.to);(repeat'((conv=>whnf);first|refine Aw ?_|(apply Fork.mk<;>(intro _;try(exfalso;omega)))|fail));all_goals((conv=>whnf);try with_reducible apply At.mk)))
   exact hK (seen++[15],max most 2) _ _ ⟨rfl,rfl,BQ rfl (by dsimp only;omega),rfl,rfl,rfl,trivial⟩ ⟨fun r hr=>(Ac fun y hy=>Aa).trans (s2 r hr),Aa,Ag,by dsimp only;omega,fun j y hy hj=>DK hall (i:=15) (x:=(5,0,35)) (v:=2) rfl rfl (by dsimp only;omega) (by dsimp only;omega) hy hj⟩ (B9 Af hns)
  ·cases h1
   (focus((try with_reducible apply wpC.to);(repeat'((conv=>whnf);first|refine Aw ?_|(apply Fork.mk<;>(intro _;try(exfalso;omega)))|fail));all_goals((conv=>whnf);try with_reducible apply At.mk)))
   refine Dj.mk (CH (r:=h.next+1) (mr:=17098) (es:=Bo 0 Ba) (b:=16) (e:=⟨.agg ⟨[.int .i64 5,.int .i64 1]⟩,.int .i64 1048576,16⟩) (c:=24) (since:=24) (seen:=seen) rfl Aa Aa rfl) ?_
   (focus((try with_reducible apply wpC.to);(repeat'((conv=>whnf);first|refine Aw ?_|(apply Fork.mk<;>(intro _;try(exfalso;omega)))|fail));all_goals((conv=>whnf);try with_reducible apply At.mk)))
   any_goals(exfalso;have a:IntKind.i64.wrap _=(1:Int):=(by assumption);exact absurd a (of_decide_eq_false (by kernel_rfl)))
   exact hK (seen++[16],most) _ _ ⟨rfl,rfl,rfl,rfl,rfl,rfl,trivial⟩ ⟨fun r hr=>(Ac fun y hy=>Aa).trans (s2 r hr),Aa,Ag,NU,fun j y hy hj=>DK hall (i:=16) (x:=(5,1,1048576)) (v:=0) rfl rfl (Nat.le_refl _) (Nat.zero_le _) hy hj⟩ (B9 Af hns)
  ·cases h1
   (focus((try with_reducible apply wpC.to);(repeat'((conv=>whnf);first|refine Aw ?_|(apply Fork.mk<;>(intro _;try(exfalso;omega)))|fail));all_goals((conv=>whnf);try with_reducible apply At.mk)))
   refine Dj.mk (CH (r:=h.next+1) (mr:=17098) (es:=Bo 0 Ba) (b:=17) (e:=⟨.agg ⟨[.int .i64 5,.int .i64 2]⟩,.int .i64 1048576,17⟩) (c:=24) (since:=24) (seen:=seen) rfl Aa Aa rfl) ?_
   (focus((try with_reducible apply wpC.to);(repeat'((conv=>whnf);first|refine Aw ?_|(apply Fork.mk<;>(intro _;try(exfalso;omega)))|fail));all_goals((conv=>whnf);try with_reducible apply At.mk)))
   any_goals(exfalso;have a:IntKind.i64.wrap _≠(1:Int):=(by assumption);exact absurd (of_decide_eq_true (by kernel_rfl)) a)
   apply Ak
   focus(exact Ae)
   focus(exact AK)
   focus exact H5 (x:=(5,2,1048576)) (by simp[Ba]) rfl (z:=1048576) rfl Ag (fun r y hm=>by have:=XQ r y hm;exact(Ac fun z hz=>Aa).trans ((s2 r this).trans (kr r y hm)))
   rintro _ _ ⟨rfl,rfl⟩ q hn
   (focus((try with_reducible apply wpC.to);(repeat'((conv=>whnf);first|refine Aw ?_|(apply Fork.mk<;>(intro _;try(exfalso;omega)))|fail));all_goals((conv=>whnf);try with_reducible apply At.mk)))
   exact hK (seen++[17],most) _ _ ⟨rfl,rfl,rfl,rfl,rfl,rfl,trivial⟩ ⟨fun r hr=>(Ac fun y hy=>Aa).trans (s2 r hr),Aa,Ag,NU,fun j y hy hj=>DK hall (i:=17) (x:=(5,2,1048576)) (v:=0) rfl rfl (Nat.le_refl _) (Nat.zero_le _) hy hj⟩ (B9 Af hns)
  ·cases h1
   (focus((try with_reducible apply wpC.to);(repeat'((conv=>whnf);first|refine Aw ?_|(apply Fork.mk<;>(intro _;try(exfalso;omega)))|fail));all_goals((conv=>whnf);try with_reducible apply At.mk)))
   refine Dj.mk (CH (r:=h.next+1) (mr:=17098) (es:=Bo 0 Ba) (b:=18) (e:=⟨.agg ⟨[.int .i64 6,.int .i64 0]⟩,.int .i64 1048576,18⟩) (c:=24) (since:=24) (seen:=seen) rfl Aa Aa rfl) ?_
   (focus((try with_reducible apply wpC.to);(repeat'((conv=>whnf);first|refine Aw ?_|(apply Fork.mk<;>(intro _;try(exfalso;omega)))|fail));all_goals((conv=>whnf);try with_reducible apply At.mk)))
   any_goals(exfalso;have a:IntKind.i64.wrap _=(1:Int):=(by assumption);exact absurd a (of_decide_eq_false (by kernel_rfl)))
   exact hK (seen++[18],most) _ _ ⟨rfl,rfl,rfl,rfl,rfl,rfl,trivial⟩ ⟨fun r hr=>(Ac fun y hy=>Aa).trans (s2 r hr),Aa,Ag,NU,fun j y hy hj=>DK hall (i:=18) (x:=(6,0,1048576)) (v:=0) rfl rfl (Nat.le_refl _) (Nat.zero_le _) hy hj⟩ (B9 Af hns)
  ·cases h1
   (focus((try with_reducible apply wpC.to);(repeat'((conv=>whnf);first|refine Aw ?_|(apply Fork.mk<;>(intro _;try(exfalso;omega)))|fail));all_goals((conv=>whnf);try with_reducible apply At.mk)))
   refine Dj.mk (CH (r:=h.next+1) (mr:=17098) (es:=Bo 0 Ba) (b:=19) (e:=⟨.agg ⟨[.int .i64 6,.int .i64 1]⟩,.int .i64 1048576,19⟩) (c:=24) (since:=24) (seen:=seen) rfl Aa Aa rfl) ?_
   (focus((try with_reducible apply wpC.to);(repeat'((conv=>whnf);first|refine Aw ?_|(apply Fork.mk<;>(intro _;try(exfalso;omega)))|fail));all_goals((conv=>whnf);try with_reducible apply At.mk)))
   any_goals(exfalso;have a:IntKind.i64.wrap _≠(1:Int):=(by assumption);exact absurd (of_decide_eq_true (by kernel_rfl)) a)
   apply Ak
   focus(exact Ae)
   focus(exact AK)
   focus exact H5 (x:=(6,1,1048576)) (by simp[Ba]) rfl (z:=1048576) rfl Ag (fun r y hm=>by have:=XQ r y hm;exact(Ac fun z hz=>Aa).trans ((s2 r this).trans (kr r y hm)))
   rintro _ _ ⟨rfl,rfl⟩ q hn
   (focus((try with_reducible apply wpC.to);(repeat'((conv=>whnf);first|refine Aw ?_|(apply Fork.mk<;>(intro _;try(exfalso;omega)))|fail));all_goals((conv=>whnf);try with_reducible apply At.mk)))
   exact hK (seen++[19],most) _ _ ⟨rfl,rfl,rfl,rfl,rfl,rfl,trivial⟩ ⟨fun r hr=>(Ac fun y hy=>Aa).trans (s2 r hr),Aa,Ag,NU,fun j y hy hj=>DK hall (i:=19) (x:=(6,1,1048576)) (v:=0) rfl rfl (Nat.le_refl _) (Nat.zero_le _) hy hj⟩ (B9 Af hns)
  ·cases h1
   (focus((try with_reducible apply wpC.to);(repeat'((conv=>whnf);first|refine Aw ?_|(apply Fork.mk<;>(intro _;try(exfalso;omega)))|fail));all_goals((conv=>whnf);try with_reducible apply At.mk)))
   refine Dj.mk (CH (r:=h.next+1) (mr:=17098) (es:=Bo 0 Ba) (b:=20) (e:=⟨.agg ⟨[.int .i64 6,.int .i64 2]⟩,.int .i64 27,20⟩) (c:=24) (since:=24) (seen:=seen) rfl Aa Aa rfl) ?_
   (focus((try with_reducible apply wpC.to);(repeat'((conv=>whnf);first|refine Aw ?_|(apply Fork.mk<;>(intro _;try(exfalso;omega)))|fail));all_goals((conv=>whnf);try with_reducible apply At.mk)))
   any_goals(exfalso;have a:IntKind.i64.wrap _≠(1:Int):=(by assumption);exact absurd (of_decide_eq_true (by kernel_rfl)) a)
   apply Ak
   focus(exact Ae)
   focus(exact AK)
   focus exact H5 (x:=(6,2,27)) (by simp[Ba]) rfl (z:=27) rfl Ag (fun r y hm=>by have:=XQ r y hm;exact(Ac fun z hz=>Aa).trans ((s2 r this).trans (kr r y hm)))
   rintro _ _ ⟨rfl,rfl⟩ q hn
   (focus((try with_reducible apply wpC.to);(repeat'((conv=>whnf);first|refine Aw ?_|(apply Fork.mk<;>(intro _;try(exfalso;omega)))|fail));all_goals((conv=>whnf);try with_reducible apply At.mk)))
   apply Ak
   focus(exact Ae)
   focus(exact AK)
   focus exact L8 (n:=6) Af (z:=2) rfl
   rintro _ _ ⟨rfl,rfl⟩ q hn
   (focus((try with_reducible apply wpC.to);(repeat'((conv=>whnf);first|refine Aw ?_|(apply Fork.mk<;>(intro _;try(exfalso;omega)))|fail));all_goals((conv=>whnf);try with_reducible apply At.mk)))
   exact hK (seen++[20],max most 2) _ _ ⟨rfl,rfl,BQ rfl (by dsimp only;omega),rfl,rfl,rfl,trivial⟩ ⟨fun r hr=>(Ac fun y hy=>Aa).trans (s2 r hr),Aa,Ag,by dsimp only;omega,fun j y hy hj=>DK hall (i:=20) (x:=(6,2,27)) (v:=2) rfl rfl (by dsimp only;omega) (by dsimp only;omega) hy hj⟩ (B9 Af hns)
  ·cases h1
   (focus((try with_reducible apply wpC.to);(repeat'((conv=>whnf);first|refine Aw ?_|(apply Fork.mk<;>(intro _;try(exfalso;omega)))|fail));all_goals((conv=>whnf);try with_reducible apply At.mk)))
   refine Dj.mk (CH (r:=h.next+1) (mr:=17098) (es:=Bo 0 Ba) (b:=21) (e:=⟨.agg ⟨[.int .i64 7,.int .i64 0]⟩,.int .i64 42,21⟩) (c:=24) (since:=24) (seen:=seen) rfl Aa Aa rfl) ?_
   (focus((try with_reducible apply wpC.to);(repeat'((conv=>whnf);first|refine Aw ?_|(apply Fork.mk<;>(intro _;try(exfalso;omega)))|fail));all_goals((conv=>whnf);try with_reducible apply At.mk)))
   any_goals(exfalso;have a:IntKind.i64.wrap _≠(1:Int):=(by assumption);exact absurd (of_decide_eq_true (by kernel_rfl)) a)
   apply Ak
   focus(exact Ae)
   focus(exact AK)
   focus exact H5 (x:=(7,0,42)) (by simp[Ba]) rfl (z:=42) rfl Ag (fun r y hm=>by have:=XQ r y hm;exact(Ac fun z hz=>Aa).trans ((s2 r this).trans (kr r y hm)))
   rintro _ _ ⟨rfl,rfl⟩ q hn
   (focus((try with_reducible apply wpC.to);(repeat'((conv=>whnf);first|refine Aw ?_|(apply Fork.mk<;>(intro _;try(exfalso;omega)))|fail));all_goals((conv=>whnf);try with_reducible apply At.mk)))
   apply Ak
   focus(exact Ae)
   focus(exact AK)
   focus exact L8 (n:=7) Af (z:=3) rfl
   rintro _ _ ⟨rfl,rfl⟩ q hn
   (focus((try with_reducible apply wpC.to);(repeat'((conv=>whnf);first|refine Aw ?_|(apply Fork.mk<;>(intro _;try(exfalso;omega)))|fail));all_goals((conv=>whnf);try with_reducible apply At.mk)))
   exact hK (seen++[21],max most 3) _ _ ⟨rfl,rfl,BQ rfl (by dsimp only;omega),rfl,rfl,rfl,trivial⟩ ⟨fun r hr=>(Ac fun y hy=>Aa).trans (s2 r hr),Aa,Ag,by dsimp only;omega,fun j y hy hj=>DK hall (i:=21) (x:=(7,0,42)) (v:=3) rfl rfl (by dsimp only;omega) (by dsimp only;omega) hy hj⟩ (B9 Af hns)
  ·cases h1
   (focus((try with_reducible apply wpC.to);(repeat'((conv=>whnf);first|refine Aw ?_|(apply Fork.mk<;>(intro _;try(exfalso;omega)))|fail));all_goals((conv=>whnf);try with_reducible apply At.mk)))
   refine Dj.mk (CH (r:=h.next+1) (mr:=17098) (es:=Bo 0 Ba) (b:=22) (e:=⟨.agg ⟨[.int .i64 7,.int .i64 1]⟩,.int .i64 1048576,22⟩) (c:=24) (since:=24) (seen:=seen) rfl Aa Aa rfl) ?_
   (focus((try with_reducible apply wpC.to);(repeat'((conv=>whnf);first|refine Aw ?_|(apply Fork.mk<;>(intro _;try(exfalso;omega)))|fail));all_goals((conv=>whnf);try with_reducible apply At.mk)))
   any_goals(exfalso;have a:IntKind.i64.wrap _≠(1:Int):=(by assumption);exact absurd (of_decide_eq_true (by kernel_rfl)) a)
   apply Ak
   focus(exact Ae)
   focus(exact AK)
   focus exact H5 (x:=(7,1,1048576)) (by simp[Ba]) rfl (z:=1048576) rfl Ag (fun r y hm=>by have:=XQ r y hm;exact(Ac fun z hz=>Aa).trans ((s2 r this).trans (kr r y hm)))
   rintro _ _ ⟨rfl,rfl⟩ q hn
   (focus((try with_reducible apply wpC.to);(repeat'((conv=>whnf);first|refine Aw ?_|(apply Fork.mk<;>(intro _;try(exfalso;omega)))|fail));all_goals((conv=>whnf);try with_reducible apply At.mk)))
   exact hK (seen++[22],most) _ _ ⟨rfl,rfl,rfl,rfl,rfl,rfl,trivial⟩ ⟨fun r hr=>(Ac fun y hy=>Aa).trans (s2 r hr),Aa,Ag,NU,fun j y hy hj=>DK hall (i:=22) (x:=(7,1,1048576)) (v:=0) rfl rfl (Nat.le_refl _) (Nat.zero_le _) hy hj⟩ (B9 Af hns)
  ·cases h1
   (focus((try with_reducible apply wpC.to);(repeat'((conv=>whnf);first|refine Aw ?_|(apply Fork.mk<;>(intro _;try(exfalso;omega)))|fail));all_goals((conv=>whnf);try with_reducible apply At.mk)))
   refine Dj.mk (CH (r:=h.next+1) (mr:=17098) (es:=Bo 0 Ba) (b:=23) (e:=⟨.agg ⟨[.int .i64 7,.int .i64 2]⟩,.int .i64 1048576,23⟩) (c:=24) (since:=24) (seen:=seen) rfl Aa Aa rfl) ?_
   (focus((try with_reducible apply wpC.to);(repeat'((conv=>whnf);first|refine Aw ?_|(apply Fork.mk<;>(intro _;try(exfalso;omega)))|fail));all_goals((conv=>whnf);try with_reducible apply At.mk)))
   any_goals(exfalso;have a:IntKind.i64.wrap _≠(1:Int):=(by assumption);exact absurd (of_decide_eq_true (by kernel_rfl)) a)
   apply Ak
   focus(exact Ae)
   focus(exact AK)
   focus exact H5 (x:=(7,2,1048576)) (by simp[Ba]) rfl (z:=1048576) rfl Ag (fun r y hm=>by have:=XQ r y hm;exact(Ac fun z hz=>Aa).trans ((s2 r this).trans (kr r y hm)))
   rintro _ _ ⟨rfl,rfl⟩ q hn
   (focus((try with_reducible apply wpC.to);(repeat'((conv=>whnf);first|refine Aw ?_|(apply Fork.mk<;>(intro _;try(exfalso;omega)))|fail));all_goals((conv=>whnf);try with_reducible apply At.mk)))
   exact hK (seen++[23],most) _ _ ⟨rfl,rfl,rfl,rfl,rfl,rfl,trivial⟩ ⟨fun r hr=>(Ac fun y hy=>Aa).trans (s2 r hr),Aa,Ag,NU,fun j y hy hj=>DK hall (i:=23) (x:=(7,2,1048576)) (v:=0) rfl rfl (Nat.le_refl _) (Nat.zero_le _) hy hj⟩ (B9 Af hns)
end AE.Tryz
