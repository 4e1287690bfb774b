/- Walks of span: sides as a proof; over a map in whatever order. -/
import Derived.Test.YtneenfjffejnoaaGreatJoin37
import Derived.Test.YtneenfjffejnoaaGreatAEthree
set_option linter.unusedVariables false
set_option linter.unusedSimpArgs false
set_option linter.unusedSectionVars false
namespace AE.Tryz.Spn
open Go AE Go.Proofs AE.Sp
set_option maxRecDepth 100000
set_option linter.unusedVariables false


def us (es:List E3) (seen:List Nat):Nat:=(es.filter fun e=>!decide (e.b∈seen)).length
theorem Ac1 (es:List E3) (seen:List Nat) (x:Nat):us es (seen++[x])<=us es seen:=by
 induction es with
 |nil=>exact Nat.le_refl _
 | cons y es ih=>
   unfold us at ih⊢
   simp only[List.filter_cons]
   by_cases h1:y.b∈seen
   ·have:y.b∈seen++[x]:=List.mem_append_left _ h1
    simp only[h1,this,decide_true,Bool.not_true,Bool.false_eq_true,if_false]
    exact ih
   ·by_cases h2:y.b=x
    ·have:y.b∈seen++[x]:=by rw[h2];simp
     simp only[h1,this,decide_true,decide_false,Bool.not_true,Bool.not_false,Bool.false_eq_true,if_false,if_true,List.length_cons]
     omega
    ·have:¬y.b∈seen++[x]:=by simp[h1,h2]
     simp only[h1,this,decide_false,Bool.not_false,if_true,List.length_cons]
     omega
theorem VG {es:List E3}{seen:List Nat}{e:E3}(he:e∈es) (hn:e.b∉seen):us es (seen++[e.b])<us es seen:=by
 induction es with
 |nil=>exact absurd he (by simp)
 | cons y es ih=>
   have hle:=Ac1 es seen e.b
   unfold us at ih hle⊢
   simp only[List.filter_cons]
   by_cases h2:y.b=e.b
   ·have h1:¬y.b∈seen:=by rw[h2];exact hn
    have:y.b∈seen++[e.b]:=by rw[h2];simp
    simp only[h1,this,decide_true,decide_false,Bool.not_true,Bool.not_false,Bool.false_eq_true,if_false,if_true,List.length_cons]
    omega
   ·have he':e∈es:=by
     rcases List.mem_cons.1 he with h|h
     ·exact absurd (by rw[h]) h2
     ·exact h
    have:=ih he'
    by_cases h1:y.b∈seen
    ·have h3:y.b∈seen++[e.b]:=List.mem_append_left _ h1
     simp only[h1,h3,decide_true,Bool.not_true,Bool.false_eq_true,if_false]
     exact this
    ·have h3:¬y.b∈seen++[e.b]:=by simp[h1,h2]
     simp only[h1,h3,decide_false,Bool.not_false,if_true,List.length_cons]
     omega
theorem wU {es:List E3}{seen:List Nat}{e:E3}(hb:(es.map E3.b).Nodup) (he:e∈es) (hn:e.b∉seen):us es (seen++[e.b])+1=us es seen:=by
 induction es with
 |nil=>exact absurd he (by simp)
 | cons y es ih=>
   simp only[List.map_cons,List.nodup_cons]at hb
   by_cases h2:y.b=e.b
   ·have h1:¬y.b∈seen:=by rw[h2];exact hn
    have h3:y.b∈seen++[e.b]:=by rw[h2];simp
    have hr:us es (seen++[e.b])=us es seen:=by
     unfold us
     congr 1
     refine List.filter_congr fun x hx=>?_
     have:x.b≠e.b:=fun h=>hb.1 (by rw[h2,<-h];exact List.mem_map.2 ⟨x,hx,rfl⟩)
     simp[this]
    unfold us at hr⊢
    simp only[List.filter_cons,h1,h3,decide_true,decide_false,Bool.not_true,Bool.not_false,Bool.false_eq_true,if_false,if_true,List.length_cons]
    omega
   ·have he':e∈es:=by
     rcases List.mem_cons.1 he with h|h
     ·exact absurd (by rw[h]) h2
     ·exact h
    have:=ih hb.2 he'
    unfold us at this⊢
    simp only[List.filter_cons]
    by_cases h1:y.b∈seen
    ·have h3:y.b∈seen++[e.b]:=List.mem_append_left _ h1
     simp only[h1,h3,decide_true,Bool.not_true,Bool.false_eq_true,if_false]
     exact this
    ·have h3:¬y.b∈seen++[e.b]:=by simp[h1,h2]
     simp only[h1,h3,decide_false,Bool.not_false,if_true,List.length_cons]
     omega
theorem wV (es:List E3):us es []=es.length:=by
 unfold us
 rw[List.filter_eq_self.2 (by simp)]
theorem rA {es:List E3}{seen:List Nat}(h:∀e∈es,e.b∈seen):us es seen=0:=by
 unfold us
 rw[List.filter_eq_nil_iff.2 (fun e he=>by simp[h e he])]
 rfl
theorem fk:∀{a b:List Int},a.Pairwise (· < ·)->b.Pairwise (· < ·)->(∀x,x∈a↔x∈b)->a=b
 |[],[],_,_,_=>rfl
 |[],y::b,_,_,h=>absurd ((h y).2 (by simp)) (by simp)
 |x::a,[],_,_,h=>absurd ((h x).1 (by simp)) (by simp)
 | x ::a,y::b,ha,hb,h=>by
   have ha':=List.pairwise_cons.1 ha
   have hb':=List.pairwise_cons.1 hb
   have hxy:x=y:=by
    have h1:=(h x).1 (by simp)
    have h2:=(h y).2 (by simp)
    rcases List.mem_cons.1 h1 with h1|h1
    ·exact h1
    ·rcases List.mem_cons.1 h2 with h2|h2
     ·exact h2.symm
     ·have:=hb'.1 x h1
      have:=ha'.1 y h2
      omega
   subst hxy
   congr 1
   refine fk ha'.2 hb'.2 fun z=>⟨fun hz=>?_,fun hz=>?_⟩
   ·rcases List.mem_cons.1 ((h z).1 (by simp[hz]))with h1|h1
    ·have:=ha'.1 z hz;omega
    ·exact h1
   ·rcases List.mem_cons.1 ((h z).2 (by simp[hz]))with h1|h1
    ·have:=hb'.1 z hz;omega
    ·exact h1

def kept (l:List (Nat × Nat)):List E3:=(Ii l 0).filter fun e=>!(e.v==0)
def cur (l:List (Nat × Nat)) (seen:List Nat):List E3:=(Ii l 0).filter fun e=>!(decide (e.b∈seen)&&e.v==0)
def HZ (e:E3):PS:=⟨(e.k:Int) / 2,decide ((e.k:Int)%2=1),e.v⟩
theorem PI {α:Type}{f:α->Nat}:∀{es:List α},(es.map f).Nodup->∀{x y:α},x∈es->y∈es->f x=f y->x=y
 |[],_,_,_,h,_,_=>absurd h (by simp)
 | z::es,hn,x,y,hx,hy,e=>by
   simp only[List.map_cons,List.nodup_cons]at hn
   rcases List.mem_cons.1 hx with h1|h1
   ·rcases List.mem_cons.1 hy with h2|h2
    ·rw[h1,h2]
    ·exact absurd (show f z∈es.map f by rw[<-h1,e];exact List.mem_map.2 ⟨y,h2,rfl⟩) hn.1
   ·rcases List.mem_cons.1 hy with h2|h2
    ·exact absurd (show f z∈es.map f by rw[<-h2,<-e];exact List.mem_map.2 ⟨x,h1,rfl⟩) hn.1
    ·exact PI hn.2 h1 h2 e
theorem kO (l:List (Nat × Nat)) (i:Nat):(Ii l i).map E3.k=l.map Prod.fst:=by
 have:=congrArg (List.map Prod.fst) (dz l i)
 rw[List.map_map]at this
 exact this
theorem dA {l:List (Nat × Nat)}(h:(l.map Prod.fst).Pairwise (· < ·)):((Ii l 0).map E3.k).Nodup:=by
 rw[kO]
 exact h.imp fun h=>Nat.ne_of_lt h
theorem uB (l:List (Nat × Nat)):cur l []=Ii l 0:=List.filter_eq_self.2 (by simp)
theorem Oz {l:List (Nat × Nat)}{seen:List Nat}{e:E3}:e∈cur l seen↔e∈Ii l 0/\¬(e.b∈seen/\e.v=0):=by
 unfold cur
 rw[List.mem_filter]
 refine and_congr_right fun _=>?_
 simp
 exact⟨fun h hb=>h.resolve_left fun k=>k hb,fun h=>(Classical.em (e.b∈seen)).elim (fun hb=>.inr (h hb)) .inl⟩
theorem uD {l:List (Nat × Nat)}{seen:List Nat}(h:∀e∈cur l seen,e.b∈seen):cur l seen=kept l:=by
 unfold cur kept
 refine List.filter_congr fun e he=>?_
 by_cases hv:e.v=0
 ·have hb:e.b∈seen:=Classical.byContradiction fun hb=>hb (h e (Oz.2 ⟨he,fun k=>hb k.1⟩))
  simp[hv,hb]
 ·simp[hv]
theorem uC {l:List (Nat × Nat)}{seen:List Nat}{e:E3}(h:(l.map Prod.fst).Pairwise (· < ·)) (he:e∈cur l seen) (hv:e.v=0):((cur l seen).filter fun y=>!(y.k==e.k))=cur l (seen++[e.b]):=by
 have hz:=(Oz.1 he).1
 unfold cur
 rw[List.filter_filter]
 refine List.filter_congr fun y hy=>?_
 by_cases hk:y.k=e.k
 ·obtain rfl:=PI (dA h) hy hz hk
  simp[hv]
 ·have hb:y.b≠e.b:=fun hb=>hk (by rw[PI (IJ l 0) hy hz hb])
  simp[hk,hb]
theorem pC {l:List (Nat × Nat)}{seen:List Nat}{e:E3}(he:e∈cur l seen) (hv:e.v≠0):cur l (seen++[e.b])=cur l seen:=by
 have hz:=(Oz.1 he).1
 unfold cur
 refine List.filter_congr fun y hy=>?_
 by_cases hb:y.b=e.b
 ·obtain rfl:=PI (IJ l 0) hy hz hb
  simp[hv]
 ·simp[hb]
theorem KS {f:E3->Nat}{es:List E3}{p:E3->Bool}(h:(es.map f).Nodup):((es.filter p).map f).Nodup:=h.sublist (List.filter_sublist.map f)
theorem YB {l:List (Nat × Nat)}(h:(l.map Prod.fst).Pairwise (· < ·)):((kept l).map E3.k).Pairwise (· < ·):=by
 have:((Ii l 0).map E3.k).Pairwise (· < ·):=by rw[kO];exact h
 exact this.sublist (List.filter_sublist.map _)
theorem nt (l:List (Nat × Nat)):(kept l).length<=l.length:=by
 have:=List.length_filter_le (fun e:E3=>!(e.v==0)) (Ii l 0)
 rw[Rv]at this
 exact this

def Yk (l:List Nat):List Value:=l.map fun i:Nat=>Value.int .i64 ((i:Nat):Int)
theorem mK (l:List Nat) (i:Nat):Yk l++[.int .i64 (i:Int)]=Yk (l++[i]):=by simp[Yk]
theorem Yj (l:List Nat):Yk l=A0 (fun i=>((l.getD i 0:Nat):Int)) l.length:=by
 have:Yk l=cellsOf (fun i:Nat=>[Value.int .i64 ((i:Nat):Int)]) l:=by
  induction l with
  |nil=>rfl
  |cons x l ih=>show _::Yk l=[_]++cellsOf _ l;rw[ih];rfl
 rw[this]
 unfold A0
 exact KX (fun i:Nat=>[Value.int .i64 ((i:Nat):Int)]) l 0
theorem getD_inj {l:List Nat}(h:l.Nodup) {i j:Nat}(hi:i<l.length) (hj:j<l.length) (e:l.getD i 0=l.getD j 0):i=j:=by
 rw[List.getD_eq_getElem?_getD,List.getD_eq_getElem?_getD,List.getElem?_eq_getElem hi,List.getElem?_eq_getElem hj]at e
 simp only[Option.getD_some]at e
 have hp:=List.pairwise_iff_getElem.1 h
 rcases Nat.lt_trichotomy i j with h1|h1|h1
 ·exact absurd e (hp i j hi hj h1)
 ·exact h1
 ·exact absurd e.symm (hp j i hj hi h1)
theorem XJ {K:List E3}{os:List Nat}{f':Nat->Int}(hk:(K.map E3.k).Pairwise (· < ·)) (hn:os.length=K.length) (inc:∀i j,i<j->j<os.length->f' i<f' j) (sn:Pg os.length (fun i=>((os.getD i 0:Nat):Int)) f') (m1:∀e∈K,e.k∈os) (m2:∀k∈os,∃e∈K,e.k=k) {i:Nat} (hi:i<K.length):f' i=(((K.getD i ⟨0,0,0⟩).k:Nat):Int):=by
 have e:(List.range os.length).map f'=K.map fun e=>((e.k:Nat):Int):=by
  refine fk ?_ ?_ fun x=>?_
  ·rw[List.pairwise_iff_getElem]
   intro i j hi hj hij
   simp only[List.length_map,List.length_range]at hi hj
   simp only[List.getElem_map,List.getElem_range]
   exact inc i j hij hj
  ·rw[List.pairwise_map]at hk⊢
   exact hk.imp fun h=>Int.ofNat_lt.2 h
  ·simp only[List.mem_map,List.mem_range]
   constructor
   ·rintro⟨i,hi,rfl⟩
    obtain⟨j,hj,hj2⟩:=(sn.mem (f' i)).1 ⟨i,hi,rfl⟩
    have:os.getD j 0∈os:=by
     rw[List.getD_eq_getElem?_getD,List.getElem?_eq_getElem hj];exact List.getElem_mem hj
    obtain⟨e,he,h2⟩:=m2 _ this
    exact⟨e,he,by rw[h2];exact hj2⟩
   ·rintro⟨e,he,rfl⟩
    obtain⟨j,hj,h2⟩:=List.getElem_of_mem (m1 e he)
    obtain⟨i,hi,h3⟩:=(sn.mem ((e.k:Nat):Int)).2 ⟨j,hj,by rw[List.getD_eq_getElem?_getD,List.getElem?_eq_getElem hj,<-h2];rfl⟩
    exact⟨i,hi,h3⟩
 have h1:((List.range os.length).map f')[i]? =(K.map fun e=>((e.k:Nat):Int))[i]? :=by rw[e]
 rw[List.getElem?_map,List.getElem?_map,List.getElem?_range Al,List.getElem?_eq_getElem hi]at h1
 simp only[Option.map_some,Option.some.injEq]at h1
 rw[h1,List.getD_eq_getElem?_getD,List.getElem?_eq_getElem hi]
 rfl
theorem Uy {K:List E3}{i:Nat}(hi:i<K.length):K.take (i+1)=K.take i++[K.getD i ⟨0,0,0⟩]:=by
 rw[List.take_add_one,List.getElem?_eq_getElem hi,List.getD_eq_getElem?_getD,List.getElem?_eq_getElem hi]
 rfl
theorem qp {P:Program}{ts:Ts}{h:H}{r:ResultVar}{v:Value}(e:FZ P h ts r=some v):Hg P h ts [r]=some v:=by simp only[Hg,e]
theorem qD {J:AZ}{b q n:Nat}(h0:0<n) (i:In J (.slice (Ft q n) n 0)):In (J.mv b q) (.slice (Ft b n) n 0)/\ren (J.mv b q) (.slice (Ft b n) n 0)=ren J (.slice (Ft q n) n 0):=by
 cases n with
 |zero=>omega
 | succ n=>
   have hf:0<far:=by unfold far;omega
   simp only[Ft]at i⊢
   rw[Dp hf]at i⊢
   rw[CQ hf,CQ hf]
   obtain⟨⟨p,hp⟩,ic⟩:=i
   have e1:(J.mv b q).at_ b (some n)=J.at_ q (some n):=AZ.Ox
   have e2:(J.mv b q).cap b n=J.cap q n:=if_pos rfl
   refine⟨⟨⟨p,e1.trans hp⟩,?_⟩,?_⟩
   ·unfold E4 at ic⊢
    dsimp only at ic⊢
    rw[e2];exact ic
   ·unfold Ew CH
    dsimp only
    rw[e1,e2]
theorem xD (l:List E3):(cellsOf PS.cells (l.map HZ)).length=l.length*3:=by
 induction l with
 |nil=>rfl
 | cons x l ih=>
   simp only[List.map_cons,cellsOf,List.flatMap_cons,List.length_append,List.length_cons]at ih⊢
   rw[ih]
   simp only[PS.cells,List.length_cons,List.length_nil]
   omega

set_option maxHeartbeats 8000000 in
theorem sA {h:H}{lo m b rm N:Nat}{M:Mk}{S:Nat->Sd}(hlo:lo<=rm) (hlm:lo<=h.next) (hM:M.Ok S N b m h) (hm:m<=h.next) (hr:M.r=some rm) (hN:N<=1000):AW Tryz.prog 47 lo h [.agg ⟨M.cells⟩] (fun v h'=>v= .agg ⟨[.slice (Ft h.next (kept M.l).length) (kept M.l).length 0,.int .i64 M.t]⟩/\GX h.next h' 120 3 (kept M.l).length (cellsOf PS.cells ((kept M.l).map HZ))/\(∀r,r<h.next->r≠rm->h'.get r=h.get r)/\h.next<h'.next):=by
 obtain⟨hmg, -,hk,hv,hn, -⟩:=hM
 obtain⟨⟨hb1,hb2⟩,hg⟩:=hmg rm hr
 rw[Vj]at hg
 generalize hl:M.l=l at*
 generalize hR1:(if(kept l).length=0 then BQ.gone else On 120 3 (kept l).length (cellsOf PS.cells ((kept l).map HZ)))=R1
 have knd:∀seen,((cur l seen).map E3.k).Nodup:=fun seen=>KS (dA hk)
 have bnd:∀seen,((cur l seen).map E3.b).Nodup:=fun seen=>KS (IJ l 0)
 have blt:∀seen,∀e∈cur l seen,e.b<l.length:=fun seen e he=>by have:=(Kc l 0 (Oz.1 he).1).2.2;omega
 refine Afu.Ag2 (h1:=(((h.put rm .gone).bump 1).put h.next R1)) (v:=.agg ⟨[.slice (Ft h.next (kept l).length) (kept l).length 0,.int .i64 M.t]⟩) rfl hlm ?_ ?_ ?_ ?_
 ·show h.next<h.next+1;omega
 ·exact(Quiet.put hlo Al).trans ((Quiet.bump 1).trans (Quiet.put hlm (by show h.next<h.next+1;omega)))
 ·refine⟨rfl,⟨xD _,fun h0=>?_⟩,fun r h1 h2=>Aw fun y hy=>Aa,by show h.next<h.next+1;omega⟩
  have:R1=On 120 3 (kept l).length (cellsOf PS.cells ((kept l).map HZ)):=by rw[<-hR1,if_neg Al]
  rw[<-this]
  (exact Aa)
 have ec:(⟨M.cells⟩:Array Value)=⟨[.map (some rm),.int .i64 M.s.u,.int .i64 M.s.v,.int .i64 M.s.w,.int .i64 M.t]⟩:=by unfold Mk.cells;rw[hr]
 rw[ec]
 unfold a47
 (focus((try with_reducible apply wpC.to);(repeat'((conv=>whnf);first|refine Ak ?_|(apply Fork.mk<;>(intro _;try(exfalso;omega)))|((first|refine kTSpanM0 ?_|refine kTSpanK0 ?_|refine kTSpanH2 ?_|refine kTSpanH1 ?_|refine kTSpanH0 ?_|refine kTSpanG0 ?_|refine kTSpanF0 ?_|refine kTSpanE2 ?_|refine kTSpanE1 ?_|refine kTSpanE0 ?_|refine kTSpanC2 ?_|refine kTSpanC1 ?_|refine kTSpanC0 ?_|refine kTSpanB7 ?_|refine kTSpanB6 ?_|refine kTSpanB5 ?_|refine kTSpanB4 ?_|refine kTSpanB3 ?_|refine kTSpanB2 ?_|refine kTSpanB1 ?_|refine kTSpanB0 ?_);first|((first|apply Ae|apply Ac|apply Ad)<;>intro _ _ _ _<;>try contradiction)|(apply Ab;intro _ _ _))|refine Bg ?_|refine Ba ?_|refine A8 ?_|fail));all_goals((conv=>whnf);try with_reducible apply At.mk)))
 refine DT.mk (eP (r:=rm) (c:=l.length) rfl Aa) ?_
 (focus((try with_reducible apply wpC.to);(repeat'((conv=>whnf);first|refine Ak ?_|(apply Fork.mk<;>(intro _;try(exfalso;omega)))|((first|refine kTSpanM0 ?_|refine kTSpanK0 ?_|refine kTSpanH2 ?_|refine kTSpanH1 ?_|refine kTSpanH0 ?_|refine kTSpanG0 ?_|refine kTSpanF0 ?_|refine kTSpanE2 ?_|refine kTSpanE1 ?_|refine kTSpanE0 ?_|refine kTSpanC2 ?_|refine kTSpanC1 ?_|refine kTSpanC0 ?_|refine kTSpanB7 ?_|refine kTSpanB6 ?_|refine kTSpanB5 ?_|refine kTSpanB4 ?_|refine kTSpanB3 ?_|refine kTSpanB2 ?_|refine kTSpanB1 ?_|refine kTSpanB0 ?_);first|((first|apply Ae|apply Ac|apply Ad)<;>intro _ _ _ _<;>try contradiction)|(apply Ab;intro _ _ _))|refine Bg ?_|refine Ba ?_|refine A8 ?_|fail));all_goals((conv=>whnf);try with_reducible apply At.mk)))
 refine wp_loop (fun s:List Nat=>[(1,.pointer (some ⟨h.next,0,none⟩)),(2,.pointer (some ⟨h.next+1,0,none⟩)),(3,.pointer (some ⟨h.next+5,0,none⟩)),(15,.pointer (some ⟨h.next+9,0,none⟩))])
  (fun s h1=>h1.get h.next=some (.cells [.map (some rm),.int .i64 M.s.u,.int .i64 M.s.v,.int .i64 M.s.w,.int .i64 M.t] 111)/\h1.get (h.next+1)=some (.cells [.slice none 0 0,.int .i64 0] 51)/\h1.get (h.next+5)=some (.cells [.slice none 0 0,.int .i64 M.t] 51)/\h1.get rm=some (.map ((cur l s).map E3.ent) l.length)/\h1.get (h.next+9)=some (.iter rm l.length s l.length)/\(∀r,r<h.next->r≠rm->h1.get r=h.get r)/\h.next+10<=h1.next) (fun s=>us (Ii l 0) s) [] ⟨rfl,rfl,rfl,rfl,trivial⟩ ⟨Aa,Aa,Aa,by rw[uB];(exact Aa),Aa,fun r h1 h2=>Aw fun y hy=>Aa,Ah⟩ ?_
 rintro s g' h2 ⟨x0,x1,x5,xm,xi,fr,n2⟩ K hK
 (focus((try with_reducible apply wpC.to);(repeat'((conv=>whnf);first|refine Ak ?_|(apply Fork.mk<;>(intro _;try(exfalso;omega)))|((first|refine kTSpanM0 ?_|refine kTSpanK0 ?_|refine kTSpanH2 ?_|refine kTSpanH1 ?_|refine kTSpanH0 ?_|refine kTSpanG0 ?_|refine kTSpanF0 ?_|refine kTSpanE2 ?_|refine kTSpanE1 ?_|refine kTSpanE0 ?_|refine kTSpanC2 ?_|refine kTSpanC1 ?_|refine kTSpanC0 ?_|refine kTSpanB7 ?_|refine kTSpanB6 ?_|refine kTSpanB5 ?_|refine kTSpanB4 ?_|refine kTSpanB3 ?_|refine kTSpanB2 ?_|refine kTSpanB1 ?_|refine kTSpanB0 ?_);first|((first|apply Ae|apply Ac|apply Ad)<;>intro _ _ _ _<;>try contradiction)|(apply Ab;intro _ _ _))|refine Bg ?_|refine Ba ?_|refine A8 ?_|fail));all_goals((conv=>whnf);try with_reducible apply At.mk)))
 refine Xz (r:=h.next+9) (mr:=rm) (es:=cur l s) rfl Al Al Aa Aa (blt s) (Nat.le_refl _) (fun hz=>?_) (fun e he hns=>?_)
 ·rw [uD hz]at xm
  (focus((try with_reducible apply wpC.to);(repeat'((conv=>whnf);first|refine Ak ?_|(apply Fork.mk<;>(intro _;try(exfalso;omega)))|((first|refine kTSpanM0 ?_|refine kTSpanK0 ?_|refine kTSpanH2 ?_|refine kTSpanH1 ?_|refine kTSpanH0 ?_|refine kTSpanG0 ?_|refine kTSpanF0 ?_|refine kTSpanE2 ?_|refine kTSpanE1 ?_|refine kTSpanE0 ?_|refine kTSpanC2 ?_|refine kTSpanC1 ?_|refine kTSpanC0 ?_|refine kTSpanB7 ?_|refine kTSpanB6 ?_|refine kTSpanB5 ?_|refine kTSpanB4 ?_|refine kTSpanB3 ?_|refine kTSpanB2 ?_|refine kTSpanB1 ?_|refine kTSpanB0 ?_);first|((first|apply Ae|apply Ac|apply Ad)<;>intro _ _ _ _<;>try contradiction)|(apply Ab;intro _ _ _))|refine Bg ?_|refine Ba ?_|refine A8 ?_|fail));all_goals((conv=>whnf);try with_reducible apply At.mk)))
  refine DT.mk (eP (r:=rm) (c:=l.length) rfl Aa) ?_
  (focus((try with_reducible apply wpC.to);(repeat'((conv=>whnf);first|refine Ak ?_|(apply Fork.mk<;>(intro _;try(exfalso;omega)))|((first|refine kTSpanM0 ?_|refine kTSpanK0 ?_|refine kTSpanH2 ?_|refine kTSpanH1 ?_|refine kTSpanH0 ?_|refine kTSpanG0 ?_|refine kTSpanF0 ?_|refine kTSpanE2 ?_|refine kTSpanE1 ?_|refine kTSpanE0 ?_|refine kTSpanC2 ?_|refine kTSpanC1 ?_|refine kTSpanC0 ?_|refine kTSpanB7 ?_|refine kTSpanB6 ?_|refine kTSpanB5 ?_|refine kTSpanB4 ?_|refine kTSpanB3 ?_|refine kTSpanB2 ?_|refine kTSpanB1 ?_|refine kTSpanB0 ?_);first|((first|apply Ae|apply Ac|apply Ad)<;>intro _ _ _ _<;>try contradiction)|(apply Ab;intro _ _ _))|refine Bg ?_|refine Ba ?_|refine A8 ?_|fail));all_goals((conv=>whnf);try with_reducible apply At.mk)))
  have xX:((kept l).map E3.k).Nodup:=(YB hk).imp fun h=>Nat.ne_of_lt h
  have Ab8:((kept l).map E3.b).Nodup:=KS (IJ l 0)
  have An3:∀e∈kept l,e.b<l.length:=fun e he=>by have:=(Kc l 0 (List.mem_filter.1 he).1).2.2;omega
  have kl:=nt l
  refine wp_loop (fun s:List Nat × List Nat × Nat=>[(1,.pointer (some ⟨h.next,0,none⟩)),(2,.pointer (some ⟨h.next+1,0,none⟩)),(3,.pointer (some ⟨h.next+5,0,none⟩)),(6,.slice (Ft s.2.2 s.2.1.length) s.2.1.length 0),(28,.pointer (some ⟨h2.next+3,0,none⟩))])
   (fun s h1=>h1.get h.next=some (.cells [.map (some rm),.int .i64 M.s.u,.int .i64 M.s.v,.int .i64 M.s.w,.int .i64 M.t] 111)/\h1.get (h.next+1)=some (.cells [.slice none 0 0,.int .i64 0] 51)/\h1.get (h.next+5)=some (.cells [.slice none 0 0,.int .i64 M.t] 51)/\h1.get rm=some (.map ((kept l).map E3.ent) l.length)/\h1.get (h2.next+3)=some (.iter rm l.length s.1 l.length)/\(∀r,r<h.next->r≠rm->h1.get r=h.get r)/\h2.next+4<=h1.next/\GX s.2.2 h1 3 1 s.2.1.length (Yk s.2.1)/\(0<s.2.1.length->h2.next+4<=s.2.2/\s.2.2<h1.next)/\s.2.1.length+us (kept l) s.1=(kept l).length/\s.2.1.Nodup/\(∀e∈kept l,e.b∈s.1↔e.k∈s.2.1)/\∀k∈s.2.1,∃e∈kept l,e.k=k) (fun s=>us (kept l) s.1) ([],[],0) ⟨rfl,rfl,rfl,rfl,rfl,trivial⟩ ⟨Aa,Aa,Aa,Aa,Aa,fun r h1 h2=>(Aw fun y hy=>Aa).trans (fr r h1 h2),Ah,GX.nil,fun h=>absurd h (by simp),by simp[wV],by simp,fun e he=>by simp,fun k hk=>absurd hk (by simp)⟩ ?_
  rintro⟨sn,os,ro⟩ g'' h3 ⟨y0,y1,y5,ym,yi,WM,n3,G,gr,ul,nd,mm,ms⟩ K' hK'
  dsimp only at yi G gr ul nd mm ms⊢
  (focus((try with_reducible apply wpC.to);(repeat'((conv=>whnf);first|refine Ak ?_|(apply Fork.mk<;>(intro _;try(exfalso;omega)))|((first|refine kTSpanM0 ?_|refine kTSpanK0 ?_|refine kTSpanH2 ?_|refine kTSpanH1 ?_|refine kTSpanH0 ?_|refine kTSpanG0 ?_|refine kTSpanF0 ?_|refine kTSpanE2 ?_|refine kTSpanE1 ?_|refine kTSpanE0 ?_|refine kTSpanC2 ?_|refine kTSpanC1 ?_|refine kTSpanC0 ?_|refine kTSpanB7 ?_|refine kTSpanB6 ?_|refine kTSpanB5 ?_|refine kTSpanB4 ?_|refine kTSpanB3 ?_|refine kTSpanB2 ?_|refine kTSpanB1 ?_|refine kTSpanB0 ?_);first|((first|apply Ae|apply Ac|apply Ad)<;>intro _ _ _ _<;>try contradiction)|(apply Ab;intro _ _ _))|refine Bg ?_|refine Ba ?_|refine A8 ?_|fail));all_goals((conv=>whnf);try with_reducible apply At.mk)))
  refine Xz (r:=h2.next+3) (mr:=rm) (es:=kept l) rfl Al Al Aa Aa An3 (Nat.le_refl _) (fun hz=>?_) (fun e he hns=>?_)
  ·have ul0:os.length=(kept l).length:=by have:=rA hz;omega
   have m1:∀e∈kept l,e.k∈os:=fun e he=>(mm e he).1 (hz e he)
   (focus((try with_reducible apply wpC.to);(repeat'((conv=>whnf);first|refine Ak ?_|(apply Fork.mk<;>(intro _;try(exfalso;omega)))|((first|refine kTSpanM0 ?_|refine kTSpanK0 ?_|refine kTSpanH2 ?_|refine kTSpanH1 ?_|refine kTSpanH0 ?_|refine kTSpanG0 ?_|refine kTSpanF0 ?_|refine kTSpanE2 ?_|refine kTSpanE1 ?_|refine kTSpanE0 ?_|refine kTSpanC2 ?_|refine kTSpanC1 ?_|refine kTSpanC0 ?_|refine kTSpanB7 ?_|refine kTSpanB6 ?_|refine kTSpanB5 ?_|refine kTSpanB4 ?_|refine kTSpanB3 ?_|refine kTSpanB2 ?_|refine kTSpanB1 ?_|refine kTSpanB0 ?_);first|((first|apply Ae|apply Ac|apply Ad)<;>intro _ _ _ _<;>try contradiction)|(apply Ab;intro _ _ _))|refine Bg ?_|refine Ba ?_|refine A8 ?_|fail));all_goals((conv=>whnf);try with_reducible apply At.mk)))
   apply GD
   focus exact w9 (r:=ro) (f:=fun i=>((os.getD i 0:Nat):Int)) Ah (fun h0=>by have:=gr h0;exact⟨by omega,Ah⟩) Al (fun h0=>by have x:=(G.t6 h0).frame (h':=h3.bump 2) rfl;rw[Yj]at x;exact x) (fun i j hi hj e=>getD_inj nd hi hj Al)
   rintro _ h4 ⟨f',inc,sm',ir,n4,OS⟩ q4
   simp only[Bv,AY]at n4 OS
   have hf:∀i,i<(kept l).length->f' i=(((kept l).getD i ⟨0,0,0⟩).k:Int):=fun i hi=>XJ (YB hk) ul0 inc sm' m1 ms hi
   have YD:∀r,r<h2.next+4->h4.get r=h3.get r:=fun r hr=>by
    exact(OS r Al fun h0=>by have:=gr h0;omega).trans rfl
   (focus((try with_reducible apply wpC.to);(repeat'((conv=>whnf);first|refine Ak ?_|(apply Fork.mk<;>(intro _;try(exfalso;omega)))|((first|refine kTSpanM0 ?_|refine kTSpanK0 ?_|refine kTSpanH2 ?_|refine kTSpanH1 ?_|refine kTSpanH0 ?_|refine kTSpanG0 ?_|refine kTSpanF0 ?_|refine kTSpanE2 ?_|refine kTSpanE1 ?_|refine kTSpanE0 ?_|refine kTSpanC2 ?_|refine kTSpanC1 ?_|refine kTSpanC0 ?_|refine kTSpanB7 ?_|refine kTSpanB6 ?_|refine kTSpanB5 ?_|refine kTSpanB4 ?_|refine kTSpanB3 ?_|refine kTSpanB2 ?_|refine kTSpanB1 ?_|refine kTSpanB0 ?_);first|((first|apply Ae|apply Ac|apply Ad)<;>intro _ _ _ _<;>try contradiction)|(apply Ab;intro _ _ _))|refine Bg ?_|refine Ba ?_|refine A8 ?_|fail));all_goals((conv=>whnf);try with_reducible apply At.mk)))
   refine wp_loop (fun s:Nat × Nat=>[(1,.pointer (some ⟨h.next,0,none⟩)),(2,.pointer (some ⟨h.next+1,0,none⟩)),(3,.pointer (some ⟨h.next+5,0,none⟩)),(39,.slice (Ft ro os.length) os.length 0),(40,.int .i64 os.length),(41,.int .i64 s.1)])
    (fun s h1=>h1.get h.next=some (.cells [.map (some rm),.int .i64 M.s.u,.int .i64 M.s.v,.int .i64 M.s.w,.int .i64 M.t] 111)/\h1.get (h.next+1)=some (.cells [.slice none 0 0,.int .i64 0] 51)/\h1.get (h.next+5)=some (.cells [.slice (Ft s.2 s.1) s.1 0,.int .i64 M.t] 51)/\h1.get rm=some (.map ((kept l).map E3.ent) l.length)/\(∀r,r<h.next->r≠rm->h1.get r=h.get r)/\h4.next<=h1.next/\(0<os.length->h1.get ro=h4.get ro)/\GX s.2 h1 120 3 s.1 (cellsOf PS.cells (((kept l).take s.1).map HZ))/\(0<s.1->h4.next<=s.2/\s.2<h1.next)/\s.1<=os.length) (fun s=>os.length - s.1) (0,0) ⟨rfl,rfl,rfl,rfl,rfl,rfl,trivial⟩ ⟨by have:=YD h.next Al;(exact Aa),by have:=YD (h.next+1) Al;(exact Aa),by have:=YD (h.next+5) Al;(exact Aa),by have:=YD rm Al;(exact Aa),fun r h1 h2=>(YD r Al).trans (WM r h1 h2),Ah,fun _=>rfl,GX.nil,fun h=>absurd h (by simp),by omega⟩ ?_
   rintro⟨i,rs⟩ g3 h5 ⟨z0,z1,z5,zm,jC,n5,zo,G5,oF,hi⟩ K'' tV
   dsimp only at z5 G5 oF hi⊢
   by_cases hin:i<os.length
   ·have hi':i<(kept l).length:=by omega
    have hmem:(kept l).getD i ⟨0,0,0⟩∈kept l:=by
     rw[List.getD_eq_getElem?_getD,List.getElem?_eq_getElem hi'];exact List.getElem_mem hi'
    obtain⟨a,ha,hab,ints⟩:=((ir Al).frame (zo Al)).ints
    have Aoa:Ints h5 a os.length (fun i=>(((kept l).getD i ⟨0,0,0⟩).k:Int)):=fun j hj=>by have:=ints j hj;rw[hf j Al]at this;exact this
    have gro:=gr Al
    have Aob:a.block<h5.next:=by rw[hab];omega
    have haI:0<os.length->Ft ro os.length=some a:=fun _=>ha
    clear ints
    have hkv:=hv _ (Kc l 0 (List.mem_filter.1 hmem).1).1
    dsimp only at hkv
    (focus((try with_reducible apply wpC.to);(repeat'((conv=>whnf);first|refine Ak ?_|(apply Fork.mk<;>(intro _;try(exfalso;omega)))|((first|refine kTSpanM0 ?_|refine kTSpanK0 ?_|refine kTSpanH2 ?_|refine kTSpanH1 ?_|refine kTSpanH0 ?_|refine kTSpanG0 ?_|refine kTSpanF0 ?_|refine kTSpanE2 ?_|refine kTSpanE1 ?_|refine kTSpanE0 ?_|refine kTSpanC2 ?_|refine kTSpanC1 ?_|refine kTSpanC0 ?_|refine kTSpanB7 ?_|refine kTSpanB6 ?_|refine kTSpanB5 ?_|refine kTSpanB4 ?_|refine kTSpanB3 ?_|refine kTSpanB2 ?_|refine kTSpanB1 ?_|refine kTSpanB0 ?_);first|((first|apply Ae|apply Ac|apply Ad)<;>intro _ _ _ _<;>try contradiction)|(apply Ab;intro _ _ _))|refine Bg ?_|refine Ba ?_|refine A8 ?_|fail));all_goals((conv=>whnf);try with_reducible apply At.mk)))
    ·have hps:[Value.int .i64 ((((kept l).getD i ⟨0,0,0⟩).k:Int) / 2),.bool true,.int .i64 (((kept l).getD i ⟨0,0,0⟩).v:Int)]=(HZ ((kept l).getD i ⟨0,0,0⟩)).cells:=by
      unfold HZ PS.cells
      dsimp only
      rw[decide_eq_true Al]
     refine DT.mk (eU (r:=rm) (es:=kept l) (e:=(kept l).getD i ⟨0,0,0⟩) (c:=l.length) Tryz.underlying3 rfl rfl Aa hmem xX) ?_
     (focus((try with_reducible apply wpC.to);(repeat'((conv=>whnf);first|refine Ak ?_|(apply Fork.mk<;>(intro _;try(exfalso;omega)))|((first|refine kTSpanM0 ?_|refine kTSpanK0 ?_|refine kTSpanH2 ?_|refine kTSpanH1 ?_|refine kTSpanH0 ?_|refine kTSpanG0 ?_|refine kTSpanF0 ?_|refine kTSpanE2 ?_|refine kTSpanE1 ?_|refine kTSpanE0 ?_|refine kTSpanC2 ?_|refine kTSpanC1 ?_|refine kTSpanC0 ?_|refine kTSpanB7 ?_|refine kTSpanB6 ?_|refine kTSpanB5 ?_|refine kTSpanB4 ?_|refine kTSpanB3 ?_|refine kTSpanB2 ?_|refine kTSpanB1 ?_|refine kTSpanB0 ?_);first|((first|apply Ae|apply Ac|apply Ad)<;>intro _ _ _ _<;>try contradiction)|(apply Ab;intro _ _ _))|refine Bg ?_|refine Ba ?_|refine A8 ?_|fail));all_goals((conv=>whnf);try with_reducible apply At.mk)))
     apply aJ (r:=rs) (n:=i) (cs:=cellsOf PS.cells (((kept l).take i).map HZ)) (nc:=[Value.int .i64 ((((kept l).getD i ⟨0,0,0⟩).k:Int) / 2),.bool true,.int .i64 (((kept l).getD i ⟨0,0,0⟩).v:Int)])
     case G=>exact G5.frame fun h0=>Aw fun y hy=>by have:=oF h0;(exact Aa)
     case hsv=>exact rfl
     case C=>exact Cells.one Ez (by unfold far;omega) rfl rfl
     case hlo=>exact fun h0=>by have:=oF h0;omega
     case hsm=>omega
     rw[hps,<-JK,<-List.map_singleton,<-List.map_append,<-Uy hi']
     intro rs' a1 a2 G'
     have c4:h4.next<=rs':=by
      rcases Nat.eq_zero_or_pos i with h0|h0
      ·have:=a1 h0;(exact Ah)
      ·have:=a2 h0;have:=oF h0;omega
     have c5:rs'<h5.next+25:=by
      rcases Nat.eq_zero_or_pos i with h0|h0
      ·have:=a1 h0;omega
      ·have:=a2 h0;have:=oF h0;omega
     (focus((try with_reducible apply wpC.to);(repeat'((conv=>whnf);first|refine Ak ?_|(apply Fork.mk<;>(intro _;try(exfalso;omega)))|((first|refine kTSpanM0 ?_|refine kTSpanK0 ?_|refine kTSpanH2 ?_|refine kTSpanH1 ?_|refine kTSpanH0 ?_|refine kTSpanG0 ?_|refine kTSpanF0 ?_|refine kTSpanE2 ?_|refine kTSpanE1 ?_|refine kTSpanE0 ?_|refine kTSpanC2 ?_|refine kTSpanC1 ?_|refine kTSpanC0 ?_|refine kTSpanB7 ?_|refine kTSpanB6 ?_|refine kTSpanB5 ?_|refine kTSpanB4 ?_|refine kTSpanB3 ?_|refine kTSpanB2 ?_|refine kTSpanB1 ?_|refine kTSpanB0 ?_);first|((first|apply Ae|apply Ac|apply Ad)<;>intro _ _ _ _<;>try contradiction)|(apply Ab;intro _ _ _))|refine Bg ?_|refine Ba ?_|refine A8 ?_|fail));all_goals((conv=>whnf);try with_reducible apply At.mk)))
     exact tV (i+1,rs') _ _ ⟨rfl,rfl,rfl,rfl,rfl,AK rfl (by dsimp only;omega),trivial⟩ ⟨Aa,Aa,Aa,Aa,fun r h1 h2=>(Aw fun y hy=>Aa).trans (jC r h1 h2),Ah,fun h0=>(Aw fun y hy=>Aa).trans (zo h0),G'.frame fun _=>Aw fun y hy=>Aa,fun _=>⟨c4,Ah⟩,by dsimp only;omega⟩ (by dsimp only;omega)
    ·have hps:[Value.int .i64 ((((kept l).getD i ⟨0,0,0⟩).k:Int) / 2),.bool false,.int .i64 (((kept l).getD i ⟨0,0,0⟩).v:Int)]=(HZ ((kept l).getD i ⟨0,0,0⟩)).cells:=by
      unfold HZ PS.cells
      dsimp only
      rw[decide_eq_false Al]
     refine DT.mk (eU (r:=rm) (es:=kept l) (e:=(kept l).getD i ⟨0,0,0⟩) (c:=l.length) Tryz.underlying3 rfl rfl Aa hmem xX) ?_
     (focus((try with_reducible apply wpC.to);(repeat'((conv=>whnf);first|refine Ak ?_|(apply Fork.mk<;>(intro _;try(exfalso;omega)))|((first|refine kTSpanM0 ?_|refine kTSpanK0 ?_|refine kTSpanH2 ?_|refine kTSpanH1 ?_|refine kTSpanH0 ?_|refine kTSpanG0 ?_|refine kTSpanF0 ?_|refine kTSpanE2 ?_|refine kTSpanE1 ?_|refine kTSpanE0 ?_|refine kTSpanC2 ?_|refine kTSpanC1 ?_|refine kTSpanC0 ?_|refine kTSpanB7 ?_|refine kTSpanB6 ?_|refine kTSpanB5 ?_|refine kTSpanB4 ?_|refine kTSpanB3 ?_|refine kTSpanB2 ?_|refine kTSpanB1 ?_|refine kTSpanB0 ?_);first|((first|apply Ae|apply Ac|apply Ad)<;>intro _ _ _ _<;>try contradiction)|(apply Ab;intro _ _ _))|refine Bg ?_|refine Ba ?_|refine A8 ?_|fail));all_goals((conv=>whnf);try with_reducible apply At.mk)))
     apply aJ (r:=rs) (n:=i) (cs:=cellsOf PS.cells (((kept l).take i).map HZ)) (nc:=[Value.int .i64 ((((kept l).getD i ⟨0,0,0⟩).k:Int) / 2),.bool false,.int .i64 (((kept l).getD i ⟨0,0,0⟩).v:Int)])
     case G=>exact G5.frame fun h0=>Aw fun y hy=>by have:=oF h0;(exact Aa)
     case hsv=>exact rfl
     case C=>exact Cells.one Ez (by unfold far;omega) rfl rfl
     case hlo=>exact fun h0=>by have:=oF h0;omega
     case hsm=>omega
     rw[hps,<-JK,<-List.map_singleton,<-List.map_append,<-Uy hi']
     intro rs' a1 a2 G'
     have c4:h4.next<=rs':=by
      rcases Nat.eq_zero_or_pos i with h0|h0
      ·have:=a1 h0;(exact Ah)
      ·have:=a2 h0;have:=oF h0;omega
     have c5:rs'<h5.next+25:=by
      rcases Nat.eq_zero_or_pos i with h0|h0
      ·have:=a1 h0;omega
      ·have:=a2 h0;have:=oF h0;omega
     (focus((try with_reducible apply wpC.to);(repeat'((conv=>whnf);first|refine Ak ?_|(apply Fork.mk<;>(intro _;try(exfalso;omega)))|((first|refine kTSpanM0 ?_|refine kTSpanK0 ?_|refine kTSpanH2 ?_|refine kTSpanH1 ?_|refine kTSpanH0 ?_|refine kTSpanG0 ?_|refine kTSpanF0 ?_|refine kTSpanE2 ?_|refine kTSpanE1 ?_|refine kTSpanE0 ?_|refine kTSpanC2 ?_|refine kTSpanC1 ?_|refine kTSpanC0 ?_|refine kTSpanB7 ?_|refine kTSpanB6 ?_|refine kTSpanB5 ?_|refine kTSpanB4 ?_|refine kTSpanB3 ?_|refine kTSpanB2 ?_|refine kTSpanB1 ?_|refine kTSpanB0 ?_);first|((first|apply Ae|apply Ac|apply Ad)<;>intro _ _ _ _<;>try contradiction)|(apply Ab;intro _ _ _))|refine Bg ?_|refine Ba ?_|refine A8 ?_|fail));all_goals((conv=>whnf);try with_reducible apply At.mk)))
     exact tV (i+1,rs') _ _ ⟨rfl,rfl,rfl,rfl,rfl,AK rfl (by dsimp only;omega),trivial⟩ ⟨Aa,Aa,Aa,Aa,fun r h1 h2=>(Aw fun y hy=>Aa).trans (jC r h1 h2),Ah,fun h0=>(Aw fun y hy=>Aa).trans (zo h0),G'.frame fun _=>Aw fun y hy=>Aa,fun _=>⟨c4,Ah⟩,by dsimp only;omega⟩ (by dsimp only;omega)
   ·obtain rfl:i=os.length:=by omega
    rw[ul0,List.take_length]at G5
    (focus((try with_reducible apply wpC.to);(repeat'((conv=>whnf);first|refine Ak ?_|(apply Fork.mk<;>(intro _;try(exfalso;omega)))|((first|refine kTSpanM0 ?_|refine kTSpanK0 ?_|refine kTSpanH2 ?_|refine kTSpanH1 ?_|refine kTSpanH0 ?_|refine kTSpanG0 ?_|refine kTSpanF0 ?_|refine kTSpanE2 ?_|refine kTSpanE1 ?_|refine kTSpanE0 ?_|refine kTSpanC2 ?_|refine kTSpanC1 ?_|refine kTSpanC0 ?_|refine kTSpanB7 ?_|refine kTSpanB6 ?_|refine kTSpanB5 ?_|refine kTSpanB4 ?_|refine kTSpanB3 ?_|refine kTSpanB2 ?_|refine kTSpanB1 ?_|refine kTSpanB0 ?_);first|((first|apply Ae|apply Ac|apply Ad)<;>intro _ _ _ _<;>try contradiction)|(apply Ab;intro _ _ _))|refine Bg ?_|refine Ba ?_|refine A8 ?_|fail));all_goals((conv=>whnf);try with_reducible apply At.mk)))
    refine⟨.inr rfl,if 0<os.length then rs else h.next,.agg ⟨[.slice (Ft rs os.length) os.length 0,.int .i64 M.t]⟩,?_,?_,fun J iJ=>?_,fun r row h1 h2=>?_,fun row h2=>?_⟩
    ·split
     ·have:=oF (by assumption);omega
     ·omega
    ·have hh:(((h5.bump 1).bump 2).put (h.next+1) (.cells [.slice (Ft rs os.length) os.length 0,.int .i64 M.t] 51)).get (h.next+1)=some (.cells [.slice (Ft rs os.length) os.length 0,.int .i64 M.t] 51):=by(exact Aa)
     refine qp ?_
     apply eG
     focus exact rfl
     focus exact rfl
     focus exact rfl
     focus exact hh
     focus exact rfl
     focus exact Is.rfl
    ·rw[<-ul0]
     rcases Nat.eq_zero_or_pos os.length with h0|h0
     ·rw[h0]
      simp[Ft,In,C5,ren,AX]
     ·rw[if_pos h0]
      simp only[In,C5,and_true]at iJ
      obtain⟨k1,k2⟩:=qD (b:=h.next) h0 iJ
      simp only[In,C5,ren,AX,k1,k2,and_self]
    ·by_cases e:r=rm
     ·subst e
      refine .inl ?_
      have:(((h.put r .gone).bump 1).put h.next R1).get r=some .gone:=by(exact Aa)
      rw[this]at h2
      exact(Option.some.inj h2).symm
     ·refine .inr ?_
      have h3':(((h.put rm .gone).bump 1).put h.next R1).get r=h.get r:=Aw fun y hy=>by(exact Aa)
      rw[h3']at h2
      exact⟨h2,((Aw fun y hy=>Aa).trans (jC r h1 e)).trans h2⟩
    ·have h3':(((h.put rm .gone).bump 1).put h.next R1).get h.next=some R1:=by(exact Aa)
     rw[h3']at h2
     obtain rfl:=Option.some.inj h2
     rcases Nat.eq_zero_or_pos os.length with h0|h0
     ·rw[if_neg Al]
      rw[if_pos Al]at hR1
      subst hR1
      exact⟨_,Aa,fun _ _ _=>trivial⟩
     ·rw[if_pos h0]
      rw[if_neg Al]at hR1
      subst hR1
      have:=oF h0
      refine⟨On 120 3 (kept l).length (cellsOf PS.cells ((kept l).map HZ)),?_,fun J w k=>fB (fun v hv I=>?_) k⟩
      ·have hg5:=G5.g Al
       (exact Aa)
      ·obtain⟨x,hx,hv⟩:=List.mem_flatMap.1 hv
       simp only[PS.cells,List.mem_cons,List.not_mem_nil,or_false]at hv
       rcases hv with rfl|rfl|rfl<;>simp[In,ren]
  ·(focus((try with_reducible apply wpC.to);(repeat'((conv=>whnf);first|refine Ak ?_|(apply Fork.mk<;>(intro _;try(exfalso;omega)))|((first|refine kTSpanM0 ?_|refine kTSpanK0 ?_|refine kTSpanH2 ?_|refine kTSpanH1 ?_|refine kTSpanH0 ?_|refine kTSpanG0 ?_|refine kTSpanF0 ?_|refine kTSpanE2 ?_|refine kTSpanE1 ?_|refine kTSpanE0 ?_|refine kTSpanC2 ?_|refine kTSpanC1 ?_|refine kTSpanC0 ?_|refine kTSpanB7 ?_|refine kTSpanB6 ?_|refine kTSpanB5 ?_|refine kTSpanB4 ?_|refine kTSpanB3 ?_|refine kTSpanB2 ?_|refine kTSpanB1 ?_|refine kTSpanB0 ?_);first|((first|apply Ae|apply Ac|apply Ad)<;>intro _ _ _ _<;>try contradiction)|(apply Ab;intro _ _ _))|refine Bg ?_|refine Ba ?_|refine A8 ?_|fail));all_goals((conv=>whnf);try with_reducible apply At.mk)))
   refine DT.mk (o7 (r:=h2.next+3) (mr:=rm) (es:=kept l) (e:=e) (seen:=sn) (c:=l.length) rfl Aa Aa he Ab8) ?_
   (focus((try with_reducible apply wpC.to);(repeat'((conv=>whnf);first|refine Ak ?_|(apply Fork.mk<;>(intro _;try(exfalso;omega)))|((first|refine kTSpanM0 ?_|refine kTSpanK0 ?_|refine kTSpanH2 ?_|refine kTSpanH1 ?_|refine kTSpanH0 ?_|refine kTSpanG0 ?_|refine kTSpanF0 ?_|refine kTSpanE2 ?_|refine kTSpanE1 ?_|refine kTSpanE0 ?_|refine kTSpanC2 ?_|refine kTSpanC1 ?_|refine kTSpanC0 ?_|refine kTSpanB7 ?_|refine kTSpanB6 ?_|refine kTSpanB5 ?_|refine kTSpanB4 ?_|refine kTSpanB3 ?_|refine kTSpanB2 ?_|refine kTSpanB1 ?_|refine kTSpanB0 ?_);first|((first|apply Ae|apply Ac|apply Ad)<;>intro _ _ _ _<;>try contradiction)|(apply Ab;intro _ _ _))|refine Bg ?_|refine Ba ?_|refine A8 ?_|fail));all_goals((conv=>whnf);try with_reducible apply At.mk)))
   apply aJ (r:=ro) (n:=os.length) (cs:=Yk os) (nc:=[.int .i64 (e.k:Int)])
   case G=>exact G.frame fun h0=>Aw fun y hy=>by have:=gr h0;(exact Aa)
   case hsv=>exact rfl
   case C=>exact Cells.one Ez (by unfold far;omega) rfl rfl
   case hlo=>exact fun h0=>by have:=gr h0;omega
   case hsm=>omega
   intro ro' a1 a2 G'
   rw[mK]at G'⊢
   have c4:h2.next+4<=ro':=by
    rcases Nat.eq_zero_or_pos os.length with h0|h0
    ·have:=a1 h0;(exact Ah)
    ·have:=a2 h0;have:=gr h0;omega
   have c5:ro'<h3.next+7:=by
    rcases Nat.eq_zero_or_pos os.length with h0|h0
    ·have:=a1 h0;omega
    ·have:=a2 h0;have:=gr h0;omega
   have hno:e.k∉os:=fun hk'=>hns ((mm e he).2 hk')
   have hel:(os++[e.k]).length=os.length+1:=by simp
   (focus((try with_reducible apply wpC.to);(repeat'((conv=>whnf);first|refine Ak ?_|(apply Fork.mk<;>(intro _;try(exfalso;omega)))|((first|refine kTSpanM0 ?_|refine kTSpanK0 ?_|refine kTSpanH2 ?_|refine kTSpanH1 ?_|refine kTSpanH0 ?_|refine kTSpanG0 ?_|refine kTSpanF0 ?_|refine kTSpanE2 ?_|refine kTSpanE1 ?_|refine kTSpanE0 ?_|refine kTSpanC2 ?_|refine kTSpanC1 ?_|refine kTSpanC0 ?_|refine kTSpanB7 ?_|refine kTSpanB6 ?_|refine kTSpanB5 ?_|refine kTSpanB4 ?_|refine kTSpanB3 ?_|refine kTSpanB2 ?_|refine kTSpanB1 ?_|refine kTSpanB0 ?_);first|((first|apply Ae|apply Ac|apply Ad)<;>intro _ _ _ _<;>try contradiction)|(apply Ab;intro _ _ _))|refine Bg ?_|refine Ba ?_|refine A8 ?_|fail));all_goals((conv=>whnf);try with_reducible apply At.mk)))
   refine hK' (sn++[e.b],os++[e.k],ro') _ _ ⟨rfl,rfl,rfl,by rw[hel];rfl,rfl,trivial⟩ ⟨Aa,Aa,Aa,Aa,Aa,fun r h1 h2=>(Aw fun y hy=>Aa).trans (WM r h1 h2),Ah,by dsimp only;rw[hel];exact G'.frame fun _=>Aw fun y hy=>Aa,fun _=>⟨c4,Ah⟩,by dsimp only;rw[hel];have:=wU Ab8 he hns;omega,?_,fun e' he'=>?_,fun k hk'=>?_⟩ (VG he hns)
   ·dsimp only
    rw[List.nodup_append]
    exact⟨nd,by simp,fun a ha b hb=>by simp only[List.mem_singleton]at hb;subst hb;exact fun h=>hno (h▸ha)⟩
   ·dsimp only
    rw[List.mem_append,List.mem_append,mm e' he']
    refine or_congr Iff.rfl ?_
    simp only[List.mem_singleton]
    exact⟨fun h=>by rw[PI Ab8 he' he h],fun h=>by rw[PI xX he' he h]⟩
   ·dsimp only at hk'
    rcases List.mem_append.1 hk' with h1|h1
    ·exact ms k h1
    ·exact⟨e,he,(List.mem_singleton.1 h1).symm⟩
 ·have hez:=(Oz.1 he).1
  (focus((try with_reducible apply wpC.to);(repeat'((conv=>whnf);first|refine Ak ?_|(apply Fork.mk<;>(intro _;try(exfalso;omega)))|((first|refine kTSpanM0 ?_|refine kTSpanK0 ?_|refine kTSpanH2 ?_|refine kTSpanH1 ?_|refine kTSpanH0 ?_|refine kTSpanG0 ?_|refine kTSpanF0 ?_|refine kTSpanE2 ?_|refine kTSpanE1 ?_|refine kTSpanE0 ?_|refine kTSpanC2 ?_|refine kTSpanC1 ?_|refine kTSpanC0 ?_|refine kTSpanB7 ?_|refine kTSpanB6 ?_|refine kTSpanB5 ?_|refine kTSpanB4 ?_|refine kTSpanB3 ?_|refine kTSpanB2 ?_|refine kTSpanB1 ?_|refine kTSpanB0 ?_);first|((first|apply Ae|apply Ac|apply Ad)<;>intro _ _ _ _<;>try contradiction)|(apply Ab;intro _ _ _))|refine Bg ?_|refine Ba ?_|refine A8 ?_|fail));all_goals((conv=>whnf);try with_reducible apply At.mk)))
  refine DT.mk (o7 (r:=h.next+9) (mr:=rm) (es:=cur l s) (e:=e) (seen:=s) (c:=l.length) rfl Aa Aa he (bnd s)) ?_
  (focus((try with_reducible apply wpC.to);(repeat'((conv=>whnf);first|refine Ak ?_|(apply Fork.mk<;>(intro _;try(exfalso;omega)))|((first|refine kTSpanM0 ?_|refine kTSpanK0 ?_|refine kTSpanH2 ?_|refine kTSpanH1 ?_|refine kTSpanH0 ?_|refine kTSpanG0 ?_|refine kTSpanF0 ?_|refine kTSpanE2 ?_|refine kTSpanE1 ?_|refine kTSpanE0 ?_|refine kTSpanC2 ?_|refine kTSpanC1 ?_|refine kTSpanC0 ?_|refine kTSpanB7 ?_|refine kTSpanB6 ?_|refine kTSpanB5 ?_|refine kTSpanB4 ?_|refine kTSpanB3 ?_|refine kTSpanB2 ?_|refine kTSpanB1 ?_|refine kTSpanB0 ?_);first|((first|apply Ae|apply Ac|apply Ad)<;>intro _ _ _ _<;>try contradiction)|(apply Ab;intro _ _ _))|refine Bg ?_|refine Ba ?_|refine A8 ?_|fail));all_goals((conv=>whnf);try with_reducible apply At.mk)))
  ·have hv0:e.v=0:=by omega
   refine DT.mk (uy (r:=rm) (es:=cur l s) (e:=e) (c:=l.length) Tryz.underlying3 rfl rfl hlo Aa he (knd s)) ?_
   rw[uC hk he hv0]
   (focus((try with_reducible apply wpC.to);(repeat'((conv=>whnf);first|refine Ak ?_|(apply Fork.mk<;>(intro _;try(exfalso;omega)))|((first|refine kTSpanM0 ?_|refine kTSpanK0 ?_|refine kTSpanH2 ?_|refine kTSpanH1 ?_|refine kTSpanH0 ?_|refine kTSpanG0 ?_|refine kTSpanF0 ?_|refine kTSpanE2 ?_|refine kTSpanE1 ?_|refine kTSpanE0 ?_|refine kTSpanC2 ?_|refine kTSpanC1 ?_|refine kTSpanC0 ?_|refine kTSpanB7 ?_|refine kTSpanB6 ?_|refine kTSpanB5 ?_|refine kTSpanB4 ?_|refine kTSpanB3 ?_|refine kTSpanB2 ?_|refine kTSpanB1 ?_|refine kTSpanB0 ?_);first|((first|apply Ae|apply Ac|apply Ad)<;>intro _ _ _ _<;>try contradiction)|(apply Ab;intro _ _ _))|refine Bg ?_|refine Ba ?_|refine A8 ?_|fail));all_goals((conv=>whnf);try with_reducible apply At.mk)))
   exact hK (s++[e.b]) _ _ ⟨rfl,rfl,rfl,rfl,trivial⟩ ⟨Aa,Aa,Aa,Aa,Aa,fun r h1 h2=>(Aw fun y hy=>Aa).trans (fr r h1 h2),Ah⟩ (VG hez hns)
  ·have hv0:e.v≠0:=by omega
   exact hK (s++[e.b]) _ _ ⟨rfl,rfl,rfl,rfl,trivial⟩ ⟨Aa,Aa,Aa,by rw[pC he hv0];(exact Aa),Aa,fun r h1 h2=>(Aw fun y hy=>Aa).trans (fr r h1 h2),Ah⟩ (VG hez hns)
end AE.Tryz.Spn
