/- Walks and plain laws: TSpanS, TSpanT, TSpanU, TSpanOne. -/
import Derived.Test.YtneenfjffejnoaaGreatAEBy2
import Derived.Test.YtneenfjffejnoaaGreatJoin35
set_option linter.unusedVariables false
set_option linter.unusedSimpArgs false
set_option linter.unusedSectionVars false

/- Walks of span: a truth; how wide two factors are. -/
namespace AE.Tryz.Spn
open Go AE Go.Proofs AE.Sp
set_option maxRecDepth 100000
set_option linter.unusedVariables false

theorem lK {h:H}{L:Runs}{m:Nat}(hm:m<=h.next) (hL:L.Ok m h):AW Tryz.prog 11 h.next h [.slice L.b L.n L.c] (fun v _=>∃t:Er,v= .tuple #[.agg ⟨t.cells⟩,.int .i64 (L.EH 0 0)]/\(L.EH 0 0≠0->t=⟨0,0,0⟩)/\(L.EH 0 0=0->Att L 0 0 t)):=by
 refine Agq.call rfl (Nat.le_refl _) ?_
 unfold a11
 (refine Aj ?_)
 apply Ar
 focus(exact Ao)
 focus(exact AQ)
 focus exact qj (L:=L) (m:=m) (p:=0) (q:=0) Ah (hL.same Aq (Nat.le_refl _))
 rintro _ h2 ⟨t,rfl,b1,b2⟩ q2 n2
 unfold Er.cells
 (refine Aj ?_)
 (refine Au ?_)
 exact⟨t,rfl,b1,b2⟩

open Classical in
noncomputable def Runs.low (L:Runs) (p q:Int):Fr:=if h:∃N D,ZC L p q N D then fr (Classical.choose h) (Classical.choose (Classical.choose_spec h))else⟨0,0⟩
theorem ZC.low {L:Runs}{p q N D:Int}(k:ZC L p q N D):L.low p q=fr N D:=by
 unfold Runs.low
 rw[dif_pos ⟨N,D,k⟩]
 exact(Classical.choose_spec (Classical.choose_spec (show∃N D,ZC L p q N D from⟨N,D,k⟩))).same k
theorem Best.low {L:Runs}{p q:Int}{b m:Nat}{h:H}{M:Mk}(k:Best L p q b m h M):M.fr=L.low p q:=k.lst.low.symm
noncomputable def Runs.wide (L:Runs) (p q:Int):Fr:=fr (-(L.low (-p) (-q)).n* (L.low p q).d - (L.low p q).n* (L.low (-p) (-q)).d) ((L.low p q).d* (L.low (-p) (-q)).d)

end AE.Tryz.Spn

/- Walks of span: proofs. -/
namespace AE.Tryz.Spn
open Go AE Go.Proofs AE.Sp
set_option maxRecDepth 100000
set_option linter.unusedVariables false

def QJ (L:Runs) (x:PS):Sd:=if x.up then(L.f x.r.toNat).upper else(L.f x.r.toNat).lower
def sumOf (L:Runs) (l:List PS):Sd:=l.foldl (fun acc x=>acc.add ((QJ L x).by x.t)) ⟨0,0,0⟩
theorem rT (L:Runs) (e:E3):QJ L (HZ e)=sides L.f e.k:=by
 unfold QJ HZ sides
 dsimp only
 have e1:((e.k:Int) / 2).toNat=e.k / 2:=by omega
 rw[e1]
 by_cases h:e.k%2=0
 ·rw[if_neg (by simp;omega),if_pos h]
 ·rw[if_pos (by simp;omega),if_neg h]
theorem jO (L:Runs) (l:List (Nat × Nat)):comb (sides L.f) l=sumOf L ((kept l).map HZ):=by
 have key:∀(l:List (Nat × Nat)) (i:Nat) (acc:Sd),l.foldl (fun acc p=>acc.add ((sides L.f p.1).by p.2)) acc=(((Ii l i).filter fun e=>!(e.v==0)).map HZ).foldl (fun acc x=>acc.add ((QJ L x).by x.t)) acc:=by
  intro l
  induction l with
  |nil=>intro i acc;rfl
  | cons p l ih=>
    intro i acc
    obtain⟨k,v⟩:=p
    simp only[List.foldl_cons,Ii]
    rw[ih (i+1)]
    by_cases hv:v=0
    ·subst hv
     rw[List.filter_cons_of_neg (by simp)]
     congr 1
     unfold Sd.add Sd.by
     simp
    ·rw[List.filter_cons_of_pos (by simpa using hv),List.map_cons,List.foldl_cons,rT]
     rfl
 exact key l 0 _
structure Aco (L:Runs) (P:H8) (W:Sd):Prop where
 n:P.n<=3
 m:∀i,i<P.n->(0<=(P.f i).r/\(P.f i).r<L.n)/\1<=(P.f i).t/\(P.f i).t<=800
 s:sumOf L ((List.range P.n).map P.f)=W
def Sn (l:List PS) (i:Nat):PS:=l.getD i ⟨0,false,0⟩
def H8.at (r:Nat) (l:List PS):H8:=⟨l.length,Sn l,Ft r l.length,(Ft r l.length).getD ⟨0,0,none⟩,0⟩
theorem H8.ql {r m:Nat}{h:H}{l:List PS}(G:GX r h 120 3 l.length (cellsOf PS.cells l)) (hr:0<l.length->r<m) (hl:l.length<=1000):(H8.at r l).Ok m h:=by
 refine⟨fun h0=>?_,fun i hi=>?_,fun h0=>?_,by show l.length<=_;omega⟩
 ·show Ft r l.length=some _
  have h0:0<l.length:=h0
  unfold H8.at
  dsimp only
  obtain⟨n,e⟩:∃n,l.length=n+1:=⟨l.length - 1,by omega⟩
  rw[e];rfl
 ·have hi:i<l.length:=hi
  obtain⟨n,e⟩:∃n,l.length=n+1:=⟨l.length - 1,by omega⟩
  have A:=G.t6 Al
  rw[KX PS.cells l ⟨0,false,0⟩]at A
  obtain⟨a,a1,a2,a3⟩:=GG.els (.inr ⟨by omega,A⟩) (fun i=>rfl)
  have a1:=a1 Al
  have ea:(H8.at r l).a=a:=by
   unfold H8.at
   dsimp only
   rw[a1];rfl
  show h.Bu (BI (H8.at r l).a _) _=_
  rw[ea]
  exact a2 i hi
 ·show(H8.at r l).a.block<m
  have h0:0<l.length:=h0
  obtain⟨n,e⟩:∃n,l.length=n+1:=⟨l.length - 1,by omega⟩
  unfold H8.at
  dsimp only
  rw[e]
  exact hr h0
theorem H8.Acg {r:Nat}{l:List PS}(h0:0<(H8.at r l).n):(H8.at r l).a.block=r:=by
 have h0:0<l.length:=h0
 obtain⟨n,e⟩:∃n,l.length=n+1:=⟨l.length - 1,by omega⟩
 unfold H8.at
 dsimp only
 rw[e]
 rfl
theorem eZ (l:List (Nat × Nat)):(kept l).length<=l.length:=by
 have:=List.length_filter_le (fun e:E3=>!(e.v==0)) (Ii l 0)
 rw[Rv]at this
 exact this
theorem H8.Ahf {L:Runs}{r:Nat}{l:List (Nat × Nat)}(h3:l.length<=3) (hv:∀p∈l,p.1<2*L.n/\p.2<=800):Aco L (H8.at r ((kept l).map HZ)) (comb (sides L.f) l):=by
 have hk:=eZ l
 refine⟨by show((kept l).map HZ).length<=3;rw[List.length_map];omega,fun i hi=>?_,?_⟩
 ·have hi:i<((kept l).map HZ).length:=hi
  show(0<=(Sn _ i).r/\_)/\_
  have em:Sn ((kept l).map HZ) i∈(kept l).map HZ:=by
   unfold Sn
   rw[<-List.getElem_eq_getD (h:=hi) _]
   exact List.getElem_mem hi
  have hf:(H8.at r ((kept l).map HZ)).f i=Sn ((kept l).map HZ) i:=rfl
  rw[hf]
  obtain⟨e,he,ee⟩:=List.mem_map.1 em
  rw[<-ee]
  have h1:=List.mem_filter.1 he
  have h2:=hv _ (Kc l 0 h1.1).1
  have h4:e.v≠0:=by simpa using h1.2
  unfold HZ
  dsimp only at h2⊢
  omega
 ·rw[jO]
  congr 1
  exact Sl _ _

open Classical in
noncomputable def Runs.Tn (L:Runs):Int:=if L.err≠0 then L.err else if L.Cl then 5 else 0
set_option maxHeartbeats 4000000 in
theorem pq {h:H}{L:Runs}{m:Nat}(hm:m<=h.next) (hL:L.Ok m h):AW Tryz.prog 13 h.next h [.slice L.b L.n L.c] (fun v h'=>∃(P:H8) (tm:Int),v= .tuple #[.agg ⟨[.slice P.b P.n P.c,.int .i64 tm]⟩,.int .i64 L.Tn]/\P.Ok h'.next h'/\(P.c=0/\(0<P.n->h.next<=P.a.block))/\(L.Tn≠0->P.n=0/\tm=0)/\(L.Tn=0->∃W,Aco L P W/\(W.u=0/\W.v=0)/\0<W.w/\tm=1)):=by
 have b1:L.err≠0->L.Tn=L.err:=fun h=>by unfold Runs.Tn;rw[if_pos h]
 have b2:L.err=0->¬L.Cl->L.Tn=0:=fun h h'=>by unfold Runs.Tn;rw[if_neg Al,if_neg h']
 have b3:L.err=0->L.Cl->L.Tn=5:=fun h h'=>by unfold Runs.Tn;rw[if_neg Al,if_pos h']
 refine Ago.call rfl (Nat.le_refl _) ?_
 unfold a13
 (focus((try with_reducible apply wpC.to);(repeat'((conv=>whnf);first|refine Ak ?_|(apply Fork.mk<;>(intro _;try(exfalso;omega)))|((refine kTSpanB4 ?_);first|((first|apply Ae|apply Ac|apply Ad)<;>intro _ _ _ _<;>try contradiction)|(apply Ab;intro _ _ _))|fail));all_goals((conv=>whnf);try with_reducible apply At.mk)))
 ·have e0:L.err≠0:=by assumption
  (refine Au ?_)
  refine⟨H8.at 0 [],0,?_,H8.ql GX.nil (fun h=>absurd h (Nat.lt_irrefl _)) (by decide),⟨rfl,fun h=>absurd h (Nat.lt_irrefl _)⟩,fun _=>⟨rfl,rfl⟩,fun k=>absurd k (by rw[b1 e0];exact e0)⟩
  rw[b1 e0];rfl
 have e0:L.err=0:=by assumption
 obtain⟨ln,lv⟩:=L.Tj e0
 apply Ar
 focus(exact Ao)
 focus(exact AQ)
 focus exact Ny (L:=L) (m:=m) Ah (hL.same Aq (Nat.le_refl _)) Al lv
 rintro _ h2 ⟨T,rfl,tn,tf,tok⟩ q2 n2
 have eS:T.S=sides L.f:=by unfold Tab.S;rw[tf]
 (refine Aj ?_)
 apply Ar
 focus(exact Ao)
 focus(exact AQ)
 focus exact fK (T:=T) (m:=h2.next) Ah (tok.same Aq (Nat.le_refl _))
 rintro _ h3 ⟨M,bv,rfl,d1,d2⟩ q3 n3
 rw[eS,tn]at d1 d2
 cases bv
 ·obtain⟨rfl,cl⟩:=d2 rfl
  have cl:L.Cl:=cl
  unfold Mk.none Mk.cells
  (refine Aj ?_)
  (refine Au ?_)
  refine⟨H8.at 0 [],0,?_,H8.ql GX.nil (fun h=>absurd h (Nat.lt_irrefl _)) (by decide),⟨rfl,fun h=>absurd h (Nat.lt_irrefl _)⟩,fun _=>⟨rfl,rfl⟩,fun k=>absurd k (by rw[b3 e0 cl];decide)⟩
  rw[b3 e0 cl];rfl
 obtain⟨d3,d4⟩:=d1 rfl
 try simp only[Bv,AY]at d3
 have nc:=qi lv d3 d4
 have d0:=b2 e0 nc
 rw[d0]
 have hr:M.r≠none:=fun hr=>by
  have h1:=d3.z hr
  have h2:=d3.s
  rw[h1]at h2
  have h3:=d4.2.2
  rw[h2]at h3
  have h4:(comb (sides L.f) []).w=0:=rfl
  omega
 obtain⟨rm,hrm⟩:∃rm,M.r=some rm:=Option.ne_none_iff_exists'.1 hr
 have grm:=(d3.g rm hrm).1
 have eM:(⟨M.cells⟩:Array Value)=⟨[.map M.r,.int .i64 M.s.u,.int .i64 M.s.v,.int .i64 M.s.w,.int .i64 M.t]⟩:=rfl
 rw[eM]
 (refine Aj ?_)
 apply GD
 focus exact sA (lo:=h.next) (M:=M) (S:=sides L.f) (N:=2*L.n) (rm:=rm) Al Ah (d3.frame (Nat.le_refl _) (Nat.le_refl _) fun r h1 h2=>Aw fun y hy=>Aa) Ah hrm Al
 rintro _ h4 ⟨rfl,G,OS,ln4⟩ q4
 simp only[Bv,AY]at G OS ln4 grm
 have x3:=(OS h.next Al Al).trans (show _=some (.cells [.slice none 0 0,.int .i64 0] 51)from Aa)
 (refine Aj ?_)
 (refine Au ?_)
 refine⟨H8.at _ ((kept M.l).map HZ),M.t,?_,H8.ql (by rw[List.length_map];exact G.frame fun h0=>Aw fun y hy=>Aa) (fun _=>Ah) ?_,⟨rfl,fun h0=>by rw[H8.Acg h0];omega⟩,fun k=>absurd rfl k,fun _=>⟨comb (sides L.f) M.l,H8.Ahf d3.n d3.v,?_,?_,d4.1⟩⟩
 ·unfold H8.at;dsimp only;rw[List.length_map];rfl
 ·rw[List.length_map];have:=eZ M.l;have:=d3.n;omega
 ·rw[<-d3.s];exact d4.2.1
 ·rw[<-d3.s];exact d4.2.2
end AE.Tryz.Spn

/- Walks of span: is a proof one. -/
namespace AE.Tryz.Spn
open Go AE Go.Proofs AE.Sp
set_option maxRecDepth 100000
set_option linter.unusedVariables false

def PS.Good (x:PS) (n:Nat):Prop:=(0<=x.r/\x.r<n)/\1<=x.t/\x.t<=1000000
instance (x:PS) (n:Nat):Decidable (x.Good n):=inferInstanceAs (Decidable (_/\_))
def H8.TK (P:H8) (n:Nat):Prop:=∀i,i<P.n->(P.f i).Good n
def H8.sum (P:H8) (L:Runs):Sd:=sumOf L ((List.range P.n).map P.f)
open Classical in
noncomputable def Runs.MX (L:Runs) (p q:Int) (P:H8) (tm:Int):Int:=if L.FI p q≠0 then L.FI p q else if 24<P.n then 6 else if¬(P.TK L.n/\1<=tm/\tm<=1099511627776)then 3 else if¬((P.sum L).u=tm*p/\(P.sum L).v=tm*q)then 14 else 0
noncomputable def Runs.cval (L:Runs) (p q:Int) (P:H8) (tm:Int):Fr:=if L.MX p q P tm=0 then fr (P.sum L).w tm else⟨0,0⟩
theorem rR {L:Runs}(lv:L.Val) {x:PS}(h:x.Good L.n):(QJ L x).Up 20 100000:=by
 unfold QJ
 obtain⟨⟨h1,h2⟩, -⟩:=h
 split
 ·exact(lv _ Al).upper
 ·exact(lv _ Al).lower
theorem Ab3 {s:Sd}(k:s.Up 20 100000) {n:Int}(hn:1<=n/\n<=1000000):(s.by n).Up 20000000 100000000000:=by
 have b1:=BJ (b:=n) (B:=1000000) k.u.1 k.u.2 Al Al
 have b2:=BJ (b:=n) (B:=1000000) k.v.1 k.v.2 Al Al
 have b3:=BJ (b:=n) (B:=1000000) k.w.1 k.w.2 Al Al
 exact⟨by unfold Sd.by;dsimp only;omega,by unfold Sd.by;dsimp only;omega,by unfold Sd.by;dsimp only;omega⟩
theorem iq (L:Runs) (l:List PS) (x:PS):sumOf L (l++[x])=(sumOf L l).add ((QJ L x).by x.t):=by simp[sumOf]
def H8.part (P:H8) (L:Runs) (s:Nat):Sd:=sumOf L ((List.range s).map P.f)
theorem H8.UJ (P:H8) (L:Runs) (s:Nat):P.part L (s+1)=(P.part L s).add ((QJ L (P.f s)).by (P.f s).t):=by
 unfold H8.part
 rw[List.range_succ,List.map_append,List.map_cons,List.map_nil,iq]

end AE.Tryz.Spn

/- Walks of span's definitions: is a proof right; what a truth fits does not contradict itself. -/
namespace AE.Tryz.Spn
open Go AE Go.Proofs AE.Sp
set_option maxRecDepth 100000
set_option linter.unusedVariables false

theorem jR {S:Nat->Sd}{n:Nat}(nz:∀i,i<n->(S i).Nz) {t:Er}(hd:0<t.d) (hf:∀e,e<n->(S e).Fit t):Clean S n:=by
 refine⟨nz,fun i j hi hj x y hx hy eu ev=>?_,fun i j k hi hj hk h1 h2 h3=>?_⟩
 ·have a:=Int.mul_le_mul_of_nonneg_left (hf i hi) (show 0<=x by omega)
  have b:=Int.mul_le_mul_of_nonneg_left (hf j hj) (show 0<=y by omega)
  have e:x* (S i).val t+y* (S j).val t=(x* (S i).u+y* (S j).u) *t.a+(x* (S i).v+y* (S j).v) *t.b:=by unfold Sd.val;grind
  rw[eu,ev]at e
  have e2:(x* (S i).w+y* (S j).w) *t.d=x* ((S i).w*t.d)+y* ((S j).w*t.d):=by grind
  refine Hs hd ?_
  rw[Int.mul_comm,e2]
  omega
 ·have a:=Int.mul_le_mul_of_nonneg_left (hf i hi) (show 0<=cr (S j) (S k) by omega)
  have b:=Int.mul_le_mul_of_nonneg_left (hf j hj) (show 0<=cr (S k) (S i) by omega)
  have c:=Int.mul_le_mul_of_nonneg_left (hf k hk) (show 0<=cr (S i) (S j) by omega)
  have e:cr (S j) (S k) * (S i).val t+cr (S k) (S i) * (S j).val t+cr (S i) (S j) * (S k).val t=0:=by unfold Sd.val cr;grind
  have e2:(cr (S j) (S k) * (S i).w+cr (S k) (S i) * (S j).w+cr (S i) (S j) * (S k).w) *t.d=cr (S j) (S k) * ((S i).w*t.d)+cr (S k) (S i) * ((S j).w*t.d)+cr (S i) (S j) * ((S k).w*t.d):=by
   rw[Int.add_mul,Int.add_mul]
   have x1:cr (S j) (S k) * (S i).w*t.d=cr (S j) (S k) * ((S i).w*t.d):=by ac_rfl
   have x2:cr (S k) (S i) * (S j).w*t.d=cr (S k) (S i) * ((S j).w*t.d):=by ac_rfl
   have x3:cr (S i) (S j) * (S k).w*t.d=cr (S i) (S j) * ((S k).w*t.d):=by ac_rfl
   rw[x1,x2,x3]
  refine Hs hd ?_
  rw[Int.mul_comm,e2]
  omega
theorem fW {h:H}{L:Runs}{m:Nat}{p q:Int}(hm:m<=h.next) (hL:L.Ok m h):AW Tryz.prog 49 h.next h [.slice L.b L.n L.c,.int .i64 p,.int .i64 q] (fun v _=>v= .int .i64 (L.FI p q)):=by
 have hL0:=hL
 refine Afs.call rfl (Nat.le_refl _) ?_
 unfold a49
 (focus((try with_reducible apply wpC.to);(repeat'((conv=>whnf);first|refine Ak ?_|(apply Fork.mk<;>(intro _;try(exfalso;omega)))|((first|refine kTSpanB7 ?_|refine kTSpanB5 ?_);first|((first|apply Ae|apply Ac|apply Ad)<;>intro _ _ _ _<;>try contradiction)|(apply Ab;intro _ _ _))|fail));all_goals((conv=>whnf);try with_reducible apply At.mk)))
 all_goals(refine Au ?_)
 all_goals unfold Runs.FI
 ·rw[if_pos (by assumption)]
 all_goals rw[if_neg Al]
 all_goals first|rw[if_pos (show qS p q from⟨by omega,by omega⟩)]|rw[if_neg (fun k=>by obtain⟨k1,k2⟩:=k;omega)]
structure Right (L:Runs) (p q:Int) (P:H8) (tm:Int):Prop where
 e:L.FI p q=0
 n:P.n<=24
 g:P.TK L.n
 t:1<=tm/\tm<=1099511627776
 u:(P.sum L).u=tm*p
 v:(P.sum L).v=tm*q
theorem Runs.pN {L:Runs}{p q tm:Int}{P:H8}:L.MX p q P tm=0↔Right L p q P tm:=by
 unfold Runs.MX
 constructor
 ·intro h
  split at h
  ·contradiction
  split at h
  ·exact absurd h (by decide)
  split at h
  ·exact absurd h (by decide)
  split at h
  ·exact absurd h (by decide)
  rename_i h1 h2 h3 h4
  have h3:=Classical.not_not.1 h3
  have h4:=Classical.not_not.1 h4
  exact⟨by omega,by omega,h3.1,h3.2,h4.1,h4.2⟩
 ·rintro⟨h1,h2,h3,h4,h5,h6⟩
  rw[if_neg Al,if_neg Al,if_neg (fun k=>k ⟨h3,h4⟩),if_neg (fun k=>k ⟨h5,h6⟩)]
theorem Right.val {L:Runs}{p q tm:Int}{P:H8}(k:Right L p q P tm):L.cval p q P tm=fr (P.sum L).w tm:=by
 unfold Runs.cval
 rw[if_pos (Runs.pN.2 k)]
theorem Wd {L:Runs}{P:H8}(lv:L.Val) (g:P.TK L.n):∀s:Nat,s<=P.n->(P.part L s).Up (20000000*s) (100000000000*s)
 |0,_=>⟨by show _<=(0:Int)/\(0:Int)<=_;omega,by show _<=(0:Int)/\(0:Int)<=_;omega,by show _<=(0:Int)/\(0:Int)<=_;omega⟩
 | s+1,h=>by
   obtain⟨u1,u2,u3⟩:=Wd lv g s Al
   obtain⟨w1,w2,w3⟩:=Ab3 (rR lv (g s Al)) (g s Al).2
   rw[P.UJ L s]
   exact⟨by unfold Sd.add;dsimp only;omega,by unfold Sd.add;dsimp only;omega,by unfold Sd.add;dsimp only;omega⟩
theorem me {L:Runs}{p q tm:Int}{P:H8}{W:Sd}(e:L.FI p q=0) (k:Aco L P W) (hu:W.u=tm*p) (hv:W.v=tm*q) (ht:1<=tm/\tm<=800):Right L p q P tm/\(P.sum L).w=W.w:=by
 have es:P.sum L=W:=k.s
 refine⟨⟨e,by have:=k.n;omega,fun i hi=>?_,by omega,by rw[es];exact hu,by rw[es];exact hv⟩,by rw[es]⟩
 obtain⟨h1,h2⟩:=k.m i hi
 exact⟨h1,by omega⟩
set_option maxHeartbeats 8000000 in
theorem W9 {h:H}{L:Runs}{P:H8}{m:Nat}{p q tm:Int}(hm:m<=h.next) (hL:L.Ok m h) (hP:P.Ok m h):AW Tryz.prog 15 h.next h [.slice L.b L.n L.c,.int .i64 p,.int .i64 q,.agg ⟨[.slice P.b P.n P.c,.int .i64 tm]⟩] (fun v _=>v= .tuple #[.agg ⟨(L.cval p q P tm).cells⟩,.int .i64 (L.MX p q P tm)]):=by
 have fin:∀e,L.MX p q P tm=e->e≠0->Value.tuple #[.agg ⟨[.int .i64 0,.int .i64 0]⟩,.int .i64 e]= .tuple #[.agg ⟨(L.cval p q P tm).cells⟩,.int .i64 (L.MX p q P tm)]:=fun e h1 h2=>by
  unfold Runs.cval
  rw[h1,if_neg h2];rfl
 have b1:L.FI p q≠0->L.MX p q P tm=L.FI p q:=fun h=>by unfold Runs.MX;rw[if_pos h]
 have b2:L.FI p q=0->24<P.n->L.MX p q P tm=6:=fun h h'=>by unfold Runs.MX;rw[if_neg Al,if_pos h']
 have b3:L.FI p q=0->P.n<=24->¬(P.TK L.n/\1<=tm/\tm<=1099511627776)->L.MX p q P tm=3:=fun h h' h''=>by unfold Runs.MX;rw[if_neg Al,if_neg Al,if_pos h'']
 have b4:L.FI p q=0->P.n<=24->(P.TK L.n/\1<=tm/\tm<=1099511627776)->¬((P.sum L).u=tm*p/\(P.sum L).v=tm*q)->L.MX p q P tm=14:=fun h h' h'' h3=>by unfold Runs.MX;rw[if_neg Al,if_neg Al,if_neg (fun k=>k h''),if_pos h3]
 have b5:L.FI p q=0->P.n<=24->(P.TK L.n/\1<=tm/\tm<=1099511627776)->((P.sum L).u=tm*p/\(P.sum L).v=tm*q)->L.MX p q P tm=0:=fun h h' h'' h3=>by unfold Runs.MX;rw[if_neg Al,if_neg Al,if_neg (fun k=>k h''),if_neg (fun k=>k h3)]
 obtain⟨pe,pi,pr,pl⟩:=id hP
 obtain⟨le,li,lr,ll⟩:=id hL
 refine Agm.call rfl (Nat.le_refl _) ?_
 unfold a15
 (refine Aj ?_)
 apply Dw
 focus(exact Ao)
 focus(exact AQ)
 focus exact fW (L:=L) (m:=m) (p:=p) (q:=q) Ah (hL.same Aq (Nat.le_refl _))
 intro h2 q2 n2
 by_cases he:L.FI p q≠0
 ·(refine Aj ?_)
  apply Dw
  focus(exact Ao)
  focus(exact AQ)
  focus exact fW (L:=L) (m:=m) (p:=p) (q:=q) Ah (hL.same Aq (Nat.le_refl _))
  intro h3 q3 n3
  (refine Aj ?_)
  (refine Au ?_)
  exact fin _ (b1 he) he
 have e0:L.FI p q=0:=by omega
 obtain⟨e1,um⟩:=Runs.o4 e0
 obtain⟨ln,lv⟩:=L.Tj e1
 (focus((try with_reducible apply wpC.to);(repeat'((conv=>whnf);first|refine Ak ?_|(apply Fork.mk<;>(intro _;try(exfalso;omega)))|refine Bg ?_|refine Ba ?_|refine A8 ?_|fail));all_goals((conv=>whnf);try with_reducible apply At.mk)))
 ·(refine Au ?_)
  exact fin 6 (b2 e0 Al) (by decide)
 have pn:P.n<=24:=by omega
 refine wp_loop (fun s:Nat=>[(0,.slice L.b L.n L.c),(1,.int .i64 p),(2,.int .i64 q),(7,.pointer (some ⟨h.next,0,none⟩)),(8,.pointer (some ⟨h.next+1,0,none⟩)),(10,.int .i64 s)])
  (fun s h1=>h1.get h.next=some (.cells [.slice P.b P.n P.c,.int .i64 tm] 51)/\h1.get (h.next+1)=some (.cells [.int .i64 0,.int .i64 0] 57)/\Same m h h1/\h.next+2<=h1.next/\s<=P.n/\∀i,i<s->(P.f i).Good L.n) (fun s=>P.n - s) 0 ⟨rfl,rfl,rfl,rfl,rfl,rfl,trivial⟩ ⟨Aa,Aa,Aq,Ah,by omega,fun i hi=>absurd hi (Nat.not_lt_zero i)⟩ ?_
 rintro s g h3 ⟨x0,x1,sm,n3,hs,gd⟩ K hK
 by_cases hsn:s<P.n
 ·have pi5:=pi.same sm pr
  have pr':=pr Al
  unfold PS.cells at pi5
  (focus((try with_reducible apply wpC.to);(repeat'((conv=>whnf);first|refine Ak ?_|(apply Fork.mk<;>(intro _;try(exfalso;omega)))|refine Bg ?_|refine Ba ?_|refine A8 ?_|fail));all_goals((conv=>whnf);try with_reducible apply At.mk)))
  all_goals first
   | ((refine Au ?_)
      exact fin 3 (b3 e0 pn fun k=>by obtain⟨⟨k1,k2⟩,k3,k4⟩:=k.1 s hsn;omega) (by decide))
   | (refine hK (s+1) _ _ ⟨rfl,rfl,rfl,rfl,rfl,AK rfl Al,trivial⟩ ⟨Aa,Aa,Aq,Ah,by omega,fun i hi=>?_⟩ Al
      by_cases e:i=s
      ·subst e;exact⟨⟨by omega,by omega⟩,by omega,by omega⟩
      ·exact gd i Al)
 obtain rfl:s=P.n:=by omega
 have gs:P.TK L.n:=gd
 (focus((try with_reducible apply wpC.to);(repeat'((conv=>whnf);first|refine Ak ?_|(apply Fork.mk<;>(intro _;try(exfalso;omega)))|refine Bg ?_|refine Ba ?_|refine A8 ?_|fail));all_goals((conv=>whnf);try with_reducible apply At.mk)))
 ·(refine Au ?_)
  exact fin 3 (b3 e0 pn fun k=>by have:=k.2;omega) (by decide)
 ·(refine Au ?_)
  exact fin 3 (b3 e0 pn fun k=>by have:=k.2;omega) (by decide)
 have ht:1<=tm/\tm<=1099511627776:=by omega
 refine wp_loop (fun s:Nat=>[(0,.slice L.b L.n L.c),(1,.int .i64 p),(2,.int .i64 q),(7,.pointer (some ⟨h.next,0,none⟩)),(8,.pointer (some ⟨h.next+1,0,none⟩)),(12,.int .i64 (P.part L s).u),(13,.int .i64 (P.part L s).v),(14,.int .i64 (P.part L s).w),(15,.int .i64 s)])
  (fun s h1=>h1.get h.next=some (.cells [.slice P.b P.n P.c,.int .i64 tm] 51)/\h1.get (h.next+1)=some (.cells [.int .i64 0,.int .i64 0] 57)/\Same m h h1/\h.next+2<=h1.next/\s<=P.n) (fun s=>P.n - s) 0 ⟨rfl,rfl,rfl,rfl,rfl,rfl,rfl,rfl,rfl,trivial⟩ ⟨Aa,Aa,Aq,Ah,by omega⟩ ?_
 rintro s g h4 ⟨x0,x1,sm,n4,hs⟩ K hK
 by_cases hsn:s<P.n
 ·have gd:=gs s hsn
  obtain⟨⟨gr1,gr2⟩,gt⟩:=id gd
  have pi5:=pi.same sm pr
  have li5:=li.same sm lr
  have pr':=pr Al
  have lr':=lr Al
  unfold PS.cells at pi5
  unfold Run.cells at li5
  have xr:(P.f s).r.toNat<L.n:=by omega
  obtain⟨⟨v1,v2⟩,⟨v3,v4⟩, -,v5,v6,v7⟩:=lv _ xr
  have m1:=BJ (b:=(P.f s).t) (B:=1000000) v1 v2 Al Al
  have m2:=BJ (b:=(P.f s).t) (B:=1000000) v3 v4 Al Al
  have m3:=BJ (a:=(L.f (P.f s).r.toNat).lo) (A:=100000) (b:=(P.f s).t) (B:=1000000) Al Al Al Al
  have m4:=BJ (a:=(L.f (P.f s).r.toNat).hi) (A:=100000) (b:=(P.f s).t) (B:=1000000) Al Al Al Al
  obtain⟨u1,u2,u3⟩:=Wd lv gs s Al
  have eq:=P.UJ L s
  cases hup:(P.f s).up
  ·have es:QJ L (P.f s)=(L.f (P.f s).r.toNat).lower:=by unfold QJ;rw[hup];rfl
   rw[es]at eq
   have e1:(P.part L (s+1)).u=(P.part L s).u+(L.f (P.f s).r.toNat).p* (P.f s).t:=by rw[eq];rfl
   have e2:(P.part L (s+1)).v=(P.part L s).v+(L.f (P.f s).r.toNat).q* (P.f s).t:=by rw[eq];rfl
   have e3:(P.part L (s+1)).w=(P.part L s).w+(L.f (P.f s).r.toNat).lo* (P.f s).t:=by rw[eq];rfl
   (refine Aj ?_)
   rw[hup]
   (refine Aj ?_)
   exact hK (s+1) _ _ ⟨rfl,rfl,rfl,rfl,rfl,AK rfl e1.symm,AK rfl e2.symm,AK rfl e3.symm,AK rfl Al,trivial⟩ ⟨Aa,Aa,Aq,Ah,by omega⟩ Al
  ·have es:QJ L (P.f s)=(L.f (P.f s).r.toNat).upper:=by unfold QJ;rw[hup];rfl
   rw[es]at eq
   have e1:(P.part L (s+1)).u=(P.part L s).u - (L.f (P.f s).r.toNat).p* (P.f s).t:=by rw[eq];show(P.part L s).u+ -(L.f (P.f s).r.toNat).p* (P.f s).t=_;rw[Int.neg_mul];omega
   have e2:(P.part L (s+1)).v=(P.part L s).v - (L.f (P.f s).r.toNat).q* (P.f s).t:=by rw[eq];show(P.part L s).v+ -(L.f (P.f s).r.toNat).q* (P.f s).t=_;rw[Int.neg_mul];omega
   have e3:(P.part L (s+1)).w=(P.part L s).w - (L.f (P.f s).r.toNat).hi* (P.f s).t:=by rw[eq];show(P.part L s).w+ -(L.f (P.f s).r.toNat).hi* (P.f s).t=_;rw[Int.neg_mul];omega
   (refine Aj ?_)
   rw[hup]
   (refine Aj ?_)
   exact hK (s+1) _ _ ⟨rfl,rfl,rfl,rfl,rfl,AK rfl e1.symm,AK rfl e2.symm,AK rfl e3.symm,AK rfl Al,trivial⟩ ⟨Aa,Aa,Aq,Ah,by omega⟩ Al
 obtain rfl:s=P.n:=by omega
 have es:P.part L P.n=P.sum L:=rfl
 rw[es]
 obtain⟨u1,u2,u3⟩:=Wd lv gs P.n (Nat.le_refl _)
 rw[es]at u1 u2 u3
 have m1:=BJ um.1.1 um.1.2 (show -1099511627776<=tm by omega) ht.2
 have m2:=BJ um.2.1 um.2.2 (show -1099511627776<=tm by omega) ht.2
 (focus((try with_reducible apply wpC.to);(repeat'((conv=>whnf);first|refine Ak ?_|(apply Fork.mk<;>(intro _;try(exfalso;omega)))|refine Bg ?_|refine Ba ?_|refine A8 ?_|fail));all_goals((conv=>whnf);try with_reducible apply At.mk)))
 ·(refine Au ?_)
  exact fin 14 (b4 e0 pn ⟨gs,ht⟩ fun k=>by have:=k.1;rw[Int.mul_comm]at this;contradiction) (by decide)
 ·(refine Au ?_)
  exact fin 14 (b4 e0 pn ⟨gs,ht⟩ fun k=>by have:=k.2;rw[Int.mul_comm]at this;contradiction) (by decide)
 rename_i hu hv
 have ec:=b5 e0 pn ⟨gs,ht⟩ ⟨by rw[hu,Int.mul_comm],by rw[hv,Int.mul_comm]⟩
 apply Dw
 focus(exact Ao)
 focus(exact AQ)
 focus exact iN Al Al
 intro h9 q9 n9
 unfold Fr.cells
 (refine Aj ?_)
 (refine Au ?_)
 unfold Runs.cval
 rw[ec,if_pos rfl]
theorem Runs.KV {L:Runs}{p q:Int}(h:L.err=0) (f:qS p q):L.FI p q=0:=by unfold Runs.FI;rw[if_neg Al,if_pos f]
theorem Runs.sX {L:Runs}{p q:Int}(e:L.FI p q=0) (c:¬L.Cl):L.EH p q=20:=by unfold Runs.EH;rw[if_neg Al,if_pos c]
theorem Runs.nh {L:Runs}{p q:Int}(e:L.FI p q=0) (c:L.Cl) (b:¬L.kN p q):L.EH p q=5:=by unfold Runs.EH;rw[if_neg Al,if_neg (fun k=>k c),if_pos b]
theorem Runs.Wp {L:Runs}{p q:Int}(e:L.FI p q=0) (c:L.Cl) (b:L.kN p q):L.EH p q=0:=by unfold Runs.EH;rw[if_neg Al,if_neg (fun k=>k c),if_neg (fun k=>k b)]

theorem H8.Ok.keep {P:H8}{m:Nat}{h h':H}(k:P.Ok m h) (e:∀r,r=P.a.block->0<P.n->h'.get r=h.get r):P.Ok m h':=
 ⟨k.e,fun i hi=>by
  have:=k.i i hi
  unfold H.Bu at this⊢
  have h2:=e P.a.block rfl Al
  show(h'.get P.a.block).bind _=_
  rw[h2]
  exact this,k.r,k.l⟩

end AE.Tryz.Spn
