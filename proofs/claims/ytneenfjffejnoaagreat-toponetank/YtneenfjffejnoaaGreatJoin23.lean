/- Walks and plain laws: TSpanF, TSpanEq, TSpanG. -/
import Derived.Test.YtneenfjffejnoaaGreatAEBy2
import Derived.Test.YtneenfjffejnoaaGreatJoin31
import Derived.Test.YtneenfjffejnoaaGreatAEthree
set_option linter.unusedVariables false
set_option linter.unusedSimpArgs false
set_option linter.unusedSectionVars false

/- Walks of span: tables. -/
namespace AE.Tryz.Spn
open Go AE Go.Proofs AE.Sp
set_option maxRecDepth 100000
set_option linter.unusedVariables false

def Run.pair (x:Run):List Value:=x.cells++x.lower.cells++x.upper.cells
def sides (f:Nat->Run) (i:Nat):Sd:=if i%2=0 then(f (i / 2)).lower else(f (i / 2)).upper
theorem IX (f:Nat->Run) (i:Nat):sides f (2*i)=(f i).lower:=by
 unfold sides;rw[if_pos Al];congr 1;congr 1;omega
theorem IW (f:Nat->Run) (i:Nat):sides f (2*i+1)=(f i).upper:=by
 unfold sides;rw[if_neg Al];congr 1;congr 1;omega
structure Tab where
 n:Nat
 f:Nat->Run
 r:Nat
 pb:Option Addr
 pa:Addr
 sb:Option Addr
 sa:Addr
def Tab.S (T:Tab):Nat->Sd:=sides T.f
structure Tab.Ok (T:Tab) (m:Nat) (h:H):Prop where
 g:h.get T.r=some (.cells [.slice T.pb T.n 0,.slice T.sb (2*T.n) 0] 205)
 rr:T.r<m
 pe:0<T.n->T.pb=some T.pa
 pi:JP h T.pa T.n 10 (fun i=>(T.f i).pair)
 pr:0<T.n->T.pa.block<m
 se:0<2*T.n->T.sb=some T.sa
 si:JP h T.sa (2*T.n) 3 (fun i=>(T.S i).cells)
 sr:0<2*T.n->T.sa.block<m
 le:T.n<=13
 val:∀i,i<T.n->(T.f i).Ok
 ne:T.n=0->T.sb=none
theorem Tab.Ok.same {T:Tab}{m m':Nat}{h h':H}(k:T.Ok m h) (s:Same m h h') (hm:m<=m'):T.Ok m' h':=
 ⟨(s _ k.rr).trans k.g,by have:=k.rr;omega,k.pe,k.pi.same s k.pr,fun h=>by have:=k.pr h;omega,k.se,k.si.same s k.sr,fun h=>by have:=k.sr h;omega,k.le,k.val,k.ne⟩
theorem Tab.Ok.up {T:Tab}{m:Nat}{h:H}(k:T.Ok m h) {i:Nat}(hi:i<2*T.n):(T.S i).Up 20 100000:=by
 unfold Tab.S sides
 split
 ·exact(k.val _ Al).lower
 ·exact(k.val _ Al).upper
theorem Tab.Ok.nz {T:Tab}{m:Nat}{h:H}(k:T.Ok m h) {i:Nat}(hi:i<2*T.n):(T.S i).Nz:=by
 have:=(k.val (i / 2) Al).nz
 unfold Tab.S sides Sd.Nz
 split
 ·exact this
 ·unfold Run.upper;dsimp only;omega

theorem _root_.AE.GG.none {r n sz:Nat}{h:H}{e:TypeId}{cs:List Value}{v:Option Addr}(G:GG r h e sz n cs v) (h0:n=0):v= .none:=by
 rcases G with⟨-,e, -⟩|⟨h, -⟩
 ·exact e
 ·omega
theorem kTSpanF0 {G G':Prop}(g:G') (t:G'->G:=by((apply Ar);(focus exact Ao);(focus exact AQ);(focus((apply xF;(focus assumption)))))):G:=t g

set_option maxHeartbeats 2000000 in
theorem Ny {h:H}{L:Runs}{m:Nat}(hm:m<=h.next) (hL:L.Ok m h) (ln:L.n<=13) (lv:L.Val):AW Tryz.prog 45 h.next h [.slice L.b L.n L.c] (fun v h'=>∃T:Tab,v= .pointer (some ⟨T.r,0,none⟩)/\T.n=L.n/\T.f=L.f/\T.Ok h'.next h'):=by
 obtain⟨e1,i1,r1,l1⟩:=hL
 refine Afv.call rfl (Nat.le_refl _) ?_
 unfold a45
 (refine Aj ?_)
 refine wp_loop (fun s:Nat × Option Addr × Nat × Option Addr × Nat=>[(3,.pointer (some ⟨h.next+2,0,none⟩)),(9,.slice L.b L.n L.c),(10,.int .i64 L.n),(11,.int .i64 s.1)])
  (fun s h1=>h1.get (h.next+2)=some (.cells [.slice s.2.1 s.1 0,.slice s.2.2.2.1 (s.1*2) 0] 205)/\Same h.next h h1/\h.next+3<=h1.next/\s.1<=L.n/\GG s.2.2.1 h1 207 10 s.1 (rowsOf (fun i=>(L.f i).pair) s.1) s.2.1/\GG s.2.2.2.2 h1 109 3 (s.1*2) (rowsOf (fun i=>(sides L.f i).cells) (s.1*2)) s.2.2.2.1/\(0<s.1->(h.next+3<=s.2.2.1/\s.2.2.1<h1.next)/\(h.next+3<=s.2.2.2.2/\s.2.2.2.2<h1.next)/\s.2.2.1≠s.2.2.2.2)) (fun s=>L.n - s.1) (0,none,0,none,0) ⟨rfl,rfl,rfl,rfl,trivial⟩ ⟨Aa,Aq,Ah,by dsimp only;omega,GG.nil,GG.nil,fun h=>absurd h (by dsimp only;omega)⟩ ?_
 rintro⟨s,v1,q1,v2,q2⟩ g h1 ⟨g1,sm,n1,hs,G1,G2,hq⟩ K hK
 dsimp only at g1 hs G1 G2 hq⊢
 have i5:=i1.same (sm.mono hm) r1
 by_cases hsn:s<L.n
 ·have x5:=r1 Al
  have ok:=lv s hsn
  unfold Run.cells at i5
  (focus((try with_reducible apply wpC.to);(repeat'((conv=>whnf);first|refine Ak ?_|(apply Fork.mk<;>(intro _;try(exfalso;omega)))|((refine kTSpanF0 ?_);first|((first|apply Ae|apply Ac|apply Ad)<;>intro _ _ _ _<;>try contradiction)|(apply Ab;intro _ _ _))|refine Bg ?_|refine Ba ?_|refine A8 ?_|fail));all_goals((conv=>whnf);try with_reducible apply At.mk)))
  apply EP (r:=q1) (n:=s) (m:=1) (cs:=rowsOf (fun i=>(L.f i).pair) s) (nc:=(L.f s).pair)
  case G=>exact G1.frame fun h0=>Aw fun y hy=>by have:=hq h0;(exact Aa)
  case hsv=>exact rfl
  case C=>exact Cells.one (by unfold Run.pair Run.cells;(exact Ez)) (by unfold far;omega) rfl rfl
  case hm=>omega
  case hlo=>(exact Ah)
  case hlr=>exact fun h0=>by have:=hq h0;(exact Ah)
  case hsm=>omega
  intro v1' q1' Adc a1 a2 a3 G1'
  have c4:(0<s/\q1'=q1/\q1<h1.next)\/(s=0/\h1.next+16<=q1'):=by
   rcases Nat.eq_zero_or_pos s with h0|h0
   ·have:=a1 h0;exact .inr ⟨h0,Ah⟩
   ·have:=a2 h0;have:=hq h0;exact .inl ⟨h0,by omega,by omega⟩
  have c3:h.next+3<=q1':=by
   rcases c4 with c4|c4
   ·have:=hq c4.1;omega
   ·omega
  (refine Aj ?_)
  apply EP (r:=q2) (n:=s*2) (m:=2) (cs:=rowsOf (fun i=>(sides L.f i).cells) (s*2)) (nc:=(L.f s).lower.cells++(L.f s).upper.cells)
  case G=>exact G2.frame fun h0=>Aw fun y hy=>by have:=hq Al;(exact Aa)
  case hsv=>exact rfl
  case C=>exact⟨rfl,fun _=>CP Aa rfl,rfl,rfl⟩
  case hm=>omega
  case hlo=>(exact Ah)
  case hlr=>exact fun h0=>by have:=hq Al;(exact Ah)
  case hsm=>omega
  intro v2' q2' xn d1 d2 d3 G2'
  have d4:(0<s/\q2'=q2/\q2<h1.next)\/(s=0/\q1'<q2'/\h1.next+16<=q2'):=by
   rcases Nat.eq_zero_or_pos s with h0|h0
   ·have:=d1 Al;have:=a1 h0;exact .inr ⟨h0,Ah,Ah⟩
   ·have:=d2 Al;have:=hq h0;exact .inl ⟨h0,by omega,by omega⟩
  have e3:rowsOf (fun i=>(sides L.f i).cells) (s*2)++((L.f s).lower.cells++(L.f s).upper.cells)=rowsOf (fun i=>(sides L.f i).cells) (s*2+2):=by
   show _=(rowsOf (fun i=>(sides L.f i).cells) (s*2)++(sides L.f (s*2)).cells)++(sides L.f (s*2+1)).cells
   rw[List.append_assoc,Nat.mul_comm s 2,IX,IW]
  rw[e3]at G2'
  have hq':=hq
  (refine Aj ?_)
  refine hK (s+1,v1',q1',v2',q2') _ _ ⟨rfl,rfl,rfl,AK rfl (by dsimp only;omega),trivial⟩ ⟨?_,Aq,Ah,by dsimp only;omega,G1'.frame fun h0=>Aw fun y hy=>Aa,?_,fun h0=>?_⟩ (by dsimp only;omega)
  ·have e4:(s+1) *2=s*2+2:=by omega
   dsimp only
   rw[e4]
   (exact Aa)
  ·have e4:(s+1) *2=s*2+2:=by omega
   dsimp only
   rw[e4]
   exact G2'.frame fun h0=>Aw fun y hy=>by(exact Aa)
  ·dsimp only
   rcases c4 with c4|c4<;>rcases d4 with d4|d4
   ·have:=hq c4.1;exact⟨Ah,Ah,Ah⟩
   ·omega
   ·omega
   ·exact⟨Ah,Ah,Ah⟩
 ·obtain rfl:s=L.n:=by omega
  obtain⟨a1,b1,b2,b3⟩:=G1.els (fun i=>rfl)
  obtain⟨a2,c1,c2,c3⟩:=G2.els (fun i=>rfl)
  (refine Aj ?_)
  (refine Au ?_)
  have e2:L.n*2=2*L.n:=by omega
  rw[e2]at g1 c1 c2 c3
  refine⟨⟨L.n,L.f,h.next+2,v1,a1,v2,a2⟩,rfl,rfl,rfl,⟨Aa,by dsimp only;(exact Ah),b1,?_,fun h0=>?_,c1,?_,fun h0=>?_,ln,lv,fun h0=>G2.none (by dsimp only at h0;omega)⟩⟩
  ·exact fun i hi=>by have:=b2 i hi;exact this
  ·have:=b3 h0;have:=hq h0;dsimp only;(exact Ah)
  ·exact fun i hi=>by have:=c2 i hi;exact this
  ·have:=c3 h0;have:=hq (by dsimp only at h0;omega);dsimp only;(exact Ah)
end AE.Tryz.Spn

/- Comparisons of sides, fractions and truths. -/
namespace AE.Tryz.Spn
open Go AE Go.Proofs AE.Sp
set_option maxRecDepth 100000
set_option linter.unusedVariables false

theorem PartOf.one {P:Program}{e:TypeId}{cs:List Value}{off:Nat}{v:Value}(h1:Dc P e=some false) (h2:cs[off]? =some v):PartOf P e false cs off [v]:=⟨h1,by rw[if_neg (by simp)];exact⟨v,h2,rfl⟩⟩
theorem PartOf.agg {P:Program}{e:TypeId}{s:Nat}{cs x:List Value}{off:Nat}(h1:Dc P e=some true) (h2:sizeT P e=some s) (h3:cut cs off s=some x):PartOf P e true cs off x:=⟨h1,by rw[if_pos rfl];exact⟨s,h2,h3⟩⟩
theorem bY (x y:Fr):QF Tryz.prog 2 57 true x.cells y.cells (x.n==y.n&&(x.d==y.d&&true)):=by
 refine QF.struct (fs:=?fs) ?ht ?hs ?h
 case ht=>exact Tryz.underlying57
 case hs=>kernel_rfl
 refine Pj.cons (agg:=false) (x:=[.int .i64 x.n]) (y:=[.int .i64 y.n]) (by decide) (PartOf.one rfl rfl) (PartOf.one rfl rfl) (QF.int rfl) ?_
 exact Pj.cons (agg:=false) (x:=[.int .i64 x.d]) (y:=[.int .i64 y.d]) (by decide) (PartOf.one rfl rfl) (PartOf.one rfl rfl) (QF.int rfl) Pj.nil
def sdc (s:Sd) (i:Nat):Int:=match i with|0=>s.u|1=>s.v|_=>s.w
theorem xk (x y:Sd):QF Tryz.prog 2 109 true x.cells y.cells (cW (fun i=>sdc x i==sdc y i) 3):=by
 have part:∀(z:Sd) (i:Nat),i<3->PartOf Tryz.prog 2 false z.cells (i*1) [.int .i64 (sdc z i)]:=fun z i hi=>by
  obtain rfl|rfl|rfl:i=0\/i=1\/i=2:=by omega
  ·exact PartOf.one rfl rfl
  ·exact PartOf.one rfl rfl
  ·exact PartOf.one rfl rfl
 refine QF.arr (e:=2) (s:=1) (agg:=false) (x:=fun i=>[.int .i64 (sdc x i)]) (y:=fun i=>[.int .i64 (sdc y i)]) ?ht ?hs (part x) (part y) (fun i hi=>QF.int rfl)
 case ht=>exact Tryz.underlying109
 case hs=>kernel_rfl
theorem WY (x y:Fr):Bl Tryz.prog (Op.equalIn Op.maxDepth 57 (.agg ⟨x.cells⟩) (.agg ⟨y.cells⟩))=some (decide (x=y)):=by
 have:=(bY x y).run 2 Op.maxDepth (by decide)
 rw[show(.agg ⟨x.cells⟩:Value)=Kr true x.cells from rfl,show(.agg ⟨y.cells⟩:Value)=Kr true y.cells from rfl,this]
 congr 1
 rw[Bool.eq_iff_iff]
 simp only[Bool.and_eq_true,beq_iff_eq,and_true,decide_eq_true_eq]
 exact⟨fun h=>Fr.ext' h.1 h.2,fun h=>h▸⟨rfl,rfl⟩⟩
theorem Mb (x y:Sd):Bl Tryz.prog (Op.equalIn Op.maxDepth 109 (.agg ⟨x.cells⟩) (.agg ⟨y.cells⟩))=some (decide (x.u=y.u/\x.v=y.v/\x.w=y.w)):=by
 have:=(xk x y).run 2 Op.maxDepth (by decide)
 rw[show(.agg ⟨x.cells⟩:Value)=Kr true x.cells from rfl,show(.agg ⟨y.cells⟩:Value)=Kr true y.cells from rfl,this]
 congr 1
 rw[Bool.eq_iff_iff]
 simp[cW,List.range_succ,sdc]
end AE.Tryz.Spn

/- Walks of span: sides that are put together. -/
namespace AE.Tryz.Spn
open Go AE Go.Proofs AE.Sp
set_option maxRecDepth 100000
set_option linter.unusedVariables false

def comb (S:Nat->Sd) (l:List (Nat × Nat)):Sd:=l.foldl (fun acc p=>acc.add ((S p.1).by p.2)) ⟨0,0,0⟩
theorem pE (S:Nat->Sd) (l:List (Nat × Nat)) (p:Nat × Nat):comb S (l++[p])=(comb S l).add ((S p.1).by p.2):=by simp[comb]
theorem Pb {s:Sd}(k:s.Up 20 100000) {n:Nat}(hn:n<=800):(s.by n).Up 16000 80000000:=by
 have b1:=BJ (b:=(n:Int)) (B:=800) k.u.1 k.u.2 Al Al
 have b2:=BJ (b:=(n:Int)) (B:=800) k.v.1 k.v.2 Al Al
 have b3:=BJ (b:=(n:Int)) (B:=800) k.w.1 k.w.2 Al Al
 exact⟨by unfold Sd.by;dsimp only;omega,by unfold Sd.by;dsimp only;omega,by unfold Sd.by;dsimp only;omega⟩
theorem uF {S:Nat->Sd}{N:Nat}(hS:∀i,i<N->(S i).Up 20 100000) {l:List (Nat × Nat)}(hl:∀p∈l,p.1<N/\p.2<=800) (h3:l.length<=3):(comb S l).Up 48000 240000000:=by
 have key:∀(l:List (Nat × Nat)) (acc:Sd) (c:Int),(∀p∈l,p.1<N/\p.2<=800)->acc.Up (16000*c) (80000000*c)->0<=c->(l.foldl (fun acc p=>acc.add ((S p.1).by p.2)) acc).Up (16000* (c+l.length)) (80000000* (c+l.length)):=by
  intro l
  induction l with
  |nil=>intro acc c _ k _;simpa using k
  | cons p l ih=>
    intro acc c hl k hc
    have hp:=hl p (by simp)
    have b:=Pb (hS p.1 hp.1) hp.2
    have:=ih (acc.add ((S p.1).by p.2)) (c+1) (fun x hx=>hl x (by simp[hx])) ⟨by have:=k.u;have:=b.u;unfold Sd.add;dsimp only;omega,by have:=k.v;have:=b.v;unfold Sd.add;dsimp only;omega,by have:=k.w;have:=b.w;unfold Sd.add;dsimp only;omega⟩ Al
    have e:c+1+(l.length:Int)=c+((p::l).length:Int):=by simp only[List.length_cons];omega
    rw[e]at this
    exact this
 have:=key l ⟨0,0,0⟩ 0 hl ⟨by dsimp only;omega,by dsimp only;omega,by dsimp only;omega⟩ (Int.le_refl _)
 obtain⟨a,b,c⟩:=this
 refine⟨?_,?_,?_⟩
 ·show -48000<=(comb S l).u/\_
  unfold comb;omega
 ·unfold comb;omega
 ·unfold comb;omega

structure Mk where
 r:Option Nat
 l:List (Nat × Nat)
 s:Sd
 t:Int
def Mk.cells (M:Mk):List Value:=[.map M.r,.int .i64 M.s.u,.int .i64 M.s.v,.int .i64 M.s.w,.int .i64 M.t]
def Mk.none:Mk:=⟨.none,[],⟨0,0,0⟩,0⟩
structure Mk.Ok (M:Mk) (S:Nat->Sd) (N b m:Nat) (h:H):Prop where
 g:∀q,M.r=some q->(b<=q/\q<m)/\h.get q=some (.map (ents M.l 0) M.l.length)
 z:M.r= .none->M.l=[]
 k:(M.l.map Prod.fst).Pairwise (· < ·)
 v:∀p∈M.l,p.1<N/\p.2<=800
 n:M.l.length<=3
 s:M.s=comb S M.l
theorem Mk.Ok.frame {M:Mk}{S:Nat->Sd}{N b b' m m':Nat}{h h':H}(k:M.Ok S N b m h) (hb:b'<=b) (hm:m<=m') (s:∀r,b<=r->r<m->h'.get r=h.get r):M.Ok S N b' m' h':=
 ⟨fun q e=>⟨by have:=(k.g q e).1;omega,(s _ (k.g q e).1.1 (k.g q e).1.2).trans (k.g q e).2⟩,k.z,k.k,k.v,k.n,k.s⟩

theorem _root_.AE.Sp.Sd.Up.mono {F W F' W':Int}{s:Sd}(k:s.Up F W) (h1:F<=F') (h2:W<=W'):s.Up F' W':=⟨by have:=k.u;omega,by have:=k.v;omega,by have:=k.w;omega⟩
theorem Z7 {h:H}{a b:Sd}{r:Nat}{F W:Int}{e:TypeId}(ka:a.Up F W) (kb:b.Up F W) (hF:F<=2305843009213693952) (hW:W<=2305843009213693952) (hg:h.get r=some (.cells [.int .i64 a.u,.int .i64 a.v,.int .i64 a.w,.int .i64 b.u,.int .i64 b.v,.int .i64 b.w] e)) (hr:r<h.next):AW Tryz.prog 200 h.next h [.slice (some ⟨r,0,none⟩) 2 2] (fun v _=>v= .agg ⟨(a.add b).cells⟩):=Ac6 ka kb hF hW hg hr

def FX (g b:Nat->Nat) (k:Nat):List (Nat × Nat):=(List.range k).map fun i=>(g i,b i)
theorem NA (g b:Nat->Nat) (k:Nat):FX g b (k+1)=FX g b k++[(g k,b k)]:=by simp[FX,List.range_succ]
theorem UO (g b:Nat->Nat) (k:Nat):(FX g b k).length=k:=by simp[FX]
theorem My {g b:Nat->Nat}{k:Nat}{p:Nat × Nat}:p∈FX g b k↔∃i,i<k/\p=(g i,b i):=by
 simp only[FX,List.mem_map,List.mem_range]
 exact⟨fun⟨i,hi,e⟩=>⟨i,hi,e.symm⟩,fun⟨i,hi,e⟩=>⟨i,hi,e.symm⟩⟩
theorem UQ {g b:Nat->Nat}:∀{k:Nat},(∀i j,i<j->j<k->g i<g j)->((FX g b k).map Prod.fst).Pairwise (· < ·)
 |0,_=>by simp[FX]
 | k+1,h=>by
   rw[NA,List.map_append,List.pairwise_append]
   refine⟨UQ fun i j hi hj=>h i j hi Al,by simp,fun x hx y hy=>?_⟩
   obtain⟨p,hp,rfl⟩:=List.mem_map.1 hx
   obtain⟨i,hi,rfl⟩:=My.1 hp
   simp only[List.map_cons,List.map_nil,List.mem_singleton]at hy
   subst hy
   exact h i k hi Al
theorem mw {l:List (Nat × Nat)}{a b:Nat}(h:∀p∈l,p.1≠a):mz l a b=l++[(a,b)]:=by
 have:l.findIdx? (fun p=>p.1==a)=none:=List.findIdx?_eq_none_iff.2 fun p hp=>by simpa using h p hp
 unfold mz
 rw[this]

theorem kTSpanG0 {G G':Prop}(g:G') (t:G'->G:=by((apply Ar);(focus exact Ao);(focus exact AQ);(focus((apply An1 (F:=20) (W:=100000) (N:=800);(focus assumption);(focus omega);(focus decide);(focus decide)))))):G:=t g

set_option maxHeartbeats 4000000 in
theorem Z5 {h:H}{T:Tab}{m:Nat}{G B:G9}{g b:Nat->Nat}{t:Int}(hm:m<=h.next) (hT:T.Ok m h) (hG:G.Ok m h) (hB:B.Ok m h) (gn:G.n<=3) (bn:B.n=G.n) (hg:∀i,i<G.n->G.f i=(g i:Int)/\g i<2*T.n) (hb:∀i,i<G.n->B.f i=(b i:Int)/\b i<=800) (inc:∀i j,i<j->j<G.n->g i<g j):
 AW Tryz.prog 202 h.next h [.pointer (some ⟨T.r,0,none⟩),.slice G.b G.n G.c,.int .i64 t,.slice B.b B.n B.c] (fun v h'=>∃q,v= .agg ⟨(⟨some q,FX g b G.n,comb T.S (FX g b G.n),t⟩:Mk).cells⟩/\(⟨some q,FX g b G.n,comb T.S (FX g b G.n),t⟩:Mk).Ok T.S (2*T.n) h.next h'.next h'):=by
 obtain⟨ge,gi,gr,gl⟩:=hG
 obtain⟨be,bi,br,bl⟩:=hB
 have gi:Ints h G.a G.n (fun i=>(g i:Int)):=fun i hi=>by dsimp only;rw[<-(hg i hi).1];exact gi i hi
 have bi:Ints h B.a B.n (fun i=>(b i:Int)):=fun i hi=>by dsimp only;rw[<-(hb i Al).1];exact bi i hi
 refine zM.call rfl (Nat.le_refl _) ?_
 unfold Aia
 (refine Aj ?_)
 refine DT.mk (v:=.map (some (h.next+1))) rfl ?_
 (refine Aj ?_)
 refine wp_loop (fun s:Nat=>[(0,.pointer (some ⟨T.r,0,none⟩)),(3,.slice B.b B.n B.c),(8,.pointer (some ⟨h.next,0,none⟩)),(9,.pointer (some ⟨h.next+5,0,none⟩)),(16,.slice G.b G.n G.c),(17,.int .i64 G.n),(18,.int .i64 s)])
  (fun s h1=>h1.get h.next=some (.cells [.map none,.int .i64 0,.int .i64 0,.int .i64 0,.int .i64 0] 111)/\h1.get (h.next+1)=some (.map (ents (FX g b s) 0) (FX g b s).length)/\h1.get (h.next+5)=some (.cells [.map (some (h.next+1)),.int .i64 (comb T.S (FX g b s)).u,.int .i64 (comb T.S (FX g b s)).v,.int .i64 (comb T.S (FX g b s)).w,.int .i64 t] 111)/\Same h.next h h1/\h.next+7<=h1.next/\s<=G.n) (fun s=>G.n - s) 0 ⟨rfl,rfl,rfl,rfl,rfl,rfl,rfl,trivial⟩ ⟨Aa,?_,?_,Aq,Ah,by omega⟩ ?_
 ·show _=some (BQ.map [] 0)
  (exact Aa)
 ·show _=some (BQ.cells [.map (some (h.next+1)),.int .i64 0,.int .i64 0,.int .i64 0,.int .i64 t] 111)
  (exact Aa)
 rintro s g' h1 ⟨g1,g2,g3,sm,n1,hs⟩ K hK
 by_cases hsn:s<G.n
 ·have xg:=gr Al
  have xb:=br Al
  have gi5:=gi.same (sm.mono hm) gr
  have bi5:=bi.same (sm.mono hm) br
  have hgs:=hg s hsn
  have hbs:=hb s hsn
  have up:=hT.up hgs.2
  have Gc:=uF (S:=T.S) (N:=2*T.n) (fun i hi=>hT.up hi) (l:=FX g b s) (fun p hp=>by obtain⟨i,hi,rfl⟩:=My.1 hp;exact⟨(hg i Al).2,(hb i Al).2⟩) (by rw[UO];omega)
  obtain⟨tg,wZ,tpe,tpi,tpr,tse,tsi,vt,tle,Ac3⟩:=hT.same (sm.mono hm) (Nat.le_refl _)
  (refine Aj ?_)
  refine DT.mk (SE (r:=h.next+1) (l:=FX g b s) (a:=g s) (b:=b s) Tryz.underlying3 rfl rfl rfl Al Aa) ?_
  rw[mw (fun p hp=>by obtain⟨i,hi,rfl⟩:=My.1 hp;have:=inc i s hi hsn;dsimp only;omega),<-NA]
  (focus((try with_reducible apply wpC.to);(repeat'((conv=>whnf);first|refine Ak ?_|(apply Fork.mk<;>(intro _;try(exfalso;omega)))|((refine kTSpanG0 ?_);first|((first|apply Ae|apply Ac|apply Ad)<;>intro _ _ _ _<;>try contradiction)|(apply Ab;intro _ _ _))|fail));all_goals((conv=>whnf);try with_reducible apply At.mk)))
  apply Dw
  focus(exact Ao)
  focus(exact AQ)
  focus exact Z7 (a:=comb T.S (FX g b s)) (b:=(T.S (g s)).by (b s)) (F:=48000) (W:=240000000) (e:=109) Gc ((Pb up hbs.2).mono (by decide) (by decide)) (by decide) (by decide) Aa Ah
  intro h2 q2 n2
  rw[<-pE T.S (FX g b s) (g s,b s),<-NA]
  (refine Aj ?_)
  exact hK (s+1) _ _ ⟨rfl,rfl,rfl,rfl,rfl,rfl,AK rfl Al,trivial⟩ ⟨Aa,Aa,Aa,Aq,Ah,by omega⟩ Al
 ·obtain rfl:s=G.n:=by omega
  (refine Aj ?_)
  (refine Au ?_)
  refine⟨h.next+1,rfl,⟨?_,fun e=>absurd e (by simp),UQ inc,fun p hp=>?_,by dsimp only;rw[UO];exact gn,rfl⟩⟩
  ·intro q e
   obtain rfl:h.next+1=q:=Option.some.inj e
   exact⟨⟨by omega,Ah⟩,Aa⟩
  ·obtain⟨i,hi,rfl⟩:=My.1 hp
   exact⟨(hg i hi).2,(hb i hi).2⟩
end AE.Tryz.Spn
