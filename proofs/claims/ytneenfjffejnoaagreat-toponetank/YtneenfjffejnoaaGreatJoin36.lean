/- Walks and plain laws: T9W, AELit, T9Oe, T9FitO. -/
import Derived.Test.YtneenfjffejnoaaGreatAEBy2
import Derived.Test.YtneenfjffejnoaaGreatT9Code
import Derived.Test.YtneenfjffejnoaaGreatT9K229
import Derived.Test.YtneenfjffejnoaaGreatT9K230
import Derived.Test.YtneenfjffejnoaaGreatT9K231
import Derived.Test.YtneenfjffejnoaaGreatT9K147
import Derived.Test.YtneenfjffejnoaaGreatT9K148
import Derived.Test.YtneenfjffejnoaaGreatT9W77
import Derived.Test.YtneenfjffejnoaaGreatT9M78
import Derived.Test.YtneenfjffejnoaaGreatT9M33
import Derived.Test.YtneenfjffejnoaaGreatT9M34
import Derived.Test.YtneenfjffejnoaaGreatAEthree
import Derived.Test.YtneenfjffejnoaaGreatJoin30
import Derived.Test.YtneenfjffejnoaaGreatJoin26
import Derived.Test.YtneenfjffejnoaaGreatJoin34
import Derived.Test.YtneenfjffejnoaaGreatJoin33
import Derived.Test.YtneenfjffejnoaaGreatRows
import Derived.KernelRfl
set_option linter.unusedVariables false
set_option linter.unusedSimpArgs false
set_option linter.unusedSectionVars false

/- Works of the layers up to 9. -/
namespace AE.Tryz
open Go AE Go.Proofs
set_option maxRecDepth 100000
theorem Ajk {h:H}:AW Tryz.prog 229 h.next h [] (fun v h'=>v= .bool true/\h'=h):=kc Ad2
theorem Ajj {h:H}:AW Tryz.prog 230 h.next h [] (fun v h'=>v= .bool true/\h'=h):=kc Ad1
theorem Aji {h:H}:AW Tryz.prog 231 h.next h [] (fun v h'=>v= .bool true/\h'=h):=kc Ad0
theorem Ajm {h:H}:AW Tryz.prog 147 h.next h [] (fun v h'=>v= .bool true/\h'=h):=kc Ad4
theorem Ajl {h:H}:AW Tryz.prog 148 h.next h [] (fun v h'=>v= .bool true/\h'=h):=kc Ad3
theorem gM {h:H}:AW Tryz.prog 146 h.next h [] (fun v _=>v= .bool true):=by
 refine z3.call rfl (Nat.le_refl _) ?_
 unfold a146
 (refine Aj ?_)
 apply Ar
 focus(exact Ao)
 focus(exact AQ)
 focus exact Ajk
 rintro _ _ ⟨rfl,rfl⟩ q hn
 (refine Aj ?_)
 apply Ar
 focus(exact Ao)
 focus(exact AQ)
 focus exact Ajj
 rintro _ _ ⟨rfl,rfl⟩ q hn
 (refine Aj ?_)
 apply Ar
 focus(exact Ao)
 focus(exact AQ)
 focus exact Aji
 rintro _ _ ⟨rfl,rfl⟩ q hn
 (refine Aj ?_)
 (refine Au ?_)
 rfl
theorem gL {h:H}:AW Tryz.prog 76 h.next h [] (fun v _=>v= .bool true):=by
 refine Ae3.call rfl (Nat.le_refl _) ?_
 unfold a76
 (refine Aj ?_)
 apply Dw
 focus(exact Ao)
 focus(exact AQ)
 focus exact gM
 intro _ q hn
 (refine Aj ?_)
 apply Ar
 focus(exact Ao)
 focus(exact AQ)
 focus exact Ajm
 rintro _ _ ⟨rfl,rfl⟩ q hn
 (refine Aj ?_)
 apply Ar
 focus(exact Ao)
 focus(exact AQ)
 focus exact Ajl
 rintro _ _ ⟨rfl,rfl⟩ q hn
 (refine Aj ?_)
 (refine Au ?_)
 rfl
theorem gK {h:H}:AW Tryz.prog 32 h.next h [] (fun v _=>v= .bool true):=by
 refine Af5.call rfl (Nat.le_refl _) ?_
 unfold a32
 (refine Aj ?_)
 apply Dw
 focus(exact Ao)
 focus(exact AQ)
 focus exact gL
 intro _ q hn
 (refine Aj ?_)
 apply Ar
 focus(exact Ao)
 focus(exact AQ)
 focus exact w77
 rintro _ _ ⟨rfl,rfl⟩ q hn
 (refine Aj ?_)
 apply Ar
 focus(exact Ao)
 focus(exact AQ)
 focus exact w78
 rintro _ _ ⟨rfl,rfl⟩ q hn
 (refine Aj ?_)
 (refine Au ?_)
 rfl
theorem Uo {h:H}:AW Tryz.prog 7 h.next h [] (fun v _=>v= .bool true):=by
 refine Ank.call rfl (Nat.le_refl _) ?_
 unfold a7
 (refine Aj ?_)
 apply Dw
 focus(exact Ao)
 focus(exact AQ)
 focus exact gK
 intro _ q hn
 (refine Aj ?_)
 apply Ar
 focus(exact Ao)
 focus(exact AQ)
 focus exact w33
 rintro _ _ ⟨rfl,rfl⟩ q hn
 (refine Aj ?_)
 apply Ar
 focus(exact Ao)
 focus(exact AQ)
 focus exact w34
 rintro _ _ ⟨rfl,rfl⟩ q hn
 (refine Aj ?_)
 (refine Au ?_)
 rfl
theorem HQ {G G':Prop}(g:G') (t:G'->G:=by((apply Ar);(focus exact Ao);(focus exact AQ);(focus((apply Uo))))):G:=t g
end AE.Tryz

/- Slices that are written down, and grow. -/
namespace AE
open Go Go.RowKit
set_option linter.unusedVariables false
def LT (r:Nat) (h:H) (e:TypeId) (sz n:Nat) (cs:List Value) (w:Option Addr) (c:Nat):Prop:=(w=some ⟨r,0,none⟩/\c=n/\n<far/\cs.length=n*sz/\h.get r=some (.cells cs e))\/(c=0/\N5 r h e sz n cs w)
theorem LT.frame {r n sz c:Nat}{e:TypeId}{h h':H}{cs:List Value}{w:Option Addr}(k:LT r h e sz n cs w c) (hr:h'.get r=h.get r):LT r h' e sz n cs w c:=
 k.elim (fun⟨a,b,c,d,e⟩=>.inl ⟨a,b,c,d,hr.trans e⟩) fun⟨hc,G⟩=>.inr ⟨hc,G.frame hr⟩
theorem LT.cap {r n sz c:Nat}{e:TypeId}{h:H}{cs:List Value}{w:Option Addr}(k:LT r h e sz n cs w c):c<far:=by
 rcases k with⟨-,rfl,h1, -⟩|⟨rfl, -⟩
 ·exact h1
 ·unfold far;omega
theorem LT.els {r n sz c:Nat}{e:TypeId}{h:H}{f:Nat->List Value}{w:Option Addr}(k:LT r h e sz n (rowsOf f n) w c) (hf:∀i,(f i).length=sz):∃a,w=some a/\a.block=r/\JP h a n sz f:=by
 rcases k with⟨rfl,rfl, -, -,hg⟩|⟨rfl,G⟩
 ·refine⟨_,rfl,rfl,fun i hi=>?_⟩
  have:=EN (g:=f) (w:=sz) hf hi [] [] (a:=0+i*sz) (by simp)
  exact CP (off:=0+i*sz) hg (by simpa using this)
 ·obtain⟨a,hv,hb,hld, -⟩:=G.load
  refine⟨a,hv,hb,fun i hi=>hld _ _ _ ?_⟩
  have:=EN (g:=f) (w:=sz) hf hi [] [] (a:=i*sz) (by simp)
  simpa using this
section
variable {P:Program}{lo Br:Nat}{ts:Ts}{h:H}{k:Value->H->Prop}
theorem V8 {r n m sz bytes c:Nat}{e:TypeId}{cs nc:List Value}{w:Option Addr}{sx x:BH}(G:LT r h e sz n cs w c) (hsv:ev ts sx= .slice w n c) (C:Cells h sz m (ev ts x) nc) (hm:0<m) (hlo:lo<=Br) (hlr:lo<=r) (hsm:(n+m+1) * (bytes+1)<=1099511627776)
 (hr:∀w' r' h',(r'=r\/r'=Br)->(∀s,s≠r'->h'.get s=h.get s)->h'.next=h.next->LT r' h' e sz (n+m) (cs++nc) w' 0->k (.slice w' (n+m) 0) h'):DT P lo Br ts h (.append e sz bytes sx x) k:=by
 rcases G with⟨rfl,rfl,hf,hl,hg⟩|⟨rfl,G⟩
 ·apply aK (n:=c) (m:=m) (b:=Br) (cs:=cs) (nc:=nc) (c:=c)
  case hsv=>exact hsv
  case G=>exact⟨hl,.inr ⟨_,rfl,hf,.inl ⟨rfl,rfl⟩,CP (off:=0) hg (by rw[<-hl];unfold cut;simp)⟩⟩
  case C=>exact C
  case hm=>exact hm
  case hb=>omega
  case hsm=>exact hsm
  intro v' row G'
  obtain⟨r4,G4,hr4,yD⟩:=G'.t6 Al
  obtain rfl:r4=Br:=by omega
  exact hr v' r4 _ (.inr rfl) (fun s hs=>by simp[H.put,hs]) rfl (.inr ⟨rfl,G4⟩)
 ·apply Sm (r:=r) (n:=n) (m:=m) (cs:=cs) (nc:=nc)
  case hsv=>exact hsv
  case G=>exact G
  case C=>exact C
  case hm=>exact hm
  case hlo=>exact hlr
  case hsm=>exact hsm
  intro v' row G5
  exact hr v' r _ (.inl rfl) (fun s hs=>by simp[H.put,hs]) rfl (.inr ⟨rfl,G5⟩)
end
end AE

/- Walk of TopOneTank. -/
namespace AE.Tryz
open Go AE Go.Proofs AE.Fair
set_option maxRecDepth 100000
set_option linter.unusedVariables false
set_option linter.unusedSimpArgs false

def aD (S:Ug) (B:Rg) (i:Nat):List Value:=if i=0 then[.int .i64 1,.int .i64 0,.int .i64 B.lo,.int .i64 B.hi]else[.int .i64 1,.int .i64 1,.int .i64 (S.f (i - 1)).lo,.int .i64 (S.f (i - 1)).hi]
def gX (S:Ug) (i:Nat):List Value:=[.int .i64 0,.int .i64 0,.int .i64 (S.f i).lo,.int .i64 (S.f i).hi]
structure OtS where
 s:Nat
 r1:Nat
 w1:Option Addr
 c1:Nat
 r2:Nat
 w2:Option Addr

set_option maxHeartbeats 4000000 in
set_option pp.maxSteps 100000 in
theorem iW {h:H}{B:Rg}{S:Ug}{m:Nat}(hm:m<=h.next) (hS:S.Ok m h):AW Tryz.prog 3 h.next h [.agg ⟨B.cells⟩,.slice S.b S.n S.c] (fun v _=>v= .bool true):=by
 obtain⟨se,si,sr,sl⟩:=hS
 have hS:S.Ok m h:=⟨se,si,sr,sl⟩
 refine Ano.call rfl (Nat.le_refl _) ?_
 unfold a3 Rg.cells
 by_cases h12:12<=S.n
 ·(focus((try with_reducible apply wpC.to);(repeat'((conv=>whnf);first|refine Ak ?_|(apply Fork.mk<;>(intro _;try(exfalso;omega)))|((first|refine HQ ?_|refine kTSpanC2 ?_|refine kTSpanC0 ?_|refine kTSpanB7 ?_);first|((first|apply Ae|apply Ac|apply Ad)<;>intro _ _ _ _<;>try contradiction)|(apply Ab;intro _ _ _))|fail));all_goals((conv=>whnf);try with_reducible apply At.mk)))
  all_goals((refine Au ?_);rfl)
 (refine Aj ?_)
 refine wp_loop (fun x:OtS=>[(1,.slice S.b S.n S.c),(2,.pointer (some ⟨h.next,0,none⟩)),(5,.slice x.w1 (x.s+1) x.c1),(6,.pointer (some ⟨h.next+11,0,none⟩)),(7,.int .i64 x.s)])
  (fun x X=>Same h.next h X/\X.get (h.next+11)=some (.cells [.int .i64 1,.int .i64 1,.int .i64 B.lo,.int .i64 B.hi,.slice x.w2 x.s 0] 31)/\LT x.r1 X 27 4 (x.s+1) (rowsOf (aD S B) (x.s+1)) x.w1 x.c1/\GG x.r2 X 33 4 x.s (rowsOf (gX S) x.s) x.w2/\(h.next+7<=x.r1/\x.r1<X.next/\x.r1≠h.next+11)/\(0<x.s->h.next+12<=x.r2/\x.r2<X.next/\x.r2≠x.r1)/\h.next+14<=X.next/\x.s<=S.n) (fun x=>S.n - x.s) ⟨0,h.next+7,some ⟨h.next+7,0,none⟩,1,0,none⟩
  ⟨rfl,rfl,rfl,rfl,rfl,trivial⟩ ⟨Aq,Aa,.inl ⟨rfl,rfl,by unfold AE.far;dsimp only;omega,rfl,Aa⟩,GG.nil,⟨by simp,by dsimp only;(exact Ah),by simp⟩,by simp,Ah,by simp⟩ ?_
 rintro⟨s,r1,w1,c1,r2,w2⟩ g X ⟨sm,gt,L1,G2,⟨q1,q2,q3⟩,hr2,nx,hs⟩ K hK
 dsimp only at gt L1 G2 q1 q2 q3 hr2 nx hs
 dsimp only at hK⊢
 by_cases hsn:s<S.n
 ·have si2:=si.same sm (fun h0=>by have:=sr h0;omega)
  have E1:rowsOf (aD S B) (s+1+1)=rowsOf (aD S B) (s+1)++[.int .i64 1,.int .i64 1,.int .i64 (S.f s).lo,.int .i64 (S.f s).hi]:=rfl
  have E2:rowsOf (gX S) (s+1)=rowsOf (gX S) s++[.int .i64 0,.int .i64 0,.int .i64 (S.f s).lo,.int .i64 (S.f s).hi]:=rfl
  (refine Aj ?_)
  apply V8 (r:=r1) (n:=s+1) (m:=1) (cs:=rowsOf (aD S B) (s+1)) (nc:=[.int .i64 1,.int .i64 1,.int .i64 (S.f s).lo,.int .i64 (S.f s).hi]) (w:=w1) (c:=c1)
  case G=>exact L1.frame Ep
  case hsv=>exact rfl
  case C=>exact Cells.one Ez (by unfold AE.far;omega) rfl rfl
  case hm=>omega
  case hlo=>(exact Ah)
  case hlr=>omega
  case hsm=>omega
  intro w1' r1' X2 hr1 hf1 hx1 L1'
  have hx1:X2.next=X.next+13:=hx1
  have gt2:X2.get (h.next+11)=some (.cells [.int .i64 1,.int .i64 1,.int .i64 B.lo,.int .i64 B.hi,.slice w2 s 0] 31):=(hf1 _ Al).trans Aa
  have R3:Same h.next h X2:=fun y hy=>(hf1 y Al).trans ((Aw fun z hz=>Aa).trans (sm y hy))
  have G2':GG r2 X2 33 4 s (rowsOf (gX S) s) w2:=G2.frame fun h0=>(hf1 _ (by have:=hr2 h0;omega)).trans (Aw fun z hz=>by have:=hr2 h0;(exact Aa))
  rw[<-E1]at L1'
  clear hf1 L1 G2 gt sm si2
  have si3:=si.same R3 (fun h0=>by have:=sr h0;omega)
  (refine Aj ?_)
  apply EP (r:=r2) (n:=s) (m:=1) (cs:=rowsOf (gX S) s) (nc:=[.int .i64 0,.int .i64 0,.int .i64 (S.f s).lo,.int .i64 (S.f s).hi]) (v:=w2)
  case G=>exact G2'.frame fun h0=>Aw fun y hy=>by have:=hr2 h0;(exact Aa)
  case hsv=>exact rfl
  case C=>exact Cells.one Ez (by unfold AE.far;omega) rfl rfl
  case hm=>omega
  case hlo=>(exact Ah)
  case hlr=>exact fun h0=>by have:=hr2 h0;exact⟨Ah,Ah⟩
  case hsm=>omega
  intro w2' r2' row ha hb hc Ajg
  rw[<-E2]at Ajg
  have hr2':h.next+12<=r2'/\r2'<X2.next+11/\r2'≠r1':=by
   rcases Nat.eq_zero_or_pos s with h0|h0
   ·have:=ha h0;exact⟨Ah,Ah,Ah⟩
   ·have:=hb h0;have:=hr2 h0;exact⟨Ah,Ah,by omega⟩
  obtain⟨u1,u2,u3⟩:=hr2'
  (refine Aj ?_)
  refine hK ⟨s+1,r1',w1',0,r2',w2'⟩ _ _ ⟨rfl,rfl,rfl,rfl,AK rfl (by dsimp only;omega),trivial⟩ ⟨Aq,Aa,L1'.frame Ep,Ajg.frame fun _=>Aw fun y hy=>Aa,⟨by dsimp only;omega,by dsimp only;(exact Ah),by dsimp only;omega⟩,fun _=>⟨u1,by dsimp only;(exact Ah),u3⟩,Ah,by dsimp only;omega⟩ (by dsimp only;omega)
 ·obtain rfl:s=S.n:=by omega
  clear hK
  have E0:∀j,(aD S B j).length=4:=fun j=>by unfold aD;split<;>rfl
  obtain⟨a1,rfl,hb1,Agz⟩:=L1.els E0
  have hc1:=L1.cap
  obtain⟨a2,hw2,uv,hb2⟩:=G2.els (f:=gX S) fun _=>rfl
  obtain⟨Lr,hLr⟩:∃Lr:Spn.Runs,Lr=⟨S.n+1,fun j=>if j=0 then⟨1,0,B.lo,B.hi⟩else⟨1,1,(S.f (j - 1)).lo,(S.f (j - 1)).hi⟩,some a1,a1,c1⟩:=⟨_,rfl⟩
  have xQ:Lr.Ok X.next X:=by
   rw[hLr]
   refine⟨fun _=>rfl,fun j hj=>?_,fun _=>by dsimp only;omega,by dsimp only;omega⟩
   rw[Agz j hj]
   unfold aD
   dsimp only
   by_cases e:j=0
   ·rw[if_pos e,if_pos e];rfl
   ·rw[if_neg e,if_neg e];rfl
  have lb:Lr.b=some a1:=by rw[hLr]
  have ln:Lr.n=S.n+1:=by rw[hLr]
  have lc:Lr.c=c1:=by rw[hLr]
  obtain⟨Z,hZ⟩:∃Z:Agr.Tab,Z=⟨1,1,B.lo,B.hi,S.n,fun j=>⟨0,0,(S.f j).lo,(S.f j).hi⟩,w2,a2,0⟩:=⟨_,rfl⟩
  have kL:Z.Ok X.next X:=by
   rw[hZ]
   exact⟨hw2,uv,fun h0=>by have:=hb2 h0;have:=hr2 h0;dsimp only;omega,by dsimp only;omega⟩
  have zc:Z.cells=[.int .i64 1,.int .i64 1,.int .i64 B.lo,.int .i64 B.hi,.slice w2 S.n 0]:=by rw[hZ];rfl
  clear Agz uv L1 G2 hb1 hb2 hw2
  have RW:∀hh:H,X.next<=hh.next->Same X.next X hh->AW Tryz.prog 8 hh.next hh [.slice (some a1) (S.n+1) c1] (fun v _=>v= .int .i64 Lr.err):=fun hh h1 h2=>by
   have:=Spn.QA (L:=Lr) (m:=X.next) (h:=hh) h1 (xQ.same h2 (Nat.le_refl _))
   rw[lb,ln,lc]at this
   exact this
  have TW:∀hh:H,X.next<=hh.next->Same X.next X hh->AW Tryz.prog 9 hh.next hh [.agg ⟨[.int .i64 1,.int .i64 1,.int .i64 B.lo,.int .i64 B.hi,.slice w2 S.n 0]⟩] (fun v _=>∃e:Int,v= .int .i64 e/\(e=0↔Z.Valid)):=fun hh h1 h2=>by
   have:=Agr.I3 (T:=Z) (m:=X.next) (h:=hh) h1 (kL.same h2 (Nat.le_refl _))
   rw[zc]at this
   exact this
  have s0:Same X.next X X:=fun _ _=>rfl
  (refine Aj ?_)
  apply Ar
  focus(exact Ao)
  focus(exact AQ)
  focus exact RW _ Ah Aq
  rintro _ X1 rfl q1 hn1
  by_cases he1:Lr.err=0
  rotate_left
  ·generalize Lr.err=e1 at he1⊢
   (focus((try with_reducible apply wpC.to);(repeat'((conv=>whnf);first|refine Ak ?_|(apply Fork.mk<;>(intro _;try(exfalso;omega)))|((first|refine HQ ?_|refine kTSpanC2 ?_|refine kTSpanC0 ?_|refine kTSpanB7 ?_);first|((first|apply Ae|apply Ac|apply Ad)<;>intro _ _ _ _<;>try contradiction)|(apply Ab;intro _ _ _))|fail));all_goals((conv=>whnf);try with_reducible apply At.mk)))
   all_goals((refine Au ?_);rfl)
  rw[he1]
  have fr1:∀y,y<X.next->X1.get y=X.get y:=fun y hy=>(q1.same y Ah).trans (Aw fun z hz=>Aa)
  have nx1:X.next<=X1.next:=by(exact Ah)
  have s1:Same X.next X X1:=fr1
  have gt1:=(fr1 _ Al).trans gt
  clear q1 hn1
  (refine Aj ?_)
  apply Ar
  focus(exact Ao)
  focus(exact AQ)
  focus exact TW _ Ah Aq
  rintro _ X2 ⟨e2,rfl,he2⟩ q2 hn2
  by_cases h0:e2=0
  rotate_left
  ·(focus((try with_reducible apply wpC.to);(repeat'((conv=>whnf);first|refine Ak ?_|(apply Fork.mk<;>(intro _;try(exfalso;omega)))|((first|refine HQ ?_|refine kTSpanC2 ?_|refine kTSpanC0 ?_|refine kTSpanB7 ?_);first|((first|apply Ae|apply Ac|apply Ad)<;>intro _ _ _ _<;>try contradiction)|(apply Ab;intro _ _ _))|fail));all_goals((conv=>whnf);try with_reducible apply At.mk)))
   all_goals((refine Au ?_);rfl)
  subst h0
  have zv:=he2.1 rfl
  clear he2
  have qM:∀y,y<X.next->X2.get y=X.get y:=fun y hy=>(q2.same y Ah).trans ((Aw fun z hz=>Aa).trans (fr1 y hy))
  have nx2:X.next<=X2.next:=by(exact Ah)
  have s2:Same X.next X X2:=qM
  have gt2:=(qM _ Al).trans gt
  clear q2 hn2 s1 fr1 nx1 gt1
  obtain⟨lln,llv⟩:=Lr.Tj he1
  have O:Spn.Lg Z.toTable Lr B.lo B.hi S.n (fun j=>(S.f j).lo) (fun j=>(S.f j).hi):=by
   rw[hZ,hLr]at*
   exact⟨zv.ok,rfl,rfl,rfl,rfl,by simp[Agr.Tab.toTable,Agr.F1.toTest],rfl,rfl,fun i hi=>by dsimp only;rw[if_neg Al];rfl,llv⟩
  have hbl:=O.le
  have UW:∀hh:H,X.next<=hh.next->Same X.next X hh->AW Tryz.prog 10 hh.next hh [.agg ⟨[.int .i64 1,.int .i64 1,.int .i64 B.lo,.int .i64 B.hi,.slice w2 S.n 0]⟩] (fun v h'=>∃t:Agr.Er,v= .tuple #[.agg ⟨t.cells⟩,.int .i64 (Agr.QI Z.toTable)]/\if Agr.QI Z.toTable=0 then Agr.K1 Z (Agr.WZ Z.toTable false) (Agr.Za false) hh.next t h' else t=Agr.Er.zero):=fun hh h1 h2=>by
   have:=Agr.Us (T:=Z) (m:=X.next) (h:=hh) h1 (kL.same h2 (Nat.le_refl _)) zv
   rw[zc]at this
   exact this
  have VW:∀hh:H,X.next<=hh.next->Same X.next X hh->AW Tryz.prog 11 hh.next hh [.slice (some a1) (S.n+1) c1] (fun v h'=>∃t:AE.Sp.Er,v= .tuple #[.agg ⟨t.cells⟩,.int .i64 (Lr.EH 0 0)]/\(Lr.EH 0 0≠0->t=⟨0,0,0⟩)/\(Lr.EH 0 0=0->Spn.Att Lr 0 0 t)):=fun hh h1 h2=>by
   have:=Spn.lK (L:=Lr) (m:=X.next) (h:=hh) h1 (xQ.same h2 (Nat.le_refl _))
   rw[lb,ln,lc]at this
   exact this
  have f0:Spn.qS 0 0:=⟨by decide,by decide⟩
  have b0:Lr.kN 0 0:=.inl ⟨rfl,rfl⟩
  by_cases ha:AgreeS.CV Z.toTable
  ·have cl:=O.agrees.1 ha
   have et:Agr.QI Z.toTable=0:=if_pos ha
   have el:Lr.EH 0 0=0:=Spn.Runs.Wp (Spn.Runs.KV he1 f0) cl b0
   (refine Aj ?_)
   apply Ar
   focus(exact Ao)
   focus(exact AQ)
   focus exact UW _ Ah Aq
   rintro _ X3 ⟨t,rfl,ht⟩ q3 Lj
   rw[et]at ht⊢
   rw[if_pos rfl]at ht
   have tt:=Agr.Z1 zv ha ht
   have tok:t.Ok X3.next X3:=⟨ht.ao,ht.co⟩
   have tab:=ht.ab
   have tcb:=ht.cb
   simp only[Bv,AY]at tab tcb
   clear ht
   have WM:∀y,y<X.next->X3.get y=X.get y:=fun y hy=>(q3.same y Ah).trans ((Aw fun z hz=>Aa).trans (qM y hy))
   have nx3:X2.next<=X3.next:=by(exact Ah)
   have s3:Same X.next X X3:=WM
   have gt3:=(WM _ Al).trans gt
   clear q3 Lj s2 qM gt2
   unfold Agr.Er.cells Agr.G9.val
   (refine Aj ?_)
   have w5:∀hh:H,(∀r,X2.next+8<=r->r<X3.next->hh.get r=X3.get r)->t.Ok X3.next hh:=fun hh hs=>⟨tok.a.frame (b:=X2.next+8) (fun _=>tab) (Nat.le_refl _) hs,tok.c.frame (b:=X2.next+8) (fun _=>tcb) (Nat.le_refl _) hs⟩
   have Aof:X2.next+8<=X3.next:=by
    have:=tok.a.r
    have:=tt.an
    have:Z.tanks=1:=by rw[hZ]
    omega
   apply Ar
   focus(exact Ao)
   focus(exact AQ)
   focus exact VW _ Ah Aq
   rintro _ X4 ⟨y,rfl, -,hy⟩ q4 Ng
   have hy:=hy el
   have hyf:=hy.f
   rw[el]
   have gx4:X4.get (X2.next+5)=some (.cells [.slice t.A.b t.A.n t.A.c,.slice t.C.b t.C.n t.C.c] 39):=(q4.same _ Ah).trans Aa
   have Abb:∀r,X2.next+8<=r->r<X3.next->X4.get r=X3.get r:=fun r h1 h2=>(q4.same r Ah).trans (Aw fun z hz=>Aa)
   have OS:∀y,y<X.next->X4.get y=X.get y:=fun y hy=>(q4.same y Ah).trans ((Aw fun z hz=>Aa).trans (WM y hy))
   have nx4:X3.next<=X4.next:=by(exact Ah)
   have s4:Same X.next X X4:=OS
   have gt4:=(OS _ Al).trans gt
   clear q4 Ng s3 WM gt3 hy
   unfold AE.Sp.Er.cells
   (refine Aj ?_)
   have KW:∀hh:H,X3.next<=hh.next->Same X.next X hh->(∀r,X2.next+8<=r->r<X3.next->hh.get r=X3.get r)->AW Tryz.prog 16 hh.next hh [.agg ⟨[.int .i64 1,.int .i64 1,.int .i64 B.lo,.int .i64 B.hi,.slice w2 S.n 0]⟩,.agg ⟨[.slice t.A.b t.A.n t.A.c,.slice t.C.b t.C.n t.C.c]⟩] (fun v _=>v= .int .i64 0):=fun hh h1 h2 h3=>by
    have:=Agr.Sg (T:=Z) (t:=t) (m:=X3.next) (h:=hh) h1 ((kL.same h2 (Nat.le_refl _)).same (fun _ _=>rfl) Al) zv (w5 hh h3)
    rw[zc]at this
    obtain⟨v,h',⟨e,rfl,he⟩,aw⟩:=this
    obtain rfl:=he.2 tt
    exact⟨_,h',rfl,aw⟩
   have FW:∀hh:H,X.next<=hh.next->Same X.next X hh->AW Tryz.prog 17 hh.next hh [.slice (some a1) (S.n+1) c1,.agg ⟨[.int .i64 y.a,.int .i64 y.b,.int .i64 y.d]⟩] (fun v _=>v= .int .i64 0):=fun hh h1 h2=>by
    have:=Spn.Vg (L:=Lr) (m:=X.next) (t:=y) (h:=hh) h1 (xQ.same h2 (Nat.le_refl _))
    rw[lb,ln,lc,hyf]at this
    exact this
   have htn:Z.tanks=1:=by rw[hZ]
   have hhn:Z.hulls=1:=by rw[hZ]
   have tan:=tt.an
   have tcn:=tt.cn
   have ta0:=tt.aw 0 Al
   have tc0:=tt.cw 0 Al
   have hfit:Lr.EA ⟨t.A.f 0,t.C.f 0,1⟩=0:=by
    unfold Spn.Runs.EA
    rw[if_neg Al,if_neg (fun k=>k ⟨by dsimp only;omega,ta0,tc0⟩),if_pos]
    refine O.aZ.2 ⟨?_,fun j hj=>?_⟩
    ·have:=tt.b 0 Al
     rw[hZ]at this
     dsimp only at this⊢
     omega
    ·have:=tt.t j (by rw[hZ];exact hj)
     rw[hZ]at this
     dsimp only at this⊢
     have e0:(0:Int).toNat=0:=rfl
     rw[e0]at this
     omega
   have HW:∀hh:H,X.next<=hh.next->Same X.next X hh->AW Tryz.prog 18 hh.next hh [.slice (some a1) (S.n+1) c1,.agg ⟨[.int .i64 (t.A.f 0),.int .i64 (t.C.f 0),.int .i64 1]⟩] (fun v _=>v= .int .i64 0):=fun hh h1 h2=>by
    have:=Spn.oP (L:=Lr) (m:=X.next) (t:=⟨t.A.f 0,t.C.f 0,1⟩) (h:=hh) h1 (xQ.same h2 (Nat.le_refl _))
    rw[lb,ln,lc,hfit]at this
    exact this
   apply Ar
   focus(exact Ao)
   focus(exact AQ)
   focus exact KW _ Ah Aq (fun r h1 h2=>(Aw fun z hz=>Aa).trans (Abb r h1 h2))
   rintro _ X5 rfl q5 N4
   have gx5:X5.get (X2.next+5)=some (.cells [.slice t.A.b t.A.n t.A.c,.slice t.C.b t.C.n t.C.c] 39):=(q5.same _ Ah).trans Aa
   have gy5:X5.get (X3.next+5)=some (.cells [.int .i64 y.a,.int .i64 y.b,.int .i64 y.d] 43):=(q5.same _ Ah).trans Aa
   have Agu:∀r,X2.next+8<=r->r<X3.next->X5.get r=X3.get r:=fun r h1 h2=>(q5.same r Ah).trans ((Aw fun z hz=>Aa).trans (Abb r h1 h2))
   have s5:Same X.next X X5:=fun y hy=>(q5.same y Ah).trans ((Aw fun z hz=>Aa).trans (OS y hy))
   have gt5:=(s5 _ Al).trans gt
   have nx5:X4.next<=X5.next:=by(exact Ah)
   clear q5 N4 s4 OS Abb gx4 gt4
   (refine Aj ?_)
   apply Ar
   focus(exact Ao)
   focus(exact AQ)
   focus exact FW _ Ah Aq
   rintro _ X6 rfl q6 oa
   have gx6:X6.get (X2.next+5)=some (.cells [.slice t.A.b t.A.n t.A.c,.slice t.C.b t.C.n t.C.c] 39):=(q6.same _ Ah).trans Aa
   have Agt:∀r,X2.next+8<=r->r<X3.next->X6.get r=X3.get r:=fun r h1 h2=>(q6.same r Ah).trans ((Aw fun z hz=>Aa).trans (Agu r h1 h2))
   have s6:Same X.next X X6:=fun y hy=>(q6.same y Ah).trans ((Aw fun z hz=>Aa).trans (s5 y hy))
   have nx6:X5.next<=X6.next:=by(exact Ah)
   clear q6 oa s5 Agu gx5 gt5 gy5
   have gt6:=(s6 _ Al).trans gt
   obtain⟨⟨ae,ai,ar,al⟩,⟨ce,ci,cr,cl'⟩⟩:=w5 X6 Agt
   (refine Aj ?_)
   apply Ar
   focus(exact Ao)
   focus(exact AQ)
   focus exact HW _ Ah Aq
   rintro _ X7 rfl q7 hn7
   have s7:Same X.next X X7:=fun y hy=>(q7.same y Ah).trans (s6 y hy)
   have gt7:=(s7 _ Al).trans gt
   have nx7:X6.next<=X7.next:=by(exact Ah)
   clear q7 hn7 s6 gx6 gt6 Agt ae ai ar al ce ci cr cl' w5 KW FW HW VW UW RW TW
   have SW:∀hh:H,X.next<=hh.next->Same X.next X hh->AW Tryz.prog 19 hh.next hh [.agg ⟨[.int .i64 1,.int .i64 1,.int .i64 B.lo,.int .i64 B.hi,.slice w2 S.n 0]⟩,.int .i64 0] (fun v _=>v= .tuple #[.agg ⟨[.int .i64 (Agr.TX Z.toTable 0),.int .i64 (Agr.UD Z.toTable 0)]⟩,.int .i64 (Agr.sErr Z.toTable 0)]):=fun hh h1 h2=>by
    have:=Agr.Oa (T:=Z) (m:=X.next) (z:=0) (h:=hh) h1 (kL.same h2 (Nat.le_refl _)) zv Al
    rw[zc]at this
    exact this
   have LW:∀(q:Int) (hh:H),X.next<=hh.next->Same X.next X hh->AW Tryz.prog 20 hh.next hh [.slice (some a1) (S.n+1) c1,.int .i64 0,.int .i64 q] (fun v _=>v= .tuple #[.agg ⟨(Lr.lval 0 q).cells⟩,.int .i64 (Lr.EH 0 q)]):=fun q hh h1 h2=>by
    have:=Spn.ni (L:=Lr) (m:=X.next) (p:=0) (q:=q) (h:=hh) h1 (xQ.same h2 (Nat.le_refl _))
    rw[lb,ln,lc]at this
    exact this
   have f1:Spn.qS 0 1:=⟨by decide,by decide⟩
   have f2:Spn.qS 0 (-1):=⟨by decide,by decide⟩
   (refine Aj ?_)
   apply Ar
   focus(exact Ao)
   focus(exact AQ)
   focus exact SW _ Ah Aq
   rintro _ X8 rfl q8 hn8
   have s8:Same X.next X X8:=fun y hy=>(q8.same y Ah).trans ((Aw fun z hz=>Aa).trans (s7 y hy))
   have nx8:X7.next+8<=X8.next:=by(exact Ah)
   clear q8 hn8 s7 gt7 SW
   rcases Nat.eq_zero_or_pos S.n with hk|hk
   ·have e1:Agr.sErr Z.toTable 0=5:=by unfold Agr.sErr;rw[if_pos ha,if_neg (O.aQ hk)]
    have e2:Lr.EH 0 1=5:=Spn.Runs.nh (Spn.Runs.KV he1 f1) cl (O.eI hk (by decide))
    have e3:Lr.EH 0 (-1)=5:=Spn.Runs.nh (Spn.Runs.KV he1 f2) cl (O.eI hk (by decide))
    have v2:=Spn.Runs.SF (L:=Lr) (p:=0) (q:=1) (by rw[e2];decide)
    have v3:=Spn.Runs.SF (L:=Lr) (p:=0) (q:= -1) (by rw[e3];decide)
    rw[e1]
    (refine Aj ?_)
    apply Ar
    focus(exact Ao)
    focus(exact AQ)
    focus exact LW 1 _ Ah Aq
    rintro _ X9 rfl q9 hn9
    have s9:Same X.next X X9:=fun y hy=>(q9.same y Ah).trans ((Aw fun z hz=>Aa).trans (s8 y hy))
    have nx9:X8.next+8<=X9.next:=by(exact Ah)
    clear q9 hn9 s8
    rw[e2,v2]
    unfold Spn.Fr.cells
    (refine Aj ?_)
    apply Ar
    focus(exact Ao)
    focus(exact AQ)
    focus exact LW (-1) _ Ah Aq
    rintro _ XA rfl qA hnA
    rw[e3,v3]
    unfold Spn.Fr.cells
    (focus((try with_reducible apply wpC.to);(repeat'((conv=>whnf);first|refine Ak ?_|(apply Fork.mk<;>(intro _;try(exfalso;omega)))|((first|refine HQ ?_|refine kTSpanC2 ?_|refine kTSpanC0 ?_|refine kTSpanB7 ?_);first|((first|apply Ae|apply Ac|apply Ad)<;>intro _ _ _ _<;>try contradiction)|(apply Ab;intro _ _ _))|fail));all_goals((conv=>whnf);try with_reducible apply At.mk)))
    all_goals((refine Au ?_);rfl)
   ·obtain⟨ht,hlow,hhigh⟩:=O.spread hk ha
    have hmm:=O.Adt hk ha
    have e1:Agr.sErr Z.toTable 0=0:=Agr.KD.2 ⟨ha,ht⟩
    have sma:=Agr.V1 zv.ok 0
    have elo:Agr.TX Z.toTable 0=AgreeS.Ey Z.toTable 0:=if_pos e1
    have ehi:Agr.UD Z.toTable 0=AgreeS.CZ Z.toTable 0:=if_pos e1
    have e2:Lr.EH 0 1=0:=Spn.Runs.Wp (Spn.Runs.KV he1 f1) cl (O.bnd hk)
    have e3:Lr.EH 0 (-1)=0:=Spn.Runs.Wp (Spn.Runs.KV he1 f2) cl (O.An2 hk)
    have v2:Lr.lval 0 1=⟨Agr.TX Z.toTable 0,1⟩:=by rw[(O.lst hk hmm).val e2,Spn.WL,elo,hlow]
    have v3:Lr.lval 0 (-1)=⟨-Agr.UD Z.toTable 0,1⟩:=by rw[(O.Ams hk hmm).val e3,Spn.WL,ehi,hhigh]
    rw[e1]
    generalize Agr.TX Z.toTable 0=lo at*
    generalize Agr.UD Z.toTable 0=hi at*
    (refine Aj ?_)
    apply Ar
    focus(exact Ao)
    focus(exact AQ)
    focus exact LW 1 _ Ah Aq
    rintro _ X9 rfl q9 hn9
    have s9:Same X.next X X9:=fun y hy=>(q9.same y Ah).trans ((Aw fun z hz=>Aa).trans (s8 y hy))
    have g9:X9.get (X7.next+5)=some (.cells [.int .i64 lo,.int .i64 hi] 23):=(q9.same _ Ah).trans Aa
    have nx9:X8.next+8<=X9.next:=by(exact Ah)
    clear q9 hn9 s8
    rw[e2,v2]
    unfold Spn.Fr.cells
    (refine Aj ?_)
    apply Ar
    focus(exact Ao)
    focus(exact AQ)
    focus exact LW (-1) _ Ah Aq
    rintro _ XA rfl qA hnA
    have gA:XA.get (X7.next+5)=some (.cells [.int .i64 lo,.int .i64 hi] 23):=(qA.same _ Ah).trans ((Aw fun z hz=>Aa).trans g9)
    rw[e3,v3]
    unfold Spn.Fr.cells
    have gB:XA.get (X8.next+5)=some (.cells [.int .i64 lo,.int .i64 1] 57):=(qA.same _ Ah).trans Aa
    have same:∀x:Spn.Fr,Bl Tryz.prog (Op.equalIn Op.maxDepth 57 (.agg ⟨x.cells⟩) (.agg ⟨x.cells⟩))=some Bool.true:=fun x=>(Spn.WY x x).trans (congrArg some (decide_eq_true rfl))
    have nxA:X9.next<=XA.next:=by(exact Ah)
    clear qA hnA
    (refine Aj ?_)
    refine DT.pure (.bool true) (DU (A:=⟨(⟨lo,1⟩:Spn.Fr).cells⟩) (B:=⟨(⟨lo,1⟩:Spn.Fr).cells⟩) rfl rfl rfl rfl rfl (by kernel_rfl) (same _)) ?_
    (refine Aj ?_)
    refine DT.pure (.bool true) (DU (A:=⟨(⟨-hi,1⟩:Spn.Fr).cells⟩) (B:=⟨(⟨-hi,1⟩:Spn.Fr).cells⟩) rfl rfl rfl rfl rfl (by kernel_rfl) (same _)) ?_
    (focus((try with_reducible apply wpC.to);(repeat'((conv=>whnf);first|refine Ak ?_|(apply Fork.mk<;>(intro _;try(exfalso;omega)))|((first|refine HQ ?_|refine kTSpanC2 ?_|refine kTSpanC0 ?_|refine kTSpanB7 ?_);first|((first|apply Ae|apply Ac|apply Ad)<;>intro _ _ _ _<;>try contradiction)|(apply Ab;intro _ _ _))|fail));all_goals((conv=>whnf);try with_reducible apply At.mk)))
    all_goals((refine Au ?_);rfl)
  ·have ncl:¬Lr.Cl:=fun c=>ha (O.agrees.2 c)
   have et:Agr.QI Z.toTable=20:=if_neg ha
   have el:Lr.EH 0 0=20:=Spn.Runs.sX (Spn.Runs.KV he1 f0) ncl
   (refine Aj ?_)
   apply Ar
   focus(exact Ao)
   focus(exact AQ)
   focus exact UW _ Ah Aq
   rintro _ X3 ⟨t,rfl,ht⟩ q3 Lj
   rw[et]at ht⊢
   rw[if_neg (by decide)]at ht
   subst ht
   have WM:∀y,y<X.next->X3.get y=X.get y:=fun y hy=>(q3.same y Ah).trans ((Aw fun z hz=>Aa).trans (qM y hy))
   have nx3:X2.next<=X3.next:=by(exact Ah)
   have s3:Same X.next X X3:=WM
   have gt3:=(WM _ Al).trans gt
   clear q3 Lj s2 qM gt2
   (refine Aj ?_)
   apply Ar
   focus(exact Ao)
   focus(exact AQ)
   focus exact VW _ Ah Aq
   rintro _ X4 ⟨t,rfl,ht, -⟩ q4 Ng
   obtain rfl:=ht (by rw[el];decide)
   rw[el]
   have OS:∀y,y<X.next->X4.get y=X.get y:=fun y hy=>(q4.same y Ah).trans ((Aw fun z hz=>Aa).trans (WM y hy))
   have nx4:X3.next<=X4.next:=by(exact Ah)
   have s4:Same X.next X X4:=OS
   have gt4:=(OS _ Al).trans gt
   clear q4 Ng s3 WM gt3 ht
   obtain⟨hk,hlt⟩:=O.no ha
   have GW:∀hh:H,X.next<=hh.next->Same X.next X hh->AW Tryz.prog 12 hh.next hh [.agg ⟨[.int .i64 1,.int .i64 1,.int .i64 B.lo,.int .i64 B.hi,.slice w2 S.n 0]⟩] (fun v h'=>∃A:Agr.G9,v= .tuple #[A.val,.int .i64 0]/\A.n=3/\Agr.dh Z A Agr.Ja (fun i=>if i=0 then -AgreeS.mxTo (fun j=>(S.f j).lo) S.n else AgreeS.mnTo (fun j=>(S.f j).hi) S.n)/\A.Ok h'.next h'):=fun hh h1 h2=>by
    have:=Agr.XV (T:=Z) (m:=X.next) (h:=hh) h1 (kL.same h2 (Nat.le_refl _)) zv (O.net hk) (by unfold AgreeS.Table.many;rw[O.tn,O.hu]) hbl hlt
    rw[zc]at this
    exact this
   have DW:∀hh:H,X.next<=hh.next->Same X.next X hh->AW Tryz.prog 13 hh.next hh [.slice (some a1) (S.n+1) c1] _:=fun hh h1 h2=>by
    have:=Spn.pq (L:=Lr) (m:=X.next) (h:=hh) h1 (xQ.same h2 (Nat.le_refl _))
    rw[lb,ln,lc]at this
    exact this
   (refine Aj ?_)
   apply Ar
   focus(exact Ao)
   focus(exact AQ)
   focus exact GW _ Ah Aq
   rintro _ X5 ⟨A,rfl,an,AR,aok⟩ q5 N4
   have jC:∀y,y<X.next->X5.get y=X.get y:=fun y hy=>(q5.same y Ah).trans ((Aw fun z hz=>Aa).trans (OS y hy))
   have nx5:X4.next<=X5.next:=by(exact Ah)
   have s5:Same X.next X X5:=jC
   have gt5:=(jC _ Al).trans gt
   clear q5 N4 s4 OS gt4
   unfold Agr.G9.val
   (refine Aj ?_)
   apply Ar
   focus(exact Ao)
   focus(exact AQ)
   focus exact DW _ Ah Aq
   rintro _ X6 ⟨P,tm,rfl,pok,⟨pc,pb⟩, -,p2⟩ q6 oa
   have ed:Lr.Tn=0:=by unfold Spn.Runs.Tn;rw[if_neg Al,if_neg ncl]
   obtain⟨W,pr,⟨wu,wv⟩,wp,rfl⟩:=p2 ed
   obtain⟨rt,aC⟩:=Spn.me (Spn.Runs.KV he1 f0) pr (tm:=1) Al Al (by decide)
   have ec:=Spn.Runs.pN.2 rt
   have ev:Lr.cval 0 0 P 1=⟨W.w,1⟩:=by rw[rt.val,aC];exact Spn.WL _
   rw[ed]
   simp only[Bv,AY]at pb
   have fE:∀y,y<X5.next->X6.get y=X5.get y:=fun y hy=>(q6.same y Ah).trans (Aw fun z hz=>Aa)
   have nx6:X5.next+8<=X6.next:=by(exact Ah)
   have s6:Same X5.next X5 X6:=fE
   have s6':Same X.next X X6:=fun y hy=>(fE y Al).trans (jC y hy)
   have gt6:=(fE _ Al).trans gt5
   clear q6 oa s5
   have hS2:Agr.sumTo (fun i=>if i=0 then -AgreeS.mxTo (fun j=>(S.f j).lo) S.n else AgreeS.mnTo (fun j=>(S.f j).hi) S.n) 2<0:=by
    show 0+ -AgreeS.mxTo (fun j=>(S.f j).lo) S.n+AgreeS.mnTo (fun j=>(S.f j).hi) S.n<0
    omega
   have CW:∀hh:H,X5.next<=hh.next->Same X.next X hh->Same X5.next X5 hh->AW Tryz.prog 14 hh.next hh [.agg ⟨[.int .i64 1,.int .i64 1,.int .i64 B.lo,.int .i64 B.hi,.slice w2 S.n 0]⟩,.slice A.b A.n A.c] (fun v _=>∃z,v= .tuple #[.int .i64 z,.int .i64 0]):=fun hh h1 h2 h3=>by
    have:=Agr.iM (T:=Z) (L:=A) (m:=X.next) (h:=hh) Al (kL.same h2 (Nat.le_refl _)) zv (aok.same h3 h1) AR
    rw[zc,an]at this
    obtain⟨v,h',rfl,aw⟩:=this
    rw[an]
    refine⟨_,h',⟨Agr.sumTo (fun i=>if i=0 then -AgreeS.mxTo (fun j=>(S.f j).lo) S.n else AgreeS.mnTo (fun j=>(S.f j).hi) S.n) 2,?_⟩,aw⟩
    unfold Agr.dR
    rw[if_pos hS2,if_pos hS2]
   have PW:∀hh:H,X6.next<=hh.next->Same X.next X hh->(0<P.n->hh.get P.a.block=X6.get P.a.block)->AW Tryz.prog 15 hh.next hh [.slice (some a1) (S.n+1) c1,.int .i64 0,.int .i64 0,.agg ⟨[.slice P.b P.n P.c,.int .i64 1]⟩] (fun v _=>v= .tuple #[.agg ⟨[.int .i64 W.w,.int .i64 1]⟩,.int .i64 0]):=fun hh h1 h2 h3=>by
    have:=Spn.W9 (L:=Lr) (P:=P) (m:=X6.next) (p:=0) (q:=0) (tm:=1) (h:=hh) h1 ((xQ.same h2 (Nat.le_refl _)).same (fun _ _=>rfl) Al) (pok.keep fun r hr h0=>by subst hr;exact h3 h0)
    rw[lb,ln,lc,ec,ev]at this
    exact this
   have pbr:=pok.r
   (refine Aj ?_)
   apply Ar
   focus(exact Ao)
   focus(exact AQ)
   focus exact CW _ Ah Aq Aq
   rintro _ X7 ⟨z7,rfl⟩ q7 hn7
   have nx7:X6.next<=X7.next:=by(exact Ah)
   have s7:Same X.next X X7:=fun y hy=>(q7.same y Ah).trans ((Aw fun z hz=>Aa).trans (s6' y hy))
   have gp7:X7.get (X5.next+5)=some (.cells [.slice P.b P.n P.c,.int .i64 1] 51):=(q7.same _ Ah).trans Aa
   have gq7:0<P.n->X7.get P.a.block=X6.get P.a.block:=fun h0=>(q7.same _ (by have:=pbr h0;(exact Ah))).trans (Aw fun z hz=>by have:=pb h0;(exact Aa))
   clear q7 hn7
   (refine Aj ?_)
   apply Ar
   focus(exact Ao)
   focus(exact AQ)
   focus exact PW _ Ah Aq (fun h0=>(Aw fun z hz=>Aa).trans (gq7 h0))
   rintro _ X8 rfl q8 hn8
   (focus((try with_reducible apply wpC.to);(repeat'((conv=>whnf);first|refine Ak ?_|(apply Fork.mk<;>(intro _;try(exfalso;omega)))|((first|refine HQ ?_|refine kTSpanC2 ?_|refine kTSpanC0 ?_|refine kTSpanB7 ?_);first|((first|apply Ae|apply Ac|apply Ad)<;>intro _ _ _ _<;>try contradiction)|(apply Ab;intro _ _ _))|fail));all_goals((conv=>whnf);try with_reducible apply At.mk)))
   all_goals((refine Au ?_);rfl)
end AE.Tryz

/- What comes in, for TopOneTank: the shapes of the arguments' types, and the values that they hold. -/
namespace AE.T9InO
open Go Go.Proofs Go.Proofs.YtneenfjffejnoaaGreat AE AE.Tryz AE.Fair
set_option maxRecDepth 100000
set_option linter.unusedVariables false

def C4:Sh:=.cons (.int .i64) (.cons (.int .i64) .nil)
theorem SY:EO Tryz.prog (.int .i64) 2:=.int Tryz.underlying2
theorem GL:EO Tryz.prog C4 23:=.struct Tryz.underlying23 (by kernel_rfl) (.cons (by kernel_rfl) (by kernel_rfl) SY (.cons (by kernel_rfl) (by kernel_rfl) SY .nil))
theorem isRow:EO Tryz.prog (.slice C4) 24:=.slice Tryz.underlying24 (by kernel_rfl) (by decide) GL
theorem rg_of {h:H}{m:Nat}{cs:List Value}(k:Fits h m C4 cs):∃t:Rg,cs=t.cells:=by
 obtain⟨zs,rfl,l, -⟩:=HA (k:=.i64) (by decide) k
 match zs,l with
 |[a,b],_=>exact⟨⟨a,b⟩,rfl⟩
theorem aF {h:H}{m:Nat}{cs:List Value}(k:Fits h m (.slice C4) cs):∃M:Ug,cs=[.slice M.b M.n M.c]/\M.Ok m h:=by
 obtain⟨b,a,n,c,rfl,h1,h2,h3,h4,h5,h6⟩:=k
 have hz:∀i,i<n->∃z:Rg,h.Bu (BI a (i*2)) 2=some z.cells:=fun i hi=>by
  obtain⟨l,e1,k1⟩:=h6 i hi
  obtain⟨z,rfl⟩:=rg_of k1
  exact⟨z,e1⟩
 obtain⟨f,hf⟩:=GH (⟨0,0⟩:Rg) hz
 exact⟨⟨n,f,b,a,c⟩,rfl,h3,hf,fun h=>(h4 h).1,by
  show n<=_
  rcases h2 with h2|⟨-,h2⟩
  ·unfold maxLen at h2;omega
  ·omega⟩
end AE.T9InO
