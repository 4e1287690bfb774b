/- Walks and plain laws: TSpanP, TSpanQ, TSpanR. -/
import Derived.Test.YtneenfjffejnoaaGreatTSpanO
import Derived.Test.YtneenfjffejnoaaGreatAEBy2
set_option linter.unusedVariables false
set_option linter.unusedSimpArgs false
set_option linter.unusedSectionVars false

/- Walks of span: the least value, plainly. -/
namespace AE.Tryz.Spn
open Go AE Go.Proofs AE.Sp
set_option maxRecDepth 100000
set_option linter.unusedVariables false

theorem mE {a b:Sd}{x y:Int}(hx:0<x) (hy:0<y) (eu:x*a.u=y*b.u) (ev:x*a.v=y*b.v):cr a b=0/\(a.u*b.size+b.u* -a.size=0/\a.v*b.size+b.v* -a.size=0)/\x*a.size=y*b.size:=by
 obtain⟨⟨h1,h2,h3⟩,h4⟩:=mF (a:=a) (b:=⟨-b.u, -b.v,0⟩) hx hy (by dsimp only;rw[Int.mul_neg];omega) (by dsimp only;rw[Int.mul_neg];omega)
 have e:(⟨-b.u, -b.v,0⟩:Sd).size=b.size:=by unfold Sd.size;dsimp only;omega
 rw[e]at h2 h3 h4
 dsimp only at h2 h3
 refine⟨?_,⟨?_,?_⟩,h4⟩
 ·unfold cr at h1⊢;dsimp only at h1;rw[Int.mul_neg,Int.mul_neg]at h1;omega
 ·rw[Int.neg_mul]at h2;rw[Int.mul_neg];omega
 ·rw[Int.neg_mul]at h3;rw[Int.mul_neg];omega

section
variable {S:Nat->Sd}{n:Nat}{W:Sd}{N D:Int}
theorem Zm (nz:∀i,i<n->(S i).Nz) {g:List Nat}(hg:Uj n 2 g) (h:Es S W g N D):0<D:=by
 rcases hg with⟨i,hi,rfl⟩|⟨i,j,hij,hj,rfl⟩|⟨h3, -⟩
 ·obtain⟨-, -, -,rfl⟩:=h;exact size_pos (nz i hi)
 ·rcases h with⟨h1, -, -, -,rfl⟩|⟨h1, -, -, -,rfl⟩<;>omega
 ·exact absurd h3 (by decide)
theorem lO (nz:∀i,i<n->(S i).Nz) (hW:W.Nz) {g:List Nat}(hg:Uj n 2 g) (hc:Es S W g N D) (hm:∀g N' D',Uj n 2 g->Es S W g N' D'->N'*D<=N*D'):Top S n W N D:=by
 refine⟨hW,Zm nz hg hc,fun i hi x k hx hk eu ev=>?_,fun i j hi hj h1 h2 h3=>?_,?_⟩
 ·obtain⟨h1,h2,h3⟩:=mE hx hk eu ev
  have:=hm [i] _ _ (.inl ⟨i,hi,rfl⟩) ⟨h1,h2,rfl,rfl⟩
  have hs:=size_pos hW
  refine Kg hs ?_
  have e1:x* (S i).w*D*W.size=x* ((S i).w*W.size*D):=by ac_rfl
  have e2:k*N*W.size=x* (N* (S i).size):=by
   have:k*N*W.size=N* (k*W.size):=by ac_rfl
   rw[this,<-h3];ac_rfl
  rw[e1,e2]
  exact Int.mul_le_mul_of_nonneg_left this Al
 ·rcases Nat.lt_trichotomy i j with h|h|h
  ·have:=hm [i,j] _ _ (.inr (.inl ⟨i,j,h,hj,rfl⟩)) (.inl ⟨h1,h2,h3,rfl,rfl⟩)
   rw[Int.mul_comm (cr W (S j)),Int.mul_comm (cr (S i) W),Int.mul_comm (cr (S i) (S j))]
   exact this
  ·subst h;rw[fP]at h1;omega
  ·have:=hm [j,i] _ _ (.inr (.inl ⟨j,i,h,hi,rfl⟩)) (.inr ⟨by rw[Eu];omega,by rw[Eu];omega,by rw[Eu];omega,rfl,rfl⟩)
   rw[<-Eu (S j) (S i),<-Eu W (S i),<-Eu (S j) W]at this
   rw[Int.mul_comm (cr W (S j)),Int.mul_comm (cr (S i) W),Int.mul_comm (cr (S i) (S j)),Int.add_comm]
   exact this
 ·rcases hg with⟨i,hi,rfl⟩|⟨i,j,hij,hj,rfl⟩|⟨h3, -⟩
  ·obtain⟨-,⟨h1,h2⟩,rfl,rfl⟩:=hc
   rw[Int.mul_neg]at h1 h2
   refine .inl ⟨i,W.size,(S i).size,hi,size_pos hW,size_pos (nz i hi),?_,?_,by ac_rfl⟩
   ·rw[Int.mul_comm,Int.mul_comm (S i).size];omega
   ·rw[Int.mul_comm,Int.mul_comm (S i).size];omega
  ·rcases hc with⟨h1,h2,h3,rfl,rfl⟩|⟨h1,h2,h3,rfl,rfl⟩
   ·refine .inr ⟨i,j,⟨by omega,hj⟩,h1,h2,h3,?_⟩
    rw[Int.mul_comm (cr W (S j)),Int.mul_comm (cr (S i) W),Int.mul_comm]
   ·refine .inr ⟨j,i,⟨hj,by omega⟩,by rw[Eu];omega,by rw[Eu];omega,by rw[Eu];omega,?_⟩
    rw[<-Eu (S i) (S j),<-Eu W (S j),<-Eu (S i) W]
    rw[Int.mul_comm (cr W (S i)),Int.mul_comm (cr (S j) W),Int.mul_comm,Int.add_comm]
  ·exact absurd h3 (by decide)
theorem pP (nz:∀i,i<n->(S i).Nz) (hex:∃g N D,Uj n 2 g/\Es S W g N D):∃g N D,Uj n 2 g/\Es S W g N D/\∀g N' D',Uj n 2 g->Es S W g N' D'->N'*D<=N*D':=by
 obtain⟨g0,N0,D0,hg0,hc0⟩:=hex
 have hn:0<n:=by
  rcases hg0 with⟨i,hi,rfl⟩|⟨i,j,hij,hj,rfl⟩|⟨h3, -⟩
  ·omega
  ·omega
  ·exact absurd h3 (by decide)
 let G:Nat->List Nat:=fun k=>if k / n=k%n then[k / n]else[k / n,k%n]
 let P:Nat->Prop:=fun k=>Uj n 2 (G k)/\∃N D,Es S W (G k) N D
 haveI:∀k,Decidable (P k):=fun k=>Classical.propDecidable _
 let num:Nat->Int:=fun k=>if h:P k then Classical.choose h.2 else 0
 let den:Nat->Int:=fun k=>if h:P k then Classical.choose (Classical.choose_spec h.2)else 1
 have spec:∀k,P k->Es S W (G k) (num k) (den k):=fun k h=>by
  show Es S W (G k) (dite _ _ _) (dite _ _ _)
  rw[dif_pos h,dif_pos h]
  exact Classical.choose_spec (Classical.choose_spec h.2)
 have un:∀g N D N' D',Uj n 2 g->Es S W g N D->Es S W g N' D'->N=N'/\D=D':=fun g N D N' D' hg h1 h2=>by
  rcases hg with⟨i,hi,rfl⟩|⟨i,j,hij,hj,rfl⟩|⟨h3, -⟩
  ·obtain⟨-, -,a,b⟩:=h1;obtain⟨-, -,c,d⟩:=h2;exact⟨a.trans c.symm,b.trans d.symm⟩
  ·rcases h1 with⟨a,_,_,b,c⟩|⟨a,_,_,b,c⟩<;>rcases h2 with⟨d,_,_,e,f⟩|⟨d,_,_,e,f⟩
   ·exact⟨b.trans e.symm,c.trans f.symm⟩
   ·omega
   ·omega
   ·exact⟨b.trans e.symm,c.trans f.symm⟩
  ·exact absurd h3 (by decide)
 have code:∀g,Uj n 2 g->∃k,k<n*n/\G k=g:=fun g hg=>by
  rcases hg with⟨i,hi,rfl⟩|⟨i,j,hij,hj,rfl⟩|⟨h3, -⟩
  ·refine⟨n*i+i,?_,?_⟩
   ·have:=Nat.mul_le_mul_left n (show i+1<=n by omega)
    rw[Nat.mul_add]at this
    omega
   ·show ite _ _ _=_
    rw[Nat.mul_add_div hn,Nat.mul_add_mod,Nat.div_eq_of_lt hi,Nat.mod_eq_of_lt hi,Nat.add_zero,if_pos rfl]
  ·refine⟨n*i+j,?_,?_⟩
   ·have:=Nat.mul_le_mul_left n (show i+1<=n by omega)
    rw[Nat.mul_add]at this
    omega
   ·show ite _ _ _=_
    rw[Nat.mul_add_div hn,Nat.mul_add_mod,Nat.div_eq_of_lt hj,Nat.mod_eq_of_lt hj,Nat.add_zero,if_neg Al]
  ·exact absurd h3 (by decide)
 obtain⟨k0,hk0,e0⟩:=code g0 hg0
 obtain⟨k,hk,hp,hmax⟩:=arg num den P (n*n) (fun i _ h=>Zm nz h.1 (spec i h)) ⟨k0,hk0,by show Uj n 2 (G k0)/\_;rw[e0];exact⟨hg0,N0,D0,hc0⟩⟩
 refine⟨G k,num k,den k,hp.1,spec k hp,fun g N' D' hg hc=>?_⟩
 obtain⟨k',hk',e'⟩:=code g hg
 have hp':P k':=by show Uj n 2 (G k')/\_;rw[e'];exact⟨hg,N',D',hc⟩
 have h1:=spec k' hp'
 rw[e']at h1
 obtain⟨r1,r2⟩:=un g _ _ _ _ hg h1 hc
 have:=hmax k' hk' hp'
 rw[r1,r2]at this
 exact this
end

theorem Km {f:Nat->Run}{n:Nat}{t:Er}:(∀e,e<2*n->(sides f e).Fit t)↔∀i,i<n->(f i).Fit t:=by
 constructor
 ·intro k i hi
  have h1:=k (2*i) Al
  have h2:=k (2*i+1) Al
  rw[IX]at h1
  rw[IW]at h2
  unfold Sd.Fit Sd.val Run.lower at h1
  unfold Sd.Fit Sd.val Run.upper at h2
  dsimp only at h1 h2
  rw[Int.neg_mul,Int.neg_mul,Int.neg_mul]at h2
  exact⟨h1,by omega⟩
 ·intro k e he
  obtain⟨h1,h2⟩:=k (e / 2) Al
  unfold sides Sd.Fit Sd.val
  split
  ·exact h1
  ·unfold Run.upper;dsimp only;rw[Int.neg_mul,Int.neg_mul,Int.neg_mul];omega
theorem Ze {S:Nat->Sd}{n:Nat}{t:Er}(hf:∀e,e<n->(S e).Fit t) {l:List (Nat × Nat)}(hl:∀p∈l,p.1<n):(comb S l).Fit t:=by
 have key:∀(l:List (Nat × Nat)) (acc:Sd),(∀p∈l,p.1<n)->acc.Fit t->(l.foldl (fun acc p=>acc.add ((S p.1).by p.2)) acc).Fit t:=by
  intro l
  induction l with
  |nil=>intro acc _ k;exact k
  | cons p l ih=>
    intro acc hl k
    refine ih _ (fun x hx=>hl x (by simp[hx])) ?_
    have h1:=hf p.1 (hl p (by simp))
    unfold Sd.Fit Sd.val Sd.add Sd.by at*
    dsimp only at*
    have h2:=Int.mul_le_mul_of_nonneg_right h1 (show(0:Int)<=(p.2:Int) by omega)
    rw[Int.add_mul]at h2
    have e1:(S p.1).w*t.d* (p.2:Int)=(S p.1).w*p.2*t.d:=by ac_rfl
    have e2:(S p.1).u*t.a* (p.2:Int)=(S p.1).u*p.2*t.a:=by ac_rfl
    have e3:(S p.1).v*t.b* (p.2:Int)=(S p.1).v*p.2*t.b:=by ac_rfl
    rw[Int.add_mul,Int.add_mul,Int.add_mul]
    omega
 exact key l _ hl (by unfold Sd.Fit Sd.val;simp)
theorem ML {T:Tab}(nz:∀i,i<2*T.n->(T.S i).Nz) (c:Clean T.S (2*T.n)) {p q N D:Int}(hD:0<D) (h:(p=0/\q=0/\N=0)\/Top T.S (2*T.n) ⟨p,q,0⟩ N D):
 ∃t,Jq T t/\(∀e,e<2*T.n->(T.S e).Fit t)/\(p*t.a+q*t.b) *D=N*t.d/\0<t.d:=by
 have pr:∀i j,i<2*T.n->j<2*T.n->cr (T.S i) (T.S j)<0->∃k,k<2*T.n/\0<cr (T.S i) (T.S k):=fun i j hi hj hc=>by
  rcases Nat.mod_two_eq_zero_or_one j with e|e
  ·refine⟨2* (j / 2)+1,by omega,?_⟩
   have e2:j=2* (j / 2):=by omega
   rw[e2]at hc
   unfold Tab.S at hc⊢
   rw[IX]at hc
   rw[IW]
   unfold cr Run.lower at hc
   unfold cr Run.upper
   dsimp only at hc⊢
   rw[Int.mul_neg,Int.mul_neg]
   omega
  ·refine⟨2* (j / 2),by omega,?_⟩
   have e2:j=2* (j / 2)+1:=by omega
   rw[e2]at hc
   unfold Tab.S at hc⊢
   rw[IW]at hc
   rw[IX]
   unfold cr Run.upper at hc
   unfold cr Run.lower
   dsimp only at hc⊢
   rw[Int.mul_neg,Int.mul_neg]at hc
   omega
 have cor:∀t,((∃i j,(i<2*T.n/\j<2*T.n)/\0<cr (T.S i) (T.S j)/\t=vx (T.S i) (T.S j))\/∃i,i<2*T.n/\(∀j,j<2*T.n->cr (T.S i) (T.S j)=0)/\t=nr (T.S i))->Jq T t:=fun t h=>by
  rcases h with⟨i,j,h1,h2,h3⟩|⟨i,h1, -,h3⟩
  ·exact .inr (.inr ⟨i,j,h1,h2,h3⟩)
  ·exact .inr (.inl ⟨i,h1,h3⟩)
 rcases h with⟨rfl,rfl,rfl⟩|h
 ·by_cases hn:T.n=0
  ·exact⟨⟨0,0,1⟩,.inl ⟨hn,rfl⟩,fun e he=>by omega,by simp,by decide⟩
  ·have hW:(⟨(T.S 0).u,(T.S 0).v,0⟩:Sd).Nz:=nz 0 Al
   obtain⟨h1,h2,h3⟩:=mE (a:=T.S 0) (b:=⟨(T.S 0).u,(T.S 0).v,0⟩) (x:=1) (y:=1) (by decide) (by decide) rfl rfl
   obtain⟨g,N,D',hg,hc,hm⟩:=pP (W:=⟨(T.S 0).u,(T.S 0).v,0⟩) nz ⟨[0],_,_,.inl ⟨0,by omega,rfl⟩,h1,h2,rfl,rfl⟩
   obtain⟨t,h4,h5, -,h7⟩:=Zt (lO nz hW hg hc hm) c pr
   exact⟨t,cor t h4,h5,by simp,h7⟩
 ·obtain⟨t,h4,h5,h6,h7⟩:=Zt h c pr
  exact⟨t,cor t h4,h5,h6,h7⟩
end AE.Tryz.Spn

/- Walks of span: the best sum of sides. -/
namespace AE.Tryz.Spn
open Go AE Go.Proofs AE.Sp
set_option maxRecDepth 100000
set_option linter.unusedVariables false

def Runs.kN (L:Runs) (p q:Int):Prop:=(p=0/\q=0)\/∃g N D,Uj (2*L.n) 2 g/\Es (sides L.f) ⟨p,q,0⟩ g N D
def Runs.Cl (L:Runs):Prop:=Clean (sides L.f) (2*L.n)
open Classical in
noncomputable def Runs.EH (L:Runs) (p q:Int):Int:=if L.FI p q≠0 then L.FI p q else if¬L.Cl then 20 else if¬L.kN p q then 5 else 0
structure Best (L:Runs) (p q:Int) (b m:Nat) (h:H) (M:Mk):Prop where
 ok:M.Ok (sides L.f) (2*L.n) b m h
 nice:M.Ui
 u:M.s.u=M.t*p
 v:M.s.v=M.t*q
 r:M.r≠ .none
 cor:∀T:Tab,T.n=L.n->T.f=L.f->∃t,Jq T t/\(∀i,i<L.n->(L.f i).Fit t)/\(p*t.a+q*t.b) *M.t=M.s.w*t.d/\0<t.d
theorem Best.frame {L:Runs}{p q:Int}{b b' m m':Nat}{h h':H}{M:Mk}(k:Best L p q b m h M) (hb:b'<=b) (hm:m<=m') (s:∀r,b<=r->r<m->h'.get r=h.get r):Best L p q b' m' h' M:=⟨k.ok.frame hb hm s,k.nice,k.u,k.v,k.r,k.cor⟩

set_option maxHeartbeats 2000000 in
theorem sQ {h:H}{T:Tab}:AW Tryz.prog 122 h.next h [.pointer (some ⟨T.r,0,none⟩),.int .i64 0,.int .i64 0] (fun v h'=>∃r,(h.next<=r/\r<h'.next)/\v= .tuple #[.agg ⟨[.map (some r),.int .i64 0,.int .i64 0,.int .i64 0,.int .i64 1]⟩,.bool true]/\h'.get r=some (.map [] 0)):=by
 refine WI.call rfl (Nat.le_refl _) ?_
 unfold Acl
 (refine Aj ?_)
 refine DT.pure (.bool true) (DU (A:=⟨(⟨0,0,0⟩:Sd).cells⟩) (B:=⟨(⟨0,0,0⟩:Sd).cells⟩) rfl rfl rfl rfl rfl (by kernel_rfl) ((Mb ⟨0,0,0⟩ ⟨0,0,0⟩).trans (congrArg some (decide_eq_true ⟨rfl,rfl,rfl⟩)))) ?_
 (refine Aj ?_)
 refine DT.mk (v:=.map (some (h.next+11))) rfl ?_
 (refine Aj ?_)
 (refine Au ?_)
 exact⟨h.next+11,⟨by omega,Ah⟩,rfl,Aa⟩
theorem J9 {L:Runs}(lv:L.Val):∀i,i<2*L.n->(sides L.f i).Nz:=fun i hi=>by
 have:=(lv (i / 2) Al).nz
 unfold sides Sd.Nz
 split
 ·exact this
 ·unfold Run.upper;dsimp only;omega
theorem uP {L:Runs}{p q:Int}{b m:Nat}{h:H}{M:Mk}(lv:L.Val) (c:L.Cl) (hz:¬(p=0/\q=0)) (k:dv (sides L.f) (2*L.n) ⟨p,q,0⟩ b m h M) (hmx:∀g N D,Uj (2*L.n) 2 g->Es (sides L.f) ⟨p,q,0⟩ g N D->N*M.t<=M.s.w*D):Best L p q b m h M:=by
 obtain⟨k1,k2,k3,k4,⟨g,hg,hc⟩,k6⟩:=k
 refine⟨k1,k2,k3,k4,k6,fun T e1 e2=>?_⟩
 have eS:T.S=sides L.f:=by unfold Tab.S;rw[e2]
 obtain⟨t,h1,h2,h3,h4⟩:=ML (T:=T) (by rw[eS,e1];exact J9 lv) (by rw[eS,e1];exact c) (p:=p) (q:=q) (N:=M.s.w) (D:=M.t) k2.t.1 (.inr (by rw[eS,e1];exact lO (J9 lv) (by unfold Sd.Nz;dsimp only;omega) hg hc hmx))
 rw[eS,e1]at h2
 exact⟨t,h1,Km.1 h2,h3,h4⟩
theorem Acb {L:Runs}{b m r:Nat}{h:H}(lv:L.Val) (c:L.Cl) (hr:b<=r/\r<m) (hg:h.get r=some (.map [] 0)):Best L 0 0 b m h ⟨some r,[],⟨0,0,0⟩,1⟩:=by
 refine⟨⟨fun q e=>?_,(fun h=>nomatch h),List.Pairwise.nil,(fun p hp=>nomatch hp),Nat.zero_le _,rfl⟩,⟨by dsimp only;omega,by dsimp only;omega⟩,rfl,rfl,(fun h=>nomatch h),fun T e1 e2=>?_⟩
 ·obtain rfl:=Option.some.inj e
  exact⟨hr,hg⟩
 ·have eS:T.S=sides L.f:=by unfold Tab.S;rw[e2]
  obtain⟨t,h1,h2,h3,h4⟩:=ML (T:=T) (by rw[eS,e1];exact J9 lv) (by rw[eS,e1];exact c) (p:=0) (q:=0) (N:=0) (D:=1) (by decide) (.inl ⟨rfl,rfl,rfl⟩)
  rw[eS,e1]at h2
  exact⟨t,h1,Km.1 h2,h3,h4⟩
theorem qh {S:Nat->Sd}{n b m:Nat}{h:H}{M:Mk}(k:M.Ok S n b m h) (hb:M.Bad) {t:Er}(hd:0<t.d):¬∀e,e<n->(S e).Fit t:=fun hf=>by
 have:=Ze hf fun p hp=>(k.v p hp).1
 rw[<-k.s]at this
 obtain⟨-,⟨h1,h2⟩,h3⟩:=hb
 unfold Sd.Fit Sd.val at this
 rw[h1,h2]at this
 have:=Int.mul_pos h3 hd
 omega
theorem qi {L:Runs}{b m:Nat}{h:H}{M:Mk}(lv:L.Val) (k:M.Ok (sides L.f) (2*L.n) b m h) (hb:M.Bad):¬L.Cl:=fun c=>by
 let T:Tab:=⟨L.n,L.f,0,none,⟨0,0,none⟩,none,⟨0,0,none⟩⟩
 obtain⟨t,h1,h2,h3,h4⟩:=ML (T:=T) (J9 lv) c (p:=0) (q:=0) (N:=0) (D:=1) (by decide) (.inl ⟨rfl,rfl,rfl⟩)
 exact qh k hb h4 h2
theorem kTSpanQ0 {G G':Prop}(g:G') (t:G'->G:=by((apply Ar);(focus exact Ao);(focus exact AQ);(focus((apply cJ;rotate_left;(focus(apply Runs.Ok.same;(focus assumption);(focus exact Aq);(focus exact Nat.le_refl _)));(focus exact Ah)))))):G:=t g

set_option maxHeartbeats 4000000 in
theorem fU {h:H}{L:Runs}{m:Nat}{p q:Int}(hm:m<=h.next) (hL:L.Ok m h):AW Tryz.prog 57 h.next h [.slice L.b L.n L.c,.int .i64 p,.int .i64 q] (fun v h'=>∃M,v= .tuple #[.agg ⟨M.cells⟩,.int .i64 (L.EH p q)]/\(L.EH p q≠0->M=Mk.none)/\(L.EH p q=0->Best L p q h.next h'.next h' M)):=by
 have b1:L.FI p q≠0->L.EH p q=L.FI p q:=fun h=>by unfold Runs.EH;rw[if_pos h]
 have b2:L.FI p q=0->¬L.Cl->L.EH p q=20:=fun h h'=>by unfold Runs.EH;rw[if_neg Al,if_pos h']
 have b3:L.FI p q=0->L.Cl->¬L.kN p q->L.EH p q=5:=fun h h' h''=>by unfold Runs.EH;rw[if_neg Al,if_neg (fun k=>k h'),if_pos h'']
 have b4:L.FI p q=0->L.Cl->L.kN p q->L.EH p q=0:=fun h h' h''=>by unfold Runs.EH;rw[if_neg Al,if_neg (fun k=>k h'),if_neg (fun k=>k h'')]
 have hL0:=hL
 refine Afk.call rfl (Nat.le_refl _) ?_
 unfold a57
 (focus((try with_reducible apply wpC.to);(repeat'((conv=>whnf);first|refine Ak ?_|(apply Fork.mk<;>(intro _;try(exfalso;omega)))|((refine kTSpanQ0 ?_);first|((first|apply Ae|apply Ac|apply Ad)<;>intro _ _ _ _<;>try contradiction)|(apply Ab;intro _ _ _))|fail));all_goals((conv=>whnf);try with_reducible apply At.mk)))
 ·(refine Au ?_)
  refine⟨Mk.none,?_,fun _=>rfl,fun h=>?_⟩
  ·rw[b1 (by assumption)];rfl
  ·rw[b1 (by assumption)]at h;contradiction
 have he:L.FI p q=0:=by assumption
 have he':L.err=0/\qS p q:=by
  unfold Runs.FI at he
  split at he
  ·contradiction
  ·split at he
   ·exact⟨by omega,by assumption⟩
   ·omega
 obtain⟨ln,lv⟩:=L.Tj he'.1
 apply Ar
 focus(exact Ao)
 focus(exact AQ)
 focus exact Ny (L:=L) (m:=m) Ah (hL.same Aq (Nat.le_refl _)) Al lv
 rintro _ h2 ⟨T,rfl,tn,tf,tok⟩ q2 n2
 have eS:T.S=sides L.f:=by unfold Tab.S;rw[tf]
 (refine Aj ?_)
 apply Ar
 focus(exact Ao)
 focus(exact AQ)
 focus exact fK (T:=T) (m:=h2.next) Ah (tok.same Aq (Nat.le_refl _))
 rintro _ h3 ⟨M,bv,rfl,d1,d2⟩ q3 n3
 rw[eS,tn]at d1 d2
 cases bv
 rotate_left
 ·obtain⟨d3,d4⟩:=d1 rfl
  have nc:=qi lv d3 d4
  have eM:(⟨M.cells⟩:Array Value)=⟨[.map M.r,.int .i64 M.s.u,.int .i64 M.s.v,.int .i64 M.s.w,.int .i64 M.t]⟩:=rfl
  rw[eM]
  (refine Aj ?_)
  (refine Au ?_)
  refine⟨Mk.none,?_,fun _=>rfl,fun h=>?_⟩
  ·rw[b2 he nc];rfl
  ·rw[b2 he nc]at h;contradiction
 ·obtain⟨rfl,cl⟩:=d2 rfl
  have cl:L.Cl:=cl
  unfold Mk.none Mk.cells
  (refine Aj ?_)
  by_cases hz:p=0/\q=0
  ·obtain⟨rfl,rfl⟩:=hz
   apply Ar
   focus(exact Ao)
   focus(exact AQ)
   focus exact sQ (T:=T)
   rintro _ h4 ⟨r,⟨r1,r2⟩,rfl,g4⟩ q4 n4
   simp only[Bv,AY]at r1 r2
   (refine Aj ?_)
   (refine Au ?_)
   refine⟨⟨some r,[],⟨0,0,0⟩,1⟩,?_,fun h=>?_,fun _=>Acb lv cl ⟨Ah,Ah⟩ Aa⟩
   ·rw[b4 he cl (.inl ⟨rfl,rfl⟩)]
   ·exact absurd (b4 he cl (.inl ⟨rfl,rfl⟩)) h
  ·apply Ar
   focus(exact Ao)
   focus(exact AQ)
   focus exact xO (T:=T) (m:=h2.next) (p:=p) (q:=q) Ah (tok.same Aq (Nat.le_refl _)) he'.2 hz
   rintro _ h4 ⟨M,bv,rfl,f1,f2⟩ q4 n4
   rw[eS,tn]at f1 f2
   simp only[Bv,AY]at f1
   cases bv
   ·obtain⟨rfl,f3⟩:=f2 rfl
    have nb:¬L.kN p q:=fun k=>k.elim hz fun⟨g,N,D,h1,h2⟩=>f3 g N D h1 h2
    unfold Mk.none Mk.cells
    (refine Aj ?_)
    (refine Au ?_)
    refine⟨Mk.none,?_,fun _=>rfl,fun h=>?_⟩
    ·rw[b3 he cl nb];rfl
    ·rw[b3 he cl nb]at h;contradiction
   ·obtain⟨f3,f4⟩:=f1 rfl
    have bd:L.kN p q:=.inr (by obtain⟨g,h1,h2⟩:=f3.g;exact⟨g,_,_,h1,h2⟩)
    have bs:=uP lv cl hz f3 f4
    have eM:(⟨M.cells⟩:Array Value)=⟨[.map M.r,.int .i64 M.s.u,.int .i64 M.s.v,.int .i64 M.s.w,.int .i64 M.t]⟩:=rfl
    rw[eM]
    (refine Aj ?_)
    (refine Au ?_)
    refine⟨M,?_,fun h=>?_,fun _=>bs.frame Ah Ah fun r h1 h2=>Aw fun y hy=>Aa⟩
    ·rw[b4 he cl bd]
    ·exact absurd (b4 he cl bd) h
end AE.Tryz.Spn

/- Walks of span: the least value, and a truth that has it. -/
namespace AE.Tryz.Spn
open Go AE Go.Proofs AE.Sp
set_option maxRecDepth 100000
set_option linter.unusedVariables false

structure ZC (L:Runs) (p q N D:Int):Prop where
 d:0<D
 at':∃t:Er,(∀i,i<L.n->(L.f i).Fit t)/\(p*t.a+q*t.b) *D=N*t.d/\0<t.d
 le:∀t:Er,(∀i,i<L.n->(L.f i).Fit t)->0<t.d->N*t.d<=(p*t.a+q*t.b) *D
theorem ZC.le2 {L:Runs}{p q N D N' D':Int}(k:ZC L p q N D) (k':ZC L p q N' D'):N*D'<=N'*D:=by
 obtain⟨t,h1,h2,h3⟩:=k'.at'
 have h4:=k.le t h1 h3
 refine Kg h3 ?_
 have e1:N*D'*t.d=N*t.d*D':=by ac_rfl
 have e2:N'*D*t.d=(p*t.a+q*t.b) *D*D':=by
  have:N'*D*t.d=N'*t.d*D:=by ac_rfl
  rw[this,<-h2];ac_rfl
 rw[e1,e2]
 exact Int.mul_le_mul_of_nonneg_right h4 (by have:=k'.d;omega)
theorem ZC.same {L:Runs}{p q N D N' D':Int}(k:ZC L p q N D) (k':ZC L p q N' D'):fr N D=fr N' D':=oM k.d k'.d (Int.le_antisymm (k.le2 k') (k'.le2 k))
theorem Best.lst {L:Runs}{p q:Int}{b m:Nat}{h:H}{M:Mk}(k:Best L p q b m h M):ZC L p q M.s.w M.t:=by
 refine⟨k.nice.t.1,?_,fun t hf hd=>?_⟩
 ·obtain⟨t, -,h2,h3,h4⟩:=k.cor ⟨L.n,L.f,0,none,⟨0,0,none⟩,none,⟨0,0,none⟩⟩ rfl rfl
  exact⟨t,h2,h3,h4⟩
 ·have:=Ze (Km.2 hf) fun p hp=>(k.ok.v p hp).1
  rw[<-k.ok.s]at this
  unfold Sd.Fit Sd.val at this
  rw[k.u,k.v]at this
  have e:(p*t.a+q*t.b) *M.t=M.t*p*t.a+M.t*q*t.b:=by
   rw[Int.add_mul]
   have x1:p*t.a*M.t=M.t*p*t.a:=by ac_rfl
   have x2:q*t.b*M.t=M.t*q*t.b:=by ac_rfl
   omega
  rw[e]
  exact this
open Classical in
noncomputable def Runs.lval (L:Runs) (p q:Int):Fr:=if h:L.EH p q=0/\∃N D,ZC L p q N D then fr (Classical.choose h.2) (Classical.choose (Classical.choose_spec h.2))else⟨0,0⟩
theorem ZC.val {L:Runs}{p q N D:Int}(k:ZC L p q N D) (he:L.EH p q=0):L.lval p q=fr N D:=by
 unfold Runs.lval
 rw[dif_pos ⟨he,N,D,k⟩]
 exact(Classical.choose_spec (Classical.choose_spec (show L.EH p q=0/\∃N D,ZC L p q N D from⟨he,N,D,k⟩).2)).same k
theorem Runs.SF {L:Runs}{p q:Int}(he:L.EH p q≠0):L.lval p q=⟨0,0⟩:=by
 unfold Runs.lval
 rw[dif_neg fun k=>he k.1]
theorem Best.val {L:Runs}{p q:Int}{b m:Nat}{h:H}{M:Mk}(k:Best L p q b m h M) (he:L.EH p q=0):M.fr=L.lval p q:=(k.lst.val he).symm
theorem kTSpanR0 {G G':Prop}(g:G') (t:G'->G:=by((apply Ar);(focus exact Ao);(focus exact AQ);(focus((apply fT;focus exact Best.nice (by assumption)))))):G:=t g

set_option maxHeartbeats 2000000 in
theorem ni {h:H}{L:Runs}{m:Nat}{p q:Int}(hm:m<=h.next) (hL:L.Ok m h):AW Tryz.prog 20 h.next h [.slice L.b L.n L.c,.int .i64 p,.int .i64 q] (fun v _=>v= .tuple #[.agg ⟨(L.lval p q).cells⟩,.int .i64 (L.EH p q)]):=by
 refine Agh.call rfl (Nat.le_refl _) ?_
 unfold a20
 (refine Aj ?_)
 apply Ar
 focus(exact Ao)
 focus(exact AQ)
 focus exact fU (L:=L) (m:=m) (p:=p) (q:=q) Ah (hL.same Aq (Nat.le_refl _))
 rintro _ h2 ⟨M,rfl,b1,b2⟩ q2 n2
 have eM:(⟨M.cells⟩:Array Value)=⟨[.map M.r,.int .i64 M.s.u,.int .i64 M.s.v,.int .i64 M.s.w,.int .i64 M.t]⟩:=rfl
 rw[eM]
 by_cases he:L.EH p q=0
 ·have bs:=b2 he
  rw[he,<-bs.val he]
  (focus((try with_reducible apply wpC.to);(repeat'((conv=>whnf);first|refine Ak ?_|(apply Fork.mk<;>(intro _;try(exfalso;omega)))|((first|refine kTSpanR0 ?_|refine kTSpanK0 ?_);first|((first|apply Ae|apply Ac|apply Ad)<;>intro _ _ _ _<;>try contradiction)|(apply Ab;intro _ _ _))|fail));all_goals((conv=>whnf);try with_reducible apply At.mk)))
  (refine Au ?_)
  rfl
 ·rw[Runs.SF he]
  (refine Aj ?_)
  (refine Au ?_)
  rfl
theorem jN {h:H}{T:Tab}:AW Tryz.prog 104 h.next h [.pointer (some ⟨T.r,0,none⟩)] (fun v h'=>∃r1,v= .func (.func 192) ⟨[]⟩ ⟨[.pointer (some ⟨r1,0,none⟩)]⟩/\(h.next<=r1/\r1<h'.next)/\h'.get r1=some (.cells [.pointer (some ⟨T.r,0,none⟩)] 113)):=by
 refine Aa6.call rfl (Nat.le_refl _) ?_
 unfold Ai5
 (refine Aj ?_)
 (refine Au ?_)
 exact⟨h.next,rfl,⟨by omega,Ah⟩,Aa⟩
theorem Runs.o4 {L:Runs}{p q:Int}(he:L.FI p q=0):L.err=0/\qS p q:=by
 unfold Runs.FI at he
 split at he
 ·contradiction
 ·split at he
  ·exact⟨by omega,by assumption⟩
  ·omega
theorem Runs.xV {L:Runs}{p q:Int}(he:L.EH p q=0):L.FI p q=0/\L.Cl/\L.kN p q:=by
 unfold Runs.EH at he
 split at he
 ·contradiction
 ·split at he
  ·omega
  ·split at he
   ·omega
   ·exact⟨by omega,Classical.not_not.1 (by assumption),Classical.not_not.1 (by assumption)⟩
theorem Runs.Agw {L:Runs}{t:Er}(h:L.EA t=0):L.err=0/\t.Val/\∀i,i<L.n->(L.f i).Fit t:=by
 unfold Runs.EA at h
 split at h
 ·contradiction
 ·split at h
  ·omega
  ·split at h
   ·exact⟨by omega,Classical.not_not.1 (by assumption),by assumption⟩
   ·omega
theorem Runs.Abf {L:Runs}{t:Er}(h1:L.err=0) (h2:t.Val) (h3:∀i,i<L.n->(L.f i).Fit t):L.EA t=0:=by
 unfold Runs.EA
 rw[if_neg Al,if_neg (fun k=>k h2),if_pos (show L.Fits t from h3)]
theorem cG {T:Tab}{m:Nat}{h:H}(hT:T.Ok m h) {t:Er}(hc:Jq T t) (hd:0<t.d):t.Val:=by
 rcases hc with⟨-,rfl⟩|⟨i,hi,rfl⟩|⟨i,j,⟨hi,hj⟩,hc,rfl⟩
 ·exact⟨by dsimp only;omega,by dsimp only;omega,by dsimp only;omega⟩
 ·obtain⟨u,v,w⟩:=hT.up hi
  have m1:=BJ u.1 u.2 w.1 w.2
  have m2:=BJ v.1 v.2 w.1 w.2
  have m3:=BJ u.1 u.2 u.1 u.2
  have m4:=BJ v.1 v.2 v.1 v.2
  refine⟨⟨by omega,?_⟩,?_,?_⟩
  ·unfold nr dt;dsimp only;omega
  ·unfold nr;dsimp only;omega
  ·unfold nr;dsimp only;omega
 ·obtain⟨u,v,w⟩:=hT.up hi
  obtain⟨u',v',w'⟩:=hT.up hj
  have m1:=BJ w.1 w.2 v'.1 v'.2
  have m2:=BJ w'.1 w'.2 v.1 v.2
  have m3:=BJ u.1 u.2 w'.1 w'.2
  have m4:=BJ u'.1 u'.2 w.1 w.2
  have m5:=BJ u.1 u.2 v'.1 v'.2
  have m6:=BJ v.1 v.2 u'.1 u'.2
  refine⟨⟨by omega,?_⟩,?_,?_⟩
  ·unfold vx cr;dsimp only;omega
  ·unfold vx;dsimp only;omega
  ·unfold vx;dsimp only;omega

structure Att (L:Runs) (p q:Int) (t:Er):Prop where
 f:L.EA t=0
 v:fr (p*t.a+q*t.b) t.d=L.lval p q

set_option maxHeartbeats 8000000 in
theorem qj {h:H}{L:Runs}{m:Nat}{p q:Int}(hm:m<=h.next) (hL:L.Ok m h):AW Tryz.prog 42 h.next h [.slice L.b L.n L.c,.int .i64 p,.int .i64 q] (fun v _=>∃t:Er,v= .tuple #[.agg ⟨t.cells⟩,.int .i64 (L.EH p q)]/\(L.EH p q≠0->t=⟨0,0,0⟩)/\(L.EH p q=0->Att L p q t)):=by
 refine vW.call rfl (Nat.le_refl _) ?_
 unfold a42
 (refine Aj ?_)
 apply Ar
 focus(exact Ao)
 focus(exact AQ)
 focus exact fU (L:=L) (m:=m) (p:=p) (q:=q) Ah (hL.same Aq (Nat.le_refl _))
 rintro _ h2 ⟨M,rfl,b1,b2⟩ q2 n2
 have eM:(⟨M.cells⟩:Array Value)=⟨[.map M.r,.int .i64 M.s.u,.int .i64 M.s.v,.int .i64 M.s.w,.int .i64 M.t]⟩:=rfl
 rw[eM]
 by_cases he:L.EH p q≠0
 ·(refine Aj ?_)
  (refine Au ?_)
  exact⟨⟨0,0,0⟩,rfl,fun _=>rfl,fun k=>absurd k he⟩
 have he:L.EH p q=0:=by omega
 have bs:=b2 he
 obtain⟨e2,cl,bd⟩:=Runs.xV he
 obtain⟨e1,um⟩:=Runs.o4 e2
 obtain⟨ln,lv⟩:=L.Tj e1
 rw[he]
 (focus((try with_reducible apply wpC.to);(repeat'((conv=>whnf);first|refine Ak ?_|(apply Fork.mk<;>(intro _;try(exfalso;omega)))|((first|refine kTSpanR0 ?_|refine kTSpanK0 ?_|refine kTSpanC0 ?_);first|((first|apply Ae|apply Ac|apply Ad)<;>intro _ _ _ _<;>try contradiction)|(apply Ab;intro _ _ _))|fail));all_goals((conv=>whnf);try with_reducible apply At.mk)))
 apply Ar
 focus(exact Ao)
 focus(exact AQ)
 focus exact Ny (L:=L) (m:=m) Ah (hL.same Aq (Nat.le_refl _)) Al lv
 rintro _ h4 ⟨T,rfl,tn,tf,tok⟩ q4 n4
 (refine Aj ?_)
 apply Ar
 focus(exact Ao)
 focus(exact AQ)
 focus exact jN (T:=T)
 rintro _ h5 ⟨r1,rfl,b1',g1⟩ q5 n5
 (refine Aj ?_)
 refine Dq (l:=[(3,.pointer (some ⟨h.next,0,none⟩)),(4,.pointer (some ⟨h.next+1,0,none⟩)),(5,.pointer (some ⟨h.next+2,0,none⟩)),(6,.pointer (some ⟨h.next+3,0,none⟩)),(7,.pointer (some ⟨h.next+4,0,none⟩)),(10,.pointer (some ⟨h2.next+4,0,none⟩)),(27,.func (.func 192) ⟨[]⟩ ⟨[.pointer (some ⟨r1,0,none⟩)]⟩)]) ⟨rfl,rfl,rfl,rfl,rfl,rfl,rfl,trivial⟩ fun g'=>?_
 apply IK
 focus exact rfl
 focus(exact Ao)
 focus(exact Jk)
 intro L0 hL0
 have x0:h5.get h.next=some (.cells [.slice L.b L.n L.c] 28):=by(exact Aa)
 have x1:h5.get (h.next+1)=some (.cells [.int .i64 p] 2):=by(exact Aa)
 have x2:h5.get (h.next+2)=some (.cells [.int .i64 q] 2):=by(exact Aa)
 have x3:h5.get (h.next+3)=some (.cells [.int .i64 0,.int .i64 0,.int .i64 0] 43):=by(exact Aa)
 have x4:h5.get (h.next+4)=some (.cells [.int .i64 0] 34):=by(exact Aa)
 have x5:h5.get (h2.next+4)=some (.cells [.int .i64 M.fr.n,.int .i64 M.fr.d] 57):=by(exact Aa)
 have sm5:Same m h h5:=by(exact Aq)
 have o1:h.next+13<=h2.next:=by omega
 have o2:h2.next+9<=h5.next:=by omega
 have Ajp:T.Ok h5.next h5:=tok.same Aq Al
 have vb:=bs.nice.rng
 have ev:=bs.val he
 refine⟨_,jM (T:=T) (m:=h5.next) (r1:=r1) Ah (Ajp.same Aq (Nat.le_refl _)) Ah Aa Ah
  (fun l h1=>h1.get h.next=some (.cells [.slice L.b L.n L.c] 28)/\h1.get (h.next+1)=some (.cells [.int .i64 p] 2)/\h1.get (h.next+2)=some (.cells [.int .i64 q] 2)/\h1.get (h.next+3)=some (.cells [.int .i64 0,.int .i64 0,.int .i64 0] 43)/\h1.get (h.next+4)=some (.cells [.int .i64 0] 34)/\h1.get (h2.next+4)=some (.cells [.int .i64 M.fr.n,.int .i64 M.fr.d] 57)/\Same m h h1/\Same h5.next h5 h1/\h1.get h5.next=some (.loop L0)/\h5.next<h1.next/\∀t∈l,¬Att L p q t)
  (fun h1=>∃t:Er,Att L p q t/\h1.get (h.next+3)=some (.cells t.cells 43)/\h1.get (h.next+4)=some (.cells [.int .i64 0] 34)/\h1.get h5.next=some (.loop (ended (busy L0) .ret))/\h5.next<h1.next)
  (fun l h1 k=>⟨(k.2.2.2.2.2.2.2.1 _ b1'.2).trans (Eq.symm Ep),fun r hr=>(k.2.2.2.2.2.2.2.1 r hr).trans (Eq.symm Ep)⟩) ?_ ?_ ?_ ?_,?_⟩
 ·rintro l h6 h7 ⟨k0,k1,k2,k3,k4,k5,k6,k7,k8,k9,k10⟩ qq
  have:=qq.next
  exact⟨Aa,Aa,Aa,Aa,Aa,Aa,k6.trans Aq,k7.trans Aq,Aa,by omega,k10⟩
 ·rintro h6 h7 ⟨t,k1,k2,k3,k4,k5⟩ qq
  have:=qq.next
  exact⟨t,k1,Aa,Aa,Aa,by omega⟩
 ·rintro l t h6 hc ⟨k0,k1,k2,k3,k4,k5,k6,k7,k8,k9,k10⟩ hle
  simp only[Bv,AY]at hle
  have tb:L.EA t=0->t.Val:=fun h=>(Runs.Agw h).2.1
  refine YA.call vW.mixed (A:=gD) (B:=gy) (L:=L0) (by rw[hL0];exact Ag8) (by rw[hL0];exact Ag7) k8 Al Al (by rw[hL0];exact rfl) (by rw[hL0];exact rfl) ?_
  unfold YA gD
  refine Dq (l:=[(3,.pointer (some ⟨h.next,0,none⟩)),(4,.pointer (some ⟨h.next+1,0,none⟩)),(5,.pointer (some ⟨h.next+2,0,none⟩)),(6,.pointer (some ⟨h.next+3,0,none⟩)),(7,.pointer (some ⟨h.next+4,0,none⟩)),(10,.pointer (some ⟨h2.next+4,0,none⟩)),(28,.agg ⟨t.cells⟩)]) ⟨by rw[hL0];exact rfl,by rw[hL0];exact rfl,by rw[hL0];exact rfl,by rw[hL0];exact rfl,by rw[hL0];exact rfl,by rw[hL0];exact rfl,by rw[hL0];exact rfl,trivial⟩ fun g''=>?_
  unfold Er.cells
  (refine Aj ?_)
  refine⟨rfl,L0,Aa,by rw[hL0];exact rfl,?_⟩
  unfold gy
  have hL1:ended (busy L0) .none=L0:=by rw[hL0];exact rfl
  (focus((try with_reducible apply wpC.to);(repeat'((conv=>whnf);first|refine Ak ?_|(apply Fork.mk<;>(intro _;try(exfalso;omega)))|((first|refine kTSpanR0 ?_|refine kTSpanK0 ?_|refine kTSpanC0 ?_);first|((first|apply Ae|apply Ac|apply Ad)<;>intro _ _ _ _<;>try contradiction)|(apply Ab;intro _ _ _))|fail));all_goals((conv=>whnf);try with_reducible apply At.mk)))
  ·have fz:L.EA t=0:=by assumption
   have tv:=tb fz
   obtain⟨tv1,tv2,tv3⟩:=tv
   have m1:=BJ um.1.1 um.1.2 tv2.1 tv2.2
   have m2:=BJ um.2.1 um.2.2 tv3.1 tv3.2
   (refine Aj ?_)
   apply Dw
   focus(exact Ao)
   focus(exact AQ)
   focus exact dW Al Al
   intro h7 q7 n7
   (refine Aj ?_)
   by_cases hv:fr (p*t.a+q*t.b) t.d=M.fr
   ·refine DT.pure (.bool true) (DU (A:=⟨(fr (p*t.a+q*t.b) t.d).cells⟩) (B:=⟨M.fr.cells⟩) rfl rfl rfl rfl rfl (by kernel_rfl) ((WY _ _).trans (congrArg some (decide_eq_true hv)))) ?_
    (refine Aj ?_)
    refine⟨.ret,_,rfl,Aa,.inr ⟨rfl,t,⟨fz,hv.trans ev⟩,Aa,Aa,Aa,Ah⟩,fun r hr1 hr2=>by simp only[Bv,AY]at hr1;exact Aw fun y hy=>Aa⟩
   ·refine DT.pure (.bool false) (DU (A:=⟨(fr (p*t.a+q*t.b) t.d).cells⟩) (B:=⟨M.fr.cells⟩) rfl rfl rfl rfl rfl (by kernel_rfl) ((WY _ _).trans (congrArg some (decide_eq_false hv)))) ?_
    (refine Aj ?_)
    refine⟨.none,_,rfl,Aa,.inl ⟨rfl,Aa,Aa,Aa,Aa,Aa,Aa,k6.trans Aq,k7.trans (fun r hr=>Aw fun y hy=>Aa),by rw[hL1];(exact Aa),Ah,fun t' ht'=>?_⟩,fun r hr1 hr2=>by simp only[Bv,AY]at hr1;exact Aw fun y hy=>Aa⟩
    rcases List.mem_append.1 ht' with h1|h1
    ·exact k10 t' h1
    ·rw[List.mem_singleton.1 h1];exact fun k=>hv (k.v.trans ev.symm)
  ·refine⟨.none,_,rfl,Aa,.inl ⟨rfl,Aa,Aa,Aa,Aa,Aa,Aa,k6.trans Aq,k7.trans (fun r hr=>Aw fun y hy=>Aa),by rw[hL1];(exact Aa),Ah,fun t' ht'=>?_⟩,fun r hr1 hr2=>by simp only[Bv,AY]at hr1;exact Aw fun y hy=>Aa⟩
   rcases List.mem_append.1 ht' with h1|h1
   ·exact k10 t' h1
   ·rw[List.mem_singleton.1 h1];exact fun k=>absurd k.f (by assumption)
 ·exact⟨Aa,Aa,Aa,Aa,Aa,Aa,Aq,Aq,Aa,Ah,fun t ht=>absurd ht (by simp)⟩
 ·rintro v h6 hv qq
  rcases hv with⟨l,hl,k0,k1,k2,k3,k4,k5,k6,k7,k8,k9,k10⟩|⟨t,k1,k2,k3,k4,k5⟩
  ·exfalso
   obtain⟨t,c1,c2,c3,c4⟩:=bs.cor T tn tf
   have tv:=cG tok c1 c4
   refine k10 t (hl t c1) ⟨Runs.Abf e1 tv c2,?_⟩
   rw[<-ev]
   exact oM c4 bs.nice.t.1 c3
  ·refine⟨_,k4,by rw[hL0];simp[EX,ended,busy,Ov],?_⟩
   simp only[ended,FU]
   unfold Er.cells at k2
   (refine Aj ?_)
   (refine Au ?_)
   exact⟨t,rfl,fun k=>absurd rfl k,fun _=>k1⟩
end AE.Tryz.Spn
