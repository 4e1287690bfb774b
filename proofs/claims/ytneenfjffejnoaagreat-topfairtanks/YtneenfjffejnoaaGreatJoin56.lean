/- Walks and plain laws: TAgreeJ, TAgreeK, DragSpec. -/
import Derived.Test.YtneenfjffejnoaaGreatJoin82
import Derived.Test.YtneenfjffejnoaaGreatAEthree
set_option linter.unusedVariables false
set_option linter.unusedSimpArgs false
set_option linter.unusedSectionVars false

/- Walks of agree: hulls. -/
namespace AE.Tryz.Agr
open Go AE AE.Ag AgreeS Go.Proofs
set_option maxRecDepth 100000

theorem mH {h:H}{x:F1}{r:Nat}{z:Int}{e:TypeId}(hr:r<h.next) (hg:h.get r=some (.cells [.int .i64 z] e)):AW Tryz.prog 120 h.next h [.agg ⟨x.cells⟩,.pointer (some ⟨r,0,none⟩)] (fun v _=>v= .bool (decide (x.hull=z))):=by
 refine Aat.call rfl (Nat.le_refl _) ?_
 unfold Aiy
 (focus((try with_reducible apply wpC.to);(repeat'((conv=>whnf);first|refine Ak ?_|(apply Fork.mk<;>(intro _;try(exfalso;omega)))|fail));all_goals((conv=>whnf);try with_reducible apply At.mk)))
 all_goals((refine Au ?_);first|exact CI rfl Al|exact Ch rfl Al)

theorem RO {T:Tab}(hv:T.Valid) {z:Int}(hz:0<=z):DR T.toTable z.toNat↔∃i,i<T.n/\(T.f i).hull=z:=by
 constructor
 ·rintro⟨y,hy,hyz⟩
  simp only[Tab.toTable,List.mem_map,List.mem_range]at hy
  obtain⟨i,hi,rfl⟩:=hy
  have:=hv.f i hi
  simp only[F1.toTest]at hyz
  exact⟨i,hi,by omega⟩
 ·rintro⟨i,hi,rfl⟩
  exact⟨(T.f i).toTest,by simp only[Tab.toTable,List.mem_map,List.mem_range];exact⟨i,hi,rfl⟩,rfl⟩

inductive JN (T:Tab) (n:Nat) (f:Nat->Int) (h:H):Value->H->Prop
 |doubt {h':H} (ha:¬CV T.toTable):JN T n f h (.tuple #[.pointer none,.pointer none,.int .i64 20]) h'
 |unt {h':H} (ha:CV T.toTable) (hn:∃i,i<n/\¬DR T.toTable (f i).toNat):JN T n f h (.tuple #[.pointer none,.pointer none,.int .i64 5]) h'
 |ok {h':H} {r hr:Nat} {e:TypeId} (ha:CV T.toTable) (ht:∀i,i<n->DR T.toTable (f i).toNat) (h1:h.next<=r) (h2:r<h'.next) (hg:h'.get r=some (.cells (T.head++B6 (BO T.toTable)) e))
  (hl:vk h r (AgreeS.found (BO T.toTable) T.toTable.many 0) hr h'):JN T n f h (.tuple #[.pointer (some ⟨r,0,.none⟩),.pointer (some ⟨hr,0,.none⟩),.int .i64 0]) h'

set_option maxHeartbeats 1000000 in
theorem tL {h:H}{T:Tab}{m:Nat}{L:G9}(hm:m<=h.next) (hT:T.Ok m h) (hv:T.Valid) (hL:L.Ok h.next h) (hf:∀i,i<L.n->0<=L.f i/\L.f i<T.hulls):
 AW Tryz.prog 55 h.next h [.agg ⟨T.cells⟩,L.val] (JN T L.n L.f h):=by
 have hok:=hv.ok
 obtain⟨le,li,lr,ll⟩:=hL
 unfold G9.val
 refine Afm.call rfl (Nat.le_refl _) ?_
 unfold a55
 (focus((try with_reducible apply wpC.to);(repeat'((conv=>whnf);first|refine Ak ?_|(apply Fork.mk<;>(intro _;try(exfalso;omega)))|fail));all_goals((conv=>whnf);try with_reducible apply At.mk)))
 apply Dw
 focus(exact Ao)
 focus(exact AQ)
 focus exact Iu (m:=m) Ah (hT.same Aq (Nat.le_refl _)) hv
 intro h1 q1 hn1
 (focus((try with_reducible apply wpC.to);(repeat'((conv=>whnf);first|refine Ak ?_|(apply Fork.mk<;>(intro _;try(exfalso;omega)))|fail));all_goals((conv=>whnf);try with_reducible apply At.mk)))
 refine wp_loop (fun s:Nat=>[(1,.slice L.b L.n L.c),(2,.pointer (some ⟨h.next,0,none⟩)),(20,.slice L.b L.n L.c),(21,.int .i64 L.n),(22,.int .i64 s)])
  (fun s h2=>Same h.next h h2/\h.next+1<=h2.next/\s<=L.n/\h2.get h.next=some (.cells T.cells 31)) (fun s=>L.n - s) 0 ⟨rfl,rfl,rfl,rfl,rfl,trivial⟩ ⟨Aq,Ah,by omega,Aa⟩ ?_
 rintro s g h2 ⟨sm,hn2,hs,g1⟩ K hK
 have hfs:s<L.n->0<=L.f s/\L.f s<T.hulls:=hf s
 (focus((try with_reducible apply wpC.to);(repeat'((conv=>whnf);first|refine Ak ?_|(apply Fork.mk<;>(intro _;try(exfalso;omega)))|fail));all_goals((conv=>whnf);try with_reducible apply At.mk)))
 ·refine hK (s+1) _ _ ⟨rfl,rfl,rfl,rfl,AK rfl Al,trivial⟩ ⟨Aq,Ah,by omega,Aa⟩ Al
 clear hfs hK K
 apply Ar
 focus(exact Ao)
 focus(exact AQ)
 focus exact Sz (m:=m) (by have:=sm;(exact Ah)) (hT.same Aq (Nat.le_refl _)) hv
 rintro _ h3 ⟨r,e,rfl,hr1,hr2,hr3⟩ q3 Lj
 (focus((try with_reducible apply wpC.to);(repeat'((conv=>whnf);first|refine Ak ?_|(apply Fork.mk<;>(intro _;try(exfalso;omega)))|fail));all_goals((conv=>whnf);try with_reducible apply At.mk)))
 apply Ar
 focus(exact Ao)
 focus(exact AQ)
 focus exact MH (B:=BO T.toTable) (e:=e) hv Ah (Io hok) Aa
 rintro _ h4 ⟨hr,rfl,hL⟩ q4 Ng
 simp only[AY]at hr1 hr2
 by_cases ha:(AgreeS.found (BO T.toTable) T.toTable.many 0).last<0
 rotate_left
 ·rw[decide_eq_false ha]
  (focus((try with_reducible apply wpC.to);(repeat'((conv=>whnf);first|refine Ak ?_|(apply Fork.mk<;>(intro _;try(exfalso;omega)))|fail));all_goals((conv=>whnf);try with_reducible apply At.mk)))
  (refine Au ?_)
  exact .doubt fun h=>ha ((KZ hok).2 h)
 rw[decide_eq_true ha]
 have ha:=(KZ hok).1 ha
 (focus((try with_reducible apply wpC.to);(repeat'((conv=>whnf);first|refine Ak ?_|(apply Fork.mk<;>(intro _;try(exfalso;omega)))|fail));all_goals((conv=>whnf);try with_reducible apply At.mk)))
 obtain⟨mr,e',l1,l2,l3,l4,l5,l6,l7⟩:=hL
 simp only[AY]at l1 l3
 refine wp_loop (fun u:Nat=>[(2,.pointer (some ⟨h.next,0,none⟩)),(10,.pointer (some ⟨r,0,none⟩)),(11,.pointer (some ⟨hr,0,none⟩)),(44,.slice L.b L.n L.c),(45,.int .i64 L.n),(46,.int .i64 u)])
  (fun u h5=>Same h4.next h4 h5/\h4.next<=h5.next/\u<=L.n/\(∀i,i<u->DR T.toTable (L.f i).toNat)) (fun u=>L.n - u) 0 ⟨rfl,rfl,rfl,rfl,rfl,rfl,trivial⟩ ⟨Aq,Ah,by omega,fun i hi=>by omega⟩ ?_
 clear g
 rintro u g h5 ⟨sm5,N4,hu,htt⟩ K hK
 have hT4:T.Ok m h4:=hT.same Aq (Nat.le_refl _)
 have g5:h4.get h.next=some (.cells T.cells 31):=by(exact Aa)
 (focus((try with_reducible apply wpC.to);(repeat'((conv=>whnf);first|refine Ak ?_|(apply Fork.mk<;>(intro _;try(exfalso;omega)))|fail));all_goals((conv=>whnf);try with_reducible apply At.mk)))
 ·have hfu:=hf u Al
  apply Fp
  focus(exact Ao)
  focus(exact AQ)
  focus
   refine NW (m:=m) (p:=fun i=>decide ((T.f i).hull=L.f u)) Ah (hT4.same Aq (Nat.le_refl _)) fun i k1 hi q=>?_
   exact Ec (mH (x:=T.f i) (r:=h5.next+3) (e:=3) (by have:=q.next;(exact Ah)) ((q.same _ Ah).trans Aa)) rfl
  ·intro hb h6 q oa
   (focus((try with_reducible apply wpC.to);(repeat'((conv=>whnf);first|refine Ak ?_|(apply Fork.mk<;>(intro _;try(exfalso;omega)))|fail));all_goals((conv=>whnf);try with_reducible apply At.mk)))
   refine hK (u+1) _ _ ⟨rfl,rfl,rfl,rfl,rfl,AK rfl Al,trivial⟩ ⟨Aq,Ah,by omega,fun i hi=>?_⟩ Al
   by_cases hiu:i=u
   ·subst hiu
    obtain⟨j,hj,hj2⟩:=of_decide_eq_true hb
    exact(RO hv hfu.1).2 ⟨j,hj,of_decide_eq_true hj2⟩
   ·exact htt i Al
  ·intro hb h6 q oa
   (focus((try with_reducible apply wpC.to);(repeat'((conv=>whnf);first|refine Ak ?_|(apply Fork.mk<;>(intro _;try(exfalso;omega)))|fail));all_goals((conv=>whnf);try with_reducible apply At.mk)))
   (refine Au ?_)
   refine .unt ha ⟨u,by omega,fun ht=>of_decide_eq_false hb ?_⟩
   obtain⟨j,hj,hj2⟩:=(RO hv hfu.1).1 ht
   exact⟨j,hj,decide_eq_true hj2⟩
 ·(refine Au ?_)
  have:u=L.n:=by omega
  subst this
  exact .ok ha htt Al Ah (e:=e) Aa ⟨mr,e',by omega,Ah,by omega,Ah,l5,Aa,Aa⟩

end AE.Tryz.Agr

/- Walks of agree: what a hull can have, and the truths of its ends. -/
namespace AE.Tryz.Agr
set_option linter.unusedSimpArgs false
open Go AE AE.Ag AgreeS Go.Proofs
set_option maxRecDepth 100000
open Classical in
noncomputable def sErr (T:Table) (j:Nat):Int:=if CV T then(if DR T j then 0 else 5)else 20
noncomputable def TX (T:Table) (j:Nat):Int:=if sErr T j=0 then Ey T j else 0
noncomputable def UD (T:Table) (j:Nat):Int:=if sErr T j=0 then CZ T j else 0
open Classical in
noncomputable def cR (T:Table) (i j:Nat):Int:=if CV T then(if DR T i/\DR T j then 0 else 5)else 20
theorem KD {T:Table}{j:Nat}:sErr T j=0↔CV T/\DR T j:=by
 unfold sErr
 by_cases ha:CV T<;>by_cases ht:DR T j<;>simp[ha,ht]
theorem uR {T:Table}{i j:Nat}:cR T i j=0↔CV T/\DR T i/\DR T j:=by
 unfold cR
 by_cases ha:CV T<;>by_cases ht:DR T i<;>by_cases hu:DR T j<;>simp[ha,ht,hu]

theorem JN.one {T:Tab}{z:Int}{h:H}{v:Value}{h':H}(k:JN T 1 (fun _=>z) h v h'):
 (sErr T.toTable z.toNat≠0/\v= .tuple #[.pointer none,.pointer none,.int .i64 (sErr T.toTable z.toNat)])\/
 (sErr T.toTable z.toNat=0/\CV T.toTable/\DR T.toTable z.toNat/\∃r hr e,v= .tuple #[.pointer (some ⟨r,0,none⟩),.pointer (some ⟨hr,0,none⟩),.int .i64 0]/\h.next<=r/\r<h'.next/\h'.get r=some (.cells (T.head++B6 (BO T.toTable)) e)/\
  vk h r (AgreeS.found (BO T.toTable) T.toTable.many 0) hr h'):=by
 cases k with
 |doubt ha=>exact .inl (by simp[sErr,ha])
 | unt ha hn=>
   obtain⟨i, -,hn⟩:=hn
   exact .inl (by simp[sErr,ha,hn])
 | ok ha ht h1 h2 hg hl=>
   have ht:=ht 0 Al
   exact .inr ⟨KD.2 ⟨ha,ht⟩,ha,ht,_,_,_,rfl,h1,h2,hg,hl⟩
theorem JN.two {T:Tab}{z w:Int}{h:H}{v:Value}{h':H}(k:JN T 2 (fun i=>if i=0 then z else w) h v h'):
 (cR T.toTable z.toNat w.toNat≠0/\v= .tuple #[.pointer none,.pointer none,.int .i64 (cR T.toTable z.toNat w.toNat)])\/
 (cR T.toTable z.toNat w.toNat=0/\CV T.toTable/\DR T.toTable z.toNat/\DR T.toTable w.toNat/\∃r hr e,v= .tuple #[.pointer (some ⟨r,0,none⟩),.pointer (some ⟨hr,0,none⟩),.int .i64 0]/\h.next<=r/\r<h'.next/\h'.get r=some (.cells (T.head++B6 (BO T.toTable)) e)/\
  vk h r (AgreeS.found (BO T.toTable) T.toTable.many 0) hr h'):=by
 cases k with
 |doubt ha=>exact .inl (by simp[cR,ha])
 | unt ha hn=>
   obtain⟨i, -,hn⟩:=hn
   refine .inl ?_
   split at hn<;>simp[cR,ha,hn]
 | ok ha ht h1 h2 hg hl=>
   have ht0:=ht 0 Al
   have ht1:=ht 1 Al
   simp only[if_true]at ht0
   rw[if_neg Al]at ht1
   exact .inr ⟨uR.2 ⟨ha,ht0,ht1⟩,ha,ht0,ht1,_,_,_,rfl,h1,h2,hg,hl⟩

theorem Mz {T:Table}(h:T.Ok) (k:CV T) (v:Nat): -(12*AgreeS.M)<=hts (AgreeS.found (BO T) T.many 0).known v/\hts (AgreeS.found (BO T) T.many 0).known v<=12*AgreeS.M:=U7 (Iv h k).2 v
theorem NI {T:Table}(h:T.Ok) (k:CV T) (v:Nat): -(12*AgreeS.M)<=hts (AgreeS.found (turn (BO T)) T.many 0).known v/\hts (AgreeS.found (turn (BO T)) T.many 0).known v<=12*AgreeS.M:=U7 (JW h k).2 v

set_option maxHeartbeats 1000000 in
theorem Oa {h:H}{T:Tab}{m:Nat}{z:Int}(hm:m<=h.next) (hT:T.Ok m h) (hv:T.Valid) (hz:0<=z/\z<T.hulls):
 AW Tryz.prog 19 h.next h [.agg ⟨T.cells⟩,.int .i64 z] (fun v _=>v= .tuple #[.agg ⟨[.int .i64 (TX T.toTable z.toNat),.int .i64 (UD T.toTable z.toNat)]⟩,.int .i64 (sErr T.toTable z.toNat)]):=by
 have hok:=hv.ok
 have hmm:=hok.many
 refine Agi.call rfl (Nat.le_refl _) ?_
 unfold a19
 (focus((try with_reducible apply wpC.to);(repeat'((conv=>whnf);first|refine Ak ?_|(apply Fork.mk<;>(intro _;try(exfalso;omega)))|fail));all_goals((conv=>whnf);try with_reducible apply At.mk)))
 apply Ar
 focus(exact Ao)
 focus(exact AQ)
 focus exact tL (m:=m) (L:=⟨1,fun _=>z,some ⟨h.next+5,0,none⟩,⟨h.next+5,0,none⟩,1⟩) Ah (hT.same Aq (Nat.le_refl _)) hv ⟨fun _=>rfl,fun i hi=>by obtain rfl:i=0:=(by simp only at hi;omega);exact Di (off:=0+0) Aa rfl,fun _=>by simp only;(exact Ah),by simp⟩ (fun i hi=>hz)
 intro v h1 k q hn
 rcases k.one with⟨he,rfl⟩|⟨he,ha,ht,r,hr,e,rfl,hr1,hr2,hg,mr,e',l1,l2,l3,l4,l5,l6,l7⟩
 ·(focus((try with_reducible apply wpC.to);(repeat'((conv=>whnf);first|refine Ak ?_|(apply Fork.mk<;>(intro _;try(exfalso;omega)))|fail));all_goals((conv=>whnf);try with_reducible apply At.mk)))
  have h1:TX T.toTable z.toNat=0:=if_neg he
  have h2:UD T.toTable z.toNat=0:=if_neg he
  rw[h1,h2]
  all_goals((refine Au ?_);rfl)
 try simp only[Bv,AY]at hr1 l1 l3
 (focus((try with_reducible apply wpC.to);(repeat'((conv=>whnf);first|refine Ak ?_|(apply Fork.mk<;>(intro _;try(exfalso;omega)))|fail));all_goals((conv=>whnf);try with_reducible apply At.mk)))
 apply Ar
 focus(exact Ao)
 focus(exact AQ)
 focus exact lH (T:=T) (B:=BO T.toTable) hv Ah (fun f t m hm=>⟨(Io hok f t m hm).1,(Io hok f t m hm).2.1⟩) Aa
 rintro _ h2 ⟨r2,e2,rfl,r21,r22,hg2⟩ q2 hn2
 try simp only[Bv,AY]at r21
 (focus((try with_reducible apply wpC.to);(repeat'((conv=>whnf);first|refine Ak ?_|(apply Fork.mk<;>(intro _;try(exfalso;omega)))|fail));all_goals((conv=>whnf);try with_reducible apply At.mk)))
 apply Ar
 focus(exact Ao)
 focus(exact AQ)
 focus exact MH (B:=turn (BO T.toTable)) hv Ah (Yr (Io hok)) Aa
 rintro _ h3 ⟨hr3,rfl,mr3,e3,m1,m2,m3,m4,m5,m6,m7⟩ q3 Lj
 try simp only[Bv,AY]at m1 m3
 (focus((try with_reducible apply wpC.to);(repeat'((conv=>whnf);first|refine Ak ?_|(apply Fork.mk<;>(intro _;try(exfalso;omega)))|fail));all_goals((conv=>whnf);try with_reducible apply At.mk)))
 apply Ar
 focus(exact Ao)
 focus(exact AQ)
 focus exact RN (x:=AgreeS.found (BO T.toTable) T.toTable.many 0) (r:=r) (B:=BO T.toTable) hv (Mz hok ha) (.inl rfl) Ah Ah Aa Aa
 rintro _ h4 ⟨t,rfl,an,cn,af,cf,⟨aoe,aoi,aor,aol⟩,⟨coe,coi,cor,col⟩,ab,cb⟩ q4 Ng
 try simp only[Bv,AY]at ab cb
 (focus((try with_reducible apply wpC.to);(repeat'((conv=>whnf);first|refine Ak ?_|(apply Fork.mk<;>(intro _;try(exfalso;omega)))|fail));all_goals((conv=>whnf);try with_reducible apply At.mk)))
 apply Ar
 focus(exact Ao)
 focus(exact AQ)
 focus exact RN (x:=AgreeS.found (turn (BO T.toTable)) T.toTable.many 0) (r:=r2) (B:=turn (BO T.toTable)) hv (NI hok ha) (.inr rfl) Ah Ah Aa Aa
 rintro _ h5 ⟨t',rfl,an',cn',af',cf',⟨Aoy,Aox,Aov,Aow⟩,⟨Aot,Aos,Aor,col'⟩,ab',cb'⟩ q5 N4
 try simp only[Bv,AY]at ab' cb'
 (focus((try with_reducible apply wpC.to);(repeat'((conv=>whnf);first|refine Ak ?_|(apply Fork.mk<;>(intro _;try(exfalso;omega)))|fail));all_goals((conv=>whnf);try with_reducible apply At.mk)))
 (refine Au ?_)
 have e1:TX T.toTable z.toNat=Ey T.toTable z.toNat:=if_pos he
 have e2:UD T.toTable z.toNat=CZ T.toTable z.toNat:=if_pos he
 rw[e1,e2,he,cf _ Al,cf' _ Al]
 rw[Int.one_mul,show -(-1*hts (AgreeS.found (turn (BO T.toTable)) T.toTable.many 0).known (1+T.tanks.toNat+z.toNat))=hts (AgreeS.found (turn (BO T.toTable)) T.toTable.many 0).known (1+T.tanks.toNat+z.toNat) by omega]
 rfl

noncomputable def WZ (T:Table) (top:Bool):Known:=if top then(AgreeS.found (turn (BO T)) T.many 0).known else(AgreeS.found (BO T) T.many 0).known
def Za (top:Bool):Int:=if top then -1 else 1
def Er.zero:Er:=⟨⟨0,fun _=>0,none,⟨0,0,none⟩,0⟩,⟨0,fun _=>0,none,⟨0,0,none⟩,0⟩⟩

theorem G9.Ok.frame {A:G9}{b m m':Nat}{h h':H}(k:A.Ok m h) (hb:0<A.n->b<=A.a.block) (hm:m<=m') (hs:∀r,b<=r->r<m->h'.get r=h.get r):A.Ok m' h':=
 ⟨k.e,fun i hi=>by
  have:=k.i i hi
  rw[<-this]
  simp only[H.Bu,BI]
  rw[hs _ (hb Al) (k.r Al)],fun h0=>by have:=k.r h0;omega,k.l⟩
theorem K1.frame {T:Tab}{x:Known}{sg:Int}{m m':Nat}{t:Er}{h h':H}(k:K1 T x sg m t h) (hm:m'<=m) (hn:h.next<=h'.next) (hs:∀r,m<=r->r<h.next->h'.get r=h.get r):K1 T x sg m' t h':=
 ⟨k.an,k.cn,k.af,k.cf,k.ao.frame (fun _=>k.ab) hn hs,k.co.frame (fun _=>k.cb) hn hs,Nat.le_trans hm k.ab,Nat.le_trans hm k.cb⟩

open Classical in
noncomputable def QI (T:Table):Int:=if CV T then 0 else 20
theorem dL {T:Table}:QI T=0↔CV T:=by
 unfold QI
 by_cases ha:CV T<;>simp[ha]

set_option maxHeartbeats 1000000 in
theorem Us {h:H}{T:Tab}{m:Nat}(hm:m<=h.next) (hT:T.Ok m h) (hv:T.Valid):
 AW Tryz.prog 10 h.next h [.agg ⟨T.cells⟩] (fun v h'=>∃t:Er,v= .tuple #[.agg ⟨t.cells⟩,.int .i64 (QI T.toTable)]/\if QI T.toTable=0 then K1 T (WZ T.toTable false) (Za false) h.next t h' else t=Er.zero):=by
 have hok:=hv.ok
 refine Ags.call rfl (Nat.le_refl _) ?_
 unfold a10
 (focus((try with_reducible apply wpC.to);(repeat'((conv=>whnf);first|refine Ak ?_|(apply Fork.mk<;>(intro _;try(exfalso;omega)))|fail));all_goals((conv=>whnf);try with_reducible apply At.mk)))
 apply Dw
 focus(exact Ao)
 focus(exact AQ)
 focus exact Iu (m:=m) Ah (hT.same Aq (Nat.le_refl _)) hv
 intro h1 q1 hn1
 (focus((try with_reducible apply wpC.to);(repeat'((conv=>whnf);first|refine Ak ?_|(apply Fork.mk<;>(intro _;try(exfalso;omega)))|fail));all_goals((conv=>whnf);try with_reducible apply At.mk)))
 apply Ar
 focus(exact Ao)
 focus(exact AQ)
 focus exact Sz (m:=m) Ah (hT.same Aq (Nat.le_refl _)) hv
 rintro _ h3 ⟨r,e,rfl,hr1,hr2,hr3⟩ q3 Lj
 try simp only[Bv,AY]at hr1 hr2
 (focus((try with_reducible apply wpC.to);(repeat'((conv=>whnf);first|refine Ak ?_|(apply Fork.mk<;>(intro _;try(exfalso;omega)))|fail));all_goals((conv=>whnf);try with_reducible apply At.mk)))
 apply Ar
 focus(exact Ao)
 focus(exact AQ)
 focus exact MH (B:=BO T.toTable) (e:=e) hv Ah (Io hok) Aa
 rintro _ h4 ⟨hr,rfl,mr,e',l1,l2,l3,l4,l5,l6,l7⟩ q4 Ng
 try simp only[Bv,AY]at l1 l3
 by_cases ha:(AgreeS.found (BO T.toTable) T.toTable.many 0).last<0
 rotate_left
 ·rw[decide_eq_false ha]
  have he:¬QI T.toTable=0:=fun he=>ha ((KZ hok).2 (dL.1 he))
  (focus((try with_reducible apply wpC.to);(repeat'((conv=>whnf);first|refine Ak ?_|(apply Fork.mk<;>(intro _;try(exfalso;omega)))|fail));all_goals((conv=>whnf);try with_reducible apply At.mk)))
  (refine Au ?_)
  exact⟨Er.zero,by unfold QI at he⊢;rw[if_neg (fun ha=>he (if_pos ha))];rfl,by rw[if_neg he]⟩
 rw[decide_eq_true ha]
 have ha:=(KZ hok).1 ha
 have he:QI T.toTable=0:=dL.2 ha
 (focus((try with_reducible apply wpC.to);(repeat'((conv=>whnf);first|refine Ak ?_|(apply Fork.mk<;>(intro _;try(exfalso;omega)))|fail));all_goals((conv=>whnf);try with_reducible apply At.mk)))
 apply Ar
 focus(exact Ao)
 focus(exact AQ)
 focus exact RN (x:=AgreeS.found (BO T.toTable) T.toTable.many 0) (r:=r) (B:=BO T.toTable) hv (Mz hok ha) (.inl rfl) Ah Ah Aa Aa
 rintro _ h5 ⟨t,rfl,tk⟩ q5 N4
 (focus((try with_reducible apply wpC.to);(repeat'((conv=>whnf);first|refine Ak ?_|(apply Fork.mk<;>(intro _;try(exfalso;omega)))|fail));all_goals((conv=>whnf);try with_reducible apply At.mk)))
 (refine Au ?_)
 exact⟨t,by rw[he];rfl,by rw[if_pos he];exact tk.frame Ah Ah fun j hj1 hj2=>Aw fun y hy=>by simp only[Bv,AY]at hj1 hj2;(exact Aa)⟩

end AE.Tryz.Agr

/- What drag computes, in plain words: friction lines. -/
namespace AE.Drag
open Go AE

structure Line where
 n:Nat
 re:Nat->Int
 m:Nat
 cf:Nat->Int
 b1:Option Addr
 a1:Addr
 c1:Nat
 b2:Option Addr
 a2:Addr
 c2:Nat
def Line.cells (L:Line):List Value:=[.slice L.b1 L.n L.c1,.slice L.b2 L.m L.c2]
structure Line.Ok (L:Line) (m:Nat) (h:H):Prop where
 e1:0<L.n->L.b1=some L.a1
 i1:Ints h L.a1 L.n L.re
 r1:0<L.n->L.a1.block<m
 e2:0<L.m->L.b2=some L.a2
 i2:Ints h L.a2 L.m L.cf
 r2:0<L.m->L.a2.block<m
 l1:L.n<=9223372036854775807
 l2:L.m<=9223372036854775807
theorem Line.Ok.same {L:Line}{m m':Nat}{h h':H}(k:L.Ok m h) (s:Same m h h') (hm:m<=m'):L.Ok m' h':=
 ⟨k.e1,k.i1.same s k.r1,fun h=>by have:=k.r1 h;omega,k.e2,k.i2.same s k.r2,fun h=>by have:=k.r2 h;omega,k.l1,k.l2⟩

def FN (L:Line) (i:Nat):Prop:=1<=L.re i/\L.re i<=1000000000/\0<=L.cf i/\L.cf i<=100000/\(0<i->L.re (i - 1)<L.re i/\L.cf i<=L.cf (i - 1))
open Classical in
noncomputable def Eg (L:Line):Int:=if L.n<2\/12<L.n then 6 else if L.m≠L.n then 15 else if∀i,i<L.n->FN L i then 0 else 2

structure Valid (L:Line):Prop where
 lo:2<=L.n
 hi:L.n<=12
 eq:L.m=L.n
 pt:∀i,i<L.n->FN L i

theorem HI {L:Line}:Eg L=0↔Valid L:=by
 unfold Eg
 constructor
 ·intro h
  split at h
  ·omega
  ·split at h
   ·omega
   ·split at h
    ·rename_i h1 h2 h3
     exact⟨by omega,by omega,by omega,h3⟩
    ·omega
 ·rintro⟨h1,h2,h3,h4⟩
  rw[if_neg Al,if_neg Al,if_pos h4]

theorem Valid.dS {L:Line}(v:Valid L):∀{i j:Nat},i<j->j<L.n->L.re i<L.re j:=by
 intro i j hij hj
 induction j with
 |zero=>omega
 | succ j ih=>
   have:=((v.pt (j+1) hj).2.2.2.2 Al).1
   simp only[Nat.add_sub_cancel]at this
   by_cases h:i=j
   ·subst h;exact this
   ·have:=ih Al Al;omega
theorem Valid.pL {L:Line}(v:Valid L):∀{i j:Nat},i<=j->j<L.n->L.cf j<=L.cf i:=by
 intro i j hij hj
 induction j with
 | zero => have:i=0:=by omega
           subst this;omega
 | succ j ih=>
   by_cases h:i=j+1
   ·subst h;omega
   ·have:=((v.pt (j+1) hj).2.2.2.2 Al).2
    simp only[Nat.add_sub_cancel]at this
    have:=ih Al Al;omega
theorem Valid.vB {L:Line}(v:Valid L) {i:Nat}(hi:i<L.n):1<=L.re i/\L.re i<=1000000000:=⟨(v.pt i hi).1,(v.pt i hi).2.1⟩
theorem Valid.Vo {L:Line}(v:Valid L) {i:Nat}(hi:i<L.n):0<=L.cf i/\L.cf i<=100000:=⟨(v.pt i hi).2.2.1,(v.pt i hi).2.2.2.1⟩

def cnt (re:Nat->Int) (x:Int):Nat->Nat
 |0=>0
 |k+1=>if re k<x then k+1 else cnt re x k
theorem W7 (re:Nat->Int) (x:Int):∀k,cnt re x k<=k
 |0=>Nat.le_refl _
 | k+1=>by
   unfold cnt
   split
   ·omega
   ·have:=W7 re x k;omega
def idx (L:Line) (x:Int):Nat:=cnt L.re x L.n
theorem O5 {re:Nat->Int}{x:Int}:∀{k:Nat},(∀i j,i<j->j<k->re i<re j)->(∀i,i<cnt re x k->re i<x)/\(∀i,cnt re x k<=i->i<k->x<=re i)
 |0,_=>⟨fun i h=>by simp[cnt]at h,fun i _ h=>by omega⟩
 | k+1,hr=>by
   have ih:=O5 (re:=re) (x:=x) (k:=k) (fun i j h1 h2=>hr i j h1 Al)
   unfold cnt
   split
   ·rename_i h
    refine⟨fun i hi=>?_,fun i h1 h2=>by omega⟩
    by_cases e:i=k
    ·subst e;exact h
    ·have:=hr i k Al Al;omega
   ·rename_i h
    refine⟨ih.1,fun i h1 h2=>?_⟩
    by_cases e:i=k
    ·subst e;omega
    ·exact ih.2 i h1 Al
theorem YM {L:Line}(v:Valid L) {x:Int}{i:Nat}(h1:∀j,j<i->L.re j<x) (h2:i<L.n->x<=L.re i) (hi:i<=L.n):idx L x=i:=by
 obtain⟨s1,s2⟩:=O5 (re:=L.re) (x:=x) (k:=L.n) (fun i j a b=>v.dS a b)
 unfold idx
 have hl:=W7 L.re x L.n
 rcases Nat.lt_trichotomy (cnt L.re x L.n) i with h|h|h
 ·have a:=s2 _ (Nat.le_refl _) Al
  have b:=h1 _ h
  omega
 ·exact h
 ·have a:=s1 i h
  have b:=h2 Al
  omega

def fr (L:Line) (x:Int) (i:Nat):Int:=if L.re i=x then L.cf i else L.cf (i - 1) - (L.cf (i - 1) - L.cf i) * (x - L.re (i - 1)) / (L.re i - L.re (i - 1))
def Jh (L:Line) (x:Int):Int:=fr L x (idx L x)
def inside (L:Line) (x:Int):Prop:=L.re 0<=x/\x<=L.re (L.n - 1)
instance (L:Line) (x:Int):Decidable (inside L x):=by unfold inside;infer_instance


theorem S0 {L:Line}(v:Valid L) (x:Int):(∀i,i<idx L x->L.re i<x)/\(∀i,idx L x<=i->i<L.n->x<=L.re i):=O5 (fun _ _ a b=>v.dS a b)
theorem PK {L:Line}(v:Valid L) {x:Int}(h:inside L x):idx L x<L.n/\x<=L.re (idx L x):=by
 obtain⟨s1,s2⟩:=S0 v x
 have hl:=W7 L.re x L.n
 have:=v.lo
 have hlt:idx L x<L.n:=by
  rcases Nat.lt_or_ge (L.n - 1) (idx L x)with h1|h1
  ·have:=s1 _ h1;have:=h.2;omega
  ·unfold idx at*;omega
 exact⟨hlt,s2 _ (Nat.le_refl _) hlt⟩
structure Mid (L:Line) (x:Int) (k:Nat):Prop where
 pos:0<k
 lo:L.re (k - 1)<x
 hi:x<L.re k
 c0:0<=L.cf k
 c1:L.cf k<=L.cf (k - 1)
 c2:L.cf (k - 1)<=100000
 r0:1<=L.re (k - 1)
 r1:L.re k<=1000000000
 p0:0<=(L.cf (k - 1) - L.cf k) * (x - L.re (k - 1))
 p1:(L.cf (k - 1) - L.cf k) * (x - L.re (k - 1))<=100000000000000
 q0:0<=(L.cf (k - 1) - L.cf k) * (x - L.re (k - 1)) / (L.re k - L.re (k - 1))
 q1:(L.cf (k - 1) - L.cf k) * (x - L.re (k - 1)) / (L.re k - L.re (k - 1))<=L.cf (k - 1) - L.cf k
theorem xP {L:Line}(v:Valid L) {x:Int}{k:Nat}(hk:0<k) (hkn:k<L.n) (h1:L.re (k - 1)<x) (h2:x<L.re k):Mid L x k:=by
 have a:=v.Vo hkn
 have b:=v.Vo (i:=k - 1) Al
 have c:=v.pL (i:=k - 1) (j:=k) Al hkn
 have d:=v.vB hkn
 have e:=v.vB (i:=k - 1) Al
 have p0:0<=(L.cf (k - 1) - L.cf k) * (x - L.re (k - 1)):=Int.mul_nonneg Al Al
 have p1:(L.cf (k - 1) - L.cf k) * (x - L.re (k - 1))<=100000*1000000000:=Int.mul_le_mul Al Al Al Al
 refine⟨hk,h1,h2,a.1,c,b.2,e.1,d.2,p0,by omega,Int.ediv_nonneg p0 Al,Int.ediv_le_of_le_mul Al ?_⟩
 exact Int.mul_le_mul_of_nonneg_left Al Al
theorem MG {L:Line}(v:Valid L) {x:Int}(h:inside L x) (hne:L.re (idx L x)≠x):Mid L x (idx L x):=by
 obtain⟨h1,h2⟩:=PK v h
 obtain⟨s1,s2⟩:=S0 v x
 have hk:0<idx L x:=by
  rcases Nat.eq_zero_or_pos (idx L x)with h0|h0
  ·rw[h0]at h2 hne;have:=h.1;omega
  ·exact h0
 exact xP v hk h1 (s1 _ Al) Al
theorem GR {L:Line}(v:Valid L) {x:Int}(h:inside L x):0<=Jh L x/\Jh L x<=100000:=by
 unfold Jh fr
 obtain⟨h1,h2⟩:=PK v h
 have:=v.Vo h1
 split
 ·omega
 ·rename_i hne
  have m:=MG v h hne
  have:=m.q0;have:=m.q1;have:=m.c2;have:=m.c0;have:=m.c1
  omega

end AE.Drag
