/- Walks and plain laws: TAgreeJ, TAgreeK, TAgreeM, TAgreeN, TAgreeO. -/
import Derived.Test.YtneenfjffejnoaaGreatAEBy2
import Derived.Test.YtneenfjffejnoaaGreatJoin28
set_option linter.unusedVariables false
set_option linter.unusedSimpArgs false
set_option linter.unusedSectionVars false

/- Walks of agree: hulls. -/
namespace AE.Tryz.Agr
open Go AE AE.Ag AgreeS Go.Proofs
set_option maxRecDepth 100000

theorem mH {h:H}{x:F1}{r:Nat}{z:Int}{e:TypeId}(hr:r<h.next) (hg:h.get r=some (.cells [.int .i64 z] e)):AW Tryz.prog 120 h.next h [.agg ⟨x.cells⟩,.pointer (some ⟨r,0,none⟩)] (fun v _=>v= .bool (decide (x.hull=z))):=by
 refine Aat.call rfl (Nat.le_refl _) ?_
 unfold Aiy
 (focus((try with_reducible apply wpC.to);(repeat'((conv=>whnf);first|refine Ak ?_|(apply Fork.mk<;>(intro _;try(exfalso;omega)))|fail));all_goals((conv=>whnf);try with_reducible apply At.mk)))
 all_goals((refine Au ?_);first|exact CI rfl Al|exact Ch rfl Al)

theorem RO {T:Tab}(hv:T.Valid) {z:Int}(hz:0<=z):DR T.toTable z.toNat↔∃i,i<T.n/\(T.f i).hull=z:=by
 constructor
 ·rintro⟨y,hy,hyz⟩
  simp only[Tab.toTable,List.mem_map,List.mem_range]at hy
  obtain⟨i,hi,rfl⟩:=hy
  have:=hv.f i hi
  simp only[F1.toTest]at hyz
  exact⟨i,hi,by omega⟩
 ·rintro⟨i,hi,rfl⟩
  exact⟨(T.f i).toTest,by simp only[Tab.toTable,List.mem_map,List.mem_range];exact⟨i,hi,rfl⟩,rfl⟩

inductive JN (T:Tab) (n:Nat) (f:Nat->Int) (h:H):Value->H->Prop
 |doubt {h':H} (ha:¬CV T.toTable):JN T n f h (.tuple #[.pointer none,.pointer none,.int .i64 20]) h'
 |unt {h':H} (ha:CV T.toTable) (hn:∃i,i<n/\¬DR T.toTable (f i).toNat):JN T n f h (.tuple #[.pointer none,.pointer none,.int .i64 5]) h'
 |ok {h':H} {r hr:Nat} {e:TypeId} (ha:CV T.toTable) (ht:∀i,i<n->DR T.toTable (f i).toNat) (h1:h.next<=r) (h2:r<h'.next) (hg:h'.get r=some (.cells (T.head++B6 (BO T.toTable)) e))
  (hl:vk h r (AgreeS.found (BO T.toTable) T.toTable.many 0) hr h'):JN T n f h (.tuple #[.pointer (some ⟨r,0,.none⟩),.pointer (some ⟨hr,0,.none⟩),.int .i64 0]) h'

set_option maxHeartbeats 1000000 in
theorem tL {h:H}{T:Tab}{m:Nat}{L:G9}(hm:m<=h.next) (hT:T.Ok m h) (hv:T.Valid) (hL:L.Ok h.next h) (hf:∀i,i<L.n->0<=L.f i/\L.f i<T.hulls):
 AW Tryz.prog 55 h.next h [.agg ⟨T.cells⟩,L.val] (JN T L.n L.f h):=by
 have hok:=hv.ok
 obtain⟨le,li,lr,ll⟩:=hL
 unfold G9.val
 refine Afm.call rfl (Nat.le_refl _) ?_
 unfold a55
 (refine Aj ?_)
 apply Dw
 focus(exact Ao)
 focus(exact AQ)
 focus exact Iu (m:=m) Ah (hT.same Aq (Nat.le_refl _)) hv
 intro h1 q1 hn1
 (refine Aj ?_)
 refine wp_loop (fun s:Nat=>[(1,.slice L.b L.n L.c),(2,.pointer (some ⟨h.next,0,none⟩)),(20,.slice L.b L.n L.c),(21,.int .i64 L.n),(22,.int .i64 s)])
  (fun s h2=>Same h.next h h2/\h.next+1<=h2.next/\s<=L.n/\h2.get h.next=some (.cells T.cells 31)) (fun s=>L.n - s) 0 ⟨rfl,rfl,rfl,rfl,rfl,trivial⟩ ⟨Aq,Ah,by omega,Aa⟩ ?_
 rintro s g h2 ⟨sm,hn2,hs,g1⟩ K hK
 have hfs:s<L.n->0<=L.f s/\L.f s<T.hulls:=hf s
 (focus((try with_reducible apply wpC.to);(repeat'((conv=>whnf);first|refine Ak ?_|(apply Fork.mk<;>(intro _;try(exfalso;omega)))|fail));all_goals((conv=>whnf);try with_reducible apply At.mk)))
 ·refine hK (s+1) _ _ ⟨rfl,rfl,rfl,rfl,AK rfl Al,trivial⟩ ⟨Aq,Ah,by omega,Aa⟩ Al
 clear hfs hK K
 apply Ar
 focus(exact Ao)
 focus(exact AQ)
 focus exact Sz (m:=m) (by have:=sm;(exact Ah)) (hT.same Aq (Nat.le_refl _)) hv
 rintro _ h3 ⟨r,e,rfl,hr1,hr2,hr3⟩ q3 Lj
 (refine Aj ?_)
 apply Ar
 focus(exact Ao)
 focus(exact AQ)
 focus exact MH (B:=BO T.toTable) (e:=e) hv Ah (Io hok) Aa
 rintro _ h4 ⟨hr,rfl,hL⟩ q4 Ng
 simp only[AY]at hr1 hr2
 by_cases ha:(AgreeS.found (BO T.toTable) T.toTable.many 0).last<0
 rotate_left
 ·rw[decide_eq_false ha]
  (refine Aj ?_)
  (refine Au ?_)
  exact .doubt fun h=>ha ((KZ hok).2 h)
 rw[decide_eq_true ha]
 have ha:=(KZ hok).1 ha
 (refine Aj ?_)
 obtain⟨mr,e',l1,l2,l3,l4,l5,l6,l7⟩:=hL
 simp only[AY]at l1 l3
 refine wp_loop (fun u:Nat=>[(2,.pointer (some ⟨h.next,0,none⟩)),(10,.pointer (some ⟨r,0,none⟩)),(11,.pointer (some ⟨hr,0,none⟩)),(44,.slice L.b L.n L.c),(45,.int .i64 L.n),(46,.int .i64 u)])
  (fun u h5=>Same h4.next h4 h5/\h4.next<=h5.next/\u<=L.n/\(∀i,i<u->DR T.toTable (L.f i).toNat)) (fun u=>L.n - u) 0 ⟨rfl,rfl,rfl,rfl,rfl,rfl,trivial⟩ ⟨Aq,Ah,by omega,fun i hi=>by omega⟩ ?_
 clear g
 rintro u g h5 ⟨sm5,N4,hu,htt⟩ K hK
 have hT4:T.Ok m h4:=hT.same Aq (Nat.le_refl _)
 have g5:h4.get h.next=some (.cells T.cells 31):=by(exact Aa)
 (focus((try with_reducible apply wpC.to);(repeat'((conv=>whnf);first|refine Ak ?_|(apply Fork.mk<;>(intro _;try(exfalso;omega)))|fail));all_goals((conv=>whnf);try with_reducible apply At.mk)))
 ·have hfu:=hf u Al
  apply Fp
  focus(exact Ao)
  focus(exact AQ)
  focus
   refine NW (m:=m) (p:=fun i=>decide ((T.f i).hull=L.f u)) Ah (hT4.same Aq (Nat.le_refl _)) fun i k1 hi q=>?_
   exact Ec (mH (x:=T.f i) (r:=h5.next+3) (e:=3) (by have:=q.next;(exact Ah)) ((q.same _ Ah).trans Aa)) rfl
  ·intro hb h6 q oa
   (refine Aj ?_)
   refine hK (u+1) _ _ ⟨rfl,rfl,rfl,rfl,rfl,AK rfl Al,trivial⟩ ⟨Aq,Ah,by omega,fun i hi=>?_⟩ Al
   by_cases hiu:i=u
   ·subst hiu
    obtain⟨j,hj,hj2⟩:=of_decide_eq_true hb
    exact(RO hv hfu.1).2 ⟨j,hj,of_decide_eq_true hj2⟩
   ·exact htt i Al
  ·intro hb h6 q oa
   (refine Aj ?_)
   (refine Au ?_)
   refine .unt ha ⟨u,by omega,fun ht=>of_decide_eq_false hb ?_⟩
   obtain⟨j,hj,hj2⟩:=(RO hv hfu.1).1 ht
   exact⟨j,hj,decide_eq_true hj2⟩
 ·(refine Au ?_)
  have:u=L.n:=by omega
  subst this
  exact .ok ha htt Al Ah (e:=e) Aa ⟨mr,e',by omega,Ah,by omega,Ah,l5,Aa,Aa⟩

end AE.Tryz.Agr

/- Walks of agree: what a hull can have, and the truths of its ends. -/
namespace AE.Tryz.Agr
set_option linter.unusedSimpArgs false
open Go AE AE.Ag AgreeS Go.Proofs
set_option maxRecDepth 100000
open Classical in
noncomputable def sErr (T:Table) (j:Nat):Int:=if CV T then(if DR T j then 0 else 5)else 20
noncomputable def TX (T:Table) (j:Nat):Int:=if sErr T j=0 then Ey T j else 0
noncomputable def UD (T:Table) (j:Nat):Int:=if sErr T j=0 then CZ T j else 0
open Classical in
noncomputable def cR (T:Table) (i j:Nat):Int:=if CV T then(if DR T i/\DR T j then 0 else 5)else 20
theorem KD {T:Table}{j:Nat}:sErr T j=0↔CV T/\DR T j:=by
 unfold sErr
 by_cases ha:CV T<;>by_cases ht:DR T j<;>simp[ha,ht]
theorem uR {T:Table}{i j:Nat}:cR T i j=0↔CV T/\DR T i/\DR T j:=by
 unfold cR
 by_cases ha:CV T<;>by_cases ht:DR T i<;>by_cases hu:DR T j<;>simp[ha,ht,hu]

theorem JN.one {T:Tab}{z:Int}{h:H}{v:Value}{h':H}(k:JN T 1 (fun _=>z) h v h'):
 (sErr T.toTable z.toNat≠0/\v= .tuple #[.pointer none,.pointer none,.int .i64 (sErr T.toTable z.toNat)])\/
 (sErr T.toTable z.toNat=0/\CV T.toTable/\DR T.toTable z.toNat/\∃r hr e,v= .tuple #[.pointer (some ⟨r,0,none⟩),.pointer (some ⟨hr,0,none⟩),.int .i64 0]/\h.next<=r/\r<h'.next/\h'.get r=some (.cells (T.head++B6 (BO T.toTable)) e)/\
  vk h r (AgreeS.found (BO T.toTable) T.toTable.many 0) hr h'):=by
 cases k with
 |doubt ha=>exact .inl (by simp[sErr,ha])
 | unt ha hn=>
   obtain⟨i, -,hn⟩:=hn
   exact .inl (by simp[sErr,ha,hn])
 | ok ha ht h1 h2 hg hl=>
   have ht:=ht 0 Al
   exact .inr ⟨KD.2 ⟨ha,ht⟩,ha,ht,_,_,_,rfl,h1,h2,hg,hl⟩
theorem JN.two {T:Tab}{z w:Int}{h:H}{v:Value}{h':H}(k:JN T 2 (fun i=>if i=0 then z else w) h v h'):
 (cR T.toTable z.toNat w.toNat≠0/\v= .tuple #[.pointer none,.pointer none,.int .i64 (cR T.toTable z.toNat w.toNat)])\/
 (cR T.toTable z.toNat w.toNat=0/\CV T.toTable/\DR T.toTable z.toNat/\DR T.toTable w.toNat/\∃r hr e,v= .tuple #[.pointer (some ⟨r,0,none⟩),.pointer (some ⟨hr,0,none⟩),.int .i64 0]/\h.next<=r/\r<h'.next/\h'.get r=some (.cells (T.head++B6 (BO T.toTable)) e)/\
  vk h r (AgreeS.found (BO T.toTable) T.toTable.many 0) hr h'):=by
 cases k with
 |doubt ha=>exact .inl (by simp[cR,ha])
 | unt ha hn=>
   obtain⟨i, -,hn⟩:=hn
   refine .inl ?_
   split at hn<;>simp[cR,ha,hn]
 | ok ha ht h1 h2 hg hl=>
   have ht0:=ht 0 Al
   have ht1:=ht 1 Al
   simp only[if_true]at ht0
   rw[if_neg Al]at ht1
   exact .inr ⟨uR.2 ⟨ha,ht0,ht1⟩,ha,ht0,ht1,_,_,_,rfl,h1,h2,hg,hl⟩

theorem Mz {T:Table}(h:T.Ok) (k:CV T) (v:Nat): -(12*AgreeS.M)<=hts (AgreeS.found (BO T) T.many 0).known v/\hts (AgreeS.found (BO T) T.many 0).known v<=12*AgreeS.M:=U7 (Iv h k).2 v
theorem NI {T:Table}(h:T.Ok) (k:CV T) (v:Nat): -(12*AgreeS.M)<=hts (AgreeS.found (turn (BO T)) T.many 0).known v/\hts (AgreeS.found (turn (BO T)) T.many 0).known v<=12*AgreeS.M:=U7 (JW h k).2 v

set_option maxHeartbeats 1000000 in
theorem Oa {h:H}{T:Tab}{m:Nat}{z:Int}(hm:m<=h.next) (hT:T.Ok m h) (hv:T.Valid) (hz:0<=z/\z<T.hulls):
 AW Tryz.prog 19 h.next h [.agg ⟨T.cells⟩,.int .i64 z] (fun v _=>v= .tuple #[.agg ⟨[.int .i64 (TX T.toTable z.toNat),.int .i64 (UD T.toTable z.toNat)]⟩,.int .i64 (sErr T.toTable z.toNat)]):=by
 have hok:=hv.ok
 have hmm:=hok.many
 refine Agi.call rfl (Nat.le_refl _) ?_
 unfold a19
 (refine Aj ?_)
 apply Ar
 focus(exact Ao)
 focus(exact AQ)
 focus exact tL (m:=m) (L:=⟨1,fun _=>z,some ⟨h.next+5,0,none⟩,⟨h.next+5,0,none⟩,1⟩) Ah (hT.same Aq (Nat.le_refl _)) hv ⟨fun _=>rfl,fun i hi=>by obtain rfl:i=0:=(by simp only at hi;omega);exact Di (off:=0+0) Aa rfl,fun _=>by simp only;(exact Ah),by simp⟩ (fun i hi=>hz)
 intro v h1 k q hn
 rcases k.one with⟨he,rfl⟩|⟨he,ha,ht,r,hr,e,rfl,hr1,hr2,hg,mr,e',l1,l2,l3,l4,l5,l6,l7⟩
 ·(refine Aj ?_)
  have h1:TX T.toTable z.toNat=0:=if_neg he
  have h2:UD T.toTable z.toNat=0:=if_neg he
  rw[h1,h2]
  all_goals((refine Au ?_);rfl)
 try simp only[Bv,AY]at hr1 l1 l3
 (refine Aj ?_)
 apply Ar
 focus(exact Ao)
 focus(exact AQ)
 focus exact lH (T:=T) (B:=BO T.toTable) hv Ah (fun f t m hm=>⟨(Io hok f t m hm).1,(Io hok f t m hm).2.1⟩) Aa
 rintro _ h2 ⟨r2,e2,rfl,r21,r22,hg2⟩ q2 hn2
 try simp only[Bv,AY]at r21
 (refine Aj ?_)
 apply Ar
 focus(exact Ao)
 focus(exact AQ)
 focus exact MH (B:=turn (BO T.toTable)) hv Ah (Yr (Io hok)) Aa
 rintro _ h3 ⟨hr3,rfl,mr3,e3,m1,m2,m3,m4,m5,m6,m7⟩ q3 Lj
 try simp only[Bv,AY]at m1 m3
 (refine Aj ?_)
 apply Ar
 focus(exact Ao)
 focus(exact AQ)
 focus exact RN (x:=AgreeS.found (BO T.toTable) T.toTable.many 0) (r:=r) (B:=BO T.toTable) hv (Mz hok ha) (.inl rfl) Ah Ah Aa Aa
 rintro _ h4 ⟨t,rfl,an,cn,af,cf,⟨aoe,aoi,aor,aol⟩,⟨coe,coi,cor,col⟩,ab,cb⟩ q4 Ng
 try simp only[Bv,AY]at ab cb
 (refine Aj ?_)
 apply Ar
 focus(exact Ao)
 focus(exact AQ)
 focus exact RN (x:=AgreeS.found (turn (BO T.toTable)) T.toTable.many 0) (r:=r2) (B:=turn (BO T.toTable)) hv (NI hok ha) (.inr rfl) Ah Ah Aa Aa
 rintro _ h5 ⟨t',rfl,an',cn',af',cf',⟨Aoy,Aox,Aov,Aow⟩,⟨Aot,Aos,Aor,col'⟩,ab',cb'⟩ q5 N4
 try simp only[Bv,AY]at ab' cb'
 (refine Aj ?_)
 (refine Au ?_)
 have e1:TX T.toTable z.toNat=Ey T.toTable z.toNat:=if_pos he
 have e2:UD T.toTable z.toNat=CZ T.toTable z.toNat:=if_pos he
 rw[e1,e2,he,cf _ Al,cf' _ Al]
 rw[Int.one_mul,show -(-1*hts (AgreeS.found (turn (BO T.toTable)) T.toTable.many 0).known (1+T.tanks.toNat+z.toNat))=hts (AgreeS.found (turn (BO T.toTable)) T.toTable.many 0).known (1+T.tanks.toNat+z.toNat) by omega]
 rfl

noncomputable def WZ (T:Table) (top:Bool):Known:=if top then(AgreeS.found (turn (BO T)) T.many 0).known else(AgreeS.found (BO T) T.many 0).known
def Za (top:Bool):Int:=if top then -1 else 1
def Er.zero:Er:=⟨⟨0,fun _=>0,none,⟨0,0,none⟩,0⟩,⟨0,fun _=>0,none,⟨0,0,none⟩,0⟩⟩

theorem G9.Ok.frame {A:G9}{b m m':Nat}{h h':H}(k:A.Ok m h) (hb:0<A.n->b<=A.a.block) (hm:m<=m') (hs:∀r,b<=r->r<m->h'.get r=h.get r):A.Ok m' h':=
 ⟨k.e,fun i hi=>by
  have:=k.i i hi
  rw[<-this]
  simp only[H.Bu,BI]
  rw[hs _ (hb Al) (k.r Al)],fun h0=>by have:=k.r h0;omega,k.l⟩
theorem K1.frame {T:Tab}{x:Known}{sg:Int}{m m':Nat}{t:Er}{h h':H}(k:K1 T x sg m t h) (hm:m'<=m) (hn:h.next<=h'.next) (hs:∀r,m<=r->r<h.next->h'.get r=h.get r):K1 T x sg m' t h':=
 ⟨k.an,k.cn,k.af,k.cf,k.ao.frame (fun _=>k.ab) hn hs,k.co.frame (fun _=>k.cb) hn hs,Nat.le_trans hm k.ab,Nat.le_trans hm k.cb⟩

open Classical in
noncomputable def QI (T:Table):Int:=if CV T then 0 else 20
theorem dL {T:Table}:QI T=0↔CV T:=by
 unfold QI
 by_cases ha:CV T<;>simp[ha]

set_option maxHeartbeats 1000000 in
theorem Us {h:H}{T:Tab}{m:Nat}(hm:m<=h.next) (hT:T.Ok m h) (hv:T.Valid):
 AW Tryz.prog 10 h.next h [.agg ⟨T.cells⟩] (fun v h'=>∃t:Er,v= .tuple #[.agg ⟨t.cells⟩,.int .i64 (QI T.toTable)]/\if QI T.toTable=0 then K1 T (WZ T.toTable false) (Za false) h.next t h' else t=Er.zero):=by
 have hok:=hv.ok
 refine Ags.call rfl (Nat.le_refl _) ?_
 unfold a10
 (refine Aj ?_)
 apply Dw
 focus(exact Ao)
 focus(exact AQ)
 focus exact Iu (m:=m) Ah (hT.same Aq (Nat.le_refl _)) hv
 intro h1 q1 hn1
 (refine Aj ?_)
 apply Ar
 focus(exact Ao)
 focus(exact AQ)
 focus exact Sz (m:=m) Ah (hT.same Aq (Nat.le_refl _)) hv
 rintro _ h3 ⟨r,e,rfl,hr1,hr2,hr3⟩ q3 Lj
 try simp only[Bv,AY]at hr1 hr2
 (refine Aj ?_)
 apply Ar
 focus(exact Ao)
 focus(exact AQ)
 focus exact MH (B:=BO T.toTable) (e:=e) hv Ah (Io hok) Aa
 rintro _ h4 ⟨hr,rfl,mr,e',l1,l2,l3,l4,l5,l6,l7⟩ q4 Ng
 try simp only[Bv,AY]at l1 l3
 by_cases ha:(AgreeS.found (BO T.toTable) T.toTable.many 0).last<0
 rotate_left
 ·rw[decide_eq_false ha]
  have he:¬QI T.toTable=0:=fun he=>ha ((KZ hok).2 (dL.1 he))
  (refine Aj ?_)
  (refine Au ?_)
  exact⟨Er.zero,by unfold QI at he⊢;rw[if_neg (fun ha=>he (if_pos ha))];rfl,by rw[if_neg he]⟩
 rw[decide_eq_true ha]
 have ha:=(KZ hok).1 ha
 have he:QI T.toTable=0:=dL.2 ha
 (refine Aj ?_)
 apply Ar
 focus(exact Ao)
 focus(exact AQ)
 focus exact RN (x:=AgreeS.found (BO T.toTable) T.toTable.many 0) (r:=r) (B:=BO T.toTable) hv (Mz hok ha) (.inl rfl) Ah Ah Aa Aa
 rintro _ h5 ⟨t,rfl,tk⟩ q5 N4
 (refine Aj ?_)
 (refine Au ?_)
 exact⟨t,by rw[he];rfl,by rw[if_pos he];exact tk.frame Ah Ah fun j hj1 hj2=>Aw fun y hy=>by simp only[Bv,AY]at hj1 hj2;(exact Aa)⟩

end AE.Tryz.Agr

/- Walks of agree: truths that fit. -/
namespace AE.Tryz.Agr
set_option linter.unusedSimpArgs false
open Go AE AE.Ag AgreeS Go.Proofs
set_option maxRecDepth 100000

structure Er.Ok (t:Er) (m:Nat) (h:H):Prop where
 a:t.A.Ok m h
 c:t.C.Ok m h
theorem Er.Ok.same {t:Er}{m m':Nat}{h h':H}(k:t.Ok m h) (s:Same m h h') (hm:m<=m'):t.Ok m' h':=⟨k.a.same s hm,k.c.same s hm⟩

structure MU (T:Tab) (t:Er):Prop where
 an:(t.A.n:Int)=T.tanks
 cn:(t.C.n:Int)=T.hulls
 aw:∀i,i<t.A.n-> -1099511627776<=t.A.f i/\t.A.f i<=1099511627776
 cw:∀i,i<t.C.n-> -1099511627776<=t.C.f i/\t.C.f i<=1099511627776
 b:∀i,i<t.A.n->T.Ue<=t.A.f i/\t.A.f i<=T.TT
 t:∀i,i<T.n->(T.f i).lo<=t.A.f (T.f i).tank.toNat+t.C.f (T.f i).hull.toNat/\t.A.f (T.f i).tank.toNat+t.C.f (T.f i).hull.toNat<=(T.f i).hi

end AE.Tryz.Agr

/- Walks of agree: the definitions' checks. -/
namespace AE.Tryz.Agr
set_option linter.unusedSimpArgs false
open Go AE AE.Ag AgreeS Go.Proofs
set_option maxRecDepth 100000

theorem lC {h:H}{lo hi:Int}:AW Tryz.prog 37 h.next h [.agg ⟨[.int .i64 lo,.int .i64 hi]⟩] (fun v _=>v= .bool (decide (TR lo hi))):=by
 refine Af2.call rfl (Nat.le_refl _) ?_
 unfold a37
 (focus((try with_reducible apply wpC.to);(repeat'((conv=>whnf);first|refine Ak ?_|(apply Fork.mk<;>(intro _;try(exfalso;omega)))|fail));all_goals((conv=>whnf);try with_reducible apply At.mk)))
 all_goals(refine Au ?_)
 all_goals first|exact CI rfl (by unfold TR;omega)|exact Ch rfl (by unfold TR;omega)
theorem kTAgreeN0 {G G':Prop}(g:G') (t:G'->G:=by((apply Ar);(focus exact Ao);(focus exact AQ);(focus(exact lC)))):G:=t g

set_option maxHeartbeats 1000000 in
theorem I3 {h:H}{T:Tab}{m:Nat}(hm:m<=h.next) (hT:T.Ok m h):
 AW Tryz.prog 9 h.next h [.agg ⟨T.cells⟩] (fun v _=>∃e,v= .int .i64 e/\(e=0↔T.Valid)):=by
 obtain⟨te,ti,tr,tl⟩:=hT
 refine Ani.call rfl (Nat.le_refl _) ?_
 unfold a9
 (focus((try with_reducible apply wpC.to);(repeat'((conv=>whnf);first|refine Ak ?_|(apply Fork.mk<;>(intro _;try(exfalso;omega)))|((refine kTAgreeN0 ?_);first|((first|apply Ae|apply Ac|apply Ad)<;>intro _ _ _ _<;>try contradiction)|(apply Ab;intro _ _ _))|fail));all_goals((conv=>whnf);try with_reducible apply At.mk)))
 ·(refine Au ?_)
  exact⟨6,rfl,by omega,fun k=>by have:=k.n;omega⟩
 ·(refine Au ?_)
  exact⟨2,rfl,by omega,fun k=>by have:=k.t1;omega⟩
 ·(refine Au ?_)
  exact⟨2,rfl,by omega,fun k=>by have:=k.t2;omega⟩
 ·(refine Au ?_)
  exact⟨2,rfl,by omega,fun k=>by have:=k.h1;omega⟩
 ·(refine Au ?_)
  exact⟨2,rfl,by omega,fun k=>by have:=k.h2;omega⟩
 rotate_left
 ·(refine Au ?_)
  exact⟨2,rfl,by omega,fun k=>absurd k.b (by assumption)⟩
 rename_i hR h1 q1 hn1
 refine wp_loop (fun s:Nat=>[(1,.pointer (some ⟨h.next,0,none⟩)),(3,.int .i64 s)])
  (fun s h4=>Same h.next h h4/\h.next+1<=h4.next/\s<=T.n/\h4.get h.next=some (.cells T.cells 31)/\∀i,i<s->(0<=(T.f i).tank/\(T.f i).tank<T.tanks)/\(0<=(T.f i).hull/\(T.f i).hull<T.hulls)) (fun s=>T.n - s) 0
  ⟨rfl,rfl,trivial⟩ ⟨Aq,Ah,by omega,Aa,fun i hi=>by omega⟩ ?_
 rintro s g h4 ⟨sm,Ng,hs,g1,hti⟩ K hK
 have ti4:JP h4 T.a T.n 4 (fun i=>(T.f i).cells):=ti.same (sm.mono hm) tr
 (focus((try with_reducible apply wpC.to);(repeat'((conv=>whnf);first|refine Ak ?_|(apply Fork.mk<;>(intro _;try(exfalso;omega)))|((refine kTAgreeN0 ?_);first|((first|apply Ae|apply Ac|apply Ad)<;>intro _ _ _ _<;>try contradiction)|(apply Ab;intro _ _ _))|fail));all_goals((conv=>whnf);try with_reducible apply At.mk)))
 ·(refine Au ?_)
  exact⟨3,rfl,by omega,fun k=>by have:=k.f s Al;omega⟩
 ·(refine Au ?_)
  exact⟨3,rfl,by omega,fun k=>by have:=k.f s Al;omega⟩
 ·(refine Au ?_)
  exact⟨3,rfl,by omega,fun k=>by have:=k.f s Al;omega⟩
 ·(refine Au ?_)
  exact⟨3,rfl,by omega,fun k=>by have:=k.f s Al;omega⟩
 ·refine hK (s+1) _ _ ⟨rfl,AK rfl Al,trivial⟩ ⟨Aq,Ah,by omega,Aa,fun i hi=>?_⟩ Al
  by_cases e:i=s
  ·subst e;omega
  ·exact hti i Al
 have:s=T.n:=by omega
 subst this
 clear hK K
 refine wp_loop (fun u:Nat=>[(1,.pointer (some ⟨h.next,0,none⟩)),(5,.int .i64 u)])
  (fun u h4=>Same h.next h h4/\h.next+1<=h4.next/\u<=T.n/\h4.get h.next=some (.cells T.cells 31)/\∀i,i<u->TR (T.f i).lo (T.f i).hi) (fun u=>T.n - u) 0
  ⟨rfl,rfl,trivial⟩ ⟨Aq,Ah,by omega,Aa,fun i hi=>by omega⟩ ?_
 clear g1 Ng sm g ti4
 rintro u g h5 ⟨sm,N4,hu,g1,hri⟩ K hK
 have ti5:JP h5 T.a T.n 4 (fun i=>(T.f i).cells):=ti.same (sm.mono hm) tr
 (focus((try with_reducible apply wpC.to);(repeat'((conv=>whnf);first|refine Ak ?_|(apply Fork.mk<;>(intro _;try(exfalso;omega)))|((refine kTAgreeN0 ?_);first|((first|apply Ae|apply Ac|apply Ad)<;>intro _ _ _ _<;>try contradiction)|(apply Ab;intro _ _ _))|fail));all_goals((conv=>whnf);try with_reducible apply At.mk)))
 ·refine Mi.mk (l:=[.int .i64 (T.f u).lo,.int .i64 (T.f u).hi]) (IB (l:=(T.f u).cells) Zq rfl) Is.rfl ?_
  (focus((try with_reducible apply wpC.to);(repeat'((conv=>whnf);first|refine Ak ?_|(apply Fork.mk<;>(intro _;try(exfalso;omega)))|((refine kTAgreeN0 ?_);first|((first|apply Ae|apply Ac|apply Ad)<;>intro _ _ _ _<;>try contradiction)|(apply Ab;intro _ _ _))|fail));all_goals((conv=>whnf);try with_reducible apply At.mk)))
  ·refine hK (u+1) _ _ ⟨rfl,AK rfl Al,trivial⟩ ⟨Aq,Ah,by omega,Aa,fun i hi=>?_⟩ Al
   by_cases e:i=u
   ·subst e;assumption
   ·exact hri i Al
  ·(refine Au ?_)
   exact⟨2,rfl,by omega,fun k=>absurd (k.f u Al).2.2 (by assumption)⟩
 ·(refine Au ?_)
  refine⟨0,rfl,fun _=>⟨by omega,by omega,by omega,by omega,by omega,by assumption,fun i hi=>⟨(hti i hi).1,(hti i hi).2,hri i Al⟩⟩,fun _=>rfl⟩

theorem Qo {h:H}{T:Tab}{m:Nat}(hm:m<=h.next) (hT:T.Ok m h) (hv:T.Valid):AW Tryz.prog 9 h.next h [.agg ⟨T.cells⟩] (fun v _=>v= .int .i64 0):=
 let⟨v,h',⟨e,h1,h2⟩,a⟩:=I3 hm hT
 ⟨v,h',by rw[h1,h2.2 hv],a⟩

theorem Qn {h:H}{L:G9}{m:Nat}(hm:m<=h.next) (hL:L.Ok m h):AW Tryz.prog 51 h.next h [.slice L.b L.n L.c] (fun v _=>v= .bool (decide (∀i,i<L.n-> -1099511627776<=L.f i/\L.f i<=1099511627776))):=by
 obtain⟨le,li,lr,ll⟩:=hL
 refine Afq.call rfl (Nat.le_refl _) ?_
 unfold a51
 (refine Aj ?_)
 refine wp_loop (fun s:Nat=>[(0,.slice L.b L.n L.c),(3,.int .i64 s)]) (fun s h1=>Quiet h.next h h1/\s<=L.n/\∀i,i<s-> -1099511627776<=L.f i/\L.f i<=1099511627776) (fun s=>L.n - s) 0 ⟨rfl,rfl,trivial⟩ ⟨AO,by omega,fun i hi=>by omega⟩ ?_
 rintro s g h1 ⟨q,hs,hp⟩ K hK
 have hnx:=q.next
 (focus((try with_reducible apply wpC.to);(repeat'((conv=>whnf);first|refine Ak ?_|(apply Fork.mk<;>(intro _;try(exfalso;omega)))|fail));all_goals((conv=>whnf);try with_reducible apply At.mk)))
 ·(refine Au ?_)
  exact Ch rfl fun k=>by have:=k s Al;omega
 ·(refine Au ?_)
  exact Ch rfl fun k=>by have:=k s Al;omega
 ·refine hK (s+1) _ _ ⟨rfl,AK rfl Al,trivial⟩ ⟨AO,by omega,fun i hi=>?_⟩ Al
  by_cases e:i=s
  ·subst e;omega
  ·exact hp i Al
 ·(refine Au ?_)
  exact CI rfl fun i hi=>hp i Al

set_option maxHeartbeats 1000000 in
theorem Sg {h:H}{T:Tab}{t:Er}{m:Nat}(hm:m<=h.next) (hT:T.Ok m h) (hv:T.Valid) (ht:t.Ok m h):
 AW Tryz.prog 16 h.next h [.agg ⟨T.cells⟩,.agg ⟨t.cells⟩] (fun v _=>∃e,v= .int .i64 e/\(e=0↔MU T t)):=by
 obtain⟨te,ti,tr,tl⟩:=hT
 have hT:T.Ok m h:=⟨te,ti,tr,tl⟩
 obtain⟨⟨ae,ai,ar,al⟩,⟨ce,ci,cr,cl⟩⟩:=ht
 have hA:t.A.Ok m h:=⟨ae,ai,ar,al⟩
 have hC:t.C.Ok m h:=⟨ce,ci,cr,cl⟩
 refine Agl.call rfl (Nat.le_refl _) ?_
 unfold a16
 (refine Aj ?_)
 apply Dw
 focus(exact Ao)
 focus(exact AQ)
 focus exact Qo (m:=m) Ah (hT.same Aq (Nat.le_refl _)) hv
 intro h1 q1 hn1
 (focus((try with_reducible apply wpC.to);(repeat'((conv=>whnf);first|refine Ak ?_|(apply Fork.mk<;>(intro _;try(exfalso;omega)))|fail));all_goals((conv=>whnf);try with_reducible apply At.mk)))
 ·(refine Au ?_)
  exact⟨15,rfl,by omega,fun k=>by have:=k.an;omega⟩
 ·(refine Au ?_)
  exact⟨15,rfl,by omega,fun k=>by have:=k.cn;omega⟩
 apply Fp
 focus(exact Ao)
 focus(exact AQ)
 focus exact Qn (L:=t.A) (m:=m) Ah (hA.same Aq (Nat.le_refl _))
 rotate_left
 ·intro hb h2 q2 hn2
  (refine Aj ?_)
  (refine Au ?_)
  exact⟨3,rfl,by omega,fun k=>absurd k.aw (of_decide_eq_false hb)⟩
 intro hb h2 q2 hn2
 (refine Aj ?_)
 apply Fp
 focus(exact Ao)
 focus(exact AQ)
 focus exact Qn (L:=t.C) (m:=m) Ah (hC.same Aq (Nat.le_refl _))
 rotate_left
 ·intro hc h3 q3 Lj
  (refine Aj ?_)
  (refine Au ?_)
  exact⟨3,rfl,by omega,fun k=>absurd k.cw (of_decide_eq_false hc)⟩
 intro hc h3 q3 Lj
 have hb:=of_decide_eq_true hb
 have hc:=of_decide_eq_true hc
 (refine Aj ?_)
 refine wp_loop (fun s:Nat=>[(2,.pointer (some ⟨h.next,0,none⟩)),(3,.pointer (some ⟨h.next+1,0,none⟩)),(5,.int .i64 s)])
  (fun s h4=>Same h.next h h4/\h.next+2<=h4.next/\s<=t.A.n/\h4.get h.next=some (.cells T.cells 31)/\h4.get (h.next+1)=some (.cells t.cells 39)/\∀i,i<s->T.Ue<=t.A.f i/\t.A.f i<=T.TT) (fun s=>t.A.n - s) 0
  ⟨rfl,rfl,rfl,trivial⟩ ⟨Aq,Ah,by omega,Aa,Aa,fun i hi=>by omega⟩ ?_
 rintro s g h4 ⟨sm,Ng,hs,g1,g2,hbi⟩ K hK
 have ai4:Ints h4 t.A.a t.A.n t.A.f:=ai.same (sm.mono hm) ar
 (focus((try with_reducible apply wpC.to);(repeat'((conv=>whnf);first|refine Ak ?_|(apply Fork.mk<;>(intro _;try(exfalso;omega)))|fail));all_goals((conv=>whnf);try with_reducible apply At.mk)))
 ·(refine Au ?_)
  exact⟨20,rfl,by omega,fun k=>by have:=k.b s Al;omega⟩
 ·(refine Au ?_)
  exact⟨20,rfl,by omega,fun k=>by have:=k.b s Al;omega⟩
 ·refine hK (s+1) _ _ ⟨rfl,rfl,AK rfl Al,trivial⟩ ⟨Aq,Ah,by omega,Aa,Aa,fun i hi=>?_⟩ Al
  by_cases e:i=s
  ·subst e;omega
  ·exact hbi i Al
 have:s=t.A.n:=by omega
 subst this
 clear hK K
 refine wp_loop (fun u:Nat=>[(2,.pointer (some ⟨h.next,0,none⟩)),(3,.pointer (some ⟨h.next+1,0,none⟩)),(6,.int .i64 u)])
  (fun u h5=>Same h.next h h5/\h.next+2<=h5.next/\u<=T.n/\h5.get h.next=some (.cells T.cells 31)/\h5.get (h.next+1)=some (.cells t.cells 39)/\∀i,i<u->(T.f i).lo<=t.A.f (T.f i).tank.toNat+t.C.f (T.f i).hull.toNat/\t.A.f (T.f i).tank.toNat+t.C.f (T.f i).hull.toNat<=(T.f i).hi) (fun u=>T.n - u) 0
  ⟨rfl,rfl,rfl,trivial⟩ ⟨Aq,Ah,by omega,Aa,Aa,fun i hi=>by omega⟩ ?_
 clear g1 g2 ai4 Ng sm g
 rintro u g h5 ⟨sm,N4,hu,g1,g2,hti⟩ K hK
 have ai5:Ints h5 t.A.a t.A.n t.A.f:=ai.same (sm.mono hm) ar
 have ci5:Ints h5 t.C.a t.C.n t.C.f:=ci.same (sm.mono hm) cr
 have ti5:JP h5 T.a T.n 4 (fun i=>(T.f i).cells):=ti.same (sm.mono hm) tr
 have hfu:u<T.n->0<=(T.f u).tank/\(T.f u).tank<T.tanks/\0<=(T.f u).hull/\(T.f u).hull<T.hulls:=fun h=>by have:=hv.f u h;omega
 have hbu:u<T.n->(-1099511627776<=t.A.f (T.f u).tank.toNat/\t.A.f (T.f u).tank.toNat<=1099511627776)/\(-1099511627776<=t.C.f (T.f u).hull.toNat/\t.C.f (T.f u).hull.toNat<=1099511627776):=fun h=>⟨hb _ (by have:=hfu h;omega),hc _ (by have:=hfu h;omega)⟩
 (focus((try with_reducible apply wpC.to);(repeat'((conv=>whnf);first|refine Ak ?_|(apply Fork.mk<;>(intro _;try(exfalso;omega)))|fail));all_goals((conv=>whnf);try with_reducible apply At.mk)))
 ·(refine Au ?_)
  exact⟨20,rfl,by omega,fun k=>by have:=k.t u Al;omega⟩
 ·(refine Au ?_)
  exact⟨20,rfl,by omega,fun k=>by have:=k.t u Al;omega⟩
 ·refine hK (u+1) _ _ ⟨rfl,rfl,AK rfl Al,trivial⟩ ⟨Aq,Ah,by omega,Aa,Aa,fun i hi=>?_⟩ Al
  by_cases e:i=u
  ·subst e;omega
  ·exact hti i Al
 ·(refine Au ?_)
  exact⟨0,rfl,fun _=>⟨by omega,by omega,hb,hc,hbi,fun i hi=>hti i Al⟩,fun _=>rfl⟩

end AE.Tryz.Agr

/- Walks of agree: sums of rings. -/
namespace AE.Tryz.Agr
set_option linter.unusedSimpArgs false
open Go AE AE.Ag AgreeS Go.Proofs
set_option maxRecDepth 100000

def sumTo (f:Nat->Int):Nat->Int
 |0=>0
 |k+1=>sumTo f k+f k
theorem Ql {f:Nat->Int}:∀k,(∀i,i<k-> -1000000<=f i/\f i<=1000000)-> -(k*1000000)<=sumTo f k/\sumTo f k<=k*1000000
 |0,_=>by simp[sumTo]
 | k+1,h=>by
   have:=Ql k fun i hi=>h i Al
   have:=h k Al
   simp only[sumTo]
   omega

structure dh (T:Tab) (L:G9) (nd:Nat->Nat) (ws:Nat->Int):Prop where
 n2:2<=L.n
 n:L.n<=20
 nod:∀i,i<L.n->L.f i=(nd i:Int)
 lt:∀i,i<L.n->nd i<T.toTable.many
 wei:∀i,i+1<L.n->BO T.toTable (nd i) (nd (i+1))=some (ws i)
 back:nd 0=nd (L.n - 1)
def dR (S:Int):Value:=.tuple #[.int .i64 (if S<0 then S else 0),.int .i64 (if S<0 then 0 else 14)]

end AE.Tryz.Agr
