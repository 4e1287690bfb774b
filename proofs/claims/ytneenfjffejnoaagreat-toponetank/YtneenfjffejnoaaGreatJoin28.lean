/- Walks and plain laws: TAgreeG, TAgreeH, TAgreeI. -/
import Derived.Test.YtneenfjffejnoaaGreatAEBy2
import Derived.Test.YtneenfjffejnoaaGreatJoin40
import Derived.Test.YtneenfjffejnoaaGreatAEthree
set_option linter.unusedVariables false
set_option linter.unusedSimpArgs false
set_option linter.unusedSectionVars false

/- Walks of agree: heights. -/
namespace AE.Tryz.Agr
open Go AE AE.Ag AgreeS Go.Proofs
set_option maxRecDepth 100000

def CS (r mr:Nat) (x:St):List Value:=[.pointer (some ⟨r,0,none⟩)]++CR x.known++[.map (some mr),.int .i64 x.last]

theorem bS (r mr:Nat) (x:St):(CS r mr x).length=29:=by simp[CS,Ea]
theorem bR {h':H}{hr r mr t:Nat}{x:St}{e:TypeId}(ht:t<13) (hg:h'.get hr=some (.cells (CS r mr x) e)):h'.Bu ⟨hr,0+1+t*2,none⟩ 2=some (Db (x.known t)):=
 CP hg (NG x.known ht [.pointer (some ⟨r,0,none⟩)] [.map (some mr),.int .i64 x.last] (by simp))
theorem YS {h':H}{hr r mr:Nat}{x:St}{e:TypeId}(hg:h'.get hr=some (.cells (CS r mr x) e)):h'.Bu ⟨hr,0+27,none⟩ 1=some [.map (some mr)]:=by
 refine CP hg ?_
 have:=OZ (p:=[.pointer (some ⟨r,0,none⟩)]++CR x.known) (m:=[.map (some mr)]) (s:=[.int .i64 x.last]) (a:=0+27) (n:=1) (by simp[Ea]) rfl
 simpa[CS]using this
theorem oE {h':H}{hr r mr:Nat}{x:St}{e:TypeId}(hg:h'.get hr=some (.cells (CS r mr x) e)):h'.Bu ⟨hr,0+28,none⟩ 1=some [.int .i64 x.last]:=by
 refine CP hg ?_
 have:=OZ (p:=[.pointer (some ⟨r,0,none⟩)]++CR x.known++[.map (some mr)]) (m:=[.int .i64 x.last]) (s:=[]) (a:=0+28) (n:=1) (by simp[Ea]) rfl
 simpa[CS]using this
theorem vO (r mr:Nat) (x:St) {t:Nat}(v:Option Int) (ht:t<13):splice (CS r mr x) (0+1+t*2) (Db v)=CS r mr {x with known:=upd x.known t v}:=
 NF x.known v ht [.pointer (some ⟨r,0,none⟩)] [.map (some mr),.int .i64 x.last] (by simp)
theorem PN (r mr:Nat) (x:St) (l:Int):splice (CS r mr x) (0+28) [.int .i64 l]=CS r mr {x with last:=l}:=by
 have:=RY (p:=[.pointer (some ⟨r,0,none⟩)]++CR x.known++[.map (some mr)]) (m:=[.int .i64 x.last]) (m':=[.int .i64 l]) (s:=[]) (a:=0+28) (by simp[Ea]) rfl
 simpa[CS]using this
theorem YT (r mr:Nat) (x:St) {off n:Nat}(h:off+n<=29):Nat.ble (off+n) (CS r mr x).length=true:=Nat.ble_eq_true_of_le (by rw[bS];exact h)
theorem Nh (r mr:Nat) (k:Known) (b b':List (Nat × Nat)) (l:Int):CS r mr ⟨k,b,l⟩=CS r mr ⟨k,b',l⟩:=rfl
attribute [irreducible] CS

set_option maxHeartbeats 2000000 in
theorem Aba {h:H}{T:Tab}{r a:Nat}{ai:Int}{B:Net}{e:TypeId}(hv:T.Valid) (hr:r<h.next) (hB:ZD T.toTable.many B) (hg:h.get r=some (.cells (T.head++B6 B) e)) (ha:a<T.toTable.many) (hai:ai=(a:Int)):
 AW Tryz.prog 102 h.next h [.pointer (some ⟨r,0,none⟩),.int .i64 ai] (fun v h'=>∃hr mr e',v= .tuple #[.pointer (some ⟨hr,0,none⟩),.bool (decide ((AgreeS.found B T.toTable.many a).last<0))]/\h.next<=hr/\hr<h'.next/\h.next<=mr/\mr<h'.next/\hr≠mr/\
  h'.get hr=some (.cells (CS r mr (AgreeS.found B T.toTable.many a)) e')/\h'.get mr=some (.map (ents (AgreeS.found B T.toTable.many a).before 0) (AgreeS.found B T.toTable.many a).before.length)):=by
 subst hai
 have hok:=hv.ok
 have hmm:=hok.many
 obtain⟨n24,t1,t2,h1,h2,hb,hf⟩:=hv
 obtain⟨N,hN,hNi⟩:∃N,N=T.toTable.many/\(N:Int)=1+T.tanks+T.hulls:=⟨_,rfl,by simp only[Table.many,Tab.toTable];omega⟩
 rw[<-hN]at hB ha hmm⊢
 refine oL.call rfl Al ?_
 unfold Ai7
 (refine Aj ?_)
 refine DT.mk (v:=.map (some (h.next+3))) rfl ?_
 (refine Aj ?_)
 have hst:splice ([.pointer (some ⟨r,0,none⟩)]++CR (fun _=>none)++[.map (some (h.next+3)),.int .i64 (-1)]) (0+1+a*2) [.bool true,.int .i64 0]=CS r (h.next+3) (AgreeS.start a):=by
  have:=NF (fun _=>none) (some 0) (t:=a) (a:=0+1+a*2) Al [.pointer (some ⟨r,0,none⟩)] [.map (some (h.next+3)),.int .i64 (-1)] (by simp)
  have e1:(AgreeS.start a).known=upd (fun _=>none) a (some 0):=rfl
  have e2:(AgreeS.start a).last= -1:=rfl
  simpa[CS,e1,e2,Db]using this
 refine Xq.mk (r:=h.next+5) (off:=0+1+a*2) (c':=CS r (h.next+3) (AgreeS.start a)) rfl Al Aa rfl rfl (Nat.ble_eq_true_of_le ?_) ?_ ?_
 ·simp only[List.length_cons,List.length_nil];omega
 ·refine Nf ((congrArg (fun l=>splice l (0+1+a*2) [.bool true,.int .i64 0]) (?_:_=[.pointer (some ⟨r,0,none⟩)]++CR (fun _=>none)++[.map (some (h.next+3)),.int .i64 (-1)])).trans hst)
  kernel_rfl
 (refine Aj ?_)
 refine wp_loop (fun s:Nat=>[(0,.pointer (some ⟨r,0,none⟩)),(6,.pointer (some ⟨h.next+6,0,none⟩)),(23,.int .i64 (1+T.tanks+T.hulls)),(24,.int .i64 s)])
  (fun s h1=>h1.get (h.next+5)=some (.cells (CS r (h.next+3) (passes B s (AgreeS.start a))) 192)/\h1.get (h.next+3)=some (.map (ents (passes B s (AgreeS.start a)).before 0) (passes B s (AgreeS.start a)).before.length)/\
   h1.get (h.next+6)=some (.cells [.pointer (some ⟨h.next+5,0,none⟩)] 99)/\h1.get r=some (.cells (T.head++B6 B) e)/\h.next+7<=h1.next/\s<=N) (fun s=>N - s) 0 ⟨rfl,rfl,rfl,rfl,trivial⟩ ⟨Aa,Aa,Aa,?_,Ah,by omega⟩ ?_
 ·(with_reducible apply HB)
  (exact Aa)
 rintro s g h1 ⟨g1,g2,g3,g4,hn,hs⟩ K hK
 generalize hx:passes B s (AgreeS.start a)=x at g1 g2
 (focus((try with_reducible apply wpC.to);(repeat'((conv=>whnf);first|refine Ak ?_|(apply Fork.mk<;>(intro _;try(exfalso;omega)))|fail));all_goals((conv=>whnf);try with_reducible apply At.mk)))
 ·refine Xq.mk (r:=h.next+5) (off:=0+28) (c':=CS r (h.next+3) {x with last:= -1}) rfl Al Aa rfl rfl (YT _ _ _ Al) (Nf (PN _ _ _ _)) ?_
  (refine Aj ?_)
  apply Ar
  focus(exact Ao)
  focus omega
  focus exact rJ
  rintro _ h2 ⟨q,rfl,hq1,hq2,hgq⟩ qu hn2
  (refine Aj ?_)
  refine Dq (l:=[(0,.pointer (some ⟨r,0,none⟩)),(6,.pointer (some ⟨h.next+6,0,none⟩)),(23,.int .i64 (1+T.tanks+T.hulls)),(24,.int .i64 s),(30,.func (.func 282) ⟨[]⟩ ⟨[.pointer (some ⟨q,0,none⟩)]⟩)]) ⟨rfl,rfl,rfl,rfl,rfl,trivial⟩ fun g'=>?_
  apply IK
  focus exact rfl
  focus(exact Ao)
  focus(exact Jk)
  intro L0 hL0
  generalize hx0:({x with last:= -1}:St)=x0
  have hb0:x0.before=x.before:=by rw[<-hx0]
  refine⟨_,cE (q:=q) (r:=r) (hd:=T.head) (e:=e) (B:=B) Ah Aa T.HR ?_ (fun f t m hm=>by have:=(hB f t m hm).2.2;unfold M at this;omega)
   (fun l h3=>h3.get (h.next+5)=some (.cells (CS r (h.next+3) (l.foldl relax x0)) 192)/\h3.get (h.next+3)=some (.map (ents (l.foldl relax x0).before 0) (l.foldl relax x0).before.length)/\
    h3.get (h.next+6)=some (.cells [.pointer (some ⟨h.next+5,0,none⟩)] 99)/\h3.get r=some (.cells (T.head++B6 B) e)/\h3.get h2.next=some (.loop L0)/\h2.next<h3.next) ?_ ?_ ⟨?_,?_,?_,?_,?_,?_⟩,?_⟩
  ·(exact Aa)
  ·rintro l h3 h4 ⟨k1,k2,k3,k4,k5,k6⟩ qq
   have:=qq.next
   exact⟨Aa,Aa,Aa,Aa,Aa,by omega⟩
  ·rintro l ⟨f,t,m⟩ rest h3 hsplit ⟨k1,k2,k3,k4,k5,k6⟩ hle
   have hmem:(⟨f,t,m⟩:Step)∈steps B:=by rw[<-hsplit];simp
   obtain⟨yJ,nW,hBm⟩:=Iz.1 hmem
   have yJ:f<13:=yJ
   have nW:t<13:=nW
   obtain⟨-, -,hm1,hm2⟩:=hB f t m hBm
   have Aeo:(l++[(⟨f,t,m⟩:Step)]).foldl relax x0=relax (l.foldl relax x0) ⟨f,t,m⟩:=by rw[List.foldl_append];rfl
   rw[Aeo]
   generalize hyy:l.foldl relax x0=y at k1 k2⊢
   have hsm:Small (s*169+169) y.known:=by
    have h1:Small (0+s*169) (passes B s (AgreeS.start a)).known:=Ob hB s 0 _ (XK a)
    rw[hx]at h1
    have h2:Small (0+s*169+l.length) (l.foldl relax x0).known:=by
     rw[<-hx0]
     exact Small.fold hB l _ _ (fun u hu=>by rw[<-hsplit];simp[hu]) h1
    rw[hyy]at h2
    refine h2.mono ?_
    have:=UA B
    rw[<-hsplit]at this
    simp at this
    omega
   obtain⟨b1,c1,hb1,hc1,hk1⟩:∃b1 c1,Db (y.known f)=[.bool b1,.int .i64 c1]/\(-10000000000<=c1/\c1<=10000000000)/\y.known f=(if b1 then some c1 else none):=by
    cases e:y.known f with
    |none=>exact⟨false,0,rfl,by omega,rfl⟩
    | some c=>
      have:=hsm _ _ e
      have hsn:((s*169+169:Nat):Int)<=10000:=by omega
      have:((s*169+169:Nat):Int) *M<=10000*M:=Int.mul_le_mul_of_nonneg_right hsn (by simp[M])
      refine⟨true,c,rfl,?_,rfl⟩
      unfold M at this
      unfold M at*
      omega
   obtain⟨b2,c2,hb2,hk2⟩:∃b2 c2,Db (y.known t)=[.bool b2,.int .i64 c2]/\y.known t=(if b2 then some c2 else none):=by
    cases e:y.known t with
    |none=>exact⟨false,0,rfl,rfl⟩
    |some c=>exact⟨true,c,rfl,rfl⟩
   unfold M at hm1 hm2
   refine YA.call oL.mixed (A:=Xk) (B:=Xj) (L:=L0) (by rw[hL0];exact Ab2) (by rw[hL0];exact Ab1) k5 Al Al (by rw[hL0];exact rfl) (by rw[hL0];exact rfl) ?_
   unfold YA Xk
   refine Dq (l:=[(6,.pointer (some ⟨h.next+6,0,none⟩)),(31,.agg ⟨[.int .i64 f,.int .i64 t,.int .i64 m]⟩)]) ⟨by rw[hL0];exact rfl,by rw[hL0];exact rfl,trivial⟩ fun g''=>?_
   (refine Aj ?_)
   refine⟨rfl,L0,Aa,by rw[hL0];exact rfl,?_⟩
   unfold Xj
   have hL1:ended (busy L0) .none=L0:=by rw[hL0];exact rfl
   have fin:∀z:St,z=relax y ⟨f,t,m⟩->∀h4:H,h4.get (h.next+5)=some (.cells (CS r (h.next+3) z) 192)->h4.get (h.next+3)=some (.map (ents z.before 0) z.before.length)->h4.get (h.next+6)=some (.cells [.pointer (some ⟨h.next+5,0,none⟩)] 99)->
    h4.get r=some (.cells (T.head++B6 B) e)->h4.get h2.next=some (.loop (busy L0))->h2.next<h4.next->∃p L2,roundEnd .normal=some p/\h4.get h2.next=some (.loop L2)/\Value.bool (M8 p)= .bool true/\
     (h4.put h2.next (.loop (ended L2 p))).get (h.next+5)=some (.cells (CS r (h.next+3) (relax y ⟨f,t,m⟩)) 192)/\(h4.put h2.next (.loop (ended L2 p))).get (h.next+3)=some (.map (ents (relax y ⟨f,t,m⟩).before 0) (relax y ⟨f,t,m⟩).before.length)/\
     (h4.put h2.next (.loop (ended L2 p))).get (h.next+6)=some (.cells [.pointer (some ⟨h.next+5,0,none⟩)] 99)/\(h4.put h2.next (.loop (ended L2 p))).get r=some (.cells (T.head++B6 B) e)/\(h4.put h2.next (.loop (ended L2 p))).get h2.next=some (.loop L0)/\h2.next<(h4.put h2.next (.loop (ended L2 p))).next:=by
    intro z hz h4 a1 a2 a3 a4 a5 a6
    subst hz
    refine⟨.none,_,rfl,a5,rfl,?_⟩
    rw[hL1]
    exact⟨Aa,Aa,Aa,Aa,Aa,Ah⟩
   (refine Aj ?_)
   refine Mi.mk (l:=[.bool b1,.int .i64 c1]) (hb1▸bR yJ Aa) Is.rfl ?_
   (refine Aj ?_)
   refine Mi.mk (l:=[.bool b2,.int .i64 c2]) (hb2▸bR nW Aa) Is.rfl ?_
   cases b1 with
   | false=>
     (refine Aj ?_)
     refine fin y (by simp[relax,better,hk1]) _ Aa Aa Aa Aa Aa Ah
   | true=>
     cases b2 with
     | false=>
       (refine Aj ?_)
       refine Xq.mk (r:=h.next+5) (off:=0+1+t*2) (c':=CS r (h.next+3) {y with known:=upd y.known t (some (c1+m))}) rfl Al Aa rfl rfl (YT _ _ _ Al) (Nf (vO r (h.next+3) y (some (c1+m)) nW)) ?_
       (refine Aj ?_)
       refine Ei.mk (YS Aa) rfl ?_
       (refine Aj ?_)
       refine DT.mk (SE (r:=h.next+3) (l:=y.before) (a:=t) (b:=f) rfl rfl rfl rfl Al Aa) ?_
       (refine Aj ?_)
       refine Xq.mk (r:=h.next+5) (off:=0+28) (c':=CS r (h.next+3) ⟨upd y.known t (some (c1+m)),iP y.before t f,t⟩) rfl Al Aa rfl rfl (YT _ _ _ Al) (Nf ((PN _ _ _ _).trans (Nh _ _ _ _ _ _))) ?_
       (refine Aj ?_)
       refine fin ⟨upd y.known t (some (c1+m)),iP y.before t f,t⟩ ?_ _ Aa Aa Aa Aa Aa Ah
       have bN:better y.known ⟨f,t,m⟩=true:=by simp[better,hk1,hk2];try omega
       simp[relax,bN,lower,hk1]
     | true=>
       (focus((try with_reducible apply wpC.to);(repeat'((conv=>whnf);first|refine Ak ?_|(apply Fork.mk<;>(intro _;try(exfalso;omega)))|fail));all_goals((conv=>whnf);try with_reducible apply At.mk)))
       ·refine Xq.mk (r:=h.next+5) (off:=0+1+t*2) (c':=CS r (h.next+3) {y with known:=upd y.known t (some (c1+m))}) rfl Al Aa rfl rfl (YT _ _ _ Al) (Nf (vO r (h.next+3) y (some (c1+m)) nW)) ?_
        (refine Aj ?_)
        refine Ei.mk (YS Aa) rfl ?_
        (refine Aj ?_)
        refine DT.mk (SE (r:=h.next+3) (l:=y.before) (a:=t) (b:=f) rfl rfl rfl rfl Al Aa) ?_
        (refine Aj ?_)
        refine Xq.mk (r:=h.next+5) (off:=0+28) (c':=CS r (h.next+3) ⟨upd y.known t (some (c1+m)),iP y.before t f,t⟩) rfl Al Aa rfl rfl (YT _ _ _ Al) (Nf ((PN _ _ _ _).trans (Nh _ _ _ _ _ _))) ?_
        (refine Aj ?_)
        refine fin ⟨upd y.known t (some (c1+m)),iP y.before t f,t⟩ ?_ _ Aa Aa Aa Aa Aa Ah
        have bN:better y.known ⟨f,t,m⟩=true:=by simp[better,hk1,hk2];try omega
        simp[relax,bN,lower,hk1]
       ·have bN:better y.known ⟨f,t,m⟩=false:=by simp[better,hk1,hk2];try omega
        refine fin y (by simp[relax,bN]) _ Aa Aa Aa Aa Aa Ah
  ·rw[List.foldl_nil,<-hx0]
   (exact Aa)
  ·rw[List.foldl_nil,hb0]
   (exact Aa)
  ·(exact Aa)
  ·(exact Aa)
  ·(exact Aa)
  ·(exact Ah)
  ·rintro v h3 ⟨k1,k2,k3,k4,k5,k6⟩ qq
   have Aek:(steps B).foldl relax x0=passes B (s+1) (AgreeS.start a):=by
    rw[JD,hx,pass,hx0]
   rw[Aek]at k1 k2
   refine⟨_,k5,by rw[hL0];simp[EX],?_⟩
   rw[hL0]
   simp only[EX,FU]
   (refine Aj ?_)
   refine hK (s+1) _ _ ⟨rfl,rfl,rfl,AK rfl Al,trivial⟩ ⟨Aa,Aa,Aa,Aa,Ah,by omega⟩ Al
 ·refine Ei.mk (oE Aa) rfl ?_
  have hsN:s=N:=by omega
  have hfx:AgreeS.found B N a=x:=by rw[<-hsN];exact hx
  (focus((try with_reducible apply wpC.to);(repeat'((conv=>whnf);first|refine Ak ?_|(apply Fork.mk<;>(intro _;try(exfalso;omega)))|fail));all_goals((conv=>whnf);try with_reducible apply At.mk)))
  all_goals(refine Au ?_)
  ·refine⟨h.next+5,h.next+3,192,?_,by omega,Ah,by omega,Ah,by omega,?_,?_⟩<;>rw[hfx]
   ·rw[decide_eq_true Al]
   ·(exact Aa)
   ·(exact Aa)
  ·refine⟨h.next+5,h.next+3,192,?_,by omega,Ah,by omega,Ah,by omega,?_,?_⟩<;>rw[hfx]
   ·rw[decide_eq_false Al]
   ·(exact Aa)
   ·(exact Aa)

end AE.Tryz.Agr

/- Walks of agree: heights from the floor, one height. -/
namespace AE.Tryz.Agr
open Go AE AE.Ag AgreeS Go.Proofs
set_option maxRecDepth 100000

theorem Ahg {h:H}{hr r mr t:Nat}{ti:Int}{x:St}{e:TypeId}(ht:t<13) (hti:ti=(t:Int)) (hg:h.get hr=some (.cells (CS r mr x) e)):AW Tryz.prog 103 h.next h [.pointer (some ⟨hr,0,none⟩),.int .i64 ti] (fun v _=>v= .int .i64 (hts x.known t)):=by
 subst hti
 have hx:∀h1:H,h1.get hr=some (.cells (CS r mr x) e)->h1.Bu ⟨hr,0+1+t*2+1,none⟩ 1=some [.int .i64 (hts x.known t)]:=fun h1 h1g=>by
  have h2:=bR ht h1g
  simp only[H.Bu,h1g,Option.bind_some,Cr]at h2⊢
  refine MJ h2 ?_
  unfold hts
  cases x.known t<;>rfl
 refine Aa7.call rfl (Nat.le_refl _) ?_
 unfold Ai6
 (refine Aj ?_)
 refine Ei.mk (hx _ Aa) rfl ?_
 (refine Aj ?_)
 (refine Au ?_)
 rfl

def vk (h0:H) (r:Nat) (x:St) (hr:Nat) (h':H):Prop:=∃mr e',h0.next<=hr/\hr<h'.next/\h0.next<=mr/\mr<h'.next/\hr≠mr/\h'.get hr=some (.cells (CS r mr x) e')/\h'.get mr=some (.map (ents x.before 0) x.before.length)

theorem MH {h:H}{T:Tab}{r:Nat}{B:Net}{e:TypeId}(hv:T.Valid) (hr:r<h.next) (hB:ZD T.toTable.many B) (hg:h.get r=some (.cells (T.head++B6 B) e)):
 AW Tryz.prog 40 h.next h [.pointer (some ⟨r,0,none⟩)] (fun v h'=>∃hr,v= .tuple #[.pointer (some ⟨hr,0,none⟩),.bool (decide ((AgreeS.found B T.toTable.many 0).last<0))]/\vk h r (AgreeS.found B T.toTable.many 0) hr h'):=by
 refine Afz.call rfl (Nat.le_refl _) ?_
 unfold a40
 (refine Aj ?_)
 apply Ar
 focus(exact Ao)
 focus(exact AQ)
 focus exact Aba (a:=0) hv Ah hB Aa (by have:=hv.ok.many;omega) rfl
 rintro _ h1 ⟨hr,mr,e',rfl,a1,a2,a3,a4,a5,a6,a7⟩ q hn
 (refine Aj ?_)
 (refine Au ?_)
 simp only[AY]at a1 a3
 exact⟨hr,rfl,mr,e',by omega,Ah,by omega,Ah,a5,Aa,Aa⟩

end AE.Tryz.Agr

/- Walks of agree: the truth of heights. -/
namespace AE.Tryz.Agr
open Go AE AE.Ag AgreeS Go.Proofs
set_option maxRecDepth 100000

theorem oD {h':H}{hr r mr:Nat}{x:St}{e:TypeId}(hg:h'.get hr=some (.cells (CS r mr x) e)):h'.Bu ⟨hr,0+0,none⟩ 1=some [.pointer (some ⟨r,0,none⟩)]:=by
 refine CP hg ?_
 unfold CS
 exact OZ (p:=[]) (m:=[.pointer (some ⟨r,0,none⟩)]) (s:=CR x.known++[.map (some mr),.int .i64 x.last]) (a:=0+0) (n:=1) rfl rfl

structure Er where
 A:G9
 C:G9
def Er.cells (x:Er):List Value:=[x.A.val,x.C.val]
structure K1 (T:Tab) (x:Known) (sg:Int) (m:Nat) (t:Er) (h:H):Prop where
 an:(t.A.n:Int)=T.tanks
 cn:(t.C.n:Int)=T.hulls
 af:∀i,i<t.A.n->t.A.f i=sg*hts x (1+i)
 cf:∀j,j<t.C.n->t.C.f j= -(sg*hts x (1+T.tanks.toNat+j))
 ao:t.A.Ok h.next h
 co:t.C.Ok h.next h
 ab:m<=t.A.a.block
 cb:m<=t.C.a.block

set_option maxHeartbeats 1000000 in
theorem RN {h:H}{T:Tab}{hr r mr:Nat}{x:St}{B:Net}{e e':TypeId}{sg:Int}(hv:T.Valid) (hsm:∀v, -(12*AgreeS.M)<=hts x.known v/\hts x.known v<=12*AgreeS.M) (hsg:sg=1\/sg= -1)
 (hhr:hr<h.next) (hr':r<h.next) (hgh:h.get hr=some (.cells (CS r mr x) e')) (hg:h.get r=some (.cells (T.head++B6 B) e)):
 AW Tryz.prog 41 h.next h [.pointer (some ⟨hr,0,none⟩),.int .i64 sg] (fun v h'=>∃t:Er,v= .agg ⟨t.cells⟩/\K1 T x.known sg h.next t h'):=by
 obtain⟨n24,t1,t2,h1,h2,hb,hf⟩:=hv
 have hsmall:∀v, -12000000<=sg*hts x.known v/\sg*hts x.known v<=12000000:=fun v=>by
  have:=hsm v
  unfold AgreeS.M at this
  rcases hsg with rfl|rfl<;>omega
 refine Afy.call rfl (Nat.le_refl _) ?_
 unfold a41
 (refine Aj ?_)
 refine Ei.mk (oD Aa) rfl ?_
 (refine Aj ?_)
 obtain⟨N,hN⟩:∃N:Nat,(N:Int)=1+T.tanks+T.hulls:=⟨(1+T.tanks+T.hulls).toNat,by omega⟩
 rw[<-hN]
 apply Hr (a:=N) (b:=N)
 focus exact rfl
 focus exact rfl
 focus omega
 focus omega
 (refine Aj ?_)
 have hz:HX [Value.int .i64 0] N=A0 (fun i=>if i<0 then sg*hts x.known i else 0) N:=by rw[J5];unfold A0;rfl
 rw[hz]
 refine wp_loop (fun s:Nat=>[(0,.pointer (some ⟨hr,0,none⟩)),(1,.int .i64 sg),(4,.pointer (some ⟨h.next,0,none⟩)),(5,.slice (some ⟨h.next+8,0,none⟩) N N),(19,.int .i64 N),(20,.int .i64 s)])
  (fun s h1=>h1.get (h.next+8)=some (.cells (A0 (fun i=>if i<s then sg*hts x.known i else 0) N) 2)/\Same h.next h h1/\h.next+9<=h1.next/\s<=N/\h1.get h.next=some (.cells [.slice none 0 0,.slice none 0 0] 39)) (fun s=>N - s) 0 ⟨rfl,rfl,rfl,rfl,rfl,rfl,trivial⟩ ⟨Aa,Aq,Ah,by omega,Aa⟩ ?_
 rintro s g h1 ⟨g1,sm,hn,hs,g2⟩ K hK
 (focus((try with_reducible apply wpC.to);(repeat'((conv=>whnf);first|refine Ak ?_|(apply Fork.mk<;>(intro _;try(exfalso;omega)))|fail));all_goals((conv=>whnf);try with_reducible apply At.mk)))
 ·apply Dw
  focus(exact Ao)
  focus(exact AQ)
  focus exact Ahg (t:=s) Al rfl Aa
  intro h2 q2 hn2
  have hss:=hsmall s
  (refine Aj ?_)
  have hst:splice (A0 (fun i=>if i<s then sg*hts x.known i else 0) N) (0+s*1) [.int .i64 (sg*hts x.known s)]=A0 (fun i=>if i<s+1 then sg*hts x.known i else 0) N:=by
   rw[Gn _ _ (i:=s) Al Al]
   congr 1
   funext j
   simp only[F7]
   by_cases hj:j=s
   ·subst hj;rw[if_pos rfl,if_pos Al]
   ·rw[if_neg hj]
    by_cases hj2:j<s
    ·rw[if_pos hj2,if_pos Al]
    ·rw[if_neg hj2,if_neg Al]
  refine Xq.mk (r:=h.next+8) (off:=0+s*1) (c':=A0 (fun i=>if i<s+1 then sg*hts x.known i else 0) N) rfl Al Aa rfl rfl (Nat.ble_eq_true_of_le (by rw[EL];omega)) (Nf hst) ?_
  (refine Aj ?_)
  refine hK (s+1) _ _ ⟨rfl,rfl,rfl,rfl,rfl,AK rfl Al,trivial⟩ ⟨Aa,Aq,Ah,by omega,Aa⟩ Al
 ·have hsN:s=N:=by omega
  subst hsN
  refine Ei.mk (oD Aa) rfl ?_
  (refine Aj ?_)
  apply Hr (a:=T.tanks.toNat) (b:=T.tanks.toNat)
  focus exact AK rfl Al
  focus exact AK rfl Al
  focus omega
  focus omega
  (refine Aj ?_)
  have hsn:s=1+T.tanks.toNat+T.hulls.toNat:=by omega
  have hI:∀h4:H,h4.get (h.next+8)=some (.cells (A0 (fun i=>if i<s then sg*hts x.known i else 0) s) 2)->Ints h4 ⟨h.next+8,0,none⟩ s (fun i=>sg*hts x.known i):=fun h4 hg4 i hi=>by
   have:=JH hg4 i hi
   rwa [if_pos hi]at this
  apply X0 (a:=⟨h.next+8,0,none⟩) (n:=s) (c:=s) (l:=1)
  focus exact rfl
  focus exact rfl
  focus exact rfl
  focus omega
  focus omega
  focus omega
  focus(unfold far;omega)
  (refine Aj ?_)
  apply rZ (r:=h1.next+9) (n:=T.tanks.toNat) (m:=s - 1) (f:=fun i=>sg*hts x.known (1+i))
  case hd=>exact rfl
  case hs=>exact rfl
  case hi=>exact(hI _ Aa).shift 1
  case hn=>omega
  case hnm=>omega
  case hget=>(exact Aa)
  case hlen=>rw[Lx];simp
  case hlo=>omega
  case qL=>unfold far;omega
  case hfs=>unfold far;omega
  (refine Aj ?_)
  refine Ei.mk (oD Aa) rfl ?_
  (refine Aj ?_)
  apply X0 (a:=⟨h.next+8,0,none⟩) (n:=s) (c:=s) (l:=1+T.tanks.toNat)
  focus exact rfl
  focus exact AK rfl Al
  focus exact rfl
  focus omega
  focus omega
  focus omega
  focus(unfold far;omega)
  (refine Aj ?_)
  rw[show s - (1+T.tanks.toNat)=T.hulls.toNat by omega]
  refine wp_loop (fun u:Nat=>[(4,.pointer (some ⟨h.next,0,none⟩)),(7,.pointer (some ⟨h1.next+11,0,none⟩)),(57,.slice (some (BI ⟨h.next+8,0,none⟩ ((1+T.tanks.toNat) *1))) T.hulls.toNat T.hulls.toNat),(58,.int .i64 (T.hulls.toNat:Int)),(59,.int .i64 u)])
   (fun u h2=>h2.get (h.next+8)=some (.cells (A0 (fun i=>if i<s then sg*hts x.known i else 0) s) 2)/\h2.get (h1.next+9)=some (.cells (A0 (fun i=>sg*hts x.known (1+i)) T.tanks.toNat) 2)/\
    h2.get h.next=some (.cells [.slice none 0 0,.slice none 0 0] 39)/\h1.next+18<=h2.next/\u<=T.hulls.toNat/\
    ∃v,h2.get (h1.next+11)=some (.cells [.slice (some ⟨h1.next+9,0,none⟩) T.tanks.toNat T.tanks.toNat,.slice v u 0] 39)/\Grown (h1.next+12) h2.next h2 2 1 u (rowsOf (fun j=>[.int .i64 (-(sg*hts x.known (1+T.tanks.toNat+j)))]) u) v) (fun u=>T.hulls.toNat - u) 0 ⟨rfl,rfl,rfl,rfl,rfl,trivial⟩
   ⟨Aa,Aa,Aa,Ah,by omega,none,Aa,Grown.nil⟩ ?_
  clear hK K
  rintro u g' h2 ⟨g3,g4,g5,hn2,hu,v,g6,G⟩ K hK
  (focus((try with_reducible apply wpC.to);(repeat'((conv=>whnf);first|refine Ak ?_|(apply Fork.mk<;>(intro _;try(exfalso;omega)))|fail));all_goals((conv=>whnf);try with_reducible apply At.mk)))
  ·refine Ei.mk (((hI _ Aa).shift (1+T.tanks.toNat)).at (m:=u) Al) rfl ?_
   have hss:=hsmall (1+T.tanks.toNat+u)
   (refine Aj ?_)
   apply V9 (b:=h1.next+12) (N:=h2.next) (n:=u) (m:=1) (nc:=[.int .i64 (-(sg*hts x.known (1+T.tanks.toNat+u)))])
   case hsv=>exact rfl
   case G=>exact G.frame (Nat.le_refl _) fun j hj1 hj2=>Aw fun y hy=>by(exact Aa)
   case C=>exact Cells.one Ez (by unfold far;omega) rfl rfl
   case hm=>omega
   case hlo=>omega
   case hb=>omega
   case hN=>omega
   case hsm=>omega
   intro v' j row hj1 hj2 hj3 G'
   (refine Aj ?_)
   refine hK (u+1) _ _ ⟨rfl,rfl,rfl,rfl,AK rfl Al,trivial⟩ ⟨Aa,Aa,Aa,Ah,by omega,v',Aa,?_⟩ Al
   exact G'.frame Ah fun i hi1 hi2=>Aw fun y hy=>by(exact Aa)
  ·have:u=T.hulls.toNat:=by omega
   subst this
   (refine Au ?_)
   obtain⟨a,ha,hE,hb⟩:=G.els (fun _=>rfl)
   refine⟨⟨⟨T.tanks.toNat,fun i=>sg*hts x.known (1+i),some ⟨h1.next+9,0,none⟩,⟨h1.next+9,0,none⟩,T.tanks.toNat⟩,⟨T.hulls.toNat,fun j=> -(sg*hts x.known (1+T.tanks.toNat+j)),v,a,0⟩⟩,rfl,by simp only;omega,by simp only;omega,fun i hi=>rfl,fun j hj=>rfl,?_,?_,by simp only;omega,?_⟩
   ·exact⟨fun _=>rfl,JH (e:=2) Aa,fun _=>by simp only;(exact Ah),by simp only;omega⟩
   ·have hb':0<T.hulls.toNat:=by omega
    have hb:=hb hb'
    refine⟨ha,fun i hi=>?_,fun h0=>by simp only;(exact Ah),by simp only;omega⟩
    have hEi:=hE i hi
    rw[Nat.mul_one]at hEi
    (exact Zq)
   ·have hb:=hb Al
    simp only
    omega

end AE.Tryz.Agr
