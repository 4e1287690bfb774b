/- Walks and plain laws: KClkMf, KClkMg, KClkMh, KClkMi, KClkMj, KClkKeys2, KClkKeys3, KClkSo, KClkSt2, AELit, T12Wa, KClkDa, KClkDb, KClkDc, KClkDd, KClkDe, KClkDg. -/
import Derived.Test.YtbgiemgoafjohaaGreatDoorJoin86
import Derived.Test.YtbgiemgoafjohaaGreatDoorT12Code2
import Derived.Test.YtbgiemgoafjohaaGreatDoorAEthree
import Derived.Test.YtbgiemgoafjohaaGreatDoorJoin80
set_option linter.unusedVariables false
set_option linter.unusedSimpArgs false
set_option linter.unusedSectionVars false

/- Clerk, walked: bill. -/
namespace AE.Tryz
open Go AE Go.Proofs AE.Clerk
set_option maxRecDepth 100000
set_option linter.unusedVariables false

theorem ZH {α:Type}{p q:α->Bool}(h:∀i,q i=true->p i=true):∀l:List α,(l.filter q).length<=(l.filter p).length
 |[]=>Nat.le_refl _
 | x::l=>by
   have ih:=ZH h l
   simp only[List.filter_cons]
   by_cases hq:q x=true
   ·rw[if_pos hq,if_pos (h x hq)];simp only[List.length_cons];omega
   ·rw[if_neg hq];split
    ·simp only[List.length_cons];omega
    ·exact ih
theorem ZG {α:Type}{p q:α->Bool}(h:∀i,q i=true->p i=true) {b:α}(hp:p b=true) (hq:q b=false):∀{l:List α},b∈l->(l.filter q).length<(l.filter p).length
 |[],hb=>by simp at hb
 | x ::l,hb=>by
   have hle:=ZH h l
   simp only[List.filter_cons]
   rcases List.mem_cons.1 hb with rfl|hb
   ·rw[if_neg (by simp[hq]),if_pos hp];simp only[List.length_cons];omega
   ·have ih:=ZG h hp hq hb
    by_cases hq:q x=true
    ·rw[if_pos hq,if_pos (h x hq)];simp only[List.length_cons];omega
    ·rw[if_neg hq];split
     ·simp only[List.length_cons];omega
     ·exact ih
def oE (n:Nat) (seen:List Nat):Nat:=((List.range n).filter fun i=>!decide (i∈seen)).length
theorem eY {n b:Nat}{seen:List Nat}(hb:b<n) (hn:b∉seen):oE n (seen++[b])<oE n seen:=
 ZG (fun i hi=>by simp at hi⊢;exact hi.1) (b:=b) (by simpa using hn) (by simp) (by simpa using hb)
theorem Ta {P:Program}{h:H}{ts:Ts}{r:ResultVar}{v:Value}(e:Ef P h ts r=some v):E1 P h ts [r]=some v:=e
theorem Ga {v:Value}(h:flat v=true) {N:Nat}{J:Al}:In (J.below N) v:=(Bi _ v h).2
theorem Mf {N:Nat}{J:Al}:∀{c:List Value},(∀v∈c,flat v=true)->BH (J.below N) c
 |[],_=>by simp[BH]
 | x::l,h=>by
   simp only[BH]
   exact⟨Ga (h x (by simp)),Mf fun v hv=>h v (by simp[hv])⟩
theorem Sb (m:CU):∀v∈Cq m,flat v=true:=by
 intro v hv
 simp[Cq]at hv
 rcases hv with rfl|rfl|rfl|rfl|rfl|rfl|rfl|rfl|rfl<;>rfl
theorem UD {J:Al}{N:Nat}{rs:List Rn}{i:Nat}:∀e∈JW (Bj rs i),In (J.below N) e.key/\In (J.below N) e.val:=by
 intro e he
 obtain⟨e',he',rfl⟩:=List.mem_map.1 he
 obtain⟨j,r, -, -,rfl⟩:=Hl he'
 exact⟨Ga rfl,Ga rfl⟩
set_option maxHeartbeats 4000000 in
theorem jh {L:LP}{h:H}{ps:Nat->Nat}{s:St}{t lo at_ p i:Nat}{m:CU}{x:Ln}(a:aM L h ps s t lo p i m) (hx:x.k=5) (hxa:1<=x.a/\x.a<=1000000) (hxm:1<=x.m/\x.m<=1099511627776):
 AW Tryz.prog 201 lo h [CF L.g,CF p,.agg ⟨x.cells⟩,.int .i64 at_] (fun v h'=>LW L h (act x at_ s i m).1 (act x at_ s i m).2 v h'):=by
 have k:=a.k
 obtain⟨o1,o2,o3,o4,o5⟩:=k.ord
 obtain⟨p1,p2,kp⟩:=a.row
 have hlo:=a.lo
 have kg:=k.g
 have kc:h.get L.g2=some (.map ((Bj s.rs 0).map (EG.ent fun k:Int=>Value.int .i64 k)) s.rs.length):=k.c
 have ko:h.get L.g3=some (.map ((Fz s.rs 0).map (EG.ent fun k:Int=>Value.int .i64 k)) s.rs.length):=k.o
 have b3:=a.jE
 have ht:=a.t60
 obtain⟨w1,w2,w3,w4,w5,w6,w7,w8,w9⟩:=b3
 by_cases h1:m.opn=0
 ·have N5:act x at_ s i m=(s,16):=by
   unfold act;rw[if_neg Af,if_neg Af,if_neg Af,if_pos hx,if_pos h1]
  rw[N5]
  refine ZE.eu (h1:=h) (N:=h.next) (v:=.iface 422 (.agg ⟨[.int .i64 16]⟩)) rfl Af (fun J _=>Ga rfl) (Nat.le_refl _) (Nat.le_refl _) (Quiet.refl _ _) (fun r row hr hg=>.inr (.inl ⟨hr,hg⟩)) ⟨⟨ps,k⟩,(show dH 16 _ from .inr (.inr (.inr ⟨by decide,by decide,by decide,by decide,by decide,rfl⟩))),fun q _ _=>rfl,Nat.le_refl _⟩ ?_
  unfold a201 Ln.cells CF
  unfold Cq at kp
  (focus((try with_reducible apply wpC.to);(repeat'((conv=>whnf);first|refine Aw ?_|(apply Fork.mk<;>(intro _;try(exfalso;omega)))|((apply Ak);(focus exact Ae);(focus exact AK);(focus(first|exact D8|exact EP|exact ES|exact Ch|exact Es|exact ER|exact D9|exact Et|exact Ci|exact Cc));first|((apply AH)<;>(intro Am _ _ _;first|exact Bool.noConfusion Am|replace Am:=of_decide_eq_true Am|replace Am:=of_decide_eq_false Am|skip)<;>((try(unfold CP at Am));first|contradiction|(revert Am;intros)))|((apply AG)<;>intro _ _ _ _<;>try contradiction)|(apply AB;intro _ _ _))|refine Em ?_|((apply E8);(focus exact rfl);(focus exact rfl);(focus exact rfl);(focus exact rfl);(all_goals(intro hb;first|(replace hb:=of_decide_eq_true hb)|(replace hb:=of_decide_eq_false hb)));(all_goals(try(exfalso;omega;done)));(all_goals(revert hb;intros)))|refine Dq ?_|((apply D7);(focus exact rfl);(focus exact rfl);(focus exact rfl);(focus exact rfl);(all_goals(intro hb;first|(replace hb:=of_decide_eq_true hb)|(replace hb:=of_decide_eq_false hb)));(all_goals(try contradiction));(all_goals(revert hb;intros)))|refine Dr ?_|refine Dt ?_|fail));all_goals((conv=>whnf);try with_reducible apply At.mk)))
  exact⟨.inr rfl,Ta (Qr rfl),fun r row hr hg=>.inr ((Ac fun y hy=>by(exact Aa):_=h.get r).trans hg)⟩
 ·have N5:act x at_ s i m=(⟨s.BS,s.lost,s.ms.set i {m with billed:=m.billed+m.opn*x.a,opn:=0},s.rs.map (Cy x.m x.a)⟩,0):=by
   unfold act;rw[if_neg Af,if_neg Af,if_neg Af,if_pos hx,if_neg h1]
  rw[N5]
  generalize hm':({m with billed:=m.billed+m.opn*x.a,opn:=0}:CU)=m'
  refine ZE.eu (h1:=(h.put L.g2 (.map (JW (Bj (s.rs.map (Cy x.m x.a)) 0)) s.rs.length)).put p (.cells (Cq m') 130)) (N:=h.next) (v:=.nilIface) rfl Af (fun J _=>Ga rfl) (Nat.le_refl _) (Nat.le_refl _) ((Quiet.put Af Af).trans (Quiet.put Af (by show p<h.next;omega))) (fun r row hr hg=>?_) ?_ ?_
  ·simp only[H.put]at hg
   by_cases h2:r=p
   ·rw[if_pos h2]at hg
    simp only[Option.some.injEq]at hg
    subst hg
    exact Uj hr fun J=>Mf (Sb m')
   ·rw[if_neg h2]at hg
    by_cases h3:r=L.g2
    ·rw[if_pos h3]at hg
     simp only[Option.some.injEq]at hg
     subst hg
     exact Zc hr fun J=>UD
    ·rw[if_neg h3]at hg
     exact .inr (.inl ⟨hr,hg⟩)
  ·have em:m'.no=m.no:=by rw[<-hm']
   refine⟨⟨_,a.k.step a.hm em (by rw[<-hm']) Aa D6 ?_ ?_ (by rw[<-a.hp];(exact Aa)) (fun q h1 h2 h3=>by rw[<-a.hp]at h3;exact Ac fun y hy=>Aa) (Nat.le_refl _)⟩,.inl ⟨rfl,rfl⟩,fun q h1 h2=>Ac fun y hy=>Aa,Nat.le_refl _⟩
   ·dsimp only
    rw[List.length_map]
    (exact Aa)
   ·dsimp only
    rw[List.length_map,RY]
    exact Eq.trans D6 ko
  unfold a201 Ln.cells CF
  unfold Cq at kp
  have hmul:0<=m.opn*x.a/\m.opn*x.a<=60000000:=by
   have e1:=Int.mul_le_mul (show m.opn<=60 by omega) hxa.2 Af Af
   have e2:=Int.mul_nonneg w4.1 (show 0<=x.a by omega)
   omega
  have hnk:=a.ok.rn
  (focus((try with_reducible apply wpC.to);(repeat'((conv=>whnf);first|refine Aw ?_|(apply Fork.mk<;>(intro _;try(exfalso;omega)))|((apply Ak);(focus exact Ae);(focus exact AK);(focus(first|exact D8|exact EP|exact ES|exact Ch|exact Es|exact ER|exact D9|exact Et|exact Ci|exact Cc));first|((apply AH)<;>(intro Am _ _ _;first|exact Bool.noConfusion Am|replace Am:=of_decide_eq_true Am|replace Am:=of_decide_eq_false Am|skip)<;>((try(unfold CP at Am));first|contradiction|(revert Am;intros)))|((apply AG)<;>intro _ _ _ _<;>try contradiction)|(apply AB;intro _ _ _))|refine Em ?_|((apply E8);(focus exact rfl);(focus exact rfl);(focus exact rfl);(focus exact rfl);(all_goals(intro hb;first|(replace hb:=of_decide_eq_true hb)|(replace hb:=of_decide_eq_false hb)));(all_goals(try(exfalso;omega;done)));(all_goals(revert hb;intros)))|refine Dq ?_|((apply D7);(focus exact rfl);(focus exact rfl);(focus exact rfl);(focus exact rfl);(all_goals(intro hb;first|(replace hb:=of_decide_eq_true hb)|(replace hb:=of_decide_eq_false hb)));(all_goals(try contradiction));(all_goals(revert hb;intros)))|refine Dr ?_|refine Dt ?_|fail));all_goals((conv=>whnf);try with_reducible apply At.mk)))
  apply YC (r:=L.g2)
  focus exact rfl
  focus(exact Aa)
  (focus((try with_reducible apply wpC.to);(repeat'((conv=>whnf);first|refine Aw ?_|(apply Fork.mk<;>(intro _;try(exfalso;omega)))|((apply Ak);(focus exact Ae);(focus exact AK);(focus(first|exact D8|exact EP|exact ES|exact Ch|exact Es|exact ER|exact D9|exact Et|exact Ci|exact Cc));first|((apply AH)<;>(intro Am _ _ _;first|exact Bool.noConfusion Am|replace Am:=of_decide_eq_true Am|replace Am:=of_decide_eq_false Am|skip)<;>((try(unfold CP at Am));first|contradiction|(revert Am;intros)))|((apply AG)<;>intro _ _ _ _<;>try contradiction)|(apply AB;intro _ _ _))|refine Em ?_|((apply E8);(focus exact rfl);(focus exact rfl);(focus exact rfl);(focus exact rfl);(all_goals(intro hb;first|(replace hb:=of_decide_eq_true hb)|(replace hb:=of_decide_eq_false hb)));(all_goals(try(exfalso;omega;done)));(all_goals(revert hb;intros)))|refine Dq ?_|((apply D7);(focus exact rfl);(focus exact rfl);(focus exact rfl);(focus exact rfl);(all_goals(intro hb;first|(replace hb:=of_decide_eq_true hb)|(replace hb:=of_decide_eq_false hb)));(all_goals(try contradiction));(all_goals(revert hb;intros)))|refine Dr ?_|refine Dt ?_|fail));all_goals((conv=>whnf);try with_reducible apply At.mk)))
  have hmc:Cq m'=[.int .i64 m.no,.int .i64 m.stage,.int .i64 m.E7,.int .i64 m.runs,.int .i64 0,.int .i64 (m.billed+m.opn*x.a),.int .i64 m.claimed,.int .i64 m.paid,.int .i64 m.loss]:=by rw[<-hm'];rfl
  refine wp_loop (fun _:List Nat=>[(0,.pointer (some ⟨L.g,0,none⟩)),(6,.pointer (some ⟨h.next,0,none⟩)),(44,.pointer (some ⟨h.next+35,0,none⟩))])
   (fun seen h1=>h1.get h.next=some (.cells [.int .i64 x.k,.int .i64 x.m,.int .i64 x.a,.int .i64 x.b] 36)/\h1.get L.g2=some (.map ((Bj (Ih x.m x.a seen s.rs 0) 0).map (EG.ent fun k:Int=>Value.int .i64 k)) s.rs.length)/\h1.get (h.next+35)=some (.iter L.g2 s.rs.length seen s.rs.length)/\h1.get p=some (.cells (Cq m') 130)/\(∀r,r<h.next->r≠L.g2->r≠p->h1.get r=h.get r)/\h.next+36<=h1.next) (fun seen=>oE s.rs.length seen) [] ⟨rfl,rfl,rfl,trivial⟩ ⟨Aa,by rw[Vb];(exact Aa),Aa,by rw[hmc];(exact Aa),fun r h1 h2 h3=>Ac fun y hy=>Aa,Ag⟩ ?_
  rintro seen g' h2 ⟨x0,xc,xi,xp,fr,n2⟩ K hK
  have hbl:∀e∈Bj (Ih x.m x.a seen s.rs 0) 0,e.b<s.rs.length:=fun e he=>by
   have:=(EH he).2
   rw[Qh]at this
   omega
  have xg:=(fr L.g Af Af Af).trans kg
  have xo:=(fr L.g3 Af Af Af).trans ko
  (focus((try with_reducible apply wpC.to);(repeat'((conv=>whnf);first|refine Aw ?_|(apply Fork.mk<;>(intro _;try(exfalso;omega)))|((apply Ak);(focus exact Ae);(focus exact AK);(focus(first|exact D8|exact EP|exact ES|exact Ch|exact Es|exact ER|exact D9|exact Et|exact Ci|exact Cc));first|((apply AH)<;>(intro Am _ _ _;first|exact Bool.noConfusion Am|replace Am:=of_decide_eq_true Am|replace Am:=of_decide_eq_false Am|skip)<;>((try(unfold CP at Am));first|contradiction|(revert Am;intros)))|((apply AG)<;>intro _ _ _ _<;>try contradiction)|(apply AB;intro _ _ _))|refine Em ?_|((apply E8);(focus exact rfl);(focus exact rfl);(focus exact rfl);(focus exact rfl);(all_goals(intro hb;first|(replace hb:=of_decide_eq_true hb)|(replace hb:=of_decide_eq_false hb)));(all_goals(try(exfalso;omega;done)));(all_goals(revert hb;intros)))|refine Dq ?_|((apply D7);(focus exact rfl);(focus exact rfl);(focus exact rfl);(focus exact rfl);(all_goals(intro hb;first|(replace hb:=of_decide_eq_true hb)|(replace hb:=of_decide_eq_false hb)));(all_goals(try contradiction));(all_goals(revert hb;intros)))|refine Dr ?_|refine Dt ?_|fail));all_goals((conv=>whnf);try with_reducible apply At.mk)))
  refine X4 (r:=h.next+35) (mr:=L.g2) (es:=Bj (Ih x.m x.a seen s.rs 0) 0) rfl Af Af Aa Aa hbl (Nat.le_refl _) (fun hz=>?_) (fun e he hns=>?_)
  ·clear hK
   (focus((try with_reducible apply wpC.to);(repeat'((conv=>whnf);first|refine Aw ?_|(apply Fork.mk<;>(intro _;try(exfalso;omega)))|((apply Ak);(focus exact Ae);(focus exact AK);(focus(first|exact D8|exact EP|exact ES|exact Ch|exact Es|exact ER|exact D9|exact Et|exact Ci|exact Cc));first|((apply AH)<;>(intro Am _ _ _;first|exact Bool.noConfusion Am|replace Am:=of_decide_eq_true Am|replace Am:=of_decide_eq_false Am|skip)<;>((try(unfold CP at Am));first|contradiction|(revert Am;intros)))|((apply AG)<;>intro _ _ _ _<;>try contradiction)|(apply AB;intro _ _ _))|refine Em ?_|((apply E8);(focus exact rfl);(focus exact rfl);(focus exact rfl);(focus exact rfl);(all_goals(intro hb;first|(replace hb:=of_decide_eq_true hb)|(replace hb:=of_decide_eq_false hb)));(all_goals(try(exfalso;omega;done)));(all_goals(revert hb;intros)))|refine Dq ?_|((apply D7);(focus exact rfl);(focus exact rfl);(focus exact rfl);(focus exact rfl);(all_goals(intro hb;first|(replace hb:=of_decide_eq_true hb)|(replace hb:=of_decide_eq_false hb)));(all_goals(try contradiction));(all_goals(revert hb;intros)))|refine Dr ?_|refine Dt ?_|fail));all_goals((conv=>whnf);try with_reducible apply At.mk)))
   refine⟨.inr rfl,Ta (Qr rfl),fun r row hr hg=>.inr ?_⟩
   have hall:Bj (Ih x.m x.a seen s.rs 0) 0=Bj (s.rs.map (Cy x.m x.a)) 0:=PI fun j r hj hb=>by
    have:=ZS (i:=0) (Qi (no:=x.m) (a:=x.a) (seen:=seen) (i:=0) hj) (by split<;>simp[Gg,hb])
    exact hz _ this
   rw[hall]at xc
   simp only[H.put]at hg
   by_cases h2:r=p
   ·rw[if_pos h2]at hg
    rw[h2,<-hg]
    (exact Aa)
   ·rw[if_neg h2]at hg
    by_cases h3:r=L.g2
    ·rw[if_pos h3]at hg
     rw[h3,<-hg]
     unfold JW
     (exact Aa)
    ·rw[if_neg h3]at hg
     rw[<-hg]
     exact Eq.trans D6 (fr r hr h3 h2)
  ·obtain⟨j,r',hj',hb',rfl⟩:=Hl he
   have hjl:j<s.rs.length:=by
    have:=(List.getElem?_eq_some_iff.1 hj').1
    rwa [Qh]at this
   obtain⟨r,hr⟩:∃r,s.rs[j]? =some r:=⟨_,List.getElem?_eq_getElem hjl⟩
   have er:r'=r:=by
    have:=Qi (no:=x.m) (a:=x.a) (seen:=seen) (i:=0) hr
    rw[hj',if_neg hns]at this
    simpa using this
   subst er
   have VE:=a.ok.rs r' (List.mem_of_getElem? hr)
   have hown:=Nr (i:=0) (Nl hnk hr) hr
   have hset:=PF (no:=x.m) (a:=x.a) (seen:=seen) (i:=0) hnk hr hb'
   have hput:TW (Bj (Ih x.m x.a seen s.rs 0) 0) ((r'.at_:Nat):Int) (.int .i64 (Cy x.m x.a r').cost) s.rs.length=Bj (Ih x.m x.a (seen++[0+j]) s.rs 0) 0/\UG (Bj (Ih x.m x.a seen s.rs 0) 0) ((r'.at_:Nat):Int) s.rs.length=s.rs.length:=by
    have hany:(Bj (Ih x.m x.a seen s.rs 0) 0).any (fun e=>e.k==((r'.at_:Nat):Int))=true:=List.any_eq_true.2 ⟨_,he,by simp⟩
    unfold TW UG
    rw[if_pos hany,if_pos hany]
    exact⟨hset,rfl⟩
   have qu:=eY (n:=s.rs.length) (b:=0+j) Af hns
   (focus((try with_reducible apply wpC.to);(repeat'((conv=>whnf);first|refine Aw ?_|(apply Fork.mk<;>(intro _;try(exfalso;omega)))|((apply Ak);(focus exact Ae);(focus exact AK);(focus(first|exact D8|exact EP|exact ES|exact Ch|exact Es|exact ER|exact D9|exact Et|exact Ci|exact Cc));first|((apply AH)<;>(intro Am _ _ _;first|exact Bool.noConfusion Am|replace Am:=of_decide_eq_true Am|replace Am:=of_decide_eq_false Am|skip)<;>((try(unfold CP at Am));first|contradiction|(revert Am;intros)))|((apply AG)<;>intro _ _ _ _<;>try contradiction)|(apply AB;intro _ _ _))|refine Em ?_|((apply E8);(focus exact rfl);(focus exact rfl);(focus exact rfl);(focus exact rfl);(all_goals(intro hb;first|(replace hb:=of_decide_eq_true hb)|(replace hb:=of_decide_eq_false hb)));(all_goals(try(exfalso;omega;done)));(all_goals(revert hb;intros)))|refine Dq ?_|((apply D7);(focus exact rfl);(focus exact rfl);(focus exact rfl);(focus exact rfl);(all_goals(intro hb;first|(replace hb:=of_decide_eq_true hb)|(replace hb:=of_decide_eq_false hb)));(all_goals(try contradiction));(all_goals(revert hb;intros)))|refine Dr ?_|refine Dt ?_|fail));all_goals((conv=>whnf);try with_reducible apply At.mk)))
   refine Dj.mk (i6 (r:=h.next+35) (mr:=L.g2) (seen:=seen) (es:=Bj (Ih x.m x.a seen s.rs 0) 0) (f:=fun k:Int=>Value.int .i64 k) rfl Aa Aa he HN) ?_
   (focus((try with_reducible apply wpC.to);(repeat'((conv=>whnf);first|refine Aw ?_|(apply Fork.mk<;>(intro _;try(exfalso;omega)))|((apply Ak);(focus exact Ae);(focus exact AK);(focus(first|exact D8|exact EP|exact ES|exact Ch|exact Es|exact ER|exact D9|exact Et|exact Ci|exact Cc));first|((apply AH)<;>(intro Am _ _ _;first|exact Bool.noConfusion Am|replace Am:=of_decide_eq_true Am|replace Am:=of_decide_eq_false Am|skip)<;>((try(unfold CP at Am));first|contradiction|(revert Am;intros)))|((apply AG)<;>intro _ _ _ _<;>try contradiction)|(apply AB;intro _ _ _))|refine Em ?_|((apply E8);(focus exact rfl);(focus exact rfl);(focus exact rfl);(focus exact rfl);(all_goals(intro hb;first|(replace hb:=of_decide_eq_true hb)|(replace hb:=of_decide_eq_false hb)));(all_goals(try(exfalso;omega;done)));(all_goals(revert hb;intros)))|refine Dq ?_|((apply D7);(focus exact rfl);(focus exact rfl);(focus exact rfl);(focus exact rfl);(all_goals(intro hb;first|(replace hb:=of_decide_eq_true hb)|(replace hb:=of_decide_eq_false hb)));(all_goals(try contradiction));(all_goals(revert hb;intros)))|refine Dr ?_|refine Dt ?_|fail));all_goals((conv=>whnf);try with_reducible apply At.mk)))
   apply Qm (r:=L.g3) (es:=Fz s.rs 0) (c:=s.rs.length) (k:=((r'.at_:Nat):Int)) (Gm.i64 Tryz.underlying3)
   focus exact rfl
   focus exact rfl
   focus(exact Aa)
   rw[hown]
   simp only[Option.getD_some]
   by_cases hc1:r'.no=x.m
   ·by_cases hc2:r'.cost=0
    ·have hbr:(Cy x.m x.a r').cost=x.a:=by unfold Cy;rw[if_pos ⟨hc1,hc2⟩]
     rw[hbr]at hput
     (focus((try with_reducible apply wpC.to);(repeat'((conv=>whnf);first|refine Aw ?_|(apply Fork.mk<;>(intro _;try(exfalso;omega)))|((apply Ak);(focus exact Ae);(focus exact AK);(focus(first|exact D8|exact EP|exact ES|exact Ch|exact Es|exact ER|exact D9|exact Et|exact Ci|exact Cc));first|((apply AH)<;>(intro Am _ _ _;first|exact Bool.noConfusion Am|replace Am:=of_decide_eq_true Am|replace Am:=of_decide_eq_false Am|skip)<;>((try(unfold CP at Am));first|contradiction|(revert Am;intros)))|((apply AG)<;>intro _ _ _ _<;>try contradiction)|(apply AB;intro _ _ _))|refine Em ?_|((apply E8);(focus exact rfl);(focus exact rfl);(focus exact rfl);(focus exact rfl);(all_goals(intro hb;first|(replace hb:=of_decide_eq_true hb)|(replace hb:=of_decide_eq_false hb)));(all_goals(try(exfalso;omega;done)));(all_goals(revert hb;intros)))|refine Dq ?_|((apply D7);(focus exact rfl);(focus exact rfl);(focus exact rfl);(focus exact rfl);(all_goals(intro hb;first|(replace hb:=of_decide_eq_true hb)|(replace hb:=of_decide_eq_false hb)));(all_goals(try contradiction));(all_goals(revert hb;intros)))|refine Dr ?_|refine Dt ?_|fail));all_goals((conv=>whnf);try with_reducible apply At.mk)))
     apply Vg (r:=L.g2) (es:=Bj (Ih x.m x.a seen s.rs 0) 0) (c:=s.rs.length) (k:=((r'.at_:Nat):Int)) (v:=.int .i64 x.a) (Gm.i64 Tryz.underlying3)
     focus exact rfl
     focus exact rfl
     focus exact rfl
     focus omega
     focus(exact Aa)
     focus exact GF (by rw[TP];exact hnk)
     rw[hput.1,hput.2]
     (focus((try with_reducible apply wpC.to);(repeat'((conv=>whnf);first|refine Aw ?_|(apply Fork.mk<;>(intro _;try(exfalso;omega)))|((apply Ak);(focus exact Ae);(focus exact AK);(focus(first|exact D8|exact EP|exact ES|exact Ch|exact Es|exact ER|exact D9|exact Et|exact Ci|exact Cc));first|((apply AH)<;>(intro Am _ _ _;first|exact Bool.noConfusion Am|replace Am:=of_decide_eq_true Am|replace Am:=of_decide_eq_false Am|skip)<;>((try(unfold CP at Am));first|contradiction|(revert Am;intros)))|((apply AG)<;>intro _ _ _ _<;>try contradiction)|(apply AB;intro _ _ _))|refine Em ?_|((apply E8);(focus exact rfl);(focus exact rfl);(focus exact rfl);(focus exact rfl);(all_goals(intro hb;first|(replace hb:=of_decide_eq_true hb)|(replace hb:=of_decide_eq_false hb)));(all_goals(try(exfalso;omega;done)));(all_goals(revert hb;intros)))|refine Dq ?_|((apply D7);(focus exact rfl);(focus exact rfl);(focus exact rfl);(focus exact rfl);(all_goals(intro hb;first|(replace hb:=of_decide_eq_true hb)|(replace hb:=of_decide_eq_false hb)));(all_goals(try contradiction));(all_goals(revert hb;intros)))|refine Dr ?_|refine Dt ?_|fail));all_goals((conv=>whnf);try with_reducible apply At.mk)))
     exact hK (seen++[0+j]) _ _ ⟨rfl,rfl,rfl,trivial⟩ ⟨Aa,Aa,Aa,Aa,fun r h1 h2 h3=>(Ac fun y hy=>Aa).trans (fr r h1 h2 h3),Ag⟩ qu
    ·have hbr:Cy x.m x.a r'=r':=by unfold Cy;rw[if_neg (fun h=>hc2 h.2)]
     have hmore:Ih x.m x.a (seen++[0+j]) s.rs 0=Ih x.m x.a seen s.rs 0:=Kn fun j2 r2 h2 e2=>by
      obtain rfl:j2=j:=by omega
      rw[hr]at h2
      simp only[Option.some.injEq]at h2
      subst h2
      exact hbr
     (focus((try with_reducible apply wpC.to);(repeat'((conv=>whnf);first|refine Aw ?_|(apply Fork.mk<;>(intro _;try(exfalso;omega)))|((apply Ak);(focus exact Ae);(focus exact AK);(focus(first|exact D8|exact EP|exact ES|exact Ch|exact Es|exact ER|exact D9|exact Et|exact Ci|exact Cc));first|((apply AH)<;>(intro Am _ _ _;first|exact Bool.noConfusion Am|replace Am:=of_decide_eq_true Am|replace Am:=of_decide_eq_false Am|skip)<;>((try(unfold CP at Am));first|contradiction|(revert Am;intros)))|((apply AG)<;>intro _ _ _ _<;>try contradiction)|(apply AB;intro _ _ _))|refine Em ?_|((apply E8);(focus exact rfl);(focus exact rfl);(focus exact rfl);(focus exact rfl);(all_goals(intro hb;first|(replace hb:=of_decide_eq_true hb)|(replace hb:=of_decide_eq_false hb)));(all_goals(try(exfalso;omega;done)));(all_goals(revert hb;intros)))|refine Dq ?_|((apply D7);(focus exact rfl);(focus exact rfl);(focus exact rfl);(focus exact rfl);(all_goals(intro hb;first|(replace hb:=of_decide_eq_true hb)|(replace hb:=of_decide_eq_false hb)));(all_goals(try contradiction));(all_goals(revert hb;intros)))|refine Dr ?_|refine Dt ?_|fail));all_goals((conv=>whnf);try with_reducible apply At.mk)))
     exact hK (seen++[0+j]) _ _ ⟨rfl,rfl,rfl,trivial⟩ ⟨Aa,by rw[hmore];(exact Aa),Aa,Aa,fun r h1 h2 h3=>(Ac fun y hy=>Aa).trans (fr r h1 h2 h3),Ag⟩ qu
   ·have hbr:Cy x.m x.a r'=r':=by unfold Cy;rw[if_neg (fun h=>hc1 h.1)]
    have hmore:Ih x.m x.a (seen++[0+j]) s.rs 0=Ih x.m x.a seen s.rs 0:=Kn fun j2 r2 h2 e2=>by
     obtain rfl:j2=j:=by omega
     rw[hr]at h2
     simp only[Option.some.injEq]at h2
     subst h2
     exact hbr
    (focus((try with_reducible apply wpC.to);(repeat'((conv=>whnf);first|refine Aw ?_|(apply Fork.mk<;>(intro _;try(exfalso;omega)))|((apply Ak);(focus exact Ae);(focus exact AK);(focus(first|exact D8|exact EP|exact ES|exact Ch|exact Es|exact ER|exact D9|exact Et|exact Ci|exact Cc));first|((apply AH)<;>(intro Am _ _ _;first|exact Bool.noConfusion Am|replace Am:=of_decide_eq_true Am|replace Am:=of_decide_eq_false Am|skip)<;>((try(unfold CP at Am));first|contradiction|(revert Am;intros)))|((apply AG)<;>intro _ _ _ _<;>try contradiction)|(apply AB;intro _ _ _))|refine Em ?_|((apply E8);(focus exact rfl);(focus exact rfl);(focus exact rfl);(focus exact rfl);(all_goals(intro hb;first|(replace hb:=of_decide_eq_true hb)|(replace hb:=of_decide_eq_false hb)));(all_goals(try(exfalso;omega;done)));(all_goals(revert hb;intros)))|refine Dq ?_|((apply D7);(focus exact rfl);(focus exact rfl);(focus exact rfl);(focus exact rfl);(all_goals(intro hb;first|(replace hb:=of_decide_eq_true hb)|(replace hb:=of_decide_eq_false hb)));(all_goals(try contradiction));(all_goals(revert hb;intros)))|refine Dr ?_|refine Dt ?_|fail));all_goals((conv=>whnf);try with_reducible apply At.mk)))
    exact hK (seen++[0+j]) _ _ ⟨rfl,rfl,rfl,trivial⟩ ⟨Aa,by rw[hmore];(exact Aa),Aa,Aa,fun r h1 h2 h3=>(Ac fun y hy=>Aa).trans (fr r h1 h2 h3),Ag⟩ qu
end AE.Tryz

/- Clerk, walked: draw, do. -/
namespace AE.Tryz
open Go AE Go.Proofs AE.Clerk
set_option maxRecDepth 100000
set_option linter.unusedVariables false

def IJ (ms:List CU) (n:Int):Option Nat:=ms.findIdx? fun m=>decide (m.no=n)
theorem NF {m:CU}{ms:List CU}{n:Int}:IJ (m::ms) n=if m.no=n then some 0 else(IJ ms n).map (· +1):=by
 unfold IJ
 rw[List.findIdx?_cons]
 by_cases h:m.no=n
 ·simp[h]
 ·simp[h]
theorem ME {ps:Nat->Nat}{n:Int}:∀{ms:List CU} {i:Nat},Jy (DG ps ms i) n=(IJ ms n).map fun j=>CF (ps (i+j))
 |[],_=>rfl
 | m::ms,i=>by
   rw[NF]
   simp only[DG,FU]
   split
   ·rfl
   ·rw[ME (ms:=ms) (i:=i+1)]
    cases IJ ms n with
    |none=>rfl
    |some j=>simp only[Option.map_some];rw[show i+1+j=i+(j+1) by omega]
theorem NA {ps:Nat->Nat}:∀{ms:List CU} {i:Nat},(DG ps ms i).map EG.k=ms.map CU.no
 |[],_=>rfl
 |m::ms,i=>by simp[DG,NA (ms:=ms) (i:=i+1)]
theorem Vq {ps qs:Nat->Nat}:∀{ms:List CU} {i:Nat},(∀j,i<=j->j<i+ms.length->ps j=qs j)->DG ps ms i=DG qs ms i
 |[],_,_=>rfl
 | m::ms,i,h=>by
   simp only[DG]
   rw[h i (Nat.le_refl _) (by simp),Vq (ms:=ms) (i:=i+1) fun j h1 h2=>h j Af (by simp only[List.length_cons];omega)]
theorem R8 {ps:Nat->Nat}{m:CU}:∀{ms:List CU} {i:Nat},DG ps (ms++[m]) i=DG ps ms i++[⟨m.no,CF (ps (i+ms.length)),i+ms.length⟩]
 |[],_=>rfl
 | y::ms,i=>by
   simp only[List.cons_append,DG,R8 (ms:=ms) (i:=i+1),List.length_cons]
   rw[show i+1+ms.length=i+(ms.length+1) by omega]
theorem bZ {ps:Nat->Nat}{n:Int}{ms:List CU}{i:Nat}(h:IJ ms n=none):(DG ps ms i).any (fun e=>e.k==n)=false:=by
 rw[VY]
 have:=ME (ps:=ps) (n:=n) (ms:=ms) (i:=i)
 rw[h]at this
 rw[KM]at this
 cases hf:(DG ps ms i).findIdx? (fun e=>e.k==n)with
 |none=>rfl
 | some j=>
   obtain⟨hi, -, -⟩:=List.findIdx?_eq_some_iff_getElem.1 hf
   rw[hf]at this
   simp[List.getElem?_eq_getElem hi]at this
theorem Lg.more {L:LP}{h h':H}{ps:Nat->Nat}{s:St}(k:Lg L h ps s) {m:CU}{nb:Nat}
 (hg:h'.get L.g=h.get L.g) (h1:h'.get L.g1=some (.map (JW (DG ps s.ms 0++[⟨m.no,CF nb,s.ms.length⟩])) (s.ms.length+1))) (hc:h'.get L.g2=h.get L.g2) (ho:h'.get L.g3=h.get L.g3) (hp:h'.get nb=some (.cells (Cq m) 130))
 (hq:∀q,L.B<=q->q<h.next->h'.get q=h.get q) (hn:h.next<=nb/\nb<h'.next):Lg L h' (fun i=>if i=s.ms.length then nb else ps i) ⟨s.BS,s.lost,s.ms++[m],s.rs⟩:=by
 have o:=k.ord
 refine⟨hg.trans k.g,?_,hc.trans k.c,ho.trans k.o,fun j y hy=>?_,fun j hj=>?_,fun i j hi hj e=>?_,by omega⟩
 ·rw[h1]
  dsimp only
  rw[List.length_append,R8,Nat.zero_add,if_pos rfl]
  congr 4
  exact Vq fun j h1 h2=>by rw[if_neg Af]
 ·dsimp only at hy⊢
  rw[List.getElem?_append]at hy
  by_cases hj:j<s.ms.length
  ·rw[if_pos hj]at hy
   rw[if_neg Af]
   have:=k.pb j hj
   rw[hq _ this.1 this.2]
   exact k.p j y hy
  ·rw[if_neg hj]at hy
   have:j=s.ms.length:=by
    have:=(List.getElem?_eq_some_iff.1 hy).1
    simp at this
    omega
   subst this
   simp at hy
   subst hy
   rw[if_pos rfl]
   exact hp
 ·dsimp only at hj⊢
  rw[List.length_append]at hj
  simp only[List.length_cons,List.length_nil]at hj
  split
  ·omega
  ·have:=k.pb j Af
   omega
 ·dsimp only at hi hj e
  rw[List.length_append]at hi hj
  simp only[List.length_cons,List.length_nil]at hi hj
  split at e<;>split at e
  ·omega
  ·have:=k.pb j Af;omega
  ·have:=k.pb i Af;omega
  ·exact k.pn i j Af Af e
theorem SU {L:LP}{h:H}{ps:Nat->Nat}{s:St}{lo at_ p:Nat}{x:Ln}(k:Lg L h ps s) (hlo:lo<=L.g1):
 AW Tryz.prog 197 lo h [CF L.g,CF p,.agg ⟨x.cells⟩,.int .i64 at_] (fun v h'=>LW L h s 11 v h'):=by
 obtain⟨o1,o2,o3,o4,o5⟩:=k.ord
 refine ZF.call rfl Af ?_
 unfold jv Ln.cells CF
 (refine Ai ?_)
 (refine AA ?_)
 exact⟨⟨_,k.same (fun q hq=>Ac fun y hy=>Aa) Ag⟩,(show dH 11 _ from .inr (.inr (.inr ⟨by decide,by decide,by decide,by decide,by decide,rfl⟩))),fun q h1 h2=>Ac fun y hy=>Aa,Ag⟩
theorem UA {L:LP}{h:H}{ps:Nat->Nat}{s:St}{lo at_:Nat}{x:Ln}(k:Lg L h ps s) (hlo:lo<=L.g1) (hx:1<=x.a/\x.a<=1000000/\0<=x.b/\x.b<=1000) (hno:IJ s.ms x.m=none) (hn:(s.ms.map CU.no).Nodup):
 AW Tryz.prog 197 lo h [CF L.g,.pointer none,.agg ⟨x.cells⟩,.int .i64 at_] (fun v h'=>LW L h ⟨s.BS,s.lost,s.ms++[drawn x],s.rs⟩ 0 v h'):=by
 obtain⟨o1,o2,o3,o4,o5⟩:=k.ord
 have kg:=k.g
 have km:h.get L.g1=some (.map ((DG ps s.ms 0).map (EG.ent fun k:Int=>Value.int .i64 k)) s.ms.length):=k.m
 have hmul:0<=x.a*x.b/\x.a*x.b<=1000000000:=by
  have e1:=Int.mul_le_mul hx.2.1 hx.2.2.2 hx.2.2.1 Af
  have e2:=Int.mul_nonneg (show 0<=x.a by omega) hx.2.2.1
  omega
 refine ZF.call rfl Af ?_
 unfold jv Ln.cells CF
 (refine Ai ?_)
 apply Vg (r:=L.g1) (es:=DG ps s.ms 0) (c:=s.ms.length) (k:=x.m) (v:=CF (h.next+23)) (Gm.i64 Tryz.underlying2)
 case hm=>exact rfl
 case hx=>exact rfl
 case hy=>exact rfl
 case hlo=>omega
 case hg=>(exact Aa)
 case hn=>rw[NA];exact hn
 have hp:∀v,TW (DG ps s.ms 0) x.m v s.ms.length=DG ps s.ms 0++[⟨x.m,v,s.ms.length⟩]/\UG (DG ps s.ms 0) x.m s.ms.length=s.ms.length+1:=fun v=>by
  unfold TW UG
  rw[bZ hno]
  exact⟨rfl,rfl⟩
 rw[(hp _).1,(hp undef).2]
 (refine Ai ?_)
 (refine AA ?_)
 refine⟨⟨_,k.more (m:=drawn x) (nb:=h.next+23) D6 ?_ D6 D6 ?_ (fun q h1 h2=>Ac fun y hy=>Aa) ⟨by omega,Ag⟩⟩,.inl ⟨rfl,rfl⟩,fun q h1 h2=>Ac fun y hy=>Aa,Ag⟩
 ·unfold JW drawn
  dsimp only
  (exact Aa)
 ·unfold Cq drawn
  dsimp only
  (exact Aa)
end AE.Tryz

/- Clerk, walked: do. -/
namespace AE.Tryz
open Go AE Go.Proofs AE.Clerk
set_option maxRecDepth 100000
set_option linter.unusedVariables false

theorem LW.out {L:LP}{h h1 h2 h3:H}{s':St}{e:Int}{v:Value}(r:LW L h1 s' e v h2) (hs:Same h.next h h1) (hB:L.B<=h.next) (h4:h.next<=h1.next) (hs2:Same h2.next h2 h3) (h5:h2.next<=h3.next):LW L h s' e v h3:=by
 obtain⟨⟨ps',k⟩,rp,fr,n⟩:=r
 exact⟨⟨ps',k.same hs2 h5⟩,rp,fun q h1 h2=>((hs2 q Af).trans (fr q h1 h2)).trans (hs q Af),by omega⟩
theorem OQ {x:Ln}(hv:x.Valid 1099511627776):(x.k=0->x.m=0/\1<=x.a/\x.a<=1000000)/\(x.k≠0->1<=x.m/\x.m<=1099511627776)/\(x.k=1->1<=x.a/\x.a<=1000000/\0<=x.b/\x.b<=1000)/\(x.k=5->1<=x.a/\x.a<=1000000)/\(x.k=6->1<=x.a/\x.a<=1000000000)/\(x.k=7->0<=x.a/\x.a<=59):=by
 unfold Ln.Valid CP at hv;omega
theorem ri {L:LP}{h:H}{ps:Nat->Nat}{s:St}{lo t:Nat}{x:Ln}(k:Lg L h ps s) (hlo:lo<=L.g1) (ok:s.Ok t) (ht:t<=60) (hv:x.Valid 1099511627776):
 AW Tryz.prog 105 lo h [CF L.g,.agg ⟨x.cells⟩,.int .i64 t] (fun v h'=>LW L h (Clerk.step x t s).1 (Clerk.step x t s).2 v h'):=by
 obtain⟨o1,o2,o3,o4,o5⟩:=k.ord
 have kg:=k.g
 have km:h.get L.g1=some (.map ((DG ps s.ms 0).map (EG.ent fun k:Int=>Value.int .i64 k)) s.ms.length):=k.m
 have hkd:=Vx hv
 have hd:=OQ hv
 refine iO.call rfl Af ?_
 obtain⟨xk,xm,xa,xb⟩:=x
 unfold a105 Ln.cells CF
 dsimp only at hkd hd⊢
 (refine Ai ?_)
 apply Qm (r:=L.g1) (es:=DG ps s.ms 0) (c:=s.ms.length) (k:=xm) (Gm.i64 Tryz.underlying2)
 focus exact rfl
 focus exact rfl
 focus(exact Aa)
 rw[ME]
 cases hf:IJ s.ms xm with
 | none=>
   simp only[Option.map_none,Option.getD_none]
   have hfind:s.find xm=none:=hf
   by_cases hk1:1<xk
   ·rw[show Clerk.step ⟨xk,xm,xa,xb⟩ t s=(s,5) by unfold Clerk.step;dsimp only;rw[if_neg Af,hfind];dsimp only;rw[if_neg Af]]
    (refine Ai ?_)
    (refine AA ?_)
    exact⟨⟨_,k.same (fun q hq=>Ac fun y hy=>Aa) Ag⟩,(show dH 5 _ from .inr (.inl ⟨rfl,rfl⟩)),fun q h1 h2=>Ac fun y hy=>Aa,Ag⟩
   ·rcases(show xk=0\/xk=1 by omega)with rfl|rfl
    ·rw[show Clerk.step ⟨0,xm,xa,xb⟩ t s=(⟨s.BS+xa,s.lost,s.ms,s.rs⟩,0) by unfold Clerk.step;dsimp only;rw[if_pos rfl]]
     (focus((try with_reducible apply wpC.to);(repeat'((conv=>whnf);first|refine Aw ?_|(apply Fork.mk<;>(intro _;try(exfalso;omega)))|((apply Ak);(focus exact Ae);(focus exact AK);(focus(first|exact Ch|exact Ci|exact Cc));first|((apply AH)<;>(intro Am _ _ _;first|exact Bool.noConfusion Am|replace Am:=of_decide_eq_true Am|replace Am:=of_decide_eq_false Am|skip)<;>((try(unfold CP at Am));first|contradiction|(revert Am;intros)))|((apply AG)<;>intro _ _ _ _<;>try contradiction)|(apply AB;intro _ _ _))|fail));all_goals((conv=>whnf);try with_reducible apply At.mk)))
     apply En
     focus exact mJ (x:=⟨0,xm,xa,xb⟩) (k.same (fun q hq=>Ac fun y hy=>Aa) Ag) hlo ok ht (by dsimp only;omega)
     intro v h3 r3 q3
     (refine Ai ?_)
     (refine AA ?_)
     exact r3.out (fun q hq=>Ac fun y hy=>Aa) Af Ag (fun q hq=>Ac fun y hy=>Aa) Ag
    ·rw[show Clerk.step ⟨1,xm,xa,xb⟩ t s=(⟨s.BS,s.lost,s.ms++[drawn ⟨1,xm,xa,xb⟩],s.rs⟩,0) by unfold Clerk.step;dsimp only;rw[if_neg (by decide),hfind];dsimp only;rw[if_pos rfl]]
     (focus((try with_reducible apply wpC.to);(repeat'((conv=>whnf);first|refine Aw ?_|(apply Fork.mk<;>(intro _;try(exfalso;omega)))|((apply Ak);(focus exact Ae);(focus exact AK);(focus(first|exact Ch|exact Ci|exact Cc));first|((apply AH)<;>(intro Am _ _ _;first|exact Bool.noConfusion Am|replace Am:=of_decide_eq_true Am|replace Am:=of_decide_eq_false Am|skip)<;>((try(unfold CP at Am));first|contradiction|(revert Am;intros)))|((apply AG)<;>intro _ _ _ _<;>try contradiction)|(apply AB;intro _ _ _))|fail));all_goals((conv=>whnf);try with_reducible apply At.mk)))
     apply En
     focus exact UA (x:=⟨1,xm,xa,xb⟩) (k.same (fun q hq=>Ac fun y hy=>Aa) Ag) hlo (by dsimp only;omega) hf ok.mn
     intro v h3 r3 q3
     (refine Ai ?_)
     (refine AA ?_)
     exact r3.out (fun q hq=>Ac fun y hy=>Aa) Af Ag (fun q hq=>Ac fun y hy=>Aa) Ag
 | some i=>
   simp only[Option.map_some,Option.getD_some,Nat.zero_add]
   have hfind:s.find xm=some i:=hf
   obtain⟨hi,hno, -⟩:=List.findIdx?_eq_some_iff_getElem.1 hf
   have hm:s.ms[i]? =some s.ms[i]:=List.getElem?_eq_getElem hi
   generalize s.ms[i]=m at hm hno
   have hno:m.no=xm:=by simpa using hno
   have hmo:=(ok.ms m (List.mem_of_getElem? hm)).no
   have hk0:xk≠0:=by
    intro h0
    have:=hd.1 h0
    omega
   unfold CF
   by_cases hk1:xk=1
   ·subst hk1
    rw[show Clerk.step ⟨1,xm,xa,xb⟩ t s=(s,11) by unfold Clerk.step;dsimp only;rw[if_neg (by decide),hfind];dsimp only;rw[hm];dsimp only;rw[if_pos rfl]]
    (focus((try with_reducible apply wpC.to);(repeat'((conv=>whnf);first|refine Aw ?_|(apply Fork.mk<;>(intro _;try(exfalso;omega)))|((apply Ak);(focus exact Ae);(focus exact AK);(focus(first|exact Ch|exact Ci|exact Cc));first|((apply AH)<;>(intro Am _ _ _;first|exact Bool.noConfusion Am|replace Am:=of_decide_eq_true Am|replace Am:=of_decide_eq_false Am|skip)<;>((try(unfold CP at Am));first|contradiction|(revert Am;intros)))|((apply AG)<;>intro _ _ _ _<;>try contradiction)|(apply AB;intro _ _ _))|fail));all_goals((conv=>whnf);try with_reducible apply At.mk)))
    apply En
    focus exact SU (x:=⟨1,xm,xa,xb⟩) (k.same (fun q hq=>Ac fun y hy=>Aa) Ag) hlo
    intro v h3 r3 q3
    (refine Ai ?_)
    (refine AA ?_)
    exact r3.out (fun q hq=>Ac fun y hy=>Aa) Af Ag (fun q hq=>Ac fun y hy=>Aa) Ag
   rw[show Clerk.step ⟨xk,xm,xa,xb⟩ t s=act ⟨xk,xm,xa,xb⟩ t s i m by unfold Clerk.step;dsimp only;rw[if_neg hk0,hfind];dsimp only;rw[hm];dsimp only;rw[if_neg hk1]]
   have hA:∀{h1:H},Same h.next h h1->h.next<=h1.next->aM L h1 ps s t lo (ps i) i m:=fun hs hn=>⟨k.same hs hn,hlo,ok,ht,hm,rfl⟩
   rcases(show xk=2\/xk=3\/xk=4\/xk=5\/xk=6\/xk=7 by omega)with rfl|rfl|rfl|rfl|rfl|rfl
   ·(focus((try with_reducible apply wpC.to);(repeat'((conv=>whnf);first|refine Aw ?_|(apply Fork.mk<;>(intro _;try(exfalso;omega)))|((apply Ak);(focus exact Ae);(focus exact AK);(focus(first|exact Ch|exact Ci|exact Cc));first|((apply AH)<;>(intro Am _ _ _;first|exact Bool.noConfusion Am|replace Am:=of_decide_eq_true Am|replace Am:=of_decide_eq_false Am|skip)<;>((try(unfold CP at Am));first|contradiction|(revert Am;intros)))|((apply AG)<;>intro _ _ _ _<;>try contradiction)|(apply AB;intro _ _ _))|fail));all_goals((conv=>whnf);try with_reducible apply At.mk)))
    apply En
    focus exact mA (x:=⟨2,xm,xa,xb⟩) (hA (fun q hq=>Ac fun y hy=>Aa) Ag) rfl
    intro v h3 r3 q3
    (refine Ai ?_)
    (refine AA ?_)
    exact r3.out (fun q hq=>Ac fun y hy=>Aa) Af Ag (fun q hq=>Ac fun y hy=>Aa) Ag
   ·(focus((try with_reducible apply wpC.to);(repeat'((conv=>whnf);first|refine Aw ?_|(apply Fork.mk<;>(intro _;try(exfalso;omega)))|((apply Ak);(focus exact Ae);(focus exact AK);(focus(first|exact Ch|exact Ci|exact Cc));first|((apply AH)<;>(intro Am _ _ _;first|exact Bool.noConfusion Am|replace Am:=of_decide_eq_true Am|replace Am:=of_decide_eq_false Am|skip)<;>((try(unfold CP at Am));first|contradiction|(revert Am;intros)))|((apply AG)<;>intro _ _ _ _<;>try contradiction)|(apply AB;intro _ _ _))|fail));all_goals((conv=>whnf);try with_reducible apply At.mk)))
    apply En
    focus exact jY (x:=⟨3,xm,xa,xb⟩) (hA (fun q hq=>Ac fun y hy=>Aa) Ag) rfl
    intro v h3 r3 q3
    (refine Ai ?_)
    (refine AA ?_)
    exact r3.out (fun q hq=>Ac fun y hy=>Aa) Af Ag (fun q hq=>Ac fun y hy=>Aa) Ag
   ·(focus((try with_reducible apply wpC.to);(repeat'((conv=>whnf);first|refine Aw ?_|(apply Fork.mk<;>(intro _;try(exfalso;omega)))|((apply Ak);(focus exact Ae);(focus exact AK);(focus(first|exact Ch|exact Ci|exact Cc));first|((apply AH)<;>(intro Am _ _ _;first|exact Bool.noConfusion Am|replace Am:=of_decide_eq_true Am|replace Am:=of_decide_eq_false Am|skip)<;>((try(unfold CP at Am));first|contradiction|(revert Am;intros)))|((apply AG)<;>intro _ _ _ _<;>try contradiction)|(apply AB;intro _ _ _))|fail));all_goals((conv=>whnf);try with_reducible apply At.mk)))
    apply En
    focus exact fR (x:=⟨4,xm,xa,xb⟩) (hA (fun q hq=>Ac fun y hy=>Aa) Ag) rfl
    intro v h3 r3 q3
    (refine Ai ?_)
    (refine AA ?_)
    exact r3.out (fun q hq=>Ac fun y hy=>Aa) Af Ag (fun q hq=>Ac fun y hy=>Aa) Ag
   ·(focus((try with_reducible apply wpC.to);(repeat'((conv=>whnf);first|refine Aw ?_|(apply Fork.mk<;>(intro _;try(exfalso;omega)))|((apply Ak);(focus exact Ae);(focus exact AK);(focus(first|exact Ch|exact Ci|exact Cc));first|((apply AH)<;>(intro Am _ _ _;first|exact Bool.noConfusion Am|replace Am:=of_decide_eq_true Am|replace Am:=of_decide_eq_false Am|skip)<;>((try(unfold CP at Am));first|contradiction|(revert Am;intros)))|((apply AG)<;>intro _ _ _ _<;>try contradiction)|(apply AB;intro _ _ _))|fail));all_goals((conv=>whnf);try with_reducible apply At.mk)))
    apply En
    focus exact jh (x:=⟨5,xm,xa,xb⟩) (hA (fun q hq=>Ac fun y hy=>Aa) Ag) rfl (by dsimp only;omega) (by dsimp only;omega)
    intro v h3 r3 q3
    (refine Ai ?_)
    (refine AA ?_)
    exact r3.out (fun q hq=>Ac fun y hy=>Aa) Af Ag (fun q hq=>Ac fun y hy=>Aa) Ag
   ·(focus((try with_reducible apply wpC.to);(repeat'((conv=>whnf);first|refine Aw ?_|(apply Fork.mk<;>(intro _;try(exfalso;omega)))|((apply Ak);(focus exact Ae);(focus exact AK);(focus(first|exact Ch|exact Ci|exact Cc));first|((apply AH)<;>(intro Am _ _ _;first|exact Bool.noConfusion Am|replace Am:=of_decide_eq_true Am|replace Am:=of_decide_eq_false Am|skip)<;>((try(unfold CP at Am));first|contradiction|(revert Am;intros)))|((apply AG)<;>intro _ _ _ _<;>try contradiction)|(apply AB;intro _ _ _))|fail));all_goals((conv=>whnf);try with_reducible apply At.mk)))
    apply En
    focus exact kx (x:=⟨6,xm,xa,xb⟩) (hA (fun q hq=>Ac fun y hy=>Aa) Ag) rfl (by dsimp only;omega)
    intro v h3 r3 q3
    (refine Ai ?_)
    (refine AA ?_)
    exact r3.out (fun q hq=>Ac fun y hy=>Aa) Af Ag (fun q hq=>Ac fun y hy=>Aa) Ag
   ·(focus((try with_reducible apply wpC.to);(repeat'((conv=>whnf);first|refine Aw ?_|(apply Fork.mk<;>(intro _;try(exfalso;omega)))|((apply Ak);(focus exact Ae);(focus exact AK);(focus(first|exact Ch|exact Ci|exact Cc));first|((apply AH)<;>(intro Am _ _ _;first|exact Bool.noConfusion Am|replace Am:=of_decide_eq_true Am|replace Am:=of_decide_eq_false Am|skip)<;>((try(unfold CP at Am));first|contradiction|(revert Am;intros)))|((apply AG)<;>intro _ _ _ _<;>try contradiction)|(apply AB;intro _ _ _))|fail));all_goals((conv=>whnf);try with_reducible apply At.mk)))
    apply En
    focus exact da (x:=⟨7,xm,xa,xb⟩) (hA (fun q hq=>Ac fun y hy=>Aa) Ag) rfl (by dsimp only;omega)
    intro v h3 r3 q3
    (refine Ai ?_)
    (refine AA ?_)
    exact r3.out (fun q hq=>Ac fun y hy=>Aa) Af Ag (fun q hq=>Ac fun y hy=>Aa) Ag
end AE.Tryz

/- Clerk: what holds of how all stands, line by line. -/
namespace AE.Tryz
open Go AE Go.Proofs AE.Clerk
set_option maxRecDepth 100000
set_option linter.unusedVariables false

theorem St.Ok.set {t:Nat}{s:St}(ok:s.Ok t) {i:Nat}{m m':CU}(hm:s.ms[i]? =some m) (hno:m'.no=m.no) (hok:m'.Ok ((t+1:Nat):Int)) {st lo:Int} {rs:List Rn} (h1:0<=st/\st<=1000000* ((t+1:Nat):Int)) (h2:0<=lo/\lo<=1000001* ((t+1:Nat):Int))
 (h3:∀r∈rs,r.at_<t+1/\0<=r.cost/\r.cost<=1000000/\1<=r.no/\r.no<=1099511627776) (h4:(rs.map Rn.at_).Nodup) (h5:rs.length<=t+1):St.Ok (t+1) ⟨st,lo,s.ms.set i m',rs⟩:=by
 refine⟨h1,h2,fun y hy=>?_,h3,?_,h4,?_,h5⟩
 ·rcases List.mem_or_eq_of_mem_set hy with hy|rfl
  ·exact(ok.ms y hy).mono Af
  ·exact hok
 ·dsimp only
  rw[JQ hm hno];exact ok.mn
 ·dsimp only
  rw[List.length_set];have:=ok.ml;omega
theorem step_ok {t:Nat}{s:St}{x:Ln}(ok:s.Ok t) (ht:t<=60) (hv:x.Valid 1099511627776):(Clerk.step x t s).1.Ok (t+1):=by
 have hd:=OQ hv
 have hkd:=Vx hv
 have o1:=ok.BS
 have o2:=ok.lost
 have o3:=ok.ml
 have o4:=ok.rl
 have mono:=ok.mono (show t<=t+1 by omega)
 unfold Clerk.step
 by_cases hk0:x.k=0
 ·rw[if_pos hk0]
  have:=hd.1 hk0
  exact⟨by dsimp only;omega,mono.lost,mono.ms,mono.rs,mono.mn,mono.rn,mono.ml,mono.rl⟩
 rw[if_neg hk0]
 have hxm:=hd.2.1 hk0
 cases hf:s.find x.m with
 | none=>
   dsimp only
   by_cases hk1:x.k=1
   ·rw[if_pos hk1]
    have hb:=hd.2.2.1 hk1
    have hmul:0<=x.a*x.b/\x.a*x.b<=1000000000:=by
     have e1:=Int.mul_le_mul hb.2.1 hb.2.2.2 hb.2.2.1 Af
     have e2:=Int.mul_nonneg (show 0<=x.a by omega) hb.2.2.1
     omega
    refine⟨mono.BS,mono.lost,fun y hy=>?_,mono.rs,?_,mono.rn,?_,mono.rl⟩
    ·rcases List.mem_append.1 hy with hy|hy
     ·exact mono.ms y hy
     ·rw[List.mem_singleton]at hy
      subst hy
      unfold drawn
      exact⟨by dsimp only;omega,by dsimp only;omega,by dsimp only;omega,by dsimp only;omega,by dsimp only;omega,by dsimp only;omega,by dsimp only;omega,by dsimp only;omega,by dsimp only;omega⟩
    ·dsimp only
     rw[List.map_append,List.nodup_append]
     refine⟨ok.mn,by simp,fun a ha b hb=>?_⟩
     simp[drawn]at hb
     subst hb
     rintro rfl
     obtain⟨m,hm,e⟩:=List.mem_map.1 ha
     have:=List.findIdx?_eq_none_iff.1 hf m hm
     simp[e]at this
    ·dsimp only
     rw[List.length_append];simp;omega
   ·rw[if_neg hk1];exact mono
 | some i=>
   obtain⟨m,hm,hno⟩:=Xt hf
   dsimp only
   rw[hm]
   dsimp only
   by_cases hk1:x.k=1
   ·rw[if_pos hk1];exact mono
   rw[if_neg hk1]
   have mo:=ok.ms m (List.mem_of_getElem? hm)
   obtain⟨w1,w2,w3,w4,w5,w6,w7,w8,w9⟩:=mo
   unfold act
   by_cases hk2:x.k=2
   ·rw[if_pos hk2]
    split
    ·exact mono
    split
    ·exact mono
    ·dsimp only
     exact St.Ok.set ok hm (by rfl) (by exact⟨w1,w2,by dsimp only;omega,by dsimp only;omega,by dsimp only;omega,by dsimp only;omega,by dsimp only;omega,by dsimp only;omega,w9⟩) Af Af mono.rs mono.rn mono.rl
   rw[if_neg hk2]
   by_cases hk3:x.k=3
   ·rw [if_pos hk3]
    split
    ·exact mono
    ·dsimp only
     refine St.Ok.set ok hm (by rfl) (by exact⟨w1,w2,w3,by dsimp only;omega,by dsimp only;omega,by dsimp only;omega,by dsimp only;omega,by dsimp only;omega,w9⟩) Af Af (fun r hr=>?_) ?_ (by rw[List.length_append];simp;omega)
     ·rcases List.mem_append.1 hr with hr|hr
      ·exact mono.rs r hr
      ·rw[List.mem_singleton]at hr
       subst hr
       dsimp only
       omega
     ·rw[List.map_append,List.nodup_append]
      refine⟨ok.rn,by simp,fun a ha b hb=>?_⟩
      simp at hb
      subst hb
      rintro rfl
      obtain⟨r,hr,e⟩:=List.mem_map.1 ha
      have:=(ok.rs r hr).1
      omega
   rw[if_neg hk3]
   by_cases hk4:x.k=4
   ·rw[if_pos hk4]
    split
    ·exact mono
    ·dsimp only
     exact St.Ok.set ok hm (by rfl) (by exact⟨w1,w2,by dsimp only;omega,by dsimp only;omega,by dsimp only;omega,by dsimp only;omega,by dsimp only;omega,by dsimp only;omega,w9⟩) Af Af mono.rs mono.rn mono.rl
   rw[if_neg hk4]
   by_cases hk5:x.k=5
   ·rw [if_pos hk5]
    split
    ·exact mono
    ·have hb:=hd.2.2.2.1 hk5
     have hmul:0<=m.opn*x.a/\m.opn*x.a<=60000000:=by
      have e1:=Int.mul_le_mul (show m.opn<=60 by omega) hb.2 Af Af
      have e2:=Int.mul_nonneg w4.1 (show 0<=x.a by omega)
      omega
     dsimp only
     refine St.Ok.set ok hm (by rfl) (by exact⟨w1,w2,w3,by dsimp only;omega,by dsimp only;omega,by dsimp only;omega,by dsimp only;omega,by dsimp only;omega,w9⟩) Af Af (fun r hr=>?_) ?_ (by rw[List.length_map];omega)
     ·obtain⟨r',hr',rfl⟩:=List.mem_map.1 hr
      have:=mono.rs r' hr'
      rw[Gh,S9]
      refine⟨this.1,?_,?_,this.2.2.2⟩
      ·unfold Cy;split
       ·dsimp only;omega
       ·omega
      ·unfold Cy;split
       ·dsimp only;omega
       ·omega
     ·rw[List.map_map]
      have:(Rn.at_∘Cy x.m x.a)=Rn.at_:=by funext r;exact Gh _ _ r
      rw[this];exact ok.rn
   rw[if_neg hk5]
   by_cases qF:x.k=6
   ·rw[if_pos qF]
    have hb:=hd.2.2.2.2.1 qF
    split
    ·exact mono
    ·dsimp only
     exact St.Ok.set ok hm (by rfl) (by exact⟨w1,w2,w3,by dsimp only;omega,by dsimp only;omega,by dsimp only;omega,by dsimp only;omega,by dsimp only;omega,w9⟩) Af Af mono.rs mono.rn mono.rl
   rw[if_neg qF]
   split
   ·exact mono
   rename_i j hj
   split
   ·exact mono
   rename_i r hr
   split
   ·exact mono
   have VE:=ok.rs r (List.mem_of_getElem? hr)
   dsimp only
   refine St.Ok.set ok hm (by rfl) (by exact⟨w1,w2,w3,by dsimp only;omega,by dsimp only;omega,by dsimp only;omega,by dsimp only;omega,by dsimp only;omega,w9⟩) Af Af (fun y hy=>?_) ?_ (by rw[List.length_set];omega)
   ·rcases List.mem_or_eq_of_mem_set hy with hy|rfl
    ·exact mono.rs y hy
    ·dsimp only;omega
   ·have e:(s.rs.set j {r with back:=true}).map Rn.at_=s.rs.map Rn.at_:=by
     rw[List.map_set]
     apply List.ext_getElem?
     intro q
     rw[List.getElem?_set]
     by_cases hq:j=q
     ·subst hq
      have hj2:=(List.getElem?_eq_some_iff.1 hr).1
      simp only[List.length_map,List.getElem?_map,if_true]
      rw[if_pos hj2,hr]
      rfl
     ·rw[if_neg hq]
    rw[e];exact ok.rn
theorem aR:St.Ok 0 St.zero:=⟨by decide,by decide,fun m hm=>by simp[St.zero]at hm,fun r hr=>by simp[St.zero]at hr,by simp[St.zero],by simp[St.zero],by simp[St.zero],by simp[St.zero]⟩
theorem Om {f:Nat->Ln}:∀{n:Nat},n<=61->(∀i,i<n->(f i).Valid 1099511627776)->(after f n).Ok n
 |0,_,_=>aR
 |n+1,h,hv=>step_ok (Om Af fun i hi=>hv i Af) Af (hv n Af)
end AE.Tryz

/- Clerk, walked: replay. -/
namespace AE.Tryz
open Go AE Go.Proofs AE.Clerk
set_option maxRecDepth 100000
set_option linter.unusedVariables false

def GM (f:Nat->Ln) (n q:Nat):List Value:=(List.range n).map fun i=>.int .i64 (if i<q then Ee f i else 0)
theorem WL (f:Nat->Ln) (n:Nat):Gk [.int .i64 0] n=GM f n 0:=by
 have:∀n,Gk [Value.int .i64 0] n=List.replicate n (.int .i64 0):=fun n=>by
  induction n with
  |zero=>rfl
  |succ n ih=>simp[Gk,ih,List.replicate_succ]
 rw[this]
 unfold GM
 apply List.ext_getElem
 ·simp
 ·intro i h1 h2
  simp
theorem IB (f:Nat->Ln) (n q:Nat):(GM f n q).length=n:=by simp[GM]
theorem Nu (f:Nat->Ln) {n q:Nat}(h:q<n):splice (GM f n q) (q*1) [.int .i64 (Ee f q)]=GM f n (q+1):=by
 unfold splice
 apply List.ext_getElem?
 intro i
 unfold GM
 rw[Nat.mul_one]
 rw[List.getElem?_append,List.getElem?_append]
 simp only[List.length_take,List.length_append,List.length_map,List.length_range,List.length_cons,List.length_nil]
 by_cases h1:i<q
 ·rw[if_pos Af,if_pos Af,List.getElem?_take,if_pos h1]
  simp only[List.getElem?_map]
  rw[List.getElem?_range Af]
  simp only[Option.map_some]
  rw[if_pos h1,if_pos Af]
 ·by_cases h2:i=q
  ·subst h2
   rw[if_pos Af,if_neg Af,show i - min i n=0 by omega]
   simp only[List.getElem?_cons_zero,List.getElem?_map]
   rw[List.getElem?_range Af]
   simp
  ·rw[if_neg Af,List.getElem?_drop]
   simp only[List.getElem?_map]
   rw[show q+1+(i - (min q n+(0+1)))=i by omega]
   by_cases h3:i<n
   ·rw[List.getElem?_range h3]
    simp only[Option.map_some]
    rw[if_neg Af,if_neg Af]
   ·rw[List.getElem?_eq_none (by simp;omega)]
    rfl
theorem WM (f:Nat->Ln) {n q:Nat}(h:Ee f q=0):GM f n q=GM f n (q+1):=by
 unfold GM
 refine List.map_congr_left fun i hi=>?_
 by_cases h1:i<q
 ·rw[if_pos h1,if_pos Af]
 ·by_cases h2:i=q
  ·subst h2;rw[if_neg h1,if_pos Af,h]
  ·rw[if_neg h1,if_neg Af]
def rF (h:H) (n:Nat) (f:Nat->Ln) (v:Value) (h':H):Prop:=
 (¬Good n f/\v= .tuple #[.pointer none,.slice none 0 0,.int .i64 (EX n f)])\/
 (Good n f/\∃(L:LP) (ps:Nat->Nat) (r:Nat),v= .tuple #[CF L.g,.slice (some ⟨r,0,none⟩) n n,.int .i64 0]/\Lg L h' ps (after f n)/\h.next<=L.g1/\h'.get r=some (.cells (GM f n n) 31)/\h.next<=r/\r<h'.next)
theorem Zm {a b:List Value}(h:a=b):Is a b:=by subst h;exact Is.rfl
theorem Lg.fr {L:LP}{h h':H}{ps:Nat->Nat}{s:St}(k:Lg L h ps s) (hs:∀q,q<h.next->(L.g1<=q/\q<=L.g)\/L.B<=q->h'.get q=h.get q) (hn:h.next<=h'.next):Lg L h' ps s:=by
 have o:=k.ord
 exact⟨(hs _ Af Af).trans k.g,(hs _ Af Af).trans k.m,(hs _ Af Af).trans k.c,(hs _ Af Af).trans k.o,fun i m hi=>by
  have:=k.pb i (List.getElem?_eq_some_iff.1 hi).1
  exact(hs _ this.2 (.inr this.1)).trans (k.p i m hi),fun i hi=>by have:=k.pb i hi;omega,k.pn,by omega⟩
theorem RV {P:Program}{lo Av:Nat}{ts:Ts}{h:H}{k:Value->H->Prop}{t:TypeId}{x:AP}{v:Value}(hx:ev ts x=v) (hw:I9 P t v=some v) (hk:k v h):Dj P lo Av ts h (.M6 t x) k:=
 Dj.mk (v:=v) (by simp only[BZ,keep,hx,hw,Option.map_some]) hk
theorem jT (v:Value):I9 Tryz.prog 206 (.iface 424 v)=some (.iface 424 v):=by kernel_rfl
theorem jU (v:Value):I9 Tryz.prog 206 (.iface 422 v)=some (.iface 422 v):=by kernel_rfl
theorem Tx {h:H}{e:Int}:AW Tryz.prog 625 h.next h [.agg ⟨[.int .i64 e]⟩] (fun v _=>v= .int .i64 e):=by
 refine gU.call rfl (Nat.le_refl _) ?_
 unfold mQ
 (refine Ai ?_)
 (refine AA ?_)
 rfl
theorem Rv {h:H}{e:Int}:AW Tryz.prog 626 h.next h [.agg ⟨[.int .i64 e]⟩] (fun v _=>v= .int .i64 10):=by
 refine gT.call rfl (Nat.le_refl _) ?_
 unfold mP
 (refine Ai ?_)
 (refine AA ?_)
 rfl
theorem YD {lo nb:Nat}{h:H}{k:Value->H->Prop}{fv:Value}{t:TypeId}{g:FuncId}{v:Value}{R:Value->H->Prop}(ef:fv= .func (.method "tumblehome/clerk.why") ⟨[.iface t v]⟩ ⟨[]⟩) (en:h.next=nb) (hlo:lo<=nb) (hm:Pb Tryz.prog t "tumblehome/clerk.why" =some g) (hc:AW Tryz.prog g h.next h [v] R)
 (hr:∀v h',R v h'->Quiet nb h h'->nb<=h'.next->k v h'):V5 Tryz.prog fv lo false h [] k:=by
 subst ef
 subst en
 obtain⟨r,h',hr0,a⟩:=hc
 have hq:=a.quiet
 exact .mk (AF.method hm (a.mono hlo)) (hr r h' hr0 hq hq.next)
theorem RQ {h:H}{B:Bk}{m:Nat}(hm:m<=h.next) (hB:B.Ok m h):AW Tryz.prog 42 h.next h [.slice B.b B.n B.c] (fun v h'=>rF h B.n B.f v h'):=by
 have l1:=hB.l
 refine lV.call rfl (Nat.le_refl _) ?_
 unfold a42
 (refine Cl ?_)
 apply Eo
 focus(exact Ae)
 focus(exact AK)
 focus exact S3 (m:=m) Ag (hB.same (m':=m) AO (Nat.le_refl _))
 intro h2 q2 n2
 by_cases hg:Good B.n B.f
 rotate_left
 ·have hne:EX B.n B.f≠0:=fun h=>hg (J5.1 h)
  generalize he:EX B.n B.f=e at hne
  (refine Cl ?_)
  (refine AA ?_)
  exact .inl ⟨hg,by rw[he]⟩
 rw[J5.2 hg]
 have n60:=hg.1
 have tj:Same m h h2:=by(exact AO)
 have b2:=hB.same tj (Nat.le_refl _)
 have om:m<=h2.next:=by(exact Ag)
 (refine Cl ?_)
 apply Dj.mk rfl
 (refine Cl ?_)
 apply Dj.mk rfl
 (refine Cl ?_)
 apply Dj.mk rfl
 (refine Cl ?_)
 apply O1 (a:=B.n) (b:=B.n)
 case hl=>exact rfl
 case hc=>exact rfl
 case hle=>exact Nat.le_refl _
 case hsm=>omega
 rw[WL B.f]
 (refine Cl ?_)
 obtain⟨L,hL⟩:∃L:LP,L=⟨h2.next+2,h2.next+3,h2.next+4,h2.next+6,h2.next+12⟩:=⟨_,rfl⟩
 have wJ:L.g1=h2.next+2:=by rw[hL]
 have vj:L.g=h2.next+6:=by rw[hL]
 have wI:L.B=h2.next+12:=by rw[hL]
 refine wp_loop (fun q:Nat=>[(6,CF L.g),(7,.slice (some ⟨h2.next+10,0,none⟩) B.n B.n),(26,.slice B.b B.n B.c),(27,.int .i64 B.n),(28,.int .i64 q)]) (fun q h1=>(∃ps,Lg L h1 ps (after B.f q))/\h1.get (h2.next+10)=some (.cells (GM B.f B.n q) 31)/\Same h2.next h2 h1/\h2.next+12<=h1.next/\q<=B.n) (fun q=>B.n - q) 0 ⟨by rw[vj];rfl,rfl,rfl,rfl,rfl,trivial⟩ ⟨⟨fun _=>0,?_⟩,Aa,AO,Ag,by omega⟩ ?_
 ·subst hL
  refine⟨?_,?_,?_,?_,fun i m hm=>?_,fun i hi=>?_,fun i j hi=>?_,⟨by dsimp only;omega,by dsimp only;omega,by dsimp only;omega,by dsimp only;omega,by dsimp only;(exact Ag)⟩⟩
  ·dsimp only[after,St.zero]
   (exact Aa)
  ·show _=some (A9.map [] 0)
   dsimp only
   (exact Aa)
  ·show _=some (A9.map [] 0)
   dsimp only
   (exact Aa)
  ·show _=some (A9.map [] 0)
   dsimp only
   (exact Aa)
  ·simp[after,St.zero]at hm
  ·simp[after,St.zero]at hi
  ·simp[after,St.zero]at hi
 rintro q g' h1 ⟨⟨ps,k⟩,go,s1,n1,hq⟩ K hK
 have o:=k.ord
 by_cases hlt:q<B.n
 ·have hv:=hg.2 q hlt
  have b3:=b2.same (s1.mono om) (Nat.le_refl _)
  have i3:=b3.i
  have e3:=b3.e
  have r3:=b3.r
  have hok:=Om (f:=B.f) (n:=q) Af fun i hi=>hg.2 i Af
  have i7:after B.f (q+1)=(Clerk.step (B.f q) q (after B.f q)).1:=rfl
  have rh:Ee B.f q=(Clerk.step (B.f q) q (after B.f q)).2:=rfl
  unfold Ln.cells at i3
  unfold CF
  (refine Cl ?_)
  apply En
  focus exact ri (x:=B.f q) (t:=q) (k.same (fun q hq=>Ac fun y hy=>Aa) Ag) Af hok Af hv
  rintro v h4 ⟨⟨vQ,k4⟩,rp,qS,n4⟩ q4
  have n5:h1.next+11<=h4.next:=by have:=q4.next;(exact Ag)
  have wA:h4.get (h2.next+10)=some (.cells (GM B.f B.n q) 31):=((qS _ Af Af).trans D6).trans go
  have s4:Same h2.next h2 h4:=fun i hi=>((qS i Af Af).trans D6).trans (s1 i hi)
  rw[<-i7]at k4
  rw[<-rh]at rp
  clear q4 qS n4
  rcases rp with⟨e0,rfl⟩|⟨e5,rfl⟩|⟨e10,z,rfl⟩|⟨x0,x5,vI,vH,vG,rfl⟩
  ·(refine Cl ?_)
   exact hK (q+1) _ _ ⟨rfl,rfl,rfl,rfl,BQ rfl Af,trivial⟩ ⟨⟨_,k4.same (fun q hq=>Ac fun y hy=>Aa) Ag⟩,by rw[<-WM B.f e0];(exact Aa),AO,Ag,by omega⟩ Af
  ·(refine Cl ?_)
   refine jw.mk (r:=h2.next+10) (off:=0+q*1) (c':=GM B.f B.n (q+1)) rfl Af Aa rfl rfl (Nat.ble_eq_true_of_le (by rw[IB];omega)) (Zm (by rw[Nat.zero_add,<-e5];exact Nu B.f hlt)) ?_
   (refine Cl ?_)
   exact hK (q+1) _ _ ⟨rfl,rfl,rfl,rfl,BQ rfl Af,trivial⟩ ⟨⟨_,k4.fr (fun q hq h0=>Ac fun y hy=>Aa) Ag⟩,Aa,AO,Ag,by omega⟩ Af
  ·(refine Cl ?_)
   apply RV rfl (jT _)
   (refine Cl ?_)
   apply YD
   focus exact rfl
   focus(exact Ae)
   focus(exact AK)
   focus kernel_rfl
   focus exact Rv
   rintro v h5 rfl q5 n5
   (refine Cl ?_)
   refine jw.mk (r:=h2.next+10) (off:=0+q*1) (c':=GM B.f B.n (q+1)) rfl Af Aa rfl rfl (Nat.ble_eq_true_of_le (by rw[IB];omega)) (Zm (by rw[Nat.zero_add];rw[<-e10];exact Nu B.f hlt)) ?_
   (refine Cl ?_)
   exact hK (q+1) _ _ ⟨rfl,rfl,rfl,rfl,BQ rfl Af,trivial⟩ ⟨⟨_,k4.fr (fun q hq h0=>Ac fun y hy=>Aa) Ag⟩,Aa,AO,Ag,by omega⟩ Af
  ·(refine Cl ?_)
   apply RV rfl (jU _)
   (refine Cl ?_)
   apply YD
   focus exact rfl
   focus(exact Ae)
   focus(exact AK)
   focus kernel_rfl
   focus exact Tx
   rintro v h5 rfl q5 n5
   (refine Cl ?_)
   refine jw.mk (r:=h2.next+10) (off:=0+q*1) (c':=GM B.f B.n (q+1)) rfl Af Aa rfl rfl (Nat.ble_eq_true_of_le (by rw[IB];omega)) (Zm (by rw[Nat.zero_add];exact Nu B.f hlt)) ?_
   (refine Cl ?_)
   exact hK (q+1) _ _ ⟨rfl,rfl,rfl,rfl,BQ rfl Af,trivial⟩ ⟨⟨_,k4.fr (fun q hq h0=>Ac fun y hy=>Aa) Ag⟩,Aa,AO,Ag,by omega⟩ Af
 obtain rfl:q=B.n:=by omega
 clear hK
 (refine Cl ?_)
 (refine AA ?_)
 exact .inr ⟨hg,L,ps,h2.next+10,rfl,k.fr (fun q hq h0=>Ac fun y hy=>Aa) Ag,by omega,Aa,by omega,Ag⟩
end AE.Tryz

/- Clerk: the keys of a map, sorted, as_ a call of the evaluator. -/
namespace Go.Proofs
open Go.RowKit Go.Maps Go.Sort Go.Shelf
set_option maxRecDepth 100000
theorem Tryz.keyOf2 {k:Int}(h: -9223372036854775808<=k/\k<=9223372036854775807):keyOf Tryz.prog 2 (.int .i64 k)=some (Lit.int .i64 k):=by
 have hw:(Lit.int .i64 k).wf=true:=by
  show(decide (IntKind.i64.min<=k)&&decide (k<=IntKind.i64.max))=true
  have e1:IntKind.i64.min= -9223372036854775808:=by decide
  have e2:IntKind.i64.max=9223372036854775807:=by decide
  rw[e1,e2]
  simp only[Bool.and_eq_true,decide_eq_true_eq]
  exact h
 unfold keyOf
 rw[Tryz.underlying2]
 simp only
 unfold mapKey
 rw[Tryz.underlying2]
 simp[hw]
theorem Tryz.rd2 {x:MapEntry}{k:Int}(hx:x.key= .int .i64 k) (h: -9223372036854775808<=k/\k<=9223372036854775807):WideElems.rd Tryz.prog 2 OI x=some (Lit.int .i64 k,DataW.nil):=by
 unfold WideElems.rd
 rw[hx,Tryz.keyOf2 h]
 rfl
theorem Tryz.sortedK (w:World) (bm b clock:Nat) (es:Array MapEntry) (ks:List Int) (qI:bm<w.heap.size) (hcell:w.cell? ⟨bm,0,none⟩=some (.map (some b))) (hb:w.heap[b]? =some (.map es clock)) (hks:es.toList.map (·.key)=ks.map (Value.int .i64)) (hn:ks.Nodup) (hbd:∀k∈ks, -9223372036854775808<=k/\k<=9223372036854775807)
 (hb1:∀x∈es.toList,x.born<clock) (hb2:(es.toList.map (·.born)).Nodup) (hl:ks.length<=1000):
 Calls Tryz.prog 106 #[.func (.func 189) #[] #[.pointer (some ⟨bm,0,none⟩)]] w fun e w'=>∃(v:Value),e= .returned v/\
  w'.ownsRow w.heap.size 2 1 v ks.length ((ks.mergeSort (fun x y=>decide (x<=y))).map encZ)/\(v= .slice none 0 0↔ks=[])/\Below w.heap.size w w':=by
 have hlen:es.size=ks.length:=by
  have:=congrArg List.length hks
  simpa using this
 have hread:∀x∈es.toList,∃k,k∈ks/\x.key= .int .i64 k/\WideElems.rd Tryz.prog 2 OI x=some (Lit.int .i64 k,DataW.nil):=fun x hx=>by
  have:x.key∈ks.map (Value.int .i64):=by rw[<-hks];exact List.mem_map_of_mem hx
  obtain⟨k,hk,e⟩:=List.mem_map.1 this
  exact⟨k,hk,e.symm,Tryz.rd2 e.symm (hbd k hk)⟩
 have hrg:es.toList.map (fun x=>Go.intOf (WideElems.rg Tryz.prog 2 OI x).1)=ks:=by
  have e1:es.toList.map (fun x=>Go.intOf (WideElems.rg Tryz.prog 2 OI x).1)=(es.toList.map (·.key)).map (fun v=>match v with|.int _ k=>k|_=>0):=by
   rw[List.map_map]
   refine List.map_congr_left fun x hx=>?_
   obtain⟨k, -,e,hr⟩:=hread x hx
   unfold WideElems.rg
   rw[hr]
   simp[Go.intOf,e]
  rw[e1,hks,List.map_map]
  conv=>rhs;rw[<-List.map_id ks]
  rfl
 have hmx:(1000:Nat)<=maxLen:=by unfold maxLen;exact Nat.le_of_ble_eq_true rfl
 have qE:(es.toList.map (·.key)).Nodup:=by
  rw[hks]
  exact List.Pairwise.map _ (fun a b h e=>h (by simpa using e)) hn
 have hown:w.ownsMap Tryz.prog 2 OI b es.size (.map ((es.toList.map (WideElems.rg Tryz.prog 2 OI)).foldr DataW.insert [])):=
  ⟨es,clock,hb,⟨by rw[hlen];omega,⟨hb1,hb2,qE⟩,fun x hx=>by obtain⟨k, -, -,hr⟩:=hread x hx;exact⟨_,hr⟩⟩,Nat.le_refl _,rfl⟩
 have hperm:=WideShapes.sorted_perm (es.toList.map (WideElems.rg Tryz.prog 2 OI))
 have hkeys:(intKeys (DataW.map ((es.toList.map (WideElems.rg Tryz.prog 2 OI)).foldr DataW.insert []))).Perm ks:=by
  unfold intKeys
  have:=hperm.map (fun p=>Go.intOf p.1)
  rw[List.map_map]at this
  exact this.trans (List.Perm.of_eq hrg)
 have hsize:Maps.size (DataW.map ((es.toList.map (WideElems.rg Tryz.prog 2 OI)).foldr DataW.insert []))=ks.length:=by
  rw[Maps.size_eq,hperm.length_eq,List.length_map]
  simpa using hlen
 refine(Tryz.sortedD w bm b es.size _ qI hcell hown (by rw[hsize];omega) (by rw[hsize];omega)).mono ?_
 rintro e w' ⟨v,ss,rfl,hp,hrow,hnil,hbel⟩
 have hp2:=hp.trans hkeys
 have hl2:=hp2.length_eq
 rw[hl2,mergeSort_of_perm_i hp2]at hrow
 refine⟨v,rfl,hrow,hnil.trans ⟨fun h=>?_,fun h=>?_⟩,hbel⟩
 ·subst h;simpa using hl2.symm
 ·subst h;simpa using hl2
end Go.Proofs

/- Clerk: the keys of a map, sorted, by the evaluator. -/
namespace AE.Tryz
open Go AE Go.Proofs AE.Clerk Go.RowKit
set_option maxRecDepth 100000
set_option linter.unusedVariables false

theorem YB {I:Al}(l:List (EG Int)):((l.map (EG.ent fun k:Int=>Value.int .i64 k)).map (B0 I)).map (·.key)=(l.map EG.k).map (Value.int .i64):=by
 rw[List.map_map,List.map_map,List.map_map]
 refine List.map_congr_left fun e he=>?_
 simp[B0,EG.ent,ren]
theorem WH {I:Al}(l:List (EG Int)):((l.map (EG.ent fun k:Int=>Value.int .i64 k)).map (B0 I)).map (·.born)=l.map EG.b:=by
 rw[List.map_map,List.map_map]
 rfl
def Kh (ks:List Int):List Int:=ks.mergeSort (fun x y=>decide (x<=y))
theorem L4 {h:H}{bx r n:Nat}{es:List (EG Int)}(hbx:h.get bx=some (.cells [.map (some r)] 122)) (hr:h.get r=some (.map (es.map (EG.ent fun k:Int=>Value.int .i64 k)) n)) (hn:(es.map EG.k).Nodup) (hb1:∀e∈es,e.b<n) (hb2:(es.map EG.b).Nodup) (hbd:∀e∈es, -9223372036854775808<=e.k/\e.k<=9223372036854775807) (hl:es.length<=1000)
 {I:Al} {w:World} (k:Rel I h w) (ia:BH I [.func (.func 189) ⟨[]⟩ ⟨[.pointer (some ⟨bx,0,none⟩)]⟩]):
 Calls Tryz.prog 106 ⟨Ah I [.func (.func 189) ⟨[]⟩ ⟨[.pointer (some ⟨bx,0,none⟩)]⟩]⟩ w fun e w'=>∃(v:Value),e= .returned v/\
  w'.ownsRow w.heap.size 2 1 v (es.map EG.k).length ((Kh (es.map EG.k)).map (Value.int .i64))/\(v= .slice none 0 0↔es.map EG.k=[])/\Below w.heap.size w w':=by
 simp only[BH,In,Jt]at ia
 obtain⟨⟨-, -,⟨p,hp⟩, -⟩, -⟩:=ia
 obtain⟨ic,B,e1,e2,e3⟩:=k.rows bx _ hbx ⟨_,_,hp⟩
 have hpe:p=(B,0):=by
  rw[e1]at hp
  exact(Option.some.inj hp).symm
 subst hpe
 simp only[BH,In,eM]at ic
 obtain⟨⟨c,hc⟩, -⟩:=ic
 obtain⟨-,M,f1,f2,f3⟩:=k.rows r _ hr ⟨_,_,hc⟩
 have hM:c=M:=by
  rw[f1]at hc
  simp at hc
  exact hc.symm
 subst hM
 have ea:(⟨Ah I [.func (.func 189) ⟨[]⟩ ⟨[.pointer (some ⟨bx,0,none⟩)]⟩]⟩:Array Value)= #[.func (.func 189) #[] #[.pointer (some ⟨B,0,none⟩)]]:=by
  simp[Ah,ren,DY,Cx,e1]
 rw[ea]
 have hcell:w.cell? ⟨B,0,none⟩=some (.map (some c)):=by
  simp[World.cell?,e3,Ah,ren,Al.blk,f1]
 refine(Tryz.sortedK w B c n _ (es.map EG.k) (lt_of_heap e3) hcell f3 (by simpa using YB es) hn (fun z hz=>?_) (fun x hx=>?_) (by
  have:=WH (I:=I) es
  simp only[List.map_map]at this⊢
  rw[this];exact hb2) (by simpa using hl)).mono fun e w' h=>h
 ·obtain⟨e,he,rfl⟩:=List.mem_map.1 hz
  exact hbd e he
 ·simp only[List.mem_map]at hx
  obtain⟨y,⟨e,he,rfl⟩,rfl⟩:=hx
  exact hb1 e he
end AE.Tryz
namespace AE.Tryz
open Go AE Go.Proofs AE.Clerk Go.RowKit
set_option maxRecDepth 100000
set_option linter.unusedVariables false
theorem Wx (ks:List Int):(Kh ks).length=ks.length:=List.length_mergeSort ..
theorem Xq (l:List Int):B7 (l.map (Value.int .i64))=true:=by
 induction l with
 |nil=>rfl
 |cons x l ih=>simp[B7,flat,ih]
theorem Yn {h:H}{bx r n:Nat}{es:List (EG Int)}(hbx:h.get bx=some (.cells [.map (some r)] 122)) (hr:h.get r=some (.map (es.map (EG.ent fun k:Int=>Value.int .i64 k)) n)) (hn:(es.map EG.k).Nodup) (hb1:∀e∈es,e.b<n) (hb2:(es.map EG.b).Nodup) (hbd:∀e∈es, -9223372036854775808<=e.k/\e.k<=9223372036854775807) (hl:es.length<=1000):
 AW Tryz.prog 106 h.next h [.func (.func 189) ⟨[]⟩ ⟨[.pointer (some ⟨bx,0,none⟩)]⟩] (fun v h'=>∃b,v= .slice b es.length 0/\GG h.next h' 2 1 es.length ((Kh (es.map EG.k)).map (Value.int .i64)) b/\h.next<=h'.next/\(0<es.length->h.next<h'.next)):=by
 have hlen:(es.map EG.k).length=es.length:=List.length_map ..
 rcases Nat.eq_zero_or_pos es.length with h0|h0
 ·have he:es=[]:=List.length_eq_zero_iff.1 h0
  subst he
  refine⟨_,_,⟨none,rfl,.inl ⟨rfl,rfl,by simp[Kh]⟩,Nat.le_refl _,fun h=>absurd h (Nat.lt_irrefl 0)⟩,AF.of_below (enters_of Tryz.func106 (by kernel_rfl) rfl) rfl fun I w k i=>?_⟩
  refine(L4 hbx hr hn hb1 hb2 hbd hl k i).mono ?_
  rintro e w' ⟨v,rfl, -,hnil,hb⟩
  exact⟨by rw[hnil.2 rfl];rfl,hb⟩
 ·have hcl:((Kh (es.map EG.k)).map (Value.int .i64)).length=es.length:=by rw[List.length_map,Wx,hlen]
  have af:AF Tryz.prog 106 h.next h [.func (.func 189) ⟨[]⟩ ⟨[.pointer (some ⟨bx,0,none⟩)]⟩] (.slice (some ⟨h.next,0,some 0⟩) ((Kh (es.map EG.k)).map (Value.int .i64)).length 0) ((h.bump 1).put h.next (.grow ((Kh (es.map EG.k)).map (Value.int .i64)) 2 1 [((Kh (es.map EG.k)).map (Value.int .i64)).length] 0)):=by
   refine AF.Qt (enters_of Tryz.func106 (by kernel_rfl) rfl) (Xq _) (Nat.le_refl _) fun I w k i=>?_
   refine(L4 hbx hr hn hb1 hb2 hbd hl k i).mono ?_
   rintro e w' ⟨v,rfl,⟨hxl,hrow⟩,hnil,hb⟩
   rcases hrow with⟨rfl,h1⟩|⟨g,cap,cur,rfl,h1,h2,h3,h4,h5,h6⟩
   ·have:=hnil.1 rfl
    rw[this]at hlen
    simp at hlen
    omega
   ·rw[Nat.mul_one]at h5 h6 hxl
    refine⟨g,cur,cap,h1,h2,h5,by rw[hxl];exact h3,fun i hi=>?_,hb,by rw[hxl]⟩
    rw[<-h6,List.getElem?_take,if_pos (by rw[hxl]at hi;exact hi)]
    simp
  rw[hcl]at af
  refine⟨_,_,⟨_,rfl,.inr ⟨h0,hcl.trans (Nat.mul_one _).symm,0,[es.length],0,rfl,by simp[H.put],Nat.le_refl _,rfl,by simp[Ea,hcl],h0⟩,by simp[H.put,H.bump],fun _=>by simp[H.put,H.bump]⟩,af⟩
end AE.Tryz

/- Clerk, walked: sorted. -/
namespace AE.Clerk
def Db (ms:List CU):List CU:=ms.mergeSort fun x y=>decide (x.no<=y.no)
end AE.Clerk
namespace AE.Tryz
open Go AE Go.Proofs AE.Clerk
set_option maxRecDepth 100000
set_option linter.unusedVariables false

theorem Hv (ms:List CU):(Db ms).Perm ms:=List.mergeSort_perm _ _
theorem Je (ms:List CU):(Db ms).length=ms.length:=(Hv ms).length_eq
theorem P9 (ms:List CU):(Db ms).Pairwise (fun x y=>x.no<=y.no):=by
 have:=List.pairwise_mergeSort (le:=fun x y:CU=>decide (x.no<=y.no)) (fun a b c h1 h2=>by simp only[decide_eq_true_eq]at*;omega) (fun a b=>by simp only[Bool.or_eq_true,decide_eq_true_eq];omega) ms
 exact this.imp fun h=>by simpa using h
theorem Ww (ms:List CU):Kh (ms.map CU.no)=(Db ms).map CU.no:=by
 have tr:∀a b c:Int,leI a b=true->leI b c=true->leI a c=true:=fun a b c h1 h2=>by simp only[leI,decide_eq_true_eq]at*;exact Int.le_trans h1 h2
 have to:∀a b:Int,(leI a b||leI b a)=true:=fun a b=>by simp only[leI,Bool.or_eq_true,decide_eq_true_eq];exact Int.le_total a b
 refine List.Perm.eq_of_pairwise (le:=fun a b=>a<=b) (fun a b _ _ h1 h2=>Int.le_antisymm h1 h2) ?_ ?_ ((List.mergeSort_perm _ _).trans ((Hv ms).map CU.no).symm)
 ·exact(List.pairwise_mergeSort tr to (ms.map CU.no)).imp fun h=>by simpa using h
 ·exact List.pairwise_map.2 (P9 ms)
theorem ND {ms:List CU}(hn:(ms.map CU.no).Nodup) {m:CU}(hm:m∈ms):∃i,IJ ms m.no=some i/\ms[i]? =some m:=by
 induction ms with
 |nil=>simp at hm
 | cons y ms ih=>
   simp only[List.map_cons,List.nodup_cons]at hn
   rw[NF]
   rcases List.mem_cons.1 hm with rfl|h
   ·exact⟨0,by rw[if_pos rfl],rfl⟩
   ·obtain⟨i,h1,h2⟩:=ih hn.2 h
    have:y.no≠m.no:=fun e=>hn.1 (List.mem_map.2 ⟨m,h,e.symm⟩)
    exact⟨i+1,by rw[if_neg this,h1];rfl,by simpa using h2⟩
def aP (ps:Nat->Nat) (ms:List CU) (m:CU):Nat:=ps ((IJ ms m.no).getD 0)
theorem gj {h:H}{r:Nat}:AW Tryz.prog 107 h.next h [.map (some r)] (fun v h'=>∃bx,v= .func (.func 189) ⟨[]⟩ ⟨[.pointer (some ⟨bx,0,none⟩)]⟩/\h'.get bx=some (.cells [.map (some r)] 122)/\h.next<=bx/\bx<h'.next):=by
 refine iN.call rfl (Nat.le_refl _) ?_
 unfold a107
 (refine Ai ?_)
 (refine AA ?_)
 exact⟨_,rfl,Aa,by omega,Ag⟩
theorem Wv {L:LP}{h:H}{ps:Nat->Nat}{s:St}{t:Nat}(k:Lg L h ps s) (ok:s.Ok t) (ht:t<=60):
 AW Tryz.prog 43 h.next h [.map (some L.g1)] (fun v h'=>∃r,v= .slice (FF r s.ms.length) s.ms.length 0/\GX r h' 128 1 s.ms.length ((Db s.ms).map fun m=>CF (aP ps s.ms m))/\(0<s.ms.length->h.next<=r/\r<h'.next)):=by
 have qw:=k.ord
 have hml:=ok.ml
 have km:h.get L.g1=some (.map ((DG ps s.ms 0).map (EG.ent fun k:Int=>Value.int .i64 k)) s.ms.length):=k.m
 refine lU.call rfl (Nat.le_refl _) ?_
 unfold a43
 (refine Ai ?_)
 apply Ak
 focus(exact Ae)
 focus(exact AK)
 focus exact gj
 rintro v h2 ⟨bx,rfl,gb,bx1,wL⟩ q2 n2
 (refine Ai ?_)
 have hkeys:((DG ps s.ms 0).map EG.k)=s.ms.map CU.no:=NA
 have dZ:(DG ps s.ms 0).length=s.ms.length:=by
  have:=congrArg List.length hkeys
  simpa using this
 have rU:∀e∈DG ps s.ms 0,e.b<s.ms.length/\∃m∈s.ms,e.k=m.no:=by
  have:∀(ms:List CU) (i:Nat),∀e∈DG ps ms i,e.b<i+ms.length/\∃m∈ms,e.k=m.no:=fun ms=>by
   induction ms with
   |nil=>intro i e he;simp[DG]at he
   | cons m ms ih=>
     intro i e he
     rcases List.mem_cons.1 he with rfl|he
     ·exact⟨by simp,m,by simp,rfl⟩
     ·obtain⟨h1,m',h2,h3⟩:=ih (i+1) e he
      exact⟨by simp only[List.length_cons];omega,m',by simp[h2],h3⟩
  intro e he
  have:=this s.ms 0 e he
  rwa [Nat.zero_add]at this
 have hbn:((DG ps s.ms 0).map EG.b).Nodup:=by
  have:∀(ms:List CU) (i:Nat),((DG ps ms i).map EG.b)=List.range' i ms.length:=fun ms=>by
   induction ms with
   |nil=>intro i;rfl
   |cons m ms ih=>intro i;simp[DG,ih (i+1),List.range'_succ]
  rw[this]
  exact List.nodup_range'
 apply Ak
 focus(exact Ae)
 focus(exact AK)
 focus exact Yn (bx:=bx) (r:=L.g1) (n:=s.ms.length) (es:=DG ps s.ms 0) Aa Aa (by rw[hkeys];exact ok.mn) (fun e he=>(rU e he).1) hbn (fun e he=>by
        obtain⟨-,m,hm,e1⟩:=rU e he
        have:=(ok.ms m hm).no
        omega) Af
 rintro v h3 ⟨b,rfl,gg,n3,pY⟩ q3 uv
 rw[hkeys,dZ,Ww]at gg
 rw[dZ]at pY⊢
 have cQ:((Db s.ms).map CU.no).map (Value.int .i64)=rowsOf (fun i=>[.int .i64 (((Db s.ms).map CU.no).getD i 0)]) s.ms.length:=by
  have:=HO (fun x:Int=>[Value.int .i64 x]) ((Db s.ms).map CU.no) 0
  rw[List.length_map,Je]at this
  rw[<-this]
  unfold cellsOf
  rw[List.map_eq_flatMap]
 rw[cQ]at gg
 obtain⟨ka,qi,qh,nN⟩:=GG.els gg (fun _=>rfl)
 clear gg
 (refine Ai ?_)
 have hS:∀q,q<s.ms.length->∃m i,(Db s.ms)[q]? =some m/\((Db s.ms).map CU.no).getD q 0=m.no/\IJ s.ms m.no=some i/\s.ms[i]? =some m:=fun q hq=>by
  have hq':q<(Db s.ms).length:=by rw[Je];exact hq
  obtain⟨i,h1,h2⟩:=ND ok.mn ((Hv s.ms).mem_iff.1 (List.getElem_mem hq'))
  refine⟨(Db s.ms)[q],i,List.getElem?_eq_getElem hq',?_,h1,h2⟩
  rw[List.getD_eq_getElem?_getD,List.getElem?_map,List.getElem?_eq_getElem hq']
  rfl
 have oc:0<s.ms.length->ka.block<h3.next:=fun h0=>by have:=nN h0;have:=pY h0;omega
 refine wp_loop (fun q:Nat × Nat=>[(0,.map (some L.g1)),(3,.slice (FF q.2 q.1) q.1 0),(8,.slice b s.ms.length 0),(9,.int .i64 s.ms.length),(10,.int .i64 q.1)]) (fun q h1=>Same h3.next h3 h1/\h3.next<=h1.next/\q.1<=s.ms.length/\GX q.2 h1 128 1 q.1 (((Db s.ms).take q.1).map fun m=>CF (aP ps s.ms m))/\(0<q.1->h3.next<=q.2/\q.2<h1.next)) (fun q=>s.ms.length - q.1) (0,0) ⟨rfl,rfl,rfl,rfl,rfl,trivial⟩ ⟨AO,Ag,by simp,GX.nil,fun h=>absurd h (Nat.lt_irrefl 0)⟩ ?_
 rintro⟨q,r⟩ g' h1 ⟨s1,n1,hq,gx,gr⟩ K hK
 dsimp only at hq gx gr⊢
 by_cases hlt:q<s.ms.length
 ·obtain⟨m,i,hm1,hm2,NU,wh⟩:=hS q hlt
  have qg:=(qh.same s1 oc).at hlt
  try dsimp only at qg
  rw[hm2]at qg
  have eb:=qi Af
  subst eb
  have vY:h1.get L.g1=some (.map ((DG ps s.ms 0).map (EG.ent fun k:Int=>Value.int .i64 k)) s.ms.length):=(s1 _ Af).trans Aa
  have hget:=ME (ps:=ps) (n:=m.no) (ms:=s.ms) (i:=0)
  rw[NU,Option.map_some,Nat.zero_add]at hget
  have hat:aP ps s.ms m=ps i:=by unfold aP;rw[NU];rfl
  (refine Ai ?_)
  apply Qm (r:=L.g1) (es:=DG ps s.ms 0) (c:=s.ms.length) (k:=m.no) (Gm.i64 Tryz.underlying2)
  focus exact rfl
  focus exact rfl
  focus(exact Aa)
  rw[hget]
  simp only[Option.getD_some]
  (refine Ai ?_)
  apply YF (r:=r) (n:=q) (cs:=((Db s.ms).take q).map fun m=>CF (aP ps s.ms m)) (nc:=[CF (ps i)])
  case G=>exact gx.frame fun h0=>Ac fun y hy=>by have:=gr h0;(exact Aa)
  case hsv=>exact rfl
  case C=>
   apply Cells.one
   focus(apply B6;(focus(exact Aa));(focus exact rfl))
   focus(unfold far;omega)
   focus exact rfl
   focus exact rfl
  case hlo=>exact fun h0=>by have:=gr h0;omega
  case hsm=>omega
  intro r' hr0 hr1 g8
  have rb:h3.next<=r':=by
   rcases Nat.eq_zero_or_pos q with h0|h0
   ·have:=hr0 h0;omega
   ·have:=hr1 h0;have:=gr h0;omega
  (refine Ai ?_)
  refine hK (q+1,r') _ _ ⟨rfl,rfl,rfl,rfl,BQ rfl (by dsimp only;omega),trivial⟩ ⟨AO,Ag,by dsimp only;omega,?_,fun _=>⟨rb,?_⟩⟩ (by dsimp only;omega)
  ·dsimp only
   rw[List.take_add_one,hm1,Option.toList_some,List.map_append,List.map_cons,List.map_nil,hat]
   exact g8.frame fun _=>Ac fun y hy=>by(exact Aa)
  ·dsimp only
   rcases Nat.eq_zero_or_pos q with h0|h0
   ·have:=hr0 h0;(exact Ag)
   ·have:=hr1 h0;have:=gr h0;(exact Ag)
 obtain rfl:q=s.ms.length:=by omega
 clear hK
 (refine Ai ?_)
 (refine AA ?_)
 rw[List.take_of_length_le (by rw[Je];exact Nat.le_refl _)]at gx
 exact⟨r,rfl,gx.frame fun _=>Ac fun y hy=>Aa,fun h0=>by have:=gr h0;exact⟨by omega,Ag⟩⟩
end AE.Tryz

/- Clerk, walked: Replay, State. -/
namespace AE.Tryz
open Go AE Go.Proofs AE.Clerk
set_option maxRecDepth 100000
set_option linter.unusedVariables false

def nC (h:H) (n:Nat) (f:Nat->Ln) (v:Value) (h':H):Prop:=
 (¬Good n f/\v= .tuple #[.slice none 0 0,.int .i64 (EX n f)])\/
 (Good n f/\∃(r:Nat),v= .tuple #[.slice (some ⟨r,0,none⟩) n n,.int .i64 0]/\h'.get r=some (.cells (GM f n n) 31)/\h.next<=r/\r<h'.next)
theorem Tj {h:H}{B:Bk}{m:Nat}(hm:m<=h.next) (hB:B.Ok m h):AW Tryz.prog 14 h.next h [.slice B.b B.n B.c] (fun v h'=>nC h B.n B.f v h'):=by
 refine l5.call rfl (Nat.le_refl _) ?_
 unfold sI
 (refine Ai ?_)
 apply Ak
 focus(exact Ae)
 focus(exact AK)
 focus exact RQ (m:=m) Ag (hB.same (m':=m) AO (Nat.le_refl _))
 rintro v h2 (⟨hg,rfl⟩|⟨hg,L,ps,r,rfl,k,k1,g,r1,r2⟩) q2 n2
 ·(refine Ai ?_)
  (refine AA ?_)
  exact .inl ⟨hg,rfl⟩
 ·(refine Ai ?_)
  (refine AA ?_)
  exact .inr ⟨hg,r,rfl,Aa,Ag,Ag⟩
def OD (m:CU):List Value:=[.int .i64 m.no,.int .i64 m.stage,.int .i64 m.E7,.int .i64 m.runs,.int .i64 m.opn,.int .i64 m.billed,.int .i64 m.claimed,.int .i64 m.paid]
def jy (h:H) (n:Nat) (f:Nat->Ln) (v:Value) (h':H):Prop:=
 (¬Good n f/\v= .tuple #[.agg ⟨[.int .i64 0,.int .i64 0,.slice none 0 0]⟩,.int .i64 (EX n f)])\/
 (Good n f/\∃r,v= .tuple #[.agg ⟨[.int .i64 (after f n).BS,.int .i64 (after f n).lost,.slice (FF r (after f n).ms.length) (after f n).ms.length 0]⟩,.int .i64 0]/\GX r h' 52 8 (after f n).ms.length (cellsOf OD (Db (after f n).ms))/\(0<(after f n).ms.length->h.next<=r/\r<h'.next))
theorem dF {h:H}{B:Bk}{m:Nat}(hm:m<=h.next) (hB:B.Ok m h):AW Tryz.prog 15 h.next h [.slice B.b B.n B.c] (fun v h'=>jy h B.n B.f v h'):=by
 refine lZ.call rfl (Nat.le_refl _) ?_
 unfold sH
 (refine Ai ?_)
 apply Ak
 focus(exact Ae)
 focus(exact AK)
 focus exact RQ (m:=m) Ag (hB.same (m':=m) AO (Nat.le_refl _))
 rintro v h2 (⟨hg,rfl⟩|⟨hg,L,ps,r,rfl,k,k1, -, -, -⟩) q2 n2
 ·have hne:EX B.n B.f≠0:=fun h=>hg (J5.1 h)
  generalize he:EX B.n B.f=e at hne
  (refine Ai ?_)
  (refine AA ?_)
  exact .inl ⟨hg,by rw[he]⟩
 have ok:=Om (f:=B.f) (n:=B.n) (by have:=hg.1;omega) hg.2
 have n60:=hg.1
 unfold jy
 generalize after B.f B.n=s at*
 have qw:=k.ord
 have kg:=k.g
 unfold CF
 (refine Ai ?_)
 apply Ak
 focus(exact Ae)
 focus(exact AK)
 focus exact Wv (k.same (fun q hq=>Ac fun y hy=>Aa) Ag) ok n60
 rintro v h3 ⟨r3,rfl,qO,u3⟩ q3 n3
 (refine Ai ?_)
 have hml:=ok.ml
 have hl:=Je s.ms
 have cQ:((Db s.ms).map fun m=>CF (aP ps s.ms m))=rowsOf (fun i=>[((Db s.ms).map fun m=>CF (aP ps s.ms m)).getD i .nilFunc]) s.ms.length:=by
  have:=HO (fun x:Value=>[x]) ((Db s.ms).map fun m=>CF (aP ps s.ms m)) .nilFunc
  rw[List.length_map,hl]at this
  rw[<-this]
  unfold cellsOf
  rw[List.flatMap_singleton']
 rw[cQ]at qO
 obtain⟨ka,qi,qh,nN⟩:=GG.els (lH qO) (fun _=>rfl)
 clear cQ qO
 have lJ:0<s.ms.length->h2.next+20<=r3/\r3<h3.next:=fun h0=>by
  have:=u3 h0
  refine⟨?_,this.2⟩
  have h1:=this.1
  (exact Ag)
 have hS:∀q,q<s.ms.length->∃m i,(Db s.ms)[q]? =some m/\((Db s.ms).map fun m=>CF (aP ps s.ms m)).getD q .nilFunc= .pointer (some ⟨ps i,0,none⟩)/\s.ms[i]? =some m:=fun q hq=>by
  have hq':q<(Db s.ms).length:=by rw[hl];exact hq
  obtain⟨i,h1,h2⟩:=ND ok.mn ((Hv s.ms).mem_iff.1 (List.getElem_mem hq'))
  refine⟨(Db s.ms)[q],i,List.getElem?_eq_getElem hq',?_,h2⟩
  rw[List.getD_eq_getElem?_getD,List.getElem?_map,List.getElem?_eq_getElem hq']
  simp only[Option.map_some,Option.getD_some,aP,h1]
  rfl
 have oc:0<s.ms.length->ka.block<h3.next:=fun h0=>by have:=nN h0;have:=lJ h0;omega
 refine wp_loop (fun q:Nat × Nat=>[(2,.pointer (some ⟨h.next,0,none⟩)),(7,.pointer (some ⟨h2.next+11,0,none⟩)),(33,.slice (FF r3 s.ms.length) s.ms.length 0),(34,.int .i64 s.ms.length),(35,.int .i64 q.1)]) (fun q h1=>h1.get h.next=some (.cells [.int .i64 0,.int .i64 0,.slice none 0 0] 47)/\h1.get (h2.next+11)=some (.cells [.int .i64 s.BS,.int .i64 s.lost,.slice (FF q.2 q.1) q.1 0] 47)/\(∀i,i<h3.next->i≠h2.next+11->h1.get i=h3.get i)/\h3.next<=h1.next/\q.1<=s.ms.length/\GX q.2 h1 52 8 q.1 (cellsOf OD ((Db s.ms).take q.1))/\(0<q.1->h3.next<=q.2/\q.2<h1.next)) (fun q=>s.ms.length - q.1) (0,0) ⟨rfl,rfl,rfl,rfl,rfl,trivial⟩ ⟨Aa,Aa,fun i h1 h2=>rfl,Nat.le_refl _,by simp,GX.nil,fun h=>absurd h (Nat.lt_irrefl 0)⟩ ?_
 rintro⟨q,r⟩ g' h1 ⟨x0,x7,fr,n1,hq,gx,gr⟩ K hK
 dsimp only at x7 hq gx gr⊢
 have k1:=k.same (h':=h3) (fun q hq=>Ac fun y hy=>Aa) Ag
 by_cases hlt:q<s.ms.length
 ·obtain⟨m,i,hm1,hm2,NU⟩:=hS q hlt
  have hpb:=k.pb i (List.getElem?_eq_some_iff.1 NU).1
  have hp:=k1.p i m NU
  have wC:=lJ Af
  have qg:h1.Az (BB ka (q*1)) 1=some [.pointer (some ⟨ps i,0,none⟩)]:=by
   rw[<-hm2]
   rw[H.Az,fr _ (by have:=oc Af;exact this) (by have:=nN Af;show ka.block≠_;omega)]
   exact qh q hlt
  have eb:=qi Af
  have hp1:h1.get (ps i)=some (.cells (Cq m) 130):=(fr _ Af Af).trans hp
  unfold Cq at hp1
  rw[eb]
  (refine Ai ?_)
  apply YF (r:=r) (n:=q) (cs:=cellsOf OD ((Db s.ms).take q)) (nc:=OD m)
  case G=>exact gx.frame fun h0=>Ac fun y hy=>by have:=gr h0;(exact Aa)
  case hsv=>exact rfl
  case C=>
   apply Cells.one
   focus(apply B6;(focus(exact Aa));(focus exact rfl))
   focus(unfold far;omega)
   focus exact rfl
   focus exact rfl
  case hlo=>exact fun h0=>by have:=gr h0;omega
  case hsm=>omega
  intro r' hr0 hr1 g8
  have rb:h3.next<=r':=by
   rcases Nat.eq_zero_or_pos q with h0|h0
   ·have:=hr0 h0;omega
   ·have:=hr1 h0;have:=gr h0;omega
  (refine Ai ?_)
  refine hK (q+1,r') _ _ ⟨rfl,rfl,by rw[eb];rfl,rfl,BQ rfl (by dsimp only;omega),trivial⟩ ⟨Aa,Aa,fun i h1 h2=>(Ac fun y hy=>Aa).trans (fr i h1 h2),Ag,by dsimp only;omega,?_,fun _=>⟨rb,?_⟩⟩ (by dsimp only;omega)
  ·dsimp only
   rw[List.take_add_one,hm1,Option.toList_some,Mk]
   exact g8.frame fun _=>Ac fun y hy=>by(exact Aa)
  ·dsimp only
   rcases Nat.eq_zero_or_pos q with h0|h0
   ·have:=hr0 h0;(exact Ag)
   ·have:=hr1 h0;have:=gr h0;(exact Ag)
 obtain rfl:q=s.ms.length:=by omega
 clear hK
 (refine Ai ?_)
 (refine AA ?_)
 rw[List.take_of_length_le (by rw[hl];exact Nat.le_refl _)]at gx
 exact .inr ⟨hg,r,rfl,gx.frame fun _=>Ac fun y hy=>Aa,fun h0=>by have:=gr h0;exact⟨by omega,Ag⟩⟩
end AE.Tryz

/- Slices that are written down, and grow. -/
namespace AE
open Go Go.RowKit
set_option linter.unusedVariables false
def LT (r:Nat) (h:H) (e:TypeId) (sz n:Nat) (cs:List Value) (w:Option Addr) (c:Nat):Prop:=(w=some ⟨r,0,none⟩/\c=n/\n<far/\cs.length=n*sz/\h.get r=some (.cells cs e))\/(c=0/\UZ r h e sz n cs w)
theorem LT.frame {r n sz c:Nat}{e:TypeId}{h h':H}{cs:List Value}{w:Option Addr}(k:LT r h e sz n cs w c) (hr:h'.get r=h.get r):LT r h' e sz n cs w c:=
 k.elim (fun⟨a,b,c,d,e⟩=>.inl ⟨a,b,c,d,hr.trans e⟩) fun⟨hc,G⟩=>.inr ⟨hc,G.frame hr⟩
theorem LT.cap {r n sz c:Nat}{e:TypeId}{h:H}{cs:List Value}{w:Option Addr}(k:LT r h e sz n cs w c):c<far:=by
 rcases k with⟨-,rfl,h1, -⟩|⟨rfl, -⟩
 ·exact h1
 ·unfold far;omega
theorem LT.els {r n sz c:Nat}{e:TypeId}{h:H}{f:Nat->List Value}{w:Option Addr}(k:LT r h e sz n (rowsOf f n) w c) (hf:∀i,(f i).length=sz):∃a,w=some a/\a.block=r/\Ro h a n sz f:=by
 rcases k with⟨rfl,rfl, -, -,hg⟩|⟨rfl,G⟩
 ·refine⟨_,rfl,rfl,fun i hi=>?_⟩
  have:=HM (g:=f) (w:=sz) hf hi [] [] (a:=0+i*sz) (by simp)
  exact B6 (off:=0+i*sz) hg (by simpa using this)
 ·obtain⟨a,hv,hb,hld, -⟩:=G.load
  refine⟨a,hv,hb,fun i hi=>hld _ _ _ ?_⟩
  have:=HM (g:=f) (w:=sz) hf hi [] [] (a:=i*sz) (by simp)
  simpa using this
section
variable {P:Program}{lo Av:Nat}{ts:Ts}{h:H}{k:Value->H->Prop}
theorem Vk {r n m sz bytes c:Nat}{e:TypeId}{cs nc:List Value}{w:Option Addr}{sx x:AP}(G:LT r h e sz n cs w c) (hsv:ev ts sx= .slice w n c) (C:Cells h sz m (ev ts x) nc) (hm:0<m) (hlo:lo<=Av) (hlr:lo<=r) (hsm:(n+m+1) * (bytes+1)<=1099511627776)
 (hr:∀w' r' h',(r'=r\/r'=Av)->(∀s,s≠r'->h'.get s=h.get s)->h'.next=h.next->LT r' h' e sz (n+m) (cs++nc) w' 0->k (.slice w' (n+m) 0) h'):Dj P lo Av ts h (.append e sz bytes sx x) k:=by
 rcases G with⟨rfl,rfl,hf,hl,hg⟩|⟨rfl,G⟩
 ·apply TT (n:=c) (m:=m) (b:=Av) (cs:=cs) (nc:=nc) (c:=c)
  case hsv=>exact hsv
  case G=>exact⟨hl,.inr ⟨_,rfl,hf,.inl ⟨rfl,rfl⟩,B6 (off:=0) hg (by rw[<-hl];unfold cut;simp)⟩⟩
  case C=>exact C
  case hm=>exact hm
  case hb=>omega
  case hsm=>exact hsm
  intro v' row G'
  obtain⟨r4,G4,hr4,qv⟩:=G'.lK Af
  obtain rfl:r4=Av:=by omega
  exact hr v' r4 _ (.inr rfl) (fun s hs=>by simp[H.put,hs]) rfl (.inr ⟨rfl,G4⟩)
 ·apply fH (r:=r) (n:=n) (m:=m) (cs:=cs) (nc:=nc)
  case hsv=>exact hsv
  case G=>exact G
  case C=>exact C
  case hm=>exact hm
  case hlo=>exact hlr
  case hsm=>exact hsm
  intro v' row G5
  exact hr v' r _ (.inl rfl) (fun s hs=>by simp[H.put,hs]) rfl (.inr ⟨rfl,G5⟩)
end
end AE

/- Top12: books that are written down, all lines accepted. -/
namespace AE.Tryz
open Go AE Go.Proofs AE.Clerk
set_option maxRecDepth 100000
set_option linter.unusedVariables false

theorem dR {h:H}{r m n c:Nat}{e:TypeId}{f:Nat->Ln}{w:Option Addr}(G:LT r h e 4 n (rowsOf (fun i=>(f i).cells) n) w c) (hr:r<m) (hn:n<=1000):∃B:Bk,B.n=n/\B.f=f/\B.b=w/\B.c=c/\B.Ok m h:=by
 obtain⟨a,ea,eb,el⟩:=G.els fun _=>rfl
 refine⟨⟨n,f,w,a,c⟩,rfl,rfl,rfl,rfl,fun _=>ea,el,fun _=>by dsimp only;omega,by dsimp only;omega,fun _=>?_⟩
 dsimp only
 rcases G with⟨rfl,rfl,h1, -⟩|⟨rfl,G⟩
 ·simp only[Option.some.injEq]at ea
  subst ea
  exact .inl ⟨rfl,Nat.le_refl _,h1⟩
 ·obtain⟨g,lens,valid,hv, -⟩:=G.is
  rw[ea]at hv
  simp only[Option.some.injEq]at hv
  subst hv
  exact .inr (.inl ⟨⟨g,rfl⟩,rfl,by unfold far;omega⟩)

theorem O7 {h:H}{r n i:Nat}{e:TypeId}{f:Nat->Ln}(g:h.get r=some (.cells (GM f n n) e)) (hi:i<n):h.Az (BB ⟨r,0,none⟩ (i*1)) 1=some [.int .i64 (Ee f i)]:=by
 refine B6 (off:=0+i*1) g ?_
 rw[Nat.zero_add,Nat.mul_one]
 have e:(GM f n n).drop i= .int .i64 (Ee f i)::(GM f n n).drop (i+1):=by
  rw[List.drop_eq_getElem_cons (by rw[IB];exact hi)]
  congr 1
  simp[GM,hi]
 unfold cut
 rw[if_pos (by rw[IB];omega),e]
 rfl
theorem UU {h:H}{B:Bk}{m:Nat}(hm:m<=h.next) (hB:B.Ok m h) (hg:Good B.n B.f) (ha:∀i,i<B.n->Ee B.f i=0):AW Tryz.prog 13 h.next h [.slice B.b B.n B.c] (fun v _=>v= .bool true):=by
 have hbl:=hB.l
 have wm:=hg.1
 refine l6.call rfl (Nat.le_refl _) ?_
 unfold sJ
 (refine Ai ?_)
 apply Ak
 focus(exact Ae)
 focus(exact AK)
 focus exact Tj (m:=m) Ag (hB.same (m':=m) AO (Nat.le_refl _))
 rintro v h2 hv q2 n2
 obtain⟨re,rfl,ge,tA,rH⟩:=hv.elim (fun h=>absurd hg h.1) (·.2)
 clear hv
 (refine Ai ?_)
 refine wp_loop (fun k:Nat=>[(0,.slice B.b B.n B.c),(3,.slice (some ⟨re,0,none⟩) B.n B.n),(5,.int .i64 k)]) (fun k h1=>Same h2.next h2 h1/\h2.next<=h1.next/\k<=B.n) (fun k=>B.n - k) 0 ⟨rfl,rfl,rfl,trivial⟩ ⟨AO,Ag,by omega⟩ ?_
 rintro k g h1 ⟨s1,hn1,hk⟩ K hK
 by_cases hlt:k<B.n
 ·have hl:h1.Az (BB ⟨re,0,none⟩ (k*1)) 1=some [.int .i64 0]:=by
   have g1:=(s1 re rH).trans ge
   rw[<-ha k hlt]
   exact O7 g1 hlt
  (refine Ai ?_)
  exact hK (k+1) _ _ ⟨rfl,rfl,BQ rfl Af,trivial⟩ ⟨AO,Ag,by omega⟩ Af
 obtain rfl:k=B.n:=by omega
 clear hK
 (refine Ai ?_)
 (refine AA ?_)
 rfl
end AE.Tryz

/- Clerk: slices copied into new rows. -/
namespace AE
open Go
section
variable {P:Program}{lo Av:Nat}{ts:Ts}{h:H}{k:Value->H->Prop}
end
end AE

/- Clerk: the definitions' stand, as_ it lies in the heap; copied. -/
namespace AE.Clerk
structure SD where
 BS:Int
 lost:Int
 ms:List CU
 rn:List Int
 co:List Int
 bk:List Int
end AE.Clerk
namespace AE.Tryz
open Go AE Go.Proofs AE.Clerk
set_option maxRecDepth 100000
set_option linter.unusedVariables false

def cI (l:List Int):List Value:=l.map (Value.int .i64)
def cM (S:SD):List Value:=cellsOf OD S.ms
def cL (S:SD):List Value:=cI (S.ms.map CU.loss)
theorem J4 (l:List Int):(cI l).length=l.length:=List.length_map ..
theorem Z3 (S:SD):(cM S).length=S.ms.length*8:=by
 unfold cM cellsOf
 induction S.ms with
 |nil=>rfl
 |cons m l ih=>simp only[List.flatMap_cons,List.length_append,ih,List.length_cons];simp[OD];omega
theorem Z4 (S:SD):(cL S).length=S.ms.length:=by unfold cL;rw[J4,List.length_map]
theorem I4 (l:List Int):(cI l).all Value.oneCell'=true:=by
 simp only[cI,List.all_map,List.all_eq_true]
 intro x _
 rfl
theorem Z2 (S:SD):(cM S).all Value.oneCell'=true:=by
 unfold cM cellsOf
 rw[List.all_flatMap]
 simp only[List.all_eq_true]
 intro m _ v hv
 simp[OD]at hv
 rcases hv with rfl|rfl|rfl|rfl|rfl|rfl|rfl|rfl<;>rfl
def UY (m:Nat) (h:H) (sz n:Nat) (cs:List Value) (b:Option Addr):Prop:=
 cs.length=n*sz/\cs.all Value.oneCell'=true/\(0<n->∃a,b=some a/\h.Az a (n*sz)=some cs/\a.block<m/\eE a n 0)/\(n=0->b=none\/∃r,b=some ⟨r,0,none⟩)
theorem UY.same {m m' sz n:Nat}{h h':H}{cs:List Value}{b:Option Addr}(k:UY m h sz n cs b) (s:Same m h h') (hm:m<=m'):UY m' h' sz n cs b:=
 ⟨k.1,k.2.1,fun h0=>by
  obtain⟨a,e,l,hb,hs⟩:=k.2.2.1 h0
  exact⟨a,e,by rw[s.Az hb];exact l,by omega,hs⟩,k.2.2.2⟩
theorem UY.cells {m sz n:Nat}{h:H}{cs:List Value}{b:Option Addr}(k:UY m h sz n cs b):Cells h sz n (.slice b n 0) cs:=by
 refine⟨rfl,fun h0=>?_,k.1,k.2.1⟩
 obtain⟨a,rfl,l, -, -⟩:=k.2.2.1 h0
 have:¬far<=0:=by unfold far;omega
 simp only[Ca,if_neg this]
 exact l
theorem UY.els {m sz n:Nat}{h:H}{cs:List Value}{b:Option Addr}(k:UY m h sz n cs b) (h0:0<n):∃a,b=some a/\a.block<m/\eE a n 0/\∀off j l,cut cs off j=some l->h.Az (BB a off) j=some l:=by
 obtain⟨a,e,l,hb,hs⟩:=k.2.2.1 h0
 exact⟨a,e,hb,hs,fun off j l' hc=>Pe l hc⟩
theorem GE.rd {m a r sz n:Nat}{h:H}{e:TypeId}{cs:List Value}{b:Option Addr}(g:GE a r h e sz n cs b) (hr:r<m) (hl:cs.length=n*sz) (ho:cs.all Value.oneCell'=true) (hn:n<1000000):UY m h sz n cs b:=by
 refine⟨hl,ho,fun h0=>?_,fun h0=>?_⟩
 rotate_left
 ·rcases g with⟨-,h2, -⟩|⟨h1, -⟩
  ·exact .inr ⟨_,h2⟩
  ·omega
 rcases g with⟨h1, -⟩|⟨-,g⟩
 ·omega
 ·obtain⟨ad,e1,e2,e3, -⟩:=g.load
  obtain⟨g',lens,valid,hv, -⟩:=g.is
  refine⟨ad,e1,?_,by rw[e2];exact hr,.inr (.inl ⟨?_,rfl,by unfold far;omega⟩)⟩
  ·have:=e3 0 (n*sz) cs (by rw[<-hl];exact PE cs)
   rwa [show BB ad 0=ad by simp[BB]]at this
  ·rw[e1]at hv
   simp only[Option.some.injEq]at hv
   rw[hv]
   exact⟨_,rfl⟩
structure SR (m:Nat) (h:H) (S:SD) (b1 b2 b3 b4 b5:Option Addr):Prop where
 m1:UY m h 8 S.ms.length (cM S) b1
 m2:UY m h 1 S.ms.length (cL S) b2
 m3:UY m h 1 S.rn.length (cI S.rn) b3
 m4:UY m h 1 S.co.length (cI S.co) b4
 m5:UY m h 1 S.bk.length (cI S.bk) b5
 s1:S.ms.length<=100
 s3:S.rn.length<=100
 s4:S.co.length<=100
 s5:S.bk.length<=100
theorem SR.same {m m':Nat}{h h':H}{S:SD}{b1 b2 b3 b4 b5:Option Addr}(k:SR m h S b1 b2 b3 b4 b5) (s:Same m h h') (hm:m<=m'):SR m' h' S b1 b2 b3 b4 b5:=
 ⟨k.m1.same s hm,k.m2.same s hm,k.m3.same s hm,k.m4.same s hm,k.m5.same s hm,k.s1,k.s3,k.s4,k.s5⟩
structure SF (lo hi:Nat) (h:H) (S:SD) (b1 b2 b3 b4 b5:Option Addr) (a1 r1 a2 r2 a3 r3 a4 r4 a5 r5:Nat):Prop where
 g1:GE a1 r1 h 52 8 S.ms.length (cM S) b1
 g2:GE a2 r2 h 2 1 S.ms.length (cL S) b2
 g3:GE a3 r3 h 3 1 S.rn.length (cI S.rn) b3
 g4:GE a4 r4 h 2 1 S.co.length (cI S.co) b4
 g5:GE a5 r5 h 3 1 S.bk.length (cI S.bk) b5
 c:lo<=a1/\a1<r1/\r1<a2/\a2<r2/\r2<a3/\a3<r3/\r3<a4/\a4<r4/\r4<a5/\a5<r5/\r5<hi
 s1:S.ms.length<=100
 s3:S.rn.length<=100
 s4:S.co.length<=100
 s5:S.bk.length<=100
end AE.Tryz

/- Clerk, walked: the definitions' model. -/
namespace AE.Tryz
open Go AE Go.Proofs AE.Clerk
set_option maxRecDepth 100000
set_option linter.unusedVariables false

theorem GD {α:Type}{g:α->List Value}{w:Nat}(hw:∀x,(g x).length=w):∀{l:List α} {j:Nat} {x:α},l[j]? =some x->cut (cellsOf g l) (j*w) w=some (g x)
 |[],_,_,h=>by simp at h
 | y::l,0,x,h=>by
   simp only[List.getElem?_cons_zero,Option.some.injEq]at h
   subst h
   have:cellsOf g (y::l)=[]++g y++cellsOf g l:=by simp[cellsOf]
   rw[this]
   exact VQ (by simp) (hw y)
 | y::l,j+1,x,h=>by
   have ih:=GD hw (l:=l) (j:=j) (x:=x) (by simpa using h)
   have e:cellsOf g (y::l)=g y++cellsOf g l:=by simp[cellsOf]
   unfold cut at ih⊢
   have hy:=hw y
   split at ih
   ·rename_i hle
    rw[e,if_pos (by rw[List.length_append,hy,Nat.succ_mul];omega)]
    rw[<-ih,show(j+1) *w=(g y).length+j*w by rw[hy,Nat.succ_mul];omega,List.drop_append]
    rw[List.drop_eq_nil_of_le Af,List.nil_append,show(g y).length+j*w - (g y).length=j*w by omega]
   ·exact absurd ih (by simp)
theorem Z5 (l:List Int):cI l=cellsOf (fun z:Int=>[Value.int .i64 z]) l:=by
 unfold cI cellsOf
 rw[List.map_eq_flatMap]
theorem UY.ints {m:Nat}{h:H}{l:List Int}{b:Option Addr}(k:UY m h 1 l.length (cI l) b) (h0:0<l.length):∃a,b=some a/\a.block<m/\∀j x,l[j]? =some x->h.Az (BB a (j*1)) 1=some [.int .i64 x]:=by
 obtain⟨a,e,hb, -,hc⟩:=k.els h0
 rw[Z5]at hc
 exact⟨a,e,hb,fun j x hx=>hc _ _ _ (GD (g:=fun z:Int=>[Value.int .i64 z]) (w:=1) (fun _=>rfl) hx)⟩
end AE.Tryz

/- Clerk: parts of slices that may be read; appends of any number. -/
namespace AE.Tryz
open Go AE Go.Proofs AE.Clerk
set_option maxRecDepth 100000
set_option linter.unusedVariables false
section
variable {P:Program}{lo Av:Nat}{ts:Ts}{h:H}{k:Value->H->Prop}
end
theorem SF.rd {lo hi:Nat}{h:H}{S:SD}{b1 b2 b3 b4 b5:Option Addr}{a1 r1 a2 r2 a3 r3 a4 r4 a5 r5:Nat}(k:SF lo hi h S b1 b2 b3 b4 b5 a1 r1 a2 r2 a3 r3 a4 r4 a5 r5):SR hi h S b1 b2 b3 b4 b5:=by
 have c:=k.c
 have s1:=k.s1;have s3:=k.s3;have s4:=k.s4;have s5:=k.s5
 exact⟨GE.rd k.g1 Af (Z3 S) (Z2 S) Af,GE.rd k.g2 Af (by rw[Z4];omega) (I4 _) Af,GE.rd k.g3 Af (by rw[J4];omega) (I4 _) Af,GE.rd k.g4 Af (by rw[J4];omega) (I4 _) Af,GE.rd k.g5 Af (by rw[J4];omega) (I4 _) Af,s1,s3,s4,s5⟩
structure eH (lo hi:Nat) (h:H) (S:SD) (b1 b2 b3 b4 b5:Option Addr) (a1 r1 a2 r2 a3 r3 a4 r4 a5 r5:Nat):Prop where
 g1:GE a1 r1 h 52 8 S.ms.length (cM S) b1
 g2:GE a2 r2 h 2 1 S.ms.length (cL S) b2
 g3:GE a3 r3 h 3 1 S.rn.length (cI S.rn) b3
 g4:GE a4 r4 h 2 1 S.co.length (cI S.co) b4
 g5:GE a5 r5 h 3 1 S.bk.length (cI S.bk) b5
 c:lo<=a1/\a1<hi/\lo<=r1/\r1<hi/\lo<=a2/\a2<hi/\lo<=r2/\r2<hi/\lo<=a3/\a3<hi/\lo<=r3/\r3<hi/\lo<=a4/\a4<hi/\lo<=r4/\r4<hi/\lo<=a5/\a5<hi/\lo<=r5/\r5<hi
 s1:S.ms.length<=100
 s3:S.rn.length<=100
 s4:S.co.length<=100
 s5:S.bk.length<=100
theorem eH.frame {lo hi:Nat}{h h':H}{S:SD}{b1 b2 b3 b4 b5:Option Addr}{a1 r1 a2 r2 a3 r3 a4 r4 a5 r5:Nat}(k:eH lo hi h S b1 b2 b3 b4 b5 a1 r1 a2 r2 a3 r3 a4 r4 a5 r5) (hs:∀q,lo<=q->q<hi->h'.get q=h.get q):eH lo hi h' S b1 b2 b3 b4 b5 a1 r1 a2 r2 a3 r3 a4 r4 a5 r5:=by
 obtain⟨c1,c2,c3,c4,c5,c6,c7,c8,c9,c10,c11,c12,c13,c14,c15,c16,c17,c18,c19,c20⟩:=k.c
 exact⟨k.g1.frame (fun _=>hs _ c1 c2) (fun _=>hs _ c3 c4),k.g2.frame (fun _=>hs _ c5 c6) (fun _=>hs _ c7 c8),k.g3.frame (fun _=>hs _ c9 c10) (fun _=>hs _ c11 c12),k.g4.frame (fun _=>hs _ c13 c14) (fun _=>hs _ c15 c16),k.g5.frame (fun _=>hs _ c17 c18) (fun _=>hs _ c19 c20),k.c,k.s1,k.s3,k.s4,k.s5⟩
theorem eH.rd {lo hi m:Nat}{h:H}{S:SD}{b1 b2 b3 b4 b5:Option Addr}{a1 r1 a2 r2 a3 r3 a4 r4 a5 r5:Nat}(k:eH lo hi h S b1 b2 b3 b4 b5 a1 r1 a2 r2 a3 r3 a4 r4 a5 r5) (hm:hi<=m):SR m h S b1 b2 b3 b4 b5:=by
 have c:=k.c
 have s1:=k.s1;have s3:=k.s3;have s4:=k.s4;have s5:=k.s5
 exact⟨GE.rd k.g1 Af (Z3 S) (Z2 S) Af,GE.rd k.g2 Af (by rw[Z4];omega) (I4 _) Af,GE.rd k.g3 Af (by rw[J4];omega) (I4 _) Af,GE.rd k.g4 Af (by rw[J4];omega) (I4 _) Af,GE.rd k.g5 Af (by rw[J4];omega) (I4 _) Af,s1,s3,s4,s5⟩
theorem eH.mono {lo lo' hi hi':Nat}{h:H}{S:SD}{b1 b2 b3 b4 b5:Option Addr}{a1 r1 a2 r2 a3 r3 a4 r4 a5 r5:Nat}(k:eH lo hi h S b1 b2 b3 b4 b5 a1 r1 a2 r2 a3 r3 a4 r4 a5 r5) (h1:lo'<=lo) (h2:hi<=hi'):eH lo' hi' h S b1 b2 b3 b4 b5 a1 r1 a2 r2 a3 r3 a4 r4 a5 r5:=by
 have c:=k.c
 exact⟨k.g1,k.g2,k.g3,k.g4,k.g5,by omega,k.s1,k.s3,k.s4,k.s5⟩
end AE.Tryz

/- Clerk, walked: the definitions' drawn. -/
namespace AE.Clerk
end AE.Clerk
namespace AE.Tryz
open Go AE Go.Proofs AE.Clerk
set_option maxRecDepth 100000
set_option linter.unusedVariables false

theorem GE.touch {a r sz n c N:Nat}{h:H}{e:TypeId}{cs:List Value}{b:Option Addr}(g:GE a r h e sz n cs b) (ha:N<=a) (hr:N<=r):∀q∈Ap (.slice b n c),N<=q:=by
 intro q hq
 rcases g with⟨-,rfl, -⟩|⟨-,g⟩
 ·simp[Ap]at hq
  omega
 ·obtain⟨g',lens,valid,rfl, -⟩:=g.is
  simp[Ap]at hq
  omega
end AE.Tryz

/- Clerk: bills by the definitions, step by step; one more line by the definitions. -/
namespace AE.Clerk
end AE.Clerk
