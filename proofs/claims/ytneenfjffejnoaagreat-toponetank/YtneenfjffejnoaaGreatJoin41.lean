/- Walks and plain laws: TSpanH, TSpanI, TSpanJ, TSpanK. -/
import Derived.Test.YtneenfjffejnoaaGreatAEBy2
import Derived.Test.YtneenfjffejnoaaGreatJoin23
import Derived.Test.YtneenfjffejnoaaGreatAEthree
set_option linter.unusedVariables false
set_option linter.unusedSimpArgs false
set_option linter.unusedSectionVars false

/- Walks of span: groups of sides that contradict each other. -/
namespace AE.Tryz.Spn
open Go AE Go.Proofs AE.Sp
set_option maxRecDepth 100000
set_option linter.unusedVariables false

theorem Q8 {s:Sd}(k:s.Up 20 100000):0<=s.size/\s.size<=40:=by
 have:=k.u
 have:=k.v
 unfold Sd.size
 omega
theorem Vm {a b:Sd}(k:a.Up 20 100000) (k':b.Up 20 100000): -800<=cr a b/\cr a b<=800:=by
 have b1:=BJ k.u.1 k.u.2 k'.v.1 k'.v.2
 have b2:=BJ k.v.1 k.v.2 k'.u.1 k'.u.2
 unfold cr
 omega
def Opp (a b:Sd):Prop:=cr a b=0/\a.u*b.size+b.u*a.size=0/\a.v*b.size+b.v*a.size=0
instance (a b:Sd):Decidable (Opp a b):=inferInstanceAs (Decidable (_/\_/\_))
def Acr (S:Nat->Sd) (i j:Nat):Prop:=Opp (S i) (S j)/\0<(S i).w* (S j).size+(S j).w* (S i).size
def Acp (S:Nat->Sd) (i j k:Nat):Prop:=
 (0<cr (S j) (S k)/\0<cr (S k) (S i)/\0<cr (S i) (S j)/\0<(S i).w*cr (S j) (S k)+(S j).w*cr (S k) (S i)+(S k).w*cr (S i) (S j))\/
 (cr (S j) (S k)<0/\cr (S k) (S i)<0/\cr (S i) (S j)<0/\0<(S i).w* -cr (S j) (S k)+(S j).w* -cr (S k) (S i)+(S k).w* -cr (S i) (S j))
def Mk.Bad (M:Mk):Prop:=M.t=1/\(M.s.u=0/\M.s.v=0)/\0<M.s.w
theorem Mk.Rh {S:Nat->Sd}{N b m:Nat}{h:H}:Mk.none.Ok S N b m h:=⟨fun q e=>absurd e (by simp[Mk.none]),fun _=>rfl,by simp[Mk.none],fun p hp=>absurd hp (by simp[Mk.none]),by simp[Mk.none],rfl⟩

theorem kTSpanH0 {G G':Prop}(g:G') (t:G'->G:=by((apply Ar);(focus exact Ao);(focus exact AQ);(focus((apply xe (F:=20) (W:=100000);(focus assumption);(focus decide)))))):G:=t g
theorem kTSpanH1 {G G':Prop}(g:G') (t:G'->G:=by((apply Ar);(focus exact Ao);(focus exact AQ);(focus((apply uE (F:=20) (W:=100000) (F':=20) (W':=100000);(focus assumption);(focus assumption);(focus decide)))))):G:=t g
theorem kTSpanH2 {G G':Prop}(g:G') (t:G'->G:=by((apply Ar);(focus exact Ao);(focus exact AQ);(focus((apply Abc))))):G:=t g

theorem rH {h:H}{T:Tab}{m q q':Nat}{e e':TypeId}{i:Nat}{x t:Int}(hm:m<=h.next) (hT:T.Ok m h) (hl:i<2*T.n) (rx:0<=x/\x<=800) (hg:h.get q=some (.cells [.int .i64 (i:Int)] e)) (hb:h.get q'=some (.cells [.int .i64 x] e')) (hq:q<h.next) (hq':q'<h.next):
 AW Tryz.prog 202 h.next h [.pointer (some ⟨T.r,0,none⟩),.slice (some ⟨q,0,none⟩) 1 1,.int .i64 t,.slice (some ⟨q',0,none⟩) 1 1] (fun v h'=>∃M:Mk,v= .agg ⟨M.cells⟩/\M.Ok T.S (2*T.n) h.next h'.next h'/\M.t=t/\M.s=(Sd.add (⟨0,0,0⟩:Sd) ((T.S i).by x))/\M.r≠ .none/\∀p∈M.l,0<p.2\/x=0):=by
 have i1:=Gw (l:=[(i:Int)]) hg
 have i2:=Gw (l:=[x]) hb
 obtain⟨v,h',⟨r,rfl,ok⟩,A⟩:=Z5 (h:=h) (T:=T) (m:=max m (max (q+1) (q'+1))) (t:=t) (G:=⟨1,fun a=>[(i:Int)].getD a 0,some ⟨q,0,none⟩,⟨q,0,none⟩,1⟩) (B:=⟨1,fun a=>[x].getD a 0,some ⟨q',0,none⟩,⟨q',0,none⟩,1⟩) (g:=fun a=>[i].getD a 0) (b:=fun a=>[x.toNat].getD a 0) Al (hT.same (Same.refl _ _) Al) ⟨fun _=>rfl,i1,fun _=>by dsimp only;omega,by dsimp only;omega⟩ ⟨fun _=>rfl,i2,fun _=>by dsimp only;omega,by dsimp only;omega⟩ (by dsimp only;omega) rfl
  (fun a ha=>by
   have ha:a<1:=ha
   obtain rfl:a=0:=by omega
   all_goals exact⟨rfl,by first|exact hl|(show _<2*T.n;simp;omega)⟩)
  (fun a ha=>by
   have ha:a<1:=ha
   obtain rfl:a=0:=by omega
   ·exact⟨(Int.toNat_of_nonneg rx.1).symm,by show x.toNat<=800;omega⟩)
  (fun a b hab hb=>by
   have hb:b<1:=hb
   omega
)
 refine⟨_,h',⟨_,rfl,ok,rfl,?_,by simp,fun p hp=>?_⟩,A⟩
 ·show comb T.S [(i,x.toNat)]=_
  simp only[comb,List.foldl,Int.toNat_of_nonneg rx.1]
 ·have hp:p∈[(i,x.toNat)]:=hp
  simp only[List.mem_cons,List.not_mem_nil,or_false]at hp
  rcases hp with rfl
  all_goals(dsimp only;omega)
theorem VL {h:H}{T:Tab}{m q q':Nat}{e e':TypeId}{i j:Nat}{x y t:Int}(hm:m<=h.next) (hT:T.Ok m h) (hij:i<j) (hl:j<2*T.n) (rx:0<=x/\x<=800) (ry:0<=y/\y<=800) (hg:h.get q=some (.cells [.int .i64 (i:Int),.int .i64 (j:Int)] e)) (hb:h.get q'=some (.cells [.int .i64 x,.int .i64 y] e')) (hq:q<h.next) (hq':q'<h.next):
 AW Tryz.prog 202 h.next h [.pointer (some ⟨T.r,0,none⟩),.slice (some ⟨q,0,none⟩) 2 2,.int .i64 t,.slice (some ⟨q',0,none⟩) 2 2] (fun v h'=>∃M:Mk,v= .agg ⟨M.cells⟩/\M.Ok T.S (2*T.n) h.next h'.next h'/\M.t=t/\M.s=(Sd.add (Sd.add (⟨0,0,0⟩:Sd) ((T.S i).by x)) ((T.S j).by y))/\M.r≠ .none/\∀p∈M.l,0<p.2\/x=0\/y=0):=by
 have i1:=Gw (l:=[(i:Int),(j:Int)]) hg
 have i2:=Gw (l:=[x,y]) hb
 obtain⟨v,h',⟨r,rfl,ok⟩,A⟩:=Z5 (h:=h) (T:=T) (m:=max m (max (q+1) (q'+1))) (t:=t) (G:=⟨2,fun a=>[(i:Int),(j:Int)].getD a 0,some ⟨q,0,none⟩,⟨q,0,none⟩,2⟩) (B:=⟨2,fun a=>[x,y].getD a 0,some ⟨q',0,none⟩,⟨q',0,none⟩,2⟩) (g:=fun a=>[i,j].getD a 0) (b:=fun a=>[x.toNat,y.toNat].getD a 0) Al (hT.same (Same.refl _ _) Al) ⟨fun _=>rfl,i1,fun _=>by dsimp only;omega,by dsimp only;omega⟩ ⟨fun _=>rfl,i2,fun _=>by dsimp only;omega,by dsimp only;omega⟩ (by dsimp only;omega) rfl
  (fun a ha=>by
   have ha:a<2:=ha
   obtain rfl|rfl:a=0\/a=1:=by omega
   all_goals exact⟨rfl,by first|exact hl|(show _<2*T.n;simp;omega)⟩)
  (fun a ha=>by
   have ha:a<2:=ha
   obtain rfl|rfl:a=0\/a=1:=by omega
   ·exact⟨(Int.toNat_of_nonneg rx.1).symm,by show x.toNat<=800;omega⟩
   ·exact⟨(Int.toNat_of_nonneg ry.1).symm,by show y.toNat<=800;omega⟩)
  (fun a b hab hb=>by
   have hb:b<2:=hb
   obtain⟨rfl,rfl⟩:a=0/\b=1:=by omega
   all_goals(simp;omega))
 refine⟨_,h',⟨_,rfl,ok,rfl,?_,by simp,fun p hp=>?_⟩,A⟩
 ·show comb T.S [(i,x.toNat),(j,y.toNat)]=_
  simp only[comb,List.foldl,Int.toNat_of_nonneg rx.1,Int.toNat_of_nonneg ry.1]
 ·have hp:p∈[(i,x.toNat),(j,y.toNat)]:=hp
  simp only[List.mem_cons,List.not_mem_nil,or_false]at hp
  rcases hp with rfl|rfl
  all_goals(dsimp only;omega)
theorem dK {h:H}{T:Tab}{m q q':Nat}{e e':TypeId}{i j k:Nat}{x y z t:Int}(hm:m<=h.next) (hT:T.Ok m h) (hij:i<j) (hjk:j<k) (hl:k<2*T.n) (rx:0<=x/\x<=800) (ry:0<=y/\y<=800) (rz:0<=z/\z<=800) (hg:h.get q=some (.cells [.int .i64 (i:Int),.int .i64 (j:Int),.int .i64 (k:Int)] e)) (hb:h.get q'=some (.cells [.int .i64 x,.int .i64 y,.int .i64 z] e')) (hq:q<h.next) (hq':q'<h.next):
 AW Tryz.prog 202 h.next h [.pointer (some ⟨T.r,0,none⟩),.slice (some ⟨q,0,none⟩) 3 3,.int .i64 t,.slice (some ⟨q',0,none⟩) 3 3] (fun v h'=>∃M:Mk,v= .agg ⟨M.cells⟩/\M.Ok T.S (2*T.n) h.next h'.next h'/\M.t=t/\M.s=(Sd.add (Sd.add (Sd.add (⟨0,0,0⟩:Sd) ((T.S i).by x)) ((T.S j).by y)) ((T.S k).by z))/\M.r≠ .none/\∀p∈M.l,0<p.2\/x=0\/y=0\/z=0):=by
 have i1:=Gw (l:=[(i:Int),(j:Int),(k:Int)]) hg
 have i2:=Gw (l:=[x,y,z]) hb
 obtain⟨v,h',⟨r,rfl,ok⟩,A⟩:=Z5 (h:=h) (T:=T) (m:=max m (max (q+1) (q'+1))) (t:=t) (G:=⟨3,fun a=>[(i:Int),(j:Int),(k:Int)].getD a 0,some ⟨q,0,none⟩,⟨q,0,none⟩,3⟩) (B:=⟨3,fun a=>[x,y,z].getD a 0,some ⟨q',0,none⟩,⟨q',0,none⟩,3⟩) (g:=fun a=>[i,j,k].getD a 0) (b:=fun a=>[x.toNat,y.toNat,z.toNat].getD a 0) Al (hT.same (Same.refl _ _) Al) ⟨fun _=>rfl,i1,fun _=>by dsimp only;omega,by dsimp only;omega⟩ ⟨fun _=>rfl,i2,fun _=>by dsimp only;omega,by dsimp only;omega⟩ (by dsimp only;omega) rfl
  (fun a ha=>by
   have ha:a<3:=ha
   obtain rfl|rfl|rfl:a=0\/a=1\/a=2:=by omega
   all_goals exact⟨rfl,by first|exact hl|(show _<2*T.n;simp;omega)⟩)
  (fun a ha=>by
   have ha:a<3:=ha
   obtain rfl|rfl|rfl:a=0\/a=1\/a=2:=by omega
   ·exact⟨(Int.toNat_of_nonneg rx.1).symm,by show x.toNat<=800;omega⟩
   ·exact⟨(Int.toNat_of_nonneg ry.1).symm,by show y.toNat<=800;omega⟩
   ·exact⟨(Int.toNat_of_nonneg rz.1).symm,by show z.toNat<=800;omega⟩)
  (fun a b hab hb=>by
   have hb:b<3:=hb
   obtain⟨rfl,rfl⟩|⟨rfl,rfl⟩|⟨rfl,rfl⟩:(a=0/\b=1)\/(a=0/\b=2)\/(a=1/\b=2):=by omega
   all_goals(simp;omega))
 refine⟨_,h',⟨_,rfl,ok,rfl,?_,by simp,fun p hp=>?_⟩,A⟩
 ·show comb T.S [(i,x.toNat),(j,y.toNat),(k,z.toNat)]=_
  simp only[comb,List.foldl,Int.toNat_of_nonneg rx.1,Int.toNat_of_nonneg ry.1,Int.toNat_of_nonneg rz.1]
 ·have hp:p∈[(i,x.toNat),(j,y.toNat),(k,z.toNat)]:=hp
  simp only[List.mem_cons,List.not_mem_nil,or_false]at hp
  rcases hp with rfl|rfl|rfl
  all_goals(dsimp only;omega)
theorem qW {h:H}{T:Tab}{m q:Nat}{e:TypeId}{i:Nat}(hm:m<=h.next) (hT:T.Ok m h):AW Tryz.prog 113 h.next h [.pointer (some ⟨T.r,0,none⟩),.slice (some ⟨q,0,none⟩) 1 1] (fun v h'=>v= .agg ⟨Mk.none.cells⟩):=by
 refine bV.call rfl (Nat.le_refl _) ?_
 unfold uZ
 (refine Aj ?_)
 (refine Au ?_)
 rfl
set_option maxHeartbeats 4000000 in
theorem qV {h:H}{T:Tab}{m q:Nat}{e:TypeId}{i j:Nat}(hm:m<=h.next) (hT:T.Ok m h) (hij:i<j) (hj:j<2*T.n) (hg:h.get q=some (.cells [.int .i64 (i:Int),.int .i64 (j:Int)] e)) (hq:q<h.next):
 AW Tryz.prog 113 h.next h [.pointer (some ⟨T.r,0,none⟩),.slice (some ⟨q,0,none⟩) 2 2] (fun v h'=>∃M:Mk,v= .agg ⟨M.cells⟩/\M.Ok T.S (2*T.n) h.next h'.next h'/\(M.Bad↔Acr T.S i j)):=by
 have ui:=hT.up (i:=i) Al
 have uj:=hT.up (i:=j) hj
 have si:=Q8 ui
 have sj:=Q8 uj
 have tsi:=hT.si
 have tse:=hT.se
 have vt:=hT.sr Al
 have tg:=hT.g
 have wZ:=hT.rr
 refine bV.call rfl (Nat.le_refl _) ?_
 unfold uZ
 (focus((try with_reducible apply wpC.to);(repeat'((conv=>whnf);first|refine Ak ?_|(apply Fork.mk<;>(intro _;try(exfalso;omega)))|((first|refine kTSpanH2 ?_|refine kTSpanH1 ?_|refine kTSpanH0 ?_|refine kTSpanG0 ?_);first|((first|apply Ae|apply Ac|apply Ad)<;>intro _ _ _ _<;>try contradiction)|(apply Ab;intro _ _ _))|fail));all_goals((conv=>whnf);try with_reducible apply At.mk)))
 rotate_left
 ·(refine Au ?_)
  exact⟨Mk.none,rfl,Mk.Rh,fun k=>absurd k.1 (by simp[Mk.none]),fun k=>absurd k.1.1 (by assumption)⟩
 have hc:cr (T.S i) (T.S j)=0:=by assumption
 have b1:=Pb ui (n:=(T.S j).size.toNat) Al
 have b2:=Pb uj (n:=(T.S i).size.toNat) Al
 rw[Int.toNat_of_nonneg sj.1]at b1
 rw[Int.toNat_of_nonneg si.1]at b2
 apply Dw
 focus(exact Ao)
 focus(exact AQ)
 focus exact Z7 (a:=(T.S i).by (T.S j).size) (b:=(T.S j).by (T.S i).size) (F:=16000) (W:=80000000) (e:=109) b1 b2 (by decide) (by decide) Aa Ah
 intro h2 q2 n2
 (focus((try with_reducible apply wpC.to);(repeat'((conv=>whnf);first|refine Ak ?_|(apply Fork.mk<;>(intro _;try(exfalso;omega)))|((first|refine kTSpanH2 ?_|refine kTSpanH1 ?_|refine kTSpanH0 ?_|refine kTSpanG0 ?_);first|((first|apply Ae|apply Ac|apply Ad)<;>intro _ _ _ _<;>try contradiction)|(apply Ab;intro _ _ _))|fail));all_goals((conv=>whnf);try with_reducible apply At.mk)))
 have Ael:(((T.S i).u* (T.S j).size+(T.S j).u* (T.S i).size=0/\(T.S i).v* (T.S j).size+(T.S j).v* (T.S i).size=0/\(0:Int)=0)↔Opp (T.S i) (T.S j)):=⟨fun k=>⟨hc,k.1,k.2.1⟩,fun k=>⟨k.2.1,k.2.2,rfl⟩⟩
 by_cases hP:Opp (T.S i) (T.S j)
 ·have heq:=(Mb (((T.S i).by (T.S j).size).add ((T.S j).by (T.S i).size)).flat ⟨0,0,0⟩).trans (congrArg some (decide_eq_true (Ael.2 hP)))
  refine DT.pure (.bool true) (DU (A:=⟨(((T.S i).by (T.S j).size).add ((T.S j).by (T.S i).size)).flat.cells⟩) (B:=⟨(⟨0,0,0⟩:Sd).cells⟩) rfl rfl rfl rfl rfl (by kernel_rfl) heq) ?_
  (refine Aj ?_)
  apply Ar
  focus(exact Ao)
  focus(exact AQ)
  focus exact VL (T:=T) (m:=m) (i:=i) (j:=j) (x:=(T.S j).size) (y:=(T.S i).size) (e:=e) (e':=2) Ah (hT.same Aq (Nat.le_refl _)) hij hj Al Al Aa Aa Ah Ah
  rintro _ h4 ⟨M,rfl,ok,mt,ms,mr, -⟩ q4 n4
  simp only[Bv,AY]at ok
  unfold Mk.cells
  (refine Aj ?_)
  (refine Au ?_)
  refine⟨M,rfl,ok.frame Ah Ah (fun r hr1 hr2=>Aw fun y hy=>Aa),⟨fun k=>⟨hP,?_⟩,fun k=>⟨mt,?_,?_⟩⟩⟩
  ·have:=k.2.2
   rw[ms]at this
   simp only[Sd.add,Sd.by,Int.zero_add]at this
   exact this
  ·rw[ms]
   simp only[Sd.add,Sd.by,Int.zero_add]
   exact hP.2
  ·rw[ms]
   simp only[Sd.add,Sd.by,Int.zero_add]
   exact k.2
 ·have heq:=(Mb (((T.S i).by (T.S j).size).add ((T.S j).by (T.S i).size)).flat ⟨0,0,0⟩).trans (congrArg some (decide_eq_false (fun k=>hP (Ael.1 k))))
  refine DT.pure (.bool false) (DU (A:=⟨(((T.S i).by (T.S j).size).add ((T.S j).by (T.S i).size)).flat.cells⟩) (B:=⟨(⟨0,0,0⟩:Sd).cells⟩) rfl rfl rfl rfl rfl (by kernel_rfl) heq) ?_
  (refine Aj ?_)
  (refine Au ?_)
  exact⟨Mk.none,rfl,Mk.Rh,fun k=>absurd k.1 (by simp[Mk.none]),fun k=>absurd k.1 hP⟩
set_option maxHeartbeats 4000000 in
theorem qU {h:H}{T:Tab}{m q:Nat}{e:TypeId}{i j k:Nat}(hm:m<=h.next) (hT:T.Ok m h) (hij:i<j) (hjk:j<k) (hk:k<2*T.n) (hg:h.get q=some (.cells [.int .i64 (i:Int),.int .i64 (j:Int),.int .i64 (k:Int)] e)) (hq:q<h.next):
 AW Tryz.prog 113 h.next h [.pointer (some ⟨T.r,0,none⟩),.slice (some ⟨q,0,none⟩) 3 3] (fun v h'=>∃M:Mk,v= .agg ⟨M.cells⟩/\M.Ok T.S (2*T.n) h.next h'.next h'/\(M.Bad↔Acp T.S i j k)):=by
 have ui:=hT.up (i:=i) Al
 have uj:=hT.up (i:=j) Al
 have uk:=hT.up (i:=k) hk
 have cx:=Vm uj uk
 have cy:=Vm uk ui
 have cz:=Vm ui uj
 have tsi:=hT.si
 have tse:=hT.se
 have vt:=hT.sr Al
 have tg:=hT.g
 have wZ:=hT.rr
 refine bV.call rfl (Nat.le_refl _) ?_
 unfold uZ
 (focus((try with_reducible apply wpC.to);(repeat'((conv=>whnf);first|refine Ak ?_|(apply Fork.mk<;>(intro _;try(exfalso;omega)))|((first|refine kTSpanH2 ?_|refine kTSpanH1 ?_|refine kTSpanH0 ?_|refine kTSpanG0 ?_);first|((first|apply Ae|apply Ac|apply Ad)<;>intro _ _ _ _<;>try contradiction)|(apply Ab;intro _ _ _))|fail));all_goals((conv=>whnf);try with_reducible apply At.mk)))
 refine DT.pure (.int .i64 (max (max (cr (T.S j) (T.S k)) (cr (T.S k) (T.S i))) (cr (T.S i) (T.S j)))) (ZT rfl rfl rfl rfl) ?_
 (focus((try with_reducible apply wpC.to);(repeat'((conv=>whnf);first|refine Ak ?_|(apply Fork.mk<;>(intro _;try(exfalso;omega)))|((first|refine kTSpanH2 ?_|refine kTSpanH1 ?_|refine kTSpanH0 ?_|refine kTSpanG0 ?_);first|((first|apply Ae|apply Ac|apply Ad)<;>intro _ _ _ _<;>try contradiction)|(apply Ab;intro _ _ _))|fail));all_goals((conv=>whnf);try with_reducible apply At.mk)))
 ·refine DT.pure (.int .i64 (min (min (-cr (T.S j) (T.S k)) (-cr (T.S k) (T.S i))) (-cr (T.S i) (T.S j)))) (Rx rfl rfl rfl rfl) ?_
  (refine Aj ?_)
  ·apply Ar
   focus(exact Ao)
   focus(exact AQ)
   focus exact dK (T:=T) (m:=m) (i:=i) (j:=j) (k:=k) (x:= -cr (T.S j) (T.S k)) (y:= -cr (T.S k) (T.S i)) (z:= -cr (T.S i) (T.S j)) (e:=e) (e':=2) Ah (hT.same Aq (Nat.le_refl _)) hij hjk hk Al Al Al Aa Aa Ah Ah
   rintro _ h4 ⟨M,rfl,ok,mt,ms,mr, -⟩ q4 n4
   simp only[Bv,AY]at ok
   unfold Mk.cells
   (refine Aj ?_)
   (refine Au ?_)
   refine⟨M,rfl,ok.frame Ah Ah (fun r hr1 hr2=>Aw fun y hy=>Aa),⟨fun k=>Or.inr ⟨by omega,by omega,by omega,?_⟩,fun k=>⟨mt,?_,?_⟩⟩⟩
   ·have:=k.2.2
    rw[ms]at this
    simp only[Sd.add,Sd.by,Int.zero_add]at this
    exact this
   ·rw[ms]
    simp only[Sd.add,Sd.by,Int.zero_add]
    unfold cr
    constructor<;>grind
   ·rw[ms]
    simp only[Sd.add,Sd.by,Int.zero_add]
    rcases k with k|k
    ·exfalso;omega
    ·exact k.2.2.2
 ·refine DT.pure (.int .i64 (min (min (cr (T.S j) (T.S k)) (cr (T.S k) (T.S i))) (cr (T.S i) (T.S j)))) (Rx rfl rfl rfl rfl) ?_
  (focus((try with_reducible apply wpC.to);(repeat'((conv=>whnf);first|refine Ak ?_|(apply Fork.mk<;>(intro _;try(exfalso;omega)))|((first|refine kTSpanH2 ?_|refine kTSpanH1 ?_|refine kTSpanH0 ?_|refine kTSpanG0 ?_);first|((first|apply Ae|apply Ac|apply Ad)<;>intro _ _ _ _<;>try contradiction)|(apply Ab;intro _ _ _))|fail));all_goals((conv=>whnf);try with_reducible apply At.mk)))
  ·apply Ar
   focus(exact Ao)
   focus(exact AQ)
   focus exact dK (T:=T) (m:=m) (i:=i) (j:=j) (k:=k) (x:=cr (T.S j) (T.S k)) (y:=cr (T.S k) (T.S i)) (z:=cr (T.S i) (T.S j)) (e:=e) (e':=2) Ah (hT.same Aq (Nat.le_refl _)) hij hjk hk Al Al Al Aa Aa Ah Ah
   rintro _ h4 ⟨M,rfl,ok,mt,ms,mr, -⟩ q4 n4
   simp only[Bv,AY]at ok
   unfold Mk.cells
   (refine Aj ?_)
   (refine Au ?_)
   refine⟨M,rfl,ok.frame Ah Ah (fun r hr1 hr2=>Aw fun y hy=>Aa),⟨fun k=>Or.inl ⟨by omega,by omega,by omega,?_⟩,fun k=>⟨mt,?_,?_⟩⟩⟩
   ·have:=k.2.2
    rw[ms]at this
    simp only[Sd.add,Sd.by,Int.zero_add]at this
    exact this
   ·rw[ms]
    simp only[Sd.add,Sd.by,Int.zero_add]
    unfold cr
    constructor<;>grind
   ·rw[ms]
    simp only[Sd.add,Sd.by,Int.zero_add]
    rcases k with k|k
    ·exact k.2.2.2
    ·exfalso;omega
  ·(refine Au ?_)
   exact⟨Mk.none,rfl,Mk.Rh,fun k=>absurd k.1 (by simp[Mk.none]),fun k=>by rcases k with k|k<;>(exfalso;omega)⟩
end AE.Tryz.Spn

/- Walks of span: all groups, one after another. -/
namespace AE.Tryz.Spn
open Go AE Go.Proofs AE.Sp
set_option maxRecDepth 100000
set_option linter.unusedVariables false

def Uj (n:Nat) (mo:Int) (g:List Nat):Prop:=(∃a,a<n/\g=[a])\/(∃a b,a<b/\b<n/\g=[a,b])\/(mo=3/\∃a b c,a<b/\b<c/\c<n/\g=[a,b,c])
def YU (g:List Nat):List Value:=g.map fun a:Nat=>Value.int .i64 (a:Int)
def TN (n:Nat) (mo:Int) (l:List (List Nat)) (a b:Nat):Prop:=[a]∈l/\∀b',a<b'->b'<b->[a,b']∈l/\(mo=3->∀c',b'<c'->c'<n->[a,b',c']∈l)
def QG (n:Nat) (mo:Int) (l:List (List Nat)) (a:Nat):Prop:=∀a',a'<a->TN n mo l a' n
theorem TN.add {n a b:Nat}{mo:Int}{l:List (List Nat)}{g:List Nat}(k:TN n mo l a b):TN n mo (l++[g]) a b:=⟨List.mem_append_left _ k.1,fun b' h1 h2=>⟨List.mem_append_left _ (k.2 b' h1 h2).1,fun hm c' h3 h4=>List.mem_append_left _ ((k.2 b' h1 h2).2 hm c' h3 h4)⟩⟩
theorem QG.add {n a:Nat}{mo:Int}{l:List (List Nat)}{g:List Nat}(k:QG n mo l a):QG n mo (l++[g]) a:=fun a' h=>(k a' h).add
theorem SD {l:List (List Nat)}{g:List Nat}:g∈l++[g]:=by simp
theorem QG.all {n:Nat}{mo:Int}{l:List (List Nat)}(k:QG n mo l n) {g:List Nat}(h:Uj n mo g):g∈l:=by
 rcases h with⟨a,ha,rfl⟩|⟨a,b,h1,h2,rfl⟩|⟨hm,a,b,c,h1,h2,h3,rfl⟩
 ·exact(k a ha).1
 ·exact((k a Al).2 b h1 h2).1
 ·exact((k a Al).2 b h1 Al).2 hm c h2 h3

set_option maxHeartbeats 4000000 in
theorem YV {h:H}{T:Tab}{m lo r1 r2:Nat}{mo:Int}{yv:Value}(hmo:mo=2\/mo=3) (hlo:lo<=h.next) (hT:T.Ok m h) (hm:m<=h.next) (g1:h.get r1=some (.cells [.pointer (some ⟨T.r,0,none⟩)] 113)) (b1:r1<h.next)
 (Inv:List (List Nat)->H->Prop) (Fin:H->Prop) (hI:∀l h1,Inv l h1->h1.get r2=some (.cells [.int .i64 mo] 3)) (hst:∀l h1 h2,Inv l h1->Quiet h1.next h1 h2->Inv l h2) (hfin:∀h1 h2,Fin h1->Quiet h1.next h1 h2->Fin h2)
 (hy:∀l g q h1,Uj (2*T.n) mo g->l.length<=30000->Inv l h1->lo<=h1.next->h1.get q=some (.cells (YU g) 3)->h.next<=q->q<h1.next->∃v h2,((v= .bool true/\Inv (l++[g]) h2)\/(v= .bool false/\Fin h2))/\CX Tryz.prog yv lo h1 [.slice (some ⟨q,0,none⟩) g.length g.length] v h2)
 (h0:Inv [] h) (b2:r2<h.next):
 AW Tryz.prog 198 lo h [yv,.pointer (some ⟨r1,0,none⟩),.pointer (some ⟨r2,0,none⟩)] (fun _ h'=>(∃l,(∀g,Uj (2*T.n) mo g->g∈l)/\l.length<=30000/\Inv l h')\/Fin h'):=by
 obtain⟨tg,wZ, -, -, -, -, -, -,tle, -⟩:=hT
 refine zQ.call rfl hlo ?_
 unfold a198
 (refine Aj ?_)
 refine wp_loop (fun s:Nat × List (List Nat)=>[(0,yv),(2,.pointer (some ⟨r2,0,none⟩)),(4,.int .i64 ((2*T.n:Nat):Int)),(13,.int .i64 ((2*T.n:Nat):Int)),(14,.int .i64 s.1)]) (fun s h1=>Inv s.2 h1/\h.next<=h1.next/\s.1<=2*T.n/\QG (2*T.n) mo s.2 s.1/\s.2.length<=1000*s.1) (fun s=>2*T.n - s.1) (0,[]) ⟨rfl,rfl,rfl,rfl,rfl,trivial⟩ ⟨hst _ _ _ h0 AO,Ah,by omega,fun a' h=>absurd h (Nat.not_lt_zero _),by simp⟩ ?_
 rintro⟨a,l⟩ g h1 ⟨hi,n1,hs,dn,ll⟩ K hK
 dsimp only at hi hs dn ll⊢
 have gmo:=hI _ _ hi
 by_cases han:a<2*T.n
 ·(refine Aj ?_)
  apply Dx
  focus exact CJ (hy l [a] _ _ (.inl ⟨a,han,rfl⟩) Al (hst _ h1 _ hi AO) Ah (by show _=some (BQ.cells [Value.int .i64 (a:Int)] 3);(exact Aa)) Al Ah) Ah
  rintro v h2 (⟨rfl,hi2⟩|⟨rfl,hf2⟩) q2
  rotate_left
  ·(refine Aj ?_)
   (refine Au ?_)
   exact .inr (hfin _ _ hf2 AO)
  have n2:=q2.next
  simp only[Bv,AY]at n2
  (refine Aj ?_)
  refine wp_loop (fun s:Nat × List (List Nat)=>[(0,yv),(2,.pointer (some ⟨r2,0,none⟩)),(4,.int .i64 ((2*T.n:Nat):Int)),(5,.int .i64 a),(6,.int .i64 s.1),(13,.int .i64 ((2*T.n:Nat):Int)),(14,.int .i64 a)]) (fun s h1=>Inv s.2 h1/\h.next<=h1.next/\(a<s.1/\s.1<=2*T.n)/\QG (2*T.n) mo s.2 a/\TN (2*T.n) mo s.2 a s.1/\s.2.length<=1000*a+1+30* (s.1 - a - 1)) (fun s=>2*T.n - s.1) (a+1,l++[[a]]) ⟨rfl,rfl,rfl,rfl,AK rfl (by dsimp only;omega),rfl,rfl,trivial⟩ ⟨hst _ _ _ hi2 AO,Ah,by omega,dn.add,⟨SD,fun b' h1 h2=>by dsimp only at h2;omega⟩,by simp;omega⟩ ?_
  rintro⟨b,l⟩ g' h3 ⟨hi,n3,hs',dn,qN,ll2⟩ K' hK'
  dsimp only at hi hs' dn qN ll2⊢
  have gmo:=hI _ _ hi
  by_cases hbn:b<2*T.n
  ·(refine Aj ?_)
   apply Dx
   focus exact CJ (hy l [a,b] _ _ (.inr (.inl ⟨a,b,hs'.1,hbn,rfl⟩)) Al (hst _ h3 _ hi AO) Ah (by show _=some (BQ.cells [Value.int .i64 (a:Int),Value.int .i64 (b:Int)] 3);(exact Aa)) Al Ah) Ah
   rintro v h4 (⟨rfl,hi4⟩|⟨rfl,bM⟩) q4
   rotate_left
   ·(refine Aj ?_)
    (refine Au ?_)
    exact .inr (hfin _ _ bM AO)
   have n4:=q4.next
   simp only[Bv,AY]at n4
   (refine Aj ?_)
   refine wp_loop (fun s:Nat × List (List Nat)=>[(0,yv),(2,.pointer (some ⟨r2,0,none⟩)),(4,.int .i64 ((2*T.n:Nat):Int)),(5,.int .i64 a),(6,.int .i64 b),(7,.int .i64 s.1),(13,.int .i64 ((2*T.n:Nat):Int)),(14,.int .i64 a)]) (fun s h1=>Inv s.2 h1/\h.next<=h1.next/\(b<s.1/\s.1<=2*T.n)/\QG (2*T.n) mo s.2 a/\TN (2*T.n) mo s.2 a b/\[a,b]∈s.2/\(mo=3->∀c',b<c'->c'<s.1->[a,b,c']∈s.2)/\s.2.length<=1000*a+1+30* (b - a - 1)+(s.1 - b)) (fun s=>2*T.n - s.1) (b+1,l++[[a,b]]) ⟨rfl,rfl,rfl,rfl,rfl,AK rfl (by dsimp only;omega),rfl,rfl,trivial⟩ ⟨hst _ _ _ hi4 AO,Ah,by omega,dn.add,qN.add,SD,fun _ b' h1 h2=>by dsimp only at h2;omega,by simp;omega⟩ ?_
   rintro⟨c,l⟩ g'' h5 ⟨hi,n5,Aeh,dn,qN,dn3,dn4,ll3⟩ K'' tV
   dsimp only at hi Aeh dn qN dn3 dn4 ll3⊢
   have gmo:=hI _ _ hi
   have Abi:(mo=3->c=2*T.n)->TN (2*T.n) mo l a (b+1):=fun hc=>⟨qN.1,fun b' h1 h2=>by
    by_cases e:b'=b
    ·subst e;exact⟨dn3,fun QU c' h3 h4=>dn4 QU c' h3 (by have:=hc QU;omega)⟩
    ·exact qN.2 b' h1 Al⟩
   by_cases hcn:c<2*T.n/\mo=3
   ·(refine Aj ?_)
    apply Dx
    focus exact CJ (hy l [a,b,c] _ _ (.inr (.inr ⟨hcn.2,a,b,c,hs'.1,Aeh.1,hcn.1,rfl⟩)) Al (hst _ h5 _ hi AO) Ah (by show _=some (BQ.cells [Value.int .i64 (a:Int),Value.int .i64 (b:Int),Value.int .i64 (c:Int)] 3);(exact Aa)) Al Ah) Ah
    rintro v h6 (⟨rfl,hi6⟩|⟨rfl,jv⟩) q6
    rotate_left
    ·(refine Aj ?_)
     (refine Au ?_)
     exact .inr (hfin _ _ jv AO)
    have n6:=q6.next
    simp only[Bv,AY]at n6
    (refine Aj ?_)
    refine tV (c+1,l++[[a,b,c]]) _ _ ⟨rfl,rfl,rfl,rfl,rfl,AK rfl (by dsimp only;omega),rfl,rfl,trivial⟩ ⟨hst _ _ _ hi6 AO,Ah,by dsimp only;omega,dn.add,qN.add,List.mem_append_left _ dn3,fun QU c' h1 h2=>?_,by simp;omega⟩ (by dsimp only;omega)
    dsimp only at h2
    by_cases e:c'=c
    ·subst e;exact SD
    ·exact List.mem_append_left _ (dn4 QU c' h1 Al)
   ·(focus((try with_reducible apply wpC.to);(repeat'((conv=>whnf);first|refine Ak ?_|(apply Fork.mk<;>(intro _;try(exfalso;omega)))|((refine kTSpanH1 ?_);first|((first|apply Ae|apply Ac|apply Ad)<;>intro _ _ _ _<;>try contradiction)|(apply Ab;intro _ _ _))|fail));all_goals((conv=>whnf);try with_reducible apply At.mk)))
    all_goals exact hK' (b+1,l) _ _ ⟨rfl,rfl,rfl,rfl,AK rfl (by dsimp only;omega),rfl,rfl,trivial⟩ ⟨hst _ _ _ hi AO,Ah,by dsimp only;omega,dn,Abi fun QU=>by omega,by dsimp only;omega⟩ (by dsimp only;omega)
  ·obtain rfl:b=2*T.n:=by omega
   (refine Aj ?_)
   refine hK (a+1,l) _ _ ⟨rfl,rfl,rfl,rfl,AK rfl (by dsimp only;omega),trivial⟩ ⟨hst _ _ _ hi AO,Ah,by dsimp only;omega,fun a' h=>?_,by dsimp only;omega⟩ (by dsimp only;omega)
   dsimp only at h
   by_cases e:a'=a
   ·subst e;exact qN
   ·exact dn a' Al
 ·obtain rfl:a=2*T.n:=by omega
  (refine Aj ?_)
  (refine Au ?_)
  exact .inl ⟨l,fun g hg=>dn.all hg,by omega,hst _ _ _ hi AO⟩
end AE.Tryz.Spn

/- Walks of span: do runs contradict each other. -/
namespace AE.Tryz.Spn
open Go AE Go.Proofs AE.Sp
set_option maxRecDepth 100000
set_option linter.unusedVariables false

def vn (S:Nat->Sd):List Nat->Prop
 |[i,j]=>Acr S i j
 |[i,j,k]=>Acp S i j k
 |_=>False

theorem YX {h:H}{T:Tab}{mo:Int}:AW Tryz.prog 112 h.next h [.pointer (some ⟨T.r,0,none⟩),.int .i64 mo] (fun v h'=>∃r1 r2,v= .func (.func 198) ⟨[]⟩ ⟨[.pointer (some ⟨r1,0,none⟩),.pointer (some ⟨r2,0,none⟩)]⟩/\(h.next<=r1/\r1<h'.next)/\(h.next<=r2/\r2<h'.next)/\h'.get r1=some (.cells [.pointer (some ⟨T.r,0,none⟩)] 113)/\h'.get r2=some (.cells [.int .i64 mo] 3)):=by
 refine Aaz.call rfl (Nat.le_refl _) ?_
 unfold Ai1
 (refine Aj ?_)
 (refine Au ?_)
 exact⟨h.next,h.next+1,rfl,⟨by omega,Ah⟩,⟨by omega,Ah⟩,Aa,Aa⟩

set_option maxHeartbeats 4000000 in
theorem wL {h:H}{T:Tab}{m q:Nat}{g:List Nat}(hm:m<=h.next) (hT:T.Ok m h) (hgr:Uj (2*T.n) 3 g) (hg:h.get q=some (.cells (YU g) 3)) (hq:q<h.next):
 AW Tryz.prog 113 h.next h [.pointer (some ⟨T.r,0,none⟩),.slice (some ⟨q,0,none⟩) g.length g.length] (fun v h'=>∃M:Mk,v= .agg ⟨M.cells⟩/\M.Ok T.S (2*T.n) h.next h'.next h'/\(M.Bad↔vn T.S g)):=by
 rcases hgr with⟨a,ha,rfl⟩|⟨a,b,h1,h2,rfl⟩|⟨-,a,b,c,h1,h2,h3,rfl⟩
 ·obtain⟨v,h',rfl,A⟩:=qW (q:=q) (e:=3) (i:=a) hm hT
  exact⟨_,h',⟨Mk.none,rfl,Mk.Rh,fun k=>absurd k.1 (by simp[Mk.none]),fun k=>k.elim⟩,A⟩
 ·exact qV (e:=3) hm hT h1 h2 hg hq
 ·exact qU (e:=3) hm hT h1 h2 h3 hg hq

def ab (n:Int):Int:=max n (-n)
theorem Xe {n x:Int}(hx:0<x):ab n*x=ab (n*x):=by
 unfold ab
 rcases Int.le_total 0 n with h|h
 ·have:=Int.mul_nonneg h (Int.le_of_lt hx)
  rw[show max n (-n)=n by omega]
  omega
 ·have:=Int.mul_nonneg (show 0<= -n by omega) (Int.le_of_lt hx)
  rw[Int.neg_mul]at this
  rw[show max n (-n)= -n by omega,Int.neg_mul]
  omega
theorem qE (n:Int):ab (-n)=ab n:=by unfold ab;omega
theorem size_eq (s:Sd):s.size=ab s.u+ab s.v:=rfl
theorem size_pos {s:Sd}(h:s.Nz):0<s.size:=by
 unfold Sd.Nz at h
 unfold Sd.size
 omega
theorem mF {a b:Sd}{x y:Int}(hx:0<x) (hy:0<y) (eu:x*a.u+y*b.u=0) (ev:x*a.v+y*b.v=0):Opp a b/\x*a.size=y*b.size:=by
 have u1:a.u*x= -(b.u*y):=by rw[Int.mul_comm a.u,Int.mul_comm b.u];omega
 have v1:a.v*x= -(b.v*y):=by rw[Int.mul_comm a.v,Int.mul_comm b.v];omega
 have hs:x*a.size=y*b.size:=by
  rw[Int.mul_comm x,Int.mul_comm y,size_eq,size_eq,Int.add_mul,Int.add_mul,Xe hx,Xe hx,Xe hy,Xe hy,u1,v1,qE,qE]
 refine⟨⟨Cv (a:=x) Al ?_,Cv (a:=x) Al ?_,Cv (a:=x) Al ?_⟩,hs⟩
 ·unfold cr;grind
 ·grind
 ·grind
theorem pJ {T:Tab}{m:Nat}{h:H}(hT:T.Ok m h) (k:∀g,Uj (2*T.n) 3 g->¬vn T.S g):Clean T.S (2*T.n):=by
 have two:∀i j,i<j->j<2*T.n->∀x y:Int,0<x->0<y->x* (T.S i).u+y* (T.S j).u=0->x* (T.S i).v+y* (T.S j).v=0->x* (T.S i).w+y* (T.S j).w<=0:=by
  intro i j hij hj x y hx hy eu ev
  obtain⟨ho,hs⟩:=mF hx hy eu ev
  have hb:¬Acr T.S i j:=k [i,j] (.inr (.inl ⟨i,j,hij,hj,rfl⟩))
  have hle:(T.S i).w* (T.S j).size+(T.S j).w* (T.S i).size<=0:=Int.not_lt.1 fun h=>hb ⟨ho,h⟩
  refine Hs (size_pos (hT.nz hj)) ?_
  have e:(T.S j).size* (x* (T.S i).w+y* (T.S j).w)=x* ((T.S i).w* (T.S j).size+(T.S j).w* (T.S i).size):=by grind
  rw[e]
  exact Int.mul_nonpos_of_nonneg_of_nonpos (Int.le_of_lt hx) hle
 have tri:∀i j l,i<j->j<l->l<2*T.n->¬Acp T.S i j l:=fun i j l h1 h2 h3=>k [i,j,l] (.inr (.inr ⟨rfl,i,j,l,h1,h2,h3,rfl⟩))
 refine⟨fun i hi=>hT.nz hi,fun i j hi hj x y hx hy eu ev=>?_,fun i j l hi hj hl cx cy cz=>?_⟩
 ·rcases Nat.lt_trichotomy i j with h|h|h
  ·exact two i j h hj x y hx hy eu ev
  ·subst h
   exfalso
   rcases hT.nz hi with h|h
   ·exact h (Cv (a:=x+y) Al (by rw[Int.add_mul];exact eu))
   ·exact h (Cv (a:=x+y) Al (by rw[Int.add_mul];exact ev))
  ·have:=two j i h hi y x hy hx Al Al
   omega
 ·have ne:∀{a b:Nat},0<cr (T.S a) (T.S b)->a≠b:=fun h e=>by subst e;unfold cr at h;rw[Int.mul_comm]at h;omega
  have n1:=ne cx
  have n2:=ne cy
  have n3:=ne cz
  have sw:∀a b,cr (T.S b) (T.S a)= -cr (T.S a) (T.S b):=fun a b=>Eu _ _
  refine Int.not_lt.1 fun hlt=>?_
  have e1:=sw i j
  have e2:=sw j l
  have e3:=sw l i
  rw[Int.mul_comm (cr (T.S j) (T.S l)),Int.mul_comm (cr (T.S l) (T.S i)),Int.mul_comm (cr (T.S i) (T.S j))]at hlt
  rcases Nat.lt_or_gt_of_ne n3 with h1|h1<;>rcases Nat.lt_or_gt_of_ne n1 with h2|h2<;>rcases Nat.lt_or_gt_of_ne n2 with h3|h3
  all_goals first
   |(exfalso;omega)
   |exact tri i j l Al Al Al (.inl ⟨by omega,by omega,by omega,by omega⟩)
   |exact tri j l i Al Al Al (.inl ⟨by omega,by omega,by omega,by omega⟩)
   |exact tri l i j Al Al Al (.inl ⟨by omega,by omega,by omega,by omega⟩)
   |exact tri i l j Al Al Al (.inr ⟨by omega,by omega,by omega,by rw[e1,e2,e3];simp only[Int.neg_neg];omega⟩)
   |exact tri j i l Al Al Al (.inr ⟨by omega,by omega,by omega,by rw[e1,e2,e3];simp only[Int.neg_neg];omega⟩)
   |exact tri l j i Al Al Al (.inr ⟨by omega,by omega,by omega,by rw[e1,e2,e3];simp only[Int.neg_neg];omega⟩)

set_option maxHeartbeats 8000000 in
theorem fK {h:H}{T:Tab}{m:Nat}(hm:m<=h.next) (hT:T.Ok m h):AW Tryz.prog 46 h.next h [.pointer (some ⟨T.r,0,none⟩)] (fun v h'=>∃(M:Mk) (b:Bool),v= .tuple #[.agg ⟨M.cells⟩,.bool b]/\(b=true->M.Ok T.S (2*T.n) h.next h'.next h'/\M.Bad)/\(b=false->M=Mk.none/\Clean T.S (2*T.n))):=by
 refine vV.call rfl (Nat.le_refl _) ?_
 unfold a46
 (refine Aj ?_)
 apply Ar
 focus(exact Ao)
 focus(exact AQ)
 focus exact YX (T:=T) (mo:=3)
 rintro _ h2 ⟨r1,r2,rfl,b1,b2,g1,g2⟩ q2 n2
 simp only[Bv,AY]at b1 b2
 (refine Aj ?_)
 refine Dq (l:=[(1,.pointer (some ⟨h.next,0,none⟩)),(2,.pointer (some ⟨h.next+1,0,none⟩)),(3,.bool false),(4,.pointer (some ⟨h.next+3,0,none⟩)),(5,.pointer (some ⟨h.next+4,0,none⟩)),(9,.func (.func 198) ⟨[]⟩ ⟨[.pointer (some ⟨r1,0,none⟩),.pointer (some ⟨r2,0,none⟩)]⟩)]) ⟨rfl,rfl,rfl,rfl,rfl,rfl,trivial⟩ fun g'=>?_
 apply IK
 focus exact rfl
 focus(exact Ao)
 focus(exact Jk)
 intro L0 hL0
 have x0:h2.get h.next=some (.cells [.pointer (some ⟨T.r,0,none⟩)] 113):=by(exact Aa)
 have x1:h2.get (h.next+1)=some (.cells [.map none,.int .i64 0,.int .i64 0,.int .i64 0,.int .i64 0] 111):=by(exact Aa)
 have x3:h2.get (h.next+3)=some (.cells [.map none,.int .i64 0,.int .i64 0,.int .i64 0,.int .i64 0] 111):=by(exact Aa)
 have x4:h2.get (h.next+4)=some (.cells [.bool false] 4):=by(exact Aa)
 have R3:Same m h h2:=by(exact Aq)
 refine⟨_,YV (T:=T) (m:=m) (r1:=r1) (r2:=r2) (mo:=3) (.inr rfl) Ah (hT.same Aq (Nat.le_refl _)) Ah Aa Ah
  (fun l h1=>h1.get h.next=some (.cells [.pointer (some ⟨T.r,0,none⟩)] 113)/\h1.get (h.next+1)=some (.cells [.map none,.int .i64 0,.int .i64 0,.int .i64 0,.int .i64 0] 111)/\h1.get (h.next+3)=some (.cells [.map none,.int .i64 0,.int .i64 0,.int .i64 0,.int .i64 0] 111)/\h1.get (h.next+4)=some (.cells [.bool false] 4)/\h1.get r2=some (.cells [.int .i64 3] 3)/\Same m h h1/\h1.get h2.next=some (.loop L0)/\h2.next<h1.next/\∀g∈l,¬vn T.S g)
  (fun h1=>∃M:Mk,h1.get (h.next+1)=some (.cells [.map none,.int .i64 0,.int .i64 0,.int .i64 0,.int .i64 0] 111)/\h1.get (h.next+3)=some (.cells M.cells 111)/\h1.get (h.next+4)=some (.cells [.bool true] 4)/\M.Ok T.S (2*T.n) (h2.next+1) h1.next h1/\M.Bad/\h1.get h2.next=some (.loop (ended (busy L0) (.exit 0)))/\h2.next<h1.next)
  (fun l h1 k=>k.2.2.2.2.1) ?_ ?_ ?_ ?_ Ah,?_⟩
 ·rintro l h3 h4 ⟨k0,k1,k2,k3,k4,k5,k6,k7,k8⟩ qq
  have:=qq.next
  exact⟨Aa,Aa,Aa,Aa,Aa,Aq,Aa,by omega,k8⟩
 ·rintro h3 h4 ⟨M,k1,k2,k3,k4,k5,k6,k7⟩ qq
  have:=qq.next
  exact⟨M,Aa,Aa,Aa,k4.frame (Nat.le_refl _) Al fun r hr1 hr2=>qq.same r hr2,k5,Aa,by omega⟩
 ·rintro l g q h3 hg - ⟨k0,k1,k2,k3,k4,k5,k6,k7,k8⟩ hle gq hq1 hq2
  simp only[Bv,AY]at hq1
  refine YA.call vV.mixed (A:=gu) (B:=gk) (L:=L0) (by rw[hL0];exact Ag6) (by rw[hL0];exact Ag5) k6 Al Al (by rw[hL0];exact rfl) (by rw[hL0];exact rfl) ?_
  unfold YA gu
  refine Dq (l:=[(1,.pointer (some ⟨h.next,0,none⟩)),(4,.pointer (some ⟨h.next+3,0,none⟩)),(5,.pointer (some ⟨h.next+4,0,none⟩)),(10,.slice (some ⟨q,0,none⟩) g.length g.length)]) ⟨by rw[hL0];exact rfl,by rw[hL0];exact rfl,by rw[hL0];exact rfl,by rw[hL0];exact rfl,trivial⟩ fun g''=>?_
  (refine Aj ?_)
  refine⟨rfl,L0,Aa,by rw[hL0];exact rfl,?_⟩
  unfold gk
  (refine Aj ?_)
  apply Ar
  focus(exact Ao)
  focus(exact AQ)
  focus exact wL (T:=T) (m:=m) (q:=q) (g:=g) Ah (hT.same Aq (Nat.le_refl _)) hg Aa Ah
  rintro _ h4 ⟨M,rfl,ok,bad⟩ q4 n4
  simp only[Bv,AY]at ok n4
  have hL1:ended (busy L0) .none=L0:=by rw[hL0];exact rfl
  have go:¬M.Bad->∀g'∈l++[g],¬vn T.S g':=fun hb g' hg'=>by
   rcases List.mem_append.1 hg' with h1|h1
   ·exact k8 g' h1
   ·rw[List.mem_singleton.1 h1];exact fun k=>hb (bad.2 k)
  unfold Mk.cells
  (focus((try with_reducible apply wpC.to);(repeat'((conv=>whnf);first|refine Ak ?_|(apply Fork.mk<;>(intro _;try(exfalso;omega)))|((refine kTSpanH2 ?_);first|((first|apply Ae|apply Ac|apply Ad)<;>intro _ _ _ _<;>try contradiction)|(apply Ab;intro _ _ _))|fail));all_goals((conv=>whnf);try with_reducible apply At.mk)))
  ·have mt:M.t=1:=by assumption
   by_cases hz:M.s.u=0/\M.s.v=0
   ·refine DT.pure (.bool true) (DU (A:=⟨M.s.flat.cells⟩) (B:=⟨(⟨0,0,0⟩:Sd).cells⟩) rfl rfl rfl rfl rfl (by kernel_rfl) ((Mb M.s.flat ⟨0,0,0⟩).trans (congrArg some (decide_eq_true ⟨hz.1,hz.2,rfl⟩)))) ?_
    (focus((try with_reducible apply wpC.to);(repeat'((conv=>whnf);first|refine Ak ?_|(apply Fork.mk<;>(intro _;try(exfalso;omega)))|((refine kTSpanH2 ?_);first|((first|apply Ae|apply Ac|apply Ad)<;>intro _ _ _ _<;>try contradiction)|(apply Ab;intro _ _ _))|fail));all_goals((conv=>whnf);try with_reducible apply At.mk)))
    ·have hb:M.Bad:=⟨mt,hz,by assumption⟩
     refine⟨.exit 0,_,rfl,Aa,.inr ⟨rfl,M,Aa,by first|(exact Aa)|(unfold Mk.cells;(exact Aa)),Aa,ok.frame Ah Ah fun r hr1 hr2=>Aw fun y hy=>Aa,hb,Aa,Ah⟩⟩
    ·exact⟨.none,_,rfl,Aa,.inl ⟨rfl,Aa,Aa,Aa,Aa,Aa,Aq,by rw[hL1];(exact Aa),Ah,go fun k=>by have:=k.2.2;omega⟩⟩
   ·refine DT.pure (.bool false) (DU (A:=⟨M.s.flat.cells⟩) (B:=⟨(⟨0,0,0⟩:Sd).cells⟩) rfl rfl rfl rfl rfl (by kernel_rfl) ((Mb M.s.flat ⟨0,0,0⟩).trans (congrArg some (decide_eq_false fun k=>hz ⟨k.1,k.2.1⟩)))) ?_
    (refine Aj ?_)
    exact⟨.none,_,rfl,Aa,.inl ⟨rfl,Aa,Aa,Aa,Aa,Aa,Aq,by rw[hL1];(exact Aa),Ah,go fun k=>hz k.2.1⟩⟩
  ·exact⟨.none,_,rfl,Aa,.inl ⟨rfl,Aa,Aa,Aa,Aa,Aa,Aq,by rw[hL1];(exact Aa),Ah,go fun k=>absurd k.1 (by assumption)⟩⟩
 ·exact⟨Aa,Aa,Aa,Aa,Aa,Aq,Aa,Ah,fun g hg=>absurd hg (by simp)⟩
 ·rintro v h3 hv qq
  rcases hv with⟨l,hl, -,k0,k1,k2,k3,k4,k5,k6,k7,k8⟩|⟨M,k1,k2,k3,k4,k5,k6,k7⟩
  ·refine⟨_,k6,by rw[hL0];simp[EX],?_⟩
   rw[hL0]
   simp only[EX,FU]
   (refine Aj ?_)
   (refine Au ?_)
   exact⟨Mk.none,false,rfl,fun h=>Bool.noConfusion h,fun _=>⟨rfl,pJ hT fun g hg=>k8 g (hl g hg)⟩⟩
  ·refine⟨_,k6,by rw[hL0];simp[EX,ended,busy,Ov],?_⟩
   simp only[ended,FU]
   unfold Mk.cells at k2
   (refine Aj ?_)
   (refine Au ?_)
   exact⟨M,true,rfl,fun _=>⟨k4.frame Ah Ah fun r hr1 hr2=>Aw fun y hy=>Aa,k5⟩,fun h=>Bool.noConfusion h⟩
end AE.Tryz.Spn

/- Walks of span: the best of several. -/
namespace AE.Tryz.Spn
open Go AE Go.Proofs AE.Sp
set_option maxRecDepth 100000
set_option linter.unusedVariables false

theorem Hh.lt_iff {x y:Fr}{n d n' d':Int}(k:Hh x n d) (k':Hh y n' d'):x.n*y.d<y.n*x.d↔n*d'<n'*d:=by
 obtain⟨h1,g,hg,rfl,rfl⟩:=k
 obtain⟨h2,g',hg',rfl,rfl⟩:=k'
 have e1:x.n*g* (y.d*g')=x.n*y.d* (g*g'):=by ac_rfl
 have e2:y.n*g'* (x.d*g)=y.n*x.d* (g*g'):=by ac_rfl
 rw[e1,e2]
 have hp:=Int.mul_pos hg hg'
 exact⟨fun h=>Int.mul_lt_mul_of_pos_right h hp,fun h=>Int.lt_of_mul_lt_mul_right h Al⟩

theorem sW {h:H}{x y:Fr}{X Y:Int}(hx: -X<=x.n/\x.n<=X) (hy: -X<=y.n/\y.n<=X) (dx:0<x.d/\x.d<=Y) (dy:0<y.d/\y.d<=Y) (hb:X*Y<=4611686018427387904):AW Tryz.prog 208 h.next h [.agg ⟨x.cells⟩,.agg ⟨y.cells⟩] (fun v _=>v= .bool (decide (x.n*y.d<y.n*x.d))):=by
 have b1:=BJ (b:=y.d) (B:=Y) hx.1 hx.2 Al Al
 have b2:=BJ (b:=x.d) (B:=Y) hy.1 hy.2 Al Al
 refine zH.call rfl (Nat.le_refl _) ?_
 unfold a208 Fr.cells
 (focus((try with_reducible apply wpC.to);(repeat'((conv=>whnf);first|refine Ak ?_|(apply Fork.mk<;>(intro _;try(exfalso;omega)))|fail));all_goals((conv=>whnf);try with_reducible apply At.mk)))
 all_goals((refine Au ?_);first|exact CI rfl Al|exact Ch rfl Al)

structure Mk.Ui (M:Mk):Prop where
 t:0<M.t/\M.t<=800
 w: -240000000<=M.s.w/\M.s.w<=240000000
def Mk.fr (M:Mk):Fr:=AE.Tryz.Spn.fr M.s.w M.t
theorem fT {h:H}{M:Mk}(k:M.Ui):AW Tryz.prog 58 h.next h [.agg ⟨M.cells⟩] (fun v _=>v= .agg ⟨M.fr.cells⟩):=by
 have k1:=k.t
 have k2:=k.w
 refine Afj.call rfl (Nat.le_refl _) ?_
 unfold a58 Mk.cells
 (refine Aj ?_)
 apply Dw
 focus(exact Ao)
 focus(exact AQ)
 focus exact dW Al Al
 intro h2 q2 n2
 (refine Aj ?_)
 (refine Au ?_)
 rfl
theorem Mk.Ui.of {M:Mk}(k:M.Ui):Hh M.fr M.s.w M.t:=fD k.t.1
theorem Mk.Ui.rng {M:Mk}(k:M.Ui):(-240000000<=M.fr.n/\M.fr.n<=240000000)/\0<M.fr.d/\M.fr.d<=800:=by
 have:=k.of.xW
 have:=k.t
 exact⟨k.of.bnd k.w.1 k.w.2,k.of.d0,by omega⟩
theorem kTSpanK0 {G G':Prop}(g:G') (t:G'->G:=by((apply Ar);(focus exact Ao);(focus exact AQ);(focus((apply fT;focus assumption))))):G:=t g
theorem pZ {h:H}{A B:Mk}(ka:A.Ui) (kb:B.Ui):AW Tryz.prog 207 h.next h [.agg ⟨A.cells⟩,.agg ⟨B.cells⟩] (fun v _=>v= .bool (decide (B.s.w*A.t<A.s.w*B.t))):=by
 have ra:=ka.rng
 have rb:=kb.rng
 refine zI.call rfl (Nat.le_refl _) ?_
 unfold Ah8
 have eA:(⟨A.cells⟩:Array Value)=⟨[.map A.r,.int .i64 A.s.u,.int .i64 A.s.v,.int .i64 A.s.w,.int .i64 A.t]⟩:=rfl
 have eB:(⟨B.cells⟩:Array Value)=⟨[.map B.r,.int .i64 B.s.u,.int .i64 B.s.v,.int .i64 B.s.w,.int .i64 B.t]⟩:=rfl
 rw[eA,eB]
 (focus((try with_reducible apply wpC.to);(repeat'((conv=>whnf);first|refine Ak ?_|((refine kTSpanK0 ?_);first|((first|apply Ae|apply Ac|apply Ad)<;>intro _ _ _ _<;>try contradiction)|(apply Ab;intro _ _ _))|fail));all_goals((conv=>whnf);try with_reducible apply At.mk)))
 apply Dw
 focus(exact Ao)
 focus(exact AQ)
 focus exact sW (x:=B.fr) (y:=A.fr) (X:=240000000) (Y:=800) rb.1 ra.1 rb.2 ra.2 (by decide)
 intro h2 q2 n2
 (refine Aj ?_)
 (refine Au ?_)
 congr 1
 exact decide_eq_decide.2 (kb.of.lt_iff ka.of)

structure Mks where
 n:Nat
 f:Nat->Mk
 b:Option Addr
 a:Addr
 c:Nat
structure Mks.Ok (L:Mks) (m:Nat) (h:H):Prop where
 e:0<L.n->L.b=some L.a
 i:JP h L.a L.n 5 (fun i=>(L.f i).cells)
 r:0<L.n->L.a.block<m
 l:L.n<=100000
 s:0<L.n->Ajb L.a L.n L.c

set_option maxHeartbeats 2000000 in
theorem oQ {h:H}{L:Mks}{m:Nat}(hm:m<=h.next) (hL:L.Ok m h) (h0:0<L.n) (nice:∀i,i<L.n->(L.f i).Ui):
 AW Tryz.prog 206 h.next h [.slice L.b L.n L.c,.func (.func 207) ⟨[]⟩ ⟨[]⟩] (fun v _=>∃i,i<L.n/\v= .agg ⟨(L.f i).cells⟩/\∀j,j<L.n->(L.f j).s.w* (L.f i).t<=(L.f i).s.w* (L.f j).t):=by
 obtain⟨e1,i1,r1,l1,s1⟩:=hL
 have xb:=r1 h0
 refine zJ.call rfl (Nat.le_refl _) ?_
 unfold a206
 (refine Aj ?_)
 apply xB (a:=L.a) (n:=L.n) (c:=L.c) (l:=1) (e1 h0▸rfl) rfl (s1 h0) Al h0 Al Al
 intro a' c' ha'
 have i2:JP h a' (L.n - 1) 5 (fun i=>(L.f (i+1)).cells):=fun i hi=>by
  have:=i1 (i+1) Al
  rw[ha' Al]
  have e:BI (BI L.a (1*5)) (i*5)=BI L.a ((i+1) *5):=by simp only[BI];congr 1;omega
  rw[e];exact this
 have xb':1<L.n->a'.block<m:=fun h=>by rw[ha' h];exact xb
 clear ha'
 (refine Aj ?_)
 refine wp_loop (fun s:Nat × Nat=>[(1,.func (.func 207) ⟨[]⟩ ⟨[]⟩),(4,.pointer (some ⟨h.next,0,none⟩)),(5,.pointer (some ⟨h.next+4,0,none⟩)),(12,.slice (some a') (L.n - 1) c'),(13,.int .i64 ((L.n - 1:Nat):Int)),(14,.int .i64 s.1)])
  (fun s h1=>h1.get h.next=some (.cells [.map none,.int .i64 0,.int .i64 0,.int .i64 0,.int .i64 0] 111)/\h1.get (h.next+4)=some (.cells [.map (L.f s.2).r,.int .i64 (L.f s.2).s.u,.int .i64 (L.f s.2).s.v,.int .i64 (L.f s.2).s.w,.int .i64 (L.f s.2).t] 111)/\Same m h h1/\h.next+5<=h1.next/\s.1<=L.n - 1/\s.2<L.n/\∀j,j<=s.1->(L.f j).s.w* (L.f s.2).t<=(L.f s.2).s.w* (L.f j).t) (fun s=>L.n - 1 - s.1) (0,0) ⟨rfl,rfl,rfl,rfl,rfl,rfl,trivial⟩ ⟨Aa,Aa,Aq,Ah,by dsimp only;omega,h0,fun j hj=>(Nat.le_zero.1 hj)▸Int.le_refl _⟩ ?_
 rintro⟨s,b⟩ g h1 ⟨g0,g1,sm,n1,hs,hb,FH⟩ K hK
 dsimp only at g1 hs hb FH⊢
 by_cases hsn:s<L.n - 1
 ·have i5:=i2.same sm (fun _=>xb' Al)
  have nb:=nice b hb
  have ns:=nice (s+1) Al
  have xb5:=xb' Al
  unfold Mk.cells at i5
  (refine Aj ?_)
  apply Fp
  focus(exact Ao)
  focus(exact AQ)
  focus exact pZ ns nb
  ·intro hc h2 q2 n2
   have hc:=of_decide_eq_true hc
   (refine Aj ?_)
   refine hK (s+1,s+1) _ _ ⟨rfl,rfl,rfl,rfl,rfl,AK rfl (by dsimp only;omega),trivial⟩ ⟨Aa,Aa,Aq,Ah,by dsimp only;omega,by dsimp only;omega,fun j hj=>?_⟩ (by dsimp only;omega)
   dsimp only at hj⊢
   by_cases e:j=s+1
   ·subst e;exact Int.le_refl _
   ·have h3:=FH j Al
    have nj:=(nice j Al).t
    refine Int.le_of_mul_le_mul_left (a:=(L.f b).t) ?_ nb.t.1
    have m1:=Int.mul_le_mul_of_nonneg_right h3 (Int.le_of_lt ns.t.1)
    have m2:=Int.mul_le_mul_of_nonneg_right (Int.le_of_lt hc) (Int.le_of_lt nj.1)
    have e1:(L.f b).t* ((L.f j).s.w* (L.f (s+1)).t)=(L.f j).s.w* (L.f b).t* (L.f (s+1)).t:=by ac_rfl
    have e2:(L.f b).t* ((L.f (s+1)).s.w* (L.f j).t)=(L.f (s+1)).s.w* (L.f b).t* (L.f j).t:=by ac_rfl
    have e3:(L.f b).s.w* (L.f j).t* (L.f (s+1)).t=(L.f b).s.w* (L.f (s+1)).t* (L.f j).t:=by ac_rfl
    omega
  ·intro hc h2 q2 n2
   have hc:=of_decide_eq_false hc
   (refine Aj ?_)
   refine hK (s+1,b) _ _ ⟨rfl,rfl,rfl,rfl,rfl,AK rfl (by dsimp only;omega),trivial⟩ ⟨Aa,Aa,Aq,Ah,by dsimp only;omega,hb,fun j hj=>?_⟩ (by dsimp only;omega)
   dsimp only at hj⊢
   by_cases e:j=s+1
   ·subst e;omega
   ·exact FH j Al
 ·obtain rfl:s=L.n - 1:=by omega
  (refine Aj ?_)
  (refine Au ?_)
  exact⟨b,hb,rfl,fun j hj=>FH j Al⟩
end AE.Tryz.Spn
