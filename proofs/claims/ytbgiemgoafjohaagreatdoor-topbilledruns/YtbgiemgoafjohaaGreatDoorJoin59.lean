/- Walks and plain laws: T12Wd, T12X, T12Y. -/
import Derived.Test.YtbgiemgoafjohaaGreatDoorT12Code
import Derived.Test.YtbgiemgoafjohaaGreatDoorT12K279
import Derived.Test.YtbgiemgoafjohaaGreatDoorT12K280
import Derived.Test.YtbgiemgoafjohaaGreatDoorT12K281
import Derived.Test.YtbgiemgoafjohaaGreatDoorT12K282
import Derived.Test.YtbgiemgoafjohaaGreatDoorT12K213
import Derived.Test.YtbgiemgoafjohaaGreatDoorT12W77
import Derived.Test.YtbgiemgoafjohaaGreatDoorT12M78
import Derived.Test.YtbgiemgoafjohaaGreatDoorT12M33
import Derived.Test.YtbgiemgoafjohaaGreatDoorT12M34
import Derived.Test.YtbgiemgoafjohaaGreatDoorT12K84
import Derived.Test.YtbgiemgoafjohaaGreatDoorT12K38
import Derived.Test.YtbgiemgoafjohaaGreatDoorAEthree
import Derived.Test.YtbgiemgoafjohaaGreatDoorJoin91
import Derived.Test.YtbgiemgoafjohaaGreatDoorJoin87
import Derived.Test.YtbgiemgoafjohaaGreatDoorJoin56
set_option linter.unusedVariables false
set_option linter.unusedSimpArgs false
set_option linter.unusedSectionVars false

/- Works of the layers up to 12. -/
namespace AE.Tryz
open Go AE Go.Proofs
set_option maxRecDepth 100000
theorem ou {h:H}:AW Tryz.prog 279 h.next h [] (fun v h'=>v= .bool true/\h'=h):=kc kI
theorem ot {h:H}:AW Tryz.prog 280 h.next h [] (fun v h'=>v= .bool true/\h'=h):=kc kH
theorem oq {h:H}:AW Tryz.prog 281 h.next h [] (fun v h'=>v= .bool true/\h'=h):=kc kG
theorem oh {h:H}:AW Tryz.prog 282 h.next h [] (fun v h'=>v= .bool true/\h'=h):=kc kF
theorem oA {h:H}:AW Tryz.prog 213 h.next h [] (fun v h'=>v= .bool true/\h'=h):=kc kL
theorem sP {h:H}:AW Tryz.prog 84 h.next h [] (fun v h'=>v= .bool true/\h'=h):=kc qa
theorem sS {h:H}:AW Tryz.prog 38 h.next h [] (fun v h'=>v= .bool true/\h'=h):=kc qd
theorem Wi {h:H}:AW Tryz.prog 212 h.next h [] (fun v _=>v= .bool true):=by
 refine g9.call rfl (Nat.le_refl _) ?_
 unfold a212
 (first|(refine Ai ?_)|(trace "SITE T12Wd 1";(focus((try with_reducible apply wpC.to);(repeat'((conv=>whnf);first|refine Aw ?_|fail));all_goals((conv=>whnf);try with_reducible apply At.mk)))))
 apply Ak
 focus(exact Ae)
 focus(exact AK)
 focus exact ou
 rintro _ _ ⟨rfl,rfl⟩ q hn
 (first|(refine Ai ?_)|(trace "SITE T12Wd 2";(focus((try with_reducible apply wpC.to);(repeat'((conv=>whnf);first|refine Aw ?_|fail));all_goals((conv=>whnf);try with_reducible apply At.mk)))))
 apply Ak
 focus(exact Ae)
 focus(exact AK)
 focus exact ot
 rintro _ _ ⟨rfl,rfl⟩ q hn
 (first|(refine Ai ?_)|(trace "SITE T12Wd 3";(focus((try with_reducible apply wpC.to);(repeat'((conv=>whnf);first|refine Aw ?_|fail));all_goals((conv=>whnf);try with_reducible apply At.mk)))))
 apply Ak
 focus(exact Ae)
 focus(exact AK)
 focus exact oq
 rintro _ _ ⟨rfl,rfl⟩ q hn
 (first|(refine Ai ?_)|(trace "SITE T12Wd 4";(focus((try with_reducible apply wpC.to);(repeat'((conv=>whnf);first|refine Aw ?_|fail));all_goals((conv=>whnf);try with_reducible apply At.mk)))))
 apply Ak
 focus(exact Ae)
 focus(exact AK)
 focus exact oh
 rintro _ _ ⟨rfl,rfl⟩ q hn
 (first|(refine Ai ?_)|(trace "SITE T12Wd 5";(focus((try with_reducible apply wpC.to);(repeat'((conv=>whnf);first|refine Aw ?_|fail));all_goals((conv=>whnf);try with_reducible apply At.mk)))))
 (refine AA ?_)
 rfl
theorem Wh {h:H}:AW Tryz.prog 146 h.next h [] (fun v _=>v= .bool true):=by
 refine iG.call rfl (Nat.le_refl _) ?_
 unfold a146
 (first|(refine Ai ?_)|(trace "SITE T12Wd 6";(focus((try with_reducible apply wpC.to);(repeat'((conv=>whnf);first|refine Aw ?_|fail));all_goals((conv=>whnf);try with_reducible apply At.mk)))))
 apply Eo
 focus(exact Ae)
 focus(exact AK)
 focus exact Wi
 intro _ q hn
 (first|(refine Ai ?_)|(trace "SITE T12Wd 7";(focus((try with_reducible apply wpC.to);(repeat'((conv=>whnf);first|refine Aw ?_|fail));all_goals((conv=>whnf);try with_reducible apply At.mk)))))
 apply Ak
 focus(exact Ae)
 focus(exact AK)
 focus exact oA
 rintro _ _ ⟨rfl,rfl⟩ q hn
 (first|(refine Ai ?_)|(trace "SITE T12Wd 8";(focus((try with_reducible apply wpC.to);(repeat'((conv=>whnf);first|refine Aw ?_|fail));all_goals((conv=>whnf);try with_reducible apply At.mk)))))
 apply Ak
 focus(exact Ae)
 focus(exact AK)
 focus exact ow
 rintro _ _ ⟨rfl,rfl⟩ q hn
 (first|(refine Ai ?_)|(trace "SITE T12Wd 9";(focus((try with_reducible apply wpC.to);(repeat'((conv=>whnf);first|refine Aw ?_|fail));all_goals((conv=>whnf);try with_reducible apply At.mk)))))
 (refine AA ?_)
 rfl
theorem Wd {h:H}:AW Tryz.prog 82 h.next h [] (fun v _=>v= .bool true):=by
 refine lM.call rfl (Nat.le_refl _) ?_
 unfold a82
 (first|(refine Ai ?_)|(trace "SITE T12Wd 10";(focus((try with_reducible apply wpC.to);(repeat'((conv=>whnf);first|refine Aw ?_|fail));all_goals((conv=>whnf);try with_reducible apply At.mk)))))
 apply Eo
 focus(exact Ae)
 focus(exact AK)
 focus exact Wh
 intro _ q hn
 (first|(refine Ai ?_)|(trace "SITE T12Wd 11";(focus((try with_reducible apply wpC.to);(repeat'((conv=>whnf);first|refine Aw ?_|fail));all_goals((conv=>whnf);try with_reducible apply At.mk)))))
 apply Ak
 focus(exact Ae)
 focus(exact AK)
 focus exact oD
 rintro _ _ ⟨rfl,rfl⟩ q hn
 (first|(refine Ai ?_)|(trace "SITE T12Wd 12";(focus((try with_reducible apply wpC.to);(repeat'((conv=>whnf);first|refine Aw ?_|fail));all_goals((conv=>whnf);try with_reducible apply At.mk)))))
 apply Ak
 focus(exact Ae)
 focus(exact AK)
 focus exact oC
 rintro _ _ ⟨rfl,rfl⟩ q hn
 (first|(refine Ai ?_)|(trace "SITE T12Wd 13";(focus((try with_reducible apply wpC.to);(repeat'((conv=>whnf);first|refine Aw ?_|fail));all_goals((conv=>whnf);try with_reducible apply At.mk)))))
 (refine AA ?_)
 rfl
theorem Wc {h:H}:AW Tryz.prog 37 h.next h [] (fun v _=>v= .bool true):=by
 refine lW.call rfl (Nat.le_refl _) ?_
 unfold a37
 (first|(refine Ai ?_)|(trace "SITE T12Wd 14";(focus((try with_reducible apply wpC.to);(repeat'((conv=>whnf);first|refine Aw ?_|fail));all_goals((conv=>whnf);try with_reducible apply At.mk)))))
 apply Eo
 focus(exact Ae)
 focus(exact AK)
 focus exact Wd
 intro _ q hn
 (first|(refine Ai ?_)|(trace "SITE T12Wd 15";(focus((try with_reducible apply wpC.to);(repeat'((conv=>whnf);first|refine Aw ?_|fail));all_goals((conv=>whnf);try with_reducible apply At.mk)))))
 apply Ak
 focus(exact Ae)
 focus(exact AK)
 focus exact sQ
 rintro _ _ ⟨rfl,rfl⟩ q hn
 (first|(refine Ai ?_)|(trace "SITE T12Wd 16";(focus((try with_reducible apply wpC.to);(repeat'((conv=>whnf);first|refine Aw ?_|fail));all_goals((conv=>whnf);try with_reducible apply At.mk)))))
 apply Ak
 focus(exact Ae)
 focus(exact AK)
 focus exact sP
 rintro _ _ ⟨rfl,rfl⟩ q hn
 (first|(refine Ai ?_)|(trace "SITE T12Wd 17";(focus((try with_reducible apply wpC.to);(repeat'((conv=>whnf);first|refine Aw ?_|fail));all_goals((conv=>whnf);try with_reducible apply At.mk)))))
 (refine AA ?_)
 rfl
end AE.Tryz

/- What stands for library calls of the clerk in evaluations: FormatInt, line, Join, Split. -/
namespace AE.Tryz
open Go AE Go.Proofs AE.Clerk
set_option maxRecDepth 100000
set_option linter.unusedVariables false
def SV:Nat->Nat->List Nat->List Nat
 |0,_,acc=>acc
 |f+1,n,acc=>bif Nat.blt n 10 then(48+n)::acc else SV f (n / 10) ((48+n%10)::acc)
theorem N6:∀(f n:Nat) (acc:List Nat),0<f->n<10^f->SV f n acc=dec n++acc
 | f +1,n,acc,_,h=>by
   unfold SV
   by_cases hn:n<10
   ·rw[show Nat.blt n 10=true from Nat.ble_eq_true_of_le hn,cond_true,dec_lt hn]
    rfl
   ·have hb:Nat.blt n 10=false:=by
     cases hc:Nat.blt n 10 with
     |false=>rfl
     |true=>exact absurd (Nat.le_of_ble_eq_true hc) Af
    have hf:0<f:=by
     rcases Nat.eq_zero_or_pos f with rfl|hf
     ·simp at h;omega
     ·exact hf
    rw[hb,cond_false,N6 f (n / 10) _ hf (by rw[Nat.pow_succ]at h;omega),QW (show 10<=n by omega)]
    simp
def Ny:List Value->Option (List Nat)
 |[]=>some []
 | .int .i64 (.ofNat n)::l=>bif Nat.ble n 9223372036854775807 then(match Ny l with
   |some r=>some (n::r)
   |none=>none)else none
 |_=>none
theorem Nw:∀{l:List Value}{ns:List Nat},Ny l=some ns->l=(ns.map Int.ofNat).map (Value.int .i64)/\∀n∈ns,n<=9223372036854775807
 | [],ns,h=>by
   simp only[Ny,Option.some.injEq]at h
   subst h
   exact⟨rfl,fun n hn=>by simp at hn⟩
 | v::l,ns,h=>by
   unfold Ny at h
   split at h
   ·simp_all
   ·rename_i n l' e
    obtain⟨rfl,rfl⟩:=List.cons.inj e
    cases hb:Nat.ble n 9223372036854775807 with
    |false=>rw[hb]at h;cases h
    | true=>
      rw[hb,cond_true]at h
      split at h
      ·rename_i r hr
       simp only[Option.some.injEq]at h
       subst h
       obtain⟨e1,e2⟩:=Nw hr
       refine⟨by rw[e1];rfl,fun m hm=>?_⟩
       rcases List.mem_cons.1 hm with rfl|hm
       ·exact Nat.le_of_ble_eq_true hb
       ·exact e2 m hm
      ·cases h
   ·cases h
def Vu (w:List Nat) (ns:List Nat):List Nat:=w++ns.flatMap fun n=>32::SV 20 n []
theorem Si (w:List Nat) {ns:List Nat}(h:∀n∈ns,n<=9223372036854775807):Vu w ns=KC w (ns.map Int.ofNat):=by
 unfold Vu KC
 congr 1
 induction ns with
 |nil=>rfl
 | cons n l ih=>
   simp only[List.flatMap_cons,List.map_cons]
   rw[ih fun m hm=>h m (List.mem_cons_of_mem _ hm)]
   congr 1
   unfold sep
   have:=h n (List.mem_cons_self ..)
   rw[N6 20 n [] Af Af,List.append_nil]
   rfl
noncomputable def QS (args:List Value) (kh:KH) (k:Value->KH->Bool):Bool:=match args with
 |[.int .i64 (.ofNat n),.int .i64 (.ofNat 10)]=>bif Nat.ble n 9223372036854775807 then Dn 6 (.string (bs (SV 20 n []))) fun v=>k v kh else false
 |_=>false
theorem iV:AE.KerT.HookOk Tryz.prog 206 QS:=fun lo args kh k hk hlo=>by
 unfold QS at hk
 split at hk
 ·rename_i n
  cases hb:Nat.ble n 9223372036854775807 with
  |false=>rw[hb]at hk;cases hk
  | true=>
    have hn:=Nat.le_of_ble_eq_true hb
    rw[hb,cond_true,Cu,N6 20 n [] Af Af,List.append_nil]at hk
    obtain⟨v,h',⟨rfl,rfl⟩,a⟩:=Me (h:=kh.abs) (n:=(n:Int)) Af Af
    rw[Int.toNat_natCast]at a
    exact⟨_,kh,hk,a.mono hlo⟩
 ·cases hk
noncomputable def NH (args:List Value) (kh:KH) (k:Value->KH->Bool):Bool:=match args with
 | [.string w,.slice (some a) n c]=>(match kh.abs.Az a n with
   | some l=>(match Ny l with
     |some ns=>bif Nat.ble w.size 1000&&Nat.ble ns.length 3&&Nat.beq n ns.length&&Nat.blt c far then Dn 6 (.string (bs (Vu (BK w) ns))) fun v=>k v kh else false
     |none=>false)
   |none=>false)
 |_=>false
theorem cn:AE.KerT.HookOk Tryz.prog 138 NH:=fun lo args kh k hk hlo=>by
 unfold NH at hk
 split at hk
 ·rename_i w a n c
  split at hk
  ·rename_i l hl
   split at hk
   ·rename_i ns hns
    cases hb:(Nat.ble w.size 1000&&Nat.ble ns.length 3&&Nat.beq n ns.length&&Nat.blt c far)with
    |false=>rw[hb]at hk;cases hk
    | true=>
      obtain⟨e1,e2⟩:=Nw hns
      rw[hb,cond_true,Cu,Si _ e2]at hk
      simp only[Bool.and_eq_true]at hb
      obtain⟨⟨⟨b1,b2⟩,b3⟩,b4⟩:=hb
      obtain⟨v,h',⟨rfl,rfl⟩,x⟩:=Y6 (h:=kh.abs) (w:=w) (zs:=ns.map Int.ofNat) (a:=a) (c:=c) (n:=n) (Nat.le_of_ble_eq_true b1) (by rw[List.length_map];exact Nat.le_of_ble_eq_true b2) (by rw[List.length_map];exact Nat.eq_of_beq_eq_true b3) (Nat.le_of_ble_eq_true b4) (by rw[hl,e1]) (fun z hz=>by
       obtain⟨m,hm,rfl⟩:=List.mem_map.1 hz
       have:=e2 m hm
       exact⟨Int.natCast_nonneg _,by show(m:Int)<=_;omega⟩)
      exact⟨_,kh,hk,x.mono hlo⟩
   ·cases hk
  ·cases hk
 ·cases hk
def strsOf:List Value->Option (List ByteArray)
 |[]=>some []
 | .string s::l=>(match strsOf l with
   |some r=>some (s::r)
   |none=>none)
 |_=>none
theorem M9:∀{l:List Value}{xs:List ByteArray},strsOf l=some xs->l=xs.map Value.string
 | [],xs,h=>by
   simp only[strsOf,Option.some.injEq]at h
   subst h
   rfl
 | v ::l,xs,h=>by
   unfold strsOf at h
   split at h
   ·simp_all
   ·rename_i s l' e
    obtain⟨rfl,rfl⟩:=List.cons.inj e
    split at h
    ·rename_i r hr
     simp only[Option.some.injEq]at h
     subst h
     rw[M9 hr]
     rfl
    ·cases h
   ·cases h
noncomputable def NL (args:List Value) (kh:KH) (k:Value->KH->Bool):Bool:=match args with
 | [.slice (some a) n c,.string w]=>(match kh.abs.Az a n with
   | some l=>(match strsOf l with
     |some xs=>bif Nat.ble 2 xs.length&&Nat.ble xs.length 1000000&&Nat.beq n xs.length&&Nat.blt c far&&Nat.ble (Ft (BK w) (xs.map BK)).length 140737488355328 then Dn 6 (.string (bs (Ft (BK w) (xs.map BK)))) fun v=>k v kh else false
     |none=>false)
   |none=>false)
 |_=>false
theorem cA:AE.KerT.HookOk Tryz.prog 179 NL:=fun lo args kh k hk hlo=>by
 unfold NL at hk
 split at hk
 ·rename_i a n c w
  split at hk
  ·rename_i l hl
   split at hk
   ·rename_i xs hxs
    cases hb:(Nat.ble 2 xs.length&&Nat.ble xs.length 1000000&&Nat.beq n xs.length&&Nat.blt c far&&Nat.ble (Ft (BK w) (xs.map BK)).length 140737488355328)with
    |false=>rw[hb]at hk;cases hk
    | true=>
      rw[hb,cond_true,Cu]at hk
      simp only[Bool.and_eq_true]at hb
      obtain⟨⟨⟨⟨b1,b2⟩,b3⟩,b4⟩,b5⟩:=hb
      obtain⟨v,h',⟨rfl,rfl⟩,x⟩:=gq (h:=kh.abs) (xs:=xs) (sep:=w) (a:=a) (c:=c) (n:=n) (Nat.eq_of_beq_eq_true b3) (Nat.le_of_ble_eq_true b1) (Nat.le_of_ble_eq_true b2) (Nat.le_of_ble_eq_true b4) (by rw[hl,M9 hxs]) (Nat.le_of_ble_eq_true b5)
      exact⟨_,kh,hk,x.mono hlo⟩
   ·cases hk
  ·cases hk
 ·cases hk
def splitN (c:Nat):List Nat->List Nat->List (List Nat)
 |[],acc=>[acc.reverse]
 |b::l,acc=>bif Nat.beq b c then acc.reverse::splitN c l []else splitN c l (b::acc)
theorem Li (c:Nat):∀(l acc:List Nat),c∉acc->CJ c (acc.reverse++l) (splitN c l acc)
 | [],acc,h=>by
   rw[List.append_nil]
   exact CJ.one (fun hm=>h (List.mem_reverse.1 hm))
 | b ::l,acc,h=>by
   unfold splitN
   by_cases e:b=c
   ·subst e
    rw[show Nat.beq b b=true from Nat.beq_refl b,cond_true]
    exact CJ.cons (fun hm=>h (List.mem_reverse.1 hm)) (by have:=Li b l [] (by simp);simpa using this)
   ·have hb:Nat.beq b c=false:=by
     cases hc:Nat.beq b c with
     |false=>rfl
     |true=>exact absurd (Nat.eq_of_beq_eq_true hc) e
    rw[hb,cond_false]
    have:=Li c l (b::acc) (by simp only[List.mem_cons,not_or];exact⟨fun h'=>e h'.symm,h⟩)
    simpa using this
noncomputable def Lj (args:List Value) (kh:KH) (k:Value->KH->Bool):Bool:=match args with
 | [.string s,.string ⟨⟨[c]⟩⟩]=>bif Nat.ble s.size 4294967280 then Dn 6 (.agg ⟨(splitN c.toNat (BK s) []).map fun q=>.string (bs q)⟩) fun v=>(match v with
   |.agg ⟨l⟩=>Ce (Nat.add kh.next 1) fun nx=>Ce l.length fun n=>KT.Dl (.row (.cells l 9)) 64 kh.rows kh.next fun rows=>k (.slice (some ⟨kh.next,0,none⟩) n n) ⟨nx,rows⟩
   |_=>false)else false
 |_=>false
theorem Ym:AE.KerT.HookOk Tryz.prog 180 Lj:=fun lo args kh k hk hlo=>by
 unfold Lj at hk
 split at hk
 ·rename_i s c
  cases hb:Nat.ble s.size 4294967280 with
  |false=>rw[hb]at hk;cases hk
  | true=>
    rw[hb,cond_true,Cu]at hk
    simp only[CM]at hk
    obtain⟨t,hk,ht⟩:=KT.Bl 64 hk
    obtain⟨v,h',⟨ps,uF,rfl,rfl⟩,x⟩:=bj (h:=kh.abs) (s:=s) (c:=c) (Nat.le_of_ble_eq_true hb)
    have iq:=Li c.toNat (BK s) [] (by simp)
    simp only[List.reverse_nil,List.nil_append]at iq
    have eq:=CJ.uniq uF iq
    have ep:((splitN c.toNat (BK s) []).map fun q=>Value.string (bs q))=ps.map Value.string:=by
     rw[<-eq,List.map_map]
     congr 1
     funext y
     simp[KX]
    rw[ep,List.length_map]at hk
    refine⟨_,_,hk,?_⟩
    have:((kh.abs.bump 1).put kh.abs.next (.cells (ps.map Value.string) 9))=KH.abs ⟨Nat.add kh.next 1,t⟩:=by
     simp only[KH.abs,H.put,H.bump,H.mk.injEq]
     refine⟨funext fun r=>?_,by first|trivial|rfl⟩
     rw[ht r]
     by_cases hr:r=kh.next
     ·subst hr
      rw[<-ep]
      simp[Fy.abs]
     ·simp[hr]
    rw[<-this]
    exact x.mono hlo
 ·cases hk
noncomputable def oa:AE.KerP.Hr:=fun g=>bif Nat.beq g 206 then some QS else bif Nat.beq g 138 then some NH else bif Nat.beq g 179 then some NL else bif Nat.beq g 180 then some Lj else none
theorem eT:AE.KerP.Fl Tryz.prog oa:=fun g F h=>by
 unfold oa at h
 cases h1:Nat.beq g 206<;>simp only[h1,cond_true,cond_false]at h
 rotate_left
 ·obtain rfl:=Nat.eq_of_beq_eq_true h1
  cases h
  exact iV
 cases h2:Nat.beq g 138<;>simp only[h2,cond_true,cond_false]at h
 rotate_left
 ·obtain rfl:=Nat.eq_of_beq_eq_true h2
  cases h
  exact cn
 cases h3:Nat.beq g 179<;>simp only[h3,cond_true,cond_false]at h
 rotate_left
 ·obtain rfl:=Nat.eq_of_beq_eq_true h3
  cases h
  exact cA
 cases h4:Nat.beq g 180<;>simp only[h4,cond_true,cond_false]at h
 rotate_left
 ·obtain rfl:=Nat.eq_of_beq_eq_true h4
  cases h
  exact Ym
 cases h
def YN:List Nat:=[3,4,5,6,7,9,14,15,37,39,42,43,98,105,107,181,189,201,266]
end AE.Tryz

/- What stands for leaf, text and valid of the clerk in evaluations. -/
namespace AE.Tryz
open Go AE Go.Proofs AE.Clerk
set_option maxRecDepth 100000
set_option linter.unusedVariables false
theorem Q7 {g:FuncId}{args:List Value}{v:Value}(c:∀h:H,AW Tryz.prog g h.next h args (fun w _=>w=v)) (ha:B7 args=true) (hv:flat v=true) (lo:Nat) (h:H):AF Tryz.prog g lo h args v h:=by
 obtain⟨w,h',e,a⟩:=c ⟨fun _=>none,0⟩
 exact AE.Memo.part (h0:=⟨fun _=>none,0⟩) (a.nT e) hv (Nat.zero_le _) (fun r row h=>by cases h) (fun I _=>(CN _ _ ha).2) lo
def kD (l:List Nat):Int:=l.foldl (fun(n:Int) (c:Nat)=>(257*n+(c:Int)+1)%2147483647) 1
noncomputable def NI (args:List Value) (kh:KH) (k:Value->KH->Bool):Bool:=match args with
 |[.string s]=>bif Nat.ble s.size 100000 then Dn 6 (.int .i64 (kD (BK s))) fun v=>k v kh else false
 |_=>false
theorem cu:AE.KerT.HookOk Tryz.prog 70 NI:=fun lo args kh k hk hlo=>by
 unfold NI at hk
 split at hk
 ·rename_i s
  cases hb:Nat.ble s.size 100000 with
  |false=>rw[hb]at hk;cases hk
  | true=>
    have hn:=Nat.le_of_ble_eq_true hb
    rw[hb,cond_true,Cu]at hk
    refine⟨_,kh,hk,Q7 (fun h=>?_) rfl rfl lo _⟩
    obtain⟨v,h',e,a⟩:=fX (h:=h) (s:=s) Af
    exact⟨v,h',e,a⟩
 ·cases hk
def Yh (k:Nat) (m a b:Nat):List Nat:=Vu (word k) (match k with
 |0=>[a]
 |1=>[m,a,b]
 |3=>[m,a,b]
 |2=>[m]
 |4=>[m]
 |_=>[m,a])
theorem Yg {k m a b:Nat}(hm:m<=9223372036854775807) (ha:a<=9223372036854775807) (hb:b<=9223372036854775807):Yh k m a b=Ln.text ⟨k,m,a,b⟩:=by
 unfold Yh Ln.text Ln.nums
 rw[Si]
 ·unfold KC
  match k with
  |0=>rfl
  |1=>rfl
  |2=>rfl
  |3=>rfl
  |4=>rfl
  | k+5=>
    have h0:¬(((k+5:Nat):Int)=0):=by omega
    have h1:¬(((k+5:Nat):Int)=1\/((k+5:Nat):Int)=3):=by omega
    have h2:¬(((k+5:Nat):Int)=2\/((k+5:Nat):Int)=4):=by omega
    simp only[h0,h1,h2,if_false]
    rfl
 ·intro n hn
  match k with
  |0=>simp at hn;omega
  |1=>simp at hn;omega
  |2=>simp at hn;omega
  |3=>simp at hn;omega
  |4=>simp at hn;omega
  |k+5=>simp at hn;omega
noncomputable def M7 (args:List Value) (kh:KH) (k:Value->KH->Bool):Bool:=match args with
 | [.agg ⟨[.int .i64 (.ofNat kd),.int .i64 (.ofNat m),.int .i64 (.ofNat a),.int .i64 (.ofNat b)]⟩]=>
   bif (Nat.ble m 9223372036854775807&&Nat.ble a 9223372036854775807&&Nat.ble b 9223372036854775807)&&decide (Ln.Valid 1099511627776 ⟨.ofNat kd,.ofNat m,.ofNat a,.ofNat b⟩)then Dn 6 (.string (bs (Yh kd m a b))) fun v=>k v kh else false
 |_=>false
theorem aZ:AE.KerT.HookOk Tryz.prog 71 M7:=fun lo args kh k hk hlo=>by
 unfold M7 at hk
 split at hk
 ·rename_i kd m a b
  cases hb:((Nat.ble m 9223372036854775807&&Nat.ble a 9223372036854775807&&Nat.ble b 9223372036854775807)&&decide (Ln.Valid 1099511627776 ⟨.ofNat kd,.ofNat m,.ofNat a,.ofNat b⟩))with
  |false=>rw[hb]at hk;cases hk
  | true=>
    rw[hb,cond_true,Cu]at hk
    simp only[Bool.and_eq_true,decide_eq_true_eq]at hb
    obtain⟨⟨⟨h1,h2⟩,h3⟩,hv⟩:=hb
    rw[Yg (Nat.le_of_ble_eq_true h1) (Nat.le_of_ble_eq_true h2) (Nat.le_of_ble_eq_true h3)]at hk
    refine⟨_,kh,hk,Q7 (fun h=>?_) rfl rfl lo _⟩
    obtain⟨v,h',e,x⟩:=fe (h:=h) hv
    exact⟨v,h',e,x⟩
 ·cases hk
noncomputable def Lf (args:List Value) (kh:KH) (k:Value->KH->Bool):Bool:=match args with
 |[.agg ⟨[.int .i64 kd,.int .i64 m,.int .i64 a,.int .i64 b]⟩]=>Dn 6 (.bool (decide (Ln.Valid 1099511627776 ⟨kd,m,a,b⟩))) fun v=>k v kh
 |_=>false
theorem Yb:AE.KerT.HookOk Tryz.prog 65 Lf:=fun lo args kh k hk hlo=>by
 unfold Lf at hk
 split at hk
 ·rename_i kd m a b
  rw[Cu]at hk
  refine⟨_,kh,hk,Q7 (fun h=>?_) rfl rfl lo _⟩
  obtain⟨v,h',e,x⟩:=U4 (h:=h) (x:=⟨kd,m,a,b⟩)
  exact⟨v,h',e,x⟩
 ·cases hk
noncomputable def nV:AE.KerP.Hr:=fun g=>bif Nat.beq g 70 then some NI else bif Nat.beq g 71 then some M7 else bif Nat.beq g 65 then some Lf else oa g
theorem eQ:AE.KerP.Fl Tryz.prog nV:=fun g F h=>by
 unfold nV at h
 cases h1:Nat.beq g 70<;>simp only[h1,cond_true,cond_false]at h
 rotate_left
 ·obtain rfl:=Nat.eq_of_beq_eq_true h1
  cases h
  exact cu
 cases h2:Nat.beq g 71<;>simp only[h2,cond_true,cond_false]at h
 rotate_left
 ·obtain rfl:=Nat.eq_of_beq_eq_true h2
  cases h
  exact aZ
 cases h3:Nat.beq g 65<;>simp only[h3,cond_true,cond_false]at h
 rotate_left
 ·obtain rfl:=Nat.eq_of_beq_eq_true h3
  cases h
  exact Yb
 exact eT g F h
end AE.Tryz
