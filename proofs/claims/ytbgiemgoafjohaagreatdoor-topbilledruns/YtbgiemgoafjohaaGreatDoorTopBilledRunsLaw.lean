/- TopBilledRuns answers true whatever the input is, and its arguments read as_ they did: no condition. -/
import Derived.Test.YtbgiemgoafjohaaGreatDoorJoin45
import Derived.Test.YtbgiemgoafjohaaGreatDoorJoin15
import Derived.OpenShut
import Derived.Test.YtbgiemgoafjohaaGreatDoorT12Go
import Derived.Test.YtbgiemgoafjohaaGreatDoorTopBilledRunsJf
import Derived.Lib.SmallJoins
set_option linter.unusedVariables false
set_option linter.unusedSimpArgs false
set_option linter.unusedSectionVars false
namespace Go.Proofs.YtbgiemgoafjohaaGreatDoor.topBilledRuns
open Go Go.ChangeShapes Go.WideShapes Go.ChangeAt Go.RowKit Go.Joins AE AE.T12InR AE.Tryz

set_option maxRecDepth 100000

theorem own:ownKnob Tryz.prog.godebug=none:=by kernel_rfl
theorem laidOut:laidOutB Tryz.prog=true:=laidOutP
theorem vz:BU Tryz.prog 5=some false:=by simp only[BU,Tryz.underlying5]
theorem sO:Tryz.prog.wantsStandIn 5=false:=by simp only[Program.wantsStandIn,Tryz.underlying5]
theorem rD:BU Tryz.prog 26=some true:=by simp only[BU,Tryz.underlying26]
theorem oe:Tryz.prog.wantsStandIn 26=false:=by simp only[Program.wantsStandIn,Tryz.underlying26]
theorem mO:BU Tryz.prog 27=some false:=by simp only[BU,Tryz.underlying27]
theorem jO:Tryz.prog.wantsStandIn 27=false:=by simp only[Program.wantsStandIn,Tryz.underlying27]
theorem shapes:nU Tryz.prog [(true,VP),(false,.int .u16),(false,.int .u16),(false,.int .u8)] [26,27,27,5]:=⟨_,_,rfl,kT,rD,⟨_,_,rfl,dV,mO,⟨_,_,rfl,dV,mO,⟨_,_,rfl,qj,vz,rfl⟩⟩⟩⟩
theorem whole {h:AE.H}{vs:List Value}(k:Mn h h.next [(true,VP),(false,.int .u16),(false,.int .u16),(false,.int .u8)] vs):AW Tryz.prog 3 h.next h vs (fun v _=>v= .bool true):=by
 obtain⟨c0,r0,rfl,f0,k0⟩:=k
 obtain⟨x0,rfl,p0⟩:=ja f0
 obtain⟨v1,r1,rfl,f1,k1⟩:=k0
 obtain⟨x1,rfl,p1⟩:=Yd f1
 obtain⟨v2,r2,rfl,f2,k2⟩:=k1
 obtain⟨x2,rfl,p2⟩:=Yd f2
 obtain⟨v3,r3,rfl,f3,k3⟩:=k2
 obtain⟨x3,rfl,p3⟩:=jP f3
 have z:_=[]:=k3
 subst z
 exact ai (Nat.le_refl _) p0 p1 p2 p3
theorem lifted (os:Os) (started:os.Started) (H:Type) (enc:TypeId × Value->H):
 ReturnsInHanded {} Tryz.checked os 3 .any (fun w args=>(Rows.topBilledRunsSpec.pre enc Tryz.prog Tryz.f3 Rows.topBilledRunsRow.domain false w args/\laidMetH Tryz.prog Mb w)/\sizedMet enc Tryz.prog Tryz.f3 (OpenSpec.ofChange Rows.topBilledRunsSpec) false w args) (Rows.topBilledRunsSpec.post enc Tryz.prog Tryz.f3 false true false false):=by
 refine returnsInHanded_of_change_and (C:=Tryz.checked) (X:=fun w _=>laidMetH Tryz.prog Mb w) (fun _ _ _ hh h=>h.of_heap hh) own started (by kernel_rfl) Tryz.func3
  (ChangeSpec.witness_shaped (enc:=enc) (C:=Tryz.checked) (os:=os) (X:=fun w _=>laidMetH Tryz.prog Mb w) false (World.laidAll Tryz.prog os Mb) #[.agg #[.int .i64 0,.int .i64 0,.slice none 0 0],.int .u16 0,.int .u16 0,.int .u8 0] 8 (World.laidAll_os _ _ _)
   (World.shaped_of_ZipB (by kernel_rfl) (by kernel_rfl)) (by kernel_rfl) (by kernel_rfl) (by kernel_rfl) (Y9 os _)) ?_
 intro W base args ds gs before hval0 hW hcnd _ hL _
 have hW':=hW
 obtain⟨p,q,hA0,hV,rfl,hfz,hnd⟩:=hW
 have hA:DataW.TrodAll enc Tryz.prog W 0 (fun _=>true) true Tryz.f3.params.toList args.toList ds p:=hA0
 rw[Tryz.params3]at hA
 have hA1:DataW.TrodAll enc Tryz.prog W 0 (fun _=>true) true [26,27,27,5] args.toList ds p:=hA
 have hval:∀(j:Nat) t v,([26,27,27,5]:List TypeId)[j]? =some t->args[j]? =some v->Value.okWide Tryz.prog W .any base t v:=fun j t v e1 e2=>hval0 j t v (by rw[show Tryz.f3.params=⟨[26,27,27,5]⟩from Tryz.params3];simpa using e1) e2
 obtain⟨rfl,rfl⟩:=trodVars_none hV
 refine(Xc (bh hL) shapes hA1 hval whole).mono fun e W' ⟨he,au⟩=>?_
 subst he
 have hB:=Jz laidOut au _ _ _ _ (by kernel_rfl) hA1
 obtain⟨v0,vL,d0,ds0,p0,q0,hargs,rfl,rfl,h0,r0⟩:=trodAll_cons hA1
 obtain⟨v1,vs1,d1,ds1,p1,q1,rfl,rfl,rfl,h1,r1⟩:=trodAll_cons r0
 obtain⟨v2,vs2,d2,wK,p2,q2,rfl,rfl,rfl,h2,r2⟩:=trodAll_cons r1
 obtain⟨v3,vs3,d3,ds3,p3,q3,rfl,rfl,rfl,h3,r3⟩:=trodAll_cons r2
 obtain⟨rfl,rfl,rfl⟩:=trodAll_nil r3
 obtain rfl:args= #[v0,v1,v2,v3]:=by cases args;simp_all
 exact⟨_,rfl,_,_,_,[],_,[],hW',trodAll_mk1 (shut_bool Tryz.underlying4 _),hB,rfl,au.frame _,fun h=>by cases h⟩

theorem bare:Rows.TopBilledRunsSaid:=
 OpenClaim.holds_of_wide 3 Tryz.f3 rfl rfl rfl rfl rfl rfl rfl ⟨rfl,rfl,rfl,rfl,rfl⟩ rfl rfl rfl rfl rfl (by kernel_rfl) Tryz.func3 topBilledRunsJf.closed
  (of_decide_eq_true (by kernel_rfl)) (by unfold Func.isWrapper;rw[if_neg (of_decide_eq_false (by kernel_rfl))];exact⟨rfl,rfl⟩)
  (fun os started H enc _=>lifted os started H enc)
theorem fy:Rows.topBilledRunsRow.laidByTextAt .later Tryz.pinned [.data,.data,.data,.pinned,.data] true:=
 OpenClaim.laidByTextAt_pinned rfl rfl oF rfl rfl rfl rfl (fun y hy _e=>by
  simp only[Rows.topBilledRunsRow,List.zip_cons_cons,List.zip_nil_right,List.mem_cons,List.mem_nil_iff,or_false]at hy
  rcases hy with rfl|rfl|rfl|rfl|rfl
  ·cases _e
  ·cases _e
  ·cases _e
  ·exact⟨YJ,by kernel_rfl⟩
  ·cases _e) mh
theorem uo:Rows.topBilledRunsRow.wfByText (OpenSpec.ofChange Rows.topBilledRunsSpec)=true:=by kernel_rfl
theorem um:Tryz.pinned.checked.prog.mainIs=some (true, "3abff374d40fd70558933348d2cc2b7a7fe2ca1da2ab8e8786218a47be747374".toList):=by kernel_rfl
theorem uk:Tryz.prog.funcNamed "tumblehome/tumblehometop.TopBilledRuns" =some 3:=by kernel_rfl
theorem uj:true=Tryz.pinned.checked.prog.looks []:=by kernel_rfl
theorem uh:false=Rows.topBilledRunsRow.goesBy Tryz.pinned.checked.prog:=SE rfl
theorem ug (j:Nat) (t:TypeId) (ht:Tryz.f3.params[j]? =some t):Tryz.pinned.checked.prog.wantsStandIn t=false:=by
 rw[Tryz.params3]at ht
 have hm:t∈([26,27,27,5]:List TypeId):=by simpa using Array.mem_of_getElem? ht
 simp only[List.mem_cons,List.mem_nil_iff,or_false]at hm
 rcases hm with rfl|rfl|rfl|rfl
 ·exact oe
 ·exact jO
 ·exact jO
 ·exact sO
theorem proved:Rows.TopBilledRunsCardSaid:=
 Claim7.holds_tied_plain_at .later [] [.data,.data,.data,.pinned,.data] true (true, "3abff374d40fd70558933348d2cc2b7a7fe2ca1da2ab8e8786218a47be747374") true bare (fun _ h=>by cases h) uo (fun _ h=>by cases h) fy rfl ⟨rfl,rfl⟩ um rfl
  (fun f fn hf hfn=>by
   obtain rfl:f=3:=Option.some.inj (uk.symm.trans hf)|>.symm
   obtain rfl:fn=Tryz.f3:=(Option.some.inj (Tryz.func3.symm.trans hfn)).symm
   exact⟨uj,ug⟩)
  uh
#print axioms proved
end Go.Proofs.YtbgiemgoafjohaaGreatDoor.topBilledRuns
