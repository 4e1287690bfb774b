/- TopFairTanks answers true whatever the input is, and its arguments read as they did: no condition. -/
import Derived.Test.YtneenfjffejnoaaGreatJoin36
import Derived.OpenShut
import Derived.Test.YtneenfjffejnoaaGreatTopFairTanksJf
import Derived.Lib.SmallJoins
set_option linter.unusedVariables false
set_option linter.unusedSimpArgs false
set_option linter.unusedSectionVars false
namespace Go.Proofs.YtneenfjffejnoaaGreat.topFairTanks
open Go.ChangeShapes Go.WideShapes Go.ChangeAt Go.RowKit Go.Joins AE AE.T9InF AE.Tryz

set_option maxRecDepth 100000

theorem own:ownKnob Tryz.prog.godebug=none:=by kernel_rfl
theorem laidOut:laidOutB Tryz.prog=true:=by kernel_rfl
theorem shapes:ShV Tryz.prog [(true,Q0),(true,QZ),(false,.int .u32)] [31,39,75]:=⟨_,_,rfl,tE,by kernel_rfl,⟨_,_,rfl,tB,by kernel_rfl,⟨_,_,rfl,Ad7,by kernel_rfl,rfl⟩⟩⟩
theorem whole {h:AE.H}{vs:List Value}(k:Mm h h.next [(true,Q0),(true,QZ),(false,.int .u32)] vs):AW Tryz.prog 5 h.next h vs (fun v _=>v= .bool true):=by
 obtain⟨c0,r0,rfl,f0,k0⟩:=k
 obtain⟨x0,rfl,p0⟩:=lQ f0
 obtain⟨c1,r1,rfl,f1,k1⟩:=k0
 obtain⟨x1,rfl,p1⟩:=lM f1
 obtain⟨v2,r2,rfl,f2,k2⟩:=k1
 obtain⟨x2,rfl,p2⟩:=wW f2
 have z:_=[]:=k2
 subst z
 exact Y4 (Nat.le_refl _) p0 p1 p2
theorem lifted (os:Os) (started:os.Started) (H:Type) (enc:TypeId × Value->H):
 ReturnsInHanded {} Tryz.checked os 5 .any (Rows.topFairTanksSpec.pre6 enc Tryz.prog Tryz.f5 Rows.topFairTanksRow.domain false) (Rows.topFairTanksSpec.post enc Tryz.prog Tryz.f5 false true false false):=by
 refine returnsInHanded_of_change (C:=Tryz.checked) own started (by kernel_rfl) Tryz.func5
  (ChangeSpec.witness6 (enc:=enc) (C:=Tryz.checked) false ⟨#[], #[.agg #[.int .i64 0,.int .i64 0,.int .i64 0,.int .i64 0,.slice none 0 0],.agg #[.slice none 0 0,.slice none 0 0],.int .u32 0],[]⟩ 8 (by kernel_rfl) (by kernel_rfl) (by kernel_rfl) (by kernel_rfl)) ?_
 intro W base args ds gs before hval0 hW hcnd _
 have hW':=hW
 obtain⟨p,q,hA0,hV,rfl,hfz,hnd⟩:=hW
 have hA:DataW.TrodAll enc Tryz.prog W 0 (fun _=>true) true Tryz.f5.params.toList args.toList ds p:=hA0
 rw[Tryz.params5]at hA
 have hA1:DataW.TrodAll enc Tryz.prog W 0 (fun _=>true) true [31,39,75] args.toList ds p:=hA
 have hval:∀(j:Nat) t v,([31,39,75]:List TypeId)[j]? =some t->args[j]? =some v->Value.okWide Tryz.prog W .any base t v:=fun j t v e1 e2=>hval0 j t v (by rw[show Tryz.f5.params=⟨[31,39,75]⟩from Tryz.params5];simpa using e1) e2
 obtain⟨rfl,rfl⟩:=trodVars_none hV
 refine(MD (fun _ h=>nomatch h) shapes hA1 hval whole).mono fun e W' ⟨he,qd⟩=>?_
 subst he
 have hB:=F8 laidOut qd _ _ _ _ (by kernel_rfl) hA1
 obtain⟨v0,vs0,d0,ds0,p0,q0,hargs,rfl,rfl,h0,r0⟩:=trodAll_cons hA1
 obtain⟨v1,vs1,d1,ds1,p1,q1,rfl,rfl,rfl,h1,r1⟩:=trodAll_cons r0
 obtain⟨v2,vs2,d2,ds2,p2,q2,rfl,rfl,rfl,h2,r2⟩:=trodAll_cons r1
 obtain⟨rfl,rfl,rfl⟩:=trodAll_nil r2
 obtain rfl:args= #[v0,v1,v2]:=by cases args;simp_all
 exact⟨_,rfl,_,_,_,[],_,[],hW',trodAll_mk1 (shut_bool Tryz.underlying4 _),hB,rfl,qd.frame _,fun h=>by cases h⟩

theorem proved:Rows.TopFairTanksSaid:=
 OpenClaim.holds_of_wide 5 Tryz.f5 rfl rfl rfl rfl rfl rfl rfl ⟨rfl,rfl,rfl,rfl,rfl⟩ rfl rfl rfl rfl rfl (by kernel_rfl) Tryz.func5 topFairTanksJf.closed
  (of_decide_eq_true (by kernel_rfl)) (by unfold Func.isWrapper;rw[if_neg (of_decide_eq_false (by kernel_rfl))];exact⟨rfl,rfl⟩)
  (fun os started H enc _=>lifted os started H enc)
#print axioms proved
end Go.Proofs.YtneenfjffejnoaaGreat.topFairTanks
