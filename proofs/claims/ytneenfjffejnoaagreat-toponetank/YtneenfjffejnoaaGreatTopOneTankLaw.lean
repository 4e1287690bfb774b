/- TopOneTank answers true whatever the input is, and its arguments read as they did: no condition. -/
import Derived.Test.YtneenfjffejnoaaGreatJoin36
import Derived.OpenShut
import Derived.Test.YtneenfjffejnoaaGreatTopOneTankJf
import Derived.Lib.SmallJoins
set_option linter.unusedVariables false
set_option linter.unusedSimpArgs false
set_option linter.unusedSectionVars false
namespace Go.Proofs.YtneenfjffejnoaaGreat.topOneTank
open Go.ChangeShapes Go.WideShapes Go.ChangeAt Go.RowKit Go.Joins AE AE.T9InO AE.Tryz

set_option maxRecDepth 100000

theorem own:ownKnob Tryz.prog.godebug=none:=by kernel_rfl
theorem laidOut:laidOutB Tryz.prog=true:=by kernel_rfl
theorem shapes:ShV Tryz.prog [(true,C4),(false,.slice C4)] [23,24]:=⟨_,_,rfl,GL,by kernel_rfl,⟨_,_,rfl,isRow,by kernel_rfl,rfl⟩⟩
theorem whole {h:AE.H}{vs:List Value}(k:Mm h h.next [(true,C4),(false,.slice C4)] vs):AW Tryz.prog 3 h.next h vs (fun v _=>v= .bool true):=by
 obtain⟨c0,r0,rfl,f0,k0⟩:=k
 obtain⟨x0,rfl⟩:=rg_of f0
 obtain⟨v1,r1,rfl,f1,k1⟩:=k0
 obtain⟨x1,e1,p1⟩:=aF f1
 simp only[List.cons.injEq,and_true]at e1
 subst e1
 have z:_=[]:=k1
 subst z
 exact iW (Nat.le_refl _) p1
theorem lifted (os:Os) (started:os.Started) (H:Type) (enc:TypeId × Value->H):
 ReturnsInHanded {} Tryz.checked os 3 .any (Rows.topOneTankSpec.pre6 enc Tryz.prog Tryz.f3 Rows.topOneTankRow.domain false) (Rows.topOneTankSpec.post enc Tryz.prog Tryz.f3 false true false false):=by
 refine returnsInHanded_of_change (C:=Tryz.checked) own started (by kernel_rfl) Tryz.func3
  (ChangeSpec.witness6 (enc:=enc) (C:=Tryz.checked) false ⟨#[], #[.agg #[.int .i64 0,.int .i64 0],.slice none 0 0],[]⟩ 8 (by kernel_rfl) (by kernel_rfl) (by kernel_rfl) (by kernel_rfl)) ?_
 intro W base args ds gs before hval0 hW hcnd _
 have hW':=hW
 obtain⟨p,q,hA0,hV,rfl,hfz,hnd⟩:=hW
 have hA:DataW.TrodAll enc Tryz.prog W 0 (fun _=>true) true Tryz.f3.params.toList args.toList ds p:=hA0
 rw[Tryz.params3]at hA
 have hA1:DataW.TrodAll enc Tryz.prog W 0 (fun _=>true) true [23,24] args.toList ds p:=hA
 have hval:∀(j:Nat) t v,([23,24]:List TypeId)[j]? =some t->args[j]? =some v->Value.okWide Tryz.prog W .any base t v:=fun j t v e1 e2=>hval0 j t v (by rw[show Tryz.f3.params=⟨[23,24]⟩from Tryz.params3];simpa using e1) e2
 obtain⟨rfl,rfl⟩:=trodVars_none hV
 refine(MD (fun _ h=>nomatch h) shapes hA1 hval whole).mono fun e W' ⟨he,qd⟩=>?_
 subst he
 have hB:=F8 laidOut qd _ _ _ _ (by kernel_rfl) hA1
 obtain⟨v0,vs0,d0,ds0,p0,q0,hargs,rfl,rfl,h0,r0⟩:=trodAll_cons hA1
 obtain⟨v1,vs1,d1,ds1,p1,q1,rfl,rfl,rfl,h1,r1⟩:=trodAll_cons r0
 obtain⟨rfl,rfl,rfl⟩:=trodAll_nil r1
 obtain rfl:args= #[v0,v1]:=by cases args;simp_all
 exact⟨_,rfl,_,_,_,[],_,[],hW',trodAll_mk1 (shut_bool Tryz.underlying4 _),hB,rfl,qd.frame _,fun h=>by cases h⟩

theorem proved:Rows.TopOneTankSaid:=
 OpenClaim.holds_of_wide 3 Tryz.f3 rfl rfl rfl rfl rfl rfl rfl ⟨rfl,rfl,rfl,rfl,rfl⟩ rfl rfl rfl rfl rfl (by kernel_rfl) Tryz.func3 topOneTankJf.closed
  (of_decide_eq_true (by kernel_rfl)) (by unfold Func.isWrapper;rw[if_neg (of_decide_eq_false (by kernel_rfl))];exact⟨rfl,rfl⟩)
  (fun os started H enc _=>lifted os started H enc)
#print axioms proved
end Go.Proofs.YtneenfjffejnoaaGreat.topOneTank
