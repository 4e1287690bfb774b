/- TopDragAgrees answers true whatever the input is, and its arguments read as they did: no condition. -/
import Derived.Test.YtneenfjffejnoaaGreatJoin54
import Derived.OpenShut
import Derived.Test.YtneenfjffejnoaaGreatTopDragAgreesJf
import Derived.Lib.SmallJoins
set_option linter.unusedVariables false
set_option linter.unusedSimpArgs false
set_option linter.unusedSectionVars false
namespace Go.Proofs.YtneenfjffejnoaaGreat.topDragAgrees
open Go.ChangeShapes Go.WideShapes Go.ChangeAt Go.RowKit Go.Joins AE AE.Drag AE.T9In AE.Tryz

set_option maxRecDepth 100000

theorem own:ownKnob Tryz.prog.godebug=none:=by kernel_rfl
theorem laidOut:laidOutB Tryz.prog=true:=by kernel_rfl
theorem shapes:ShV Tryz.prog [(true,Kz),(false,.slice PD)] [67,68]:=⟨_,_,rfl,bD,by kernel_rfl,⟨_,_,rfl,tH,by kernel_rfl,rfl⟩⟩
theorem whole {h:AE.H}{vs:List Value}(k:Mm h h.next [(true,Kz),(false,.slice PD)] vs):AW Tryz.prog 4 h.next h vs (fun v _=>v= .bool true):=by
 obtain⟨c0,r0,rfl,f0,k0⟩:=k
 obtain⟨x0,rfl⟩:=VJ f0
 obtain⟨v1,r1,rfl,f1,k1⟩:=k0
 obtain⟨x1,e1,p1,q1⟩:=jg f1
 simp only[List.cons.injEq,and_true]at e1
 subst e1
 have z:_=[]:=k1
 subst z
 exact W3 (Nat.le_refl _) p1 q1
theorem lifted (os:Os) (started:os.Started) (H:Type) (enc:TypeId × Value->H):
 ReturnsInHanded {} Tryz.checked os 4 .any (Rows.topDragAgreesSpec.pre6 enc Tryz.prog Tryz.f4 Rows.topDragAgreesRow.domain false) (Rows.topDragAgreesSpec.post enc Tryz.prog Tryz.f4 false true false false):=by
 refine returnsInHanded_of_change (C:=Tryz.checked) own started (by kernel_rfl) Tryz.func4
  (ChangeSpec.witness6 (enc:=enc) (C:=Tryz.checked) false ⟨#[], #[.agg #[.int .i64 0,.int .i64 0,.int .i64 0,.int .i64 0,.int .i64 0,.int .i64 0,.int .i64 0,.int .i64 0,.int .i64 0,.int .i64 0,.int .i64 0,.int .i64 0,.int .i64 0,.int .i64 0,.int .i64 0,.int .i64 0],.slice none 0 0],[]⟩ 8 (by kernel_rfl) (by kernel_rfl) (by kernel_rfl) (by kernel_rfl)) ?_
 intro W base args ds gs before hval0 hW hcnd _
 have hW':=hW
 obtain⟨p,q,hA0,hV,rfl,hfz,hnd⟩:=hW
 have hA:DataW.TrodAll enc Tryz.prog W 0 (fun _=>true) true Tryz.f4.params.toList args.toList ds p:=hA0
 rw[Tryz.params4]at hA
 have hA1:DataW.TrodAll enc Tryz.prog W 0 (fun _=>true) true [67,68] args.toList ds p:=hA
 have hval:∀(j:Nat) t v,([67,68]:List TypeId)[j]? =some t->args[j]? =some v->Value.okWide Tryz.prog W .any base t v:=fun j t v e1 e2=>hval0 j t v (by rw[show Tryz.f4.params=⟨[67,68]⟩from Tryz.params4];simpa using e1) e2
 obtain⟨rfl,rfl⟩:=trodVars_none hV
 refine(MD (fun _ h=>nomatch h) shapes hA1 hval whole).mono fun e W' ⟨he,qd⟩=>?_
 subst he
 have hB:=F8 laidOut qd _ _ _ _ (by kernel_rfl) hA1
 obtain⟨v0,vs0,d0,ds0,p0,q0,hargs,rfl,rfl,h0,r0⟩:=trodAll_cons hA1
 obtain⟨v1,vs1,d1,ds1,p1,q1,rfl,rfl,rfl,h1,r1⟩:=trodAll_cons r0
 obtain⟨rfl,rfl,rfl⟩:=trodAll_nil r1
 obtain rfl:args= #[v0,v1]:=by cases args;simp_all
 exact⟨_,rfl,_,_,_,[],_,[],hW',trodAll_mk1 (shut_bool Tryz.underlying4 _),hB,rfl,qd.frame _,fun h=>by cases h⟩

theorem proved:Rows.TopDragAgreesSaid:=
 OpenClaim.holds_of_wide 4 Tryz.f4 rfl rfl rfl rfl rfl rfl rfl ⟨rfl,rfl,rfl,rfl,rfl⟩ rfl rfl rfl rfl rfl (by kernel_rfl) Tryz.func4 topDragAgreesJf.closed
  (of_decide_eq_true (by kernel_rfl)) (by unfold Func.isWrapper;rw[if_neg (of_decide_eq_false (by kernel_rfl))];exact⟨rfl,rfl⟩)
  (fun os started H enc _=>lifted os started H enc)
#print axioms proved
end Go.Proofs.YtneenfjffejnoaaGreat.topDragAgrees
