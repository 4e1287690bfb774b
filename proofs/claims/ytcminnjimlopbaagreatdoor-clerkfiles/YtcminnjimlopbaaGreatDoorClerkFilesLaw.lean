/- ClerkFiles answers true whatever the input is, and its arguments read as they did: no condition. -/
import Derived.Test.YtcminnjimlopbaaGreatDoorClkYf
import Derived.Test.YtcminnjimlopbaaGreatDoorJoin29
import Derived.OpenShut
import Derived.Lib.SmallJoins
set_option linter.unusedVariables false
set_option linter.unusedSimpArgs false
set_option linter.unusedSectionVars false
namespace Go.Proofs.YtcminnjimlopbaaGreatDoor.clerkFiles
open Go Go.ChangeShapes Go.WideShapes Go.ChangeAt Go.RowKit Go.Joins AE AE.ClkIn AE.Tryz

set_option maxRecDepth 100000

theorem own : ownKnob Tryz.prog.godebug = none := by kernel_rfl
theorem laidOut : laidOutB Tryz.prog = true := by kernel_rfl
theorem shapes : ShV Tryz.prog [(false, .slice lnSh), (false, .str)] [22, 9] := ⟨_, _, rfl, isBk, by kernel_rfl, ⟨_, _, rfl, isStr, by kernel_rfl, rfl⟩⟩
theorem whole {h : AE.H} {vs : List Value} (k : FitsV h h.next [(false, .slice lnSh), (false, .str)] vs) : AW Tryz.prog 6 h.next h vs (fun v _ => v = .bool true) := by
 obtain ⟨v0, r0, rfl, f0, k0⟩ := k
 obtain ⟨x0, e0, p0⟩ := bk_of f0
 simp only [List.cons.injEq, and_true] at e0
 subst e0
 obtain ⟨v1, r1, rfl, f1, k1⟩ := k0
 obtain ⟨x1, rfl, p1⟩ := str_of f1
 have z : _ = [] := k1
 subst z
 exact files_w (Nat.le_refl _) p0 p1
theorem lifted (os : Os) (started : os.Started) (H : Type) (enc : TypeId × Value → H) :
 ReturnsInHanded {} Tryz.checked os 6 .any (fun w args => (Rows.clerkFilesSpec.pre enc Tryz.prog Tryz.f6 Rows.clerkFilesRow.domain false w args ∧ laidMetH Tryz.prog laid5 w) ∧ sizedMet enc Tryz.prog Tryz.f6 (OpenSpec.ofChange Rows.clerkFilesSpec) false w args) (Rows.clerkFilesSpec.post enc Tryz.prog Tryz.f6 false true false false) := by
 refine returnsInHanded_of_change_and (C := Tryz.checked) (X := fun w _ => laidMetH Tryz.prog laid5 w) (fun _ _ _ hh h => h.of_heap hh) own started (by kernel_rfl) Tryz.func6
  (ChangeSpec.witness_shaped (enc := enc) (C := Tryz.checked) (os := os) (X := fun w _ => laidMetH Tryz.prog laid5 w) false (World.laidAll Tryz.prog os laid5) #[.slice none 0 0, .string ⟨#[]⟩] 8 (World.laidAll_os _ _ _)
   (World.shaped_of_ZipB (by kernel_rfl) (by kernel_rfl)) (by kernel_rfl) (by kernel_rfl) (by kernel_rfl) (laid_met os _)) ?_
 intro W base args ds gs before hval0 hW hcnd _ hL _
 have hW' := hW
 obtain ⟨p, q, hA0, hV, rfl, hfz, hnd⟩ := hW
 have hA : DataW.TrodAll enc Tryz.prog W 0 (fun _ => true) true Tryz.f6.params.toList args.toList ds p := hA0
 rw [Tryz.params6] at hA
 have hA1 : DataW.TrodAll enc Tryz.prog W 0 (fun _ => true) true [22, 9] args.toList ds p := hA
 have hval : ∀ (j : Nat) t v, ([22, 9] : List TypeId)[j]? = some t → args[j]? = some v → Value.okWide Tryz.prog W .any base t v := fun j t v e1 e2 => hval0 j t v (by rw [show Tryz.f6.params = ⟨[22, 9]⟩ from Tryz.params6]; simpa using e1) e2
 obtain ⟨rfl, rfl⟩ := trodVars_none hV
 refine (law_calls (tabs_of hL) shapes hA1 hval whole).mono fun e W' ⟨he, bel⟩ => ?_
 subst he
 have hB := trodAll_below laidOut bel _ _ _ _ (by kernel_rfl) hA1
 obtain ⟨v0, vs0, d0, ds0, p0, q0, hargs, rfl, rfl, h0, r0⟩ := trodAll_cons hA1
 obtain ⟨v1, vs1, d1, ds1, p1, q1, rfl, rfl, rfl, h1, r1⟩ := trodAll_cons r0
 obtain ⟨rfl, rfl, rfl⟩ := trodAll_nil r1
 obtain rfl : args = #[v0, v1] := by cases args; simp_all
 exact ⟨_, rfl, _, _, _, [], _, [], hW', trodAll_mk1 (shut_bool Tryz.underlying4 _), hB, rfl, bel.frame _, fun h => by cases h⟩

theorem bare : Rows.ClerkFilesSaid :=
 OpenClaim.holds_of_wide 6 Tryz.f6 rfl rfl rfl rfl rfl rfl rfl ⟨rfl, rfl, rfl, rfl, rfl⟩ rfl rfl rfl rfl rfl (by kernel_rfl) Tryz.func6 (by kernel_rfl)
  (of_decide_eq_true (by kernel_rfl)) (by unfold Func.isWrapper; rw [if_neg (of_decide_eq_false (by kernel_rfl))]; exact ⟨rfl, rfl⟩)
  (fun os started H enc _ => lifted os started H enc)
theorem proved : Rows.ClerkFilesCardSaid :=
 Claim7.holds_tied_plain_at .later [] [.data, .data, .data, .data, .pinned] true (true, "3cd71195143170d6e8e9e3bbb6e7498e0f4a9401ad31381f0e508956747d3323") true bare (fun _ h => by cases h) (by kernel_rfl) (fun _ h => by cases h) clerkFiles_row_tie rfl ⟨rfl, rfl⟩ (by kernel_rfl) rfl
  (fun f fn hf hfn => by
   obtain rfl : f = 6 := Option.some.inj ((show Tryz.prog.funcNamed "tumblehome/tumblehomelaw12.ClerkFiles" = some 6 by kernel_rfl).symm.trans hf) |>.symm
   obtain rfl : fn = Tryz.f6 := (Option.some.inj (Tryz.func6.symm.trans hfn)).symm
   exact ⟨by kernel_rfl, fun j t ht => by
    rw [Tryz.params6] at ht
    have hm : t ∈ ([22, 9] : List TypeId) := by simpa using Array.mem_of_getElem? ht
    have hall : (([22, 9] : List TypeId).all fun u => !Tryz.prog.wantsStandIn u) = true := by kernel_rfl
    exact (show Tryz.prog.wantsStandIn t = false by simpa using List.all_eq_true.1 hall t hm)⟩)
  (by kernel_rfl)
#print axioms proved
end Go.Proofs.YtcminnjimlopbaaGreatDoor.clerkFiles
