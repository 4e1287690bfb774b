/- ClerkReplays answers true whatever the input is, and its arguments read as they did: no condition. -/
import Derived.Test.YtcminnjimlopbaaGreatDoorJoin41
import Derived.OpenShut
import Derived.Lib.SmallJoins
set_option linter.unusedVariables false
set_option linter.unusedSimpArgs false
set_option linter.unusedSectionVars false
namespace Go.Proofs.YtcminnjimlopbaaGreatDoor.clerkReplays
open Go Go.ChangeShapes Go.WideShapes Go.ChangeAt Go.RowKit Go.Joins AE AE.ClkIn AE.Tryz

set_option maxRecDepth 100000

theorem own : ownKnob Tryz.prog.godebug = none := by kernel_rfl
theorem laidOut : laidOutB Tryz.prog = true := by kernel_rfl
theorem shapes : ShV Tryz.prog [(false, .slice lnSh)] [22] := ⟨_, _, rfl, isBk, by kernel_rfl, rfl⟩
theorem whole {h : AE.H} {vs : List Value} (k : FitsV h h.next [(false, .slice lnSh)] vs) : AW Tryz.prog 3 h.next h vs (fun v _ => v = .bool true) := by
 obtain ⟨v0, r0, rfl, f0, k0⟩ := k
 obtain ⟨x0, e0, p0⟩ := bk_of f0
 simp only [List.cons.injEq, and_true] at e0
 subst e0
 have z : _ = [] := k0
 subst z
 exact replays_w (Nat.le_refl _) p0
theorem lifted (os : Os) (started : os.Started) (H : Type) (enc : TypeId × Value → H) :
 ReturnsInHanded {} Tryz.checked os 3 .any (fun w args => (Rows.clerkReplaysSpec.pre enc Tryz.prog Tryz.f3 Rows.clerkReplaysRow.domain false w args ∧ laidMetH Tryz.prog laid5 w) ∧ sizedMet enc Tryz.prog Tryz.f3 (OpenSpec.ofChange Rows.clerkReplaysSpec) false w args) (Rows.clerkReplaysSpec.post enc Tryz.prog Tryz.f3 false true false false) := by
 refine returnsInHanded_of_change_and (C := Tryz.checked) (X := fun w _ => laidMetH Tryz.prog laid5 w) (fun _ _ _ hh h => h.of_heap hh) own started (by kernel_rfl) Tryz.func3
  (ChangeSpec.witness_shaped (enc := enc) (C := Tryz.checked) (os := os) (X := fun w _ => laidMetH Tryz.prog laid5 w) false (World.laidAll Tryz.prog os laid5) #[.slice none 0 0] 8 (World.laidAll_os _ _ _)
   (World.shaped_of_ZipB (by kernel_rfl) (by kernel_rfl)) (by kernel_rfl) (by kernel_rfl) (by kernel_rfl) (laid_met os _)) ?_
 intro W base args ds gs before hval0 hW hcnd _ hL _
 have hW' := hW
 obtain ⟨p, q, hA0, hV, rfl, hfz, hnd⟩ := hW
 have hA : DataW.TrodAll enc Tryz.prog W 0 (fun _ => true) true Tryz.f3.params.toList args.toList ds p := hA0
 rw [Tryz.params3] at hA
 have hA1 : DataW.TrodAll enc Tryz.prog W 0 (fun _ => true) true [22] args.toList ds p := hA
 have hval : ∀ (j : Nat) t v, ([22] : List TypeId)[j]? = some t → args[j]? = some v → Value.okWide Tryz.prog W .any base t v := fun j t v e1 e2 => hval0 j t v (by rw [show Tryz.f3.params = ⟨[22]⟩ from Tryz.params3]; simpa using e1) e2
 obtain ⟨rfl, rfl⟩ := trodVars_none hV
 refine (law_calls (tabs_of hL) shapes hA1 hval whole).mono fun e W' ⟨he, bel⟩ => ?_
 subst he
 have hB := trodAll_below laidOut bel _ _ _ _ (by kernel_rfl) hA1
 obtain ⟨v0, vs0, d0, ds0, p0, q0, hargs, rfl, rfl, h0, r0⟩ := trodAll_cons hA1
 obtain ⟨rfl, rfl, rfl⟩ := trodAll_nil r0
 obtain rfl : args = #[v0] := by cases args; simp_all
 exact ⟨_, rfl, _, _, _, [], _, [], hW', trodAll_mk1 (shut_bool Tryz.underlying4 _), hB, rfl, bel.frame _, fun h => by cases h⟩

theorem bare : Rows.ClerkReplaysSaid :=
 OpenClaim.holds_of_wide 3 Tryz.f3 rfl rfl rfl rfl rfl rfl rfl ⟨rfl, rfl, rfl, rfl, rfl⟩ rfl rfl rfl rfl rfl (by kernel_rfl) Tryz.func3 (by kernel_rfl)
  (of_decide_eq_true (by kernel_rfl)) (by unfold Func.isWrapper; rw [if_neg (of_decide_eq_false (by kernel_rfl))]; exact ⟨rfl, rfl⟩)
  (fun os started H enc _ => lifted os started H enc)
theorem proved : Rows.ClerkReplaysCardSaid :=
 Claim7.holds_tied_plain_at .later [] [.data, .data, .data, .data, .pinned] true (true, "3cd71195143170d6e8e9e3bbb6e7498e0f4a9401ad31381f0e508956747d3323") true bare (fun _ h => by cases h) (by kernel_rfl) (fun _ h => by cases h) clerkReplays_row_tie rfl ⟨rfl, rfl⟩ (by kernel_rfl) rfl
  (fun f fn hf hfn => by
   obtain rfl : f = 3 := Option.some.inj ((show Tryz.prog.funcNamed "tumblehome/tumblehomelaw12.ClerkReplays" = some 3 by kernel_rfl).symm.trans hf) |>.symm
   obtain rfl : fn = Tryz.f3 := (Option.some.inj (Tryz.func3.symm.trans hfn)).symm
   exact ⟨by kernel_rfl, fun j t ht => by
    rw [Tryz.params3] at ht
    have hm : t ∈ ([22] : List TypeId) := by simpa using Array.mem_of_getElem? ht
    have hall : (([22] : List TypeId).all fun u => !Tryz.prog.wantsStandIn u) = true := by kernel_rfl
    exact (show Tryz.prog.wantsStandIn t = false by simpa using List.all_eq_true.1 hall t hm)⟩)
  (by kernel_rfl)
#print axioms proved
end Go.Proofs.YtcminnjimlopbaaGreatDoor.clerkReplays
