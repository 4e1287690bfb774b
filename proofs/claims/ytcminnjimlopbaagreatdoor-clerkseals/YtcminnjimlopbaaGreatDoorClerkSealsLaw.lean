/- ClerkSeals answers true whatever the input is, and its arguments read as they did: no condition. -/
import Derived.Test.YtcminnjimlopbaaGreatDoorClkYe
import Derived.Test.YtcminnjimlopbaaGreatDoorJoin41
import Derived.OpenShut
import Derived.Lib.SmallJoins
set_option linter.unusedVariables false
set_option linter.unusedSimpArgs false
set_option linter.unusedSectionVars false
namespace Go.Proofs.YtcminnjimlopbaaGreatDoor.clerkSeals
open Go Go.ChangeShapes Go.WideShapes Go.ChangeAt Go.RowKit Go.Joins AE AE.ClkIn AE.Tryz

set_option maxRecDepth 100000

theorem own : ownKnob Tryz.prog.godebug = none := by kernel_rfl
theorem laidOut : laidOutB Tryz.prog = true := by kernel_rfl
theorem shapes : ShV Tryz.prog [(true, lnSh), (false, .slice lnSh), (false, .int .i64)] [38, 22, 3] := ⟨_, _, rfl, isLn, by kernel_rfl, ⟨_, _, rfl, isBk, by kernel_rfl, ⟨_, _, rfl, isI, by kernel_rfl, rfl⟩⟩⟩
theorem whole {h : AE.H} {vs : List Value} (k : FitsV h h.next [(true, lnSh), (false, .slice lnSh), (false, .int .i64)] vs) : AW Tryz.prog 4 h.next h vs (fun v _ => v = .bool true) := by
 obtain ⟨c0, r0, rfl, f0, k0⟩ := k
 obtain ⟨x0, rfl⟩ := ln_of f0
 obtain ⟨v1, r1, rfl, f1, k1⟩ := k0
 obtain ⟨x1, e1, p1⟩ := bk_of f1
 simp only [List.cons.injEq, and_true] at e1
 subst e1
 obtain ⟨v2, r2, rfl, f2, k2⟩ := k1
 obtain ⟨x2, rfl, p2⟩ := i64_of f2
 have z : _ = [] := k2
 subst z
 exact seals_w (Nat.le_refl _) p1 p2
theorem lifted (os : Os) (started : os.Started) (H : Type) (enc : TypeId × Value → H) :
 ReturnsInHanded {} Tryz.checked os 4 .any (fun w args => (Rows.clerkSealsSpec.pre enc Tryz.prog Tryz.f4 Rows.clerkSealsRow.domain false w args ∧ laidMetH Tryz.prog laid5 w) ∧ sizedMet enc Tryz.prog Tryz.f4 (OpenSpec.ofChange Rows.clerkSealsSpec) false w args) (Rows.clerkSealsSpec.post enc Tryz.prog Tryz.f4 false true false false) := by
 refine returnsInHanded_of_change_and (C := Tryz.checked) (X := fun w _ => laidMetH Tryz.prog laid5 w) (fun _ _ _ hh h => h.of_heap hh) own started (by kernel_rfl) Tryz.func4
  (ChangeSpec.witness_shaped (enc := enc) (C := Tryz.checked) (os := os) (X := fun w _ => laidMetH Tryz.prog laid5 w) false (World.laidAll Tryz.prog os laid5) #[.agg #[.int .i64 0, .int .i64 0, .int .i64 0, .int .i64 0], .slice none 0 0, .int .i64 0] 8 (World.laidAll_os _ _ _)
   (World.shaped_of_ZipB (by kernel_rfl) (by kernel_rfl)) (by kernel_rfl) (by kernel_rfl) (by kernel_rfl) (laid_met os _)) ?_
 intro W base args ds gs before hval0 hW hcnd _ hL _
 have hW' := hW
 obtain ⟨p, q, hA0, hV, rfl, hfz, hnd⟩ := hW
 have hA : DataW.TrodAll enc Tryz.prog W 0 (fun _ => true) true Tryz.f4.params.toList args.toList ds p := hA0
 rw [Tryz.params4] at hA
 have hA1 : DataW.TrodAll enc Tryz.prog W 0 (fun _ => true) true [38, 22, 3] args.toList ds p := hA
 have hval : ∀ (j : Nat) t v, ([38, 22, 3] : List TypeId)[j]? = some t → args[j]? = some v → Value.okWide Tryz.prog W .any base t v := fun j t v e1 e2 => hval0 j t v (by rw [show Tryz.f4.params = ⟨[38, 22, 3]⟩ from Tryz.params4]; simpa using e1) e2
 obtain ⟨rfl, rfl⟩ := trodVars_none hV
 refine (law_calls (tabs_of hL) shapes hA1 hval whole).mono fun e W' ⟨he, bel⟩ => ?_
 subst he
 have hB := trodAll_below laidOut bel _ _ _ _ (by kernel_rfl) hA1
 obtain ⟨v0, vs0, d0, ds0, p0, q0, hargs, rfl, rfl, h0, r0⟩ := trodAll_cons hA1
 obtain ⟨v1, vs1, d1, ds1, p1, q1, rfl, rfl, rfl, h1, r1⟩ := trodAll_cons r0
 obtain ⟨v2, vs2, d2, ds2, p2, q2, rfl, rfl, rfl, h2, r2⟩ := trodAll_cons r1
 obtain ⟨rfl, rfl, rfl⟩ := trodAll_nil r2
 obtain rfl : args = #[v0, v1, v2] := by cases args; simp_all
 exact ⟨_, rfl, _, _, _, [], _, [], hW', trodAll_mk1 (shut_bool Tryz.underlying4 _), hB, rfl, bel.frame _, fun h => by cases h⟩

theorem bare : Rows.ClerkSealsSaid :=
 OpenClaim.holds_of_wide 4 Tryz.f4 rfl rfl rfl rfl rfl rfl rfl ⟨rfl, rfl, rfl, rfl, rfl⟩ rfl rfl rfl rfl rfl (by kernel_rfl) Tryz.func4 (by kernel_rfl)
  (of_decide_eq_true (by kernel_rfl)) (by unfold Func.isWrapper; rw [if_neg (of_decide_eq_false (by kernel_rfl))]; exact ⟨rfl, rfl⟩)
  (fun os started H enc _ => lifted os started H enc)
theorem proved : Rows.ClerkSealsCardSaid :=
 Claim7.holds_tied_plain_at .later [] [.data, .data, .data, .data, .pinned] true (true, "3cd71195143170d6e8e9e3bbb6e7498e0f4a9401ad31381f0e508956747d3323") true bare (fun _ h => by cases h) (by kernel_rfl) (fun _ h => by cases h) clerkSeals_row_tie rfl ⟨rfl, rfl⟩ (by kernel_rfl) rfl
  (fun f fn hf hfn => by
   obtain rfl : f = 4 := Option.some.inj ((show Tryz.prog.funcNamed "tumblehome/tumblehomelaw12.ClerkSeals" = some 4 by kernel_rfl).symm.trans hf) |>.symm
   obtain rfl : fn = Tryz.f4 := (Option.some.inj (Tryz.func4.symm.trans hfn)).symm
   exact ⟨by kernel_rfl, fun j t ht => by
    rw [Tryz.params4] at ht
    have hm : t ∈ ([38, 22, 3] : List TypeId) := by simpa using Array.mem_of_getElem? ht
    have hall : (([38, 22, 3] : List TypeId).all fun u => !Tryz.prog.wantsStandIn u) = true := by kernel_rfl
    exact (show Tryz.prog.wantsStandIn t = false by simpa using List.all_eq_true.1 hall t hm)⟩)
  (by kernel_rfl)
#print axioms proved
end Go.Proofs.YtcminnjimlopbaaGreatDoor.clerkSeals
