/- ClerkReceipts answers true whatever the input is, and its arguments read as they did: no condition. -/
import Derived.Test.YtcminnjimlopbaaGreatDoorClkYc
import Derived.Test.YtcminnjimlopbaaGreatDoorJoin41
import Derived.OpenShut
import Derived.Lib.SmallJoins
set_option linter.unusedVariables false
set_option linter.unusedSimpArgs false
set_option linter.unusedSectionVars false
namespace Go.Proofs.YtcminnjimlopbaaGreatDoor.clerkReceipts
open Go Go.ChangeShapes Go.WideShapes Go.ChangeAt Go.RowKit Go.Joins AE AE.ClkIn AE.Tryz

set_option maxRecDepth 100000

theorem own : ownKnob Tryz.prog.godebug = none := by kernel_rfl
theorem laidOut : laidOutB Tryz.prog = true := by kernel_rfl
theorem shapes : ShV Tryz.prog [(false, .int .i64), (true, lnSh), (true, recSh)] [2, 38, 45] := ⟨_, _, rfl, isInt, by kernel_rfl, ⟨_, _, rfl, isLn, by kernel_rfl, ⟨_, _, rfl, isRec, by kernel_rfl, rfl⟩⟩⟩
theorem whole {h : AE.H} {vs : List Value} (k : FitsV h h.next [(false, .int .i64), (true, lnSh), (true, recSh)] vs) : AW Tryz.prog 5 h.next h vs (fun v _ => v = .bool true) := by
 obtain ⟨v0, r0, rfl, f0, k0⟩ := k
 obtain ⟨x0, rfl, p0⟩ := i64_of f0
 obtain ⟨c1, r1, rfl, f1, k1⟩ := k0
 obtain ⟨x1, rfl⟩ := ln_of f1
 obtain ⟨c2, r2, rfl, f2, k2⟩ := k1
 obtain ⟨x2, rfl, p2⟩ := rec_of f2
 have z : _ = [] := k2
 subst z
 exact receipts_w (Nat.le_refl _) p2
theorem lifted (os : Os) (started : os.Started) (H : Type) (enc : TypeId × Value → H) :
 ReturnsInHanded {} Tryz.checked os 5 .any (fun w args => (Rows.clerkReceiptsSpec.pre enc Tryz.prog Tryz.f5 Rows.clerkReceiptsRow.domain false w args ∧ laidMetH Tryz.prog laid5 w) ∧ sizedMet enc Tryz.prog Tryz.f5 (OpenSpec.ofChange Rows.clerkReceiptsSpec) false w args) (Rows.clerkReceiptsSpec.post enc Tryz.prog Tryz.f5 false true false false) := by
 refine returnsInHanded_of_change_and (C := Tryz.checked) (X := fun w _ => laidMetH Tryz.prog laid5 w) (fun _ _ _ hh h => h.of_heap hh) own started (by kernel_rfl) Tryz.func5
  (ChangeSpec.witness_shaped (enc := enc) (C := Tryz.checked) (os := os) (X := fun w _ => laidMetH Tryz.prog laid5 w) false (World.laidAll Tryz.prog os laid5) #[.int .i64 0, .agg #[.int .i64 0, .int .i64 0, .int .i64 0, .int .i64 0], .agg #[.int .i64 0, .int .i64 0, .slice none 0 0]] 8 (World.laidAll_os _ _ _)
   (World.shaped_of_ZipB (by kernel_rfl) (by kernel_rfl)) (by kernel_rfl) (by kernel_rfl) (by kernel_rfl) (laid_met os _)) ?_
 intro W base args ds gs before hval0 hW hcnd _ hL _
 have hW' := hW
 obtain ⟨p, q, hA0, hV, rfl, hfz, hnd⟩ := hW
 have hA : DataW.TrodAll enc Tryz.prog W 0 (fun _ => true) true Tryz.f5.params.toList args.toList ds p := hA0
 rw [Tryz.params5] at hA
 have hA1 : DataW.TrodAll enc Tryz.prog W 0 (fun _ => true) true [2, 38, 45] args.toList ds p := hA
 have hval : ∀ (j : Nat) t v, ([2, 38, 45] : List TypeId)[j]? = some t → args[j]? = some v → Value.okWide Tryz.prog W .any base t v := fun j t v e1 e2 => hval0 j t v (by rw [show Tryz.f5.params = ⟨[2, 38, 45]⟩ from Tryz.params5]; simpa using e1) e2
 obtain ⟨rfl, rfl⟩ := trodVars_none hV
 refine (law_calls (tabs_of hL) shapes hA1 hval whole).mono fun e W' ⟨he, bel⟩ => ?_
 subst he
 have hB := trodAll_below laidOut bel _ _ _ _ (by kernel_rfl) hA1
 obtain ⟨v0, vs0, d0, ds0, p0, q0, hargs, rfl, rfl, h0, r0⟩ := trodAll_cons hA1
 obtain ⟨v1, vs1, d1, ds1, p1, q1, rfl, rfl, rfl, h1, r1⟩ := trodAll_cons r0
 obtain ⟨v2, vs2, d2, ds2, p2, q2, rfl, rfl, rfl, h2, r2⟩ := trodAll_cons r1
 obtain ⟨rfl, rfl, rfl⟩ := trodAll_nil r2
 obtain rfl : args = #[v0, v1, v2] := by cases args; simp_all
 exact ⟨_, rfl, _, _, _, [], _, [], hW', trodAll_mk1 (shut_bool Tryz.underlying4 _), hB, rfl, bel.frame _, fun h => by cases h⟩

theorem bare : Rows.ClerkReceiptsSaid :=
 OpenClaim.holds_of_wide 5 Tryz.f5 rfl rfl rfl rfl rfl rfl rfl ⟨rfl, rfl, rfl, rfl, rfl⟩ rfl rfl rfl rfl rfl (by kernel_rfl) Tryz.func5 (by kernel_rfl)
  (of_decide_eq_true (by kernel_rfl)) (by unfold Func.isWrapper; rw [if_neg (of_decide_eq_false (by kernel_rfl))]; exact ⟨rfl, rfl⟩)
  (fun os started H enc _ => lifted os started H enc)
theorem proved : Rows.ClerkReceiptsCardSaid :=
 Claim7.holds_tied_plain_at .later [] [.data, .data, .data, .data, .pinned] true (true, "3cd71195143170d6e8e9e3bbb6e7498e0f4a9401ad31381f0e508956747d3323") true bare (fun _ h => by cases h) (by kernel_rfl) (fun _ h => by cases h) clerkReceipts_row_tie rfl ⟨rfl, rfl⟩ (by kernel_rfl) rfl
  (fun f fn hf hfn => by
   obtain rfl : f = 5 := Option.some.inj ((show Tryz.prog.funcNamed "tumblehome/tumblehomelaw12.ClerkReceipts" = some 5 by kernel_rfl).symm.trans hf) |>.symm
   obtain rfl : fn = Tryz.f5 := (Option.some.inj (Tryz.func5.symm.trans hfn)).symm
   exact ⟨by kernel_rfl, fun j t ht => by
    rw [Tryz.params5] at ht
    have hm : t ∈ ([2, 38, 45] : List TypeId) := by simpa using Array.mem_of_getElem? ht
    have hall : (([2, 38, 45] : List TypeId).all fun u => !Tryz.prog.wantsStandIn u) = true := by kernel_rfl
    exact (show Tryz.prog.wantsStandIn t = false by simpa using List.all_eq_true.1 hall t hm)⟩)
  (by kernel_rfl)
#print axioms proved
end Go.Proofs.YtcminnjimlopbaaGreatDoor.clerkReceipts
