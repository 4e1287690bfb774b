/- Works of law06, by evaluation, with CheckTable by its own walk. -/
import Derived.Test.YtneenfjffejnoaaGreatT9F154
set_option linter.unusedVariables false
set_option linter.unusedSimpArgs false
set_option linter.unusedSectionVars false
namespace AE.Tryz
open Go AE Go.Proofs
set_option maxRecDepth 1000000
def val77 : Value := .tuple ⟨[.int .i64 3, .int .i64 0]⟩
def kept154 : AE.Memo.Kept := ⟨args154, 14370, [(12, day154), (14369, tab154)], val77⟩
theorem ck_afd : ∃ t : KT KRow, (∀ r row, t.get r = some row → ∃ x, (r, x) ∈ kept154.rows ∧ row = .row x) ∧ AFD Tryz.prog 154 14370 (⟨14370, t⟩ : KH).abs args154 (fun w _ => w = val77) := by
 obtain ⟨t, hk, hg⟩ := AE.Memo.putAll_out pre_run
 refine ⟨t, fun r row e => ?_, ?_⟩
 ·rcases hg r row e with e | e
  ·rw [KT.get_nil] at e; cases e
  ·exact e
 ·obtain ⟨tk, hk, ht⟩ := kinit_out hk
  have a := AE.KerD.krun_sound rfl tabs_ok tabd_ok _ _ hk
  simp only [AE.KerD.KTask.Spec] at a
  have ets : ts0 args154 = kts tk := by
   funext m
   rw [ht m, if_neg (Nat.not_lt_zero m), Nat.sub_zero]
   unfold ts0
   cases e : args154[m]? with
   | none => simp [List.getD, e, kts, KT.get_nil]
   | some v => simp [List.getD, e]
  refine funx154.callD rfl (Nat.le_refl _) ?_
  rw [ets]
  refine wpD_seqTo (AE.KerD.wpD_mono _ (fun e ts h x => ?_) _ _ a)
  obtain ⟨tk', hk', rfl, rfl, x⟩ := x
  obtain ⟨rfl, k⟩ := at_out x
  exact ⟨rfl, wpA.toD r154 (by rfl) _ _ (rest_w k)⟩
noncomputable def ckHook (args : List Value) (kh : KH) (k : Value → KH → Bool) : Bool := Bool.rec (motive := fun _ => Bool) false (k val77 kh) (kept154.fits args kh)
theorem ck_ok : AE.KerT.HookOk Tryz.prog 154 ckHook := fun lo args kh k h hlo => by
 have h' : Bool.rec (motive := fun _ => Bool) false (k val77 kh) (kept154.fits args kh) = true := h
 cases hf : kept154.fits args kh with
 | false => rw [hf] at h'; cases h'
 | true =>
   rw [hf] at h'
   refine ⟨val77, kh, h', ?_⟩
   simp only [AE.Memo.Kept.fits, Bool.and_eq_true] at hf
   obtain ⟨⟨h1, h2⟩, h3⟩ := hf
   obtain ⟨rfl, hl⟩ := AE.Memo.listEqL_out (fun _ _ => AE.Memo.veqL_out 8) h2
   obtain ⟨t, hg, a⟩ := ck_afd
   have hle : 14370 ≤ kh.next := Nat.le_of_ble_eq_true h1
   refine AE.Memo.part (h0 := (⟨14370, t⟩ : KH).abs) (h := kh.abs) a rfl hle (fun r row e => ?_) hl lo
   simp only [KH.abs, Option.map_eq_some_iff] at e
   obtain ⟨kr, e, rfl⟩ := e
   obtain ⟨x, hx, rfl⟩ := hg r kr e
   obtain ⟨q1, q2, q3⟩ := AE.Memo.rowsFit_out h3 r x hx
   exact ⟨q1, by simp only [KH.abs, q2]; rfl, q3⟩
noncomputable def x77 : AE.KerP.Hooks := fun g => bif Nat.beq g 154 then some ckHook else none
theorem x77_ok : AE.KerP.HooksOk Tryz.prog x77 := fun g F h => by
 unfold x77 at h
 cases hg : Nat.beq g 154 <;> simp only [hg, cond_true, cond_false] at h
 rotate_left
 ·obtain rfl := Nat.eq_of_beq_eq_true hg
  cases h
  exact ck_ok
 cases h
theorem kw77 : AE.KerD.kclosed Tryz.prog (AE.KerP.tab Tryz.prog nds8 x77) (AE.KerP.tabD Tryz.prog nds8) nds8 mgs 1000000 1000000 77 = true := by kernel_rfl
theorem w77 {h : H} : AW Tryz.prog 77 h.next h [] (fun v h' => v = .bool true ∧ h' = h) := AE.KerP.closed_w rfl x77_ok kw77
end AE.Tryz
