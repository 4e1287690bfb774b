/- One operation, whatever it is: what the evaluator says of it is what the program does. -/
import Derived.Test.YthajcipblfchiaaAEAppend
import Derived.Test.YthajcipblfchiaaAEMaps
set_option linter.unusedVariables false
set_option linter.unusedSimpArgs false
set_option linter.unusedSectionVars false
namespace AE
open Go Go.RowKit

section
variable {P : Program} {I : Inj} {ts : Ts} {ρ : Operand → Value}

/-- The operations that are covered here. -/
def AOp.known : AOp → Bool
  | .mapup _ _ _ _ | .lenmap _ | .delete _ _ _ => false
  | _ => true

theorem Sim.lite {o : Oper} {lo nid : Nat} {h : H} {v : Value} {w : World} (k : Rel I h w) (h1 : In I v) (h2 : (execOp ρ o).run P w = .ok (.value (ren I v)) w) : Sim P I ρ o lo nid h v w :=
  ⟨I, w, _, ⟨Grows.refl I w, fun _ d => .inl d, fun _ _ _ _ e => e⟩, k, h1, Ext.refl I lo w, h2, .inl rfl⟩

theorem Sim.fresh {o : Oper} {lo nid : Nat} {h h' : H} {v : Value} {w : World} (k : Rel I h w) (hlo : lo ≤ nid) (hnid : ¬ I.dom nid) (hnx : nid < h.next) (hf : Fresh P I ρ o nid h h' v) : Sim P I ρ o lo nid h' v w := by
  obtain ⟨row, rfl, hf⟩ := hf
  obtain ⟨ob, hrun, hin, hrow⟩ := hf w k.base hnid
  exact ⟨_, _, _, ⟨Grows.plus (dom_none hnid _) (.inl (Nat.le_refl _)), fun _ d => Inj.plus_dom d, Inj.plus_lo hlo⟩, k.new hnid hnx none 0 ob hrow, hin, Ext.alloc I lo w ob, hrun, .inl rfl⟩

theorem Sim.stored {o : Oper} {lo nid b : Nat} {h : H} {r : Nat} {row : ARow} {w w' : World} (k : Rel I h w) (hlo : lo ≤ r) (hrow : RowRel I r w' row) (hbut : But b w w') (hbase : I.base ≤ b) (hat : ∃ s, I.at_ r s = some (b, 0))
    (hrun : (execOp ρ o).run P w = .ok .skip w') : Sim P I ρ o lo nid (h.put r row) undef w := by
  obtain ⟨s, hs⟩ := hat
  exact ⟨I, w', _, ⟨Grows.refl I w, fun _ d => .inl d, fun _ _ _ _ e => e⟩, k.store hbase ⟨s, hs⟩ hbut hrow, by simp [undef, In, InL], hbut.ext hlo hs hbase, hrun, .inr ⟨rfl, rfl⟩⟩

set_option maxHeartbeats 1600000 in
theorem sim_op (hρ : Ev I ts ρ) {o : Oper} {ao : AOp} {lo nid : Nat} {h h' : H} {v : Value} {w : World} (hc : comp P o = some (.op ao)) (hkn : ao.known = true) (k : Rel I h w) (hnid : ¬ I.dom nid) (hnx : nid < h.next) (hlo : lo ≤ nid)
    (ha : aop P lo nid ts h ao = some (v, h')) : Sim P I ρ o lo nid h' v w := by
  by_cases hl : ao.light = true
  · by_cases hf : ao.fresh = true
    · exact Sim.fresh k hlo hnid hnx (aop_fresh hρ hc hl hf ha)
    · obtain ⟨rfl, hi, hrun⟩ := aop_light hρ hc hl (by simpa using hf) ha
      exact Sim.lite k hi (hrun w)
  · have hc0 := hc
    unfold comp at hc
    have krow : ∀ (x : Operand) (x' : Opd), cOpd x = some x' → ∀ a row, ev ts x' = .pointer (some a) → h.get a.block = some row → RowRel I a.block w row := fun x x' hx a row hp hg => by
      have i2 := (hρ x x' hx).2
      rw [hp] at i2
      exact k.rows _ _ hg (dom_of_inA (by simpa only [In] using i2))
    cases ho : o.op <;> rw [ho] at hc <;> simp only [Option.bind_eq_some_iff, Option.map_eq_some_iff, reduceCtorEq] at hc
    case load t a =>
      obtain ⟨a', hx, hc⟩ := hc
      split at hc
      · rename_i ht
        simp only [Option.map_eq_some_iff] at hc
        obtain ⟨n, hn, hc⟩ := hc
        simp at hc; subst hc
        obtain ⟨hv, rfl⟩ := keep_some ha
        obtain ⟨r1, r2⟩ := run_loadn hρ ho ht hn hx hv (krow a a' hx)
        exact Sim.lite k r1 r2
      · rename_i ht
        simp at hc; subst hc
        obtain ⟨hv, rfl⟩ := keep_some ha
        obtain ⟨r1, r2⟩ := run_load1 hρ ho ht hx hv (krow a a' hx)
        exact Sim.lite k r1 r2
      · simp at hc
    case store t a x =>
      obtain ⟨n, hn, a', hx, x', hy, hc⟩ := hc
      simp at hc; subst hc
      obtain ⟨aa, b, row', w', e1, e2, rfl, rfl, e5, e6, e7, e8, e9⟩ := run_store_op hρ ho hn hx hy ha (krow a a' hx)
      exact Sim.stored k e2 e5 e6 e7 e8 e9
    case lookup t m kk ok =>
      split at hc
      · rename_i kt e ht
        simp only [Option.bind_eq_some_iff, Option.map_eq_some_iff] at hc
        obtain ⟨z, hz, m', hm, k', hk, hc⟩ := hc
        simp at hc; subst hc
        obtain ⟨hv, rfl⟩ := keep_some ha
        obtain ⟨r1, r2⟩ := sim_lookup hρ ho ht hz hm hk k hv
        exact Sim.lite k r1 r2
      · simp at hc
    case call c =>
      unfold cCall at hc
      split at hc
      · rename_i f hcal
        simp only [Option.bind_eq_some_iff, Option.map_eq_some_iff] at hc
        obtain ⟨_, _, _, _, hc⟩ := hc
        simp at hc
      · simp at hc
      · rename_i b hb
        split at hc
        · rename_i x t hx ht
          simp only [Option.bind_eq_some_iff] at hc
          obtain ⟨x', hx', hc⟩ := hc
          split at hc <;> simp at hc <;> subst hc <;> simp [AOp.light, AOp.known] at hl hkn
        · rename_i x y t u hx ht
          have hcc := call2 hb hx ht
          subst hcc
          simp only [Option.bind_eq_some_iff] at hc
          obtain ⟨x', hx', y', hy', hc⟩ := hc
          split at hc
          · rename_i e htu
            split at hc
            · simp at hc
            · rename_i d hd1 hu
              simp only [Option.bind_eq_some_iff] at hc
              obtain ⟨ie, hi, z, hz, hc⟩ := hc
              split at hc
              · rename_i hb2
                simp at hc; subst hc
                exact sim_append hρ ho htu hu (fun k e => hd1 k e) hi hz hb2.1 hb2.2 hx' hy' k hnid hnx hlo ha
              · simp at hc
            · simp at hc
          · rename_i e htu
            simp only [Option.map_eq_some_iff] at hc
            obtain ⟨s, hs, hc⟩ := hc
            simp at hc; subst hc
            exact sim_copy hρ ho htu hs hx' hy' k ha
          all_goals first
            | (simp at hc; done)
            | (simp at hc; subst hc; simp [AOp.light, AOp.known] at hl hkn)
        · split at hc <;> simp only [Option.map_eq_some_iff, reduceCtorEq] at hc <;> obtain ⟨_, _, hc⟩ := hc <;> simp at hc <;> subst hc <;> simp [AOp.light] at hl
    case binOp op t x y t' =>
      obtain ⟨ao', hb, hc⟩ := hc
      simp at hc; subst hc
      exact absurd (cBin_kind hb).2 hl
    all_goals exfalso
    case makeMap t r => cases r <;> simp at hc; subst hc; simp [AOp.light] at hl
    case move => obtain ⟨_, _, hc⟩ := hc; simp at hc; subst hc; simp [AOp.light] at hl
    case assign => obtain ⟨_, _, hc⟩ := hc; simp at hc; subst hc; simp [AOp.light] at hl
    case pick => obtain ⟨_, _, _, _, _, _, hc⟩ := hc; simp at hc; subst hc; simp [AOp.light] at hl
    case alloc => obtain ⟨_, _, hc⟩ := hc; simp at hc; subst hc; simp [AOp.light] at hl
    case box => obtain ⟨_, _, hc⟩ := hc; simp at hc; subst hc; simp [AOp.light] at hl
    all_goals
      repeat' (first
        | (simp [AOp.light] at hl; done)
        | (simp [AOp.known] at hkn; done)
        | (simp at hc; done)
        | (simp at hc; subst hc; simp [AOp.light] at hl; done)
        | (simp at hc; subst hc; simp [AOp.known] at hkn; done)
        | (simp only [Option.bind_eq_some_iff] at hc; obtain ⟨_, _, hc⟩ := hc)
        | (simp only [Option.map_eq_some_iff] at hc; obtain ⟨_, _, hc⟩ := hc)
        | split at hc
        | (obtain ⟨_, _, hc⟩ := hc))

end
end AE
