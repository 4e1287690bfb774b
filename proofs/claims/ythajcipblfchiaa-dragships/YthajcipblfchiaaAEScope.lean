/- Scopes: code that may be jumped into; here nothing jumps. -/
import Derived.Test.YthajcipblfchiaaAEMach
set_option linter.unusedVariables false
set_option linter.unusedSimpArgs false
set_option linter.unusedSectionVars false
namespace AE
open Go

theorem stepR_scope {P : Program} {b : Frame} {a : Act} {k : List Item} {cs : List Frame} {w : World} {c : Code} : step P (lone (b.atR a (.code (.scope c) :: k)) cs w) = .next (lone (b.atR a (.code c :: .inScope c :: k)) cs w) :=
  step_lone_go (by simp [stepG, stepG.exec, Frame.atR])
theorem stepR_inScope {P : Program} {b : Frame} {a : Act} {k : List Item} {cs : List Frame} {w : World} {c : Code} : step P (lone (b.atR a (.inScope c :: k)) cs w) = .next (lone (b.atR a k) cs w) :=
  step_lone_go (by simp [stepG, stepG.exec, Frame.atR])

theorem wpIn_scope {P : Program} {ro : Option Nat} {c : Code} {Q : Exit → Act → World → Prop} {a : Act} {w : World} (h : c.wpIn (WR ro) 0 P (fun e a w => (∀ l, e ≠ .goto l) ∧ Q e a w) a w) : (Code.scope c).wpIn (WR ro) 0 P Q a w := by
  intro b k cs hro hb hr
  obtain ⟨e, a₁, w₁, ⟨hng, hq⟩, harr⟩ := h b (.inScope c :: k) cs hro hb hr
  cases e with
  | normal => exact ⟨.normal, a₁, w₁, hq, .head (fenced_WR P ro _) stepR_scope (StepsIn.trans harr (.one (fenced_WR P ro _) stepR_inScope))⟩
  | exit id =>
    have hx : exitTo id (.inScope c :: k) = exitTo id k := by simp [exitTo]
    exact ⟨_, a₁, w₁, hq, fun k' hk => .head (fenced_WR P ro _) stepR_scope (harr.1 k' (by rw [hx]; exact hk)),
      fun hr' hk => let ⟨k₁, h1, h2⟩ := harr.2 hr' (by rw [hx]; exact hk); ⟨k₁, h1, .head (fenced_WR P ro _) stepR_scope h2⟩⟩
  | goto l => exact absurd rfl (hng l)
  | ret => exact ⟨_, a₁, w₁, hq, .of_steps (.one (fenced_WR P ro _) stepR_scope) harr⟩
  | panic ch => exact ⟨_, a₁, w₁, hq, .of_steps (.one (fenced_WR P ro _) stepR_scope) harr⟩
  | outgrown => exact ⟨_, a₁, w₁, hq, .of_steps (.one (fenced_WR P ro _) stepR_scope) harr⟩

theorem WT.scope {tp : Bool} {P : Program} {n lo : Nat} {Q : Exit → Ts → H → Prop} {ts : Ts} {h : H} {c : Code} (a : WT (TC tp P c) n lo (fun e ts h => (∀ l, e ≠ .goto l) ∧ Q e ts h) ts h) : WT (TC tp P (.scope c)) n lo Q ts h := by
  obtain ⟨e, ts', h', ⟨hg, q⟩, hq, g⟩ := a
  refine ⟨e, ts', h', q, hq, fun ro I w a k t htp => wpIn_scope (Go.wpIn_mono (g ro I w a k t htp) ?_)⟩
  rintro e' a' w' ⟨rfl, J, r⟩
  exact ⟨hg, rfl, J, r⟩

end AE
