/- Closing steps of a walk, each found by tactic. -/
import Derived.Test.YthajcipblfchiaaAEWp
set_option linter.unusedVariables false
set_option linter.unusedSimpArgs false
set_option linter.unusedSectionVars false
namespace AE
open Go
theorem byNext {G : Prop} (g : G := by (((try simp only [put_next, bump_next, Nat.add_assoc, Nat.reduceAdd]); exact rfl))) : G := g
theorem byLt {G : Prop} (g : G := by (first | exact Nat.add_lt_add_left (Nat.le_of_ble_eq_true rfl) _ | omega)) : G := g
theorem byNe {G : Prop} (g : G := by (first | exact ne_add rfl | exact ne_add0 rfl | exact ne_0add rfl | exact ne_far (by assumption) rfl | exact ne_far0 (by assumption) rfl | omega)) : G := g
theorem byLo {G : Prop} (g : G := by (first | exact Nat.le_refl _ | exact Nat.le_add_right _ _ | omega)) : G := g
theorem byNid {G : Prop} (g : G := by (((try simp only [Nat.add_zero, Nat.add_assoc, Nat.reduceAdd]); exact rfl))) : G := g
theorem bySto {G : Prop} (g : G := by (((try dsimp only [aadd]) <;> exact rfl))) : G := g
theorem byLit {G : Prop} (g : G := by (((conv => lhs; simp only [Int.reduceToNat]) <;> exact rfl))) : G := g
theorem byWrap {G : Prop} (g : G := by (first | exact w64_id (by omega) | exact wrap_u64 (by omega) | exact wrap_u32 (by omega))) : G := g
theorem byGet {G : Prop} (g : G := by (((try dsimp only [aadd]); (repeat (first | assumption | exact put_get rfl | ((with_reducible apply put_skip); focus exact byNe) | with_reducible apply bump_skip | ((with_reducible apply quiet_skip); (focus assumption); focus exact byLt) | exact put_get (by omega) | ((with_reducible apply same_get); (focus assumption); focus exact byLt))); (first | done | fail)))) : G := g
theorem byOld {G : Prop} (g : G := by (((repeat (first | assumption | (apply Ints.at <;> first | assumption | omega) | (apply Els.at <;> first | assumption | omega) | ((with_reducible apply put_old); focus (dsimp only [aadd]; omega)) | with_reducible apply bump_old | ((with_reducible apply quiet_old); (focus assumption); focus (dsimp only [aadd]; omega)) | ((with_reducible apply same_old); (focus assumption); focus (dsimp only [aadd]; omega)))); (first | done | fail)))) : G := g
theorem byVal {G : Prop} (g : G := by (((conv => lhs; whnf) <;> exact rfl))) : G := g
theorem byList {G : Prop} (g : G := by (((repeat ((conv => arg 1; whnf); first | exact Is.nil | (apply Is.cons; focus exact byVal) | exact Is.rfl)); (first | done | fail)))) : G := g
theorem byApart {G : Prop} (g : G := by (((repeat (first | exact Apart.nil | (apply Apart.cons; (focus exact rfl); (focus exact rfl); (focus ((try dsimp only [aadd]); omega))))); (first | done | fail)))) : G := g
theorem byNeed {G : Prop} (g : G := by (first | omega | exact byApart)) : G := g
theorem byMem {G : Prop} (g : G := by (first | (apply loadN_one; (focus exact byGet); (focus exact rfl); (first | done | fail)) | (apply loadN_cells; (focus exact byGet); (focus exact rfl); (first | done | fail)) | exact byOld)) : G := g
theorem byLen {G : Prop} (g : G := by ((simp only [List.length_cons, List.length_nil, Nat.reduceAdd]; exact rfl))) : G := g
theorem bySame {G : Prop} (g : G := by (((repeat (first | exact Same.refl _ _ | assumption | (apply Same.mono; (focus assumption); (focus omega)) | ((with_reducible apply Same.put); rotate_left; focus omega) | with_reducible apply Same.bump | ((with_reducible apply Same.quiet); rotate_left; (focus assumption); (focus omega)))); (first | done | fail)))) : G := g
theorem byQuiet {G : Prop} (g : G := by (((repeat (first | exact Quiet.refl _ _ | assumption | ((with_reducible apply Quiet.put'); rotate_left; (focus omega); (focus (simp only [put_next, bump_next]; omega))) | with_reducible apply Quiet.bump' | ((with_reducible apply Quiet.trans'); rotate_left; (focus assumption); (focus omega)))); (first | done | fail)))) : G := g
theorem byOm {G : Prop} (g : G := by (first | omega | ((try simp only [put_next, bump_next] at *); omega))) : G := g
theorem byR1 {G : Prop} (g : G := by (first | ((with_reducible apply one_tmp); focus exact byVal) | ((with_reducible apply one_agg); (focus exact rfl); (focus exact rfl); (focus exact rfl); (focus exact byGet); (focus exact rfl); (focus exact byList)) | ((with_reducible apply one_cel); (focus exact rfl); (focus exact rfl); (focus exact byGet); (focus exact rfl); (focus exact byVal)))) : G := g
end AE
