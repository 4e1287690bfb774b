/- Clerk, walked: the definitions' Do. -/
import Derived.Test.YtcminnjimlopbaaGreatDoorJoin41
set_option linter.unusedVariables false
set_option linter.unusedSimpArgs false
set_option linter.unusedSectionVars false
namespace AE.Tryz
open Go AE Go.Proofs AE.Clerk
set_option maxRecDepth 100000
set_option linter.unusedVariables false
theorem q_stoG {lo r sz n m off : Nat} {h : H} {e : TypeId} {cs vs : List Value} {a : Addr} {k : H → Prop} (G : GAt r h e sz n cs (some a)) (hlo : lo ≤ r) (hvl : vs.length = m) (ho : vs.all Value.oneCell' = true) (hle : off + m ≤ cs.length) (hk : ∀ row, GAt r (h.put r row) e sz n (splice cs off vs) (some a) → k (h.put r row)) : Sto lo h (aadd a off) m vs k := by
 obtain ⟨a', e1, -, -, st⟩ := G.load
 simp only [Option.some.injEq] at e1
 subst e1
 obtain ⟨row, hs, G'⟩ := st lo off vs hlo ho (by rw [hvl]; exact hle)
 exact Sto.raw hs hvl (hk row G')
theorem splice_set {α : Type} {g : α → List Value} {w : Nat} (hw : ∀ x, (g x).length = w) : ∀ {l : List α} {j : Nat} {x : α}, j < l.length → splice (cellsOf g l) (j * w) (g x) = cellsOf g (l.set j x)
 | [], _, _, h => by simp at h
 | y :: l, 0, x, _ => by
   have e : cellsOf g (y :: l) = g y ++ cellsOf g l := by simp [cellsOf]
   have e2 : cellsOf g ((y :: l).set 0 x) = g x ++ cellsOf g l := by simp [cellsOf]
   rw [e, e2]
   unfold splice
   rw [Nat.zero_mul, List.take_zero, List.nil_append, Nat.zero_add, hw x, ← hw y, List.drop_left]
 | y :: l, j + 1, x, h => by
   have ih := splice_set hw (l := l) (j := j) (x := x) (by simpa using h)
   have e : cellsOf g (y :: l) = g y ++ cellsOf g l := by simp [cellsOf]
   have e2 : cellsOf g ((y :: l).set (j + 1) x) = g y ++ cellsOf g (l.set j x) := by simp [cellsOf]
   rw [e, e2, ← ih]
   unfold splice
   have hy := hw y
   rw [show (j + 1) * w = (g y).length + j * w by rw [hy, Nat.succ_mul]; omega, List.take_length_add_append, Nat.add_assoc, List.drop_length_add_append]
   simp only [List.append_assoc]
theorem gat_int {r n : Nat} {h : H} {e : TypeId} {l : List Int} {a : Addr} {j : Nat} {z : Int} (G : GAt r h e 1 n (cI l) (some a)) (hj : l[j]? = some z) : h.loadN (aadd a (j * 1)) 1 = some [.int .i64 z] := by
 obtain ⟨a', e1, -, ld, -⟩ := G.load
 simp only [Option.some.injEq] at e1
 subst e1
 refine ld _ _ _ ?_
 rw [cI_cells]
 exact cut_cellsOf (g := fun z : Int => [Value.int .i64 z]) (w := 1) (fun _ => rfl) hj
theorem cI_set {l : List Int} {j : Nat} {z : Int} (h : j < l.length) : splice (cI l) (j * 1) [.int .i64 z] = cI (l.set j z) := by
 rw [cI_cells, cI_cells]
 exact splice_set (g := fun z : Int => [Value.int .i64 z]) (w := 1) (fun _ => rfl) h
theorem getD_some {l : List Int} {j : Nat} (h : j < l.length) : l[j]? = some (l.getD j 0) := by
 rw [List.getD_eq_getElem?_getD, List.getElem?_eq_getElem h]
 rfl
end AE.Tryz
