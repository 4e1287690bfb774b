/- How nets and heights lie in cells. -/
import Derived.Test.YtfdlkdjihmlbhaaAEthree
import Derived.Test.YtfdlkdjihmlbhaaAgreeSpec3
set_option linter.unusedVariables false
set_option linter.unusedSimpArgs false
set_option linter.unusedSectionVars false
set_option linter.unusedVariables false
namespace AE.Ag
open Go AE AgreeS

def boundV : Option Int → List Value
  | some m => [.bool true, .int .i64 m]
  | none => [.bool false, .int .i64 0]
def kCells (k : Known) : List Value := rowsOf (fun i => boundV (k i)) 13
def netRows (B : Net) : List Value := rowsOf (fun f => kCells (B f)) 13

theorem boundV_len (o : Option Int) : (boundV o).length = 2 := by cases o <;> rfl
theorem kCells_len (k : Known) : (kCells k).length = 26 := rowsOf_len (fun _ => boundV_len _) 13
theorem netRows_len (B : Net) : (netRows B).length = 338 := rowsOf_len (fun _ => kCells_len _) 13

theorem kCells_get (k : Known) {t a : Nat} (ht : t < 13) (p s : List Value) (ha : a = p.length + t * 2) : cut (p ++ kCells k ++ s) a 2 = some (boundV (k t)) :=
  cut_rowsOf (g := fun i => boundV (k i)) (fun _ => boundV_len _) ht p s ha
theorem kCells_set (k : Known) {t a : Nat} (v : Option Int) (ht : t < 13) (p s : List Value) (ha : a = p.length + t * 2) : splice (p ++ kCells k ++ s) a (boundV v) = p ++ kCells (upd k t v) ++ s := by
  have := splice_rowsOf (g := fun i => boundV (k i)) (fun _ => boundV_len _) ht p s (boundV v) (boundV_len _) ha
  have e : updL (fun i => boundV (k i)) t (boundV v) = fun i => boundV (upd k t v i) := by
    funext i; simp only [updL, upd]; split <;> rfl
  rw [e] at this
  exact this
theorem netRows_row (B : Net) {f a : Nat} (hf : f < 13) (p s : List Value) (ha : a = p.length + f * 26) : cut (p ++ netRows B ++ s) a 26 = some (kCells (B f)) :=
  cut_rowsOf (g := fun f => kCells (B f)) (fun _ => kCells_len _) hf p s ha
theorem netRows_get (B : Net) {f t a : Nat} (hf : f < 13) (ht : t < 13) (p s : List Value) (ha : a = p.length + f * 26 + t * 2) : cut (p ++ netRows B ++ s) a 2 = some (boundV (B f t)) := by
  subst ha
  have h1 := netRows_row B hf p s rfl
  have h2 := kCells_get (B f) ht [] [] (a := t * 2) (by simp)
  simp only [List.nil_append, List.append_nil] at h2
  exact cut_cut h1 h2
theorem netRows_set {B B' : Net} {f t a : Nat} {v : Option Int} (hB : ∀ i j, B' i j = if i = f ∧ j = t then v else B i j) (hf : f < 13) (ht : t < 13) (p s : List Value) (ha : a = p.length + f * 26 + t * 2) : splice (p ++ netRows B ++ s) a (boundV v) = p ++ netRows B' ++ s := by
  subst ha
  have h1 := netRows_row B hf p s rfl
  rw [splice_splice h1 (by rw [boundV_len]; omega)]
  have h2 := kCells_set (B f) v ht [] [] (a := t * 2) (by simp)
  simp only [List.nil_append, List.append_nil] at h2
  rw [h2]
  have := splice_rowsOf (g := fun f => kCells (B f)) (fun _ => kCells_len _) hf p s (kCells (upd (B f) t v)) (kCells_len _) rfl
  have e : updL (fun f => kCells (B f)) f (kCells (upd (B f) t v)) = fun f => kCells (B' f) := by
    funext i; simp only [updL]; split
    · rename_i h; subst h
      congr 1; funext j; simp only [upd, hB]; simp
    · rename_i h
      congr 1; funext j; simp [hB, h]
  rw [e] at this
  exact this

/-- No bounds at all. -/
def zeroK : List Value := rowsOf (fun _ => boundV none) 13
theorem zeroK_eq : kCells (fun _ => none) = zeroK := rfl
theorem oneCell_bound (o : Option Int) : (boundV o).all Value.oneCell' = true := by cases o <;> rfl

attribute [irreducible] netRows kCells

end AE.Ag
