/- Walks and plain laws: ClkDb, ClkDc. -/
import Derived.Test.YtcminnjimlopbaaGreatDoorJoin34
set_option linter.unusedVariables false
set_option linter.unusedSimpArgs false
set_option linter.unusedSectionVars false

/- Clerk: the definitions' stand, as it lies in the heap; copied. -/
namespace AE.Clerk
structure SD where
 stock : Int
 lost : Int
 ms : List Mdl
 rn : List Int
 co : List Int
 bk : List Int
end AE.Clerk
namespace AE.Tryz
open Go AE Go.Proofs AE.Clerk
set_option maxRecDepth 100000
set_option linter.unusedVariables false

def cI (l : List Int) : List Value := l.map (Value.int .i64)
def cM (S : SD) : List Value := cellsOf mC8 S.ms
def cL (S : SD) : List Value := cI (S.ms.map Mdl.loss)
theorem cI_len (l : List Int) : (cI l).length = l.length := List.length_map ..
theorem cM_len (S : SD) : (cM S).length = S.ms.length * 8 := by
 unfold cM cellsOf
 induction S.ms with
 | nil => rfl
 | cons m l ih => simp only [List.flatMap_cons, List.length_append, ih, List.length_cons]; simp [mC8]; omega
theorem cL_len (S : SD) : (cL S).length = S.ms.length := by unfold cL; rw [cI_len, List.length_map]
theorem cI_one (l : List Int) : (cI l).all Value.oneCell' = true := by
 simp only [cI, List.all_map, List.all_eq_true]
 intro x _
 rfl
theorem cM_one (S : SD) : (cM S).all Value.oneCell' = true := by
 unfold cM cellsOf
 rw [List.all_flatMap]
 simp only [List.all_eq_true]
 intro m _ v hv
 simp [mC8] at hv
 rcases hv with rfl | rfl | rfl | rfl | rfl | rfl | rfl | rfl <;> rfl
def RdS (m : Nat) (h : H) (sz n : Nat) (cs : List Value) (b : Option Addr) : Prop :=
 cs.length = n * sz ∧ cs.all Value.oneCell' = true ∧ (0 < n → ∃ a, b = some a ∧ h.loadN a (n * sz) = some cs ∧ a.block < m ∧ SlG a n 0) ∧ (n = 0 → b = none ∨ ∃ r, b = some ⟨r, 0, none⟩)
theorem RdS.same {m m' sz n : Nat} {h h' : H} {cs : List Value} {b : Option Addr} (k : RdS m h sz n cs b) (s : Same m h h') (hm : m ≤ m') : RdS m' h' sz n cs b :=
 ⟨k.1, k.2.1, fun h0 => by
  obtain ⟨a, e, l, hb, hs⟩ := k.2.2.1 h0
  exact ⟨a, e, by rw [s.loadN hb]; exact l, by omega, hs⟩, k.2.2.2⟩
theorem RdS.cells {m sz n : Nat} {h : H} {cs : List Value} {b : Option Addr} (k : RdS m h sz n cs b) : Cells h sz n (.slice b n 0) cs := by
 refine ⟨rfl, fun h0 => ?_, k.1, k.2.1⟩
 obtain ⟨a, rfl, l, -, -⟩ := k.2.2.1 h0
 have : ¬ far ≤ 0 := by unfold far; omega
 simp only [acells, if_neg this]
 exact l
theorem RdS.els {m sz n : Nat} {h : H} {cs : List Value} {b : Option Addr} (k : RdS m h sz n cs b) (h0 : 0 < n) : ∃ a, b = some a ∧ a.block < m ∧ SlG a n 0 ∧ ∀ off j l, cut cs off j = some l → h.loadN (aadd a off) j = some l := by
 obtain ⟨a, e, l, hb, hs⟩ := k.2.2.1 h0
 exact ⟨a, e, hb, hs, fun off j l' hc => load_part l hc⟩
theorem GE.rd {m a r sz n : Nat} {h : H} {e : TypeId} {cs : List Value} {b : Option Addr} (g : GE a r h e sz n cs b) (hr : r < m) (hl : cs.length = n * sz) (ho : cs.all Value.oneCell' = true) (hn : n < 1000000) : RdS m h sz n cs b := by
 refine ⟨hl, ho, fun h0 => ?_, fun h0 => ?_⟩
 rotate_left
 ·rcases g with ⟨-, h2, -⟩ | ⟨h1, -⟩
  ·exact .inr ⟨_, h2⟩
  ·omega
 rcases g with ⟨h1, -⟩ | ⟨-, g⟩
 ·omega
 ·obtain ⟨ad, e1, e2, e3, -⟩ := g.load
  obtain ⟨g', lens, valid, hv, -⟩ := g.is
  refine ⟨ad, e1, ?_, by rw [e2]; exact hr, .inr (.inl ⟨?_, rfl, by unfold far; omega⟩)⟩
  ·have := e3 0 (n * sz) cs (by rw [← hl]; exact cut_whole cs)
   rwa [show aadd ad 0 = ad by simp [aadd]] at this
  ·rw [e1] at hv
   simp only [Option.some.injEq] at hv
   rw [hv]
   exact ⟨_, rfl⟩
structure SR (m : Nat) (h : H) (S : SD) (b1 b2 b3 b4 b5 : Option Addr) : Prop where
 m1 : RdS m h 8 S.ms.length (cM S) b1
 m2 : RdS m h 1 S.ms.length (cL S) b2
 m3 : RdS m h 1 S.rn.length (cI S.rn) b3
 m4 : RdS m h 1 S.co.length (cI S.co) b4
 m5 : RdS m h 1 S.bk.length (cI S.bk) b5
 s1 : S.ms.length ≤ 100
 s3 : S.rn.length ≤ 100
 s4 : S.co.length ≤ 100
 s5 : S.bk.length ≤ 100
theorem SR.same {m m' : Nat} {h h' : H} {S : SD} {b1 b2 b3 b4 b5 : Option Addr} (k : SR m h S b1 b2 b3 b4 b5) (s : Same m h h') (hm : m ≤ m') : SR m' h' S b1 b2 b3 b4 b5 :=
 ⟨k.m1.same s hm, k.m2.same s hm, k.m3.same s hm, k.m4.same s hm, k.m5.same s hm, k.s1, k.s3, k.s4, k.s5⟩
structure SF (lo hi : Nat) (h : H) (S : SD) (b1 b2 b3 b4 b5 : Option Addr) (a1 r1 a2 r2 a3 r3 a4 r4 a5 r5 : Nat) : Prop where
 g1 : GE a1 r1 h 61 8 S.ms.length (cM S) b1
 g2 : GE a2 r2 h 2 1 S.ms.length (cL S) b2
 g3 : GE a3 r3 h 3 1 S.rn.length (cI S.rn) b3
 g4 : GE a4 r4 h 2 1 S.co.length (cI S.co) b4
 g5 : GE a5 r5 h 3 1 S.bk.length (cI S.bk) b5
 c : lo ≤ a1 ∧ a1 < r1 ∧ r1 < a2 ∧ a2 < r2 ∧ r2 < a3 ∧ a3 < r3 ∧ r3 < a4 ∧ a4 < r4 ∧ r4 < a5 ∧ a5 < r5 ∧ r5 < hi
 s1 : S.ms.length ≤ 100
 s3 : S.rn.length ≤ 100
 s4 : S.co.length ≤ 100
 s5 : S.bk.length ≤ 100
end AE.Tryz

/- Clerk, walked: the definitions' model. -/
namespace AE.Tryz
open Go AE Go.Proofs AE.Clerk
set_option maxRecDepth 100000
set_option linter.unusedVariables false

theorem cut_cellsOf {α : Type} {g : α → List Value} {w : Nat} (hw : ∀ x, (g x).length = w) : ∀ {l : List α} {j : Nat} {x : α}, l[j]? = some x → cut (cellsOf g l) (j * w) w = some (g x)
 | [], _, _, h => by simp at h
 | y :: l, 0, x, h => by
   simp only [List.getElem?_cons_zero, Option.some.injEq] at h
   subst h
   have : cellsOf g (y :: l) = [] ++ g y ++ cellsOf g l := by simp [cellsOf]
   rw [this]
   exact cut_app (by simp) (hw y)
 | y :: l, j + 1, x, h => by
   have ih := cut_cellsOf hw (l := l) (j := j) (x := x) (by simpa using h)
   have e : cellsOf g (y :: l) = g y ++ cellsOf g l := by simp [cellsOf]
   unfold cut at ih ⊢
   have hy := hw y
   split at ih
   ·rename_i hle
    rw [e, if_pos (by rw [List.length_append, hy, Nat.succ_mul]; omega)]
    rw [← ih, show (j + 1) * w = (g y).length + j * w by rw [hy, Nat.succ_mul]; omega, List.drop_append]
    rw [List.drop_eq_nil_of_le byO, List.nil_append, show (g y).length + j * w - (g y).length = j * w by omega]
   ·exact absurd ih (by simp)
theorem cI_cells (l : List Int) : cI l = cellsOf (fun z : Int => [Value.int .i64 z]) l := by
 unfold cI cellsOf
 rw [List.map_eq_flatMap]
theorem RdS.ints {m : Nat} {h : H} {l : List Int} {b : Option Addr} (k : RdS m h 1 l.length (cI l) b) (h0 : 0 < l.length) : ∃ a, b = some a ∧ a.block < m ∧ ∀ j x, l[j]? = some x → h.loadN (aadd a (j * 1)) 1 = some [.int .i64 x] := by
 obtain ⟨a, e, hb, -, hc⟩ := k.els h0
 rw [cI_cells] at hc
 exact ⟨a, e, hb, fun j x hx => hc _ _ _ (cut_cellsOf (g := fun z : Int => [Value.int .i64 z]) (w := 1) (fun _ => rfl) hx)⟩
end AE.Tryz
