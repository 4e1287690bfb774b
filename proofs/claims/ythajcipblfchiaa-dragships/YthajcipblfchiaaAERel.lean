/- What it means that an abstract heap lies in a world; new rows, loads, stores. -/
import Derived.Test.YthajcipblfchiaaAELight3
set_option linter.unusedVariables false
set_option linter.unusedSimpArgs false
set_option linter.unusedSectionVars false
namespace AE
open Go Go.RowKit

def renE (I : Inj) (e : MapEntry) : MapEntry := ⟨ren I e.key, ren I e.val, e.born⟩
def InE (I : Inj) (e : MapEntry) : Prop := In I e.key ∧ In I e.val

def pendCode : Pend → Option Code
  | .none => none
  | .ret => some .ret
  | .exit id => some (.exit id)

/-- The temporaries of a frame: as many as it has, each the renamed one. -/
def TsRel (I : Inj) (n : Nat) (ts : Ts) (tmps : Array Value) : Prop := tmps.size = n ∧ ∀ i, tmps.getD i undef = ren I (ts i) ∧ In I (ts i)

/-- How a row lies in a world. -/
def RowRel (I : Inj) (r : Nat) (w : World) : ARow → Prop
  | .cells c e => InL I c ∧ ∃ b, I.at_ r none = some (b, 0) ∧ I.base ≤ b ∧ w.heap[b]? = some (.cells ⟨renL I c⟩ e (0, 0))
  | .ro c => InL I c ∧ ∃ b d, I.at_ r none = some (b, d) ∧ ∀ i v, c[i]? = some v → w.cell? ⟨b, d + i, none⟩ = some (ren I v)
  | .grow c e sz lens valid => InL I c ∧ lens.head? = some c.length ∧ (∀ n ∈ lens, n ≤ c.length) ∧ (∀ g p, I.at_ r (some g) = some p → g < lens.length) ∧ ∀ g, valid ≤ g → g < lens.length → ∃ b C, I.at_ r (some g) = some (b, 0) ∧ I.base ≤ b ∧ w.heap[b]? = some (.cells C e (0, 0)) ∧
      glen lens g ≤ C.size ∧ C.size = I.cap r g * sz ∧ ∀ i, i < glen lens g → C[i]? = (renL I c)[i]?
  | .map es clock => (∀ e ∈ es, InE I e) ∧ ∃ b, I.at_ r none = some (b, 0) ∧ I.base ≤ b ∧ w.heap[b]? = some (.map ⟨es.map (renE I)⟩ clock)
  | .loop l => ∃ b tmps db fn, I.at_ r none = some (b, 0) ∧ I.base ≤ b ∧ TsRel I l.size l.tmps tmps ∧
      w.heap[b]? = some (.loop { state := l.state, pending := pendCode l.pend, fn, tmps, params := ⟨l.params⟩, assign := l.asg, body := l.body, defers := db })
  | .defers => ∃ b, I.at_ r none = some (b, 0) ∧ I.base ≤ b ∧ w.heap[b]? = some (.deferred (some []))
  | .gone => True

structure Rel (I : Inj) (h : H) (w : World) : Prop where
  rows : ∀ r row, h.get r = some row → I.dom r → RowRel I r w row
  lt : ∀ r, I.dom r → r < h.next
  size : ∀ r s b d, I.at_ r s = some (b, d) → b < w.heap.size
  base : I.base ≤ w.heap.size
  inj : ∀ r r' s s' b d d', I.at_ r s = some (b, d) → I.at_ r' s' = some (b, d') → I.base ≤ b → r = r'
  clean : ∀ r, h.next ≤ r → h.get r = none

/-- What a call may have turned: of the blocks that were there, those of rows from lo on. -/
structure Ext (I : Inj) (lo : Nat) (w w' : World) : Prop where
  os : w'.os = w.os
  tape : w'.tape = w.tape
  output : w'.output = w.output
  size : w.heap.size ≤ w'.heap.size
  block : ∀ b, b < w.heap.size → (∀ r s d, I.at_ r s = some (b, d) → I.base ≤ b → r < lo) → w'.heap[b]? = w.heap[b]?

theorem Ext.refl (I : Inj) (lo : Nat) (w : World) : Ext I lo w w := ⟨rfl, rfl, rfl, Nat.le_refl _, fun _ _ _ => rfl⟩
/-- J goes on from I: what it adds lies in new blocks. -/
structure Grows (I J : Inj) (w : World) : Prop where
  le : Le I J
  new : ∀ r s b d, J.at_ r s = some (b, d) → I.at_ r s = some (b, d) ∨ w.heap.size ≤ b ∨ (∃ s', I.at_ r s' = some (b, d))
theorem Grows.refl (I : Inj) (w : World) : Grows I I w := ⟨Le.refl I, fun _ _ _ _ h => .inl h⟩
theorem Grows.trans {I J K : Inj} {w w' : World} (h : Grows I J w) (k : Grows J K w') (hs : w.heap.size ≤ w'.heap.size) : Grows I K w := by
  refine ⟨h.le.trans k.le, fun r s b d e => ?_⟩
  rcases k.new r s b d e with e | e | ⟨s', e⟩
  · exact h.new r s b d e
  · exact .inr (.inl (by omega))
  · rcases h.new r s' b d e with e | e | e
    · exact .inr (.inr ⟨_, e⟩)
    · exact .inr (.inl e)
    · exact .inr (.inr e)
theorem Ext.trans {I J : Inj} {lo : Nat} {w w' w'' : World} (h : Ext I lo w w') (g : Grows I J w) (k : Ext J lo w' w'') : Ext I lo w w'' := by
  refine ⟨k.os.trans h.os, k.tape.trans h.tape, k.output.trans h.output, Nat.le_trans h.size k.size, fun b hb hr => ?_⟩
  rw [k.block b (by have := h.size; omega) (fun r s d e hbase => ?_), h.block b hb hr]
  rw [g.le.base] at hbase
  rcases g.new r s b d e with e | e | ⟨s', e⟩
  · exact hr r s d e hbase
  · omega
  · exact hr r s' d e hbase
theorem Ext.mono {I : Inj} {lo lo' : Nat} {w w' : World} (h : Ext I lo w w') (hl : lo' ≤ lo) : Ext I lo' w w' :=
  ⟨h.os, h.tape, h.output, h.size, fun b hb hr => h.block b hb (fun r s d e k => Nat.lt_of_lt_of_le (hr r s d e k) hl)⟩

/-! ### a row in another world, under a renaming that goes on -/

theorem TsRel.le {I J : Inj} (h : Le I J) {n : Nat} {ts : Ts} {tmps : Array Value} (k : TsRel I n ts tmps) : TsRel J n ts tmps :=
  ⟨k.1, fun i => ⟨by rw [(k.2 i).1, (h.ren _ (k.2 i).2).1], (h.ren _ (k.2 i).2).2⟩⟩
theorem InE.le {I J : Inj} (h : Le I J) {e : MapEntry} (k : InE I e) : InE J e ∧ renE J e = renE I e :=
  ⟨⟨(h.ren _ k.1).2, (h.ren _ k.2).2⟩, by simp [renE, (h.ren _ k.1).1, (h.ren _ k.2).1]⟩

/-- The blocks in which a row lies. -/
def BlockOf (I : Inj) (r b : Nat) : Prop := ∃ s d, I.at_ r s = some (b, d)

theorem RowRel.le {I J : Inj} (h : Le I J) {r : Nat} {w w' : World} {row : ARow} (k : RowRel I r w row) (hJ : ∀ s p, J.at_ r s = some p → I.at_ r s = some p) (hb : ∀ b, BlockOf I r b → w'.heap[b]? = w.heap[b]?) : RowRel J r w' row := by
  cases row with
  | cells c e =>
    obtain ⟨i, b, e1, e2, e3⟩ := k
    obtain ⟨er, ir⟩ := h.renL c i
    exact ⟨ir, b, h.at_ _ _ _ e1, by rw [h.base]; exact e2, by rw [hb b ⟨_, _, e1⟩, e3, er]⟩
  | ro c =>
    obtain ⟨i, b, d, e1, e2⟩ := k
    refine ⟨(h.renL c i).2, b, d, h.at_ _ _ _ e1, fun j v hj => ?_⟩
    rw [(h.ren v (InL_get i hj)).1, ← e2 j v hj]
    simp only [World.cell?, hb b ⟨_, _, e1⟩]
  | grow c e sz lens valid =>
    obtain ⟨i, h1, h2, hgen, h3⟩ := k
    obtain ⟨er, ir⟩ := h.renL c i
    refine ⟨ir, h1, h2, fun g p e => hgen g p (hJ _ _ e), fun g hg hl => ?_⟩
    obtain ⟨b, C, e1, e2, e3, e4, e5, e6⟩ := h3 g hg hl
    refine ⟨b, C, h.at_ _ _ _ e1, by rw [h.base]; exact e2, by rw [hb b ⟨_, _, e1⟩, e3], e4, ?_, by rw [er]; exact e6⟩
    rw [h.cap _ _ _ e1]; exact e5
  | map es clock =>
    obtain ⟨i, b, e1, e2, e3⟩ := k
    refine ⟨fun e he => ((i e he).le h).1, b, h.at_ _ _ _ e1, by rw [h.base]; exact e2, ?_⟩
    rw [hb b ⟨_, _, e1⟩, e3]
    congr 3
    exact List.map_congr_left fun e he => ((i e he).le h).2.symm
  | loop l =>
    obtain ⟨b, tmps, db, fn, e1, e2, e3, e5⟩ := k
    exact ⟨b, tmps, db, fn, h.at_ _ _ _ e1, by rw [h.base]; exact e2, e3.le h, by rw [hb b ⟨_, _, e1⟩, e5]⟩
  | defers =>
    obtain ⟨b, e1, e2, e3⟩ := k
    exact ⟨b, h.at_ _ _ _ e1, by rw [h.base]; exact e2, by rw [hb b ⟨_, _, e1⟩, e3]⟩
  | gone => trivial

end AE
