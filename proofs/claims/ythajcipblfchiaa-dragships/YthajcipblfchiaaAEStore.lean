/- Stores: abstract and in a world. -/
import Derived.Test.YthajcipblfchiaaAEHeap
set_option linter.unusedVariables false
set_option linter.unusedSimpArgs false
set_option linter.unusedSectionVars false
namespace AE
open Go Go.RowKit

/-- w' is w but for block b. -/
structure But (b : Nat) (w w' : World) : Prop where
  os : w'.os = w.os
  tape : w'.tape = w.tape
  output : w'.output = w.output
  size : w'.heap.size = w.heap.size
  block : ∀ k, k ≠ b → w'.heap[k]? = w.heap[k]?

theorem But.setRow (w : World) (b : Nat) (cs : Array Value) : But b w (w.setRow b cs) := by
  refine ⟨rfl, rfl, rfl, by simp [World.setRow], fun k hk => ?_⟩
  simp only [World.setRow, Array.getElem?_modify]
  rw [if_neg (by omega)]

theorem oneCell_ren {I : Inj} {vs : List Value} (hone : vs.all Value.oneCell' = true) : ∀ v ∈ renL I vs, v.oneCell' = true := by
      intro v hv'
      rw [renL_map, List.mem_map] at hv'
      obtain ⟨u, hu, rfl⟩ := hv'
      have := List.all_eq_true.1 hone u hu
      match u with
      | .agg _ => simp [Value.oneCell'] at this
      | .tuple _ => simp [Value.oneCell'] at this
      | .pointer (some _) => simp [ren, Value.oneCell']
      | .pointer none => simp [ren, Value.oneCell']
      | .slice (some _) _ _ => simp [ren, Value.oneCell']
      | .slice none _ _ => simp [ren, Value.oneCell']
      | .map (some _) => simp [ren, Value.oneCell']
      | .map none => simp [ren, Value.oneCell']
      | .chan _ => simp [ren, Value.oneCell']
      | .func _ ⟨_⟩ ⟨_⟩ => simp [ren, Value.oneCell']
      | .iface _ _ => simp [ren, Value.oneCell']
      | .bool _ => simp [ren, Value.oneCell']
      | .int _ _ => simp [ren, Value.oneCell']
      | .float _ _ => simp [ren, Value.oneCell']
      | .complex _ _ _ => simp [ren, Value.oneCell']
      | .string _ => simp [ren, Value.oneCell']
      | .nilFunc => simp [ren, Value.oneCell']
      | .nilIface => simp [ren, Value.oneCell']
theorem heap_setRow {w : World} {b : Nat} {C : Array Value} (D : Array Value) {e : TypeId} (hb : w.heap[b]? = some (.cells C e (0, 0))) : (w.setRow b D).heap[b]? = some (.cells D e (0, 0)) := by
  simp [World.setRow, Array.getElem?_modify, hb]

theorem store_cells {P : Program} {I : Inj} {h h' : H} {lo : Nat} {w : World} {a : Addr} {vs : List Value} {row : ARow} (hg : h.get a.block = some row) (k : RowRel I a.block w row) (ha : InA I a) (hv : InL I vs) (hs : h.storeN lo a vs = some h') :
    lo ≤ a.block ∧ ∃ b row' w', renA I a = some b ∧ h' = h.put a.block row' ∧ (storeCells b (renL I vs)).run P w = .ok () w' ∧ RowRel I a.block w' row' ∧ But b.block w w' ∧ I.base ≤ b.block ∧ (∃ s, I.at_ a.block s = some (b.block, 0)) := by
  obtain ⟨p, hp⟩ := ha
  unfold H.storeN at hs
  split at hs
  · rename_i hc
    obtain ⟨hlo, hone⟩ := hc
    refine ⟨hlo, ⟨p.1, p.2 + a.off, none⟩, ?_⟩
    simp only [hg, Option.bind_some, Option.map_eq_some_iff] at hs
    obtain ⟨row', hrow, rfl⟩ := hs
    have hone' := oneCell_ren (I := I) hone
    have hheap : ∀ (b : Nat) (C D : Array Value) (e : TypeId), w.heap[b]? = some (.cells C e (0, 0)) → (w.setRow b D).heap[b]? = some (.cells D e (0, 0)) := by
      intro b C D e hb
      simp [World.setRow, Array.getElem?_modify, hb]
    cases row with
    | cells c e =>
      cases hsp : a.spot with
      | some g => rw [hsp] at hrow; simp [storeRow] at hrow
      | none =>
        rw [hsp] at hrow hp
        simp only [storeRow] at hrow
        split at hrow <;> simp at hrow
        rename_i hle
        subst hrow
        obtain ⟨i, b, e1, e2, e3⟩ := k
        rw [hp] at e1; simp at e1; subst e1
        have hrun := run_storeCells_at (P := P) b (0 + a.off) e (renL I vs) 0 ⟨renL I c⟩ w e3 (by simp; omega) hone'
        refine ⟨.cells (splice c a.off vs) e, _, by simp only [renA, hsp, hp], rfl, hrun, ⟨InL_splice i hv, b, hp, e2, ?_⟩, But.setRow _ _ _, e2, none, hp⟩
        rw [hheap b _ _ e e3, renL_splice]
        simp [splice]
    | grow c e sz lens valid =>
      cases hsp : a.spot with
      | none => rw [hsp] at hrow; simp [storeRow] at hrow
      | some g =>
        rw [hsp] at hrow hp
        simp only [storeRow] at hrow
        split at hrow <;> simp at hrow
        rename_i hle
        subst hrow
        obtain ⟨i, h1, h2, hgen, h3⟩ := k
        obtain ⟨hvl, hg1, hoff⟩ := hle
        obtain ⟨b, C, e1, e2, e3, e4, e5, e6⟩ := h3 g hvl (by omega)
        rw [hp] at e1; simp at e1; subst e1
        have hgl : glen lens g = c.length := by
          unfold glen
          rw [show lens.length - 1 - g = 0 by omega]
          cases lens with
          | nil => simp at h1
          | cons x xs => simp at h1 ⊢; exact h1
        have hlr : (renL I vs).length = vs.length := by simp
        have hrun := run_storeCells_at (P := P) b (0 + a.off) e (renL I vs) 0 C w e3 (by rw [hlr]; omega) hone'
        refine ⟨.grow (splice c a.off vs) e sz lens g, _, by simp only [renA, hsp, hp], rfl, hrun, ⟨InL_splice i hv, ?_, ?_, hgen, ?_⟩, But.setRow _ _ _, e2, some g, hp⟩
        · rw [h1, splice_length hoff]
        · rw [splice_length hoff]; exact h2
        · intro g' hg' hlt
          obtain rfl : g' = g := by omega
          refine ⟨b, _, hp, e2, hheap b _ _ e e3, ?_, ?_, ?_⟩
          · simp [hlr]; omega
          · have : (C.toList.take (0 + a.off + 0) ++ renL I vs ++ C.toList.drop (0 + a.off + 0 + (renL I vs).length)).toArray.size = C.size := by
              simp [hlr]; omega
            rw [this]; exact e5
          · intro j hj
            rw [hgl] at hj
            have e6' : ∀ j, j < c.length → C.toList[j]? = (renL I c)[j]? := fun j hj => by rw [Array.getElem?_toList]; exact e6 j (by omega)
            rw [renL_splice]
            simp only [List.getElem?_toArray, splice, List.append_assoc, List.getElem?_append, List.getElem?_take, List.getElem?_drop, List.length_take, hlr, renL_length, Array.length_toList, Nat.zero_add, Nat.add_zero]
            have m1 : min a.off C.size = a.off := by omega
            have m2 : min a.off c.length = a.off := by omega
            rw [m1, m2]
            by_cases h7 : j < a.off
            · simp [h7, e6 j (by omega)]
            · by_cases h8 : j - a.off < vs.length
              · simp [h7, h8]
              · simp [h7, h8, e6 (a.off + vs.length + (j - a.off - vs.length)) (by omega)]
    | ro c => simp [storeRow] at hrow
    | map es cl => simp [storeRow] at hrow
    | loop l => simp [storeRow] at hrow
    | defers => simp [storeRow] at hrow
    | gone => simp [storeRow] at hrow
  · simp at hs


theorem Rel.clean_put {I : Inj} {h : H} {w : World} {r : Nat} {row : ARow} (k : Rel I h w) (hd : I.dom r) : ∀ r', (h.put r row).next ≤ r' → (h.put r row).get r' = none := by
  intro r' hr'
  have hlt := k.lt r hd
  simp only [H.put] at hr' ⊢
  rw [if_neg (by omega)]
  exact k.clean r' hr'
/-- A store into a row of the own, seen from the whole heap. -/
theorem Rel.store {I : Inj} {h : H} {w w' : World} {r b : Nat} {row : ARow} (k : Rel I h w) (hb : I.base ≤ b) (hr : ∃ s, I.at_ r s = some (b, 0)) (hw : But b w w') (hrow : RowRel I r w' row) : Rel I (h.put r row) w' := by
  obtain ⟨s0, hs0⟩ := hr
  refine ⟨fun r' row' e d => ?_, k.lt, fun r' s b' d e => by rw [hw.size]; exact k.size _ _ _ _ e, by rw [hw.size]; exact k.base, k.inj, k.clean_put ⟨_, _, hs0⟩⟩
  simp only [H.put] at e
  split at e
  · rename_i hrr
    simp at e; subst hrr; subst e; exact hrow
  · rename_i hrr
    refine (k.rows r' row' e d).le (Le.refl I) (fun _ _ e => e) (fun b' ⟨s', d', hb'⟩ => hw.block b' (fun hbb => ?_))
    subst hbb
    exact hrr (k.inj _ _ _ _ _ _ _ hb' hs0 hb)
theorem But.ext {I : Inj} {lo b r : Nat} {w w' : World} {s : Option Nat} {d : Nat} (hw : But b w w') (hl : lo ≤ r) (hr : I.at_ r s = some (b, d)) (hb : I.base ≤ b) : Ext I lo w w' := by
  refine ⟨hw.os, hw.tape, hw.output, by rw [hw.size]; exact Nat.le_refl _, fun b' _ hx => hw.block b' (fun e => ?_)⟩
  subst e
  have := hx _ _ _ hr hb
  omega

section
variable {P : Program} {I : Inj} {ts : Ts} {ρ : Operand → Value}

/-- What an operation does to a heap and a world. -/
def Sim (P : Program) (I : Inj) (ρ : Operand → Value) (o : Oper) (lo nid : Nat) (h' : H) (v : Value) (w : World) : Prop :=
  ∃ J w' nx, (Grows I J w ∧ (∀ r, J.dom r → I.dom r ∨ r = nid) ∧ ∀ r s p, r < lo → J.at_ r s = some p → I.at_ r s = some p) ∧ Rel J h' w' ∧ In J v ∧ Ext I lo w w' ∧ (execOp ρ o).run P w = .ok nx w' ∧ (nx = .value (ren J v) ∨ (nx = .skip ∧ v = undef))

theorem run_store_op (hρ : Ev I ts ρ) {o : Oper} {t : TypeId} {n lo : Nat} {x y : Operand} {x' y' : Opd} {h h' : H} {w : World} {v : Value} (ho : o.op = .store t x y) (hn : sizeT P t = some n) (hx : cOpd x = some x') (hy : cOpd y = some y')
    (hv : xStore lo n (cellsL (ev ts y')) h (ev ts x') = some (v, h')) (k : ∀ a row, ev ts x' = .pointer (some a) → h.get a.block = some row → RowRel I a.block w row) :
    ∃ a b row' w', ev ts x' = .pointer (some a) ∧ lo ≤ a.block ∧ v = undef ∧ h' = h.put a.block row' ∧ RowRel I a.block w' row' ∧ But b w w' ∧ I.base ≤ b ∧ (∃ s, I.at_ a.block s = some (b, 0)) ∧ (execOp ρ o).run P w = .ok .skip w' := by
  obtain ⟨e1, i1⟩ := hρ x x' hx
  obtain ⟨e2, i2⟩ := hρ y y' hy
  unfold xStore at hv
  split at hv
  · rename_i a ha
    rw [ha] at e1 i1
    split at hv <;> simp only [Option.map_eq_some_iff, Prod.mk.injEq, reduceCtorEq] at hv
    rename_i hlen
    obtain ⟨h'', hs, rfl, rfl⟩ := hv
    cases hg : h.get a.block with
    | none =>
      unfold H.storeN at hs
      rw [hg] at hs
      split at hs <;> simp at hs
    | some row =>
      obtain ⟨hlo, b, row', w', hb, rfl, hrun, hrow, hbut, hbase, hat⟩ := store_cells (P := P) hg (k a row ha hg) (by simpa [In] using i1) (InL_cellsL i2) hs
      refine ⟨a, b.block, row', w', ha, hlo, rfl, rfl, hrow, hbut, hbase, hat, ?_⟩
      have hlen' : (⟨renL I (cellsL (ev ts y'))⟩ : Array Value).size = n := by simp [hlen]
      simp only [execOp, ho, e1, e2, ren, hb, Instr.storeAt, Instr.sureAddr, storeVar, Sem.run_bind, Sem.run_pure, Result.andThen_ok, run_sizeT hn, cells_eq, cellsL_ren, hlen', ne_eq, not_true_eq_false, if_false, hrun]
  · simp at hv

end
end AE
