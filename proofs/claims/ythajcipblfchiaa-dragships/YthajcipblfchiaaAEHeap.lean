/- New rows, loads and stores: abstract and in a world. -/
import Derived.Test.YthajcipblfchiaaAERel
import Derived.Laws.CopyRow
set_option linter.unusedVariables false
set_option linter.unusedSimpArgs false
set_option linter.unusedSectionVars false
namespace AE
open Go Go.RowKit

/-- A row more (or a generation). -/
def Inj.plus (I : Inj) (r : Nat) (s : Option Nat) (b c : Nat) : Inj :=
  ⟨fun r' s' => if r' = r ∧ s' = s then some (b, 0) else I.at_ r' s', fun r' g => if r' = r ∧ s = some g then c else I.cap r' g, I.base⟩

theorem Inj.plus_at (I : Inj) (r : Nat) (s : Option Nat) (b c : Nat) : (I.plus r s b c).at_ r s = some (b, 0) := by simp [Inj.plus]
theorem Inj.plus_old {I : Inj} {r : Nat} {s : Option Nat} {b c r' : Nat} {s' : Option Nat} (h : ¬ (r' = r ∧ s' = s)) : (I.plus r s b c).at_ r' s' = I.at_ r' s' := by simp only [Inj.plus, if_neg h]
theorem Le.plus {I : Inj} {r : Nat} {s : Option Nat} {b c : Nat} (h : I.at_ r s = none) : Le I (I.plus r s b c) := by
  refine ⟨fun r' s' p e => ?_, fun r' g p e => ?_, rfl⟩
  · rw [Inj.plus_old]; exact e
    rintro ⟨rfl, rfl⟩
    rw [h] at e; cases e
  · simp only [Inj.plus]
    rw [if_neg]
    rintro ⟨rfl, rfl⟩
    rw [h] at e; cases e
theorem Inj.plus_dom {I : Inj} {r : Nat} {s : Option Nat} {b c r' : Nat} (h : (I.plus r s b c).dom r') : I.dom r' ∨ r' = r := by
  obtain ⟨s', p, e⟩ := h
  by_cases hr : r' = r
  · exact .inr hr
  · rw [Inj.plus_old (fun h => hr h.1)] at e
    exact .inl ⟨s', p, e⟩
theorem dom_none {I : Inj} {r : Nat} (h : ¬ I.dom r) (s : Option Nat) : I.at_ r s = none := by
  cases e : I.at_ r s with
  | none => rfl
  | some p => exact absurd ⟨s, p, e⟩ h

theorem heap_alloc (w : World) (o : Obj) : (w.alloc o).heap[w.heap.size]? = some o := by show (w.heap.push o)[w.heap.size]? = _; simp
theorem heap_alloc_old (w : World) (o : Obj) {b : Nat} (h : b < w.heap.size) : (w.alloc o).heap[b]? = w.heap[b]? := by
  show (w.heap.push o)[b]? = _
  rw [Array.getElem?_push, if_neg (by omega)]
theorem Ext.alloc (I : Inj) (lo : Nat) (w : World) (o : Obj) : Ext I lo w (w.alloc o) := by
  refine ⟨rfl, rfl, rfl, by simp, fun b hb _ => heap_alloc_old w o hb⟩

theorem Grows.plus {I : Inj} {w : World} {r : Nat} {s : Option Nat} {b c : Nat} (h : I.at_ r s = none) (hb : w.heap.size ≤ b ∨ ∃ s', I.at_ r s' = some (b, 0)) : Grows I (I.plus r s b c) w := by
  refine ⟨Le.plus h, fun r' s' b' d e => ?_⟩
  by_cases hr : r' = r ∧ s' = s
  · obtain ⟨rfl, rfl⟩ := hr
    rw [Inj.plus_at] at e
    simp at e
    obtain ⟨rfl, rfl⟩ := e
    exact .inr hb
  · rw [Inj.plus_old hr] at e
    exact .inl e

theorem Inj.plus_lo {I : Inj} {r : Nat} {s : Option Nat} {b c lo : Nat} (hr : lo ≤ r) : ∀ r' s' p, r' < lo → (I.plus r s b c).at_ r' s' = some p → I.at_ r' s' = some p := fun r' s' p hl e => by
  rwa [Inj.plus_old (by omega)] at e

/-- A new row in a new block. -/
theorem Rel.new {I : Inj} {h : H} {w : World} (k : Rel I h w) {r : Nat} (hn : ¬ I.dom r) (hr : r < h.next) (s : Option Nat) (c : Nat) (o : Obj) {row : ARow} (hrow : RowRel (I.plus r s w.heap.size c) r (w.alloc o) row) :
    Rel (I.plus r s w.heap.size c) (h.put r row) (w.alloc o) := by
  have hle : Le I (I.plus r s w.heap.size c) := Le.plus (dom_none hn s)
  refine ⟨fun r' row' e d => ?_, fun r' d => ?_, fun r' s' b d e => ?_, ?_, ?_, ?_⟩
  · simp only [H.put] at e
    split at e
    · rename_i hrr
      subst hrr
      simp at e; subst e; exact hrow
    · rename_i hrr
      rcases Inj.plus_dom d with d | d
      · refine (k.rows r' row' e d).le hle (fun s' p e' => by rwa [Inj.plus_old (fun h => hrr h.1)] at e') (fun b hbo => by obtain ⟨s', d', hb⟩ := hbo; exact heap_alloc_old w o (k.size _ _ _ _ hb))
      · exact absurd d hrr
  · rcases Inj.plus_dom d with d | rfl
    · exact k.lt r' d
    · exact hr
  · by_cases hrs : r' = r ∧ s' = s
    · obtain ⟨rfl, rfl⟩ := hrs
      rw [Inj.plus_at] at e
      simp at e; simp [← e.1]
    · rw [Inj.plus_old hrs] at e
      have := k.size _ _ _ _ e
      simp; omega
  · have := k.base; simp [Inj.plus]; omega
  · intro r1 r2 s1 s2 b d d' e1 e2 hb
    by_cases h1 : r1 = r ∧ s1 = s
    · by_cases h2 : r2 = r ∧ s2 = s
      · rw [h1.1, h2.1]
      · rw [Inj.plus_old h2] at e2
        obtain ⟨rfl, rfl⟩ := h1
        rw [Inj.plus_at] at e1
        have := k.size _ _ _ _ e2
        simp at e1; omega
    · rw [Inj.plus_old h1] at e1
      by_cases h2 : r2 = r ∧ s2 = s
      · obtain ⟨rfl, rfl⟩ := h2
        rw [Inj.plus_at] at e2
        have := k.size _ _ _ _ e1
        simp at e2; omega
      · rw [Inj.plus_old h2] at e2
        exact k.inj _ _ _ _ _ _ _ e1 e2 hb
  · intro r' hr'
    simp only [H.put] at hr' ⊢
    rw [if_neg (by omega)]
    exact k.clean r' hr'

/-! ### loads -/

theorem glen_le {c : List Value} {lens : List Nat} (h : ∀ n ∈ lens, n ≤ c.length) (g : Nat) : glen lens g ≤ c.length := by
  unfold glen
  cases e : lens[lens.length - 1 - g]? with
  | none => simp
  | some n => simpa using h n (List.mem_of_getElem? e)

theorem load_cells {I : Inj} {h : H} {w : World} {a : Addr} {n : Nat} {l : List Value} {row : ARow} (hg : h.get a.block = some row) (k : RowRel I a.block w row) (ha : InA I a) (hl : h.loadN a n = some l) :
    ∃ b, renA I a = some b ∧ b.spot = none ∧ InL I l ∧ l.length = n ∧ ∀ j v, l[j]? = some v → w.cell? (b.add j) = some (ren I v) := by
  obtain ⟨p, hp⟩ := ha
  refine ⟨⟨p.1, p.2 + a.off, none⟩, by simp only [renA, hp], rfl, ?_⟩
  have hadd : ∀ j, (⟨p.1, p.2 + a.off, none⟩ : Addr).add j = ⟨p.1, p.2 + a.off + j, none⟩ := fun j => by
    unfold Addr.add; split <;> simp_all
  simp only [hadd]
  simp only [H.loadN, hg, Option.bind_some] at hl
  have fin : ∀ (c : List Value) (w' : Nat → Option Value), InL I c → cut c a.off n = some l → (∀ i v, c[i]? = some v → i < a.off + n → w' i = some (ren I v)) →
      InL I l ∧ l.length = n ∧ ∀ j v, l[j]? = some v → w' (a.off + j) = some (ren I v) := by
    intro c w' hi hc hw
    refine ⟨InL_cut hi hc, ?_, fun j v hj => ?_⟩
    · obtain ⟨h1, rfl⟩ := cut_some hc
      simp; omega
    · obtain ⟨h1, rfl⟩ := cut_some hc
      rw [List.getElem?_take] at hj
      split at hj
      · rw [List.getElem?_drop] at hj
        exact hw _ v hj (by omega)
      · simp at hj
  cases row with
  | cells c e =>
    cases hs : a.spot with
    | some g => rw [hs] at hl; simp [loadRow] at hl
    | none =>
      rw [hs] at hl hp
      obtain ⟨i, b, e1, e2, e3⟩ := k
      rw [hp] at e1; simp at e1; subst e1
      obtain ⟨f1, f2, f3⟩ := fin c (fun i => w.cell? ⟨b, i, none⟩) i hl (fun i v hv _ => by
        simp only [World.cell?, e3]
        simp [renL_getElem?, hv])
      exact ⟨f1, f2, fun j v hj => by simpa using f3 j v hj⟩
  | ro c =>
    cases hs : a.spot with
    | some g => rw [hs] at hl; simp [loadRow] at hl
    | none =>
      rw [hs] at hl hp
      obtain ⟨i, b, d, e1, e2⟩ := k
      rw [hp] at e1; simp at e1; subst e1
      obtain ⟨f1, f2, f3⟩ := fin c (fun i => w.cell? ⟨b, d + i, none⟩) i hl (fun i v hv _ => e2 i v hv)
      exact ⟨f1, f2, fun j v hj => by simpa [Nat.add_assoc] using f3 j v hj⟩
  | grow c e sz lens valid =>
    cases hs : a.spot with
    | none => rw [hs] at hl; simp [loadRow] at hl
    | some g =>
      rw [hs] at hl hp
      simp only [loadRow] at hl
      split at hl
      · rename_i hc
        obtain ⟨i, h1, h2, hgen, h3⟩ := k
        obtain ⟨b, C, e1, e2, e3, e4, e5, e6⟩ := h3 g hc.1 hc.2.1
        rw [hp] at e1; simp at e1; subst e1
        obtain ⟨f1, f2, f3⟩ := fin c (fun i => w.cell? ⟨b, i, none⟩) i hl (fun i v hv hi => by
          simp only [World.cell?, e3]
          simp [e6 i (by omega), renL_getElem?, hv])
        exact ⟨f1, f2, fun j v hj => by simpa using f3 j v hj⟩
      · simp at hl
  | map es cl => simp [loadRow] at hl
  | loop l => simp [loadRow] at hl
  | defers => simp [loadRow] at hl
  | gone => simp [loadRow] at hl

theorem run_loadCells_ren {P : Program} {I : Inj} {w : World} {b : Addr} {l : List Value} (h : ∀ j v, l[j]? = some v → w.cell? (b.add j) = some (ren I v)) :
    (loadCells b l.length).run P w = .ok ⟨renL I l⟩ w := by
  have := run_loadCells_list (P := P) w b (renL I l) (fun j v hj => by
    rw [renL_getElem?, Option.map_eq_some_iff] at hj
    obtain ⟨u, hu, rfl⟩ := hj
    exact h j u hu)
  simpa using this

section
variable {P : Program} {I : Inj} {ts : Ts} {ρ : Operand → Value}

/-- A load of one cell. -/
theorem run_load1 (hρ : Ev I ts ρ) {o : Oper} {t : TypeId} {x : Operand} {x' : Opd} {h : H} {w : World} {v : Value} (ho : o.op = .load t x) (ht : isAggT P t = some false) (hx : cOpd x = some x')
    (hv : xLoad1 h (ev ts x') = some v) (k : ∀ a row, ev ts x' = .pointer (some a) → h.get a.block = some row → RowRel I a.block w row) : In I v ∧ (execOp ρ o).run P w = .ok (.value (ren I v)) w := by
  obtain ⟨e, i⟩ := hρ x x' hx
  unfold xLoad1 at hv
  split at hv
  · rename_i a ha
    rw [ha] at e i
    simp only [Option.bind_eq_some_iff] at hv
    obtain ⟨l, hl, hv⟩ := hv
    cases hg : h.get a.block with
    | none => simp [H.loadN, hg] at hl
    | some row =>
      obtain ⟨b, hb, hbs, il, hlen, hcell⟩ := load_cells hg (k a row ha hg) (by simpa [In] using i) hl
      have h0 : l[0]? = some v := by simpa using hv
      have hc := hcell 0 v h0
      have hb0 : b.add 0 = b := rfl
      rw [hb0] at hc
      refine ⟨InL_get il h0, ?_⟩
      simp [execOp, ho, e, ren, hb, Instr.loadAt, Instr.sureAddr, loadVar, run_isAggT ht, hc]
  · simp at hv
theorem run_loadn (hρ : Ev I ts ρ) {o : Oper} {t : TypeId} {n : Nat} {x : Operand} {x' : Opd} {h : H} {w : World} {v : Value} (ho : o.op = .load t x) (ht : isAggT P t = some true) (hn : sizeT P t = some n) (hx : cOpd x = some x')
    (hv : xLoadn n h (ev ts x') = some v) (k : ∀ a row, ev ts x' = .pointer (some a) → h.get a.block = some row → RowRel I a.block w row) : In I v ∧ (execOp ρ o).run P w = .ok (.value (ren I v)) w := by
  obtain ⟨e, i⟩ := hρ x x' hx
  unfold xLoadn at hv
  split at hv
  · rename_i a ha
    rw [ha] at e i
    simp only [Option.map_eq_some_iff] at hv
    obtain ⟨l, hl, rfl⟩ := hv
    cases hg : h.get a.block with
    | none => simp [H.loadN, hg] at hl
    | some row =>
      obtain ⟨b, hb, hbs, il, hlen, hcell⟩ := load_cells hg (k a row ha hg) (by simpa [In] using i) hl
      have hc := run_loadCells_ren (P := P) hcell
      rw [hlen] at hc
      refine ⟨by simpa only [In] using il, ?_⟩
      simp [execOp, ho, e, ren, hb, Instr.loadAt, Instr.sureAddr, loadVar, run_isAggT ht, run_sizeT hn, hc]
  · simp at hv

/-! ### fresh rows -/

/-- An operation that lays one new block and writes nothing else. -/
def Fresh (P : Program) (I : Inj) (ρ : Operand → Value) (o : Oper) (nid : Nat) (h h' : H) (v : Value) : Prop :=
  ∃ row, h' = h.put nid row ∧ ∀ w, I.base ≤ w.heap.size → ¬ I.dom nid → ∃ ob, (execOp ρ o).run P w = .ok (.value (ren (I.plus nid none w.heap.size 0) v)) (w.alloc ob) ∧
    In (I.plus nid none w.heap.size 0) v ∧ RowRel (I.plus nid none w.heap.size 0) nid (w.alloc ob) row

theorem fresh_cells {nid : Nat} {w : World} {c : List Value} {e : TypeId} (hc : InL I c) (hb : I.base ≤ w.heap.size) (hn : ¬ I.dom nid) :
    RowRel (I.plus nid none w.heap.size 0) nid (w.alloc (.cells ⟨renL I c⟩ e)) (.cells c e) := by
  have hle : Le I (I.plus nid none w.heap.size 0) := Le.plus (dom_none hn none)
  obtain ⟨e1, i1⟩ := hle.renL c hc
  exact ⟨i1, w.heap.size, Inj.plus_at .., hb, by rw [heap_alloc, e1]⟩
theorem ren_new {nid b : Nat} : ren (I.plus nid none b 0) (.pointer (some ⟨nid, 0, none⟩)) = .pointer (some ⟨b, 0, none⟩) ∧ In (I.plus nid none b 0) (.pointer (some ⟨nid, 0, none⟩)) := by
  simp only [ren, In, renA, InA, Inj.plus_at]
  exact ⟨by simp, _, rfl⟩
theorem ren_newsl {nid b l c : Nat} (h : l ≤ c) : ren (I.plus nid none b 0) (.slice (some ⟨nid, 0, none⟩) l c) = .slice (some ⟨b, 0, none⟩) l c ∧ In (I.plus nid none b 0) (.slice (some ⟨nid, 0, none⟩) l c) := by
  simp only [ren, In, renA, InA, Inj.plus_at, renCap, InCap]
  exact ⟨by simp, ⟨_, rfl⟩, h⟩

theorem fresh_alloc {o : Oper} {e : TypeId} {z : Value} {nid : Nat} {h h' : H} {v : Value} (ho : o.op = .alloc e) (hz : zflat P e = some z) (ha : newCells nid e (cellsL z) h = some (v, h')) : Fresh P I ρ o nid h h' v := by
  have hzf := (run_zflat hz default).2
  have hi : InL I (cellsL z) := InL_cellsL (flat_ren I z hzf).2
  have hrz : renL I (cellsL z) = cellsL z := by rw [← cellsL_ren, (flat_ren I z hzf).1]
  simp [newCells] at ha
  obtain ⟨rfl, rfl⟩ := ha
  refine ⟨_, rfl, fun w hb hn => ⟨.cells ⟨renL I (cellsL z)⟩ e, ?_, ren_new.2, fresh_cells hi hb hn⟩⟩
  rw [ren_new.1, hrz]
  simp [execOp, ho, Instr.alloc, (run_zflat hz w).1, newVar, newRow, cells_eq]
theorem fresh_box (hρ : Ev I ts ρ) {o : Oper} {e : TypeId} {x : Operand} {x' : Opd} {nid : Nat} {h h' : H} {v : Value} (ho : o.op = .box e x) (hx : cOpd x = some x') (ha : newCells nid e (cellsL (ev ts x')) h = some (v, h')) : Fresh P I ρ o nid h h' v := by
  obtain ⟨e1, i1⟩ := hρ x x' hx
  simp [newCells] at ha
  obtain ⟨rfl, rfl⟩ := ha
  refine ⟨_, rfl, fun w hb hn => ⟨.cells ⟨renL I (cellsL (ev ts x'))⟩ e, ?_, ren_new.2, fresh_cells (InL_cellsL i1) hb hn⟩⟩
  rw [ren_new.1]
  simp [execOp, ho, e1, Instr.box, newVar, newRow, cells_eq, cellsL_ren]
theorem reps_flat {z : List Value} (hz : flatL z = true) : ∀ n, flatL (reps z n) = true
  | 0 => rfl
  | n + 1 => by
    have : ∀ a b : List Value, flatL a = true → flatL b = true → flatL (a ++ b) = true := by
      intro a b h1 h2
      induction a with
      | nil => exact h2
      | cons x xs ih => simp only [List.cons_append, flatL, Bool.and_eq_true] at *; exact ⟨h1.1, ih h1.2⟩
    exact this _ _ hz (reps_flat hz n)
theorem reps_length (z : List Value) : ∀ n, (reps z n).length = n * z.length
  | 0 => by simp [reps]
  | n + 1 => by simp [reps, reps_length z n, Nat.add_mul]; omega
theorem reps_get {z : List Value} : ∀ (n i : Nat), i < n * z.length → (reps z n)[i]? = z[i % z.length]?
  | 0, i, h => by simp at h
  | n + 1, i, h => by
    have hz : 0 < z.length := by
      rcases Nat.eq_zero_or_pos z.length with h0 | h0
      · rw [h0] at h; simp at h
      · exact h0
    simp only [reps, List.getElem?_append]
    by_cases hi : i < z.length
    · rw [if_pos hi, Nat.mod_eq_of_lt hi]
    · have h' : i < n * z.length + 1 * z.length := by rw [← Nat.add_mul]; exact h
      rw [if_neg hi, reps_get n _ (by omega)]
      congr 1
      exact (Nat.mod_eq_sub_mod (by omega)).symm
theorem reps_eq (z : List Value) (n m : Nat) (hm : m = n * z.length) : (Array.range m).map (fun i => (⟨z⟩ : Array Value)[i % (⟨z⟩ : Array Value).size]!) = ⟨reps z n⟩ := by
  apply Array.ext'
  simp only [Array.toList_map, Array.toList_range]
  apply List.ext_getElem?
  intro i
  simp only [List.getElem?_map]
  by_cases hi : i < m
  · have hz : 0 < z.length := by
      rcases Nat.eq_zero_or_pos z.length with h0 | h0
      · rw [hm, h0] at hi; simp at hi
      · exact h0
    rw [reps_get n i (by omega)]
    have hlt := Nat.mod_lt i hz
    simp [hi, hlt]
  · simp [hi, List.getElem?_eq_none (show (reps z n).length ≤ i by rw [reps_length]; omega)]

theorem fresh_bslice (hρ : Ev I ts ρ) {o : Oper} {t e : TypeId} {len : Nat} {parts : Array (Nat × Operand)} {ie : TypeInfo} {z : Value} {ps : List (Nat × Nat × Opd)} {nid : Nat} {h h' : H} {v : Value} (ho : o.op = .buildSlice t len parts)
    (ht : P.underlying t = some (.slice e)) (hi : P.info? e = some ie) (hz : zflat P e = some z) (h24 : len * ie.size ≤ 2 ^ 24) (h0 : ie.size ≠ 0) (hzl : (cellsL z).length = ie.size)
    (hps : cParts (fun i => some (i * ie.size, ie.size)) parts.toList = some ps) (ha : (afill ts (reps (cellsL z) len) ps).map (fun cs => (Value.slice (some ⟨nid, 0, none⟩) len len, h.put nid (.cells cs e))) = some (v, h')) : Fresh P I ρ o nid h h' v := by
  have hzf := (run_zflat hz default).2
  have hzL : flatL (cellsL z) = true := by
    cases z <;> simp_all [cellsL, flatL, flat]
  obtain ⟨er, ir⟩ := flat_renL I _ (reps_flat hzL len)
  simp only [Option.map_eq_some_iff, Prod.mk.injEq] at ha
  obtain ⟨cs, hcs, rfl, rfl⟩ := ha
  obtain ⟨f1, f2⟩ := run_fill hρ _ _ _ _ _ hps hcs ir
  rw [er] at f1
  have hs : sizeT P e = some ie.size := by simp [sizeT, hi]
  refine ⟨_, rfl, fun w hb hn => ⟨.cells ⟨renL I cs⟩ e, ?_, (ren_newsl (Nat.le_refl _)).2, fresh_cells f2 hb hn⟩⟩
  rw [(ren_newsl (Nat.le_refl _)).1]
  have h24' : ¬ (len * ie.size > 16777216) := by omega
  have hrep := reps_eq (cellsL z) len (len * ie.size) (by rw [hzl])
  by_cases hl : len = 0
  · subst hl
    simp only [reps] at f1
    have hr0 : ∀ f : Nat → Value, Array.map f (Array.range 0) = ⟨[]⟩ := fun f => by simp [Array.range]
    simp [execOp, ho, Instr.buildSlice, run_underlying ht, run_sizeT hs, hr0, newRow] at f1 ⊢
    simp [f1]
  · have hne : ¬ (len * ie.size = 0) := by
      rw [Nat.mul_eq_zero]; omega
    simp only [execOp, ho, Instr.buildSlice, Sem.run_bind, run_underlying ht, Result.andThen_ok, run_sizeT hs]
    rw [if_neg (by simpa using h24')]
    simp only [hne, if_false, Sem.run_bind, (run_zflat hz w).1, Result.andThen_ok, Sem.run_pure, cells_eq]
    rw [hrep]
    simp [f1, newRow]
theorem fresh_mkmap {o : Oper} {t : TypeId} {nid : Nat} {h h' : H} {v : Value} (ho : o.op = .makeMap t none) (ha : some (Value.map (some nid), h.put nid (.map [] 0)) = some (v, h')) : Fresh P I ρ o nid h h' v := by
  simp at ha
  obtain ⟨rfl, rfl⟩ := ha
  refine ⟨_, rfl, fun w hb hn => ⟨.map #[] 0, ?_, ?_, ?_⟩⟩
  · simp [execOp, ho, Instr.makeMap, ren, Inj.blk, Inj.plus_at]
  · simp only [In, InR]; exact ⟨_, Inj.plus_at ..⟩
  · exact ⟨by simp, w.heap.size, Inj.plus_at .., hb, by rw [heap_alloc]; rfl⟩
theorem fresh_mkslice (hρ : Ev I ts ρ) {o : Oper} {t e : TypeId} {x y : Operand} {x' y' : Opd} {ie : TypeInfo} {z : Value} {nid : Nat} {h h' : H} {v : Value} (ho : o.op = .makeSlice t x y) (ht : P.underlying t = some (.slice e)) (hi : P.info? e = some ie)
    (hz : zflat P e = some z) (h0 : ie.size ≠ 0) (hzl : (cellsL z).length = ie.size) (hx : cOpd x = some x') (hy : cOpd y = some y')
    (ha : xMkslice nid (cellsL z) ie.bytes e h (natOf? (ev ts x')) (natOf? (ev ts y')) = some (v, h')) : Fresh P I ρ o nid h h' v := by
  have hzf := (run_zflat hz default).2
  have hzL : flatL (cellsL z) = true := by
    cases z <;> simp_all [cellsL, flatL, flat]
  obtain ⟨e1, -⟩ := hρ x x' hx
  obtain ⟨e2, -⟩ := hρ y y' hy
  unfold xMkslice at ha
  split at ha
  · rename_i l c hl hc
    split at ha <;> simp at ha
    rename_i hb
    obtain ⟨rfl, rfl⟩ := ha
    obtain ⟨k1, r1⟩ := natOf_ren (I := I) hl
    obtain ⟨k2, r2⟩ := natOf_ren (I := I) hc
    rw [r1] at e1
    rw [r2] at e2
    obtain ⟨er, ir⟩ := flat_renL I _ (reps_flat hzL c)
    have hs : sizeT P e = some ie.size := by simp [sizeT, hi]
    have hbig : c < 2 ^ 40 ∧ ie.bytes * c ≤ 2 ^ 40 := by
      have h1 := hb.2
      have h2 : (c + 1) * (ie.bytes + 1) = ie.bytes * c + c + ie.bytes + 1 := by rw [Nat.add_mul, Nat.mul_add, Nat.mul_comm c]; omega
      omega
    refine ⟨_, rfl, fun w hbs hn => ⟨.cells ⟨renL I (reps (cellsL z) c)⟩ e, ?_, (ren_newsl hb.1).2, fresh_cells ir hbs hn⟩⟩
    rw [(ren_newsl hb.1).1]
    have hw : ∀ m : Nat, m < 2 ^ 40 → IntKind.i64.wrap (m : Int) = (m : Int) := fun m hm => by
      have h64 : (2 : Int) ^ 64 = 18446744073709551616 := by decide
      have h63 : (2 : Int) ^ 63 = 9223372036854775808 := by decide
      simp only [IntKind.wrap, IntKind.bits, IntKind.signed, h64, h63]
      rw [Int.emod_eq_of_lt (by omega) (by omega), if_neg (by simp; omega)]
    have hl40 : l < 2 ^ 40 := by omega
    have hrep := reps_eq (cellsL z) c (c * ie.size) (by rw [hzl])
    simp only [execOp, ho, Instr.makeSlice, Sem.run_bind, run_underlying ht, Result.andThen_ok, e1, e2, asInt, asIntOf, Sem.run_pure, run_typeInfo _ hi, hw l hl40, hw c hbig.1]
    rw [if_neg (by simp; omega)]
    simp only [Sem.run_bind, run_askRoom, Result.andThen_ok, run_sizeT hs, Int.toNat_natCast]
    by_cases hc0 : c = 0
    · subst hc0
      have hr0 : ∀ f : Nat → Value, Array.map f (Array.range 0) = ⟨[]⟩ := fun f => by simp [Array.range]
      simp [hr0, newRow, reps, renL]
    · have hne : ¬ (c * ie.size = 0) := by
        rw [Nat.mul_eq_zero]; omega
      rw [if_neg hne]
      simp only [Sem.run_bind, (run_zflat hz w).1, Result.andThen_ok, Sem.run_pure, cells_eq]
      rw [hrep, er]
      simp [newRow]
  · simp at ha


theorem cBin_kind {o : Oper} {op : BinOp} {t : TypeId} {x y : Operand} {ao : AOp} (hc : cBin P o op t x y = some ao) : ao.fresh = false ∧ ao.light = true := by
  unfold cBin at hc
  simp only [Option.bind_eq_some_iff] at hc
  obtain ⟨x', hx, y', hy, hc⟩ := hc
  repeat' split at hc
  all_goals (simp at hc; subst hc; exact ⟨rfl, rfl⟩)
theorem cCall_kind {o : Oper} {c : Call} {ao : AOp} (hc : cCall P o c = some (.op ao)) (hl : ao.light = true) : ao.fresh = false := by
  unfold cCall at hc
  split at hc
  · simp only [Option.bind_eq_some_iff, Option.map_eq_some_iff] at hc
    obtain ⟨_, _, _, _, hc⟩ := hc
    simp at hc
  · simp at hc
  · split at hc
    · simp only [Option.bind_eq_some_iff] at hc
      obtain ⟨x', hx', hc⟩ := hc
      split at hc <;> simp at hc <;> subst hc <;> rfl
    · simp only [Option.bind_eq_some_iff] at hc
      obtain ⟨x', hx', y', hy', hc⟩ := hc
      split at hc
      · split at hc
        · simp at hc
        · simp only [Option.bind_eq_some_iff] at hc
          obtain ⟨ie, _, z, _, hc⟩ := hc
          split at hc <;> simp at hc
          subst hc; simp [AOp.light] at hl
        · simp at hc
      · simp only [Option.map_eq_some_iff] at hc
        obtain ⟨s, _, hc⟩ := hc
        simp at hc; subst hc; rfl
      all_goals first
        | (simp at hc; done)
        | (simp at hc; subst hc; rfl)
    · split at hc
      all_goals first
        | (simp at hc; done)
        | (simp only [Option.map_eq_some_iff] at hc
           obtain ⟨ys, hys, hc⟩ := hc
           simp at hc; subst hc; rfl)

theorem aop_fresh (hρ : Ev I ts ρ) {o : Oper} {ao : AOp} {lo nid : Nat} {h h' : H} {v : Value} (hc : comp P o = some (.op ao)) (hl : ao.light = true) (hf : ao.fresh = true)
    (ha : aop P lo nid ts h ao = some (v, h')) : Fresh P I ρ o nid h h' v := by
  unfold comp at hc
  cases ho : o.op <;> rw [ho] at hc <;> simp only [Option.bind_eq_some_iff, Option.map_eq_some_iff, reduceCtorEq] at hc
  case alloc e => obtain ⟨z, hz, hc⟩ := hc; simp at hc; subst hc; exact fresh_alloc ho hz ha
  case box e x => obtain ⟨x', hx, hc⟩ := hc; simp at hc; subst hc; exact fresh_box hρ ho hx ha
  case buildSlice t len parts =>
    split at hc
    · rename_i e ht
      simp only [Option.bind_eq_some_iff] at hc
      obtain ⟨ie, hi, z, hz, hc⟩ := hc
      split at hc
      · rename_i hb
        simp only [Option.map_eq_some_iff] at hc
        obtain ⟨ps, hps, hc⟩ := hc
        simp at hc; subst hc
        exact fresh_bslice hρ ho ht hi hz hb.1 hb.2.1 hb.2.2 hps ha
      · simp at hc
    · simp at hc
  case makeMap t r => cases r <;> simp at hc; subst hc; exact fresh_mkmap ho ha
  case makeSlice t l c =>
    split at hc
    · rename_i e ht
      simp only [Option.bind_eq_some_iff] at hc
      obtain ⟨ie, hi, z, hz, hc⟩ := hc
      split at hc
      · rename_i hb
        simp only [Option.bind_eq_some_iff, Option.map_eq_some_iff] at hc
        obtain ⟨l', hl', c', hc', hc⟩ := hc
        simp at hc; subst hc
        exact fresh_mkslice hρ ho ht hi hz hb.1 hb.2 hl' hc' ha
      · simp at hc
    · simp at hc
  case binOp op t x y t' =>
    obtain ⟨ao', hb, hc⟩ := hc
    simp at hc; subst hc
    rw [(cBin_kind hb).1] at hf; cases hf
  case call c => rw [cCall_kind hc hl] at hf; cases hf
  case move => obtain ⟨_, _, hc⟩ := hc; simp at hc; subst hc; simp [AOp.fresh] at hf
  case assign => obtain ⟨_, _, hc⟩ := hc; simp at hc; subst hc; simp [AOp.fresh] at hf
  case pick => obtain ⟨_, _, _, _, _, _, hc⟩ := hc; simp at hc; subst hc; simp [AOp.fresh] at hf
  case build =>
    obtain ⟨_, _, hc⟩ := hc
    split at hc
    · split at hc
      · simp only [Option.map_eq_some_iff] at hc
        obtain ⟨_, _, hc⟩ := hc; simp at hc; subst hc; simp [AOp.fresh] at hf
      · simp at hc
    · simp only [Option.bind_eq_some_iff, Option.map_eq_some_iff] at hc
      obtain ⟨_, _, _, _, hc⟩ := hc; simp at hc; subst hc; simp [AOp.fresh] at hf
    · simp at hc
  case load =>
    obtain ⟨_, _, hc⟩ := hc
    split at hc
    · simp only [Option.map_eq_some_iff] at hc
      obtain ⟨_, _, hc⟩ := hc; simp at hc; subst hc; simp [AOp.fresh] at hf
    · simp at hc; subst hc; simp [AOp.fresh] at hf
    · simp at hc
  case store => obtain ⟨_, _, _, _, _, _, hc⟩ := hc; simp at hc; subst hc; simp [AOp.fresh] at hf
  case nilCheck => obtain ⟨_, _, hc⟩ := hc; simp at hc; subst hc; simp [AOp.fresh] at hf
  case unOp =>
    obtain ⟨_, _, hc⟩ := hc
    split at hc <;> (simp at hc; subst hc; simp [AOp.fresh] at hf)
  case convert =>
    obtain ⟨_, _, hc⟩ := hc
    split at hc <;> (simp at hc; subst hc; simp [AOp.fresh] at hf)
  case makeInterface =>
    split at hc
    · simp at hc
    · simp only [Option.map_eq_some_iff] at hc
      obtain ⟨_, _, hc⟩ := hc; simp at hc; subst hc; simp [AOp.fresh] at hf
    · simp at hc
  case makeFunc =>
    split at hc
    · simp only [Option.bind_eq_some_iff, Option.map_eq_some_iff] at hc
      obtain ⟨_, _, _, _, hc⟩ := hc; simp at hc; subst hc; simp [AOp.fresh] at hf
    · simp at hc
  case slice =>
    obtain ⟨_, _, _, _, _, _, _, _, hc⟩ := hc
    split at hc
    · simp at hc
    · split at hc
      · simp only [Option.map_eq_some_iff] at hc
        obtain ⟨_, _, hc⟩ := hc; simp at hc; subst hc; simp [AOp.fresh] at hf
      · simp only [Option.map_eq_some_iff] at hc
        obtain ⟨_, _, hc⟩ := hc; simp at hc; subst hc; simp [AOp.fresh] at hf
      · simp at hc; subst hc; simp [AOp.fresh] at hf
      · simp at hc
  case fieldAddr =>
    split at hc
    · simp only [Option.bind_eq_some_iff] at hc
      obtain ⟨_, _, _, _, hc⟩ := hc
      split at hc
      · simp at hc
      · simp only [Option.map_eq_some_iff] at hc
        obtain ⟨_, _, hc⟩ := hc; simp at hc; subst hc; simp [AOp.fresh] at hf
    · simp at hc
  case field =>
    split at hc
    · simp only [Option.bind_eq_some_iff] at hc
      obtain ⟨_, _, _, _, hc⟩ := hc
      split at hc
      · simp only [Option.map_eq_some_iff] at hc
        obtain ⟨_, _, hc⟩ := hc; simp at hc; subst hc; simp [AOp.fresh] at hf
      · simp at hc; subst hc; simp [AOp.fresh] at hf
      · simp at hc
    · simp at hc
  case indexAddr =>
    obtain ⟨_, _, _, _, hc⟩ := hc
    split at hc
    · simp only [Option.map_eq_some_iff] at hc
      obtain ⟨_, _, hc⟩ := hc; simp at hc; subst hc; simp [AOp.fresh] at hf
    · simp only [Option.map_eq_some_iff] at hc
      obtain ⟨_, _, hc⟩ := hc; simp at hc; subst hc; simp [AOp.fresh] at hf
    · simp at hc
  case index =>
    obtain ⟨_, _, _, _, hc⟩ := hc
    split at hc
    · split at hc
      · simp only [Option.map_eq_some_iff] at hc
        obtain ⟨_, _, hc⟩ := hc; simp at hc; subst hc; simp [AOp.fresh] at hf
      · split at hc
        · simp at hc; subst hc; simp [AOp.fresh] at hf
        · simp at hc
      · simp at hc
    · simp at hc; subst hc; simp [AOp.fresh] at hf
    · simp at hc
  case extract => obtain ⟨_, _, hc⟩ := hc; simp at hc; subst hc; simp [AOp.fresh] at hf
  case typeAssert =>
    split at hc
    · simp at hc
    · simp only [Option.bind_eq_some_iff, Option.map_eq_some_iff] at hc
      obtain ⟨_, _, _, _, hc⟩ := hc; simp at hc; subst hc; simp [AOp.fresh] at hf
    · simp at hc
  case lookup =>
    split at hc
    · simp only [Option.bind_eq_some_iff, Option.map_eq_some_iff] at hc
      obtain ⟨_, _, _, _, _, _, hc⟩ := hc; simp at hc; subst hc; simp [AOp.fresh] at hf
    · simp at hc
  case mapUpdate =>
    split at hc
    · simp only [Option.bind_eq_some_iff, Option.map_eq_some_iff] at hc
      obtain ⟨_, _, _, _, _, _, hc⟩ := hc; simp at hc; subst hc; simp [AOp.fresh] at hf
    · simp at hc
  case insert =>
    split at hc
    · simp only [Option.bind_eq_some_iff, Option.map_eq_some_iff] at hc
      obtain ⟨_, _, _, _, _, _, hc⟩ := hc; simp at hc; subst hc; simp [AOp.fresh] at hf
    · simp at hc

end
end AE
