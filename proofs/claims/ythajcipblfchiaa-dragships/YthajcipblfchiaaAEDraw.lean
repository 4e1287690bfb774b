/- Regions that draw their order: whatever the order, the text's outcome. -/
import Derived.Test.YthajcipblfchiaaAETrace
set_option linter.unusedVariables false
set_option linter.unusedSimpArgs false
set_option linter.unusedSectionVars false
namespace AE
open Go Go.RowKit

theorem ver_le (w : Nat → Prop) (m : Nat) : ver w m ≤ m := by
  rcases ver_spec w m with ⟨h, -⟩ | ⟨j, h1, h2, -⟩ <;> omega

section
variable {P : Program} {ro : Option Nat} {n lo base : Nat} {ops : Array Oper} {xs : List AOper} {ap : List (Opd × Opd)} {S : Nat → Ts × H} {U : Nat → Option (Nat × ARow)}

noncomputable def curT (xs : List AOper) (S : Nat → Ts × H) (L : Nat → Prop) : Ts := fun t => (S (ver (fun j => L j ∧ Wt xs j t) xs.length)).1 t
noncomputable def curH (xs : List AOper) (S : Nat → Ts × H) (U : Nat → Option (Nat × ARow)) (L : Nat → Prop) : H :=
  ⟨fun r => (S (ver (fun j => L j ∧ Wr xs S U j r) xs.length)).2.get r, (S xs.length).2.next⟩

structure Inv (n lo base : Nat) (ops : Array Oper) (xs : List AOper) (S : Nat → Ts × H) (U : Nat → Option (Nat × ARow)) (I0 : Inj) (w0 : World) (a0 : Act) (L : Nat → Prop) (I : Inj) (w : World) (a : Act) : Prop where
  lt : ∀ i, L i → i < xs.length
  down : ∀ i, L i → ∀ e ∈ bef ops i, L e
  ts : TsRel I n (curT xs S L) a.tmps
  rel : Rel I (curH xs S U L) w
  own : ∀ j, j < xs.length → I.dom (base + j) → L j
  calls : ∀ (j : Nat) (x : AOper), xs[j]? = some x → x.isC = true → ¬ L j → ∀ r, I.dom r → r < (S j).2.next
  wrt : ∀ j r row, L j → U j = some (r, row) → r ≠ base + j → I.dom r
  grows : Grows I0 I w0
  dom : ∀ r, I.dom r → I0.dom r ∨ base ≤ r
  old : ∀ r s p, r < lo → I.at_ r s = some p → I0.at_ r s = some p
  ext : Ext I0 lo w0 w
  defers : a.defers = a0.defers

/-- What the static check says. -/
structure DOk (ops : Array Oper) (xs : List AOper) (ap : List (Opd × Opd)) : Prop where
  lt : ∀ k e, e ∈ bef ops k → k < xs.length → e < k
  noSel : ∀ (i : Nat) (x : AOper), xs[i]? = some x → x.noSel = true
  const : ∀ (i : Nat) (x : AOper), xs[i]? = some x → ∀ o ∈ x.tchO, constOk o = true
  pair : ∀ (i j : Nat) (x y : AOper), i < j → xs[i]? = some x → xs[j]? = some y → ord (masks ops xs.length) i j = true ∨ (must x y = false ∧ ∀ p ∈ clash x y, inApart ap p = true)
  keep : ∀ (i j : Nat) (x y : AOper), i ≤ j → xs[i]? = some x → xs[j]? = some y → ∀ o ∈ x.tchO, dstIn y.dst o.rd = false

theorem dOk_spec (h : dOk ops xs ap = true) : DOk ops xs ap := by
  simp only [dOk, Bool.and_eq_true] at h
  obtain ⟨⟨⟨h1, h2⟩, h3⟩, h4⟩ := h
  refine ⟨fun k e he hk => ?_, fun i x hx => ?_, fun i x hx o ho => ?_, fun i j x y hij hx hy => ?_, fun i j x y hij hx hy o ho => ?_⟩
  · have := List.all_eq_true.1 h1 k (by simpa using hk)
    simpa using List.all_eq_true.1 this e he
  · have := List.all_eq_true.1 h2 x (List.mem_of_getElem? hx)
    simp only [Bool.and_eq_true] at this
    exact this.1
  · have := List.all_eq_true.1 h2 x (List.mem_of_getElem? hx)
    simp only [Bool.and_eq_true] at this
    exact List.all_eq_true.1 this.2 o ho
  · have := allPairs_spec h3 hij hx hy
    simp only [Bool.and_eq_true, Bool.or_eq_true, Bool.not_eq_true'] at this
    exact this.1.imp id (fun e => ⟨e.1, fun p hp => List.all_eq_true.1 e.2 p hp⟩)
  · rcases Nat.lt_or_eq_of_le hij with hlt | rfl
    · have := allPairs_spec h3 hlt hx hy
      simp only [Bool.and_eq_true] at this
      simpa using List.all_eq_true.1 this.2 o ho
    · rw [hx] at hy; simp at hy; subst hy
      have := List.all_eq_true.1 h4 x (List.mem_of_getElem? hx)
      simpa using List.all_eq_true.1 this o ho

theorem bef_out {k e : Nat} (hlen : xs.length = ops.size) (he : e ∈ bef ops k) : k < xs.length := by
  unfold bef at he
  split at he
  · rename_i o ho; rw [hlen]; exact (Array.getElem?_eq_some_iff.1 ho).1
  · simp at he

/-- One that is about to be taken. -/
structure Rdy (ops : Array Oper) (xs : List AOper) (L : Nat → Prop) (i : Nat) (x : AOper) : Prop where
  at_ : xs[i]? = some x
  not : ¬ L i
  bef : ∀ e ∈ bef ops i, L e

variable {I0 I : Inj} {w0 w : World} {a0 a : Act} {L : Nat → Prop} {i : Nat} {x : AOper}

theorem rdy_ord (D : DOk ops xs ap) (hlen : xs.length = ops.size) (V : Inv n lo base ops xs S U I0 w0 a0 L I w a) (R : Rdy ops xs L i x) {j : Nat} (hj : j < xs.length) :
    (ord (masks ops xs.length) j i = true → L j) ∧ (ord (masks ops xs.length) i j = true → ¬ L j) := by
  have hi : i < xs.length := (List.getElem?_eq_some_iff.1 R.at_).1
  have lt : ∀ k e, e ∈ bef ops k → e < k := fun k e he => D.lt k e he (bef_out hlen he)
  constructor
  · intro h
    unfold ord at h
    rw [masks_get ops _ _ hi] at h
    exact (masks_down V.down lt i R.bef j h).1
  · intro h hL
    unfold ord at h
    rw [masks_get ops _ _ hj] at h
    exact R.not (masks_down V.down lt j (V.down j hL) i h).1

/-- Ordered by the check: j is taken just if it stands before i. -/
theorem rdy_iff (D : DOk ops xs ap) (hlen : xs.length = ops.size) (V : Inv n lo base ops xs S U I0 w0 a0 L I w a) (R : Rdy ops xs L i x) {j : Nat} {y : AOper} (hy : xs[j]? = some y) (hji : j ≠ i)
    (hm : if j < i then must y x = true else must x y = true) : L j ↔ j < i := by
  have hj : j < xs.length := (List.getElem?_eq_some_iff.1 hy).1
  obtain ⟨o1, o2⟩ := rdy_ord D hlen V R hj
  by_cases hlt : j < i
  · rw [if_pos hlt] at hm
    rcases D.pair j i y x hlt hy R.at_ with h | h
    · exact ⟨fun _ => hlt, fun _ => o1 h⟩
    · rw [hm] at h; simp at h
  · rw [if_neg hlt] at hm
    rcases D.pair i j x y (by omega) R.at_ hy with h | h
    · exact ⟨fun hL => absurd hL (o2 h), fun e => absurd e hlt⟩
    · rw [hm] at h; simp at h

theorem dstIn_mem {d t : Nat} {l : List Nat} (hd : d ∈ l) (h : t = d) : dstIn (some t) l = true := by subst h; simpa [dstIn] using hd

theorem cur_tmp (D : DOk ops xs ap) (hlen : xs.length = ops.size) (T : Text P lo base xs S U) (V : Inv n lo base ops xs S U I0 w0 a0 L I w a) (R : Rdy ops xs L i x) {t : Nat} (ht : t ∈ x.rd) : curT xs S L t = (S i).1 t := by
  have hi : i < xs.length := (List.getElem?_eq_some_iff.1 R.at_).1
  refine ver_at (F := fun k => (S k).1 t) (W := fun j => Wt xs j t) (T.tmp (t := t)) (by omega) ?_
  rintro j hj ⟨y, hy, hd⟩
  by_cases hji : j = i
  · subst hji
    exact ⟨fun h => absurd h R.not, fun h => by omega⟩
  · refine rdy_iff D hlen V R hy hji ?_
    split
    · simp [must, hd, dstIn_mem ht rfl]
    · simp [must, hd, dstIn_mem ht rfl]

theorem touch_dom {v : Value} (hv : In I v) {r : Nat} (hr : r ∈ touchV v) : I.dom r := by
  unfold touchV at hr
  split at hr <;> simp at hr
  · subst hr; simp only [In] at hv; exact dom_of_inA hv
  · subst hr; simp only [In] at hv; exact dom_of_inA hv.1
  · subst hr; simp only [In] at hv; obtain ⟨b, hb⟩ := hv; exact ⟨_, _, hb⟩

theorem flat_touch {v : Value} (h : flat v = true) : touchV v = [] := by
  unfold touchV
  split
  · simp [flat] at h
  · simp [flat] at h
  · simp [flat] at h
  · rfl

theorem rd_of_op {ao : AOp} (hins : x.ins = .op ao) {t : Nat} (ht : t ∈ ao.rd) : t ∈ x.rd := by
  simp [AOper.rd, hins, ht]
theorem tchO_of_op {ao : AOp} (hins : x.ins = .op ao) : x.tchO = ao.tchO ∧ x.wrO = ao.wrO := by simp [AOper.tchO, AOper.wrO, hins]

theorem tch_dom (D : DOk ops xs ap) (hlen : xs.length = ops.size) (T : Text P lo base xs S U) (V : Inv n lo base ops xs S U I0 w0 a0 L I w a) (R : Rdy ops xs L i x) {ao : AOp} (hins : x.ins = .op ao) {r : Nat} (hr : r ∈ ao.touch (S i).1) : I.dom r := by
  rw [touch_rows, rowsO, List.mem_flatMap] at hr
  obtain ⟨o, ho, hr⟩ := hr
  have ho' : o ∈ x.tchO := by rw [(tchO_of_op hins).1]; exact ho
  cases o with
  | c v =>
    have := D.const i x R.at_ _ ho'
    simp only [constOk] at this
    simp only [ev, flat_touch this] at hr
    simp at hr
  | t k =>
    have hk : curT xs S L k = (S i).1 k := cur_tmp D hlen T V R (rd_of_op hins (rd_tchO ho k (by simp [Opd.rd])))
    simp only [ev] at hr
    rw [← hk] at hr
    exact touch_dom (V.ts.2 k).2 hr

/-- At its addresses, what it reads at its turn stands at the end. -/
theorem end_addr (D : DOk ops xs ap) (T : Text P lo base xs S U) {j : Nat} {y : AOper} (hy : xs[j]? = some y) {o : Opd} (ho : o ∈ y.tchO) : ev (S j).1 o = ev (S xs.length).1 o := by
  have hj : j < xs.length := (List.getElem?_eq_some_iff.1 hy).1
  cases o with
  | c v => rfl
  | t k =>
    have := stays (F := fun l => (S l).1 k) (W := fun l => Wt xs l k) (m := xs.length) (T.tmp (t := k)) (a := j) (xs.length - j) (by omega) (fun l h1 h2 => ?_)
    · rw [show j + (xs.length - j) = xs.length by omega] at this
      exact this.symm
    · rintro ⟨z, hz, hd⟩
      have := D.keep j l y z h1 hy hz _ ho
      rw [hd] at this
      simp [dstIn, Opd.rd] at this

theorem optEq_ev {x y : Opd} (h : optEq x y = true) : x = y := by
  unfold optEq at h
  split at h
  · simp at h; subst h; rfl
  · simp at h

theorem apart_of (D : DOk ops xs ap) (T : Text P lo base xs S U) (hap : ∀ p ∈ ap, ∀ r ∈ touchV (ev (S xs.length).1 p.1), r ∉ touchV (ev (S xs.length).1 p.2)) {j k : Nat} {y z : AOper} (hy : xs[j]? = some y) (hz : xs[k]? = some z)
    (hc : ∀ p ∈ clash y z, inApart ap p = true) {r : Nat} (h : (r ∈ rowsO (S j).1 y.wrO ∧ r ∈ rowsO (S k).1 z.tchO) ∨ (r ∈ rowsO (S j).1 y.tchO ∧ r ∈ rowsO (S k).1 z.wrO)) (hw : ∀ (y : AOper) (o : Opd), o ∈ y.wrO → o ∈ y.tchO) : False := by
  have key : ∀ o1 o2, o1 ∈ y.tchO → o2 ∈ z.tchO → (o1, o2) ∈ clash y z → r ∈ touchV (ev (S j).1 o1) → r ∈ touchV (ev (S k).1 o2) → False := by
    intro o1 o2 h1 h2 hm r1 r2
    have := hc _ hm
    unfold inApart at this
    rw [List.any_eq_true] at this
    obtain ⟨q, hq, he⟩ := this
    simp only [Bool.and_eq_true] at he
    have e1 := optEq_ev he.1
    have e2 := optEq_ev he.2
    rw [end_addr D T hy h1, ← e1] at r1
    rw [end_addr D T hz h2, ← e2] at r2
    exact hap q hq r r1 r2
  rcases h with ⟨h1, h2⟩ | ⟨h1, h2⟩ <;> rw [rowsO, List.mem_flatMap] at h1 h2 <;> obtain ⟨o1, m1, h1⟩ := h1 <;> obtain ⟨o2, m2, h2⟩ := h2
  · refine key o1 o2 (hw y o1 m1) m2 ?_ h1 h2
    simp only [clash, pairsOf, List.mem_append, List.mem_flatMap, List.mem_map]
    exact .inl ⟨o1, m1, o2, m2, rfl⟩
  · refine key o1 o2 m1 (hw z o2 m2) ?_ h1 h2
    simp only [clash, pairsOf, List.mem_append, List.mem_flatMap, List.mem_map]
    exact .inr ⟨o1, m1, o2, m2, rfl⟩

theorem wrO_sub (y : AOper) (o : Opd) (h : o ∈ y.wrO) : o ∈ y.tchO := by
  unfold AOper.wrO at h
  unfold AOper.tchO
  split at h
  · exact wrO_tchO h
  · simp at h

/-- A step's own turning of rows. -/
theorem step_upd {j : Nat} {y : AOper} {s s' : Ts × H} {u : Option (Nat × ARow)} (hs : Step1 P lo base j y s u s') {r : Nat} {row : ARow} (hu : u = some (r, row)) : r = base + j ∨ (lo ≤ r ∧ r ∈ rowsO s.1 y.wrO ∧ s.2.get r ≠ none) := by
  cases hs with
  | skip => simp at hu
  | call => simp at hu
  | op ts h ao v u hg hins h2 h3 =>
    rcases h2 r row hu with e | e
    · exact .inl e
    · refine .inr ⟨e.1, ?_, e.2.2⟩
      rw [(tchO_of_op hins).2, ← wr_rows]
      exact e.2.1

/-- Which of those that turn a row stand before: for a row that is there at i's turn, and that i looks at, or that any call may look at. -/
theorem rdy_row (D : DOk ops xs ap) (hlen : xs.length = ops.size) (T : Text P lo base xs S U) (V : Inv n lo base ops xs S U I0 w0 a0 L I w a) (R : Rdy ops xs L i x)
    (hap : ∀ p ∈ ap, ∀ r ∈ touchV (ev (S xs.length).1 p.1), r ∉ touchV (ev (S xs.length).1 p.2)) {r : Nat} (hd : I.dom r) (hr : (S i).2.get r ≠ none) (hk : x.isC = true ∨ r ∈ rowsO (S i).1 x.tchO) :
    ∀ j, j < xs.length → Wr xs S U j r → (L j ↔ j < i) := by
  have hi : i < xs.length := (List.getElem?_eq_some_iff.1 R.at_).1
  intro j hj hw
  by_cases hji : j = i
  · subst hji
    exact ⟨fun h => absurd h R.not, fun h => by omega⟩
  rcases hw with ⟨row, hu⟩ | ⟨y, hy, hc, -, hn⟩
  · obtain ⟨y, hy, hs⟩ := T.at_ hj
    rcases step_upd hs hu with e | ⟨-, hwr, -⟩
    · have hlt : j < i := by
        rcases Nat.lt_or_ge j i with h | h
        · exact h
        · exact absurd (T.own' hj i h) (by rw [← e]; exact hr)
      exact ⟨fun _ => hlt, fun _ => V.own j hj (e ▸ hd)⟩
    · have hne : y.wrO ≠ [] := fun e => by simp [e, rowsO] at hwr
      rcases hk with hk | hk
      · refine rdy_iff D hlen V R hy hji ?_
        split <;> simp [must, hk, hne]
      · obtain ⟨o1, o2⟩ := rdy_ord D hlen V R hj
        rcases Nat.lt_or_ge j i with hlt | hge
        · rcases D.pair j i y x hlt hy R.at_ with h | h
          · exact ⟨fun _ => hlt, fun _ => o1 h⟩
          · exact (apart_of D T hap hy R.at_ h.2 (.inl ⟨hwr, hk⟩) wrO_sub).elim
        · rcases D.pair i j x y (by omega) R.at_ hy with h | h
          · exact ⟨fun hL => absurd hL (o2 h), fun e => by omega⟩
          · exact (apart_of D T hap R.at_ hy h.2 (.inr ⟨hk, hwr⟩) wrO_sub).elim
  · have hlt : j < i := by
      rcases Nat.lt_or_ge j i with h | h
      · exact h
      · exact absurd (T.clean' (k := i) (by omega) r (Nat.le_trans (T.next_mono h (by omega)) hn)) hr
    refine ⟨fun _ => hlt, fun _ => ?_⟩
    by_cases hL : L j
    · exact hL
    · have := V.calls j y hy hc hL r hd
      omega

theorem cur_row (D : DOk ops xs ap) (hlen : xs.length = ops.size) (T : Text P lo base xs S U) (V : Inv n lo base ops xs S U I0 w0 a0 L I w a) (R : Rdy ops xs L i x)
    (hap : ∀ p ∈ ap, ∀ r ∈ touchV (ev (S xs.length).1 p.1), r ∉ touchV (ev (S xs.length).1 p.2)) {r : Nat} (hd : I.dom r) (hr : (S i).2.get r ≠ none) (hk : x.isC = true ∨ r ∈ rowsO (S i).1 x.tchO) :
    (curH xs S U L).get r = (S i).2.get r := by
  have hi : i < xs.length := (List.getElem?_eq_some_iff.1 R.at_).1
  exact ver_at (F := fun k => (S k).2.get r) (W := fun j => Wr xs S U j r) (T.heap (r := r)) (by omega) (rdy_row D hlen T V R hap hd hr hk)

/-- The next set. -/
def L1 (L : Nat → Prop) (i : Nat) : Nat → Prop := fun j => L j ∨ j = i

theorem L1_ne {j : Nat} (h : j ≠ i) : L1 L i j ↔ L j := by simp [L1, h]

/-- The temporaries after i. -/
theorem cur_put (D : DOk ops xs ap) (hlen : xs.length = ops.size) (V : Inv n lo base ops xs S U I0 w0 a0 L I w a) (R : Rdy ops xs L i x) {v : Value} (hv : (S (i + 1)).1 = aput (S i).1 v x.dst) :
    curT xs S (L1 L i) = aput (curT xs S L) v x.dst := by
  have hi : i < xs.length := (List.getElem?_eq_some_iff.1 R.at_).1
  funext t
  by_cases hd : x.dst = some t
  · have h1 : ver (fun j => L1 L i j ∧ Wt xs j t) xs.length = i + 1 := by
      refine ver_new hi ⟨x, R.at_, hd⟩ (.inr rfl) ?_
      rintro j hj hij ⟨y, hy, hdy⟩ hL
      have hL := (L1_ne (i := i) (by omega)).1 hL
      have := (rdy_iff D hlen V R hy (by omega) (by rw [if_neg (by omega)]; simp [must, hd, hdy])).1 hL
      omega
    simp only [curT, h1, hv, hd, aput, setV, if_true]
  · have h1 : ver (fun j => L1 L i j ∧ Wt xs j t) xs.length = ver (fun j => L j ∧ Wt xs j t) xs.length := by
      refine ver_same (i := i) (W := fun j => Wt xs j t) ?_ (fun j hj => L1_ne hj)
      rintro ⟨y, hy, hdy⟩
      rw [R.at_] at hy; simp at hy; subst hy
      exact hd hdy
    rw [aput_ne hd]
    simp only [curT, h1]

theorem H.ext' {h g : H} (h1 : ∀ r, h.get r = g.get r) (h2 : h.next = g.next) : h = g := by
  cases h; cases g; simp only at h1 h2; subst h2; congr; funext r; exact h1 r

/-- The heap after operation i. -/
theorem cur_upd (D : DOk ops xs ap) (hlen : xs.length = ops.size) (T : Text P lo base xs S U) (V : Inv n lo base ops xs S U I0 w0 a0 L I w a) (R : Rdy ops xs L i x)
    (hap : ∀ p ∈ ap, ∀ r ∈ touchV (ev (S xs.length).1 p.1), r ∉ touchV (ev (S xs.length).1 p.2)) {u : Option (Nat × ARow)} (hU : U i = u) (hS : (S (i + 1)).2 = (S i).2.upd u)
    (hnc : x.isC = true → awanted (S i).1 x.guard = false)
    (h2 : ∀ r row, u = some (r, row) → r = base + i ∨ (I.dom r ∧ r ∈ rowsO (S i).1 x.tchO ∧ (S i).2.get r ≠ none)) : curH xs S U (L1 L i) = (curH xs S U L).upd u := by
  have hi : i < xs.length := (List.getElem?_eq_some_iff.1 R.at_).1
  refine H.ext' (fun r => ?_) (by rw [upd_next]; rfl)
  by_cases hw : ∃ row, u = some (r, row)
  · obtain ⟨row, rfl⟩ := hw
    have h1 : ver (fun j => L1 L i j ∧ Wr xs S U j r) xs.length = i + 1 := by
      refine ver_new hi (.inl ⟨row, hU⟩) (.inr rfl) ?_
      intro j hj hij hwj hL
      have hL := (L1_ne (i := i) (by omega)).1 hL
      rcases h2 r row rfl with e | ⟨hd, ht, hr⟩
      · rcases hwj with ⟨row', hu'⟩ | ⟨y, hy, hc, -, hn⟩
        · exact R.not (V.own i hi (e ▸ V.wrt j r row' hL hu' (by omega)))
        · have := T.room' (k := j) (by omega)
          omega
      · have := (rdy_row D hlen T V R hap hd hr (.inr ht) j hj hwj).1 hL
        omega
    simp only [curH, h1, hS, H.upd, H.put, if_true]
  · have h1 : ver (fun j => L1 L i j ∧ Wr xs S U j r) xs.length = ver (fun j => L j ∧ Wr xs S U j r) xs.length := by
      refine ver_same (i := i) (W := fun j => Wr xs S U j r) ?_ (fun j hj => L1_ne hj)
      rintro (⟨row, hu⟩ | ⟨y, hy, hc, hg, hn⟩)
      · exact hw ⟨row, hU ▸ hu⟩
      · rw [R.at_] at hy; simp at hy; subst hy
        rw [hnc hc] at hg; simp at hg
    have h3 : ((curH xs S U L).upd u).get r = (curH xs S U L).get r := by
      cases u with
      | none => rfl
      | some p =>
        simp only [H.upd, H.put]
        rw [if_neg]
        rintro rfl
        exact hw ⟨_, rfl⟩
    rw [h3]
    simp only [curH, h1]

/-- After operation i (or nothing, where its guard says so). -/
theorem inv_op (D : DOk ops xs ap) (hlen : xs.length = ops.size) (T : Text P lo base xs S U) (V : Inv n lo base ops xs S U I0 w0 a0 L I w a) (R : Rdy ops xs L i x)
    (hap : ∀ p ∈ ap, ∀ r ∈ touchV (ev (S xs.length).1 p.1), r ∉ touchV (ev (S xs.length).1 p.2)) {u : Option (Nat × ARow)} {v : Value} (hU : U i = u) (hS : (S (i + 1)).2 = (S i).2.upd u) (hS1 : (S (i + 1)).1 = aput (S i).1 v x.dst)
    (hnc : x.isC = true → awanted (S i).1 x.guard = false)
    (h2 : ∀ r row, u = some (r, row) → r = base + i ∨ (I.dom r ∧ r ∈ rowsO (S i).1 x.tchO ∧ (S i).2.get r ≠ none))
    {J : Inj} {w1 : World} (hg : Grows I J w) (hdom : ∀ r, J.dom r → I.dom r ∨ r = base + i) (hold : ∀ r s p, r < lo → J.at_ r s = some p → I.at_ r s = some p) (hrel : Rel J ((curH xs S U L).upd u) w1) (hin : In J v) (hext : Ext I lo w w1) (hdst : dstOk n x.dst = true) :
    Inv n lo base ops xs S U I0 w0 a0 (L1 L i) J w1 (a.put x.dst (ren J v)) := by
  have hi : i < xs.length := (List.getElem?_eq_some_iff.1 R.at_).1
  refine ⟨?_, ?_, ?_, ?_, ?_, ?_, ?_, V.grows.trans hg V.ext.size, ?_, fun r s p hr e => V.old r s p hr (hold r s p hr e), V.ext.trans V.grows hext, ?_⟩
  · rintro j (h | rfl)
    · exact V.lt j h
    · exact hi
  · rintro j (h | rfl) e he
    · exact .inl (V.down j h e he)
    · exact .inl (R.bef e he)
  · rw [cur_put D hlen V R hS1]
    exact (V.ts.le hg.le).put hin hdst
  · rw [cur_upd D hlen T V R hap hU hS hnc h2]
    exact hrel
  · intro j hj d
    rcases hdom _ d with d | d
    · exact .inl (V.own j hj d)
    · exact .inr (by omega)
  · intro j y hy hc hL r d
    rcases hdom _ d with d | d
    · exact V.calls j y hy hc (fun h => hL (.inl h)) r d
    · have := T.room' (k := j) (Nat.le_of_lt (List.getElem?_eq_some_iff.1 hy).1)
      omega
  · rintro j r row (h | rfl) hu hne
    · exact hg.le.dom (V.wrt j r row h hu hne)
    · rw [hU] at hu
      rcases h2 r row hu with e | e
      · exact absurd e hne
      · exact hg.le.dom e.1
  · intro r d
    rcases hdom r d with d | d
    · exact V.dom r d
    · exact .inr (by omega)
  · rw [Act.put_defers']; exact V.defers

/-- After call i. -/
theorem inv_call (D : DOk ops xs ap) (hlen : xs.length = ops.size) (T : Text P lo base xs S U) (V : Inv n lo base ops xs S U I0 w0 a0 L I w a) (R : Rdy ops xs L i x)
    {v : Value} (hU : U i = none) (hS1 : (S (i + 1)).1 = aput (S i).1 v x.dst) (hc : x.isC = true) (hgd : awanted (S i).1 x.guard = true) {J : Inj} {w1 : World} (W : Went I J (S i).2.next (S i).2.next (S (i + 1)).2 w w1) (hin : In J v) (hdst : dstOk n x.dst = true) :
    Inv n lo base ops xs S U I0 w0 a0 (L1 L i) J w1 (a.put x.dst (ren J v)) := by
  have hi : i < xs.length := (List.getElem?_eq_some_iff.1 R.at_).1
  have hroom := T.room' (k := i) (by omega)
  have hlob := T.lob
  have hcalls : ∀ j y, xs[j]? = some y → y.isC = true → j ≠ i → (L j ↔ j < i) := fun j y hy hcy hji => rdy_iff D hlen V R hy hji (by split <;> simp [must, hc, hcy])
  refine ⟨?_, ?_, ?_, ⟨?_, ?_, W.rel.size, W.rel.base, W.rel.inj, ?_⟩, ?_, ?_, ?_, V.grows.trans W.grows V.ext.size, ?_, ?_, V.ext.trans V.grows (W.ext.mono (by omega)), ?_⟩
  · rintro j (h | rfl)
    · exact V.lt j h
    · exact hi
  · rintro j (h | rfl) e he
    · exact .inl (V.down j h e he)
    · exact .inl (R.bef e he)
  · rw [cur_put D hlen V R hS1]
    exact (V.ts.le W.grows.le).put hin hdst
  · intro r row hr d
    rcases Nat.lt_or_ge r (S i).2.next with hlt | hge
    · have d' : I.dom r := (W.dom r d).resolve_right (by omega)
      have h1 : ver (fun j => L1 L i j ∧ Wr xs S U j r) xs.length = ver (fun j => L j ∧ Wr xs S U j r) xs.length := by
        refine ver_same (i := i) (W := fun j => Wr xs S U j r) ?_ (fun j hj => L1_ne hj)
        rintro (⟨row, hu⟩ | ⟨y, hy, -, -, hn⟩)
        · rw [hU] at hu; simp at hu
        · omega
      simp only [curH, h1] at hr
      refine (V.rel.rows r row hr d').le W.grows.le (fun s p e => W.old r s p hlt e) (fun b ⟨s0, d0, hb⟩ => ?_)
      refine W.ext.block b (V.rel.size _ _ _ _ hb) (fun r' s' d1 hb' hbase => ?_)
      rw [V.rel.inj _ _ _ _ _ _ _ hb' hb hbase]
      exact hlt
    · have h1 : ver (fun j => L1 L i j ∧ Wr xs S U j r) xs.length = i + 1 := by
        refine ver_new hi (.inr ⟨x, R.at_, hc, hgd, hge⟩) (.inr rfl) ?_
        intro j hj hij hwj hL
        have hL := (L1_ne (i := i) (by omega)).1 hL
        rcases hwj with ⟨row', hu'⟩ | ⟨y, hy, hcy, -, hn⟩
        · have := V.calls i x R.at_ hc R.not r (V.wrt j r row' hL hu' (by omega))
          omega
        · have := (hcalls j y hy hcy (by omega)).1 hL
          omega
      simp only [curH, h1] at hr
      exact W.rel.rows r row hr d
  · intro r d
    have h1 := W.rel.lt r d
    have h2 := T.next_mono (k := i + 1) (l := xs.length) (by omega) (Nat.le_refl _)
    simp only [curH]
    omega
  · intro r hr
    simp only [curH] at hr ⊢
    have := ver_le (fun j => L1 L i j ∧ Wr xs S U j r) xs.length
    exact T.clean' this r (Nat.le_trans (T.next_mono this (Nat.le_refl _)) hr)
  · intro j hj d
    rcases W.dom _ d with d | d
    · exact .inl (V.own j hj d)
    · omega
  · intro j y hy hcy hL r d
    have hji : j ≠ i := fun e => hL (.inr e)
    have hnL : ¬ L j := fun h => hL (.inl h)
    rcases W.dom r d with d' | d'
    · exact V.calls j y hy hcy hnL r d'
    · have hij : i < j := by
        rcases Nat.lt_or_ge j i with h | h
        · exact absurd ((hcalls j y hy hcy hji).2 h) hnL
        · omega
      have h1 := W.rel.lt r d
      have h2 := T.next_mono (k := i + 1) (l := j) (by omega) (Nat.le_of_lt (List.getElem?_eq_some_iff.1 hy).1)
      omega
  · rintro j r row (h | rfl) hu hne
    · exact W.grows.le.dom (V.wrt j r row h hu hne)
    · rw [hU] at hu; simp at hu
  · intro r d
    rcases W.dom r d with d | d
    · exact V.dom r d
    · exact .inr (by omega)
  · intro r s p hr e
    exact V.old r s p hr (W.old r s p (by omega) e)
  · rw [Act.put_defers']; exact V.defers

/-- The rows that op i looks at, at its turn: as in the text. -/
theorem awanted_ts {ts ts' : Ts} {g : Option (Nat × Bool)} (h : ∀ p, g = some p → ts' p.1 = ts p.1) : awanted ts' g = awanted ts g := by
  cases g with
  | none => rfl
  | some p => simp only [awanted, h p rfl]

def listed (arr : Array Bool) (j : Nat) : Prop := arr.getD j false = true

theorem listed_set {arr : Array Bool} (hi : i < arr.size) : listed (arr.setIfInBounds i true) = L1 (listed arr) i := by
  funext j
  simp only [listed, L1]
  by_cases hj : j = i
  · subst hj; simp [hi]
  · rw [getD_set_ne false (Ne.symm hj)]; simp [hj]

theorem take_one (hx : cOpers P n ops ops.toList = some xs) (D : DOk ops xs ap) (T : Text P lo base xs S U) (hap : ∀ p ∈ ap, ∀ r ∈ touchV (ev (S xs.length).1 p.1), r ∉ touchV (ev (S xs.length).1 p.2))
    (V : Inv n lo base ops xs S U I0 w0 a0 L I w a) (R : Rdy ops xs L i x) {K : Act → World → Prop} {Q : Exit → Act → World → Prop} (hK : ∀ J w1 a1, Inv n lo base ops xs S U I0 w0 a0 (L1 L i) J w1 a1 → K a1 w1) :
    wpOpIn (WR ro) 0 P ops Q i K a w := by
  obtain ⟨hlen0, hget⟩ := cOpers_get hx
  have hlen : xs.length = ops.size := by rw [hlen0]; simp
  have hi : i < xs.length := (List.getElem?_eq_some_iff.1 R.at_).1
  obtain ⟨o, ho⟩ : ∃ o, ops[i]? = some o := ⟨ops[i], Array.getElem?_eq_getElem (by omega)⟩
  obtain ⟨x', hx', hxo⟩ := hget i o (by rw [Array.getElem?_toList]; exact ho)
  rw [R.at_] at hx'; simp at hx'; subst hx'
  simp only [cOper, Option.bind_eq_some_iff] at hxo
  obtain ⟨gd, hgd, ins, hins, hxo⟩ := hxo
  split at hxo
  · rename_i hok
    simp only [Bool.and_eq_true] at hok
    simp only [Option.some.injEq] at hxo
    have hdef := comp_not_defer hins
    have hguard : x.guard = gd := by rw [← hxo]
    have hdst : x.dst = o.dst := by rw [← hxo]
    have hinsx : x.ins = ins := by rw [← hxo]
    have hdok : dstOk n x.dst = true := by rw [hdst]; exact hok.2
    have hwant : awanted (curT xs S L) gd = awanted (S i).1 gd := awanted_ts fun p hp => cur_tmp D hlen T V R (by rw [AOper.rd, hguard, hp]; simp)
    have hw := wanted_eq V.ts hgd
    unfold wpOpIn
    simp only [ho]
    rw [hw, hwant]
    have hs := T.step i x R.at_
    generalize ha : S i = s at hs
    generalize hb : S (i + 1) = s' at hs
    generalize hu : U i = u at hs
    cases hs with
    | skip ts h hg =>
      rw [hguard] at hg
      simp only [hg, Bool.false_eq_true, if_false]
      refine ⟨fun _ _ => trivial, ?_⟩
      have hinv := inv_op D hlen T V R hap (v := undef) (J := I) (w1 := w) hu (by rw [hb, ha]; rfl) (by rw [hb, ha]) (fun _ => by rw [ha, hguard]; exact hg) (by simp) (Grows.refl I w) (fun _ d => .inl d) (fun _ _ _ _ e => e) V.rel (ren_undef I).2 (Ext.refl I lo w) hdok
      rw [(ren_undef I).1, hdst] at hinv
      exact hK _ _ _ hinv
    | op ts h ao v u hg hinso h2 h3 =>
      rw [hguard] at hg
      simp only [hg, if_true]
      have hins' : comp P o = some (.op ao) := by rw [hins, ← hinsx, hinso]
      have hkn : ao.known = true := by have := hok.1; rw [← hinsx, hinso] at this; exact this
      have ha1 : (S i).1 = ts := by rw [ha]
      have ha2 : (S i).2 = h := by rw [ha]
      have hrd : ∀ t ∈ ao.rd, curT xs S L t = ts t := fun t ht => by rw [← ha1]; exact cur_tmp D hlen T V R (rd_of_op hinso ht)
      have hsel : ao.noSel = true := by have := D.noSel i x R.at_; rw [AOper.noSel, hinso] at this; exact this
      have htd : ∀ r ∈ ao.touch ts, I.dom r := fun r hr => tch_dom D hlen T V R hinso (by rw [ha1]; exact hr)
      have hto : ∀ r, r ∈ ao.touch ts → r ∈ rowsO (S i).1 x.tchO := fun r hr => by rw [ha1, (tchO_of_op hinso).1, ← touch_rows]; exact hr
      have hag : ∀ r ∈ ao.touch ts, h.get r ≠ none → (curH xs S U L).get r = h.get r := fun r hr hne => by
        rw [← ha2]; exact cur_row D hlen T V R hap (htd r hr) (by rw [ha2]; exact hne) (.inr (hto r hr))
      have haop := h3 _ hag
      rw [← aop_ts hsel hrd] at haop
      have hnd : ¬ I.dom (base + i) := fun d => R.not (V.own i hi d)
      have hroom := T.room' (k := xs.length) (Nat.le_refl _)
      have hlob := T.lob
      obtain ⟨J, w1, nx, ⟨hg', hdom, hold⟩, hrel, hin, hext, hrun, hnx⟩ := sim_op V.ts.ev hins' hkn V.rel hnd (by simp only [curH]; omega) (by omega) haop
      refine upon_val (v := ren J v) hdef hrun (hnx.imp id (fun e => ⟨e.1, by rw [e.2]; exact (ren_undef J).1⟩)) ?_
      have hinv := inv_op D hlen T V R hap hu (by rw [hb, ha2]) (by rw [hb, ha1]) (fun hc => by simp [AOper.isC, hinso] at hc) (fun r row e => (h2 r row e).imp id (fun e => ?_)) hg' hdom hold hrel hin hext hdok
      · rw [hdst] at hinv
        exact hK _ _ _ hinv
      · have hwt : r ∈ ao.touch ts := by
          have := e.2.1
          rw [wr_rows, rowsO, List.mem_flatMap] at this
          obtain ⟨o', ho', hr'⟩ := this
          rw [touch_rows, rowsO, List.mem_flatMap]
          exact ⟨o', wrO_tchO ho', hr'⟩
        exact ⟨htd r hwt, hto r hwt, by rw [ha2]; exact e.2.2⟩
    | call ts h f args v h' hg hinso hcall =>
      have hg0 := hg
      rw [hguard] at hg
      simp only [hg, if_true]
      have hins' : comp P o = some (.call f args) := by rw [hins, ← hinsx, hinso]
      have ha1 : (S i).1 = ts := by rw [ha]
      have ha2 : (S i).2 = h := by rw [ha]
      have hisC : x.isC = true := by simp [AOper.isC, hinso]
      have hrd : ∀ t ∈ f.rd ++ rdL args, curT xs S L t = ts t := fun t ht => by rw [← ha1]; exact cur_tmp D hlen T V R (by simp only [AOper.rd, hinso, List.mem_append]; exact .inr (by simpa using ht))
      have e1 : ev (curT xs S L) f = ev ts f := ev_ts fun t ht => hrd t (by simp [ht])
      have e2 : args.map (ev (curT xs S L)) = args.map (ev ts) := evL_ts fun t ht => hrd t (by simp [ht])
      obtain ⟨c, f0, hoc, hcal, hcf, hcas⟩ := comp_call hins'
      obtain ⟨ef, iF⟩ := V.ts.ev f0 f hcf
      rw [e1] at ef iF
      obtain ⟨eas, ias⟩ := cOpds_map V.ts.ev hcas
      rw [e2] at eas ias
      have hrel : Rel I h w := by
        refine ⟨fun r row hr d => V.rel.rows r row ?_ d, fun r d => ?_, V.rel.size, V.rel.base, V.rel.inj, ?_⟩
        · rw [cur_row D hlen T V R hap d (by rw [ha2, hr]; simp) (.inl hisC), ha2, hr]
        · rw [← ha2]; exact V.calls i x R.at_ hisC R.not r d
        · rw [← ha2]; exact T.clean' (by omega)
      refine hcall.run o c f0 ro a I w _ Q hoc hcal ef eas hrel iF ias fun J w1 hwent hin => ?_
      have hinv := inv_call D hlen T V R hu (by rw [hb, ha1]) hisC (by rw [ha1]; exact hg0) (by rw [hb, ha2]; exact hwent) hin hdok
      rw [hdst] at hinv
      exact hK _ _ _ hinv
  · simp at hxo

/-- How many are not taken yet. -/
def left (m : Nat) (arr : Array Bool) : Nat := ((List.range m).filter fun j => !arr.getD j false).length

theorem left_set {m : Nat} {arr : Array Bool} (hi : i < m) (hs : i < arr.size) (hn : arr.getD i false = false) : left m (arr.setIfInBounds i true) < left m arr := by
  unfold left
  have hsub : ((List.range m).filter fun j => !(arr.setIfInBounds i true).getD j false) = ((List.range m).filter fun j => !arr.getD j false).filter (fun j => !(arr.setIfInBounds i true).getD j false) := by
    rw [List.filter_filter]
    apply List.filter_congr
    intro j _
    by_cases hj : j = i
    · subst hj; simp [hs]
    · rw [getD_set_ne false (Ne.symm hj)]; simp
  rw [hsub]
  apply List.length_filter_lt_length_iff_exists.2
  refine ⟨i, by simp [hi]; simpa using hn, by simp [hs]⟩

theorem any_orders (hx : cOpers P n ops ops.toList = some xs) (D : DOk ops xs ap) (T : Text P lo base xs S U) (hap : ∀ p ∈ ap, ∀ r ∈ touchV (ev (S xs.length).1 p.1), r ∉ touchV (ev (S xs.length).1 p.2))
    {Q : Exit → Act → World → Prop} (hQ : ∀ J w1 a1, Inv n lo base ops xs S U I0 w0 a0 (fun j => j < xs.length) J w1 a1 → Q .normal a1 w1) :
    ∀ (fuel : Nat) (arr : Array Bool) (I : Inj) (w : World) (a : Act), arr.size = xs.length → left xs.length arr ≤ fuel → Inv n lo base ops xs S U I0 w0 a0 (listed arr) I w a → wpAnyIn (WR ro) 0 P .any ops Q fuel arr a w := by
  obtain ⟨hlen0, hget⟩ := cOpers_get hx
  have hlen : xs.length = ops.size := by rw [hlen0]; simp
  have hdone : ∀ (arr : Array Bool) (I : Inj) (w : World) (a : Act), arr.size = xs.length → Inv n lo base ops xs S U I0 w0 a0 (listed arr) I w a → Region.ready .any ops arr = [] → Q .normal a w := by
    intro arr I w a hsz V hr
    have hall : ∀ j, j < xs.length → listed arr j := by
      intro j
      induction j using Nat.strongRecOn with
      | _ j ih =>
        intro hj
        by_cases hl : listed arr j
        · exact hl
        · exfalso
          have : j ∈ Region.ready .any ops arr := by
            rw [mem_ready]
            refine ⟨?_, ops[j], Array.getElem?_eq_getElem (by omega), fun e he hb => ?_⟩
            · have h1 : arr.getD j false = false := by simpa [listed] using hl
              rw [Array.getD_eq_getD_getElem?, Array.getElem?_eq_getElem (by omega)] at h1 ⊢
              simpa using h1
            · have hbe : e.on ∈ bef ops j := by
                unfold bef
                rw [Array.getElem?_eq_getElem (by omega)]
                simp only [List.mem_map, List.mem_filter]
                exact ⟨e, ⟨by simpa using he, hb⟩, rfl⟩
              have hlt := D.lt j _ hbe hj
              exact ih _ hlt (by omega)
          rw [hr] at this
          simp at this
    have hL : listed arr = fun j => j < xs.length := by
      funext j
      exact propext ⟨V.lt j, hall j⟩
    rw [hL] at V
    exact hQ _ _ _ V
  have hrdy : ∀ (arr : Array Bool) (I : Inj) (w : World) (a : Act) (j : Nat), arr.size = xs.length → Inv n lo base ops xs S U I0 w0 a0 (listed arr) I w a → j ∈ Region.ready .any ops arr → ∃ y, Rdy ops xs (listed arr) j y := by
    intro arr I w a j hsz V hj
    rw [mem_ready] at hj
    obtain ⟨h1, o, ho, h2⟩ := hj
    have hjs : j < ops.size := (Array.getElem?_eq_some_iff.1 ho).1
    obtain ⟨y, hy, -⟩ := hget j o (by rw [Array.getElem?_toList]; exact ho)
    refine ⟨y, hy, ?_, fun e he => ?_⟩
    · intro hl
      unfold listed at hl
      rw [Array.getD_eq_getD_getElem?, Array.getElem?_eq_getElem (by omega)] at h1 hl
      simp at h1 hl
      rw [hl] at h1; simp at h1
    · unfold bef at he
      rw [ho] at he
      simp only [List.mem_map, List.mem_filter] at he
      obtain ⟨e', ⟨he', hb⟩, rfl⟩ := he
      exact h2 e' (by simpa using he') hb
  intro fuel
  induction fuel with
  | zero =>
    intro arr I w a hsz hleft V
    have hnil : Region.ready .any ops arr = [] := by
      cases hr : Region.ready .any ops arr with
      | nil => rfl
      | cons j js =>
        exfalso
        obtain ⟨y, R⟩ := hrdy arr I w a j hsz V (by rw [hr]; simp)
        have hj : j < xs.length := (List.getElem?_eq_some_iff.1 R.at_).1
        have := left_set (m := xs.length) (arr := arr) hj (by omega) (by simpa [listed] using R.not)
        omega
    exact ⟨hnil, hdone arr I w a hsz V hnil⟩
  | succ fuel ih =>
    intro arr I w a hsz hleft V
    refine ⟨hdone arr I w a hsz V, fun j hj => ?_⟩
    obtain ⟨y, R⟩ := hrdy arr I w a j hsz V hj
    have hjx : j < xs.length := (List.getElem?_eq_some_iff.1 R.at_).1
    refine take_one hx D T hap V R (fun J w1 a1 V' => ?_)
    refine ih _ J w1 a1 (by simpa using hsz) ?_ ?_
    · have := left_set (m := xs.length) (arr := arr) hjx (by omega) (by simpa [listed] using R.not)
      omega
    · rw [listed_set (by omega)]
      exact V'

end
end AE
