/- append and copy. -/
import Derived.Test.YthajcipblfchiaaAEStore
set_option linter.unusedVariables false
set_option linter.unusedSimpArgs false
set_option linter.unusedSectionVars false
namespace AE
open Go Go.RowKit

theorem growBy_le (L : Nat) : ∀ (k c : Nat), 256 ≤ c → Builtin.growBy L k c ≤ 2 ^ k * c
  | 0, c, _ => by simp [Builtin.growBy]
  | k + 1, c, h => by
    simp only [Builtin.growBy]
    split
    · have : 1 ≤ 2 ^ (k + 1) := Nat.one_le_two_pow
      calc c = 1 * c := by omega
        _ ≤ 2 ^ (k + 1) * c := Nat.mul_le_mul_right c this
    · have h1 : (c + 768) / 4 ≤ c := by omega
      have ih := growBy_le L k (c + (c + 768) / 4) (by omega)
      calc Builtin.growBy L k (c + (c + 768) / 4) ≤ 2 ^ k * (c + (c + 768) / 4) := ih
        _ ≤ 2 ^ k * (2 * c) := Nat.mul_le_mul_left _ (by omega)
        _ = 2 ^ (k + 1) * c := by rw [Nat.pow_succ]; simp [Nat.mul_assoc]
theorem nextslicecap_le {need cap : Nat} (h : cap < need) : Builtin.nextslicecap need cap ≤ 16 * need := by
  unfold Builtin.nextslicecap
  split
  · omega
  · split
    · omega
    · have := growBy_le need 4 cap (by omega)
      omega

section
variable {P : Program} {I : Inj} {ts : Ts} {ρ : Operand → Value}

theorem cells_run {h : H} {w : World} {sz n : Nat} {v : Value} {l : List Value} (k : ∀ a len cap row, v = .slice (some a) len cap → h.get a.block = some row → RowRel I a.block w row) (hi : In I v) (hl : acells h sz n v = some l) :
    (Builtin.firstCells sz n (ren I v)).run P w = .ok ⟨renL I l⟩ w ∧ InL I l ∧ ((∀ len cap, v ≠ .slice none len cap) → l.length = n * sz) := by
  unfold acells at hl
  split at hl
  · rename_i a len cap
    simp only [In] at hi
    cases hg : h.get a.block with
    | none => simp [H.loadN, hg] at hl
    | some row =>
      obtain ⟨b, hb, hbs, il, hlen, hcell⟩ := load_cells hg (k a len cap row rfl hg) hi.1 hl
      have hc := run_loadCells_ren (P := P) hcell
      rw [hlen] at hc
      refine ⟨by simp only [ren, hb, Builtin.firstCells]; exact hc, il, fun _ => hlen⟩
  · rename_i len cap
    simp at hl; subst hl
    exact ⟨by simp [ren, Builtin.firstCells, renL], by simp [InL], fun e => absurd rfl (e _ _)⟩
  · rename_i s
    split at hl <;> simp at hl
    rename_i hsz
    subst hl
    have hf : flatL (bytesL s n) = true := by
      unfold bytesL
      induction (s.extract 0 n).data.toList with
      | nil => rfl
      | cons b bs ih => simp [flatL, flat] at ih ⊢; exact ih
    obtain ⟨e, i⟩ := flat_renL I _ hf
    refine ⟨?_, i, fun _ => by rw [hsz.1]; simp [bytesL]; omega⟩
    rw [e]
    simp [ren, Builtin.firstCells, bytesL]
    apply Array.ext'
    simp
  · simp at hl

/-- What a grown row is in the world in which it has just been made. -/
theorem zeroCells_size (z : Array Value) (n : Nat) : (Builtin.zeroCells z n).size = n * z.size := by simp [Builtin.zeroCells]


theorem Rel.drew {h : H} {w : World} (k : Rel I h w) : Rel I h w.drew :=
  ⟨fun r row e d => (k.rows r row e d).le (Le.refl I) (fun _ _ e => e) (fun _ _ => rfl), k.lt, k.size, k.base, k.inj, k.clean⟩
theorem Ext.drew (I : Inj) (lo : Nat) (w : World) : Ext I lo w w.drew := ⟨rfl, rfl, rfl, Nat.le_refl _, fun _ _ _ => rfl⟩
theorem dom_of_inA {a : Addr} (h : InA I a) : I.dom a.block := by obtain ⟨p, hp⟩ := h; exact ⟨_, p, hp⟩

theorem lenOf_run {v : Value} {n : Nat} (h : alenOf v = some n) (w : World) : (Builtin.lenOf (ren I v)).run P w = .ok n w := by
  unfold alenOf at h
  split at h
  · rename_i a len cap
    simp at h; subst h
    cases a <;> simp [ren, Builtin.lenOf]
  · simp at h; subst h; simp [ren, Builtin.lenOf]
  · simp at h

theorem append_fit {t u e ty : TypeId} {d : TypeDesc} {sz n sLen sCap : Nat} {base : Option Addr} {x : Value} {new : Array Value} {w : World} (ht : P.underlying t = some (.slice e)) (hu : P.underlying u = some d) (hd : ∀ k, d ≠ .int k)
    (hs : sizeT P e = some sz) (hn : (Builtin.lenOf x).run P w = .ok n w) (hfit : sLen + n ≤ sCap) (hnew : (Builtin.firstCells sz n x).run P w = .ok new w) :
    (Builtin.append_ #[t, u] ty #[.slice base sLen sCap, x]).run P w =
      match base with
      | some a => ((storeCells (a.add (sLen * sz)) new.toList).run P w).andThen fun _ w' => .ok (.slice (some a) (sLen + n) sCap) w'
      | none => .ok (.slice none (sLen + n) sCap) w := by
  unfold Builtin.append_
  simp [run_underlying ht, run_underlying hu, run_sizeT hs, hn, hfit, hnew]
  cases base <;> simp


theorem append_grow {t u e ty : TypeId} {d : TypeDesc} {sz n sLen sCap : Nat} {base : Option Addr} {x z : Value} {ie : TypeInfo} {old new : Array Value} {w : World} (ht : P.underlying t = some (.slice e)) (hu : P.underlying u = some d) (hd : ∀ k, d ≠ .int k)
    (hi : P.info? e = some ie) (hsz : ie.size = sz) (hzv : ∀ w, (zeroValue e).run P w = .ok z w) (hn : (Builtin.lenOf x).run P w = .ok n w) (hfit : sCap < sLen + n) (hsm : small (sLen + n) ie.bytes)
    (hold : (Builtin.firstCells sz sLen (.slice base sLen sCap)).run P w.drew = .ok old w.drew) (hnew : (Builtin.firstCells sz n x).run P w.drew = .ok new w.drew) :
    ∃ C, sLen + n ≤ C ∧ (Builtin.append_ #[t, u] ty #[.slice base sLen sCap, x]).run P w =
      .ok (.slice (some ⟨w.heap.size, 0, none⟩) (sLen + n) C) (w.drew.alloc (.cells (old ++ new ++ Builtin.zeroCells z.cells (C - (sLen + n))) e)) := by
  refine ⟨sLen + n + w.tape w.drawn (.appendCap (sLen + n) sCap e) % (2 ^ 63 - (sLen + n)), by omega, ?_⟩
  have hs : sizeT P e = some sz := by simp [sizeT, hi, hsz]
  unfold small at hsm
  have hle : sLen + n + 1 ≤ 2 ^ 40 := Nat.le_trans (Nat.le_mul_of_pos_right _ (by omega)) hsm
  have hb : (sLen + n) * ie.bytes ≤ 2 ^ 40 := Nat.le_trans (Nat.mul_le_mul (by omega) (by omega)) hsm
  have hcap := nextslicecap_le hfit
  have hcb : Builtin.nextslicecap (sLen + n) sCap * ie.bytes ≤ 2 ^ 48 := by
    have : Builtin.nextslicecap (sLen + n) sCap * ie.bytes ≤ 16 * (sLen + n) * ie.bytes := Nat.mul_le_mul_right _ hcap
    rw [Nat.mul_assoc] at this
    omega
  have h1 : ¬ (sLen + n ≤ sCap) := by omega
  have h2 : ¬ ((9223372036854775807 : Int) < (sLen : Int) + (n : Int) ∧ ie.bytes = 0) := by omega
  have h3 : ¬ (281474976710656 < Builtin.nextslicecap (sLen + n) sCap * ie.bytes) := by omega
  have h4 : (Question.appendCap (sLen + n) sCap e).forced = false := rfl
  have h5 : ∀ t, (Question.appendCap (sLen + n) sCap e).cut t = sLen + n + t % (2 ^ 63 - (sLen + n)) := fun t => rfl
  unfold Builtin.append_
  simp [run_underlying ht, run_underlying hu, run_sizeT hs, hn, h1, run_typeInfo _ hi, h2, h3, h4, hold, hnew, hzv, h5, newRow]


theorem inCap_le {a : Addr} {n c : Nat} (h : InCap I a n c) : n ≤ renCap I a c := by
  unfold InCap at h
  unfold renCap
  cases hs : a.spot with
  | none => rw [hs] at h; exact h
  | some g =>
    rw [hs] at h
    simp only at h ⊢
    split at h
    · rename_i hc; simp only [hc, if_true]; exact h
    · rename_i hc; simp only [hc, if_false]; omega

theorem Rel.newGrow {h : H} {w : World} (k : Rel I h w) {nid : Nat} (hn : ¬ I.dom nid) (hr : nid < h.next) {c : List Value} (hc : InL I c) {e m sz C : Nat} (hlen : c.length = m * sz) (hm : m ≤ C) (zs : Array Value) (hzs : zs.size = (C - m) * sz) :
    let J := I.plus nid (some 0) w.heap.size C
    Rel J (h.put nid (.grow c e sz [c.length] 0)) (w.drew.alloc (.cells (⟨renL I c⟩ ++ zs) e)) ∧ Grows I J w ∧ Ext I nid w (w.drew.alloc (.cells (⟨renL I c⟩ ++ zs) e)) ∧ ren J (.slice (some ⟨nid, 0, some 0⟩) m 0) = .slice (some ⟨w.heap.size, 0, none⟩) m C ∧ In J (.slice (some ⟨nid, 0, some 0⟩) m 0) := by
  intro J
  have hle : Le I J := Le.plus (dom_none hn _)
  obtain ⟨er, ir⟩ := hle.renL c hc
  have hat : J.at_ nid (some 0) = some (w.heap.size, 0) := Inj.plus_at ..
  have hcap : J.cap nid 0 = C := by simp [J, Inj.plus]
  refine ⟨?_, Grows.plus (dom_none hn _) (.inl (Nat.le_refl _)), ⟨rfl, rfl, rfl, by simp, fun b hb _ => heap_alloc_old w.drew _ hb⟩, ?_, ?_⟩
  · refine k.drew.new hn hr (some 0) C _ ⟨ir, rfl, by simp, fun g p e' => ?_, fun g hg hl => ?_⟩
    · by_cases hg : g = 0
      · subst hg; simp
      · rw [Inj.plus_old (by simp [hg])] at e'
        exact absurd ⟨_, _, e'⟩ hn
    · obtain rfl : g = 0 := by simpa using hl
      refine ⟨w.heap.size, ⟨renL I c⟩ ++ zs, hat, k.base, heap_alloc w.drew _, ?_, ?_, ?_⟩
      · simp [glen]
      · show _ = J.cap nid 0 * sz
        rw [hcap]
        simp only [Array.size_append, List.size_toArray, renL_length, hlen, hzs, ← Nat.add_mul]
        congr 1; omega
      · intro i hi
        simp only [glen, List.length_cons, List.length_nil, Nat.zero_add, Nat.sub_self, List.getElem?_cons_zero, Option.getD_some] at hi
        rw [Array.getElem?_append, if_pos (by simpa using hi)]
        show _ = (renL J c)[i]?
        rw [er]
        simp
  · simp only [ren, renA, hat, renCap, hcap]
    simp
  · simp only [In, InA, InCap, hat, hcap]
    exact ⟨⟨_, rfl⟩, by simpa using hm⟩


theorem firstCells_zero {v : Value} {n sz : Nat} (h : alenOf v = some n) (w : World) : (Builtin.firstCells sz 0 (ren I v)).run P w = .ok #[] w := by
  unfold alenOf at h
  split at h
  · rename_i a len cap
    cases a with
    | none => simp [ren, Builtin.firstCells]
    | some a =>
      simp only [ren]
      cases renA I a <;> simp [Builtin.firstCells, loadCells, loadCellsFrom]
  · simp [ren, Builtin.firstCells]
  · simp at h

theorem glen_cons_lt {x : Nat} {lens : List Nat} {g : Nat} (h : g < lens.length) : glen (x :: lens) g = glen lens g := by
  unfold glen
  simp only [List.length_cons]
  rw [show lens.length + 1 - 1 - g = (lens.length - 1 - g) + 1 by omega, List.getElem?_cons_succ]
theorem glen_cons_tip {x : Nat} {lens : List Nat} : glen (x :: lens) lens.length = x := by
  unfold glen
  simp

section sims
variable {o : Oper} {t u e : TypeId} {d : TypeDesc} {x y : Operand} {x' y' : Opd} {ie : TypeInfo} {z : Value} {lo nid : Nat} {h h' : H} {w : World} {v : Value}

theorem exec_append (ho : o.op = .call ⟨.builtin .append, #[x, y], #[t, u]⟩) (w : World) : (execOp ρ o).run P w = ((Builtin.append_ #[t, u] o.type #[ρ x, ρ y]).run P w).andThen fun a w' => .ok (.value a) w' := by
  simp [execOp, ho, resolve, invoke, builtin]

/-- The slice is of known capacity. -/
theorem sim_known (hρ : Ev I ts ρ) (ho : o.op = .call ⟨.builtin .append, #[x, y], #[t, u]⟩) (ht : P.underlying t = some (.slice e)) (hu : P.underlying u = some d) (hd : ∀ k, d ≠ .int k) (hi : P.info? e = some ie)
    (hz : zflat P e = some z) (_h0 : ie.size ≠ 0) (hzl : (cellsL z).length = ie.size) (hx : cOpd x = some x') (hy : cOpd y = some y') (k : Rel I h w) (hnid : ¬ I.dom nid) (hnx : nid < h.next) (hlo : lo ≤ nid)
    {a : Addr} {len cap c n : Nat} {nc : List Value} (hs : ev ts x' = .slice (some a) len cap) (hcap : renCap I a cap = c) (hcap' : ∀ m, m ≤ c → InCap I a m cap) (hn : alenOf (ev ts y') = some n) (hnc : acells h ie.size n (ev ts y') = some nc) (hn0 : n ≠ 0)
    (ha : apKnown lo nid e ie.size ie.bytes a len cap c n nc h = some (v, h')) : Sim P I ρ o lo nid h' v w := by
  obtain ⟨e1, i1⟩ := hρ x x' hx
  obtain ⟨e2, i2⟩ := hρ y y' hy
  rw [hs] at e1 i1
  simp only [In, ren, hcap] at e1 i1
  have hsz : sizeT P e = some ie.size := by simp [sizeT, hi]
  have hyl : (∀ l c', ev ts y' ≠ .slice none l c') := by
    intro l c' hyn
    rw [hyn] at i2 hn
    simp only [In] at i2
    simp [alenOf] at hn
    omega
  have krow : ∀ (a : Addr) len cap row, ev ts y' = .slice (some a) len cap → h.get a.block = some row → RowRel I a.block w row := fun a len cap row hy' hg => by
    rw [hy'] at i2
    exact k.rows _ _ hg (dom_of_inA (by simp only [In] at i2; exact i2.1))
  obtain ⟨b, hb⟩ := renA_some i1.1
  rw [hb] at e1
  unfold apKnown at ha
  split at ha
  · rename_i hfit
    simp only [Option.map_eq_some_iff, Prod.mk.injEq] at ha
    obtain ⟨h'', hst, rfl, rfl⟩ := ha
    obtain ⟨c1, inc, -⟩ := cells_run (P := P) krow i2 hnc
    obtain ⟨ia, ea⟩ := renA_aadd i1.1 (len * ie.size)
    have hblk : (aadd a (len * ie.size)).block = a.block := rfl
    cases hg : h.get a.block with
    | none =>
      unfold H.storeN at hst
      rw [hblk, hg] at hst
      split at hst <;> simp at hst
    | some row =>
      obtain ⟨hlo', b', row', w', hb', rfl, hrun, hrow, hbut, hbase, hat⟩ := store_cells (P := P) (a := aadd a (len * ie.size)) hg (k.rows _ _ hg (dom_of_inA i1.1)) ia inc hst
      rw [ea, hb] at hb'
      simp only [Option.map_some, Option.some.injEq] at hb'
      obtain ⟨s0, hs0⟩ := hat
      refine ⟨I, w', _, ⟨Grows.refl I w, fun _ d => .inl d, fun _ _ _ _ e => e⟩, k.store hbase ⟨s0, hs0⟩ hbut hrow, ?_, hbut.ext hlo' hs0 hbase, ?_, .inl rfl⟩
      · simp only [In]
        exact ⟨i1.1, hcap' _ hfit⟩
      · rw [exec_append ho, e1, e2, append_fit ht hu hd hsz (lenOf_run hn w) hfit c1]
        simp only [hb', hrun, Result.andThen_ok, ren, hb, hcap]
  · rename_i hfit
    split at ha
    · rename_i hsm
      simp only [Option.bind_eq_some_iff] at ha
      obtain ⟨oc, hoc, ha⟩ := ha
      simp only [newGrow, Option.some.injEq, Prod.mk.injEq] at ha
      obtain ⟨rfl, rfl⟩ := ha
      have kd := k.drew
      obtain ⟨c1, inc, hl1⟩ := cells_run (P := P) (w := w.drew) (fun a len cap row hy' hg => kd.rows _ _ hg (dom_of_inA (by rw [hy'] at i2; simp only [In] at i2; exact i2.1))) i2 hnc
      have hoc' : acells h ie.size len (.slice (some a) len cap) = some oc := hoc
      obtain ⟨c2, ioc, hl2⟩ := cells_run (P := P) (w := w.drew) (fun a' len' cap' row hy' hg => kd.rows _ _ hg (by simp at hy'; rw [← hy'.1]; exact dom_of_inA i1.1)) (by simp only [In]; exact i1) hoc'
      simp only [ren, hb, hcap] at c2
      obtain ⟨C, hC, hrun⟩ := append_grow (P := P) (t := t) (u := u) (ty := o.type) ht hu hd hi rfl (fun w => (run_zflat hz w).1) (lenOf_run (I := I) hn w) (by omega) hsm.1 c2 c1
      have hlen : (oc ++ nc).length = (len + n) * ie.size := by
        rw [List.length_append, hl2 (fun _ _ e => by simp at e), hl1 hyl, Nat.add_mul]
      obtain ⟨r1, r2, r3, r4, r5⟩ := k.newGrow (e := e) hnid hnx (InL_append.2 ⟨ioc, inc⟩) hlen hC (Builtin.zeroCells z.cells (C - (len + n))) (by rw [zeroCells_size, cells_eq]; simp [hzl])
      refine ⟨_, _, _, ⟨r2, fun _ d => Inj.plus_dom d, Inj.plus_lo hlo⟩, r1, r5, r3.mono hlo, ?_, .inl rfl⟩
      rw [exec_append ho, e1, e2, hrun, r4]
      simp [renL_append]
    · simp at ha

/-- An append to the latest generation of a row that grows. -/
theorem sim_tip (hρ : Ev I ts ρ) (ho : o.op = .call ⟨.builtin .append, #[x, y], #[t, u]⟩) (ht : P.underlying t = some (.slice e)) (hu : P.underlying u = some d) (hd : ∀ k, d ≠ .int k) (hi : P.info? e = some ie)
    (hz : zflat P e = some z) (_h0 : ie.size ≠ 0) (hzl : (cellsL z).length = ie.size) (hx : cOpd x = some x') (hy : cOpd y = some y') (k : Rel I h w)
    {a : Addr} {g len cap n : Nat} {row : ARow} {nc : List Value} (hs : ev ts x' = .slice (some a) len cap) (hsp : a.spot = some g) (hg : h.get a.block = some row) (hn : alenOf (ev ts y') = some n) (hnc : acells h ie.size n (ev ts y') = some nc) (hn0 : n ≠ 0)
    (ha : apRow lo e ie.size ie.bytes a g len cap n nc h row = some (v, h')) : Sim P I ρ o lo nid h' v w := by
  obtain ⟨e1, i1⟩ := hρ x x' hx
  obtain ⟨e2, i2⟩ := hρ y y' hy
  rw [hs] at e1 i1
  simp only [In] at i1
  have hsz : sizeT P e = some ie.size := by simp [sizeT, hi]
  have hyl : (∀ l c', ev ts y' ≠ .slice none l c') := by
    intro l c' hyn
    rw [hyn] at i2 hn
    simp only [In] at i2
    simp [alenOf] at hn
    omega
  unfold apRow at ha
  split at ha
  · rename_i c e' sz' lens valid
    split at ha <;> simp at ha
    rename_i hc
    obtain ⟨hlo, hval, hg1, rfl, hoff, hcl, rfl, rfl, hsm, hone⟩ := hc
    obtain ⟨rfl, rfl⟩ := ha
    have hrow := k.rows _ _ hg (dom_of_inA i1.1)
    obtain ⟨ic, hh1, hh2, hgen, hmain⟩ := hrow
    obtain ⟨p, hp⟩ := i1.1
    rw [hsp] at hp
    have hglt : g < lens.length := hgen g p hp
    have hgl : glen lens g = c.length := by
      unfold glen
      rw [show lens.length - 1 - g = 0 by omega]
      cases lens with
      | nil => simp at hglt
      | cons q qs => simp at hh1 ⊢; exact hh1
    obtain ⟨b, C, hat, hbase, hheap, hle, hCsz, hcell⟩ := hmain g hval hglt
    have hca : renCap I a 0 = I.cap a.block g := by simp [renCap, hsp]
    have hra : renA I a = some ⟨b, 0, none⟩ := by simp [renA, hsp, hat, hoff]
    simp only [ren, hra, hca] at e1
    have hfresh : I.at_ a.block (some (g + 1)) = none := by
      cases hc' : I.at_ a.block (some (g + 1)) with
      | none => rfl
      | some q => have := hgen _ _ hc'; omega
    have kd := k.drew
    have hlast : lens.length = g + 1 := by omega
    by_cases hfit : len + n ≤ I.cap a.block g
    · -- there is room: in place
      obtain ⟨c1, inc, hl1⟩ := cells_run (P := P) (w := w) (fun a len cap row hy' hg => k.rows _ _ hg (dom_of_inA (by rw [hy'] at i2; simp only [In] at i2; exact i2.1))) i2 hnc
      have hnl := hl1 hyl
      have hroom : c.length + nc.length ≤ C.size := by
        rw [hCsz, ← hcl, hnl, ← Nat.add_mul]
        exact Nat.mul_le_mul_right _ hfit
      have hrl : (renL I nc).length = nc.length := by simp
      have hrun := run_storeCells_at (P := P) b c.length e (renL I nc) 0 C w hheap (by rw [hrl]; omega) (oneCell_ren hone)
      simp only [Nat.add_zero, hrl] at hrun
      generalize hD : (C.toList.take c.length ++ renL I nc ++ C.toList.drop (c.length + nc.length)).toArray = D at hrun
      have hDsz : D.size = C.size := by
        rw [← hD]; simp; omega
      have hDlow : ∀ i, i < c.length → D[i]? = C[i]? := by
        intro i hi
        rw [← hD]
        simp only [List.getElem?_toArray, List.append_assoc, List.getElem?_append, List.getElem?_take, List.length_take, Array.length_toList, Array.getElem?_toList]
        rw [if_pos (by omega), if_pos hi]
      have hDmid : ∀ i, i < c.length + nc.length → D[i]? = (renL I (c ++ nc))[i]? := by
        intro i hi
        by_cases hic : i < c.length
        · rw [hDlow i hic, hcell i (by omega), renL_append, List.getElem?_append_left (by simpa using hic)]
        · rw [← hD, renL_append]
          simp only [List.getElem?_toArray, List.append_assoc, List.getElem?_append, List.length_take, Array.length_toList, renL_length]
          rw [show min c.length C.size = c.length by omega, if_neg hic, if_pos (by omega), if_neg hic]
      have hle' : Le I (I.plus a.block (some (g + 1)) b (I.cap a.block g)) := Le.plus hfresh
      have hcap' : (I.plus a.block (some (g + 1)) b (I.cap a.block g)).cap a.block (g + 1) = I.cap a.block g := by simp [Inj.plus]
      have hcapo : ∀ g', g' ≠ g + 1 → (I.plus a.block (some (g + 1)) b (I.cap a.block g)).cap a.block g' = I.cap a.block g' := fun g' hne => by
        simp only [Inj.plus]; rw [if_neg]; rintro ⟨-, h⟩; simp at h; omega
      have hbut : But b w (w.setRow b D) := But.setRow _ _ _
      obtain ⟨er, ir⟩ := hle'.renL (c ++ nc) (InL_append.2 ⟨ic, inc⟩)
      refine ⟨I.plus a.block (some (g + 1)) b (I.cap a.block g), w.setRow b D, _, ⟨Grows.plus hfresh (.inr ⟨_, hat⟩), fun _ d => .inl ((Inj.plus_dom d).elim id (fun e => e ▸ ⟨_, _, hat⟩)), Inj.plus_lo hlo⟩, ?_, ?_, hbut.ext hlo hat hbase, ?_, .inl rfl⟩
      · refine ⟨fun r' row' e' d' => ?_, fun r' d' => ?_, fun r' s' b' d' e' => ?_, ?_, ?_, k.clean_put (dom_of_inA i1.1)⟩
        · simp only [H.put] at e'
          split at e'
          · rename_i hrr
            simp at e'; subst hrr; subst e'
            refine ⟨ir, by simp, ?_, ?_, ?_⟩
            · intro m hm
              rcases List.mem_cons.1 hm with rfl | hm
              · simp
              · have := hh2 m hm; simp; omega
            · intro g' p' e'
              by_cases hgg : g' = g + 1
              · simp; omega
              · rw [Inj.plus_old (by simp [hgg])] at e'
                have := hgen _ _ e'; simp; omega
            · intro g' hv' hl'
              simp only [List.length_cons] at hl'
              by_cases hgg : g' = g + 1
              · subst hgg
                refine ⟨b, D, Inj.plus_at .., hbase, heap_setRow D hheap, ?_, by rw [hcap', hDsz]; exact hCsz, ?_⟩
                · rw [← hlast, glen_cons_tip, hDsz]; exact hroom
                · intro i hi
                  rw [← hlast, glen_cons_tip] at hi
                  rw [er]; exact hDmid i hi
              · have hlt : g' < lens.length := by omega
                obtain ⟨b2, C2, f1, f2, f3, f4, f5, f6⟩ := hmain g' hv' hlt
                have hgc : glen lens g' ≤ c.length := glen_le hh2 g'
                by_cases hbb : b2 = b
                · subst hbb
                  rw [hheap] at f3
                  simp at f3; subst f3
                  refine ⟨b2, D, by rw [Inj.plus_old (by simp [hgg])]; exact f1, hbase, heap_setRow D hheap, by rw [glen_cons_lt hlt, hDsz]; exact f4, by rw [hcapo g' hgg, hDsz]; exact f5, ?_⟩
                  intro i hi
                  rw [glen_cons_lt hlt] at hi
                  rw [er]; exact hDmid i (by omega)
                · refine ⟨b2, C2, by rw [Inj.plus_old (by simp [hgg])]; exact f1, f2, by rw [hbut.block _ hbb]; exact f3, by rw [glen_cons_lt hlt]; exact f4, by rw [hcapo g' hgg]; exact f5, ?_⟩
                  intro i hi
                  rw [glen_cons_lt hlt] at hi
                  rw [er, f6 i hi, renL_append, List.getElem?_append_left (by simp; omega)]
          · rename_i hrr
            have d2 : I.dom r' := by
              rcases Inj.plus_dom d' with d2 | d2
              · exact d2
              · exact absurd d2 hrr
            refine (k.rows r' row' e' d2).le hle' (fun s' p e'' => by rwa [Inj.plus_old (fun h => hrr h.1)] at e'') (fun b' hbo => hbut.block b' (fun hbb => ?_))
            obtain ⟨s', d3, hb'⟩ := hbo
            subst hbb
            exact hrr (k.inj _ _ _ _ _ _ _ hb' hat hbase)
        · rcases Inj.plus_dom d' with d2 | d2
          · exact k.lt r' d2
          · subst d2; exact k.lt _ (dom_of_inA i1.1)
        · rw [hbut.size]
          by_cases hrs : r' = a.block ∧ s' = some (g + 1)
          · obtain ⟨rfl, rfl⟩ := hrs
            rw [Inj.plus_at] at e'
            simp at e'; rw [← e'.1]; exact k.size _ _ _ _ hat
          · rw [Inj.plus_old hrs] at e'; exact k.size _ _ _ _ e'
        · rw [hbut.size]; exact k.base
        · have old : ∀ r' s' b' d', (I.plus a.block (some (g + 1)) b (I.cap a.block g)).at_ r' s' = some (b', d') → ∃ s'', I.at_ r' s'' = some (b', d') := by
            intro r' s' b' d' e'
            by_cases hrs : r' = a.block ∧ s' = some (g + 1)
            · obtain ⟨rfl, rfl⟩ := hrs
              rw [Inj.plus_at] at e'
              simp at e'; obtain ⟨rfl, rfl⟩ := e'
              exact ⟨_, hat⟩
            · rw [Inj.plus_old hrs] at e'; exact ⟨_, e'⟩
          intro r1 r2 s1 s2 b' d1 d2 e1' e2' hb'
          obtain ⟨_, f1⟩ := old _ _ _ _ e1'
          obtain ⟨_, f2⟩ := old _ _ _ _ e2'
          exact k.inj _ _ _ _ _ _ _ f1 f2 hb'
      · simp only [In, InA, InCap, Inj.plus_at, hcap']
        exact ⟨⟨_, rfl⟩, by simpa using hfit⟩
      · rw [exec_append ho, e1, e2, append_fit ht hu hd hsz (lenOf_run hn w) hfit c1]
        have hadd : (⟨b, 0, none⟩ : Addr).add (len * ie.size) = ⟨b, c.length, none⟩ := by
          rw [hcl]
          unfold Addr.add
          split
          · rename_i hz0; rw [hz0]
          · simp
        simp only [hadd, hrun, Result.andThen_ok, ren, renA, Inj.plus_at, renCap, hcap']
        simp
    · -- a new block
      obtain ⟨c1, inc, hl1⟩ := cells_run (P := P) (w := w.drew) (fun a len cap row hy' hg => kd.rows _ _ hg (dom_of_inA (by rw [hy'] at i2; simp only [In] at i2; exact i2.1))) i2 hnc
      have hnl := hl1 hyl
      have hoc' : acells h ie.size len (.slice (some a) len 0) = some c := by
        simp only [acells, H.loadN, hg, Option.bind_some, loadRow, hsp]
        rw [if_pos ⟨hval, hglt, by rw [hoff, hgl]; omega⟩, hoff, hcl]
        simp [cut]
      obtain ⟨c2, -, -⟩ := cells_run (P := P) (w := w.drew) (fun a' len' cap' row hy' hg => kd.rows _ _ hg (by simp at hy'; rw [← hy'.1]; exact dom_of_inA i1.1)) (by simp only [In]; exact i1) hoc'
      simp only [ren, hra, hca] at c2
      obtain ⟨Cp, hCp, hrun⟩ := append_grow (P := P) (t := t) (u := u) (ty := o.type) ht hu hd hi rfl (fun w => (run_zflat hz w).1) (lenOf_run (I := I) hn w) (by omega) hsm c2 c1
      have hle' : Le I (I.plus a.block (some (g + 1)) w.heap.size Cp) := Le.plus hfresh
      have hcap' : (I.plus a.block (some (g + 1)) w.heap.size Cp).cap a.block (g + 1) = Cp := by simp [Inj.plus]
      have hcapo : ∀ g', g' ≠ g + 1 → (I.plus a.block (some (g + 1)) w.heap.size Cp).cap a.block g' = I.cap a.block g' := fun g' hne => by
        simp only [Inj.plus]; rw [if_neg]; rintro ⟨-, h⟩; simp at h; omega
      obtain ⟨er, ir⟩ := hle'.renL (c ++ nc) (InL_append.2 ⟨ic, inc⟩)
      generalize hz9 : Builtin.zeroCells z.cells (Cp - (len + n)) = zs at hrun
      have hzs : zs.size = (Cp - (len + n)) * ie.size := by rw [← hz9, zeroCells_size, cells_eq]; simp [hzl]
      generalize hob : Obj.cells ((⟨renL I c⟩ : Array Value) ++ ⟨renL I nc⟩ ++ zs) e = ob at hrun
      have hold : ∀ b', b' < w.heap.size → (w.drew.alloc ob).heap[b']? = w.heap[b']? := fun b' hb' => heap_alloc_old w.drew ob hb'
      refine ⟨I.plus a.block (some (g + 1)) w.heap.size Cp, w.drew.alloc ob, _, ⟨Grows.plus hfresh (.inl (Nat.le_refl _)), fun _ d => .inl ((Inj.plus_dom d).elim id (fun e => e ▸ dom_of_inA i1.1)), Inj.plus_lo hlo⟩, ?_, ?_, ⟨rfl, rfl, rfl, by simp, fun b' hb' _ => hold b' hb'⟩, ?_, .inl rfl⟩
      · refine ⟨fun r' row' e' d' => ?_, fun r' d' => ?_, fun r' s' b' d' e' => ?_, ?_, ?_, k.clean_put (dom_of_inA i1.1)⟩
        · simp only [H.put] at e'
          split at e'
          · rename_i hrr
            simp at e'; subst hrr; subst e'
            refine ⟨ir, by simp, ?_, ?_, ?_⟩
            · intro m hm
              rcases List.mem_cons.1 hm with rfl | hm
              · simp
              · have := hh2 m hm; simp; omega
            · intro g' p' e'
              by_cases hgg : g' = g + 1
              · simp; omega
              · rw [Inj.plus_old (by simp [hgg])] at e'
                have := hgen _ _ e'; simp; omega
            · intro g' hv' hl'
              simp only [List.length_cons] at hl'
              by_cases hgg : g' = g + 1
              · subst hgg
                refine ⟨w.heap.size, (⟨renL I c⟩ : Array Value) ++ ⟨renL I nc⟩ ++ zs, Inj.plus_at .., k.base, by rw [← hob]; exact heap_alloc w.drew _, ?_, ?_, ?_⟩
                · rw [← hlast, glen_cons_tip]; simp
                · rw [hcap']
                  simp only [Array.size_append, List.size_toArray, renL_length, hnl, ← hcl, hzs, ← Nat.add_mul]
                  congr 1; omega
                · intro i hi
                  rw [← hlast, glen_cons_tip] at hi
                  rw [er, renL_append, Array.getElem?_append, if_pos (by simpa using hi)]
                  simp
              · have hlt : g' < lens.length := by omega
                obtain ⟨b2, C2, f1, f2, f3, f4, f5, f6⟩ := hmain g' hv' hlt
                have hgc : glen lens g' ≤ c.length := glen_le hh2 g'
                refine ⟨b2, C2, by rw [Inj.plus_old (by simp [hgg])]; exact f1, f2, by rw [hold _ (k.size _ _ _ _ f1)]; exact f3, by rw [glen_cons_lt hlt]; exact f4, by rw [hcapo g' hgg]; exact f5, ?_⟩
                intro i hi
                rw [glen_cons_lt hlt] at hi
                rw [er, f6 i hi, renL_append, List.getElem?_append_left (by simp; omega)]
          · rename_i hrr
            have d2 : I.dom r' := by
              rcases Inj.plus_dom d' with d2 | d2
              · exact d2
              · exact absurd d2 hrr
            refine (k.rows r' row' e' d2).le hle' (fun s' p e'' => by rwa [Inj.plus_old (fun h => hrr h.1)] at e'') (fun b' hbo => ?_)
            obtain ⟨s', d3, hb'⟩ := hbo
            exact hold _ (k.size _ _ _ _ hb')
        · rcases Inj.plus_dom d' with d2 | d2
          · exact k.lt r' d2
          · subst d2; exact k.lt _ (dom_of_inA i1.1)
        · by_cases hrs : r' = a.block ∧ s' = some (g + 1)
          · obtain ⟨rfl, rfl⟩ := hrs
            rw [Inj.plus_at] at e'
            simp at e'; simp [← e'.1]
          · rw [Inj.plus_old hrs] at e'; have := k.size _ _ _ _ e'; simp; omega
        · have := k.base; simp [Inj.plus]; omega
        · intro r1 r2 s1 s2 b' d1 d2 e1' e2' hb'
          by_cases h1 : r1 = a.block ∧ s1 = some (g + 1)
          · by_cases h2 : r2 = a.block ∧ s2 = some (g + 1)
            · rw [h1.1, h2.1]
            · rw [Inj.plus_old h2] at e2'
              obtain ⟨rfl, rfl⟩ := h1
              rw [Inj.plus_at] at e1'
              have := k.size _ _ _ _ e2'
              simp at e1'; omega
          · rw [Inj.plus_old h1] at e1'
            by_cases h2 : r2 = a.block ∧ s2 = some (g + 1)
            · obtain ⟨rfl, rfl⟩ := h2
              rw [Inj.plus_at] at e2'
              have := k.size _ _ _ _ e1'
              simp at e2'; omega
            · rw [Inj.plus_old h2] at e2'
              exact k.inj _ _ _ _ _ _ _ e1' e2' hb'
      · simp only [In, InA, InCap, Inj.plus_at, hcap']
        exact ⟨⟨_, rfl⟩, by simpa using hCp⟩
      · rw [exec_append ho, e1, e2, hrun]
        simp only [Result.andThen_ok, ren, renA, Inj.plus_at, renCap, hcap']
        simp
  · simp at ha


/-- append, whole. -/
theorem sim_append (hρ : Ev I ts ρ) (ho : o.op = .call ⟨.builtin .append, #[x, y], #[t, u]⟩) (ht : P.underlying t = some (.slice e)) (hu : P.underlying u = some d) (hd : ∀ k, d ≠ .int k) (hi : P.info? e = some ie)
    (hz : zflat P e = some z) (h0 : ie.size ≠ 0) (hzl : (cellsL z).length = ie.size) (hx : cOpd x = some x') (hy : cOpd y = some y') (k : Rel I h w) (hnid : ¬ I.dom nid) (hnx : nid < h.next) (hlo : lo ≤ nid)
    (ha : xAppend lo nid e ie.size ie.bytes (ev ts x') (ev ts y') h = some (v, h')) : Sim P I ρ o lo nid h' v w := by
  obtain ⟨e1, i1⟩ := hρ x x' hx
  obtain ⟨e2, i2⟩ := hρ y y' hy
  have hsz : sizeT P e = some ie.size := by simp [sizeT, hi]
  unfold xAppend at ha
  simp only [Option.bind_eq_some_iff] at ha
  obtain ⟨n, hn, ha⟩ := ha
  split at ha
  · rename_i hn0
    subst hn0
    split at ha <;> simp at ha
    rename_i a len cap hs
    obtain ⟨rfl, rfl⟩ := ha
    rw [hs] at e1 i1
    have hrun := firstCells_zero (P := P) (I := I) (sz := ie.size) hn w
    refine ⟨I, w, _, ⟨Grows.refl I w, fun _ d => .inl d, fun _ _ _ _ e => e⟩, k, by rw [hs]; exact i1, Ext.refl I lo w, ?_, .inl rfl⟩
    cases a with
    | none =>
      simp only [In] at i1
      obtain ⟨rfl, rfl⟩ := i1
      simp only [ren] at e1
      rw [exec_append ho, e1, e2, append_fit ht hu hd hsz (lenOf_run hn w) (by omega) hrun, hs]
      simp [ren]
    | some a =>
      simp only [In] at i1
      obtain ⟨b, hb⟩ := renA_some i1.1
      simp only [ren, hb] at e1
      rw [exec_append ho, e1, e2, append_fit ht hu hd hsz (lenOf_run hn w) (by have := inCap_le i1.2; omega) hrun, hs]
      simp [storeCells, ren, hb]
  · rename_i hn0
    simp only [Option.bind_eq_some_iff] at ha
    obtain ⟨nc, hnc, ha⟩ := ha
    split at ha
    · rename_i a len cap hs
      unfold apAddr at ha
      split at ha
      · rename_i hsp
        exact sim_known hρ ho ht hu hd hi hz h0 hzl hx hy k hnid hnx hlo hs (by simp [renCap, hsp]) (fun m hm => by simp [InCap, hsp]; exact hm) hn hnc hn0 ha
      · rename_i g hsp
        split at ha
        · rename_i hodd
          exact sim_known hρ ho ht hu hd hi hz h0 hzl hx hy k hnid hnx hlo hs (by simp [renCap, hsp, hodd]) (fun m hm => by simp [InCap, hsp, hodd]; exact hm) hn hnc hn0 ha
        · simp only [Option.bind_eq_some_iff] at ha
          obtain ⟨row, hg, ha⟩ := ha
          exact sim_tip hρ ho ht hu hd hi hz h0 hzl hx hy k hs hsp hg hn hnc hn0 ha
    · rename_i hs
      split at ha
      · rename_i hsm
        simp only [newGrow, Option.some.injEq, Prod.mk.injEq] at ha
        obtain ⟨rfl, rfl⟩ := ha
        rw [hs] at e1
        simp only [ren] at e1
        have kd := k.drew
        have hyl : (∀ l c', ev ts y' ≠ .slice none l c') := by
          intro l c' hyn
          rw [hyn] at i2 hn
          simp only [In] at i2
          simp [alenOf] at hn
          omega
        obtain ⟨c1, inc, hl1⟩ := cells_run (P := P) (w := w.drew) (fun a len cap row hy' hg => kd.rows _ _ hg (dom_of_inA (by rw [hy'] at i2; simp only [In] at i2; exact i2.1))) i2 hnc
        obtain ⟨C, hC, hrun⟩ := append_grow (P := P) (t := t) (u := u) (ty := o.type) (sLen := 0) (sCap := 0) (base := none) (old := #[]) ht hu hd hi rfl (fun w => (run_zflat hz w).1) (lenOf_run (I := I) hn w) (by omega) (by rw [Nat.zero_add]; exact hsm) (by simp [Builtin.firstCells]) c1
        rw [Nat.zero_add] at hC hrun
        obtain ⟨r1, r2, r3, r4, r5⟩ := k.newGrow (e := e) hnid hnx inc (hl1 hyl) hC (Builtin.zeroCells z.cells (C - n)) (by rw [zeroCells_size, cells_eq]; simp [hzl])
        refine ⟨_, _, _, ⟨r2, fun _ d => Inj.plus_dom d, Inj.plus_lo hlo⟩, r1, r5, r3.mono hlo, ?_, .inl rfl⟩
        rw [exec_append ho, e1, e2, hrun, r4]
        simp
      · simp at ha
    · simp at ha

theorem sim_copy (hρ : Ev I ts ρ) {sz : Nat} (ho : o.op = .call ⟨.builtin .copy, #[x, y], #[t, u]⟩) (ht : P.underlying t = some (.slice e)) (hs : sizeT P e = some sz) (hx : cOpd x = some x') (hy : cOpd y = some y') (k : Rel I h w)
    (ha : xCopy lo sz (ev ts x') (ev ts y') h = some (v, h')) : Sim P I ρ o lo nid h' v w := by
  obtain ⟨e1, i1⟩ := hρ x x' hx
  obtain ⟨e2, i2⟩ := hρ y y' hy
  have hexec : (execOp ρ o).run P w = ((Builtin.copy_ #[t, u] o.type #[ρ x, ρ y]).run P w).andThen fun a w' => .ok (.value a) w' := by
    simp [execOp, ho, resolve, invoke, builtin]
  unfold xCopy at ha
  split at ha
  · rename_i base len cap hsx
    rw [hsx] at e1 i1
    simp only [Option.bind_eq_some_iff] at ha
    obtain ⟨m, hm, nc, hnc, ha⟩ := ha
    obtain ⟨c1, inc, hl1⟩ := cells_run (P := P) (w := w) (fun a len cap row hy' hg => k.rows _ _ hg (dom_of_inA (by rw [hy'] at i2; simp only [In] at i2; exact i2.1))) i2 hnc
    have hmin : Nat.min m len = if m ≤ len then m else len := by
      show min m len = _
      rw [Nat.min_def]
    generalize (if m ≤ len then m else len) = nn at *
    have hlen := lenOf_run (P := P) (I := I) hm w
    split at ha
    · rename_i a
      simp only [In] at i1
      obtain ⟨b, hb⟩ := renA_some i1.1
      simp only [ren, hb] at e1
      simp only [Option.map_eq_some_iff, Prod.mk.injEq] at ha
      obtain ⟨h'', hst, rfl, rfl⟩ := ha
      split at hst
      · rename_i hn0
        simp at hst; subst hst
        refine ⟨I, w, _, ⟨Grows.refl I w, fun _ d => .inl d, fun _ _ _ _ e => e⟩, k, by simp [In], Ext.refl I lo w, ?_, .inl rfl⟩
        rw [hn0] at c1 hnc
        have hnc0 : renL I nc = [] := by
          have h00 := firstCells_zero (P := P) (I := I) (sz := sz) hm w
          rw [h00] at c1
          injection c1 with c1 _
          exact (congrArg Array.toList c1).symm
        rw [hexec, e1, e2]
        simp [Builtin.copy_, run_underlying ht, run_sizeT hs, hlen, hmin, hn0, c1, hnc0, storeCells, goInt, ren]
      · rename_i hn0
        cases hg : h.get a.block with
        | none =>
          unfold H.storeN at hst
          rw [hg] at hst
          split at hst <;> simp at hst
        | some row =>
          obtain ⟨hlo', b', row', w', hb', rfl, hrun, hrow, hbut, hbase, hat⟩ := store_cells (P := P) hg (k.rows _ _ hg (dom_of_inA i1.1)) i1.1 inc hst
          rw [hb] at hb'; simp at hb'; subst hb'
          obtain ⟨s0, hs0⟩ := hat
          refine ⟨I, w', _, ⟨Grows.refl I w, fun _ d => .inl d, fun _ _ _ _ e => e⟩, k.store hbase ⟨s0, hs0⟩ hbut hrow, by simp [In], hbut.ext hlo' hs0 hbase, ?_, .inl rfl⟩
          rw [hexec, e1, e2]
          simp [Builtin.copy_, run_underlying ht, run_sizeT hs, hlen, hmin, c1, hrun, goInt, ren]
    · simp at ha
      obtain ⟨rfl, rfl⟩ := ha
      simp only [ren] at e1
      refine ⟨I, w, _, ⟨Grows.refl I w, fun _ d => .inl d, fun _ _ _ _ e => e⟩, k, by simp [In], Ext.refl I lo w, ?_, .inl rfl⟩
      rw [hexec, e1, e2]
      simp [Builtin.copy_, run_underlying ht, run_sizeT hs, hlen, hmin, c1, goInt, ren]
  · simp at ha

end sims
end
end AE
