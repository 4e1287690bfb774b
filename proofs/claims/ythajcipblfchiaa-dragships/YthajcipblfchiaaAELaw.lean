/- From what a law's function comes to over the abstract heap, to what it comes to in a world: arguments that came in. -/
import Derived.Test.YthajcipblfchiaaAESym
import Derived.ProofKit
import Derived.Below
set_option linter.unusedVariables false
set_option linter.unusedSimpArgs false
set_option linter.unusedSectionVars false
namespace AE
open Go Go.RowKit Go.ChangeShapes Go.WideShapes Go.ChangeAt

theorem AW.law {P : Program} {f : FuncId} {h : H} {args : List Value} {I : Inj} {W : World} (aw : AW P f h.next h args (fun v _ => v = .bool true)) (k : Rel I h W) (hb : I.base = W.heap.size) (ia : InL I args) :
    Calls P f ⟨renL I args⟩ W fun e w' => e = .returned (.bool true) ∧ Below W.heap.size W w' := by
  obtain ⟨v, h', rfl, a⟩ := aw
  refine (a.calls I W k ia).mono ?_
  rintro e w' ⟨J, W1, -, rfl⟩
  refine ⟨by simp [ren], ⟨W1.ext.os, W1.ext.tape, W1.ext.output, W1.ext.size, fun b hlt => W1.ext.block b hlt fun r s d _ hbase => by omega⟩⟩

/-- A beginning: nothing yet. -/
def inj0 (W : World) : Inj := ⟨fun _ _ => none, fun _ _ => 0, W.heap.size⟩
theorem rel0 (W : World) : Rel (inj0 W) H.empty W :=
  ⟨fun r row h => by simp [H.empty] at h, fun r ⟨s, p, e⟩ => by simp [inj0] at e, fun r s b d e => by simp [inj0] at e, Nat.le_refl _, fun r r' s s' b d d' e => by simp [inj0] at e, fun _ _ => rfl⟩

/-- A row that is only read, where it lies. -/
def Inj.lay (I : Inj) (r b d : Nat) : Inj := ⟨fun r' s' => if r' = r ∧ s' = none then some (b, d) else I.at_ r' s', I.cap, I.base⟩
theorem Inj.lay_at (I : Inj) (r b d : Nat) : (I.lay r b d).at_ r none = some (b, d) := by simp [Inj.lay]
theorem lay_ro {I : Inj} {h : H} {W : World} (k : Rel I h W) (hb : I.base = W.heap.size) {b d : Nat} {c : List Value} (hlt : b < W.heap.size) (hf : flatL c = true) (hc : ∀ i v, c[i]? = some v → W.cell? ⟨b, d + i, none⟩ = some v) :
    Le I (I.lay h.next b d) ∧ Rel (I.lay h.next b d) ((h.bump 1).put h.next (.ro c)) W := by
  have hnd : ¬ I.dom h.next := fun x => by have := k.lt _ x; omega
  have hle : Le I (I.lay h.next b d) := by
    refine ⟨fun r s p e => ?_, fun _ _ _ _ => rfl, rfl⟩
    simp only [Inj.lay]
    rw [if_neg]
    · exact e
    · rintro ⟨rfl, rfl⟩; exact hnd ⟨_, _, e⟩
  refine ⟨hle, fun r row e dm => ?_, fun r dm => ?_, fun r s b' d' e => ?_, by simp [Inj.lay, hb], fun r r' s s' b1 d1 d2 e1 e2 h1 => ?_, fun r hr => ?_⟩
  · simp only [H.put] at e
    split at e
    · rename_i hr
      subst hr
      simp only [Option.some.injEq] at e
      subst e
      obtain ⟨e1, i1⟩ := flat_renL (I.lay h.next b d) c hf
      refine ⟨i1, b, d, Inj.lay_at .., fun i v hv => ?_⟩
      rw [hc i v hv]
      have := congrArg (·[i]?) e1
      simp only [renL_getElem?, hv, Option.map_some, Option.some.injEq] at this
      rw [this]
    · rename_i hr
      obtain ⟨s, p, hp⟩ := dm
      have hp' : I.at_ r s = some p := by simp only [Inj.lay] at hp; rwa [if_neg (fun x => hr x.1)] at hp
      refine (k.rows r row e ⟨s, p, hp'⟩).le hle (fun s' p' e' => ?_) (fun _ _ => rfl)
      simp only [Inj.lay] at e'
      rwa [if_neg (fun x => hr x.1)] at e'
  · obtain ⟨s, p, hp⟩ := dm
    simp only [Inj.lay] at hp
    split at hp
    · rename_i hr; rw [hr.1]; exact Nat.lt_succ_self _
    · have := k.lt r ⟨s, p, hp⟩; exact Nat.lt_succ_of_lt this
  · simp only [Inj.lay] at e
    split at e
    · simp only [Option.some.injEq, Prod.mk.injEq] at e; omega
    · exact k.size _ _ _ _ e
  · simp only [Inj.lay] at e1 e2 h1
    split at e1
    · simp only [Option.some.injEq, Prod.mk.injEq] at e1; omega
    · split at e2
      · simp only [Option.some.injEq, Prod.mk.injEq] at e2; omega
      · exact k.inj _ _ _ _ _ _ _ e1 e2 h1
  · simp only [H.put, H.bump] at hr ⊢
    rw [if_neg (by omega)]
    exact k.clean r (by omega)

/-- Integers as cells. -/
def zCells (k : IntKind) (zs : List Int) : List Value := zs.map (Value.int k)
theorem zCells_flat (k : IntKind) : ∀ zs, flatL (zCells k zs) = true
  | [] => rfl
  | z :: zs => by simp only [zCells, List.map_cons, flatL, flat, Bool.true_and]; exact zCells_flat k zs

/-- What is known of a slice of integers that came in. -/
structure SliceIn (h h' : H) (I I' : Inj) (W : World) (c0 : Value) (b : Option Addr) (a : Addr) (n c : Nat) (f : Nat → Int) : Prop where
  le : Le I I'
  base : I'.base = I.base
  rel : Rel I' h' W
  same : Same h.next h h'
  next : h.next ≤ h'.next
  inn : In I' (.slice b n c)
  ren : AE.ren I' (.slice b n c) = c0
  e : 0 < n → b = some a
  ints : Ints h' a n f
  r : 0 < n → a.block < h'.next
  z : b = none ∨ ∃ a', b = some a' ∧ a'.block < h'.next ∧ h'.loadN a' 0 = some []
  l : n ≤ 9223372036854775807
  wf : ∀ i, i < n → (Lit.int .i64 (f i)).wf = true

theorem slice_in {P : Program} {H' : Type} {enc : TypeId × Value → H'} {I : Inj} {h : H} {W : World} (k : Rel I h W) (hb : I.base = W.heap.size) {t e : TypeId} {c0 : Value} {fuel : Nat} {y : DataW H' × List MemPlace}
    (ht : P.underlying t = some (.slice e)) (he : P.underlying e = some (.int .i64)) (hc : P.cellsOf e = 1) (hy : DataW.trod enc P W 0 (fun _ => true) true fuel t [c0] = some y) (hok : ∀ a len cap, c0 = .slice (some a) len cap → a.block < W.heap.size ∧ a.spot = none) :
    ∃ h' I' b a n c f, SliceIn h h' I I' W c0 b a n c f := by
  rcases open_ints ht he hc hy with ⟨hcs, _⟩ | ⟨a, len, cap, zs, hcs, _, hl, hm, hz, _, hcell, hwz⟩
  · simp only [List.cons.injEq, and_true] at hcs
    subst hcs
    exact ⟨h, I, none, ⟨0, 0, none⟩, 0, 0, fun _ => 0, Le.refl I, rfl, k, Same.refl _ _, Nat.le_refl _, by simp [In], by simp [AE.ren], fun h => by omega, fun i hi => by omega, fun h => by omega, .inl rfl, by omega, fun i hi => by omega⟩
  · simp only [List.cons.injEq, and_true] at hcs
    subst hcs
    obtain ⟨hlt, hspot⟩ := hok a len cap rfl
    obtain ⟨ab, ao, as⟩ := a
    simp only at hspot hlt
    subst hspot
    simp only [if_true] at hz
    have hcells : ∀ i v, (zCells .i64 zs)[i]? = some v → W.cell? ⟨ab, ao + i, none⟩ = some v := fun i v hv => by
      have hi : i < zs.length := by
        have := (List.getElem?_eq_some_iff.1 hv).1
        simpa [zCells] using this
      have := hcell i hi
      have hadd : (⟨ab, ao, none⟩ : Addr).add i = ⟨ab, ao + i, none⟩ := by
        simp only [Addr.add]
        split
        · rename_i h0; rw [h0]; rfl
        · rfl
      rw [hadd] at this
      rw [this]
      simp only [zCells, List.getElem?_map, List.getElem?_eq_getElem hi, Option.map_some, Option.some.injEq] at hv
      rw [← hv, List.getD_eq_getElem?_getD, List.getElem?_eq_getElem hi]
      rfl
    obtain ⟨hle, hrel⟩ := lay_ro k hb hlt (zCells_flat .i64 zs) hcells
    have hint : ∀ i, i < zs.length → ((h.bump 1).put h.next (.ro (zCells .i64 zs))).loadN (aadd ⟨h.next, 0, none⟩ i) 1 = some [.int .i64 (zs.getD i 0)] := fun i hi => by
      have hlen : (zCells .i64 zs).length = zs.length := by simp [zCells]
      have hg : (zCells .i64 zs)[i]? = some (.int .i64 (zs.getD i 0)) := by
        simp [zCells, List.getElem?_eq_getElem hi]
      obtain ⟨hlt', hge⟩ := List.getElem?_eq_some_iff.1 hg
      have hcut : cut (zCells .i64 zs) (0 + i) 1 = some [.int .i64 (zs.getD i 0)] := by
        unfold cut
        have hle : 0 + i + 1 ≤ (zCells .i64 zs).length := by omega
        rw [if_pos hle, Nat.zero_add, List.drop_eq_getElem_cons hlt', List.take_succ_cons, List.take_zero, hge]
      simp only [H.loadN, H.put, aadd, if_true, Option.bind_some, loadRow]
      exact hcut
    refine ⟨_, _, some ⟨h.next, 0, none⟩, ⟨h.next, 0, none⟩, len, cap, fun i => zs.getD i 0, hle, rfl, hrel, ?_, by simp [put_next, bump_next], ?_, ?_, fun _ => rfl, fun i hi => hint i (by omega), fun _ => by simp [put_next, bump_next], .inr ⟨_, rfl, by simp [put_next, bump_next], ?_⟩, by unfold maxLen at hm; omega, fun i hi => ?_⟩
    · exact ((Same.refl _ _).bump).put (Nat.le_refl _)
    · simp only [In, InA, InCap]
      exact ⟨⟨_, Inj.lay_at ..⟩, hl⟩
    · simp only [AE.ren, renA, Inj.lay_at, renCap, Nat.add_zero]
    · simp [H.loadN, H.put, loadRow, cut]
    · have hi' : i < zs.length := by omega
      have : zs.getD i 0 ∈ zs := by
        rw [List.getD_eq_getElem?_getD, List.getElem?_eq_getElem hi']
        exact List.getElem_mem hi'
      exact hwz _ this
end AE
