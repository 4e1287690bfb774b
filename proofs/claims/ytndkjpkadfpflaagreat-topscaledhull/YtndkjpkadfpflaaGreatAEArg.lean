/- Arguments that come in: values of any shape of numbers, truth values, strings, structs, arrays, slices, laid as rows that are only read. -/
import Derived.Test.YtndkjpkadfpflaaGreatAEthree
import Derived.OpenShut
set_option linter.unusedVariables false
set_option linter.unusedSimpArgs false
set_option linter.unusedSectionVars false
namespace AE
open Go Go.RowKit Go.ChangeShapes Go.WideShapes

/-! ### shapes -/

inductive Sh where
  | int (k : IntKind)
  | bool
  | str
  | nil
  | cons (a b : Sh)
  | slice (e : Sh)
def Sh.size : Sh → Nat
  | .int _ | .bool | .str | .slice _ => 1
  | .nil => 0
  | .cons a b => a.size + b.size
def Sh.rep (s : Sh) : Nat → Sh
  | 0 => .nil
  | n + 1 => .cons s (s.rep n)
mutual
inductive IsSh (P : Program) : Sh → TypeId → Prop
  | int {k : IntKind} {t : TypeId} (ht : P.underlying t = some (.int k)) : IsSh P (.int k) t
  | bool {t : TypeId} (ht : P.underlying t = some .bool) : IsSh P .bool t
  | str {t : TypeId} (ht : P.underlying t = some .string) : IsSh P .str t
  | slice {s : Sh} {t e : TypeId} (ht : P.underlying t = some (.slice e)) (hc : P.cellsOf e = s.size) (h0 : 0 < s.size) (h : IsSh P s e) : IsSh P (.slice s) t
  | struct {s : Sh} {t : TypeId} {fs : Array Field} (ht : P.underlying t = some (.struct fs)) (hc : P.cellsOf t = s.size) (h : Fields P s fs.toList 0) : IsSh P s t
  | arr {s : Sh} {t e : TypeId} {n : Nat} (ht : P.underlying t = some (.array n e)) (hc : P.cellsOf e = s.size) (hct : P.cellsOf t = n * s.size) (h : IsSh P s e) : IsSh P (s.rep n) t
inductive Fields (P : Program) : Sh → List Field → Nat → Prop
  | nil {off : Nat} : Fields P .nil [] off
  | cons {a b : Sh} {f : Field} {fs : List Field} {off : Nat} (ho : f.offset = off) (hc : P.cellsOf f.type = a.size) (h : IsSh P a f.type) (r : Fields P b fs (off + a.size)) : Fields P (.cons a b) (f :: fs) off
end

/-- Cells of a shape, in a heap: all that they name lies below m. -/
def Fits (h : H) (m : Nat) : Sh → List Value → Prop
  | .int k, cs => ∃ n, cs = [.int k n] ∧ k.min ≤ n ∧ n ≤ k.max
  | .bool, cs => ∃ b, cs = [.bool b]
  | .str, cs => ∃ s : ByteArray, cs = [.string s] ∧ s.size ≤ maxLen
  | .nil, cs => cs = []
  | .cons a b, cs => ∃ c1 c2, cs = c1 ++ c2 ∧ Fits h m a c1 ∧ Fits h m b c2
  | .slice e, cs => ∃ b a n c, cs = [.slice b n c] ∧ n ≤ c ∧ (c ≤ maxLen ∨ (far ≤ c ∧ n = 0)) ∧ (0 < n → b = some a) ∧ (0 < n → a.block < m ∧ a.spot = none) ∧ ((b = none ∧ c = 0) ∨ (∃ a', b = some a' ∧ c = far) ∨ ∃ a', b = some a' ∧ a'.block < m ∧ h.loadN a' 0 = some [] ∧ a'.spot = none ∧ c ≤ maxLen) ∧
      ∀ i, i < n → ∃ l, h.loadN (aadd a (i * e.size)) e.size = some l ∧ Fits h m e l
theorem Fits.same {h h' : H} {m m' : Nat} (s : Same m h h') (hm : m ≤ m') : ∀ {sh : Sh} {cs : List Value}, Fits h m sh cs → Fits h' m' sh cs
  | .int _, _, k => k
  | .bool, _, k => k
  | .str, _, k => k
  | .nil, _, k => k
  | .cons a b, _, ⟨c1, c2, e, k1, k2⟩ => ⟨c1, c2, e, k1.same s hm, k2.same s hm⟩
  | .slice e, _, ⟨b, a, n, c, e1, e2, e3, e4, e5, e6, e7⟩ => ⟨b, a, n, c, e1, e2, e3, e4, fun h => ⟨Nat.lt_of_lt_of_le (e5 h).1 hm, (e5 h).2⟩, e6.imp id (Or.imp id fun ⟨a', f1, f2, f3, f4⟩ => ⟨a', f1, Nat.lt_of_lt_of_le f2 hm, by rw [s.loadN f2]; exact f3, f4⟩), fun i hi => by
      obtain ⟨l, h1, h2⟩ := e7 i hi
      exact ⟨l, by rw [s.loadN (a := aadd a (i * e.size)) (e5 (by omega)).1]; exact h1, h2.same s hm⟩⟩
theorem Fits.length {h : H} {m : Nat} : ∀ {sh : Sh} {cs : List Value}, Fits h m sh cs → cs.length = sh.size
  | .int _, _, ⟨_, e, _⟩ => by rw [e]; rfl
  | .bool, _, ⟨_, e⟩ => by rw [e]; rfl
  | .str, _, ⟨_, e, _⟩ => by rw [e]; rfl
  | .nil, _, e => by rw [e]; rfl
  | .cons a b, _, ⟨c1, c2, e, k1, k2⟩ => by rw [e, List.length_append, k1.length, k2.length]; rfl
  | .slice e, _, ⟨b, a, n, c, e1, _⟩ => by rw [e1]; rfl

/-! ### laying -/

/-- A row that is only read, of any cells. -/
theorem lay_row {I : Inj} {h : H} {W : World} (k : Rel I h W) (hb : I.base = W.heap.size) {b d : Nat} {c : List Value} (hlt : b < W.heap.size) (hi : InL I c) (hc : ∀ i v, c[i]? = some v → W.cell? ⟨b, d + i, none⟩ = some (ren I v)) :
    Le I (I.lay h.next b d) ∧ Rel (I.lay h.next b d) ((h.bump 1).put h.next (.ro c)) W := by
  have hnd : ¬ I.dom h.next := fun x => by have := k.lt _ x; omega
  have hle : Le I (I.lay h.next b d) := by
    refine ⟨fun r s p e => ?_, fun _ _ _ _ => rfl, rfl⟩
    simp only [Inj.lay]
    rw [if_neg]
    · exact e
    · rintro ⟨rfl, rfl⟩; exact hnd ⟨_, _, e⟩
  refine ⟨hle, fun r row e dm => ?_, fun r dm => ?_, fun r s b' d' e => ?_, by simp [Inj.lay, hb], fun r r' s s' b1 d1 d2 e1 e2 h1 => ?_, fun r hr => ?_⟩
  · simp only [H.put] at e
    split at e
    · rename_i hr
      subst hr
      simp only [Option.some.injEq] at e
      subst e
      refine ⟨(hle.renL c hi).2, b, d, Inj.lay_at .., fun i v hv => ?_⟩
      rw [hc i v hv, (hle.ren v (InL_get hi hv)).1]
    · rename_i hr
      obtain ⟨s, p, hp⟩ := dm
      have hp' : I.at_ r s = some p := by simp only [Inj.lay] at hp; rwa [if_neg (fun x => hr x.1)] at hp
      refine (k.rows r row e ⟨s, p, hp'⟩).le hle (fun s' p' e' => ?_) (fun _ _ => rfl)
      simp only [Inj.lay] at e'
      rwa [if_neg (fun x => hr x.1)] at e'
  · obtain ⟨s, p, hp⟩ := dm
    simp only [Inj.lay] at hp
    split at hp
    · rename_i hr; rw [hr.1]; exact Nat.lt_succ_self _
    · have := k.lt r ⟨s, p, hp⟩; exact Nat.lt_succ_of_lt this
  · simp only [Inj.lay] at e
    split at e
    · simp only [Option.some.injEq, Prod.mk.injEq] at e; omega
    · exact k.size _ _ _ _ e
  · simp only [Inj.lay] at e1 e2 h1
    split at e1
    · simp only [Option.some.injEq, Prod.mk.injEq] at e1; omega
    · split at e2
      · simp only [Option.some.injEq, Prod.mk.injEq] at e2; omega
      · exact k.inj _ _ _ _ _ _ _ e1 e2 h1
  · simp only [H.put, H.bump] at hr ⊢
    rw [if_neg (by omega)]
    exact k.clean r (by omega)

/-- From I and h, something more has come in: I' and h'. -/
structure Came (I : Inj) (h : H) (W : World) (I' : Inj) (h' : H) : Prop where
  le : Le I I'
  base : I'.base = I.base
  rel : Rel I' h' W
  same : Same h.next h h'
  next : h.next ≤ h'.next
theorem Came.refl {I : Inj} {h : H} {W : World} (k : Rel I h W) : Came I h W I h := ⟨Le.refl I, rfl, k, Same.refl _ _, Nat.le_refl _⟩
theorem Came.trans {I I' I'' : Inj} {h h' h'' : H} {W : World} (a : Came I h W I' h') (b : Came I' h' W I'' h'') : Came I h W I'' h'' :=
  ⟨a.le.trans b.le, b.base.trans a.base, b.rel, a.same.trans (b.same.mono a.next), Nat.le_trans a.next b.next⟩
/-- Cells that came in, under I and h. -/
structure Here (I : Inj) (h : H) (s : Sh) (cs cs' : List Value) : Prop where
  fits : Fits h h.next s cs'
  inn : InL I cs'
  ren : renL I cs' = cs
theorem Here.came {I I' : Inj} {h h' : H} {W : World} {s : Sh} {cs cs' : List Value} (k : Here I h s cs cs') (a : Came I h W I' h') : Here I' h' s cs cs' :=
  ⟨k.fits.same a.same a.next, (a.le.renL _ k.inn).2, by rw [(a.le.renL _ k.inn).1]; exact k.ren⟩

section
variable {P : Program} {T : Type} {enc : TypeId × Value → T} {W : World}
/-- The reading of some cells, by a type. -/
def Rd (enc : TypeId × Value → T) (P : Program) (W : World) (t : TypeId) (cs : List Value) : Prop := ∃ fuel y, DataW.trod enc P W 0 (fun _ => true) true fuel t cs = some y

/-- Cells that are read can be laid. -/
def Lays (enc : TypeId × Value → T) (P : Program) (W : World) (s : Sh) : Prop :=
  ∀ t, IsSh P s t → ∀ cs, Rd enc P W t cs → ∀ I h, Rel I h W → I.base = W.heap.size → ∃ h' I' cs', Came I h W I' h' ∧ Here I' h' s cs cs'
def LaysF (enc : TypeId × Value → T) (P : Program) (W : World) (s : Sh) : Prop :=
  ∀ fs off, Fields P s fs off → ∀ cs : List Value, cs.length = off + s.size → (∀ f, f ∈ fs → Rd enc P W f.type ((cs.drop f.offset).take (P.cellsOf f.type))) → ∀ I h, Rel I h W → I.base = W.heap.size → ∃ h' I' cs', Came I h W I' h' ∧ Here I' h' s (cs.drop off) cs'

theorem lays_rep {s : Sh} (ih : Lays enc P W s) {e : TypeId} (hs : IsSh P s e) : ∀ (n : Nat) (cs : List Value), cs.length = n * s.size → (∀ i, i < n → Rd enc P W e ((cs.drop (i * s.size)).take s.size)) → ∀ I h, Rel I h W → I.base = W.heap.size →
    ∃ h' I' cs', Came I h W I' h' ∧ Here I' h' (s.rep n) cs cs'
  | 0, cs, hl, _, I, h, k, hb => ⟨h, I, [], Came.refl k, rfl, by simp [InL], by rw [show cs = [] from List.eq_nil_of_length_eq_zero (by omega)]; simp [renL]⟩
  | n + 1, cs, hl, hr, I, h, k, hb => by
    obtain ⟨h1, I1, c1, a1, k1⟩ := ih e hs _ (hr 0 (by omega)) I h k hb
    rw [Nat.add_mul, Nat.one_mul] at hl
    obtain ⟨h2, I2, c2, a2, k2⟩ := lays_rep ih hs n (cs.drop s.size) (by rw [List.length_drop]; omega) (fun i hi => by
      have := hr (i + 1) (by omega)
      rw [List.drop_drop]
      rwa [show s.size + i * s.size = (i + 1) * s.size by rw [Nat.add_mul]; omega]) I1 h1 a1.rel (a1.base.trans hb)
    have k1' := k1.came a2
    refine ⟨h2, I2, c1 ++ c2, a1.trans a2, ⟨c1, c2, rfl, k1'.fits, k2.fits⟩, InL_append.2 ⟨k1'.inn, k2.inn⟩, ?_⟩
    rw [renL_append, k1'.ren, k2.ren, Nat.zero_mul, List.drop_zero, List.take_append_drop]

/-- Elements of a slice, one after the other. -/
theorem lays_els {s : Sh} (ih : Lays enc P W s) {e : TypeId} (hs : IsSh P s e) (c : Nat → List Value) : ∀ (n : Nat), (∀ i, i < n → Rd enc P W e (c i)) → ∀ I h, Rel I h W → I.base = W.heap.size →
    ∃ (h' : H) (I' : Inj) (F : Nat → List Value), Came I h W I' h' ∧ ∀ i, i < n → Here I' h' s (c i) (F i)
  | 0, _, I, h, k, hb => ⟨h, I, fun _ => [], Came.refl k, fun i hi => by omega⟩
  | n + 1, hr, I, h, k, hb => by
    obtain ⟨h1, I1, F, a1, k1⟩ := lays_els ih hs c n (fun i hi => hr i (by omega)) I h k hb
    obtain ⟨h2, I2, c2, a2, k2⟩ := ih e hs _ (hr n (by omega)) I1 h1 a1.rel (a1.base.trans hb)
    refine ⟨h2, I2, fun i => if i = n then c2 else F i, a1.trans a2, fun i hi => ?_⟩
    by_cases hin : i = n
    · subst hin; simp only [if_true]; exact k2
    · simp only [if_neg hin]; exact (k1 i (by omega)).came a2
/-- Elements in a row. -/
def flatF (F : Nat → List Value) : Nat → List Value
  | 0 => []
  | n + 1 => flatF F n ++ F n
theorem flatF_length {F : Nat → List Value} {z : Nat} : ∀ {n : Nat}, (∀ i, i < n → (F i).length = z) → (flatF F n).length = n * z
  | 0, _ => by simp [flatF]
  | n + 1, h => by rw [flatF, List.length_append, flatF_length (fun i hi => h i (by omega)), h n (by omega), Nat.add_mul, Nat.one_mul]
theorem flatF_cut {F : Nat → List Value} {z : Nat} : ∀ {n : Nat}, (∀ i, i < n → (F i).length = z) → ∀ i, i < n → ((flatF F n).drop (i * z)).take z = F i
  | 0, _, i, hi => by omega
  | n + 1, h, i, hi => by
    have hl := flatF_length (F := F) (z := z) (n := n) (fun i hi => h i (by omega))
    rw [flatF]
    by_cases hin : i = n
    · subst hin
      rw [List.drop_append_of_le_length (by omega), List.drop_of_length_le (by omega), List.nil_append, List.take_of_length_le (by rw [h i (by omega)]; omega)]
    · have h1 : i * z + z ≤ n * z := by
        have : (i + 1) * z ≤ n * z := Nat.mul_le_mul_right _ (by omega)
        rw [Nat.add_mul] at this; omega
      rw [List.drop_append_of_le_length (by omega), List.take_append_of_le_length (by rw [List.length_drop]; omega)]
      exact flatF_cut (fun i hi => h i (by omega)) i (by omega)
theorem flatF_get {F : Nat → List Value} {z : Nat} {n : Nat} (h : ∀ i, i < n → (F i).length = z) {j : Nat} {v : Value} (hv : (flatF F n)[j]? = some v) : ∃ i r, i < n ∧ r < z ∧ j = i * z + r ∧ (F i)[r]? = some v := by
  have hlt := (List.getElem?_eq_some_iff.1 hv).1
  have hl := flatF_length h
  have hz : 0 < z := by
    rcases Nat.eq_zero_or_pos z with h0 | h0
    · rw [h0] at hl; omega
    · exact h0
  have hi : j / z < n := Nat.div_lt_of_lt_mul (by rw [Nat.mul_comm]; omega)
  refine ⟨j / z, j % z, hi, Nat.mod_lt _ hz, by rw [Nat.mul_comm]; exact (Nat.div_add_mod j z).symm, ?_⟩
  have hc := flatF_cut h (j / z) hi
  rw [← hc, List.getElem?_take, if_pos (Nat.mod_lt _ hz), List.getElem?_drop]
  rw [show j / z * z + j % z = j by rw [Nat.mul_comm]; exact Nat.div_add_mod j z]
  exact hv
theorem flatF_in {I : Inj} {F : Nat → List Value} : ∀ {n : Nat}, (∀ i, i < n → InL I (F i)) → InL I (flatF F n)
  | 0, _ => by simp [flatF, InL]
  | n + 1, h => InL_append.2 ⟨flatF_in (fun i hi => h i (by omega)), h n (by omega)⟩

theorem add_add' (a : Addr) (i j : Nat) (hs : a.spot = none) : (a.add i).add j = ⟨a.block, a.off + (i + j), none⟩ := by
  obtain ⟨b, o, s⟩ := a
  simp only at hs
  subst hs
  unfold Addr.add
  by_cases h1 : i = 0 <;> by_cases h2 : j = 0 <;> simp [h1, h2, Nat.add_assoc]
theorem cell_ok {a : Addr} {v : Value} (h : W.cell? a = some v) : a.block < W.heap.size ∧ a.spot = none := by
  unfold World.cell? at h
  split at h
  · rename_i hh
    refine ⟨(Array.getElem?_eq_some_iff.1 hh).1, ?_⟩
    split at h
    · cases h
    · rename_i hs; simpa using hs
  · cases h
theorem loadN_ro {h : H} {r off n : Nat} {c l : List Value} (hg : h.get r = some (.ro c)) (hl : cut c off n = some l) : h.loadN ⟨r, off, none⟩ n = some l := by
  simp [H.loadN, hg, loadRow, hl]
theorem add_zero' (a : Addr) : a.add 0 = a := by simp [Addr.add]

/-- A slice that came in. -/
theorem lays_slice {s : Sh} (ih : Lays enc P W s) : Lays enc P W (.slice s) := by
  intro t hs cs hr I h k hb
  have hlay : ∀ e, P.underlying t = some (.slice e) → P.cellsOf e = s.size → 0 < s.size → IsSh P s e → ∃ h' I' cs', Came I h W I' h' ∧ Here I' h' (.slice s) cs cs' := by
    intro e ht hc h0 he
    obtain ⟨fuel, y, hy⟩ := hr
    rcases DataW.trod_slice ht hy with ⟨rfl, _⟩ | ⟨a, len, cap, elems, rest, m, _, rfl, _, hba, hl, hm, hlen, hel, hsp, _⟩
    · exact ⟨h, I, [.slice none 0 0], Came.refl k, ⟨none, ⟨0, 0, none⟩, 0, 0, rfl, by omega, .inl (by omega), fun h => by omega, fun h => by omega, .inl ⟨rfl, rfl⟩, fun i hi => by omega⟩, by simp [InL, In], by simp [renL, AE.ren]⟩
    obtain ⟨hrl, hrest⟩ := hsp rfl
    have hcell : ∀ i, i < len → ∃ ci, W.cells? 0 (a.add (i * s.size)) s.size = some ci ∧ Rd enc P W e ci := fun i hi => by
      have := hel i hi
      rw [hc] at this
      have hi2 : i < elems.length := by omega
      rw [List.getElem?_eq_getElem hi2] at this
      obtain ⟨ci, h1, h2⟩ := Option.bind_eq_some_iff.1 this
      exact ⟨ci, h1, m, _, h2⟩
    have hok : (0 < len ∨ 0 < cap) → a.block < W.heap.size ∧ a.spot = none := by
      intro hpos
      have hone : ∃ c0, W.cells? 0 (a.add 0) s.size = some c0 := by
        rcases Nat.eq_zero_or_pos len with hl0 | hl0
        · have hcp : 0 < cap := by omega
          have := hrest 0 (by omega)
          rw [hc, hl0, Nat.zero_add, Nat.zero_mul] at this
          have hi2 : 0 < rest.length := by omega
          rw [List.getElem?_eq_getElem hi2] at this
          obtain ⟨ci, h1, h2⟩ := Option.bind_eq_some_iff.1 this
          exact ⟨ci, h1⟩
        · obtain ⟨ci, h1, _⟩ := hcell 0 hl0
          rw [Nat.zero_mul] at h1
          exact ⟨ci, h1⟩
      obtain ⟨c0, h1⟩ := hone
      obtain ⟨-, hl1, hget⟩ := World.cells?_some h1
      have hg0 := hget 0 h0
      rw [add_zero', add_zero', List.getElem?_eq_getElem (by omega)] at hg0
      exact cell_ok hg0
    have hch : ∃ c : Nat → List Value, ∀ i, i < len → W.cells? 0 (a.add (i * s.size)) s.size = some (c i) ∧ Rd enc P W e (c i) :=
      ⟨fun i => if hi : i < len then (hcell i hi).choose else [], fun i hi => by simp only [dif_pos hi]; exact (hcell i hi).choose_spec⟩
    obtain ⟨c, hcc⟩ := hch
    obtain ⟨h1, I1, F, a1, k1⟩ := lays_els ih he c len (fun i hi => (hcc i hi).2) I h k hb
    have hF : ∀ i, i < len → (F i).length = s.size := fun i hi => (k1 i hi).fits.length
    by_cases hnear : a.block < W.heap.size ∧ a.spot = none
    · obtain ⟨hlt, hspot⟩ := hnear
      obtain ⟨hle, hrel⟩ := lay_row (b := a.block) (d := a.off) (c := flatF F len) a1.rel (a1.base.trans hb) hlt (flatF_in fun i hi => (k1 i hi).inn) (fun j v hv => by
        obtain ⟨i, r, hi, hrz, rfl, hfr⟩ := flatF_get hF hv
        obtain ⟨-, hl1, hget⟩ := World.cells?_some (hcc i hi).1
        have hg := hget r hrz
        rw [add_add' a _ _ hspot] at hg
        rw [hg, ← (k1 i hi).ren, renL_getElem?, hfr]
        rfl)
      have a2 : Came I1 h1 W (I1.lay h1.next a.block a.off) ((h1.bump 1).put h1.next (.ro (flatF F len))) :=
        ⟨hle, rfl, hrel, ((Same.refl _ _).bump).put (Nat.le_refl _), by simp [put_next, bump_next]⟩
      have hfar : cap < far := by unfold maxLen at hm; unfold far; omega
      refine ⟨_, _, [.slice (some ⟨h1.next, 0, none⟩) len cap], a1.trans a2, ⟨some ⟨h1.next, 0, none⟩, ⟨h1.next, 0, none⟩, len, cap, rfl, hl, .inl hm, fun _ => rfl, fun _ => ⟨by simp [put_next, bump_next], rfl⟩, .inr (.inr ⟨_, rfl, by simp [put_next, bump_next], ?_, rfl, hm⟩), fun i hi => ?_⟩, ?_, ?_⟩
      · simp [H.loadN, H.put, loadRow, cut]
      · refine ⟨F i, ?_, ((k1 i hi).came a2).fits⟩
        have hlf := flatF_length hF
        have h3 : i * s.size + s.size ≤ len * s.size := by
          have : (i + 1) * s.size ≤ len * s.size := Nat.mul_le_mul_right _ (by omega)
          rw [Nat.add_mul] at this; omega
        refine loadN_ro (off := 0 + i * s.size) (c := flatF F len) (put_get rfl) ?_
        unfold cut
        rw [if_pos (by omega), Nat.zero_add, flatF_cut hF i hi]
      · simp only [InL, and_true]
        rw [In_sl hfar]
        exact ⟨⟨_, Inj.lay_at ..⟩, hl⟩
      · simp only [renL]
        rw [ren_sl hfar]
        simp only [renA, Inj.lay_at, renCap, Nat.add_zero]
        obtain ⟨ab, ao, as⟩ := a
        simp only at hspot
        subst hspot
        rfl
    · have hcap0 : cap = 0 := by
        rcases Nat.eq_zero_or_pos cap with h0 | h0
        · exact h0
        · exact absurd (hok (.inr h0)) hnear
      have hlen0 : len = 0 := by omega
      subst hcap0 hlen0
      refine ⟨h1, I1, [.slice (some a) 0 far], a1, ⟨some a, a, 0, far, rfl, by omega, .inr ⟨Nat.le_refl _, rfl⟩, fun h => by omega, fun h => by omega, .inr (.inl ⟨_, rfl, rfl⟩), fun i hi => by omega⟩, ?_, ?_⟩
      · simp only [InL, and_true]
        rw [In_far (Nat.le_refl _)]
        exact ⟨rfl, .inl rfl⟩
      · simp only [renL]
        rw [ren_far (Nat.le_refl _), farA_far, farC_far]
  generalize hsh : Sh.slice s = s' at hs
  cases hs with
  | slice ht hc h0 he => cases hsh; exact hlay _ ht hc h0 he
  | struct ht hc hf => subst hsh; cases hf
  | @arr s0 t0 e0 n0 ht hc hct he => cases n0 <;> simp [Sh.rep] at hsh
  | _ => cases hsh

/-- Cells of any shape that are read can be laid. -/
theorem lays (s : Sh) : Lays enc P W s ∧ LaysF enc P W s := by
  have noF : ∀ s : Sh, (∀ fs off, ¬ Fields P s fs off) → LaysF enc P W s := fun s hn fs off hf => absurd hf (hn fs off)
  -- a struct, an array, of what is known
  have wide : ∀ s : Sh, LaysF enc P W s → (∀ n s0, s = s0.rep n → 0 < n → Lays enc P W s0) → ∀ t, IsSh P s t → (∀ fs, P.underlying t = some (.struct fs) → P.cellsOf t = s.size → Fields P s fs.toList 0 → ∀ cs, Rd enc P W t cs → ∀ I h, Rel I h W → I.base = W.heap.size → ∃ h' I' cs', Came I h W I' h' ∧ Here I' h' s cs cs') ∧
      (∀ n e s0, s = s0.rep n → P.underlying t = some (.array n e) → P.cellsOf e = s0.size → P.cellsOf t = n * s0.size → IsSh P s0 e → ∀ cs, Rd enc P W t cs → ∀ I h, Rel I h W → I.base = W.heap.size → ∃ h' I' cs', Came I h W I' h' ∧ Here I' h' s cs cs') := by
    intro s hF hA t _
    refine ⟨fun fs ht hc hf cs hr I h k hb => ?_, fun n e s0 e1 ht hc hct he cs hr I h k hb => ?_⟩
    · obtain ⟨fuel, y, hy⟩ := hr
      obtain ⟨xs, m, -, -, hl, hxl, hx⟩ := DataW.trod_struct ht hy
      have := hF fs.toList 0 hf cs (by omega) (fun f hfm => by
        obtain ⟨i, hi, hfi⟩ := List.mem_iff_getElem.1 hfm
        have hi' : i < fs.size := by simpa using hi
        have h1 := hx i f (by rw [← hfi]; simp [hi'])
        rw [List.getElem?_eq_getElem (by omega)] at h1
        exact ⟨m, _, h1⟩) I h k hb
      simpa using this
    · subst e1
      obtain ⟨fuel, y, hy⟩ := hr
      obtain ⟨xs, m, -, -, hl, hxl, hx⟩ := DataW.trod_array ht hy
      rcases Nat.eq_zero_or_pos n with h0 | h0
      · subst h0
        exact ⟨h, I, [], Came.refl k, rfl, by simp [InL], by rw [show cs = [] from List.eq_nil_of_length_eq_zero (by omega)]; simp [renL]⟩
      · refine lays_rep (hA n s0 rfl h0) he n cs (by omega) (fun i hi => ?_) I h k hb
        have h1 := hx i hi
        rw [hc, List.getElem?_eq_getElem (by omega)] at h1
        exact ⟨m, _, h1⟩
  induction s with
  | int q =>
    refine ⟨?_, noF _ fun fs off hf => by cases hf⟩
    intro t hs cs hr I h k hb
    obtain ⟨fuel, y, hy⟩ := hr
    generalize hsh : Sh.int q = s' at hs
    cases hs with
    | int ht =>
      cases hsh
      obtain ⟨n, rfl, -, hw⟩ := DataW.trod_int ht hy
      refine ⟨h, I, [.int q n], Came.refl k, ⟨n, rfl, ?_⟩, by simp [InL, In], by simp [renL, AE.ren]⟩
      simpa [Lit.wf] using hw
    | struct ht hc hf => subst hsh; cases hf
    | @arr s0 t0 e0 n0 ht hc hct he => cases n0 <;> simp [Sh.rep] at hsh
    | _ => cases hsh
  | bool =>
    refine ⟨?_, noF _ fun fs off hf => by cases hf⟩
    intro t hs cs hr I h k hb
    obtain ⟨fuel, y, hy⟩ := hr
    generalize hsh : Sh.bool = s' at hs
    cases hs with
    | bool ht =>
      obtain ⟨n, rfl, -⟩ := DataW.trod_bool ht hy
      exact ⟨h, I, [.bool n], Came.refl k, ⟨n, rfl⟩, by simp [InL, In], by simp [renL, AE.ren]⟩
    | struct ht hc hf => subst hsh; cases hf
    | @arr s0 t0 e0 n0 ht hc hct he => cases n0 <;> simp [Sh.rep] at hsh
    | _ => cases hsh
  | str =>
    refine ⟨?_, noF _ fun fs off hf => by cases hf⟩
    intro t hs cs hr I h k hb
    obtain ⟨fuel, y, hy⟩ := hr
    generalize hsh : Sh.str = s' at hs
    cases hs with
    | str ht =>
      obtain ⟨n, rfl, -, hw⟩ := DataW.trod_string ht hy
      exact ⟨h, I, [.string n], Came.refl k, ⟨n, rfl, hw⟩, by simp [InL, In], by simp [renL, AE.ren]⟩
    | struct ht hc hf => subst hsh; cases hf
    | @arr s0 t0 e0 n0 ht hc hct he => cases n0 <;> simp [Sh.rep] at hsh
    | _ => cases hsh
  | nil =>
    have hF : LaysF enc P W .nil := by
      intro fs off hf cs hl hr I h k hb
      exact ⟨h, I, [], Came.refl k, rfl, by simp [InL], by rw [List.drop_of_length_le (by simp only [Sh.size] at hl; omega)]; simp [renL]⟩
    refine ⟨?_, hF⟩
    intro t hs cs hr I h k hb
    have hw := wide .nil hF (fun n s0 e h0 => by cases n <;> simp [Sh.rep] at e h0) t hs
    generalize hsh : Sh.nil = s' at hs
    cases hs with
    | struct ht hc hf => subst hsh; exact hw.1 _ ht hc hf cs hr I h k hb
    | arr ht hc hct he => exact (by
        have := hw.2 _ _ _ hsh ht hc hct he cs hr I h k hb
        rw [← hsh]; exact this)
    | _ => cases hsh
  | cons a b iha ihb =>
    have hF : LaysF enc P W (.cons a b) := by
      intro fs off hf cs hl hr I h k hb
      cases hf with
      | @cons _ _ f fs' _ ho hc ha hrest =>
        simp only [Sh.size] at hl
        have hra := hr f (by simp)
        rw [ho, hc] at hra
        obtain ⟨h1, I1, c1, a1, k1⟩ := iha.1 _ ha _ hra I h k hb
        obtain ⟨h2, I2, c2, a2, k2⟩ := ihb.2 fs' _ hrest cs (by omega) (fun g hg => hr g (by simp [hg])) I1 h1 a1.rel (a1.base.trans hb)
        have k1' := k1.came a2
        refine ⟨h2, I2, c1 ++ c2, a1.trans a2, ⟨c1, c2, rfl, k1'.fits, k2.fits⟩, InL_append.2 ⟨k1'.inn, k2.inn⟩, ?_⟩
        rw [renL_append, k1'.ren, k2.ren, ← List.drop_drop, List.take_append_drop]
    refine ⟨?_, hF⟩
    intro t hs cs hr I h k hb
    have hA : ∀ n s0, Sh.cons a b = s0.rep n → 0 < n → Lays enc P W s0 := fun n s0 e h0 => by
      cases n with
      | zero => omega
      | succ n => simp only [Sh.rep, Sh.cons.injEq] at e; rw [← e.1]; exact iha.1
    have hw := wide (.cons a b) hF hA t hs
    generalize hsh : Sh.cons a b = s' at hs
    cases hs with
    | struct ht hc hf => subst hsh; exact hw.1 _ ht hc hf cs hr I h k hb
    | arr ht hc hct he => exact (by
        have := hw.2 _ _ _ hsh ht hc hct he cs hr I h k hb
        rw [← hsh]; exact this)
    | _ => cases hsh
  | slice e ihe => exact ⟨lays_slice ihe.1, noF _ fun fs off hf => by cases hf⟩
end
end AE
