/- Walking compiled code step by step: lemmas, one a kind of step. -/
import Derived.Test.YthajcipblfchiaaAECode
set_option linter.unusedVariables false
set_option linter.unusedSimpArgs false
set_option linter.unusedSectionVars false
namespace AE
open Go

/-! ### temporaries -/

noncomputable def putT (ts : Ts) (d : Nat) (v : Value) : Ts := fun j => Bool.rec (motive := fun _ => Value) (ts j) v (Nat.beq j d)
theorem putT_eq (ts : Ts) (d : Nat) (v : Value) : putT ts d v = setV ts d v := by
  funext j
  unfold putT setV
  by_cases h : j = d
  · subst h; simp [Nat.beq_refl]
  · rw [if_neg h]
    have : Nat.beq j d = false := by
      cases e : Nat.beq j d
      · rfl
      · exact absurd (Nat.eq_of_beq_eq_true e) h
    rw [this]
noncomputable def aputT (ts : Ts) (v : Value) : Option Nat → Ts
  | some d => putT ts d v
  | none => ts
theorem aputT_eq (ts : Ts) (v : Value) (d : Option Nat) : aputT ts v d = aput ts v d := by cases d <;> simp [aputT, aput, putT_eq]

/-- Temporaries, as a list over a ground. -/
noncomputable def look (g : Ts) : List (Nat × Value) → Ts
  | [] => g
  | p :: l => fun j => Bool.rec (motive := fun _ => Value) (look g l j) p.2 (Nat.beq j p.1)
def Holds (ts : Ts) : List (Nat × Value) → Prop
  | [] => True
  | p :: l => ts p.1 = p.2 ∧ Holds ts l
theorem look_self {ts : Ts} : ∀ {l : List (Nat × Value)}, Holds ts l → look ts l = ts
  | [], _ => rfl
  | p :: l, h => by
    funext j
    simp only [look]
    rw [look_self h.2]
    cases e : Nat.beq j p.1
    · rfl
    · have := Nat.eq_of_beq_eq_true e
      subst this
      exact h.1.symm

theorem w64_id {x : Int} (hx : -9223372036854775808 ≤ x ∧ x < 9223372036854775808) : w64 x = x := by
  unfold w64 IntKind.wrap
  simp [IntKind.bits, IntKind.signed]
  omega
/-- Two lists are one: kept as a word, so that no tactic closes it at once. -/
def Is (a b : List Value) : Prop := a = b
theorem Is.eq {a b : List Value} (h : Is a b) : a = b := h
theorem Is.rfl {a : List Value} : Is a a := Eq.refl a
theorem Is.nil : Is [] [] := Eq.refl _
theorem Is.cons {a a' : Value} {as as' : List Value} (h1 : a = a') (h2 : Is as as') : Is (a :: as) (a' :: as') := by unfold Is at *; rw [h1, h2]
theorem wrap_u64 {x : Int} (hx : 0 ≤ x ∧ x < 18446744073709551616) : IntKind.u64.wrap x = x := by
  unfold IntKind.wrap
  simp [IntKind.bits, IntKind.signed]
  omega
theorem wrap_u32 {x : Int} (hx : 0 ≤ x ∧ x < 4294967296) : IntKind.u32.wrap x = x := by
  unfold IntKind.wrap
  simp [IntKind.bits, IntKind.signed]
  omega
theorem int_of {v : Value} {k : IntKind} {a b : Int} (h : v = .int k a) (e : a = b) : v = .int k b := by rw [h, e]

/-- Filling cells, part by part, each list written out. -/
inductive AFill (ts : Ts) : List Value → List (Nat × Nat × Opd) → List Value → Prop
  | nil {z : List Value} : AFill ts z [] z
  | cons {z z' l cs : List Value} {off size : Nat} {x : Opd} {ps : List (Nat × Nat × Opd)} (hc : Is (cellsL (ev ts x)) cs) (hn : cs.length = size) (hl : Nat.ble (off + size) z.length = true) (hs : Is (splice z off cs) z') (h : AFill ts z' ps l) : AFill ts z ((off, size, x) :: ps) l
theorem AFill.eq {ts : Ts} {z : List Value} {ps : List (Nat × Nat × Opd)} {l : List Value} (h : AFill ts z ps l) : afill ts z ps = some l := by
  induction h with
  | nil => rfl
  | cons hc hn hl hs _ ih =>
    have hl' := Nat.le_of_ble_eq_true hl
    have hc := hc.eq
    have hs := hs.eq
    subst hc hs
    simp only [afill]
    rw [if_pos ⟨hn, hl'⟩]
    exact ih

section
variable {P : Program} {lo base i : Nat} {q : Bool} {K : Ts → H → Prop} {ts : Ts} {h h' : H} {v : Value} {xs : List AOper} {d : Option Nat} {g : Option (Nat × Bool)}

theorem x_op {ao : AOp} (hg : awanted ts g = true) (ha : aop P lo (base + i) ts h ao = some (v, h')) (hr : Run P lo q base (i + 1) xs K (aputT ts v d) h') : Run P lo q base i (⟨d, g, .op ao⟩ :: xs) K ts h := by
  rw [aputT_eq] at hr
  simp only [Run, hg, if_true]
  exact ⟨v, h', ha, hr⟩
theorem x_skip {p : Nat × Bool} {ins : AIns} (hg : awanted ts (some p) = false) (hr : Run P lo q base (i + 1) xs K (aputT ts undef d) h) : Run P lo q base i (⟨d, some p, ins⟩ :: xs) K ts h := by
  rw [aputT_eq] at hr
  simp only [Run, hg, Bool.false_eq_true, if_false]
  exact hr
theorem x_nil (hr : K ts h) : Run P lo q base i [] K ts h := hr

/-! #### one operation -/

variable (hg : awanted ts g = true)
include hg

theorem x_load1 {a : Opd} {ad : Addr} {v0 : Value} (e : ev ts a = .pointer (some ad)) (hl : h.loadN ad 1 = some [v0]) (hv : v0 = v) (hr : Run P lo q base (i + 1) xs K (aputT ts v d) h) : Run P lo q base i (⟨d, g, .op (.load1 a)⟩ :: xs) K ts h :=
  x_op hg (v := v) (h' := h) (by simp [aop, keep, xLoad1, e, hl, hv]) hr
theorem x_loadn {n : Nat} {a : Opd} {ad : Addr} {l0 l : List Value} (e : ev ts a = .pointer (some ad)) (hl : h.loadN ad n = some l0) (hv : Is (l0) l) (hr : Run P lo q base (i + 1) xs K (aputT ts (.agg ⟨l⟩) d) h) : Run P lo q base i (⟨d, g, .op (.loadn n a)⟩ :: xs) K ts h :=
  x_op hg (v := .agg ⟨l⟩) (h' := h) (by simp [aop, keep, xLoadn, e, hl, hv.eq]) hr
theorem x_val {ao : AOp} {v0 : Value} (ha : aop P lo (base + i) ts h ao = some (v0, h)) (hv : v0 = v) (hr : Run P lo q base (i + 1) xs K (aputT ts v d) h) : Run P lo q base i (⟨d, g, .op ao⟩ :: xs) K ts h := by
  subst hv; exact x_op hg ha hr
theorem x_agg {ao : AOp} {l0 l : List Value} (ha : aop P lo (base + i) ts h ao = some (.agg ⟨l0⟩, h)) (hv : Is (l0) l) (hr : Run P lo q base (i + 1) xs K (aputT ts (.agg ⟨l⟩) d) h) : Run P lo q base i (⟨d, g, .op ao⟩ :: xs) K ts h := by
  have hv := hv.eq; subst hv; exact x_op hg ha hr
theorem x_build {z : List Value} {ps : List (Nat × Nat × Opd)} {l : List Value} (ha : AFill ts z ps l) (hr : Run P lo q base (i + 1) xs K (aputT ts (.agg ⟨l⟩) d) h) : Run P lo q base i (⟨d, g, .op (.build z ps)⟩ :: xs) K ts h := by
  exact x_op hg (by simp [aop, keep, ha.eq]) hr
theorem x_fieldn {off n : Nat} {x : Opd} {l0 l : List Value} (hx : ev ts x = .agg ⟨l0⟩) (ha : cut l0 off n = some l) (hr : Run P lo q base (i + 1) xs K (aputT ts (.agg ⟨l⟩) d) h) : Run P lo q base i (⟨d, g, .op (.fieldn off n x)⟩ :: xs) K ts h :=
  x_op hg (by simp [aop, keep, xFieldn, hx, ha]) hr
theorem x_bslice {z : List Value} {ps : List (Nat × Nat × Opd)} {len : Nat} {e : TypeId} {l : List Value} (ha : AFill ts z ps l) (hr : Run P lo q base (i + 1) xs K (aputT ts (.slice (some ⟨base + i, 0, none⟩) len len) d) (h.put (base + i) (.cells l e))) :
    Run P lo q base i (⟨d, g, .op (.bslice z ps len e)⟩ :: xs) K ts h := by
  exact x_op hg (by simp [aop, ha.eq]) hr
theorem x_box {x : Opd} {e : TypeId} {l : List Value} (hv : Is (cellsL (ev ts x)) l) (hr : Run P lo q base (i + 1) xs K (aputT ts (.pointer (some ⟨base + i, 0, none⟩)) d) (h.put (base + i) (.cells l e))) : Run P lo q base i (⟨d, g, .op (.box x e)⟩ :: xs) K ts h := by
  have hv := hv.eq; subst hv; exact x_op hg rfl hr
theorem x_alloc {z : List Value} {e : TypeId} (hr : Run P lo q base (i + 1) xs K (aputT ts (.pointer (some ⟨base + i, 0, none⟩)) d) (h.put (base + i) (.cells z e))) : Run P lo q base i (⟨d, g, .op (.alloc z e)⟩ :: xs) K ts h :=
  x_op hg rfl hr
theorem x_mkfn {fn : Fn} {fs cs : List Opd} {l m : List Value} (hl : Is (fs.map (ev ts)) l) (hm : Is (cs.map (ev ts)) m) (hr : Run P lo q base (i + 1) xs K (aputT ts (.func fn ⟨l⟩ ⟨m⟩) d) h) : Run P lo q base i (⟨d, g, .op (.mkfn fn fs cs)⟩ :: xs) K ts h := by
  have hl := hl.eq; have hm := hm.eq; subst hl hm; exact x_op hg rfl hr
theorem x_store {n : Nat} {a x : Opd} {r off : Nat} {c : List Value} {e : TypeId} (he : ev ts a = .pointer (some ⟨r, off, none⟩)) (hlo : lo ≤ r) (hget : h.get r = some (.cells c e))
    (hn : (cellsL (ev ts x)).length = n) (ho : (cellsL (ev ts x)).all Value.oneCell' = true) (hl : Nat.ble (off + n) c.length = true) {c' : List Value} (hc : Is (splice c off (cellsL (ev ts x))) c') (hr : Run P lo q base (i + 1) xs K (aputT ts undef d) (h.put r (.cells c' e))) :
    Run P lo q base i (⟨d, g, .op (.store n a x)⟩ :: xs) K ts h := by
  have hc := hc.eq
  subst hc
  refine x_op hg (v := undef) (h' := h.put r (.cells (splice c off (cellsL (ev ts x))) e)) ?_ hr
  have hl' := Nat.le_of_ble_eq_true hl
  subst hn
  have ho' : ∀ a ∈ cellsL (ev ts x), a.oneCell' = true := by simpa using ho
  simp [aop, xStore, he, H.storeN, hlo, hget, storeRow, hl']
  exact ho'
theorem x_lss {a b : Opd} {x y : Int} (hx : ev ts a = .int .i64 x) (hy : ev ts b = .int .i64 y) (ht : x < y → Run P lo q base (i + 1) xs K (aputT ts (.bool true) d) h) (hf : y ≤ x → Run P lo q base (i + 1) xs K (aputT ts (.bool false) d) h) :
    Run P lo q base i (⟨d, g, .op (.int .lss a b)⟩ :: xs) K ts h := by
  by_cases c : x < y
  · exact x_op hg (v := .bool true) (h' := h) (by simp [aop, keep, xInt, hx, hy, iop, c]) (ht c)
  · exact x_op hg (v := .bool false) (h' := h) (by simp [aop, keep, xInt, hx, hy, iop]; omega) (hf (by omega))
theorem x_leq {a b : Opd} {x y : Int} (hx : ev ts a = .int .i64 x) (hy : ev ts b = .int .i64 y) (ht : x ≤ y → Run P lo q base (i + 1) xs K (aputT ts (.bool true) d) h) (hf : y < x → Run P lo q base (i + 1) xs K (aputT ts (.bool false) d) h) :
    Run P lo q base i (⟨d, g, .op (.int .leq a b)⟩ :: xs) K ts h := by
  by_cases c : x ≤ y
  · exact x_op hg (v := .bool true) (h' := h) (by simp [aop, keep, xInt, hx, hy, iop, c]) (ht c)
  · exact x_op hg (v := .bool false) (h' := h) (by simp [aop, keep, xInt, hx, hy, iop]; omega) (hf (by omega))
theorem x_gtr {a b : Opd} {x y : Int} (hx : ev ts a = .int .i64 x) (hy : ev ts b = .int .i64 y) (ht : y < x → Run P lo q base (i + 1) xs K (aputT ts (.bool true) d) h) (hf : x ≤ y → Run P lo q base (i + 1) xs K (aputT ts (.bool false) d) h) :
    Run P lo q base i (⟨d, g, .op (.int .gtr a b)⟩ :: xs) K ts h := by
  by_cases c : y < x
  · exact x_op hg (v := .bool true) (h' := h) (by simp [aop, keep, xInt, hx, hy, iop, c]) (ht c)
  · exact x_op hg (v := .bool false) (h' := h) (by simp [aop, keep, xInt, hx, hy, iop]; omega) (hf (by omega))
theorem x_geq {a b : Opd} {x y : Int} (hx : ev ts a = .int .i64 x) (hy : ev ts b = .int .i64 y) (ht : y ≤ x → Run P lo q base (i + 1) xs K (aputT ts (.bool true) d) h) (hf : x < y → Run P lo q base (i + 1) xs K (aputT ts (.bool false) d) h) :
    Run P lo q base i (⟨d, g, .op (.int .geq a b)⟩ :: xs) K ts h := by
  by_cases c : y ≤ x
  · exact x_op hg (v := .bool true) (h' := h) (by simp [aop, keep, xInt, hx, hy, iop, c]) (ht c)
  · exact x_op hg (v := .bool false) (h' := h) (by simp [aop, keep, xInt, hx, hy, iop]; omega) (hf (by omega))
theorem x_eql {a b : Opd} {x y : Int} (hx : ev ts a = .int .i64 x) (hy : ev ts b = .int .i64 y) (ht : x = y → Run P lo q base (i + 1) xs K (aputT ts (.bool true) d) h) (hf : x ≠ y → Run P lo q base (i + 1) xs K (aputT ts (.bool false) d) h) :
    Run P lo q base i (⟨d, g, .op (.int .eql a b)⟩ :: xs) K ts h := by
  by_cases c : x = y
  · exact x_op hg (v := .bool true) (h' := h) (by simp [aop, keep, xInt, hx, hy, iop, c]) (ht c)
  · exact x_op hg (v := .bool false) (h' := h) (by simp [aop, keep, xInt, hx, hy, iop, c]) (hf c)
theorem x_neq {a b : Opd} {x y : Int} (hx : ev ts a = .int .i64 x) (hy : ev ts b = .int .i64 y) (ht : x ≠ y → Run P lo q base (i + 1) xs K (aputT ts (.bool true) d) h) (hf : x = y → Run P lo q base (i + 1) xs K (aputT ts (.bool false) d) h) :
    Run P lo q base i (⟨d, g, .op (.int .neq a b)⟩ :: xs) K ts h := by
  by_cases c : x = y
  · exact x_op hg (v := .bool false) (h' := h) (by simp [aop, keep, xInt, hx, hy, iop, c]) (hf c)
  · exact x_op hg (v := .bool true) (h' := h) (by simp [aop, keep, xInt, hx, hy, iop, c]) (ht c)
theorem x_add {a b : Opd} {x y : Int} (hx : ev ts a = .int .i64 x) (hy : ev ts b = .int .i64 y) (hw : -9223372036854775808 ≤ x + y ∧ x + y < 9223372036854775808) (hr : Run P lo q base (i + 1) xs K (aputT ts (.int .i64 (x + y)) d) h) :
    Run P lo q base i (⟨d, g, .op (.int .add a b)⟩ :: xs) K ts h :=
  x_op hg (v := .int .i64 (x + y)) (h' := h) (by simp [aop, keep, xInt, hx, hy, iop, w64_id hw]) hr
theorem x_sub {a b : Opd} {x y : Int} (hx : ev ts a = .int .i64 x) (hy : ev ts b = .int .i64 y) (hw : -9223372036854775808 ≤ x - y ∧ x - y < 9223372036854775808) (hr : Run P lo q base (i + 1) xs K (aputT ts (.int .i64 (x - y)) d) h) :
    Run P lo q base i (⟨d, g, .op (.int .sub a b)⟩ :: xs) K ts h :=
  x_op hg (v := .int .i64 (x - y)) (h' := h) (by simp [aop, keep, xInt, hx, hy, iop, w64_id hw]) hr
theorem x_mul {a b : Opd} {x y : Int} (hx : ev ts a = .int .i64 x) (hy : ev ts b = .int .i64 y) (hw : -9223372036854775808 ≤ x * y ∧ x * y < 9223372036854775808) (hr : Run P lo q base (i + 1) xs K (aputT ts (.int .i64 (x * y)) d) h) :
    Run P lo q base i (⟨d, g, .op (.int .mul a b)⟩ :: xs) K ts h :=
  x_op hg (v := .int .i64 (x * y)) (h' := h) (by simp [aop, keep, xInt, hx, hy, iop, w64_id hw]) hr
theorem x_quo {a b : Opd} {x y : Int} (hx : ev ts a = .int .i64 x) (hy : ev ts b = .int .i64 y) (h0 : 0 ≤ x) (h1 : x < 9223372036854775808) (h2 : 0 < y) (hr : Run P lo q base (i + 1) xs K (aputT ts (.int .i64 (x / y)) d) h) :
    Run P lo q base i (⟨d, g, .op (.idiv true a b)⟩ :: xs) K ts h := by
  have e : x.tdiv y = x / y := Int.tdiv_eq_ediv_of_nonneg h0
  have h3 : 0 ≤ x / y := Int.ediv_nonneg h0 (by omega)
  have h4 : x / y ≤ x := Int.ediv_le_self _ h0
  have hw : w64 (x / y) = x / y := w64_id (by omega)
  exact x_op hg (v := .int .i64 (x / y)) (h' := h) (by simp [aop, keep, xIdiv, hx, hy, e, hw]; omega) hr
theorem x_rem {a b : Opd} {x y : Int} (hx : ev ts a = .int .i64 x) (hy : ev ts b = .int .i64 y) (h0 : 0 ≤ x) (h2 : 0 < y) (hr : Run P lo q base (i + 1) xs K (aputT ts (.int .i64 (x % y)) d) h) :
    Run P lo q base i (⟨d, g, .op (.idiv false a b)⟩ :: xs) K ts h := by
  have e : x.tmod y = x % y := Int.tmod_eq_emod_of_nonneg h0
  exact x_op hg (v := .int .i64 (x % y)) (h' := h) (by simp [aop, keep, xIdiv, hx, hy, e]; omega) hr
theorem x_neg {a : Opd} {x : Int} (hx : ev ts a = .int .i64 x) (hw : -9223372036854775808 < x ∧ x < 9223372036854775808) (hr : Run P lo q base (i + 1) xs K (aputT ts (.int .i64 (-x)) d) h) :
    Run P lo q base i (⟨d, g, .op (.neg a)⟩ :: xs) K ts h := by
  have : w64 (0 - x) = -x := by rw [w64_id (by omega)]; omega
  exact x_op hg (v := .int .i64 (-x)) (h' := h) (by simp only [aop, keep, xNeg, hx, this, Option.map]) hr
theorem x_conv {k k' : IntKind} {a : Opd} {x : Int} (hx : ev ts a = .int k' x) (hw : k.wrap x = x) (hr : Run P lo q base (i + 1) xs K (aputT ts (.int k x) d) h) : Run P lo q base i (⟨d, g, .op (.conv k a)⟩ :: xs) K ts h :=
  x_op hg (v := .int k x) (h' := h) (by simp only [aop, keep, xConv, hx, hw, Option.map]) hr
theorem x_max {a b : Opd} {x y : Int} (hx : ev ts a = .int .i64 x) (hy : ev ts b = .int .i64 y) (hr : Run P lo q base (i + 1) xs K (aputT ts (.int .i64 (max x y)) d) h) :
    Run P lo q base i (⟨d, g, .op (.mnmx true a b)⟩ :: xs) K ts h :=
  x_op hg (v := .int .i64 (max x y)) (h' := h) (by
    have : (if x < y then y else x) = max x y := by split <;> omega
    simp [aop, keep, xMnmx, hx, hy, this]) hr
theorem x_min {a b : Opd} {x y : Int} (hx : ev ts a = .int .i64 x) (hy : ev ts b = .int .i64 y) (hr : Run P lo q base (i + 1) xs K (aputT ts (.int .i64 (min x y)) d) h) :
    Run P lo q base i (⟨d, g, .op (.mnmx false a b)⟩ :: xs) K ts h :=
  x_op hg (v := .int .i64 (min x y)) (h' := h) (by
    have : (if y < x then y else x) = min x y := by split <;> omega
    simp [aop, keep, xMnmx, hx, hy, this]) hr
theorem x_ixsl {sz : Nat} {x j : Opd} {a : Addr} {n c : Nat} {k : IntKind} {z : Int} (hx : ev ts x = .slice (some a) n c) (hi : ev ts j = .int k z) (h0 : 0 ≤ z) (hm : z < n)
    (hr : Run P lo q base (i + 1) xs K (aputT ts (.pointer (some (aadd a (z.toNat * sz)))) d) h) : Run P lo q base i (⟨d, g, .op (.ixsl sz x j)⟩ :: xs) K ts h :=
  x_op hg (v := .pointer (some (aadd a (z.toNat * sz)))) (h' := h) (by
    have : z.toNat < n := by omega
    simp [aop, keep, xIxsl, hx, hi, natOf?, h0, this]) hr
theorem x_ixslN {sz m : Nat} {x j : Opd} {a : Addr} {n c : Nat} {k : IntKind} (hx : ev ts x = .slice (some a) n c) (hi : ev ts j = .int k (m : Int)) (hm : m < n)
    (hr : Run P lo q base (i + 1) xs K (aputT ts (.pointer (some (aadd a (m * sz)))) d) h) : Run P lo q base i (⟨d, g, .op (.ixsl sz x j)⟩ :: xs) K ts h :=
  x_ixsl hg hx hi (by omega) (by omega) hr
theorem x_ixslP {sz m : Nat} {x j : Opd} {b : Option Addr} {a : Addr} {n c : Nat} {k : IntKind} (hx : ev ts x = .slice b n c) (hb : 0 < n → b = some a) (hi : ev ts j = .int k (m : Int)) (hm : m < n)
    (hr : Run P lo q base (i + 1) xs K (aputT ts (.pointer (some (aadd a (m * sz)))) d) h) : Run P lo q base i (⟨d, g, .op (.ixsl sz x j)⟩ :: xs) K ts h := by
  obtain rfl := hb (by omega)
  exact x_ixsl hg hx hi (by omega) (by omega) hr
theorem x_ixslO {sz : Nat} {x j : Opd} {b : Option Addr} {a : Addr} {n c : Nat} {k : IntKind} {z : Int} (hx : ev ts x = .slice b n c) (hb : 0 < n → b = some a) (hi : ev ts j = .int k z) (h0 : 0 ≤ z) (hm : z < n)
    (hr : Run P lo q base (i + 1) xs K (aputT ts (.pointer (some (aadd a (z.toNat * sz)))) d) h) : Run P lo q base i (⟨d, g, .op (.ixsl sz x j)⟩ :: xs) K ts h := by
  obtain rfl := hb (by omega)
  exact x_ixsl hg hx hi h0 hm hr
/-- A call that turns nothing that was there. -/
theorem x_call {f : Opd} {args : List Opd} {fn : FuncId} {first capt as : List Value} {R : Value → H → Prop} {nb : Nat} (en : h.next = nb) (hlo : lo ≤ nb) (hf : ev ts f = .func (.func fn) ⟨first⟩ ⟨capt⟩) (ha : Is (first ++ args.map (ev ts) ++ capt) as)
    (hc : AW P fn h.next h as R) (hr : ∀ v h', R v h' → Quiet nb h h' → nb ≤ h'.next → Run P lo q base (i + 1) xs K (aputT ts v d) h') : Run P lo q base i (⟨d, g, .call f args⟩ :: xs) K ts h := by
  obtain ⟨v, h', r, a⟩ := hc
  subst en
  have hq := a.quiet
  have := hr v h' r hq hq.next
  rw [aputT_eq] at this
  simp only [Run, hg, if_true]
  refine ⟨v, h', ?_, this⟩
  rw [hf]
  refine (AF.acall (lo := if q = true then h.next else lo) ?_)
  rw [ha.eq]
  refine a.mono ?_
  split <;> omega
/-- A call of a function value, outside of a drawn region. -/
theorem x_calla {f : Opd} {args : List Opd} {fv : Value} {as : List Value} {R : Value → H → Prop} (hf : ev ts f = fv) (ha : Is (args.map (ev ts)) as) (hc : ∃ v h', R v h' ∧ ACall P fv lo h as v h')
    (hr : ∀ v h', R v h' → Quiet lo h h' → Run P lo false base (i + 1) xs K (aputT ts v d) h') : Run P lo false base i (⟨d, g, .call f args⟩ :: xs) K ts h := by
  obtain ⟨v, h', r, a⟩ := hc
  have := hr v h' r a.quiet
  rw [aputT_eq] at this
  simp only [Run, hg, if_true]
  refine ⟨v, h', ?_, this⟩
  rw [hf, ha.eq]
  exact a
/-- A call of a function of the program, outside of a drawn region: it may turn rows from lo on. -/
theorem x_callw {f : Opd} {args : List Opd} {fn : FuncId} {first capt as : List Value} {R : Value → H → Prop} (hf : ev ts f = .func (.func fn) ⟨first⟩ ⟨capt⟩) (ha : Is (first ++ args.map (ev ts) ++ capt) as)
    (hc : AW P fn lo h as R) (hr : ∀ v h', R v h' → Quiet lo h h' → Run P lo false base (i + 1) xs K (aputT ts v d) h') : Run P lo false base i (⟨d, g, .call f args⟩ :: xs) K ts h := by
  obtain ⟨v, h', r, a⟩ := hc
  have := hr v h' r a.quiet
  rw [aputT_eq] at this
  simp only [Run, hg, if_true]
  refine ⟨v, h', ?_, this⟩
  rw [hf]
  refine AF.acall ?_
  rw [ha.eq]
  exact a
theorem x_callv {f : Opd} {args : List Opd} {fn : FuncId} {first capt as : List Value} {X : Value} {nb : Nat} (en : h.next = nb) (hlo : lo ≤ nb) (hf : ev ts f = .func (.func fn) ⟨first⟩ ⟨capt⟩) (ha : Is (first ++ args.map (ev ts) ++ capt) as)
    (hc : AW P fn h.next h as (fun v _ => v = X)) (hr : ∀ h', Quiet nb h h' → nb ≤ h'.next → Run P lo q base (i + 1) xs K (aputT ts X d) h') : Run P lo q base i (⟨d, g, .call f args⟩ :: xs) K ts h :=
  x_call hg en hlo hf ha hc fun _ h' e hq hn => by subst e; exact hr h' hq hn
theorem x_callb {f : Opd} {args : List Opd} {fn : FuncId} {first capt as : List Value} {p : Prop} [Decidable p] {nb : Nat} (en : h.next = nb) (hlo : lo ≤ nb) (hf : ev ts f = .func (.func fn) ⟨first⟩ ⟨capt⟩) (ha : Is (first ++ args.map (ev ts) ++ capt) as)
    (hc : AW P fn h.next h as (fun v _ => v = .bool (decide p))) (ht : p → ∀ h', Quiet nb h h' → nb ≤ h'.next → Run P lo q base (i + 1) xs K (aputT ts (.bool true) d) h')
    (hff : ¬ p → ∀ h', Quiet nb h h' → nb ≤ h'.next → Run P lo q base (i + 1) xs K (aputT ts (.bool false) d) h') : Run P lo q base i (⟨d, g, .call f args⟩ :: xs) K ts h :=
  x_callv hg en hlo hf ha hc fun h' hq hn => by
    by_cases hp : p
    · simp only [hp, decide_true]; exact ht hp h' hq hn
    · simp only [hp, decide_false]; exact hff hp h' hq hn

theorem x_calli {f : Opd} {args : List Opd} {fn : FuncId} {first capt as : List Value} {p : Prop} {inst : Decidable p} {X Y : Value} {nb : Nat} (en : h.next = nb) (hlo : lo ≤ nb) (hf : ev ts f = .func (.func fn) ⟨first⟩ ⟨capt⟩) (ha : Is (first ++ args.map (ev ts) ++ capt) as)
    (hc : AW P fn h.next h as (fun v _ => v = if p then X else Y)) (ht : p → ∀ h', Quiet nb h h' → nb ≤ h'.next → Run P lo q base (i + 1) xs K (aputT ts X d) h')
    (hff : ¬ p → ∀ h', Quiet nb h h' → nb ≤ h'.next → Run P lo q base (i + 1) xs K (aputT ts Y d) h') : Run P lo q base i (⟨d, g, .call f args⟩ :: xs) K ts h :=
  x_callv hg en hlo hf ha hc fun h' hq hn => by
    by_cases hp : p
    · simp only [hp, if_true]; exact ht hp h' hq hn
    · simp only [hp, if_false]; exact hff hp h' hq hn
theorem x_callB {f : Opd} {args : List Opd} {fn : FuncId} {first capt as : List Value} {b : Bool} {nb : Nat} (en : h.next = nb) (hlo : lo ≤ nb) (hf : ev ts f = .func (.func fn) ⟨first⟩ ⟨capt⟩) (ha : Is (first ++ args.map (ev ts) ++ capt) as)
    (hc : AW P fn h.next h as (fun v _ => v = .bool b)) (ht : b = true → ∀ h', Quiet nb h h' → nb ≤ h'.next → Run P lo q base (i + 1) xs K (aputT ts (.bool true) d) h')
    (hff : b = false → ∀ h', Quiet nb h h' → nb ≤ h'.next → Run P lo q base (i + 1) xs K (aputT ts (.bool false) d) h') : Run P lo q base i (⟨d, g, .call f args⟩ :: xs) K ts h :=
  x_callv hg en hlo hf ha hc fun h' hq hn => by
    cases hb : b
    · exact hff hb h' hq hn
    · exact ht hb h' hq hn

end

/-! ### code -/

section
variable {P : Program} {lo : Nat} {Q : Exit → Ts → H → Prop} {K : Ts → H → Prop} {ts : Ts} {h : H}

theorem wp_reg {ops : List AOper} {nb k : Nat} (e : h.next = nb) (hk : ops.length = k) (a : Run P lo false nb 0 ops (Q .normal) ts (h.bump k)) : wpA P lo (.reg ops) Q ts h := by subst e hk; exact a
theorem wp_dreg {ops : List AOper} {ap : List (Opd × Opd)} {nb k : Nat} (e : h.next = nb) (hk : ops.length = k) (a : Run P lo true nb 0 ops (fun ts' h' => Apart ap ts' ∧ Q .normal ts' h') ts (h.bump k)) : wpA P lo (.dreg ops ap) Q ts h := by subst e hk; exact a
theorem wp_dreg0 {ops : List AOper} {nb k : Nat} (e : h.next = nb) (hk : ops.length = k) (a : Run P lo true nb 0 ops (Q .normal) ts (h.bump k)) : wpA P lo (.dreg ops []) Q ts h := by
  subst e hk
  show Run P lo true h.next 0 ops (fun ts' h' => Apart [] ts' ∧ Q .normal ts' h') ts (h.bump ops.length)
  have : (fun ts' h' => Apart [] ts' ∧ Q .normal ts' h') = Q .normal := by
    funext ts' h'
    simp [Apart]
  rw [this]
  exact a
theorem Apart.nil {ts : Ts} : Apart [] ts := by simp [Apart]
theorem Apart.cons {ts : Ts} {a b : Opd} {l : List (Opd × Opd)} {r s : Nat} (ha : touchV (ev ts a) = [r]) (hb : touchV (ev ts b) = [s]) (hne : r ≠ s) (hl : Apart l ts) : Apart ((a, b) :: l) ts := by
  intro p hp
  rcases List.mem_cons.1 hp with rfl | hp
  · simp only [ha, hb, List.mem_singleton]
    rintro r rfl e
    exact hne e
  · exact hl p hp
theorem wp_dregA {ops : List AOper} {ap : List (Opd × Opd)} {nb k : Nat} (e : h.next = nb) (hk : ops.length = k) (a : Run P lo true nb 0 ops (fun ts' h' => Apart ap ts' ∧ Q .normal ts' h') ts (h.bump k)) : wpA P lo (.dreg ops ap) Q ts h := by subst e hk; exact a
theorem x_nilA {q : Bool} {base i : Nat} {ap : List (Opd × Opd)} (ha : Apart ap ts) (hr : K ts h) : Run P lo q base i [] (fun ts' h' => Apart ap ts' ∧ K ts' h') ts h := ⟨ha, hr⟩
theorem wp_seq {a b : ACode} (w : wpA P lo a (thenQ (wpA P lo b Q) Q) ts h) : wpA P lo (.seq a b) Q ts h := w
theorem wp_skip (w : Q .normal ts h) : wpA P lo .skip Q ts h := w
theorem wp_ret (w : Q .ret ts h) : wpA P lo .ret Q ts h := w
theorem wp_exit {id : Nat} (w : Q (.exit id) ts h) : wpA P lo (.exit id) Q ts h := w
theorem wp_block {id : Nat} {c : ACode} (w : wpA P lo c (blockQ id Q) ts h) : wpA P lo (.block id c) Q ts h := w
theorem wp_condt {c : Opd} {a b : ACode} (e : ev ts c = .bool true) (w : wpA P lo a Q ts h) : wpA P lo (.cond c a b) Q ts h := ⟨true, e, by simpa using w⟩
theorem wp_condf {c : Opd} {a b : ACode} (e : ev ts c = .bool false) (w : wpA P lo b Q ts h) : wpA P lo (.cond c a b) Q ts h := ⟨false, e, by simpa using w⟩
theorem then_n (w : K ts h) : thenQ K Q .normal ts h := w
theorem then_r (w : Q .ret ts h) : thenQ K Q .ret ts h := w
theorem then_e {id : Nat} (w : Q (.exit id) ts h) : thenQ K Q (.exit id) ts h := w
theorem block_n {id : Nat} (w : Q .normal ts h) : blockQ id Q .normal ts h := w
theorem block_r {id : Nat} (w : Q .ret ts h) : blockQ id Q .ret ts h := w
theorem block_e {id : Nat} (w : Q .normal ts h) : blockQ id Q (.exit id) ts h := by simpa [blockQ] using w
theorem block_o {id id' : Nat} (hne : Nat.beq id' id = false) (w : Q (.exit id') ts h) : blockQ id Q (.exit id') ts h := by
  have : ¬ id' = id := fun e => by subst e; simp at hne
  simpa [blockQ, this] using w

theorem wp_loop {c : ACode} {σ : Type} (L : σ → List (Nat × Value)) (I : σ → H → Prop) (μ : σ → Nat) (s0 : σ) (ht : Holds ts (L s0)) (hi : I s0 h)
    (step : ∀ s g h, I s h → ∀ K : Ts → H → Prop, (∀ s' ts' h', Holds ts' (L s') → I s' h' → μ s' < μ s → K ts' h') → wpA P lo c (thenQ K Q) (look g (L s)) h) : wpA P lo (.loop c) Q ts h := by
  have key : ∀ n s ts h, μ s ≤ n → Holds ts (L s) → I s h → iter (fun K => wpA P lo c (thenQ K Q)) (n + 1) ts h := by
    intro n
    induction n with
    | zero =>
      intro s ts h hn ht hi
      have := step s ts h hi (iter (fun K => wpA P lo c (thenQ K Q)) 0) (fun s' _ _ _ _ hlt => by omega)
      rwa [look_self ht] at this
    | succ n ih =>
      intro s ts h hn ht hi
      have := step s ts h hi (iter (fun K => wpA P lo c (thenQ K Q)) (n + 1)) (fun s' ts' h' ht' hi' hlt => ih s' ts' h' (by omega) ht' hi')
      rwa [look_self ht] at this
  exact ⟨_, key _ s0 ts h (Nat.le_refl _) ht hi⟩

theorem wp_range {f : Opd} {ps : List Nat} {n nb : Nat} {asg body : Code} {A B : ACode} {fn : FuncId} {first capt as : List Value} (hv : ev ts f = .func (.func fn) ⟨first⟩ ⟨capt⟩) (en : h.next = nb) (ha : Is (first ++ [.func (.yield nb) ⟨[]⟩ ⟨[]⟩] ++ capt) as)
    (hc : ∀ L0, L0 = loop0 n ts ps asg body → ∃ R, AW P fn lo ((h.bump 1).put nb (.loop L0)) as R ∧
      ∀ v h', R v h' → Quiet lo ((h.bump 1).put nb (.loop L0)) h' → ∃ L, h'.get nb = some (.loop L) ∧ L.state ≠ .busy ∧ Q (pendE L.pend) ts (h'.put nb .gone)) : wpA P lo (.range f ps n asg body A B) Q ts h := by
  subst en
  obtain ⟨R, ⟨v, h', r, a⟩, hr⟩ := hc _ rfl
  rw [← ha.eq] at a
  exact ⟨fn, first, capt, hv, v, h', a, hr v h' r a.quiet⟩

theorem wp_forget {c : ACode} {l : List (Nat × Value)} (hl : Holds ts l) (hw : ∀ g, wpA P lo c Q (look g l) h) : wpA P lo c Q ts h := by
  have := hw ts
  rwa [look_self hl] at this

/-! ### the end of a function -/

theorem one_tmp {t : Nat} {v : Value} (hv : ts t = v) : ares1 P h ts (.tmp t) = some v := by simp [ares1, hv]
theorem one_agg {a t n r off : Nat} {c l l' : List Value} {e : TypeId} (ht : isAggT P t = some true) (hn : sizeT P t = some n) (hp : ts a = .pointer (some ⟨r, off, none⟩)) (hg : h.get r = some (.cells c e)) (hl : cut c off n = some l) (hv : Is l l') :
    ares1 P h ts (.cell a t) = some (.agg ⟨l'⟩) := by
  simp [ares1, ht, hn, xLoadn, hp, H.loadN, hg, loadRow, hl, hv.eq]
theorem one_cel {a t r off : Nat} {c : List Value} {e : TypeId} {v0 v : Value} (ht : isAggT P t = some false) (hp : ts a = .pointer (some ⟨r, off, none⟩)) (hg : h.get r = some (.cells c e)) (hl : cut c off 1 = some [v0]) (hv : v0 = v) :
    ares1 P h ts (.cell a t) = some v := by
  simp [ares1, ht, xLoad1, hp, H.loadN, hg, loadRow, hl, hv]
theorem fin0 {R : Value → Prop} {e : Exit} (he : e = .normal ∨ e = .ret) (hr : R (.tuple #[])) : (e = .normal ∨ e = .ret) ∧ ∃ v, ares P h ts [] = some v ∧ R v := ⟨he, _, rfl, hr⟩
theorem fin1 {r : ResultVar} {R : Value → Prop} {x : Value} {e : Exit} (he : e = .normal ∨ e = .ret) (e1 : ares1 P h ts r = some x) (hr : R x) : (e = .normal ∨ e = .ret) ∧ ∃ v, ares P h ts [r] = some v ∧ R v := ⟨he, _, e1, hr⟩
theorem fin2 {r s : ResultVar} {R : Value → Prop} {x y : Value} {e : Exit} (he : e = .normal ∨ e = .ret) (e1 : ares1 P h ts r = some x) (e2 : ares1 P h ts s = some y) (hr : R (.tuple #[x, y])) : (e = .normal ∨ e = .ret) ∧ ∃ v, ares P h ts [r, s] = some v ∧ R v :=
  ⟨he, _, by simp only [ares, e1, e2, Option.bind_some, Option.map_some], hr⟩
theorem fin3 {r s t : ResultVar} {R : Value → Prop} {x y z : Value} {e : Exit} (he : e = .normal ∨ e = .ret) (e1 : ares1 P h ts r = some x) (e2 : ares1 P h ts s = some y) (e3 : ares1 P h ts t = some z) (hr : R (.tuple #[x, y, z])) : (e = .normal ∨ e = .ret) ∧ ∃ v, ares P h ts [r, s, t] = some v ∧ R v :=
  ⟨he, _, by simp only [ares, e1, e2, e3, Option.bind_some, Option.map_some], hr⟩
theorem eq_bool {v : Value} {b : Bool} {p : Prop} [Decidable p] (hv : v = .bool b) (hb : b = decide p) : v = .bool (decide p) := by rw [hv, hb]
theorem bool_t {v : Value} {p : Prop} [Decidable p] (hv : v = .bool true) (hp : p) : v = .bool (decide p) := by rw [hv]; simp [hp]
theorem bool_f {v : Value} {p : Prop} [Decidable p] (hv : v = .bool false) (hp : ¬ p) : v = .bool (decide p) := by rw [hv]; simp [hp]

end

/-! ### rows -/

section
variable {h h' : H} {r r' n k lo : Nat} {x : ARow} {o : Option ARow} {a : Addr} {ol : Option (List Value)}
theorem put_next (h : H) (r : Nat) (x : ARow) : (h.put r x).next = h.next := rfl
theorem bump_next (h : H) (k : Nat) : (h.bump k).next = h.next + k := rfl
theorem put_get (e : r' = r) : (h.put r x).get r' = some x := by subst e; simp [H.put]
theorem put_skip (hne : r' ≠ r) (e : h.get r' = o) : (h.put r x).get r' = o := by rw [← e]; simp [H.put, hne]
theorem bump_skip (e : h.get r' = o) : (h.bump k).get r' = o := e
theorem quiet_skip (q : Quiet lo h h') (hr : r' < lo) (e : h.get r' = o) : h'.get r' = o := by rw [q.same r' hr]; exact e
theorem put_old (hne : a.block ≠ r) (e : h.loadN a n = ol) : (h.put r x).loadN a n = ol := by rw [← e]; simp [H.loadN, H.put, hne]
theorem bump_old (e : h.loadN a n = ol) : (h.bump k).loadN a n = ol := e
theorem quiet_old (q : Quiet lo h h') (hr : a.block < lo) (e : h.loadN a n = ol) : h'.loadN a n = ol := by rw [← e]; simp [H.loadN, q.same _ hr]
theorem loadN_cells {off : Nat} {c : List Value} {e : TypeId} {l : List Value} (hg : h.get r = some (.cells c e)) (hl : cut c off n = some l) : h.loadN ⟨r, off, none⟩ n = some l := by
  simp [H.loadN, hg, loadRow, hl]

theorem loadN_one {off : Nat} {c : List Value} {e : TypeId} {v : Value} (hg : h.get r = some (.cells c e)) (hl : c[off]? = some v) : h.loadN ⟨r, off, none⟩ 1 = some [v] := by
  refine loadN_cells hg ?_
  obtain ⟨hlt, he⟩ := List.getElem?_eq_some_iff.1 hl
  unfold cut
  rw [if_pos (by omega), List.drop_eq_getElem_cons hlt, List.take_succ_cons, List.take_zero, he]
theorem Quiet.put' {lo : Nat} {h h' : H} {r : Nat} {x : ARow} (q : Quiet lo h h') (hr : lo ≤ r) (hn : r < h'.next) : Quiet lo h (h'.put r x) := q.trans (Quiet.put hr hn)
theorem Quiet.bump' {lo : Nat} {h h' : H} {k : Nat} (q : Quiet lo h h') : Quiet lo h (h'.bump k) := q.trans (Quiet.bump k)
theorem Quiet.trans' {lo lo' : Nat} {h h' h'' : H} (q : Quiet lo h h') (q' : Quiet lo' h' h'') (hl : lo ≤ lo') : Quiet lo h h'' := q.trans (q'.mono hl)
/-- Below m two heaps are one. -/
def Same (m : Nat) (h h' : H) : Prop := ∀ r, r < m → h'.get r = h.get r
theorem Same.refl (m : Nat) (h : H) : Same m h h := fun _ _ => rfl
theorem Same.put {m : Nat} {h h' : H} {r : Nat} {x : ARow} (s : Same m h h') (hr : m ≤ r) : Same m h (h'.put r x) := fun j hj => by
  rw [← s j hj]; simp only [H.put]; rw [if_neg (by omega)]
theorem Same.bump {m : Nat} {h h' : H} {k : Nat} (s : Same m h h') : Same m h (h'.bump k) := s
theorem Same.quiet {m lo : Nat} {h h' h'' : H} (s : Same m h h') (q : Quiet lo h' h'') (hl : m ≤ lo) : Same m h h'' := fun j hj => by rw [q.same j (by omega), s j hj]
theorem Same.loadN {m : Nat} {h h' : H} (s : Same m h h') {a : Addr} (ha : a.block < m) (n : Nat) : h'.loadN a n = h.loadN a n := by simp [H.loadN, s _ ha]
theorem Same.mono {m m' : Nat} {h h' : H} (s : Same m h h') (hm : m' ≤ m) : Same m' h h' := fun j hj => s j (by omega)
theorem Same.trans {m : Nat} {h h' h'' : H} (s : Same m h h') (t : Same m h' h'') : Same m h h'' := fun j hj => by rw [t j hj, s j hj]
theorem same_old {m : Nat} (s : Same m h h') (ha : a.block < m) (e : h.loadN a n = ol) : h'.loadN a n = ol := by rw [s.loadN ha]; exact e
theorem same_get {m : Nat} (s : Same m h h') (ha : r < m) (e : h.get r = o) : h'.get r = o := by rw [s r ha]; exact e
/-- n cells of integers at an address. -/
def Ints (h : H) (a : Addr) (n : Nat) (f : Nat → Int) : Prop := ∀ i, i < n → h.loadN (aadd a i) 1 = some [.int .i64 (f i)]
theorem Ints.at {f : Nat → Int} {m : Nat} (hi : Ints h a n f) (h1 : m < n) : h.loadN (aadd a (m * 1)) 1 = some [.int .i64 (f m)] := by
  rw [Nat.mul_one]; exact hi m h1
/-- n elements of sz cells each at an address. -/
def Els (h : H) (a : Addr) (n sz : Nat) (f : Nat → List Value) : Prop := ∀ i, i < n → h.loadN (aadd a (i * sz)) sz = some (f i)
theorem Els.at {f : Nat → List Value} {m sz : Nat} (hi : Els h a n sz f) (h1 : m < n) : h.loadN (aadd a (m * sz)) sz = some (f m) := hi m h1
theorem Els.same {m sz : Nat} {f : Nat → List Value} (hi : Els h a n sz f) (s : Same m h h') (ha : 0 < n → a.block < m) : Els h' a n sz f := fun i hlt => by
  rw [s.loadN (a := aadd a (i * sz)) (by have := ha (by omega); exact this)]; exact hi i hlt
theorem Ints.same {m : Nat} {f : Nat → Int} (hi : Ints h a n f) (s : Same m h h') (ha : 0 < n → a.block < m) : Ints h' a n f := fun i hlt => by
  rw [s.loadN (a := aadd a i) (by have := ha (by omega); exact this)]; exact hi i hlt
theorem Ints.same' {m : Nat} {f : Nat → Int} (ha : 0 < n → a.block < m) (hi : Ints h a n f) (s : Same m h h') : Ints h' a n f := hi.same s ha
end

theorem AW.args {P : Program} {f : FuncId} {lo : Nat} {h : H} {as as' : List Value} {R : Value → H → Prop} (hc : AW P f lo h as' R) (e : Is as' as) : AW P f lo h as R := by rw [← e.eq]; exact hc

theorem AW.arg1 {P : Program} {f : FuncId} {lo : Nat} {h : H} {l l' rest : List Value} {R : Value → H → Prop} (hc : AW P f lo h (.agg ⟨l'⟩ :: rest) R) (e : Is l' l) : AW P f lo h (.agg ⟨l⟩ :: rest) R := by rw [← e.eq]; exact hc
theorem AW.arg2 {P : Program} {f : FuncId} {lo : Nat} {h : H} {a : Value} {l l' rest : List Value} {R : Value → H → Prop} (hc : AW P f lo h (a :: .agg ⟨l'⟩ :: rest) R) (e : Is l' l) : AW P f lo h (a :: .agg ⟨l⟩ :: rest) R := by rw [← e.eq]; exact hc
theorem AW.arg12 {P : Program} {f : FuncId} {lo : Nat} {h : H} {l l' m m' rest : List Value} {R : Value → H → Prop} (hc : AW P f lo h (.agg ⟨l'⟩ :: .agg ⟨m'⟩ :: rest) R) (e : Is l' l) (e' : Is m' m) : AW P f lo h (.agg ⟨l⟩ :: .agg ⟨m⟩ :: rest) R := by rw [← e.eq, ← e'.eq]; exact hc

theorem AW.arg123 {P : Program} {f : FuncId} {lo : Nat} {h : H} {l l' m m' n n' rest : List Value} {R : Value → H → Prop} (hc : AW P f lo h (.agg ⟨l'⟩ :: .agg ⟨m'⟩ :: .agg ⟨n'⟩ :: rest) R) (e : Is l' l) (e' : Is m' m) (e'' : Is n' n) : AW P f lo h (.agg ⟨l⟩ :: .agg ⟨m⟩ :: .agg ⟨n⟩ :: rest) R := by
  rw [← e.eq, ← e'.eq, ← e''.eq]; exact hc

end AE
