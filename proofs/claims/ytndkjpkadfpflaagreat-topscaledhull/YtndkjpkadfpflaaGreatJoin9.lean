/- Walks and plain laws: AEArg2, TopFit4. -/
import Derived.Test.YtndkjpkadfpflaaGreatAEArg
import Derived.ShutString
import Derived.ChangeOld
import Derived.Below
import Derived.Carry
import Derived.Test.YtndkjpkadfpflaaGreatRows
import Derived.Test.YtndkjpkadfpflaaGreatTopH8
import Derived.KernelRfl
set_option linter.unusedVariables false
set_option linter.unusedSimpArgs false
set_option linter.unusedSectionVars false

/- All arguments of a call that come in; what the statements' form asks of a call. -/
namespace AE
open Go Go.RowKit Go.ChangeShapes Go.WideShapes Go.ChangeAt

def FitsV (h : H) (m : Nat) : List (Bool × Sh) → List Value → Prop
  | [], vs => vs = []
  | (true, s) :: r, vs => ∃ cs rest, vs = .agg ⟨cs⟩ :: rest ∧ Fits h m s cs ∧ FitsV h m r rest
  | (false, s) :: r, vs => ∃ v rest, vs = v :: rest ∧ Fits h m s [v] ∧ FitsV h m r rest
def ShV (P : Program) : List (Bool × Sh) → List TypeId → Prop
  | [], ts => ts = []
  | (f, s) :: r, ts => ∃ t rest, ts = t :: rest ∧ IsSh P s t ∧ isAggT P t = some f ∧ ShV P r rest
theorem FitsV.same {h h' : H} {m m' : Nat} (s : Same m h h') (hm : m ≤ m') : ∀ {shs : List (Bool × Sh)} {vs : List Value}, FitsV h m shs vs → FitsV h' m' shs vs
  | [], _, k => k
  | (true, _) :: _, _, ⟨cs, rest, e, k1, k2⟩ => ⟨cs, rest, e, k1.same s hm, k2.same s hm⟩
  | (false, _) :: _, _, ⟨v, rest, e, k1, k2⟩ => ⟨v, rest, e, k1.same s hm, k2.same s hm⟩

section
variable {P : Program} {T : Type} {enc : TypeId × Value → T} {W : World} {base : Nat}

theorem one_cell {s : Sh} {t : TypeId} {v : Value} (hs : IsSh P s t) (hg : isAggT P t = some false) (hok : Value.okWide P W .any base t v) : v.cells.toList = [v] := by
  have hc : Cell.okWide P W .any base t v := by
    unfold Value.okWide at hok
    unfold isAggT at hg
    split at hok
    · rename_i h; rw [h] at hg; simp at hg
    · rename_i h; rw [h] at hg; simp at hg
    · exact hok
  unfold Cell.okWide at hc
  cases hs with
  | int ht => rw [ht] at hc; cases v <;> first | rfl | simp [Cell.ok, ht] at hc
  | bool ht => rw [ht] at hc; cases v <;> first | rfl | simp [Cell.ok, ht] at hc
  | str ht => rw [ht] at hc; cases v <;> first | rfl | simp [Cell.ok, ht] at hc
  | slice ht _ _ _ => rw [ht] at hc; cases v <;> first | rfl | simp [Cell.ok, ht] at hc
  | struct ht _ _ => unfold isAggT at hg; rw [ht] at hg; simp at hg
  | arr ht _ _ _ => unfold isAggT at hg; rw [ht] at hg; simp at hg
theorem agg_cells {t : TypeId} {v : Value} (hg : isAggT P t = some true) (hok : Value.okWide P W .any base t v) : ∃ cs, v = .agg cs := by
  unfold Value.okWide at hok
  unfold isAggT at hg
  split at hok
  · obtain ⟨cs, e, _⟩ := hok; exact ⟨cs, e⟩
  · obtain ⟨cs, e, _⟩ := hok; exact ⟨cs, e⟩
  · rename_i h1 h2
    split at hg
    · rename_i h; exact absurd h (h1 _)
    · rename_i h; exact absurd h (h2 _ _)
    · simp at hg
    · simp at hg

theorem args_come : ∀ (shs : List (Bool × Sh)) (ts : List TypeId) (vs : List Value) (ds : List (DataW T)) (p : List MemPlace), ShV P shs ts → DataW.TrodAll enc P W 0 (fun _ => true) true ts vs ds p → (∀ (j : Nat) t v, ts[j]? = some t → vs[j]? = some v → Value.okWide P W .any base t v) →
    ∀ I h, Rel I h W → I.base = W.heap.size → ∃ h' I' vs', Came I h W I' h' ∧ FitsV h' h'.next shs vs' ∧ InL I' vs' ∧ renL I' vs' = vs
  | [], ts, vs, ds, p, hs, hA, hok, I, h, k, hb => by
    have hs : ts = [] := hs
    subst hs
    obtain ⟨rfl, -, -⟩ := trodAll_nil hA
    exact ⟨h, I, [], Came.refl k, rfl, by simp [InL], by simp [renL]⟩
  | (f, s) :: r, ts, vs, ds, p, hs, hA, hok, I, h, k, hb => by
    obtain ⟨t, rest, rfl, h1, h2, h3⟩ := hs
    obtain ⟨v, vs', d, ds', p1, q1, rfl, rfl, rfl, ht, hr⟩ := trodAll_cons hA
    have hv := hok 0 t v rfl rfl
    obtain ⟨fuel, hfuel⟩ := ht
    obtain ⟨ha, Ia, cs', a1, k1⟩ := (lays (enc := enc) (P := P) (W := W) s).1 t h1 v.cells.toList ⟨fuel, _, hfuel⟩ I h k hb
    obtain ⟨hc, Ic, rs', a2, k2, i2, e2⟩ := args_come r rest vs' ds' q1 h3 hr (fun j t' v' e1 e2 => hok (j + 1) t' v' (by simpa using e1) (by simpa using e2)) Ia ha a1.rel (a1.base.trans hb)
    have k1' := k1.came a2
    cases f with
    | true =>
      obtain ⟨cs, rfl⟩ := agg_cells h2 hv
      refine ⟨hc, Ic, .agg ⟨cs'⟩ :: rs', a1.trans a2, ⟨cs', rs', rfl, k1'.fits, k2⟩, ?_, ?_⟩
      · simp only [InL, In]; exact ⟨k1'.inn, i2⟩
      · simp only [renL, ren]
        rw [k1'.ren, e2]
        rfl
    | false =>
      have hone := one_cell h1 h2 hv
      have hren := k1'.ren
      rw [hone] at hren
      match cs', hren, k1'.fits, k1'.inn with
      | [v'], hren, hfit, hinn =>
        simp only [renL, List.cons.injEq, and_true] at hren
        simp only [InL, and_true] at hinn
        exact ⟨hc, Ic, v' :: rs', a1.trans a2, ⟨v', rs', rfl, hfit, k2⟩, ⟨hinn, i2⟩, by simp only [renL]; rw [hren, e2]⟩
      | [], hren, _, _ => simp [renL] at hren
      | _ :: _ :: _, hren, _, _ => simp [renL] at hren

/-- The call of a law. -/
theorem law_calls {f : FuncId} {shs : List (Bool × Sh)} {ts : List TypeId} {args : Array Value} {ds : List (DataW T)} {p : List MemPlace} (hs : ShV P shs ts) (hA : DataW.TrodAll enc P W 0 (fun _ => true) true ts args.toList ds p)
    (hok : ∀ (j : Nat) t v, ts[j]? = some t → args[j]? = some v → Value.okWide P W .any base t v) (hw : ∀ {h : H} {vs : List Value}, FitsV h h.next shs vs → AW P f h.next h vs (fun v _ => v = .bool true)) :
    Calls P f args W fun e w' => e = .returned (.bool true) ∧ Below W.heap.size W w' := by
  obtain ⟨h', I', vs', a, k, i, e⟩ := args_come shs ts args.toList ds p hs hA (fun j t v e1 e2 => hok j t v e1 (by rw [← Array.getElem?_toList]; exact e2)) (inj0 W) H.empty (rel0 W) rfl
  have hargs : (⟨renL I' vs'⟩ : Array Value) = args := by rw [e]
  rw [← hargs]
  exact (hw k).law a.rel a.base i
theorem trodAll_below (hl : laidOutB P = true) {W' : World} (hb : Below W.heap.size W W') : ∀ (ts : List TypeId) (vs : List Value) (ds : List (DataW T)) (p : List MemPlace), (ts.all fun t => P.readableRec t && decide (t < P.types.size)) = true → DataW.TrodAll enc P W 0 (fun _ => true) true ts vs ds p →
    DataW.TrodAll enc P W' 0 (fun b => decide (b < W.heap.size)) true ts vs ds p
  | [], vs, ds, p, _, hA => by
    obtain ⟨rfl, rfl, rfl⟩ := trodAll_nil hA
    exact rfl
  | t :: ts, vs, ds, p, hr, hA => by
    obtain ⟨v, vs', d, ds', p1, q1, rfl, rfl, rfl, ht, hr'⟩ := trodAll_cons hA
    simp only [List.all_cons, Bool.and_eq_true, decide_eq_true_eq] at hr
    have lt : ∀ x ∈ p1, x.block < W.heap.size := by obtain ⟨m, hm⟩ := ht; exact DataW.trod_lt m _ _ _ hm
    exact ⟨p1, q1, Below.trod hl hr.1.1 hr.1.2 ht hb lt, trodAll_below hl hb ts vs' ds' q1 (by simpa using hr.2) hr', rfl⟩
end

/-! ### shapes of numbers alone -/

def Sh.ints (k : IntKind) : Sh → Bool
  | .int k' => k' == k
  | .nil => true
  | .cons a b => a.ints k && b.ints k
  | _ => false
theorem fits_ints {k : IntKind} {h : H} {m : Nat} : ∀ {s : Sh} {cs : List Value}, s.ints k = true → Fits h m s cs → ∃ zs : List Int, cs = zs.map (.int k) ∧ zs.length = s.size ∧ ∀ z ∈ zs, k.min ≤ z ∧ z ≤ k.max
  | .int k', cs, hi, ⟨n, e, h1, h2⟩ => by
    simp only [Sh.ints, beq_iff_eq] at hi
    subst hi
    exact ⟨[n], by rw [e]; rfl, rfl, fun z hz => by simp only [List.mem_singleton] at hz; subst hz; exact ⟨h1, h2⟩⟩
  | .nil, cs, _, e => ⟨[], by rw [show cs = [] from e]; rfl, rfl, fun z hz => by simp at hz⟩
  | .cons a b, cs, hi, ⟨c1, c2, e, k1, k2⟩ => by
    simp only [Sh.ints, Bool.and_eq_true] at hi
    obtain ⟨z1, e1, l1, b1⟩ := fits_ints hi.1 k1
    obtain ⟨z2, e2, l2, b2⟩ := fits_ints hi.2 k2
    refine ⟨z1 ++ z2, by rw [e, e1, e2, List.map_append], by rw [List.length_append, l1, l2]; rfl, fun z hz => ?_⟩
    rcases List.mem_append.1 hz with hz | hz
    · exact b1 z hz
    · exact b2 z hz
  | .bool, _, hi, _ => by simp [Sh.ints] at hi
  | .str, _, hi, _ => by simp [Sh.ints] at hi
  | .slice _, _, hi, _ => by simp [Sh.ints] at hi

/-- Something for each of the first n. -/
theorem pick_all {α : Type} (d : α) {n : Nat} {p : Nat → α → Prop} (h : ∀ i, i < n → ∃ x, p i x) : ∃ f : Nat → α, ∀ i, i < n → p i (f i) := by
  classical
  exact ⟨fun i => if hi : i < n then (h i hi).choose else d, fun i hi => by simp only [dif_pos hi]; exact (h i hi).choose_spec⟩
end AE

/- What comes in, for the statements about hulls: the shapes of the arguments' types, and the values that they hold. -/
namespace AE.TopIn4
open Go Go.Proofs Go.Proofs.YtndkjpkadfpflaaGreat AE AE.Tryz
set_option maxRecDepth 100000

def rangeSh : Sh := .cons (.int .i64) (.cons (.int .i64) .nil)
def hullSh : Sh := .cons (.int .i64) (.cons (.int .i64) (.cons (.slice (.slice rangeSh)) .nil))
def testSh : Sh := .cons (.int .i64) (.cons (.int .i64) (.cons (.int .i64) (.cons (.int .i64) (.cons rangeSh (.cons rangeSh (.cons rangeSh (.cons rangeSh (.cons rangeSh (.cons rangeSh .nil)))))))))
theorem isInt : IsSh Tryz.prog (.int .i64) 2 := .int Tryz.underlying2
theorem isU8 : IsSh Tryz.prog (.int .u8) 5 := .int Tryz.underlying5
theorem isRange : IsSh Tryz.prog rangeSh 36 := .struct Tryz.underlying36 (by kernel_rfl) (.cons (by kernel_rfl) (by kernel_rfl) isInt (.cons (by kernel_rfl) (by kernel_rfl) isInt .nil))
theorem isTest : IsSh Tryz.prog testSh 70 := .struct Tryz.underlying70 (by kernel_rfl) (.cons (by kernel_rfl) (by kernel_rfl) isInt (.cons (by kernel_rfl) (by kernel_rfl) isInt (.cons (by kernel_rfl) (by kernel_rfl) isInt (.cons (by kernel_rfl) (by kernel_rfl) isInt
  (.cons (by kernel_rfl) (by kernel_rfl) isRange (.cons (by kernel_rfl) (by kernel_rfl) isRange (.cons (by kernel_rfl) (by kernel_rfl) isRange (.cons (by kernel_rfl) (by kernel_rfl) isRange (.cons (by kernel_rfl) (by kernel_rfl) isRange (.cons (by kernel_rfl) (by kernel_rfl) isRange .nil))))))))))
theorem isRow : IsSh Tryz.prog (.slice rangeSh) 31 := .slice Tryz.underlying31 (by kernel_rfl) (by decide) isRange
theorem isRows : IsSh Tryz.prog (.slice (.slice rangeSh)) 22 := .slice Tryz.underlying22 (by kernel_rfl) (by decide) isRow
theorem isHull : IsSh Tryz.prog hullSh 24 := .struct Tryz.underlying24 (by kernel_rfl) (.cons (by kernel_rfl) (by kernel_rfl) isInt (.cons (by kernel_rfl) (by kernel_rfl) isInt (.cons (by kernel_rfl) (by kernel_rfl) isRows .nil)))
theorem rg_of {h : H} {m : Nat} {cs : List Value} (k : Fits h m rangeSh cs) : ∃ t : Rg, cs = t.cells := by
  obtain ⟨zs, rfl, l, -⟩ := fits_ints (k := .i64) (by decide) k
  match zs, l with
  | [a, b], _ => exact ⟨⟨a, b⟩, rfl⟩
theorem test_of {h : H} {m : Nat} {cs : List Value} (k : Fits h m testSh cs) : ∃ t : Drag.T, cs = t.cells := by
  obtain ⟨zs, rfl, l, -⟩ := fits_ints (k := .i64) (by decide) k
  match zs, l with
  | [a, b, c, d, e, f, g, h, i, j, k, l, m, n, o, p], _ => exact ⟨⟨a, b, c, d, e, f, g, h, i, j, k, l, m, n, o, p⟩, rfl⟩
theorem rgs_of {h : H} {m : Nat} {cs : List Value} (k : Fits h m (.slice rangeSh) cs) : ∃ M : Rgs, cs = [.slice M.b M.n M.c] ∧ M.Ok m h := by
  obtain ⟨b, a, n, c, rfl, h1, h2, h3, h4, h5, h6⟩ := k
  have hz : ∀ i, i < n → ∃ z : Rg, h.loadN (aadd a (i * 2)) 2 = some z.cells := fun i hi => by
    obtain ⟨l, e1, k1⟩ := h6 i hi
    obtain ⟨z, rfl⟩ := rg_of k1
    exact ⟨z, e1⟩
  obtain ⟨f, hf⟩ := pick_all (⟨0, 0⟩ : Rg) hz
  exact ⟨⟨n, f, b, a, c⟩, rfl, h3, hf, fun h => (h4 h).1, by
    show n ≤ _
    rcases h2 with h2 | ⟨-, h2⟩
    · unfold maxLen at h2; omega
    · omega⟩
theorem hull_of {h : H} {m : Nat} {cs : List Value} (k : Fits h m hullSh cs) : ∃ T : Hull, cs = T.cells ∧ T.Ok m h := by
  obtain ⟨c1, c2, rfl, ⟨sp, rfl, -⟩, c3, c4, rfl, ⟨st, rfl, -⟩, c5, c6, rfl, k1, k2⟩ := k
  have k2 : c6 = [] := k2
  subst k2
  obtain ⟨b, a, n, c, rfl, h1, h2, h3, h4, h5, h6⟩ := k1
  have hz : ∀ i, i < n → ∃ R : Rgs, h.loadN (aadd a (i * 1)) 1 = some [.slice R.b R.n R.c] ∧ R.Ok m h := fun i hi => by
    obtain ⟨l, e1, kk⟩ := h6 i hi
    obtain ⟨R, rfl, hR⟩ := rgs_of kk
    exact ⟨R, e1, hR⟩
  obtain ⟨f, hf⟩ := pick_all (⟨0, fun _ => ⟨0, 0⟩, none, a, 0⟩ : Rgs) hz
  refine ⟨⟨sp, st, n, b, a, c, fun i => (f i).n, fun i => (f i).b, fun i => (f i).a, fun i => (f i).c, fun i k => (f i).f k⟩, rfl, h3, fun i hi => ?_, fun h => (h4 h).1, ?_, fun i hi => (hf i hi).2.e, fun i hi => (hf i hi).2.i, fun i hi => (hf i hi).2.r, fun i hi => (hf i hi).2.l⟩
  · have := (hf i hi).1
    rw [Nat.mul_one] at this
    exact this
  · show n ≤ _
    rcases h2 with h2 | ⟨-, h2⟩
    · unfold maxLen at h2; omega
    · omega
theorem u8_of {h : H} {m : Nat} {v : Value} (k : Fits h m (.int .u8) [v]) : ∃ n : Int, v = .int .u8 n ∧ 0 ≤ n ∧ n < 256 := by
  obtain ⟨n, e, h1, h2⟩ := k
  simp only [IntKind.min, IntKind.max, IntKind.signed, IntKind.bits] at h1 h2
  simp at h1 h2 e
  exact ⟨n, e, h1, by omega⟩
end AE.TopIn4
