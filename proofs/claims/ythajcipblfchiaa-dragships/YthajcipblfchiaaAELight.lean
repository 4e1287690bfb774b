/- Operations that touch nothing of the heap. -/
import Derived.Test.YthajcipblfchiaaAEComp
set_option linter.unusedVariables false
set_option linter.unusedSimpArgs false
set_option linter.unusedSectionVars false
namespace AE
open Go

section
variable {P : Program} {I : Inj} {ts : Ts} {ρ : Operand → Value}

/-- The loaded operands' values are the renamed ones of the temporaries. -/
def Ev (I : Inj) (ts : Ts) (ρ : Operand → Value) : Prop := ∀ x x', cOpd x = some x' → ρ x = ren I (ev ts x') ∧ In I (ev ts x')

theorem pureRun_run {α : Type} (P : Program) : ∀ (s : Sem α) (a : α), pureRun P s = some a → ∀ w, s.run P w = .ok a w
  | .pure b, a, h, w => by simp [pureRun] at h; subst h; rfl
  | .program k, a, h, w => by
    simp only [pureRun] at h
    exact pureRun_run P (k P) a h w
  | .load _ _ _, _, h, _ => by simp [pureRun] at h
  | .store _ _ _ _, _, h, _ => by simp [pureRun] at h
  | .new _ _, _, h, _ => by simp [pureRun] at h
  | .shape _ _, _, h, _ => by simp [pureRun] at h
  | .freeze _ _ _, _, h, _ => by simp [pureRun] at h
  | .frozen _ _, _, h, _ => by simp [pureRun] at h
  | .getObj _ _, _, h, _ => by simp [pureRun] at h
  | .setObj _ _ _, _, h, _ => by simp [pureRun] at h
  | .choose _ _, _, h, _ => by simp [pureRun] at h
  | .sys _ _, _, h, _ => by simp [pureRun] at h
  | .mark _ _, _, h, _ => by simp [pureRun] at h
  | .halt _, _, h, _ => by simp [pureRun] at h

/-- What a light operation does: it gives the renamed value, in whatever world. -/
def Lite (P : Program) (I : Inj) (ρ : Operand → Value) (o : Oper) (v : Value) : Prop := In I v ∧ ∀ w, (execOp ρ o).run P w = .ok (.value (ren I v)) w

theorem lite_pure (hρ : Ev I ts ρ) {o : Oper} {v : Value} (hs : ∀ cs b, o.op ≠ .select cs b) (hx : ∀ x ∈ o.op.operands, ∃ x', cOpd x = some x')
    (h : xPure P ts o = some v) : Lite P I ρ o v := by
  unfold xPure at h
  split at h
  · rename_i hf
    have hρ' : ∀ x ∈ o.op.operands, ρ x = evR ts x := by
      intro x hxm
      obtain ⟨x', e⟩ := hx x hxm
      have hfl : flat (evR ts x) = true := List.all_eq_true.1 hf x (by simpa using hxm)
      have hev : ev ts x' = evR ts x := by
        cases x with
        | tmp t => simp [cOpd] at e; subst e; rfl
        | const v => simp only [cOpd] at e; split at e <;> simp at e; subst e; rfl
        | global g => simp [cOpd] at e
        | func f => simp [cOpd] at e; subst e; rfl
      rw [(hρ x x' e).1, hev, (flat_ren I _ hfl).1]
    rw [Lite, execOp_congr o hs hρ']
    unfold pureOut at h
    split at h
    · rename_i v' hr
      split at h
      · rename_i hfv
        simp at h; subst h
        obtain ⟨e, i⟩ := flat_ren I v' hfv
        exact ⟨i, fun w => by rw [e]; exact pureRun_run P _ _ hr w⟩
      · simp at h
    · simp at h
  · simp at h


theorem run_sizeT {t : TypeId} {n : Nat} (h : sizeT P t = some n) (w : World) : (Go.sizeOf t).run P w = .ok n w := by
  unfold sizeT at h
  cases hi : P.info? t with
  | none => simp [hi] at h
  | some i => simp [hi] at h; simp [Go.sizeOf, run_typeInfo w hi, h]
theorem run_isAggT {t : TypeId} {b : Bool} (h : isAggT P t = some b) (w : World) : (isAgg t).run P w = .ok b w := by
  unfold isAggT at h
  cases hu : P.underlying t with
  | none => simp [hu] at h
  | some d => cases d <;> simp [hu] at h <;> subst h <;> simp [isAgg, run_underlying hu]
theorem run_zflat {t : TypeId} {z : Value} (h : zflat P t = some z) (w : World) : (zeroValue t).run P w = .ok z w ∧ flat z = true := by
  unfold zflat zeroT at h
  cases hi : P.info? t with
  | none => simp [hi] at h
  | some i =>
    simp only [hi, Option.bind_some] at h
    cases hz : i.zero with
    | none => simp [hz] at h
    | some z' =>
      simp only [hz, Option.bind_some] at h
      split at h <;> simp at h
      subst h
      exact ⟨by simp [zeroValue, run_typeInfo w hi, hz], by assumption⟩

theorem lite_mv (hρ : Ev I ts ρ) {o : Oper} {x : Operand} {x' : Opd} (ho : o.op = .move x ∨ o.op = .assign x) (hx : cOpd x = some x') : Lite P I ρ o (ev ts x') := by
  obtain ⟨e, i⟩ := hρ x x' hx
  rcases ho with ho | ho <;> exact ⟨i, fun w => by simp [execOp, ho, e]⟩

theorem ren_bool {v : Value} {b : Bool} (h : v = .bool b) : ren I v = .bool b := by subst h; simp [ren]
theorem lite_pick (hρ : Ev I ts ρ) {o : Oper} {c a b : Operand} {c' a' b' : Opd} {v : Value} (ho : o.op = .pick c a b) (hc : cOpd c = some c') (ha : cOpd a = some a') (hb : cOpd b = some b')
    (h : xPick (ev ts a') (ev ts b') (ev ts c') = some v) : Lite P I ρ o v := by
  obtain ⟨ec, -⟩ := hρ c c' hc
  obtain ⟨ea, ia⟩ := hρ a a' ha
  obtain ⟨eb, ib⟩ := hρ b b' hb
  unfold xPick at h
  split at h
  · rename_i t ht
    rw [ht] at ec
    simp at h; subst h
    refine ⟨by split <;> assumption, fun w => ?_⟩
    simp only [execOp, ho, ec, ea, eb, ren]
    cases t <;> simp [asBool]
  · simp at h

theorem lite_nilck (hρ : Ev I ts ρ) {o : Oper} {x : Operand} {x' : Opd} {v : Value} (ho : o.op = .nilCheck x) (hx : cOpd x = some x') (h : xNilck (ev ts x') = some v) : Lite P I ρ o v := by
  obtain ⟨e, i⟩ := hρ x x' hx
  unfold xNilck at h
  split at h
  · rename_i a ha
    rw [ha] at e i
    simp at h; subst h
    refine ⟨i, fun w => ?_⟩
    obtain ⟨p, hp⟩ := i
    simp [execOp, ho, e, ren, renA, hp]
  · simp at h

theorem lite_int (hρ : Ev I ts ρ) {o : Oper} {op : BinOp} {i : IOp} {t t' : TypeId} {x y : Operand} {x' y' : Opd} {v : Value} (ho : o.op = .binOp op t x y t')
    (hi : iopOf op = some i) (hx : cOpd x = some x') (hy : cOpd y = some y') (h : xInt i (ev ts x') (ev ts y') = some v) : Lite P I ρ o v := by
  obtain ⟨ex, -⟩ := hρ x x' hx
  obtain ⟨ey, -⟩ := hρ y y' hy
  unfold xInt at h
  split at h
  · rename_i a b ha hb
    rw [ha] at ex
    rw [hb] at ey
    simp only [ren] at ex ey
    simp at h; subst h
    cases op <;> simp [iopOf] at hi <;> subst hi <;>
      exact ⟨by simp [iop, In], fun w => by simp [execOp, ho, ex, ey, eqGuard, binOp, Op.intArith, Op.intCmp, iop, ren, w64]⟩
  · simp at h

theorem lite_idiv (hρ : Ev I ts ρ) {o : Oper} {op : BinOp} {q : Bool} {t t' : TypeId} {x y : Operand} {x' y' : Opd} {v : Value} (ho : o.op = .binOp op t x y t')
    (hi : op = if q then .quo else .rem) (hx : cOpd x = some x') (hy : cOpd y = some y') (h : xIdiv q (ev ts x') (ev ts y') = some v) : Lite P I ρ o v := by
  obtain ⟨ex, -⟩ := hρ x x' hx
  obtain ⟨ey, -⟩ := hρ y y' hy
  unfold xIdiv at h
  split at h
  · rename_i a b ha hb
    rw [ha] at ex
    rw [hb] at ey
    simp only [ren] at ex ey
    split at h <;> simp at h
    rename_i hb0
    subst h
    cases q <;> simp at hi <;> subst hi <;>
      exact ⟨by simp [In], fun w => by simp [execOp, ho, ex, ey, eqGuard, binOp, Op.intDiv, hb0, ren, w64]⟩
  · simp at h

theorem lite_not (hρ : Ev I ts ρ) {o : Oper} {t : TypeId} {x : Operand} {x' : Opd} {v : Value} (ho : o.op = .unOp .not t x) (hx : cOpd x = some x') (h : xNot (ev ts x') = some v) : Lite P I ρ o v := by
  obtain ⟨e, -⟩ := hρ x x' hx
  unfold xNot at h
  split at h
  · rename_i b hb
    rw [hb] at e
    simp at h; subst h
    exact ⟨by simp [In], fun w => by simp [execOp, ho, e, ren, Op.unary]⟩
  · simp at h
theorem lite_neg (hρ : Ev I ts ρ) {o : Oper} {t : TypeId} {x : Operand} {x' : Opd} {v : Value} (ho : o.op = .unOp .neg t x) (hx : cOpd x = some x') (h : xNeg (ev ts x') = some v) : Lite P I ρ o v := by
  obtain ⟨e, -⟩ := hρ x x' hx
  unfold xNeg at h
  split at h
  · rename_i b hb
    rw [hb] at e
    simp at h; subst h
    exact ⟨by simp [In], fun w => by simp [execOp, ho, e, ren, Op.unary, Op.intArith, w64]⟩
  · simp at h
theorem lite_conv (hρ : Ev I ts ρ) {o : Oper} {s d : TypeId} {j k : IntKind} {x : Operand} {x' : Opd} {v : Value} (ho : o.op = .convert s d x) (hs : P.underlying s = some (.int j)) (hd : P.underlying d = some (.int k))
    (hx : cOpd x = some x') (h : xConv k (ev ts x') = some v) : Lite P I ρ o v := by
  obtain ⟨e, -⟩ := hρ x x' hx
  unfold xConv at h
  split at h
  · rename_i b hb
    rw [hb] at e
    simp at h; subst h
    exact ⟨by simp [In], fun w => by simp [execOp, ho, e, ren, convert, run_underlying hs, run_underlying hd, Conv.intToInt]⟩
  · simp at h
theorem lite_mnmx (hρ : Ev I ts ρ) {o : Oper} {m : Bool} {b : Builtin} {x y : Operand} {x' y' : Opd} {ty : Array TypeId} {v : Value} (hb : b = if m then .max else .min) (ho : o.op = .call ⟨.builtin b, #[x, y], ty⟩)
    (hx : cOpd x = some x') (hy : cOpd y = some y') (h : xMnmx m (ev ts x') (ev ts y') = some v) : Lite P I ρ o v := by
  obtain ⟨ex, -⟩ := hρ x x' hx
  obtain ⟨ey, -⟩ := hρ y y' hy
  unfold xMnmx at h
  split at h
  · rename_i a c ha hc
    rw [ha] at ex
    rw [hc] at ey
    simp only [ren] at ex ey
    simp at h; subst h
    cases m <;> simp at hb <;> subst hb <;>
      exact ⟨by simp [In], fun w => by simp [execOp, ho, ex, ey, resolve, invoke, builtin, Builtin.min_, Builtin.max_, Builtin.min2, Builtin.max2, ren]⟩
  · simp at h
theorem lite_mkif (hρ : Ev I ts ρ) {o : Oper} {t : TypeId} {d : TypeDesc} {x : Operand} {x' : Opd} (ho : o.op = .makeInterface t x) (ht : P.underlying t = some d) (hd : ∀ m, d ≠ .interface m) (hx : cOpd x = some x') :
    Lite P I ρ o (.iface t (ev ts x')) := by
  obtain ⟨e, i⟩ := hρ x x' hx
  refine ⟨by simpa [In] using i, fun w => ?_⟩
  cases d <;> first
    | exact absurd rfl (hd _)
    | simp [execOp, ho, e, ren, Instr.makeInterface, run_underlying ht]

theorem cOpds_ev (hρ : Ev I ts ρ) : ∀ (xs : List Operand) (ys : List Opd), cOpds xs = some ys → xs.map ρ = renL I (ys.map (ev ts)) ∧ InL I (ys.map (ev ts))
  | [], ys, h => by simp [cOpds] at h; subst h; simp [renL, InL]
  | x :: xs, ys, h => by
    simp only [cOpds, Option.bind_eq_some_iff, Option.map_eq_some_iff] at h
    obtain ⟨y, hy, zs, hz, rfl⟩ := h
    obtain ⟨e, i⟩ := hρ x y hy
    obtain ⟨e2, i2⟩ := cOpds_ev hρ xs zs hz
    simp only [List.map_cons, renL, InL]
    exact ⟨by rw [e, e2], i, i2⟩
theorem map_mk (l : List Operand) (ρ : Operand → Value) : (⟨l⟩ : Array Operand).map ρ = ⟨l.map ρ⟩ := by simp

theorem lite_mkfn (hρ : Ev I ts ρ) {o : Oper} {fn : Fn} {fs cs : Array Operand} {f' c' : List Opd} (ho : o.op = .makeFunc fn fs cs) (hf : fnFlat fn = true) (h1 : cOpds fs.toList = some f') (h2 : cOpds cs.toList = some c') :
    Lite P I ρ o (.func fn ⟨f'.map (ev ts)⟩ ⟨c'.map (ev ts)⟩) := by
  obtain ⟨e1, i1⟩ := cOpds_ev hρ _ _ h1
  obtain ⟨e2, i2⟩ := cOpds_ev hρ _ _ h2
  have hn : renFn I fn = fn ∧ InFn I fn := by cases fn <;> simp_all [fnFlat, renFn, InFn]
  refine ⟨by simp only [In]; exact ⟨hn.2, i1, i2⟩, fun w => ?_⟩
  have a1 : fs.map ρ = ⟨fs.toList.map ρ⟩ := by cases fs; simp
  have a2 : cs.map ρ = ⟨cs.toList.map ρ⟩ := by cases cs; simp
  simp [execOp, ho, Instr.makeFunc, ren, a1, a2, e1, e2, hn.1]

theorem renA_aadd {a : Addr} (ha : InA I a) (n : Nat) : InA I (aadd a n) ∧ renA I (aadd a n) = (renA I a).map (·.add n) := by
  obtain ⟨p, hp⟩ := ha
  refine ⟨⟨p, by simpa [aadd] using hp⟩, ?_⟩
  simp only [renA, aadd, hp, Option.map_some, Addr.add]
  split
  · rename_i h; subst h; simp
  · simp [Nat.add_assoc]
theorem renA_some {a : Addr} (ha : InA I a) : ∃ b, renA I a = some b := by
  obtain ⟨p, hp⟩ := ha
  exact ⟨⟨p.1, p.2 + a.off, none⟩, by simp only [renA, hp]⟩

theorem lite_faddr (hρ : Ev I ts ρ) {o : Oper} {s : TypeId} {f n : Nat} {fields : Array Field} {fd : Field} {x : Operand} {x' : Opd} {v : Value} (ho : o.op = .fieldAddr s x f) (hs : P.underlying s = some (.struct fields))
    (hf : fields[f]? = some fd) (hn : sizeT P fd.type = some n) (hn0 : n ≠ 0) (hx : cOpd x = some x') (h : xFaddr fd.offset (ev ts x') = some v) : Lite P I ρ o v := by
  obtain ⟨e, i⟩ := hρ x x' hx
  unfold xFaddr at h
  split at h
  · rename_i a ha
    rw [ha] at e i
    simp at h; subst h
    simp only [In] at i
    obtain ⟨i2, e2⟩ := renA_aadd i fd.offset
    obtain ⟨b, hb⟩ := renA_some i
    refine ⟨by simpa [In] using i2, fun w => ?_⟩
    simp [execOp, ho, e, ren, Instr.fieldAt, run_underlying hs, hf, Instr.sureAddr, hb, fieldPlace, run_sizeT hn, hn0, e2]
  · simp at h

theorem cut_some {α : Type} {xs l : List α} {off n : Nat} (h : cut xs off n = some l) : off + n ≤ xs.length ∧ l = (xs.drop off).take n := by
  unfold cut at h
  split at h <;> simp at h
  exact ⟨by assumption, h.symm⟩
theorem InL_cut {xs l : List Value} {off n : Nat} (hx : InL I xs) (h : cut xs off n = some l) : InL I l := by
  obtain ⟨-, rfl⟩ := cut_some h
  exact (InL_iff I _).2 fun v hv => (InL_iff I _).1 hx v (List.mem_of_mem_drop (List.mem_of_mem_take hv))
theorem renL_cut {xs l : List Value} {off n : Nat} (h : cut xs off n = some l) : renL I l = ((renL I xs).drop off).take n := by
  obtain ⟨-, rfl⟩ := cut_some h
  simp [renL_map, List.map_take, List.map_drop]

theorem run_part_agg {t : TypeId} {n off : Nat} {cs l : List Value} (ha : isAggT P t = some true) (hn : sizeT P t = some n) (hc : cut cs off n = some l) (w : World) :
    (part t ⟨renL I cs⟩ off).run P w = .ok (.agg ⟨renL I l⟩) w := by
  rw [renL_cut hc]
  simp [part, run_isAggT ha, run_sizeT hn]
theorem run_part_one {t : TypeId} {off : Nat} {cs : List Value} {v : Value} (ha : isAggT P t = some false) (hc : cs[off]? = some v) (w : World) :
    (part t ⟨renL I cs⟩ off).run P w = .ok (ren I v) w := by
  have : (renL I cs)[off]? = some (ren I v) := by rw [renL_getElem?, hc]; rfl
  simp [part, run_isAggT ha, this]

theorem agg_ev {cs : Array Value} {x : Value} (e : x = ren I (.agg cs)) : x = .agg ⟨renL I cs.toList⟩ := by
  cases cs; rw [e]; simp [ren]
theorem lite_field1 (hρ : Ev I ts ρ) {o : Oper} {s : TypeId} {f : Nat} {fields : Array Field} {fd : Field} {x : Operand} {x' : Opd} {v : Value} (ho : o.op = .field s x f) (hs : P.underlying s = some (.struct fields))
    (hf : fields[f]? = some fd) (ha : isAggT P fd.type = some false) (hx : cOpd x = some x') (h : xField1 fd.offset (ev ts x') = some v) : Lite P I ρ o v := by
  obtain ⟨e, i⟩ := hρ x x' hx
  unfold xField1 at h
  split at h
  · rename_i cs hcs
    rw [hcs] at e i
    cases cs with | mk cs =>
    simp only [In] at i
    refine ⟨InL_get i h, fun w => ?_⟩
    rw [ren_agg] at e
    simp [execOp, ho, e, Instr.field, run_underlying hs, hf, asAgg, run_part_one ha h]
  · simp at h
theorem lite_fieldn (hρ : Ev I ts ρ) {o : Oper} {s : TypeId} {f n : Nat} {fields : Array Field} {fd : Field} {x : Operand} {x' : Opd} {v : Value} (ho : o.op = .field s x f) (hs : P.underlying s = some (.struct fields))
    (hf : fields[f]? = some fd) (ha : isAggT P fd.type = some true) (hn : sizeT P fd.type = some n) (hx : cOpd x = some x') (h : xFieldn fd.offset n (ev ts x') = some v) : Lite P I ρ o v := by
  obtain ⟨e, i⟩ := hρ x x' hx
  unfold xFieldn at h
  split at h
  · rename_i cs hcs
    rw [hcs] at e i
    cases cs with | mk cs =>
    simp only [In] at i
    simp only [Option.map_eq_some_iff] at h
    obtain ⟨l, hl, rfl⟩ := h
    refine ⟨by simpa only [In] using InL_cut i hl, fun w => ?_⟩
    rw [ren_agg] at e
    simp [execOp, ho, e, Instr.field, run_underlying hs, hf, asAgg, run_part_agg ha hn hl, ren]
  · simp at h

theorem natOf_ren {v : Value} {i : Nat} (h : natOf? v = some i) : ∃ k, ren I v = .int k (i : Int) := by
  unfold natOf? at h
  split at h
  · rename_i k n
    split at h <;> simp at h
    exact ⟨k, by simp only [ren]; congr 1; omega⟩
  · simp at h
theorem lite_ixarr (hρ : Ev I ts ρ) {o : Oper} {t e : TypeId} {n sz : Nat} {x y : Operand} {x' y' : Opd} {v : Value} (ho : o.op = .indexAddr t x y) (ht : P.underlying t = some (.array n e)) (hsz : sizeT P e = some sz)
    (hx : cOpd x = some x') (hy : cOpd y = some y') (h : xIxarr n sz (ev ts y') (ev ts x') = some v) : Lite P I ρ o v := by
  obtain ⟨e1, i1⟩ := hρ x x' hx
  obtain ⟨e2, -⟩ := hρ y y' hy
  unfold xIxarr at h
  split at h
  · rename_i a ha
    rw [ha] at e1 i1
    simp only [Option.bind_eq_some_iff] at h
    obtain ⟨i, hi, h⟩ := h
    obtain ⟨k, hk⟩ := natOf_ren (I := I) hi
    rw [hk] at e2
    split at h <;> simp at h
    rename_i hlt
    subst h
    simp only [In] at i1
    obtain ⟨i3, e3⟩ := renA_aadd i1 (i * sz)
    obtain ⟨b, hb⟩ := renA_some i1
    refine ⟨by simpa [In] using i3, fun w => ?_⟩
    simp [execOp, ho, e1, e2, ren, Instr.indexAt, run_underlying ht, Instr.sureAddr, hb, asIntOf, run_sizeT hsz, e3, hlt]
  · simp at h
theorem lite_ixsl (hρ : Ev I ts ρ) {o : Oper} {t e : TypeId} {sz : Nat} {x y : Operand} {x' y' : Opd} {v : Value} (ho : o.op = .indexAddr t x y) (ht : P.underlying t = some (.slice e)) (hsz : sizeT P e = some sz)
    (hx : cOpd x = some x') (hy : cOpd y = some y') (h : xIxsl sz (ev ts y') (ev ts x') = some v) : Lite P I ρ o v := by
  obtain ⟨e1, i1⟩ := hρ x x' hx
  obtain ⟨e2, -⟩ := hρ y y' hy
  unfold xIxsl at h
  split at h
  · rename_i a n c ha
    rw [ha] at e1 i1
    simp only [Option.bind_eq_some_iff] at h
    obtain ⟨i, hi, h⟩ := h
    obtain ⟨k, hk⟩ := natOf_ren (I := I) hi
    rw [hk] at e2
    split at h <;> simp at h
    rename_i hlt
    subst h
    simp only [In] at i1
    obtain ⟨i3, e3⟩ := renA_aadd i1.1 (i * sz)
    obtain ⟨b, hb⟩ := renA_some i1.1
    refine ⟨by simpa [In] using i3, fun w => ?_⟩
    simp [execOp, ho, e1, e2, ren, Instr.indexAt, run_underlying ht, hb, asIntOf, run_sizeT hsz, e3, hlt]
  · simp at h
theorem lite_ixv1 (hρ : Ev I ts ρ) {o : Oper} {t e : TypeId} {n : Nat} {x y : Operand} {x' y' : Opd} {v : Value} (ho : o.op = .index t x y) (ht : P.underlying t = some (.array n e)) (hsz : sizeT P e = some 1) (ha : isAggT P e = some false)
    (hx : cOpd x = some x') (hy : cOpd y = some y') (h : xIxv1 n (ev ts y') (ev ts x') = some v) : Lite P I ρ o v := by
  obtain ⟨e1, i1⟩ := hρ x x' hx
  obtain ⟨e2, -⟩ := hρ y y' hy
  unfold xIxv1 at h
  split at h
  · rename_i cs hcs
    rw [hcs] at e1 i1
    cases cs with | mk cs =>
    simp only [Option.bind_eq_some_iff] at h
    obtain ⟨i, hi, h⟩ := h
    obtain ⟨k, hk⟩ := natOf_ren (I := I) hi
    rw [hk] at e2
    split at h
    · rename_i hlt
      simp only [In] at i1
      refine ⟨InL_get i1 h, fun w => ?_⟩
      rw [ren_agg] at e1
      simp [execOp, ho, e1, e2, Instr.index, run_underlying ht, asIntOf, run_sizeT hsz, hlt, run_part_one ha h]
    · simp at h
  · simp at h
theorem lite_ixvn (hρ : Ev I ts ρ) {o : Oper} {t e : TypeId} {n sz : Nat} {x y : Operand} {x' y' : Opd} {v : Value} (ho : o.op = .index t x y) (ht : P.underlying t = some (.array n e)) (hsz : sizeT P e = some sz) (ha : isAggT P e = some true)
    (hx : cOpd x = some x') (hy : cOpd y = some y') (h : xIxvn n sz (ev ts y') (ev ts x') = some v) : Lite P I ρ o v := by
  obtain ⟨e1, i1⟩ := hρ x x' hx
  obtain ⟨e2, -⟩ := hρ y y' hy
  unfold xIxvn at h
  split at h
  · rename_i cs hcs
    rw [hcs] at e1 i1
    cases cs with | mk cs =>
    simp only [Option.bind_eq_some_iff] at h
    obtain ⟨i, hi, h⟩ := h
    obtain ⟨k, hk⟩ := natOf_ren (I := I) hi
    rw [hk] at e2
    split at h
    · rename_i hlt
      simp only [Option.map_eq_some_iff] at h
      obtain ⟨l, hl, rfl⟩ := h
      simp only [In] at i1
      refine ⟨by simpa only [In] using InL_cut i1 hl, fun w => ?_⟩
      rw [ren_agg] at e1
      simp [execOp, ho, e1, e2, Instr.index, run_underlying ht, asIntOf, run_sizeT hsz, hlt, run_part_agg ha hsz hl, ren]
    · simp at h
  · simp at h
theorem lite_extract (hρ : Ev I ts ρ) {o : Oper} {x : Operand} {x' : Opd} {i : Nat} {v : Value} (ho : o.op = .extract x i) (hx : cOpd x = some x') (h : xExtract i (ev ts x') = some v) : Lite P I ρ o v := by
  obtain ⟨e, hi⟩ := hρ x x' hx
  unfold xExtract at h
  split at h
  · rename_i vs hvs
    rw [hvs] at e hi
    cases vs with | mk vs =>
    simp only [In] at hi
    refine ⟨InL_get hi h, fun w => ?_⟩
    have : (renL I vs)[i]? = some (ren I v) := by rw [renL_getElem?]; simp at h; rw [h]; rfl
    simp [execOp, ho, e, ren, Instr.extract, this]
  · simp at h
theorem lite_tass (hρ : Ev I ts ρ) {o : Oper} {t xt : TypeId} {d : TypeDesc} {ok : Bool} {z : Value} {x : Operand} {x' : Opd} {v : Value} (ho : o.op = .typeAssert x xt t ok) (ht : P.underlying t = some d) (hd : ∀ m, d ≠ .interface m)
    (hz : zflat P t = some z) (hx : cOpd x = some x') (h : xTass t z ok (ev ts x') = some v) : Lite P I ρ o v := by
  obtain ⟨e, i⟩ := hρ x x' hx
  have hzf := (run_zflat hz default).2
  obtain ⟨ez, iz⟩ := flat_ren I z hzf
  unfold xTass at h
  split at h
  · rename_i u y hy
    rw [hy] at e i
    simp only [ren, In] at e i
    split at h
    · rename_i hut
      subst hut
      simp at h; subst h
      cases ok
      · refine ⟨by simpa using i, fun w => ?_⟩
        cases d <;> first
          | exact absurd rfl (hd _)
          | simp [execOp, ho, e, Instr.typeAssert, run_underlying ht]
      · refine ⟨by simp [In, InL, i], fun w => ?_⟩
        cases d <;> first
          | exact absurd rfl (hd _)
          | simp [execOp, ho, e, Instr.typeAssert, run_underlying ht, ren, renL]
    · rename_i hut
      split at h <;> simp at h
      rename_i hok
      subst h
      refine ⟨by simp [In, InL, iz], fun w => ?_⟩
      cases d <;> first
        | exact absurd rfl (hd _)
        | simp [execOp, ho, e, Instr.typeAssert, run_underlying ht, ren, renL, hut, hok, (run_zflat hz w).1, ez]
  · rename_i hy
    rw [hy] at e
    simp only [ren] at e
    split at h <;> simp at h
    rename_i hok
    subst h
    refine ⟨by simp [In, InL, iz], fun w => ?_⟩
    cases d <;> first
      | exact absurd rfl (hd _)
      | simp [execOp, ho, e, Instr.typeAssert, run_underlying ht, ren, renL, hok, (run_zflat hz w).1, ez]
  · simp at h


/-! ### build, comparisons with nil, slices, lengths -/

theorem splice_length {α : Type} {xs ys : List α} {off : Nat} (h : off + ys.length ≤ xs.length) : (splice xs off ys).length = xs.length := by
  simp [splice]; omega
theorem renL_splice (xs ys : List Value) (off : Nat) : renL I (splice xs off ys) = splice (renL I xs) off (renL I ys) := by
  simp [splice, renL_map, List.map_take, List.map_drop]
theorem InL_splice {xs ys : List Value} {off : Nat} (hx : InL I xs) (hy : InL I ys) : InL I (splice xs off ys) := by
  rw [InL_iff] at *
  intro v hv
  simp only [splice, List.mem_append] at hv
  rcases hv with (hv | hv) | hv
  · exact hx v (List.mem_of_mem_take hv)
  · exact hy v hv
  · exact hx v (List.mem_of_mem_drop hv)

theorem foldl_set (off : Nat) : ∀ (vs : List Value) (k : Nat) (l : List Value), off + k + vs.length ≤ l.length →
    (vs.zipIdx k).foldl (fun cs (x : Value × Nat) => cs.setIfInBounds (off + x.2) x.1) (⟨l⟩ : Array Value) = ⟨l.take (off + k) ++ vs ++ l.drop (off + k + vs.length)⟩
  | [], k, l, h => by simp
  | v :: vs, k, l, h => by
    simp only [List.length_cons] at h
    simp only [List.zipIdx_cons, List.foldl_cons, List.setIfInBounds_toArray]
    rw [foldl_set off vs (k + 1) _ (by simp; omega), List.set_eq_take_append_cons_drop, if_pos (by omega)]
    have e1 : (l.take (off + k)).length = off + k := by simp; omega
    congr 1
    have t1 : ((l.take (off + k)) ++ v :: l.drop (off + k + 1)).take (off + (k + 1)) = l.take (off + k) ++ [v] := by
      rw [List.take_append, e1]
      simp [show off + (k + 1) - (off + k) = 1 by omega]
      exact List.take_of_length_le (by simp; omega)
    have t2 : ((l.take (off + k)) ++ v :: l.drop (off + k + 1)).drop (off + (k + 1) + vs.length) = l.drop (off + k + (vs.length + 1)) := by
      rw [List.drop_append, e1, List.drop_eq_nil_of_le (by simp; omega)]
      simp [show off + (k + 1) + vs.length - (off + k) = vs.length + 1 by omega]
      congr 1; omega
    rw [t1, t2]
    simp

theorem run_fill (hρ : Ev I ts ρ) (place : Nat → Option (Nat × Nat)) : ∀ (ps : List (Nat × Operand)) (qs : List (Nat × Nat × Opd)) (cells l : List Value), cParts place ps = some qs → afill ts cells qs = some l → InL I cells →
    Instr.fill place ⟨renL I cells⟩ (ps.map fun (i, x) => (i, ρ x)) = some ⟨renL I l⟩ ∧ InL I l
  | [], qs, cells, l, hc, ha, hi => by
    simp [cParts] at hc; subst hc
    simp [afill] at ha; subst ha
    simp [Instr.fill, hi]
  | (i, x) :: ps, qs, cells, l, hc, ha, hi => by
    simp only [cParts, Option.bind_eq_some_iff, Option.map_eq_some_iff] at hc
    obtain ⟨p, hp, y, hy, qs', hq, rfl⟩ := hc
    obtain ⟨off, size⟩ := p
    simp only [afill] at ha
    split at ha
    · rename_i hf
      obtain ⟨e, iv⟩ := hρ x y hy
      have hcl := cellsL_ren I (ev ts y)
      obtain ⟨hl, hoff⟩ := hf
      have ih := run_fill hρ place ps qs' _ l hq ha (InL_splice hi (InL_cellsL iv))
      refine ⟨?_, ih.2⟩
      simp only [List.map_cons, Instr.fill, hp, e, cells_eq]
      rw [if_neg (by simp [hcl, hl]; omega)]
      rw [← ih.1]
      congr 1
      rw [← Array.foldl_toList, Array.toList_zipIdx]
      have := foldl_set off (cellsL (ren I (ev ts y))) 0 (renL I cells) (by simp [hcl, hl]; omega)
      simp only [Nat.add_zero] at this
      rw [this, renL_splice]
      simp [splice, hcl]
    · simp at ha

theorem run_mapM {α β : Type} (w : World) (f : α → Sem β) (g : α → β) : ∀ (l : List α), (∀ x ∈ l, (f x).run P w = .ok (g x) w) → (l.mapM f).run P w = .ok (l.map g) w
  | [], _ => by simp
  | x :: l, h => by
    have ih := run_mapM w f g l (fun y hy => h y (by simp [hy]))
    simp only [List.mapM_cons, Sem.run_bind, h x (by simp), Result.andThen_ok, ih, Sem.run_pure, List.map_cons]
theorem run_mapMA {α β : Type} (w : World) (f : α → Sem β) (g : α → β) (xs : Array α) (h : ∀ x ∈ xs.toList, (f x).run P w = .ok (g x) w) : (xs.mapM f).run P w = .ok ⟨xs.toList.map g⟩ w := by
  rw [Array.mapM_eq_mapM_toList, Sem.run_map, run_mapM w f g _ h]
  rfl

theorem lite_build (hρ : Ev I ts ρ) {o : Oper} {t : TypeId} {parts : Array (Nat × Operand)} {z : Value} {ps : List (Nat × Nat × Opd)} {l : List Value} (ho : o.op = .build t parts) (hz : zflat P t = some z)
    (hp : (∃ fields, P.underlying t = some (.struct fields) ∧ (fields.toList.all fun f => (sizeT P f.type).isSome) = true ∧ cParts (fieldPlaces P fields) parts.toList = some ps) ∨
      ∃ n e s, P.underlying t = some (.array n e) ∧ sizeT P e = some s ∧ cParts (fun i => some (i * s, s)) parts.toList = some ps)
    (h : afill ts (cellsL z) ps = some l) : Lite P I ρ o (.agg ⟨l⟩) := by
  have hzf := (run_zflat hz default).2
  have hi : InL I (cellsL z) := InL_cellsL (flat_ren I z hzf).2
  have hrz : renL I (cellsL z) = cellsL z := by rw [← cellsL_ren, (flat_ren I z hzf).1]
  rcases hp with ⟨fields, ht, hall, hc⟩ | ⟨n, e, s, ht, hs, hc⟩
  · obtain ⟨e1, i1⟩ := run_fill hρ _ _ _ _ _ hc h hi
    refine ⟨by simpa [In] using i1, fun w => ?_⟩
    rw [hrz] at e1
    have hm := run_mapMA (P := P) w (fun f : Field => (do pure (f.offset, ← Go.sizeOf f.type) : Sem (Nat × Nat))) (fun f => (f.offset, (sizeT P f.type).getD 0)) fields (fun f hf => by
      obtain ⟨n, hn⟩ := Option.isSome_iff_exists.1 (List.all_eq_true.1 hall f hf)
      simp only [Sem.run_bind, run_sizeT hn, Result.andThen_ok, Sem.run_pure, hn, Option.getD_some])
    have hpl : (fun i => (⟨fields.toList.map fun f => (f.offset, (sizeT P f.type).getD 0)⟩ : Array (Nat × Nat))[i]?) = fieldPlaces P fields := by
      funext i
      simp only [fieldPlaces, List.getElem?_toArray, List.getElem?_map, Array.getElem?_toList]
      cases hf : fields[i]? with
      | none => rfl
      | some f =>
        obtain ⟨n, hn⟩ := Option.isSome_iff_exists.1 (List.all_eq_true.1 hall f (by
          have := Array.mem_of_getElem? hf
          simpa using this))
        simp [hn]
    simp only [execOp, ho, Instr.build, Sem.run_bind, (run_zflat hz w).1, run_underlying ht, Result.andThen_ok, hm, hpl]
    simp [cells_eq, e1, ren]
  · obtain ⟨e1, i1⟩ := run_fill hρ _ _ _ _ _ hc h hi
    refine ⟨by simpa [In] using i1, fun w => ?_⟩
    rw [hrz] at e1
    simp [execOp, ho, Instr.build, (run_zflat hz w).1, run_underlying ht, run_sizeT hs, cells_eq, e1, ren]

end
end AE
