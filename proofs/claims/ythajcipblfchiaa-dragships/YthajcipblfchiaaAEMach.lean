/- The evaluator's code in the machine: rules for walking it. -/
import Derived.Test.YthajcipblfchiaaAEWrap
import Derived.OrdersIn
import Derived.RangeFuncIn
set_option linter.unusedVariables false
set_option linter.unusedSimpArgs false
set_option linter.unusedSectionVars false
namespace AE
open Go Go.RowKit

/-! ### code, compiled -/

def cGuard (ops : Array Oper) : Option (Nat × Bool) → Option (Option (Nat × Bool))
  | none => some none
  | some (j, b) => ((ops[j]?).bind (·.dst)).map fun t => some (t, b)
def insKnown : AIns → Bool
  | .op o => o.known
  | .call _ _ => true
def dstOk (n : Nat) : Option Nat → Bool
  | none => true
  | some d => decide (d < n)
def cOper (P : Program) (n : Nat) (ops : Array Oper) (o : Oper) : Option AOper :=
  (cGuard ops o.guard).bind fun g => (comp P o).bind fun i => if insKnown i && dstOk n o.dst then some ⟨o.dst, g, i⟩ else none
def cOpers (P : Program) (n : Nat) (ops : Array Oper) : List Oper → Option (List AOper)
  | [] => some []
  | o :: os => (cOper P n ops o).bind fun x => (cOpers P n ops os).map (x :: ·)

theorem cOpers_get {P : Program} {n : Nat} {ops : Array Oper} : ∀ {os : List Oper} {xs : List AOper}, cOpers P n ops os = some xs → xs.length = os.length ∧ ∀ (i : Nat) (o : Oper), os[i]? = some o → ∃ x, xs[i]? = some x ∧ cOper P n ops o = some x
  | [], xs, h => by simp [cOpers] at h; subst h; simp
  | o :: os, xs, h => by
    simp only [cOpers, Option.bind_eq_some_iff, Option.map_eq_some_iff] at h
    obtain ⟨x, hx, ys, hys, rfl⟩ := h
    obtain ⟨h1, h2⟩ := cOpers_get hys
    refine ⟨by simp [h1], fun i o' ho => ?_⟩
    cases i with
    | zero => simp at ho; subst ho; exact ⟨x, by simp, hx⟩
    | succ i => simp at ho; simpa using h2 i o' ho

/-! ### what a call does, what code does -/

def WR (ro : Option Nat) : Fence := { Fence.wide with round := ro }
theorem WR_room (ro : Option Nat) (n : Nat) : (WR ro).room n := fun _ h => by simp [WR, Fence.wide] at h
theorem fenced_WR (P : Program) (ro : Option Nat) (m : Machine) : m.fenced P (WR ro) := fenced_wide P m
theorem stepsIn_WR {P : Program} {ro : Option Nat} {m m' : Machine} (h : Steps P m m') : StepsIn (Machine.fenced P (WR ro)) P m m' :=
  (StepsIn.of_steps h).mono fun m _ => fenced_WR P ro m
theorem comesIn_WR {P : Program} {ro : Option Nat} {m m' : Machine} {e : Ending} (h : Comes P m m' e) : ComesIn (Machine.fenced P (WR ro)) P m m' e := by
  cases e with
  | returned v => exact stepsIn_WR h
  | panicked chain => exact stepsIn_WR h
  | outgrown => exact h
theorem callsIn_WR {n : Nat} {P : Program} {ro : Option Nat} {f : FuncId} {args : Array Value} {w : World} {R : Ending → World → Prop} (h : Calls P f args w R) : CallsIn (WR ro) n P f args w R :=
  ⟨trivial, fun cs _ => let ⟨e, w', fr, r, s, x⟩ := h cs; ⟨e, w', fr, r, comesIn_WR s, x⟩⟩

/-- From I, at w, one has come to J and h', at w'; rows that are new are from base on. -/
structure Went (I J : Inj) (lo base : Nat) (h' : H) (w w' : World) : Prop where
  grows : Grows I J w
  dom : ∀ r, J.dom r → I.dom r ∨ base ≤ r
  old : ∀ r s p, r < lo → J.at_ r s = some p → I.at_ r s = some p
  rel : Rel J h' w'
  ext : Ext I lo w w'

/-- The heap's own part: no row below lo is turned. -/
structure Quiet (lo : Nat) (h h' : H) : Prop where
  next : h.next ≤ h'.next
  same : ∀ r, r < lo → h'.get r = h.get r
  clean : (∀ r, h.next ≤ r → h.get r = none) → ∀ r, h'.next ≤ r → h'.get r = none
theorem Quiet.refl (lo : Nat) (h : H) : Quiet lo h h := ⟨Nat.le_refl _, fun _ _ => rfl, id⟩
theorem Quiet.trans {lo : Nat} {h h' h'' : H} (a : Quiet lo h h') (b : Quiet lo h' h'') : Quiet lo h h'' :=
  ⟨Nat.le_trans a.next b.next, fun r hr => (b.same r hr).trans (a.same r hr), fun c => b.clean (a.clean c)⟩
theorem Quiet.mono {lo lo' : Nat} {h h' : H} (a : Quiet lo h h') (hl : lo' ≤ lo) : Quiet lo' h h' := ⟨a.next, fun r hr => a.same r (by omega), a.clean⟩
theorem Went.mono {I J : Inj} {lo lo' base : Nat} {h' : H} {w w' : World} (a : Went I J lo base h' w w') (hl : lo' ≤ lo) : Went I J lo' base h' w w' := ⟨a.grows, a.dom, fun r s p hr => a.old r s p (by omega), a.rel, a.ext.mono hl⟩
theorem Went.refl {I : Inj} {lo base : Nat} {h : H} {w : World} (k : Rel I h w) : Went I I lo base h w w := ⟨Grows.refl I w, fun _ d => .inl d, fun _ _ _ _ e => e, k, Ext.refl I lo w⟩
theorem Went.trans {I J K : Inj} {lo base base' : Nat} {h' h'' : H} {w w' w'' : World} (a : Went I J lo base h' w w') (b : Went J K lo base' h'' w' w'') (hn : base ≤ base') : Went I K lo base h'' w w'' :=
  ⟨a.grows.trans b.grows a.ext.size, fun r d => (b.dom r d).elim (a.dom r) (fun e => .inr (by omega)), fun r s p hr e => a.old r s p hr (b.old r s p hr e), b.rel, a.ext.trans a.grows b.ext⟩

/-- A call of f: what comes back, and the heap after it, in every world in which the heap lies. -/
structure AF (P : Program) (f : FuncId) (lo : Nat) (h : H) (args : List Value) (v : Value) (h' : H) : Prop where
  quiet : Quiet lo h h'
  enters : ∀ (as : Array Value) (w : World), (callFunc f as).run P w = .ok (.enter f as) w
  calls : ∀ I w, Rel I h w → InL I args → Calls P f ⟨renL I args⟩ w fun e w' => ∃ J, Went I J lo h.next h' w w' ∧ In J v ∧ e = .returned (ren J v)

theorem AF.mono {P : Program} {f : FuncId} {lo lo' : Nat} {h h' : H} {args : List Value} {v : Value} (a : AF P f lo h args v h') (hl : lo' ≤ lo) : AF P f lo' h args v h' :=
  ⟨a.quiet.mono hl, a.enters, fun I w k i => (a.calls I w k i).mono fun _ _ ⟨J, g, r⟩ => ⟨J, g.mono hl, r⟩⟩

/-- Something that takes an activation on: code, the rest of a loop. -/
abbrev Tr := Option Nat → (Exit → Act → World → Prop) → Act → World → Prop

def Mono (T : Tr) : Prop := ∀ ro, ∀ Q Q' : Exit → Act → World → Prop, (∀ e a w, Q e a w → Q' e a w) → ∀ a w, T ro Q a w → T ro Q' a w

/-- The marks of loops over functions: of each the block of deferred calls lies apart, and is empty. -/
structure Marks (J : Inj) (w w' : World) (ms : List Deferred) : Prop where
  each : ∀ m ∈ ms, ∃ b, m = { target := .collected b, args := #[] } ∧ w.heap.size ≤ b ∧ b < w'.heap.size ∧ w'.heap[b]? = some (.deferred (some [])) ∧ ∀ r s d, J.at_ r s ≠ some (b, d)
  apart : ms.Pairwise fun m m' => m.target ≠ m'.target
theorem Marks.nil (J : Inj) (w w' : World) : Marks J w w' [] := ⟨by simp, by simp⟩
theorem Marks.append {I J K : Inj} {lo base : Nat} {h'' : H} {w w' w'' : World} {ms ms' : List Deferred} (a : Marks J w w' ms) (b : Marks K w' w'' ms') (W : Went J K lo base h'' w' w'') (hs : w.heap.size ≤ w'.heap.size) : Marks K w w'' (ms' ++ ms) := by
  refine ⟨fun m hm => ?_, List.pairwise_append.2 ⟨b.apart, a.apart, fun m hm m' hm' e => ?_⟩⟩
  · rcases List.mem_append.1 hm with hm | hm
    · obtain ⟨x, h1, h2, h3⟩ := b.each m hm
      exact ⟨x, h1, by omega, h3⟩
    · obtain ⟨x, h1, h2, h3, h4, h5⟩ := a.each m hm
      refine ⟨x, h1, h2, by have := W.ext.size; omega, ?_, fun r s d e => ?_⟩
      · rw [W.ext.block x h3 (fun r s d e => absurd e (h5 r s d))]; exact h4
      · rcases W.grows.new r s x d e with e | e | ⟨s', e⟩
        · exact h5 _ _ _ e
        · omega
        · exact h5 _ _ _ e
  · obtain ⟨x, h1, h2, -⟩ := b.each m hm
    obtain ⟨y, g1, -, g3, -⟩ := a.each m' hm'
    rw [h1, g1] at e
    simp at e
    omega

/-- It comes to (e, ts', h') from (ts, h). -/
def Goes (T : Tr) (n lo : Nat) (ts : Ts) (h : H) (e : Exit) (ts' : Ts) (h' : H) : Prop :=
  ∀ ro I w a, Rel I h w → TsRel I n ts a.tmps → T ro (fun e' a' w' => e' = e ∧ ∃ J, Went I J lo h.next h' w w' ∧ TsRel J n ts' a'.tmps ∧ ∃ ms, a'.defers = ms ++ a.defers ∧ Marks J w w' ms) a w

def WT (T : Tr) (n lo : Nat) (Q : Exit → Ts → H → Prop) (ts : Ts) (h : H) : Prop :=
  ∃ e ts' h', Q e ts' h' ∧ Quiet lo h h' ∧ Goes T n lo ts h e ts' h'

theorem WT.mono {T : Tr} {n lo : Nat} {Q Q' : Exit → Ts → H → Prop} {ts : Ts} {h : H} (a : WT T n lo Q ts h) (hq : ∀ e ts h, Q e ts h → Q' e ts h) : WT T n lo Q' ts h :=
  let ⟨e, ts', h', q, r⟩ := a; ⟨e, ts', h', hq _ _ _ q, r⟩

/-- After the normal end: K; another end stands. -/
def thenQ (K : Ts → H → Prop) (Q : Exit → Ts → H → Prop) : Exit → Ts → H → Prop
  | .normal, ts, h => K ts h
  | e, ts, h => Q e ts h

theorem WT.then {T1 T2 T : Tr} {n lo : Nat} {Q : Exit → Ts → H → Prop} {ts : Ts} {h : H} (m1 : Mono T1) (m2 : Mono T2) (hT : ∀ ro Q a w, T1 ro (Exit.then (T2 ro Q) Q) a w → T ro Q a w)
    (a : WT T1 n lo (thenQ (WT T2 n lo Q) Q) ts h) : WT T n lo Q ts h := by
  obtain ⟨e, ts1, h1, q, hq, g⟩ := a
  by_cases he : e = .normal
  · subst he
    obtain ⟨e2, ts2, h2, q2, hq2, g2⟩ := q
    refine ⟨e2, ts2, h2, q2, hq.trans hq2, fun ro I w a k t => hT _ _ _ _ (m1 _ _ _ ?_ _ _ (g ro I w a k t))⟩
    rintro e' a' w' ⟨rfl, J, hw, t', ms, hd, hms⟩
    refine m2 _ _ _ ?_ _ _ (g2 ro J w' a' hw.rel t')
    rintro e' a'' w'' ⟨rfl, K, hw', t'', ms', hd', hms'⟩
    exact ⟨rfl, K, hw.trans hw' hq.next, t'', ms' ++ ms, by rw [hd', hd, List.append_assoc], hms.append (I := I) hms' hw' hw.ext.size⟩
  · refine ⟨e, ts1, h1, ?_, hq, fun ro I w a k t => hT _ _ _ _ (m1 _ _ _ ?_ _ _ (g ro I w a k t))⟩
    · cases e <;> first | exact absurd rfl he | exact q
    · rintro e' a' w' ⟨rfl, J, hw, t', hd⟩
      cases e' <;> first | exact absurd rfl he | exact ⟨rfl, J, hw, t', hd⟩

/-- Code; with tp it does not stand in a round. -/
def TC (tp : Bool) (P : Program) (C : Code) : Tr := fun ro Q a w => (tp = true → ro = none) → C.wpIn (WR ro) 0 P Q a w
theorem TC_mono (tp : Bool) (P : Program) (C : Code) : Mono (TC tp P C) := fun _ _ _ hq _ _ h htp => Go.wpIn_mono (h htp) hq

/-- The rest of a loop: a round is about to begin. -/
def TL (tp : Bool) (P : Program) (c : Code) : Tr := fun ro Q a w => (tp = true → ro = none) → ∀ (b : Frame) (k : List Item) (cs : List Frame), b.roundOf = ro →
  ∃ e a' w', Q e a' w' ∧ ArrivesIn (Machine.fenced P (WR ro)) P (lone (b.atR a (.code c :: .inLoop c :: k)) cs w) b k cs e a' w'
theorem TL_mono (tp : Bool) (P : Program) (C : Code) : Mono (TL tp P C) := fun _ _ _ hq _ _ h htp b k cs hb =>
  let ⟨e, a', w', q, r⟩ := h htp b k cs hb; ⟨e, a', w', hq _ _ _ q, r⟩
theorem TL_round {tp : Bool} {P : Program} {c : Code} (ro : Option Nat) (Q : Exit → Act → World → Prop) (a : Act) (w : World) (h : TC tp P c ro (Exit.then (TL tp P c ro Q) Q) a w) : TL tp P c ro Q a w := by
  intro htp b k cs hro
  obtain ⟨e, a₁, w₁, hq, harr⟩ := h htp b (.inLoop c :: k) cs hro trivial (WR_room ro _)
  cases e with
  | normal =>
    obtain ⟨e₂, a₂, w₂, hq₂, harr₂⟩ := hq htp b k cs hro
    exact ⟨e₂, a₂, w₂, hq₂, .of_steps (StepsIn.trans harr (.one (fenced_WR P ro _) stepR_inLoop)) harr₂⟩
  | exit id => exact ⟨_, a₁, w₁, hq, .pass (x := .inLoop c) rfl (fun _ _ => .inl (by simp)) harr⟩
  | goto l => exact ⟨_, a₁, w₁, hq, .pass (x := .inLoop c) rfl (fun _ _ => .inl (by simp)) harr⟩
  | ret => exact ⟨_, a₁, w₁, hq, .pass (x := .inLoop c) rfl (fun _ _ => .inl (by simp)) harr⟩
  | panic ch => exact ⟨_, a₁, w₁, hq, .pass (x := .inLoop c) rfl (fun _ _ => .inl (by simp)) harr⟩
  | outgrown => exact ⟨_, a₁, w₁, hq, .pass (x := .inLoop c) rfl (fun _ _ => .inl (by simp)) harr⟩
theorem TL_loop {tp : Bool} {P : Program} {c : Code} (ro : Option Nat) (Q : Exit → Act → World → Prop) (a : Act) (w : World) (h : TL tp P c ro Q a w) : TC tp P (.loop c) ro Q a w := by
  intro htp b k cs hro _ _
  obtain ⟨e, a', w', hq, harr⟩ := h htp b k cs hro
  exact ⟨e, a', w', hq, .of_steps (.one (fenced_WR P ro _) stepR_loop) harr⟩

section
variable {tp : Bool} {P : Program} {n lo : Nat} {Q : Exit → Ts → H → Prop} {ts : Ts} {h : H}

theorem WT.loop {c : Code} (a : WT (TL tp P c) n lo Q ts h) : WT (TC tp P (.loop c)) n lo Q ts h :=
  let ⟨e, ts', h', q, hq, g⟩ := a; ⟨e, ts', h', q, hq, fun ro I w a k t => TL_loop _ _ _ _ (g ro I w a k t)⟩
theorem WT.round {c : Code} (a : WT (TC tp P c) n lo (thenQ (WT (TL tp P c) n lo Q) Q) ts h) : WT (TL tp P c) n lo Q ts h :=
  WT.then (TC_mono tp P c) (TL_mono tp P c) TL_round a
theorem WT.seq {x y : Code} (a : WT (TC tp P x) n lo (thenQ (WT (TC tp P y) n lo Q) Q) ts h) : WT (TC tp P (.seq x y)) n lo Q ts h :=
  WT.then (TC_mono tp P x) (TC_mono tp P y) (fun _ _ _ _ h htp => wpIn_seq (Go.wpIn_mono (h htp) (fun e _ _ q => by cases e <;> first | exact q htp | exact q))) a
theorem WT.here {C : Code} {e : Exit} (hC : ∀ ro (Q : Exit → Act → World → Prop) a w, Q e a w → C.wpIn (WR ro) 0 P Q a w) (q : Q e ts h) : WT (TC tp P C) n lo Q ts h :=
  ⟨e, ts, h, q, Quiet.refl lo h, fun ro I w a k t _ => hC _ _ _ _ ⟨rfl, I, Went.refl k, t, [], rfl, Marks.nil _ _ _⟩⟩
theorem WT.skip (q : Q .normal ts h) : WT (TC tp P .skip) n lo Q ts h := WT.here (fun _ _ _ _ h => wpIn_skip h) q
theorem WT.label {l : Nat} (q : Q .normal ts h) : WT (TC tp P (.label l)) n lo Q ts h := WT.here (fun _ _ _ _ h => wpIn_label h) q
theorem WT.ret (q : Q .ret ts h) : WT (TC tp P .ret) n lo Q ts h := WT.here (fun _ _ _ _ h => wpIn_ret h) q
theorem WT.exit {id : Nat} (q : Q (.exit id) ts h) : WT (TC tp P (.exit id)) n lo Q ts h := WT.here (fun _ _ _ _ h => wpIn_exit h) q

def blockQ (id : Nat) (Q : Exit → Ts → H → Prop) : Exit → Ts → H → Prop
  | .exit id', ts, h => if id' = id then Q .normal ts h else Q (.exit id') ts h
  | e, ts, h => Q e ts h
theorem WT.block {id : Nat} {c : Code} (a : WT (TC tp P c) n lo (blockQ id Q) ts h) : WT (TC tp P (.block id c)) n lo Q ts h := by
  obtain ⟨e, ts', h', q, hq, g⟩ := a
  by_cases he : e = .exit id
  · subst he
    simp only [blockQ, if_true] at q
    refine ⟨.normal, ts', h', q, hq, fun ro I w a k t htp => wpIn_block (Go.wpIn_mono (g ro I w a k t htp) ?_)⟩
    rintro e' a' w' ⟨rfl, J, r⟩
    simp only [Exit.inBlock, if_true]
    exact ⟨trivial, J, r⟩
  · refine ⟨e, ts', h', ?_, hq, fun ro I w a k t htp => wpIn_block (Go.wpIn_mono (g ro I w a k t htp) ?_)⟩
    · cases e <;> try exact q
      rename_i id'
      simp only [blockQ] at q
      split at q
      · rename_i h; subst h; exact absurd rfl he
      · exact q
    · rintro e' a' w' ⟨rfl, J, r⟩
      cases e' <;> try exact ⟨rfl, J, r⟩
      rename_i id'
      simp only [Exit.inBlock]
      split
      · rename_i h; subst h; exact absurd rfl he
      · exact ⟨trivial, J, r⟩

theorem TsRel.ev {I : Inj} {a : Act} (t : TsRel I n ts a.tmps) : Ev I ts a.eval := by
  intro x x' hx
  cases x with
  | tmp i => simp [cOpd] at hx; subst hx; exact t.2 i
  | const v =>
    simp only [cOpd] at hx
    split at hx <;> simp at hx
    rename_i hf
    subst hx
    obtain ⟨e, i⟩ := flat_ren I v hf
    exact ⟨e.symm, i⟩
  | global g => simp [cOpd] at hx
  | func f =>
    simp [cOpd] at hx; subst hx
    obtain ⟨e, i⟩ := flat_ren I (.func (.func f) #[] #[]) (by simp [flat, fnFlat, flatL])
    exact ⟨e.symm, i⟩

theorem WT.cond {c : Operand} {c' : Opd} {x y : Code} {b : Bool} (hc : cOpd c = some c') (hb : ev ts c' = .bool b) (a : WT (TC tp P (if b then x else y)) n lo Q ts h) : WT (TC tp P (.cond c x y)) n lo Q ts h := by
  obtain ⟨e, ts', h', q, hq, g⟩ := a
  refine ⟨e, ts', h', q, hq, fun ro I w a k t htp => wpIn_cond (t := b) ?_ (g ro I w a k t htp)⟩
  rw [(t.ev c c' hc).1, hb]; simp [ren]

end
end AE
