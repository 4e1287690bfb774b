/- Versions: what stands after the latest of those that were taken. -/
import Derived.Test.YthajcipblfchiaaAERead
import Derived.Test.YthajcipblfchiaaAEReg
set_option linter.unusedVariables false
set_option linter.unusedSimpArgs false
set_option linter.unusedSectionVars false
namespace AE
open Go

open Classical in
/-- One more than the last index below k at which w holds; 0 if there is none. -/
noncomputable def ver (w : Nat → Prop) : Nat → Nat
  | 0 => 0
  | k + 1 => if w k then k + 1 else ver w k

theorem ver_spec (w : Nat → Prop) : ∀ k, (ver w k = 0 ∧ ∀ j, j < k → ¬ w j) ∨ ∃ j, j < k ∧ ver w k = j + 1 ∧ w j ∧ ∀ j', j < j' → j' < k → ¬ w j'
  | 0 => .inl ⟨rfl, fun j hj => by omega⟩
  | k + 1 => by
    by_cases hw : w k
    · exact .inr ⟨k, by omega, by simp [ver, hw], hw, fun j' h1 h2 => by omega⟩
    · rcases ver_spec w k with ⟨h1, h2⟩ | ⟨j, h1, h2, h3, h4⟩
      · refine .inl ⟨by simp [ver, hw, h1], fun j hj => ?_⟩
        by_cases hjk : j = k
        · subst hjk; exact hw
        · exact h2 j (by omega)
      · refine .inr ⟨j, by omega, by simp [ver, hw, h2], h3, fun j' a b => ?_⟩
        by_cases hjk : j' = k
        · subst hjk; exact hw
        · exact h4 j' a (by omega)

theorem stays {α : Type} {F : Nat → α} {W : Nat → Prop} {m : Nat} (hF : ∀ k, k < m → ¬ W k → F (k + 1) = F k) {a : Nat} : ∀ (d : Nat), a + d ≤ m → (∀ j, a ≤ j → j < a + d → ¬ W j) → F (a + d) = F a
  | 0, _, _ => rfl
  | d + 1, h, hn => by
    rw [← Nat.add_assoc, hF (a + d) (by omega) (hn _ (by omega) (by omega))]
    exact stays hF d (by omega) (fun j h1 h2 => hn j h1 (by omega))

theorem ver_at {α : Type} {F : Nat → α} {W L : Nat → Prop} {m i : Nat} (hF : ∀ k, k < m → ¬ W k → F (k + 1) = F k) (hi : i ≤ m) (h : ∀ j, j < m → W j → (L j ↔ j < i)) : F (ver (fun j => L j ∧ W j) m) = F i := by
  rcases ver_spec (fun j => L j ∧ W j) m with ⟨h1, h2⟩ | ⟨j, h1, h2, h3, h4⟩
  · rw [h1]
    have := stays (a := 0) hF i (by omega) (fun j _ hj hw => h2 j (by omega) ⟨(h j (by omega) hw).2 (by omega), hw⟩)
    simpa using this.symm
  · rw [h2]
    have hji : j < i := (h j h1 h3.2).1 h3.1
    have := stays (a := j + 1) hF (i - (j + 1)) (by omega) (fun j' a b hw => h4 j' (by omega) (by omega) ⟨(h j' (by omega) hw).2 (by omega), hw⟩)
    rw [show j + 1 + (i - (j + 1)) = i by omega] at this
    exact this.symm

theorem ver_same {W L L' : Nat → Prop} {m i : Nat} (hW : ¬ W i) (hL : ∀ j, j ≠ i → (L' j ↔ L j)) : ver (fun j => L' j ∧ W j) m = ver (fun j => L j ∧ W j) m := by
  induction m with
  | zero => rfl
  | succ k ih =>
    have e : (L' k ∧ W k) = (L k ∧ W k) := by
      by_cases hk : k = i
      · subst hk; simp [hW]
      · simp [hL k hk]
    simp only [ver, ih]
    by_cases hw : L k ∧ W k
    · rw [if_pos hw, if_pos (e.mpr hw)]
    · rw [if_neg hw, if_neg (fun h => hw (e.mp h))]
theorem ver_new {W L' : Nat → Prop} {m i : Nat} (hi : i < m) (hW : W i) (hL : L' i) (hn : ∀ j, j < m → i < j → W j → ¬ L' j) : ver (fun j => L' j ∧ W j) m = i + 1 := by
  rcases ver_spec (fun j => L' j ∧ W j) m with ⟨h1, h2⟩ | ⟨j, h1, h2, h3, h4⟩
  · exact absurd ⟨hL, hW⟩ (h2 i hi)
  · rw [h2]
    rcases Nat.lt_trichotomy i j with h | h | h
    · exact absurd h3.1 (hn j h1 h h3.2)
    · rw [h]
    · exact absurd ⟨hL, hW⟩ (h4 i h hi)

/-! ### the static part -/

def AOper.rd (x : AOper) : List Nat := (match x.guard with | some p => [p.1] | none => []) ++ (match x.ins with | .op ao => ao.rd | .call f as => f.rd ++ rdL as)
def AOp.wrO : AOp → List Opd
  | .store _ a _ => [a]
  | .append _ _ _ s _ => [s]
  | .copy _ d _ => [d]
  | .mapup _ m _ _ => [m]
  | .delete _ m _ => [m]
  | _ => []
def AOp.tchO : AOp → List Opd
  | .load1 a | .loadn _ a => [a]
  | .store _ a _ => [a]
  | .lookup _ _ _ m _ => [m]
  | .lenmap x => [x]
  | .append _ _ _ s x => [s, x]
  | .copy _ d s => [d, s]
  | .mapup _ m _ _ => [m]
  | .delete _ m _ => [m]
  | _ => []
def rowsO (ts : Ts) (xs : List Opd) : List Nat := xs.flatMap fun x => touchV (ev ts x)
theorem wr_rows (ts : Ts) (ao : AOp) : ao.wr ts = rowsO ts ao.wrO := by cases ao <;> simp [AOp.wr, AOp.wrO, rowsO]
theorem touch_rows (ts : Ts) (ao : AOp) : ao.touch ts = rowsO ts ao.tchO := by cases ao <;> simp [AOp.touch, AOp.tchO, rowsO]
theorem wrO_tchO {ao : AOp} {x : Opd} (h : x ∈ ao.wrO) : x ∈ ao.tchO := by cases ao <;> simp [AOp.wrO, AOp.tchO] at h ⊢ <;> simp [h]
theorem rd_tchO {ao : AOp} {x : Opd} (h : x ∈ ao.tchO) : ∀ t ∈ x.rd, t ∈ ao.rd := by
  intro t ht
  cases ao <;> simp [AOp.tchO] at h <;> simp only [AOp.rd, List.mem_append]
  all_goals first
    | (subst h; exact ht)
    | (subst h; exact .inl ht)
    | (subst h; exact .inl (.inl ht))
    | (rcases h with rfl | rfl; exact .inl ht; exact .inr ht)

def AOper.isC (x : AOper) : Bool := match x.ins with | .call _ _ => true | _ => false
def AOper.wrO (x : AOper) : List Opd := match x.ins with | .op ao => ao.wrO | _ => []
def AOper.tchO (x : AOper) : List Opd := match x.ins with | .op ao => ao.tchO | _ => []
def AOper.noSel (x : AOper) : Bool := match x.ins with | .op ao => ao.noSel | _ => true

def bef (ops : Array Oper) (i : Nat) : List Nat := match ops[i]? with
  | some o => (o.after.toList.filter (Region.binds .any ·)).map (·.on)
  | none => []
/-- The operations that surely stand before: by index, as bits. -/
def maskOf (ms : List Nat) (es : List Nat) : Nat := es.foldl (fun m e => m ||| (1 <<< e) ||| ms.getD e 0) 0
def masks (ops : Array Oper) : Nat → List Nat
  | 0 => []
  | k + 1 => masks ops k ++ [maskOf (masks ops k) (bef ops k)]

theorem maskOf_bit {ms es : List Nat} {j : Nat} : (maskOf ms es).testBit j = true → ∃ e ∈ es, j = e ∨ (ms.getD e 0).testBit j = true := by
  have key : ∀ (es : List Nat) (m : Nat), (es.foldl (fun m e => m ||| (1 <<< e) ||| ms.getD e 0) m).testBit j = true → m.testBit j = true ∨ ∃ e ∈ es, j = e ∨ (ms.getD e 0).testBit j = true := by
    intro es
    induction es with
    | nil => intro m h; exact .inl h
    | cons e es ih =>
      intro m h
      rcases ih _ h with h | ⟨e', he', h⟩
      · simp only [Nat.testBit_or, Bool.or_eq_true] at h
        rcases h with (h | h) | h
        · exact .inl h
        · refine .inr ⟨e, by simp, .inl ?_⟩
          rw [Nat.testBit_shiftLeft] at h
          simp only [Bool.and_eq_true, decide_eq_true_eq] at h
          have := Nat.testBit_one_eq_true_iff_self_eq_zero.1 h.2
          omega
        · exact .inr ⟨e, by simp, .inr h⟩
      · exact .inr ⟨e', by simp [he'], h⟩
  intro h
  rcases key es 0 h with h | h
  · simp at h
  · exact h

theorem masks_length (ops : Array Oper) : ∀ k, (masks ops k).length = k
  | 0 => rfl
  | k + 1 => by simp [masks, masks_length ops k]
theorem masks_get (ops : Array Oper) : ∀ (k i : Nat), i < k → (masks ops k).getD i 0 = maskOf (masks ops i) (bef ops i)
  | 0, i, h => by omega
  | k + 1, i, h => by
    simp only [masks]
    by_cases hi : i = k
    · subst hi
      rw [List.getD_eq_getElem?_getD, List.getElem?_append_right (by rw [masks_length]; omega)]
      simp [masks_length]
    · rw [List.getD_eq_getElem?_getD, List.getElem?_append_left (by rw [masks_length]; omega), ← List.getD_eq_getElem?_getD]
      exact masks_get ops k i (by omega)

/-- What stands before one whose foregoers are all taken, is taken. -/
theorem masks_down {ops : Array Oper} {L : Nat → Prop} (down : ∀ i, L i → ∀ e ∈ bef ops i, L e) (lt : ∀ k e, e ∈ bef ops k → e < k) : ∀ (i : Nat), (∀ e ∈ bef ops i, L e) → ∀ j, (maskOf (masks ops i) (bef ops i)).testBit j = true → L j ∧ j < i := by
  intro i
  induction i using Nat.strongRecOn with
  | _ i ih =>
    intro hb j hj
    obtain ⟨e, he, h⟩ := maskOf_bit hj
    have hlt := lt i e he
    rcases h with rfl | h
    · exact ⟨hb _ he, hlt⟩
    · rw [masks_get ops i e hlt] at h
      obtain ⟨h1, h2⟩ := ih e hlt (down e (hb e he)) j h
      exact ⟨h1, by omega⟩

def dstIn (d : Option Nat) (l : List Nat) : Bool := match d with | some t => l.contains t | none => false
/-- x stands before y in the text: must it be done before? -/
def must (x y : AOper) : Bool :=
  dstIn x.dst y.rd || dstIn y.dst x.rd || (x.dst.isSome && x.dst == y.dst) || (x.isC && (y.isC || !y.wrO.isEmpty)) || (!x.wrO.isEmpty && y.isC)
def constOk : Opd → Bool
  | .t _ => true
  | .c v => flat v
def ord (ms : List Nat) (i j : Nat) : Bool := (ms.getD j 0).testBit i
/-- All pairs i < j. -/
def allPairs (xs : List AOper) (f : Nat → AOper → Nat → AOper → Bool) : Bool :=
  (List.range xs.length).all fun j => (List.range j).all fun i => match xs[i]?, xs[j]? with | some x, some y => f i x j y | _, _ => true
def pairsOf (a b : List Opd) : List (Opd × Opd) := a.flatMap fun x => b.map fun y => (x, y)
/-- The addresses that must lie in different rows. -/
def clash (x y : AOper) : List (Opd × Opd) := pairsOf x.wrO y.tchO ++ pairsOf x.tchO y.wrO
def optEq (x y : Opd) : Bool := match x, y with
  | .t a, .t b => a == b
  | _, _ => false
def inApart (l : List (Opd × Opd)) (p : Opd × Opd) : Bool := l.any fun q => optEq q.1 p.1 && optEq q.2 p.2

/-- Is it the same in whatever order, if the addresses of 'ap' lie in different rows? -/
def dOk (ops : Array Oper) (xs : List AOper) (ap : List (Opd × Opd)) : Bool :=
  let ms := masks ops xs.length
  (List.range xs.length).all (fun i => (bef ops i).all (· < i)) &&
  xs.all (fun x => x.noSel && x.tchO.all constOk) &&
  allPairs xs (fun i x j y => (ord ms i j || (!must x y && (clash x y).all (inApart ap))) && x.tchO.all (fun o => !dstIn y.dst o.rd)) &&
  xs.all (fun x => x.tchO.all fun o => !dstIn x.dst o.rd)

theorem allPairs_spec {xs : List AOper} {f : Nat → AOper → Nat → AOper → Bool} (h : allPairs xs f = true) {i j : Nat} {x y : AOper} (hij : i < j) (hx : xs[i]? = some x) (hy : xs[j]? = some y) : f i x j y = true := by
  unfold allPairs at h
  rw [List.all_eq_true] at h
  have hj : j < xs.length := (List.getElem?_eq_some_iff.1 hy).1
  have := h j (by simpa using hj)
  rw [List.all_eq_true] at this
  have := this i (by simpa using hij)
  rw [hx, hy] at this
  exact this

end AE
