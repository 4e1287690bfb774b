/- The text's order, as a trace. -/
import Derived.Test.YthajcipblfchiaaAEVer
set_option linter.unusedVariables false
set_option linter.unusedSimpArgs false
set_option linter.unusedSectionVars false
namespace AE
open Go

inductive Step1 (P : Program) (lo base i : Nat) (x : AOper) : Ts × H → Option (Nat × ARow) → Ts × H → Prop
  | skip (ts : Ts) (h : H) : awanted ts x.guard = false → Step1 P lo base i x (ts, h) none (aput ts undef x.dst, h)
  | op (ts : Ts) (h : H) (ao : AOp) (v : Value) (u : Option (Nat × ARow)) : awanted ts x.guard = true → x.ins = .op ao →
      (∀ r row, u = some (r, row) → (r = base + i ∨ (lo ≤ r ∧ r ∈ ao.wr ts ∧ h.get r ≠ none))) →
      (∀ g : H, (∀ r ∈ ao.touch ts, h.get r ≠ none → g.get r = h.get r) → aop P lo (base + i) ts g ao = some (v, g.upd u)) →
      Step1 P lo base i x (ts, h) u (aput ts v x.dst, h.upd u)
  | call (ts : Ts) (h : H) (f : Opd) (args : List Opd) (v : Value) (h' : H) : awanted ts x.guard = true → x.ins = .call f args →
      ACall P (ev ts f) h.next h (args.map (ev ts)) v h' → Step1 P lo base i x (ts, h) none (aput ts v x.dst, h')

theorem run_trace {P : Program} {lo base : Nat} {K : Ts → H → Prop} : ∀ (xs : List AOper) (i : Nat) (ts : Ts) (h : H), Run P lo true base i xs K ts h →
    ∃ (S : Nat → Ts × H) (U : Nat → Option (Nat × ARow)), S 0 = (ts, h) ∧ (∀ j x, xs[j]? = some x → Step1 P lo base (i + j) x (S j) (U j) (S (j + 1))) ∧ K (S xs.length).1 (S xs.length).2
  | [], i, ts, h, hr => ⟨fun _ => (ts, h), fun _ => none, rfl, by simp, hr⟩
  | x :: xs, i, ts, h, hr => by
    have mk : ∀ (u : Option (Nat × ARow)) (s : Ts × H), Step1 P lo base i x (ts, h) u s → Run P lo true base (i + 1) xs K s.1 s.2 →
        ∃ (S : Nat → Ts × H) (U : Nat → Option (Nat × ARow)), S 0 = (ts, h) ∧ (∀ j y, (x :: xs)[j]? = some y → Step1 P lo base (i + j) y (S j) (U j) (S (j + 1))) ∧ K (S (x :: xs).length).1 (S (x :: xs).length).2 := by
      intro u s hs hr
      obtain ⟨S, U, h0, hstep, hK⟩ := run_trace xs (i + 1) s.1 s.2 hr
      refine ⟨fun j => match j with | 0 => (ts, h) | j + 1 => S j, fun j => match j with | 0 => u | j + 1 => U j, rfl, fun j y hy => ?_, hK⟩
      cases j with
      | zero =>
        simp at hy; subst hy
        simp only [Nat.add_zero, h0]
        exact hs
      | succ j =>
        have := hstep j y (by simpa using hy)
        rw [show i + (j + 1) = i + 1 + j by omega]
        exact this
    simp only [Run] at hr
    split at hr
    · rename_i hw
      split at hr
      · rename_i ao hins
        obtain ⟨v, h', ha, hr⟩ := hr
        obtain ⟨u, rfl, h2, h3⟩ := aop_local ha
        exact mk u _ (.op ts h ao v u hw hins h2 h3) hr
      · rename_i f args hins
        obtain ⟨v, h', hcall, hr⟩ := hr
        exact mk none _ (.call ts h f args v h' hw hins (by simpa using hcall)) hr
    · rename_i hw
      exact mk none _ (.skip ts h (by simpa using hw)) hr

/-- The text's order of a region. -/
structure Text (P : Program) (lo base : Nat) (xs : List AOper) (S : Nat → Ts × H) (U : Nat → Option (Nat × ARow)) : Prop where
  step : ∀ i x, xs[i]? = some x → Step1 P lo base i x (S i) (U i) (S (i + 1))
  room : base + xs.length ≤ (S 0).2.next
  clean : ∀ r, (S 0).2.next ≤ r → (S 0).2.get r = none
  own : ∀ j, j < xs.length → (S 0).2.get (base + j) = none
  lob : lo ≤ base

/-- Does j turn row r? -/
def Wr (xs : List AOper) (S : Nat → Ts × H) (U : Nat → Option (Nat × ARow)) (j r : Nat) : Prop :=
  (∃ row, U j = some (r, row)) ∨ ∃ x, xs[j]? = some x ∧ x.isC = true ∧ awanted (S j).1 x.guard = true ∧ (S j).2.next ≤ r
def Wt (xs : List AOper) (j t : Nat) : Prop := ∃ x, xs[j]? = some x ∧ x.dst = some t

section
variable {P : Program} {lo base : Nat} {xs : List AOper} {S : Nat → Ts × H} {U : Nat → Option (Nat × ARow)}

theorem Text.at_ (T : Text P lo base xs S U) {i : Nat} (hi : i < xs.length) : ∃ x, xs[i]? = some x ∧ Step1 P lo base i x (S i) (U i) (S (i + 1)) :=
  ⟨xs[i], List.getElem?_eq_getElem hi, T.step i _ (List.getElem?_eq_getElem hi)⟩

theorem aput_ne {ts : Ts} {v : Value} {d : Option Nat} {t : Nat} (h : d ≠ some t) : aput ts v d t = ts t := by
  cases d with
  | none => rfl
  | some d => simp only [aput, setV]; rw [if_neg]; rintro rfl; exact h rfl

theorem Text.tmp (T : Text P lo base xs S U) {t : Nat} : ∀ k, k < xs.length → ¬ Wt xs k t → (S (k + 1)).1 t = (S k).1 t := by
  intro k hk hw
  obtain ⟨x, hx, hs⟩ := T.at_ hk
  have hd : x.dst ≠ some t := fun e => hw ⟨x, hx, e⟩
  generalize S k = a at hs
  generalize S (k + 1) = b at hs
  generalize U k = u at hs
  cases hs <;> exact aput_ne hd

theorem Text.heap (T : Text P lo base xs S U) {r : Nat} : ∀ k, k < xs.length → ¬ Wr xs S U k r → (S (k + 1)).2.get r = (S k).2.get r := by
  intro k hk hw
  obtain ⟨x, hx, hs⟩ := T.at_ hk
  unfold Wr at hw
  generalize S k = a at hs hw
  generalize S (k + 1) = b at hs
  generalize U k = u at hs hw
  cases hs with
  | skip ts h hg => rfl
  | op ts h ao v u hg hins h2 h3 =>
    cases u with
    | none => rfl
    | some p =>
      simp only [H.upd, H.put]
      rw [if_neg]
      rintro rfl
      exact hw (.inl ⟨_, rfl⟩)
  | call ts h f args v h' hg hins hcall =>
    refine hcall.quiet.same r ?_
    rcases Nat.lt_or_ge r h.next with hlt | hge
    · exact hlt
    · exact absurd (.inr ⟨x, hx, by simp [AOper.isC, hins], hg, hge⟩) hw

theorem Step1.quiet {i : Nat} {x : AOper} {a b : Ts × H} {u : Option (Nat × ARow)} (hs : Step1 P lo base i x a u b) (hl : lo ≤ base) (hn : base + i < a.2.next) : Quiet lo a.2 b.2 := by
  cases hs with
  | skip ts h hg => exact Quiet.refl _ _
  | op ts h ao v u hg hins h2 h3 => exact aop_quiet (h3 h fun _ _ _ => rfl) (by omega) hn
  | call ts h f args v h' hg hins hcall => exact hcall.quiet.mono (by simp only at hn; omega)

theorem Text.quiet (T : Text P lo base xs S U) : ∀ k, k ≤ xs.length → Quiet lo (S 0).2 (S k).2
  | 0, _ => Quiet.refl _ _
  | k + 1, hk => by
    have ih := Text.quiet T k (by omega)
    obtain ⟨x, hx, hs⟩ := T.at_ (i := k) (by omega)
    exact ih.trans (hs.quiet T.lob (by have := T.room; have := ih.next; omega))

theorem Text.next_le (T : Text P lo base xs S U) : ∀ d k, k + d ≤ xs.length → (S k).2.next ≤ (S (k + d)).2.next
  | 0, _, _ => Nat.le_refl _
  | d + 1, k, h => by
    obtain ⟨x, hx, hs⟩ := T.at_ (i := k + d) (by omega)
    have := hs.quiet T.lob (by have := T.room; have := (T.quiet (k + d) (by omega)).next; omega)
    exact Nat.le_trans (Text.next_le T d k (by omega)) this.next
theorem Text.next_mono (T : Text P lo base xs S U) {k l : Nat} (h : k ≤ l) (hl : l ≤ xs.length) : (S k).2.next ≤ (S l).2.next := by
  have := T.next_le (l - k) k (by omega)
  rwa [show k + (l - k) = l by omega] at this
theorem Text.room' (T : Text P lo base xs S U) {k : Nat} (hk : k ≤ xs.length) : base + xs.length ≤ (S k).2.next := Nat.le_trans T.room (T.quiet k hk).next
theorem Text.clean' (T : Text P lo base xs S U) {k : Nat} (hk : k ≤ xs.length) : ∀ r, (S k).2.next ≤ r → (S k).2.get r = none := (T.quiet k hk).clean T.clean

theorem Text.own' (T : Text P lo base xs S U) {j : Nat} (hj : j < xs.length) : ∀ k, k ≤ j → (S k).2.get (base + j) = none
  | 0, _ => T.own j hj
  | k + 1, hk => by
    have ih := Text.own' T hj k (by omega)
    rw [T.heap k (by omega) ?_]
    · exact ih
    · rintro (⟨row, hu⟩ | ⟨x, hx, hc, -, hn⟩)
      · obtain ⟨x, hx, hs⟩ := T.at_ (i := k) (by omega)
        rw [hu] at hs
        generalize S k = a at hs ih
        generalize S (k + 1) = b at hs
        cases hs with
        | op ts h ao v u hg hins h2 h3 =>
          rcases h2 _ _ rfl with e | e
          · omega
          · exact e.2.2 ih
      · have := T.room' (k := k) (by omega)
        omega

end
end AE
