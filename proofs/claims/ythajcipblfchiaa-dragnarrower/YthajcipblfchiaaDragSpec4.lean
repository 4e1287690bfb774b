/- What drag computes, in plain words: limits that are held. -/
import Derived.Test.YthajcipblfchiaaDragSpec3
import Derived.Test.YthajcipblfchiaaAEthree
set_option linter.unusedVariables false
set_option linter.unusedSimpArgs false
set_option linter.unusedSectionVars false
namespace AE.Drag
open Go AE

structure Tests where
  k : Nat
  f : Nat → T
  b : Option Addr
  a : Addr
  c : Nat
structure Tests.Ok (Q : Tests) (m : Nat) (h : H) : Prop where
  e : 0 < Q.k → Q.b = some Q.a
  i : Els h Q.a Q.k 16 (fun i => (Q.f i).cells)
  r : 0 < Q.k → Q.a.block < m
  l : Q.k ≤ 9223372036854775807
theorem Tests.Ok.same {Q : Tests} {m m' : Nat} {h h' : H} (k : Q.Ok m h) (s : Same m h h') (hm : m ≤ m') : Q.Ok m' h' := ⟨k.e, k.i.same s k.r, fun h => by have := k.r h; omega, k.l⟩
structure Limits where
  n : Nat
  f : Nat → Int
  b : Option Addr
  a : Addr
  c : Nat
structure Limits.Ok (M : Limits) (m : Nat) (h : H) : Prop where
  e : 0 < M.n → M.b = some M.a
  i : Ints h M.a M.n M.f
  r : 0 < M.n → M.a.block < m
  z : M.b = none ∨ far ≤ M.c ∨ ∃ a, M.b = some a ∧ a.block < m ∧ h.loadN a 0 = some []
  f : 0 < M.n → M.c < far
  l : M.n ≤ 9223372036854775807
theorem Limits.Ok.same {M : Limits} {m m' : Nat} {h h' : H} (k : M.Ok m h) (s : Same m h h') (hm : m ≤ m') : M.Ok m' h' :=
  ⟨k.e, k.i.same s k.r, fun h => by have := k.r h; omega, k.z.imp id (Or.imp id fun ⟨a, h1, h2, h3⟩ => ⟨a, h1, by omega, by rw [s.loadN h2]; exact h3⟩), k.f, k.l⟩

/-- How many first ones are held. -/
def lead (v l : Nat → Int) : Nat → Nat
  | 0 => 0
  | n + 1 => if lead v l n = n ∧ v n ≤ l n then n + 1 else lead v l n
theorem lead_full {v l : Nat → Int} : ∀ {n : Nat}, (∀ j, j < n → v j ≤ l j) → lead v l n = n
  | 0, _ => rfl
  | n + 1, h => by unfold lead; rw [if_pos ⟨lead_full (fun j hj => h j (by omega)), h n (by omega)⟩]
theorem lead_le (v l : Nat → Int) : ∀ n, lead v l n ≤ n
  | 0 => Nat.le_refl _
  | n + 1 => by have := lead_le v l n; unfold lead; split <;> omega
theorem lead_stop {v l : Nat → Int} {s : Nat} (h : ∀ j, j < s → v j ≤ l j) (hs : l s < v s) : ∀ {n : Nat}, s < n → lead v l n = s
  | 0, hn => by omega
  | n + 1, hn => by
    unfold lead
    by_cases e : s = n
    · subst e; rw [lead_full h, if_neg (by omega)]
    · rw [lead_stop h hs (n := n) (by omega), if_neg (by omega)]

noncomputable def holdsErr (Q : Tests) (S : Lines) (M : Limits) : Int :=
  if 20 < Q.k then 6 else if firstErr (fun i => testErr (Q.f i)) Q.k ≠ 0 then firstErr (fun i => testErr (Q.f i)) Q.k else if linesErr S ≠ 0 then linesErr S else if M.n ≠ Q.k then 15 else firstErr (fun i => spanErr (Q.f i) S) Q.k
noncomputable def holdsR (Q : Tests) (S : Lines) (M : Limits) : Int × Int × Int :=
  if holdsErr Q S M = 0 then ((lead (fun i => spanHi (Q.f i) S) M.f Q.k : Nat), (lead (fun i => spanLo (Q.f i) S) M.f Q.k : Nat), 0) else (0, 0, holdsErr Q S M)
noncomputable def holdsV (Q : Tests) (S : Lines) (M : Limits) : Value := .tuple #[.int .i64 (holdsR Q S M).1, .int .i64 (holdsR Q S M).2.1, .int .i64 (holdsR Q S M).2.2]
end AE.Drag
