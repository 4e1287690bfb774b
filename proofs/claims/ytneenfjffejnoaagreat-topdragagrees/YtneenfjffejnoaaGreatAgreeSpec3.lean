/- The plain law of agree: the order of bounds, how great numbers become, and what the statements say of tables that are changed. -/
import Derived.Test.YtneenfjffejnoaaGreatAgreeSpec2
set_option linter.unusedVariables false
set_option linter.unusedSimpArgs false
set_option linter.unusedSectionVars false
set_option linter.unusedVariables false
namespace AgreeS


def pre (B : Net) (f t : Nat) : List Step := ((List.range f).flatMap fun f => rowSteps B f (List.range 13)) ++ rowSteps B f (List.range t)
theorem pre_next (B : Net) (f : Nat) : pre B (f + 1) 0 = pre B f 13 := by
 simp [pre, List.range_succ, rowSteps]
theorem pre_all (B : Net) : pre B 13 0 = steps B := by simp [pre, steps, rowSteps]
theorem pre_some {B : Net} {f t : Nat} {m : Int} (h : B f t = some m) : pre B f (t + 1) = pre B f t ++ [⟨f, t, m⟩] := by
 simp [pre, List.range_succ, rowSteps, h]
theorem pre_none {B : Net} {f t : Nat} (h : B f t = none) : pre B f (t + 1) = pre B f t := by
 simp [pre, List.range_succ, rowSteps, h]
theorem pre_row {B : Net} {f : Nat} : ∀ (t : Nat), (∀ i, i < t → B f i = none) → pre B f t = pre B f 0
 | 0, _ => rfl
 | t + 1, h => by rw [pre_none (h t (by omega)), pre_row t fun i hi => h i (by omega)]
theorem pre_one (B : Net) (f t : Nat) : pre B f t <+: pre B f (t + 1) := by
 cases h : B f t with
 | none => rw [pre_none h]; exact List.prefix_refl _
 | some m => rw [pre_some h]; exact List.prefix_append _ _
theorem pre_le_row (B : Net) (f : Nat) : ∀ k t, t + k = 13 → pre B f t <+: pre B f 13
 | 0, t, h => by obtain rfl : t = 13 := by omega
                 exact List.prefix_refl _
 | k + 1, t, h => (pre_one B f t).trans (pre_le_row B f k (t + 1) (by omega))
theorem pre_le (B : Net) : ∀ k f, f + k = 13 → pre B f 0 <+: steps B
 | 0, f, h => by obtain rfl : f = 13 := by omega
                 rw [pre_all]; exact List.prefix_refl _
 | k + 1, f, h => by
   have := pre_le B k (f + 1) (by omega)
   rw [pre_next] at this
   exact (pre_le_row B f 13 0 rfl).trans this
theorem pre_split {B : Net} {f t : Nat} {m : Int} (hf : f < 13) (ht : t < 13) (h : B f t = some m) : ∃ rest, pre B f t ++ ⟨f, t, m⟩ :: rest = steps B := by
 have h1 := pre_le_row B f (12 - t) (t + 1) (by omega)
 have h2 := pre_le B (12 - f) (f + 1) (by omega)
 rw [pre_next] at h2
 obtain ⟨r, hr⟩ := h1.trans h2
 rw [pre_some h] at hr
 exact ⟨r, by simpa using hr⟩
theorem steps_len (B : Net) : (steps B).length ≤ 169 := by
 have row : ∀ f (l : List Nat), (rowSteps B f l).length ≤ l.length := fun f l => by unfold rowSteps; exact List.length_filterMap_le _ _
 have all : ∀ l : List Nat, (l.flatMap fun f => rowSteps B f (List.range 13)).length ≤ l.length * 13 := by
  intro l
  induction l with
  | nil => simp
  | cons f l ih =>
    have := row f (List.range 13)
    simp only [List.flatMap_cons, List.length_append, List.length_cons, List.length_range] at *
    omega
 have := all (List.range 13)
 simpa [steps] using this


def Small (n : Nat) (k : Known) : Prop := ∀ v c, k v = some c → -(n * M) ≤ c ∧ c ≤ n * M
theorem Small.mono {n m : Nat} {k : Known} (h : Small n k) (hnm : n ≤ m) : Small m k := fun v c e => by
 have := h v c e
 have : (n : Int) * M ≤ m * M := Int.mul_le_mul_of_nonneg_right (by omega) (by simp [M])
 omega
theorem small_start (a : Nat) : Small 0 (start a).known := fun v c h => by
 simp only [start] at h
 split at h
 ·simp at h; subst h; simp
 ·simp at h
theorem Small.relax {N n : Nat} {B : Net} (hB : Lim N B) {x : St} {s : Step} (hs : s ∈ steps B) (h : Small n x.known) : Small (n + 1) (AgreeS.relax x s).known := by
 obtain ⟨h1, h2, h3⟩ := mem_steps.1 hs
 obtain ⟨_, _, l1, l2⟩ := hB _ _ _ h3
 have hm : ((n + 1 : Nat) : Int) * M = n * M + M := by rw [Int.natCast_add, Int.add_mul]; omega
 unfold AgreeS.relax
 split
 ·rename_i hb
  intro v c hv
  simp only [upd] at hv
  split at hv
  ·unfold better at hb
   unfold lower at hv
   cases hf : x.known s.from_ with
   | none => simp [hf] at hb
   | some d =>
     have := h _ _ hf
     rw [hf] at hv
     simp at hv
     omega
  ·have := h v c hv
   have : 0 ≤ M := by simp [M]
   omega
 ·exact h.mono (by omega)
theorem Small.fold {N : Nat} {B : Net} (hB : Lim N B) : ∀ (l : List Step) (n : Nat) (x : St), (∀ s ∈ l, s ∈ steps B) → Small n x.known → Small (n + l.length) (l.foldl AgreeS.relax x).known
 | [], _, _, _, h => h
 | s :: l, n, x, hl, h => by
   have := Small.fold hB l (n + 1) _ (fun t ht => hl t (List.mem_cons_of_mem _ ht)) (h.relax hB (hl s (by simp)))
   exact this.mono (by simp; omega)
theorem Small.pass {N n : Nat} {B : Net} (hB : Lim N B) {x : St} (h : Small n x.known) : Small (n + 169) (AgreeS.pass B x).known := by
 refine (Small.fold hB (steps B) n { x with last := -1 } (fun _ h => h) h).mono ?_
 have := steps_len B
 omega
theorem small_passes {N : Nat} {B : Net} (hB : Lim N B) : ∀ (k n : Nat) (x : St), Small n x.known → Small (n + k * 169) (passes B k x).known
 | 0, n, _, h => by simpa [passes] using h
 | k + 1, n, x, h => (small_passes hB k (n + 169) _ (h.pass hB)).mono (by omega)


end AgreeS
