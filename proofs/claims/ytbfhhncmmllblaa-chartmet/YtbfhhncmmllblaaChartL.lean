/- Maps from places to numbers, as lists. -/
import Derived.Test.YtbfhhncmmllblaaJoin10
set_option linter.unusedVariables false
set_option linter.unusedSimpArgs false
set_option linter.unusedSectionVars false
namespace AE.Try
open Go AE Go.Proofs
set_option linter.unusedVariables false

structure PE where
  i : Nat
  k : Nat
  v : Int
  b : Nat
def PE.key (e : PE) : Nat × Nat := (e.i, e.k)
def isKey (i k : Nat) (e : PE) : Bool := e.i == i && e.k == k
theorem isKey_iff {i k : Nat} {e : PE} : isKey i k e = true ↔ e.key = (i, k) := by simp [isKey, PE.key]
def upd2 (M : Nat → Nat → Int) (i j : Nat) (v : Int) : Nat → Nat → Int := fun i' j' => if i' = i ∧ j' = j then v else M i' j'
theorem upd2_at (M : Nat → Nat → Int) (i j : Nat) (v : Int) : upd2 M i j v i j = v := by simp [upd2]
theorem upd2_ne (M : Nat → Nat → Int) {i j i' j' : Nat} (v : Int) (h : (i', j') ≠ (i, j)) : upd2 M i j v i' j' = M i' j' := by
  unfold upd2
  rw [if_neg]
  rintro ⟨rfl, rfl⟩
  exact h rfl

/-- The list l tells F, but for what is 0. -/
structure Rep (l : List PE) (c : Nat) (F : Nat → Nat → Int) : Prop where
  nk : (l.map PE.key).Nodup
  nb : (l.map PE.b).Nodup
  lt : ∀ e ∈ l, e.b < c
  val : ∀ e ∈ l, e.v = F e.i e.k
  nz : ∀ e ∈ l, e.v ≠ 0
  all : ∀ i k, F i k ≠ 0 → ∃ e ∈ l, e.key = (i, k)
theorem Rep.nil : Rep [] 0 (fun _ _ => 0) := ⟨by simp, by simp, by simp, by simp, by simp, fun i k h => absurd rfl h⟩

def pget (l : List PE) (i k : Nat) : Int := match l.findIdx? (isKey i k) with
  | some j => ((l[j]?).map PE.v).getD 0
  | none => 0
def pput (l : List PE) (i k : Nat) (x : Int) (c : Nat) : List PE := match l.findIdx? (isKey i k) with
  | some j => l.set j ⟨i, k, x, ((l[j]?).map PE.b).getD 0⟩
  | none => l ++ [⟨i, k, x, c⟩]
def pclk (l : List PE) (i k c : Nat) : Nat := match l.findIdx? (isKey i k) with
  | some _ => c
  | none => c + 1
def pdel (l : List PE) (i k : Nat) : List PE := match l.findIdx? (isKey i k) with
  | some j => l.eraseIdx j
  | none => l

theorem set_same {α : Type} {l : List α} {j : Nat} {x : α} (h : l[j]? = some x) : l.set j x = l := by
  apply List.ext_getElem?
  intro a
  by_cases e : j = a
  · subst e
    obtain ⟨hl, -⟩ := List.getElem?_eq_some_iff.1 h
    rw [List.getElem?_set_self hl, h]
  · rw [List.getElem?_set_ne e]
theorem find_some {l : List PE} {i k j : Nat} (h : l.findIdx? (isKey i k) = some j) : ∃ e, l[j]? = some e ∧ e.key = (i, k) ∧ e ∈ l := by
  obtain ⟨hj, hp, -⟩ := List.findIdx?_eq_some_iff_getElem.1 h
  exact ⟨l[j], List.getElem?_eq_getElem hj, isKey_iff.1 hp, List.getElem_mem hj⟩
theorem find_none {l : List PE} {i k : Nat} (h : l.findIdx? (isKey i k) = none) : ∀ e ∈ l, e.key ≠ (i, k) := fun e he hk => by
  have := List.findIdx?_eq_none_iff.1 h e he
  rw [isKey_iff.2 hk] at this
  cases this
theorem key_inj {l : List PE} (h : (l.map PE.key).Nodup) {a b : Nat} {x y : PE} (ha : l[a]? = some x) (hb : l[b]? = some y) (hk : x.key = y.key) : a = b := by
  have e1 : (l.map PE.key)[a]? = some x.key := by simp [ha]
  have e2 : (l.map PE.key)[b]? = some y.key := by simp [hb]
  have hlt : a < (l.map PE.key).length := (List.getElem?_eq_some_iff.1 e1).1
  exact (List.getElem?_inj hlt h).1 (by rw [e1, e2, hk])
theorem mem_set {l : List PE} {j : Nat} {y e : PE} (hj : j < l.length) : e ∈ l.set j y ↔ e = y ∨ ∃ a, a ≠ j ∧ l[a]? = some e := by
  constructor
  · intro h
    obtain ⟨a, ha, he⟩ := List.mem_iff_getElem.1 h
    by_cases e : j = a
    · subst e; left; rw [← he]; simp
    · right
      refine ⟨a, fun h => e h.symm, ?_⟩
      rw [List.getElem_set_ne e] at he
      rw [← he]
      exact List.getElem?_eq_getElem (by simpa using ha)
  · rintro (rfl | ⟨a, ha, he⟩)
    · exact List.mem_iff_getElem.2 ⟨j, by simpa using hj, by simp⟩
    · obtain ⟨hl, he⟩ := List.getElem?_eq_some_iff.1 he
      exact List.mem_iff_getElem.2 ⟨a, by simpa using hl, by rw [List.getElem_set_ne (fun h => ha h.symm)]; exact he⟩

theorem Rep.get {l : List PE} {c : Nat} {F : Nat → Nat → Int} (R : Rep l c F) (i k : Nat) : pget l i k = F i k := by
  unfold pget
  split
  · rename_i j hj
    obtain ⟨e, he, hk, hm⟩ := find_some hj
    have := R.val e hm
    simp only [PE.key, Prod.mk.injEq] at hk
    rw [hk.1, hk.2] at this
    simp [he, this]
  · rename_i hn
    refine Classical.byContradiction fun h => ?_
    obtain ⟨e, hm, hk⟩ := R.all i k (fun h' => h h'.symm)
    exact find_none hn e hm hk

theorem Rep.put {l : List PE} {c : Nat} {F : Nat → Nat → Int} (R : Rep l c F) {i k : Nat} {x : Int} (hx : x ≠ 0) : Rep (pput l i k x c) (pclk l i k c) (upd2 F i k x) := by
  unfold pput pclk
  split
  · rename_i j hj
    obtain ⟨e, he, hk, hm⟩ := find_some hj
    obtain ⟨hjl, hje⟩ := List.getElem?_eq_some_iff.1 he
    rw [he]
    simp only [Option.map_some, Option.getD_some]
    have hkeys : (l.set j ⟨i, k, x, e.b⟩).map PE.key = l.map PE.key := by
      rw [List.map_set]
      exact set_same (by rw [List.getElem?_map, he, Option.map_some, hk]; rfl)
    have hbs : (l.set j ⟨i, k, x, e.b⟩).map PE.b = l.map PE.b := by
      rw [List.map_set]
      exact set_same (by rw [List.getElem?_map, he]; rfl)
    refine ⟨by rw [hkeys]; exact R.nk, by rw [hbs]; exact R.nb, fun y hy => ?_, fun y hy => ?_, fun y hy => ?_, fun i' k' hF => ?_⟩
    · rcases (mem_set hjl).1 hy with rfl | ⟨a, ha, hy⟩
      · exact R.lt e hm
      · exact R.lt y (List.mem_of_getElem? hy)
    · rcases (mem_set hjl).1 hy with rfl | ⟨a, ha, hy⟩
      · exact (upd2_at ..).symm
      · rw [upd2_ne]
        · exact R.val y (List.mem_of_getElem? hy)
        · intro h
          exact ha (key_inj R.nk hy he (by rw [hk]; exact h))
    · rcases (mem_set hjl).1 hy with rfl | ⟨a, ha, hy⟩
      · exact hx
      · exact R.nz y (List.mem_of_getElem? hy)
    · by_cases h : (i', k') = (i, k)
      · exact ⟨_, (mem_set hjl).2 (.inl rfl), h.symm⟩
      · rw [upd2_ne _ _ h] at hF
        obtain ⟨y, hy, hyk⟩ := R.all i' k' hF
        obtain ⟨a, ha⟩ := List.mem_iff_getElem?.1 hy
        refine ⟨y, (mem_set hjl).2 (.inr ⟨a, ?_, ha⟩), hyk⟩
        rintro rfl
        rw [he] at ha
        simp only [Option.some.injEq] at ha
        subst ha
        exact h (hyk.symm.trans hk)
  · rename_i hn
    have hnk := find_none hn
    refine ⟨?_, ?_, fun y hy => ?_, fun y hy => ?_, fun y hy => ?_, fun i' k' hF => ?_⟩
    · rw [List.map_append, List.nodup_append]
      refine ⟨R.nk, by simp, fun a ha b hb hab => ?_⟩
      simp only [List.map_cons, List.map_nil, List.mem_singleton] at hb
      obtain ⟨y, hy, rfl⟩ := List.mem_map.1 ha
      subst hb
      exact hnk y hy hab
    · rw [List.map_append, List.nodup_append]
      refine ⟨R.nb, by simp, fun a ha b hb hab => ?_⟩
      simp only [List.map_cons, List.map_nil, List.mem_singleton] at hb
      obtain ⟨y, hy, rfl⟩ := List.mem_map.1 ha
      subst hb
      have := R.lt y hy
      omega
    · rcases List.mem_append.1 hy with hy | hy
      · have := R.lt y hy; omega
      · simp at hy; subst hy; exact Nat.lt_succ_self c
    · rcases List.mem_append.1 hy with hy | hy
      · rw [upd2_ne]
        · exact R.val y hy
        · exact fun h => hnk y hy h
      · simp at hy; subst hy; exact (upd2_at ..).symm
    · rcases List.mem_append.1 hy with hy | hy
      · exact R.nz y hy
      · simp at hy; subst hy; exact hx
    · by_cases h : (i', k') = (i, k)
      · exact ⟨⟨i, k, x, c⟩, List.mem_append.2 (.inr List.mem_cons_self), h.symm⟩
      · rw [upd2_ne _ _ h] at hF
        obtain ⟨y, hy, hyk⟩ := R.all i' k' hF
        exact ⟨y, List.mem_append.2 (.inl hy), hyk⟩


theorem find_put {l : List PE} {i k c : Nat} {x : Int} : (pput l i k x c).findIdx? (isKey i k) = some (((l.findIdx? (isKey i k))).getD l.length) := by
  unfold pput
  split
  · rename_i j hj
    obtain ⟨hjl, hp, hlt⟩ := List.findIdx?_eq_some_iff_getElem.1 hj
    rw [hj]
    refine List.findIdx?_eq_some_iff_getElem.2 ⟨by simpa using hjl, by simp [isKey], fun a ha => ?_⟩
    rw [List.getElem_set_ne (by simp only [Option.getD_some] at ha; omega)]
    exact hlt a (by simpa using ha)
  · rename_i hn
    rw [hn, List.findIdx?_append, hn]
    simp [isKey]
/-- An entry that came to be 0 is taken out. -/
theorem Rep.del {l : List PE} {c : Nat} {F : Nat → Nat → Int} (R : Rep l c F) {i k : Nat} : Rep (pdel (pput l i k 0 c) i k) (pclk l i k c) (upd2 F i k 0) := by
  unfold pdel
  rw [find_put]
  unfold pput pclk
  cases hj : l.findIdx? (isKey i k) with
  | some j =>
    obtain ⟨e, he, hk, hm⟩ := find_some hj
    obtain ⟨hjl, hje⟩ := List.getElem?_eq_some_iff.1 he
    simp only [Option.getD_some]
    have hes : (l.set j ⟨i, k, 0, ((l[j]?).map PE.b).getD 0⟩).eraseIdx j = l.eraseIdx j := by
      apply List.ext_getElem?
      intro a
      rw [List.getElem?_eraseIdx, List.getElem?_eraseIdx]
      split
      · rw [List.getElem?_set_ne (by omega)]
      · rw [List.getElem?_set_ne (by omega)]
    rw [hes]
    have hsub := List.eraseIdx_sublist l j
    have hmem : ∀ y ∈ l.eraseIdx j, y ∈ l ∧ y.key ≠ (i, k) := fun y hy => by
      obtain ⟨a, ha⟩ := List.mem_iff_getElem?.1 hy
      rw [List.getElem?_eraseIdx] at ha
      split at ha
      · rename_i haj
        refine ⟨List.mem_of_getElem? ha, fun h => ?_⟩
        have := key_inj R.nk ha he (h.trans hk.symm)
        omega
      · rename_i haj
        refine ⟨List.mem_of_getElem? ha, fun h => ?_⟩
        have := key_inj R.nk ha he (h.trans hk.symm)
        omega
    refine ⟨(hsub.map _).nodup R.nk, (hsub.map _).nodup R.nb, fun y hy => R.lt y (hmem y hy).1, fun y hy => ?_, fun y hy => R.nz y (hmem y hy).1, fun i' k' hF => ?_⟩
    · rw [upd2_ne]
      · exact R.val y (hmem y hy).1
      · exact (hmem y hy).2
    · by_cases h : (i', k') = (i, k)
      · simp only [Prod.mk.injEq] at h
        obtain ⟨rfl, rfl⟩ := h
        rw [upd2_at] at hF
        exact absurd rfl hF
      · rw [upd2_ne _ _ h] at hF
        obtain ⟨y, hy, hyk⟩ := R.all i' k' hF
        obtain ⟨a, ha⟩ := List.mem_iff_getElem?.1 hy
        refine ⟨y, ?_, hyk⟩
        have hne : a ≠ j := by
          rintro rfl
          rw [he] at ha
          simp only [Option.some.injEq] at ha
          subst ha
          exact h (hyk.symm.trans hk)
        rcases Nat.lt_or_ge a j with hlt | hge
        · refine List.mem_of_getElem? (i := a) ?_
          rw [List.getElem?_eraseIdx, if_pos hlt]; exact ha
        · refine List.mem_of_getElem? (i := a - 1) ?_
          rw [List.getElem?_eraseIdx, if_neg (by omega), show a - 1 + 1 = a by omega]; exact ha
  | none =>
    have hnk := find_none hj
    simp only [Option.getD_none]
    have : (l ++ [(⟨i, k, 0, c⟩ : PE)]).eraseIdx l.length = l := by
      rw [List.eraseIdx_append_of_length_le (Nat.le_refl _)]
      simp
    rw [this]
    refine ⟨R.nk, R.nb, fun y hy => by have := R.lt y hy; omega, fun y hy => ?_, R.nz, fun i' k' hF => ?_⟩
    · rw [upd2_ne]
      · exact R.val y hy
      · exact hnk y hy
    · by_cases h : (i', k') = (i, k)
      · simp only [Prod.mk.injEq] at h
        obtain ⟨rfl, rfl⟩ := h
        rw [upd2_at] at hF
        exact absurd rfl hF
      · rw [upd2_ne _ _ h] at hF
        exact R.all i' k' hF
end AE.Try
