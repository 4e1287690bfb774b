/- Maps from numbers to values, of which nothing was deleted. -/
import Derived.Test.YtkkndecbijgolaaAEthree
set_option linter.unusedVariables false
set_option linter.unusedSimpArgs false
set_option linter.unusedSectionVars false
set_option linter.unusedVariables false
namespace AE
open Go Go.RowKit

/-- The entries of a map, in the order in which they came. -/
def entV : List (Nat × Value) → Nat → List MapEntry
  | [], _ => []
  | (k, v) :: l, i => ⟨.int .i64 k, v, i⟩ :: entV l (i + 1)
def putV (l : List (Nat × Value)) (k : Nat) (v : Value) : List (Nat × Value) := match l.findIdx? (fun p => p.1 == k) with
  | some i => l.set i (k, v)
  | none => l ++ [(k, v)]

theorem entV_flat : ∀ (l : List (Nat × Value)) (i : Nat), keysFlat (entV l i) = true
  | [], _ => rfl
  | (k, v) :: l, i => by
    have := entV_flat l (i + 1)
    simp only [keysFlat] at this ⊢
    simp only [entV, List.all_cons, this, Bool.and_true]
    rfl
theorem entV_get : ∀ (l : List (Nat × Value)) (i j : Nat), (entV l i)[j]? = (l[j]?).map fun p => ⟨.int .i64 p.1, p.2, i + j⟩
  | [], _, _ => rfl
  | (k, v) :: l, i, 0 => rfl
  | (k, v) :: l, i, j + 1 => by
    simp only [entV, List.getElem?_cons_succ, entV_get l (i + 1) j]
    congr 1
    funext p
    congr 1
    omega
theorem entV_set : ∀ (l : List (Nat × Value)) (i j k : Nat) (v : Value), (entV l i).set j ⟨.int .i64 k, v, i + j⟩ = entV (l.set j (k, v)) i
  | [], _, _, _, _ => rfl
  | (k, v) :: l, i, 0, _, _ => rfl
  | (k, v) :: l, i, j + 1, _, _ => by
    simp only [entV, List.set_cons_succ]
    rw [← entV_set l (i + 1) j, show i + 1 + j = i + (j + 1) by omega]
theorem entV_app : ∀ (l : List (Nat × Value)) (i k : Nat) (v : Value), entV l i ++ [⟨.int .i64 k, v, i + l.length⟩] = entV (l ++ [(k, v)]) i
  | [], _, _, _ => rfl
  | (k, v) :: l, i, _, _ => by
    simp only [entV, List.cons_append, List.length_cons]
    rw [← entV_app l (i + 1), show i + 1 + l.length = i + (l.length + 1) by omega]

theorem find_entV (k : Nat) : ∀ (l : List (Nat × Value)) (i j : Nat), Instr.findNow (.int .i64) (.int .i64 (k : Int)) (bare (entV l i)) j = some ((l.findIdx? (fun p => p.1 == k)).map fun p => (p + j, undef))
  | [], _, _ => rfl
  | (a, b) :: l, i, j => by
    have ih := find_entV k l (i + 1) (j + 1)
    simp only [bare, entV, List.map_cons, Instr.findNow, Instr.sameNow, if_true] at ih ⊢
    by_cases h : a = k
    · subst h
      simp [List.findIdx?_cons]
    · have h1 : ((k : Int) == (a : Int)) = false := by simp; omega
      have h2 : (a == k) = false := by simp [h]
      simp only [h1, List.findIdx?_cons, h2, Bool.false_eq_true, if_false]
      rw [ih]
      cases l.findIdx? (fun p => p.1 == k) with
      | none => rfl
      | some p => simp; omega

theorem afind_entV {P : Program} {kt : TypeId} (hk : P.underlying kt = some (.int .i64)) (e : Bool) (k : Nat) (l : List (Nat × Value)) : afind P e kt (.int .i64 (k : Int)) (entV l 0) = some (l.findIdx? (fun p => p.1 == k)) := by
  have h1 : (pureRun P (Instr.checkKey e 10000 kt (.int .i64 (k : Int)))).isSome = true := by
    rw [show (10000 : Nat) = 9999 + 1 from rfl]
    unfold Instr.checkKey
    simp only [pureRun_bind, pureRun_under hk, Option.bind_some]
    rfl
  have h2 : pureRun P (Instr.findKey kt (.int .i64 (k : Int)) (bare (entV l 0))) = some ((l.findIdx? (fun p => p.1 == k)).map fun p => (p, undef)) := by
    unfold Instr.findKey
    simp only [pureRun_bind, pureRun_under hk, Option.bind_some, find_entV k l 0 0]
    rfl
  unfold afind
  rw [if_pos ⟨rfl, entV_flat l 0, h1⟩, h2]
  cases l.findIdx? (fun p => p.1 == k) <;> rfl

theorem mapupV_of {P : Program} {lo nid r a : Nat} {b : Value} {ts : Ts} {h : H} {kt : TypeId} {m x y : Opd} {l : List (Nat × Value)} (hk : P.underlying kt = some (.int .i64)) (hm : ev ts m = .map (some r)) (hx : ev ts x = .int .i64 (a : Int)) (hy : ev ts y = b) (hlo : lo ≤ r)
    (hg : h.get r = some (.map (entV l 0) l.length)) : aop P lo nid ts h (.mapup kt m x y) = some (undef, h.put r (.map (entV (putV l a b) 0) (putV l a b).length)) := by
  simp only [aop, hm, hx, hy, xMapup, if_pos hlo, hg, afind_entV hk, Option.bind_some, putV]
  cases hf : l.findIdx? (fun p => p.1 == a) with
  | none =>
    simp only [muOut, Option.map_some, Option.some.injEq, Prod.mk.injEq, true_and]
    rw [← entV_app l 0 a b]
    simp
  | some i =>
    obtain ⟨hi, hp, -⟩ := List.findIdx?_eq_some_iff_getElem.1 hf
    simp only [muOut, entV_get, List.getElem?_eq_getElem hi, Option.map_some, Option.bind_some]
    have hb : Instr.sameBits 10000 (.int .i64 (l[i].1 : Int)) (.int .i64 (a : Int)) = true := by
      have : l[i].1 = a := by simpa using hp
      rw [this]
      simp [Instr.sameBits]
    rw [if_pos hb]
    have := entV_set l 0 i a b
    simp only [Nat.zero_add] at this ⊢
    rw [this]
    simp

theorem lookupV_of {P : Program} {kt : TypeId} (hk : P.underlying kt = some (.int .i64)) {lo nid r a : Nat} {ts : Ts} {h : H} {z : Value} {ok : Bool} {m x : Opd} {l : List (Nat × Value)} {c : Nat} (hm : ev ts m = .map (some r)) (hx : ev ts x = .int .i64 (a : Int)) (hg : h.get r = some (.map (entV l 0) c)) :
    aop P lo nid ts h (.lookup kt z ok m x) = (luOut z ok (entV l 0) (l.findIdx? (fun p => p.1 == a))).map fun v => (v, h) := by
  simp only [aop, hm, hx, xLookup, hg, afind_entV hk, Option.bind_some, keep]


theorem idxV {l : List (Nat × Value)} {a : Nat} {v : Value} (he : (a, v) ∈ l) (hn : (l.map Prod.fst).Nodup) : ∃ i, l.findIdx? (fun p => p.1 == a) = some i ∧ l[i]? = some (a, v) := by
  induction l with
  | nil => cases he
  | cons p l ih =>
    rw [List.map_cons, List.nodup_cons] at hn
    rcases List.mem_cons.1 he with rfl | h
    · exact ⟨0, by simp [List.findIdx?_cons], rfl⟩
    · obtain ⟨i, h1, h2⟩ := ih h hn.2
      have : p.1 ≠ a := fun e => hn.1 (e ▸ List.mem_map.2 ⟨_, h, rfl⟩)
      exact ⟨i + 1, by simp [List.findIdx?_cons, this, h1], by simpa using h2⟩
theorem idxV_none {l : List (Nat × Value)} {a : Nat} (hn : ∀ p ∈ l, p.1 ≠ a) : l.findIdx? (fun p => p.1 == a) = none := by
  rw [List.findIdx?_eq_none_iff]
  intro p hp
  simpa using hn p hp
theorem lookV {P : Program} {kt : TypeId} (hk : P.underlying kt = some (.int .i64)) {lo nid r a : Nat} {ts : Ts} {h : H} {z v : Value} {ok : Bool} {m x : Opd} {l : List (Nat × Value)} {c : Nat} (hm : ev ts m = .map (some r)) (hx : ev ts x = .int .i64 (a : Int)) (hg : h.get r = some (.map (entV l 0) c)) (he : (a, v) ∈ l) (hn : (l.map Prod.fst).Nodup) :
    aop P lo nid ts h (.lookup kt z ok m x) = some (if ok then .tuple #[v, .bool true] else v, h) := by
  obtain ⟨i, h1, h2⟩ := idxV he hn
  rw [lookupV_of hk hm hx hg, h1]
  simp only [luOut, entV_get, h2, Option.map_some]
theorem lookV_none {P : Program} {kt : TypeId} (hk : P.underlying kt = some (.int .i64)) {lo nid r a : Nat} {ts : Ts} {h : H} {z : Value} {ok : Bool} {m x : Opd} {l : List (Nat × Value)} {c : Nat} (hm : ev ts m = .map (some r)) (hx : ev ts x = .int .i64 (a : Int)) (hg : h.get r = some (.map (entV l 0) c)) (hn : ∀ p ∈ l, p.1 ≠ a) :
    aop P lo nid ts h (.lookup kt z ok m x) = some (if ok then .tuple #[z, .bool false] else z, h) := by
  rw [lookupV_of hk hm hx hg, idxV_none hn]
  rfl
theorem putV_new {l : List (Nat × Value)} {a : Nat} {v : Value} (hn : ∀ p ∈ l, p.1 ≠ a) : putV l a v = l ++ [(a, v)] := by
  unfold putV
  rw [idxV_none hn]
theorem putV_last {l : List (Nat × Value)} {a : Nat} {v w : Value} (hn : ∀ p ∈ l, p.1 ≠ a) : putV (l ++ [(a, w)]) a v = l ++ [(a, v)] := by
  unfold putV
  have : (l ++ [(a, w)]).findIdx? (fun p => p.1 == a) = some l.length := by
    rw [List.findIdx?_append, idxV_none hn]
    simp
  rw [this]
  simp
end AE
