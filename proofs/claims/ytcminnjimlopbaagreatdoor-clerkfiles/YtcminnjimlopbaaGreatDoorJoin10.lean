/- Walks and plain laws: ClkRd, ClkEq. -/
import Derived.Test.YtcminnjimlopbaaGreatDoorClkAs
import Derived.Test.YtcminnjimlopbaaGreatDoorJoin23
import Derived.Test.YtcminnjimlopbaaGreatDoorAEthree
set_option linter.unusedVariables false
set_option linter.unusedSimpArgs false
set_option linter.unusedSectionVars false

/- Clerk: rows and files, in plain words. -/
namespace AE.Tryz
open Go AE Go.Proofs AE.Clerk
set_option maxRecDepth 100000
set_option linter.unusedVariables false

theorem flat_sep (l : List Int) : l.flatMap sep = ((l.map fun z => dec z.toNat).map ([32] ++ ·)).flatten := by
 rw [List.map_map, List.flatMap_def]
 rfl
theorem text_join (x : Ln) : x.text = joinN [32] (word x.k :: x.nums.map fun z => dec z.toNat) := by
 simp only [joinN, Ln.text, flat_sep]
theorem free_word (k : Int) : 32 ∉ word k := fun h => by have := word_let k 32 h; omega
theorem free_dec (n : Nat) : 32 ∉ dec n := fun h => by have := dec_digit 32 h; omega
theorem nums_bd {x : Ln} (hv : x.Valid 1099511627776) : ∀ z ∈ x.nums, 0 ≤ z ∧ z ≤ 1099511627776 := by
 intro z hz
 unfold Ln.Valid btw at hv
 unfold Ln.nums at hz
 split at hz
 ·simp at hz; omega
 split at hz
 ·simp at hz; omega
 split at hz
 ·simp at hz; omega
 ·simp at hz; omega
theorem text_row {x : Ln} (hv : x.Valid 1099511627776) : IsRow x.text (word x.k) (x.nums.map Int.toNat) := by
 refine ⟨⟨by simp, ?_, fun p hp => ?_⟩, fun z hz => ?_⟩
 ·rw [text_join, List.map_map]; rfl
 ·rcases List.mem_cons.1 hp with rfl | hp
  ·exact free_word _
  ·obtain ⟨n, -, rfl⟩ := List.mem_map.1 hp
   exact free_dec n
 ·obtain ⟨n, hn, rfl⟩ := List.mem_map.1 hz
  have := nums_bd hv n hn
  omega
theorem map_inj {α β : Type} {f : α → β} (hf : ∀ a b, f a = f b → a = b) : ∀ {l m : List α}, l.map f = m.map f → l = m
 | [], [], _ => rfl
 | [], _ :: _, h => by simp at h
 | _ :: _, [], h => by simp at h
 | a :: l, b :: m, h => by
   simp only [List.map_cons, List.cons.injEq] at h
   rw [hf _ _ h.1, map_inj hf h.2]
theorem row_inj {l w w' : List Nat} {zs zs' : List Nat} (h : IsRow l w zs) (k : IsRow l w' zs') : w = w' ∧ zs = zs' := by
 have e := h.1.uniq k.1
 simp only [List.cons.injEq] at e
 exact ⟨e.1, map_inj (fun _ _ => dec_inj) e.2⟩
theorem row_iff {l w : List Nat} {zs : List Nat} {x : Ln} (h : IsRow l w zs) (hv : x.Valid 1099511627776) : l = x.text ↔ w = word x.k ∧ zs.map (fun z : Nat => (z : Int)) = x.nums := by
 constructor
 ·rintro rfl
  obtain ⟨rfl, rfl⟩ := row_inj h (text_row hv)
  refine ⟨rfl, ?_⟩
  rw [List.map_map]
  conv => rhs; rw [← List.map_id x.nums]
  refine List.map_congr_left fun z hz => ?_
  have := nums_bd hv z hz
  simp only [Function.comp, id_eq]
  omega
 ·rintro ⟨rfl, e⟩
  rw [text_join, ← e, List.map_map, ← h.1.join]
  rfl
theorem word_inj {j k : Int} (hj : 0 ≤ j ∧ j ≤ 7) (hk : 0 ≤ k ∧ k ≤ 7) (h : word j = word k) : j = k := by
 have hj' : j = 0 ∨ j = 1 ∨ j = 2 ∨ j = 3 ∨ j = 4 ∨ j = 5 ∨ j = 6 ∨ j = 7 := by omega
 have hk' : k = 0 ∨ k = 1 ∨ k = 2 ∨ k = 3 ∨ k = 4 ∨ k = 5 ∨ k = 6 ∨ k = 7 := by omega
 rcases hj' with rfl | rfl | rfl | rfl | rfl | rfl | rfl | rfl <;> rcases hk' with rfl | rfl | rfl | rfl | rfl | rfl | rfl | rfl <;> first | rfl | (revert h; decide)
theorem kind_bd {x : Ln} (hv : x.Valid 1099511627776) : 0 ≤ x.k ∧ x.k ≤ 7 := by
 unfold Ln.Valid at hv; omega
def RowLn (l : List Nat) (x : Ln) : Prop := x.Valid 1099511627776 ∧ l = x.text
theorem rowLn_as {l w : List Nat} {zs : List Nat} {x : Ln} (h : IsRow l w zs) : RowLn l x ↔ w = word x.k ∧ AsOk x.k (zs.map fun z : Nat => (z : Int)) x :=
 ⟨fun ⟨hv, e⟩ => by
  obtain ⟨h1, h2⟩ := (row_iff h hv).1 e
  exact ⟨h1, hv, rfl, h2.symm⟩, fun ⟨h1, hv, _, h2⟩ => ⟨hv, (row_iff h hv).2 ⟨h1, h2.symm⟩⟩⟩
theorem rowLn_row {l : List Nat} {x : Ln} (h : RowLn l x) : ∃ w zs, IsRow l w zs := ⟨_, _, h.2 ▸ text_row h.1⟩
theorem seal_row {z : Nat} (hz : z ≤ 2147483647) : IsRow (sealW ++ sep z) sealW [z] := by
 refine ⟨⟨by simp, by simp [joinN, sep], fun p hp => ?_⟩, fun y hy => by simp at hy; omega⟩
 simp only [List.map_cons, List.map_nil, List.mem_cons, List.not_mem_nil, or_false] at hp
 rcases hp with rfl | rfl
 ·simp [sealW]
 ·exact free_dec _
theorem rowLn_inj {l : List Nat} {x y : Ln} (h : RowLn l x) (k : RowLn l y) : x = y := by
 obtain ⟨h1, h2⟩ := h
 obtain ⟨k1, k2⟩ := k
 have e := (row_iff (text_row h1) k1).1 (h2 ▸ k2)
 have ek := word_inj (kind_bd h1) (kind_bd k1) e.1
 have en : x.nums = y.nums := by
  rw [← e.2, List.map_map]
  conv => lhs; rw [← List.map_id x.nums]
  refine List.map_congr_left fun z hz => ?_
  have := nums_bd h1 z hz
  simp only [Function.comp, id_eq]
  omega
 obtain ⟨k, m, a, b⟩ := x
 obtain ⟨k', m', a', b'⟩ := y
 simp only at ek
 subst ek
 unfold Ln.Valid btw at h1 k1
 unfold Ln.nums at en
 simp at en h1 k1
 simp
 split at en
 ·simp at en; omega
 split at en
 ·simp at en; omega
 split at en
 ·simp at en; omega
 ·simp at en; omega
def fileZ (f : Nat → Ln) (n : Nat) (z : Nat) : List Nat := rowsN f n ++ sealW ++ sep z ++ [10]
theorem file_split {f : Nat → Ln} {n z : Nat} : IsSplit 10 (fileZ f n z) (((List.range n).map fun i => (f i).text) ++ [sealW ++ sep z, []]) := by
 refine ⟨by simp, ?_, fun p hp => ?_⟩
 ·rw [joinN_snoc2, rowsN_flat]
  simp [fileZ, List.append_assoc]
 ·rcases List.mem_append.1 hp with hp | hp
  ·obtain ⟨i, -, rfl⟩ := List.mem_map.1 hp
   intro h
   have := text_byte _ _ h
   omega
  ·simp only [List.mem_cons, List.not_mem_nil, or_false] at hp
   rcases hp with rfl | rfl
   ·intro h
    rcases List.mem_append.1 h with h | h
    ·simp [sealW] at h
    ·have := sep_byte _ h; omega
   ·simp
end AE.Tryz

/- Clerk: comparisons of lines. -/
namespace AE.Tryz
open Go AE Go.Proofs AE.Clerk
set_option maxRecDepth 100000
set_option linter.unusedVariables false

theorem PartOf.one {P : Program} {e : TypeId} {cs : List Value} {off : Nat} {v : Value} (h1 : isAggT P e = some false) (h2 : cs[off]? = some v) : PartOf P e false cs off [v] := ⟨h1, by rw [if_neg (by simp)]; exact ⟨v, h2, rfl⟩⟩
theorem ln_eqc (x y : Ln) : EqC Tryz.prog 2 38 true x.cells y.cells (x.k == y.k && (x.m == y.m && (x.a == y.a && (x.b == y.b && true)))) := by
 refine EqC.struct (fs := ?fs) ?ht ?hs ?h
 case ht => exact Tryz.underlying38
 case hs => kernel_rfl
 refine EqFs.cons (agg := false) (x := [.int .i64 x.k]) (y := [.int .i64 y.k]) (by decide) (PartOf.one rfl rfl) (PartOf.one rfl rfl) (EqC.int rfl) ?_
 refine EqFs.cons (agg := false) (x := [.int .i64 x.m]) (y := [.int .i64 y.m]) (by decide) (PartOf.one rfl rfl) (PartOf.one rfl rfl) (EqC.int rfl) ?_
 refine EqFs.cons (agg := false) (x := [.int .i64 x.a]) (y := [.int .i64 y.a]) (by decide) (PartOf.one rfl rfl) (PartOf.one rfl rfl) (EqC.int rfl) ?_
 exact EqFs.cons (agg := false) (x := [.int .i64 x.b]) (y := [.int .i64 y.b]) (by decide) (PartOf.one rfl rfl) (PartOf.one rfl rfl) (EqC.int rfl) EqFs.nil
theorem ln_eq (x y : Ln) : pureRun Tryz.prog (Op.equalIn Op.maxDepth 38 (.agg ⟨x.cells⟩) (.agg ⟨y.cells⟩)) = some (decide (x = y)) := by
 have := (ln_eqc x y).run 2 Op.maxDepth (by decide)
 have e : (x.k == y.k && (x.m == y.m && (x.a == y.a && (x.b == y.b && true)))) = decide (x = y) := by
  obtain ⟨k, m, a, b⟩ := x
  obtain ⟨k', m', a', b'⟩ := y
  rw [Bool.eq_iff_iff]
  simp
 rw [e] at this
 simpa [asVal] using this
theorem q_lneq {lo nid : Nat} {ts : Ts} {h : H} {k : Value → H → Prop} {o : Oper} {x y : Operand} {c : TypeId} {a b : Ln} (ho : o.op = .binOp .eql 38 x y c) (hx : evR ts x = .agg ⟨a.cells⟩) (hy : evR ts y = .agg ⟨b.cells⟩) (hk : k (.bool (decide (a = b))) h) : OpE Tryz.prog lo nid ts h (.pure o) k :=
 OpE.pure _ (xPure_eql ho hx hy rfl rfl (by kernel_rfl) (ln_eq a b)) hk
end AE.Tryz
