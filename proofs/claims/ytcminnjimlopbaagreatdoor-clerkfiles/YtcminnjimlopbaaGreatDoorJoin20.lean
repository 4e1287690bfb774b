/- Walks and plain laws: ClkKeys2, ClkKeys3. -/
import Derived.Test.YtcminnjimlopbaaGreatDoorJoin24
import Derived.Test.YtcminnjimlopbaaGreatDoorJoin36
set_option linter.unusedVariables false
set_option linter.unusedSimpArgs false
set_option linter.unusedSectionVars false

/- Clerk: the keys of a map, sorted, as a call of the evaluator. -/
namespace Go.Proofs
open Go.RowKit Go.Maps Go.Sort Go.Shelf
set_option maxRecDepth 100000
theorem Tryz.keyOf2 {k : Int} (h : -9223372036854775808 ≤ k ∧ k ≤ 9223372036854775807) : keyOf Tryz.prog 2 (.int .i64 k) = some (Lit.int .i64 k) := by
 have hw : (Lit.int .i64 k).wf = true := by
  show (decide (IntKind.i64.min ≤ k) && decide (k ≤ IntKind.i64.max)) = true
  have e1 : IntKind.i64.min = -9223372036854775808 := by decide
  have e2 : IntKind.i64.max = 9223372036854775807 := by decide
  rw [e1, e2]
  simp only [Bool.and_eq_true, decide_eq_true_eq]
  exact h
 unfold keyOf
 rw [Tryz.underlying2]
 simp only
 unfold mapKey
 rw [Tryz.underlying2]
 simp [hw]
theorem Tryz.rd2 {x : MapEntry} {k : Int} (hx : x.key = .int .i64 k) (h : -9223372036854775808 ≤ k ∧ k ≤ 9223372036854775807) : WideElems.rd Tryz.prog 2 anyR x = some (Lit.int .i64 k, DataW.nil) := by
 unfold WideElems.rd
 rw [hx, Tryz.keyOf2 h]
 rfl
theorem Tryz.sortedK (w : World) (bm b clock : Nat) (es : Array MapEntry) (ks : List Int) (hbm : bm < w.heap.size) (hcell : w.cell? ⟨bm, 0, none⟩ = some (.map (some b))) (hb : w.heap[b]? = some (.map es clock)) (hks : es.toList.map (·.key) = ks.map (Value.int .i64)) (hn : ks.Nodup) (hbd : ∀ k ∈ ks, -9223372036854775808 ≤ k ∧ k ≤ 9223372036854775807)
 (hb1 : ∀ x ∈ es.toList, x.born < clock) (hb2 : (es.toList.map (·.born)).Nodup) (hl : ks.length ≤ 1000) :
 Calls Tryz.prog 75 #[.func (.func 107) #[] #[.pointer (some ⟨bm, 0, none⟩)]] w fun e w' => ∃ (v : Value), e = .returned v ∧
  w'.ownsRow w.heap.size 2 1 v ks.length ((ks.mergeSort (fun x y => decide (x ≤ y))).map encZ) ∧ (v = .slice none 0 0 ↔ ks = []) ∧ Below w.heap.size w w' := by
 have hlen : es.size = ks.length := by
  have := congrArg List.length hks
  simpa using this
 have hread : ∀ x ∈ es.toList, ∃ k, k ∈ ks ∧ x.key = .int .i64 k ∧ WideElems.rd Tryz.prog 2 anyR x = some (Lit.int .i64 k, DataW.nil) := fun x hx => by
  have : x.key ∈ ks.map (Value.int .i64) := by rw [← hks]; exact List.mem_map_of_mem hx
  obtain ⟨k, hk, e⟩ := List.mem_map.1 this
  exact ⟨k, hk, e.symm, Tryz.rd2 e.symm (hbd k hk)⟩
 have hrg : es.toList.map (fun x => Go.intOf (WideElems.rg Tryz.prog 2 anyR x).1) = ks := by
  have e1 : es.toList.map (fun x => Go.intOf (WideElems.rg Tryz.prog 2 anyR x).1) = (es.toList.map (·.key)).map (fun v => match v with | .int _ k => k | _ => 0) := by
   rw [List.map_map]
   refine List.map_congr_left fun x hx => ?_
   obtain ⟨k, -, e, hr⟩ := hread x hx
   unfold WideElems.rg
   rw [hr]
   simp [Go.intOf, e]
  rw [e1, hks, List.map_map]
  conv => rhs; rw [← List.map_id ks]
  rfl
 have hmx : (1000 : Nat) ≤ maxLen := by unfold maxLen; exact Nat.le_of_ble_eq_true rfl
 have hknd : (es.toList.map (·.key)).Nodup := by
  rw [hks]
  exact List.Pairwise.map _ (fun a b h e => h (by simpa using e)) hn
 have hown : w.ownsMap Tryz.prog 2 anyR b es.size (.map ((es.toList.map (WideElems.rg Tryz.prog 2 anyR)).foldr DataW.insert [])) :=
  ⟨es, clock, hb, ⟨by rw [hlen]; omega, ⟨hb1, hb2, hknd⟩, fun x hx => by obtain ⟨k, -, -, hr⟩ := hread x hx; exact ⟨_, hr⟩⟩, Nat.le_refl _, rfl⟩
 have hperm := WideShapes.sorted_perm (es.toList.map (WideElems.rg Tryz.prog 2 anyR))
 have hkeys : (intKeys (DataW.map ((es.toList.map (WideElems.rg Tryz.prog 2 anyR)).foldr DataW.insert []))).Perm ks := by
  unfold intKeys
  have := hperm.map (fun p => Go.intOf p.1)
  rw [List.map_map] at this
  exact this.trans (List.Perm.of_eq hrg)
 have hsize : Maps.size (DataW.map ((es.toList.map (WideElems.rg Tryz.prog 2 anyR)).foldr DataW.insert [])) = ks.length := by
  rw [Maps.size_eq, hperm.length_eq, List.length_map]
  simpa using hlen
 refine (Tryz.sortedD w bm b es.size _ hbm hcell hown (by rw [hsize]; omega) (by rw [hsize]; omega)).mono ?_
 rintro e w' ⟨v, ss, rfl, hp, hrow, hnil, hbel⟩
 have hp2 := hp.trans hkeys
 have hl2 := hp2.length_eq
 rw [hl2, mergeSort_of_perm_i hp2] at hrow
 refine ⟨v, rfl, hrow, hnil.trans ⟨fun h => ?_, fun h => ?_⟩, hbel⟩
 ·subst h; simpa using hl2.symm
 ·subst h; simpa using hl2
end Go.Proofs

/- Clerk: the keys of a map, sorted, by the evaluator. -/
namespace AE.Tryz
open Go AE Go.Proofs AE.Clerk Go.RowKit
set_option maxRecDepth 100000
set_option linter.unusedVariables false

theorem renE_key {I : Inj} (l : List (EG Int)) : ((l.map (EG.ent fun k : Int => Value.int .i64 k)).map (renE I)).map (·.key) = (l.map EG.k).map (Value.int .i64) := by
 rw [List.map_map, List.map_map, List.map_map]
 refine List.map_congr_left fun e he => ?_
 simp [renE, EG.ent, ren]
theorem renE_born {I : Inj} (l : List (EG Int)) : ((l.map (EG.ent fun k : Int => Value.int .i64 k)).map (renE I)).map (·.born) = l.map EG.b := by
 rw [List.map_map, List.map_map]
 rfl
def sortK (ks : List Int) : List Int := ks.mergeSort (fun x y => decide (x ≤ y))
theorem sorted_call {h : H} {bx r n : Nat} {es : List (EG Int)} (hbx : h.get bx = some (.cells [.map (some r)] 77)) (hr : h.get r = some (.map (es.map (EG.ent fun k : Int => Value.int .i64 k)) n)) (hn : (es.map EG.k).Nodup) (hb1 : ∀ e ∈ es, e.b < n) (hb2 : (es.map EG.b).Nodup) (hbd : ∀ e ∈ es, -9223372036854775808 ≤ e.k ∧ e.k ≤ 9223372036854775807) (hl : es.length ≤ 1000)
 {I : Inj} {w : World} (k : Rel I h w) (ia : InL I [.func (.func 107) ⟨[]⟩ ⟨[.pointer (some ⟨bx, 0, none⟩)]⟩]) :
 Calls Tryz.prog 75 ⟨renL I [.func (.func 107) ⟨[]⟩ ⟨[.pointer (some ⟨bx, 0, none⟩)]⟩]⟩ w fun e w' => ∃ (v : Value), e = .returned v ∧
  w'.ownsRow w.heap.size 2 1 v (es.map EG.k).length ((sortK (es.map EG.k)).map (Value.int .i64)) ∧ (v = .slice none 0 0 ↔ es.map EG.k = []) ∧ Below w.heap.size w w' := by
 simp only [InL, In, InA] at ia
 obtain ⟨⟨-, -, ⟨p, hp⟩, -⟩, -⟩ := ia
 obtain ⟨ic, B, e1, e2, e3⟩ := k.rows bx _ hbx ⟨_, _, hp⟩
 have hpe : p = (B, 0) := by
  rw [e1] at hp
  exact (Option.some.inj hp).symm
 subst hpe
 simp only [InL, In, InR] at ic
 obtain ⟨⟨c, hc⟩, -⟩ := ic
 obtain ⟨-, M, f1, f2, f3⟩ := k.rows r _ hr ⟨_, _, hc⟩
 have hM : c = M := by
  rw [f1] at hc
  simp at hc
  exact hc.symm
 subst hM
 have ea : (⟨renL I [.func (.func 107) ⟨[]⟩ ⟨[.pointer (some ⟨bx, 0, none⟩)]⟩]⟩ : Array Value) = #[.func (.func 107) #[] #[.pointer (some ⟨B, 0, none⟩)]] := by
  simp [renL, ren, renFn, renA, e1]
 rw [ea]
 have hcell : w.cell? ⟨B, 0, none⟩ = some (.map (some c)) := by
  simp [World.cell?, e3, renL, ren, Inj.blk, f1]
 refine (Tryz.sortedK w B c n _ (es.map EG.k) (lt_of_heap e3) hcell f3 (by simpa using renE_key es) hn (fun z hz => ?_) (fun x hx => ?_) (by
  have := renE_born (I := I) es
  simp only [List.map_map] at this ⊢
  rw [this]; exact hb2) (by simpa using hl)).mono fun e w' h => h
 ·obtain ⟨e, he, rfl⟩ := List.mem_map.1 hz
  exact hbd e he
 ·simp only [List.mem_map] at hx
  obtain ⟨y, ⟨e, he, rfl⟩, rfl⟩ := hx
  exact hb1 e he
end AE.Tryz
namespace AE.Tryz
open Go AE Go.Proofs AE.Clerk Go.RowKit
set_option maxRecDepth 100000
set_option linter.unusedVariables false
theorem sortK_len (ks : List Int) : (sortK ks).length = ks.length := List.length_mergeSort ..
theorem flat_intL (l : List Int) : flatL (l.map (Value.int .i64)) = true := by
 induction l with
 | nil => rfl
 | cons x l ih => simp [flatL, flat, ih]
theorem sorted_w {h : H} {bx r n : Nat} {es : List (EG Int)} (hbx : h.get bx = some (.cells [.map (some r)] 77)) (hr : h.get r = some (.map (es.map (EG.ent fun k : Int => Value.int .i64 k)) n)) (hn : (es.map EG.k).Nodup) (hb1 : ∀ e ∈ es, e.b < n) (hb2 : (es.map EG.b).Nodup) (hbd : ∀ e ∈ es, -9223372036854775808 ≤ e.k ∧ e.k ≤ 9223372036854775807) (hl : es.length ≤ 1000) :
 AW Tryz.prog 75 h.next h [.func (.func 107) ⟨[]⟩ ⟨[.pointer (some ⟨bx, 0, none⟩)]⟩] (fun v h' => ∃ b, v = .slice b es.length 0 ∧ GG h.next h' 2 1 es.length ((sortK (es.map EG.k)).map (Value.int .i64)) b ∧ h.next ≤ h'.next ∧ (0 < es.length → h.next < h'.next)) := by
 have hlen : (es.map EG.k).length = es.length := List.length_map ..
 rcases Nat.eq_zero_or_pos es.length with h0 | h0
 ·have he : es = [] := List.length_eq_zero_iff.1 h0
  subst he
  refine ⟨_, _, ⟨none, rfl, .inl ⟨rfl, rfl, by simp [sortK]⟩, Nat.le_refl _, fun h => absurd h (Nat.lt_irrefl 0)⟩, AF.of_below (enters_of Tryz.func75 (by kernel_rfl) rfl) rfl fun I w k i => ?_⟩
  refine (sorted_call hbx hr hn hb1 hb2 hbd hl k i).mono ?_
  rintro e w' ⟨v, rfl, -, hnil, hb⟩
  exact ⟨by rw [hnil.2 rfl]; rfl, hb⟩
 ·have hcl : ((sortK (es.map EG.k)).map (Value.int .i64)).length = es.length := by rw [List.length_map, sortK_len, hlen]
  have af : AF Tryz.prog 75 h.next h [.func (.func 107) ⟨[]⟩ ⟨[.pointer (some ⟨bx, 0, none⟩)]⟩] (.slice (some ⟨h.next, 0, some 0⟩) ((sortK (es.map EG.k)).map (Value.int .i64)).length 0) ((h.bump 1).put h.next (.grow ((sortK (es.map EG.k)).map (Value.int .i64)) 2 1 [((sortK (es.map EG.k)).map (Value.int .i64)).length] 0)) := by
   refine AF.of_belowGrow (enters_of Tryz.func75 (by kernel_rfl) rfl) (flat_intL _) (Nat.le_refl _) fun I w k i => ?_
   refine (sorted_call hbx hr hn hb1 hb2 hbd hl k i).mono ?_
   rintro e w' ⟨v, rfl, ⟨hxl, hrow⟩, hnil, hb⟩
   rcases hrow with ⟨rfl, h1⟩ | ⟨g, cap, cur, rfl, h1, h2, h3, h4, h5, h6⟩
   ·have := hnil.1 rfl
    rw [this] at hlen
    simp at hlen
    omega
   ·rw [Nat.mul_one] at h5 h6 hxl
    refine ⟨g, cur, cap, h1, h2, h5, by rw [hxl]; exact h3, fun i hi => ?_, hb, by rw [hxl]⟩
    rw [← h6, List.getElem?_take, if_pos (by rw [hxl] at hi; exact hi)]
    simp
  rw [hcl] at af
  refine ⟨_, _, ⟨_, rfl, .inr ⟨h0, hcl.trans (Nat.mul_one _).symm, 0, [es.length], 0, rfl, by simp [H.put], Nat.le_refl _, rfl, by simp [glen, hcl], h0⟩, by simp [H.put, H.bump], fun _ => by simp [H.put, H.bump]⟩, af⟩
end AE.Tryz
