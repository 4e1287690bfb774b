/- Clerk: strings.Join of at least two strings, in the world. After the shelf's walk. -/
import Derived.Test.YtcminnjimlopbaaGreatDoorJoin25
import Derived.Lib.Join
import Derived.BigCall
import Derived.BigGuard
set_option linter.unusedVariables false
set_option linter.unusedSimpArgs false
set_option linter.unusedSectionVars false
set_option linter.unusedVariables false
namespace Go.Proofs
open Go Go.Shelf Go.RowKit

set_option maxHeartbeats 4000000 in
set_option maxRecDepth 100000 in
theorem Tryz.strings_Join_many (bk o c : Nat) (xs : List ByteArray) (sep : ByteArray) (w : World)
 (hcells : ∀ (j : Nat) x, xs[j]? = some x → w.cell? ⟨bk, o + j, none⟩ = some (.string x))
 (hbk : bk < w.heap.size) (h2 : 2 ≤ xs.length) (hN : xs.length ≤ 140737488355328) (hcap : xs.length ≤ c)
 (hlen : (Lib.join (xs.map (·.data.toList)) sep.data.toList).length ≤ 140737488355328) :
 Calls Tryz.prog 64 #[.slice (some ⟨bk, o, none⟩) xs.length c, .string sep] w fun e w' => e = .returned (.string ⟨(Lib.join (xs.map (·.data.toList)) sep.data.toList).toArray⟩) ∧ Below w.heap.size w w' := by
 have HC := hid hcells
 clear hcells
 obtain ⟨x0, r, hxs⟩ : ∃ x0 r, xs = x0 :: r := by
  cases xs with
  | nil => simp at h2
  | cons a t => exact ⟨a, t, rfl⟩
 have hjl : sep.size * (xs.length - 1) + Lib.lens (xs.map (·.data.toList)) ≤ 140737488355328 := by
  have := Lib.join_length x0.data.toList (r.map (·.data.toList)) sep.data.toList
  rw [hxs] at hlen ⊢
  simp only [List.map_cons] at hlen ⊢
  rw [this, List.length_map] at hlen
  rw [Lib.size_eq, List.length_cons, Nat.add_sub_cancel]
  exact hlen
 have hmul : sep.size * (xs.length - 1) ≤ 140737488355328 := by omega
 generalize hM : sep.size * (xs.length - 1) = M at hjl hmul
 have hcast : ((xs.length : Int) - 1) = ((xs.length - 1 : Nat) : Int) := by omega
 have hlt : sep.size < 9223372036854775807 / (xs.length - 1) := by
  have : sep.size + 1 ≤ 9223372036854775807 / (xs.length - 1) := by
   rw [Nat.le_div_iff_mul_le (by omega), Nat.add_mul, hM]
   omega
  omega
 have hdv : ¬ (9223372036854775807 / ((xs.length : Int) - 1) ≤ (sep.size : Int)) := by
  have e : (9223372036854775807 : Int) / ((xs.length - 1 : Nat) : Int) = ((9223372036854775807 / (xs.length - 1) : Nat) : Int) := IntWalk.up_div (x := 9223372036854775807) rfl rfl
  rw [hcast, e]
  generalize 9223372036854775807 / (xs.length - 1) = q at hlt
  omega
 have hprod : wrap64 ((sep.size : Int) * ((xs.length : Int) - 1)) = (M : Int) := by
  have e : (sep.size : Int) * ((xs.length - 1 : Nat) : Int) = ((sep.size * (xs.length - 1) : Nat) : Int) := IntWalk.up_mul rfl rfl
  rw [hcast, e, hM]
  exact IntWalk.wrap64_in _ ⟨by omega, by omega⟩
 have hM0 : sep.size = 0 → M = 0 := fun h => by rw [← hM, h, Nat.zero_mul]
 clear hlt hcast
 have hne0 : ((xs.length : Int) == 0) = false := beq_eq_false_iff_ne.2 (by omega)
 have hne1 : ((xs.length : Int) == 1) = false := beq_eq_false_iff_ne.2 (by omega)
 have Hxs := hid hxs
 have Hlen := hid hlen
 clear hxs hlen
 have e108 : ∀ args w, (callFunc 108 args).run Tryz.prog w = .ok (.enter 108 args) w := enters_of Tryz.func108 (by kernel_rfl) rfl
 go_enter Tryz.func64, Tryz.ntmps64
 go_wp2_with fail
 all_goals (
  go_loop [5, 41] (fun n i => ∃ k : Nat, k ≤ xs.length ∧ i = .int .i64 k ∧ n = .int .i64 ((M + Lib.lens ((xs.map (·.data.toList)).take k) : Nat) : Int)) (fun _ i => xs.length - (intOf i).toNat)
  case atStart => exact ⟨0, Nat.zero_le _, rfl, by first | (simp [Lib.lens]; done) | (have := hM0 (by omega); simp [Lib.lens, this])⟩
  case round =>
   obtain ⟨k, hk, rfl, rfl⟩ := hrel
   by_cases hkn : k < xs.length
   ·obtain ⟨x, hx⟩ : ∃ x, xs[k]? = some x := ⟨xs[k], List.getElem?_eq_getElem hkn⟩
    have hc := HC.out k x hx
    have hstep := Lib.lens_take_succ (xs.map (·.data.toList)) k x.data.toList (by simp [hx])
    have hbound : Lib.lens ((xs.map (·.data.toList)).take (k + 1)) ≤ Lib.lens (xs.map (·.data.toList)) := Lib.lens_take_le _ _
    rw [← Lib.size_eq] at hstep
    generalize hA1 : Lib.lens ((xs.map (·.data.toList)).take (k + 1)) = A1 at hstep hbound
    generalize Lib.lens ((xs.map (·.data.toList)).take k) = A0 at hstep
    have HA1 := hid hA1
    clear hA1
    go_wp2
    exact ⟨⟨k + 1, by omega, by go_num, by rw [HA1.out]; refine congrArg _ ?_; omega⟩, by simp [intOf]; omega⟩
   ·have hke : k = xs.length := by omega
    subst hke
    have hall : (xs.map (·.data.toList)).take xs.length = xs.map (·.data.toList) := List.take_of_length_le (by simp)
    rw [hall]
    generalize hT : Lib.lens (xs.map (·.data.toList)) = T at hjl
    have HT := hid hT
    clear hT hall
    go_wp2_with fail
    have hMT : ((M : Int) + (T : Int)) = ((M + T : Nat) : Int) := by omega
    rw [hMT]
    refine (Tryz.Builder_Grow_fresh w.heap.size w.heap.size (M + T) _ (Nat.le_refl _) (heap_alloc_new w _) (by simp) (by omega)).mono ?_
    rintro e w1 ⟨rfl, h1, hb1⟩
    have hb1' : Below w.heap.size w w1 := ((Below.refl w.heap.size w).alloc (Nat.le_refl _) _).trans hb1
    have hx0 : xs[0]? = some x0 := by rw [Hxs.out]; rfl
    have hc0 : w1.cell? ⟨bk, o, none⟩ = some (.string x0) := by
     rw [hb1'.cell (p := ⟨bk, o, none⟩) hbk]
     exact HC.out 0 x0 hx0
    have H1 := hid (Or.inr h1 : Lib.IsBuilder 147 5 w.heap.size w.heap.size [] w1)
    have Hb1 := hid hb1'
    have hBw1 : w.heap.size ≤ w1.heap.size := hb1'.size
    clear h1 hb1 hb1' hMT
    have hwhole : Lib.join (xs.map (·.data.toList)) sep.data.toList = x0.data.toList ++ Lib.joinTail sep.data.toList (r.map (·.data.toList)) := by
     rw [Hxs.out, List.map_cons, Lib.join_cons]
    have hCle : ∀ k, (x0.data.toList ++ Lib.joinTail sep.data.toList ((r.map (·.data.toList)).take k)).length ≤ 140737488355328 := fun k => by
     have h1 := Hlen.out
     rw [hwhole, List.length_append] at h1
     have h2 := Lib.joinTail_take_le sep.data.toList (r.map (·.data.toList)) k
     rw [List.length_append]
     omega
    have HCle := hid hCle
    have Hwhole := hid hwhole
    clear hCle hwhole
    go_wp2_with fail
    refine (Tryz.Builder_WriteString w.heap.size w.heap.size [] x0 w1 H1.out (by have := HCle.out 0; simp [Lib.joinTail] at this ⊢; omega) hBw1).mono ?_
    rintro e w2 ⟨rfl, h2', hb2⟩
    have hstart : ([] : List Value) ++ Lib.strCells x0 = Lib.byteCells (x0.data.toList ++ Lib.joinTail sep.data.toList ((r.map (·.data.toList)).take 0)) := by
     simp [Lib.joinTail, Lib.strCells_eq]
    rw [hstart] at h2'
    have H2 := hid (Or.inr h2' : Lib.IsBuilder 147 5 w.heap.size w.heap.size _ w2)
    have Hb2 := hid (Hb1.out.trans hb2)
    clear h2' hb2 hstart
    have hrl : r.length = xs.length - 1 := by rw [Hxs.out]; simp
    go_wp2_with fail
    go_loopw [65] (fun i wr => ∃ k : Nat, k ≤ r.length ∧ i = .int .i64 k ∧ Hid (Lib.IsBuilder 147 5 w.heap.size w.heap.size (Lib.byteCells (x0.data.toList ++ Lib.joinTail sep.data.toList ((r.map (·.data.toList)).take k))) wr) ∧ Hid (Below w.heap.size w wr)) (fun i _ => r.length - (intOf i).toNat)
    case atStart => exact ⟨0, Nat.zero_le _, rfl, H2, Hb2⟩
    case round =>
     obtain ⟨k, hk', rfl, HB, HW⟩ := hrel
     by_cases hkr : k < r.length
     ·obtain ⟨y, hy⟩ : ∃ y, r[k]? = some y := ⟨r[k], List.getElem?_eq_getElem hkr⟩
      have hxy : xs[k + 1]? = some y := by rw [Hxs.out]; simpa using hy
      have hcy : wr.cell? ⟨bk, o + 1 + k, none⟩ = some (.string y) := by
       rw [HW.out.cell (p := ⟨bk, o + 1 + k, none⟩) hbk, show o + 1 + k = o + (k + 1) by omega]
       exact HC.out (k + 1) y hxy
      have hBw : w.heap.size ≤ wr.heap.size := HW.out.size
      have hnext : Lib.byteCells (x0.data.toList ++ Lib.joinTail sep.data.toList ((r.map (·.data.toList)).take k)) ++ Lib.strCells sep ++ Lib.strCells y = Lib.byteCells (x0.data.toList ++ Lib.joinTail sep.data.toList ((r.map (·.data.toList)).take (k + 1))) := by
       rw [Lib.joinTail_take_succ sep.data.toList (r.map (·.data.toList)) k y.data.toList (by simp [hy]), Lib.strCells_eq, Lib.strCells_eq, ← Lib.byteCells_append, ← Lib.byteCells_append, List.append_assoc, List.append_assoc, List.append_assoc]
      have hl1 := HCle.out (k + 1)
      rw [Lib.joinTail_take_succ sep.data.toList (r.map (·.data.toList)) k y.data.toList (by simp [hy])] at hl1
      simp only [List.length_append, ← Lib.size_eq] at hl1
      have hl0 : (Lib.byteCells (x0.data.toList ++ Lib.joinTail sep.data.toList ((r.map (·.data.toList)).take k))).length = x0.size + (Lib.joinTail sep.data.toList ((r.map (·.data.toList)).take k)).length := by
       rw [Lib.byteCells_length, List.length_append, ← Lib.size_eq]
      generalize (Lib.joinTail sep.data.toList ((r.map (·.data.toList)).take k)).length = J at hl0 hl1
      have Hn := hid hnext
      clear hnext hy hxy
      go_wp2_with fail
      refine (Tryz.Builder_WriteString w.heap.size w.heap.size _ sep wr HB.out (by rw [hl0]; omega) hBw).mono ?_
      rintro e w3 ⟨rfl, h3, hb3⟩
      have hBw3 : w.heap.size ≤ w3.heap.size := Nat.le_trans hBw hb3.size
      have H3 := hid h3
      have Hb3 := hid hb3
      clear h3 hb3
      go_wp2_with fail
      refine (Tryz.Builder_WriteString w.heap.size w.heap.size _ y w3 (Or.inr H3.out) (by rw [List.length_append, hl0, Lib.strCells_length]; omega) hBw3).mono ?_
      rintro e w4 ⟨rfl, h4, hb4⟩
      rw [Hn.out] at h4
      have H4 := hid (Or.inr h4 : Lib.IsBuilder 147 5 w.heap.size w.heap.size _ w4)
      have Hb4 := hid ((HW.out.trans Hb3.out).trans hb4)
      clear h4 hb4
      go_wp2
      exact ⟨⟨k + 1, by omega, by go_num, H4, Hb4⟩, by simp [intOf]; omega⟩
     ·have hke : k = r.length := by omega
      subst hke
      have hBw : w.heap.size ≤ wr.heap.size := HW.out.size
      have hfull : (r.map (·.data.toList)).take r.length = r.map (·.data.toList) := List.take_of_length_le (by simp)
      rw [hfull, ← Hwhole.out] at HB
      go_wp2_with fail
      refine (Tryz.Builder_String_any w.heap.size w.heap.size _ wr HB.out hBw).mono ?_
      rintro e w3 ⟨rfl, hb3⟩
      go_wp2
      go_ret
      exact ⟨rfl, HW.out.trans hb3⟩)
end Go.Proofs
