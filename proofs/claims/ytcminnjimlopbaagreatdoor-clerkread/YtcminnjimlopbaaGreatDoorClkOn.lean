/- Clerk: lines that are refused may be left out; in plain words. -/
import Derived.Test.YtcminnjimlopbaaGreatDoorJoin35
set_option linter.unusedVariables false
set_option linter.unusedSimpArgs false
set_option linter.unusedSectionVars false
namespace AE.Tryz
open Go AE Go.Proofs AE.Clerk
set_option maxRecDepth 100000
set_option linter.unusedVariables false

theorem act_refused {x : Ln} {t : Nat} {s : St} {i : Nat} {m : Mdl} (h : (act x t s i m).2 ≠ 0) : (act x t s i m).1 = s := by
 revert h
 unfold act
 repeat' split
 all_goals first | exact fun _ => rfl | exact fun h => absurd rfl h
theorem step_refused {x : Ln} {t : Nat} {s : St} (h : (Clerk.step x t s).2 ≠ 0) : (Clerk.step x t s).1 = s := by
 revert h
 unfold Clerk.step
 split
 ·exact fun h => absurd rfl h
 split
 ·split
  ·exact fun h => absurd rfl h
  ·exact fun _ => rfl
 split
 ·exact fun _ => rfl
 split
 ·exact fun _ => rfl
 ·exact act_refused
theorem after_refused {f : Nat → Ln} {n : Nat} (h : errAt f n ≠ 0) : after f (n + 1) = after f n := step_refused h
def keyR (r : Rn) : Int × Int × Bool := (r.no, r.cost, r.back)
structure StE (s s' : St) : Prop where
 stock : s.stock = s'.stock
 lost : s.lost = s'.lost
 ms : s.ms = s'.ms
 rs : s.rs.map keyR = s'.rs.map keyR
def billK (n a : Int) (p : Int × Int × Bool) : Int × Int × Bool := if p.1 = n ∧ p.2.1 = 0 then (p.1, a, p.2.2) else p
theorem billR_key (n a : Int) (rs : List Rn) : (rs.map (billR n a)).map keyR = (rs.map keyR).map (billK n a) := by
 rw [List.map_map, List.map_map]
 refine List.map_congr_left fun r _ => ?_
 show keyR (billR n a r) = billK n a (keyR r)
 by_cases h : r.no = n ∧ r.cost = 0
 ·rw [show billR n a r = { r with cost := a } from if_pos h, show billK n a (keyR r) = (r.no, a, r.back) from if_pos h]; rfl
 ·rw [show billR n a r = r from if_neg h, show billK n a (keyR r) = keyR r from if_neg h]
theorem act_rel2 {x : Ln} {t u : Nat} {s s' : St} (k : StE s s') {i : Nat} {m : Mdl} (h7 : x.k = 2 ∨ x.k = 3 ∨ x.k = 4 ∨ x.k = 5 ∨ x.k = 6) : StE (act x t s i m).1 (act x u s' i m).1 ∧ (act x t s i m).2 = (act x u s' i m).2 := by
 obtain ⟨k1, k2, k3, k4⟩ := k
 have kk : StE s s' := ⟨k1, k2, k3, k4⟩
 unfold act
 rw [← k1, ← k2, ← k3]
 by_cases c2 : x.k = 2
 ·rw [if_pos c2, if_pos c2]
  split
  ·exact ⟨kk, rfl⟩
  split
  ·exact ⟨kk, rfl⟩
  ·exact ⟨⟨rfl, rfl, rfl, k4⟩, rfl⟩
 rw [if_neg c2, if_neg c2]
 by_cases c3 : x.k = 3
 ·rw [if_pos c3, if_pos c3]
  split
  ·exact ⟨kk, rfl⟩
  ·exact ⟨⟨rfl, rfl, rfl, by dsimp only; rw [List.map_append, List.map_append, k4]; rfl⟩, rfl⟩
 rw [if_neg c3, if_neg c3]
 by_cases c4 : x.k = 4
 ·rw [if_pos c4, if_pos c4]
  split
  ·exact ⟨kk, rfl⟩
  ·exact ⟨⟨rfl, rfl, rfl, k4⟩, rfl⟩
 rw [if_neg c4, if_neg c4]
 by_cases c5 : x.k = 5
 ·rw [if_pos c5, if_pos c5]
  split
  ·exact ⟨kk, rfl⟩
  ·exact ⟨⟨rfl, rfl, rfl, by dsimp only; rw [billR_key, billR_key, k4]⟩, rfl⟩
 rw [if_neg c5, if_neg c5]
 have c6 : x.k = 6 := by omega
 rw [if_pos c6, if_pos c6]
 split
 ·exact ⟨kk, rfl⟩
 ·exact ⟨⟨rfl, rfl, rfl, k4⟩, rfl⟩
theorem step_rel2 {x : Ln} {t u : Nat} {s s' : St} (k : StE s s') (hv : x.Valid 1099511627776) (h7 : x.k ≠ 7) : StE (Clerk.step x t s).1 (Clerk.step x u s').1 ∧ (Clerk.step x t s).2 = (Clerk.step x u s').2 := by
 have hkd := kind_bd hv
 obtain ⟨k1, k2, k3, k4⟩ := k
 have kk : StE s s' := ⟨k1, k2, k3, k4⟩
 have hf : s'.find x.m = s.find x.m := by unfold St.find; rw [k3]
 unfold Clerk.step
 rw [hf, ← k3, ← k1, ← k2]
 by_cases c0 : x.k = 0
 ·rw [if_pos c0, if_pos c0]
  exact ⟨⟨rfl, rfl, rfl, k4⟩, rfl⟩
 rw [if_neg c0, if_neg c0]
 split
 ·split
  ·exact ⟨⟨rfl, rfl, rfl, k4⟩, rfl⟩
  ·exact ⟨kk, rfl⟩
 split
 ·exact ⟨kk, rfl⟩
 split
 ·exact ⟨kk, rfl⟩
 ·exact act_rel2 kk byO
def goods (f : Nat → Ln) : Nat → List Ln
 | 0 => []
 | n + 1 => if errAt f n = 0 then goods f n ++ [f n] else goods f n
def gF (G : List Ln) (i : Nat) : Ln := G.getD i ⟨0, 0, 0, 0⟩
theorem gF_app {G : List Ln} {x : Ln} {i : Nat} (h : i < G.length) : gF (G ++ [x]) i = gF G i := by
 simp only [gF, List.getD_eq_getElem?_getD]
 rw [List.getElem?_append_left h]
theorem gF_last {G : List Ln} {x : Ln} : gF (G ++ [x]) G.length = x := by
 simp [gF, List.getD_eq_getElem?_getD]
theorem goods_len (f : Nat → Ln) : ∀ n, (goods f n).length ≤ n
 | 0 => Nat.le_refl _
 | n + 1 => by
   have := goods_len f n
   unfold goods
   split
   ·simp; omega
   ·omega
theorem goods_mem {f : Nat → Ln} : ∀ {n : Nat} {x : Ln}, x ∈ goods f n → ∃ i, i < n ∧ x = f i
 | 0, x, h => by simp [goods] at h
 | n + 1, x, h => by
   unfold goods at h
   split at h
   ·rcases List.mem_append.1 h with h | h
    ·obtain ⟨i, hi, e⟩ := goods_mem h
     exact ⟨i, by omega, e⟩
    ·exact ⟨n, by omega, by simpa using h⟩
   ·obtain ⟨i, hi, e⟩ := goods_mem h
    exact ⟨i, by omega, e⟩
theorem goods_good {f : Nat → Ln} {n : Nat} (h : ∀ i, i < n → (f i).Valid 1099511627776) : ∀ i, i < (goods f n).length → (gF (goods f n) i).Valid 1099511627776 := fun i hi => by
 have hm : gF (goods f n) i ∈ goods f n := by
  simp only [gF, List.getD_eq_getElem?_getD, List.getElem?_eq_getElem hi, Option.getD_some]
  exact List.getElem_mem hi
 obtain ⟨j, hj, e⟩ := goods_mem hm
 rw [e]
 exact h j hj
theorem goods_rel {f : Nat → Ln} : ∀ {n : Nat}, (∀ i, i < n → (f i).Valid 1099511627776) → (∀ i, i < n → (f i).k ≠ 7) → StE (after (gF (goods f n)) (goods f n).length) (after f n) ∧ ∀ i, i < (goods f n).length → errAt (gF (goods f n)) i = 0
 | 0, _, _ => ⟨⟨rfl, rfl, rfl, rfl⟩, fun i hi => by simp [goods] at hi⟩
 | n + 1, hv, h7 => by
   obtain ⟨ih1, ih2⟩ := goods_rel (n := n) (fun i hi => hv i byO) (fun i hi => h7 i byO)
   by_cases he : errAt f n = 0
   ·have eg : goods f (n + 1) = goods f n ++ [f n] := by conv => lhs; unfold goods; rw [if_pos he]
    rw [eg]
    have hl : (goods f n ++ [f n]).length = (goods f n).length + 1 := by simp
    rw [hl]
    have ec : after (gF (goods f n ++ [f n])) (goods f n).length = after (gF (goods f n)) (goods f n).length := after_congr fun i hi => gF_app hi
    obtain ⟨s1, s2⟩ := step_rel2 (t := (goods f n).length) (u := n) ih1 (hv n byO) (h7 n byO)
    refine ⟨?_, fun i hi => ?_⟩
    ·simp only [after]
     rw [ec, gF_last]
     exact s1
    ·rcases Nat.lt_or_ge i (goods f n).length with h | h
     ·rw [errAt_congr (g := gF (goods f n)) fun j hj => gF_app byO]
      exact ih2 i h
     ·obtain rfl : i = (goods f n).length := by omega
      unfold errAt
      rw [ec, gF_last, s2]
      exact he
   ·have eg : goods f (n + 1) = goods f n := by conv => lhs; unfold goods; rw [if_neg he]
    rw [eg, after_refused he]
    exact ⟨ih1, ih2⟩
end AE.Tryz
