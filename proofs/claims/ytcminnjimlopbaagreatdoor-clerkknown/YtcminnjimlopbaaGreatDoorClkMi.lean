/- Clerk: what holds of how all stands, line by line. -/
import Derived.Test.YtcminnjimlopbaaGreatDoorJoin28
set_option linter.unusedVariables false
set_option linter.unusedSimpArgs false
set_option linter.unusedSectionVars false
namespace AE.Tryz
open Go AE Go.Proofs AE.Clerk
set_option maxRecDepth 100000
set_option linter.unusedVariables false

theorem St.Ok.set {t : Nat} {s : St} (ok : s.Ok t) {i : Nat} {m m' : Mdl} (hm : s.ms[i]? = some m) (hno : m'.no = m.no) (hok : m'.Ok ((t + 1 : Nat) : Int)) {st lo : Int} {rs : List Rn} (h1 : 0 ≤ st ∧ st ≤ 1000000 * ((t + 1 : Nat) : Int)) (h2 : 0 ≤ lo ∧ lo ≤ 1000001 * ((t + 1 : Nat) : Int))
    (h3 : ∀ r ∈ rs, r.at_ < t + 1 ∧ 0 ≤ r.cost ∧ r.cost ≤ 1000000 ∧ 1 ≤ r.no ∧ r.no ≤ 1099511627776) (h4 : (rs.map Rn.at_).Nodup) (h5 : rs.length ≤ t + 1) : St.Ok (t + 1) ⟨st, lo, s.ms.set i m', rs⟩ := by
  refine ⟨h1, h2, fun y hy => ?_, h3, ?_, h4, ?_, h5⟩
  · rcases List.mem_or_eq_of_mem_set hy with hy | rfl
    · exact (ok.ms y hy).mono (by omega)
    · exact hok
  · dsimp only
    rw [map_set_no hm hno]; exact ok.mn
  · dsimp only
    rw [List.length_set]; have := ok.ml; omega
theorem step_ok {t : Nat} {s : St} {x : Ln} (ok : s.Ok t) (ht : t ≤ 60) (hv : x.Valid 1099511627776) : (Clerk.step x t s).1.Ok (t + 1) := by
  have hd := valid_dis hv
  have hkd := kind_bd hv
  have o1 := ok.stock
  have o2 := ok.lost
  have o3 := ok.ml
  have o4 := ok.rl
  have mono := ok.mono (show t ≤ t + 1 by omega)
  unfold Clerk.step
  by_cases hk0 : x.k = 0
  · rw [if_pos hk0]
    have := hd.1 hk0
    exact ⟨by dsimp only; omega, mono.lost, mono.ms, mono.rs, mono.mn, mono.rn, mono.ml, mono.rl⟩
  rw [if_neg hk0]
  have hxm := hd.2.1 hk0
  cases hf : s.find x.m with
  | none =>
    dsimp only
    by_cases hk1 : x.k = 1
    · rw [if_pos hk1]
      have hb := hd.2.2.1 hk1
      have hmul : 0 ≤ x.a * x.b ∧ x.a * x.b ≤ 1000000000 := by
        have e1 := Int.mul_le_mul hb.2.1 hb.2.2.2 hb.2.2.1 (by omega)
        have e2 := Int.mul_nonneg (show 0 ≤ x.a by omega) hb.2.2.1
        omega
      refine ⟨mono.stock, mono.lost, fun y hy => ?_, mono.rs, ?_, mono.rn, ?_, mono.rl⟩
      · rcases List.mem_append.1 hy with hy | hy
        · exact mono.ms y hy
        · rw [List.mem_singleton] at hy
          subst hy
          unfold drawn
          exact ⟨by dsimp only; omega, by dsimp only; omega, by dsimp only; omega, by dsimp only; omega, by dsimp only; omega, by dsimp only; omega, by dsimp only; omega, by dsimp only; omega, by dsimp only; omega⟩
      · dsimp only
        rw [List.map_append, List.nodup_append]
        refine ⟨ok.mn, by simp, fun a ha b hb => ?_⟩
        simp [drawn] at hb
        subst hb
        rintro rfl
        obtain ⟨m, hm, e⟩ := List.mem_map.1 ha
        have := List.findIdx?_eq_none_iff.1 hf m hm
        simp [e] at this
      · dsimp only
        rw [List.length_append]; simp; omega
    · rw [if_neg hk1]; exact mono
  | some i =>
    obtain ⟨m, hm, hno⟩ := find_some hf
    dsimp only
    rw [hm]
    dsimp only
    by_cases hk1 : x.k = 1
    · rw [if_pos hk1]; exact mono
    rw [if_neg hk1]
    have mo := ok.ms m (List.mem_of_getElem? hm)
    obtain ⟨w1, w2, w3, w4, w5, w6, w7, w8, w9⟩ := mo
    unfold act
    by_cases hk2 : x.k = 2
    · rw [if_pos hk2]
      split
      · exact mono
      split
      · exact mono
      · dsimp only
        exact St.Ok.set ok hm (by rfl) (by exact ⟨w1, w2, by dsimp only; omega, by dsimp only; omega, by dsimp only; omega, by dsimp only; omega, by dsimp only; omega, by dsimp only; omega, w9⟩) (by omega) (by omega) mono.rs mono.rn mono.rl
    rw [if_neg hk2]
    by_cases hk3 : x.k = 3
    · rw [if_pos hk3]
      split
      · exact mono
      · dsimp only
        refine St.Ok.set ok hm (by rfl) (by exact ⟨w1, w2, w3, by dsimp only; omega, by dsimp only; omega, by dsimp only; omega, by dsimp only; omega, by dsimp only; omega, w9⟩) (by omega) (by omega) (fun r hr => ?_) ?_ (by rw [List.length_append]; simp; omega)
        · rcases List.mem_append.1 hr with hr | hr
          · exact mono.rs r hr
          · rw [List.mem_singleton] at hr
            subst hr
            dsimp only
            omega
        · rw [List.map_append, List.nodup_append]
          refine ⟨ok.rn, by simp, fun a ha b hb => ?_⟩
          simp at hb
          subst hb
          rintro rfl
          obtain ⟨r, hr, e⟩ := List.mem_map.1 ha
          have := (ok.rs r hr).1
          omega
    rw [if_neg hk3]
    by_cases hk4 : x.k = 4
    · rw [if_pos hk4]
      split
      · exact mono
      · dsimp only
        exact St.Ok.set ok hm (by rfl) (by exact ⟨w1, w2, by dsimp only; omega, by dsimp only; omega, by dsimp only; omega, by dsimp only; omega, by dsimp only; omega, by dsimp only; omega, w9⟩) (by omega) (by omega) mono.rs mono.rn mono.rl
    rw [if_neg hk4]
    by_cases hk5 : x.k = 5
    · rw [if_pos hk5]
      split
      · exact mono
      · have hb := hd.2.2.2.1 hk5
        have hmul : 0 ≤ m.opn * x.a ∧ m.opn * x.a ≤ 60000000 := by
          have e1 := Int.mul_le_mul (show m.opn ≤ 60 by omega) hb.2 (by omega) (by omega)
          have e2 := Int.mul_nonneg w4.1 (show 0 ≤ x.a by omega)
          omega
        dsimp only
        refine St.Ok.set ok hm (by rfl) (by exact ⟨w1, w2, w3, by dsimp only; omega, by dsimp only; omega, by dsimp only; omega, by dsimp only; omega, by dsimp only; omega, w9⟩) (by omega) (by omega) (fun r hr => ?_) ?_ (by rw [List.length_map]; omega)
        · obtain ⟨r', hr', rfl⟩ := List.mem_map.1 hr
          have := mono.rs r' hr'
          rw [billR_at, billR_no]
          refine ⟨this.1, ?_, ?_, this.2.2.2⟩
          · unfold billR; split
            · dsimp only; omega
            · omega
          · unfold billR; split
            · dsimp only; omega
            · omega
        · rw [List.map_map]
          have : (Rn.at_ ∘ billR x.m x.a) = Rn.at_ := by funext r; exact billR_at _ _ r
          rw [this]; exact ok.rn
    rw [if_neg hk5]
    by_cases hk6 : x.k = 6
    · rw [if_pos hk6]
      have hb := hd.2.2.2.2.1 hk6
      split
      · exact mono
      · dsimp only
        exact St.Ok.set ok hm (by rfl) (by exact ⟨w1, w2, w3, by dsimp only; omega, by dsimp only; omega, by dsimp only; omega, by dsimp only; omega, by dsimp only; omega, w9⟩) (by omega) (by omega) mono.rs mono.rn mono.rl
    rw [if_neg hk6]
    split
    · exact mono
    rename_i j hj
    split
    · exact mono
    rename_i r hr
    split
    · exact mono
    have hrk := ok.rs r (List.mem_of_getElem? hr)
    dsimp only
    refine St.Ok.set ok hm (by rfl) (by exact ⟨w1, w2, w3, by dsimp only; omega, by dsimp only; omega, by dsimp only; omega, by dsimp only; omega, by dsimp only; omega, w9⟩) (by omega) (by omega) (fun y hy => ?_) ?_ (by rw [List.length_set]; omega)
    · rcases List.mem_or_eq_of_mem_set hy with hy | rfl
      · exact mono.rs y hy
      · dsimp only; omega
    · have e : (s.rs.set j { r with back := true }).map Rn.at_ = s.rs.map Rn.at_ := by
        rw [List.map_set]
        apply List.ext_getElem?
        intro q
        rw [List.getElem?_set]
        by_cases hq : j = q
        · subst hq
          have hj2 := (List.getElem?_eq_some_iff.1 hr).1
          simp only [List.length_map, List.getElem?_map, if_true]
          rw [if_pos hj2, hr]
          rfl
        · rw [if_neg hq]
      rw [e]; exact ok.rn
theorem zero_ok : St.Ok 0 St.zero := ⟨by decide, by decide, fun m hm => by simp [St.zero] at hm, fun r hr => by simp [St.zero] at hr, by simp [St.zero], by simp [St.zero], by simp [St.zero], by simp [St.zero]⟩
theorem after_ok {f : Nat → Ln} : ∀ {n : Nat}, n ≤ 61 → (∀ i, i < n → (f i).Valid 1099511627776) → (after f n).Ok n
  | 0, _, _ => zero_ok
  | n + 1, h, hv => step_ok (after_ok (by omega) fun i hi => hv i (by omega)) (by omega) (hv n (by omega))
end AE.Tryz
