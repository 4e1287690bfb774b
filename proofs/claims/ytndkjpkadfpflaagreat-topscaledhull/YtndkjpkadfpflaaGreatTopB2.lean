/- Walks of box: which hulls are valid. -/
import Derived.Test.YtndkjpkadfpflaaGreatJoin15
set_option linter.unusedVariables false
set_option linter.unusedSimpArgs false
set_option linter.unusedSectionVars false
namespace AE.Tryz
open Go AE Go.Proofs AE.Box
set_option maxRecDepth 100000
set_option linter.unusedVariables false

/-- A hull, as it comes: n stations, each with w lines. -/
structure Hull where
  sp : Int
  st : Int
  n : Nat
  b : Option Addr
  a : Addr
  c : Nat
  w : Nat → Nat
  rb : Nat → Option Addr
  ra : Nat → Addr
  rc : Nat → Nat
  f : Nat → Nat → Rg
def Hull.cells (H : Hull) : List Value := [.int .i64 H.sp, .int .i64 H.st, .slice H.b H.n H.c]
structure Hull.Ok (H : Hull) (m : Nat) (h : AE.H) : Prop where
  e : 0 < H.n → H.b = some H.a
  i : Vals h H.a H.n (fun i => .slice (H.rb i) (H.w i) (H.rc i))
  r : 0 < H.n → H.a.block < m
  l : H.n ≤ 9223372036854775807
  re : ∀ i, i < H.n → 0 < H.w i → H.rb i = some (H.ra i)
  ri : ∀ i, i < H.n → Els h (H.ra i) (H.w i) 2 (fun k => (H.f i k).cells)
  rr : ∀ i, i < H.n → 0 < H.w i → (H.ra i).block < m
  rl : ∀ i, i < H.n → H.w i ≤ 9223372036854775807
theorem Hull.Ok.same {T : Hull} {m m' : Nat} {h h' : H} (k : T.Ok m h) (s : Same m h h') (hm : m ≤ m') : T.Ok m' h' :=
  ⟨k.e, k.i.same s k.r, fun h => by have := k.r h; omega, k.l, k.re, fun i hi => (k.ri i hi).same s (k.rr i hi), fun i hi h => by have := k.rr i hi h; omega, k.rl⟩
/-- A place is as it has to be. -/
def PlaceOk (x : Rg) : Prop := 0 ≤ x.lo ∧ x.lo ≤ x.hi ∧ x.hi ≤ 500 ∧ x.hi - x.lo ≤ 20
def Hull.Some (H : Hull) : Prop := ∃ i k, i < H.n ∧ k < H.w 0 ∧ 0 < (H.f i k).lo
structure Hull.Valid (H : Hull) : Prop where
  n1 : 2 ≤ H.n
  n2 : H.n ≤ 10
  w1 : 2 ≤ H.w 0
  w2 : H.w 0 ≤ 6
  eq : ∀ i, i < H.n → H.w i = H.w 0
  s1 : 1 ≤ H.sp ∧ H.sp ≤ 1000
  s2 : 1 ≤ H.st ∧ H.st ≤ 100
  pl : ∀ i k, i < H.n → k < H.w 0 → PlaceOk (H.f i k)
  some : H.Some
def Hull.hul (H : Hull) : Hul := ⟨⟨H.sp, H.st, H.n, H.w 0⟩, fun i k => (H.f i k).lo, fun i k => (H.f i k).hi⟩
theorem Hull.Valid.hul {H : Hull} (v : H.Valid) : H.hul.Ok :=
  ⟨⟨v.n1, v.n2, v.w1, v.w2, v.s1, v.s2⟩, fun i k hi hk => v.pl i k hi hk, v.some⟩
theorem hull_part {h : H} {T : Hull} {i j o k : Nat} {l : List Value} (e : Els h (T.ra i) (T.w i) 2 (fun k => (T.f i k).cells)) (hi : j < T.w i) (hc : cut (T.f i j).cells o k = some l) : h.loadN (aadd (aadd (T.ra i) (j * 2)) o) k = some l := load_part (e j hi) hc
theorem xTopB20 {G G' : Prop} (g : G') (t : G' → G := by (((with_reducible apply Load1.mk); (focus ((repeat (first | (apply hull_part <;> first | assumption | omega | exact rfl) | with_reducible apply bump_old | ((with_reducible apply put_old); focus (dsimp only [aadd]; omega)) | ((with_reducible apply quiet_old); (focus assumption); focus (dsimp only [aadd]; omega)) | ((with_reducible apply same_old); (focus assumption); focus (dsimp only [aadd]; omega)))); (first | done | fail))); (focus exact byVal)))) : G := t g

/-- Has one place before i, k something at least? -/
def Hull.SomeTo (H : Hull) (i k : Nat) : Prop := ∃ i' k', i' < H.n ∧ k' < H.w 0 ∧ (i' < i ∨ i' = i ∧ k' < k) ∧ 0 < (H.f i' k').lo
theorem Hull.SomeTo.mono {H : Hull} {i k i2 k2 : Nat} (s : H.SomeTo i k) (h : i < i2 ∨ i = i2 ∧ k ≤ k2) : H.SomeTo i2 k2 :=
  let ⟨i', k', a, b, c, d⟩ := s; ⟨i', k', a, b, by omega, d⟩
set_option maxHeartbeats 1000000 in
theorem refCheckHull_w {h : H} {T : Hull} {m : Nat} (hm : m ≤ h.next) (hT : T.Ok m h) : AW Tryz.prog 7 h.next h [.agg ⟨T.cells⟩] (fun v _ => ∃ e : Int, v = .int .i64 e ∧ (e = 0 ↔ T.Valid)) := by
  obtain ⟨e1, i1, r1, l1, re, ri, rr, rl⟩ := hT
  refine fun7.call rfl (Nat.le_refl _) ?_
  unfold a7 Hull.cells
  by_cases hn : T.n < 2 ∨ 10 < T.n
  · (focus ((try with_reducible apply wpC.to); (repeat' ((conv => whnf); first | refine byEv ?_ | (apply Fork.mk <;> (intro _; try (exfalso; omega))) | refine xTopB20 ?_ | fail)); all_goals ((conv => whnf); try with_reducible apply At.mk)))
    all_goals ((refine byFin ?_); exact ⟨_, rfl, fun h => by omega, fun v => by have := v.n1; have := v.n2; omega⟩)
  by_cases hw : T.w 0 < 2 ∨ 6 < T.w 0
  · (focus ((try with_reducible apply wpC.to); (repeat' ((conv => whnf); first | refine byEv ?_ | (apply Fork.mk <;> (intro _; try (exfalso; omega))) | refine xTopB20 ?_ | fail)); all_goals ((conv => whnf); try with_reducible apply At.mk)))
    all_goals ((refine byFin ?_); exact ⟨_, rfl, fun h => by omega, fun v => by have := v.w1; have := v.w2; omega⟩)
  (focus ((try with_reducible apply wpC.to); (repeat' ((conv => whnf); first | refine byEv ?_ | (apply Fork.mk <;> (intro _; try (exfalso; omega))) | refine xTopB20 ?_ | fail)); all_goals ((conv => whnf); try with_reducible apply At.mk)))
  refine wp_loop (fun s : Nat => [(1, .pointer (some ⟨h.next, 0, none⟩)), (3, .int .i64 T.n), (4, .int .i64 s)]) (fun s h1 => Same h.next h h1 ∧ h.next + 1 ≤ h1.next ∧ h1.get h.next = some (.cells [.int .i64 T.sp, .int .i64 T.st, .slice T.b T.n T.c] 24) ∧ s ≤ T.n ∧ ∀ i, i < s → T.w i = T.w 0) (fun s => T.n - s) 0 ⟨rfl, rfl, rfl, trivial⟩ ⟨bySame, byOm, byGet, by omega, fun i hi => by omega⟩ ?_
  rintro s g h1 ⟨s1, hn1, g1, hs, heq⟩ K hK
  by_cases hsn : s < T.n
  · by_cases e : T.w s = T.w 0
    · (focus ((try with_reducible apply wpC.to); (repeat' ((conv => whnf); first | refine byEv ?_ | (apply Fork.mk <;> (intro _; try (exfalso; omega))) | refine xTopB20 ?_ | fail)); all_goals ((conv => whnf); try with_reducible apply At.mk)))
      exact hK (s + 1) _ _ ⟨rfl, rfl, int_of rfl (by omega), trivial⟩ ⟨bySame, byOm, byGet, by omega, fun i hi => by
        by_cases e : i = s
        · subst e; assumption
        · exact heq i (by omega)⟩ (by omega)
    · (focus ((try with_reducible apply wpC.to); (repeat' ((conv => whnf); first | refine byEv ?_ | (apply Fork.mk <;> (intro _; try (exfalso; omega))) | refine xTopB20 ?_ | fail)); all_goals ((conv => whnf); try with_reducible apply At.mk)))
      (refine byFin ?_)
      exact ⟨_, rfl, fun h => by omega, fun v => absurd (v.eq s hsn) e⟩
  obtain rfl : s = T.n := by omega
  clear hK
  by_cases hsp : (1 ≤ T.sp ∧ T.sp ≤ 1000) ∧ 1 ≤ T.st ∧ T.st ≤ 100
  · (focus ((try with_reducible apply wpC.to); (repeat' ((conv => whnf); first | refine byEv ?_ | (apply Fork.mk <;> (intro _; try (exfalso; omega))) | refine xTopB20 ?_ | fail)); all_goals ((conv => whnf); try with_reducible apply At.mk)))
    have nx := s1
    refine wp_loop (fun s : Nat × Bool => [(1, .pointer (some ⟨h.next, 0, none⟩)), (3, .int .i64 T.n), (5, .bool s.2), (6, .int .i64 s.1)]) (fun s h2 => Same h.next h h2 ∧ h.next + 1 ≤ h2.next ∧ h2.get h.next = some (.cells [.int .i64 T.sp, .int .i64 T.st, .slice T.b T.n T.c] 24) ∧ s.1 ≤ T.n ∧ (∀ i k, i < s.1 → k < T.w 0 → PlaceOk (T.f i k)) ∧ (s.2 = true ↔ T.SomeTo s.1 0)) (fun s => T.n - s.1) (0, false) ⟨rfl, rfl, rfl, rfl, trivial⟩ ⟨bySame, byOm, byGet, by simp, fun i k hi => by simp at hi, ⟨fun h => by simp at h, fun ⟨i', k', a, b, c, d⟩ => by dsimp only at c; omega⟩⟩ ?_
    rintro ⟨i, sm⟩ g2 h2 ⟨s2, hn2, g2', hi, hall, hsome⟩ K hK
    dsimp only at hi hall hsome
    dsimp only
    by_cases hin : i < T.n
    · have rei := re i hin
      have rii := ri i hin
      have rri := rr i hin
      have ewi := heq i hin
      (focus ((try with_reducible apply wpC.to); (repeat' ((conv => whnf); first | refine byEv ?_ | (apply Fork.mk <;> (intro _; try (exfalso; omega))) | refine xTopB20 ?_ | fail)); all_goals ((conv => whnf); try with_reducible apply At.mk)))
      refine wp_loop (fun s : Nat × Bool => [(1, .pointer (some ⟨h.next, 0, none⟩)), (3, .int .i64 T.n), (5, .bool s.2), (6, .int .i64 i), (7, .int .i64 s.1)]) (fun s h3 => Same h.next h h3 ∧ h.next + 1 ≤ h3.next ∧ h3.get h.next = some (.cells [.int .i64 T.sp, .int .i64 T.st, .slice T.b T.n T.c] 24) ∧ s.1 ≤ T.w 0 ∧ (∀ k, k < s.1 → PlaceOk (T.f i k)) ∧ (s.2 = true ↔ T.SomeTo i s.1)) (fun s => T.w 0 - s.1) (0, sm) ⟨rfl, rfl, rfl, rfl, rfl, trivial⟩ ⟨bySame, byOm, byGet, by simp, fun k hk => by simp at hk, hsome⟩ ?_
      rintro ⟨k, sn⟩ g3 h3 ⟨s3, hn3, g3', hk, hal3, hsom3⟩ K3 hK3
      dsimp only at hk hal3 hsom3
      dsimp only
      by_cases hkw : k < T.w 0
      · have hki : k < T.w i := by omega
        by_cases hp : PlaceOk (T.f i k)
        · have hp' := hp
          unfold PlaceOk at hp'
          have hnew : ∀ b : Bool, b = (sn || decide (0 < (T.f i k).lo)) → (b = true ↔ T.SomeTo i (k + 1)) := fun b hb => by
            subst hb
            rw [Bool.or_eq_true, hsom3, decide_eq_true_eq]
            constructor
            · rintro (hh | hh)
              · exact hh.mono (by omega)
              · exact ⟨i, k, hin, hkw, by omega, hh⟩
            · rintro ⟨i', k', a, b, c, d⟩
              by_cases e : i' = i ∧ k' = k
              · obtain ⟨rfl, rfl⟩ := e; exact .inr d
              · exact .inl ⟨i', k', a, b, by omega, d⟩
          have hal4 : ∀ j, j < k + 1 → PlaceOk (T.f i j) := fun j hj => by
            by_cases e : j = k
            · subst e; exact hp
            · exact hal3 j (by omega)
          cases sn with
          | true =>
            (focus ((try with_reducible apply wpC.to); (repeat' ((conv => whnf); first | refine byEv ?_ | (apply Fork.mk <;> (intro _; try (exfalso; omega))) | refine xTopB20 ?_ | fail)); all_goals ((conv => whnf); try with_reducible apply At.mk)))
            all_goals exact hK3 (k + 1, true) _ _ ⟨rfl, rfl, rfl, rfl, int_of rfl (by dsimp only; omega), trivial⟩ ⟨bySame, byOm, byGet, by dsimp only; omega, hal4, hnew true (by simp)⟩ (by dsimp only; omega)
          | false =>
            by_cases h0 : 0 < (T.f i k).lo
            · (focus ((try with_reducible apply wpC.to); (repeat' ((conv => whnf); first | refine byEv ?_ | (apply Fork.mk <;> (intro _; try (exfalso; omega))) | refine xTopB20 ?_ | fail)); all_goals ((conv => whnf); try with_reducible apply At.mk)))
              all_goals exact hK3 (k + 1, true) _ _ ⟨rfl, rfl, rfl, rfl, int_of rfl (by dsimp only; omega), trivial⟩ ⟨bySame, byOm, byGet, by dsimp only; omega, hal4, hnew true (by simp [h0])⟩ (by dsimp only; omega)
            · (focus ((try with_reducible apply wpC.to); (repeat' ((conv => whnf); first | refine byEv ?_ | (apply Fork.mk <;> (intro _; try (exfalso; omega))) | refine xTopB20 ?_ | fail)); all_goals ((conv => whnf); try with_reducible apply At.mk)))
              all_goals exact hK3 (k + 1, false) _ _ ⟨rfl, rfl, rfl, rfl, int_of rfl (by dsimp only; omega), trivial⟩ ⟨bySame, byOm, byGet, by dsimp only; omega, hal4, hnew false (by simp [h0])⟩ (by dsimp only; omega)
        · have hbad : ¬ T.Valid := fun v => hp (v.pl i k hin hkw)
          unfold PlaceOk at hp
          (focus ((try with_reducible apply wpC.to); (repeat' ((conv => whnf); first | refine byEv ?_ | (apply Fork.mk <;> (intro _; try (exfalso; omega))) | refine xTopB20 ?_ | fail)); all_goals ((conv => whnf); try with_reducible apply At.mk)))
          all_goals ((refine byFin ?_); exact ⟨_, rfl, fun h => by omega, fun v => absurd v hbad⟩)
      · obtain rfl : k = T.w 0 := by omega
        (focus ((try with_reducible apply wpC.to); (repeat' ((conv => whnf); first | refine byEv ?_ | (apply Fork.mk <;> (intro _; try (exfalso; omega))) | refine xTopB20 ?_ | fail)); all_goals ((conv => whnf); try with_reducible apply At.mk)))
        refine hK (i + 1, sn) _ _ ⟨rfl, rfl, rfl, int_of rfl (by dsimp only; omega), trivial⟩ ⟨bySame, byOm, byGet, by dsimp only; omega, fun i' k' hi' hk' => ?_, ?_⟩ (by dsimp only; omega)
        · by_cases e : i' = i
          · subst e; exact hal3 k' hk'
          · exact hall i' k' (by dsimp only at hi'; omega) hk'
        · dsimp only
          rw [hsom3]
          exact ⟨fun hh => hh.mono (by omega), fun ⟨i', k', a, b, c, d⟩ => ⟨i', k', a, b, by omega, d⟩⟩
    · obtain rfl : i = T.n := by omega
      cases sm with
      | true =>
        (focus ((try with_reducible apply wpC.to); (repeat' ((conv => whnf); first | refine byEv ?_ | (apply Fork.mk <;> (intro _; try (exfalso; omega))) | refine xTopB20 ?_ | fail)); all_goals ((conv => whnf); try with_reducible apply At.mk)))
        (refine byFin ?_)
        obtain ⟨i', k', a, b, c, d⟩ := hsome.1 rfl
        exact ⟨_, rfl, fun _ => ⟨by omega, by omega, by omega, by omega, heq, hsp.1, hsp.2, hall, ⟨i', k', a, b, d⟩⟩, fun _ => rfl⟩
      | false =>
        (focus ((try with_reducible apply wpC.to); (repeat' ((conv => whnf); first | refine byEv ?_ | (apply Fork.mk <;> (intro _; try (exfalso; omega))) | refine xTopB20 ?_ | fail)); all_goals ((conv => whnf); try with_reducible apply At.mk)))
        (refine byFin ?_)
        exact ⟨_, rfl, fun h => by omega, fun v => by
          obtain ⟨i', k', a, b, d⟩ := v.some
          have := hsome.2 ⟨i', k', a, b, by omega, d⟩
          cases this⟩
  · (focus ((try with_reducible apply wpC.to); (repeat' ((conv => whnf); first | refine byEv ?_ | (apply Fork.mk <;> (intro _; try (exfalso; omega))) | refine xTopB20 ?_ | fail)); all_goals ((conv => whnf); try with_reducible apply At.mk)))
    all_goals ((refine byFin ?_); exact ⟨_, rfl, fun h => by omega, fun v => by have := v.s1; have := v.s2; omega⟩)
end AE.Tryz
