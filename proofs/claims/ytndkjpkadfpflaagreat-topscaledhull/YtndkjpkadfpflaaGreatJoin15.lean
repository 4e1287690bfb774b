/- Walks and plain laws: TopBz, TopB1. -/
import Derived.Test.YtndkjpkadfpflaaGreatTopBy
import Derived.Test.YtndkjpkadfpflaaGreatJoin13
set_option linter.unusedVariables false
set_option linter.unusedSimpArgs false
set_option linter.unusedSectionVars false

/- Two fractions are compared by their whole parts, and what is left of both, turned over. -/
namespace AE.Box
open AE.Fair

/-- One fraction is less than another one. -/
def lt4 (a b c d : Int) : Prop := a * d < c * b
instance (a b c d : Int) : Decidable (lt4 a b c d) := by unfold lt4; infer_instance
/-- What the comparison says in the end. -/
def says (t : Bool) (a b c d : Int) : Prop := if t then lt4 c d a b else lt4 a b c d
instance (t : Bool) (a b c d : Int) : Decidable (says t a b c d) := by unfold says; infer_instance
end AE.Box

/- Walks of box: numbers between two, weights, fractions, what an offset adds. -/
namespace AE.Tryz
open Go AE Go.Proofs AE.Box
set_option maxRecDepth 100000
set_option linter.unusedVariables false

/-- z is one of the first n. -/
def IsOne (f : Nat → Int) (n : Nat) (z : Int) : Prop := ∃ i, i < n ∧ z = f i
theorem IsOne.mono {f : Nat → Int} {n m : Nat} {z : Int} (k : IsOne f n z) (h : n ≤ m) : IsOne f m z := let ⟨i, a, b⟩ := k; ⟨i, by omega, b⟩
theorem IsOne.at {f : Nat → Int} {n i : Nat} {z : Int} (hi : i < n) (h : z = f i) : IsOne f n z := ⟨i, hi, h⟩
theorem le_first {f : Nat → Int} {i : Nat} (h : i < 1) : f i ≤ f 0 ∧ f 0 ≤ f i := by
  obtain rfl : i = 0 := by omega
  exact ⟨Int.le_refl _, Int.le_refl _⟩
theorem min_w {h : H} {T : Arr} {m : Nat} (hm : m ≤ h.next) (hT : T.Ok m h) (h1 : 1 ≤ T.n) : AW Tryz.prog 108 h.next h [.slice T.b T.n T.c] (fun v _ => ∃ z, v = .int .i64 z ∧ (∀ i, i < T.n → z ≤ T.f i) ∧ IsOne T.f T.n z) := by
  obtain ⟨e1, i1, r1, l1⟩ := hT
  refine fun108.call rfl (Nat.le_refl _) ?_
  unfold a108
  (focus ((try with_reducible apply wpC.to); (repeat' ((conv => whnf); first | refine byEv ?_ | (apply Fork.mk <;> (intro _; try (exfalso; omega))) | fail)); all_goals ((conv => whnf); try with_reducible apply At.mk)))
  refine wp_loop (fun x : Nat × Int => [(0, .slice T.b T.n T.c), (3, .int .i64 x.2), (4, .int .i64 x.1)]) (fun x h1 => Same h.next h h1 ∧ h.next ≤ h1.next ∧ 1 ≤ x.1 ∧ x.1 ≤ T.n ∧ (∀ i, i < x.1 → x.2 ≤ T.f i) ∧ IsOne T.f x.1 x.2) (fun x => T.n - x.1) (1, T.f 0) ⟨rfl, rfl, rfl, trivial⟩
    ⟨bySame, byOm, by simp, by simpa using h1, fun i hi => (le_first hi).2, IsOne.at (i := 0) (by simp) rfl⟩ ?_
  rintro ⟨s, z⟩ g h2 ⟨q, hn, hs1, hs, hall, hex⟩ K hK
  dsimp only at hs1 hs hall hex
  dsimp only
  by_cases hsn : s < T.n
  · (focus ((try with_reducible apply wpC.to); (repeat' ((conv => whnf); first | refine byEv ?_ | (apply Fork.mk <;> (intro _; try (exfalso; omega))) | fail)); all_goals ((conv => whnf); try with_reducible apply At.mk)))
    refine hK (s + 1, min z (T.f s)) _ _ ⟨rfl, rfl, int_of rfl (by dsimp only; omega), trivial⟩ ⟨bySame, byOm, by dsimp only; omega, by dsimp only; omega, fun i hi => ?_, ?_⟩ (by dsimp only; omega)
    · dsimp only at hi ⊢
      by_cases e : i = s
      · subst e; omega
      · have := hall i (by omega); omega
    · dsimp only
      rcases Int.le_total z (T.f s) with e | e
      · rw [Int.min_eq_left e]; exact hex.mono (by omega)
      · rw [Int.min_eq_right e]; exact IsOne.at (i := s) (by omega) rfl
  · (focus ((try with_reducible apply wpC.to); (repeat' ((conv => whnf); first | refine byEv ?_ | (apply Fork.mk <;> (intro _; try (exfalso; omega))) | fail)); all_goals ((conv => whnf); try with_reducible apply At.mk)))
    (refine byFin ?_)
    obtain rfl : s = T.n := by omega
    exact ⟨_, rfl, hall, hex⟩
theorem max_w {h : H} {T : Arr} {m : Nat} (hm : m ≤ h.next) (hT : T.Ok m h) (h1 : 1 ≤ T.n) : AW Tryz.prog 109 h.next h [.slice T.b T.n T.c] (fun v _ => ∃ z, v = .int .i64 z ∧ (∀ i, i < T.n → T.f i ≤ z) ∧ IsOne T.f T.n z) := by
  obtain ⟨e1, i1, r1, l1⟩ := hT
  refine fun109.call rfl (Nat.le_refl _) ?_
  unfold a109
  (focus ((try with_reducible apply wpC.to); (repeat' ((conv => whnf); first | refine byEv ?_ | (apply Fork.mk <;> (intro _; try (exfalso; omega))) | fail)); all_goals ((conv => whnf); try with_reducible apply At.mk)))
  refine wp_loop (fun x : Nat × Int => [(0, .slice T.b T.n T.c), (3, .int .i64 x.2), (4, .int .i64 x.1)]) (fun x h1 => Same h.next h h1 ∧ h.next ≤ h1.next ∧ 1 ≤ x.1 ∧ x.1 ≤ T.n ∧ (∀ i, i < x.1 → T.f i ≤ x.2) ∧ IsOne T.f x.1 x.2) (fun x => T.n - x.1) (1, T.f 0) ⟨rfl, rfl, rfl, trivial⟩
    ⟨bySame, byOm, by simp, by simpa using h1, fun i hi => (le_first hi).1, IsOne.at (i := 0) (by simp) rfl⟩ ?_
  rintro ⟨s, z⟩ g h2 ⟨q, hn, hs1, hs, hall, hex⟩ K hK
  dsimp only at hs1 hs hall hex
  dsimp only
  by_cases hsn : s < T.n
  · (focus ((try with_reducible apply wpC.to); (repeat' ((conv => whnf); first | refine byEv ?_ | (apply Fork.mk <;> (intro _; try (exfalso; omega))) | fail)); all_goals ((conv => whnf); try with_reducible apply At.mk)))
    refine hK (s + 1, max z (T.f s)) _ _ ⟨rfl, rfl, int_of rfl (by dsimp only; omega), trivial⟩ ⟨bySame, byOm, by dsimp only; omega, by dsimp only; omega, fun i hi => ?_, ?_⟩ (by dsimp only; omega)
    · dsimp only at hi ⊢
      by_cases e : i = s
      · subst e; omega
      · have := hall i (by omega); omega
    · dsimp only
      rcases Int.le_total z (T.f s) with e | e
      · rw [Int.max_eq_right e]; exact IsOne.at (i := s) (by omega) rfl
      · rw [Int.max_eq_left e]; exact hex.mono (by omega)
  · (focus ((try with_reducible apply wpC.to); (repeat' ((conv => whnf); first | refine byEv ?_ | (apply Fork.mk <;> (intro _; try (exfalso; omega))) | fail)); all_goals ((conv => whnf); try with_reducible apply At.mk)))
    (refine byFin ?_)
    obtain rfl : s = T.n := by omega
    exact ⟨_, rfl, hall, hex⟩
theorem fbtw_w {h : H} {T : Arr} {m : Nat} {lo hi : Int} (hm : m ≤ h.next) (hT : T.Ok m h) (h1 : 1 ≤ T.n) : AW Tryz.prog 43 h.next h [.int .i64 lo, .int .i64 hi, .slice T.b T.n T.c] (fun v _ => v = .bool (decide (∀ i, i < T.n → lo ≤ T.f i ∧ T.f i ≤ hi))) := by
  refine fun43.call rfl (Nat.le_refl _) ?_
  unfold a43
  (focus ((try with_reducible apply wpC.to); (repeat' ((conv => whnf); first | refine byEv ?_ | (apply Fork.mk <;> (intro _; try (exfalso; omega))) | fail)); all_goals ((conv => whnf); try with_reducible apply At.mk)))
  apply q_call
  focus (exact byNext)
  focus (exact byLo)
  focus exact min_w (m := m) byOm (hT.same bySame (Nat.le_refl _)) h1
  rintro _ h2 ⟨x, rfl, hx1, hx2⟩ q hn
  (focus ((try with_reducible apply wpC.to); (repeat' ((conv => whnf); first | refine byEv ?_ | (apply Fork.mk <;> (intro _; try (exfalso; omega))) | fail)); all_goals ((conv => whnf); try with_reducible apply At.mk)))
  · apply q_call
    focus (exact byNext)
    focus (exact byLo)
    focus exact max_w (m := m) byOm (hT.same bySame (Nat.le_refl _)) h1
    rintro _ h3 ⟨y, rfl, hy1, hy2⟩ q' hn'
    (focus ((try with_reducible apply wpC.to); (repeat' ((conv => whnf); first | refine byEv ?_ | (apply Fork.mk <;> (intro _; try (exfalso; omega))) | fail)); all_goals ((conv => whnf); try with_reducible apply At.mk)))
    all_goals (refine byFin ?_)
    · exact bool_t rfl fun i hi => by have := hx1 i hi; have := hy1 i hi; omega
    · refine bool_f rfl fun hc => ?_
      obtain ⟨i, hi, rfl⟩ := hy2
      have := hc i hi
      omega
  · (refine byFin ?_)
    refine bool_f rfl fun hc => ?_
    obtain ⟨i, hi, rfl⟩ := hx2
    have := hc i hi
    omega
theorem btw1_w {h : H} {x lo hi : Int} {r : Nat} (hr : r < h.next) (hg : h.get r = some (.cells [.int .i64 x] 2)) : AW Tryz.prog 43 h.next h [.int .i64 lo, .int .i64 hi, .slice (some ⟨r, 0, none⟩) 1 1] (fun v _ => v = .bool (decide (lo ≤ x ∧ x ≤ hi))) := by
  have := fbtw_w (h := h) (T := ⟨1, one x, some ⟨r, 0, none⟩, ⟨r, 0, none⟩, 1⟩) (m := h.next) (lo := lo) (hi := hi) (Nat.le_refl _) ⟨fun _ => rfl, fun i hi => by
    obtain rfl : i = 0 := by dsimp only at hi; omega
    exact loadN_one (off := 0) hg rfl, fun _ => hr, by dsimp only; omega⟩ (by dsimp only; omega)
  obtain ⟨v, h', e, a⟩ := this
  refine ⟨v, h', e.trans (congrArg Value.bool ?_), a⟩
  exact decide_eq_decide.2 ⟨fun a => a 0 (Nat.one_pos), fun a i _ => a⟩
theorem btw2_w {h : H} {x y lo hi : Int} {r : Nat} (hr : r < h.next) (hg : h.get r = some (.cells [.int .i64 x, .int .i64 y] 2)) : AW Tryz.prog 43 h.next h [.int .i64 lo, .int .i64 hi, .slice (some ⟨r, 0, none⟩) 2 2] (fun v _ => v = .bool (decide ((lo ≤ x ∧ x ≤ hi) ∧ lo ≤ y ∧ y ≤ hi))) := by
  have := fbtw_w (h := h) (T := ⟨2, two x y, some ⟨r, 0, none⟩, ⟨r, 0, none⟩, 2⟩) (m := h.next) (lo := lo) (hi := hi) (Nat.le_refl _) ⟨fun _ => rfl, fun i hi => by
    dsimp only at hi
    rcases Nat.lt_or_ge i 1 with h1 | h1
    · obtain rfl : i = 0 := by omega
      exact loadN_one (off := 0) hg rfl
    · obtain rfl : i = 1 := by omega
      exact loadN_one (off := 1) hg rfl, fun _ => hr, by dsimp only; omega⟩ (by dsimp only; omega)
  obtain ⟨v, h', e, a⟩ := this
  refine ⟨v, h', e.trans (congrArg Value.bool ?_), a⟩
  refine decide_eq_decide.2 ⟨fun a => ⟨a 0 (by show 0 < 2; omega), a 1 (by show 1 < 2; omega)⟩, fun a i hi => ?_⟩
  dsimp only at hi
  rcases Nat.lt_or_ge i 1 with h1 | h1
  · obtain rfl : i = 0 := by omega
    exact a.1
  · obtain rfl : i = 1 := by omega
    exact a.2
theorem kTopB10c {G G' : Prop} (g : G') (t : G' → G := by ((apply q_call); (focus exact byNext); (focus exact byLo); (focus ((apply btw1_w; (focus exact byOm); (focus exact byGet)))))) : G := t g
theorem kTopB11c {G G' : Prop} (g : G') (t : G' → G := by ((apply q_call); (focus exact byNext); (focus exact byLo); (focus ((apply btw2_w; (focus exact byOm); (focus exact byGet)))))) : G := t g

theorem weight_w {h : H} {i n : Nat} (h2 : 2 ≤ n) (hn : n < 1000000) (hi : i < n) : AW Tryz.prog 159 h.next h [.agg ⟨[.int .i64 1, .int .i64 2]⟩, .int .i64 i, .int .i64 n] (fun v _ => v = .int .i64 (wt i n)) := by
  refine fun159.call rfl (Nat.le_refl _) ?_
  unfold a159 wt
  by_cases h0 : i = 0 ∨ i + 1 = n
  · rw [if_pos h0]
    (focus ((try with_reducible apply wpC.to); (repeat' ((conv => whnf); first | refine byEv ?_ | (apply Fork.mk <;> (intro _; try (exfalso; omega))) | fail)); all_goals ((conv => whnf); try with_reducible apply At.mk)))
    all_goals ((refine byFin ?_); rfl)
  · rw [if_neg h0]
    (focus ((try with_reducible apply wpC.to); (repeat' ((conv => whnf); first | refine byEv ?_ | (apply Fork.mk <;> (intro _; try (exfalso; omega))) | fail)); all_goals ((conv => whnf); try with_reducible apply At.mk)))
    all_goals ((refine byFin ?_); rfl)

theorem gcd_w {h : H} {a b : Int} (ha : 0 ≤ a ∧ a < 9223372036854775808) (hb : 0 < b ∧ b < 9223372036854775808) : AW Tryz.prog 113 h.next h [.int .i64 a, .int .i64 b] (fun v _ => v = .int .i64 (Int.gcd a b : Int)) := by
  refine fun113.call rfl (Nat.le_refl _) ?_
  unfold a113
  (focus ((try with_reducible apply wpC.to); (repeat' ((conv => whnf); first | refine byEv ?_ | (apply Fork.mk <;> (intro _; try (exfalso; omega))) | fail)); all_goals ((conv => whnf); try with_reducible apply At.mk)))
  refine wp_loop (fun s : Nat × Nat => [(0, .int .i64 s.1), (1, .int .i64 s.2)]) (fun s h1 => Quiet h.next h h1 ∧ Nat.gcd s.1 s.2 = Int.gcd a b ∧ s.1 < 9223372036854775808 ∧ s.2 < 9223372036854775808 ∧ (0 < s.1 ∨ 0 < s.2)) (fun s => s.2) (a.natAbs, b.toNat) ⟨int_of rfl (by dsimp only; omega), int_of rfl (by dsimp only; omega), trivial⟩ ⟨byQuiet, (gcd_abs a b (by omega)).symm, by dsimp only; omega, by dsimp only; omega, by dsimp only; omega⟩ ?_
  rintro ⟨x, y⟩ g h1 ⟨q1, hg, hx, hy, hxy⟩ K hK
  dsimp only at hg hx hy hxy ⊢
  (focus ((try with_reducible apply wpC.to); (repeat' ((conv => whnf); first | refine byEv ?_ | (apply Fork.mk <;> (intro _; try (exfalso; omega))) | fail)); all_goals ((conv => whnf); try with_reducible apply At.mk)))
  · refine hK (y, x % y) _ _ ⟨int_of rfl (by dsimp only), int_of rfl (by dsimp only; omega), trivial⟩ ⟨byQuiet, ?_, hy, ?_, ?_⟩ ?_
    · dsimp only
      rw [← hg, Nat.gcd_comm x y]
      exact (Nat.gcd_rec y x).symm ▸ (Nat.gcd_comm y (x % y))
    · dsimp only
      have := Nat.mod_lt x (show 0 < y by omega)
      omega
    · dsimp only; omega
    · dsimp only
      exact Nat.mod_lt x (show 0 < y by omega)
  · obtain rfl : y = 0 := by omega
    (refine byFin ?_)
    rw [← hg]
    simp
theorem kTopB12c {G G' : Prop} (g : G') (t : G' → G := by ((apply q_call); (focus exact byNext); (focus exact byLo); (focus ((apply gcd_w; (focus omega); (focus omega)))))) : G := t g
def frC (x : Fr) : List Value := [.int .i64 x.n, .int .i64 x.d]
theorem fraction_w {h : H} {n d : Int} (hn : 0 ≤ n ∧ n < 9223372036854775808) (hd : 0 < d ∧ d < 9223372036854775808) : AW Tryz.prog 51 h.next h [.int .i64 n, .int .i64 d] (fun v _ => v = .agg ⟨frC (fr n d)⟩) := by
  have hg0 : 0 < (Int.gcd n d : Int) := Int.natCast_pos.2 (Int.gcd_pos_of_ne_zero_right n (by omega))
  refine fun51.call rfl (Nat.le_refl _) ?_
  unfold a51
  (focus ((try with_reducible apply wpC.to); (repeat' ((conv => whnf); first | refine byEv ?_ | ((refine kTopB12c ?_); first | ((first | apply q_allD | apply q_alli | apply q_allB) <;> intro _ _ _ _ <;> try contradiction) | (apply q_allv; intro _ _ _)) | fail)); all_goals ((conv => whnf); try with_reducible apply At.mk)))
  (refine byFin ?_)
  rfl
theorem refFraction_w {h : H} {n d : Int} (hn : 0 ≤ n ∧ n < 9223372036854775808) (hd : 0 < d ∧ d < 9223372036854775808) : AW Tryz.prog 34 h.next h [.int .i64 n, .int .i64 d] (fun v _ => v = .agg ⟨frC (fr n d)⟩) := by
  have hg0 : 0 < (Int.gcd n d : Int) := Int.natCast_pos.2 (Int.gcd_pos_of_ne_zero_right n (by omega))
  refine fun34.call rfl (Nat.le_refl _) ?_
  unfold a34
  (focus ((try with_reducible apply wpC.to); (repeat' ((conv => whnf); first | refine byEv ?_ | (apply Fork.mk <;> (intro _; try (exfalso; omega))) | fail)); all_goals ((conv => whnf); try with_reducible apply At.mk)))
  refine wp_loop (fun s : Nat × Nat => [(0, .int .i64 n), (1, .int .i64 d), (4, .pointer (some ⟨h.next, 0, none⟩)), (5, .int .i64 s.1), (6, .int .i64 s.2)]) (fun s h1 => h.next + 5 ≤ h1.next ∧ h1.get h.next = some (.cells [.int .i64 0, .int .i64 0] 27) ∧ Nat.gcd s.1 s.2 = Int.gcd n d ∧ s.1 < 9223372036854775808 ∧ s.2 < 9223372036854775808 ∧ (0 < s.1 ∨ 0 < s.2)) (fun s => s.2) (n.natAbs, d.toNat) ⟨rfl, rfl, rfl, int_of rfl (by dsimp only; omega), int_of rfl (by dsimp only; omega), trivial⟩ ⟨byOm, byGet, (gcd_abs n d (by omega)).symm, by dsimp only; omega, by dsimp only; omega, by dsimp only; omega⟩ ?_
  rintro ⟨x, y⟩ g h1 ⟨hn1, q1, hg, hx, hy, hxy⟩ K hK
  dsimp only at hg hx hy hxy ⊢
  by_cases hy0 : 0 < y
  · (focus ((try with_reducible apply wpC.to); (repeat' ((conv => whnf); first | refine byEv ?_ | (apply Fork.mk <;> (intro _; try (exfalso; omega))) | fail)); all_goals ((conv => whnf); try with_reducible apply At.mk)))
    refine hK (y, x % y) _ _ ⟨rfl, rfl, rfl, int_of rfl (by dsimp only), int_of rfl (by dsimp only; omega), trivial⟩ ⟨byOm, byGet, ?_, hy, ?_, ?_⟩ ?_
    · dsimp only
      rw [← hg, Nat.gcd_comm x y]
      exact (Nat.gcd_rec y x).symm ▸ (Nat.gcd_comm y (x % y))
    · dsimp only
      have := Nat.mod_lt x (show 0 < y by omega)
      omega
    · dsimp only; omega
    · dsimp only
      exact Nat.mod_lt x (show 0 < y by omega)
  · obtain rfl : y = 0 := by omega
    have e : x = Int.gcd n d := by rw [← hg]; simp
    subst e
    (focus ((try with_reducible apply wpC.to); (repeat' ((conv => whnf); first | refine byEv ?_ | (apply Fork.mk <;> (intro _; try (exfalso; omega))) | fail)); all_goals ((conv => whnf); try with_reducible apply At.mk)))
    (refine byFin ?_)
    rfl

/-- A place, as it is yielded. -/
def placeC (G : Geo) (i k : Nat) : List Value := [.int .i64 i, .int .i64 k, .int .i64 (wt i G.n * wt k G.w), .int .i64 (wt i G.n), .bool (decide (k + 1 = G.w))]
theorem terms_w {h : H} {G : Geo} {p q i k : Nat} {y : Int} {sl : Value} (hp : p < h.next) (hg : h.get p = some (.cells [.int .i64 G.sp, .int .i64 G.st, sl, .int .i64 q] 174)) (hs : G.Steps i k y) (hy : 0 ≤ y ∧ y ≤ 500) (hq : q ≤ 2) :
    AW Tryz.prog 111 h.next h [.pointer (some ⟨p, 0, none⟩), .agg ⟨placeC G i k⟩, .int .i64 y] (fun v _ => v = .tuple #[.int .i64 (G.a q i k y), .int .i64 (G.b q i k y)]) := by
  obtain ⟨v, wy, spi, a0, stk, a1, s3, ss, ssk, a2, c1, c2, c3, c4, b2⟩ := hs
  refine fun111.call rfl (Nat.le_refl _) ?_
  unfold a111 Geo.a Geo.b Geo.wy placeC
  by_cases h0 : q = 0
  · rw [if_pos h0, if_pos (.inl h0)]
    subst h0
    (focus ((try with_reducible apply wpC.to); (repeat' ((conv => whnf); first | refine byEv ?_ | (apply Fork.mk <;> (intro _; try (exfalso; omega))) | fail)); all_goals ((conv => whnf); try with_reducible apply At.mk)))
    (refine byFin ?_)
    rfl
  rw [if_neg h0]
  by_cases h1 : q = 1
  · rw [if_pos h1, if_pos (.inr h1)]
    subst h1
    (focus ((try with_reducible apply wpC.to); (repeat' ((conv => whnf); first | refine byEv ?_ | (apply Fork.mk <;> (intro _; try (exfalso; omega))) | fail)); all_goals ((conv => whnf); try with_reducible apply At.mk)))
    (refine byFin ?_)
    rfl
  rw [if_neg h1, if_neg (show ¬ (q = 0 ∨ q = 1) by omega)]
  by_cases hk : k + 1 = G.w
  · rw [if_pos hk, decide_eq_true hk]
    (focus ((try with_reducible apply wpC.to); (repeat' ((conv => whnf); first | refine byEv ?_ | (apply Fork.mk <;> (intro _; try (exfalso; omega))) | fail)); all_goals ((conv => whnf); try with_reducible apply At.mk)))
    (refine byFin ?_)
    rfl
  · rw [if_neg hk, decide_eq_false hk]
    (focus ((try with_reducible apply wpC.to); (repeat' ((conv => whnf); first | refine byEv ?_ | (apply Fork.mk <;> (intro _; try (exfalso; omega))) | fail)); all_goals ((conv => whnf); try with_reducible apply At.mk)))
    (refine byFin ?_)
    rfl
end AE.Tryz
