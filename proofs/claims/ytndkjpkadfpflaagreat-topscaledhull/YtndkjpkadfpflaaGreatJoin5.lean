/- Walks and plain laws: TopB3, TopB4. -/
import Derived.Test.YtndkjpkadfpflaaGreatTopB2
set_option linter.unusedVariables false
set_option linter.unusedSimpArgs false
set_option linter.unusedSectionVars false

/- Walks of box: a valid hull is found valid, a true one true. -/
namespace AE.Tryz
open Go AE Go.Proofs AE.Box
set_option maxRecDepth 100000
set_option linter.unusedVariables false

theorem indexRows_w {h : H} {T : Hull} {m : Nat} (hm : m ≤ h.next) (hT : T.Ok m h) {pf : Value} (hy : ∀ i h1, i < T.n → Quiet h.next h h1 → ∃ v h2, v = .bool false ∧ ACall Tryz.prog pf h1.next h1 [.slice (T.rb i) (T.w i) (T.rc i)] v h2) :
    AW Tryz.prog 158 h.next h [.slice T.b T.n T.c, pf] (fun v _ => v = .int .i64 (-1)) := by
  obtain ⟨e1, i1, r1, l1, -, -, -, -⟩ := hT
  refine fun158.call rfl (Nat.le_refl _) ?_
  unfold a158
  (focus ((try with_reducible apply wpC.to); (repeat' ((conv => whnf); first | refine byEv ?_ | (apply Fork.mk <;> (intro _; try (exfalso; omega))) | ((refine kTopSc1c ?_); first | ((first | apply q_allD | apply q_alli | apply q_allB) <;> intro _ _ _ _ <;> try contradiction) | (apply q_allv; intro _ _ _)) | refine xTopB20 ?_ | fail)); all_goals ((conv => whnf); try with_reducible apply At.mk)))
  refine wp_loop (fun s : Nat => [(0, .slice T.b T.n T.c), (1, pf), (7, .int .i64 T.n), (8, .int .i64 s)]) (fun s h1 => Quiet h.next h h1 ∧ s ≤ T.n) (fun s => T.n - s) 0 ⟨rfl, rfl, rfl, rfl, trivial⟩ ⟨?_, by omega⟩ ?_
  · (exact byQuiet)
  rintro s g h1 ⟨q, hs⟩ K hK
  have hnx := q.next
  (focus ((try with_reducible apply wpC.to); (repeat' ((conv => whnf); first | refine byEv ?_ | (apply Fork.mk <;> (intro _; try (exfalso; omega))) | ((refine kTopSc1c ?_); first | ((first | apply q_allD | apply q_alli | apply q_allB) <;> intro _ _ _ _ <;> try contradiction) | (apply q_allv; intro _ _ _)) | refine xTopB20 ?_ | fail)); all_goals ((conv => whnf); try with_reducible apply At.mk)))
  · apply q_calla
    focus exact acall_mono (hy s _ (by omega) byQuiet) byOm
    rintro _ h2 rfl q2
    have hnx2 := q2.next
    (focus ((try with_reducible apply wpC.to); (repeat' ((conv => whnf); first | refine byEv ?_ | (apply Fork.mk <;> (intro _; try (exfalso; omega))) | ((refine kTopSc1c ?_); first | ((first | apply q_allD | apply q_alli | apply q_allB) <;> intro _ _ _ _ <;> try contradiction) | (apply q_allv; intro _ _ _)) | refine xTopB20 ?_ | fail)); all_goals ((conv => whnf); try with_reducible apply At.mk)))
    exact hK (s + 1) _ _ ⟨rfl, rfl, rfl, int_of rfl (by omega), trivial⟩ ⟨byQuiet, by omega⟩ (by omega)
  · (refine byFin ?_)
    rfl
theorem anyRows_w {h : H} {T : Hull} {m : Nat} (hm : m ≤ h.next) (hT : T.Ok m h) {pf : Value} (hy : ∀ i h1, i < T.n → Quiet h.next h h1 → ∃ v h2, v = .bool false ∧ ACall Tryz.prog pf h1.next h1 [.slice (T.rb i) (T.w i) (T.rc i)] v h2) :
    AW Tryz.prog 106 h.next h [.slice T.b T.n T.c, pf] (fun v _ => v = .bool false) := by
  refine fun106.call rfl (Nat.le_refl _) ?_
  unfold a106
  (focus ((try with_reducible apply wpC.to); (repeat' ((conv => whnf); first | refine byEv ?_ | (apply Fork.mk <;> (intro _; try (exfalso; omega))) | fail)); all_goals ((conv => whnf); try with_reducible apply At.mk)))
  apply q_call
  focus (exact byNext)
  focus (exact byLo)
  focus exact indexRows_w (m := m) byOm (hT.same bySame (Nat.le_refl _)) fun i h1 hi q => hy i h1 hi (Quiet.trans byQuiet (q.mono byOm))
  rintro _ h1 rfl q hn
  (focus ((try with_reducible apply wpC.to); (repeat' ((conv => whnf); first | refine byEv ?_ | (apply Fork.mk <;> (intro _; try (exfalso; omega))) | fail)); all_goals ((conv => whnf); try with_reducible apply At.mk)))
  (refine byFin ?_)
  rfl
theorem lines_w {h : H} {b : Option Addr} {n c r w : Nat} (hg : h.get r = some (.cells [.int .i64 w] 3)) (e : n = w) : AW Tryz.prog 107 h.next h [.slice b n c, .pointer (some ⟨r, 0, none⟩)] (fun v _ => v = .bool false) := by
  subst e
  refine fun107.call rfl (Nat.le_refl _) ?_
  unfold a107
  (focus ((try with_reducible apply wpC.to); (repeat' ((conv => whnf); first | refine byEv ?_ | (apply Fork.mk <;> (intro _; try (exfalso; omega))) | refine xTopB20 ?_ | fail)); all_goals ((conv => whnf); try with_reducible apply At.mk)))
  all_goals ((refine byFin ?_); rfl)

/-- The least numbers so far are at most z. -/
def Hull.Upto (H : Hull) (i k : Nat) (z : Int) : Prop := ∀ i' k', i' < H.n → k' < H.w 0 → (i' < i ∨ i' = i ∧ k' < k) → (H.f i' k').lo ≤ z
set_option maxHeartbeats 1000000 in
theorem checkHull_w {h : H} {T : Hull} {m : Nat} (hm : m ≤ h.next) (hT : T.Ok m h) (V : T.Valid) : AW Tryz.prog 42 h.next h [.agg ⟨T.cells⟩] (fun v _ => v = .int .i64 0) := by
  have hT' := hT
  obtain ⟨e1, i1, r1, l1, re, ri, rr, rl⟩ := hT
  obtain ⟨n1, n2, w1, w2, eq, s1, s2, pl, some⟩ := V
  refine fun42.call rfl (Nat.le_refl _) ?_
  unfold a42 Hull.cells
  (focus ((try with_reducible apply wpC.to); (repeat' ((conv => whnf); first | refine byEv ?_ | (apply Fork.mk <;> (intro _; try (exfalso; omega))) | ((first | refine kTopB11c ?_ | refine kTopB10c ?_); first | ((first | apply q_allD | apply q_alli | apply q_allB) <;> intro _ _ _ _ <;> try contradiction) | (apply q_allv; intro _ _ _)) | refine xTopB20 ?_ | fail)); all_goals ((conv => whnf); try with_reducible apply At.mk)))
  apply q_call
  focus (exact byNext)
  focus (exact byLo)
  focus exact anyRows_w (m := m) byOm (hT'.same bySame (Nat.le_refl _)) fun i h1 hi q => acall_of (lines_w (w := T.w 0) ((q.same _ byOm).trans byGet) (eq i hi)) rfl
  rintro _ h1 rfl q1 hn1
  have g1 : h1.get h.next = .some (.cells [.int .i64 T.sp, .int .i64 T.st, .slice T.b T.n T.c] 24) := (q1.same _ byOm).trans byGet
  have sm1 : Same h.next h h1 := fun x hx => (q1.same x byOm).trans (get_of fun y hy => byGet)
  have hn1' : h.next + 10 ≤ h1.next := by (exact byOm)
  clear q1
  (focus ((try with_reducible apply wpC.to); (repeat' ((conv => whnf); first | refine byEv ?_ | (apply Fork.mk <;> (intro _; try (exfalso; omega))) | ((first | refine kTopB11c ?_ | refine kTopB10c ?_); first | ((first | apply q_allD | apply q_alli | apply q_allB) <;> intro _ _ _ _ <;> try contradiction) | (apply q_allv; intro _ _ _)) | refine xTopB20 ?_ | fail)); all_goals ((conv => whnf); try with_reducible apply At.mk)))
  rename_i h2 q2 hn2 _ h3 q3 hn3 _
  have g3 : h3.get h.next = .some (.cells [.int .i64 T.sp, .int .i64 T.st, .slice T.b T.n T.c] 24) := (q3.same _ byOm).trans ((get_of fun y hy => byGet).trans ((q2.same _ byOm).trans byGet))
  have sm3 : Same h.next h h3 := fun x hx => (q3.same x byOm).trans ((get_of fun y hy => byGet).trans ((q2.same x byOm).trans (get_of fun y hy => byGet)))
  have hn3' : h.next + 10 ≤ h3.next := by (exact byOm)
  clear q2 q3
  refine wp_loop (fun s : Nat × Int => [(1, .pointer (.some ⟨h.next, 0, none⟩)), (4, .bool true), (5, .int .i64 s.2), (46, .slice T.b T.n T.c), (47, .int .i64 T.n), (48, .int .i64 s.1)]) (fun s h4 => Same h.next h h4 ∧ h.next + 10 ≤ h4.next ∧ s.1 ≤ T.n ∧ 0 ≤ s.2 ∧ T.Upto s.1 0 s.2) (fun s => T.n - s.1) (0, 0) ⟨rfl, rfl, rfl, rfl, rfl, rfl, trivial⟩ ⟨bySame, byOm, by simp, by simp, fun i' k' a b c => by dsimp only at c; omega⟩ ?_
  rintro ⟨i, z⟩ g4 h4 ⟨sm4, hn4, hi, hz, hup⟩ K hK
  dsimp only at hi hz hup
  dsimp only
  by_cases hin : i < T.n
  · have rei := re i hin
    have rii := ri i hin
    have rri := rr i hin
    have ewi := eq i hin
    (focus ((try with_reducible apply wpC.to); (repeat' ((conv => whnf); first | refine byEv ?_ | (apply Fork.mk <;> (intro _; try (exfalso; omega))) | ((first | refine kTopB11c ?_ | refine kTopB10c ?_); first | ((first | apply q_allD | apply q_alli | apply q_allB) <;> intro _ _ _ _ <;> try contradiction) | (apply q_allv; intro _ _ _)) | refine xTopB20 ?_ | fail)); all_goals ((conv => whnf); try with_reducible apply At.mk)))
    refine wp_loop (fun s : Nat × Int => [(1, .pointer (.some ⟨h.next, 0, none⟩)), (4, .bool true), (5, .int .i64 s.2), (46, .slice T.b T.n T.c), (47, .int .i64 T.n), (48, .int .i64 i), (52, .slice (T.rb i) (T.w i) (T.rc i)), (53, .int .i64 (T.w i)), (54, .int .i64 s.1)]) (fun s h4 => Same h.next h h4 ∧ h.next + 10 ≤ h4.next ∧ s.1 ≤ T.w 0 ∧ 0 ≤ s.2 ∧ T.Upto i s.1 s.2) (fun s => T.w 0 - s.1) (0, z) ⟨rfl, rfl, rfl, rfl, rfl, rfl, rfl, rfl, rfl, trivial⟩ ⟨bySame, byOm, by simp, hz, hup⟩ ?_
    rintro ⟨k, y⟩ g5 h5 ⟨sm5, hn5, hk, hy, hup5⟩ K5 hK5
    dsimp only at hk hy hup5
    dsimp only
    by_cases hkw : k < T.w 0
    · have hki : k < T.w i := by omega
      have hp' := pl i k hin hkw
      unfold PlaceOk at hp'
      (focus ((try with_reducible apply wpC.to); (repeat' ((conv => whnf); first | refine byEv ?_ | (apply Fork.mk <;> (intro _; try (exfalso; omega))) | ((first | refine kTopB11c ?_ | refine kTopB10c ?_); first | ((first | apply q_allD | apply q_alli | apply q_allB) <;> intro _ _ _ _ <;> try contradiction) | (apply q_allv; intro _ _ _)) | refine xTopB20 ?_ | fail)); all_goals ((conv => whnf); try with_reducible apply At.mk)))
      any_goals (exfalso; omega)
      refine hK5 (k + 1, max y (T.f i k).lo) _ _ ⟨rfl, rfl, rfl, rfl, rfl, rfl, rfl, rfl, int_of rfl (by dsimp only; omega), trivial⟩ ⟨bySame, byOm, by dsimp only; omega, by dsimp only; omega, fun i' k' a b c => ?_⟩ (by dsimp only; omega)
      dsimp only at c ⊢
      by_cases e : i' = i ∧ k' = k
      · obtain ⟨rfl, rfl⟩ := e; omega
      · have := hup5 i' k' a b (by omega); omega
    · obtain rfl : k = T.w 0 := by omega
      (focus ((try with_reducible apply wpC.to); (repeat' ((conv => whnf); first | refine byEv ?_ | (apply Fork.mk <;> (intro _; try (exfalso; omega))) | ((first | refine kTopB11c ?_ | refine kTopB10c ?_); first | ((first | apply q_allD | apply q_alli | apply q_allB) <;> intro _ _ _ _ <;> try contradiction) | (apply q_allv; intro _ _ _)) | refine xTopB20 ?_ | fail)); all_goals ((conv => whnf); try with_reducible apply At.mk)))
      refine hK (i + 1, y) _ _ ⟨rfl, rfl, rfl, rfl, rfl, int_of rfl (by dsimp only; omega), trivial⟩ ⟨bySame, byOm, by dsimp only; omega, hy, fun i' k' a b c => ?_⟩ (by dsimp only; omega)
      dsimp only at c ⊢
      exact hup5 i' k' a b (by omega)
  · obtain rfl : i = T.n := by omega
    have hz0 : z ≠ 0 := fun e => by
      obtain ⟨i', k', a, b, d⟩ := some
      have := hup i' k' a b (by omega)
      omega
    (focus ((try with_reducible apply wpC.to); (repeat' ((conv => whnf); first | refine byEv ?_ | (apply Fork.mk <;> (intro _; try (exfalso; omega))) | ((first | refine kTopB11c ?_ | refine kTopB10c ?_); first | ((first | apply q_allD | apply q_alli | apply q_allB) <;> intro _ _ _ _ <;> try contradiction) | (apply q_allv; intro _ _ _)) | refine xTopB20 ?_ | fail)); all_goals ((conv => whnf); try with_reducible apply At.mk)))
    (refine byFin ?_)
    rfl
end AE.Tryz

/- Walks of box: offsets within the tolerances of a valid hull are those of a true one. -/
namespace AE.Tryz
open Go AE Go.Proofs AE.Box
set_option maxRecDepth 100000
set_option linter.unusedVariables false

/-- Offsets, as they come: n rows of w. -/
structure Grid where
  n : Nat
  w : Nat
  b : Option Addr
  a : Addr
  c : Nat
  ra : Nat → Addr
  rc : Nat → Nat
  f : Nat → Nat → Int
structure Grid.Ok (Y : Grid) (m : Nat) (h : H) : Prop where
  e : 0 < Y.n → Y.b = some Y.a
  i : Vals h Y.a Y.n (fun i => .slice (some (Y.ra i)) Y.w (Y.rc i))
  r : 0 < Y.n → Y.a.block < m
  ri : ∀ i, i < Y.n → Ints h (Y.ra i) Y.w (Y.f i)
  rr : ∀ i, i < Y.n → (Y.ra i).block < m
theorem Grid.Ok.same {T : Grid} {m m' : Nat} {h h' : H} (k : T.Ok m h) (s : Same m h h') (hm : m ≤ m') : T.Ok m' h' :=
  ⟨k.e, k.i.same s k.r, fun h => by have := k.r h; omega, fun i hi => (k.ri i hi).same s (fun _ => k.rr i hi), fun i hi => by have := k.rr i hi; omega⟩
/-- The offsets are those of a true hull. -/
structure Fits2 (T : Hull) (Y : Grid) : Prop where
  v : T.Valid
  n : Y.n = T.n
  w : Y.w = T.w 0
  inn : T.hul.In Y.f
theorem Fits2.at {T : Hull} {Y : Grid} (F : Fits2 T Y) {i k : Nat} (hi : i < T.n) (hk : k < T.w 0) : (T.f i k).lo ≤ Y.f i k ∧ Y.f i k ≤ (T.f i k).hi := F.inn i k hi hk
set_option maxHeartbeats 1000000 in
theorem checkTrue_w {h : H} {T : Hull} {Y : Grid} {m m' : Nat} (hm : m ≤ h.next) (hm' : m' ≤ h.next) (hT : T.Ok m h) (hY : Y.Ok m' h) (F : Fits2 T Y) : AW Tryz.prog 12 h.next h [.agg ⟨T.cells⟩, .slice Y.b Y.n Y.c] (fun v _ => v = .int .i64 0) := by
  have hT' := hT
  have V := F.v
  have fn := F.n
  have fw := F.w
  obtain ⟨e1, i1, r1, l1, re, ri, rr, rl⟩ := hT
  obtain ⟨ye, yi, yr, yri, yrr⟩ := hY
  obtain ⟨n1, n2, w1, w2, eq, s1, s2, pl, some⟩ := F.v
  refine fun12.call rfl (Nat.le_refl _) ?_
  unfold a12 Hull.cells
  (focus ((try with_reducible apply wpC.to); (repeat' ((conv => whnf); first | refine byEv ?_ | (apply Fork.mk <;> (intro _; try (exfalso; omega))) | ((first | refine kTopB11c ?_ | refine kTopB10c ?_); first | ((first | apply q_allD | apply q_alli | apply q_allB) <;> intro _ _ _ _ <;> try contradiction) | (apply q_allv; intro _ _ _)) | refine xTopB20 ?_ | fail)); all_goals ((conv => whnf); try with_reducible apply At.mk)))
  apply q_call
  focus (exact byNext)
  focus (exact byLo)
  focus exact checkHull_w (T := T) (m := m) byOm (hT'.same bySame (Nat.le_refl _)) V
  rintro _ h1 rfl q1 hn1
  have g1 : h1.get h.next = .some (.cells [.int .i64 T.sp, .int .i64 T.st, .slice T.b T.n T.c] 24) := (q1.same _ byOm).trans byGet
  have sm1 : Same h.next h h1 := fun x hx => (q1.same x byOm).trans (get_of fun y hy => byGet)
  have hn1' : h.next + 2 ≤ h1.next := by (exact byOm)
  clear q1
  (focus ((try with_reducible apply wpC.to); (repeat' ((conv => whnf); first | refine byEv ?_ | (apply Fork.mk <;> (intro _; try (exfalso; omega))) | ((first | refine kTopB11c ?_ | refine kTopB10c ?_); first | ((first | apply q_allD | apply q_alli | apply q_allB) <;> intro _ _ _ _ <;> try contradiction) | (apply q_allv; intro _ _ _)) | refine xTopB20 ?_ | fail)); all_goals ((conv => whnf); try with_reducible apply At.mk)))
  refine wp_loop (fun s : Nat => [(2, .pointer (.some ⟨h.next, 0, none⟩)), (6, .int .i64 0), (22, .slice Y.b Y.n Y.c), (23, .int .i64 Y.n), (24, .int .i64 s)]) (fun s h4 => Same h.next h h4 ∧ h.next + 2 ≤ h4.next ∧ h4.get h.next = .some (.cells [.int .i64 T.sp, .int .i64 T.st, .slice T.b T.n T.c] 24) ∧ s ≤ T.n) (fun s => T.n - s) 0 ⟨rfl, rfl, rfl, rfl, rfl, trivial⟩ ⟨bySame, byOm, byGet, by simp⟩ ?_
  rintro i g4 h4 ⟨sm4, hn4, g4', hi⟩ K hK
  by_cases hin : i < T.n
  · have rei := re i hin
    have rii := ri i hin
    have rri := rr i hin
    have ewi := eq i hin
    have yii := yri i (by omega)
    have yrri := yrr i (by omega)
    (focus ((try with_reducible apply wpC.to); (repeat' ((conv => whnf); first | refine byEv ?_ | (apply Fork.mk <;> (intro _; try (exfalso; omega))) | ((first | refine kTopB11c ?_ | refine kTopB10c ?_); first | ((first | apply q_allD | apply q_alli | apply q_allB) <;> intro _ _ _ _ <;> try contradiction) | (apply q_allv; intro _ _ _)) | refine xTopB20 ?_ | fail)); all_goals ((conv => whnf); try with_reducible apply At.mk)))
    refine wp_loop (fun s : Nat => [(2, .pointer (.some ⟨h.next, 0, none⟩)), (6, .int .i64 0), (22, .slice Y.b Y.n Y.c), (23, .int .i64 Y.n), (24, .int .i64 i), (7, .int .i64 i), (38, .slice (.some (Y.ra i)) Y.w (Y.rc i)), (39, .int .i64 Y.w), (40, .int .i64 s)]) (fun s h4 => Same h.next h h4 ∧ h.next + 2 ≤ h4.next ∧ h4.get h.next = .some (.cells [.int .i64 T.sp, .int .i64 T.st, .slice T.b T.n T.c] 24) ∧ s ≤ T.w 0) (fun s => T.w 0 - s) 0 ⟨rfl, rfl, rfl, rfl, rfl, rfl, rfl, rfl, rfl, trivial⟩ ⟨bySame, byOm, byGet, by simp⟩ ?_
    rintro k g5 h5 ⟨sm5, hn5, g5', hk⟩ K5 hK5
    by_cases hkw : k < T.w 0
    · have hki : k < T.w i := by omega
      have hp' := F.at hin hkw
      have hky : k < Y.w := by omega
      (focus ((try with_reducible apply wpC.to); (repeat' ((conv => whnf); first | refine byEv ?_ | (apply Fork.mk <;> (intro _; try (exfalso; omega))) | ((first | refine kTopB11c ?_ | refine kTopB10c ?_); first | ((first | apply q_allD | apply q_alli | apply q_allB) <;> intro _ _ _ _ <;> try contradiction) | (apply q_allv; intro _ _ _)) | refine xTopB20 ?_ | fail)); all_goals ((conv => whnf); try with_reducible apply At.mk)))
      exact hK5 (k + 1) _ _ ⟨rfl, rfl, rfl, rfl, rfl, rfl, rfl, rfl, int_of rfl (by omega), trivial⟩ ⟨bySame, byOm, byGet, by omega⟩ (by omega)
    · obtain rfl : k = T.w 0 := by omega
      (focus ((try with_reducible apply wpC.to); (repeat' ((conv => whnf); first | refine byEv ?_ | (apply Fork.mk <;> (intro _; try (exfalso; omega))) | ((first | refine kTopB11c ?_ | refine kTopB10c ?_); first | ((first | apply q_allD | apply q_alli | apply q_allB) <;> intro _ _ _ _ <;> try contradiction) | (apply q_allv; intro _ _ _)) | refine xTopB20 ?_ | fail)); all_goals ((conv => whnf); try with_reducible apply At.mk)))
      exact hK (i + 1) _ _ ⟨rfl, rfl, rfl, rfl, int_of rfl (by omega), trivial⟩ ⟨bySame, byOm, byGet, by omega⟩ (by omega)
  · obtain rfl : i = T.n := by omega
    (focus ((try with_reducible apply wpC.to); (repeat' ((conv => whnf); first | refine byEv ?_ | (apply Fork.mk <;> (intro _; try (exfalso; omega))) | ((first | refine kTopB11c ?_ | refine kTopB10c ?_); first | ((first | apply q_allD | apply q_alli | apply q_allB) <;> intro _ _ _ _ <;> try contradiction) | (apply q_allv; intro _ _ _)) | refine xTopB20 ?_ | fail)); all_goals ((conv => whnf); try with_reducible apply At.mk)))
    (refine byFin ?_)
    rfl
end AE.Tryz
