/- Walks of span: the least value, and a truth that has it. -/
import Derived.Test.YtkkndecbijgolaaSpanQ
set_option linter.unusedVariables false
set_option linter.unusedSimpArgs false
set_option linter.unusedSectionVars false
namespace AE.Try
open Go AE Go.Proofs AE.Sp
set_option maxRecDepth 100000
set_option linter.unusedVariables false

/-- N / D is the least value of two factors. -/
structure Lst (L : Runs) (p q N D : Int) : Prop where
  d : 0 < D
  at' : ∃ t : Tru, (∀ i, i < L.n → (L.f i).Fit t) ∧ (p * t.a + q * t.b) * D = N * t.d ∧ 0 < t.d
  le : ∀ t : Tru, (∀ i, i < L.n → (L.f i).Fit t) → 0 < t.d → N * t.d ≤ (p * t.a + q * t.b) * D
theorem Lst.le2 {L : Runs} {p q N D N' D' : Int} (k : Lst L p q N D) (k' : Lst L p q N' D') : N * D' ≤ N' * D := by
  obtain ⟨t, h1, h2, h3⟩ := k'.at'
  have h4 := k.le t h1 h3
  refine le_of_mul h3 ?_
  have e1 : N * D' * t.d = N * t.d * D' := by ac_rfl
  have e2 : N' * D * t.d = (p * t.a + q * t.b) * D * D' := by
    have : N' * D * t.d = N' * t.d * D := by ac_rfl
    rw [this, ← h2]; ac_rfl
  rw [e1, e2]
  exact Int.mul_le_mul_of_nonneg_right h4 (by have := k'.d; omega)
theorem Lst.same {L : Runs} {p q N D N' D' : Int} (k : Lst L p q N D) (k' : Lst L p q N' D') : fr N D = fr N' D' := fr_eq k.d k'.d (Int.le_antisymm (k.le2 k') (k'.le2 k))
theorem Best.lst {L : Runs} {p q : Int} {b m : Nat} {h : H} {M : Mk} (k : Best L p q b m h M) : Lst L p q M.s.w M.t := by
  refine ⟨k.nice.t.1, ?_, fun t hf hd => ?_⟩
  · obtain ⟨t, -, h2, h3, h4⟩ := k.cor ⟨L.n, L.f, 0, none, ⟨0, 0, none⟩, none, ⟨0, 0, none⟩⟩ rfl rfl
    exact ⟨t, h2, h3, h4⟩
  · have := comb_fit (fit_sides.2 hf) fun p hp => (k.ok.v p hp).1
    rw [← k.ok.s] at this
    unfold Sd.Fit Sd.val at this
    rw [k.u, k.v] at this
    have e : (p * t.a + q * t.b) * M.t = M.t * p * t.a + M.t * q * t.b := by
      rw [Int.add_mul]
      have x1 : p * t.a * M.t = M.t * p * t.a := by ac_rfl
      have x2 : q * t.b * M.t = M.t * q * t.b := by ac_rfl
      omega
    rw [e]
    exact this
open Classical in
/-- The least value, or 0 / 0. -/
noncomputable def Runs.lval (L : Runs) (p q : Int) : Fr := if h : L.lerr p q = 0 ∧ ∃ N D, Lst L p q N D then fr (Classical.choose h.2) (Classical.choose (Classical.choose_spec h.2)) else ⟨0, 0⟩
theorem Lst.val {L : Runs} {p q N D : Int} (k : Lst L p q N D) (he : L.lerr p q = 0) : L.lval p q = fr N D := by
  unfold Runs.lval
  rw [dif_pos ⟨he, N, D, k⟩]
  exact (Classical.choose_spec (Classical.choose_spec (show L.lerr p q = 0 ∧ ∃ N D, Lst L p q N D from ⟨he, N, D, k⟩).2)).same k
theorem Runs.lval_err {L : Runs} {p q : Int} (he : L.lerr p q ≠ 0) : L.lval p q = ⟨0, 0⟩ := by
  unfold Runs.lval
  rw [dif_neg fun k => he k.1]
theorem Best.val {L : Runs} {p q : Int} {b m : Nat} {h : H} {M : Mk} (k : Best L p q b m h M) (he : L.lerr p q = 0) : M.fr = L.lval p q := (k.lst.val he).symm
theorem kSpanR0 {G G' : Prop} (g : G') (t : G' → G := by ((apply q_call); (focus exact byNext); (focus exact byLo); (focus ((apply bound_w; focus exact Best.nice (by assumption)))))) : G := t g

set_option maxHeartbeats 2000000 in
theorem least_w {h : H} {L : Runs} {m : Nat} {p q : Int} (hm : m ≤ h.next) (hL : L.Ok m h) : AW Try.prog 22 h.next h [.slice L.b L.n L.c, .int .i64 p, .int .i64 q] (fun v _ => v = .tuple #[.agg ⟨(L.lval p q).cells⟩, .int .i64 (L.lerr p q)]) := by
  refine fun22.call rfl (Nat.le_refl _) ?_
  unfold a22
  (focus ((try with_reducible apply wpC.to); (repeat' ((conv => whnf); first | refine byEv ?_ | (apply Fork.mk <;> (intro _; try (exfalso; omega))) | ((first | refine kSpanR0 ?_ | refine kSpanK0 ?_); first | ((first | apply q_allD | apply q_alli | apply q_allB) <;> intro _ _ _ _ <;> try contradiction) | (apply q_allv; intro _ _ _)) | fail)); all_goals ((conv => whnf); try with_reducible apply At.mk)))
  apply q_call
  focus (exact byNext)
  focus (exact byLo)
  focus exact best_w (L := L) (m := m) (p := p) (q := q) byOm (hL.same bySame (Nat.le_refl _))
  rintro _ h2 ⟨M, rfl, b1, b2⟩ q2 n2
  have eM : (⟨M.cells⟩ : Array Value) = ⟨[.map M.r, .int .i64 M.s.u, .int .i64 M.s.v, .int .i64 M.s.w, .int .i64 M.t]⟩ := rfl
  rw [eM]
  by_cases he : L.lerr p q = 0
  · have bs := b2 he
    rw [he, ← bs.val he]
    (focus ((try with_reducible apply wpC.to); (repeat' ((conv => whnf); first | refine byEv ?_ | (apply Fork.mk <;> (intro _; try (exfalso; omega))) | ((first | refine kSpanR0 ?_ | refine kSpanK0 ?_); first | ((first | apply q_allD | apply q_alli | apply q_allB) <;> intro _ _ _ _ <;> try contradiction) | (apply q_allv; intro _ _ _)) | fail)); all_goals ((conv => whnf); try with_reducible apply At.mk)))
    (refine byFin ?_)
    rfl
  · rw [Runs.lval_err he]
    (focus ((try with_reducible apply wpC.to); (repeat' ((conv => whnf); first | refine byEv ?_ | (apply Fork.mk <;> (intro _; try (exfalso; omega))) | ((first | refine kSpanR0 ?_ | refine kSpanK0 ?_); first | ((first | apply q_allD | apply q_alli | apply q_allB) <;> intro _ _ _ _ <;> try contradiction) | (apply q_allv; intro _ _ _)) | fail)); all_goals ((conv => whnf); try with_reducible apply At.mk)))
    (refine byFin ?_)
    rfl
theorem corners_c {h : H} {T : Tab} : AW Try.prog 53 h.next h [.pointer (some ⟨T.r, 0, none⟩)] (fun v h' => ∃ r1, v = .func (.func 82) ⟨[]⟩ ⟨[.pointer (some ⟨r1, 0, none⟩)]⟩ ∧ (h.next ≤ r1 ∧ r1 < h'.next) ∧ h'.get r1 = some (.cells [.pointer (some ⟨T.r, 0, none⟩)] 84)) := by
  refine fun53.call rfl (Nat.le_refl _) ?_
  unfold a53
  (focus ((try with_reducible apply wpC.to); (repeat' ((conv => whnf); first | refine byEv ?_ | fail)); all_goals ((conv => whnf); try with_reducible apply At.mk)))
  (refine byFin ?_)
  exact ⟨h.next, rfl, ⟨by omega, byOm⟩, byGet⟩
theorem Runs.err2_0 {L : Runs} {p q : Int} (he : L.err2 p q = 0) : L.err = 0 ∧ Fac p q := by
  unfold Runs.err2 at he
  split at he
  · contradiction
  · split at he
    · exact ⟨by omega, by assumption⟩
    · omega
theorem Runs.lerr_0 {L : Runs} {p q : Int} (he : L.lerr p q = 0) : L.err2 p q = 0 ∧ L.Cl ∧ L.Bnd p q := by
  unfold Runs.lerr at he
  split at he
  · contradiction
  · split at he
    · omega
    · split at he
      · omega
      · exact ⟨by omega, Classical.not_not.1 (by assumption), Classical.not_not.1 (by assumption)⟩
theorem Runs.fit_0 {L : Runs} {t : Tru} (h : L.fitErr t = 0) : L.err = 0 ∧ t.Val ∧ ∀ i, i < L.n → (L.f i).Fit t := by
  unfold Runs.fitErr at h
  split at h
  · contradiction
  · split at h
    · omega
    · split at h
      · exact ⟨by omega, Classical.not_not.1 (by assumption), by assumption⟩
      · omega
theorem Runs.fit_of {L : Runs} {t : Tru} (h1 : L.err = 0) (h2 : t.Val) (h3 : ∀ i, i < L.n → (L.f i).Fit t) : L.fitErr t = 0 := by
  unfold Runs.fitErr
  rw [if_neg (by omega), if_neg (fun k => k h2), if_pos (show L.Fits t from h3)]
theorem corner_val {T : Tab} {m : Nat} {h : H} (hT : T.Ok m h) {t : Tru} (hc : CornerOf T t) (hd : 0 < t.d) : t.Val := by
  rcases hc with ⟨-, rfl⟩ | ⟨i, hi, rfl⟩ | ⟨i, j, ⟨hi, hj⟩, hc, rfl⟩
  · exact ⟨by dsimp only; omega, by dsimp only; omega, by dsimp only; omega⟩
  · obtain ⟨u, v, w⟩ := hT.up hi
    have m1 := mul_bnd u.1 u.2 w.1 w.2
    have m2 := mul_bnd v.1 v.2 w.1 w.2
    have m3 := mul_bnd u.1 u.2 u.1 u.2
    have m4 := mul_bnd v.1 v.2 v.1 v.2
    refine ⟨⟨by omega, ?_⟩, ?_, ?_⟩
    · unfold nr dt; dsimp only; omega
    · unfold nr; dsimp only; omega
    · unfold nr; dsimp only; omega
  · obtain ⟨u, v, w⟩ := hT.up hi
    obtain ⟨u', v', w'⟩ := hT.up hj
    have m1 := mul_bnd w.1 w.2 v'.1 v'.2
    have m2 := mul_bnd w'.1 w'.2 v.1 v.2
    have m3 := mul_bnd u.1 u.2 w'.1 w'.2
    have m4 := mul_bnd u'.1 u'.2 w.1 w.2
    have m5 := mul_bnd u.1 u.2 v'.1 v'.2
    have m6 := mul_bnd v.1 v.2 u'.1 u'.2
    refine ⟨⟨by omega, ?_⟩, ?_, ?_⟩
    · unfold vx cr; dsimp only; omega
    · unfold vx; dsimp only; omega
    · unfold vx; dsimp only; omega

/-- A truth that fits and has the least value. -/
structure Att (L : Runs) (p q : Int) (t : Tru) : Prop where
  f : L.fitErr t = 0
  v : fr (p * t.a + q * t.b) t.d = L.lval p q

set_option maxHeartbeats 8000000 in
theorem attain_w {h : H} {L : Runs} {m : Nat} {p q : Int} (hm : m ≤ h.next) (hL : L.Ok m h) : AW Try.prog 23 h.next h [.slice L.b L.n L.c, .int .i64 p, .int .i64 q] (fun v _ => ∃ t : Tru, v = .tuple #[.agg ⟨t.cells⟩, .int .i64 (L.lerr p q)] ∧ (L.lerr p q ≠ 0 → t = ⟨0, 0, 0⟩) ∧ (L.lerr p q = 0 → Att L p q t)) := by
  refine fun23.call rfl (Nat.le_refl _) ?_
  unfold a23
  (focus ((try with_reducible apply wpC.to); (repeat' ((conv => whnf); first | refine byEv ?_ | (apply Fork.mk <;> (intro _; try (exfalso; omega))) | ((first | refine kSpanR0 ?_ | refine kSpanK0 ?_ | refine kSpanC0 ?_); first | ((first | apply q_allD | apply q_alli | apply q_allB) <;> intro _ _ _ _ <;> try contradiction) | (apply q_allv; intro _ _ _)) | fail)); all_goals ((conv => whnf); try with_reducible apply At.mk)))
  apply q_call
  focus (exact byNext)
  focus (exact byLo)
  focus exact best_w (L := L) (m := m) (p := p) (q := q) byOm (hL.same bySame (Nat.le_refl _))
  rintro _ h2 ⟨M, rfl, b1, b2⟩ q2 n2
  have eM : (⟨M.cells⟩ : Array Value) = ⟨[.map M.r, .int .i64 M.s.u, .int .i64 M.s.v, .int .i64 M.s.w, .int .i64 M.t]⟩ := rfl
  rw [eM]
  by_cases he : L.lerr p q ≠ 0
  · (focus ((try with_reducible apply wpC.to); (repeat' ((conv => whnf); first | refine byEv ?_ | (apply Fork.mk <;> (intro _; try (exfalso; omega))) | ((first | refine kSpanR0 ?_ | refine kSpanK0 ?_ | refine kSpanC0 ?_); first | ((first | apply q_allD | apply q_alli | apply q_allB) <;> intro _ _ _ _ <;> try contradiction) | (apply q_allv; intro _ _ _)) | fail)); all_goals ((conv => whnf); try with_reducible apply At.mk)))
    (refine byFin ?_)
    exact ⟨⟨0, 0, 0⟩, rfl, fun _ => rfl, fun k => absurd k he⟩
  have he : L.lerr p q = 0 := by omega
  have bs := b2 he
  obtain ⟨e2, cl, bd⟩ := Runs.lerr_0 he
  obtain ⟨e1, fac⟩ := Runs.err2_0 e2
  obtain ⟨ln, lv⟩ := L.err_0 e1
  rw [he]
  (focus ((try with_reducible apply wpC.to); (repeat' ((conv => whnf); first | refine byEv ?_ | (apply Fork.mk <;> (intro _; try (exfalso; omega))) | ((first | refine kSpanR0 ?_ | refine kSpanK0 ?_ | refine kSpanC0 ?_); first | ((first | apply q_allD | apply q_alli | apply q_allB) <;> intro _ _ _ _ <;> try contradiction) | (apply q_allv; intro _ _ _)) | fail)); all_goals ((conv => whnf); try with_reducible apply At.mk)))
  apply q_call
  focus (exact byNext)
  focus (exact byLo)
  focus exact newTable_w (L := L) (m := m) byOm (hL.same bySame (Nat.le_refl _)) (by omega) lv
  rintro _ h4 ⟨T, rfl, tn, tf, tok⟩ q4 n4
  (focus ((try with_reducible apply wpC.to); (repeat' ((conv => whnf); first | refine byEv ?_ | (apply Fork.mk <;> (intro _; try (exfalso; omega))) | ((first | refine kSpanR0 ?_ | refine kSpanK0 ?_ | refine kSpanC0 ?_); first | ((first | apply q_allD | apply q_alli | apply q_allB) <;> intro _ _ _ _ <;> try contradiction) | (apply q_allv; intro _ _ _)) | fail)); all_goals ((conv => whnf); try with_reducible apply At.mk)))
  apply q_call
  focus (exact byNext)
  focus (exact byLo)
  focus exact corners_c (T := T)
  rintro _ h5 ⟨r1, rfl, b1', g1⟩ q5 n5
  (focus ((try with_reducible apply wpC.to); (repeat' ((conv => whnf); first | refine byEv ?_ | (apply Fork.mk <;> (intro _; try (exfalso; omega))) | ((first | refine kSpanR0 ?_ | refine kSpanK0 ?_ | refine kSpanC0 ?_); first | ((first | apply q_allD | apply q_alli | apply q_allB) <;> intro _ _ _ _ <;> try contradiction) | (apply q_allv; intro _ _ _)) | fail)); all_goals ((conv => whnf); try with_reducible apply At.mk)))
  refine wp_forget (l := [(3, .pointer (some ⟨h.next, 0, none⟩)), (4, .pointer (some ⟨h.next + 1, 0, none⟩)), (5, .pointer (some ⟨h.next + 2, 0, none⟩)), (6, .pointer (some ⟨h.next + 3, 0, none⟩)), (7, .pointer (some ⟨h.next + 4, 0, none⟩)), (10, .pointer (some ⟨h2.next + 4, 0, none⟩)), (27, .func (.func 82) ⟨[]⟩ ⟨[.pointer (some ⟨r1, 0, none⟩)]⟩)]) ⟨rfl, rfl, rfl, rfl, rfl, rfl, rfl, trivial⟩ fun g' => ?_
  apply wp_range
  focus exact rfl
  focus (exact byNext)
  focus (exact byList)
  intro L0 hL0
  have x0 : h5.get h.next = some (.cells [.slice L.b L.n L.c] 22) := by (exact byGet)
  have x1 : h5.get (h.next + 1) = some (.cells [.int .i64 p] 2) := by (exact byGet)
  have x2 : h5.get (h.next + 2) = some (.cells [.int .i64 q] 2) := by (exact byGet)
  have x3 : h5.get (h.next + 3) = some (.cells [.int .i64 0, .int .i64 0, .int .i64 0] 24) := by (exact byGet)
  have x4 : h5.get (h.next + 4) = some (.cells [.int .i64 0] 26) := by (exact byGet)
  have x5 : h5.get (h2.next + 4) = some (.cells [.int .i64 M.fr.n, .int .i64 M.fr.d] 38) := by (exact byGet)
  have sm5 : Same m h h5 := by (exact bySame)
  have o1 : h.next + 13 ≤ h2.next := by omega
  have o2 : h2.next + 9 ≤ h5.next := by omega
  have tok5 : T.Ok h5.next h5 := tok.same bySame (by omega)
  have vb := bs.nice.rng
  have ev := bs.val he
  refine ⟨_, corners_w (T := T) (m := h5.next) (r1 := r1) byOm (tok5.same bySame (Nat.le_refl _)) byOm byGet byOm
    (fun l h1 => h1.get h.next = some (.cells [.slice L.b L.n L.c] 22) ∧ h1.get (h.next + 1) = some (.cells [.int .i64 p] 2) ∧ h1.get (h.next + 2) = some (.cells [.int .i64 q] 2) ∧ h1.get (h.next + 3) = some (.cells [.int .i64 0, .int .i64 0, .int .i64 0] 24) ∧ h1.get (h.next + 4) = some (.cells [.int .i64 0] 26) ∧ h1.get (h2.next + 4) = some (.cells [.int .i64 M.fr.n, .int .i64 M.fr.d] 38) ∧ Same m h h1 ∧ Same h5.next h5 h1 ∧ h1.get h5.next = some (.loop L0) ∧ h5.next < h1.next ∧ ∀ t ∈ l, ¬ Att L p q t)
    (fun h1 => ∃ t : Tru, Att L p q t ∧ h1.get (h.next + 3) = some (.cells t.cells 24) ∧ h1.get (h.next + 4) = some (.cells [.int .i64 0] 26) ∧ h1.get h5.next = some (.loop (ended (busy L0) .ret)) ∧ h5.next < h1.next)
    (fun l h1 k => ⟨(k.2.2.2.2.2.2.2.1 _ b1'.2).trans (Eq.symm (get_of fun y hy => byGet)), fun r hr => (k.2.2.2.2.2.2.2.1 r hr).trans (Eq.symm (get_of fun y hy => byGet))⟩) ?_ ?_ ?_ ?_, ?_⟩
  · rintro l h6 h7 ⟨k0, k1, k2, k3, k4, k5, k6, k7, k8, k9, k10⟩ qq
    have := qq.next
    exact ⟨byGet, byGet, byGet, byGet, byGet, byGet, k6.trans bySame, k7.trans bySame, byGet, by omega, k10⟩
  · rintro h6 h7 ⟨t, k1, k2, k3, k4, k5⟩ qq
    have := qq.next
    exact ⟨t, k1, byGet, byGet, byGet, by omega⟩
  · rintro l t h6 hc ⟨k0, k1, k2, k3, k4, k5, k6, k7, k8, k9, k10⟩ hle
    simp only [put_next, bump_next] at hle
    have tb : L.fitErr t = 0 → t.Val := fun h => (Runs.fit_0 h).2.1
    refine YA.call fun23.mixed (A := a23A0) (B := a23B0) (L := L0) (by rw [hL0]; exact c23A0) (by rw [hL0]; exact c23B0) k8 (by omega) (by omega) (by rw [hL0]; exact rfl) (by rw [hL0]; exact rfl) ?_
    unfold YA a23A0
    refine wp_forget (l := [(3, .pointer (some ⟨h.next, 0, none⟩)), (4, .pointer (some ⟨h.next + 1, 0, none⟩)), (5, .pointer (some ⟨h.next + 2, 0, none⟩)), (6, .pointer (some ⟨h.next + 3, 0, none⟩)), (7, .pointer (some ⟨h.next + 4, 0, none⟩)), (10, .pointer (some ⟨h2.next + 4, 0, none⟩)), (28, .agg ⟨t.cells⟩)]) ⟨by rw [hL0]; exact rfl, by rw [hL0]; exact rfl, by rw [hL0]; exact rfl, by rw [hL0]; exact rfl, by rw [hL0]; exact rfl, by rw [hL0]; exact rfl, by rw [hL0]; exact rfl, trivial⟩ fun g'' => ?_
    unfold Tru.cells
    (focus ((try with_reducible apply wpC.to); (repeat' ((conv => whnf); first | refine byEv ?_ | (apply Fork.mk <;> (intro _; try (exfalso; omega))) | ((first | refine kSpanR0 ?_ | refine kSpanK0 ?_ | refine kSpanC0 ?_); first | ((first | apply q_allD | apply q_alli | apply q_allB) <;> intro _ _ _ _ <;> try contradiction) | (apply q_allv; intro _ _ _)) | fail)); all_goals ((conv => whnf); try with_reducible apply At.mk)))
    refine ⟨rfl, L0, byGet, by rw [hL0]; exact rfl, ?_⟩
    unfold a23B0
    have hL1 : ended (busy L0) .none = L0 := by rw [hL0]; exact rfl
    (focus ((try with_reducible apply wpC.to); (repeat' ((conv => whnf); first | refine byEv ?_ | (apply Fork.mk <;> (intro _; try (exfalso; omega))) | ((first | refine kSpanR0 ?_ | refine kSpanK0 ?_ | refine kSpanC0 ?_); first | ((first | apply q_allD | apply q_alli | apply q_allB) <;> intro _ _ _ _ <;> try contradiction) | (apply q_allv; intro _ _ _)) | fail)); all_goals ((conv => whnf); try with_reducible apply At.mk)))
    · have fz : L.fitErr t = 0 := by assumption
      have tv := tb fz
      obtain ⟨tv1, tv2, tv3⟩ := tv
      have m1 := mul_bnd fac.1.1 fac.1.2 tv2.1 tv2.2
      have m2 := mul_bnd fac.2.1 fac.2.2 tv3.1 tv3.2
      (focus ((try with_reducible apply wpC.to); (repeat' ((conv => whnf); first | refine byEv ?_ | (apply Fork.mk <;> (intro _; try (exfalso; omega))) | ((first | refine kSpanR0 ?_ | refine kSpanK0 ?_ | refine kSpanC0 ?_); first | ((first | apply q_allD | apply q_alli | apply q_allB) <;> intro _ _ _ _ <;> try contradiction) | (apply q_allv; intro _ _ _)) | fail)); all_goals ((conv => whnf); try with_reducible apply At.mk)))
      apply q_callv
      focus (exact byNext)
      focus (exact byLo)
      focus exact ratio_w (by omega) (by omega)
      intro h7 q7 n7
      (focus ((try with_reducible apply wpC.to); (repeat' ((conv => whnf); first | refine byEv ?_ | (apply Fork.mk <;> (intro _; try (exfalso; omega))) | ((first | refine kSpanR0 ?_ | refine kSpanK0 ?_ | refine kSpanC0 ?_); first | ((first | apply q_allD | apply q_alli | apply q_allB) <;> intro _ _ _ _ <;> try contradiction) | (apply q_allv; intro _ _ _)) | fail)); all_goals ((conv => whnf); try with_reducible apply At.mk)))
      by_cases hv : fr (p * t.a + q * t.b) t.d = M.fr
      · refine OpE.pure (.bool true) (xPure_eql (A := ⟨(fr (p * t.a + q * t.b) t.d).cells⟩) (B := ⟨M.fr.cells⟩) rfl rfl rfl rfl rfl (by kernel_rfl) ((eql_fr _ _).trans (congrArg some (decide_eq_true hv)))) ?_
        (focus ((try with_reducible apply wpC.to); (repeat' ((conv => whnf); first | refine byEv ?_ | (apply Fork.mk <;> (intro _; try (exfalso; omega))) | ((first | refine kSpanR0 ?_ | refine kSpanK0 ?_ | refine kSpanC0 ?_); first | ((first | apply q_allD | apply q_alli | apply q_allB) <;> intro _ _ _ _ <;> try contradiction) | (apply q_allv; intro _ _ _)) | fail)); all_goals ((conv => whnf); try with_reducible apply At.mk)))
        refine ⟨.ret, _, rfl, byGet, .inr ⟨rfl, t, ⟨fz, hv.trans ev⟩, byGet, byGet, byGet, byOm⟩, fun r hr1 hr2 => by simp only [put_next, bump_next] at hr1; exact get_of fun y hy => byGet⟩
      · refine OpE.pure (.bool false) (xPure_eql (A := ⟨(fr (p * t.a + q * t.b) t.d).cells⟩) (B := ⟨M.fr.cells⟩) rfl rfl rfl rfl rfl (by kernel_rfl) ((eql_fr _ _).trans (congrArg some (decide_eq_false hv)))) ?_
        (focus ((try with_reducible apply wpC.to); (repeat' ((conv => whnf); first | refine byEv ?_ | (apply Fork.mk <;> (intro _; try (exfalso; omega))) | ((first | refine kSpanR0 ?_ | refine kSpanK0 ?_ | refine kSpanC0 ?_); first | ((first | apply q_allD | apply q_alli | apply q_allB) <;> intro _ _ _ _ <;> try contradiction) | (apply q_allv; intro _ _ _)) | fail)); all_goals ((conv => whnf); try with_reducible apply At.mk)))
        refine ⟨.none, _, rfl, byGet, .inl ⟨rfl, byGet, byGet, byGet, byGet, byGet, byGet, k6.trans bySame, k7.trans (fun r hr => get_of fun y hy => byGet), by rw [hL1]; (exact byGet), byOm, fun t' ht' => ?_⟩, fun r hr1 hr2 => by simp only [put_next, bump_next] at hr1; exact get_of fun y hy => byGet⟩
        rcases List.mem_append.1 ht' with h1 | h1
        · exact k10 t' h1
        · rw [List.mem_singleton.1 h1]; exact fun k => hv (k.v.trans ev.symm)
    · refine ⟨.none, _, rfl, byGet, .inl ⟨rfl, byGet, byGet, byGet, byGet, byGet, byGet, k6.trans bySame, k7.trans (fun r hr => get_of fun y hy => byGet), by rw [hL1]; (exact byGet), byOm, fun t' ht' => ?_⟩, fun r hr1 hr2 => by simp only [put_next, bump_next] at hr1; exact get_of fun y hy => byGet⟩
      rcases List.mem_append.1 ht' with h1 | h1
      · exact k10 t' h1
      · rw [List.mem_singleton.1 h1]; exact fun k => absurd k.f (by assumption)
  · exact ⟨byGet, byGet, byGet, byGet, byGet, byGet, bySame, bySame, byGet, byOm, fun t ht => absurd ht (by simp)⟩
  · rintro v h6 hv qq
    rcases hv with ⟨l, hl, k0, k1, k2, k3, k4, k5, k6, k7, k8, k9, k10⟩ | ⟨t, k1, k2, k3, k4, k5⟩
    · exfalso
      obtain ⟨t, c1, c2, c3, c4⟩ := bs.cor T tn tf
      have tv := corner_val tok c1 c4
      refine k10 t (hl t c1) ⟨Runs.fit_of e1 tv c2, ?_⟩
      rw [← ev]
      exact fr_eq c4 bs.nice.t.1 c3
    · refine ⟨_, k4, by rw [hL0]; simp [loop0, ended, busy, pendS], ?_⟩
      simp only [ended, pendE]
      unfold Tru.cells at k2
      (focus ((try with_reducible apply wpC.to); (repeat' ((conv => whnf); first | refine byEv ?_ | (apply Fork.mk <;> (intro _; try (exfalso; omega))) | ((first | refine kSpanR0 ?_ | refine kSpanK0 ?_ | refine kSpanC0 ?_); first | ((first | apply q_allD | apply q_alli | apply q_allB) <;> intro _ _ _ _ <;> try contradiction) | (apply q_allv; intro _ _ _)) | fail)); all_goals ((conv => whnf); try with_reducible apply At.mk)))
      (refine byFin ?_)
      exact ⟨t, rfl, fun k => absurd rfl k, fun _ => k1⟩
end AE.Try
