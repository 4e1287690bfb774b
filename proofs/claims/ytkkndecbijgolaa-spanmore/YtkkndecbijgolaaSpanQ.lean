/- Walks of span: the best sum of sides. -/
import Derived.Test.YtkkndecbijgolaaSpanP
set_option linter.unusedVariables false
set_option linter.unusedSimpArgs false
set_option linter.unusedSectionVars false
namespace AE.Try
open Go AE Go.Proofs AE.Sp
set_option maxRecDepth 100000
set_option linter.unusedVariables false

/-- Two factors are bounded. -/
def Runs.Bnd (L : Runs) (p q : Int) : Prop := (p = 0 ∧ q = 0) ∨ ∃ g N D, Grp (2 * L.n) 2 g ∧ CandOf (sides L.f) ⟨p, q, 0⟩ g N D
def Runs.Cl (L : Runs) : Prop := Clean (sides L.f) (2 * L.n)
open Classical in
noncomputable def Runs.lerr (L : Runs) (p q : Int) : Int := if L.err2 p q ≠ 0 then L.err2 p q else if ¬ L.Cl then 20 else if ¬ L.Bnd p q then 5 else 0
/-- The best sum of sides. -/
structure Best (L : Runs) (p q : Int) (b m : Nat) (h : H) (M : Mk) : Prop where
  ok : M.Ok (sides L.f) (2 * L.n) b m h
  nice : M.Nice
  u : M.s.u = M.t * p
  v : M.s.v = M.t * q
  r : M.r ≠ .none
  cor : ∀ T : Tab, T.n = L.n → T.f = L.f → ∃ t, CornerOf T t ∧ (∀ i, i < L.n → (L.f i).Fit t) ∧ (p * t.a + q * t.b) * M.t = M.s.w * t.d ∧ 0 < t.d
theorem Best.frame {L : Runs} {p q : Int} {b b' m m' : Nat} {h h' : H} {M : Mk} (k : Best L p q b m h M) (hb : b' ≤ b) (hm : m ≤ m') (s : ∀ r, b ≤ r → r < m → h'.get r = h.get r) : Best L p q b' m' h' M := ⟨k.ok.frame hb hm s, k.nice, k.u, k.v, k.r, k.cor⟩

set_option maxHeartbeats 2000000 in
theorem most0_w {h : H} {T : Tab} : AW Try.prog 81 h.next h [.pointer (some ⟨T.r, 0, none⟩), .int .i64 0, .int .i64 0] (fun v h' => ∃ r, (h.next ≤ r ∧ r < h'.next) ∧ v = .tuple #[.agg ⟨[.map (some r), .int .i64 0, .int .i64 0, .int .i64 0, .int .i64 1]⟩, .bool true] ∧ h'.get r = some (.map [] 0)) := by
  refine fun81.call rfl (Nat.le_refl _) ?_
  unfold a81
  (focus ((try with_reducible apply wpC.to); (repeat' ((conv => whnf); first | refine byEv ?_ | (apply Fork.mk <;> (intro _; try (exfalso; omega))) | ((first | refine kSpanH2 ?_ | refine kSpanH1 ?_ | refine kSpanH0 ?_ | refine kSpanG0 ?_); first | ((first | apply q_allD | apply q_alli | apply q_allB) <;> intro _ _ _ _ <;> try contradiction) | (apply q_allv; intro _ _ _)) | fail)); all_goals ((conv => whnf); try with_reducible apply At.mk)))
  refine OpE.pure (.bool true) (xPure_eql (A := ⟨(⟨0, 0, 0⟩ : Sd).cells⟩) (B := ⟨(⟨0, 0, 0⟩ : Sd).cells⟩) rfl rfl rfl rfl rfl (by kernel_rfl) ((eql_sd ⟨0, 0, 0⟩ ⟨0, 0, 0⟩).trans (congrArg some (decide_eq_true ⟨rfl, rfl, rfl⟩)))) ?_
  (focus ((try with_reducible apply wpC.to); (repeat' ((conv => whnf); first | refine byEv ?_ | (apply Fork.mk <;> (intro _; try (exfalso; omega))) | ((first | refine kSpanH2 ?_ | refine kSpanH1 ?_ | refine kSpanH0 ?_ | refine kSpanG0 ?_); first | ((first | apply q_allD | apply q_alli | apply q_allB) <;> intro _ _ _ _ <;> try contradiction) | (apply q_allv; intro _ _ _)) | fail)); all_goals ((conv => whnf); try with_reducible apply At.mk)))
  refine OpE.mk (v := .map (some (h.next + 11))) rfl ?_
  (focus ((try with_reducible apply wpC.to); (repeat' ((conv => whnf); first | refine byEv ?_ | (apply Fork.mk <;> (intro _; try (exfalso; omega))) | ((first | refine kSpanH2 ?_ | refine kSpanH1 ?_ | refine kSpanH0 ?_ | refine kSpanG0 ?_); first | ((first | apply q_allD | apply q_alli | apply q_allB) <;> intro _ _ _ _ <;> try contradiction) | (apply q_allv; intro _ _ _)) | fail)); all_goals ((conv => whnf); try with_reducible apply At.mk)))
  (refine byFin ?_)
  exact ⟨h.next + 11, ⟨by omega, byOm⟩, rfl, byGet⟩
theorem nz_sides {L : Runs} (lv : L.Val) : ∀ i, i < 2 * L.n → (sides L.f i).Nz := fun i hi => by
  have := (lv (i / 2) (by omega)).nz
  unfold sides Sd.Nz
  split
  · exact this
  · unfold Run.upper; dsimp only; omega
theorem best_of {L : Runs} {p q : Int} {b m : Nat} {h : H} {M : Mk} (lv : L.Val) (c : L.Cl) (hz : ¬ (p = 0 ∧ q = 0)) (k : Cand (sides L.f) (2 * L.n) ⟨p, q, 0⟩ b m h M) (hmx : ∀ g N D, Grp (2 * L.n) 2 g → CandOf (sides L.f) ⟨p, q, 0⟩ g N D → N * M.t ≤ M.s.w * D) : Best L p q b m h M := by
  obtain ⟨k1, k2, k3, k4, ⟨g, hg, hc⟩, k6⟩ := k
  refine ⟨k1, k2, k3, k4, k6, fun T e1 e2 => ?_⟩
  have eS : T.S = sides L.f := by unfold Tab.S; rw [e2]
  obtain ⟨t, h1, h2, h3, h4⟩ := corner_of (T := T) (by rw [eS, e1]; exact nz_sides lv) (by rw [eS, e1]; exact c) (p := p) (q := q) (N := M.s.w) (D := M.t) k2.t.1 (.inr (by rw [eS, e1]; exact top_of (nz_sides lv) (by unfold Sd.Nz; dsimp only; omega) hg hc hmx))
  rw [eS, e1] at h2
  exact ⟨t, h1, fit_sides.1 h2, h3, h4⟩
theorem best_0 {L : Runs} {b m r : Nat} {h : H} (lv : L.Val) (c : L.Cl) (hr : b ≤ r ∧ r < m) (hg : h.get r = some (.map [] 0)) : Best L 0 0 b m h ⟨some r, [], ⟨0, 0, 0⟩, 1⟩ := by
  refine ⟨⟨fun q e => ?_, (fun h => nomatch h), List.Pairwise.nil, (fun p hp => nomatch hp), Nat.zero_le _, rfl⟩, ⟨by dsimp only; omega, by dsimp only; omega⟩, rfl, rfl, (fun h => nomatch h), fun T e1 e2 => ?_⟩
  · obtain rfl := Option.some.inj e
    exact ⟨hr, hg⟩
  · have eS : T.S = sides L.f := by unfold Tab.S; rw [e2]
    obtain ⟨t, h1, h2, h3, h4⟩ := corner_of (T := T) (by rw [eS, e1]; exact nz_sides lv) (by rw [eS, e1]; exact c) (p := 0) (q := 0) (N := 0) (D := 1) (by decide) (.inl ⟨rfl, rfl, rfl⟩)
    rw [eS, e1] at h2
    exact ⟨t, h1, fit_sides.1 h2, h3, h4⟩
/-- What contradicts itself leaves no truth. -/
theorem bad_none {S : Nat → Sd} {n b m : Nat} {h : H} {M : Mk} (k : M.Ok S n b m h) (hb : M.Bad) {t : Tru} (hd : 0 < t.d) : ¬ ∀ e, e < n → (S e).Fit t := fun hf => by
  have := comb_fit hf fun p hp => (k.v p hp).1
  rw [← k.s] at this
  obtain ⟨-, ⟨h1, h2⟩, h3⟩ := hb
  unfold Sd.Fit Sd.val at this
  rw [h1, h2] at this
  have := Int.mul_pos h3 hd
  omega
/-- Sides that contradict each other are not clean. -/
theorem bad_cl {L : Runs} {b m : Nat} {h : H} {M : Mk} (lv : L.Val) (k : M.Ok (sides L.f) (2 * L.n) b m h) (hb : M.Bad) : ¬ L.Cl := fun c => by
  let T : Tab := ⟨L.n, L.f, 0, none, ⟨0, 0, none⟩, none, ⟨0, 0, none⟩⟩
  obtain ⟨t, h1, h2, h3, h4⟩ := corner_of (T := T) (nz_sides lv) c (p := 0) (q := 0) (N := 0) (D := 1) (by decide) (.inl ⟨rfl, rfl, rfl⟩)
  exact bad_none k hb h4 h2
theorem kSpanQ0 {G G' : Prop} (g : G') (t : G' → G := by ((apply q_call); (focus exact byNext); (focus exact byLo); (focus ((apply checkErr_w; rotate_left; (focus (apply Runs.Ok.same; (focus assumption); (focus exact bySame); (focus exact Nat.le_refl _))); (focus exact byOm)))))) : G := t g

set_option maxHeartbeats 4000000 in
theorem best_w {h : H} {L : Runs} {m : Nat} {p q : Int} (hm : m ≤ h.next) (hL : L.Ok m h) : AW Try.prog 51 h.next h [.slice L.b L.n L.c, .int .i64 p, .int .i64 q] (fun v h' => ∃ M, v = .tuple #[.agg ⟨M.cells⟩, .int .i64 (L.lerr p q)] ∧ (L.lerr p q ≠ 0 → M = Mk.none) ∧ (L.lerr p q = 0 → Best L p q h.next h'.next h' M)) := by
  have b1 : L.err2 p q ≠ 0 → L.lerr p q = L.err2 p q := fun h => by unfold Runs.lerr; rw [if_pos h]
  have b2 : L.err2 p q = 0 → ¬ L.Cl → L.lerr p q = 20 := fun h h' => by unfold Runs.lerr; rw [if_neg (by omega), if_pos h']
  have b3 : L.err2 p q = 0 → L.Cl → ¬ L.Bnd p q → L.lerr p q = 5 := fun h h' h'' => by unfold Runs.lerr; rw [if_neg (by omega), if_neg (fun k => k h'), if_pos h'']
  have b4 : L.err2 p q = 0 → L.Cl → L.Bnd p q → L.lerr p q = 0 := fun h h' h'' => by unfold Runs.lerr; rw [if_neg (by omega), if_neg (fun k => k h'), if_neg (fun k => k h'')]
  have hL0 := hL
  refine fun51.call rfl (Nat.le_refl _) ?_
  unfold a51
  (focus ((try with_reducible apply wpC.to); (repeat' ((conv => whnf); first | refine byEv ?_ | (apply Fork.mk <;> (intro _; try (exfalso; omega))) | ((refine kSpanQ0 ?_); first | ((first | apply q_allD | apply q_alli | apply q_allB) <;> intro _ _ _ _ <;> try contradiction) | (apply q_allv; intro _ _ _)) | fail)); all_goals ((conv => whnf); try with_reducible apply At.mk)))
  · (refine byFin ?_)
    refine ⟨Mk.none, ?_, fun _ => rfl, fun h => ?_⟩
    · rw [b1 (by assumption)]; rfl
    · rw [b1 (by assumption)] at h; contradiction
  have he : L.err2 p q = 0 := by assumption
  have he' : L.err = 0 ∧ Fac p q := by
    unfold Runs.err2 at he
    split at he
    · contradiction
    · split at he
      · exact ⟨by omega, by assumption⟩
      · omega
  obtain ⟨ln, lv⟩ := L.err_0 he'.1
  apply q_call
  focus (exact byNext)
  focus (exact byLo)
  focus exact newTable_w (L := L) (m := m) byOm (hL.same bySame (Nat.le_refl _)) (by omega) lv
  rintro _ h2 ⟨T, rfl, tn, tf, tok⟩ q2 n2
  have eS : T.S = sides L.f := by unfold Tab.S; rw [tf]
  (focus ((try with_reducible apply wpC.to); (repeat' ((conv => whnf); first | refine byEv ?_ | (apply Fork.mk <;> (intro _; try (exfalso; omega))) | ((refine kSpanQ0 ?_); first | ((first | apply q_allD | apply q_alli | apply q_allB) <;> intro _ _ _ _ <;> try contradiction) | (apply q_allv; intro _ _ _)) | fail)); all_goals ((conv => whnf); try with_reducible apply At.mk)))
  apply q_call
  focus (exact byNext)
  focus (exact byLo)
  focus exact doubt_w (T := T) (m := h2.next) byOm (tok.same bySame (Nat.le_refl _))
  rintro _ h3 ⟨M, bv, rfl, d1, d2⟩ q3 n3
  rw [eS, tn] at d1 d2
  cases bv
  rotate_left
  · obtain ⟨d3, d4⟩ := d1 rfl
    have nc := bad_cl lv d3 d4
    have eM : (⟨M.cells⟩ : Array Value) = ⟨[.map M.r, .int .i64 M.s.u, .int .i64 M.s.v, .int .i64 M.s.w, .int .i64 M.t]⟩ := rfl
    rw [eM]
    (focus ((try with_reducible apply wpC.to); (repeat' ((conv => whnf); first | refine byEv ?_ | (apply Fork.mk <;> (intro _; try (exfalso; omega))) | ((refine kSpanQ0 ?_); first | ((first | apply q_allD | apply q_alli | apply q_allB) <;> intro _ _ _ _ <;> try contradiction) | (apply q_allv; intro _ _ _)) | fail)); all_goals ((conv => whnf); try with_reducible apply At.mk)))
    (refine byFin ?_)
    refine ⟨Mk.none, ?_, fun _ => rfl, fun h => ?_⟩
    · rw [b2 he nc]; rfl
    · rw [b2 he nc] at h; contradiction
  · obtain ⟨rfl, cl⟩ := d2 rfl
    have cl : L.Cl := cl
    unfold Mk.none Mk.cells
    (focus ((try with_reducible apply wpC.to); (repeat' ((conv => whnf); first | refine byEv ?_ | (apply Fork.mk <;> (intro _; try (exfalso; omega))) | ((refine kSpanQ0 ?_); first | ((first | apply q_allD | apply q_alli | apply q_allB) <;> intro _ _ _ _ <;> try contradiction) | (apply q_allv; intro _ _ _)) | fail)); all_goals ((conv => whnf); try with_reducible apply At.mk)))
    by_cases hz : p = 0 ∧ q = 0
    · obtain ⟨rfl, rfl⟩ := hz
      apply q_call
      focus (exact byNext)
      focus (exact byLo)
      focus exact most0_w (T := T)
      rintro _ h4 ⟨r, ⟨r1, r2⟩, rfl, g4⟩ q4 n4
      simp only [put_next, bump_next] at r1 r2
      (focus ((try with_reducible apply wpC.to); (repeat' ((conv => whnf); first | refine byEv ?_ | (apply Fork.mk <;> (intro _; try (exfalso; omega))) | ((refine kSpanQ0 ?_); first | ((first | apply q_allD | apply q_alli | apply q_allB) <;> intro _ _ _ _ <;> try contradiction) | (apply q_allv; intro _ _ _)) | fail)); all_goals ((conv => whnf); try with_reducible apply At.mk)))
      (refine byFin ?_)
      refine ⟨⟨some r, [], ⟨0, 0, 0⟩, 1⟩, ?_, fun h => ?_, fun _ => best_0 lv cl ⟨byOm, byOm⟩ byGet⟩
      · rw [b4 he cl (.inl ⟨rfl, rfl⟩)]
      · exact absurd (b4 he cl (.inl ⟨rfl, rfl⟩)) h
    · apply q_call
      focus (exact byNext)
      focus (exact byLo)
      focus exact most_w (T := T) (m := h2.next) (p := p) (q := q) byOm (tok.same bySame (Nat.le_refl _)) he'.2 hz
      rintro _ h4 ⟨M, bv, rfl, f1, f2⟩ q4 n4
      rw [eS, tn] at f1 f2
      simp only [put_next, bump_next] at f1
      cases bv
      · obtain ⟨rfl, f3⟩ := f2 rfl
        have nb : ¬ L.Bnd p q := fun k => k.elim hz fun ⟨g, N, D, h1, h2⟩ => f3 g N D h1 h2
        unfold Mk.none Mk.cells
        (focus ((try with_reducible apply wpC.to); (repeat' ((conv => whnf); first | refine byEv ?_ | (apply Fork.mk <;> (intro _; try (exfalso; omega))) | ((refine kSpanQ0 ?_); first | ((first | apply q_allD | apply q_alli | apply q_allB) <;> intro _ _ _ _ <;> try contradiction) | (apply q_allv; intro _ _ _)) | fail)); all_goals ((conv => whnf); try with_reducible apply At.mk)))
        (refine byFin ?_)
        refine ⟨Mk.none, ?_, fun _ => rfl, fun h => ?_⟩
        · rw [b3 he cl nb]; rfl
        · rw [b3 he cl nb] at h; contradiction
      · obtain ⟨f3, f4⟩ := f1 rfl
        have bd : L.Bnd p q := .inr (by obtain ⟨g, h1, h2⟩ := f3.g; exact ⟨g, _, _, h1, h2⟩)
        have bs := best_of lv cl hz f3 f4
        have eM : (⟨M.cells⟩ : Array Value) = ⟨[.map M.r, .int .i64 M.s.u, .int .i64 M.s.v, .int .i64 M.s.w, .int .i64 M.t]⟩ := rfl
        rw [eM]
        (focus ((try with_reducible apply wpC.to); (repeat' ((conv => whnf); first | refine byEv ?_ | (apply Fork.mk <;> (intro _; try (exfalso; omega))) | ((refine kSpanQ0 ?_); first | ((first | apply q_allD | apply q_alli | apply q_allB) <;> intro _ _ _ _ <;> try contradiction) | (apply q_allv; intro _ _ _)) | fail)); all_goals ((conv => whnf); try with_reducible apply At.mk)))
        (refine byFin ?_)
        refine ⟨M, ?_, fun h => ?_, fun _ => bs.frame byOm byOm fun r h1 h2 => get_of fun y hy => byGet⟩
        · rw [b4 he cl bd]
        · exact absurd (b4 he cl bd) h
end AE.Try
