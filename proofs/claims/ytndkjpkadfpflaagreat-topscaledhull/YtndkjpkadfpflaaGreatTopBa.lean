/- Walks of box: the offsets that are furthest beyond a fraction. -/
import Derived.Test.YtndkjpkadfpflaaGreatTopB9
set_option linter.unusedVariables false
set_option linter.unusedSimpArgs false
set_option linter.unusedSectionVars false
namespace AE.Tryz
open Go AE Go.Proofs AE.Box
set_option maxRecDepth 100000
set_option linter.unusedVariables false

/-- What stands while the best offset at a place is looked for. -/
structure ExK (h : H) (T : Hull) (p q : Nat) (x : Fr) (s : Int) (i k rp rw' : Nat) (rr : Nat → Nat) (r : Nat) (w : Option Addr) (B1 B2 N : Nat) (L : ALoop) (c : Nat) (Z : Nat → Nat → Int) (X : H) : Prop where
  sm : Same h.next h X
  grp : X.get rp = some (.cells [.pointer (some ⟨p, 0, none⟩)] 93)
  grw : X.get rw' = some (.cells [.func (.func 159) ⟨[.agg ⟨[.int .i64 1, .int .i64 2]⟩]⟩ ⟨[]⟩] 248)
  g0 : X.get h.next = some (.cells [.pointer (some ⟨p, 0, none⟩)] 93)
  g1 : X.get (h.next + 1) = some (.cells [.int .i64 x.n, .int .i64 x.d] 27)
  g2 : X.get (h.next + 2) = some (.cells [.int .i64 s] 2)
  g8 : X.get (h.next + 10) = some (.cells [.slice w T.n 0] 32)
  gl : X.get B2 = some (.loop L)
  g9 : X.get B1 = some (.cells [.int .i64 (T.psum q x Z c)] 2)
  own : Own (h.next + 12) B1 X T.n (T.w 0) rr Z r w
  gt : X.get N = some (.cells [.int .i64 i, .int .i64 k, .int .i64 (wt i T.hul.n * wt k T.hul.w), .int .i64 (wt i T.hul.n), .bool (decide (k + 1 = T.hul.w))] 179)
  gr : X.get (N + 17) = some (.cells [.int .i64 (T.f i k).lo, .int .i64 (T.f i k).hi] 36)
  nx : N + 26 ≤ X.next
  o : h.next + 12 ≤ B1 ∧ B1 < N ∧ B2 < N ∧ rp < N ∧ rw' < N
theorem ExK.of {h : H} {T : Hull} {p q : Nat} {x : Fr} {s : Int} {i k rp rw' : Nat} {rr : Nat → Nat} {r : Nat} {w : Option Addr} {B1 B2 N : Nat} {L : ALoop} {c : Nat} {Z : Nat → Nat → Int} {X Y : H} (E : ExK h T p q x s i k rp rw' rr r w B1 B2 N L c Z X) (hs : ∀ r, r < N + 18 → Y.get r = X.get r) (hx : N + 26 ≤ Y.next) : ExK h T p q x s i k rp rw' rr r w B1 B2 N L c Z Y :=
  have o := E.o
  ⟨fun x hx => (hs x (by omega)).trans (E.sm x hx), (hs _ (by omega)).trans E.grp, (hs _ (by omega)).trans E.grw, (hs _ (by omega)).trans E.g0, (hs _ (by omega)).trans E.g1, (hs _ (by omega)).trans E.g2, (hs _ (by omega)).trans E.g8, (hs _ (by omega)).trans E.gl, (hs _ (by omega)).trans E.g9,
    E.own.frame (Nat.le_refl _) fun x _ hx => hs x (by omega), (hs _ (by omega)).trans E.gt, (hs _ (by omega)).trans E.gr, hx, o⟩
theorem ExK.set {h : H} {T : Hull} {p q : Nat} {x : Fr} {s : Int} {i k rp rw' : Nat} {rr : Nat → Nat} {r : Nat} {w : Option Addr} {B1 B2 N : Nat} {L : ALoop} {Z : Nat → Nat → Int} {X : H} (E : ExK h T p q x s i k rp rw' rr r w B1 B2 N L (i * T.w 0 + k) Z X) (hi : i < T.n) (hk : k < T.w 0) (h1 : B1 ≤ rp ∧ B1 ≤ rw' ∧ B1 ≤ B2) (y : Int) : ExK h T p q x s i k rp rw' rr r w B1 B2 N L (i * T.w 0 + k) (upd2 Z i k y) (X.put (rr i) (.cells (iCells (updN (Z i) k y) (T.w 0)) 2)) := by
  have o := E.o
  have rg := E.own.rng i hi
  have hs : ∀ r, r ≠ rr i → (X.put (rr i) (.cells (iCells (updN (Z i) k y) (T.w 0)) 2)).get r = X.get r := fun r hr => by simp [H.put, hr]
  have e : T.psum q x (upd2 Z i k y) (i * T.w 0 + k) = T.psum q x Z (i * T.w 0 + k) := sumP_congr' fun j hj => by rw [upd2_other hj]
  exact ⟨fun x hx => (hs x (by omega)).trans (E.sm x hx), (hs _ (by omega)).trans E.grp, (hs _ (by omega)).trans E.grw, (hs _ (by omega)).trans E.g0, (hs _ (by omega)).trans E.g1, (hs _ (by omega)).trans E.g2, (hs _ (by omega)).trans E.g8, (hs _ (by omega)).trans E.gl, by rw [e]; exact (hs _ (by omega)).trans E.g9,
    E.own.set hi hk y, (hs _ (by omega)).trans E.gt, (hs _ (by omega)).trans E.gr, E.nx, o⟩
theorem BestAt.first {T : Hull} {q : Nat} {x : Fr} {s : Int} {i k : Nat} : ∀ z, (T.f i k).lo ≤ z → z < (T.f i k).lo + 1 → s * T.hul.part q x i k z ≤ s * T.hul.part q x i k (T.f i k).lo := fun z h1 h2 => by
  obtain rfl : z = (T.f i k).lo := by omega
  exact Int.le_refl _
set_option maxHeartbeats 2000000 in
theorem excess_w {h : H} {T : Hull} {m p q : Nat} {x : Fr} {s : Int} (hm : m ≤ h.next) (hp : p < h.next) (hg : h.get p = some (planRow T q)) (hq : q ≤ 2) (hT : T.Ok m h) (V : T.Valid) (hx : x.Q) (hs : s = 1 ∨ s = -1) :
    AW Tryz.prog 52 h.next h [.pointer (some ⟨p, 0, none⟩), .agg ⟨frC x⟩, .int .i64 s] (fun v h' => ∃ rr r w Z, v = .tuple #[.slice w T.n 0, .int .i64 (T.psum q x Z (T.n * T.w 0))] ∧ Own (h.next + 1) h'.next h' T.n (T.w 0) rr Z r w ∧ BestTo T q x s (T.n * T.w 0) Z) := by
  have nw := V.hul.nw
  have n1 := V.n1
  have n2 := V.n2
  have w1 := V.w1
  have w2 := V.w2
  refine fun52.call rfl (Nat.le_refl _) ?_
  unfold a52
  have hg' := hg
  unfold planRow at hg'
  have hfc : frC x = [.int .i64 x.n, .int .i64 x.d] := rfl
  rw [hfc]
  (focus ((try with_reducible apply wpC.to); (repeat' ((conv => whnf); first | refine byEv ?_ | (apply Fork.mk <;> (intro _; try (exfalso; omega))) | ((refine kTopSc1c ?_); first | ((first | apply q_allD | apply q_alli | apply q_allB) <;> intro _ _ _ _ <;> try contradiction) | (apply q_allv; intro _ _ _)) | refine xTopB20 ?_ | fail)); all_goals ((conv => whnf); try with_reducible apply At.mk)))
  apply q_call
  focus (exact byNext)
  focus (exact byLo)
  focus exact pickb_w (T := T) (m := m) (g := fun i k => (T.f i k).lo) byOm (hT.same bySame (Nat.le_refl _)) V fun i k h1 hi hk q => acall_of lo_w rfl
  rintro _ h1 ⟨rr, r, w, rfl, O1⟩ q1 hn1
  have g0 : h1.get h.next = some (.cells [.pointer (some ⟨p, 0, none⟩)] 93) := (q1.same _ byOm).trans byGet
  have g1 : h1.get (h.next + 1) = some (.cells [.int .i64 x.n, .int .i64 x.d] 27) := (q1.same _ byOm).trans byGet
  have g2 : h1.get (h.next + 2) = some (.cells [.int .i64 s] 2) := (q1.same _ byOm).trans byGet
  have sm1 : Same h.next h h1 := fun x hx => (q1.same x byOm).trans (get_of fun y hy => byGet)
  have hn1' : h.next + 12 ≤ h1.next := by (exact byOm)
  have O1' : Own (h.next + 12) h1.next h1 T.n (T.w 0) rr (fun i k => (T.f i k).lo) r w := O1.lower byOm
  clear q1 O1
  (focus ((try with_reducible apply wpC.to); (repeat' ((conv => whnf); first | refine byEv ?_ | (apply Fork.mk <;> (intro _; try (exfalso; omega))) | ((refine kTopSc1c ?_); first | ((first | apply q_allD | apply q_alli | apply q_allB) <;> intro _ _ _ _ <;> try contradiction) | (apply q_allv; intro _ _ _)) | refine xTopB20 ?_ | fail)); all_goals ((conv => whnf); try with_reducible apply At.mk)))
  apply q_call
  focus (exact byNext)
  focus (exact byLo)
  focus exact places_w
  rintro _ h2 ⟨rp, rw', rfl, ⟨a1, a2⟩, ⟨a3, a4⟩, a5, a6⟩ q2 hn2
  have a1' : h1.next + 4 ≤ rp := by (exact byOm)
  have a3' : h1.next + 4 ≤ rw' := by (exact byOm)
  have g0' : h2.get h.next = some (.cells [.pointer (some ⟨p, 0, none⟩)] 93) := (q2.same _ byOm).trans byGet
  have g1' : h2.get (h.next + 1) = some (.cells [.int .i64 x.n, .int .i64 x.d] 27) := (q2.same _ byOm).trans byGet
  have g2' : h2.get (h.next + 2) = some (.cells [.int .i64 s] 2) := (q2.same _ byOm).trans byGet
  have g8 : h2.get (h.next + 10) = some (.cells [.slice w T.n 0] 32) := (q2.same _ byOm).trans byGet
  have g9 : h2.get h1.next = some (.cells [.int .i64 0] 2) := (q2.same _ byOm).trans byGet
  have sm2 : Same h.next h h2 := fun x hx => (q2.same x byOm).trans (get_of fun y hy => byGet)
  have hn2' : h1.next + 4 ≤ h2.next := by (exact byOm)
  have O2 : Own (h.next + 12) h1.next h2 T.n (T.w 0) rr (fun i k => (T.f i k).lo) r w := O1'.frame (Nat.le_refl _) fun x hx1 hx2 => (q2.same x byOm).trans (get_of fun y hy => byGet)
  clear q2 O1' g0 g1 g2 sm1 hn2
  (focus ((try with_reducible apply wpC.to); (repeat' ((conv => whnf); first | refine byEv ?_ | (apply Fork.mk <;> (intro _; try (exfalso; omega))) | ((refine kTopSc1c ?_); first | ((first | apply q_allD | apply q_alli | apply q_allB) <;> intro _ _ _ _ <;> try contradiction) | (apply q_allv; intro _ _ _)) | refine xTopB20 ?_ | fail)); all_goals ((conv => whnf); try with_reducible apply At.mk)))
  refine wp_forget (l := [(3, .pointer (some ⟨h.next, 0, none⟩)), (4, .pointer (some ⟨h.next + 1, 0, none⟩)), (5, .pointer (some ⟨h.next + 2, 0, none⟩)), (8, .pointer (some ⟨h.next + 10, 0, none⟩)), (9, .pointer (some ⟨h1.next, 0, none⟩)), (21, .func (.func 160) ⟨[]⟩ ⟨[.pointer (some ⟨rp, 0, none⟩), .pointer (some ⟨rw', 0, none⟩)]⟩)]) ⟨rfl, rfl, rfl, rfl, rfl, rfl, trivial⟩ fun g' => ?_
  apply wp_range
  focus exact rfl
  focus (exact byNext)
  focus (exact byList)
  intro L0 hL0
  have gv := V.hul.toOk
  refine ⟨_, iterP_w (m := m) (p := p) (q := q) (T := T) byOm V
    (fun c h3 => Same h.next h h3 ∧ (h3.get rp = some (.cells [.pointer (some ⟨p, 0, none⟩)] 93) ∧ h3.get rw' = some (.cells [.func (.func 159) ⟨[.agg ⟨[.int .i64 1, .int .i64 2]⟩]⟩ ⟨[]⟩] 248)) ∧ (h3.get h.next = some (.cells [.pointer (some ⟨p, 0, none⟩)] 93) ∧
      h3.get (h.next + 1) = some (.cells [.int .i64 x.n, .int .i64 x.d] 27) ∧ h3.get (h.next + 2) = some (.cells [.int .i64 s] 2) ∧ h3.get (h.next + 10) = some (.cells [.slice w T.n 0] 32)) ∧ h3.get h2.next = some (.loop L0) ∧ h2.next < h3.next ∧
      ∃ Z, BestTo T q x s c Z ∧ h3.get h1.next = some (.cells [.int .i64 (T.psum q x Z c)] 2) ∧ Own (h.next + 12) h1.next h3 T.n (T.w 0) rr Z r w) ?_ ?_ ?_ ?_, ?_⟩
  · rintro c h3 ⟨b1, ⟨b2, b3⟩, -⟩
    exact ⟨hT.same (b1.mono hm) (Nat.le_refl _), b2, b3, (b1 _ hp).trans hg⟩
  · rintro c h3 h4 ⟨b1, ⟨b2, b3⟩, ⟨b5, b6, b7, b8⟩, b9, b10, Z, bz, bs, bo⟩ q
    have := q.next
    exact ⟨same_quiet b1 q (by omega), ⟨(q.same _ (by omega)).trans b2, (q.same _ (by omega)).trans b3⟩, ⟨(q.same _ (by omega)).trans b5, (q.same _ (by omega)).trans b6, (q.same _ (by omega)).trans b7, (q.same _ (by omega)).trans b8⟩, (q.same _ (by omega)).trans b9, by omega, Z, bz, (q.same _ (by omega)).trans bs, bo.frame (Nat.le_refl _) fun x _ hx => q.same x (by omega)⟩
  · rintro i k h3 hi hk ⟨b1, ⟨b2, b3⟩, ⟨b5, b6, b7, b8⟩, b9, b10, Z, bz, bs, bo⟩ hle
    have hT3 := hT.same (b1.mono hm) (Nat.le_refl _)
    have b4 : h3.get p = some (planRow T q) := (b1 _ hp).trans hg
    have b4' := b4
    unfold planRow at b4'
    obtain ⟨e1, i1, r1, l1, re, ri, rr', rl⟩ := hT3
    have rei := re i hi
    have rii := ri i hi
    have rri := rr' i hi
    have ewi := V.eq i hi
    have hkw : k < T.w i := by omega
    have pl := V.pl i k hi hk
    unfold PlaceOk at pl
    have sb := bz.sum_bd V hx (Nat.le_of_lt (pl_lt hi hk))
    have hpc : placeC T.hul.toGeo i k = [.int .i64 i, .int .i64 k, .int .i64 (wt i T.hul.n * wt k T.hul.w), .int .i64 (wt i T.hul.n), .bool (decide (k + 1 = T.hul.w))] := rfl
    refine YA.call fun52.mixed (A := a52A0) (B := a52B0) (L := L0) (by rw [hL0]; exact c52A0) (by rw [hL0]; exact c52B0) b9 (by omega) (by omega) (by rw [hL0]; exact rfl) (by rw [hL0]; exact rfl) ?_
    unfold YA a52A0
    refine wp_forget (l := [(3, .pointer (some ⟨h.next, 0, none⟩)), (4, .pointer (some ⟨h.next + 1, 0, none⟩)), (5, .pointer (some ⟨h.next + 2, 0, none⟩)), (8, .pointer (some ⟨h.next + 10, 0, none⟩)), (9, .pointer (some ⟨h1.next, 0, none⟩)), (22, .agg ⟨placeC T.hul.toGeo i k⟩)]) ⟨by rw [hL0]; exact rfl, by rw [hL0]; exact rfl, by rw [hL0]; exact rfl, by rw [hL0]; exact rfl, by rw [hL0]; exact rfl, by rw [hL0]; exact rfl, trivial⟩ fun g'' => ?_
    rw [hpc]
    (focus ((try with_reducible apply wpC.to); (repeat' ((conv => whnf); first | refine byEv ?_ | (apply Fork.mk <;> (intro _; try (exfalso; omega))) | ((refine kTopSc1c ?_); first | ((first | apply q_allD | apply q_alli | apply q_allB) <;> intro _ _ _ _ <;> try contradiction) | (apply q_allv; intro _ _ _)) | refine xTopB20 ?_ | fail)); all_goals ((conv => whnf); try with_reducible apply At.mk)))
    refine ⟨rfl, L0, byGet, by rw [hL0]; exact rfl, ?_⟩
    unfold a52B0
    have hL1 : ended (busy L0) .none = L0 := by rw [hL0]; exact rfl
    have b4l := hle
    have hn3 : h2.next + 1 ≤ h3.next := b10
    (focus ((try with_reducible apply wpC.to); (repeat' ((conv => whnf); first | refine byEv ?_ | (apply Fork.mk <;> (intro _; try (exfalso; omega))) | ((refine kTopSc1c ?_); first | ((first | apply q_allD | apply q_alli | apply q_allB) <;> intro _ _ _ _ <;> try contradiction) | (apply q_allv; intro _ _ _)) | refine xTopB20 ?_ | fail)); all_goals ((conv => whnf); try with_reducible apply At.mk)))
    refine wp_loop (fun z : Int × Int => [(5, .pointer (some ⟨h.next + 2, 0, none⟩)), (8, .pointer (some ⟨h.next + 10, 0, none⟩)), (9, .pointer (some ⟨h1.next, 0, none⟩)), (10, .pointer (some ⟨h3.next, 0, none⟩)), (11, .func (.func 115) ⟨[]⟩ ⟨[.pointer (some ⟨h.next, 0, none⟩), .pointer (some ⟨h3.next, 0, none⟩), .pointer (some ⟨h.next + 1, 0, none⟩)]⟩), (12, .pointer (some ⟨h3.next + 17, 0, none⟩)), (13, .int .i64 z.2), (14, .int .i64 z.1)])
      (fun z h4 => ExK h T p q x s i k rp rw' rr r w h1.next h2.next h3.next (busy L0) (i * T.w 0 + k) Z h4 ∧ ((T.f i k).lo ≤ z.2 ∧ z.2 ≤ (T.f i k).hi) ∧ ((T.f i k).lo + 1 ≤ z.1 ∧ z.1 ≤ (T.f i k).hi + 1) ∧ ∀ y, (T.f i k).lo ≤ y → y < z.1 → s * T.hul.part q x i k y ≤ s * T.hul.part q x i k z.2)
      (fun z => ((T.f i k).hi + 1 - z.1).toNat) ((T.f i k).lo + 1, (T.f i k).lo) ⟨rfl, rfl, rfl, rfl, rfl, rfl, rfl, rfl, trivial⟩ ⟨?_, by dsimp only; omega, by dsimp only; omega, BestAt.first⟩ ?_
    · exact ⟨bySame, byGet, byGet, byGet, byGet, byGet, byGet, byGet, byGet, bo.frame (Nat.le_refl _) fun x _ hx => get_of fun y hy => byGet, byGet, byGet, byOm, by omega⟩
    clear b1 b2 b3 b5 b6 b7 b8 b9 bs bo i1 ri rii b4 b4'
    rintro ⟨y, bst⟩ g4 h4 ⟨E4, hb, hy, hall⟩ K4 hK4
    dsimp only at hb hy hall
    dsimp only
    have spart : ∀ z, (T.f i k).lo ≤ z → z ≤ (T.f i k).hi → (-86000000000000000 ≤ T.hul.part q x i k z ∧ T.hul.part q x i k z ≤ 86000000000000000) ∧ -86000000000000000 ≤ s * T.hul.part q x i k z ∧ s * T.hul.part q x i k z ≤ 86000000000000000 := fun z h1 h2 => by
      have := V.hul.part_bd (q := q) hx hi hk (y := z) (by omega)
      have e : -86000000000000000 ≤ T.hul.part q x i k z ∧ T.hul.part q x i k z ≤ 86000000000000000 := by unfold Hul.part; omega
      refine ⟨e, ?_⟩
      rcases hs with rfl | rfl <;> omega
    have pw := fun (X : H) (Z : Nat → Nat → Int) (E : ExK h T p q x s i k rp rw' rr r w h1.next h2.next h3.next (busy L0) (i * T.w 0 + k) Z X) z (h1 : (T.f i k).lo ≤ z) (h2 : z ≤ (T.f i k).hi) => part_w (h := X) (T := T) (p := p) (q := q) (i := i) (k := k) (r3 := h.next) (r10 := h3.next) (r4 := h.next + 1) (x := x) (y := z) (by have := E.nx; omega) ((E.sm _ hp).trans hg) (by have := E.nx; omega) (by have := E.nx; omega) (by have := E.nx; omega) E.g0 E.gt E.g1 V hx hq hi hk (by omega)
    have s4 := E4.sm
    have nx4 := E4.nx
    have g24 := E4.g2
    have gr4 := E4.gr
    by_cases hyh : y ≤ (T.f i k).hi
    · have p1 := spart y (by omega) hyh
      have p2 := spart bst hb.1 hb.2
      (focus ((try with_reducible apply wpC.to); (repeat' ((conv => whnf); first | refine byEv ?_ | (apply Fork.mk <;> (intro _; try (exfalso; omega))) | ((refine kTopSc1c ?_); first | ((first | apply q_allD | apply q_alli | apply q_allB) <;> intro _ _ _ _ <;> try contradiction) | (apply q_allv; intro _ _ _)) | refine xTopB20 ?_ | fail)); all_goals ((conv => whnf); try with_reducible apply At.mk)))
      apply q_call
      focus (exact byNext)
      focus (exact byLo)
      focus exact pw _ _ (E4.of (fun r hr => get_of fun y hy => byGet) byOm) y (by omega) hyh
      rintro _ h5 rfl q5 hn5
      have E5 := E4.of (Y := h5) (fun r hr => (q5.same r byOm).trans (get_of fun y hy => byGet)) byOm
      have nx5 : h4.next ≤ h5.next := by (exact byOm)
      have g25 := E5.g2
      clear q5 hn5
      (focus ((try with_reducible apply wpC.to); (repeat' ((conv => whnf); first | refine byEv ?_ | (apply Fork.mk <;> (intro _; try (exfalso; omega))) | ((refine kTopSc1c ?_); first | ((first | apply q_allD | apply q_alli | apply q_allB) <;> intro _ _ _ _ <;> try contradiction) | (apply q_allv; intro _ _ _)) | refine xTopB20 ?_ | fail)); all_goals ((conv => whnf); try with_reducible apply At.mk)))
      apply q_call
      focus (exact byNext)
      focus (exact byLo)
      focus exact pw _ _ (E5.of (fun r hr => get_of fun y hy => byGet) byOm) bst hb.1 hb.2
      rintro _ h6 rfl q6 hn6
      have E6 := E5.of (Y := h6) (fun r hr => (q6.same r byOm).trans (get_of fun y hy => byGet)) byOm
      have nx6 : h5.next ≤ h6.next := by (exact byOm)
      clear q6 hn6
      by_cases hgt : s * T.hul.part q x i k bst < s * T.hul.part q x i k y
      · (focus ((try with_reducible apply wpC.to); (repeat' ((conv => whnf); first | refine byEv ?_ | (apply Fork.mk <;> (intro _; try (exfalso; omega))) | ((refine kTopSc1c ?_); first | ((first | apply q_allD | apply q_alli | apply q_allB) <;> intro _ _ _ _ <;> try contradiction) | (apply q_allv; intro _ _ _)) | refine xTopB20 ?_ | fail)); all_goals ((conv => whnf); try with_reducible apply At.mk)))
        refine hK4 (y + 1, y) _ _ ⟨rfl, rfl, rfl, rfl, rfl, rfl, rfl, rfl, trivial⟩ ⟨E6.of (fun r hr => get_of fun y hy => byGet) byOm, by dsimp only; omega, by dsimp only; omega, fun z h1 h2 => ?_⟩ (by dsimp only; omega)
        dsimp only at h2 ⊢
        by_cases e : z = y
        · subst e; exact Int.le_refl _
        · have := hall z h1 (by omega); omega
      · (focus ((try with_reducible apply wpC.to); (repeat' ((conv => whnf); first | refine byEv ?_ | (apply Fork.mk <;> (intro _; try (exfalso; omega))) | ((refine kTopSc1c ?_); first | ((first | apply q_allD | apply q_alli | apply q_allB) <;> intro _ _ _ _ <;> try contradiction) | (apply q_allv; intro _ _ _)) | refine xTopB20 ?_ | fail)); all_goals ((conv => whnf); try with_reducible apply At.mk)))
        refine hK4 (y + 1, bst) _ _ ⟨rfl, rfl, rfl, rfl, rfl, rfl, rfl, rfl, trivial⟩ ⟨E6.of (fun r hr => get_of fun y hy => byGet) byOm, by dsimp only; omega, by dsimp only; omega, fun z h1 h2 => ?_⟩ (by dsimp only; omega)
        dsimp only at h2 ⊢
        by_cases e : z = y
        · subst e; omega
        · exact hall z h1 (by omega)
    · have g84 := E4.g8
      have g94 := E4.g9
      have gt4 := E4.gt
      have gl4 := E4.gl
      have p2 := spart bst hb.1 hb.2
      obtain ⟨a, rfl, gd⟩ := E4.own.grid (by omega)
      have gi := gd.i
      have gri := gd.ri i hi
      have ba : BestAt T q x s i k bst := ⟨hb, fun z h1 h2 => hall z h1 (by omega)⟩
      have bn := bz.next hk ba
      have sn := psum_next (T := T) (q := q) (x := x) (Z := Z) (i := i) (k := k) (y := bst) hk
      have hgr := gd.r
      have hgrr := gd.rr i hi
      dsimp only at gi gri hgr hgrr
      have hba : a.block < h1.next := hgr (by omega)
      have hrow := E4.own.row i hi
      have hrng := E4.own.rng i hi
      (focus ((try with_reducible apply wpC.to); (repeat' ((conv => whnf); first | refine byEv ?_ | (apply Fork.mk <;> (intro _; try (exfalso; omega))) | ((refine kTopSc1c ?_); first | ((first | apply q_allD | apply q_alli | apply q_allB) <;> intro _ _ _ _ <;> try contradiction) | (apply q_allv; intro _ _ _)) | refine xTopB20 ?_ | fail)); all_goals ((conv => whnf); try with_reducible apply At.mk)))
      refine Sto.mk (r := rr i) (off := 0 + k * 1) (c' := iCells (updN (Z i) k bst) (T.w 0)) rfl (by omega) hrow rfl rfl (Nat.ble_eq_true_of_le (by rw [iCells_len]; omega)) (bis_eq (iCells_set _ _ hk (by omega))) ?_
      have ES : ExK h T p q x s i k rp rw' rr r (some a) h1.next h2.next h3.next (busy L0) (i * T.w 0 + k) (upd2 Z i k bst) (((h4.bump 4).bump 10).put (rr i) (.cells (iCells (updN (Z i) k bst) (T.w 0)) 2)) := (E4.of (Y := (h4.bump 4).bump 10) (fun r hr => get_of fun y hy => byGet) byOm).set hi hk (by omega) bst
      generalize hXS : (((h4.bump 4).bump 10).put (rr i) (.cells (iCells (updN (Z i) k bst) (T.w 0)) 2)) = XS at ES ⊢
      have nxs : XS.next = h4.next + 14 := by rw [← hXS]; rfl
      have he : T.psum q x (upd2 Z i k bst) (i * T.w 0 + k) = T.psum q x Z (i * T.w 0 + k) := sumP_congr' fun j hj => by rw [upd2_other hj]
      have gs9 := ES.g9
      rw [he] at gs9
      clear E4 hXS g84 g94 gt4 gl4 s4 g24 gr4 gd gi gri hgr hgrr hba hrow hrng
      (focus ((try with_reducible apply wpC.to); (repeat' ((conv => whnf); first | refine byEv ?_ | (apply Fork.mk <;> (intro _; try (exfalso; omega))) | ((refine kTopSc1c ?_); first | ((first | apply q_allD | apply q_alli | apply q_allB) <;> intro _ _ _ _ <;> try contradiction) | (apply q_allv; intro _ _ _)) | refine xTopB20 ?_ | fail)); all_goals ((conv => whnf); try with_reducible apply At.mk)))
      apply q_call
      focus (simp only [bump_next, nxs, Nat.add_assoc, Nat.reduceAdd]; exact rfl)
      focus (exact byOm)
      focus exact pw _ _ (ES.of (fun r hr => get_of fun y hy => byGet) byOm) bst hb.1 hb.2
      rintro _ h6 rfl q6 hn6
      have E6 := ES.of (Y := h6) (fun r hr => (q6.same r (by omega)).trans (get_of fun y hy => byGet)) (by omega)
      have nx6 : h3.next + 26 ≤ h6.next := by omega
      clear q6 hn6 ES gs9
      have g96 := E6.g9
      rw [he] at g96
      have gl6 := E6.gl
      (focus ((try with_reducible apply wpC.to); (repeat' ((conv => whnf); first | refine byEv ?_ | (apply Fork.mk <;> (intro _; try (exfalso; omega))) | ((refine kTopSc1c ?_); first | ((first | apply q_allD | apply q_alli | apply q_allB) <;> intro _ _ _ _ <;> try contradiction) | (apply q_allv; intro _ _ _)) | refine xTopB20 ?_ | fail)); all_goals ((conv => whnf); try with_reducible apply At.mk)))
      refine ⟨.none, _, rfl, byGet, rfl, ?_⟩
      rw [hL1]
      have s6 := E6.sm
      have c1 := E6.grp
      have c2 := E6.grw
      have c3 := E6.g0
      have c4 := E6.g1
      have c5 := E6.g2
      have c6 := E6.g8
      exact ⟨bySame, ⟨byGet, byGet⟩, ⟨byGet, byGet, byGet, byGet⟩, byGet, byOm, upd2 Z i k bst, bn, by rw [sn]; (exact byGet), E6.own.frame (Nat.le_refl _) fun x _ hx => get_of fun y hy => byGet⟩
  · exact ⟨bySame, ⟨byGet, byGet⟩, ⟨byGet, byGet, byGet, byGet⟩, byGet, byOm, _, fun j hj => by omega, by unfold Hull.psum; rw [sumP_zero]; (exact byGet), O2.frame (Nat.le_refl _) fun x _ hx => get_of fun y hy => byGet⟩
  · rintro v h3 ⟨b1, ⟨b2, b3⟩, ⟨b5, b6, b7, b8⟩, b9, b10, Z, bz, bs, bo⟩ q5
    refine ⟨_, b9, by rw [hL0]; simp [loop0], ?_⟩
    rw [hL0]
    simp only [loop0, pendE]
    (focus ((try with_reducible apply wpC.to); (repeat' ((conv => whnf); first | refine byEv ?_ | (apply Fork.mk <;> (intro _; try (exfalso; omega))) | ((refine kTopSc1c ?_); first | ((first | apply q_allD | apply q_alli | apply q_allB) <;> intro _ _ _ _ <;> try contradiction) | (apply q_allv; intro _ _ _)) | refine xTopB20 ?_ | fail)); all_goals ((conv => whnf); try with_reducible apply At.mk)))
    (refine byFin ?_)
    exact ⟨rr, r, w, Z, rfl, (bo.lower (by omega)).frame byOm fun x _ hx => get_of fun y hy => byGet, bz⟩
end AE.Tryz
