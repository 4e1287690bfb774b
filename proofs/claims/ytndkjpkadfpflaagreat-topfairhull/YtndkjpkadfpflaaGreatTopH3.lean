/- Walk of TopFairHull. -/
import Derived.Test.YtndkjpkadfpflaaGreatTopH2
set_option linter.unusedVariables false
set_option linter.unusedSimpArgs false
set_option linter.unusedSectionVars false
namespace AE.Tryz
open Go AE Go.Proofs AE.Box AE.Fair
set_option maxRecDepth 100000
set_option linter.unusedVariables false

/-- What stands while the lines are drawn. -/
structure FK (h : H) (T : Hull) (n d : Int) (R N : Nat) (kk rr : Nat → Nat) (vv : Nat → Option Addr) (Y : Nat → Nat → Int) (X : H) : Prop where
  sm : Same h.next h X
  g0 : X.get h.next = some (.cells [.int .i64 T.sp, .int .i64 T.st, .slice T.b T.n T.c] 24)
  g1 : X.get (h.next + 1) = some (.cells [.int .i64 n, .int .i64 d] 27)
  off : Off (R + 1) N X R T.n kk rr vv Y
  nx : N ≤ X.next
  hR : h.next + 2 ≤ R
  hRN : R + 1 ≤ N
theorem FK.of {h : H} {T : Hull} {n d : Int} {R N : Nat} {kk rr : Nat → Nat} {vv : Nat → Option Addr} {Y : Nat → Nat → Int} {X X' : H} (k : FK h T n d R N kk rr vv Y X) (hs : ∀ r, r < N → X'.get r = X.get r) (hx : N ≤ X'.next) : FK h T n d R N kk rr vv Y X' :=
  have a := k.hR
  have b := k.hRN
  ⟨fun r hr => (hs r (by omega)).trans (k.sm r hr), (hs _ (by omega)).trans k.g0, (hs _ (by omega)).trans k.g1, k.off.frame (Nat.le_refl _) (hs _ (by omega)) fun x _ hx => hs x hx, hx, a, b⟩
theorem FK.congr {h : H} {T : Hull} {n d : Int} {R N : Nat} {kk kk' rr : Nat → Nat} {vv : Nat → Option Addr} {Y Y' : Nat → Nat → Int} {X : H} (k : FK h T n d R N kk rr vv Y X) (hk : ∀ i, i < T.n → kk' i = kk i) (hY : ∀ i j, i < T.n → j < kk i → Y i j = Y' i j) : FK h T n d R N kk' rr vv Y' X :=
  ⟨k.sm, k.g0, k.g1, k.off.congr hk hY, k.nx, k.hR, k.hRN⟩
theorem put_get' {h : H} {r : Nat} {row : ARow} : (h.put r row).get r = some row := by simp [H.put]
theorem offC_len {vv : Nat → Option Addr} {kk : Nat → Nat} {n : Nat} : (offC vv kk n).length = n := by
  unfold offC
  rw [rowsOf_len (w := 1) fun _ => rfl, Nat.mul_one]
theorem ints_row {h h' : H} {a : Addr} {n : Nat} {f : Nat → Int} (k : Ints h a n f) (e : h'.get a.block = h.get a.block) : Ints h' a n f := fun i hi => by
  have := k i hi
  unfold H.loadN at *
  have e1 : (aadd a i).block = a.block := rfl
  rw [e1] at *
  rw [e]
  exact this
/-- Where the drawing of lines is. -/
structure HS where
  k : Nat
  rr : Nat → Nat
  vv : Nat → Option Addr
  Y : Nat → Nat → Int
  N : Nat
theorem nils (n : Nat) : reps [Value.slice none 0 0] n = offC (fun _ => none) (fun _ => 0) n := by rw [reps_rows]; unfold offC; rfl
set_option maxHeartbeats 4000000 in
theorem fairHull_w {h : H} {T : Hull} {m0 : Nat} {turn what n d : Int} {high : Bool} (hm : m0 ≤ h.next) (hT : T.Ok m0 h) (ht : 0 ≤ turn ∧ turn < 4294967296) (hw : 0 ≤ what ∧ what < 256) :
    AW Tryz.prog 3 h.next h [.agg ⟨T.cells⟩, .int .u32 turn, .int .u8 what, .agg ⟨[.int .i64 n, .int .i64 d]⟩, .bool high] (fun v _ => v = .bool true) := by
  have hTl := hT.l
  refine fun3.call rfl (Nat.le_refl _) ?_
  unfold a3 Hull.cells
  by_cases hbig : 10 < T.n
  · (focus ((try with_reducible apply wpC.to); (repeat' ((conv => whnf); first | refine byEv ?_ | (apply Fork.mk <;> (intro _; try (exfalso; omega))) | ((refine kTopW0 ?_); first | ((first | apply q_allD | apply q_alli | apply q_allB) <;> intro _ _ _ _ <;> try contradiction) | (apply q_allv; intro _ _ _)) | refine xTopF20 ?_ | refine xTopB20 ?_ | fail)); all_goals ((conv => whnf); try with_reducible apply At.mk)))
    all_goals ((refine byFin ?_); rfl)
  (focus ((try with_reducible apply wpC.to); (repeat' ((conv => whnf); first | refine byEv ?_ | (apply Fork.mk <;> (intro _; try (exfalso; omega))) | ((refine kTopW0 ?_); first | ((first | apply q_allD | apply q_alli | apply q_allB) <;> intro _ _ _ _ <;> try contradiction) | (apply q_allv; intro _ _ _)) | refine xTopF20 ?_ | refine xTopB20 ?_ | fail)); all_goals ((conv => whnf); try with_reducible apply At.mk)))
  apply q_call
  focus (exact byNext)
  focus (exact byLo)
  focus exact refCheckHull_w (T := T) (m := m0) byOm (hT.same bySame (Nat.le_refl _))
  rintro _ h1 ⟨e, rfl, he⟩ q1 hn1
  by_cases V : T.Valid
  · obtain rfl : e = 0 := he.2 V
    have sm1 : Same h.next h h1 := fun x hx => (q1.same x byOm).trans (get_of fun y hy => byGet)
    have g0 : h1.get h.next = some (.cells [.int .i64 T.sp, .int .i64 T.st, .slice T.b T.n T.c] 24) := (q1.same _ byOm).trans byGet
    have g1 : h1.get (h.next + 1) = some (.cells [.int .i64 n, .int .i64 d] 27) := (q1.same _ byOm).trans byGet
    have hn1' : h.next + 9 ≤ h1.next := by (exact byOm)
    clear q1 hn1 he
    have n1 := V.n1
    have n2 := V.n2
    have w1 := V.w1
    have w2 := V.w2
    have veq := V.eq
    have e1 := hT.e
    have hT1 := hT.same (sm1.mono hm) (Nat.le_refl _)
    have i1 := hT1.i
    have r1 := hT1.r
    (focus ((try with_reducible apply wpC.to); (repeat' ((conv => whnf); first | refine byEv ?_ | (apply Fork.mk <;> (intro _; try (exfalso; omega))) | ((refine kTopW0 ?_); first | ((first | apply q_allD | apply q_alli | apply q_allB) <;> intro _ _ _ _ <;> try contradiction) | (apply q_allv; intro _ _ _)) | refine xTopF20 ?_ | refine xTopB20 ?_ | fail)); all_goals ((conv => whnf); try with_reducible apply At.mk)))
    refine q_mkslice (z := [Value.slice none 0 0]) (a := T.n) (b := T.n) (k1 := .i64) (k2 := .i64) rfl rfl (Nat.le_refl _) (by omega) ?_
    rw [nils]
    (focus ((try with_reducible apply wpC.to); (repeat' ((conv => whnf); first | refine byEv ?_ | (apply Fork.mk <;> (intro _; try (exfalso; omega))) | ((refine kTopW0 ?_); first | ((first | apply q_allD | apply q_alli | apply q_allB) <;> intro _ _ _ _ <;> try contradiction) | (apply q_allv; intro _ _ _)) | refine xTopF20 ?_ | refine xTopB20 ?_ | fail)); all_goals ((conv => whnf); try with_reducible apply At.mk)))
    obtain ⟨t, et⟩ : ∃ t, t = turn % 1000001 := ⟨_, rfl⟩
    have htb : 0 ≤ t ∧ t ≤ 1000000 := by omega
    refine wp_loop (fun x : HS => [(1, .int .u32 turn), (2, .int .u8 what), (4, .bool high), (5, .pointer (some ⟨h.next, 0, none⟩)), (8, .pointer (some ⟨h.next + 1, 0, none⟩)), (11, .int .i64 (T.w 0)), (12, .slice (some ⟨h1.next + 9, 0, none⟩) T.n T.n), (13, .int .i64 x.k)])
      (fun x X => FK h T n d (h1.next + 9) x.N (fun _ => x.k) x.rr x.vv x.Y X ∧ x.k ≤ T.w 0 ∧ ∀ i k, i < T.n → k < x.k → (T.f i k).lo ≤ x.Y i k ∧ x.Y i k ≤ (T.f i k).hi) (fun x => T.w 0 - x.k) ⟨0, fun _ => 0, fun _ => none, fun _ _ => 0, h1.next + 12⟩ ⟨rfl, rfl, rfl, rfl, rfl, rfl, rfl, rfl, trivial⟩ ⟨?_, by simp, fun i k hi hk => by dsimp only at hk; omega⟩ ?_
    · exact ⟨bySame, byGet, byGet, ⟨byGet, fun i hi => by unfold iCells; exact GG.nil, fun i hi h0 => by dsimp only at h0; omega, fun i j hi hj h0 => by dsimp only at h0; omega, by omega⟩, by dsimp only; (exact byOm), by omega, by dsimp only; omega⟩
    clear i1 r1 hT1 g0 g1 sm1 e1
    rintro ⟨k, rr, vv, Y, N⟩ g2 X ⟨F, hk, hin⟩ K hK
    dsimp only at F hk hin
    dsimp only
    by_cases hkw : k < T.w 0
    · have sm := F.sm
      have g0 := F.g0
      have nx := F.nx
      have hRN := F.hRN
      have hT2 := hT.same (sm.mono hm) (Nat.le_refl _)
      have i1 := hT2.i
      have r1 := hT2.r
      have e1 := hT2.e
      (focus ((try with_reducible apply wpC.to); (repeat' ((conv => whnf); first | refine byEv ?_ | (apply Fork.mk <;> (intro _; try (exfalso; omega))) | ((refine kTopW0 ?_); first | ((first | apply q_allD | apply q_alli | apply q_allB) <;> intro _ _ _ _ <;> try contradiction) | (apply q_allv; intro _ _ _)) | refine xTopF20 ?_ | refine xTopB20 ?_ | fail)); all_goals ((conv => whnf); try with_reducible apply At.mk)))
      rw [← et]
      refine wp_loop (fun x : Nat × Nat × Option Addr => [(1, .int .u32 turn), (2, .int .u8 what), (4, .bool high), (5, .pointer (some ⟨h.next, 0, none⟩)), (8, .pointer (some ⟨h.next + 1, 0, none⟩)), (11, .int .i64 (T.w 0)), (12, .slice (some ⟨h1.next + 9, 0, none⟩) T.n T.n), (13, .int .i64 k), (14, .pointer (some ⟨X.next + 7, 0, none⟩)), (15, .int .i64 x.1)])
        (fun x X2 => FK h T n d (h1.next + 9) N (fun _ => k) rr vv Y X2 ∧ X.next + 8 ≤ X2.next ∧ X2.get (X.next + 7) = some (.cells [.slice x.2.2 x.1 0, .int .i64 t] 34) ∧ GG x.2.1 X2 36 2 x.1 (rowsOf (fun i => (T.f i k).cells) x.1) x.2.2 ∧ (0 < x.1 → X.next + 8 ≤ x.2.1 ∧ x.2.1 < X2.next) ∧ x.1 ≤ T.n) (fun x => T.n - x.1) (0, 0, none) ⟨rfl, rfl, rfl, rfl, rfl, rfl, rfl, rfl, rfl, rfl, trivial⟩ ⟨F.of (fun r hr => get_of fun y hy => byGet) byOm, byOm, ?_, GG.nil, by simp, by simp⟩ ?_
      · dsimp only
        (exact byGet)
      clear i1 r1 e1 hT2
      rintro ⟨i, r2, w2'⟩ g3 X2 ⟨F2, nx2, gs2, G2, hr2, hi2⟩ K2 hK2
      dsimp only at gs2 G2 hr2 hi2
      dsimp only
      have sm2 := F2.sm
      have g02 := F2.g0
      have hT2 := hT.same (sm2.mono hm) (Nat.le_refl _)
      have i1 := hT2.i
      have r1 := hT2.r
      have e1 := hT2.e
      by_cases hin2 : i < T.n
      · have rei := hT2.re i hin2
        have rii := hT2.ri i hin2
        have rri := hT2.rr i hin2
        have ewi := veq i hin2
        have hki : k < T.w i := by omega
        (focus ((try with_reducible apply wpC.to); (repeat' ((conv => whnf); first | refine byEv ?_ | (apply Fork.mk <;> (intro _; try (exfalso; omega))) | ((refine kTopW0 ?_); first | ((first | apply q_allD | apply q_alli | apply q_allB) <;> intro _ _ _ _ <;> try contradiction) | (apply q_allv; intro _ _ _)) | refine xTopF20 ?_ | refine xTopB20 ?_ | fail)); all_goals ((conv => whnf); try with_reducible apply At.mk)))
        apply q_appGG (r := r2) (n := i) (m := 1) (cs := rowsOf (fun i => (T.f i k).cells) i) (nc := (T.f i k).cells) (v := w2')
        case G => exact G2.frame fun h0 => get_of fun y hy => by have := hr2 h0; (exact byGet)
        case hsv => exact rfl
        case C => exact Cells.one (by unfold Rg.cells; (exact byMem)) (by unfold AE.far; omega) rfl rfl
        case hm => omega
        case hlo => (exact byOm)
        case hlr => exact fun h0 => by have := hr2 h0; exact ⟨byOm, byOm⟩
        case hsm => omega
        intro w3 r3 row ha hb hc G3
        have hr3 : X.next + 8 ≤ r3 ∧ r3 ≠ X.next + 7 := by
          rcases Nat.eq_zero_or_pos i with h0 | h0
          · have := ha h0; exact ⟨byOm, byOm⟩
          · have := hb h0; have := hr2 h0; exact ⟨byOm, byOm⟩
        obtain ⟨hr3, hr3'⟩ := hr3
        (focus ((try with_reducible apply wpC.to); (repeat' ((conv => whnf); first | refine byEv ?_ | (apply Fork.mk <;> (intro _; try (exfalso; omega))) | ((refine kTopW0 ?_); first | ((first | apply q_allD | apply q_alli | apply q_allB) <;> intro _ _ _ _ <;> try contradiction) | (apply q_allv; intro _ _ _)) | refine xTopF20 ?_ | refine xTopB20 ?_ | fail)); all_goals ((conv => whnf); try with_reducible apply At.mk)))
        exact hK2 (i + 1, r3, w3) _ _ ⟨rfl, rfl, rfl, rfl, rfl, rfl, rfl, rfl, rfl, int_of rfl (by dsimp only; omega), trivial⟩ ⟨F2.of (fun r hr => get_of fun y hy => byGet) byOm, byOm, by dsimp only; (exact byGet), G3.frame fun _ => get_of fun y hy => byGet, fun _ => ⟨hr3, by dsimp only; (exact byOm)⟩, by dsimp only; omega⟩ (by dsimp only; omega)
      obtain rfl : i = T.n := by omega
      obtain ⟨a1, hw1, el1, b1⟩ := G2.els (f := fun i => (T.f i k).cells) fun _ => rfl
      have hw1 := hw1 (by omega)
      subst hw1
      have b1 := b1 (by omega)
      have hr2 := hr2 (by omega)
      obtain ⟨Z, hZ⟩ : ∃ Z : Spots, Z = ⟨⟨T.n, fun i => T.f i k, some a1, a1, 0⟩, t⟩ := ⟨_, rfl⟩
      have kZ : Z.r.Ok X2.next X2 := by
        subst hZ
        exact ⟨fun _ => rfl, el1, fun _ => by dsimp only; omega, by dsimp only; omega⟩
      have zc : Z.cells = [.slice (some a1) T.n 0, .int .i64 t] := by rw [hZ]; rfl
      clear G2 el1
      (focus ((try with_reducible apply wpC.to); (repeat' ((conv => whnf); first | refine byEv ?_ | (apply Fork.mk <;> (intro _; try (exfalso; omega))) | ((refine kTopW0 ?_); first | ((first | apply q_allD | apply q_alli | apply q_allB) <;> intro _ _ _ _ <;> try contradiction) | (apply q_allv; intro _ _ _)) | refine xTopF20 ?_ | refine xTopB20 ?_ | fail)); all_goals ((conv => whnf); try with_reducible apply At.mk)))
      apply q_call
      focus (exact byNext)
      focus (exact byLo)
      focus (rw [← zc]; exact refCheckSpots_w (S := Z) (m := X2.next) byOm (kZ.same bySame (Nat.le_refl _)))
      rintro _ X3 rfl q3 hn3
      by_cases hze : spotsErr Z = 0
      · rw [hze]
        have F3 := F2.of (X' := X3) (fun r hr => (q3.same r byOm).trans (get_of fun y hy => byGet)) byOm
        have gs3 : X3.get (X.next + 7) = some (.cells [.slice (some a1) T.n 0, .int .i64 t] 34) := (q3.same _ byOm).trans byGet
        have kZ3 : Z.r.Ok X2.next X3 := kZ.same (fun r hr => (q3.same r byOm).trans (get_of fun y hy => byGet)) (Nat.le_refl _)
        have nx3 : X2.next ≤ X3.next := by (exact byOm)
        have fit := spots_fit hze
        have zn : Z.r.n = T.n := by rw [hZ]
        have zt : Z.t = t := by rw [hZ]
        have zlo : ∀ i, Z.lo i = (T.f i k).lo := fun i => by rw [hZ]; rfl
        have zf : ∀ i, Z.r.f i = T.f i k := fun i => by rw [hZ]
        have fairZ : ∀ X', Same X2.next X3 X' → X2.next ≤ X'.next → AW Tryz.prog 10 X'.next X' [.agg ⟨[.slice (some a1) T.n 0, .int .i64 t]⟩] (fun v h' => ∃ r w c x M, v = .tuple #[.slice w T.n c, .int .i64 M, .int .i64 0] ∧ LG r h' 2 T.n x w c ∧ X'.next ≤ r ∧ r < h'.next ∧ Fairest Z x M) := fun X' hs hx => by
          have fw := fairest_w (S := Z) (m := X2.next) (h := X') hx (kZ3.same hs (Nat.le_refl _)) hze
          rw [zn, zc] at fw
          exact fw
        clear F2 gs2 q3 kZ hn3 sm2 g02 hT2 i1 r1 e1
        (focus ((try with_reducible apply wpC.to); (repeat' ((conv => whnf); first | refine byEv ?_ | (apply Fork.mk <;> (intro _; try (exfalso; omega))) | ((refine kTopW0 ?_); first | ((first | apply q_allD | apply q_alli | apply q_allB) <;> intro _ _ _ _ <;> try contradiction) | (apply q_allv; intro _ _ _)) | refine xTopF20 ?_ | refine xTopB20 ?_ | fail)); all_goals ((conv => whnf); try with_reducible apply At.mk)))
        apply q_call
        focus (exact byNext)
        focus (exact byLo)
        focus exact fairZ _ (fun r hr => get_of fun y hy => byGet) byOm
        rintro _ X4 ⟨r, w, c, x, M, rfl, L4, f1, f2, FF⟩ q4 hn4
        have f1' : X3.next + 9 ≤ r := by (exact byOm)
        have z1 := L4.cap
        obtain ⟨ax, rfl, bx, jx⟩ := L4.ints
        have F4 := F3.of (X' := X4) (fun r hr => (q4.same r byOm).trans (get_of fun y hy => byGet)) byOm
        have gs4 : X4.get (X.next + 7) = some (.cells [.slice (some a1) T.n 0, .int .i64 t] 34) := (q4.same _ byOm).trans byGet
        have kZ4 : Z.r.Ok X2.next X4 := kZ3.same (fun r hr => (q4.same r byOm).trans (get_of fun y hy => byGet)) (Nat.le_refl _)
        have nx4 : X3.next + 9 ≤ X4.next := by (exact byOm)
        have hbx : ax.block < X4.next := by omega
        have hinx : ∀ j, j < T.n → (T.f j k).lo ≤ x j ∧ x j ≤ (T.f j k).hi := fun j hj => by
          have a := FF.inn j (by omega)
          have b := fit.hi j (by omega)
          rw [zlo] at a b
          rw [zf] at b
          omega
        have hM : bend x T.n + t * changes x T.n = M := by
          have := (FF.two (by omega)).2
          unfold mc at this
          rw [zt, zn] at this
          exact this
        have checkZ : ∀ X' : H, X4.next ≤ X'.next → Same X4.next X4 X' → AW Tryz.prog 11 X'.next X' [.agg ⟨[.slice (some a1) T.n 0, .int .i64 t]⟩, .slice (some ax) T.n c] (fun v _ => v = .tuple #[.int .i64 M, .int .i64 0]) := fun X' hx hs => by
          have := refCheck_w (S := Z) (T := ⟨T.n, x, some ax, ax, c⟩) (h := X') (m := X2.next) (m' := X4.next) (by omega) (by omega) (kZ4.same (hs.mono (by omega)) (Nat.le_refl _)) ⟨fun _ => rfl, jx.same hs (fun _ => hbx), fun _ => hbx, by dsimp only; omega⟩ hze (by rw [zn]) (fun j hj => by rw [zf]; exact hinx j (by omega))
          rw [zc, zt] at this
          dsimp only at this
          rw [hM] at this
          exact this
        clear q4 F3 gs3 kZ3 L4 hn4 fairZ
        (focus ((try with_reducible apply wpC.to); (repeat' ((conv => whnf); first | refine byEv ?_ | (apply Fork.mk <;> (intro _; try (exfalso; omega))) | ((refine kTopW0 ?_); first | ((first | apply q_allD | apply q_alli | apply q_allB) <;> intro _ _ _ _ <;> try contradiction) | (apply q_allv; intro _ _ _)) | refine xTopF20 ?_ | refine xTopB20 ?_ | fail)); all_goals ((conv => whnf); try with_reducible apply At.mk)))
        apply q_call
        focus (exact byNext)
        focus (exact byLo)
        focus exact checkZ _ byOm (fun r hr => get_of fun y hy => byGet)
        rintro _ X5 rfl q5 hn5
        have F5 := F4.of (X' := X5) (fun r hr => (q5.same r byOm).trans (get_of fun y hy => byGet)) byOm
        have jx5 : Ints X5 ax T.n x := jx.same (m := X4.next) (fun r hr => (q5.same r byOm).trans (get_of fun y hy => byGet)) (fun _ => hbx)
        have nx5 : X4.next ≤ X5.next := by (exact byOm)
        clear q5 F4 gs4 kZ4 hn5 checkZ jx
        (focus ((try with_reducible apply wpC.to); (repeat' ((conv => whnf); first | refine byEv ?_ | (apply Fork.mk <;> (intro _; try (exfalso; omega))) | ((refine kTopW0 ?_); first | ((first | apply q_allD | apply q_alli | apply q_allB) <;> intro _ _ _ _ <;> try contradiction) | (apply q_allv; intro _ _ _)) | refine xTopF20 ?_ | refine xTopB20 ?_ | fail)); all_goals ((conv => whnf); try with_reducible apply At.mk)))
        obtain ⟨Y2, hY2⟩ : ∃ Y2 : Nat → Nat → Int, Y2 = fun i j => if j = k then x i else Y i j := ⟨_, rfl⟩
        have y2k : ∀ i, Y2 i k = x i := fun i => by rw [hY2]; simp
        have y2o : ∀ i j, j < k → Y2 i j = Y i j := fun i j hj => by rw [hY2]; dsimp only; rw [if_neg (by omega)]
        refine wp_loop (fun x : HS => [(1, .int .u32 turn), (2, .int .u8 what), (4, .bool high), (5, .pointer (some ⟨h.next, 0, none⟩)), (8, .pointer (some ⟨h.next + 1, 0, none⟩)), (11, .int .i64 (T.w 0)), (12, .slice (some ⟨h1.next + 9, 0, none⟩) T.n T.n), (13, .int .i64 k), (16, .slice (some ax) T.n c), (21, .int .i64 x.k)])
          (fun z X6 => FK h T n d (h1.next + 9) z.N (fun j => if j < z.k then k + 1 else k) z.rr z.vv Y2 X6 ∧ X6.get ax.block = X5.get ax.block ∧ X5.next ≤ X6.next ∧ z.k ≤ T.n ∧ (0 < k → z.N = N)) (fun z => T.n - z.k) ⟨0, rr, vv, Y2, N⟩ ⟨rfl, rfl, rfl, rfl, rfl, rfl, rfl, rfl, rfl, rfl, trivial⟩ ⟨?_, get_of fun y hy => byGet, byOm, by simp, fun _ => rfl⟩ ?_
        · exact (F5.of (fun r hr => get_of fun y hy => byGet) byOm).congr (fun i hi => if_neg (by dsimp only; omega)) fun i j hi hj => (y2o i j hj).symm
        clear F5 et
        rintro ⟨i, ro, vo, yy, N6⟩ g6 X6 ⟨F6, ga6, nx6, hi6, hN6⟩ K6 hK6
        dsimp only at F6 hi6 hN6
        dsimp only at hK6 ⊢
        have bx6 : ax.block < X6.next := by omega
        by_cases hin6 : i < T.n
        · have ix : X6.loadN (aadd ax (i * 1)) 1 = some [.int .i64 (x i)] := (ints_row jx5 ga6).at hin6
          have va : X6.loadN (aadd ⟨h1.next + 9, 0, none⟩ (i * 1)) 1 = some [.slice (vo i) k 0] := by
            have := F6.off.vals.at hin6
            rw [if_neg (Nat.lt_irrefl i)] at this
            exact this
          have G6 : GG (ro i) X6 2 1 k (iCells (Y2 i) k) (vo i) := by
            have := F6.off.row i hin6
            rw [if_neg (Nat.lt_irrefl i)] at this
            exact this
          have rg6 : 0 < k → h1.next + 10 ≤ ro i ∧ ro i < N6 := fun h0 => by
            have := F6.off.rng i hin6
            rw [if_neg (Nat.lt_irrefl i)] at this
            exact this h0
          have gR := F6.off.out
          have n6 := F6.nx
          (focus ((try with_reducible apply wpC.to); (repeat' ((conv => whnf); first | refine byEv ?_ | (apply Fork.mk <;> (intro _; try (exfalso; omega))) | ((refine kTopW0 ?_); first | ((first | apply q_allD | apply q_alli | apply q_allB) <;> intro _ _ _ _ <;> try contradiction) | (apply q_allv; intro _ _ _)) | refine xTopF20 ?_ | refine xTopB20 ?_ | fail)); all_goals ((conv => whnf); try with_reducible apply At.mk)))
          apply q_appGG (r := ro i) (n := k) (m := 1) (cs := iCells (Y2 i) k) (nc := [.int .i64 (x i)]) (v := vo i)
          case G => exact G6.frame fun h0 => get_of fun y hy => by have := rg6 h0; (exact byGet)
          case hsv => exact rfl
          case C => exact Cells.one byMem (by unfold AE.far; omega) rfl rfl
          case hm => omega
          case hlo => (exact byOm)
          case hlr => exact fun h0 => by have := rg6 h0; exact ⟨byOm, byOm⟩
          case hsm => omega
          intro w7 r7 row7 ha hb hc G7
          have hR2 := F6.hR
          have hRN6 := F6.hRN
          have hr7 : h1.next + 10 ≤ r7 ∧ r7 ≠ ax.block ∧ (0 < k → r7 = ro i ∧ r7 < N6) ∧ (k = 0 → X6.next ≤ r7) := by
            rcases Nat.eq_zero_or_pos k with h0 | h0
            · have := ha h0; exact ⟨byOm, byOm, fun h => by omega, fun _ => byOm⟩
            · have := hb h0; have := rg6 h0; have := hN6 h0; exact ⟨by omega, by omega, fun _ => ⟨by omega, by omega⟩, fun h => by omega⟩
          obtain ⟨q1, q2, q3, q4⟩ := hr7
          (focus ((try with_reducible apply wpC.to); (repeat' ((conv => whnf); first | refine byEv ?_ | (apply Fork.mk <;> (intro _; try (exfalso; omega))) | ((refine kTopW0 ?_); first | ((first | apply q_allD | apply q_alli | apply q_allB) <;> intro _ _ _ _ <;> try contradiction) | (apply q_allv; intro _ _ _)) | refine xTopF20 ?_ | refine xTopB20 ?_ | fail)); all_goals ((conv => whnf); try with_reducible apply At.mk)))
          refine Sto.mk (r := h1.next + 9) (off := 0 + i * 1) (c' := splice (offC vo (fun j => if j < i then k + 1 else k) T.n) i [.slice w7 (k + 1) 0]) rfl (by omega) byGet rfl rfl (Nat.ble_eq_true_of_le (by rw [offC_len]; simp; omega)) (bis_eq (by rw [show 0 + i * 1 = i by omega])) ?_
          have ekk : (if i < i then k + 1 else k) = k := if_neg (Nat.lt_irrefl i)
          have G8 : ∀ X' : H, X'.get r7 = some row7 → GG r7 X' 2 1 ((if i < i then k + 1 else k) + 1) (iCells (Y2 i) ((if i < i then k + 1 else k) + 1)) w7 := fun X' hx => by
            rw [ekk]
            have E : iCells (Y2 i) (k + 1) = iCells (Y2 i) k ++ [.int .i64 (x i)] := by rw [← y2k i]; unfold iCells; rfl
            rw [E]
            exact G7.frame fun _ => hx.trans put_get'.symm
          have econg : ∀ j, j < T.n → (if j < i + 1 then k + 1 else k) = if j = i then (if i < i then k + 1 else k) + 1 else if j < i then k + 1 else k := fun j hj => by
            rw [ekk]
            by_cases e1 : j = i
            · subst e1; simp
            · rw [if_neg e1]
              by_cases e2 : j < i
              · rw [if_pos e2, if_pos (by omega)]
              · rw [if_neg e2, if_neg (by omega)]
          (focus ((try with_reducible apply wpC.to); (repeat' ((conv => whnf); first | refine byEv ?_ | (apply Fork.mk <;> (intro _; try (exfalso; omega))) | ((refine kTopW0 ?_); first | ((first | apply q_allD | apply q_alli | apply q_allB) <;> intro _ _ _ _ <;> try contradiction) | (apply q_allv; intro _ _ _)) | refine xTopF20 ?_ | refine xTopB20 ?_ | fail)); all_goals ((conv => whnf); try with_reducible apply At.mk)))
          have s6 := F6.sm
          have c0 := F6.g0
          have c1 := F6.g1
          rcases Nat.eq_zero_or_pos k with h0 | h0
          · have q4 := q4 h0
            refine hK6 ⟨i + 1, fun j => if j = i then r7 else ro j, fun j => if j = i then w7 else vo j, Y2, X6.next + 21⟩ _ _ ⟨rfl, rfl, rfl, rfl, rfl, rfl, rfl, rfl, rfl, int_of rfl (by dsimp only; omega), trivial⟩ ⟨⟨bySame, byGet, byGet, ?_, by dsimp only; (exact byOm), F6.hR, by dsimp only; omega⟩, (get_of fun y hy => byGet).trans ga6, byOm, by dsimp only; omega, fun h => by omega⟩ (by dsimp only; omega)
            refine (F6.off.set (N' := X6.next + 21) (r' := r7) (v' := w7) hin6 (by omega) (by omega) (by rw [ekk]; (exact byGet)) (fun y h3 h4 h5 => get_of fun z hz => byGet) (G8 _ (by have := put_get' (h := (((X6.bump 4).bump 14).put (X6.next + 14) (ARow.cells [Value.int IntKind.i64 (x i)] 2))) (r := r7) (row := row7); (exact byGet))) ⟨fun h => by rw [ekk] at h; omega, fun _ => ⟨by omega, byOm⟩⟩).congr econg fun i j hi hj => rfl
          · obtain ⟨q3, q3'⟩ := q3 h0
            refine hK6 ⟨i + 1, fun j => if j = i then r7 else ro j, fun j => if j = i then w7 else vo j, Y2, N6⟩ _ _ ⟨rfl, rfl, rfl, rfl, rfl, rfl, rfl, rfl, rfl, int_of rfl (by dsimp only; omega), trivial⟩ ⟨⟨bySame, byGet, byGet, ?_, by dsimp only; (exact byOm), F6.hR, by dsimp only; omega⟩, (get_of fun y hy => byGet).trans ga6, byOm, by dsimp only; omega, fun h => hN6 h⟩ (by dsimp only; omega)
            refine (F6.off.set (N' := N6) (r' := r7) (v' := w7) hin6 (Nat.le_refl _) (by omega) (by rw [ekk]; (exact byGet)) (fun y h3 h4 h5 => by
              have h5 := h5 (by rw [ekk]; exact h0)
              exact get_of fun z hz => byGet) (G8 _ byGet) ⟨fun _ => q3, fun h => by rw [ekk] at h; omega⟩).congr econg fun i j hi hj => rfl
        · obtain rfl : i = T.n := by omega
          (focus ((try with_reducible apply wpC.to); (repeat' ((conv => whnf); first | refine byEv ?_ | (apply Fork.mk <;> (intro _; try (exfalso; omega))) | ((refine kTopW0 ?_); first | ((first | apply q_allD | apply q_alli | apply q_allB) <;> intro _ _ _ _ <;> try contradiction) | (apply q_allv; intro _ _ _)) | refine xTopF20 ?_ | refine xTopB20 ?_ | fail)); all_goals ((conv => whnf); try with_reducible apply At.mk)))
          refine hK ⟨k + 1, ro, vo, Y2, N6⟩ _ _ ⟨rfl, rfl, rfl, rfl, rfl, rfl, rfl, int_of rfl (by dsimp only; omega), trivial⟩ ⟨?_, by dsimp only; omega, fun i j hi hj => ?_⟩ (by dsimp only; omega)
          · exact (F6.of (fun r hr => get_of fun y hy => byGet) (by have := F6.nx; (exact byOm))).congr (fun i hi => (if_pos hi).symm) fun i j hi hj => rfl
          · dsimp only at hj ⊢
            by_cases e : j = k
            · subst e
              rw [y2k]
              exact hinx i hi
            · rw [y2o i j (by omega)]
              exact hin i j hi (by omega)
      · (focus ((try with_reducible apply wpC.to); (repeat' ((conv => whnf); first | refine byEv ?_ | (apply Fork.mk <;> (intro _; try (exfalso; omega))) | ((refine kTopW0 ?_); first | ((first | apply q_allD | apply q_alli | apply q_allB) <;> intro _ _ _ _ <;> try contradiction) | (apply q_allv; intro _ _ _)) | refine xTopF20 ?_ | refine xTopB20 ?_ | fail)); all_goals ((conv => whnf); try with_reducible apply At.mk)))
        (refine byFin ?_)
        rfl
    · obtain rfl : k = T.w 0 := by omega
      obtain ⟨q, eq⟩ : ∃ q : Nat, (what % 3) = (q : Int) := ⟨(what % 3).toNat, by omega⟩
      have hq : q ≤ 2 := by omega
      have hRN := F.hRN
      have nx := F.nx
      obtain ⟨ra, gd, -⟩ := F.off.grid (by omega) hRN
      have inY : T.hul.In Y := fun i k hi hk => hin i k hi hk
      have F2 : Fits2 T ⟨T.n, T.w 0, some ⟨h1.next + 9, 0, none⟩, ⟨h1.next + 9, 0, none⟩, T.n, ra, fun _ => 0, Y⟩ := ⟨V, rfl, rfl, inY⟩
      have sm := F.sm
      have g0 := F.g0
      have g1 := F.g1
      have hT2 := hT.same (sm.mono hm) (Nat.le_refl _)
      clear F hin
      (focus ((try with_reducible apply wpC.to); (repeat' ((conv => whnf); first | refine byEv ?_ | (apply Fork.mk <;> (intro _; try (exfalso; omega))) | ((refine kTopW0 ?_); first | ((first | apply q_allD | apply q_alli | apply q_allB) <;> intro _ _ _ _ <;> try contradiction) | (apply q_allv; intro _ _ _)) | refine xTopF20 ?_ | refine xTopB20 ?_ | fail)); all_goals ((conv => whnf); try with_reducible apply At.mk)))
      rw [eq]
      (focus ((try with_reducible apply wpC.to); (repeat' ((conv => whnf); first | refine byEv ?_ | (apply Fork.mk <;> (intro _; try (exfalso; omega))) | ((refine kTopW0 ?_); first | ((first | apply q_allD | apply q_alli | apply q_allB) <;> intro _ _ _ _ <;> try contradiction) | (apply q_allv; intro _ _ _)) | refine xTopF20 ?_ | refine xTopB20 ?_ | fail)); all_goals ((conv => whnf); try with_reducible apply At.mk)))
      apply q_call
      focus (exact byNext)
      focus (exact byLo)
      focus exact checkTrue_w (T := T) (m := m0) (m' := N) byOm byOm (hT2.same bySame (Nat.le_refl _)) (gd.same (fun r hr => get_of fun y hy => byGet) (Nat.le_refl _)) F2
      rintro _ X2 rfl q2 hn2
      have sm2 : Same h.next h X2 := fun r hr => (q2.same r byOm).trans ((get_of fun y hy => byGet).trans (sm r hr))
      have g02 : X2.get h.next = some (.cells [.int .i64 T.sp, .int .i64 T.st, .slice T.b T.n T.c] 24) := (q2.same _ byOm).trans byGet
      have g12 : X2.get (h.next + 1) = some (.cells [.int .i64 n, .int .i64 d] 27) := (q2.same _ byOm).trans byGet
      have gd2 := gd.same (h' := X2) (fun r hr => (q2.same r byOm).trans (get_of fun y hy => byGet)) (Nat.le_refl _)
      have nx2 : X.next ≤ X2.next := by (exact byOm)
      clear q2 hn2 sm g0 g1 gd hT2
      have hT3 := hT.same (sm2.mono hm) (Nat.le_refl _)
      (focus ((try with_reducible apply wpC.to); (repeat' ((conv => whnf); first | refine byEv ?_ | (apply Fork.mk <;> (intro _; try (exfalso; omega))) | ((refine kTopW0 ?_); first | ((first | apply q_allD | apply q_alli | apply q_allB) <;> intro _ _ _ _ <;> try contradiction) | (apply q_allv; intro _ _ _)) | refine xTopF20 ?_ | refine xTopB20 ?_ | fail)); all_goals ((conv => whnf); try with_reducible apply At.mk)))
      apply q_call
      focus (exact byNext)
      focus (exact byLo)
      focus exact volumeApi_w (T := T) (m := m0) (m' := N) byOm byOm (hT3.same bySame (Nat.le_refl _)) (gd2.same (fun r hr => get_of fun y hy => byGet) (Nat.le_refl _)) F2
      rintro _ X3 rfl q3 hn3
      have sm3 : Same h.next h X3 := fun r hr => (q3.same r byOm).trans ((get_of fun y hy => byGet).trans (sm2 r hr))
      have g03 : X3.get h.next = some (.cells [.int .i64 T.sp, .int .i64 T.st, .slice T.b T.n T.c] 24) := (q3.same _ byOm).trans byGet
      have g13 : X3.get (h.next + 1) = some (.cells [.int .i64 n, .int .i64 d] 27) := (q3.same _ byOm).trans byGet
      have gd3 := gd2.same (h' := X3) (fun r hr => (q3.same r byOm).trans (get_of fun y hy => byGet)) (Nat.le_refl _)
      have nx3 : X2.next + 7 ≤ X3.next := by (exact byOm)
      clear q3 hn3 sm2 g02 g12 gd2 hT3
      have hT4 := hT.same (sm3.mono hm) (Nat.le_refl _)
      dsimp only
      have vq := volume_q V inY
      have vlo := volume_q V (lo_in V)
      have vhi := volume_q V (hi_in V)
      have vb1 := volume_le V (lo_in V) inY fun i k hi hk => (inY i k hi hk).1
      have vb2 := volume_le V inY (hi_in V) fun i k hi hk => (inY i k hi hk).2
      have xq := V.hul.val_q q inY
      obtain ⟨v, ev⟩ : ∃ v, v = fr (T.sp * T.st * T.hul.vol Y) 2 := ⟨_, rfl⟩
      rw [← ev] at vq vb1 vb2 ⊢
      (focus ((try with_reducible apply wpC.to); (repeat' ((conv => whnf); first | refine byEv ?_ | (apply Fork.mk <;> (intro _; try (exfalso; omega))) | ((refine kTopW0 ?_); first | ((first | apply q_allD | apply q_alli | apply q_allB) <;> intro _ _ _ _ <;> try contradiction) | (apply q_allv; intro _ _ _)) | refine xTopF20 ?_ | refine xTopB20 ?_ | fail)); all_goals ((conv => whnf); try with_reducible apply At.mk)))
      apply q_call
      focus (exact byNext)
      focus (exact byLo)
      focus exact valueApi_w (T := T) (m := m0) (m' := N) (q := q) byOm byOm (hT4.same bySame (Nat.le_refl _)) (gd3.same (fun r hr => get_of fun y hy => byGet) (Nat.le_refl _)) F2 hq
      rintro _ X4 rfl q4 hn4
      have sm4 : Same h.next h X4 := fun r hr => (q4.same r byOm).trans ((get_of fun y hy => byGet).trans (sm3 r hr))
      have g04 : X4.get h.next = some (.cells [.int .i64 T.sp, .int .i64 T.st, .slice T.b T.n T.c] 24) := (q4.same _ byOm).trans byGet
      have g14 : X4.get (h.next + 1) = some (.cells [.int .i64 n, .int .i64 d] 27) := (q4.same _ byOm).trans byGet
      have gv4 : X4.get (X2.next + 6) = some (.cells [.int .i64 v.n, .int .i64 v.d] 27) := (q4.same _ byOm).trans byGet
      have nx4 : X3.next + 8 ≤ X4.next := by (exact byOm)
      clear q4 hn4 sm3 g03 g13 gd3 hT4
      have hT5 := hT.same (sm4.mono hm) (Nat.le_refl _)
      dsimp only
      obtain ⟨x, ex⟩ : ∃ x, x = T.hul.val q Y := ⟨_, rfl⟩
      rw [← ex] at xq ⊢
      (focus ((try with_reducible apply wpC.to); (repeat' ((conv => whnf); first | refine byEv ?_ | (apply Fork.mk <;> (intro _; try (exfalso; omega))) | ((refine kTopW0 ?_); first | ((first | apply q_allD | apply q_alli | apply q_allB) <;> intro _ _ _ _ <;> try contradiction) | (apply q_allv; intro _ _ _)) | refine xTopF20 ?_ | refine xTopB20 ?_ | fail)); all_goals ((conv => whnf); try with_reducible apply At.mk)))
      apply q_call
      focus (exact byNext)
      focus (exact byLo)
      focus exact volumes_w (T := T) (m := m0) byOm (hT5.same bySame (Nat.le_refl _)) V
      rintro _ X5 rfl q5 hn5
      have sm5 : Same h.next h X5 := fun r hr => (q5.same r byOm).trans ((get_of fun y hy => byGet).trans (sm4 r hr))
      have g05 : X5.get h.next = some (.cells [.int .i64 T.sp, .int .i64 T.st, .slice T.b T.n T.c] 24) := (q5.same _ byOm).trans byGet
      have g15 : X5.get (h.next + 1) = some (.cells [.int .i64 n, .int .i64 d] 27) := (q5.same _ byOm).trans byGet
      have gv5 : X5.get (X2.next + 6) = some (.cells [.int .i64 v.n, .int .i64 v.d] 27) := (q5.same _ byOm).trans byGet
      have gx5 : X5.get (X3.next + 7) = some (.cells [.int .i64 x.n, .int .i64 x.d] 27) := (q5.same _ byOm).trans byGet
      have nx5 : X4.next + 6 ≤ X5.next := by (exact byOm)
      clear q5 hn5 sm4 g04 g14 gv4 hT5
      have hT6 := hT.same (sm5.mono hm) (Nat.le_refl _)
      obtain ⟨a, ea⟩ : ∃ a, a = fr (T.sp * T.st * T.hul.vol fun i k => (T.f i k).lo) 2 := ⟨_, rfl⟩
      obtain ⟨b, eb⟩ : ∃ b, b = fr (T.sp * T.st * T.hul.vol fun i k => (T.f i k).hi) 2 := ⟨_, rfl⟩
      rw [← ea] at vlo vb1 ⊢
      rw [← eb] at vhi vb2 ⊢
      (focus ((try with_reducible apply wpC.to); (repeat' ((conv => whnf); first | refine byEv ?_ | (apply Fork.mk <;> (intro _; try (exfalso; omega))) | ((refine kTopW0 ?_); first | ((first | apply q_allD | apply q_alli | apply q_allB) <;> intro _ _ _ _ <;> try contradiction) | (apply q_allv; intro _ _ _)) | refine xTopF20 ?_ | refine xTopB20 ?_ | fail)); all_goals ((conv => whnf); try with_reducible apply At.mk)))
      apply q_call
      focus (exact byNext)
      focus (exact byLo)
      focus exact spanApi_w (T := T) (m := m0) (q := q) byOm (hT6.same bySame (Nat.le_refl _)) V hq
      rintro _ X6 ⟨Z, Z', rfl, E, E'⟩ q6 hn6
      have sm6 : Same h.next h X6 := fun r hr => (q6.same r byOm).trans ((get_of fun y hy => byGet).trans (sm5 r hr))
      have g06 : X6.get h.next = some (.cells [.int .i64 T.sp, .int .i64 T.st, .slice T.b T.n T.c] 24) := (q6.same _ byOm).trans byGet
      have g16 : X6.get (h.next + 1) = some (.cells [.int .i64 n, .int .i64 d] 27) := (q6.same _ byOm).trans byGet
      have gv6 : X6.get (X2.next + 6) = some (.cells [.int .i64 v.n, .int .i64 v.d] 27) := (q6.same _ byOm).trans byGet
      have gx6 : X6.get (X3.next + 7) = some (.cells [.int .i64 x.n, .int .i64 x.d] 27) := (q6.same _ byOm).trans byGet
      have gw6 : X6.get (X4.next + 5) = some (.cells [.int .i64 a.n, .int .i64 a.d, .int .i64 b.n, .int .i64 b.d] 48) := (q6.same _ byOm).trans byGet
      have nx6 : X5.next + 7 ≤ X6.next := by (exact byOm)
      clear q6 hn6 sm5 g05 g15 gv5 gx5 hT6
      have hT7 := hT.same (sm6.mono hm) (Nat.le_refl _)
      have xz := V.hul.val_q q E.inn
      have xz' := V.hul.val_q q E'.inn
      have xb1 : ¬ lt4 x.n x.d (T.hul.val q Z).n (T.hul.val q Z).d := by rw [ex]; exact over_ge V inY xz (E.none _ (inY.valid q))
      have xb2 : ¬ lt4 (T.hul.val q Z').n (T.hul.val q Z').d x.n x.d := by rw [ex]; exact over_le V inY xz' (by have e := E'.none _ (inY.valid q); rw [Int.one_mul] at e; exact e)
      generalize T.hul.val q Z = z at xz xb1
      generalize T.hul.val q Z' = z' at xz' xb2
      (focus ((try with_reducible apply wpC.to); (repeat' ((conv => whnf); first | refine byEv ?_ | (apply Fork.mk <;> (intro _; try (exfalso; omega))) | ((refine kTopW0 ?_); first | ((first | apply q_allD | apply q_alli | apply q_allB) <;> intro _ _ _ _ <;> try contradiction) | (apply q_allv; intro _ _ _)) | refine xTopF20 ?_ | refine xTopB20 ?_ | fail)); all_goals ((conv => whnf); try with_reducible apply At.mk)))
      apply q_call
      focus (exact byNext)
      focus (exact byLo)
      focus exact between3_w (x := v) (y := a) (z := b) vq.1 vlo.1 vhi.1 vb1 vb2
      rintro _ X7 rfl q7 hn7
      have sm7 : Same h.next h X7 := fun r hr => (q7.same r byOm).trans ((get_of fun y hy => byGet).trans (sm6 r hr))
      have g07 : X7.get h.next = some (.cells [.int .i64 T.sp, .int .i64 T.st, .slice T.b T.n T.c] 24) := (q7.same _ byOm).trans byGet
      have g17 : X7.get (h.next + 1) = some (.cells [.int .i64 n, .int .i64 d] 27) := (q7.same _ byOm).trans byGet
      have gx7 : X7.get (X3.next + 7) = some (.cells [.int .i64 x.n, .int .i64 x.d] 27) := (q7.same _ byOm).trans byGet
      have gz7 : X7.get (X5.next + 6) = some (.cells [.int .i64 z.n, .int .i64 z.d, .int .i64 z'.n, .int .i64 z'.d] 48) := (q7.same _ byOm).trans byGet
      have nx7 : X6.next ≤ X7.next := by (exact byOm)
      clear q7 hn7 sm6 g06 g16 gv6 gx6 gw6 hT7
      (focus ((try with_reducible apply wpC.to); (repeat' ((conv => whnf); first | refine byEv ?_ | (apply Fork.mk <;> (intro _; try (exfalso; omega))) | ((refine kTopW0 ?_); first | ((first | apply q_allD | apply q_alli | apply q_allB) <;> intro _ _ _ _ <;> try contradiction) | (apply q_allv; intro _ _ _)) | refine xTopF20 ?_ | refine xTopB20 ?_ | fail)); all_goals ((conv => whnf); try with_reducible apply At.mk)))
      apply q_call
      focus (exact byNext)
      focus (exact byLo)
      focus exact between3_w (x := x) (y := z) (z := z') xq xz xz' xb1 xb2
      rintro _ X8 rfl q8 hn8
      have sm8 : Same h.next h X8 := fun r hr => (q8.same r byOm).trans ((get_of fun y hy => byGet).trans (sm7 r hr))
      have g08 : X8.get h.next = some (.cells [.int .i64 T.sp, .int .i64 T.st, .slice T.b T.n T.c] 24) := (q8.same _ byOm).trans byGet
      have g18 : X8.get (h.next + 1) = some (.cells [.int .i64 n, .int .i64 d] 27) := (q8.same _ byOm).trans byGet
      have gx8 : X8.get (X3.next + 7) = some (.cells [.int .i64 x.n, .int .i64 x.d] 27) := (q8.same _ byOm).trans byGet
      have nx8 : X7.next ≤ X8.next := by (exact byOm)
      clear q8 hn8 sm7 g07 g17 gx7 gz7
      have hT8 := hT.same (sm8.mono hm) (Nat.le_refl _)
      (focus ((try with_reducible apply wpC.to); (repeat' ((conv => whnf); first | refine byEv ?_ | (apply Fork.mk <;> (intro _; try (exfalso; omega))) | ((refine kTopW0 ?_); first | ((first | apply q_allD | apply q_alli | apply q_allB) <;> intro _ _ _ _ <;> try contradiction) | (apply q_allv; intro _ _ _)) | refine xTopF20 ?_ | refine xTopB20 ?_ | fail)); all_goals ((conv => whnf); try with_reducible apply At.mk)))
      apply q_call
      focus (exact byNext)
      focus (exact byLo)
      focus exact checkBound_w (T := T) (m := m0) (q := q) (n := n) (d := d) (high := high) byOm (hT8.same bySame (Nat.le_refl _)) V hq
      rintro _ X9 ⟨e, rfl, hb⟩ q9 hn9
      have g19 : X9.get (h.next + 1) = some (.cells [.int .i64 n, .int .i64 d] 27) := (q9.same _ byOm).trans byGet
      have gx9 : X9.get (X3.next + 7) = some (.cells [.int .i64 x.n, .int .i64 x.d] 27) := (q9.same _ byOm).trans byGet
      have nx9 : X8.next ≤ X9.next := by (exact byOm)
      clear q9 hn9 sm8 g08 g18 gx8 hT8
      by_cases h0 : e = 0
      · obtain ⟨Q, hov⟩ := hb h0
        subst h0
        have o := hov _ (inY.valid q)
        have u1 := Q.n0
        have u2 := Q.n1
        have u3 := Q.d0
        have u4 := Q.d1
        dsimp only at u1 u2 u3 u4
        have lw := fun (X' : H) (y z : Fr) (hy : y.Q) (hz : z.Q) (hl : ¬ lt4 y.n y.d z.n z.d) => show AW Tryz.prog 19 X'.next X' [.agg ⟨[.int .i64 y.n, .int .i64 y.d]⟩, .agg ⟨[.int .i64 z.n, .int .i64 z.d]⟩] (fun v _ => v = .bool false) from by
          have := less3_w (h := X') hy hz
          rw [decide_eq_false hl] at this
          exact this
        cases high with
        | true =>
          have hl : ¬ lt4 n d x.n x.d := by
            rw [ex]
            exact over_le V inY Q (by
              have e : sgnOf true = 1 := rfl
              rw [e, Int.one_mul] at o
              exact o)
          (focus ((try with_reducible apply wpC.to); (repeat' ((conv => whnf); first | refine byEv ?_ | (apply Fork.mk <;> (intro _; try (exfalso; omega))) | ((refine kTopW0 ?_); first | ((first | apply q_allD | apply q_alli | apply q_allB) <;> intro _ _ _ _ <;> try contradiction) | (apply q_allv; intro _ _ _)) | refine xTopF20 ?_ | refine xTopB20 ?_ | fail)); all_goals ((conv => whnf); try with_reducible apply At.mk)))
          apply q_call
          focus (exact byNext)
          focus (exact byLo)
          focus exact lw _ ⟨n, d⟩ x Q xq hl
          rintro _ XA rfl qA hnA
          (focus ((try with_reducible apply wpC.to); (repeat' ((conv => whnf); first | refine byEv ?_ | (apply Fork.mk <;> (intro _; try (exfalso; omega))) | ((refine kTopW0 ?_); first | ((first | apply q_allD | apply q_alli | apply q_allB) <;> intro _ _ _ _ <;> try contradiction) | (apply q_allv; intro _ _ _)) | refine xTopF20 ?_ | refine xTopB20 ?_ | fail)); all_goals ((conv => whnf); try with_reducible apply At.mk)))
          (refine byFin ?_)
          rfl
        | false =>
          have hl : ¬ lt4 x.n x.d n d := by
            rw [ex]
            exact over_ge V inY Q o
          (focus ((try with_reducible apply wpC.to); (repeat' ((conv => whnf); first | refine byEv ?_ | (apply Fork.mk <;> (intro _; try (exfalso; omega))) | ((refine kTopW0 ?_); first | ((first | apply q_allD | apply q_alli | apply q_allB) <;> intro _ _ _ _ <;> try contradiction) | (apply q_allv; intro _ _ _)) | refine xTopF20 ?_ | refine xTopB20 ?_ | fail)); all_goals ((conv => whnf); try with_reducible apply At.mk)))
          apply q_call
          focus (exact byNext)
          focus (exact byLo)
          focus exact lw _ x ⟨n, d⟩ xq Q hl
          rintro _ XA rfl qA hnA
          (focus ((try with_reducible apply wpC.to); (repeat' ((conv => whnf); first | refine byEv ?_ | (apply Fork.mk <;> (intro _; try (exfalso; omega))) | ((refine kTopW0 ?_); first | ((first | apply q_allD | apply q_alli | apply q_allB) <;> intro _ _ _ _ <;> try contradiction) | (apply q_allv; intro _ _ _)) | refine xTopF20 ?_ | refine xTopB20 ?_ | fail)); all_goals ((conv => whnf); try with_reducible apply At.mk)))
          (refine byFin ?_)
          rfl
      · (focus ((try with_reducible apply wpC.to); (repeat' ((conv => whnf); first | refine byEv ?_ | (apply Fork.mk <;> (intro _; try (exfalso; omega))) | ((refine kTopW0 ?_); first | ((first | apply q_allD | apply q_alli | apply q_allB) <;> intro _ _ _ _ <;> try contradiction) | (apply q_allv; intro _ _ _)) | refine xTopF20 ?_ | refine xTopB20 ?_ | fail)); all_goals ((conv => whnf); try with_reducible apply At.mk)))
        (refine byFin ?_)
        rfl
  · have he0 : e ≠ 0 := fun h => V (he.1 h)
    (focus ((try with_reducible apply wpC.to); (repeat' ((conv => whnf); first | refine byEv ?_ | (apply Fork.mk <;> (intro _; try (exfalso; omega))) | ((refine kTopW0 ?_); first | ((first | apply q_allD | apply q_alli | apply q_allB) <;> intro _ _ _ _ <;> try contradiction) | (apply q_allv; intro _ _ _)) | refine xTopF20 ?_ | refine xTopB20 ?_ | fail)); all_goals ((conv => whnf); try with_reducible apply At.mk)))
    all_goals ((refine byFin ?_); rfl)
end AE.Tryz
