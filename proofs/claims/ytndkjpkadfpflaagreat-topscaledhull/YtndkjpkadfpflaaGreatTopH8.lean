/- Walk of TopScaledHull: the ship is made. -/
import Derived.Test.YtndkjpkadfpflaaGreatJoin12
import Derived.Test.YtndkjpkadfpflaaGreatJoin7
set_option linter.unusedVariables false
set_option linter.unusedSimpArgs false
set_option linter.unusedSectionVars false
namespace AE.Tryz
open Go AE Go.Proofs AE.Box AE.Fair AE.Drag
set_option maxRecDepth 100000
set_option linter.unusedVariables false

/-- The test, with a length. -/
def longer (t : T) (l : Int) : T := { t with long := l }
/-- The test of a model as long as the ship. -/
def asShip (t : T) (l : Int) : T := { t with long := l * (t.alpha * t.alpha), speed := t.speed * t.alpha, alpha := 1, tl := t.sl, th := t.sh }
theorem same_re {t : T} {l w : Int} : modelRe (asShip t l) w = shipRe (longer t l) w := by
  unfold modelRe shipRe asShip longer
  dsimp only
  have : t.speed * t.alpha * (l * (t.alpha * t.alpha)) = t.speed * l * t.alpha * t.alpha * t.alpha := by ac_rfl
  rw [this]
/-- What stands while the ship is made. -/
structure SK (h : H) (T : Hull) (t : Drag.T) (s : Int) (B N : Nat) (i : Nat) (rr : Nat → Nat) (vv : Nat → Option Addr) (ro : Nat) (vo : Option Addr) (X : H) : Prop where
  sm : Same h.next h X
  g0 : X.get h.next = some (.cells [.int .i64 T.sp, .int .i64 T.st, .slice T.b T.n T.c] 24)
  g1 : X.get (h.next + 1) = some (.cells (longer t (T.sp * ((T.n : Int) - 1))).cells 70)
  g8 : X.get B = some (.cells [.int .i64 (T.sp * s), .int .i64 (T.st * s), .slice vo i 0] 24)
  sh : SH (B + 1) N X (T.w 0) i rr vv ro vo (fun i k => ⟨(T.f i k).lo * s, (T.f i k).hi * s⟩)
  nx : N ≤ X.next
  hB : h.next + 2 ≤ B
  hN : B + 1 ≤ N
theorem SK.of {h : H} {T : Hull} {t : Drag.T} {s : Int} {B N : Nat} {i : Nat} {rr : Nat → Nat} {vv : Nat → Option Addr} {ro : Nat} {vo : Option Addr} {X Y : H} (k : SK h T t s B N i rr vv ro vo X) (hs : ∀ r, r < N → Y.get r = X.get r) (hx : N ≤ Y.next) : SK h T t s B N i rr vv ro vo Y :=
  have a := k.hB
  have b := k.hN
  ⟨fun r hr => (hs r (by omega)).trans (k.sm r hr), (hs _ (by omega)).trans k.g0, (hs _ (by omega)).trans k.g1, (hs _ (by omega)).trans k.g8, k.sh.frame (Nat.le_refl _) fun x _ hx => hs x hx, hx, a, b⟩
/-- What stands when the ship is made. -/
structure Made (h : H) (T Q : Hull) (N B : Nat) (X : H) : Prop where
  sm : Same h.next h X
  g0 : X.get h.next = some (.cells [.int .i64 T.sp, .int .i64 T.st, .slice T.b T.n T.c] 24)
  g8 : X.get B = some (.cells Q.cells 24)
  ok : Q.Ok N X
  nx : N ≤ X.next
theorem Made.of {h : H} {T Q : Hull} {N B : Nat} {X Y : H} (k : Made h T Q N B X) (hB : h.next < B ∧ B < N) (hs : ∀ r, r < N → Y.get r = X.get r) (hx : N ≤ Y.next) : Made h T Q N B Y :=
  ⟨fun r hr => (hs r (by omega)).trans (k.sm r hr), (hs _ (by omega)).trans k.g0, (hs _ (by omega)).trans k.g8, k.ok.same (fun r hr => hs r hr) (Nat.le_refl _), hx⟩
theorem _root_.AE.AW.mono' {P : Program} {f lo : Nat} {h : H} {args : List Value} {R R' : Value → H → Prop} (a : AW P f lo h args R) (hr : ∀ v h', R v h' → R' v h') : AW P f lo h args R' := let ⟨v, h', r, c⟩ := a; ⟨v, h', hr v h' r, c⟩
/-- Where the making of the ship is. -/
structure ShS where
  i : Nat
  rr : Nat → Nat
  vv : Nat → Option Addr
  ro : Nat
  vo : Option Addr
  N : Nat
set_option maxHeartbeats 4000000 in
theorem scaledHull_w {h : H} {T : Hull} {t : Drag.T} {m0 : Nat} {what : Int} (hm : m0 ≤ h.next) (hT : T.Ok m0 h) (hw : 0 ≤ what ∧ what < 256) :
    AW Tryz.prog 6 h.next h [.agg ⟨T.cells⟩, .agg ⟨t.cells⟩, .int .u8 what] (fun v _ => v = .bool true) := by
  have hTl := hT.l
  have kn : Known t := .mk
  refine fun6.call rfl (Nat.le_refl _) ?_
  unfold a6 Hull.cells
  by_cases hbig : 12 < T.n
  · (focus ((try with_reducible apply wpC.to); (repeat' ((conv => whnf); first | refine byEv ?_ | (apply Fork.mk <;> (intro _; try (exfalso; omega))) | ((apply q_call); (focus exact byNext); (focus exact byLo); (focus (first | exact kTDragF5 | exact kTDragF4 | exact kTDragE1 | exact kTDragD0 | exact kTopW1)); first | ((apply q_allB) <;> (intro z_b _ _ _; first | exact Bool.noConfusion z_b | replace z_b := of_decide_eq_true z_b | replace z_b := of_decide_eq_false z_b | skip) <;> ((try simp only [AllOk, Bd.ok, and_true] at z_b); first | contradiction | (revert z_b; intros))) | ((apply q_alli) <;> intro _ _ _ _ <;> try contradiction) | (apply q_allv; intro _ _ _)) | refine xTopF20 ?_ | refine xTopB20 ?_ | fail)); all_goals ((conv => whnf); try with_reducible apply At.mk)))
    all_goals ((refine byFin ?_); rfl)
  have htc : t.cells = [.int .i64 t.speed, .int .i64 t.long, .int .i64 t.wet, .int .i64 t.alpha, .int .i64 t.fl, .int .i64 t.fh, .int .i64 t.tl, .int .i64 t.th, .int .i64 t.sl, .int .i64 t.sh, .int .i64 t.ml, .int .i64 t.mh, .int .i64 t.bl, .int .i64 t.bh, .int .i64 t.rl, .int .i64 t.rh] := rfl
  rw [htc]
  (focus ((try with_reducible apply wpC.to); (repeat' ((conv => whnf); first | refine byEv ?_ | (apply Fork.mk <;> (intro _; try (exfalso; omega))) | ((apply q_call); (focus exact byNext); (focus exact byLo); (focus (first | exact kTDragF5 | exact kTDragF4 | exact kTDragE1 | exact kTDragD0 | exact kTopW1)); first | ((apply q_allB) <;> (intro z_b _ _ _; first | exact Bool.noConfusion z_b | replace z_b := of_decide_eq_true z_b | replace z_b := of_decide_eq_false z_b | skip) <;> ((try simp only [AllOk, Bd.ok, and_true] at z_b); first | contradiction | (revert z_b; intros))) | ((apply q_alli) <;> intro _ _ _ _ <;> try contradiction) | (apply q_allv; intro _ _ _)) | refine xTopF20 ?_ | refine xTopB20 ?_ | fail)); all_goals ((conv => whnf); try with_reducible apply At.mk)))
  apply q_call
  focus (exact byNext)
  focus (exact byLo)
  focus exact refCheckHull_w (T := T) (m := m0) byOm (hT.same bySame (Nat.le_refl _))
  rintro _ h1 ⟨e, rfl, he⟩ q1 hn1
  by_cases V : T.Valid
  · obtain rfl : e = 0 := he.2 V
    have sm1 : Same h.next h h1 := fun x hx => (q1.same x byOm).trans (get_of fun y hy => byGet)
    have g0 : h1.get h.next = some (.cells [.int .i64 T.sp, .int .i64 T.st, .slice T.b T.n T.c] 24) := (q1.same _ byOm).trans byGet
    have g1 : h1.get (h.next + 1) = some (.cells [.int .i64 t.speed, .int .i64 t.long, .int .i64 t.wet, .int .i64 t.alpha, .int .i64 t.fl, .int .i64 t.fh, .int .i64 t.tl, .int .i64 t.th, .int .i64 t.sl, .int .i64 t.sh, .int .i64 t.ml, .int .i64 t.mh, .int .i64 t.bl, .int .i64 t.bh, .int .i64 t.rl, .int .i64 t.rh] 70) := (q1.same _ byOm).trans byGet
    have hn1' : h.next + 9 ≤ h1.next := by (exact byOm)
    clear q1 hn1 he
    have n1 := V.n1
    have n2 := V.n2
    have w1 := V.w1
    have w2 := V.w2
    have s1 := V.s1
    have s2 := V.s2
    have veq := V.eq
    have vpl := V.pl
    by_cases tok : testErr t = 0
    · have tk := testErr_ok.1 tok
      have al1 : 1 ≤ t.alpha ∧ t.alpha ≤ 10 := ⟨tk.a1, tk.a2⟩
      have ss := mul_bd (a := t.alpha) (b := t.alpha) (A := 10) (B := 10) (by omega) (by omega)
      have ss1 : 1 ≤ t.alpha * t.alpha := Int.mul_pos (a := t.alpha) (b := t.alpha) (by omega) (by omega)
      have ll := mul_bd (a := T.sp) (b := (T.n : Int) - 1) (A := 1000) (B := 10) (by omega) (by omega)
      have p1 := mul_bd (a := T.sp) (b := t.alpha * t.alpha) (A := 1000) (B := 100) (by omega) (by omega)
      have p2 := mul_bd (a := T.st) (b := t.alpha * t.alpha) (A := 100) (B := 100) (by omega) (by omega)
      (focus ((try with_reducible apply wpC.to); (repeat' ((conv => whnf); first | refine byEv ?_ | (apply Fork.mk <;> (intro _; try (exfalso; omega))) | ((apply q_call); (focus exact byNext); (focus exact byLo); (focus (first | exact kTDragF5 | exact kTDragF4 | exact kTDragE1 | exact kTDragD0 | exact kTopW1)); first | ((apply q_allB) <;> (intro z_b _ _ _; first | exact Bool.noConfusion z_b | replace z_b := of_decide_eq_true z_b | replace z_b := of_decide_eq_false z_b | skip) <;> ((try simp only [AllOk, Bd.ok, and_true] at z_b); first | contradiction | (revert z_b; intros))) | ((apply q_alli) <;> intro _ _ _ _ <;> try contradiction) | (apply q_allv; intro _ _ _)) | refine xTopF20 ?_ | refine xTopB20 ?_ | fail)); all_goals ((conv => whnf); try with_reducible apply At.mk)))
      rename_i h2 q2 hn2 _
      obtain ⟨s, es⟩ : ∃ s, s = t.alpha * t.alpha := ⟨_, rfl⟩
      rw [← es] at ss ss1 p1 p2 ⊢
      have sq : ∀ i k, i < T.n → k < T.w 0 → (0 ≤ (T.f i k).lo * s ∧ (T.f i k).lo * s ≤ 500 * 100) ∧ 0 ≤ (T.f i k).hi * s ∧ (T.f i k).hi * s ≤ 500 * 100 := fun i k hi hk => by
        have := vpl i k hi hk
        unfold PlaceOk at this
        exact ⟨mul_bd (by omega) ⟨by omega, by omega⟩, mul_bd (by omega) ⟨by omega, by omega⟩⟩
      refine wp_loop (fun x : ShS => [(2, .int .u8 what), (3, .pointer (some ⟨h.next, 0, none⟩)), (4, .pointer (some ⟨h.next + 1, 0, none⟩)), (7, .int .i64 s), (8, .pointer (some ⟨h2.next + 24, 0, none⟩)), (9, .int .i64 x.i)])
        (fun x X => SK h T t s (h2.next + 24) x.N x.i x.rr x.vv x.ro x.vo X ∧ x.i ≤ T.n) (fun x => T.n - x.i) ⟨0, fun _ => 0, fun _ => none, 0, none, h2.next + 25⟩ ⟨rfl, rfl, rfl, rfl, rfl, rfl, trivial⟩ ⟨?_, by simp⟩ ?_
      · have gq : ∀ r, r < h1.next → h2.get r = h1.get r := fun r hr => q2.same r hr
        exact ⟨fun r hr => (get_of fun y hy => byGet).trans ((gq r (by omega)).trans (sm1 r hr)), (get_of fun y hy => byGet).trans ((gq _ (by omega)).trans g0), by unfold longer; (exact byGet), byGet, SH.nil, by dsimp only; (exact byOm), by omega, by dsimp only; omega⟩
      clear q2 sm1 g0 g1
      rintro ⟨i, rr, vv, ro, vo, N⟩ g3 X ⟨S, hi⟩ K hK
      dsimp only at S hi
      dsimp only at hK ⊢
      have sm := S.sm
      have g0 := S.g0
      have nx := S.nx
      have hB := S.hB
      have hN := S.hN
      have g8 := S.g8
      have hT2 := hT.same (sm.mono hm) (Nat.le_refl _)
      by_cases hin : i < T.n
      · have i1 := hT2.i
        have r1 := hT2.r
        have e1 := hT2.e
        have rei := hT2.re i hin
        have rii := hT2.ri i hin
        have rri := hT2.rr i hin
        have ewi := veq i hin
        (focus ((try with_reducible apply wpC.to); (repeat' ((conv => whnf); first | refine byEv ?_ | (apply Fork.mk <;> (intro _; try (exfalso; omega))) | ((apply q_call); (focus exact byNext); (focus exact byLo); (focus (first | exact kTDragF5 | exact kTDragF4 | exact kTDragE1 | exact kTDragD0 | exact kTopW1)); first | ((apply q_allB) <;> (intro z_b _ _ _; first | exact Bool.noConfusion z_b | replace z_b := of_decide_eq_true z_b | replace z_b := of_decide_eq_false z_b | skip) <;> ((try simp only [AllOk, Bd.ok, and_true] at z_b); first | contradiction | (revert z_b; intros))) | ((apply q_alli) <;> intro _ _ _ _ <;> try contradiction) | (apply q_allv; intro _ _ _)) | refine xTopF20 ?_ | refine xTopB20 ?_ | fail)); all_goals ((conv => whnf); try with_reducible apply At.mk)))
        refine wp_loop (fun x : Nat × Nat × Option Addr => [(2, .int .u8 what), (3, .pointer (some ⟨h.next, 0, none⟩)), (4, .pointer (some ⟨h.next + 1, 0, none⟩)), (7, .int .i64 s), (8, .pointer (some ⟨h2.next + 24, 0, none⟩)), (9, .int .i64 i), (10, .slice x.2.2 x.1 0), (11, .int .i64 x.1)])
          (fun x X2 => SK h T t s (h2.next + 24) N i rr vv ro vo X2 ∧ X.next ≤ X2.next ∧ GG x.2.1 X2 36 2 x.1 (rowsOf (fun k => (⟨(T.f i k).lo * s, (T.f i k).hi * s⟩ : Rg).cells) x.1) x.2.2 ∧ (0 < x.1 → X.next ≤ x.2.1 ∧ x.2.1 < X2.next) ∧ x.1 ≤ T.w 0) (fun x => T.w 0 - x.1) (0, 0, none) ⟨rfl, rfl, rfl, rfl, rfl, rfl, rfl, rfl, trivial⟩ ⟨S.of (fun r hr => get_of fun y hy => byGet) byOm, byOm, GG.nil, by simp, by simp⟩ ?_
        clear i1 r1 e1 rii g0 g8 sm hT2
        rintro ⟨k, r, v⟩ g4 X2 ⟨S2, nx2, G, hr, hk⟩ K2 hK2
        dsimp only at G hr hk
        dsimp only at hK2 ⊢
        have sm2 := S2.sm
        have g02 := S2.g0
        have g82 := S2.g8
        by_cases hkw : k < T.w 0
        · have hT3 := hT.same (sm2.mono hm) (Nat.le_refl _)
          have i1 := hT3.i
          have r1 := hT3.r
          have e1 := hT3.e
          have rii := hT3.ri i hin
          have hki : k < T.w i := by omega
          have sqk := sq i k hin hkw
          (focus ((try with_reducible apply wpC.to); (repeat' ((conv => whnf); first | refine byEv ?_ | (apply Fork.mk <;> (intro _; try (exfalso; omega))) | ((apply q_call); (focus exact byNext); (focus exact byLo); (focus (first | exact kTDragF5 | exact kTDragF4 | exact kTDragE1 | exact kTDragD0 | exact kTopW1)); first | ((apply q_allB) <;> (intro z_b _ _ _; first | exact Bool.noConfusion z_b | replace z_b := of_decide_eq_true z_b | replace z_b := of_decide_eq_false z_b | skip) <;> ((try simp only [AllOk, Bd.ok, and_true] at z_b); first | contradiction | (revert z_b; intros))) | ((apply q_alli) <;> intro _ _ _ _ <;> try contradiction) | (apply q_allv; intro _ _ _)) | refine xTopF20 ?_ | refine xTopB20 ?_ | fail)); all_goals ((conv => whnf); try with_reducible apply At.mk)))
          apply q_appGG (r := r) (n := k) (m := 1) (cs := rowsOf (fun k => (⟨(T.f i k).lo * s, (T.f i k).hi * s⟩ : Rg).cells) k) (nc := [.int .i64 ((T.f i k).lo * s), .int .i64 ((T.f i k).hi * s)]) (v := v)
          case G => exact G.frame fun h0 => get_of fun y hy => by have := hr h0; (exact byGet)
          case hsv => exact rfl
          case C => exact Cells.one byMem (by unfold AE.far; omega) rfl rfl
          case hm => omega
          case hlo => (exact byOm)
          case hlr => exact fun h0 => by have := hr h0; exact ⟨byOm, byOm⟩
          case hsm => omega
          intro v' r' row ha hb hc G'
          have hr' : X.next ≤ r' := by
            rcases Nat.eq_zero_or_pos k with h0 | h0
            · have := ha h0; (exact byOm)
            · have := hb h0; have := hr h0; (exact byOm)
          (focus ((try with_reducible apply wpC.to); (repeat' ((conv => whnf); first | refine byEv ?_ | (apply Fork.mk <;> (intro _; try (exfalso; omega))) | ((apply q_call); (focus exact byNext); (focus exact byLo); (focus (first | exact kTDragF5 | exact kTDragF4 | exact kTDragE1 | exact kTDragD0 | exact kTopW1)); first | ((apply q_allB) <;> (intro z_b _ _ _; first | exact Bool.noConfusion z_b | replace z_b := of_decide_eq_true z_b | replace z_b := of_decide_eq_false z_b | skip) <;> ((try simp only [AllOk, Bd.ok, and_true] at z_b); first | contradiction | (revert z_b; intros))) | ((apply q_alli) <;> intro _ _ _ _ <;> try contradiction) | (apply q_allv; intro _ _ _)) | refine xTopF20 ?_ | refine xTopB20 ?_ | fail)); all_goals ((conv => whnf); try with_reducible apply At.mk)))
          exact hK2 (k + 1, r', v') _ _ ⟨rfl, rfl, rfl, rfl, rfl, rfl, rfl, int_of rfl (by dsimp only; omega), trivial⟩ ⟨S2.of (fun r hr => get_of fun y hy => byGet) byOm, byOm, G'.frame fun _ => get_of fun y hy => byGet, fun _ => ⟨hr', by dsimp only; (exact byOm)⟩, by dsimp only; omega⟩ (by dsimp only; omega)
        · obtain rfl : k = T.w 0 := by omega
          have hT3 := hT.same (sm2.mono hm) (Nat.le_refl _)
          have i1 := hT3.i
          have r1 := hT3.r
          have e1 := hT3.e
          have hr := hr (by omega)
          have so := S2.sh.org
          (focus ((try with_reducible apply wpC.to); (repeat' ((conv => whnf); first | refine byEv ?_ | (apply Fork.mk <;> (intro _; try (exfalso; omega))) | ((apply q_call); (focus exact byNext); (focus exact byLo); (focus (first | exact kTDragF5 | exact kTDragF4 | exact kTDragE1 | exact kTDragD0 | exact kTopW1)); first | ((apply q_allB) <;> (intro z_b _ _ _; first | exact Bool.noConfusion z_b | replace z_b := of_decide_eq_true z_b | replace z_b := of_decide_eq_false z_b | skip) <;> ((try simp only [AllOk, Bd.ok, and_true] at z_b); first | contradiction | (revert z_b; intros))) | ((apply q_alli) <;> intro _ _ _ _ <;> try contradiction) | (apply q_allv; intro _ _ _)) | refine xTopF20 ?_ | refine xTopB20 ?_ | fail)); all_goals ((conv => whnf); try with_reducible apply At.mk)))
          apply q_appGG (r := ro) (n := i) (m := 1) (cs := rowsOf (fun j => [.slice (vv j) (T.w 0) 0]) i) (nc := [.slice v (T.w 0) 0]) (v := vo)
          case G => exact S2.sh.out.frame fun h0 => get_of fun y hy => by have := so h0; (exact byGet)
          case hsv => exact rfl
          case C => exact Cells.one byMem (by unfold AE.far; omega) rfl rfl
          case hm => omega
          case hlo => (exact byOm)
          case hlr => exact fun h0 => by have := so h0; exact ⟨byOm, byOm⟩
          case hsm => omega
          intro vo' ro' row ha hb hc G'
          have hro : h2.next + 25 ≤ ro' ∧ ro' < X2.next + 15 ∧ (i = 0 → N ≤ ro' ∧ ro' ≠ r) := by
            rcases Nat.eq_zero_or_pos i with h0 | h0
            · have := ha h0; exact ⟨byOm, byOm, fun _ => ⟨byOm, byOm⟩⟩
            · have := hb h0; have := (so h0).1; exact ⟨byOm, byOm, fun h => by omega⟩
          obtain ⟨u1, u2, u3⟩ := hro
          have g12 := S2.g1
          have n2' := S2.nx
          (focus ((try with_reducible apply wpC.to); (repeat' ((conv => whnf); first | refine byEv ?_ | (apply Fork.mk <;> (intro _; try (exfalso; omega))) | ((apply q_call); (focus exact byNext); (focus exact byLo); (focus (first | exact kTDragF5 | exact kTDragF4 | exact kTDragE1 | exact kTDragD0 | exact kTopW1)); first | ((apply q_allB) <;> (intro z_b _ _ _; first | exact Bool.noConfusion z_b | replace z_b := of_decide_eq_true z_b | replace z_b := of_decide_eq_false z_b | skip) <;> ((try simp only [AllOk, Bd.ok, and_true] at z_b); first | contradiction | (revert z_b; intros))) | ((apply q_alli) <;> intro _ _ _ _ <;> try contradiction) | (apply q_allv; intro _ _ _)) | refine xTopF20 ?_ | refine xTopB20 ?_ | fail)); all_goals ((conv => whnf); try with_reducible apply At.mk)))
          refine hK ⟨i + 1, fun j => if j = i then r else rr j, fun j => if j = i then v else vv j, ro', vo', X2.next + 15⟩ _ _ ⟨rfl, rfl, rfl, rfl, rfl, int_of rfl (by dsimp only; omega), trivial⟩ ⟨⟨bySame, byGet, byGet, by dsimp only; (exact byGet), ?_, by dsimp only; (exact byOm), by omega, by dsimp only; omega⟩, by dsimp only; omega⟩ (by dsimp only; omega)
          refine S2.sh.next (N' := X2.next + 15) (r := r) (by omega) (by omega) (fun y h3 h4 h5 => ?_) (G.frame fun h0 => ?_) ⟨by omega, by omega⟩ (G'.frame fun _ => get_of fun y hy => byGet) ⟨hb, fun h0 => ⟨(u3 h0).1, by omega, (u3 h0).2⟩⟩
          · have hy : y ≠ ro' := by
              rcases Nat.eq_zero_or_pos i with h0 | h0
              · have := u3 h0; omega
              · have := hb h0; have := h5 h0; omega
            exact get_of fun z hz => by (exact byGet)
          · have hy : r ≠ ro' := by
              rcases Nat.eq_zero_or_pos i with h0 | h0
              · have := u3 h0; omega
              · have := hb h0; have := (so h0).1; omega
            exact get_of fun z hz => by (exact byGet)
      · obtain rfl : i = T.n := by omega
        clear kn hK
        obtain ⟨l, el⟩ : ∃ l, l = T.sp * ((T.n : Int) - 1) := ⟨_, rfl⟩
        obtain ⟨Q, Qok, qc, qsp, qst, qn, qw, qf, qb, qcc⟩ := S.sh.hull (sp := T.sp * s) (st := T.st * s) (by omega) (by omega) (by omega) (by omega)
        have SC : Scaled s T Q := ⟨ss1, qsp, qst, qn, qw 0, fun i k hi hk => by rw [qf], fun i k hi hk => by rw [qf]⟩
        have l1 := mul_bd ll (b := s) (B := 100) (by omega)
        have a1 := mul_bd (a := t.speed) (b := t.alpha) (A := 10000) (B := 10) (by have := tk.s1; have := tk.s2; omega) (by omega)
        have g1 : X.get (h.next + 1) = some (.cells [.int .i64 t.speed, .int .i64 l, .int .i64 t.wet, .int .i64 t.alpha, .int .i64 t.fl, .int .i64 t.fh, .int .i64 t.tl, .int .i64 t.th, .int .i64 t.sl, .int .i64 t.sh, .int .i64 t.ml, .int .i64 t.mh, .int .i64 t.bl, .int .i64 t.bh, .int .i64 t.rl, .int .i64 t.rh] 70) := by rw [el]; exact S.g1
        rw [← el] at l1 ll
        have ct1 : ∀ X' : H, AW Tryz.prog 25 X'.next X' [.agg ⟨[.int .i64 t.speed, .int .i64 l, .int .i64 t.wet, .int .i64 t.alpha, .int .i64 t.fl, .int .i64 t.fh, .int .i64 t.tl, .int .i64 t.th, .int .i64 t.sl, .int .i64 t.sh, .int .i64 t.ml, .int .i64 t.mh, .int .i64 t.bl, .int .i64 t.bh, .int .i64 t.rl, .int .i64 t.rh]⟩] (fun v _ => v = .int .i64 (testErr (longer t l))) := fun X' => refCheckTest_w (t := longer t l) .mk
        have ct2 : ∀ X' : H, AW Tryz.prog 25 X'.next X' [.agg ⟨[.int .i64 (t.speed * t.alpha), .int .i64 (l * s), .int .i64 t.wet, .int .i64 1, .int .i64 t.fl, .int .i64 t.fh, .int .i64 t.sl, .int .i64 t.sh, .int .i64 t.sl, .int .i64 t.sh, .int .i64 t.ml, .int .i64 t.mh, .int .i64 t.bl, .int .i64 t.bh, .int .i64 t.rl, .int .i64 t.rh]⟩] (fun v _ => v = .int .i64 (testErr (asShip t l))) := fun X' => by rw [es]; exact refCheckTest_w (t := asShip t l) .mk
        have ry1 : testErr (longer t l) = 0 → ∀ X' : H, AW Tryz.prog 31 X'.next X' [.agg ⟨[.int .i64 t.speed, .int .i64 l, .int .i64 t.wet, .int .i64 t.alpha, .int .i64 t.fl, .int .i64 t.fh, .int .i64 t.tl, .int .i64 t.th, .int .i64 t.sl, .int .i64 t.sh, .int .i64 t.ml, .int .i64 t.mh, .int .i64 t.bl, .int .i64 t.bh, .int .i64 t.rl, .int .i64 t.rh]⟩] (fun v _ => v = .tuple #[.agg ⟨[.int .i64 (modelRe (longer t l) t.th), .int .i64 (modelRe (longer t l) t.tl)]⟩, .agg ⟨[.int .i64 (shipRe (longer t l) t.sh), .int .i64 (shipRe (longer t l) t.sl)]⟩, .int .i64 0]) := fun he X' => by
          have := reynolds_api (t := longer t l) (h := X') .mk
          unfold reynV reynR at this
          simp only [he, if_true] at this
          exact this
        have ry2 : testErr (asShip t l) = 0 → ∀ X' : H, AW Tryz.prog 31 X'.next X' [.agg ⟨[.int .i64 (t.speed * t.alpha), .int .i64 (l * s), .int .i64 t.wet, .int .i64 1, .int .i64 t.fl, .int .i64 t.fh, .int .i64 t.sl, .int .i64 t.sh, .int .i64 t.sl, .int .i64 t.sh, .int .i64 t.ml, .int .i64 t.mh, .int .i64 t.bl, .int .i64 t.bh, .int .i64 t.rl, .int .i64 t.rh]⟩] (fun v _ => ∃ a b, v = .tuple #[.agg ⟨[.int .i64 (shipRe (longer t l) t.sh), .int .i64 (shipRe (longer t l) t.sl)]⟩, .agg ⟨[.int .i64 a, .int .i64 b]⟩, .int .i64 0]) := fun he X' => by
          have := reynolds_api (t := asShip t l) (h := X') .mk
          unfold reynV reynR at this
          simp only [he, if_true] at this
          rw [same_re, same_re] at this
          rw [es]
          exact this.mono' fun v _ hv => ⟨_, _, hv⟩
        have keep : ∀ Y : H, (∀ r, r < N → Y.get r = X.get r) → N ≤ Y.next → Made h T Q N (h2.next + 24) Y := fun Y hs hx => by
          have S' := S.of hs hx
          exact ⟨S'.sm, S'.g0, by rw [qc]; exact S'.g8, Qok.same (fun r hr => hs r hr) (Nat.le_refl _), hx⟩
        (focus ((try with_reducible apply wpC.to); (repeat' ((conv => whnf); first | refine byEv ?_ | (apply Fork.mk <;> (intro _; try (exfalso; omega))) | ((apply q_call); (focus exact byNext); (focus exact byLo); (focus (first | exact kTDragF5 | exact kTDragF4 | exact kTDragE1 | exact kTDragD0 | exact kTopW1)); first | ((apply q_allB) <;> (intro z_b _ _ _; first | exact Bool.noConfusion z_b | replace z_b := of_decide_eq_true z_b | replace z_b := of_decide_eq_false z_b | skip) <;> ((try simp only [AllOk, Bd.ok, and_true] at z_b); first | contradiction | (revert z_b; intros))) | ((apply q_alli) <;> intro _ _ _ _ <;> try contradiction) | (apply q_allv; intro _ _ _)) | refine xTopF20 ?_ | refine xTopB20 ?_ | fail)); all_goals ((conv => whnf); try with_reducible apply At.mk)))
        apply q_call
        focus (exact byNext)
        focus (exact byLo)
        focus exact ct1 _
        rintro _ X1 rfl q1 hn1
        have k1 : ∀ r, r < N → X1.get r = X.get r := fun r hr => (q1.same r byOm).trans (get_of fun y hy => byGet)
        have nx1 : X.next + 35 ≤ X1.next := by (exact byOm)
        have g11 : X1.get (h.next + 1) = some (.cells [.int .i64 t.speed, .int .i64 l, .int .i64 t.wet, .int .i64 t.alpha, .int .i64 t.fl, .int .i64 t.fh, .int .i64 t.tl, .int .i64 t.th, .int .i64 t.sl, .int .i64 t.sh, .int .i64 t.ml, .int .i64 t.mh, .int .i64 t.bl, .int .i64 t.bh, .int .i64 t.rl, .int .i64 t.rh] 70) := (k1 _ (by omega)).trans g1
        have gt1 : X1.get (X.next + 6) = some (.cells [.int .i64 (t.speed * t.alpha), .int .i64 (l * s), .int .i64 t.wet, .int .i64 1, .int .i64 t.fl, .int .i64 t.fh, .int .i64 t.sl, .int .i64 t.sh, .int .i64 t.sl, .int .i64 t.sh, .int .i64 t.ml, .int .i64 t.mh, .int .i64 t.bl, .int .i64 t.bh, .int .i64 t.rl, .int .i64 t.rh] 70) := (q1.same _ byOm).trans byGet
        have g81 : X1.get (h2.next + 24) = some (.cells [.int .i64 (T.sp * s), .int .i64 (T.st * s), .slice vo T.n 0] 24) := (k1 _ (by omega)).trans g8
        have g01 : X1.get h.next = some (.cells [.int .i64 T.sp, .int .i64 T.st, .slice T.b T.n T.c] 24) := (k1 _ (by omega)).trans g0
        clear q1 hn1 g1 g8 g0 hT2 sm
        by_cases hA : testErr (longer t l) = 0
        focus
          rw [hA]
          (focus ((try with_reducible apply wpC.to); (repeat' ((conv => whnf); first | refine byEv ?_ | (apply Fork.mk <;> (intro _; try (exfalso; omega))) | ((apply q_call); (focus exact byNext); (focus exact byLo); (focus (first | exact kTDragF5 | exact kTDragF4 | exact kTDragE1 | exact kTDragD0 | exact kTopW1)); first | ((apply q_allB) <;> (intro z_b _ _ _; first | exact Bool.noConfusion z_b | replace z_b := of_decide_eq_true z_b | replace z_b := of_decide_eq_false z_b | skip) <;> ((try simp only [AllOk, Bd.ok, and_true] at z_b); first | contradiction | (revert z_b; intros))) | ((apply q_alli) <;> intro _ _ _ _ <;> try contradiction) | (apply q_allv; intro _ _ _)) | refine xTopF20 ?_ | refine xTopB20 ?_ | fail)); all_goals ((conv => whnf); try with_reducible apply At.mk)))
          apply q_call
          focus (exact byNext)
          focus (exact byLo)
          focus exact ct2 _
          rintro _ X2 rfl q2 hn2
          have k2 : ∀ r, r < N → X2.get r = X.get r := fun r hr => (q2.same r byOm).trans ((get_of fun y hy => byGet).trans (k1 r hr))
          have nx2 : X1.next ≤ X2.next := by (exact byOm)
          have g12 : X2.get (h.next + 1) = some (.cells [.int .i64 t.speed, .int .i64 l, .int .i64 t.wet, .int .i64 t.alpha, .int .i64 t.fl, .int .i64 t.fh, .int .i64 t.tl, .int .i64 t.th, .int .i64 t.sl, .int .i64 t.sh, .int .i64 t.ml, .int .i64 t.mh, .int .i64 t.bl, .int .i64 t.bh, .int .i64 t.rl, .int .i64 t.rh] 70) := (q2.same _ byOm).trans byGet
          have gt2 : X2.get (X.next + 6) = some (.cells [.int .i64 (t.speed * t.alpha), .int .i64 (l * s), .int .i64 t.wet, .int .i64 1, .int .i64 t.fl, .int .i64 t.fh, .int .i64 t.sl, .int .i64 t.sh, .int .i64 t.sl, .int .i64 t.sh, .int .i64 t.ml, .int .i64 t.mh, .int .i64 t.bl, .int .i64 t.bh, .int .i64 t.rl, .int .i64 t.rh] 70) := (q2.same _ byOm).trans byGet
          have g82 : X2.get (h2.next + 24) = some (.cells [.int .i64 (T.sp * s), .int .i64 (T.st * s), .slice vo T.n 0] 24) := (q2.same _ byOm).trans byGet
          have g02 : X2.get h.next = some (.cells [.int .i64 T.sp, .int .i64 T.st, .slice T.b T.n T.c] 24) := (q2.same _ byOm).trans byGet
          clear q2 hn2 g11 gt1 g81 g01
          by_cases hB : testErr (asShip t l) = 0
          focus
            rw [hB]
            (focus ((try with_reducible apply wpC.to); (repeat' ((conv => whnf); first | refine byEv ?_ | (apply Fork.mk <;> (intro _; try (exfalso; omega))) | ((apply q_call); (focus exact byNext); (focus exact byLo); (focus (first | exact kTDragF5 | exact kTDragF4 | exact kTDragE1 | exact kTDragD0 | exact kTopW1)); first | ((apply q_allB) <;> (intro z_b _ _ _; first | exact Bool.noConfusion z_b | replace z_b := of_decide_eq_true z_b | replace z_b := of_decide_eq_false z_b | skip) <;> ((try simp only [AllOk, Bd.ok, and_true] at z_b); first | contradiction | (revert z_b; intros))) | ((apply q_alli) <;> intro _ _ _ _ <;> try contradiction) | (apply q_allv; intro _ _ _)) | refine xTopF20 ?_ | refine xTopB20 ?_ | fail)); all_goals ((conv => whnf); try with_reducible apply At.mk)))
            apply q_call
            focus (exact byNext)
            focus (exact byLo)
            focus exact ry1 hA _
            rintro _ X3 rfl q3 hn3
            have k3 : ∀ r, r < N → X3.get r = X.get r := fun r hr => (q3.same r byOm).trans ((get_of fun y hy => byGet).trans (k2 r hr))
            have nx3 : X2.next + 11 ≤ X3.next := by (exact byOm)
            have gt3 : X3.get (X.next + 6) = some (.cells [.int .i64 (t.speed * t.alpha), .int .i64 (l * s), .int .i64 t.wet, .int .i64 1, .int .i64 t.fl, .int .i64 t.fh, .int .i64 t.sl, .int .i64 t.sh, .int .i64 t.sl, .int .i64 t.sh, .int .i64 t.ml, .int .i64 t.mh, .int .i64 t.bl, .int .i64 t.bh, .int .i64 t.rl, .int .i64 t.rh] 70) := (q3.same _ byOm).trans byGet
            have g83 : X3.get (h2.next + 24) = some (.cells [.int .i64 (T.sp * s), .int .i64 (T.st * s), .slice vo T.n 0] 24) := (q3.same _ byOm).trans byGet
            have g03 : X3.get h.next = some (.cells [.int .i64 T.sp, .int .i64 T.st, .slice T.b T.n T.c] 24) := (q3.same _ byOm).trans byGet
            clear q3 hn3 g12 gt2 g82 g02
            generalize modelRe (longer t l) t.th = ma
            generalize modelRe (longer t l) t.tl = mb
            generalize shipRe (longer t l) t.sh = sa at ry2 ⊢
            generalize shipRe (longer t l) t.sl = sb at ry2 ⊢
            (focus ((try with_reducible apply wpC.to); (repeat' ((conv => whnf); first | refine byEv ?_ | (apply Fork.mk <;> (intro _; try (exfalso; omega))) | ((apply q_call); (focus exact byNext); (focus exact byLo); (focus (first | exact kTDragF5 | exact kTDragF4 | exact kTDragE1 | exact kTDragD0 | exact kTopW1)); first | ((apply q_allB) <;> (intro z_b _ _ _; first | exact Bool.noConfusion z_b | replace z_b := of_decide_eq_true z_b | replace z_b := of_decide_eq_false z_b | skip) <;> ((try simp only [AllOk, Bd.ok, and_true] at z_b); first | contradiction | (revert z_b; intros))) | ((apply q_alli) <;> intro _ _ _ _ <;> try contradiction) | (apply q_allv; intro _ _ _)) | refine xTopF20 ?_ | refine xTopB20 ?_ | fail)); all_goals ((conv => whnf); try with_reducible apply At.mk)))
            apply q_call
            focus (exact byNext)
            focus (exact byLo)
            focus exact ry2 hB _
            rintro _ X4 ⟨ma', mb', rfl⟩ q4 hn4
            have k4 : ∀ r, r < N → X4.get r = X.get r := fun r hr => (q4.same r byOm).trans ((get_of fun y hy => byGet).trans (k3 r hr)) -- STATE1
            have nx4 : X3.next ≤ X4.next := by (exact byOm)
            have g14 : X4.get (X2.next + 7) = some (.cells [.int .i64 sa, .int .i64 sb] 36) := (q4.same _ byOm).trans byGet
            have g84 : X4.get (h2.next + 24) = some (.cells [.int .i64 (T.sp * s), .int .i64 (T.st * s), .slice vo T.n 0] 24) := (q4.same _ byOm).trans byGet
            have g04 : X4.get h.next = some (.cells [.int .i64 T.sp, .int .i64 T.st, .slice T.b T.n T.c] 24) := (q4.same _ byOm).trans byGet
            clear q4 hn4 gt3 g83 g03
            (focus ((try with_reducible apply wpC.to); (repeat' ((conv => whnf); first | refine byEv ?_ | (apply Fork.mk <;> (intro _; try (exfalso; omega))) | ((apply q_call); (focus exact byNext); (focus exact byLo); (focus (first | exact kTDragF5 | exact kTDragF4 | exact kTDragE1 | exact kTDragD0 | exact kTopW1)); first | ((apply q_allB) <;> (intro z_b _ _ _; first | exact Bool.noConfusion z_b | replace z_b := of_decide_eq_true z_b | replace z_b := of_decide_eq_false z_b | skip) <;> ((try simp only [AllOk, Bd.ok, and_true] at z_b); first | contradiction | (revert z_b; intros))) | ((apply q_alli) <;> intro _ _ _ _ <;> try contradiction) | (apply q_allv; intro _ _ _)) | refine xTopF20 ?_ | refine xTopB20 ?_ | fail)); all_goals ((conv => whnf); try with_reducible apply At.mk)))
            refine OpE.pure (.bool false) (xPure_neq (A := ⟨(⟨sa, sb⟩ : Rg).cells⟩) (B := ⟨(⟨sa, sb⟩ : Rg).cells⟩) rfl rfl rfl rfl rfl (by kernel_rfl) (eql_rg _)) ?_
            (focus ((try with_reducible apply wpC.to); (repeat' ((conv => whnf); first | refine byEv ?_ | (apply Fork.mk <;> (intro _; try (exfalso; omega))) | ((apply q_call); (focus exact byNext); (focus exact byLo); (focus (first | exact kTDragF5 | exact kTDragF4 | exact kTDragE1 | exact kTDragD0 | exact kTopW1)); first | ((apply q_allB) <;> (intro z_b _ _ _; first | exact Bool.noConfusion z_b | replace z_b := of_decide_eq_true z_b | replace z_b := of_decide_eq_false z_b | skip) <;> ((try simp only [AllOk, Bd.ok, and_true] at z_b); first | contradiction | (revert z_b; intros))) | ((apply q_alli) <;> intro _ _ _ _ <;> try contradiction) | (apply q_allv; intro _ _ _)) | refine xTopF20 ?_ | refine xTopB20 ?_ | fail)); all_goals ((conv => whnf); try with_reducible apply At.mk)))
            apply callF_name
            intro hc ehc
            have FK : Made h T Q N (h2.next + 24) hc := by rw [ehc]; exact keep _ (fun r hr => (get_of fun y hy => byGet).trans (k4 r hr)) byOm
            clear ehc k4 k3 k2 k1 g14 g84 g04 ry1 ry2 ct1 ct2
          rotate_left
          focus
            (focus ((try with_reducible apply wpC.to); (repeat' ((conv => whnf); first | refine byEv ?_ | (apply Fork.mk <;> (intro _; try (exfalso; omega))) | ((apply q_call); (focus exact byNext); (focus exact byLo); (focus (first | exact kTDragF5 | exact kTDragF4 | exact kTDragE1 | exact kTDragD0 | exact kTopW1)); first | ((apply q_allB) <;> (intro z_b _ _ _; first | exact Bool.noConfusion z_b | replace z_b := of_decide_eq_true z_b | replace z_b := of_decide_eq_false z_b | skip) <;> ((try simp only [AllOk, Bd.ok, and_true] at z_b); first | contradiction | (revert z_b; intros))) | ((apply q_alli) <;> intro _ _ _ _ <;> try contradiction) | (apply q_allv; intro _ _ _)) | refine xTopF20 ?_ | refine xTopB20 ?_ | fail)); all_goals ((conv => whnf); try with_reducible apply At.mk)))
            apply callF_name
            intro hc ehc
            have FK : Made h T Q N (h2.next + 24) hc := by rw [ehc]; exact keep _ (fun r hr => (get_of fun y hy => byGet).trans (k2 r hr)) byOm
            clear ehc k2 k1 g12 gt2 g82 g02 ry1 ry2 ct1 ct2
        rotate_left 2
        focus
          (focus ((try with_reducible apply wpC.to); (repeat' ((conv => whnf); first | refine byEv ?_ | (apply Fork.mk <;> (intro _; try (exfalso; omega))) | ((apply q_call); (focus exact byNext); (focus exact byLo); (focus (first | exact kTDragF5 | exact kTDragF4 | exact kTDragE1 | exact kTDragD0 | exact kTopW1)); first | ((apply q_allB) <;> (intro z_b _ _ _; first | exact Bool.noConfusion z_b | replace z_b := of_decide_eq_true z_b | replace z_b := of_decide_eq_false z_b | skip) <;> ((try simp only [AllOk, Bd.ok, and_true] at z_b); first | contradiction | (revert z_b; intros))) | ((apply q_alli) <;> intro _ _ _ _ <;> try contradiction) | (apply q_allv; intro _ _ _)) | refine xTopF20 ?_ | refine xTopB20 ?_ | fail)); all_goals ((conv => whnf); try with_reducible apply At.mk)))
          apply callF_name
          intro hc ehc
          have FK : Made h T Q N (h2.next + 24) hc := by rw [ehc]; exact keep _ (fun r hr => (get_of fun y hy => byGet).trans (k1 r hr)) byOm
          clear ehc k1 g11 gt1 g81 g01 ry1 ry2 ct1 ct2
        all_goals
          have hBN : h.next < h2.next + 24 ∧ h2.next + 24 < N := by omega
          clear S hA tok
          have fkn := FK.nx
          apply q_call
          focus (exact byNext)
          focus (exact byLo)
          focus (rw [← qc]; exact refCheckHull_w (T := Q) (m := N) (by have := FK.nx; omega) FK.ok)
          rintro _ Y1 ⟨e, rfl, he⟩ q1 hn1
          have F1 := FK.of (Y := Y1) hBN (fun r hr => q1.same r (by have := FK.nx; omega)) (by have := FK.nx; omega)
          have y1n : N ≤ Y1.next := F1.nx
          clear q1 hn1 FK fkn
          by_cases VQ : Q.Valid
          · obtain rfl : e = 0 := he.2 VQ
            clear he
            obtain ⟨q, eq⟩ : ∃ q : Nat, (what % 3) = (q : Int) := ⟨(what % 3).toNat, by omega⟩
            have hq : q ≤ 2 := by omega
            have f10 := F1.g0
            have f18 := F1.g8
            rw [qc] at f18
            (focus ((try with_reducible apply wpC.to); (repeat' ((conv => whnf); first | refine byEv ?_ | (apply Fork.mk <;> (intro _; try (exfalso; omega))) | ((apply q_call); (focus exact byNext); (focus exact byLo); (focus (first | exact kTDragF5 | exact kTDragF4 | exact kTDragE1 | exact kTDragD0 | exact kTopW1)); first | ((apply q_allB) <;> (intro z_b _ _ _; first | exact Bool.noConfusion z_b | replace z_b := of_decide_eq_true z_b | replace z_b := of_decide_eq_false z_b | skip) <;> ((try simp only [AllOk, Bd.ok, and_true] at z_b); first | contradiction | (revert z_b; intros))) | ((apply q_alli) <;> intro _ _ _ _ <;> try contradiction) | (apply q_allv; intro _ _ _)) | refine xTopF20 ?_ | refine xTopB20 ?_ | fail)); all_goals ((conv => whnf); try with_reducible apply At.mk)))
            rw [eq]
            (focus ((try with_reducible apply wpC.to); (repeat' ((conv => whnf); first | refine byEv ?_ | (apply Fork.mk <;> (intro _; try (exfalso; omega))) | ((apply q_call); (focus exact byNext); (focus exact byLo); (focus (first | exact kTDragF5 | exact kTDragF4 | exact kTDragE1 | exact kTDragD0 | exact kTopW1)); first | ((apply q_allB) <;> (intro z_b _ _ _; first | exact Bool.noConfusion z_b | replace z_b := of_decide_eq_true z_b | replace z_b := of_decide_eq_false z_b | skip) <;> ((try simp only [AllOk, Bd.ok, and_true] at z_b); first | contradiction | (revert z_b; intros))) | ((apply q_alli) <;> intro _ _ _ _ <;> try contradiction) | (apply q_allv; intro _ _ _)) | refine xTopF20 ?_ | refine xTopB20 ?_ | fail)); all_goals ((conv => whnf); try with_reducible apply At.mk)))
            apply q_call
            focus (exact byNext)
            focus (exact byLo)
            focus exact volumes_w (T := T) (m := m0) byOm ((hT.same (F1.sm.mono hm) (Nat.le_refl _)).same (fun r hr => get_of fun y hy => byGet) (Nat.le_refl _)) V
            rintro _ Y2 rfl q2 hn2
            have F2 := F1.of (Y := Y2) hBN (fun r hr => (q2.same r byOm).trans (get_of fun y hy => byGet)) byOm
            have y2n : Y1.next + 10 ≤ Y2.next := by (exact byOm)
            clear q2 hn2 F1 f10 f18
            have vlo := volume_q V (lo_in V)
            have vhi := volume_q V (hi_in V)
            have slo := SC.volume V (lo_in V)
            have shi := SC.volume V (hi_in V)
            obtain ⟨a, ea⟩ : ∃ a, a = fr (T.sp * T.st * T.hul.vol fun i k => (T.f i k).lo) 2 := ⟨_, rfl⟩
            obtain ⟨b, eb⟩ : ∃ b, b = fr (T.sp * T.st * T.hul.vol fun i k => (T.f i k).hi) 2 := ⟨_, rfl⟩
            rw [← ea] at vlo slo ⊢
            rw [← eb] at vhi shi ⊢
            have f20 := F2.g0
            have f28 := F2.g8
            rw [qc] at f28
            (focus ((try with_reducible apply wpC.to); (repeat' ((conv => whnf); first | refine byEv ?_ | (apply Fork.mk <;> (intro _; try (exfalso; omega))) | ((apply q_call); (focus exact byNext); (focus exact byLo); (focus (first | exact kTDragF5 | exact kTDragF4 | exact kTDragE1 | exact kTDragD0 | exact kTopW1)); first | ((apply q_allB) <;> (intro z_b _ _ _; first | exact Bool.noConfusion z_b | replace z_b := of_decide_eq_true z_b | replace z_b := of_decide_eq_false z_b | skip) <;> ((try simp only [AllOk, Bd.ok, and_true] at z_b); first | contradiction | (revert z_b; intros))) | ((apply q_alli) <;> intro _ _ _ _ <;> try contradiction) | (apply q_allv; intro _ _ _)) | refine xTopF20 ?_ | refine xTopB20 ?_ | fail)); all_goals ((conv => whnf); try with_reducible apply At.mk)))
            apply q_call
            focus (exact byNext)
            focus (exact byLo)
            focus (rw [← qc]; exact volumes_w (T := Q) (m := N) byOm (F2.ok.same (fun r hr => get_of fun y hy => byGet) (Nat.le_refl _)) VQ)
            rintro _ Y3 rfl q3 hn3
            have h1q : (fun i k => (Q.f i k).lo) = times s fun i k => (T.f i k).lo := by rw [qf]; rfl
            have h2q : (fun i k => (Q.f i k).hi) = times s fun i k => (T.f i k).hi := by rw [qf]; rfl
            rw [h1q, h2q, slo, shi]
            clear slo shi h1q h2q f20 f28
            have F3 := F2.of (Y := Y3) hBN (fun r hr => (q3.same r byOm).trans (get_of fun y hy => byGet)) byOm
            have y3n : Y2.next + 6 ≤ Y3.next := by (exact byOm)
            have g203 : Y3.get (Y1.next + 9) = some (.cells [.int .i64 a.n, .int .i64 a.d, .int .i64 b.n, .int .i64 b.d] 48) := (q3.same _ byOm).trans byGet
            clear q3 hn3 F2
            have s3 := mul_bd (mul_bd ss ss) ss
            have s3p : 1 ≤ s * s * s := Int.mul_pos (Int.mul_pos (by omega) (by omega)) (by omega)
            have ma := mul_bd (b := s * s * s) (B := 1000000) ⟨vlo.1.n0, vlo.1.n1⟩ (by omega)
            have mb := mul_bd (b := s * s * s) (B := 1000000) ⟨vhi.1.n0, vhi.1.n1⟩ (by omega)
            have da := vlo.1.d0
            have db := vhi.1.d0
            have da' := vlo.1.d1
            have db' := vhi.1.d1
            obtain ⟨a', ea'⟩ : ∃ a', a' = fr (a.n * (s * s * s)) a.d := ⟨_, rfl⟩
            obtain ⟨b', eb'⟩ : ∃ b', b' = fr (b.n * (s * s * s)) b.d := ⟨_, rfl⟩
            rw [← ea', ← eb']
            have f30 := F3.g0
            (focus ((try with_reducible apply wpC.to); (repeat' ((conv => whnf); first | refine byEv ?_ | (apply Fork.mk <;> (intro _; try (exfalso; omega))) | ((apply q_call); (focus exact byNext); (focus exact byLo); (focus (first | exact kTDragF5 | exact kTDragF4 | exact kTDragE1 | exact kTDragD0 | exact kTopW1)); first | ((apply q_allB) <;> (intro z_b _ _ _; first | exact Bool.noConfusion z_b | replace z_b := of_decide_eq_true z_b | replace z_b := of_decide_eq_false z_b | skip) <;> ((try simp only [AllOk, Bd.ok, and_true] at z_b); first | contradiction | (revert z_b; intros))) | ((apply q_alli) <;> intro _ _ _ _ <;> try contradiction) | (apply q_allv; intro _ _ _)) | refine xTopF20 ?_ | refine xTopB20 ?_ | fail)); all_goals ((conv => whnf); try with_reducible apply At.mk)))
            apply q_call
            focus (exact byNext)
            focus (exact byLo)
            focus exact spanApi_w (T := T) (m := m0) (q := q) byOm ((hT.same (F3.sm.mono hm) (Nat.le_refl _)).same (fun r hr => get_of fun y hy => byGet) (Nat.le_refl _)) V hq
            rintro _ Y4 ⟨Z, Z', rfl, E, E'⟩ q4 hn4
            have F4 := F3.of (Y := Y4) hBN (fun r hr => (q4.same r byOm).trans (get_of fun y hy => byGet)) byOm
            have y4n : Y3.next + 7 ≤ Y4.next := by (exact byOm)
            have g204 : Y4.get (Y1.next + 9) = some (.cells [.int .i64 a.n, .int .i64 a.d, .int .i64 b.n, .int .i64 b.d] 48) := (q4.same _ byOm).trans byGet
            have g224 : Y4.get (Y2.next + 5) = some (.cells [.int .i64 a'.n, .int .i64 a'.d, .int .i64 b'.n, .int .i64 b'.d] 48) := (q4.same _ byOm).trans byGet
            clear q4 hn4 F3 g203 f30
            have zq := V.hul.val_q q E.inn
            obtain ⟨z, ez⟩ : ∃ z, z = T.hul.val q Z := ⟨_, rfl⟩
            obtain ⟨z', ez'⟩ : ∃ z', z' = T.hul.val q Z' := ⟨_, rfl⟩
            rw [← ez] at zq ⊢
            rw [← ez']
            clear E' ez'
            have f40 := F4.g0
            (focus ((try with_reducible apply wpC.to); (repeat' ((conv => whnf); first | refine byEv ?_ | (apply Fork.mk <;> (intro _; try (exfalso; omega))) | ((apply q_call); (focus exact byNext); (focus exact byLo); (focus (first | exact kTDragF5 | exact kTDragF4 | exact kTDragE1 | exact kTDragD0 | exact kTopW1)); first | ((apply q_allB) <;> (intro z_b _ _ _; first | exact Bool.noConfusion z_b | replace z_b := of_decide_eq_true z_b | replace z_b := of_decide_eq_false z_b | skip) <;> ((try simp only [AllOk, Bd.ok, and_true] at z_b); first | contradiction | (revert z_b; intros))) | ((apply q_alli) <;> intro _ _ _ _ <;> try contradiction) | (apply q_allv; intro _ _ _)) | refine xTopF20 ?_ | refine xTopB20 ?_ | fail)); all_goals ((conv => whnf); try with_reducible apply At.mk)))
            apply q_call
            focus (exact byNext)
            focus (exact byLo)
            focus exact endApi_w (T := T) (m := m0) (q := q) byOm ((hT.same (F4.sm.mono hm) (Nat.le_refl _)).same (fun r hr => get_of fun y hy => byGet) (Nat.le_refl _)) V hq
            rintro _ Y5 ⟨R, rr5, W, rfl, ⟨R1, R2⟩, M5, E5⟩ q5 hn5
            have F5 := F4.of (Y := Y5) hBN (fun r hr => (q5.same r byOm).trans (get_of fun y hy => byGet)) byOm
            have y5n : Y4.next ≤ Y5.next := by (exact byOm)
            have R1' : Y4.next ≤ R := by (exact byOm)
            have g205 : Y5.get (Y1.next + 9) = some (.cells [.int .i64 a.n, .int .i64 a.d, .int .i64 b.n, .int .i64 b.d] 48) := (q5.same _ byOm).trans byGet
            have g225 : Y5.get (Y2.next + 5) = some (.cells [.int .i64 a'.n, .int .i64 a'.d, .int .i64 b'.n, .int .i64 b'.d] 48) := (q5.same _ byOm).trans byGet
            have g245 : Y5.get (Y3.next + 6) = some (.cells [.int .i64 z.n, .int .i64 z.d, .int .i64 z'.n, .int .i64 z'.d] 48) := (q5.same _ byOm).trans byGet
            clear q5 hn5 F4 g204 g224 f40 R1
            have ezz : z = T.hul.val q W := by rw [ez]; exact IsEnd.same V (.inr rfl) E E5
            have f50 := F5.g0
            (focus ((try with_reducible apply wpC.to); (repeat' ((conv => whnf); first | refine byEv ?_ | (apply Fork.mk <;> (intro _; try (exfalso; omega))) | ((apply q_call); (focus exact byNext); (focus exact byLo); (focus (first | exact kTDragF5 | exact kTDragF4 | exact kTDragE1 | exact kTDragD0 | exact kTopW1)); first | ((apply q_allB) <;> (intro z_b _ _ _; first | exact Bool.noConfusion z_b | replace z_b := of_decide_eq_true z_b | replace z_b := of_decide_eq_false z_b | skip) <;> ((try simp only [AllOk, Bd.ok, and_true] at z_b); first | contradiction | (revert z_b; intros))) | ((apply q_alli) <;> intro _ _ _ _ <;> try contradiction) | (apply q_allv; intro _ _ _)) | refine xTopF20 ?_ | refine xTopB20 ?_ | fail)); all_goals ((conv => whnf); try with_reducible apply At.mk)))
            apply q_call
            focus (exact byNext)
            focus (exact byLo)
            focus exact refCheckTrue_w (T := T) (Y := ⟨T.n, T.w 0, some ⟨R, 0, none⟩, ⟨R, 0, none⟩, T.n, fun i => ⟨rr5 i, 0, none⟩, fun _ => T.w 0, W⟩) (m := m0) (m' := Y5.next) byOm byOm ((hT.same (F5.sm.mono hm) (Nat.le_refl _)).same (fun r hr => get_of fun y hy => byGet) (Nat.le_refl _)) ((M5.grid (by omega)).same (fun r hr => get_of fun y hy => byGet) (Nat.le_refl _)) ⟨V, rfl, rfl, E5.inn⟩
            rintro _ Y6 rfl q6 hn6
            have F6 := F5.of (Y := Y6) hBN (fun r hr => (q6.same r byOm).trans (get_of fun y hy => byGet)) byOm
            have y6n : Y5.next ≤ Y6.next := by (exact byOm)
            have g206 : Y6.get (Y1.next + 9) = some (.cells [.int .i64 a.n, .int .i64 a.d, .int .i64 b.n, .int .i64 b.d] 48) := (q6.same _ byOm).trans byGet
            have g226 : Y6.get (Y2.next + 5) = some (.cells [.int .i64 a'.n, .int .i64 a'.d, .int .i64 b'.n, .int .i64 b'.d] 48) := (q6.same _ byOm).trans byGet
            have g246 : Y6.get (Y3.next + 6) = some (.cells [.int .i64 z.n, .int .i64 z.d, .int .i64 z'.n, .int .i64 z'.d] 48) := (q6.same _ byOm).trans byGet
            have M6 : Mat (R + 1) Y5.next Y6 R T.n (T.w 0) T.n rr5 W := M5.frame (Nat.le_refl _) ((q6.same R byOm).trans (get_of fun y hy => byGet)) fun x _ hx => (q6.same x byOm).trans (get_of fun y hy => byGet)
            have Win : ∀ i k, i < T.n → k < T.w 0 → 0 ≤ W i k * s ∧ W i k * s ≤ 500 * 100 := fun i k hi hk => mul_bd (V.hul.yin E5.inn hi hk) ⟨by omega, by omega⟩
            clear q6 hn6 F5 g205 g225 g245 M5 f50
            (focus ((try with_reducible apply wpC.to); (repeat' ((conv => whnf); first | refine byEv ?_ | (apply Fork.mk <;> (intro _; try (exfalso; omega))) | ((apply q_call); (focus exact byNext); (focus exact byLo); (focus (first | exact kTDragF5 | exact kTDragF4 | exact kTDragE1 | exact kTDragD0 | exact kTopW1)); first | ((apply q_allB) <;> (intro z_b _ _ _; first | exact Bool.noConfusion z_b | replace z_b := of_decide_eq_true z_b | replace z_b := of_decide_eq_false z_b | skip) <;> ((try simp only [AllOk, Bd.ok, and_true] at z_b); first | contradiction | (revert z_b; intros))) | ((apply q_alli) <;> intro _ _ _ _ <;> try contradiction) | (apply q_allv; intro _ _ _)) | refine xTopF20 ?_ | refine xTopB20 ?_ | fail)); all_goals ((conv => whnf); try with_reducible apply At.mk)))
            refine wp_loop (fun i : Nat => [(7, .int .i64 s), (8, .pointer (some ⟨h2.next + 24, 0, none⟩)), (19, .int .i64 q), (20, .pointer (some ⟨Y1.next + 9, 0, none⟩)), (22, .pointer (some ⟨Y2.next + 5, 0, none⟩)), (24, .pointer (some ⟨Y3.next + 6, 0, none⟩)), (26, .slice (some ⟨R, 0, none⟩) T.n T.n), (28, .int .i64 i)])
              (fun i X => (∀ r, r < R → X.get r = Y6.get r) ∧ Y6.next ≤ X.next ∧ Mat (R + 1) Y5.next X R T.n (T.w 0) T.n rr5 (scTo W s i 0) ∧ i ≤ T.n) (fun i => T.n - i) 0 ⟨rfl, rfl, rfl, rfl, rfl, rfl, rfl, rfl, trivial⟩ ⟨fun r hr => get_of fun y hy => byGet, byOm, ?_, by simp⟩ ?_
            focus exact (M6.congr (g := scTo W s 0 0) fun i j hi hj => (if_neg (by omega)).symm).frame (Nat.le_refl _) (get_of fun y hy => byGet) fun x _ hx => get_of fun y hy => by (exact byGet)
            clear M6
            rintro i g7 Y7 ⟨old7, y7n, M7, hi⟩ K7 hK7
            by_cases hin : i < T.n
            · have v7 := M7.vals.at hin
              have ev7 : matV rr5 (T.w 0) T.n i = .slice (some ⟨rr5 i, 0, none⟩) (T.w 0) (T.w 0) := by unfold matV; rw [if_pos hin]
              rw [ev7] at v7
              (focus ((try with_reducible apply wpC.to); (repeat' ((conv => whnf); first | refine byEv ?_ | (apply Fork.mk <;> (intro _; try (exfalso; omega))) | ((apply q_call); (focus exact byNext); (focus exact byLo); (focus (first | exact kTDragF5 | exact kTDragF4 | exact kTDragE1 | exact kTDragD0 | exact kTopW1)); first | ((apply q_allB) <;> (intro z_b _ _ _; first | exact Bool.noConfusion z_b | replace z_b := of_decide_eq_true z_b | replace z_b := of_decide_eq_false z_b | skip) <;> ((try simp only [AllOk, Bd.ok, and_true] at z_b); first | contradiction | (revert z_b; intros))) | ((apply q_alli) <;> intro _ _ _ _ <;> try contradiction) | (apply q_allv; intro _ _ _)) | refine xTopF20 ?_ | refine xTopB20 ?_ | fail)); all_goals ((conv => whnf); try with_reducible apply At.mk)))
              refine wp_loop (fun k : Nat => [(7, .int .i64 s), (8, .pointer (some ⟨h2.next + 24, 0, none⟩)), (19, .int .i64 q), (20, .pointer (some ⟨Y1.next + 9, 0, none⟩)), (22, .pointer (some ⟨Y2.next + 5, 0, none⟩)), (24, .pointer (some ⟨Y3.next + 6, 0, none⟩)), (26, .slice (some ⟨R, 0, none⟩) T.n T.n), (28, .int .i64 i), (29, .int .i64 k)])
                (fun k X => (∀ r, r < R → X.get r = Y6.get r) ∧ Y6.next ≤ X.next ∧ Mat (R + 1) Y5.next X R T.n (T.w 0) T.n rr5 (scTo W s i k) ∧ k ≤ T.w 0) (fun k => T.w 0 - k) 0 ⟨rfl, rfl, rfl, rfl, rfl, rfl, rfl, rfl, rfl, trivial⟩ ⟨fun r hr => (get_of fun y hy => byGet).trans (old7 r hr), byOm, M7.frame (Nat.le_refl _) (get_of fun y hy => byGet) fun x _ hx => get_of fun y hy => byGet, by simp⟩ ?_
              clear M7 v7 old7 y7n
              rintro k g8 Y8 ⟨old8, y8n, M8, hk⟩ K8 hK8
              have v8 := M8.vals.at hin
              rw [ev7] at v8
              by_cases hkw : k < T.w 0
              · have row8 := M8.row i hin
                have rng8 := M8.rng i hin
                have i8 := (iCells_ints row8).at hkw
                rw [scTo_at] at i8
                have wb := Win i k hin hkw
                (focus ((try with_reducible apply wpC.to); (repeat' ((conv => whnf); first | refine byEv ?_ | (apply Fork.mk <;> (intro _; try (exfalso; omega))) | ((apply q_call); (focus exact byNext); (focus exact byLo); (focus (first | exact kTDragF5 | exact kTDragF4 | exact kTDragE1 | exact kTDragD0 | exact kTopW1)); first | ((apply q_allB) <;> (intro z_b _ _ _; first | exact Bool.noConfusion z_b | replace z_b := of_decide_eq_true z_b | replace z_b := of_decide_eq_false z_b | skip) <;> ((try simp only [AllOk, Bd.ok, and_true] at z_b); first | contradiction | (revert z_b; intros))) | ((apply q_alli) <;> intro _ _ _ _ <;> try contradiction) | (apply q_allv; intro _ _ _)) | refine xTopF20 ?_ | refine xTopB20 ?_ | fail)); all_goals ((conv => whnf); try with_reducible apply At.mk)))
                refine Sto.mk (r := rr5 i) (off := 0 + k * 1) (c' := iCells (updN (scTo W s i k i) k (W i k * s)) (T.w 0)) rfl (by omega) row8 rfl rfl (Nat.ble_eq_true_of_le (by rw [iCells_len]; omega)) (bis_eq (iCells_set _ _ hkw (by omega))) ?_
                (focus ((try with_reducible apply wpC.to); (repeat' ((conv => whnf); first | refine byEv ?_ | (apply Fork.mk <;> (intro _; try (exfalso; omega))) | ((apply q_call); (focus exact byNext); (focus exact byLo); (focus (first | exact kTDragF5 | exact kTDragF4 | exact kTDragE1 | exact kTDragD0 | exact kTopW1)); first | ((apply q_allB) <;> (intro z_b _ _ _; first | exact Bool.noConfusion z_b | replace z_b := of_decide_eq_true z_b | replace z_b := of_decide_eq_false z_b | skip) <;> ((try simp only [AllOk, Bd.ok, and_true] at z_b); first | contradiction | (revert z_b; intros))) | ((apply q_alli) <;> intro _ _ _ _ <;> try contradiction) | (apply q_allv; intro _ _ _)) | refine xTopF20 ?_ | refine xTopB20 ?_ | fail)); all_goals ((conv => whnf); try with_reducible apply At.mk)))
                have MS := ((M8.frame (h' := (Y8.bump 7).bump 11) (Nat.le_refl _) (get_of fun y hy => byGet) fun x _ hx => get_of fun y hy => byGet).set hin hkw (W i k * s))
                rw [scTo_next] at MS
                exact hK8 (k + 1) _ _ ⟨rfl, rfl, rfl, rfl, rfl, rfl, rfl, rfl, int_of rfl (by omega), trivial⟩ ⟨fun r hr => (get_of fun y hy => byGet).trans (old8 r hr), byOm, MS.frame (Nat.le_refl _) (get_of fun y hy => byGet) fun x _ hx => get_of fun y hy => byGet, by omega⟩ (by omega)
              · obtain rfl : k = T.w 0 := by omega
                (focus ((try with_reducible apply wpC.to); (repeat' ((conv => whnf); first | refine byEv ?_ | (apply Fork.mk <;> (intro _; try (exfalso; omega))) | ((apply q_call); (focus exact byNext); (focus exact byLo); (focus (first | exact kTDragF5 | exact kTDragF4 | exact kTDragE1 | exact kTDragD0 | exact kTopW1)); first | ((apply q_allB) <;> (intro z_b _ _ _; first | exact Bool.noConfusion z_b | replace z_b := of_decide_eq_true z_b | replace z_b := of_decide_eq_false z_b | skip) <;> ((try simp only [AllOk, Bd.ok, and_true] at z_b); first | contradiction | (revert z_b; intros))) | ((apply q_alli) <;> intro _ _ _ _ <;> try contradiction) | (apply q_allv; intro _ _ _)) | refine xTopF20 ?_ | refine xTopB20 ?_ | fail)); all_goals ((conv => whnf); try with_reducible apply At.mk)))
                refine hK7 (i + 1) _ _ ⟨rfl, rfl, rfl, rfl, rfl, rfl, rfl, int_of rfl (by omega), trivial⟩ ⟨fun r hr => (get_of fun y hy => byGet).trans (old8 r hr), byOm, ?_, by omega⟩ (by omega)
                exact (M8.congr (g := scTo W s (i + 1) 0) fun i' j hi' hj => by
                  unfold scTo
                  by_cases e : i' < i ∨ i' = i ∧ j < T.w 0
                  · rw [if_pos e, if_pos (by omega)]
                  · rw [if_neg e, if_neg (by omega)]).frame (Nat.le_refl _) (get_of fun y hy => byGet) fun x _ hx => get_of fun y hy => by (exact byGet)
            · obtain rfl : i = T.n := by omega
              have MT : Mat (R + 1) Y5.next Y7 R T.n (T.w 0) T.n rr5 (times s W) := M7.congr fun i j hi hj => if_pos (.inl hi)
              have F7 := F6.of (Y := Y7) hBN (fun r hr => old7 r (by omega)) (by omega)
              have g207 := (old7 (Y1.next + 9) (by omega)).trans g206
              have g227 := (old7 (Y2.next + 5) (by omega)).trans g226
              have g247 := (old7 (Y3.next + 6) (by omega)).trans g246
              have f78 := F7.g8
              rw [qc] at f78
              have zs := mul_bd (b := s) (B := 100) ⟨zq.n0, zq.n1⟩ (by omega)
              have dz := zq.d0
              have dz' := zq.d1
              have qv := SC.val V q E5.inn
              rw [← ezz] at qv
              clear F6 old7 M7 g206 g226 g246 hK7
              (focus ((try with_reducible apply wpC.to); (repeat' ((conv => whnf); first | refine byEv ?_ | (apply Fork.mk <;> (intro _; try (exfalso; omega))) | ((apply q_call); (focus exact byNext); (focus exact byLo); (focus (first | exact kTDragF5 | exact kTDragF4 | exact kTDragE1 | exact kTDragD0 | exact kTopW1)); first | ((apply q_allB) <;> (intro z_b _ _ _; first | exact Bool.noConfusion z_b | replace z_b := of_decide_eq_true z_b | replace z_b := of_decide_eq_false z_b | skip) <;> ((try simp only [AllOk, Bd.ok, and_true] at z_b); first | contradiction | (revert z_b; intros))) | ((apply q_alli) <;> intro _ _ _ _ <;> try contradiction) | (apply q_allv; intro _ _ _)) | refine xTopF20 ?_ | refine xTopB20 ?_ | fail)); all_goals ((conv => whnf); try with_reducible apply At.mk)))
              apply q_call
              focus (exact byNext)
              focus (exact byLo)
              focus (rw [← qc]; exact valueApi_w (T := Q) (Y := ⟨T.n, T.w 0, some ⟨R, 0, none⟩, ⟨R, 0, none⟩, T.n, fun i => ⟨rr5 i, 0, none⟩, fun _ => T.w 0, times s W⟩) (m := N) (m' := Y5.next) (q := q) byOm byOm (F7.ok.same (fun r hr => get_of fun y hy => byGet) (Nat.le_refl _)) ((MT.grid (by omega)).same (fun r hr => get_of fun y hy => byGet) (Nat.le_refl _)) ⟨VQ, qn.symm, (qw 0).symm, SC.in E5.inn⟩ hq)
              rintro _ Y9 rfl q9 hn9
              have g209 : Y9.get (Y1.next + 9) = some (.cells [.int .i64 a.n, .int .i64 a.d, .int .i64 b.n, .int .i64 b.d] 48) := (q9.same _ byOm).trans byGet
              have g229 : Y9.get (Y2.next + 5) = some (.cells [.int .i64 a'.n, .int .i64 a'.d, .int .i64 b'.n, .int .i64 b'.d] 48) := (q9.same _ byOm).trans byGet
              have g249 : Y9.get (Y3.next + 6) = some (.cells [.int .i64 z.n, .int .i64 z.d, .int .i64 z'.n, .int .i64 z'.d] 48) := (q9.same _ byOm).trans byGet
              have y9n : Y7.next + 12 ≤ Y9.next := by (exact byOm)
              clear q9 hn9 F7 g207 g227 g247 f78 MT
              dsimp only
              rw [qv]
              obtain ⟨x, ex⟩ : ∃ x, x = fr (z.n * s) z.d := ⟨_, rfl⟩
              rw [← ex]
              have sss := mul_bd ss ss
              (focus ((try with_reducible apply wpC.to); (repeat' ((conv => whnf); first | refine byEv ?_ | (apply Fork.mk <;> (intro _; try (exfalso; omega))) | ((apply q_call); (focus exact byNext); (focus exact byLo); (focus (first | exact kTDragF5 | exact kTDragF4 | exact kTDragE1 | exact kTDragD0 | exact kTopW1)); first | ((apply q_allB) <;> (intro z_b _ _ _; first | exact Bool.noConfusion z_b | replace z_b := of_decide_eq_true z_b | replace z_b := of_decide_eq_false z_b | skip) <;> ((try simp only [AllOk, Bd.ok, and_true] at z_b); first | contradiction | (revert z_b; intros))) | ((apply q_alli) <;> intro _ _ _ _ <;> try contradiction) | (apply q_allv; intro _ _ _)) | refine xTopF20 ?_ | refine xTopB20 ?_ | fail)); all_goals ((conv => whnf); try with_reducible apply At.mk)))
              apply q_call
              focus (exact byNext)
              focus (exact byLo)
              focus exact refFraction_w (by omega) (by omega)
              rintro _ YA rfl qA hnA
              rw [← ea']
              have g20A : YA.get (Y1.next + 9) = some (.cells [.int .i64 a.n, .int .i64 a.d, .int .i64 b.n, .int .i64 b.d] 48) := (qA.same _ byOm).trans byGet
              have g22A : YA.get (Y2.next + 5) = some (.cells [.int .i64 a'.n, .int .i64 a'.d, .int .i64 b'.n, .int .i64 b'.d] 48) := (qA.same _ byOm).trans byGet
              have g24A : YA.get (Y3.next + 6) = some (.cells [.int .i64 z.n, .int .i64 z.d, .int .i64 z'.n, .int .i64 z'.d] 48) := (qA.same _ byOm).trans byGet
              have g30A : YA.get (Y7.next + 11) = some (.cells [.int .i64 x.n, .int .i64 x.d] 27) := (qA.same _ byOm).trans byGet
              have yAn : Y9.next ≤ YA.next := by (exact byOm)
              clear qA hnA g209 g229 g249
              (focus ((try with_reducible apply wpC.to); (repeat' ((conv => whnf); first | refine byEv ?_ | (apply Fork.mk <;> (intro _; try (exfalso; omega))) | ((apply q_call); (focus exact byNext); (focus exact byLo); (focus (first | exact kTDragF5 | exact kTDragF4 | exact kTDragE1 | exact kTDragD0 | exact kTopW1)); first | ((apply q_allB) <;> (intro z_b _ _ _; first | exact Bool.noConfusion z_b | replace z_b := of_decide_eq_true z_b | replace z_b := of_decide_eq_false z_b | skip) <;> ((try simp only [AllOk, Bd.ok, and_true] at z_b); first | contradiction | (revert z_b; intros))) | ((apply q_alli) <;> intro _ _ _ _ <;> try contradiction) | (apply q_allv; intro _ _ _)) | refine xTopF20 ?_ | refine xTopB20 ?_ | fail)); all_goals ((conv => whnf); try with_reducible apply At.mk)))
              refine OpE.pure (.bool true) (xPure_eql (A := ⟨frC a'⟩) (B := ⟨frC a'⟩) rfl rfl rfl rfl rfl (by kernel_rfl) (by rw [eql_fr, decide_eq_true rfl])) ?_
              (focus ((try with_reducible apply wpC.to); (repeat' ((conv => whnf); first | refine byEv ?_ | (apply Fork.mk <;> (intro _; try (exfalso; omega))) | ((apply q_call); (focus exact byNext); (focus exact byLo); (focus (first | exact kTDragF5 | exact kTDragF4 | exact kTDragE1 | exact kTDragD0 | exact kTopW1)); first | ((apply q_allB) <;> (intro z_b _ _ _; first | exact Bool.noConfusion z_b | replace z_b := of_decide_eq_true z_b | replace z_b := of_decide_eq_false z_b | skip) <;> ((try simp only [AllOk, Bd.ok, and_true] at z_b); first | contradiction | (revert z_b; intros))) | ((apply q_alli) <;> intro _ _ _ _ <;> try contradiction) | (apply q_allv; intro _ _ _)) | refine xTopF20 ?_ | refine xTopB20 ?_ | fail)); all_goals ((conv => whnf); try with_reducible apply At.mk)))
              apply q_call
              focus (exact byNext)
              focus (exact byLo)
              focus exact refFraction_w (by omega) (by omega)
              rintro _ YB rfl qB hnB
              rw [← eb']
              have g24B : YB.get (Y3.next + 6) = some (.cells [.int .i64 z.n, .int .i64 z.d, .int .i64 z'.n, .int .i64 z'.d] 48) := (qB.same _ byOm).trans byGet
              have g30B : YB.get (Y7.next + 11) = some (.cells [.int .i64 x.n, .int .i64 x.d] 27) := (qB.same _ byOm).trans byGet
              have yBn : YA.next ≤ YB.next := by (exact byOm)
              clear qB hnB g20A g22A g24A g30A
              (focus ((try with_reducible apply wpC.to); (repeat' ((conv => whnf); first | refine byEv ?_ | (apply Fork.mk <;> (intro _; try (exfalso; omega))) | ((apply q_call); (focus exact byNext); (focus exact byLo); (focus (first | exact kTDragF5 | exact kTDragF4 | exact kTDragE1 | exact kTDragD0 | exact kTopW1)); first | ((apply q_allB) <;> (intro z_b _ _ _; first | exact Bool.noConfusion z_b | replace z_b := of_decide_eq_true z_b | replace z_b := of_decide_eq_false z_b | skip) <;> ((try simp only [AllOk, Bd.ok, and_true] at z_b); first | contradiction | (revert z_b; intros))) | ((apply q_alli) <;> intro _ _ _ _ <;> try contradiction) | (apply q_allv; intro _ _ _)) | refine xTopF20 ?_ | refine xTopB20 ?_ | fail)); all_goals ((conv => whnf); try with_reducible apply At.mk)))
              refine OpE.pure (.bool true) (xPure_eql (A := ⟨frC b'⟩) (B := ⟨frC b'⟩) rfl rfl rfl rfl rfl (by kernel_rfl) (by rw [eql_fr, decide_eq_true rfl])) ?_
              (focus ((try with_reducible apply wpC.to); (repeat' ((conv => whnf); first | refine byEv ?_ | (apply Fork.mk <;> (intro _; try (exfalso; omega))) | ((apply q_call); (focus exact byNext); (focus exact byLo); (focus (first | exact kTDragF5 | exact kTDragF4 | exact kTDragE1 | exact kTDragD0 | exact kTopW1)); first | ((apply q_allB) <;> (intro z_b _ _ _; first | exact Bool.noConfusion z_b | replace z_b := of_decide_eq_true z_b | replace z_b := of_decide_eq_false z_b | skip) <;> ((try simp only [AllOk, Bd.ok, and_true] at z_b); first | contradiction | (revert z_b; intros))) | ((apply q_alli) <;> intro _ _ _ _ <;> try contradiction) | (apply q_allv; intro _ _ _)) | refine xTopF20 ?_ | refine xTopB20 ?_ | fail)); all_goals ((conv => whnf); try with_reducible apply At.mk)))
              apply q_call
              focus (exact byNext)
              focus (exact byLo)
              focus exact refFraction_w (by omega) (by omega)
              rintro _ YC rfl qC hnC
              rw [← ex]
              have yCn : YB.next ≤ YC.next := by (exact byOm)
              clear qC hnC g24B g30B
              (focus ((try with_reducible apply wpC.to); (repeat' ((conv => whnf); first | refine byEv ?_ | (apply Fork.mk <;> (intro _; try (exfalso; omega))) | ((apply q_call); (focus exact byNext); (focus exact byLo); (focus (first | exact kTDragF5 | exact kTDragF4 | exact kTDragE1 | exact kTDragD0 | exact kTopW1)); first | ((apply q_allB) <;> (intro z_b _ _ _; first | exact Bool.noConfusion z_b | replace z_b := of_decide_eq_true z_b | replace z_b := of_decide_eq_false z_b | skip) <;> ((try simp only [AllOk, Bd.ok, and_true] at z_b); first | contradiction | (revert z_b; intros))) | ((apply q_alli) <;> intro _ _ _ _ <;> try contradiction) | (apply q_allv; intro _ _ _)) | refine xTopF20 ?_ | refine xTopB20 ?_ | fail)); all_goals ((conv => whnf); try with_reducible apply At.mk)))
              refine OpE.pure (.bool true) (xPure_eql (A := ⟨frC x⟩) (B := ⟨frC x⟩) rfl rfl rfl rfl rfl (by kernel_rfl) (by rw [eql_fr, decide_eq_true rfl])) ?_
              (focus ((try with_reducible apply wpC.to); (repeat' ((conv => whnf); first | refine byEv ?_ | (apply Fork.mk <;> (intro _; try (exfalso; omega))) | ((apply q_call); (focus exact byNext); (focus exact byLo); (focus (first | exact kTDragF5 | exact kTDragF4 | exact kTDragE1 | exact kTDragD0 | exact kTopW1)); first | ((apply q_allB) <;> (intro z_b _ _ _; first | exact Bool.noConfusion z_b | replace z_b := of_decide_eq_true z_b | replace z_b := of_decide_eq_false z_b | skip) <;> ((try simp only [AllOk, Bd.ok, and_true] at z_b); first | contradiction | (revert z_b; intros))) | ((apply q_alli) <;> intro _ _ _ _ <;> try contradiction) | (apply q_allv; intro _ _ _)) | refine xTopF20 ?_ | refine xTopB20 ?_ | fail)); all_goals ((conv => whnf); try with_reducible apply At.mk)))
              (refine byFin ?_)
              rfl
          · have he0 : e ≠ 0 := fun h => VQ (he.1 h)
            (focus ((try with_reducible apply wpC.to); (repeat' ((conv => whnf); first | refine byEv ?_ | (apply Fork.mk <;> (intro _; try (exfalso; omega))) | ((apply q_call); (focus exact byNext); (focus exact byLo); (focus (first | exact kTDragF5 | exact kTDragF4 | exact kTDragE1 | exact kTDragD0 | exact kTopW1)); first | ((apply q_allB) <;> (intro z_b _ _ _; first | exact Bool.noConfusion z_b | replace z_b := of_decide_eq_true z_b | replace z_b := of_decide_eq_false z_b | skip) <;> ((try simp only [AllOk, Bd.ok, and_true] at z_b); first | contradiction | (revert z_b; intros))) | ((apply q_alli) <;> intro _ _ _ _ <;> try contradiction) | (apply q_allv; intro _ _ _)) | refine xTopF20 ?_ | refine xTopB20 ?_ | fail)); all_goals ((conv => whnf); try with_reducible apply At.mk)))
            all_goals ((refine byFin ?_); rfl)
    · (focus ((try with_reducible apply wpC.to); (repeat' ((conv => whnf); first | refine byEv ?_ | (apply Fork.mk <;> (intro _; try (exfalso; omega))) | ((apply q_call); (focus exact byNext); (focus exact byLo); (focus (first | exact kTDragF5 | exact kTDragF4 | exact kTDragE1 | exact kTDragD0 | exact kTopW1)); first | ((apply q_allB) <;> (intro z_b _ _ _; first | exact Bool.noConfusion z_b | replace z_b := of_decide_eq_true z_b | replace z_b := of_decide_eq_false z_b | skip) <;> ((try simp only [AllOk, Bd.ok, and_true] at z_b); first | contradiction | (revert z_b; intros))) | ((apply q_alli) <;> intro _ _ _ _ <;> try contradiction) | (apply q_allv; intro _ _ _)) | refine xTopF20 ?_ | refine xTopB20 ?_ | fail)); all_goals ((conv => whnf); try with_reducible apply At.mk)))
      all_goals ((refine byFin ?_); rfl)
  · have he0 : e ≠ 0 := fun h => V (he.1 h)
    (focus ((try with_reducible apply wpC.to); (repeat' ((conv => whnf); first | refine byEv ?_ | (apply Fork.mk <;> (intro _; try (exfalso; omega))) | ((apply q_call); (focus exact byNext); (focus exact byLo); (focus (first | exact kTDragF5 | exact kTDragF4 | exact kTDragE1 | exact kTDragD0 | exact kTopW1)); first | ((apply q_allB) <;> (intro z_b _ _ _; first | exact Bool.noConfusion z_b | replace z_b := of_decide_eq_true z_b | replace z_b := of_decide_eq_false z_b | skip) <;> ((try simp only [AllOk, Bd.ok, and_true] at z_b); first | contradiction | (revert z_b; intros))) | ((apply q_alli) <;> intro _ _ _ _ <;> try contradiction) | (apply q_allv; intro _ _ _)) | refine xTopF20 ?_ | refine xTopB20 ?_ | fail)); all_goals ((conv => whnf); try with_reducible apply At.mk)))
    all_goals ((refine byFin ?_); rfl)
end AE.Tryz
