/- Walks of span's definitions: Next. -/
import Derived.Test.YtkkndecbijgolaaGreatJoin1
set_option linter.unusedVariables false
set_option linter.unusedSimpArgs false
set_option linter.unusedSectionVars false
namespace AE.Tryz
open Go AE Go.Proofs AE.Sp
set_option maxRecDepth 100000
set_option linter.unusedVariables false

noncomputable def lowOf (P : Int → Int → Prop) : Fr := by
  classical exact if h : ∃ N D, P N D then fr (Classical.choose h) (Classical.choose (Classical.choose_spec h)) else ⟨0, 0⟩
theorem low_of {L : Runs} {p q : Int} : L.low p q = lowOf (fun N D => Lst L p q N D) := rfl
theorem lst_cong {L M : Runs} {p q N D : Int} (hn : M.n = L.n) (hf : M.f = L.f) (k : Lst M p q N D) : Lst L p q N D := by
  obtain ⟨a, b, c⟩ := k
  rw [hn, hf] at b c
  exact ⟨a, b, c⟩
theorem wide_cong {L M : Runs} {p q : Int} (hn : M.n = L.n) (hf : M.f = L.f) : M.wide p q = L.wide p q := by
  have e : ∀ p q, M.low p q = L.low p q := fun p q => by
    rw [low_of, low_of]
    congr 1
    funext N D
    exact propext ⟨lst_cong hn hf, lst_cong hn.symm hf.symm⟩
  unfold Runs.wide
  rw [e, e]
def bestI : Option (Nat × Fr) → Int
  | none => -1
  | some o => (o.1 : Int)
def bestF : Option (Nat × Fr) → Fr
  | none => ⟨0, 0⟩
  | some o => o.2
def widF : Option Fr → Fr
  | none => ⟨-1, 1⟩
  | some x => x
theorem WideOk.LB {x : Fr} (k : WideOk x) : LB x := ⟨by have := k.d; omega, by have := k.n; omega⟩
theorem neg_LB : LB (⟨-1, 1⟩ : Fr) := ⟨by decide, by decide⟩
theorem neg_lt {x : Fr} (k : WideOk x) : flt (⟨-1, 1⟩ : Fr) x := by
  show -1 * x.d < x.n * 1
  have := k.d
  have := k.n
  omega

theorem Runs.Ok.fr {T : Runs} {b m m' : Nat} {h h' : H} (k : T.Ok m h) (hb : 0 < T.n → b ≤ T.a.block) (hm : m ≤ m') (hs : ∀ r, b ≤ r → r < m → h'.get r = h.get r) : T.Ok m' h' :=
  ⟨k.e, fun i hi => by
    have := k.i i hi
    rw [← this]
    have h1 := k.r (by omega)
    have h2 := hb (by omega)
    simp only [H.loadN, aadd]
    rw [hs _ h2 h1], fun h => by have := k.r h; omega, k.l⟩
open Classical in
set_option maxHeartbeats 16000000 in
theorem next_r {h : H} {L : Runs} {C : Chs} {m : Nat} {p q : Int} (hm : m ≤ h.next) (hL : L.Ok m h) (hS : SlC L.b L.a L.n L.c m h) (hC : C.Ok m h) :
    AW Tryz.prog 7 h.next h [.slice L.b L.n L.c, .int .i64 p, .int .i64 q, .slice C.b C.n C.c] (fun v _ => v = .tuple #[.int .i64 ((Nx.res L p q C).1 : Int), .agg ⟨(Nx.res L p q C).2.cells⟩, .int .i64 (Nx.err L p q C)]) := by
  have fin : ∀ e, Nx.err L p q C = e → e ≠ 0 → Value.tuple #[.int .i64 0, .agg ⟨[.int .i64 0, .int .i64 0]⟩, .int .i64 e] = .tuple #[.int .i64 ((Nx.res L p q C).1 : Int), .agg ⟨(Nx.res L p q C).2.cells⟩, .int .i64 (Nx.err L p q C)] := fun e h1 h2 => by
    have : Nx.err L p q C ≠ 0 := by omega
    rw [Nx.res_err this, h1]; rfl
  refine fun7.call rfl (Nat.le_refl _) ?_
  unfold a7
  (focus ((try with_reducible apply wpC.to); (repeat' ((conv => whnf); first | refine byEv ?_ | (apply Fork.mk <;> (intro _; try (exfalso; omega))) | refine xGSpanNd0 ?_ | fail)); all_goals ((conv => whnf); try with_reducible apply At.mk)))
  apply q_callv
  focus (exact byNext)
  focus (exact byLo)
  focus exact asked_r (L := L) (m := m) (p := p) (q := q) byOm (hL.same bySame (Nat.le_refl _))
  intro h2 q2 n2
  by_cases e0 : L.err2 p q ≠ 0
  · (focus ((try with_reducible apply wpC.to); (repeat' ((conv => whnf); first | refine byEv ?_ | (apply Fork.mk <;> (intro _; try (exfalso; omega))) | refine xGSpanNd0 ?_ | fail)); all_goals ((conv => whnf); try with_reducible apply At.mk)))
    apply q_callv
    focus (exact byNext)
    focus (exact byLo)
    focus exact asked_r (L := L) (m := m) (p := p) (q := q) byOm (hL.same bySame (Nat.le_refl _))
    intro h3 q3 n3
    (focus ((try with_reducible apply wpC.to); (repeat' ((conv => whnf); first | refine byEv ?_ | (apply Fork.mk <;> (intro _; try (exfalso; omega))) | refine xGSpanNd0 ?_ | fail)); all_goals ((conv => whnf); try with_reducible apply At.mk)))
    (refine byFin ?_)
    exact fin _ (Nx.e1 e0) e0
  have e0 : L.err2 p q = 0 := by omega
  obtain ⟨e1, fac⟩ := Runs.err2_0 e0
  obtain ⟨ln, lv⟩ := L.err_0 e1
  (focus ((try with_reducible apply wpC.to); (repeat' ((conv => whnf); first | refine byEv ?_ | (apply Fork.mk <;> (intro _; try (exfalso; omega))) | refine xGSpanNd0 ?_ | fail)); all_goals ((conv => whnf); try with_reducible apply At.mk)))
  apply q_callv
  focus (exact byNext)
  focus (exact byLo)
  focus exact choices_r (C := C) (m := m) byOm (hC.same bySame (Nat.le_refl _))
  intro h3 q3 n3
  by_cases e2 : C.err ≠ 0
  · (focus ((try with_reducible apply wpC.to); (repeat' ((conv => whnf); first | refine byEv ?_ | (apply Fork.mk <;> (intro _; try (exfalso; omega))) | refine xGSpanNd0 ?_ | fail)); all_goals ((conv => whnf); try with_reducible apply At.mk)))
    apply q_callv
    focus (exact byNext)
    focus (exact byLo)
    focus exact choices_r (C := C) (m := m) byOm (hC.same bySame (Nat.le_refl _))
    intro h4 q4 n4
    (focus ((try with_reducible apply wpC.to); (repeat' ((conv => whnf); first | refine byEv ?_ | (apply Fork.mk <;> (intro _; try (exfalso; omega))) | refine xGSpanNd0 ?_ | fail)); all_goals ((conv => whnf); try with_reducible apply At.mk)))
    (refine byFin ?_)
    exact fin _ (Nx.e2 e0 e2) e2
  have e2 : C.err = 0 := by omega
  have gs : (1 ≤ C.n ∧ C.n ≤ 8) ∧ ∀ i, i < C.n → C.Good i := by
    by_cases k1 : C.n < 1 ∨ 8 < C.n
    · rw [Chs.err_6 k1] at e2; exact absurd e2 (by decide)
    · refine ⟨by omega, Classical.byContradiction fun k2 => ?_⟩
      rw [Chs.err_2 k1 k2] at e2; exact absurd e2 (by decide)
  obtain ⟨cn, gs⟩ := gs
  (focus ((try with_reducible apply wpC.to); (repeat' ((conv => whnf); first | refine byEv ?_ | (apply Fork.mk <;> (intro _; try (exfalso; omega))) | refine xGSpanNd0 ?_ | fail)); all_goals ((conv => whnf); try with_reducible apply At.mk)))
  apply q_callB
  focus (exact byNext)
  focus (exact byLo)
  focus exact doubted_r (L := L) (m := m) byOm (hL.same bySame (Nat.le_refl _)) (by omega) lv
  · intro hb h4 q4 n4
    have nc : ¬ L.Cl := of_decide_eq_true hb
    (focus ((try with_reducible apply wpC.to); (repeat' ((conv => whnf); first | refine byEv ?_ | (apply Fork.mk <;> (intro _; try (exfalso; omega))) | refine xGSpanNd0 ?_ | fail)); all_goals ((conv => whnf); try with_reducible apply At.mk)))
    (refine byFin ?_)
    exact fin 20 (Nx.e3 e0 e2 nc) (by decide)
  intro hb h4 q4 n4
  have cl : L.Cl := Classical.byContradiction (of_decide_eq_false hb)
  clear hb
  (focus ((try with_reducible apply wpC.to); (repeat' ((conv => whnf); first | refine byEv ?_ | (apply Fork.mk <;> (intro _; try (exfalso; omega))) | refine xGSpanNd0 ?_ | fail)); all_goals ((conv => whnf); try with_reducible apply At.mk)))
  have g9 : h4.get (h.next + 1) = some (.cells [.int .i64 0, .int .i64 0] 29) := by (exact byGet)
  have hCf : ∀ h' : H, Same m h h' → Cells h' 4 L.n (.slice L.b L.n L.c) (rowsOf (fun i => (L.f i).cells) L.n) := fun h' s => Cells.els (hL.i.same s hL.r) hL.e (fun h0 => (hS.1 h0).2.2.2.1) (fun _ => rfl) (fun _ => rfl)
  have hC4 : C.Ok m h4 := hC.same bySame (Nat.le_refl _)
  refine wp_loop (fun s : Nat × Option (Nat × Fr) => [(0, .slice L.b L.n L.c), (1, .int .i64 p), (2, .int .i64 q), (3, .slice C.b C.n C.c), (9, .pointer (some ⟨h.next + 1, 0, none⟩)), (11, .int .i64 (bestI s.2)), (12, .pointer (some ⟨h4.next + 1, 0, none⟩)), (13, .int .i64 s.1)])
    (fun s g => g.get (h.next + 1) = some (.cells [.int .i64 0, .int .i64 0] 29) ∧ g.get (h4.next + 1) = some (.cells (bestF s.2).cells 29) ∧ Same m h g ∧ h4.next + 3 ≤ g.next ∧ s.1 ≤ C.n ∧ BSt L p q C s.1 s.2 ∧ ∀ j, j < s.1 → BnW L p q C j (C.w j)) (fun s => C.n - s.1) (0, none) ⟨rfl, rfl, rfl, rfl, rfl, rfl, rfl, rfl, trivial⟩
    ⟨byGet, by unfold Fr.cells bestF; (exact byGet), bySame, byOm, Nat.zero_le _, fun j hj => absurd hj (Nat.not_lt_zero j), fun j hj => absurd hj (Nat.not_lt_zero j)⟩ ?_
  rintro ⟨i, o⟩ g h5 ⟨x9, x12, sm, n5, hi, bs, bn⟩ K hK
  dsimp only at x9 x12 hi bs bn ⊢
  unfold Fr.cells at x12
  have hC5 := hC.same sm (Nat.le_refl _)
  obtain ⟨ce, ci, cr, cl', cee, cei, cer, cel⟩ := id hC5
  unfold Chs.cells at ci
  have cr' := cr (by omega)
  by_cases hin : i < C.n
  · have gi := gs i hin
    have wi := gi.1
    (focus ((try with_reducible apply wpC.to); (repeat' ((conv => whnf); first | refine byEv ?_ | (apply Fork.mk <;> (intro _; try (exfalso; omega))) | refine xGSpanNd0 ?_ | fail)); all_goals ((conv => whnf); try with_reducible apply At.mk)))
    refine wp_loop (fun s : Nat × Option Fr => [(0, .slice L.b L.n L.c), (1, .int .i64 p), (2, .int .i64 q), (3, .slice C.b C.n C.c), (9, .pointer (some ⟨h.next + 1, 0, none⟩)), (11, .int .i64 (bestI o)), (12, .pointer (some ⟨h4.next + 1, 0, none⟩)), (13, .int .i64 i), (14, .pointer (some ⟨h5.next + 5, 0, none⟩)), (15, .int .i64 s.1)])
      (fun s g => g.get (h.next + 1) = some (.cells [.int .i64 0, .int .i64 0] 29) ∧ g.get (h4.next + 1) = some (.cells [.int .i64 (bestF o).n, .int .i64 (bestF o).d] 29) ∧ g.get (h5.next + 5) = some (.cells (widF s.2).cells 29) ∧ Same m h g ∧ h5.next + 8 ≤ g.next ∧ s.1 ≤ C.w i ∧ WSt L p q C i s.1 s.2 ∧ BnW L p q C i s.1) (fun s => C.w i - s.1) (0, none) ⟨rfl, rfl, rfl, rfl, rfl, rfl, rfl, rfl, rfl, rfl, trivial⟩
      ⟨byGet, byGet, by unfold Fr.cells widF; (exact byGet), bySame, byOm, Nat.zero_le _, fun k hk => absurd hk (Nat.not_lt_zero k), fun k hk => absurd hk (Nat.not_lt_zero k)⟩ ?_
    rintro ⟨k, o2⟩ g6 h6 ⟨y9, y12, y14, sm6, n6, hk, ws, bw⟩ K2 hK2
    dsimp only at y14 hk ws bw ⊢
    unfold Fr.cells at y14
    have hC6 := hC.same sm6 (Nat.le_refl _)
    obtain ⟨de, di, dr, dl', dee, dei, der, del⟩ := id hC6
    unfold Chs.cells at di
    have dr' := dr (by omega)
    have ok : ∀ j, Nx.cl L C i j → j < C.w i → Nx.bn L p q C i j → WideOk (Nx.wd L p q C i j) := fun j hj hl hb => wide_ok (L.plus_val lv (gi.2 j hl)) hj hb fac
    by_cases hkw : k < C.w i
    · have dei' := dei i hin
      have der' := der i hin (by omega)
      have dee' := dee i hin
      unfold Chs.rg at dei'
      have xo : (C.run i k).Ok := gi.2 k hkw
      rcases Nat.eq_zero_or_pos L.n with h0 | h0
      (focus ((try with_reducible apply wpC.to); (repeat' ((conv => whnf); first | refine byEv ?_ | (apply Fork.mk <;> (intro _; try (exfalso; omega))) | refine xGSpanNd0 ?_ | fail)); all_goals ((conv => whnf); try with_reducible apply At.mk)))
      apply q_app0 (n := 0) (c := 0) (b := some ⟨h6.next + 8, 0, none⟩)
      case hs => exact rfl
      case hx => show some L.n = some 0; rw [h0]
      (focus ((try with_reducible apply wpC.to); (repeat' ((conv => whnf); first | refine byEv ?_ | (apply Fork.mk <;> (intro _; try (exfalso; omega))) | refine xGSpanNd0 ?_ | fail)); all_goals ((conv => whnf); try with_reducible apply At.mk)))
      apply q_appF (b := h6.next + 10) (n := 0) (m := 1) (cs := []) (nc := (C.run i k).cells)
      case hsv => exact rfl
      case G => exact ⟨rfl, .inr ⟨_, rfl, by unfold far; omega, .inl ⟨rfl, rfl⟩, loadN_cells byGet rfl⟩⟩
      case C => exact Cells.one (by unfold Run.cells Chs.run; (exact byMem)) (by unfold far; omega) rfl rfl
      case hm => omega
      case hb => omega
      case hsm => omega
      intro vx2 rowx Gx
      have e7 : ([] : List Value) ++ (C.run i k).cells = rowsOf (fun i => (L.f i).cells) L.n ++ (C.run i k).cells := by rw [h0]; rfl
      rw [e7, show 0 + 1 = L.n + 1 by omega] at Gx
      have Gx2 := Gx
      rw [show Value.slice vx2 (0 + 1) 0 = .slice vx2 (L.n + 1) 0 by rw [h0]]
      rotate_left
      (focus ((try with_reducible apply wpC.to); (repeat' ((conv => whnf); first | refine byEv ?_ | (apply Fork.mk <;> (intro _; try (exfalso; omega))) | refine xGSpanNd0 ?_ | fail)); all_goals ((conv => whnf); try with_reducible apply At.mk)))
      apply q_appF (b := h6.next + 10) (n := 0) (m := L.n) (cs := []) (nc := rowsOf (fun i => (L.f i).cells) L.n)
      case hsv => exact rfl
      case G => exact ⟨rfl, .inr ⟨_, rfl, by unfold far; omega, .inl ⟨rfl, rfl⟩, loadN_cells byGet rfl⟩⟩
      case C => exact hCf _ bySame
      case hm => omega
      case hb => omega
      case hsm => omega
      intro vx rowx Gx
      rw [List.nil_append, Nat.zero_add] at Gx
      rw [Nat.zero_add]
      (focus ((try with_reducible apply wpC.to); (repeat' ((conv => whnf); first | refine byEv ?_ | (apply Fork.mk <;> (intro _; try (exfalso; omega))) | refine xGSpanNd0 ?_ | fail)); all_goals ((conv => whnf); try with_reducible apply At.mk)))
      apply q_appG (b := h6.next + 10) (N := h6.next + 10 + 1) (n := L.n) (m := 1) (nc := (C.run i k).cells)
      case hsv => exact rfl
      case G => exact Gx.frame (Nat.le_refl _) fun j hj1 hj2 => get_of fun y hy => by (exact byGet)
      case C => exact Cells.one (by unfold Run.cells Chs.run; (exact byMem)) (by unfold far; omega) rfl rfl
      case hm => omega
      case hlo => omega
      case hb => omega
      case hN => omega
      case hsm => omega
      intro vx2 jx rowx2 hjx1 hjx2 hjx3 Gx2
      all_goals
        (focus ((try with_reducible apply wpC.to); (repeat' ((conv => whnf); first | refine byEv ?_ | (apply Fork.mk <;> (intro _; try (exfalso; omega))) | refine xGSpanNd0 ?_ | fail)); all_goals ((conv => whnf); try with_reducible apply At.mk)))
        apply callF_gen
        intro hc ehc
        have g9 : hc.get (h.next + 1) = some (.cells [.int .i64 0, .int .i64 0] 29) := by rw [ehc]; (exact byGet)
        have g12 : hc.get (h4.next + 1) = some (.cells [.int .i64 (bestF o).n, .int .i64 (bestF o).d] 29) := by rw [ehc]; (exact byGet)
        have g14 : hc.get (h5.next + 5) = some (.cells [.int .i64 (widF o2).n, .int .i64 (widF o2).d] 29) := by rw [ehc]; (exact byGet)
        have hcs : Same m h hc := by rw [ehc]; (exact bySame)
        have hcn : h6.next + 8 ≤ hc.next := by rw [ehc]; (exact byOm)
        obtain ⟨ax, hMo, hM1, hM2⟩ := more_ok (L := L) (x := C.run i k) Gx2 (by omega)
        have hMo : (L.more (C.run i k) vx2 ax).Ok hc.next hc := hMo.fr (fun _ => hM1) (by rw [ehc]; (exact byOm)) fun r hr1 hr2 => get_of fun y hy => by rw [ehc]; (exact byGet)
        clear ehc Gx Gx2
        have mv : (L.more (C.run i k) vx2 ax).Val := L.plus_val lv xo
        apply q_callB
        focus (exact byNext)
        focus (exact byLo)
        focus exact doubted_r (L := L.more (C.run i k) vx2 ax) (m := hc.next) byOm (hMo.same bySame (Nat.le_refl _)) (by show L.n + 1 ≤ 13; omega) mv
        · intro hb7 h7 q7 n7
          have nc : ¬ Nx.cl L C i k := of_decide_eq_true hb7
          (focus ((try with_reducible apply wpC.to); (repeat' ((conv => whnf); first | refine byEv ?_ | (apply Fork.mk <;> (intro _; try (exfalso; omega))) | refine xGSpanNd0 ?_ | fail)); all_goals ((conv => whnf); try with_reducible apply At.mk)))
          exact hK2 (k + 1, o2) _ _ ⟨rfl, rfl, rfl, rfl, rfl, rfl, rfl, rfl, rfl, int_of rfl (by dsimp only; omega), trivial⟩ ⟨byGet, byGet, by unfold Fr.cells; (exact byGet), bySame, byOm, by dsimp only; omega, ws.skip nc, fun j hj hc => by
            by_cases e : j = k
            · subst e; exact absurd hc nc
            · exact bw j (by dsimp only at hj; omega) hc⟩ (by dsimp only; omega)
        intro hb7 h7 q7 n7
        have c8 : Nx.cl L C i k := Classical.byContradiction (of_decide_eq_false hb7)
        (focus ((try with_reducible apply wpC.to); (repeat' ((conv => whnf); first | refine byEv ?_ | (apply Fork.mk <;> (intro _; try (exfalso; omega))) | refine xGSpanNd0 ?_ | fail)); all_goals ((conv => whnf); try with_reducible apply At.mk)))
        apply q_callB
        focus (exact byNext)
        focus (exact byLo)
        focus exact bounded_r (L := L.more (C.run i k) vx2 ax) (m := hc.next) byOm (hMo.same bySame (Nat.le_refl _)) mv fac
        rotate_left
        · intro hb8 h8 q8 n8
          have nb : ¬ Nx.bn L p q C i k := fun b => of_decide_eq_false hb8 ((bnd_iff mv).2 b)
          (focus ((try with_reducible apply wpC.to); (repeat' ((conv => whnf); first | refine byEv ?_ | (apply Fork.mk <;> (intro _; try (exfalso; omega))) | refine xGSpanNd0 ?_ | fail)); all_goals ((conv => whnf); try with_reducible apply At.mk)))
          (refine byFin ?_)
          exact fin 5 (Nx.e4 e0 e2 cl fun kk => nb (kk.1 i hin k hkw c8)) (by decide)
        intro hb8 h8 q8 n8
        have b8 : Nx.bn L p q C i k := (bnd_iff mv).1 (of_decide_eq_true hb8)
        have wk := ok k c8 hkw b8
        have ew : (L.more (C.run i k) vx2 ax).wide p q = Nx.wd L p q C i k := wide_cong rfl rfl
        have bw2 : BnW L p q C i (k + 1) := fun j hj hc => by
          by_cases e : j = k
          · subst e; exact b8
          · exact bw j (by omega) hc
        (focus ((try with_reducible apply wpC.to); (repeat' ((conv => whnf); first | refine byEv ?_ | (apply Fork.mk <;> (intro _; try (exfalso; omega))) | refine xGSpanNd0 ?_ | fail)); all_goals ((conv => whnf); try with_reducible apply At.mk)))
        apply q_callv
        focus (exact byNext)
        focus (exact byLo)
        focus exact spanOf_r (L := L.more (C.run i k) vx2 ax) (m := hc.next) byOm (hMo.same bySame (Nat.le_refl _)) (by show L.n + 1 ≤ 13; omega) mv c8 b8 fac
        intro h9 q9 n9
        rw [ew]
        unfold Fr.cells
        (focus ((try with_reducible apply wpC.to); (repeat' ((conv => whnf); first | refine byEv ?_ | (apply Fork.mk <;> (intro _; try (exfalso; omega))) | refine xGSpanNd0 ?_ | fail)); all_goals ((conv => whnf); try with_reducible apply At.mk)))
        cases o2 with
        | none =>
          rw [show widF none = ⟨-1, 1⟩ from rfl] at g14
          (focus ((try with_reducible apply wpC.to); (repeat' ((conv => whnf); first | refine byEv ?_ | (apply Fork.mk <;> (intro _; try (exfalso; omega))) | refine xGSpanNd0 ?_ | fail)); all_goals ((conv => whnf); try with_reducible apply At.mk)))
          apply q_callB
          focus (exact byNext)
          focus (exact byLo)
          focus exact less_r (x := ⟨-1, 1⟩) neg_LB wk.LB
          · intro hb10 h10 q10 n10
            (focus ((try with_reducible apply wpC.to); (repeat' ((conv => whnf); first | refine byEv ?_ | (apply Fork.mk <;> (intro _; try (exfalso; omega))) | refine xGSpanNd0 ?_ | fail)); all_goals ((conv => whnf); try with_reducible apply At.mk)))
            exact hK2 (k + 1, some (Nx.wd L p q C i k)) _ _ ⟨rfl, rfl, rfl, rfl, rfl, rfl, rfl, rfl, rfl, int_of rfl (by dsimp only; omega), trivial⟩ ⟨byGet, byGet, by unfold Fr.cells widF; (exact byGet), bySame, byOm, by dsimp only; omega, WSt.first ws c8, bw2⟩ (by dsimp only; omega)
          · intro hb; exact absurd (neg_lt wk) (of_decide_eq_false hb)
        | some y =>
          have oy : WideOk y := IsW.ok (L := L) (p := p) (q := q) (C := C) (i := i) (s := k) ws (fun j hc hj => ok j hc (by omega) (bw j hj hc))
          rw [show widF (some y) = y from rfl] at g14
          (focus ((try with_reducible apply wpC.to); (repeat' ((conv => whnf); first | refine byEv ?_ | (apply Fork.mk <;> (intro _; try (exfalso; omega))) | refine xGSpanNd0 ?_ | fail)); all_goals ((conv => whnf); try with_reducible apply At.mk)))
          apply q_callB
          focus (exact byNext)
          focus (exact byLo)
          focus exact less_r oy.LB wk.LB
          · intro hb10 h10 q10 n10
            (focus ((try with_reducible apply wpC.to); (repeat' ((conv => whnf); first | refine byEv ?_ | (apply Fork.mk <;> (intro _; try (exfalso; omega))) | refine xGSpanNd0 ?_ | fail)); all_goals ((conv => whnf); try with_reducible apply At.mk)))
            exact hK2 (k + 1, some (Nx.wd L p q C i k)) _ _ ⟨rfl, rfl, rfl, rfl, rfl, rfl, rfl, rfl, rfl, int_of rfl (by dsimp only; omega), trivial⟩ ⟨byGet, byGet, by unfold Fr.cells widF; (exact byGet), bySame, byOm, by dsimp only; omega, WSt.more (x := y) ws (fun j hc hj => ok j hc (by omega) (bw2 j (by omega) hc)) c8 (of_decide_eq_true hb10), bw2⟩ (by dsimp only; omega)
          · intro hb10 h10 q10 n10
            (focus ((try with_reducible apply wpC.to); (repeat' ((conv => whnf); first | refine byEv ?_ | (apply Fork.mk <;> (intro _; try (exfalso; omega))) | refine xGSpanNd0 ?_ | fail)); all_goals ((conv => whnf); try with_reducible apply At.mk)))
            exact hK2 (k + 1, some y) _ _ ⟨rfl, rfl, rfl, rfl, rfl, rfl, rfl, rfl, rfl, int_of rfl (by dsimp only; omega), trivial⟩ ⟨byGet, byGet, by unfold Fr.cells widF; (exact byGet), bySame, byOm, by dsimp only; omega, WSt.keep (x := y) ws (of_decide_eq_false hb10), bw2⟩ (by dsimp only; omega)
    · obtain rfl : k = C.w i := by omega
      have bn' : ∀ j, j < i + 1 → BnW L p q C j (C.w j) := fun j hj => by
        by_cases e : j = i
        · subst e; exact bw
        · exact bn j (by omega)
      have okA : ∀ j, j ≤ i → ∀ k, Nx.cl L C j k → k < C.w j → WideOk (Nx.wd L p q C j k) := fun j hj k hc hk => wide_ok (L.plus_val lv ((gs j (by omega)).2 k hk)) hc (bn' j (by omega) k hk hc) fac
      cases o2 with
      | none =>
        rw [show widF none = ⟨-1, 1⟩ from rfl] at y14
        dsimp only at y14
        (focus ((try with_reducible apply wpC.to); (repeat' ((conv => whnf); first | refine byEv ?_ | (apply Fork.mk <;> (intro _; try (exfalso; omega))) | refine xGSpanNd0 ?_ | fail)); all_goals ((conv => whnf); try with_reducible apply At.mk)))
        exact hK (i + 1, o) _ _ ⟨rfl, rfl, rfl, rfl, rfl, rfl, rfl, int_of rfl (by dsimp only; omega), trivial⟩ ⟨byGet, by unfold Fr.cells; (exact byGet), bySame, byOm, by dsimp only; omega, bs.skip ws, bn'⟩ (by dsimp only; omega)
      | some x =>
        have xw : WideOk x := IsW.ok (L := L) (p := p) (q := q) (C := C) (i := i) (s := C.w i) ws (fun j hc hj => ok j hc hj (bw j hj hc))
        have nx := xw.n
        rw [show widF (some x) = x from rfl] at y14
        cases o with
        | none =>
          rw [show bestI none = -1 from rfl]
          (focus ((try with_reducible apply wpC.to); (repeat' ((conv => whnf); first | refine byEv ?_ | (apply Fork.mk <;> (intro _; try (exfalso; omega))) | refine xGSpanNd0 ?_ | fail)); all_goals ((conv => whnf); try with_reducible apply At.mk)))
          exact hK (i + 1, some (i, x)) _ _ ⟨rfl, rfl, rfl, rfl, rfl, rfl, rfl, int_of rfl (by dsimp only; omega), trivial⟩ ⟨byGet, by unfold Fr.cells bestF; (exact byGet), bySame, byOm, by dsimp only; omega, bs.first ws, bn'⟩ (by dsimp only; omega)
        | some z =>
          obtain ⟨jz, y⟩ := z
          have yw : WideOk y := bs.1.2.ok (fun k hc hk => okA jz (by have := bs.1.1; omega) k hc hk)
          rw [show bestF (some (jz, y)) = y from rfl] at y12
          rw [show bestI (some (jz, y)) = (jz : Int) from rfl]
          (focus ((try with_reducible apply wpC.to); (repeat' ((conv => whnf); first | refine byEv ?_ | (apply Fork.mk <;> (intro _; try (exfalso; omega))) | refine xGSpanNd0 ?_ | fail)); all_goals ((conv => whnf); try with_reducible apply At.mk)))
          apply q_callB
          focus (exact byNext)
          focus (exact byLo)
          focus exact less_r xw.LB yw.LB
          · intro hb7 h7 q7 n7
            (focus ((try with_reducible apply wpC.to); (repeat' ((conv => whnf); first | refine byEv ?_ | (apply Fork.mk <;> (intro _; try (exfalso; omega))) | refine xGSpanNd0 ?_ | fail)); all_goals ((conv => whnf); try with_reducible apply At.mk)))
            exact hK (i + 1, some (i, x)) _ _ ⟨rfl, rfl, rfl, rfl, rfl, rfl, rfl, int_of rfl (by dsimp only; omega), trivial⟩ ⟨byGet, by unfold Fr.cells bestF; (exact byGet), bySame, byOm, by dsimp only; omega, BSt.more bs ws (fun j hj k hc hk => okA j hj k hc hk) (of_decide_eq_true hb7), bn'⟩ (by dsimp only; omega)
          · intro hb7 h7 q7 n7
            (focus ((try with_reducible apply wpC.to); (repeat' ((conv => whnf); first | refine byEv ?_ | (apply Fork.mk <;> (intro _; try (exfalso; omega))) | refine xGSpanNd0 ?_ | fail)); all_goals ((conv => whnf); try with_reducible apply At.mk)))
            exact hK (i + 1, some (jz, y)) _ _ ⟨rfl, rfl, rfl, rfl, rfl, rfl, rfl, int_of rfl (by dsimp only; omega), trivial⟩ ⟨byGet, by unfold Fr.cells bestF; (exact byGet), bySame, byOm, by dsimp only; omega, BSt.keep bs ws (fun k hc hk => okA i (Nat.le_refl _) k hc hk) (of_decide_eq_false hb7), bn'⟩ (by dsimp only; omega)
  · obtain rfl : i = C.n := by omega
    have okk : ∀ i, i < C.n → ∀ k, Nx.cl L C i k → k < C.w i → WideOk (Nx.wd L p q C i k) := fun i hi k hc hk => wide_ok (L.plus_val lv ((gs i hi).2 k hk)) hc (bn i hi k hk hc) fac
    cases o with
    | none =>
      rw [show bestI none = -1 from rfl]
      (focus ((try with_reducible apply wpC.to); (repeat' ((conv => whnf); first | refine byEv ?_ | (apply Fork.mk <;> (intro _; try (exfalso; omega))) | refine xGSpanNd0 ?_ | fail)); all_goals ((conv => whnf); try with_reducible apply At.mk)))
      (refine byFin ?_)
      refine fin 5 (Nx.e4 e0 e2 cl fun kk => ?_) (by decide)
      obtain ⟨o, ho⟩ := kk.2
      exact ho.1.2.no (bs o.1 ho.1.1)
    | some o =>
      have er : Nx.err L p q C = 0 := Nx.e5 e0 e2 cl ⟨bn, o, bs⟩
      rw [Nx.res_of er bs okk, er]
      unfold bestI bestF at *
      dsimp only at *
      (focus ((try with_reducible apply wpC.to); (repeat' ((conv => whnf); first | refine byEv ?_ | (apply Fork.mk <;> (intro _; try (exfalso; omega))) | refine xGSpanNd0 ?_ | fail)); all_goals ((conv => whnf); try with_reducible apply At.mk)))
      (refine byFin ?_)
      rfl
end AE.Tryz
