/- Walks of the laws of spans: SpanMore. -/
import Derived.Test.YtkkndecbijgolaaSpanYm0
import Derived.Test.YtkkndecbijgolaaSpanFit
set_option linter.unusedVariables false
set_option linter.unusedSimpArgs false
set_option linter.unusedSectionVars false
namespace AE.Try
open Go AE Go.Proofs AE.Sp
set_option maxRecDepth 100000
set_option linter.unusedVariables false

theorem Runs.Ok.fr {T : Runs} {b m m' : Nat} {h h' : H} (k : T.Ok m h) (hb : 0 < T.n → b ≤ T.a.block) (hm : m ≤ m') (hs : ∀ r, b ≤ r → r < m → h'.get r = h.get r) : T.Ok m' h' :=
  ⟨k.e, fun i hi => by
    have := k.i i hi
    rw [← this]
    have h1 := k.r (by omega)
    have h2 := hb (by omega)
    simp only [H.loadN, aadd]
    rw [hs _ h2 h1], fun h => by have := k.r h; omega, k.l⟩
theorem rows_two {f : Nat → Run} {n k : Nat} {x y : Run} : rowsOf (fun i => (updR (updR f k x) k y i).cells) n = rowsOf (fun i => (updR f k y i).cells) n :=
  rowsOf_congr n fun i _ => by
    unfold updR
    by_cases e : i = k
    · rw [if_pos e, if_pos e]
    · rw [if_neg e, if_neg e, if_neg e]
theorem gat_at {f : Nat → Run} {r n k : Nat} {x : Run} {h : H} {a : Addr} (G : GAt r h 56 4 n (rowsOf (fun i => (updR f k x i).cells) n) (some a)) (hk : k < n) : h.loadN (aadd a (k * 4)) 4 = some x.cells := by
  have : _ = some (updR f k x k).cells := gat_els G (fun _ => rfl) k hk
  rw [show updR f k x k = x from if_pos rfl] at this
  exact this
theorem whole_LB {n : Int} (h : -100000 ≤ n ∧ n ≤ 100000) : LB (⟨n, 1⟩ : Fr) := by
  rw [← fr_one n]; exact fr_LB (by omega) (by omega)

open Classical in
set_option maxHeartbeats 16000000 in
theorem more_law {h : H} {L : Runs} {x : Run} {m : Nat} {p q wh a b : Int} (hm : m ≤ h.next) (hI : L.In m h) (hw : 0 ≤ wh ∧ wh < 256) (ha : 0 ≤ a ∧ a < 65536) (hb : 0 ≤ b ∧ b < 65536) :
    AW Try.prog 8 h.next h [.slice L.b L.n L.c, .int .i64 p, .int .i64 q, .agg ⟨x.cells⟩, .int .u8 wh, .agg ⟨[.int .u16 a, .int .u16 b]⟩] (fun v _ => v = .bool true) := by
  have hL := hI.ok
  have hS := hI.sl
  have ll := hL.l
  refine fun8.call rfl (Nat.le_refl _) ?_
  unfold a8
  by_cases e2 : L.err2 p q ≠ 0
  · unfold Run.cells
    (focus ((try with_reducible apply wpC.to); (repeat' ((conv => whnf); first | refine byEv ?_ | (apply Fork.mk <;> (intro _; try (exfalso; omega))) | ((first | refine kSpanZu2 ?_ | refine kSpanZu0 ?_); first | ((first | apply q_allD | apply q_alli | apply q_allB) <;> intro _ _ _ _ <;> try contradiction) | (apply q_allv; intro _ _ _)) | refine xSpanC0 ?_ | refine xSpanB1 ?_ | refine xSpanB0 ?_ | fail)); all_goals ((conv => whnf); try with_reducible apply At.mk)))
    (refine byFin ?_)
    rfl
  have e2 : L.err2 p q = 0 := by omega
  obtain ⟨e1, fac⟩ := Runs.err2_0 e2
  obtain ⟨ln, lv⟩ := L.err_0 e1
  unfold Run.cells
  (focus ((try with_reducible apply wpC.to); (repeat' ((conv => whnf); first | refine byEv ?_ | (apply Fork.mk <;> (intro _; try (exfalso; omega))) | ((first | refine kSpanZu2 ?_ | refine kSpanZu0 ?_); first | ((first | apply q_allD | apply q_alli | apply q_allB) <;> intro _ _ _ _ <;> try contradiction) | (apply q_allv; intro _ _ _)) | refine xSpanC0 ?_ | refine xSpanB1 ?_ | refine xSpanB0 ?_ | fail)); all_goals ((conv => whnf); try with_reducible apply At.mk)))
  apply q_callv
  focus (exact byNext)
  focus (exact byLo)
  focus exact least_w (L := L) (m := m) (p := p) (q := q) byOm (hL.same bySame (Nat.le_refl _))
  intro h2 q2 n2
  rcases lerr_is e2 with ⟨cl, el⟩ | ⟨cl, nb, el⟩ | ⟨cl, bd, el⟩
  · rw [el]
    unfold Fr.cells
    (focus ((try with_reducible apply wpC.to); (repeat' ((conv => whnf); first | refine byEv ?_ | (apply Fork.mk <;> (intro _; try (exfalso; omega))) | ((first | refine kSpanZu2 ?_ | refine kSpanZu0 ?_); first | ((first | apply q_allD | apply q_alli | apply q_allB) <;> intro _ _ _ _ <;> try contradiction) | (apply q_allv; intro _ _ _)) | refine xSpanC0 ?_ | refine xSpanB1 ?_ | refine xSpanB0 ?_ | fail)); all_goals ((conv => whnf); try with_reducible apply At.mk)))
    (refine byFin ?_)
    rfl
  · rw [el]
    unfold Fr.cells
    (focus ((try with_reducible apply wpC.to); (repeat' ((conv => whnf); first | refine byEv ?_ | (apply Fork.mk <;> (intro _; try (exfalso; omega))) | ((first | refine kSpanZu2 ?_ | refine kSpanZu0 ?_); first | ((first | apply q_allD | apply q_alli | apply q_allB) <;> intro _ _ _ _ <;> try contradiction) | (apply q_allv; intro _ _ _)) | refine xSpanC0 ?_ | refine xSpanB1 ?_ | refine xSpanB0 ?_ | fail)); all_goals ((conv => whnf); try with_reducible apply At.mk)))
    (refine byFin ?_)
    rfl
  obtain ⟨N, D, lk⟩ := lv_ok el
  rw [el]
  unfold Fr.cells
  have hCf : ∀ h' : H, Same m h h' → Cells h' 4 L.n (.slice L.b L.n L.c) (rowsOf (fun i => (L.f i).cells) L.n) := fun h' s => Cells.els (hL.i.same s hL.r) hL.e (fun h0 => (hS.1 h0).2.2.2.1) (fun _ => rfl) (fun _ => rfl)
  rcases Nat.eq_zero_or_pos L.n with h0 | h0
  · (focus ((try with_reducible apply wpC.to); (repeat' ((conv => whnf); first | refine byEv ?_ | (apply Fork.mk <;> (intro _; try (exfalso; omega))) | ((first | refine kSpanZu2 ?_ | refine kSpanZu0 ?_); first | ((first | apply q_allD | apply q_alli | apply q_allB) <;> intro _ _ _ _ <;> try contradiction) | (apply q_allv; intro _ _ _)) | refine xSpanC0 ?_ | refine xSpanB1 ?_ | refine xSpanB0 ?_ | fail)); all_goals ((conv => whnf); try with_reducible apply At.mk)))
    rename_i h1 q1 n1 f1 _ _
    apply q_app0 (n := 0) (c := 0) (b := some ⟨h2.next + 5, 0, none⟩)
    case hs => exact rfl
    case hx => show some L.n = some 0; rw [h0]
    (focus ((try with_reducible apply wpC.to); (repeat' ((conv => whnf); first | refine byEv ?_ | (apply Fork.mk <;> (intro _; try (exfalso; omega))) | ((first | refine kSpanZu2 ?_ | refine kSpanZu0 ?_); first | ((first | apply q_allD | apply q_alli | apply q_allB) <;> intro _ _ _ _ <;> try contradiction) | (apply q_allv; intro _ _ _)) | refine xSpanC0 ?_ | refine xSpanB1 ?_ | refine xSpanB0 ?_ | fail)); all_goals ((conv => whnf); try with_reducible apply At.mk)))
    apply q_appF (b := h2.next + 7) (n := 0) (m := 1) (cs := []) (nc := x.cells)
    case hsv => exact rfl
    case G => exact ⟨rfl, .inr ⟨_, rfl, by unfold far; omega, .inl ⟨rfl, rfl⟩, loadN_cells byGet rfl⟩⟩
    case C => exact Cells.one (by unfold Run.cells; (exact byMem)) (by unfold far; omega) rfl rfl
    case hm => omega
    case hb => omega
    case hsm => omega
    intro vx2 rowx Gx
    have e0 : ([] : List Value) ++ x.cells = rowsOf (fun i => (L.f i).cells) L.n ++ x.cells := by rw [h0]; rfl
    rw [e0, show 0 + 1 = L.n + 1 by omega] at Gx
    have Gx2 := Gx
    rw [show Value.slice vx2 (0 + 1) 0 = .slice vx2 (L.n + 1) 0 by rw [h0]]
    (focus ((try with_reducible apply wpC.to); (repeat' ((conv => whnf); first | refine byEv ?_ | (apply Fork.mk <;> (intro _; try (exfalso; omega))) | ((first | refine kSpanZu2 ?_ | refine kSpanZu0 ?_); first | ((first | apply q_allD | apply q_alli | apply q_allB) <;> intro _ _ _ _ <;> try contradiction) | (apply q_allv; intro _ _ _)) | refine xSpanC0 ?_ | refine xSpanB1 ?_ | refine xSpanB0 ?_ | fail)); all_goals ((conv => whnf); try with_reducible apply At.mk)))
    apply callF_gen
    intro hc ehc
    have gx : hc.get h.next = some (.cells [.int .i64 x.p, .int .i64 x.q, .int .i64 x.lo, .int .i64 x.hi] 56) := by rw [ehc]; (exact byGet)
    have g13 : hc.get (h1.next + 7) = some (.cells [.int .i64 (L.lval p q).n, .int .i64 (L.lval p q).d] 38) := by rw [ehc]; (exact byGet)
    have hcs : Same m h hc := by rw [ehc]; (exact bySame)
    have hcn : h2.next + 7 ≤ hc.next := by rw [ehc]; (exact byOm)
    obtain ⟨ax, hMo, hM1, hM2⟩ := more_ok (L := L) (x := x) Gx2 (by omega)
    have hMo : (L.more x vx2 ax).Ok hc.next hc := hMo.fr (fun _ => hM1) (by rw [ehc]; (exact byOm)) fun r hr1 hr2 => get_of fun y hy => by rw [ehc]; (exact byGet)
    clear ehc Gx Gx2
    apply q_callB
    focus (exact byNext)
    focus (exact byLo)
    focus exact fine_l (L := L.more x vx2 ax) (m := hc.next) byOm (hMo.same bySame (Nat.le_refl _))
    rotate_left
    · intro hb5 h5 q5 n5
      (focus ((try with_reducible apply wpC.to); (repeat' ((conv => whnf); first | refine byEv ?_ | (apply Fork.mk <;> (intro _; try (exfalso; omega))) | ((first | refine kSpanZu2 ?_ | refine kSpanZu0 ?_); first | ((first | apply q_allD | apply q_alli | apply q_allB) <;> intro _ _ _ _ <;> try contradiction) | (apply q_allv; intro _ _ _)) | refine xSpanC0 ?_ | refine xSpanB1 ?_ | refine xSpanB0 ?_ | fail)); all_goals ((conv => whnf); try with_reducible apply At.mk)))
      (refine byFin ?_)
      rfl
    intro hb5 h5 q5 n5
    have e3 := of_decide_eq_true hb5
    have mv := (Runs.err_0 (Runs.err2_0 e3).1).2
    have xo := more_x mv
    obtain ⟨⟨x1, x2⟩, ⟨x3, x4⟩, x5, x6, x7, x8⟩ := id xo
    have e4 : L.err2 x.p x.q = 0 := Runs.err2_of e1 ⟨⟨x1, x2⟩, x3, x4⟩
    have e5 : L.err2 (-x.p) (-x.q) = 0 := Runs.err2_of e1 (fac_neg ⟨⟨x1, x2⟩, x3, x4⟩)
    have two : (L.lerr x.p x.q = 5 ∧ L.lerr (-x.p) (-x.q) = 5) ∨ (L.lerr x.p x.q = 0 ∧ L.lerr (-x.p) (-x.q) = 0) := by
      by_cases bx : L.Bnd x.p x.q
      · exact .inr ⟨Runs.lerr_ok e4 cl bx, Runs.lerr_ok e5 cl (bnd_negI lv bx)⟩
      · exact .inl ⟨Runs.lerr_5 e4 cl bx, Runs.lerr_5 e5 cl fun k => bx (by have := bnd_negI lv k; rw [Int.neg_neg, Int.neg_neg] at this; exact this)⟩
    (focus ((try with_reducible apply wpC.to); (repeat' ((conv => whnf); first | refine byEv ?_ | (apply Fork.mk <;> (intro _; try (exfalso; omega))) | ((first | refine kSpanZu2 ?_ | refine kSpanZu0 ?_); first | ((first | apply q_allD | apply q_alli | apply q_allB) <;> intro _ _ _ _ <;> try contradiction) | (apply q_allv; intro _ _ _)) | refine xSpanC0 ?_ | refine xSpanB1 ?_ | refine xSpanB0 ?_ | fail)); all_goals ((conv => whnf); try with_reducible apply At.mk)))
    apply q_callv
    focus (exact byNext)
    focus (exact byLo)
    focus exact least_w (L := L.more x vx2 ax) (m := hc.next) (p := p) (q := q) byOm (hMo.same bySame (Nat.le_refl _))
    intro h6 q6 n6
    rcases more_lerr lv el e3 with ml | ml
    · rw [ml]
      unfold Fr.cells
      (focus ((try with_reducible apply wpC.to); (repeat' ((conv => whnf); first | refine byEv ?_ | (apply Fork.mk <;> (intro _; try (exfalso; omega))) | ((first | refine kSpanZu2 ?_ | refine kSpanZu0 ?_); first | ((first | apply q_allD | apply q_alli | apply q_allB) <;> intro _ _ _ _ <;> try contradiction) | (apply q_allv; intro _ _ _)) | refine xSpanC0 ?_ | refine xSpanB1 ?_ | refine xSpanB0 ?_ | fail)); all_goals ((conv => whnf); try with_reducible apply At.mk)))
      apply q_callv
      focus (exact byNext)
      focus (exact byLo)
      focus exact least_w (L := L) (m := m) (p := x.p) (q := x.q) byOm (hL.same bySame (Nat.le_refl _))
      intro h7 q7 n7
      rcases two with ⟨l1, l2⟩ | ⟨l1, l2⟩
      · rw [l1]
        unfold Fr.cells
        (focus ((try with_reducible apply wpC.to); (repeat' ((conv => whnf); first | refine byEv ?_ | (apply Fork.mk <;> (intro _; try (exfalso; omega))) | ((first | refine kSpanZu2 ?_ | refine kSpanZu0 ?_); first | ((first | apply q_allD | apply q_alli | apply q_allB) <;> intro _ _ _ _ <;> try contradiction) | (apply q_allv; intro _ _ _)) | refine xSpanC0 ?_ | refine xSpanB1 ?_ | refine xSpanB0 ?_ | fail)); all_goals ((conv => whnf); try with_reducible apply At.mk)))
        apply q_callv
        focus (exact byNext)
        focus (exact byLo)
        focus exact least_w (L := L) (m := m) (p := -x.p) (q := -x.q) byOm (hL.same bySame (Nat.le_refl _))
        intro h8 q8 n8
        rw [l2]
        unfold Fr.cells
        (focus ((try with_reducible apply wpC.to); (repeat' ((conv => whnf); first | refine byEv ?_ | (apply Fork.mk <;> (intro _; try (exfalso; omega))) | ((first | refine kSpanZu2 ?_ | refine kSpanZu0 ?_); first | ((first | apply q_allD | apply q_alli | apply q_allB) <;> intro _ _ _ _ <;> try contradiction) | (apply q_allv; intro _ _ _)) | refine xSpanC0 ?_ | refine xSpanB1 ?_ | refine xSpanB0 ?_ | fail)); all_goals ((conv => whnf); try with_reducible apply At.mk)))
        (refine byFin ?_)
        rfl
      obtain ⟨N1, D1, k1⟩ := lv_ok l1
      obtain ⟨N2, D2, k2⟩ := lv_ok l2
      rw [l1]
      unfold Fr.cells
      (focus ((try with_reducible apply wpC.to); (repeat' ((conv => whnf); first | refine byEv ?_ | (apply Fork.mk <;> (intro _; try (exfalso; omega))) | ((first | refine kSpanZu2 ?_ | refine kSpanZu0 ?_); first | ((first | apply q_allD | apply q_alli | apply q_allB) <;> intro _ _ _ _ <;> try contradiction) | (apply q_allv; intro _ _ _)) | refine xSpanC0 ?_ | refine xSpanB1 ?_ | refine xSpanB0 ?_ | fail)); all_goals ((conv => whnf); try with_reducible apply At.mk)))
      apply q_callv
      focus (exact byNext)
      focus (exact byLo)
      focus exact least_w (L := L) (m := m) (p := -x.p) (q := -x.q) byOm (hL.same bySame (Nat.le_refl _))
      intro h8 q8 n8
      rw [l2]
      unfold Fr.cells
      (focus ((try with_reducible apply wpC.to); (repeat' ((conv => whnf); first | refine byEv ?_ | (apply Fork.mk <;> (intro _; try (exfalso; omega))) | ((first | refine kSpanZu2 ?_ | refine kSpanZu0 ?_); first | ((first | apply q_allD | apply q_alli | apply q_allB) <;> intro _ _ _ _ <;> try contradiction) | (apply q_allv; intro _ _ _)) | refine xSpanC0 ?_ | refine xSpanB1 ?_ | refine xSpanB0 ?_ | fail)); all_goals ((conv => whnf); try with_reducible apply At.mk)))
      apply q_callv
      focus (exact byNext)
      focus (exact byLo)
      focus exact whole_l
      intro h29 q29 n29
      unfold Fr.cells
      (focus ((try with_reducible apply wpC.to); (repeat' ((conv => whnf); first | refine byEv ?_ | (apply Fork.mk <;> (intro _; try (exfalso; omega))) | ((first | refine kSpanZu2 ?_ | refine kSpanZu0 ?_); first | ((first | apply q_allD | apply q_alli | apply q_allB) <;> intro _ _ _ _ <;> try contradiction) | (apply q_allv; intro _ _ _)) | refine xSpanC0 ?_ | refine xSpanB1 ?_ | refine xSpanB0 ?_ | fail)); all_goals ((conv => whnf); try with_reducible apply At.mk)))
      apply q_callB
      focus (exact byNext)
      focus (exact byLo)
      focus exact less_r k1.LB (whole_LB (by omega))
      · intro hb9 h9 q9 n9
        (focus ((try with_reducible apply wpC.to); (repeat' ((conv => whnf); first | refine byEv ?_ | (apply Fork.mk <;> (intro _; try (exfalso; omega))) | ((first | refine kSpanZu2 ?_ | refine kSpanZu0 ?_); first | ((first | apply q_allD | apply q_alli | apply q_allB) <;> intro _ _ _ _ <;> try contradiction) | (apply q_allv; intro _ _ _)) | refine xSpanC0 ?_ | refine xSpanB1 ?_ | refine xSpanB0 ?_ | fail)); all_goals ((conv => whnf); try with_reducible apply At.mk)))
        (refine byFin ?_)
        rfl
      intro hb9 h9 q9 n9
      (focus ((try with_reducible apply wpC.to); (repeat' ((conv => whnf); first | refine byEv ?_ | (apply Fork.mk <;> (intro _; try (exfalso; omega))) | ((first | refine kSpanZu2 ?_ | refine kSpanZu0 ?_); first | ((first | apply q_allD | apply q_alli | apply q_allB) <;> intro _ _ _ _ <;> try contradiction) | (apply q_allv; intro _ _ _)) | refine xSpanC0 ?_ | refine xSpanB1 ?_ | refine xSpanB0 ?_ | fail)); all_goals ((conv => whnf); try with_reducible apply At.mk)))
      apply q_callv
      focus (exact byNext)
      focus (exact byLo)
      focus exact whole_l
      intro h31 q31 n31
      unfold Fr.cells
      (focus ((try with_reducible apply wpC.to); (repeat' ((conv => whnf); first | refine byEv ?_ | (apply Fork.mk <;> (intro _; try (exfalso; omega))) | ((first | refine kSpanZu2 ?_ | refine kSpanZu0 ?_); first | ((first | apply q_allD | apply q_alli | apply q_allB) <;> intro _ _ _ _ <;> try contradiction) | (apply q_allv; intro _ _ _)) | refine xSpanC0 ?_ | refine xSpanB1 ?_ | refine xSpanB0 ?_ | fail)); all_goals ((conv => whnf); try with_reducible apply At.mk)))
      apply q_callB
      focus (exact byNext)
      focus (exact byLo)
      focus exact less_r k2.LB (whole_LB (by omega))
      · intro hb11 h11 q11 n11
        (focus ((try with_reducible apply wpC.to); (repeat' ((conv => whnf); first | refine byEv ?_ | (apply Fork.mk <;> (intro _; try (exfalso; omega))) | ((first | refine kSpanZu2 ?_ | refine kSpanZu0 ?_); first | ((first | apply q_allD | apply q_alli | apply q_allB) <;> intro _ _ _ _ <;> try contradiction) | (apply q_allv; intro _ _ _)) | refine xSpanC0 ?_ | refine xSpanB1 ?_ | refine xSpanB0 ?_ | fail)); all_goals ((conv => whnf); try with_reducible apply At.mk)))
        (refine byFin ?_)
        rfl
      intro hb11 h11 q11 n11
      (focus ((try with_reducible apply wpC.to); (repeat' ((conv => whnf); first | refine byEv ?_ | (apply Fork.mk <;> (intro _; try (exfalso; omega))) | ((first | refine kSpanZu2 ?_ | refine kSpanZu0 ?_); first | ((first | apply q_allD | apply q_alli | apply q_allB) <;> intro _ _ _ _ <;> try contradiction) | (apply q_allv; intro _ _ _)) | refine xSpanC0 ?_ | refine xSpanB1 ?_ | refine xSpanB0 ?_ | fail)); all_goals ((conv => whnf); try with_reducible apply At.mk)))
      have ms := more_same (v := vx2) (a := ax) lv xo lk el e3 fun t hd hf => all_fit xo k1 k2 (of_decide_eq_false hb9) (of_decide_eq_false hb11) hd hf
      exact absurd (ms.1.symm.trans ml) (by decide)
    obtain ⟨N', D', mk⟩ := lv_ok ml
    rw [ml]
    unfold Fr.cells
    (focus ((try with_reducible apply wpC.to); (repeat' ((conv => whnf); first | refine byEv ?_ | (apply Fork.mk <;> (intro _; try (exfalso; omega))) | ((first | refine kSpanZu2 ?_ | refine kSpanZu0 ?_); first | ((first | apply q_allD | apply q_alli | apply q_allB) <;> intro _ _ _ _ <;> try contradiction) | (apply q_allv; intro _ _ _)) | refine xSpanC0 ?_ | refine xSpanB1 ?_ | refine xSpanB0 ?_ | fail)); all_goals ((conv => whnf); try with_reducible apply At.mk)))
    apply q_callB
    focus (exact byNext)
    focus (exact byLo)
    focus exact less_r mk.LB lk.LB
    · intro hb; exact absurd (of_decide_eq_true hb) (lk.mono mk fun t hd hf => (more_fits.1 hf).1)
    intro hb22 h22 q22 n22
    (focus ((try with_reducible apply wpC.to); (repeat' ((conv => whnf); first | refine byEv ?_ | (apply Fork.mk <;> (intro _; try (exfalso; omega))) | ((first | refine kSpanZu2 ?_ | refine kSpanZu0 ?_); first | ((first | apply q_allD | apply q_alli | apply q_allB) <;> intro _ _ _ _ <;> try contradiction) | (apply q_allv; intro _ _ _)) | refine xSpanC0 ?_ | refine xSpanB1 ?_ | refine xSpanB0 ?_ | fail)); all_goals ((conv => whnf); try with_reducible apply At.mk)))
    apply q_callv
    focus (exact byNext)
    focus (exact byLo)
    focus exact least_w (L := L) (m := m) (p := x.p) (q := x.q) byOm (hL.same bySame (Nat.le_refl _))
    intro h7 q7 n7
    rcases two with ⟨l1, l2⟩ | ⟨l1, l2⟩
    · rw [l1]
      unfold Fr.cells
      (focus ((try with_reducible apply wpC.to); (repeat' ((conv => whnf); first | refine byEv ?_ | (apply Fork.mk <;> (intro _; try (exfalso; omega))) | ((first | refine kSpanZu2 ?_ | refine kSpanZu0 ?_); first | ((first | apply q_allD | apply q_alli | apply q_allB) <;> intro _ _ _ _ <;> try contradiction) | (apply q_allv; intro _ _ _)) | refine xSpanC0 ?_ | refine xSpanB1 ?_ | refine xSpanB0 ?_ | fail)); all_goals ((conv => whnf); try with_reducible apply At.mk)))
      apply q_callv
      focus (exact byNext)
      focus (exact byLo)
      focus exact least_w (L := L) (m := m) (p := -x.p) (q := -x.q) byOm (hL.same bySame (Nat.le_refl _))
      intro h8 q8 n8
      rw [l2]
      unfold Fr.cells
      (focus ((try with_reducible apply wpC.to); (repeat' ((conv => whnf); first | refine byEv ?_ | (apply Fork.mk <;> (intro _; try (exfalso; omega))) | ((first | refine kSpanZu2 ?_ | refine kSpanZu0 ?_); first | ((first | apply q_allD | apply q_alli | apply q_allB) <;> intro _ _ _ _ <;> try contradiction) | (apply q_allv; intro _ _ _)) | refine xSpanC0 ?_ | refine xSpanB1 ?_ | refine xSpanB0 ?_ | fail)); all_goals ((conv => whnf); try with_reducible apply At.mk)))
      (refine byFin ?_)
      rfl
    obtain ⟨N1, D1, k1⟩ := lv_ok l1
    obtain ⟨N2, D2, k2⟩ := lv_ok l2
    rw [l1]
    unfold Fr.cells
    (focus ((try with_reducible apply wpC.to); (repeat' ((conv => whnf); first | refine byEv ?_ | (apply Fork.mk <;> (intro _; try (exfalso; omega))) | ((first | refine kSpanZu2 ?_ | refine kSpanZu0 ?_); first | ((first | apply q_allD | apply q_alli | apply q_allB) <;> intro _ _ _ _ <;> try contradiction) | (apply q_allv; intro _ _ _)) | refine xSpanC0 ?_ | refine xSpanB1 ?_ | refine xSpanB0 ?_ | fail)); all_goals ((conv => whnf); try with_reducible apply At.mk)))
    apply q_callv
    focus (exact byNext)
    focus (exact byLo)
    focus exact least_w (L := L) (m := m) (p := -x.p) (q := -x.q) byOm (hL.same bySame (Nat.le_refl _))
    intro h8 q8 n8
    rw [l2]
    unfold Fr.cells
    (focus ((try with_reducible apply wpC.to); (repeat' ((conv => whnf); first | refine byEv ?_ | (apply Fork.mk <;> (intro _; try (exfalso; omega))) | ((first | refine kSpanZu2 ?_ | refine kSpanZu0 ?_); first | ((first | apply q_allD | apply q_alli | apply q_allB) <;> intro _ _ _ _ <;> try contradiction) | (apply q_allv; intro _ _ _)) | refine xSpanC0 ?_ | refine xSpanB1 ?_ | refine xSpanB0 ?_ | fail)); all_goals ((conv => whnf); try with_reducible apply At.mk)))
    apply q_callv
    focus (exact byNext)
    focus (exact byLo)
    focus exact whole_l
    intro h29 q29 n29
    unfold Fr.cells
    (focus ((try with_reducible apply wpC.to); (repeat' ((conv => whnf); first | refine byEv ?_ | (apply Fork.mk <;> (intro _; try (exfalso; omega))) | ((first | refine kSpanZu2 ?_ | refine kSpanZu0 ?_); first | ((first | apply q_allD | apply q_alli | apply q_allB) <;> intro _ _ _ _ <;> try contradiction) | (apply q_allv; intro _ _ _)) | refine xSpanC0 ?_ | refine xSpanB1 ?_ | refine xSpanB0 ?_ | fail)); all_goals ((conv => whnf); try with_reducible apply At.mk)))
    apply q_callB
    focus (exact byNext)
    focus (exact byLo)
    focus exact less_r k1.LB (whole_LB (by omega))
    · intro hb9 h9 q9 n9
      (focus ((try with_reducible apply wpC.to); (repeat' ((conv => whnf); first | refine byEv ?_ | (apply Fork.mk <;> (intro _; try (exfalso; omega))) | ((first | refine kSpanZu2 ?_ | refine kSpanZu0 ?_); first | ((first | apply q_allD | apply q_alli | apply q_allB) <;> intro _ _ _ _ <;> try contradiction) | (apply q_allv; intro _ _ _)) | refine xSpanC0 ?_ | refine xSpanB1 ?_ | refine xSpanB0 ?_ | fail)); all_goals ((conv => whnf); try with_reducible apply At.mk)))
      (refine byFin ?_)
      rfl
    intro hb9 h9 q9 n9
    (focus ((try with_reducible apply wpC.to); (repeat' ((conv => whnf); first | refine byEv ?_ | (apply Fork.mk <;> (intro _; try (exfalso; omega))) | ((first | refine kSpanZu2 ?_ | refine kSpanZu0 ?_); first | ((first | apply q_allD | apply q_alli | apply q_allB) <;> intro _ _ _ _ <;> try contradiction) | (apply q_allv; intro _ _ _)) | refine xSpanC0 ?_ | refine xSpanB1 ?_ | refine xSpanB0 ?_ | fail)); all_goals ((conv => whnf); try with_reducible apply At.mk)))
    apply q_callv
    focus (exact byNext)
    focus (exact byLo)
    focus exact whole_l
    intro h31 q31 n31
    unfold Fr.cells
    (focus ((try with_reducible apply wpC.to); (repeat' ((conv => whnf); first | refine byEv ?_ | (apply Fork.mk <;> (intro _; try (exfalso; omega))) | ((first | refine kSpanZu2 ?_ | refine kSpanZu0 ?_); first | ((first | apply q_allD | apply q_alli | apply q_allB) <;> intro _ _ _ _ <;> try contradiction) | (apply q_allv; intro _ _ _)) | refine xSpanC0 ?_ | refine xSpanB1 ?_ | refine xSpanB0 ?_ | fail)); all_goals ((conv => whnf); try with_reducible apply At.mk)))
    apply q_callB
    focus (exact byNext)
    focus (exact byLo)
    focus exact less_r k2.LB (whole_LB (by omega))
    · intro hb11 h11 q11 n11
      (focus ((try with_reducible apply wpC.to); (repeat' ((conv => whnf); first | refine byEv ?_ | (apply Fork.mk <;> (intro _; try (exfalso; omega))) | ((first | refine kSpanZu2 ?_ | refine kSpanZu0 ?_); first | ((first | apply q_allD | apply q_alli | apply q_allB) <;> intro _ _ _ _ <;> try contradiction) | (apply q_allv; intro _ _ _)) | refine xSpanC0 ?_ | refine xSpanB1 ?_ | refine xSpanB0 ?_ | fail)); all_goals ((conv => whnf); try with_reducible apply At.mk)))
      (refine byFin ?_)
      rfl
    intro hb11 h11 q11 n11
    (focus ((try with_reducible apply wpC.to); (repeat' ((conv => whnf); first | refine byEv ?_ | (apply Fork.mk <;> (intro _; try (exfalso; omega))) | ((first | refine kSpanZu2 ?_ | refine kSpanZu0 ?_); first | ((first | apply q_allD | apply q_alli | apply q_allB) <;> intro _ _ _ _ <;> try contradiction) | (apply q_allv; intro _ _ _)) | refine xSpanC0 ?_ | refine xSpanB1 ?_ | refine xSpanB0 ?_ | fail)); all_goals ((conv => whnf); try with_reducible apply At.mk)))
    have ms := more_same (v := vx2) (a := ax) lv xo lk el e3 fun t hd hf => all_fit xo k1 k2 (of_decide_eq_false hb9) (of_decide_eq_false hb11) hd hf
    rw [ms.2]
    (focus ((try with_reducible apply wpC.to); (repeat' ((conv => whnf); first | refine byEv ?_ | (apply Fork.mk <;> (intro _; try (exfalso; omega))) | ((first | refine kSpanZu2 ?_ | refine kSpanZu0 ?_); first | ((first | apply q_allD | apply q_alli | apply q_allB) <;> intro _ _ _ _ <;> try contradiction) | (apply q_allv; intro _ _ _)) | refine xSpanC0 ?_ | refine xSpanB1 ?_ | refine xSpanB0 ?_ | fail)); all_goals ((conv => whnf); try with_reducible apply At.mk)))
    refine OpE.pure (.bool true) (xPure_eql (A := ⟨(L.lval p q).cells⟩) (B := ⟨(L.lval p q).cells⟩) rfl rfl rfl rfl rfl (by kernel_rfl) (same_fr _)) ?_
    (focus ((try with_reducible apply wpC.to); (repeat' ((conv => whnf); first | refine byEv ?_ | (apply Fork.mk <;> (intro _; try (exfalso; omega))) | ((first | refine kSpanZu2 ?_ | refine kSpanZu0 ?_); first | ((first | apply q_allD | apply q_alli | apply q_allB) <;> intro _ _ _ _ <;> try contradiction) | (apply q_allv; intro _ _ _)) | refine xSpanC0 ?_ | refine xSpanB1 ?_ | refine xSpanB0 ?_ | fail)); all_goals ((conv => whnf); try with_reducible apply At.mk)))
    (refine byFin ?_)
    rfl
  have hk : 0 ≤ wh % L.n ∧ wh % L.n < L.n := ⟨Int.emod_nonneg _ (by omega), Int.emod_lt_of_pos _ (by omega)⟩
  obtain ⟨k, hke, hkn⟩ : ∃ k : Nat, wh % L.n = k ∧ k < L.n := ⟨(wh % L.n).toNat, by omega, by omega⟩
  have fk := lv k hkn
  obtain ⟨k1, k2, k3, k4, k5, k6⟩ := id fk
  (focus ((try with_reducible apply wpC.to); (repeat' ((conv => whnf); first | refine byEv ?_ | (apply Fork.mk <;> (intro _; try (exfalso; omega))) | ((first | refine kSpanZu2 ?_ | refine kSpanZu0 ?_); first | ((first | apply q_allD | apply q_alli | apply q_allB) <;> intro _ _ _ _ <;> try contradiction) | (apply q_allv; intro _ _ _)) | refine xSpanC0 ?_ | refine xSpanB1 ?_ | refine xSpanB0 ?_ | fail)); all_goals ((conv => whnf); try with_reducible apply At.mk)))
  rename_i h1 q1 n1 f1 _ _
  rw [hke]
  apply q_appF (b := h2.next + 13) (n := 0) (m := L.n) (cs := []) (nc := rowsOf (fun i => (L.f i).cells) L.n)
  case hsv => exact rfl
  case G => exact ⟨rfl, .inr ⟨_, rfl, by unfold far; omega, .inl ⟨rfl, rfl⟩, loadN_cells byGet rfl⟩⟩
  case C => exact hCf _ bySame
  case hm => omega
  case hb => omega
  case hsm => omega
  intro vy rowy Gy
  rw [List.nil_append, Nat.zero_add] at Gy
  rw [Nat.zero_add]
  obtain ⟨ry, Gy, hry1, hry2⟩ := Gy.gat h0
  obtain ⟨ay, rfl, hay, hldy, hsty⟩ := Gy.load
  subst hay
  (focus ((try with_reducible apply wpC.to); (repeat' ((conv => whnf); first | refine byEv ?_ | (apply Fork.mk <;> (intro _; try (exfalso; omega))) | ((first | refine kSpanZu2 ?_ | refine kSpanZu0 ?_); first | ((first | apply q_allD | apply q_alli | apply q_allB) <;> intro _ _ _ _ <;> try contradiction) | (apply q_allv; intro _ _ _)) | refine xSpanC0 ?_ | refine xSpanB1 ?_ | refine xSpanB0 ?_ | fail)); all_goals ((conv => whnf); try with_reducible apply At.mk)))
  refine Load1.mk (v0 := .int .i64 (L.f k).hi) (load_part (o := 3) (l := (L.f k).cells) (gat_els (Gy.frame (get_of fun y hy => byGet)) (fun _ => rfl) k hkn) rfl) rfl ?_
  (focus ((try with_reducible apply wpC.to); (repeat' ((conv => whnf); first | refine byEv ?_ | (apply Fork.mk <;> (intro _; try (exfalso; omega))) | ((first | refine kSpanZu2 ?_ | refine kSpanZu0 ?_); first | ((first | apply q_allD | apply q_alli | apply q_allB) <;> intro _ _ _ _ <;> try contradiction) | (apply q_allv; intro _ _ _)) | refine xSpanC0 ?_ | refine xSpanB1 ?_ | refine xSpanB0 ?_ | fail)); all_goals ((conv => whnf); try with_reducible apply At.mk)))
  refine Load1.mk (v0 := .int .i64 (L.f k).lo) (load_part (o := 2) (l := (L.f k).cells) (gat_els (Gy.frame (get_of fun y hy => byGet)) (fun _ => rfl) k hkn) rfl) rfl ?_
  (focus ((try with_reducible apply wpC.to); (repeat' ((conv => whnf); first | refine byEv ?_ | (apply Fork.mk <;> (intro _; try (exfalso; omega))) | ((first | refine kSpanZu2 ?_ | refine kSpanZu0 ?_); first | ((first | apply q_allD | apply q_alli | apply q_allB) <;> intro _ _ _ _ <;> try contradiction) | (apply q_allv; intro _ _ _)) | refine xSpanC0 ?_ | refine xSpanB1 ?_ | refine xSpanB0 ?_ | fail)); all_goals ((conv => whnf); try with_reducible apply At.mk)))
  refine sto_gat (r := ay.block) (a := ay) (off := k * 4 + 2) (vs := [.int .i64 (min (L.f k).hi ((L.f k).lo + a))]) (Gy.frame (get_of fun y hy => byGet)) (by omega) rfl (by rw [rowsOf_len (w := 4) (fun _ => rfl)]; simp; omega) rfl fun rowz Gz => ?_
  rw [rows_upd hkn (by simp) (x := (L.f k).lo' a) rfl] at Gz
  (focus ((try with_reducible apply wpC.to); (repeat' ((conv => whnf); first | refine byEv ?_ | (apply Fork.mk <;> (intro _; try (exfalso; omega))) | ((first | refine kSpanZu2 ?_ | refine kSpanZu0 ?_); first | ((first | apply q_allD | apply q_alli | apply q_allB) <;> intro _ _ _ _ <;> try contradiction) | (apply q_allv; intro _ _ _)) | refine xSpanC0 ?_ | refine xSpanB1 ?_ | refine xSpanB0 ?_ | fail)); all_goals ((conv => whnf); try with_reducible apply At.mk)))
  refine Load1.mk (v0 := .int .i64 (min (L.f k).hi ((L.f k).lo + a))) (load_part (o := 2) (l := ((L.f k).lo' a).cells) (gat_at (Gz.frame (get_of fun y hy => byGet)) hkn) rfl) rfl ?_
  (focus ((try with_reducible apply wpC.to); (repeat' ((conv => whnf); first | refine byEv ?_ | (apply Fork.mk <;> (intro _; try (exfalso; omega))) | ((first | refine kSpanZu2 ?_ | refine kSpanZu0 ?_); first | ((first | apply q_allD | apply q_alli | apply q_allB) <;> intro _ _ _ _ <;> try contradiction) | (apply q_allv; intro _ _ _)) | refine xSpanC0 ?_ | refine xSpanB1 ?_ | refine xSpanB0 ?_ | fail)); all_goals ((conv => whnf); try with_reducible apply At.mk)))
  refine Load1.mk (v0 := .int .i64 (L.f k).hi) (load_part (o := 3) (l := ((L.f k).lo' a).cells) (gat_at (Gz.frame (get_of fun y hy => byGet)) hkn) rfl) rfl ?_
  (focus ((try with_reducible apply wpC.to); (repeat' ((conv => whnf); first | refine byEv ?_ | (apply Fork.mk <;> (intro _; try (exfalso; omega))) | ((first | refine kSpanZu2 ?_ | refine kSpanZu0 ?_); first | ((first | apply q_allD | apply q_alli | apply q_allB) <;> intro _ _ _ _ <;> try contradiction) | (apply q_allv; intro _ _ _)) | refine xSpanC0 ?_ | refine xSpanB1 ?_ | refine xSpanB0 ?_ | fail)); all_goals ((conv => whnf); try with_reducible apply At.mk)))
  refine sto_gat (r := ay.block) (a := ay) (off := k * 4 + 3) (vs := [.int .i64 (max (min (L.f k).hi ((L.f k).lo + a)) ((L.f k).hi - b))]) (Gz.frame (get_of fun y hy => byGet)) (by omega) rfl (by rw [rowsOf_len (w := 4) (fun _ => rfl)]; simp; omega) rfl fun rowu Gu => ?_
  rw [rows_upd hkn (by simp) (x := (L.f k).nar a b) (by rw [show updR L.f k ((L.f k).lo' a) k = (L.f k).lo' a from if_pos rfl]; rfl), rows_two] at Gu
  (focus ((try with_reducible apply wpC.to); (repeat' ((conv => whnf); first | refine byEv ?_ | (apply Fork.mk <;> (intro _; try (exfalso; omega))) | ((first | refine kSpanZu2 ?_ | refine kSpanZu0 ?_); first | ((first | apply q_allD | apply q_alli | apply q_allB) <;> intro _ _ _ _ <;> try contradiction) | (apply q_allv; intro _ _ _)) | refine xSpanC0 ?_ | refine xSpanB1 ?_ | refine xSpanB0 ?_ | fail)); all_goals ((conv => whnf); try with_reducible apply At.mk)))
  have yl := nar_lerr (k := k) (v := some ay) (y := ay) lv hkn ha.1 hb.1 el
  have yv := nar_val (k := k) (v := some ay) (y := ay) lv hkn ha.1 hb.1
  have yf := fun (t : Tru) (hd : 0 < t.d) (hf : (L.nar k a b (some ay) ay).Fits t) => nar_fits lv hkn ha.1 hb.1 hd hf
  apply q_callv
  focus (exact byNext)
  focus (exact byLo)
  focus exact least_w (L := L.nar k a b (some ay) ay) (m := ay.block + 1) (p := p) (q := q) byOm (nar_okh (Gu.frame (get_of fun y hy => byGet)) (by omega) h0 (by omega))
  intro h3 q3 n3
  rcases yl with yl | yl
  · rw [yl]
    unfold Fr.cells
    (focus ((try with_reducible apply wpC.to); (repeat' ((conv => whnf); first | refine byEv ?_ | (apply Fork.mk <;> (intro _; try (exfalso; omega))) | ((first | refine kSpanZu2 ?_ | refine kSpanZu0 ?_); first | ((first | apply q_allD | apply q_alli | apply q_allB) <;> intro _ _ _ _ <;> try contradiction) | (apply q_allv; intro _ _ _)) | refine xSpanC0 ?_ | refine xSpanB1 ?_ | refine xSpanB0 ?_ | fail)); all_goals ((conv => whnf); try with_reducible apply At.mk)))
    apply q_appF (b := (h3.next + 17)) (n := 0) (m := L.n) (cs := []) (nc := rowsOf (fun i => (L.f i).cells) L.n)
    case hsv => exact rfl
    case G => exact ⟨rfl, .inr ⟨_, rfl, by unfold far; omega, .inl ⟨rfl, rfl⟩, loadN_cells byGet rfl⟩⟩
    case C => exact hCf _ bySame
    case hm => omega
    case hb => omega
    case hsm => omega
    intro vx rowx Gx
    rw [List.nil_append, Nat.zero_add] at Gx
    rw [Nat.zero_add]
    (focus ((try with_reducible apply wpC.to); (repeat' ((conv => whnf); first | refine byEv ?_ | (apply Fork.mk <;> (intro _; try (exfalso; omega))) | ((first | refine kSpanZu2 ?_ | refine kSpanZu0 ?_); first | ((first | apply q_allD | apply q_alli | apply q_allB) <;> intro _ _ _ _ <;> try contradiction) | (apply q_allv; intro _ _ _)) | refine xSpanC0 ?_ | refine xSpanB1 ?_ | refine xSpanB0 ?_ | fail)); all_goals ((conv => whnf); try with_reducible apply At.mk)))
    apply q_appG (b := (h3.next + 17)) (N := (h3.next + 17) + 1) (n := L.n) (m := 1) (nc := x.cells)
    case hsv => exact rfl
    case G => exact Gx.frame (Nat.le_refl _) fun j hj1 hj2 => get_of fun y hy => by (exact byGet)
    case C => exact Cells.one (by unfold Run.cells; (exact byMem)) (by unfold far; omega) rfl rfl
    case hm => omega
    case hlo => omega
    case hb => omega
    case hN => omega
    case hsm => omega
    intro vx2 jx rowx2 hjx1 hjx2 hjx3 Gx2
    (focus ((try with_reducible apply wpC.to); (repeat' ((conv => whnf); first | refine byEv ?_ | (apply Fork.mk <;> (intro _; try (exfalso; omega))) | ((first | refine kSpanZu2 ?_ | refine kSpanZu0 ?_); first | ((first | apply q_allD | apply q_alli | apply q_allB) <;> intro _ _ _ _ <;> try contradiction) | (apply q_allv; intro _ _ _)) | refine xSpanC0 ?_ | refine xSpanB1 ?_ | refine xSpanB0 ?_ | fail)); all_goals ((conv => whnf); try with_reducible apply At.mk)))
    apply callF_gen
    intro hc ehc
    have gx : hc.get h.next = some (.cells [.int .i64 x.p, .int .i64 x.q, .int .i64 x.lo, .int .i64 x.hi] 56) := by rw [ehc]; (exact byGet)
    have g13 : hc.get (h1.next + 7) = some (.cells [.int .i64 (L.lval p q).n, .int .i64 (L.lval p q).d] 38) := by rw [ehc]; (exact byGet)
    have hcs : Same m h hc := by rw [ehc]; (exact bySame)
    have hcn : h2.next + 7 ≤ hc.next := by rw [ehc]; (exact byOm)
    obtain ⟨ax, hMo, hM1, hM2⟩ := more_ok (L := L) (x := x) Gx2 (by omega)
    have hMo : (L.more x vx2 ax).Ok hc.next hc := hMo.fr (fun _ => hM1) (by rw [ehc]; (exact byOm)) fun r hr1 hr2 => get_of fun y hy => by rw [ehc]; (exact byGet)
    clear ehc Gx Gx2
    apply q_callB
    focus (exact byNext)
    focus (exact byLo)
    focus exact fine_l (L := L.more x vx2 ax) (m := hc.next) byOm (hMo.same bySame (Nat.le_refl _))
    rotate_left
    · intro hb5 h5 q5 n5
      (focus ((try with_reducible apply wpC.to); (repeat' ((conv => whnf); first | refine byEv ?_ | (apply Fork.mk <;> (intro _; try (exfalso; omega))) | ((first | refine kSpanZu2 ?_ | refine kSpanZu0 ?_); first | ((first | apply q_allD | apply q_alli | apply q_allB) <;> intro _ _ _ _ <;> try contradiction) | (apply q_allv; intro _ _ _)) | refine xSpanC0 ?_ | refine xSpanB1 ?_ | refine xSpanB0 ?_ | fail)); all_goals ((conv => whnf); try with_reducible apply At.mk)))
      (refine byFin ?_)
      rfl
    intro hb5 h5 q5 n5
    have e3 := of_decide_eq_true hb5
    have mv := (Runs.err_0 (Runs.err2_0 e3).1).2
    have xo := more_x mv
    obtain ⟨⟨x1, x2⟩, ⟨x3, x4⟩, x5, x6, x7, x8⟩ := id xo
    have e4 : L.err2 x.p x.q = 0 := Runs.err2_of e1 ⟨⟨x1, x2⟩, x3, x4⟩
    have e5 : L.err2 (-x.p) (-x.q) = 0 := Runs.err2_of e1 (fac_neg ⟨⟨x1, x2⟩, x3, x4⟩)
    have two : (L.lerr x.p x.q = 5 ∧ L.lerr (-x.p) (-x.q) = 5) ∨ (L.lerr x.p x.q = 0 ∧ L.lerr (-x.p) (-x.q) = 0) := by
      by_cases bx : L.Bnd x.p x.q
      · exact .inr ⟨Runs.lerr_ok e4 cl bx, Runs.lerr_ok e5 cl (bnd_negI lv bx)⟩
      · exact .inl ⟨Runs.lerr_5 e4 cl bx, Runs.lerr_5 e5 cl fun k => bx (by have := bnd_negI lv k; rw [Int.neg_neg, Int.neg_neg] at this; exact this)⟩
    (focus ((try with_reducible apply wpC.to); (repeat' ((conv => whnf); first | refine byEv ?_ | (apply Fork.mk <;> (intro _; try (exfalso; omega))) | ((first | refine kSpanZu2 ?_ | refine kSpanZu0 ?_); first | ((first | apply q_allD | apply q_alli | apply q_allB) <;> intro _ _ _ _ <;> try contradiction) | (apply q_allv; intro _ _ _)) | refine xSpanC0 ?_ | refine xSpanB1 ?_ | refine xSpanB0 ?_ | fail)); all_goals ((conv => whnf); try with_reducible apply At.mk)))
    apply q_callv
    focus (exact byNext)
    focus (exact byLo)
    focus exact least_w (L := L.more x vx2 ax) (m := hc.next) (p := p) (q := q) byOm (hMo.same bySame (Nat.le_refl _))
    intro h6 q6 n6
    rcases more_lerr lv el e3 with ml | ml
    · rw [ml]
      unfold Fr.cells
      (focus ((try with_reducible apply wpC.to); (repeat' ((conv => whnf); first | refine byEv ?_ | (apply Fork.mk <;> (intro _; try (exfalso; omega))) | ((first | refine kSpanZu2 ?_ | refine kSpanZu0 ?_); first | ((first | apply q_allD | apply q_alli | apply q_allB) <;> intro _ _ _ _ <;> try contradiction) | (apply q_allv; intro _ _ _)) | refine xSpanC0 ?_ | refine xSpanB1 ?_ | refine xSpanB0 ?_ | fail)); all_goals ((conv => whnf); try with_reducible apply At.mk)))
      apply q_callv
      focus (exact byNext)
      focus (exact byLo)
      focus exact least_w (L := L) (m := m) (p := x.p) (q := x.q) byOm (hL.same bySame (Nat.le_refl _))
      intro h7 q7 n7
      rcases two with ⟨l1, l2⟩ | ⟨l1, l2⟩
      · rw [l1]
        unfold Fr.cells
        (focus ((try with_reducible apply wpC.to); (repeat' ((conv => whnf); first | refine byEv ?_ | (apply Fork.mk <;> (intro _; try (exfalso; omega))) | ((first | refine kSpanZu2 ?_ | refine kSpanZu0 ?_); first | ((first | apply q_allD | apply q_alli | apply q_allB) <;> intro _ _ _ _ <;> try contradiction) | (apply q_allv; intro _ _ _)) | refine xSpanC0 ?_ | refine xSpanB1 ?_ | refine xSpanB0 ?_ | fail)); all_goals ((conv => whnf); try with_reducible apply At.mk)))
        apply q_callv
        focus (exact byNext)
        focus (exact byLo)
        focus exact least_w (L := L) (m := m) (p := -x.p) (q := -x.q) byOm (hL.same bySame (Nat.le_refl _))
        intro h8 q8 n8
        rw [l2]
        unfold Fr.cells
        (focus ((try with_reducible apply wpC.to); (repeat' ((conv => whnf); first | refine byEv ?_ | (apply Fork.mk <;> (intro _; try (exfalso; omega))) | ((first | refine kSpanZu2 ?_ | refine kSpanZu0 ?_); first | ((first | apply q_allD | apply q_alli | apply q_allB) <;> intro _ _ _ _ <;> try contradiction) | (apply q_allv; intro _ _ _)) | refine xSpanC0 ?_ | refine xSpanB1 ?_ | refine xSpanB0 ?_ | fail)); all_goals ((conv => whnf); try with_reducible apply At.mk)))
        (refine byFin ?_)
        rfl
      obtain ⟨N1, D1, k1⟩ := lv_ok l1
      obtain ⟨N2, D2, k2⟩ := lv_ok l2
      rw [l1]
      unfold Fr.cells
      (focus ((try with_reducible apply wpC.to); (repeat' ((conv => whnf); first | refine byEv ?_ | (apply Fork.mk <;> (intro _; try (exfalso; omega))) | ((first | refine kSpanZu2 ?_ | refine kSpanZu0 ?_); first | ((first | apply q_allD | apply q_alli | apply q_allB) <;> intro _ _ _ _ <;> try contradiction) | (apply q_allv; intro _ _ _)) | refine xSpanC0 ?_ | refine xSpanB1 ?_ | refine xSpanB0 ?_ | fail)); all_goals ((conv => whnf); try with_reducible apply At.mk)))
      apply q_callv
      focus (exact byNext)
      focus (exact byLo)
      focus exact least_w (L := L) (m := m) (p := -x.p) (q := -x.q) byOm (hL.same bySame (Nat.le_refl _))
      intro h8 q8 n8
      rw [l2]
      unfold Fr.cells
      (focus ((try with_reducible apply wpC.to); (repeat' ((conv => whnf); first | refine byEv ?_ | (apply Fork.mk <;> (intro _; try (exfalso; omega))) | ((first | refine kSpanZu2 ?_ | refine kSpanZu0 ?_); first | ((first | apply q_allD | apply q_alli | apply q_allB) <;> intro _ _ _ _ <;> try contradiction) | (apply q_allv; intro _ _ _)) | refine xSpanC0 ?_ | refine xSpanB1 ?_ | refine xSpanB0 ?_ | fail)); all_goals ((conv => whnf); try with_reducible apply At.mk)))
      apply q_callv
      focus (exact byNext)
      focus (exact byLo)
      focus exact whole_l
      intro h29 q29 n29
      unfold Fr.cells
      (focus ((try with_reducible apply wpC.to); (repeat' ((conv => whnf); first | refine byEv ?_ | (apply Fork.mk <;> (intro _; try (exfalso; omega))) | ((first | refine kSpanZu2 ?_ | refine kSpanZu0 ?_); first | ((first | apply q_allD | apply q_alli | apply q_allB) <;> intro _ _ _ _ <;> try contradiction) | (apply q_allv; intro _ _ _)) | refine xSpanC0 ?_ | refine xSpanB1 ?_ | refine xSpanB0 ?_ | fail)); all_goals ((conv => whnf); try with_reducible apply At.mk)))
      apply q_callB
      focus (exact byNext)
      focus (exact byLo)
      focus exact less_r k1.LB (whole_LB (by omega))
      · intro hb9 h9 q9 n9
        (focus ((try with_reducible apply wpC.to); (repeat' ((conv => whnf); first | refine byEv ?_ | (apply Fork.mk <;> (intro _; try (exfalso; omega))) | ((first | refine kSpanZu2 ?_ | refine kSpanZu0 ?_); first | ((first | apply q_allD | apply q_alli | apply q_allB) <;> intro _ _ _ _ <;> try contradiction) | (apply q_allv; intro _ _ _)) | refine xSpanC0 ?_ | refine xSpanB1 ?_ | refine xSpanB0 ?_ | fail)); all_goals ((conv => whnf); try with_reducible apply At.mk)))
        (refine byFin ?_)
        rfl
      intro hb9 h9 q9 n9
      (focus ((try with_reducible apply wpC.to); (repeat' ((conv => whnf); first | refine byEv ?_ | (apply Fork.mk <;> (intro _; try (exfalso; omega))) | ((first | refine kSpanZu2 ?_ | refine kSpanZu0 ?_); first | ((first | apply q_allD | apply q_alli | apply q_allB) <;> intro _ _ _ _ <;> try contradiction) | (apply q_allv; intro _ _ _)) | refine xSpanC0 ?_ | refine xSpanB1 ?_ | refine xSpanB0 ?_ | fail)); all_goals ((conv => whnf); try with_reducible apply At.mk)))
      apply q_callv
      focus (exact byNext)
      focus (exact byLo)
      focus exact whole_l
      intro h31 q31 n31
      unfold Fr.cells
      (focus ((try with_reducible apply wpC.to); (repeat' ((conv => whnf); first | refine byEv ?_ | (apply Fork.mk <;> (intro _; try (exfalso; omega))) | ((first | refine kSpanZu2 ?_ | refine kSpanZu0 ?_); first | ((first | apply q_allD | apply q_alli | apply q_allB) <;> intro _ _ _ _ <;> try contradiction) | (apply q_allv; intro _ _ _)) | refine xSpanC0 ?_ | refine xSpanB1 ?_ | refine xSpanB0 ?_ | fail)); all_goals ((conv => whnf); try with_reducible apply At.mk)))
      apply q_callB
      focus (exact byNext)
      focus (exact byLo)
      focus exact less_r k2.LB (whole_LB (by omega))
      · intro hb11 h11 q11 n11
        (focus ((try with_reducible apply wpC.to); (repeat' ((conv => whnf); first | refine byEv ?_ | (apply Fork.mk <;> (intro _; try (exfalso; omega))) | ((first | refine kSpanZu2 ?_ | refine kSpanZu0 ?_); first | ((first | apply q_allD | apply q_alli | apply q_allB) <;> intro _ _ _ _ <;> try contradiction) | (apply q_allv; intro _ _ _)) | refine xSpanC0 ?_ | refine xSpanB1 ?_ | refine xSpanB0 ?_ | fail)); all_goals ((conv => whnf); try with_reducible apply At.mk)))
        (refine byFin ?_)
        rfl
      intro hb11 h11 q11 n11
      (focus ((try with_reducible apply wpC.to); (repeat' ((conv => whnf); first | refine byEv ?_ | (apply Fork.mk <;> (intro _; try (exfalso; omega))) | ((first | refine kSpanZu2 ?_ | refine kSpanZu0 ?_); first | ((first | apply q_allD | apply q_alli | apply q_allB) <;> intro _ _ _ _ <;> try contradiction) | (apply q_allv; intro _ _ _)) | refine xSpanC0 ?_ | refine xSpanB1 ?_ | refine xSpanB0 ?_ | fail)); all_goals ((conv => whnf); try with_reducible apply At.mk)))
      have ms := more_same (v := vx2) (a := ax) lv xo lk el e3 fun t hd hf => all_fit xo k1 k2 (of_decide_eq_false hb9) (of_decide_eq_false hb11) hd hf
      exact absurd (ms.1.symm.trans ml) (by decide)
    obtain ⟨N', D', mk⟩ := lv_ok ml
    rw [ml]
    unfold Fr.cells
    (focus ((try with_reducible apply wpC.to); (repeat' ((conv => whnf); first | refine byEv ?_ | (apply Fork.mk <;> (intro _; try (exfalso; omega))) | ((first | refine kSpanZu2 ?_ | refine kSpanZu0 ?_); first | ((first | apply q_allD | apply q_alli | apply q_allB) <;> intro _ _ _ _ <;> try contradiction) | (apply q_allv; intro _ _ _)) | refine xSpanC0 ?_ | refine xSpanB1 ?_ | refine xSpanB0 ?_ | fail)); all_goals ((conv => whnf); try with_reducible apply At.mk)))
    apply q_callB
    focus (exact byNext)
    focus (exact byLo)
    focus exact less_r mk.LB lk.LB
    · intro hb; exact absurd (of_decide_eq_true hb) (lk.mono mk fun t hd hf => (more_fits.1 hf).1)
    intro hb22 h22 q22 n22
    (focus ((try with_reducible apply wpC.to); (repeat' ((conv => whnf); first | refine byEv ?_ | (apply Fork.mk <;> (intro _; try (exfalso; omega))) | ((first | refine kSpanZu2 ?_ | refine kSpanZu0 ?_); first | ((first | apply q_allD | apply q_alli | apply q_allB) <;> intro _ _ _ _ <;> try contradiction) | (apply q_allv; intro _ _ _)) | refine xSpanC0 ?_ | refine xSpanB1 ?_ | refine xSpanB0 ?_ | fail)); all_goals ((conv => whnf); try with_reducible apply At.mk)))
    apply q_callv
    focus (exact byNext)
    focus (exact byLo)
    focus exact least_w (L := L) (m := m) (p := x.p) (q := x.q) byOm (hL.same bySame (Nat.le_refl _))
    intro h7 q7 n7
    rcases two with ⟨l1, l2⟩ | ⟨l1, l2⟩
    · rw [l1]
      unfold Fr.cells
      (focus ((try with_reducible apply wpC.to); (repeat' ((conv => whnf); first | refine byEv ?_ | (apply Fork.mk <;> (intro _; try (exfalso; omega))) | ((first | refine kSpanZu2 ?_ | refine kSpanZu0 ?_); first | ((first | apply q_allD | apply q_alli | apply q_allB) <;> intro _ _ _ _ <;> try contradiction) | (apply q_allv; intro _ _ _)) | refine xSpanC0 ?_ | refine xSpanB1 ?_ | refine xSpanB0 ?_ | fail)); all_goals ((conv => whnf); try with_reducible apply At.mk)))
      apply q_callv
      focus (exact byNext)
      focus (exact byLo)
      focus exact least_w (L := L) (m := m) (p := -x.p) (q := -x.q) byOm (hL.same bySame (Nat.le_refl _))
      intro h8 q8 n8
      rw [l2]
      unfold Fr.cells
      (focus ((try with_reducible apply wpC.to); (repeat' ((conv => whnf); first | refine byEv ?_ | (apply Fork.mk <;> (intro _; try (exfalso; omega))) | ((first | refine kSpanZu2 ?_ | refine kSpanZu0 ?_); first | ((first | apply q_allD | apply q_alli | apply q_allB) <;> intro _ _ _ _ <;> try contradiction) | (apply q_allv; intro _ _ _)) | refine xSpanC0 ?_ | refine xSpanB1 ?_ | refine xSpanB0 ?_ | fail)); all_goals ((conv => whnf); try with_reducible apply At.mk)))
      (refine byFin ?_)
      rfl
    obtain ⟨N1, D1, k1⟩ := lv_ok l1
    obtain ⟨N2, D2, k2⟩ := lv_ok l2
    rw [l1]
    unfold Fr.cells
    (focus ((try with_reducible apply wpC.to); (repeat' ((conv => whnf); first | refine byEv ?_ | (apply Fork.mk <;> (intro _; try (exfalso; omega))) | ((first | refine kSpanZu2 ?_ | refine kSpanZu0 ?_); first | ((first | apply q_allD | apply q_alli | apply q_allB) <;> intro _ _ _ _ <;> try contradiction) | (apply q_allv; intro _ _ _)) | refine xSpanC0 ?_ | refine xSpanB1 ?_ | refine xSpanB0 ?_ | fail)); all_goals ((conv => whnf); try with_reducible apply At.mk)))
    apply q_callv
    focus (exact byNext)
    focus (exact byLo)
    focus exact least_w (L := L) (m := m) (p := -x.p) (q := -x.q) byOm (hL.same bySame (Nat.le_refl _))
    intro h8 q8 n8
    rw [l2]
    unfold Fr.cells
    (focus ((try with_reducible apply wpC.to); (repeat' ((conv => whnf); first | refine byEv ?_ | (apply Fork.mk <;> (intro _; try (exfalso; omega))) | ((first | refine kSpanZu2 ?_ | refine kSpanZu0 ?_); first | ((first | apply q_allD | apply q_alli | apply q_allB) <;> intro _ _ _ _ <;> try contradiction) | (apply q_allv; intro _ _ _)) | refine xSpanC0 ?_ | refine xSpanB1 ?_ | refine xSpanB0 ?_ | fail)); all_goals ((conv => whnf); try with_reducible apply At.mk)))
    apply q_callv
    focus (exact byNext)
    focus (exact byLo)
    focus exact whole_l
    intro h29 q29 n29
    unfold Fr.cells
    (focus ((try with_reducible apply wpC.to); (repeat' ((conv => whnf); first | refine byEv ?_ | (apply Fork.mk <;> (intro _; try (exfalso; omega))) | ((first | refine kSpanZu2 ?_ | refine kSpanZu0 ?_); first | ((first | apply q_allD | apply q_alli | apply q_allB) <;> intro _ _ _ _ <;> try contradiction) | (apply q_allv; intro _ _ _)) | refine xSpanC0 ?_ | refine xSpanB1 ?_ | refine xSpanB0 ?_ | fail)); all_goals ((conv => whnf); try with_reducible apply At.mk)))
    apply q_callB
    focus (exact byNext)
    focus (exact byLo)
    focus exact less_r k1.LB (whole_LB (by omega))
    · intro hb9 h9 q9 n9
      (focus ((try with_reducible apply wpC.to); (repeat' ((conv => whnf); first | refine byEv ?_ | (apply Fork.mk <;> (intro _; try (exfalso; omega))) | ((first | refine kSpanZu2 ?_ | refine kSpanZu0 ?_); first | ((first | apply q_allD | apply q_alli | apply q_allB) <;> intro _ _ _ _ <;> try contradiction) | (apply q_allv; intro _ _ _)) | refine xSpanC0 ?_ | refine xSpanB1 ?_ | refine xSpanB0 ?_ | fail)); all_goals ((conv => whnf); try with_reducible apply At.mk)))
      (refine byFin ?_)
      rfl
    intro hb9 h9 q9 n9
    (focus ((try with_reducible apply wpC.to); (repeat' ((conv => whnf); first | refine byEv ?_ | (apply Fork.mk <;> (intro _; try (exfalso; omega))) | ((first | refine kSpanZu2 ?_ | refine kSpanZu0 ?_); first | ((first | apply q_allD | apply q_alli | apply q_allB) <;> intro _ _ _ _ <;> try contradiction) | (apply q_allv; intro _ _ _)) | refine xSpanC0 ?_ | refine xSpanB1 ?_ | refine xSpanB0 ?_ | fail)); all_goals ((conv => whnf); try with_reducible apply At.mk)))
    apply q_callv
    focus (exact byNext)
    focus (exact byLo)
    focus exact whole_l
    intro h31 q31 n31
    unfold Fr.cells
    (focus ((try with_reducible apply wpC.to); (repeat' ((conv => whnf); first | refine byEv ?_ | (apply Fork.mk <;> (intro _; try (exfalso; omega))) | ((first | refine kSpanZu2 ?_ | refine kSpanZu0 ?_); first | ((first | apply q_allD | apply q_alli | apply q_allB) <;> intro _ _ _ _ <;> try contradiction) | (apply q_allv; intro _ _ _)) | refine xSpanC0 ?_ | refine xSpanB1 ?_ | refine xSpanB0 ?_ | fail)); all_goals ((conv => whnf); try with_reducible apply At.mk)))
    apply q_callB
    focus (exact byNext)
    focus (exact byLo)
    focus exact less_r k2.LB (whole_LB (by omega))
    · intro hb11 h11 q11 n11
      (focus ((try with_reducible apply wpC.to); (repeat' ((conv => whnf); first | refine byEv ?_ | (apply Fork.mk <;> (intro _; try (exfalso; omega))) | ((first | refine kSpanZu2 ?_ | refine kSpanZu0 ?_); first | ((first | apply q_allD | apply q_alli | apply q_allB) <;> intro _ _ _ _ <;> try contradiction) | (apply q_allv; intro _ _ _)) | refine xSpanC0 ?_ | refine xSpanB1 ?_ | refine xSpanB0 ?_ | fail)); all_goals ((conv => whnf); try with_reducible apply At.mk)))
      (refine byFin ?_)
      rfl
    intro hb11 h11 q11 n11
    (focus ((try with_reducible apply wpC.to); (repeat' ((conv => whnf); first | refine byEv ?_ | (apply Fork.mk <;> (intro _; try (exfalso; omega))) | ((first | refine kSpanZu2 ?_ | refine kSpanZu0 ?_); first | ((first | apply q_allD | apply q_alli | apply q_allB) <;> intro _ _ _ _ <;> try contradiction) | (apply q_allv; intro _ _ _)) | refine xSpanC0 ?_ | refine xSpanB1 ?_ | refine xSpanB0 ?_ | fail)); all_goals ((conv => whnf); try with_reducible apply At.mk)))
    have ms := more_same (v := vx2) (a := ax) lv xo lk el e3 fun t hd hf => all_fit xo k1 k2 (of_decide_eq_false hb9) (of_decide_eq_false hb11) hd hf
    rw [ms.2]
    (focus ((try with_reducible apply wpC.to); (repeat' ((conv => whnf); first | refine byEv ?_ | (apply Fork.mk <;> (intro _; try (exfalso; omega))) | ((first | refine kSpanZu2 ?_ | refine kSpanZu0 ?_); first | ((first | apply q_allD | apply q_alli | apply q_allB) <;> intro _ _ _ _ <;> try contradiction) | (apply q_allv; intro _ _ _)) | refine xSpanC0 ?_ | refine xSpanB1 ?_ | refine xSpanB0 ?_ | fail)); all_goals ((conv => whnf); try with_reducible apply At.mk)))
    refine OpE.pure (.bool true) (xPure_eql (A := ⟨(L.lval p q).cells⟩) (B := ⟨(L.lval p q).cells⟩) rfl rfl rfl rfl rfl (by kernel_rfl) (same_fr _)) ?_
    (focus ((try with_reducible apply wpC.to); (repeat' ((conv => whnf); first | refine byEv ?_ | (apply Fork.mk <;> (intro _; try (exfalso; omega))) | ((first | refine kSpanZu2 ?_ | refine kSpanZu0 ?_); first | ((first | apply q_allD | apply q_alli | apply q_allB) <;> intro _ _ _ _ <;> try contradiction) | (apply q_allv; intro _ _ _)) | refine xSpanC0 ?_ | refine xSpanB1 ?_ | refine xSpanB0 ?_ | fail)); all_goals ((conv => whnf); try with_reducible apply At.mk)))
    (refine byFin ?_)
    rfl
  · obtain ⟨N', D', yk⟩ := lv_ok yl
    rw [yl]
    unfold Fr.cells
    (focus ((try with_reducible apply wpC.to); (repeat' ((conv => whnf); first | refine byEv ?_ | (apply Fork.mk <;> (intro _; try (exfalso; omega))) | ((first | refine kSpanZu2 ?_ | refine kSpanZu0 ?_); first | ((first | apply q_allD | apply q_alli | apply q_allB) <;> intro _ _ _ _ <;> try contradiction) | (apply q_allv; intro _ _ _)) | refine xSpanC0 ?_ | refine xSpanB1 ?_ | refine xSpanB0 ?_ | fail)); all_goals ((conv => whnf); try with_reducible apply At.mk)))
    apply q_callB
    focus (exact byNext)
    focus (exact byLo)
    focus exact less_r yk.LB lk.LB
    · intro hb h4 q4 n4; exact absurd (of_decide_eq_true hb) (lk.mono yk yf)
    intro hb4 h4 q4 n4
    (focus ((try with_reducible apply wpC.to); (repeat' ((conv => whnf); first | refine byEv ?_ | (apply Fork.mk <;> (intro _; try (exfalso; omega))) | ((first | refine kSpanZu2 ?_ | refine kSpanZu0 ?_); first | ((first | apply q_allD | apply q_alli | apply q_allB) <;> intro _ _ _ _ <;> try contradiction) | (apply q_allv; intro _ _ _)) | refine xSpanC0 ?_ | refine xSpanB1 ?_ | refine xSpanB0 ?_ | fail)); all_goals ((conv => whnf); try with_reducible apply At.mk)))
    apply q_appF (b := (h4.next + 2)) (n := 0) (m := L.n) (cs := []) (nc := rowsOf (fun i => (L.f i).cells) L.n)
    case hsv => exact rfl
    case G => exact ⟨rfl, .inr ⟨_, rfl, by unfold far; omega, .inl ⟨rfl, rfl⟩, loadN_cells byGet rfl⟩⟩
    case C => exact hCf _ bySame
    case hm => omega
    case hb => omega
    case hsm => omega
    intro vx rowx Gx
    rw [List.nil_append, Nat.zero_add] at Gx
    rw [Nat.zero_add]
    (focus ((try with_reducible apply wpC.to); (repeat' ((conv => whnf); first | refine byEv ?_ | (apply Fork.mk <;> (intro _; try (exfalso; omega))) | ((first | refine kSpanZu2 ?_ | refine kSpanZu0 ?_); first | ((first | apply q_allD | apply q_alli | apply q_allB) <;> intro _ _ _ _ <;> try contradiction) | (apply q_allv; intro _ _ _)) | refine xSpanC0 ?_ | refine xSpanB1 ?_ | refine xSpanB0 ?_ | fail)); all_goals ((conv => whnf); try with_reducible apply At.mk)))
    apply q_appG (b := (h4.next + 2)) (N := (h4.next + 2) + 1) (n := L.n) (m := 1) (nc := x.cells)
    case hsv => exact rfl
    case G => exact Gx.frame (Nat.le_refl _) fun j hj1 hj2 => get_of fun y hy => by (exact byGet)
    case C => exact Cells.one (by unfold Run.cells; (exact byMem)) (by unfold far; omega) rfl rfl
    case hm => omega
    case hlo => omega
    case hb => omega
    case hN => omega
    case hsm => omega
    intro vx2 jx rowx2 hjx1 hjx2 hjx3 Gx2
    (focus ((try with_reducible apply wpC.to); (repeat' ((conv => whnf); first | refine byEv ?_ | (apply Fork.mk <;> (intro _; try (exfalso; omega))) | ((first | refine kSpanZu2 ?_ | refine kSpanZu0 ?_); first | ((first | apply q_allD | apply q_alli | apply q_allB) <;> intro _ _ _ _ <;> try contradiction) | (apply q_allv; intro _ _ _)) | refine xSpanC0 ?_ | refine xSpanB1 ?_ | refine xSpanB0 ?_ | fail)); all_goals ((conv => whnf); try with_reducible apply At.mk)))
    apply callF_gen
    intro hc ehc
    have gx : hc.get h.next = some (.cells [.int .i64 x.p, .int .i64 x.q, .int .i64 x.lo, .int .i64 x.hi] 56) := by rw [ehc]; (exact byGet)
    have g13 : hc.get (h1.next + 7) = some (.cells [.int .i64 (L.lval p q).n, .int .i64 (L.lval p q).d] 38) := by rw [ehc]; (exact byGet)
    have hcs : Same m h hc := by rw [ehc]; (exact bySame)
    have hcn : h2.next + 7 ≤ hc.next := by rw [ehc]; (exact byOm)
    obtain ⟨ax, hMo, hM1, hM2⟩ := more_ok (L := L) (x := x) Gx2 (by omega)
    have hMo : (L.more x vx2 ax).Ok hc.next hc := hMo.fr (fun _ => hM1) (by rw [ehc]; (exact byOm)) fun r hr1 hr2 => get_of fun y hy => by rw [ehc]; (exact byGet)
    clear ehc Gx Gx2
    apply q_callB
    focus (exact byNext)
    focus (exact byLo)
    focus exact fine_l (L := L.more x vx2 ax) (m := hc.next) byOm (hMo.same bySame (Nat.le_refl _))
    rotate_left
    · intro hb5 h5 q5 n5
      (focus ((try with_reducible apply wpC.to); (repeat' ((conv => whnf); first | refine byEv ?_ | (apply Fork.mk <;> (intro _; try (exfalso; omega))) | ((first | refine kSpanZu2 ?_ | refine kSpanZu0 ?_); first | ((first | apply q_allD | apply q_alli | apply q_allB) <;> intro _ _ _ _ <;> try contradiction) | (apply q_allv; intro _ _ _)) | refine xSpanC0 ?_ | refine xSpanB1 ?_ | refine xSpanB0 ?_ | fail)); all_goals ((conv => whnf); try with_reducible apply At.mk)))
      (refine byFin ?_)
      rfl
    intro hb5 h5 q5 n5
    have e3 := of_decide_eq_true hb5
    have mv := (Runs.err_0 (Runs.err2_0 e3).1).2
    have xo := more_x mv
    obtain ⟨⟨x1, x2⟩, ⟨x3, x4⟩, x5, x6, x7, x8⟩ := id xo
    have e4 : L.err2 x.p x.q = 0 := Runs.err2_of e1 ⟨⟨x1, x2⟩, x3, x4⟩
    have e5 : L.err2 (-x.p) (-x.q) = 0 := Runs.err2_of e1 (fac_neg ⟨⟨x1, x2⟩, x3, x4⟩)
    have two : (L.lerr x.p x.q = 5 ∧ L.lerr (-x.p) (-x.q) = 5) ∨ (L.lerr x.p x.q = 0 ∧ L.lerr (-x.p) (-x.q) = 0) := by
      by_cases bx : L.Bnd x.p x.q
      · exact .inr ⟨Runs.lerr_ok e4 cl bx, Runs.lerr_ok e5 cl (bnd_negI lv bx)⟩
      · exact .inl ⟨Runs.lerr_5 e4 cl bx, Runs.lerr_5 e5 cl fun k => bx (by have := bnd_negI lv k; rw [Int.neg_neg, Int.neg_neg] at this; exact this)⟩
    (focus ((try with_reducible apply wpC.to); (repeat' ((conv => whnf); first | refine byEv ?_ | (apply Fork.mk <;> (intro _; try (exfalso; omega))) | ((first | refine kSpanZu2 ?_ | refine kSpanZu0 ?_); first | ((first | apply q_allD | apply q_alli | apply q_allB) <;> intro _ _ _ _ <;> try contradiction) | (apply q_allv; intro _ _ _)) | refine xSpanC0 ?_ | refine xSpanB1 ?_ | refine xSpanB0 ?_ | fail)); all_goals ((conv => whnf); try with_reducible apply At.mk)))
    apply q_callv
    focus (exact byNext)
    focus (exact byLo)
    focus exact least_w (L := L.more x vx2 ax) (m := hc.next) (p := p) (q := q) byOm (hMo.same bySame (Nat.le_refl _))
    intro h6 q6 n6
    rcases more_lerr lv el e3 with ml | ml
    · rw [ml]
      unfold Fr.cells
      (focus ((try with_reducible apply wpC.to); (repeat' ((conv => whnf); first | refine byEv ?_ | (apply Fork.mk <;> (intro _; try (exfalso; omega))) | ((first | refine kSpanZu2 ?_ | refine kSpanZu0 ?_); first | ((first | apply q_allD | apply q_alli | apply q_allB) <;> intro _ _ _ _ <;> try contradiction) | (apply q_allv; intro _ _ _)) | refine xSpanC0 ?_ | refine xSpanB1 ?_ | refine xSpanB0 ?_ | fail)); all_goals ((conv => whnf); try with_reducible apply At.mk)))
      apply q_callv
      focus (exact byNext)
      focus (exact byLo)
      focus exact least_w (L := L) (m := m) (p := x.p) (q := x.q) byOm (hL.same bySame (Nat.le_refl _))
      intro h7 q7 n7
      rcases two with ⟨l1, l2⟩ | ⟨l1, l2⟩
      · rw [l1]
        unfold Fr.cells
        (focus ((try with_reducible apply wpC.to); (repeat' ((conv => whnf); first | refine byEv ?_ | (apply Fork.mk <;> (intro _; try (exfalso; omega))) | ((first | refine kSpanZu2 ?_ | refine kSpanZu0 ?_); first | ((first | apply q_allD | apply q_alli | apply q_allB) <;> intro _ _ _ _ <;> try contradiction) | (apply q_allv; intro _ _ _)) | refine xSpanC0 ?_ | refine xSpanB1 ?_ | refine xSpanB0 ?_ | fail)); all_goals ((conv => whnf); try with_reducible apply At.mk)))
        apply q_callv
        focus (exact byNext)
        focus (exact byLo)
        focus exact least_w (L := L) (m := m) (p := -x.p) (q := -x.q) byOm (hL.same bySame (Nat.le_refl _))
        intro h8 q8 n8
        rw [l2]
        unfold Fr.cells
        (focus ((try with_reducible apply wpC.to); (repeat' ((conv => whnf); first | refine byEv ?_ | (apply Fork.mk <;> (intro _; try (exfalso; omega))) | ((first | refine kSpanZu2 ?_ | refine kSpanZu0 ?_); first | ((first | apply q_allD | apply q_alli | apply q_allB) <;> intro _ _ _ _ <;> try contradiction) | (apply q_allv; intro _ _ _)) | refine xSpanC0 ?_ | refine xSpanB1 ?_ | refine xSpanB0 ?_ | fail)); all_goals ((conv => whnf); try with_reducible apply At.mk)))
        (refine byFin ?_)
        rfl
      obtain ⟨N1, D1, k1⟩ := lv_ok l1
      obtain ⟨N2, D2, k2⟩ := lv_ok l2
      rw [l1]
      unfold Fr.cells
      (focus ((try with_reducible apply wpC.to); (repeat' ((conv => whnf); first | refine byEv ?_ | (apply Fork.mk <;> (intro _; try (exfalso; omega))) | ((first | refine kSpanZu2 ?_ | refine kSpanZu0 ?_); first | ((first | apply q_allD | apply q_alli | apply q_allB) <;> intro _ _ _ _ <;> try contradiction) | (apply q_allv; intro _ _ _)) | refine xSpanC0 ?_ | refine xSpanB1 ?_ | refine xSpanB0 ?_ | fail)); all_goals ((conv => whnf); try with_reducible apply At.mk)))
      apply q_callv
      focus (exact byNext)
      focus (exact byLo)
      focus exact least_w (L := L) (m := m) (p := -x.p) (q := -x.q) byOm (hL.same bySame (Nat.le_refl _))
      intro h8 q8 n8
      rw [l2]
      unfold Fr.cells
      (focus ((try with_reducible apply wpC.to); (repeat' ((conv => whnf); first | refine byEv ?_ | (apply Fork.mk <;> (intro _; try (exfalso; omega))) | ((first | refine kSpanZu2 ?_ | refine kSpanZu0 ?_); first | ((first | apply q_allD | apply q_alli | apply q_allB) <;> intro _ _ _ _ <;> try contradiction) | (apply q_allv; intro _ _ _)) | refine xSpanC0 ?_ | refine xSpanB1 ?_ | refine xSpanB0 ?_ | fail)); all_goals ((conv => whnf); try with_reducible apply At.mk)))
      apply q_callv
      focus (exact byNext)
      focus (exact byLo)
      focus exact whole_l
      intro h29 q29 n29
      unfold Fr.cells
      (focus ((try with_reducible apply wpC.to); (repeat' ((conv => whnf); first | refine byEv ?_ | (apply Fork.mk <;> (intro _; try (exfalso; omega))) | ((first | refine kSpanZu2 ?_ | refine kSpanZu0 ?_); first | ((first | apply q_allD | apply q_alli | apply q_allB) <;> intro _ _ _ _ <;> try contradiction) | (apply q_allv; intro _ _ _)) | refine xSpanC0 ?_ | refine xSpanB1 ?_ | refine xSpanB0 ?_ | fail)); all_goals ((conv => whnf); try with_reducible apply At.mk)))
      apply q_callB
      focus (exact byNext)
      focus (exact byLo)
      focus exact less_r k1.LB (whole_LB (by omega))
      · intro hb9 h9 q9 n9
        (focus ((try with_reducible apply wpC.to); (repeat' ((conv => whnf); first | refine byEv ?_ | (apply Fork.mk <;> (intro _; try (exfalso; omega))) | ((first | refine kSpanZu2 ?_ | refine kSpanZu0 ?_); first | ((first | apply q_allD | apply q_alli | apply q_allB) <;> intro _ _ _ _ <;> try contradiction) | (apply q_allv; intro _ _ _)) | refine xSpanC0 ?_ | refine xSpanB1 ?_ | refine xSpanB0 ?_ | fail)); all_goals ((conv => whnf); try with_reducible apply At.mk)))
        (refine byFin ?_)
        rfl
      intro hb9 h9 q9 n9
      (focus ((try with_reducible apply wpC.to); (repeat' ((conv => whnf); first | refine byEv ?_ | (apply Fork.mk <;> (intro _; try (exfalso; omega))) | ((first | refine kSpanZu2 ?_ | refine kSpanZu0 ?_); first | ((first | apply q_allD | apply q_alli | apply q_allB) <;> intro _ _ _ _ <;> try contradiction) | (apply q_allv; intro _ _ _)) | refine xSpanC0 ?_ | refine xSpanB1 ?_ | refine xSpanB0 ?_ | fail)); all_goals ((conv => whnf); try with_reducible apply At.mk)))
      apply q_callv
      focus (exact byNext)
      focus (exact byLo)
      focus exact whole_l
      intro h31 q31 n31
      unfold Fr.cells
      (focus ((try with_reducible apply wpC.to); (repeat' ((conv => whnf); first | refine byEv ?_ | (apply Fork.mk <;> (intro _; try (exfalso; omega))) | ((first | refine kSpanZu2 ?_ | refine kSpanZu0 ?_); first | ((first | apply q_allD | apply q_alli | apply q_allB) <;> intro _ _ _ _ <;> try contradiction) | (apply q_allv; intro _ _ _)) | refine xSpanC0 ?_ | refine xSpanB1 ?_ | refine xSpanB0 ?_ | fail)); all_goals ((conv => whnf); try with_reducible apply At.mk)))
      apply q_callB
      focus (exact byNext)
      focus (exact byLo)
      focus exact less_r k2.LB (whole_LB (by omega))
      · intro hb11 h11 q11 n11
        (focus ((try with_reducible apply wpC.to); (repeat' ((conv => whnf); first | refine byEv ?_ | (apply Fork.mk <;> (intro _; try (exfalso; omega))) | ((first | refine kSpanZu2 ?_ | refine kSpanZu0 ?_); first | ((first | apply q_allD | apply q_alli | apply q_allB) <;> intro _ _ _ _ <;> try contradiction) | (apply q_allv; intro _ _ _)) | refine xSpanC0 ?_ | refine xSpanB1 ?_ | refine xSpanB0 ?_ | fail)); all_goals ((conv => whnf); try with_reducible apply At.mk)))
        (refine byFin ?_)
        rfl
      intro hb11 h11 q11 n11
      (focus ((try with_reducible apply wpC.to); (repeat' ((conv => whnf); first | refine byEv ?_ | (apply Fork.mk <;> (intro _; try (exfalso; omega))) | ((first | refine kSpanZu2 ?_ | refine kSpanZu0 ?_); first | ((first | apply q_allD | apply q_alli | apply q_allB) <;> intro _ _ _ _ <;> try contradiction) | (apply q_allv; intro _ _ _)) | refine xSpanC0 ?_ | refine xSpanB1 ?_ | refine xSpanB0 ?_ | fail)); all_goals ((conv => whnf); try with_reducible apply At.mk)))
      have ms := more_same (v := vx2) (a := ax) lv xo lk el e3 fun t hd hf => all_fit xo k1 k2 (of_decide_eq_false hb9) (of_decide_eq_false hb11) hd hf
      exact absurd (ms.1.symm.trans ml) (by decide)
    obtain ⟨N', D', mk⟩ := lv_ok ml
    rw [ml]
    unfold Fr.cells
    (focus ((try with_reducible apply wpC.to); (repeat' ((conv => whnf); first | refine byEv ?_ | (apply Fork.mk <;> (intro _; try (exfalso; omega))) | ((first | refine kSpanZu2 ?_ | refine kSpanZu0 ?_); first | ((first | apply q_allD | apply q_alli | apply q_allB) <;> intro _ _ _ _ <;> try contradiction) | (apply q_allv; intro _ _ _)) | refine xSpanC0 ?_ | refine xSpanB1 ?_ | refine xSpanB0 ?_ | fail)); all_goals ((conv => whnf); try with_reducible apply At.mk)))
    apply q_callB
    focus (exact byNext)
    focus (exact byLo)
    focus exact less_r mk.LB lk.LB
    · intro hb; exact absurd (of_decide_eq_true hb) (lk.mono mk fun t hd hf => (more_fits.1 hf).1)
    intro hb22 h22 q22 n22
    (focus ((try with_reducible apply wpC.to); (repeat' ((conv => whnf); first | refine byEv ?_ | (apply Fork.mk <;> (intro _; try (exfalso; omega))) | ((first | refine kSpanZu2 ?_ | refine kSpanZu0 ?_); first | ((first | apply q_allD | apply q_alli | apply q_allB) <;> intro _ _ _ _ <;> try contradiction) | (apply q_allv; intro _ _ _)) | refine xSpanC0 ?_ | refine xSpanB1 ?_ | refine xSpanB0 ?_ | fail)); all_goals ((conv => whnf); try with_reducible apply At.mk)))
    apply q_callv
    focus (exact byNext)
    focus (exact byLo)
    focus exact least_w (L := L) (m := m) (p := x.p) (q := x.q) byOm (hL.same bySame (Nat.le_refl _))
    intro h7 q7 n7
    rcases two with ⟨l1, l2⟩ | ⟨l1, l2⟩
    · rw [l1]
      unfold Fr.cells
      (focus ((try with_reducible apply wpC.to); (repeat' ((conv => whnf); first | refine byEv ?_ | (apply Fork.mk <;> (intro _; try (exfalso; omega))) | ((first | refine kSpanZu2 ?_ | refine kSpanZu0 ?_); first | ((first | apply q_allD | apply q_alli | apply q_allB) <;> intro _ _ _ _ <;> try contradiction) | (apply q_allv; intro _ _ _)) | refine xSpanC0 ?_ | refine xSpanB1 ?_ | refine xSpanB0 ?_ | fail)); all_goals ((conv => whnf); try with_reducible apply At.mk)))
      apply q_callv
      focus (exact byNext)
      focus (exact byLo)
      focus exact least_w (L := L) (m := m) (p := -x.p) (q := -x.q) byOm (hL.same bySame (Nat.le_refl _))
      intro h8 q8 n8
      rw [l2]
      unfold Fr.cells
      (focus ((try with_reducible apply wpC.to); (repeat' ((conv => whnf); first | refine byEv ?_ | (apply Fork.mk <;> (intro _; try (exfalso; omega))) | ((first | refine kSpanZu2 ?_ | refine kSpanZu0 ?_); first | ((first | apply q_allD | apply q_alli | apply q_allB) <;> intro _ _ _ _ <;> try contradiction) | (apply q_allv; intro _ _ _)) | refine xSpanC0 ?_ | refine xSpanB1 ?_ | refine xSpanB0 ?_ | fail)); all_goals ((conv => whnf); try with_reducible apply At.mk)))
      (refine byFin ?_)
      rfl
    obtain ⟨N1, D1, k1⟩ := lv_ok l1
    obtain ⟨N2, D2, k2⟩ := lv_ok l2
    rw [l1]
    unfold Fr.cells
    (focus ((try with_reducible apply wpC.to); (repeat' ((conv => whnf); first | refine byEv ?_ | (apply Fork.mk <;> (intro _; try (exfalso; omega))) | ((first | refine kSpanZu2 ?_ | refine kSpanZu0 ?_); first | ((first | apply q_allD | apply q_alli | apply q_allB) <;> intro _ _ _ _ <;> try contradiction) | (apply q_allv; intro _ _ _)) | refine xSpanC0 ?_ | refine xSpanB1 ?_ | refine xSpanB0 ?_ | fail)); all_goals ((conv => whnf); try with_reducible apply At.mk)))
    apply q_callv
    focus (exact byNext)
    focus (exact byLo)
    focus exact least_w (L := L) (m := m) (p := -x.p) (q := -x.q) byOm (hL.same bySame (Nat.le_refl _))
    intro h8 q8 n8
    rw [l2]
    unfold Fr.cells
    (focus ((try with_reducible apply wpC.to); (repeat' ((conv => whnf); first | refine byEv ?_ | (apply Fork.mk <;> (intro _; try (exfalso; omega))) | ((first | refine kSpanZu2 ?_ | refine kSpanZu0 ?_); first | ((first | apply q_allD | apply q_alli | apply q_allB) <;> intro _ _ _ _ <;> try contradiction) | (apply q_allv; intro _ _ _)) | refine xSpanC0 ?_ | refine xSpanB1 ?_ | refine xSpanB0 ?_ | fail)); all_goals ((conv => whnf); try with_reducible apply At.mk)))
    apply q_callv
    focus (exact byNext)
    focus (exact byLo)
    focus exact whole_l
    intro h29 q29 n29
    unfold Fr.cells
    (focus ((try with_reducible apply wpC.to); (repeat' ((conv => whnf); first | refine byEv ?_ | (apply Fork.mk <;> (intro _; try (exfalso; omega))) | ((first | refine kSpanZu2 ?_ | refine kSpanZu0 ?_); first | ((first | apply q_allD | apply q_alli | apply q_allB) <;> intro _ _ _ _ <;> try contradiction) | (apply q_allv; intro _ _ _)) | refine xSpanC0 ?_ | refine xSpanB1 ?_ | refine xSpanB0 ?_ | fail)); all_goals ((conv => whnf); try with_reducible apply At.mk)))
    apply q_callB
    focus (exact byNext)
    focus (exact byLo)
    focus exact less_r k1.LB (whole_LB (by omega))
    · intro hb9 h9 q9 n9
      (focus ((try with_reducible apply wpC.to); (repeat' ((conv => whnf); first | refine byEv ?_ | (apply Fork.mk <;> (intro _; try (exfalso; omega))) | ((first | refine kSpanZu2 ?_ | refine kSpanZu0 ?_); first | ((first | apply q_allD | apply q_alli | apply q_allB) <;> intro _ _ _ _ <;> try contradiction) | (apply q_allv; intro _ _ _)) | refine xSpanC0 ?_ | refine xSpanB1 ?_ | refine xSpanB0 ?_ | fail)); all_goals ((conv => whnf); try with_reducible apply At.mk)))
      (refine byFin ?_)
      rfl
    intro hb9 h9 q9 n9
    (focus ((try with_reducible apply wpC.to); (repeat' ((conv => whnf); first | refine byEv ?_ | (apply Fork.mk <;> (intro _; try (exfalso; omega))) | ((first | refine kSpanZu2 ?_ | refine kSpanZu0 ?_); first | ((first | apply q_allD | apply q_alli | apply q_allB) <;> intro _ _ _ _ <;> try contradiction) | (apply q_allv; intro _ _ _)) | refine xSpanC0 ?_ | refine xSpanB1 ?_ | refine xSpanB0 ?_ | fail)); all_goals ((conv => whnf); try with_reducible apply At.mk)))
    apply q_callv
    focus (exact byNext)
    focus (exact byLo)
    focus exact whole_l
    intro h31 q31 n31
    unfold Fr.cells
    (focus ((try with_reducible apply wpC.to); (repeat' ((conv => whnf); first | refine byEv ?_ | (apply Fork.mk <;> (intro _; try (exfalso; omega))) | ((first | refine kSpanZu2 ?_ | refine kSpanZu0 ?_); first | ((first | apply q_allD | apply q_alli | apply q_allB) <;> intro _ _ _ _ <;> try contradiction) | (apply q_allv; intro _ _ _)) | refine xSpanC0 ?_ | refine xSpanB1 ?_ | refine xSpanB0 ?_ | fail)); all_goals ((conv => whnf); try with_reducible apply At.mk)))
    apply q_callB
    focus (exact byNext)
    focus (exact byLo)
    focus exact less_r k2.LB (whole_LB (by omega))
    · intro hb11 h11 q11 n11
      (focus ((try with_reducible apply wpC.to); (repeat' ((conv => whnf); first | refine byEv ?_ | (apply Fork.mk <;> (intro _; try (exfalso; omega))) | ((first | refine kSpanZu2 ?_ | refine kSpanZu0 ?_); first | ((first | apply q_allD | apply q_alli | apply q_allB) <;> intro _ _ _ _ <;> try contradiction) | (apply q_allv; intro _ _ _)) | refine xSpanC0 ?_ | refine xSpanB1 ?_ | refine xSpanB0 ?_ | fail)); all_goals ((conv => whnf); try with_reducible apply At.mk)))
      (refine byFin ?_)
      rfl
    intro hb11 h11 q11 n11
    (focus ((try with_reducible apply wpC.to); (repeat' ((conv => whnf); first | refine byEv ?_ | (apply Fork.mk <;> (intro _; try (exfalso; omega))) | ((first | refine kSpanZu2 ?_ | refine kSpanZu0 ?_); first | ((first | apply q_allD | apply q_alli | apply q_allB) <;> intro _ _ _ _ <;> try contradiction) | (apply q_allv; intro _ _ _)) | refine xSpanC0 ?_ | refine xSpanB1 ?_ | refine xSpanB0 ?_ | fail)); all_goals ((conv => whnf); try with_reducible apply At.mk)))
    have ms := more_same (v := vx2) (a := ax) lv xo lk el e3 fun t hd hf => all_fit xo k1 k2 (of_decide_eq_false hb9) (of_decide_eq_false hb11) hd hf
    rw [ms.2]
    (focus ((try with_reducible apply wpC.to); (repeat' ((conv => whnf); first | refine byEv ?_ | (apply Fork.mk <;> (intro _; try (exfalso; omega))) | ((first | refine kSpanZu2 ?_ | refine kSpanZu0 ?_); first | ((first | apply q_allD | apply q_alli | apply q_allB) <;> intro _ _ _ _ <;> try contradiction) | (apply q_allv; intro _ _ _)) | refine xSpanC0 ?_ | refine xSpanB1 ?_ | refine xSpanB0 ?_ | fail)); all_goals ((conv => whnf); try with_reducible apply At.mk)))
    refine OpE.pure (.bool true) (xPure_eql (A := ⟨(L.lval p q).cells⟩) (B := ⟨(L.lval p q).cells⟩) rfl rfl rfl rfl rfl (by kernel_rfl) (same_fr _)) ?_
    (focus ((try with_reducible apply wpC.to); (repeat' ((conv => whnf); first | refine byEv ?_ | (apply Fork.mk <;> (intro _; try (exfalso; omega))) | ((first | refine kSpanZu2 ?_ | refine kSpanZu0 ?_); first | ((first | apply q_allD | apply q_alli | apply q_allB) <;> intro _ _ _ _ <;> try contradiction) | (apply q_allv; intro _ _ _)) | refine xSpanC0 ?_ | refine xSpanB1 ?_ | refine xSpanB0 ?_ | fail)); all_goals ((conv => whnf); try with_reducible apply At.mk)))
    (refine byFin ?_)
    rfl
end AE.Try
