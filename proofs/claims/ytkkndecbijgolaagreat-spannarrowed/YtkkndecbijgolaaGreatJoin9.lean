/- Walks and plain laws: GSpanNf, GSpanNg. -/
import Derived.Test.YtkkndecbijgolaaGreatGSpanNe
set_option linter.unusedVariables false
set_option linter.unusedSimpArgs false
set_option linter.unusedSectionVars false

/- Walks of the laws of spans: SpanNexts. -/
namespace AE.Tryz
open Go AE Go.Proofs AE.Sp
set_option maxRecDepth 100000
set_option linter.unusedVariables false

end AE.Tryz

/- Walks of the laws of spans: SpanNarrowed. -/
namespace AE.Tryz
open Go AE Go.Proofs AE.Sp
set_option maxRecDepth 100000
set_option linter.unusedVariables false

theorem Chs.err_is (C : Chs) : C.err = 6 ∨ C.err = 2 ∨ C.err = 0 := by
  unfold Chs.err
  split
  · exact .inl rfl
  · split
    · exact .inr (.inr rfl)
    · exact .inr (.inl rfl)
theorem Nx.err_is {L : Runs} {p q : Int} {C : Chs} (e : L.err2 p q = 0) : (Nx.err L p q C = 6 ∨ Nx.err L p q C = 2 ∨ Nx.err L p q C = 20 ∨ Nx.err L p q C = 5) ∨ (Nx.err L p q C = 0 ∧ C.err = 0 ∧ L.Cl ∧ (∀ i, i < C.n → BnW L p q C i (C.w i)) ∧ ∃ o, BSt L p q C C.n (some o)) := by
  by_cases h2 : C.err = 0
  rotate_left
  · rw [Nx.e2 e h2]
    rcases C.err_is with h | h | h
    · exact .inl (.inl h)
    · exact .inl (.inr (.inl h))
    · exact absurd h h2
  by_cases h3 : L.Cl
  rotate_left
  · exact .inl (.inr (.inr (.inl (Nx.e3 e h2 h3))))
  by_cases h4 : (∀ i, i < C.n → BnW L p q C i (C.w i)) ∧ ∃ o, BSt L p q C C.n (some o)
  · exact .inr ⟨Nx.e5 e h2 h3 h4, h2, h3, h4⟩
  · exact .inl (.inr (.inr (.inr (Nx.e4 e h2 h3 h4))))
theorem wide_plus {L : Runs} {x : Run} {p q : Int} (lv : L.Val) (hx : x.Ok) (c : L.Cl) (b : L.Bnd p q) (c' : (L.plus x).Cl) (b' : (L.plus x).Bnd p q) (fac : Fac p q) : ¬ flt (L.wide p q) ((L.plus x).wide p q) :=
  wide_le lv (L.plus_val lv hx) c c' b b' fac fun t _ h => (Runs.plus_fits.1 h).1

open Classical in
set_option maxHeartbeats 16000000 in
theorem narrowed_law {h : H} {L : Runs} {C : Chs} {m : Nat} {p q wh : Int} (hm : m ≤ h.next) (hL : L.Ok m h) (hS : SlC L.b L.a L.n L.c m h) (hC : C.Ok m h) (hw : 0 ≤ wh ∧ wh < 256) :
    AW Tryz.prog 4 h.next h [.slice L.b L.n L.c, .int .i64 p, .int .i64 q, .slice C.b C.n C.c, .int .u8 wh] (fun v _ => v = .bool true) := by
  have ll := hL.l
  have cl0 := hC.l
  have cb := hC.e
  refine fun4.call rfl (Nat.le_refl _) ?_
  unfold a4
  by_cases e2 : L.err2 p q ≠ 0
  · (focus ((try with_reducible apply wpC.to); (repeat' ((conv => whnf); first | refine byEv ?_ | (apply Fork.mk <;> (intro _; try (exfalso; omega))) | ((first | refine kGSpanZu2 ?_ | refine kGSpanZu0 ?_ | refine kGSpanB4 ?_); first | ((first | apply q_allD | apply q_alli | apply q_allB) <;> intro _ _ _ _ <;> try contradiction) | (apply q_allv; intro _ _ _)) | refine xGSpanNd0 ?_ | fail)); all_goals ((conv => whnf); try with_reducible apply At.mk)))
    (refine byFin ?_)
    rfl
  have e2 : L.err2 p q = 0 := by omega
  obtain ⟨e1, fac⟩ := Runs.err2_0 e2
  obtain ⟨ln, lv⟩ := L.err_0 e1
  (focus ((try with_reducible apply wpC.to); (repeat' ((conv => whnf); first | refine byEv ?_ | (apply Fork.mk <;> (intro _; try (exfalso; omega))) | ((first | refine kGSpanZu2 ?_ | refine kGSpanZu0 ?_ | refine kGSpanB4 ?_); first | ((first | apply q_allD | apply q_alli | apply q_allB) <;> intro _ _ _ _ <;> try contradiction) | (apply q_allv; intro _ _ _)) | refine xGSpanNd0 ?_ | fail)); all_goals ((conv => whnf); try with_reducible apply At.mk)))
  · (refine byFin ?_)
    rfl
  rename_i h1 q1 n1 f1 f2
  apply q_callv
  focus (exact byNext)
  focus (exact byLo)
  focus exact next_w (L := L) (C := C) (m := m) (p := p) (q := q) byOm (hL.same bySame (Nat.le_refl _)) (hS.same bySame (Nat.le_refl _)) (hC.same bySame (Nat.le_refl _))
  intro h2 q2 n2
  rcases Nx.err_is (C := C) e2 with (ee | ee | ee | ee) | ⟨ee, ce, cl, bn, ⟨i, x⟩, bs⟩
  · rw [ee]; unfold Fr.cells; (focus ((try with_reducible apply wpC.to); (repeat' ((conv => whnf); first | refine byEv ?_ | (apply Fork.mk <;> (intro _; try (exfalso; omega))) | ((first | refine kGSpanZu2 ?_ | refine kGSpanZu0 ?_ | refine kGSpanB4 ?_); first | ((first | apply q_allD | apply q_alli | apply q_allB) <;> intro _ _ _ _ <;> try contradiction) | (apply q_allv; intro _ _ _)) | refine xGSpanNd0 ?_ | fail)); all_goals ((conv => whnf); try with_reducible apply At.mk))); (refine byFin ?_); rfl
  · rw [ee]; unfold Fr.cells; (focus ((try with_reducible apply wpC.to); (repeat' ((conv => whnf); first | refine byEv ?_ | (apply Fork.mk <;> (intro _; try (exfalso; omega))) | ((first | refine kGSpanZu2 ?_ | refine kGSpanZu0 ?_ | refine kGSpanB4 ?_); first | ((first | apply q_allD | apply q_alli | apply q_allB) <;> intro _ _ _ _ <;> try contradiction) | (apply q_allv; intro _ _ _)) | refine xGSpanNd0 ?_ | fail)); all_goals ((conv => whnf); try with_reducible apply At.mk))); (refine byFin ?_); rfl
  · rw [ee]; unfold Fr.cells; (focus ((try with_reducible apply wpC.to); (repeat' ((conv => whnf); first | refine byEv ?_ | (apply Fork.mk <;> (intro _; try (exfalso; omega))) | ((first | refine kGSpanZu2 ?_ | refine kGSpanZu0 ?_ | refine kGSpanB4 ?_); first | ((first | apply q_allD | apply q_alli | apply q_allB) <;> intro _ _ _ _ <;> try contradiction) | (apply q_allv; intro _ _ _)) | refine xGSpanNd0 ?_ | fail)); all_goals ((conv => whnf); try with_reducible apply At.mk))); (refine byFin ?_); rfl
  · rw [ee]; unfold Fr.cells; (focus ((try with_reducible apply wpC.to); (repeat' ((conv => whnf); first | refine byEv ?_ | (apply Fork.mk <;> (intro _; try (exfalso; omega))) | ((first | refine kGSpanZu2 ?_ | refine kGSpanZu0 ?_ | refine kGSpanB4 ?_); first | ((first | apply q_allD | apply q_alli | apply q_allB) <;> intro _ _ _ _ <;> try contradiction) | (apply q_allv; intro _ _ _)) | refine xGSpanNd0 ?_ | fail)); all_goals ((conv => whnf); try with_reducible apply At.mk))); (refine byFin ?_); rfl
  have cn : ¬ (C.n < 1 ∨ 8 < C.n) := fun k => by rw [Chs.err_6 k] at ce; exact absurd ce (by decide)
  have gs : ∀ i, i < C.n → C.Good i := Classical.byContradiction fun k => by rw [Chs.err_2 cn k] at ce; exact absurd ce (by decide)
  have okk : ∀ i, i < C.n → ∀ k, Nx.cl L C i k → k < C.w i → WideOk (Nx.wd L p q C i k) := fun i hi k hc hk => wide_ok (L.plus_val lv ((gs i hi).2 k hk)) hc (bn i hi k hk hc) fac
  obtain ⟨⟨hin, iw⟩, -⟩ := id bs
  have gi := gs i hin
  have wi := gi.1
  have xk := iw.ok (okk i hin)
  have xd := xk.d
  have xn := xk.n
  rw [ee, Nx.res_of ee bs okk]
  unfold Fr.cells
  dsimp only
  have hCf : ∀ h' : H, Same m h h' → Cells h' 4 L.n (.slice L.b L.n L.c) (rowsOf (fun i => (L.f i).cells) L.n) := fun h' s => Cells.els (hL.i.same s hL.r) hL.e (fun h0 => (hS.1 h0).2.2.2.1) (fun _ => rfl) (fun _ => rfl)
  have hC1 : C.Ok m h2 := hC.same bySame (Nat.le_refl _)
  obtain ⟨de, di, dr, dl', dee, dei, der, del⟩ := id hC1
  unfold Chs.cells at di
  have dr' := dr (by omega)
  have dei' := dei i hin
  have der' := der i hin (by omega)
  have dee' := dee i hin
  have del' := del i hin
  unfold Chs.rg at dei'
  have hk : 0 ≤ wh % C.w i ∧ wh % C.w i < C.w i := ⟨Int.emod_nonneg _ (by omega), Int.emod_lt_of_pos _ (by omega)⟩
  obtain ⟨k, hke, hkw⟩ : ∃ k : Nat, (wh % C.w i).toNat = k ∧ k < C.w i := ⟨_, rfl, by omega⟩
  have xo : (C.run i k).Ok := gi.2 k hkw
  (focus ((try with_reducible apply wpC.to); (repeat' ((conv => whnf); first | refine byEv ?_ | (apply Fork.mk <;> (intro _; try (exfalso; omega))) | ((first | refine kGSpanZu2 ?_ | refine kGSpanZu0 ?_ | refine kGSpanB4 ?_); first | ((first | apply q_allD | apply q_alli | apply q_allB) <;> intro _ _ _ _ <;> try contradiction) | (apply q_allv; intro _ _ _)) | refine xGSpanNd0 ?_ | fail)); all_goals ((conv => whnf); try with_reducible apply At.mk)))
  apply q_callB
  focus (exact byNext)
  focus (exact byLo)
  focus exact doubted_r (L := L) (m := m) byOm (hL.same bySame (Nat.le_refl _)) (by omega) lv
  · intro hb; exact absurd cl (of_decide_eq_true hb)
  intro hb3 h3 q3 n3
  (focus ((try with_reducible apply wpC.to); (repeat' ((conv => whnf); first | refine byEv ?_ | (apply Fork.mk <;> (intro _; try (exfalso; omega))) | ((first | refine kGSpanZu2 ?_ | refine kGSpanZu0 ?_ | refine kGSpanB4 ?_); first | ((first | apply q_allD | apply q_alli | apply q_allB) <;> intro _ _ _ _ <;> try contradiction) | (apply q_allv; intro _ _ _)) | refine xGSpanNd0 ?_ | fail)); all_goals ((conv => whnf); try with_reducible apply At.mk)))
  apply q_callv
  focus (exact byNext)
  focus (exact byLo)
  focus exact least_w (L := L) (m := m) (p := p) (q := q) byOm (hL.same bySame (Nat.le_refl _))
  intro h4 q4 n4
  have two : L.lerr p q = 5 ∨ (L.lerr p q = 0 ∧ L.Bnd p q) := by
    rcases lerr_is e2 with ⟨c, -⟩ | ⟨-, -, l⟩ | ⟨-, b, l⟩
    · exact absurd cl c
    · exact .inl l
    · exact .inr ⟨l, b⟩
  unfold Fr.cells
  (focus ((try with_reducible apply wpC.to); (repeat' ((conv => whnf); first | refine byEv ?_ | (apply Fork.mk <;> (intro _; try (exfalso; omega))) | ((first | refine kGSpanZu2 ?_ | refine kGSpanZu0 ?_ | refine kGSpanB4 ?_); first | ((first | apply q_allD | apply q_alli | apply q_allB) <;> intro _ _ _ _ <;> try contradiction) | (apply q_allv; intro _ _ _)) | refine xGSpanNd0 ?_ | fail)); all_goals ((conv => whnf); try with_reducible apply At.mk)))
  apply q_callv
  focus (exact byNext)
  focus (exact byLo)
  focus exact error_r (L := L) (m := m) (p := p) (q := q) byOm (hL.same bySame (Nat.le_refl _))
  intro h5 q5 n5
  rcases two with l5 | ⟨l0, bd⟩
  rw [l5]
  (focus ((try with_reducible apply wpC.to); (repeat' ((conv => whnf); first | refine byEv ?_ | (apply Fork.mk <;> (intro _; try (exfalso; omega))) | ((first | refine kGSpanZu2 ?_ | refine kGSpanZu0 ?_ | refine kGSpanB4 ?_); first | ((first | apply q_allD | apply q_alli | apply q_allB) <;> intro _ _ _ _ <;> try contradiction) | (apply q_allv; intro _ _ _)) | refine xGSpanNd0 ?_ | fail)); all_goals ((conv => whnf); try with_reducible apply At.mk)))
  rcases Nat.eq_zero_or_pos L.n with h0 | h0
  rw [hke]
  apply q_app0 (n := 0) (c := 0) (b := some ⟨h5.next+18, 0, none⟩)
  case hs => exact rfl
  case hx => show some L.n = some 0; rw [h0]
  (focus ((try with_reducible apply wpC.to); (repeat' ((conv => whnf); first | refine byEv ?_ | (apply Fork.mk <;> (intro _; try (exfalso; omega))) | ((first | refine kGSpanZu2 ?_ | refine kGSpanZu0 ?_ | refine kGSpanB4 ?_); first | ((first | apply q_allD | apply q_alli | apply q_allB) <;> intro _ _ _ _ <;> try contradiction) | (apply q_allv; intro _ _ _)) | refine xGSpanNd0 ?_ | fail)); all_goals ((conv => whnf); try with_reducible apply At.mk)))
  apply q_appF (b := h5.next+20) (n := 0) (m := 1) (cs := []) (nc := (C.run i k).cells)
  case hsv => exact rfl
  case G => exact ⟨rfl, .inr ⟨_, rfl, by unfold far; omega, .inl ⟨rfl, rfl⟩, loadN_cells byGet rfl⟩⟩
  case C => exact Cells.one (by unfold Run.cells Chs.run; (exact byMem)) (by unfold far; omega) rfl rfl
  case hm => omega
  case hb => omega
  case hsm => omega
  intro vx2 rowx Gx
  have e7 : ([] : List Value) ++ (C.run i k).cells = rowsOf (fun i => (L.f i).cells) L.n ++ (C.run i k).cells := by rw [h0]; rfl
  rw [e7, show 0 + 1 = L.n + 1 by omega] at Gx
  have Gx2 := Gx
  rw [show Value.slice vx2 (0 + 1) 0 = .slice vx2 (L.n + 1) 0 by rw [h0]]
  rotate_left
  rw [hke]
  apply q_appF (b := h5.next+20) (n := 0) (m := L.n) (cs := []) (nc := rowsOf (fun i => (L.f i).cells) L.n)
  case hsv => exact rfl
  case G => exact ⟨rfl, .inr ⟨_, rfl, by unfold far; omega, .inl ⟨rfl, rfl⟩, loadN_cells byGet rfl⟩⟩
  case C => exact hCf _ bySame
  case hm => omega
  case hb => omega
  case hsm => omega
  intro vx rowx Gx
  rw [List.nil_append, Nat.zero_add] at Gx
  rw [Nat.zero_add]
  (focus ((try with_reducible apply wpC.to); (repeat' ((conv => whnf); first | refine byEv ?_ | (apply Fork.mk <;> (intro _; try (exfalso; omega))) | ((first | refine kGSpanZu2 ?_ | refine kGSpanZu0 ?_ | refine kGSpanB4 ?_); first | ((first | apply q_allD | apply q_alli | apply q_allB) <;> intro _ _ _ _ <;> try contradiction) | (apply q_allv; intro _ _ _)) | refine xGSpanNd0 ?_ | fail)); all_goals ((conv => whnf); try with_reducible apply At.mk)))
  apply q_appG (b := h5.next+20) (N := h5.next+20 + 1) (n := L.n) (m := 1) (nc := (C.run i k).cells)
  case hsv => exact rfl
  case G => exact Gx.frame (Nat.le_refl _) fun j hj1 hj2 => get_of fun y hy => by (exact byGet)
  case C => exact Cells.one (by unfold Run.cells Chs.run; (exact byMem)) (by unfold far; omega) rfl rfl
  case hm => omega
  case hlo => omega
  case hb => omega
  case hN => omega
  case hsm => omega
  intro vx2 jx rowx2 hjx1 hjx2 hjx3 Gx2
  rotate_left
  rw [l0]
  (focus ((try with_reducible apply wpC.to); (repeat' ((conv => whnf); first | refine byEv ?_ | (apply Fork.mk <;> (intro _; try (exfalso; omega))) | ((first | refine kGSpanZu2 ?_ | refine kGSpanZu0 ?_ | refine kGSpanB4 ?_); first | ((first | apply q_allD | apply q_alli | apply q_allB) <;> intro _ _ _ _ <;> try contradiction) | (apply q_allv; intro _ _ _)) | refine xGSpanNd0 ?_ | fail)); all_goals ((conv => whnf); try with_reducible apply At.mk)))
  apply q_callv
  focus (exact byNext)
  focus (exact byLo)
  focus exact span_r (L := L) (m := m) (p := p) (q := q) byOm (hL.same bySame (Nat.le_refl _)) l0
  intro h6 q6 n6
  unfold Fr.cells
  (focus ((try with_reducible apply wpC.to); (repeat' ((conv => whnf); first | refine byEv ?_ | (apply Fork.mk <;> (intro _; try (exfalso; omega))) | ((first | refine kGSpanZu2 ?_ | refine kGSpanZu0 ?_ | refine kGSpanB4 ?_); first | ((first | apply q_allD | apply q_alli | apply q_allB) <;> intro _ _ _ _ <;> try contradiction) | (apply q_allv; intro _ _ _)) | refine xGSpanNd0 ?_ | fail)); all_goals ((conv => whnf); try with_reducible apply At.mk)))
  apply q_callB
  focus (exact byNext)
  focus (exact byLo)
  focus exact less_r (wide_ok lv cl bd fac).LB xk.LB
  · intro hb
    obtain ⟨⟨k0, hk0, c0, rfl⟩, -⟩ := iw
    exact absurd (of_decide_eq_true hb) (wide_plus lv (gi.2 k0 hk0) cl bd c0 (bn i hin k0 hk0 c0) fac)
  intro hb7 h7 q7 n7
  (focus ((try with_reducible apply wpC.to); (repeat' ((conv => whnf); first | refine byEv ?_ | (apply Fork.mk <;> (intro _; try (exfalso; omega))) | ((first | refine kGSpanZu2 ?_ | refine kGSpanZu0 ?_ | refine kGSpanB4 ?_); first | ((first | apply q_allD | apply q_alli | apply q_allB) <;> intro _ _ _ _ <;> try contradiction) | (apply q_allv; intro _ _ _)) | refine xGSpanNd0 ?_ | fail)); all_goals ((conv => whnf); try with_reducible apply At.mk)))
  rcases Nat.eq_zero_or_pos L.n with h0 | h0
  rw [hke]
  apply q_app0 (n := 0) (c := 0) (b := some ⟨h7.next+18, 0, none⟩)
  case hs => exact rfl
  case hx => show some L.n = some 0; rw [h0]
  (focus ((try with_reducible apply wpC.to); (repeat' ((conv => whnf); first | refine byEv ?_ | (apply Fork.mk <;> (intro _; try (exfalso; omega))) | ((first | refine kGSpanZu2 ?_ | refine kGSpanZu0 ?_ | refine kGSpanB4 ?_); first | ((first | apply q_allD | apply q_alli | apply q_allB) <;> intro _ _ _ _ <;> try contradiction) | (apply q_allv; intro _ _ _)) | refine xGSpanNd0 ?_ | fail)); all_goals ((conv => whnf); try with_reducible apply At.mk)))
  apply q_appF (b := h7.next+20) (n := 0) (m := 1) (cs := []) (nc := (C.run i k).cells)
  case hsv => exact rfl
  case G => exact ⟨rfl, .inr ⟨_, rfl, by unfold far; omega, .inl ⟨rfl, rfl⟩, loadN_cells byGet rfl⟩⟩
  case C => exact Cells.one (by unfold Run.cells Chs.run; (exact byMem)) (by unfold far; omega) rfl rfl
  case hm => omega
  case hb => omega
  case hsm => omega
  intro vx2 rowx Gx
  have e7 : ([] : List Value) ++ (C.run i k).cells = rowsOf (fun i => (L.f i).cells) L.n ++ (C.run i k).cells := by rw [h0]; rfl
  rw [e7, show 0 + 1 = L.n + 1 by omega] at Gx
  have Gx2 := Gx
  rw [show Value.slice vx2 (0 + 1) 0 = .slice vx2 (L.n + 1) 0 by rw [h0]]
  rotate_left
  rw [hke]
  apply q_appF (b := h7.next+20) (n := 0) (m := L.n) (cs := []) (nc := rowsOf (fun i => (L.f i).cells) L.n)
  case hsv => exact rfl
  case G => exact ⟨rfl, .inr ⟨_, rfl, by unfold far; omega, .inl ⟨rfl, rfl⟩, loadN_cells byGet rfl⟩⟩
  case C => exact hCf _ bySame
  case hm => omega
  case hb => omega
  case hsm => omega
  intro vx rowx Gx
  rw [List.nil_append, Nat.zero_add] at Gx
  rw [Nat.zero_add]
  (focus ((try with_reducible apply wpC.to); (repeat' ((conv => whnf); first | refine byEv ?_ | (apply Fork.mk <;> (intro _; try (exfalso; omega))) | ((first | refine kGSpanZu2 ?_ | refine kGSpanZu0 ?_ | refine kGSpanB4 ?_); first | ((first | apply q_allD | apply q_alli | apply q_allB) <;> intro _ _ _ _ <;> try contradiction) | (apply q_allv; intro _ _ _)) | refine xGSpanNd0 ?_ | fail)); all_goals ((conv => whnf); try with_reducible apply At.mk)))
  apply q_appG (b := h7.next+20) (N := h7.next+20 + 1) (n := L.n) (m := 1) (nc := (C.run i k).cells)
  case hsv => exact rfl
  case G => exact Gx.frame (Nat.le_refl _) fun j hj1 hj2 => get_of fun y hy => by (exact byGet)
  case C => exact Cells.one (by unfold Run.cells Chs.run; (exact byMem)) (by unfold far; omega) rfl rfl
  case hm => omega
  case hlo => omega
  case hb => omega
  case hN => omega
  case hsm => omega
  intro vx2 jx rowx2 hjx1 hjx2 hjx3 Gx2
  all_goals
    (focus ((try with_reducible apply wpC.to); (repeat' ((conv => whnf); first | refine byEv ?_ | (apply Fork.mk <;> (intro _; try (exfalso; omega))) | ((first | refine kGSpanZu2 ?_ | refine kGSpanZu0 ?_ | refine kGSpanB4 ?_); first | ((first | apply q_allD | apply q_alli | apply q_allB) <;> intro _ _ _ _ <;> try contradiction) | (apply q_allv; intro _ _ _)) | refine xGSpanNd0 ?_ | fail)); all_goals ((conv => whnf); try with_reducible apply At.mk)))
    apply callF_gen
    intro hc ehc
    have g12 : hc.get (h1.next + 9) = some (.cells [.int .i64 x.n, .int .i64 x.d] 29) := by rw [ehc]; (exact byGet)
    have hcs : Same m h hc := by rw [ehc]; (exact bySame)
    have hcn : h5.next ≤ hc.next := by rw [ehc]; (exact byOm)
    obtain ⟨ax, hMo, hM1, hM2⟩ := more_ok (L := L) (x := C.run i k) Gx2 (by omega)
    have hMo : (L.more (C.run i k) vx2 ax).Ok hc.next hc := hMo.fr (fun _ => hM1) (by rw [ehc]; (exact byOm)) fun r hr1 hr2 => get_of fun y hy => by rw [ehc]; (exact byGet)
    clear ehc Gx Gx2
    apply q_callB
    focus (exact byNext)
    focus (exact byLo)
    focus exact fine_l (L := L.more (C.run i k) vx2 ax) (m := hc.next) (p := p) (q := q) byOm (hMo.same bySame (Nat.le_refl _))
    rotate_left
    · intro hb8 h8 q8 n8
      (focus ((try with_reducible apply wpC.to); (repeat' ((conv => whnf); first | refine byEv ?_ | (apply Fork.mk <;> (intro _; try (exfalso; omega))) | ((first | refine kGSpanZu2 ?_ | refine kGSpanZu0 ?_ | refine kGSpanB4 ?_); first | ((first | apply q_allD | apply q_alli | apply q_allB) <;> intro _ _ _ _ <;> try contradiction) | (apply q_allv; intro _ _ _)) | refine xGSpanNd0 ?_ | fail)); all_goals ((conv => whnf); try with_reducible apply At.mk)))
      (refine byFin ?_)
      rfl
    intro hb8 h8 q8 n8
    have e3 := of_decide_eq_true hb8
    have mv : (L.more (C.run i k) vx2 ax).Val := L.plus_val lv xo
    (focus ((try with_reducible apply wpC.to); (repeat' ((conv => whnf); first | refine byEv ?_ | (apply Fork.mk <;> (intro _; try (exfalso; omega))) | ((first | refine kGSpanZu2 ?_ | refine kGSpanZu0 ?_ | refine kGSpanB4 ?_); first | ((first | apply q_allD | apply q_alli | apply q_allB) <;> intro _ _ _ _ <;> try contradiction) | (apply q_allv; intro _ _ _)) | refine xGSpanNd0 ?_ | fail)); all_goals ((conv => whnf); try with_reducible apply At.mk)))
    apply q_callB
    focus (exact byNext)
    focus (exact byLo)
    focus exact doubted_r (L := L.more (C.run i k) vx2 ax) (m := hc.next) byOm (hMo.same bySame (Nat.le_refl _)) (by show L.n + 1 ≤ 13; omega) mv
    · intro hb9 h9 q9 n9
      (focus ((try with_reducible apply wpC.to); (repeat' ((conv => whnf); first | refine byEv ?_ | (apply Fork.mk <;> (intro _; try (exfalso; omega))) | ((first | refine kGSpanZu2 ?_ | refine kGSpanZu0 ?_ | refine kGSpanB4 ?_); first | ((first | apply q_allD | apply q_alli | apply q_allB) <;> intro _ _ _ _ <;> try contradiction) | (apply q_allv; intro _ _ _)) | refine xGSpanNd0 ?_ | fail)); all_goals ((conv => whnf); try with_reducible apply At.mk)))
      (refine byFin ?_)
      rfl
    intro hb9 h9 q9 n9
    have c8 : Nx.cl L C i k := Classical.byContradiction (of_decide_eq_false hb9)
    have b8 : Nx.bn L p q C i k := bn i hin k hkw c8
    have m0 : (L.more (C.run i k) vx2 ax).lerr p q = 0 := Runs.lerr_ok e3 c8 b8
    have ew : (L.more (C.run i k) vx2 ax).wide p q = Nx.wd L p q C i k := wide_cong rfl rfl
    have wk := okk i hin k c8 hkw
    (focus ((try with_reducible apply wpC.to); (repeat' ((conv => whnf); first | refine byEv ?_ | (apply Fork.mk <;> (intro _; try (exfalso; omega))) | ((first | refine kGSpanZu2 ?_ | refine kGSpanZu0 ?_ | refine kGSpanB4 ?_); first | ((first | apply q_allD | apply q_alli | apply q_allB) <;> intro _ _ _ _ <;> try contradiction) | (apply q_allv; intro _ _ _)) | refine xGSpanNd0 ?_ | fail)); all_goals ((conv => whnf); try with_reducible apply At.mk)))
    apply q_callv
    focus (exact byNext)
    focus (exact byLo)
    focus exact least_w (L := L.more (C.run i k) vx2 ax) (m := hc.next) (p := p) (q := q) byOm (hMo.same bySame (Nat.le_refl _))
    intro h10 q10 n10
    rw [m0]
    unfold Fr.cells
    (focus ((try with_reducible apply wpC.to); (repeat' ((conv => whnf); first | refine byEv ?_ | (apply Fork.mk <;> (intro _; try (exfalso; omega))) | ((first | refine kGSpanZu2 ?_ | refine kGSpanZu0 ?_ | refine kGSpanB4 ?_); first | ((first | apply q_allD | apply q_alli | apply q_allB) <;> intro _ _ _ _ <;> try contradiction) | (apply q_allv; intro _ _ _)) | refine xGSpanNd0 ?_ | fail)); all_goals ((conv => whnf); try with_reducible apply At.mk)))
    apply q_callv
    focus (exact byNext)
    focus (exact byLo)
    focus exact error_r (L := L.more (C.run i k) vx2 ax) (m := hc.next) (p := p) (q := q) byOm (hMo.same bySame (Nat.le_refl _))
    intro h11 q11 n11
    rw [m0]
    (focus ((try with_reducible apply wpC.to); (repeat' ((conv => whnf); first | refine byEv ?_ | (apply Fork.mk <;> (intro _; try (exfalso; omega))) | ((first | refine kGSpanZu2 ?_ | refine kGSpanZu0 ?_ | refine kGSpanB4 ?_); first | ((first | apply q_allD | apply q_alli | apply q_allB) <;> intro _ _ _ _ <;> try contradiction) | (apply q_allv; intro _ _ _)) | refine xGSpanNd0 ?_ | fail)); all_goals ((conv => whnf); try with_reducible apply At.mk)))
    apply q_callv
    focus (exact byNext)
    focus (exact byLo)
    focus exact span_r (L := L.more (C.run i k) vx2 ax) (m := hc.next) (p := p) (q := q) byOm (hMo.same bySame (Nat.le_refl _)) m0
    intro h12 q12 n12
    rw [ew]
    unfold Fr.cells
    (focus ((try with_reducible apply wpC.to); (repeat' ((conv => whnf); first | refine byEv ?_ | (apply Fork.mk <;> (intro _; try (exfalso; omega))) | ((first | refine kGSpanZu2 ?_ | refine kGSpanZu0 ?_ | refine kGSpanB4 ?_); first | ((first | apply q_allD | apply q_alli | apply q_allB) <;> intro _ _ _ _ <;> try contradiction) | (apply q_allv; intro _ _ _)) | refine xGSpanNd0 ?_ | fail)); all_goals ((conv => whnf); try with_reducible apply At.mk)))
    apply q_callB
    focus (exact byNext)
    focus (exact byLo)
    focus exact less_r xk.LB wk.LB
    · intro hb; exact absurd (of_decide_eq_true hb) (iw.2 k hkw c8)
    intro hb13 h13 q13 n13
    (focus ((try with_reducible apply wpC.to); (repeat' ((conv => whnf); first | refine byEv ?_ | (apply Fork.mk <;> (intro _; try (exfalso; omega))) | ((first | refine kGSpanZu2 ?_ | refine kGSpanZu0 ?_ | refine kGSpanB4 ?_); first | ((first | apply q_allD | apply q_alli | apply q_allB) <;> intro _ _ _ _ <;> try contradiction) | (apply q_allv; intro _ _ _)) | refine xGSpanNd0 ?_ | fail)); all_goals ((conv => whnf); try with_reducible apply At.mk)))
    (refine byFin ?_)
    rfl
end AE.Tryz
