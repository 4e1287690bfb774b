/- Walks of box: what it answers. -/
import Derived.Test.YtndkjpkadfpflaaGreatTopBb
set_option linter.unusedVariables false
set_option linter.unusedSimpArgs false
set_option linter.unusedSectionVars false
namespace AE.Tryz
open Go AE Go.Proofs AE.Box
set_option maxRecDepth 100000
set_option linter.unusedVariables false

theorem valueApi_w {h : H} {T : Hull} {Y : Grid} {m m' q : Nat} (hm : m ≤ h.next) (hm' : m' ≤ h.next) (hT : T.Ok m h) (hY : Y.Ok m' h) (F : Fits2 T Y) (hq : q ≤ 2) : AW Tryz.prog 14 h.next h [.agg ⟨T.cells⟩, .slice Y.b Y.n Y.c, .int .i64 q] (fun v _ => v = .tuple #[.agg ⟨frC (T.hul.val q Y.f)⟩, .int .i64 0]) := by
  refine fun14.call rfl (Nat.le_refl _) ?_
  unfold a14 Hull.cells
  (focus ((try with_reducible apply wpC.to); (repeat' ((conv => whnf); first | refine byEv ?_ | (apply Fork.mk <;> (intro _; try (exfalso; omega))) | fail)); all_goals ((conv => whnf); try with_reducible apply At.mk)))
  apply q_call
  focus (exact byNext)
  focus (exact byLo)
  focus exact checkTrue_w (T := T) (m := m) (m' := m') byOm byOm (hT.same bySame (Nat.le_refl _)) (hY.same bySame (Nat.le_refl _)) F
  rintro _ h1 rfl q1 hn1
  have sm1 : Same h.next h h1 := fun x hx => (q1.same x byOm).trans (get_of fun y hy => byGet)
  have g1 : h1.get h.next = some (.cells [.int .i64 T.sp, .int .i64 T.st, .slice T.b T.n T.c] 24) := (q1.same _ byOm).trans byGet
  have g2 : h1.get (h.next + 1) = some (.cells [.int .i64 0, .int .i64 0] 27) := (q1.same _ byOm).trans byGet
  have hn1' : h.next + 3 ≤ h1.next := by (exact byOm)
  clear q1 hn1
  (focus ((try with_reducible apply wpC.to); (repeat' ((conv => whnf); first | refine byEv ?_ | (apply Fork.mk <;> (intro _; try (exfalso; omega))) | fail)); all_goals ((conv => whnf); try with_reducible apply At.mk)))
  apply q_call
  focus (exact byNext)
  focus (exact byLo)
  focus exact newPlan_w (T := T) (m := m) (q := q) byOm ((hT.same (sm1.mono hm) (Nat.le_refl _)).same bySame (Nat.le_refl _)) F.v hq
  rintro _ h2 ⟨p, rfl, ⟨p1, p2⟩, gp⟩ q2 hn2
  have sm2 : Same h.next h h2 := fun x hx => (q2.same x byOm).trans ((get_of fun y hy => byGet).trans (sm1 x hx))
  have g2' : h2.get (h.next + 1) = some (.cells [.int .i64 0, .int .i64 0] 27) := (q2.same _ byOm).trans byGet
  have hn2' : h1.next ≤ h2.next := by (exact byOm)
  clear q2 hn2 g1 g2 sm1 p1
  (focus ((try with_reducible apply wpC.to); (repeat' ((conv => whnf); first | refine byEv ?_ | (apply Fork.mk <;> (intro _; try (exfalso; omega))) | fail)); all_goals ((conv => whnf); try with_reducible apply At.mk)))
  apply q_call
  focus (exact byNext)
  focus (exact byLo)
  focus exact value_w (T := T) (m := m) (m' := m') (p := p) (q := q) byOm byOm byOm ((get_of fun y hy => byGet).trans gp) hq ((hT.same (sm2.mono hm) (Nat.le_refl _)).same bySame (Nat.le_refl _)) ((hY.same (sm2.mono hm') (Nat.le_refl _)).same bySame (Nat.le_refl _)) F
  rintro _ h3 rfl q3 hn3
  generalize T.hul.val q Y.f = x
  (focus ((try with_reducible apply wpC.to); (repeat' ((conv => whnf); first | refine byEv ?_ | (apply Fork.mk <;> (intro _; try (exfalso; omega))) | fail)); all_goals ((conv => whnf); try with_reducible apply At.mk)))
  (refine byFin ?_)
  rfl
theorem spanApi_w {h : H} {T : Hull} {m q : Nat} (hm : m ≤ h.next) (hT : T.Ok m h) (V : T.Valid) (hq : q ≤ 2) : AW Tryz.prog 16 h.next h [.agg ⟨T.cells⟩, .int .i64 q] (fun v _ => ∃ Z Z', v = .tuple #[.agg ⟨frC (T.hul.val q Z) ++ frC (T.hul.val q Z')⟩, .int .i64 0] ∧ IsEnd T q (-1) Z ∧ IsEnd T q 1 Z') := by
  refine fun16.call rfl (Nat.le_refl _) ?_
  unfold a16 Hull.cells
  (focus ((try with_reducible apply wpC.to); (repeat' ((conv => whnf); first | refine byEv ?_ | (apply Fork.mk <;> (intro _; try (exfalso; omega))) | fail)); all_goals ((conv => whnf); try with_reducible apply At.mk)))
  apply q_call
  focus (exact byNext)
  focus (exact byLo)
  focus exact newPlan_w (T := T) (m := m) (q := q) byOm (hT.same bySame (Nat.le_refl _)) V hq
  rintro _ h2 ⟨p, rfl, ⟨p1, p2⟩, gp⟩ q2 hn2
  have sm2 : Same h.next h h2 := fun x hx => (q2.same x byOm).trans (get_of fun y hy => byGet)
  have g2 : h2.get (h.next + 1) = some (.cells [.int .i64 0, .int .i64 0, .int .i64 0, .int .i64 0] 48) := (q2.same _ byOm).trans byGet
  have hn2' : h.next + 3 ≤ h2.next := by (exact byOm)
  clear q2 hn2 p1
  (focus ((try with_reducible apply wpC.to); (repeat' ((conv => whnf); first | refine byEv ?_ | (apply Fork.mk <;> (intro _; try (exfalso; omega))) | fail)); all_goals ((conv => whnf); try with_reducible apply At.mk)))
  apply q_call
  focus (exact byNext)
  focus (exact byLo)
  focus exact end_w (T := T) (m := m) (p := p) (q := q) (s := -1) byOm byOm ((get_of fun y hy => byGet).trans gp) hq ((hT.same (sm2.mono hm) (Nat.le_refl _)).same bySame (Nat.le_refl _)) V (.inr rfl)
  rintro _ h3 ⟨rr, r, w, Z, rfl, -, E⟩ q3 hn3
  have sm3 : Same h.next h h3 := fun x hx => (q3.same x byOm).trans ((get_of fun y hy => byGet).trans (sm2 x hx))
  have gp3 : h3.get p = some (planRow T q) := (q3.same _ byOm).trans ((get_of fun y hy => byGet).trans gp)
  have g3 : h3.get (h.next + 1) = some (.cells [.int .i64 0, .int .i64 0, .int .i64 0, .int .i64 0] 48) := (q3.same _ byOm).trans byGet
  have hn3' : h2.next + 8 ≤ h3.next := by (exact byOm)
  clear q3 hn3 sm2 g2 gp
  generalize hz : T.hul.val q Z = x
  (focus ((try with_reducible apply wpC.to); (repeat' ((conv => whnf); first | refine byEv ?_ | (apply Fork.mk <;> (intro _; try (exfalso; omega))) | fail)); all_goals ((conv => whnf); try with_reducible apply At.mk)))
  apply q_call
  focus (exact byNext)
  focus (exact byLo)
  focus exact end_w (T := T) (m := m) (p := p) (q := q) (s := 1) byOm byOm ((get_of fun y hy => byGet).trans gp3) hq ((hT.same (sm3.mono hm) (Nat.le_refl _)).same bySame (Nat.le_refl _)) V (.inl rfl)
  rintro _ h4 ⟨rr', r', w', Z', rfl, -, E'⟩ q4 hn4
  generalize hz' : T.hul.val q Z' = x'
  have hn4' : h3.next ≤ h4.next := by (exact byOm)
  have g9 : h4.get (h2.next + 7) = some (.cells [.int .i64 x.n, .int .i64 x.d] 27) := (q4.same _ byOm).trans byGet
  have g4 : h4.get (h.next + 1) = some (.cells [.int .i64 0, .int .i64 0, .int .i64 0, .int .i64 0] 48) := (q4.same _ byOm).trans byGet
  (focus ((try with_reducible apply wpC.to); (repeat' ((conv => whnf); first | refine byEv ?_ | (apply Fork.mk <;> (intro _; try (exfalso; omega))) | fail)); all_goals ((conv => whnf); try with_reducible apply At.mk)))
  (refine byFin ?_)
  exact ⟨Z, Z', by rw [hz, hz']; rfl, E, E'⟩
theorem lo48_w {h : H} {x : Rg} {i k : Int} : AW Tryz.prog 48 h.next h [.int .i64 i, .int .i64 k, .agg ⟨x.cells⟩] (fun v _ => v = .int .i64 x.lo) := by
  refine fun48.call rfl (Nat.le_refl _) ?_
  unfold a48 Rg.cells
  (focus ((try with_reducible apply wpC.to); (repeat' ((conv => whnf); first | refine byEv ?_ | refine xTopB20 ?_ | fail)); all_goals ((conv => whnf); try with_reducible apply At.mk)))
  (refine byFin ?_)
  rfl
theorem hi49_w {h : H} {x : Rg} {i k : Int} : AW Tryz.prog 49 h.next h [.int .i64 i, .int .i64 k, .agg ⟨x.cells⟩] (fun v _ => v = .int .i64 x.hi) := by
  refine fun49.call rfl (Nat.le_refl _) ?_
  unfold a49 Rg.cells
  (focus ((try with_reducible apply wpC.to); (repeat' ((conv => whnf); first | refine byEv ?_ | refine xTopB20 ?_ | fail)); all_goals ((conv => whnf); try with_reducible apply At.mk)))
  (refine byFin ?_)
  rfl
theorem volumes_w {h : H} {T : Hull} {m : Nat} (hm : m ≤ h.next) (hT : T.Ok m h) (V : T.Valid) : AW Tryz.prog 15 h.next h [.agg ⟨T.cells⟩] (fun v _ => v = .tuple #[.agg ⟨frC (fr (T.sp * T.st * T.hul.vol fun i k => (T.f i k).lo) 2) ++ frC (fr (T.sp * T.st * T.hul.vol fun i k => (T.f i k).hi) 2)⟩, .int .i64 0]) := by
  have n1 := V.n1
  refine fun15.call rfl (Nat.le_refl _) ?_
  unfold a15 Hull.cells
  (focus ((try with_reducible apply wpC.to); (repeat' ((conv => whnf); first | refine byEv ?_ | (apply Fork.mk <;> (intro _; try (exfalso; omega))) | fail)); all_goals ((conv => whnf); try with_reducible apply At.mk)))
  apply q_call
  focus (exact byNext)
  focus (exact byLo)
  focus exact checkHull_w (T := T) (m := m) byOm (hT.same bySame (Nat.le_refl _)) V
  rintro _ h1 rfl q1 hn1
  have sm1 : Same h.next h h1 := fun x hx => (q1.same x byOm).trans (get_of fun y hy => byGet)
  have g1 : h1.get h.next = some (.cells [.int .i64 T.sp, .int .i64 T.st, .slice T.b T.n T.c] 24) := (q1.same _ byOm).trans byGet
  have g2 : h1.get (h.next + 1) = some (.cells [.int .i64 0, .int .i64 0, .int .i64 0, .int .i64 0] 48) := (q1.same _ byOm).trans byGet
  have hn1' : h.next + 3 ≤ h1.next := by (exact byOm)
  clear q1 hn1
  (focus ((try with_reducible apply wpC.to); (repeat' ((conv => whnf); first | refine byEv ?_ | (apply Fork.mk <;> (intro _; try (exfalso; omega))) | fail)); all_goals ((conv => whnf); try with_reducible apply At.mk)))
  apply q_call
  focus (exact byNext)
  focus (exact byLo)
  focus exact pickb_w (T := T) (m := m) (g := fun i k => (T.f i k).lo) byOm ((hT.same (sm1.mono hm) (Nat.le_refl _)).same bySame (Nat.le_refl _)) V fun i k h1 hi hk q => acall_of lo48_w rfl
  rintro _ h2 ⟨rr, r, w, rfl, O2⟩ q2 hn2
  have sm2 : Same h.next h h2 := fun x hx => (q2.same x byOm).trans ((get_of fun y hy => byGet).trans (sm1 x hx))
  have g12 : h2.get h.next = some (.cells [.int .i64 T.sp, .int .i64 T.st, .slice T.b T.n T.c] 24) := (q2.same _ byOm).trans byGet
  have g22 : h2.get (h.next + 1) = some (.cells [.int .i64 0, .int .i64 0, .int .i64 0, .int .i64 0] 48) := (q2.same _ byOm).trans byGet
  have hn2' : h1.next ≤ h2.next := by (exact byOm)
  obtain ⟨a, rfl, gd⟩ := O2.grid (by omega)
  clear q2 hn2 sm1 g1 g2
  (focus ((try with_reducible apply wpC.to); (repeat' ((conv => whnf); first | refine byEv ?_ | (apply Fork.mk <;> (intro _; try (exfalso; omega))) | fail)); all_goals ((conv => whnf); try with_reducible apply At.mk)))
  apply q_call
  focus (exact byNext)
  focus (exact byLo)
  focus exact pickb_w (T := T) (m := m) (g := fun i k => (T.f i k).hi) byOm ((hT.same (sm2.mono hm) (Nat.le_refl _)).same bySame (Nat.le_refl _)) V fun i k h1 hi hk q => acall_of hi49_w rfl
  rintro _ h3 ⟨rr', r', w', rfl, O3⟩ q3 hn3
  have sm3 : Same h.next h h3 := fun x hx => (q3.same x byOm).trans ((get_of fun y hy => byGet).trans (sm2 x hx))
  have g13 : h3.get h.next = some (.cells [.int .i64 T.sp, .int .i64 T.st, .slice T.b T.n T.c] 24) := (q3.same _ byOm).trans byGet
  have g23 : h3.get (h.next + 1) = some (.cells [.int .i64 0, .int .i64 0, .int .i64 0, .int .i64 0] 48) := (q3.same _ byOm).trans byGet
  have hn3' : h2.next ≤ h3.next := by (exact byOm)
  have gd' := gd.same (h' := h3) (fun x hx => (q3.same x byOm).trans (get_of fun y hy => byGet)) (Nat.le_refl _)
  obtain ⟨a', rfl, gd3⟩ := O3.grid (by omega)
  clear q3 hn3 sm2 g12 g22 gd
  (focus ((try with_reducible apply wpC.to); (repeat' ((conv => whnf); first | refine byEv ?_ | (apply Fork.mk <;> (intro _; try (exfalso; omega))) | fail)); all_goals ((conv => whnf); try with_reducible apply At.mk)))
  apply q_call
  focus (exact byNext)
  focus (exact byLo)
  focus exact volume_w (T := T) (Y := ⟨T.n, T.w 0, some a, a, 0, fun i => ⟨rr i, 0, none⟩, fun _ => T.w 0, fun i k => (T.f i k).lo⟩) (m := m) (m' := h2.next) byOm byOm ((hT.same (sm3.mono hm) (Nat.le_refl _)).same bySame (Nat.le_refl _)) (gd'.same (fun x hx => get_of fun y hy => byGet) (Nat.le_refl _)) ⟨V, rfl, rfl, lo_in V⟩
  rintro _ h4 rfl q4 hn4
  have sm4 : Same h.next h h4 := fun x hx => (q4.same x byOm).trans ((get_of fun y hy => byGet).trans (sm3 x hx))
  have g14 : h4.get h.next = some (.cells [.int .i64 T.sp, .int .i64 T.st, .slice T.b T.n T.c] 24) := (q4.same _ byOm).trans byGet
  have g24 : h4.get (h.next + 1) = some (.cells [.int .i64 0, .int .i64 0, .int .i64 0, .int .i64 0] 48) := (q4.same _ byOm).trans byGet
  have hn4' : h3.next ≤ h4.next := by (exact byOm)
  have gd4 := gd3.same (h' := h4) (fun x hx => (q4.same x byOm).trans (get_of fun y hy => byGet)) (Nat.le_refl _)
  clear q4 hn4 sm3 g13 g23 gd3 gd'
  dsimp only
  generalize hx1 : fr (T.sp * T.st * T.hul.vol fun i k => (T.f i k).lo) 2 = x1
  (focus ((try with_reducible apply wpC.to); (repeat' ((conv => whnf); first | refine byEv ?_ | (apply Fork.mk <;> (intro _; try (exfalso; omega))) | fail)); all_goals ((conv => whnf); try with_reducible apply At.mk)))
  apply q_call
  focus (exact byNext)
  focus (exact byLo)
  focus exact volume_w (T := T) (Y := ⟨T.n, T.w 0, some a', a', 0, fun i => ⟨rr' i, 0, none⟩, fun _ => T.w 0, fun i k => (T.f i k).hi⟩) (m := m) (m' := h3.next) byOm byOm ((hT.same (sm4.mono hm) (Nat.le_refl _)).same bySame (Nat.le_refl _)) (gd4.same (fun x hx => get_of fun y hy => byGet) (Nat.le_refl _)) ⟨V, rfl, rfl, hi_in V⟩
  rintro _ h5 rfl q5 hn5
  dsimp only
  generalize hx2 : fr (T.sp * T.st * T.hul.vol fun i k => (T.f i k).hi) 2 = x2
  (focus ((try with_reducible apply wpC.to); (repeat' ((conv => whnf); first | refine byEv ?_ | (apply Fork.mk <;> (intro _; try (exfalso; omega))) | fail)); all_goals ((conv => whnf); try with_reducible apply At.mk)))
  (refine byFin ?_)
  rfl
end AE.Tryz
