/- Walks of box: the search for the ends. -/
import Derived.Test.YtndkjpkadfpflaaGreatTopBa
import Derived.Test.YtndkjpkadfpflaaGreatJoin5
import Derived.Test.YtndkjpkadfpflaaGreatAEthree
set_option linter.unusedVariables false
set_option linter.unusedSimpArgs false
set_option linter.unusedSectionVars false
namespace AE.Tryz
open Go AE Go.Proofs AE.Box
set_option maxRecDepth 100000
set_option linter.unusedVariables false

theorem PartOf.one' {P : Program} {e : TypeId} {cs : List Value} {off : Nat} {v : Value} (h1 : isAggT P e = some false) (h2 : cs[off]? = some v) : PartOf P e false cs off [v] := ⟨h1, by rw [if_neg (by simp)]; exact ⟨v, h2, rfl⟩⟩
theorem fr_eqc (x y : Fr) : EqC Tryz.prog 2 27 true (frC x) (frC y) (x.n == y.n && (x.d == y.d && true)) := by
  refine EqC.struct (fs := ?fs) ?ht ?hs ?h
  case ht => exact Tryz.underlying27
  case hs => kernel_rfl
  refine EqFs.cons (agg := false) (x := [.int .i64 x.n]) (y := [.int .i64 y.n]) (by decide) (PartOf.one' rfl rfl) (PartOf.one' rfl rfl) (EqC.int rfl) ?_
  exact EqFs.cons (agg := false) (x := [.int .i64 x.d]) (y := [.int .i64 y.d]) (by decide) (PartOf.one' rfl rfl) (PartOf.one' rfl rfl) (EqC.int rfl) EqFs.nil
theorem eql_fr (x y : Fr) : pureRun Tryz.prog (Op.equalIn Op.maxDepth 27 (.agg ⟨frC x⟩) (.agg ⟨frC y⟩)) = some (decide (x = y)) := by
  have := (fr_eqc x y).run 2 Op.maxDepth (by decide)
  have e : (x.n == y.n && (x.d == y.d && true)) = decide (x = y) := by
    by_cases h : x = y
    · subst h; simp
    · rw [decide_eq_false h]
      by_cases h1 : x.n = y.n
      · have h2 : x.d ≠ y.d := fun h2 => h (Fr.ext' h1 h2)
        simp [h1, h2]
      · simp [h1]
  rw [e] at this
  simpa [asVal] using this
theorem newPlan_w {h : H} {T : Hull} {m q : Nat} (hm : m ≤ h.next) (hT : T.Ok m h) (V : T.Valid) (hq : q ≤ 2) : AW Tryz.prog 45 h.next h [.agg ⟨T.cells⟩, .int .i64 q] (fun v h' => ∃ p, v = .tuple #[.pointer (some ⟨p, 0, none⟩), .int .i64 0] ∧ (h.next ≤ p ∧ p < h'.next) ∧ h'.get p = some (planRow T q)) := by
  refine fun45.call rfl (Nat.le_refl _) ?_
  unfold a45 Hull.cells
  (focus ((try with_reducible apply wpC.to); (repeat' ((conv => whnf); first | refine byEv ?_ | (apply Fork.mk <;> (intro _; try (exfalso; omega))) | fail)); all_goals ((conv => whnf); try with_reducible apply At.mk)))
  apply q_call
  focus (exact byNext)
  focus (exact byLo)
  focus exact checkHull_w (T := T) (m := m) byOm (hT.same bySame (Nat.le_refl _)) V
  rintro _ h1 rfl q1 hn1
  have g1 : h1.get h.next = some (.cells [.int .i64 T.sp, .int .i64 T.st, .slice T.b T.n T.c] 24) := (q1.same _ byOm).trans byGet
  have hn1' : h.next + 3 ≤ h1.next := by (exact byOm)
  (focus ((try with_reducible apply wpC.to); (repeat' ((conv => whnf); first | refine byEv ?_ | (apply Fork.mk <;> (intro _; try (exfalso; omega))) | fail)); all_goals ((conv => whnf); try with_reducible apply At.mk)))
  (refine byFin ?_)
  exact ⟨_, rfl, ⟨byOm, byOm⟩, by unfold planRow; (exact byGet)⟩
theorem hi_w {h : H} {x : Rg} {i k : Int} : AW Tryz.prog 112 h.next h [.int .i64 i, .int .i64 k, .agg ⟨x.cells⟩] (fun v _ => v = .int .i64 x.hi) := by
  refine fun112.call rfl (Nat.le_refl _) ?_
  unfold a112 Rg.cells
  (focus ((try with_reducible apply wpC.to); (repeat' ((conv => whnf); first | refine byEv ?_ | refine xTopB20 ?_ | fail)); all_goals ((conv => whnf); try with_reducible apply At.mk)))
  (refine byFin ?_)
  rfl

/-- Offsets of which none is beyond. -/
structure IsEnd (T : Hull) (q : Nat) (s : Int) (Z : Nat → Nat → Int) : Prop where
  inn : T.hul.In Z
  none : ∀ z, (T.hul.sys q).Valid z → s * (T.hul.sys q).over (T.hul.val q Z).n (T.hul.val q Z).d z ≤ 0
theorem BestTo.inn {T : Hull} {q : Nat} {x : Fr} {s : Int} {Z : Nat → Nat → Int} (b : BestTo T q x s (T.n * T.w 0) Z) : T.hul.In Z := fun i k hi hk => by
  have hk : k < T.w 0 := hk
  have := (b (i * T.w 0 + k) (pl_lt hi hk)).1
  rw [pl_div hk, pl_mod hk] at this
  exact this
theorem hi_in {T : Hull} (V : T.Valid) : T.hul.In fun i k => (T.f i k).hi := fun i k hi hk => by
  have := V.hul.pl i k hi hk
  exact ⟨this.2.1, Int.le_refl _⟩
theorem lo_in {T : Hull} (V : T.Valid) : T.hul.In fun i k => (T.f i k).lo := fun i k hi hk => by
  have := V.hul.pl i k hi hk
  exact ⟨Int.le_refl _, this.2.1⟩
/-- Where the search is. -/
structure EnS where
  rr : Nat → Nat
  r : Nat
  w : Option Addr
  Z : Nat → Nat → Int
  l : Nat
  N : Nat
set_option maxHeartbeats 1000000 in
theorem end_w {h : H} {T : Hull} {m p q : Nat} {s : Int} (hm : m ≤ h.next) (hp : p < h.next) (hg : h.get p = some (planRow T q)) (hq : q ≤ 2) (hT : T.Ok m h) (V : T.Valid) (hs : s = 1 ∨ s = -1) :
    AW Tryz.prog 50 h.next h [.pointer (some ⟨p, 0, none⟩), .int .i64 s] (fun v h' => ∃ rr r w Z, v = .tuple #[.slice w T.n 0, .agg ⟨frC (T.hul.val q Z)⟩] ∧ Own (h.next + 1) h'.next h' T.n (T.w 0) rr Z r w ∧ IsEnd T q s Z) := by
  have nw := V.hul.nw
  have n1 := V.n1
  have n2 := V.n2
  have w1 := V.w1
  have w2 := V.w2
  refine fun50.call rfl (Nat.le_refl _) ?_
  unfold a50
  have hg' := hg
  unfold planRow at hg'
  (focus ((try with_reducible apply wpC.to); (repeat' ((conv => whnf); first | refine byEv ?_ | fail)); all_goals ((conv => whnf); try with_reducible apply At.mk)))
  apply q_call
  focus (exact byNext)
  focus (exact byLo)
  focus exact pickb_w (T := T) (m := m) (g := fun i k => (T.f i k).hi) byOm (hT.same bySame (Nat.le_refl _)) V fun i k h1 hi hk q => acall_of hi_w rfl
  rintro _ h1 ⟨rr, r, w, rfl, O1⟩ q1 hn1
  have sm1 : Same h.next h h1 := fun x hx => (q1.same x byOm).trans (get_of fun y hy => byGet)
  have g5 : h1.get (h.next + 1) = some (.cells [.int .i64 0, .int .i64 0] 27) := (q1.same _ byOm).trans byGet
  have hn1' : h.next + 8 ≤ h1.next := by (exact byOm)
  have O1' : Own (h.next + 8) h1.next h1 T.n (T.w 0) rr (fun i k => (T.f i k).hi) r w := O1.lower byOm
  clear q1 O1
  (focus ((try with_reducible apply wpC.to); (repeat' ((conv => whnf); first | refine byEv ?_ | fail)); all_goals ((conv => whnf); try with_reducible apply At.mk)))
  obtain ⟨a, rfl, gd⟩ := O1'.grid (by omega)
  apply q_call
  focus (exact byNext)
  focus (exact byLo)
  focus exact value_w (T := T) (Y := ⟨T.n, T.w 0, some a, a, 0, fun i => ⟨rr i, 0, none⟩, fun _ => T.w 0, fun i k => (T.f i k).hi⟩) (m := m) (m' := h1.next) (p := p) (q := q) byOm byOm byOm ((sm1 _ hp).trans hg) hq (hT.same (sm1.mono hm) (Nat.le_refl _)) (gd.same (fun x hx => get_of fun y hy => byGet) (Nat.le_refl _)) ⟨V, rfl, rfl, hi_in V⟩
  rintro _ h2 rfl q2 hn2
  have sm2 : Same h.next h h2 := fun x hx => (q2.same x byOm).trans ((get_of fun y hy => byGet).trans (sm1 x hx))
  have g5' : h2.get (h.next + 1) = some (.cells [.int .i64 0, .int .i64 0] 27) := (q2.same _ byOm).trans byGet
  have hn2' : h1.next + 5 ≤ h2.next := by (exact byOm)
  have O2 : Own (h.next + 8) h1.next h2 T.n (T.w 0) rr (fun i k => (T.f i k).hi) r (some a) := O1'.frame (Nat.le_refl _) fun x hx1 hx2 => (q2.same x byOm).trans (get_of fun y hy => byGet)
  clear q2 O1' sm1 g5 gd hn2
  (focus ((try with_reducible apply wpC.to); (repeat' ((conv => whnf); first | refine byEv ?_ | fail)); all_goals ((conv => whnf); try with_reducible apply At.mk)))
  refine wp_loop (fun x : EnS => [(0, .pointer (some ⟨p, 0, none⟩)), (1, .int .i64 s), (5, .pointer (some ⟨h.next + 1, 0, none⟩)), (6, .slice x.w T.n 0), (7, .pointer (some ⟨h1.next + 3, 0, none⟩))])
    (fun x h3 => Same h.next h h3 ∧ h1.next + 4 ≤ h3.next ∧ h3.get (h.next + 1) = some (.cells [.int .i64 0, .int .i64 0] 27) ∧ h3.get (h1.next + 3) = some (.cells (frC (T.hul.val q x.Z)) 27) ∧ Own x.l x.N h3 T.n (T.w 0) x.rr x.Z x.r x.w ∧ ((x.N ≤ h1.next + 3 ∨ h1.next + 4 ≤ x.l) ∧ h.next + 8 ≤ x.l ∧ x.N ≤ h3.next) ∧ T.hul.In x.Z)
    (fun x => mu s 1000000 36000000 (T.hul.val q x.Z)) ⟨rr, r, some a, fun i k => (T.f i k).hi, h.next + 8, h1.next⟩ ⟨rfl, rfl, rfl, rfl, rfl, trivial⟩ ⟨bySame, byOm, byGet, by unfold frC; (exact byGet), O2.frame (Nat.le_refl _) fun x hx1 hx2 => get_of fun y hy => byGet, by dsimp only; (exact byOm), hi_in V⟩ ?_
  clear O2 g5' sm2 hn2'
  rintro ⟨ro, r3, w3, Z, l3, N3⟩ g3 h3 ⟨sm3, hn3, g5, g7, O3, hN, inZ⟩ K hK
  dsimp only at g7 O3 hN inZ
  dsimp only at hK ⊢
  have vq := V.hul.val_q q inZ
  have g7' := g7
  unfold frC at g7'
  have hmu := fun (Z2 : Nat → Nat → Int) (b : BestTo T q (T.hul.val q Z) s (T.n * T.w 0) Z2) (hne : T.hul.val q Z2 ≠ T.hul.val q Z) => Sys.falls (s := s) hs (V.hul.bd q) (inZ.valid q) b.best hne
  have hdone := fun (Z2 : Nat → Nat → Int) (b : BestTo T q (T.hul.val q Z) s (T.n * T.w 0) Z2) (he : T.hul.val q Z2 = T.hul.val q Z) => Sys.done (s := s) (V.hul.bd q) (y := Box.flat (T.w 0) Z) b.best he
  (focus ((try with_reducible apply wpC.to); (repeat' ((conv => whnf); first | refine byEv ?_ | fail)); all_goals ((conv => whnf); try with_reducible apply At.mk)))
  apply q_call
  focus (exact byNext)
  focus (exact byLo)
  focus exact excess_w (T := T) (m := m) (p := p) (q := q) (x := T.hul.val q Z) (s := s) byOm byOm ((get_of fun y hy => byGet).trans ((sm3 _ hp).trans hg)) hq ((hT.same (sm3.mono hm) (Nat.le_refl _)).same bySame (Nat.le_refl _)) V vq hs
  rintro _ h4 ⟨r4, ra4, w4, Z4, rfl, O4, B4⟩ q4 hn4
  have sm4 : Same h.next h h4 := fun x hx => (q4.same x byOm).trans ((get_of fun y hy => byGet).trans (sm3 x hx))
  have g54 : h4.get (h.next + 1) = some (.cells [.int .i64 0, .int .i64 0] 27) := (q4.same _ byOm).trans byGet
  have g74 : h4.get (h1.next + 3) = some (.cells [.int .i64 (T.hul.val q Z).n, .int .i64 (T.hul.val q Z).d] 27) := (q4.same _ byOm).trans byGet
  have hn4' : h3.next + 1 ≤ h4.next := by (exact byOm)
  have O34 : Own l3 N3 h4 T.n (T.w 0) ro Z r3 w3 := O3.frame (Nat.le_refl _) fun x hx1 hx2 => (q4.same x byOm).trans (get_of fun y hy => byGet)
  have O4' : Own (h3.next + 1) h4.next h4 T.n (T.w 0) r4 Z4 ra4 w4 := O4.lower byOm
  clear q4 O3 g5 g7 g7' sm3 O4
  (focus ((try with_reducible apply wpC.to); (repeat' ((conv => whnf); first | refine byEv ?_ | fail)); all_goals ((conv => whnf); try with_reducible apply At.mk)))
  obtain ⟨a4, rfl, gd⟩ := O4'.grid (by omega)
  apply q_call
  focus (exact byNext)
  focus (exact byLo)
  focus exact value_w (T := T) (Y := ⟨T.n, T.w 0, some a4, a4, 0, fun i => ⟨r4 i, 0, none⟩, fun _ => T.w 0, Z4⟩) (m := m) (m' := h4.next) (p := p) (q := q) byOm byOm byOm ((sm4 _ hp).trans hg) hq (hT.same (sm4.mono hm) (Nat.le_refl _)) (gd.same (fun x hx => get_of fun y hy => byGet) (Nat.le_refl _)) ⟨V, rfl, rfl, B4.inn⟩
  rintro _ h5 rfl q5 hn5
  have sm5 : Same h.next h h5 := fun x hx => (q5.same x byOm).trans ((get_of fun y hy => byGet).trans (sm4 x hx))
  have g55 : h5.get (h.next + 1) = some (.cells [.int .i64 0, .int .i64 0] 27) := (q5.same _ byOm).trans byGet
  have g75 : h5.get (h1.next + 3) = some (.cells [.int .i64 (T.hul.val q Z).n, .int .i64 (T.hul.val q Z).d] 27) := (q5.same _ byOm).trans byGet
  have hn5' : h4.next ≤ h5.next := by (exact byOm)
  have O35 : Own l3 N3 h5 T.n (T.w 0) ro Z r3 w3 := O34.frame (Nat.le_refl _) fun x hx1 hx2 => (q5.same x byOm).trans (get_of fun y hy => byGet)
  have O45 : Own (h3.next + 1) h4.next h5 T.n (T.w 0) r4 Z4 ra4 (some a4) := O4'.frame (Nat.le_refl _) fun x hx1 hx2 => (q5.same x byOm).trans (get_of fun y hy => byGet)
  clear q5 O34 O4' g54 g74 sm4 gd hn4 hn5
  have hvz : frC (T.hul.val q Z4) = [.int .i64 (T.hul.val q Z4).n, .int .i64 (T.hul.val q Z4).d] := rfl
  by_cases he : T.hul.val q Z4 = T.hul.val q Z
  · (focus ((try with_reducible apply wpC.to); (repeat' ((conv => whnf); first | refine byEv ?_ | fail)); all_goals ((conv => whnf); try with_reducible apply At.mk)))
    refine OpE.pure (.bool true) (xPure_eql (A := ⟨frC (T.hul.val q Z4)⟩) (B := ⟨frC (T.hul.val q Z)⟩) rfl rfl rfl rfl rfl (by kernel_rfl) (by rw [eql_fr, decide_eq_true he])) ?_
    (focus ((try with_reducible apply wpC.to); (repeat' ((conv => whnf); first | refine byEv ?_ | fail)); all_goals ((conv => whnf); try with_reducible apply At.mk)))
    (refine byFin ?_)
    exact ⟨ro, r3, w3, Z, rfl, (O35.frame byOm fun x hx1 hx2 => get_of fun y hy => byGet).lower (by omega), inZ, hdone Z4 B4 he⟩
  · (focus ((try with_reducible apply wpC.to); (repeat' ((conv => whnf); first | refine byEv ?_ | fail)); all_goals ((conv => whnf); try with_reducible apply At.mk)))
    refine OpE.pure (.bool false) (xPure_eql (A := ⟨frC (T.hul.val q Z4)⟩) (B := ⟨frC (T.hul.val q Z)⟩) rfl rfl rfl rfl rfl (by kernel_rfl) (by rw [eql_fr, decide_eq_false he])) ?_
    (focus ((try with_reducible apply wpC.to); (repeat' ((conv => whnf); first | refine byEv ?_ | fail)); all_goals ((conv => whnf); try with_reducible apply At.mk)))
    refine hK ⟨r4, ra4, some a4, Z4, h3.next + 1, h4.next⟩ _ _ ⟨rfl, rfl, rfl, rfl, rfl, trivial⟩ ⟨bySame, byOm, byGet, by unfold frC; (exact byGet), O45.frame (Nat.le_refl _) fun x hx1 hx2 => get_of fun y hy => byGet, by dsimp only; (exact byOm), B4.inn⟩ (hmu Z4 B4 he)
end AE.Tryz
