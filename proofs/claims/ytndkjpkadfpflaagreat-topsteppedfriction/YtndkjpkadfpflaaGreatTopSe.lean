/- Walk of TopSteppedFriction. -/
import Derived.Test.YtndkjpkadfpflaaGreatTDragD
import Derived.Test.YtndkjpkadfpflaaGreatTopSb
import Derived.Test.YtndkjpkadfpflaaGreatTopSc
import Derived.Test.YtndkjpkadfpflaaGreatTopSl
import Derived.Test.YtndkjpkadfpflaaGreatTopW
set_option linter.unusedVariables false
set_option linter.unusedSimpArgs false
set_option linter.unusedSectionVars false
namespace AE.Tryz
open Go AE Go.Proofs AE.Fair AE.Drag
set_option maxRecDepth 100000
set_option linter.unusedVariables false

/-- Small numbers, as they come. -/
structure U8s where
  n : Nat
  f : Nat → Int
  b : Option Addr
  a : Addr
  c : Nat
structure U8s.Ok (T : U8s) (m : Nat) (h : H) : Prop where
  e : 0 < T.n → T.b = some T.a
  i : Vals h T.a T.n (fun i => .int .u8 (T.f i))
  r : 0 < T.n → T.a.block < m
  l : T.n ≤ 9223372036854775807
  bd : ∀ i, i < T.n → 0 ≤ T.f i ∧ T.f i ≤ 255
theorem U8s.Ok.same {T : U8s} {m m' : Nat} {h h' : H} (k : T.Ok m h) (s : Same m h h') (hm : m ≤ m') : T.Ok m' h' :=
  ⟨k.e, k.i.same s k.r, fun h => by have := k.r h; omega, k.l, k.bd⟩

/-- Where the loop over the points is. -/
structure St where
  s : Nat
  r1 : Nat
  r2 : Nat
  w1 : Option Addr
  w2 : Option Addr
  c1 : Nat
  c2 : Nat

set_option maxHeartbeats 2000000 in
theorem stepped_w {h : H} {T : U8s} {m0 : Nat} {first far : Int} (hm : m0 ≤ h.next) (hT : T.Ok m0 h) (h1 : 0 ≤ first ∧ first ≤ 65535) (h2 : 0 ≤ far ∧ far ≤ 255) :
    AW Tryz.prog 4 h.next h [.int .u16 first, .int .u8 far, .slice T.b T.n T.c] (fun v _ => v = .bool true) := by
  have hT' := hT
  obtain ⟨e1, i1, r1, l1, bd⟩ := hT
  refine fun4.call rfl (Nat.le_refl _) ?_
  unfold a4
  by_cases hk : T.n < 1 ∨ 12 ≤ T.n
  · (focus ((try with_reducible apply wpC.to); (repeat' ((conv => whnf); first | refine byEv ?_ | (apply Fork.mk <;> (intro _; try (exfalso; omega))) | ((apply q_call); (focus exact byNext); (focus exact byLo); (focus (first | exact kTopW1 | exact kTDragD0 | exact kTDragB2)); first | ((apply q_allB) <;> (intro z_b _ _ _; first | exact Bool.noConfusion z_b | replace z_b := of_decide_eq_true z_b | replace z_b := of_decide_eq_false z_b | skip) <;> ((try simp only [AllOk, Bd.ok, and_true] at z_b); first | contradiction | (revert z_b; intros))) | ((apply q_alli) <;> intro _ _ _ _ <;> try contradiction) | (apply q_allv; intro _ _ _)) | fail)); all_goals ((conv => whnf); try with_reducible apply At.mk)))
    all_goals ((refine byFin ?_); rfl)
  obtain ⟨m, hme⟩ : ∃ m : Nat, (m : Int) = 1 + far % 20 := ⟨(1 + far % 20).toNat, by omega⟩
  obtain ⟨r, hre⟩ : ∃ r : Nat, (r : Int) = 1 + first := ⟨(1 + first).toNat, by omega⟩
  have hm1 : 1 ≤ m ∧ m ≤ 20 := by omega
  have hr1 : 1 ≤ r ∧ r ≤ 65536 := by omega
  have mulF : ∀ i, i < T.n → 0 ≤ (m : Int) * T.f i ∧ (m : Int) * T.f i ≤ 5100 := fun i hi => by
    have := bd i hi
    have a := Int.mul_nonneg (a := (m : Int)) (b := T.f i) (by omega) (by omega)
    have b := Int.mul_le_mul (a := (m : Int)) (b := T.f i) (c := 20) (d := 255) (by omega) (by omega) (by omega) (by omega)
    omega
  have mulS : ∀ i, i ≤ T.n → 0 ≤ (m : Int) * sumF T.f i ∧ (m : Int) * sumF T.f i ≤ 56100 := fun i hi => by
    have := sumF_bd (F := T.f) (B := 255) (n := i) fun k hk => bd k (by omega)
    have a := Int.mul_nonneg (a := (m : Int)) (b := sumF T.f i) (by omega) (by omega)
    have b := Int.mul_le_mul (a := (m : Int)) (b := sumF T.f i) (c := 20) (d := 2805) (by omega) (by omega) (by omega) (by omega)
    omega
  (focus ((try with_reducible apply wpC.to); (repeat' ((conv => whnf); first | refine byEv ?_ | (apply Fork.mk <;> (intro _; try (exfalso; omega))) | ((apply q_call); (focus exact byNext); (focus exact byLo); (focus (first | exact kTopW1 | exact kTDragD0 | exact kTDragB2)); first | ((apply q_allB) <;> (intro z_b _ _ _; first | exact Bool.noConfusion z_b | replace z_b := of_decide_eq_true z_b | replace z_b := of_decide_eq_false z_b | skip) <;> ((try simp only [AllOk, Bd.ok, and_true] at z_b); first | contradiction | (revert z_b; intros))) | ((apply q_alli) <;> intro _ _ _ _ <;> try contradiction) | (apply q_allv; intro _ _ _)) | fail)); all_goals ((conv => whnf); try with_reducible apply At.mk)))
  refine wp_loop (fun s : Nat => [(0, .int .u16 first), (2, .slice T.b T.n T.c), (7, .int .i64 m), (8, .int .i64 (m * sumF T.f s)), (9, .int .i64 s)])
    (fun s h1 => Same h.next h h1 ∧ h.next ≤ h1.next ∧ s ≤ T.n) (fun s => T.n - s) 0 ⟨rfl, rfl, int_of rfl hme.symm, int_of rfl (by simp [sumF]), rfl, trivial⟩ ⟨bySame, byOm, by omega⟩ ?_
  rintro s g h1 ⟨q, hn1, hs⟩ K hK
  by_cases hsk : s < T.n
  · have f1 := mulF s hsk
    have f2 := mulS s hs
    have f3 := bd s hsk
    (focus ((try with_reducible apply wpC.to); (repeat' ((conv => whnf); first | refine byEv ?_ | (apply Fork.mk <;> (intro _; try (exfalso; omega))) | ((apply q_call); (focus exact byNext); (focus exact byLo); (focus (first | exact kTopW1 | exact kTDragD0 | exact kTDragB2)); first | ((apply q_allB) <;> (intro z_b _ _ _; first | exact Bool.noConfusion z_b | replace z_b := of_decide_eq_true z_b | replace z_b := of_decide_eq_false z_b | skip) <;> ((try simp only [AllOk, Bd.ok, and_true] at z_b); first | contradiction | (revert z_b; intros))) | ((apply q_alli) <;> intro _ _ _ _ <;> try contradiction) | (apply q_allv; intro _ _ _)) | fail)); all_goals ((conv => whnf); try with_reducible apply At.mk)))
    refine hK (s + 1) _ _ ⟨rfl, rfl, rfl, int_of rfl (by simp only [sumF, Int.mul_add]), int_of rfl (by omega), trivial⟩ ⟨bySame, byOm, by omega⟩ (by omega)
  have es : s = T.n := by omega
  subst es
  have f2 := mulS T.n (Nat.le_refl _)
  have e0 : (1 + first : Int) = reS r m 0 := by unfold reS; omega
  have e0' : (m : Int) * sumF T.f T.n = cfS T.f m T.n 0 := by simp [cfS, sumF]
  rw [e0']
  (focus ((try with_reducible apply wpC.to); (repeat' ((conv => whnf); first | refine byEv ?_ | (apply Fork.mk <;> (intro _; try (exfalso; omega))) | ((apply q_call); (focus exact byNext); (focus exact byLo); (focus (first | exact kTopW1 | exact kTDragD0 | exact kTDragB2)); first | ((apply q_allB) <;> (intro z_b _ _ _; first | exact Bool.noConfusion z_b | replace z_b := of_decide_eq_true z_b | replace z_b := of_decide_eq_false z_b | skip) <;> ((try simp only [AllOk, Bd.ok, and_true] at z_b); first | contradiction | (revert z_b; intros))) | ((apply q_alli) <;> intro _ _ _ _ <;> try contradiction) | (apply q_allv; intro _ _ _)) | fail)); all_goals ((conv => whnf); try with_reducible apply At.mk)))
  rw [e0]
  have reB : ∀ i, i ≤ T.n → 1 ≤ reS r m i ∧ reS r m i ≤ 70000 := fun i hi => by
    unfold reS
    have a : 0 ≤ (m : Int) * i := Int.mul_nonneg (by omega) (by omega)
    have b : (m : Int) * i ≤ 20 * 11 := Int.mul_le_mul (by omega) (by omega) (by omega) (by omega)
    omega
  have cfB : ∀ i, i ≤ T.n → 0 ≤ cfS T.f m T.n i ∧ cfS T.f m T.n i ≤ 56100 := fun i hi => by
    have a := mulS i hi
    have c := sumF_mono (F := T.f) (n := T.n) (fun i hi => (bd i hi).1) hi
    have d : (m : Int) * sumF T.f i ≤ m * sumF T.f T.n := Int.mul_le_mul_of_nonneg_left c (by omega)
    unfold cfS
    omega
  have reN : ∀ i, reS r m (i + 1) = reS r m i + m := fun i => by unfold reS; push_cast; rw [Int.mul_add, Int.mul_one]; omega
  refine wp_loop (fun x : St => [(2, .slice T.b T.n T.c), (7, .int .i64 m), (10, .pointer (some ⟨h1.next + 11, 0, none⟩)), (11, .int .i64 x.s)])
    (fun x h2 => Same h.next h h2 ∧ h1.next + 12 ≤ h2.next ∧ x.s ≤ T.n ∧ h2.get (h1.next + 11) = some (.cells [.slice x.w1 (x.s + 1) x.c1, .slice x.w2 (x.s + 1) x.c2] 59) ∧ LG x.r1 h2 2 (x.s + 1) (reS r m) x.w1 x.c1 ∧ LG x.r2 h2 2 (x.s + 1) (cfS T.f m T.n) x.w2 x.c2 ∧
      x.r1 ≠ x.r2 ∧ x.r1 ≠ h1.next + 11 ∧ x.r2 ≠ h1.next + 11 ∧ h1.next + 7 ≤ x.r1 ∧ h1.next + 7 ≤ x.r2 ∧ x.r1 < h2.next ∧ x.r2 < h2.next) (fun x => T.n - x.s) ⟨0, h1.next + 7, h1.next + 9, some ⟨h1.next + 7, 0, none⟩, some ⟨h1.next + 9, 0, none⟩, 1, 1⟩ ⟨rfl, rfl, rfl, rfl, trivial⟩
    ⟨bySame, byOm, by simp, byGet, .inl ⟨rfl, rfl, rfl, byGet⟩, .inl ⟨rfl, rfl, rfl, byGet⟩, by simp, by simp, by simp, by simp, by simp, by simp [H.bump, H.put], by simp [H.bump, H.put]⟩ ?_
  rintro ⟨s, r1, r2, w1, w2, c1, c2⟩ g2 h2 ⟨q2, hn2, hs2, hg, L1, L2, d1, d2, d3, d4, d5, d6, d7⟩ K2 hK2
  dsimp only at hs2 hg L1 L2 d1 d2 d3 d4 d5 d6 d7
  dsimp only
  by_cases hsk : s < T.n
  · have f1 := mulF s hsk
    have f2 := mulS s (by omega)
    have f3 := bd s hsk
    have z1 := L1.cap
    have z2 := L2.cap
    obtain ⟨a1, rfl, b1, j1⟩ := L1.ints
    obtain ⟨a2, rfl, b2, j2⟩ := L2.ints
    have g1 := reB s (by omega)
    have g2 := cfB s (by omega)
    (focus ((try with_reducible apply wpC.to); (repeat' ((conv => whnf); first | refine byEv ?_ | (apply Fork.mk <;> (intro _; try (exfalso; omega))) | ((apply q_call); (focus exact byNext); (focus exact byLo); (focus (first | exact kTopW1 | exact kTDragD0 | exact kTDragB2)); first | ((apply q_allB) <;> (intro z_b _ _ _; first | exact Bool.noConfusion z_b | replace z_b := of_decide_eq_true z_b | replace z_b := of_decide_eq_false z_b | skip) <;> ((try simp only [AllOk, Bd.ok, and_true] at z_b); first | contradiction | (revert z_b; intros))) | ((apply q_alli) <;> intro _ _ _ _ <;> try contradiction) | (apply q_allv; intro _ _ _)) | fail)); all_goals ((conv => whnf); try with_reducible apply At.mk)))
    apply q_appLG (r := r1) (n := s + 1) (f := reS r m) (w := some a1) (c := c1)
    case G => exact L1.frame (get_of fun y hy => byGet)
    case hsv => exact rfl
    case C => rw [reN]; exact Cells.one byMem (by unfold AE.far; omega) rfl rfl
    case hlo => omega
    case hlr => omega
    case hsm => omega
    intro w1' r1' h3 hr3 hf3 hx3 L1'
    have hx3 : h3.next = h2.next + 17 := hx3
    have hg3 : h3.get (h1.next + 11) = some (.cells [.slice (some a1) (s + 1) c1, .slice (some a2) (s + 1) c2] 59) := (hf3 _ (by omega)).trans byGet
    have L2' := L2.frame ((hf3 _ (by omega)).trans (get_of fun y hy => byGet))
    have q3 : Same h.next h h3 := fun x hx => (hf3 x (by omega)).trans ((get_of fun y hy => byGet).trans (q2 x hx))
    clear q2 hg L1 L2 j1 j2 hf3
    (focus ((try with_reducible apply wpC.to); (repeat' ((conv => whnf); first | refine byEv ?_ | (apply Fork.mk <;> (intro _; try (exfalso; omega))) | ((apply q_call); (focus exact byNext); (focus exact byLo); (focus (first | exact kTopW1 | exact kTDragD0 | exact kTDragB2)); first | ((apply q_allB) <;> (intro z_b _ _ _; first | exact Bool.noConfusion z_b | replace z_b := of_decide_eq_true z_b | replace z_b := of_decide_eq_false z_b | skip) <;> ((try simp only [AllOk, Bd.ok, and_true] at z_b); first | contradiction | (revert z_b; intros))) | ((apply q_alli) <;> intro _ _ _ _ <;> try contradiction) | (apply q_allv; intro _ _ _)) | fail)); all_goals ((conv => whnf); try with_reducible apply At.mk)))
    refine Load1.mk ((L2'.frame (get_of fun y hy => byGet)).load1 (i := s) (by omega)) rfl ?_
    (focus ((try with_reducible apply wpC.to); (repeat' ((conv => whnf); first | refine byEv ?_ | (apply Fork.mk <;> (intro _; try (exfalso; omega))) | ((apply q_call); (focus exact byNext); (focus exact byLo); (focus (first | exact kTopW1 | exact kTDragD0 | exact kTDragB2)); first | ((apply q_allB) <;> (intro z_b _ _ _; first | exact Bool.noConfusion z_b | replace z_b := of_decide_eq_true z_b | replace z_b := of_decide_eq_false z_b | skip) <;> ((try simp only [AllOk, Bd.ok, and_true] at z_b); first | contradiction | (revert z_b; intros))) | ((apply q_alli) <;> intro _ _ _ _ <;> try contradiction) | (apply q_allv; intro _ _ _)) | fail)); all_goals ((conv => whnf); try with_reducible apply At.mk)))
    apply q_appLG (r := r2) (n := s + 1) (f := cfS T.f m T.n) (w := some a2) (c := c2)
    case G => exact L2'.frame (get_of fun y hy => byGet)
    case hsv => exact rfl
    case C => rw [cfS_succ]; exact Cells.one byMem (by unfold AE.far; omega) rfl rfl
    case hlo => omega
    case hlr => omega
    case hsm => omega
    intro w2' r2' h4 hr4 hf4 hx4 L2''
    have hx4 : h4.next = h3.next + 19 := hx4
    have hg4 : h4.get (h1.next + 11) = some (.cells [.slice w1' (s + 1 + 1) 0, .slice (some a2) (s + 1) c2] 59) := (hf4 _ (by omega)).trans byGet
    have L1'' := L1'.frame ((hf4 _ (by omega)).trans (get_of fun y hy => byGet))
    have q4 : Same h.next h h4 := fun x hx => (hf4 x (by omega)).trans ((get_of fun y hy => byGet).trans (q3 x hx))
    clear q3 hg3 L1' L2' hf4
    (focus ((try with_reducible apply wpC.to); (repeat' ((conv => whnf); first | refine byEv ?_ | (apply Fork.mk <;> (intro _; try (exfalso; omega))) | ((apply q_call); (focus exact byNext); (focus exact byLo); (focus (first | exact kTopW1 | exact kTDragD0 | exact kTDragB2)); first | ((apply q_allB) <;> (intro z_b _ _ _; first | exact Bool.noConfusion z_b | replace z_b := of_decide_eq_true z_b | replace z_b := of_decide_eq_false z_b | skip) <;> ((try simp only [AllOk, Bd.ok, and_true] at z_b); first | contradiction | (revert z_b; intros))) | ((apply q_alli) <;> intro _ _ _ _ <;> try contradiction) | (apply q_allv; intro _ _ _)) | fail)); all_goals ((conv => whnf); try with_reducible apply At.mk)))
    refine hK2 ⟨s + 1, r1', r2', w1', w2', 0, 0⟩ _ _ ⟨rfl, rfl, rfl, int_of rfl (by dsimp only; omega), trivial⟩ ⟨bySame, byOm, by dsimp only; omega, byGet, L1''.frame (get_of fun y hy => byGet), L2''.frame (get_of fun y hy => byGet), ?_, ?_, ?_, ?_, ?_, ?_, ?_⟩ (by dsimp only; omega)
    all_goals dsimp only
    all_goals (exact byOm)
  have es : s = T.n := by omega
  subst es
  obtain ⟨a1, rfl, b1, j1⟩ := L1.ints
  obtain ⟨a2, rfl, b2, j2⟩ := L2.ints
  have hL : Line.Ok ⟨T.n + 1, reS r m, T.n + 1, cfS T.f m T.n, some a1, a1, c1, some a2, a2, c2⟩ h2.next h2 :=
    ⟨fun _ => rfl, j1, fun _ => by dsimp only; omega, fun _ => rfl, j2, fun _ => by dsimp only; omega, by dsimp only; omega, by dsimp only; omega⟩
  have hS : Steps ⟨T.n + 1, reS r m, T.n + 1, cfS T.f m T.n, some a1, a1, c1, some a2, a2, c2⟩ T.f r m T.n := ⟨by omega, by omega, hm1.1, hm1.2, hr1.1, hr1.2, bd, rfl, rfl, fun _ _ => rfl, fun _ _ => rfl⟩
  have hv := hS.valid
  have hm5 : T.n * m ≤ 220 := Nat.le_trans (Nat.mul_le_mul (by omega : T.n ≤ 11) hm1.2) (by omega)
  have hrt : reS r m T.n = r + ((T.n * m : Nat) : Int) := by unfold reS; push_cast; rw [Int.mul_comm (m : Int)]
  generalize hLL : (⟨T.n + 1, reS r m, T.n + 1, cfS T.f m T.n, some a1, a1, c1, some a2, a2, c2⟩ : Line) = L at hL hS hv
  have eL : L.cells = [.slice (some a1) (T.n + 1) c1, .slice (some a2) (T.n + 1) c2] := by rw [← hLL]; rfl
  have eCf : ∀ i, L.cf i = cfS T.f m T.n i := fun i => by rw [← hLL]
  rw [← eL] at hg
  have hle0 := lineErr_valid.2 hv
  have eRe : ∀ i, L.re i = reS r m i := fun i => by rw [← hLL]
  have eN : L.n = T.n + 1 := by rw [← hLL]
  have eM : L.m = T.n + 1 := by rw [← hLL]
  have eB1 : L.b1 = some L.a1 := by rw [← hLL]
  have eB2 : L.b2 = some L.a2 := by rw [← hLL]
  have lr1 := hL.r1 (by omega)
  have lr2 := hL.r2 (by omega)
  clear hLL eL j1 j2 b1 b2 L1 L2
  have le1 := hL.e1
  have li1 := hL.i1
  have lr1' := hL.r1
  (focus ((try with_reducible apply wpC.to); (repeat' ((conv => whnf); first | refine byEv ?_ | (apply Fork.mk <;> (intro _; try (exfalso; omega))) | ((apply q_call); (focus exact byNext); (focus exact byLo); (focus (first | exact kTopW1 | exact kTDragD0 | exact kTDragB2)); first | ((apply q_allB) <;> (intro z_b _ _ _; first | exact Bool.noConfusion z_b | replace z_b := of_decide_eq_true z_b | replace z_b := of_decide_eq_false z_b | skip) <;> ((try simp only [AllOk, Bd.ok, and_true] at z_b); first | contradiction | (revert z_b; intros))) | ((apply q_alli) <;> intro _ _ _ _ <;> try contradiction) | (apply q_allv; intro _ _ _)) | fail)); all_goals ((conv => whnf); try with_reducible apply At.mk)))
  rename_i h3 q3 hn3 hle
  have s3 : Same h2.next h2 h3 := fun x hx => (q3.same x (by omega)).trans (get_of fun y hy => byGet)
  clear hle
  have er0 : L.re 0 = r := by rw [eRe]; simp [reS]
  have ern : L.re T.n = r + ((T.n * m : Nat) : Int) := by rw [eRe, hrt]
  refine wp_loop (fun x : Nat × Nat × Option Addr => [(2, .slice T.b T.n T.c), (7, .int .i64 m), (10, .pointer (some ⟨h1.next + 11, 0, none⟩)), (12, .slice x.2.2 x.1 0), (13, .int .i64 ((r : Int) + x.1))])
    (fun x h4 => Same h2.next h2 h4 ∧ h2.next + 1 ≤ h4.next ∧ x.1 ≤ T.n * m + 1 ∧ GG x.2.1 h4 2 1 x.1 (iCells (fun k => Drag.fric L (r + k)) x.1) x.2.2 ∧ (0 < x.1 → h2.next ≤ x.2.1 ∧ x.2.1 < h4.next))
    (fun x => T.n * m + 1 - x.1) (0, 0, none) ⟨rfl, rfl, rfl, rfl, int_of rfl (by dsimp only; omega), trivial⟩ ⟨bySame, byOm, by dsimp only; omega, .inl ⟨rfl, rfl, by unfold iCells; rfl⟩, fun h => absurd h (by simp)⟩ ?_
  rintro ⟨k, r3, w⟩ g4 h4 ⟨q4, hn4, hk4, G4, hr4⟩ K4 hK4
  dsimp only at hk4 G4 hr4
  dsimp only
  have hg4 := (q4 _ (by omega : h1.next + 11 < h2.next)).trans hg
  clear s3 q3 hn3
  by_cases hkm : k ≤ T.n * m
  · have hin := hS.inside hkm
    have hfr : frictionR L (r + k) = (Drag.fric L (r + k), 0) := by unfold frictionR; rw [if_neg (by omega), if_pos hin]
    have hfb := fric_bd hv hin
    have hrb : (r : Int) + k ≤ 100000 := by omega
    (focus ((try with_reducible apply wpC.to); (repeat' ((conv => whnf); first | refine byEv ?_ | (apply Fork.mk <;> (intro _; try (exfalso; omega))) | ((apply q_call); (focus exact byNext); (focus exact byLo); (focus (first | exact kTopW1 | exact kTDragD0 | exact kTDragB2)); first | ((apply q_allB) <;> (intro z_b _ _ _; first | exact Bool.noConfusion z_b | replace z_b := of_decide_eq_true z_b | replace z_b := of_decide_eq_false z_b | skip) <;> ((try simp only [AllOk, Bd.ok, and_true] at z_b); first | contradiction | (revert z_b; intros))) | ((apply q_alli) <;> intro _ _ _ _ <;> try contradiction) | (apply q_allv; intro _ _ _)) | fail)); all_goals ((conv => whnf); try with_reducible apply At.mk)))
    apply q_call
    focus (exact byNext)
    focus (exact byLo)
    focus exact friction_api (L := L) (m := h2.next) (x := r + k) byOm (hL.same bySame (Nat.le_refl _))
    intro v h6 hv6 q6 hn6
    rw [hfr] at hv6
    subst hv6
    have s6 : Same h2.next h2 h6 := fun x hx => (q6.same x byOm).trans ((get_of fun y hy => byGet).trans (q4 x hx))
    have G6 := G4.frame (h' := h6) fun h0 => (q6.same _ (by have := hr4 h0; (exact byOm))).trans (get_of fun y hy => byGet)
    have hn6' : h4.next ≤ h6.next := by have := q6.next; (exact byOm)
    clear q4 G4
    (focus ((try with_reducible apply wpC.to); (repeat' ((conv => whnf); first | refine byEv ?_ | (apply Fork.mk <;> (intro _; try (exfalso; omega))) | ((apply q_call); (focus exact byNext); (focus exact byLo); (focus (first | exact kTopW1 | exact kTDragD0 | exact kTDragB2)); first | ((apply q_allB) <;> (intro z_b _ _ _; first | exact Bool.noConfusion z_b | replace z_b := of_decide_eq_true z_b | replace z_b := of_decide_eq_false z_b | skip) <;> ((try simp only [AllOk, Bd.ok, and_true] at z_b); first | contradiction | (revert z_b; intros))) | ((apply q_alli) <;> intro _ _ _ _ <;> try contradiction) | (apply q_allv; intro _ _ _)) | fail)); all_goals ((conv => whnf); try with_reducible apply At.mk)))
    apply q_appGG (r := r3) (n := k) (m := 1) (cs := iCells (fun k => Drag.fric L (r + k)) k) (nc := [.int .i64 (Drag.fric L (r + k))]) (v := w)
    case G => exact G6.frame fun h0 => get_of fun y hy => by have := hr4 h0; (exact byGet)
    case hsv => exact rfl
    case C => exact Cells.one byMem (by unfold AE.far; omega) rfl rfl
    case hm => omega
    case hlo => (exact byOm)
    case hlr => exact fun h0 => by have := hr4 h0; exact ⟨byOm, byOm⟩
    case hsm => omega
    intro w' r4 row ha hb hc G7
    rw [show iCells (fun k : Nat => Drag.fric L (r + k)) k ++ [.int .i64 (Drag.fric L (r + k))] = iCells (fun k : Nat => Drag.fric L (r + k)) (k + 1) by unfold iCells; rfl] at G7
    have hr4' : h2.next ≤ r4 := by
      rcases Nat.eq_zero_or_pos k with h0 | h0
      · have := ha h0; (exact byOm)
      · have := hb h0; have := hr4 h0; (exact byOm)
    (focus ((try with_reducible apply wpC.to); (repeat' ((conv => whnf); first | refine byEv ?_ | (apply Fork.mk <;> (intro _; try (exfalso; omega))) | ((apply q_call); (focus exact byNext); (focus exact byLo); (focus (first | exact kTopW1 | exact kTDragD0 | exact kTDragB2)); first | ((apply q_allB) <;> (intro z_b _ _ _; first | exact Bool.noConfusion z_b | replace z_b := of_decide_eq_true z_b | replace z_b := of_decide_eq_false z_b | skip) <;> ((try simp only [AllOk, Bd.ok, and_true] at z_b); first | contradiction | (revert z_b; intros))) | ((apply q_alli) <;> intro _ _ _ _ <;> try contradiction) | (apply q_allv; intro _ _ _)) | fail)); all_goals ((conv => whnf); try with_reducible apply At.mk)))
    refine hK4 (k + 1, r4, w') _ _ ⟨rfl, rfl, rfl, rfl, int_of rfl (by dsimp only; omega), trivial⟩ ⟨bySame, byOm, by dsimp only; omega, G7.frame fun h0 => get_of fun y hy => byGet, fun _ => ⟨hr4', by dsimp only; (exact byOm)⟩⟩ (by dsimp only; omega)
  have ek : k = T.n * m + 1 := by omega
  subst ek
  unfold iCells at G4
  obtain ⟨aw, hw, jw, bw⟩ := G4.els (f := fun k => [.int .i64 (Drag.fric L (r + k))]) fun _ => rfl
  have hw := hw (by omega)
  subst hw
  have bw := bw (by omega)
  have hr4 := hr4 (by omega)
  have kF : Arr.Ok ⟨T.n * m + 1, fun k => Drag.fric L (r + k), some aw, aw, 0⟩ h4.next h4 := ⟨fun _ => rfl, fun i hi => by have := jw i hi; rw [Nat.mul_one] at this; exact this, fun _ => by dsimp only; omega, by dsimp only; omega⟩
  have hfine := hS.fine.law hS.n1
  have hCb : ∀ i, i < T.n + 1 → -1000000 ≤ L.cf i ∧ L.cf i ≤ 1000000 := fun i hi => by have := cfB i (by omega); rw [eCf]; omega
  have hFb : ∀ i, i < T.n * m + 1 → -1000000 ≤ Drag.fric L (r + i) ∧ Drag.fric L (r + i) ≤ 1000000 := fun i hi => by have := fric_bd hv (hS.inside (k := i) (by omega)); omega
  have mF : measR (T.n * m + 1) (fun k => Drag.fric L (r + k)) = (changes (fun k => Drag.fric L (r + k)) (T.n * m + 1), Fair.bend (fun k => Drag.fric L (r + k)) (T.n * m + 1), 0) := by
    unfold measR; rw [if_neg (by omega), if_pos hFb]
  have mC : measR (T.n + 1) L.cf = (changes L.cf (T.n + 1), Fair.bend L.cf (T.n + 1), 0) := by
    unfold measR; rw [if_neg (by omega), if_pos hCb]
  have bF : 0 ≤ Fair.bend (fun k => Drag.fric L (r + k)) (T.n * m + 1) ∧ Fair.bend (fun k => Drag.fric L (r + k)) (T.n * m + 1) ≤ 1000000000 := by
    have := ms_bd (f := fun k => Drag.fric L (r + k)) (B := 1000000) (k := T.n * m + 1 - 2)
    unfold Fair.bend
    by_cases h0 : T.n * m + 1 - 2 + 1 < T.n * m + 1
    · have := this fun i hi => hFb i (by omega)
      omega
    · have : T.n * m + 1 - 2 = 0 := by omega
      rw [this]; simp [ms]
  have pF : 0 ≤ (m : Int) * Fair.bend (fun k => Drag.fric L (r + k)) (T.n * m + 1) ∧ (m : Int) * Fair.bend (fun k => Drag.fric L (r + k)) (T.n * m + 1) ≤ 20000000000 := by
    have a := Int.mul_nonneg (a := (m : Int)) (b := Fair.bend (fun k => Drag.fric L (r + k)) (T.n * m + 1)) (by omega) (by omega)
    have b := Int.mul_le_mul (a := (m : Int)) (b := Fair.bend (fun k => Drag.fric L (r + k)) (T.n * m + 1)) (c := 20) (d := 1000000000) (by omega) (by omega) (by omega) (by omega)
    omega
  (focus ((try with_reducible apply wpC.to); (repeat' ((conv => whnf); first | refine byEv ?_ | (apply Fork.mk <;> (intro _; try (exfalso; omega))) | ((apply q_call); (focus exact byNext); (focus exact byLo); (focus (first | exact kTopW1 | exact kTDragD0 | exact kTDragB2)); first | ((apply q_allB) <;> (intro z_b _ _ _; first | exact Bool.noConfusion z_b | replace z_b := of_decide_eq_true z_b | replace z_b := of_decide_eq_false z_b | skip) <;> ((try simp only [AllOk, Bd.ok, and_true] at z_b); first | contradiction | (revert z_b; intros))) | ((apply q_alli) <;> intro _ _ _ _ <;> try contradiction) | (apply q_allv; intro _ _ _)) | fail)); all_goals ((conv => whnf); try with_reducible apply At.mk)))
  apply q_call
  focus (exact byNext)
  focus (exact byLo)
  focus exact measureApi_w (m := h4.next) byOm (kF.same bySame (Nat.le_refl _))
  intro v h6 hv6 q6 hn6
  dsimp only at hv6
  rw [mF] at hv6
  dsimp only at hv6
  subst hv6
  have s6 : Same h2.next h2 h6 := fun x hx => (q6.same x byOm).trans ((get_of fun y hy => byGet).trans (q4 x hx))
  have hg6 := (s6 _ (by omega : h1.next + 11 < h2.next)).trans hg
  have hn6' : h4.next ≤ h6.next := by have := q6.next; (exact byOm)
  have kC : Arr.Ok ⟨L.m, L.cf, L.b2, L.a2, L.c2⟩ h2.next h2 := ⟨hL.e2, hL.i2, hL.r2, hL.l2⟩
  clear q4 kF jw G4 q6 hg4
  (focus ((try with_reducible apply wpC.to); (repeat' ((conv => whnf); first | refine byEv ?_ | (apply Fork.mk <;> (intro _; try (exfalso; omega))) | ((apply q_call); (focus exact byNext); (focus exact byLo); (focus (first | exact kTopW1 | exact kTDragD0 | exact kTDragB2)); first | ((apply q_allB) <;> (intro z_b _ _ _; first | exact Bool.noConfusion z_b | replace z_b := of_decide_eq_true z_b | replace z_b := of_decide_eq_false z_b | skip) <;> ((try simp only [AllOk, Bd.ok, and_true] at z_b); first | contradiction | (revert z_b; intros))) | ((apply q_alli) <;> intro _ _ _ _ <;> try contradiction) | (apply q_allv; intro _ _ _)) | fail)); all_goals ((conv => whnf); try with_reducible apply At.mk)))
  apply q_call
  focus (exact byNext)
  focus (exact byLo)
  focus exact measureApi_w (m := h2.next) byOm (kC.same bySame (Nat.le_refl _))
  intro v h7 hv7 q7 hn7
  dsimp only at hv7
  rw [eM, mC] at hv7
  dsimp only at hv7
  subst hv7
  (focus ((try with_reducible apply wpC.to); (repeat' ((conv => whnf); first | refine byEv ?_ | (apply Fork.mk <;> (intro _; try (exfalso; omega))) | ((apply q_call); (focus exact byNext); (focus exact byLo); (focus (first | exact kTopW1 | exact kTDragD0 | exact kTDragB2)); first | ((apply q_allB) <;> (intro z_b _ _ _; first | exact Bool.noConfusion z_b | replace z_b := of_decide_eq_true z_b | replace z_b := of_decide_eq_false z_b | skip) <;> ((try simp only [AllOk, Bd.ok, and_true] at z_b); first | contradiction | (revert z_b; intros))) | ((apply q_alli) <;> intro _ _ _ _ <;> try contradiction) | (apply q_allv; intro _ _ _)) | fail)); all_goals ((conv => whnf); try with_reducible apply At.mk)))
  (refine byFin ?_)
  rfl
end AE.Tryz
