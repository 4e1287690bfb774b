/- Walks and plain laws: TDragSix, TDragR, TopG1. -/
import Derived.Test.YtndkjpkadfpflaaGreatAEthree
import Derived.Test.YtndkjpkadfpflaaGreatTDragE
import Derived.Test.YtndkjpkadfpflaaGreatJoin2
import Derived.Test.YtndkjpkadfpflaaGreatTDragQ
set_option linter.unusedVariables false
set_option linter.unusedSimpArgs false
set_option linter.unusedSectionVars false

/- Six numbers. -/
namespace AE.Tryz
open Go AE

/-- Six numbers. -/
structure Six where
  a : Int
  b : Int
  c : Int
  d : Int
  e : Int
  f : Int
def Six.cells (s : Six) : List Value := [.int .u32 s.a, .int .u32 s.b, .int .u32 s.c, .int .u32 s.d, .int .u32 s.e, .int .u32 s.f]
structure Six.Ok (s : Six) : Prop where
  a : 0 ≤ s.a ∧ s.a < 4294967296
  b : 0 ≤ s.b ∧ s.b < 4294967296
  c : 0 ≤ s.c ∧ s.c < 4294967296
  d : 0 ≤ s.d ∧ s.d < 4294967296
  e : 0 ≤ s.e ∧ s.e < 4294967296
  f : 0 ≤ s.f ∧ s.f < 4294967296
end AE.Tryz

/- Walks: a truth, by numbers. -/
namespace AE.Tryz
open Go AE AE.Drag Go.Proofs
set_option maxRecDepth 100000
def pickZ (a b n : Int) : Int := a + n % (b - a + 1)
theorem pickZ_in {a b n : Int} (h : a ≤ b) : a ≤ pickZ a b n ∧ pickZ a b n ≤ b := by
  unfold pickZ
  have h1 := Int.emod_nonneg n (by omega : b - a + 1 ≠ 0)
  have h2 := Int.emod_lt_of_pos n (by omega : 0 < b - a + 1)
  omega
theorem pick_w {h : H} {a b n : Int} (hab : a ≤ b) (h0 : 0 ≤ a) (h1 : b ≤ 100000000) (hn : 0 ≤ n ∧ n < 4294967296) : AW Tryz.prog 74 h.next h [.agg ⟨[.int .i64 a, .int .i64 b]⟩, .int .u32 n] (fun w _ => w = .int .i64 (pickZ a b n)) := by
  have h2 := pickZ_in (n := n) hab
  unfold pickZ at h2
  refine fun74.call rfl (Nat.le_refl _) ?_
  unfold a74
  (focus ((try with_reducible apply wpC.to); (repeat' ((conv => whnf); first | refine byEv ?_ | fail)); all_goals ((conv => whnf); try with_reducible apply At.mk)))
  all_goals ((refine byFin ?_); rfl)
theorem kTDragR0 {G : Prop} (g : G := by ((apply pick_w; (focus omega); (focus omega); (focus omega); (focus assumption)))) : G := g
def pickX (t : T) (s : Six) : X := ⟨pickZ t.fl t.fh s.a, pickZ t.tl t.th s.b, pickZ t.sl t.sh s.c, pickZ t.ml t.mh s.d, pickZ t.bl t.bh s.e, pickZ t.rl t.rh s.f⟩
theorem pickX_true {t : T} (k : t.Ok) (s : Six) : IsTrue t (pickX t s) := by
  have a := pickZ_in (n := s.a) k.f2
  have b := pickZ_in (n := s.b) k.t2
  have c := pickZ_in (n := s.c) k.e2
  have d := pickZ_in (n := s.d) k.m2
  have e := pickZ_in (n := s.e) k.b2
  have f := pickZ_in (n := s.f) k.r2
  constructor <;> simp only [pickX] <;> omega
theorem true_w {h : H} {t : T} {s : Six} (k : t.Ok) (hs : s.Ok) : AW Tryz.prog 29 h.next h [.agg ⟨t.cells⟩, .agg ⟨s.cells⟩] (fun w _ => w = .agg ⟨(pickX t s).cells⟩) := by
  obtain ⟨a, b, c, d, e, f⟩ := hs
  obtain ⟨s1, s2, l1, l2, w1, w2, a1, a2, f1, f2, f3, t1, t2, t3, e1, e2, e3, m1, m2, m3, b1, b2, b3, r1, r2, r3⟩ := k
  refine fun29.call rfl (Nat.le_refl _) ?_
  unfold a29
  (focus ((try with_reducible apply wpC.to); (repeat' ((conv => whnf); first | refine byEv ?_ | ((apply q_call); (focus exact byNext); (focus exact byLo); (focus (first | exact kTDragR0 | exact kTDragD0)); first | ((apply q_allB) <;> (intro z_b _ _ _; first | exact Bool.noConfusion z_b | replace z_b := of_decide_eq_true z_b | replace z_b := of_decide_eq_false z_b | skip) <;> ((try simp only [AllOk, Bd.ok, and_true] at z_b); first | contradiction | (revert z_b; intros))) | ((apply q_alli) <;> intro _ _ _ _ <;> try contradiction) | (apply q_allv; intro _ _ _)) | fail)); all_goals ((conv => whnf); try with_reducible apply At.mk)))
  all_goals ((refine byFin ?_); rfl)
theorem kTDragR1 {G : Prop} (g : G := by ((apply AW.arg12; (focus (apply true_w; (focus assumption); (focus assumption))); (focus exact Is.rfl); (focus exact Is.rfl)))) : G := g
end AE.Tryz

/- Walk: which lines are valid, and not too long. -/
namespace AE.Tryz
open Go AE Go.Proofs AE.Drag
set_option maxRecDepth 100000
set_option linter.unusedVariables false

theorem ln_part {h : H} {S : Lines} {i o k : Nat} {l : List Value} (e : Els h S.a S.k 2 (fun i => (S.ln i).cells)) (hi : i < S.k) (hc : cut (S.ln i).cells o k = some l) : h.loadN (aadd (aadd S.a (i * 2)) o) k = some l := load_part (e i hi) hc
theorem xTopG10 {G G' : Prop} (g : G') (t : G' → G := by (((with_reducible apply Load1.mk); (focus ((repeat (first | (apply ln_part <;> first | assumption | omega | exact rfl) | with_reducible apply bump_old | ((with_reducible apply put_old); focus (dsimp only [aadd]; omega)) | ((with_reducible apply quiet_old); (focus assumption); focus (dsimp only [aadd]; omega)) | ((with_reducible apply same_old); (focus assumption); focus (dsimp only [aadd]; omega)))); (first | done | fail))); (focus exact byVal)))) : G := t g
theorem lines04_w {h : H} {S : Lines} {m : Nat} (hm : m ≤ h.next) (hS : S.Ok m h) : AW Tryz.prog 24 h.next h [.slice S.b S.k S.c] (fun v _ => v = .bool (decide (linesErr S = 0))) := by
  have hS' := hS
  obtain ⟨e1, i1, r1, ok, l1⟩ := hS
  refine fun24.call rfl (Nat.le_refl _) ?_
  unfold a24
  (focus ((try with_reducible apply wpC.to); (repeat' ((conv => whnf); first | refine byEv ?_ | (apply Fork.mk <;> (intro _; try (exfalso; omega))) | ((apply q_call); (focus exact byNext); (focus exact byLo); (focus (first | exact kTDragH1 | exact kTDragG2 | exact kTDragF5 | exact kTDragF4 | exact kTDragD0)); first | ((apply q_allB) <;> (intro z_b _ _ _; first | exact Bool.noConfusion z_b | replace z_b := of_decide_eq_true z_b | replace z_b := of_decide_eq_false z_b | skip) <;> ((try simp only [AllOk, Bd.ok, and_true] at z_b); first | contradiction | (revert z_b; intros))) | ((apply q_alli) <;> intro _ _ _ _ <;> try contradiction) | (apply q_allv; intro _ _ _)) | refine xTopG10 ?_ | fail)); all_goals ((conv => whnf); try with_reducible apply At.mk)))
  refine wp_loop (fun s : Nat => [(0, .slice S.b S.k S.c), (3, .int .i64 s)]) (fun s h1 => Same h.next h h1 ∧ h.next ≤ h1.next ∧ s ≤ S.k) (fun s => S.k - s) 0 ⟨rfl, rfl, trivial⟩ ⟨bySame, byOm, by omega⟩ ?_
  rintro s g h1 ⟨q, hn1, hs⟩ K hK
  by_cases hsk : s < S.k
  · have hL := ok s hsk
    have l1' := hL.l1
    have l2' := hL.l2
    have hbad : ∀ (_ : 20 < (S.ln s).n ∨ 20 < (S.ln s).m), linesErr S ≠ 0 := fun hb he => by
      have v := (linesErr_valid.1 he).v s hsk
      have := v.hi
      have := v.eq
      omega
    (focus ((try with_reducible apply wpC.to); (repeat' ((conv => whnf); first | refine byEv ?_ | (apply Fork.mk <;> (intro _; try (exfalso; omega))) | ((apply q_call); (focus exact byNext); (focus exact byLo); (focus (first | exact kTDragH1 | exact kTDragG2 | exact kTDragF5 | exact kTDragF4 | exact kTDragD0)); first | ((apply q_allB) <;> (intro z_b _ _ _; first | exact Bool.noConfusion z_b | replace z_b := of_decide_eq_true z_b | replace z_b := of_decide_eq_false z_b | skip) <;> ((try simp only [AllOk, Bd.ok, and_true] at z_b); first | contradiction | (revert z_b; intros))) | ((apply q_alli) <;> intro _ _ _ _ <;> try contradiction) | (apply q_allv; intro _ _ _)) | refine xTopG10 ?_ | fail)); all_goals ((conv => whnf); try with_reducible apply At.mk)))
    · (refine byFin ?_)
      exact bool_f rfl (hbad (.inl (by omega)))
    · (refine byFin ?_)
      exact bool_f rfl (hbad (.inr (by omega)))
    · exact hK (s + 1) _ _ ⟨rfl, int_of rfl (by omega), trivial⟩ ⟨bySame, byOm, by omega⟩ (by omega)
  have es : s = S.k := by omega
  subst es
  (focus ((try with_reducible apply wpC.to); (repeat' ((conv => whnf); first | refine byEv ?_ | (apply Fork.mk <;> (intro _; try (exfalso; omega))) | ((apply q_call); (focus exact byNext); (focus exact byLo); (focus (first | exact kTDragH1 | exact kTDragG2 | exact kTDragF5 | exact kTDragF4 | exact kTDragD0)); first | ((apply q_allB) <;> (intro z_b _ _ _; first | exact Bool.noConfusion z_b | replace z_b := of_decide_eq_true z_b | replace z_b := of_decide_eq_false z_b | skip) <;> ((try simp only [AllOk, Bd.ok, and_true] at z_b); first | contradiction | (revert z_b; intros))) | ((apply q_alli) <;> intro _ _ _ _ <;> try contradiction) | (apply q_allv; intro _ _ _)) | refine xTopG10 ?_ | fail)); all_goals ((conv => whnf); try with_reducible apply At.mk)))
  all_goals (refine byFin ?_)
  all_goals first
    | exact bool_t rfl (by omega)
    | exact bool_f rfl (by omega)
    | (refine bool_f rfl ?_; unfold linesErr; rw [if_pos (by omega)]; omega)
theorem kTopG10 {G : Prop} (g : G := by ((apply lines04_w; rotate_left; (focus (apply Lines.Ok.same; (focus assumption); (focus exact bySame); (focus exact Nat.le_refl _))); (focus exact byOm)))) : G := g
end AE.Tryz
