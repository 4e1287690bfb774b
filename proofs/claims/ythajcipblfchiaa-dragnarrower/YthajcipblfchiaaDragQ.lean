/- Walks of the reference: the span by all ends. -/
import Derived.Test.YthajcipblfchiaaDragH
import Derived.Test.YthajcipblfchiaaDragSpec7
set_option linter.unusedVariables false
set_option linter.unusedSimpArgs false
set_option linter.unusedSectionVars false
namespace AE.Try
open Go AE AE.Drag Go.Proofs
set_option maxRecDepth 100000

theorem refReynolds_ok {h : H} {t : T} (k : t.Ok) : AW Try.prog 20 h.next h [.agg ⟨t.cells⟩] (fun w _ => w = .tuple #[.agg ⟨[.int .i64 (modelRe t t.th), .int .i64 (modelRe t t.tl)]⟩, .agg ⟨[.int .i64 (shipRe t t.sh), .int .i64 (shipRe t t.sl)]⟩, .int .i64 0]) := by
  have := refReynolds_api (h := h) (t := t) .mk
  unfold reynV reynR at this
  rwa [if_pos (testErr_0 k)] at this

/-- Reckoned. -/
theorem refReckoned_w {h : H} {t : T} {S : Lines} {m : Nat} (hm : m ≤ h.next) (k : t.Ok) (hS : S.Ok m h) (v : S.Valid) : AW Try.prog 58 h.next h [.agg ⟨t.cells⟩, .slice S.b S.k S.c] (fun w _ => w = .bool (decide (Reckoned t S))) := by
  obtain ⟨e1, i1, r1, ok, l1⟩ := hS
  refine fun58.call rfl (Nat.le_refl _) ?_
  unfold a58
  (focus ((try with_reducible apply wpC.to); (repeat' ((conv => whnf); first | ((apply Start.mk); (focus exact byNext); (focus exact byLen)) | ((apply New.mk); (focus exact byNid)) | ((apply Need.mk); (focus exact byNeed)) | ((apply Fork.mk) <;> (intro _; try (exfalso; omega; done))) | ((apply LoadN.mk); (focus exact byMem); (focus exact byList)) | ((apply Sto.mk); (focus exact bySto); (focus exact byLo); (focus exact byGet); (focus exact rfl); (focus exact rfl); (focus exact rfl); (focus exact byList)) | ((with_reducible apply Ix.nat); (focus exact rfl); (focus omega)) | ((with_reducible apply Ix.natp); (focus assumption); (focus omega)) | ((with_reducible apply Ix.pred); (focus first | assumption | exact fun _ => rfl); (focus omega); (focus omega)) | ((with_reducible apply Ix.lit); (focus exact byLit); (focus first | assumption | exact fun _ => rfl); (focus omega); (focus omega)) | ((with_reducible apply Ix.int); (focus exact rfl); (focus omega); (focus omega)) | ((with_reducible apply Ix.intp); (focus assumption); (focus omega); (focus omega)) | ((apply q_call); (focus exact byNext); (focus exact byLo); (focus (first | (apply AW.arg1; (focus (apply refReynolds_ok; (focus assumption))); (focus exact Is.rfl)) | (apply AW.arg1; (focus (apply inside_w; rotate_left; (focus (apply Line.Ok.same; (focus assumption); (focus exact bySame); (focus exact Nat.le_refl _))); (focus omega); (focus exact byOm))); (focus exact Is.rfl)))); first | ((apply q_allB) <;> (intro z_b _ _ _; first | exact Bool.noConfusion z_b | replace z_b := of_decide_eq_true z_b | replace z_b := of_decide_eq_false z_b | skip) <;> ((try simp only [AllOk, Bd.ok, and_true] at z_b); first | contradiction | (revert z_b; intros))) | ((apply q_alli) <;> (intro _ _ _ _; try contradiction)) | ((apply q_allv); intro _ _ _)) | apply forceV_any | apply forceL_any)); all_goals (conv => whnf); all_goals (try with_reducible apply At.mk)))
  refine wp_loop (fun s : Nat => [(1, .slice S.b S.k S.c), (5, .pointer (some ⟨h.next + 8, 0, none⟩)), (6, .pointer (some ⟨h.next + 9, 0, none⟩)), (8, .int .i64 s)])
    (fun s h1 => h1.get (h.next + 8) = some (.cells [.int .i64 (modelRe t t.th), .int .i64 (modelRe t t.tl)] 33) ∧ h1.get (h.next + 9) = some (.cells [.int .i64 (shipRe t t.sh), .int .i64 (shipRe t t.sl)] 33) ∧ Same h.next h h1 ∧ h.next + 13 ≤ h1.next ∧ s ≤ S.k ∧ ∀ j, j < s → reckons t (S.ln j)) (fun s => S.k - s) 0 ⟨rfl, rfl, rfl, rfl, trivial⟩ ⟨by (exact byGet), by (exact byGet), by (exact bySame), by (exact byOm), by omega, fun j hj => by omega⟩ ?_
  rintro s g h1 ⟨g1, g2, q, hn1, hs, hz⟩ K hK
  by_cases hsk : s < S.k
  · have hL := ok s hsk
    have hv := v.v s hsk
    have hlo := hv.lo
    (focus ((try with_reducible apply wpC.to); (repeat' ((conv => whnf); first | ((apply Start.mk); (focus exact byNext); (focus exact byLen)) | ((apply New.mk); (focus exact byNid)) | ((apply Need.mk); (focus exact byNeed)) | ((apply Fork.mk) <;> (intro _; try (exfalso; omega; done))) | ((apply LoadN.mk); (focus exact byMem); (focus exact byList)) | ((apply Sto.mk); (focus exact bySto); (focus exact byLo); (focus exact byGet); (focus exact rfl); (focus exact rfl); (focus exact rfl); (focus exact byList)) | ((with_reducible apply Ix.nat); (focus exact rfl); (focus omega)) | ((with_reducible apply Ix.natp); (focus assumption); (focus omega)) | ((with_reducible apply Ix.pred); (focus first | assumption | exact fun _ => rfl); (focus omega); (focus omega)) | ((with_reducible apply Ix.lit); (focus exact byLit); (focus first | assumption | exact fun _ => rfl); (focus omega); (focus omega)) | ((with_reducible apply Ix.int); (focus exact rfl); (focus omega); (focus omega)) | ((with_reducible apply Ix.intp); (focus assumption); (focus omega); (focus omega)) | ((apply q_call); (focus exact byNext); (focus exact byLo); (focus (first | (apply AW.arg1; (focus (apply refReynolds_ok; (focus assumption))); (focus exact Is.rfl)) | (apply AW.arg1; (focus (apply inside_w; rotate_left; (focus (apply Line.Ok.same; (focus assumption); (focus exact bySame); (focus exact Nat.le_refl _))); (focus omega); (focus exact byOm))); (focus exact Is.rfl)))); first | ((apply q_allB) <;> (intro z_b _ _ _; first | exact Bool.noConfusion z_b | replace z_b := of_decide_eq_true z_b | replace z_b := of_decide_eq_false z_b | skip) <;> ((try simp only [AllOk, Bd.ok, and_true] at z_b); first | contradiction | (revert z_b; intros))) | ((apply q_alli) <;> (intro _ _ _ _; try contradiction)) | ((apply q_allv); intro _ _ _)) | apply forceV_any | apply forceL_any)); all_goals (conv => whnf); all_goals (try with_reducible apply At.mk)))
    all_goals first
      | ((first | (apply fin1; (focus first | exact .inl rfl | exact .inr rfl); focus exact byR1) | (apply fin2; (focus first | exact .inl rfl | exact .inr rfl); (focus exact byR1); (focus exact byR1)) | (apply fin3; (focus first | exact .inl rfl | exact .inr rfl); (focus exact byR1); (focus exact byR1); (focus exact byR1)) | (apply fin0; (focus first | exact .inl rfl | exact .inr rfl)))
         refine bool_f rfl fun c => ?_
         have := c s hsk
         unfold reckons at this
         omega)
      | (refine hK (s + 1) _ _ ⟨rfl, rfl, rfl, int_of rfl (by omega), trivial⟩ ⟨by (exact byGet), by (exact byGet), by (exact bySame), by (exact byOm), by omega, fun j hj => ?_⟩ (by omega)
         by_cases e : j = s
         · subst e; unfold reckons; omega
         · exact hz j (by omega))
  · have : s = S.k := by omega
    subst this
    (focus ((try with_reducible apply wpC.to); (repeat' ((conv => whnf); first | ((apply Start.mk); (focus exact byNext); (focus exact byLen)) | ((apply New.mk); (focus exact byNid)) | ((apply Need.mk); (focus exact byNeed)) | ((apply Fork.mk) <;> (intro _; try (exfalso; omega; done))) | ((apply LoadN.mk); (focus exact byMem); (focus exact byList)) | ((apply Sto.mk); (focus exact bySto); (focus exact byLo); (focus exact byGet); (focus exact rfl); (focus exact rfl); (focus exact rfl); (focus exact byList)) | ((with_reducible apply Ix.nat); (focus exact rfl); (focus omega)) | ((with_reducible apply Ix.natp); (focus assumption); (focus omega)) | ((with_reducible apply Ix.pred); (focus first | assumption | exact fun _ => rfl); (focus omega); (focus omega)) | ((with_reducible apply Ix.lit); (focus exact byLit); (focus first | assumption | exact fun _ => rfl); (focus omega); (focus omega)) | ((with_reducible apply Ix.int); (focus exact rfl); (focus omega); (focus omega)) | ((with_reducible apply Ix.intp); (focus assumption); (focus omega); (focus omega)) | ((apply q_call); (focus exact byNext); (focus exact byLo); (focus (first | (apply AW.arg1; (focus (apply refReynolds_ok; (focus assumption))); (focus exact Is.rfl)) | (apply AW.arg1; (focus (apply inside_w; rotate_left; (focus (apply Line.Ok.same; (focus assumption); (focus exact bySame); (focus exact Nat.le_refl _))); (focus omega); (focus exact byOm))); (focus exact Is.rfl)))); first | ((apply q_allB) <;> (intro z_b _ _ _; first | exact Bool.noConfusion z_b | replace z_b := of_decide_eq_true z_b | replace z_b := of_decide_eq_false z_b | skip) <;> ((try simp only [AllOk, Bd.ok, and_true] at z_b); first | contradiction | (revert z_b; intros))) | ((apply q_alli) <;> (intro _ _ _ _; try contradiction)) | ((apply q_allv); intro _ _ _)) | apply forceV_any | apply forceL_any)); all_goals (conv => whnf); all_goals (try with_reducible apply At.mk)))
    (first | (apply fin1; (focus first | exact .inl rfl | exact .inr rfl); focus exact byR1) | (apply fin2; (focus first | exact .inl rfl | exact .inr rfl); (focus exact byR1); (focus exact byR1)) | (apply fin3; (focus first | exact .inl rfl | exact .inr rfl); (focus exact byR1); (focus exact byR1); (focus exact byR1)) | (apply fin0; (focus first | exact .inl rfl | exact .inr rfl)))
    exact bool_t rfl hz

/-- A shift by a few places. -/
theorem shr_eq (s k : Nat) (p : Int) (hp : p = 2 ^ k) : (s : Int).fdiv p = ((s / 2 ^ k : Nat) : Int) := by
  subst hp
  have h2 : (2 : Int) ^ k = ((2 ^ k : Nat) : Int) := by simp
  rw [h2, Int.fdiv_eq_ediv_of_nonneg _ (Int.natCast_nonneg _)]
  exact (Int.natCast_ediv _ _).symm
/-- end, of one range by a bit. -/
def bitOf (s k : Nat) (a b : Int) : Int := if s / 2 ^ k % 2 = 1 then b else a
theorem refEnd0_w {h : H} {a b : Int} {s : Nat} (hs : s < 32) : AW Try.prog 68 h.next h [.agg ⟨[.int .i64 a, .int .i64 b]⟩, .int .i64 s, .int .i64 0] (fun w _ => w = .int .i64 (bitOf s 0 a b)) := by
  refine fun68.call rfl (Nat.le_refl _) ?_
  unfold a68 bitOf
  (focus ((try with_reducible apply wpC.to); (repeat' ((conv => whnf); first | ((apply Start.mk); (focus exact byNext); (focus exact byLen)) | ((apply New.mk); (focus exact byNid)) | ((apply Need.mk); (focus exact byNeed)) | ((apply Fork.mk) <;> (intro _; try (exfalso; omega; done))) | ((apply Load1.mk); (focus exact byMem); (focus exact byVal)) | ((with_reducible apply Ix.pred); (focus first | assumption | exact fun _ => rfl); (focus omega); (focus omega)) | ((apply OpE.val); (focus exact rfl); (focus exact byVal)) | apply forceV_any | apply forceL_any)); all_goals (conv => whnf); all_goals (try with_reducible apply At.mk)))
  rw [shr_eq s 0 (2 ^ min (Int.toNat 0) IntKind.i64.bits) rfl]
  (focus ((try with_reducible apply wpC.to); (repeat' ((conv => whnf); first | ((apply Start.mk); (focus exact byNext); (focus exact byLen)) | ((apply New.mk); (focus exact byNid)) | ((apply Need.mk); (focus exact byNeed)) | ((apply Fork.mk) <;> (intro _; try (exfalso; omega; done))) | ((apply Load1.mk); (focus exact byMem); (focus exact byVal)) | ((with_reducible apply Ix.pred); (focus first | assumption | exact fun _ => rfl); (focus omega); (focus omega)) | ((apply OpE.val); (focus exact rfl); (focus exact byVal)) | apply forceV_any | apply forceL_any)); all_goals (conv => whnf); all_goals (try with_reducible apply At.mk)))
  all_goals (first | (apply fin1; (focus first | exact .inl rfl | exact .inr rfl); focus exact byR1) | (apply fin2; (focus first | exact .inl rfl | exact .inr rfl); (focus exact byR1); (focus exact byR1)) | (apply fin3; (focus first | exact .inl rfl | exact .inr rfl); (focus exact byR1); (focus exact byR1); (focus exact byR1)) | (apply fin0; (focus first | exact .inl rfl | exact .inr rfl)))
  · rw [if_pos (by omega)]
  · rw [if_neg (by omega)]
theorem refEnd1_w {h : H} {a b : Int} {s : Nat} (hs : s < 32) : AW Try.prog 68 h.next h [.agg ⟨[.int .i64 a, .int .i64 b]⟩, .int .i64 s, .int .i64 1] (fun w _ => w = .int .i64 (bitOf s 1 a b)) := by
  refine fun68.call rfl (Nat.le_refl _) ?_
  unfold a68 bitOf
  (focus ((try with_reducible apply wpC.to); (repeat' ((conv => whnf); first | ((apply Start.mk); (focus exact byNext); (focus exact byLen)) | ((apply New.mk); (focus exact byNid)) | ((apply Need.mk); (focus exact byNeed)) | ((apply Fork.mk) <;> (intro _; try (exfalso; omega; done))) | ((apply Load1.mk); (focus exact byMem); (focus exact byVal)) | ((with_reducible apply Ix.pred); (focus first | assumption | exact fun _ => rfl); (focus omega); (focus omega)) | ((apply OpE.val); (focus exact rfl); (focus exact byVal)) | apply forceV_any | apply forceL_any)); all_goals (conv => whnf); all_goals (try with_reducible apply At.mk)))
  rw [shr_eq s 1 (2 ^ min (Int.toNat 1) IntKind.i64.bits) rfl]
  (focus ((try with_reducible apply wpC.to); (repeat' ((conv => whnf); first | ((apply Start.mk); (focus exact byNext); (focus exact byLen)) | ((apply New.mk); (focus exact byNid)) | ((apply Need.mk); (focus exact byNeed)) | ((apply Fork.mk) <;> (intro _; try (exfalso; omega; done))) | ((apply Load1.mk); (focus exact byMem); (focus exact byVal)) | ((with_reducible apply Ix.pred); (focus first | assumption | exact fun _ => rfl); (focus omega); (focus omega)) | ((apply OpE.val); (focus exact rfl); (focus exact byVal)) | apply forceV_any | apply forceL_any)); all_goals (conv => whnf); all_goals (try with_reducible apply At.mk)))
  all_goals (first | (apply fin1; (focus first | exact .inl rfl | exact .inr rfl); focus exact byR1) | (apply fin2; (focus first | exact .inl rfl | exact .inr rfl); (focus exact byR1); (focus exact byR1)) | (apply fin3; (focus first | exact .inl rfl | exact .inr rfl); (focus exact byR1); (focus exact byR1); (focus exact byR1)) | (apply fin0; (focus first | exact .inl rfl | exact .inr rfl)))
  · rw [if_pos (by omega)]
  · rw [if_neg (by omega)]
theorem refEnd2_w {h : H} {a b : Int} {s : Nat} (hs : s < 32) : AW Try.prog 68 h.next h [.agg ⟨[.int .i64 a, .int .i64 b]⟩, .int .i64 s, .int .i64 2] (fun w _ => w = .int .i64 (bitOf s 2 a b)) := by
  refine fun68.call rfl (Nat.le_refl _) ?_
  unfold a68 bitOf
  (focus ((try with_reducible apply wpC.to); (repeat' ((conv => whnf); first | ((apply Start.mk); (focus exact byNext); (focus exact byLen)) | ((apply New.mk); (focus exact byNid)) | ((apply Need.mk); (focus exact byNeed)) | ((apply Fork.mk) <;> (intro _; try (exfalso; omega; done))) | ((apply Load1.mk); (focus exact byMem); (focus exact byVal)) | ((with_reducible apply Ix.pred); (focus first | assumption | exact fun _ => rfl); (focus omega); (focus omega)) | ((apply OpE.val); (focus exact rfl); (focus exact byVal)) | apply forceV_any | apply forceL_any)); all_goals (conv => whnf); all_goals (try with_reducible apply At.mk)))
  rw [shr_eq s 2 (2 ^ min (Int.toNat 2) IntKind.i64.bits) rfl]
  (focus ((try with_reducible apply wpC.to); (repeat' ((conv => whnf); first | ((apply Start.mk); (focus exact byNext); (focus exact byLen)) | ((apply New.mk); (focus exact byNid)) | ((apply Need.mk); (focus exact byNeed)) | ((apply Fork.mk) <;> (intro _; try (exfalso; omega; done))) | ((apply Load1.mk); (focus exact byMem); (focus exact byVal)) | ((with_reducible apply Ix.pred); (focus first | assumption | exact fun _ => rfl); (focus omega); (focus omega)) | ((apply OpE.val); (focus exact rfl); (focus exact byVal)) | apply forceV_any | apply forceL_any)); all_goals (conv => whnf); all_goals (try with_reducible apply At.mk)))
  all_goals (first | (apply fin1; (focus first | exact .inl rfl | exact .inr rfl); focus exact byR1) | (apply fin2; (focus first | exact .inl rfl | exact .inr rfl); (focus exact byR1); (focus exact byR1)) | (apply fin3; (focus first | exact .inl rfl | exact .inr rfl); (focus exact byR1); (focus exact byR1); (focus exact byR1)) | (apply fin0; (focus first | exact .inl rfl | exact .inr rfl)))
  · rw [if_pos (by omega)]
  · rw [if_neg (by omega)]
theorem refEnd3_w {h : H} {a b : Int} {s : Nat} (hs : s < 32) : AW Try.prog 68 h.next h [.agg ⟨[.int .i64 a, .int .i64 b]⟩, .int .i64 s, .int .i64 3] (fun w _ => w = .int .i64 (bitOf s 3 a b)) := by
  refine fun68.call rfl (Nat.le_refl _) ?_
  unfold a68 bitOf
  (focus ((try with_reducible apply wpC.to); (repeat' ((conv => whnf); first | ((apply Start.mk); (focus exact byNext); (focus exact byLen)) | ((apply New.mk); (focus exact byNid)) | ((apply Need.mk); (focus exact byNeed)) | ((apply Fork.mk) <;> (intro _; try (exfalso; omega; done))) | ((apply Load1.mk); (focus exact byMem); (focus exact byVal)) | ((with_reducible apply Ix.pred); (focus first | assumption | exact fun _ => rfl); (focus omega); (focus omega)) | ((apply OpE.val); (focus exact rfl); (focus exact byVal)) | apply forceV_any | apply forceL_any)); all_goals (conv => whnf); all_goals (try with_reducible apply At.mk)))
  rw [shr_eq s 3 (2 ^ min (Int.toNat 3) IntKind.i64.bits) rfl]
  (focus ((try with_reducible apply wpC.to); (repeat' ((conv => whnf); first | ((apply Start.mk); (focus exact byNext); (focus exact byLen)) | ((apply New.mk); (focus exact byNid)) | ((apply Need.mk); (focus exact byNeed)) | ((apply Fork.mk) <;> (intro _; try (exfalso; omega; done))) | ((apply Load1.mk); (focus exact byMem); (focus exact byVal)) | ((with_reducible apply Ix.pred); (focus first | assumption | exact fun _ => rfl); (focus omega); (focus omega)) | ((apply OpE.val); (focus exact rfl); (focus exact byVal)) | apply forceV_any | apply forceL_any)); all_goals (conv => whnf); all_goals (try with_reducible apply At.mk)))
  all_goals (first | (apply fin1; (focus first | exact .inl rfl | exact .inr rfl); focus exact byR1) | (apply fin2; (focus first | exact .inl rfl | exact .inr rfl); (focus exact byR1); (focus exact byR1)) | (apply fin3; (focus first | exact .inl rfl | exact .inr rfl); (focus exact byR1); (focus exact byR1); (focus exact byR1)) | (apply fin0; (focus first | exact .inl rfl | exact .inr rfl)))
  · rw [if_pos (by omega)]
  · rw [if_neg (by omega)]
theorem refEnd4_w {h : H} {a b : Int} {s : Nat} (hs : s < 32) : AW Try.prog 68 h.next h [.agg ⟨[.int .i64 a, .int .i64 b]⟩, .int .i64 s, .int .i64 4] (fun w _ => w = .int .i64 (bitOf s 4 a b)) := by
  refine fun68.call rfl (Nat.le_refl _) ?_
  unfold a68 bitOf
  (focus ((try with_reducible apply wpC.to); (repeat' ((conv => whnf); first | ((apply Start.mk); (focus exact byNext); (focus exact byLen)) | ((apply New.mk); (focus exact byNid)) | ((apply Need.mk); (focus exact byNeed)) | ((apply Fork.mk) <;> (intro _; try (exfalso; omega; done))) | ((apply Load1.mk); (focus exact byMem); (focus exact byVal)) | ((with_reducible apply Ix.pred); (focus first | assumption | exact fun _ => rfl); (focus omega); (focus omega)) | ((apply OpE.val); (focus exact rfl); (focus exact byVal)) | apply forceV_any | apply forceL_any)); all_goals (conv => whnf); all_goals (try with_reducible apply At.mk)))
  rw [shr_eq s 4 (2 ^ min (Int.toNat 4) IntKind.i64.bits) rfl]
  (focus ((try with_reducible apply wpC.to); (repeat' ((conv => whnf); first | ((apply Start.mk); (focus exact byNext); (focus exact byLen)) | ((apply New.mk); (focus exact byNid)) | ((apply Need.mk); (focus exact byNeed)) | ((apply Fork.mk) <;> (intro _; try (exfalso; omega; done))) | ((apply Load1.mk); (focus exact byMem); (focus exact byVal)) | ((with_reducible apply Ix.pred); (focus first | assumption | exact fun _ => rfl); (focus omega); (focus omega)) | ((apply OpE.val); (focus exact rfl); (focus exact byVal)) | apply forceV_any | apply forceL_any)); all_goals (conv => whnf); all_goals (try with_reducible apply At.mk)))
  all_goals (first | (apply fin1; (focus first | exact .inl rfl | exact .inr rfl); focus exact byR1) | (apply fin2; (focus first | exact .inl rfl | exact .inr rfl); (focus exact byR1); (focus exact byR1)) | (apply fin3; (focus first | exact .inl rfl | exact .inr rfl); (focus exact byR1); (focus exact byR1); (focus exact byR1)) | (apply fin0; (focus first | exact .inl rfl | exact .inr rfl)))
  · rw [if_pos (by omega)]
  · rw [if_neg (by omega)]

/-- The truth with the ends that the bits say. -/
def bitsX (t : T) (m : Int) (s : Nat) : X := ⟨bitOf s 0 t.fl t.fh, bitOf s 1 t.tl t.th, bitOf s 2 t.sl t.sh, m, bitOf s 3 t.bl t.bh, bitOf s 4 t.rl t.rh⟩
theorem bitOf_in (s k : Nat) {a b : Int} (h : a ≤ b) : a ≤ bitOf s k a b ∧ bitOf s k a b ≤ b := by unfold bitOf; split <;> omega
theorem bitsX_among {t : T} (k : t.Ok) {m : Int} (h1 : 0 ≤ m) (h2 : m ≤ 1000) (s : Nat) : Among t (bitsX t m s) := by
  obtain ⟨s1, s2, l1, l2, w1, w2, a1, a2, f1, f2, f3, t1, t2, t3, e1, e2, e3, m1, m2, m3, b1, b2, b3, r1, r2, r3⟩ := k
  have c0 := bitOf_in s 0 f2
  have c1 := bitOf_in s 1 t2
  have c2 := bitOf_in s 2 e2
  have c3 := bitOf_in s 3 b2
  have c4 := bitOf_in s 4 r2
  constructor <;> simp only [bitsX] <;> omega
theorem bitsX_10 (t : T) (m : Int) : bitsX t m 10 = lowX t m := rfl
theorem bitsX_21 (t : T) (m : Int) : bitsX t m 21 = highX t m := rfl
theorem refShip_ok {h : H} {t : T} {L : Line} {x : X} {m : Nat} (hm : m ≤ h.next) (k : t.Ok) (hL : L.Ok m h) (v : Valid L) (r : reckons t L) (hx : Among t x) :
    AW Try.prog 51 h.next h [.agg ⟨t.cells⟩, .agg ⟨L.cells⟩, .agg ⟨x.cells⟩] (fun w _ => w = .tuple #[.int .i64 (coef t L x), .bool true]) := by
  have := refShip_w hm k hL v (hx.bd k)
  rwa [if_pos (hx.both k r)] at this

/-- What the reference has found, after all ends of the first i lines, all forms below f of line i, all bits below s. -/
structure Found (t : T) (S : Lines) (i : Nat) (f : Int) (s : Nat) (lo hi : Int) : Prop where
  a : spanLo t S ≤ lo
  b : hi ≤ spanHi t S
  c : ∀ j, j < i → ∀ m, t.ml ≤ m → m ≤ t.mh → lo ≤ coef t (S.ln j) (lowX t m) ∧ coef t (S.ln j) (highX t m) ≤ hi
  d : ∀ m, t.ml ≤ m → m < f → lo ≤ coef t (S.ln i) (lowX t m) ∧ coef t (S.ln i) (highX t m) ≤ hi
  e : (10 < s → lo ≤ coef t (S.ln i) (lowX t f)) ∧ (21 < s → coef t (S.ln i) (highX t f) ≤ hi)
theorem Found.one {t : T} {S : Lines} {i s : Nat} {f lo hi : Int} (F : Fine t S) (hi' : i < S.k) (h1 : t.ml ≤ f) (h2 : f ≤ t.mh) (k : Found t S i f s lo hi) : Found t S i f (s + 1) (min lo (coef t (S.ln i) (bitsX t f s))) (max hi (coef t (S.ln i) (bitsX t f s))) := by
  have m1 := F.tk.m1; have m3 := F.tk.m3
  have bx := boxed F hi' (bitsX_among F.tk (m := f) (by omega) (by omega) s) h1 h2
  obtain ⟨a, b, c, d, e⟩ := k
  refine ⟨by omega, by omega, fun j hj m h3 h4 => ?_, fun m h3 h4 => ?_, ?_, ?_⟩
  · have := c j hj m h3 h4; omega
  · have := d m h3 h4; omega
  · intro hs
    by_cases e1 : s = 10
    · subst e1; rw [bitsX_10]; omega
    · have := e.1 (by omega); omega
  · intro hs
    by_cases e1 : s = 21
    · subst e1; rw [bitsX_21]; omega
    · have := e.2 (by omega); omega
theorem Found.form {t : T} {S : Lines} {i : Nat} {f lo hi : Int} (k : Found t S i f 32 lo hi) : Found t S i (f + 1) 0 lo hi := by
  obtain ⟨a, b, c, d, e⟩ := k
  refine ⟨a, b, c, fun m h3 h4 => ?_, fun h => by omega, fun h => by omega⟩
  by_cases e1 : m = f
  · subst e1; exact ⟨e.1 (by omega), e.2 (by omega)⟩
  · exact d m h3 (by omega)
theorem Found.line {t : T} {S : Lines} {i : Nat} {f lo hi : Int} (k : Found t S i f 0 lo hi) (hf : t.mh < f) : Found t S (i + 1) t.ml 0 lo hi := by
  obtain ⟨a, b, c, d, e⟩ := k
  refine ⟨a, b, fun j hj m h3 h4 => ?_, fun m h3 h4 => by omega, fun h => by omega, fun h => by omega⟩
  by_cases e1 : j = i
  · subst e1; exact d m h3 (by omega)
  · exact c j (by omega) m h3 h4
theorem Found.end {t : T} {S : Lines} {f lo hi : Int} {s : Nat} (F : Fine t S) (k : Found t S S.k f s lo hi) : lo = spanLo t S ∧ hi = spanHi t S := by
  obtain ⟨⟨i, hi', m, h1, h2, e⟩, -⟩ := isMin_low F
  obtain ⟨⟨j, hj, m', h1', h2', e'⟩, -⟩ := isMax_high F
  have a := (k.c i hi' m h1 h2).1
  have b := (k.c j hj m' h1' h2').2
  have := k.a; have := k.b
  omega
end AE.Try
