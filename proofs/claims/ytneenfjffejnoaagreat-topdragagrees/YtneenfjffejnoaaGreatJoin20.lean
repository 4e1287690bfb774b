/- Walks and plain laws: T9W, T9Da. -/
import Derived.Test.YtneenfjffejnoaaGreatT9Code
import Derived.Test.YtneenfjffejnoaaGreatT9K229
import Derived.Test.YtneenfjffejnoaaGreatT9K230
import Derived.Test.YtneenfjffejnoaaGreatT9K231
import Derived.Test.YtneenfjffejnoaaGreatT9K147
import Derived.Test.YtneenfjffejnoaaGreatT9K148
import Derived.Test.YtneenfjffejnoaaGreatT9W77
import Derived.Test.YtneenfjffejnoaaGreatT9M78
import Derived.Test.YtneenfjffejnoaaGreatT9M33
import Derived.Test.YtneenfjffejnoaaGreatT9M34
import Derived.Test.YtneenfjffejnoaaGreatAEthree
import Derived.Test.YtneenfjffejnoaaGreatJoin18
import Derived.Test.YtneenfjffejnoaaGreatJoin24
set_option linter.unusedVariables false
set_option linter.unusedSimpArgs false
set_option linter.unusedSectionVars false

/- Works of the layers up to 9. -/
namespace AE.Tryz
open Go AE Go.Proofs
set_option maxRecDepth 100000
theorem w229 {h : H} : AW Tryz.prog 229 h.next h [] (fun v h' => v = .bool true ∧ h' = h) := kc kw229
theorem w230 {h : H} : AW Tryz.prog 230 h.next h [] (fun v h' => v = .bool true ∧ h' = h) := kc kw230
theorem w231 {h : H} : AW Tryz.prog 231 h.next h [] (fun v h' => v = .bool true ∧ h' = h) := kc kw231
theorem w147 {h : H} : AW Tryz.prog 147 h.next h [] (fun v h' => v = .bool true ∧ h' = h) := kc kw147
theorem w148 {h : H} : AW Tryz.prog 148 h.next h [] (fun v h' => v = .bool true ∧ h' = h) := kc kw148
theorem works03_w {h : H} : AW Tryz.prog 146 h.next h [] (fun v _ => v = .bool true) := by
 refine fun146.call rfl (Nat.le_refl _) ?_
 unfold a146
 (focus ((try with_reducible apply wpC.to); (repeat' ((conv => whnf); first | refine byEv ?_ | fail)); all_goals ((conv => whnf); try with_reducible apply At.mk)))
 apply q_call
 focus (exact byNext)
 focus (exact byLo)
 focus exact w229
 rintro _ _ ⟨rfl, rfl⟩ q hn
 (focus ((try with_reducible apply wpC.to); (repeat' ((conv => whnf); first | refine byEv ?_ | fail)); all_goals ((conv => whnf); try with_reducible apply At.mk)))
 apply q_call
 focus (exact byNext)
 focus (exact byLo)
 focus exact w230
 rintro _ _ ⟨rfl, rfl⟩ q hn
 (focus ((try with_reducible apply wpC.to); (repeat' ((conv => whnf); first | refine byEv ?_ | fail)); all_goals ((conv => whnf); try with_reducible apply At.mk)))
 apply q_call
 focus (exact byNext)
 focus (exact byLo)
 focus exact w231
 rintro _ _ ⟨rfl, rfl⟩ q hn
 (focus ((try with_reducible apply wpC.to); (repeat' ((conv => whnf); first | refine byEv ?_ | fail)); all_goals ((conv => whnf); try with_reducible apply At.mk)))
 (refine byFin ?_)
 rfl
theorem works05_w {h : H} : AW Tryz.prog 76 h.next h [] (fun v _ => v = .bool true) := by
 refine fun76.call rfl (Nat.le_refl _) ?_
 unfold a76
 (focus ((try with_reducible apply wpC.to); (repeat' ((conv => whnf); first | refine byEv ?_ | fail)); all_goals ((conv => whnf); try with_reducible apply At.mk)))
 apply q_callv
 focus (exact byNext)
 focus (exact byLo)
 focus exact works03_w
 intro _ q hn
 (focus ((try with_reducible apply wpC.to); (repeat' ((conv => whnf); first | refine byEv ?_ | fail)); all_goals ((conv => whnf); try with_reducible apply At.mk)))
 apply q_call
 focus (exact byNext)
 focus (exact byLo)
 focus exact w147
 rintro _ _ ⟨rfl, rfl⟩ q hn
 (focus ((try with_reducible apply wpC.to); (repeat' ((conv => whnf); first | refine byEv ?_ | fail)); all_goals ((conv => whnf); try with_reducible apply At.mk)))
 apply q_call
 focus (exact byNext)
 focus (exact byLo)
 focus exact w148
 rintro _ _ ⟨rfl, rfl⟩ q hn
 (focus ((try with_reducible apply wpC.to); (repeat' ((conv => whnf); first | refine byEv ?_ | fail)); all_goals ((conv => whnf); try with_reducible apply At.mk)))
 (refine byFin ?_)
 rfl
theorem works07_w {h : H} : AW Tryz.prog 32 h.next h [] (fun v _ => v = .bool true) := by
 refine fun32.call rfl (Nat.le_refl _) ?_
 unfold a32
 (focus ((try with_reducible apply wpC.to); (repeat' ((conv => whnf); first | refine byEv ?_ | fail)); all_goals ((conv => whnf); try with_reducible apply At.mk)))
 apply q_callv
 focus (exact byNext)
 focus (exact byLo)
 focus exact works05_w
 intro _ q hn
 (focus ((try with_reducible apply wpC.to); (repeat' ((conv => whnf); first | refine byEv ?_ | fail)); all_goals ((conv => whnf); try with_reducible apply At.mk)))
 apply q_call
 focus (exact byNext)
 focus (exact byLo)
 focus exact w77
 rintro _ _ ⟨rfl, rfl⟩ q hn
 (focus ((try with_reducible apply wpC.to); (repeat' ((conv => whnf); first | refine byEv ?_ | fail)); all_goals ((conv => whnf); try with_reducible apply At.mk)))
 apply q_call
 focus (exact byNext)
 focus (exact byLo)
 focus exact w78
 rintro _ _ ⟨rfl, rfl⟩ q hn
 (focus ((try with_reducible apply wpC.to); (repeat' ((conv => whnf); first | refine byEv ?_ | fail)); all_goals ((conv => whnf); try with_reducible apply At.mk)))
 (refine byFin ?_)
 rfl
theorem works09_w {h : H} : AW Tryz.prog 7 h.next h [] (fun v _ => v = .bool true) := by
 refine fun7.call rfl (Nat.le_refl _) ?_
 unfold a7
 (focus ((try with_reducible apply wpC.to); (repeat' ((conv => whnf); first | refine byEv ?_ | fail)); all_goals ((conv => whnf); try with_reducible apply At.mk)))
 apply q_callv
 focus (exact byNext)
 focus (exact byLo)
 focus exact works07_w
 intro _ q hn
 (focus ((try with_reducible apply wpC.to); (repeat' ((conv => whnf); first | refine byEv ?_ | fail)); all_goals ((conv => whnf); try with_reducible apply At.mk)))
 apply q_call
 focus (exact byNext)
 focus (exact byLo)
 focus exact w33
 rintro _ _ ⟨rfl, rfl⟩ q hn
 (focus ((try with_reducible apply wpC.to); (repeat' ((conv => whnf); first | refine byEv ?_ | fail)); all_goals ((conv => whnf); try with_reducible apply At.mk)))
 apply q_call
 focus (exact byNext)
 focus (exact byLo)
 focus exact w34
 rintro _ _ ⟨rfl, rfl⟩ q hn
 (focus ((try with_reducible apply wpC.to); (repeat' ((conv => whnf); first | refine byEv ?_ | fail)); all_goals ((conv => whnf); try with_reducible apply At.mk)))
 (refine byFin ?_)
 rfl
theorem kT9W0 {G : Prop} (g : G := by ((apply works09_w))) : G := g
end AE.Tryz

/- Walk of TopDragAgrees. -/
namespace AE.Tryz
open Go AE Go.Proofs AE.Drag
set_option maxRecDepth 100000
set_option linter.unusedVariables false

theorem sub_fine {t : T} {S : Lines} (F : Fine t S) {i : Nat} (hi : i < S.k) (b : Option Addr) (a : Addr) (c : Nat) : Fine t ⟨1, fun _ => S.ln i, b, a, c⟩ :=
 ⟨F.tk, ⟨by show 1 ≤ 1; omega, by show 1 ≤ 4; omega, fun _ _ => F.sv.v i hi⟩, fun _ _ => F.r i hi⟩
noncomputable def oneLo (t : T) (S : Lines) (i : Nat) : Int := spanLo t ⟨1, fun _ => S.ln i, none, ⟨0, 0, none⟩, 0⟩
noncomputable def oneHi (t : T) (S : Lines) (i : Nat) : Int := spanHi t ⟨1, fun _ => S.ln i, none, ⟨0, 0, none⟩, 0⟩
theorem one_in {t : T} {S : Lines} (F : Fine t S) {i : Nat} (hi : i < S.k) : spanLo t S ≤ oneLo t S i ∧ oneHi t S i ≤ spanHi t S := by
 have F' := sub_fine F hi none ⟨0, 0, none⟩ 0
 obtain ⟨⟨_, _, m, h1, h2, e⟩, -⟩ := isMin_low F'
 obtain ⟨⟨_, _, m', h1', h2', e'⟩, -⟩ := isMax_high F'
 have a := (isMin_low F).2 _ ⟨i, hi, m, h1, h2, rfl⟩
 have b := (isMax_high F).2 _ ⟨i, hi, m', h1', h2', rfl⟩
 have e1 : oneLo t S i = coef t (S.ln i) (lowX t m) := e
 have e2 : oneHi t S i = coef t (S.ln i) (highX t m') := e'
 omega
theorem sub_ok {S : Lines} {m i : Nat} {h : H} (hS : S.Ok m h) (hi : i < S.k) : (⟨1, fun _ => S.ln i, some (aadd S.a (i * 2)), aadd S.a (i * 2), S.c - i⟩ : Lines).Ok m h := by
 refine ⟨fun _ => rfl, fun j hj => ?_, fun _ => hS.r byO, fun _ _ => hS.ok i hi, by show 1 ≤ _; omega⟩
 have hj : j < 1 := hj
 have : j = 0 := by omega
 subst this
 have := hS.i i hi
 show h.loadN (aadd (aadd S.a (i * 2)) (0 * 2)) 2 = some (S.ln i).cells
 rw [show aadd (aadd S.a (i * 2)) (0 * 2) = aadd S.a (i * 2) by simp [aadd]]
 exact this
theorem spanSub_w {h : H} {t : T} {S : Lines} {i m : Nat} (F : Fine t S) (hi : i < S.k) (hm : m ≤ h.next) (hS : S.Ok m h) : AW Tryz.prog 23 h.next h [.agg ⟨t.cells⟩, .slice (some (aadd S.a (i * 2))) (i + 1 - i) (S.c - i)] (fun w _ => w = .tuple #[.agg ⟨[.int .i64 (oneLo t S i), .int .i64 (oneHi t S i)]⟩, .int .i64 0]) := by
 have F' := sub_fine F hi (some (aadd S.a (i * 2))) (aadd S.a (i * 2)) (S.c - i)
 have := span_w (t := t) hm .mk (sub_ok hS hi)
 unfold spanV at this
 rw [spanErr_fine.2 F'] at this
 rw [show i + 1 - i = 1 by omega]
 exact this
theorem ln_part {h : H} {S : Lines} {i o k : Nat} {l : List Value} (e : Els h S.a S.k 2 (fun i => (S.ln i).cells)) (hi : i < S.k) (hc : cut (S.ln i).cells o k = some l) : h.loadN (aadd (aadd S.a (i * 2)) o) k = some l := load_part (e i hi) hc
theorem xT9Da0 {G G' : Prop} (g : G') (t : G' → G := by (((with_reducible apply Load1.mk); (focus ((repeat (first | (apply ln_part <;> first | assumption | omega | exact rfl) | with_reducible apply bump_old | ((with_reducible apply put_old); focus (dsimp only [aadd]; omega)) | ((with_reducible apply quiet_old); (focus assumption); focus (dsimp only [aadd]; omega)) | ((with_reducible apply same_old); (focus assumption); focus (dsimp only [aadd]; omega)))); (first | done | fail))); (focus exact byVal)))) : G := t g

noncomputable def loTo (t : T) (S : Lines) : Nat → Int
 | 0 => -1000000
 | s + 1 => max (loTo t S s) (oneLo t S s)
noncomputable def hiTo (t : T) (S : Lines) : Nat → Int
 | 0 => 1000000
 | s + 1 => min (hiTo t S s) (oneHi t S s)
noncomputable def tstC (t : T) (S : Lines) (i : Nat) : List Value := [.int .i64 i, .int .i64 0, .int .i64 (oneLo t S i), .int .i64 (oneHi t S i)]
theorem to_iff (t : T) (S : Lines) (n : Int) : ∀ s, (loTo t S s ≤ n ∧ n ≤ hiTo t S s) ↔ (-1000000 ≤ n ∧ n ≤ 1000000) ∧ ∀ j, j < s → oneLo t S j ≤ n ∧ n ≤ oneHi t S j
 | 0 => by unfold loTo hiTo; exact ⟨fun h => ⟨h, fun j hj => by omega⟩, fun h => h.1⟩
 | s + 1 => by
   unfold loTo hiTo
   have ih := to_iff t S n s
   constructor
   ·intro h
    obtain ⟨h1, h2⟩ := ih.1 byO
    refine ⟨h1, fun j hj => ?_⟩
    by_cases e : j = s
    ·subst e; omega
    ·exact h2 j byO
   ·rintro ⟨h1, h2⟩
    have := ih.2 ⟨h1, fun j hj => h2 j byO⟩
    have := h2 s byO
    omega
theorem xRange_eql {ts : Ts} {o : Oper} {x y : Operand} {c : TypeId} (ho : o.op = .binOp .eql 23 x y c) {a b : Int} (hx : evR ts x = .agg ⟨[.int .i64 a, .int .i64 b]⟩) (hy : evR ts y = .agg ⟨[.int .i64 a, .int .i64 b]⟩) :
 xPure Tryz.prog ts o = some (.bool true) := by
 have := xPure_eql ho hx hy rfl rfl (by kernel_rfl)
  (eqRange (u := 2) (f0 := (Tryz.prog.fieldsOf 23)[0]!) (f1 := (Tryz.prog.fieldsOf 23)[1]!) (by kernel_rfl) (of_decide_eq_true (by kernel_rfl)) (of_decide_eq_true (by kernel_rfl)) (by kernel_rfl) (by kernel_rfl) Tryz.underlying2 9998 a b a b (by kernel_rfl) (fun _ _ => by kernel_rfl) (fun _ _ => by kernel_rfl))
 simpa using this
set_option maxHeartbeats 4000000 in
theorem dragAgrees_w {h : H} {t : T} {S : Lines} {m : Nat} (hm : m ≤ h.next) (hS : S.Ok m h) (hfl : S.Flat) : AW Tryz.prog 4 h.next h [.agg ⟨t.cells⟩, .slice S.b S.k S.c] (fun v _ => v = .bool true) := by
 have kn : Known t := .mk
 have hS0 := hS
 obtain ⟨e1, i1, r1, ok, l1⟩ := hS
 refine fun4.call rfl (Nat.le_refl _) ?_
 unfold a4
 by_cases hok : testErr t = 0
 rotate_left
 ·(focus ((try with_reducible apply wpC.to); (repeat' ((conv => whnf); first | refine byEv ?_ | (apply Fork.mk <;> (intro _; try (exfalso; omega))) | ((apply q_call); (focus exact byNext); (focus exact byLo); (focus (first | exact kT9W0 | exact kTDragH1 | exact kTDragG2 | exact kTDragF5 | exact kTDragF4 | exact kTDragF2 | exact kTDragE1 | exact kTDragD0 | exact kTDragC6 | exact kTDragB2)); first | ((apply q_allB) <;> (intro z_b _ _ _; first | exact Bool.noConfusion z_b | replace z_b := of_decide_eq_true z_b | replace z_b := of_decide_eq_false z_b | skip) <;> ((try simp only [AllOk, Bd.ok, and_true] at z_b); first | contradiction | (revert z_b; intros))) | ((apply q_alli) <;> intro _ _ _ _ <;> try contradiction) | (apply q_allv; intro _ _ _)) | refine xT9Da0 ?_ | fail)); all_goals ((conv => whnf); try with_reducible apply At.mk)))
  all_goals ((refine byFin ?_); rfl)
 have tk := testErr_ok.1 hok
 by_cases hk : S.k < 1 ∨ 4 < S.k
 ·(focus ((try with_reducible apply wpC.to); (repeat' ((conv => whnf); first | refine byEv ?_ | (apply Fork.mk <;> (intro _; try (exfalso; omega))) | ((apply q_call); (focus exact byNext); (focus exact byLo); (focus (first | exact kT9W0 | exact kTDragH1 | exact kTDragG2 | exact kTDragF5 | exact kTDragF4 | exact kTDragF2 | exact kTDragE1 | exact kTDragD0 | exact kTDragC6 | exact kTDragB2)); first | ((apply q_allB) <;> (intro z_b _ _ _; first | exact Bool.noConfusion z_b | replace z_b := of_decide_eq_true z_b | replace z_b := of_decide_eq_false z_b | skip) <;> ((try simp only [AllOk, Bd.ok, and_true] at z_b); first | contradiction | (revert z_b; intros))) | ((apply q_alli) <;> intro _ _ _ _ <;> try contradiction) | (apply q_allv; intro _ _ _)) | refine xT9Da0 ?_ | fail)); all_goals ((conv => whnf); try with_reducible apply At.mk)))
  all_goals ((refine byFin ?_); rfl)
 (focus ((try with_reducible apply wpC.to); (repeat' ((conv => whnf); first | refine byEv ?_ | (apply Fork.mk <;> (intro _; try (exfalso; omega))) | ((apply q_call); (focus exact byNext); (focus exact byLo); (focus (first | exact kT9W0 | exact kTDragH1 | exact kTDragG2 | exact kTDragF5 | exact kTDragF4 | exact kTDragF2 | exact kTDragE1 | exact kTDragD0 | exact kTDragC6 | exact kTDragB2)); first | ((apply q_allB) <;> (intro z_b _ _ _; first | exact Bool.noConfusion z_b | replace z_b := of_decide_eq_true z_b | replace z_b := of_decide_eq_false z_b | skip) <;> ((try simp only [AllOk, Bd.ok, and_true] at z_b); first | contradiction | (revert z_b; intros))) | ((apply q_alli) <;> intro _ _ _ _ <;> try contradiction) | (apply q_allv; intro _ _ _)) | refine xT9Da0 ?_ | fail)); all_goals ((conv => whnf); try with_reducible apply At.mk)))
 rename_i h1 q1 hn1 _ hk1 hk2
 have s1 : Same h.next h h1 := fun x hx => (q1.same x byOm).trans byGo
 have g1 : h1.get h.next = some (.cells t.cells 67) := (q1.same _ byOm).trans (by unfold T.cells; (exact byGet))
 have hn1' : h.next + 2 ≤ h1.next := by (exact byOm)
 clear q1 hn1
 unfold T.cells at g1
 refine wp_loop (fun s : Nat => [(1, .slice S.b S.k S.c), (2, .pointer (some ⟨h.next, 0, none⟩)), (5, .pointer (some ⟨h1.next + 3, 0, none⟩)), (6, .int .i64 s)])
  (fun s h2 => Same h.next h h2 ∧ h2.get h.next = some (.cells t.cells 67) ∧ h2.get (h1.next + 3) = some (.cells [.int .i64 S.k, .int .i64 1, .int .i64 0, .int .i64 0, .slice none 0 0] 31) ∧ h1.next + 6 ≤ h2.next ∧ s ≤ S.k ∧ ∀ j, j < s → lineErr (S.ln j) = 0) (fun s => S.k - s) 0
  ⟨rfl, rfl, rfl, rfl, trivial⟩ ⟨bySame, by unfold T.cells; (exact byGet), byGet, byOm, by omega, fun j hj => by omega⟩ ?_
 clear g1 s1
 rintro s g h2 ⟨s2, g2, g2', hn2, hs, hv⟩ K hK
 by_cases hsk : s < S.k
 ·have hL := ok s hsk
  have l1' := hL.l1
  have l2' := hL.l2
  by_cases hle : lineErr (S.ln s) = 0
  ·have vv := lineErr_valid.1 hle
   have v1 := vv.hi
   have v2 := vv.eq
   (focus ((try with_reducible apply wpC.to); (repeat' ((conv => whnf); first | refine byEv ?_ | (apply Fork.mk <;> (intro _; try (exfalso; omega))) | ((apply q_call); (focus exact byNext); (focus exact byLo); (focus (first | exact kT9W0 | exact kTDragH1 | exact kTDragG2 | exact kTDragF5 | exact kTDragF4 | exact kTDragF2 | exact kTDragE1 | exact kTDragD0 | exact kTDragC6 | exact kTDragB2)); first | ((apply q_allB) <;> (intro z_b _ _ _; first | exact Bool.noConfusion z_b | replace z_b := of_decide_eq_true z_b | replace z_b := of_decide_eq_false z_b | skip) <;> ((try simp only [AllOk, Bd.ok, and_true] at z_b); first | contradiction | (revert z_b; intros))) | ((apply q_alli) <;> intro _ _ _ _ <;> try contradiction) | (apply q_allv; intro _ _ _)) | refine xT9Da0 ?_ | fail)); all_goals ((conv => whnf); try with_reducible apply At.mk)))
   exact hK (s + 1) _ _ ⟨rfl, rfl, rfl, int_of rfl byO, trivial⟩ ⟨bySame, byGet, byGet, byOm, by omega, fun j hj => by
    by_cases e : j = s
    ·subst e; exact hle
    ·exact hv j byO⟩ byO
  ·(focus ((try with_reducible apply wpC.to); (repeat' ((conv => whnf); first | refine byEv ?_ | (apply Fork.mk <;> (intro _; try (exfalso; omega))) | ((apply q_call); (focus exact byNext); (focus exact byLo); (focus (first | exact kT9W0 | exact kTDragH1 | exact kTDragG2 | exact kTDragF5 | exact kTDragF4 | exact kTDragF2 | exact kTDragE1 | exact kTDragD0 | exact kTDragC6 | exact kTDragB2)); first | ((apply q_allB) <;> (intro z_b _ _ _; first | exact Bool.noConfusion z_b | replace z_b := of_decide_eq_true z_b | replace z_b := of_decide_eq_false z_b | skip) <;> ((try simp only [AllOk, Bd.ok, and_true] at z_b); first | contradiction | (revert z_b; intros))) | ((apply q_alli) <;> intro _ _ _ _ <;> try contradiction) | (apply q_allv; intro _ _ _)) | refine xT9Da0 ?_ | fail)); all_goals ((conv => whnf); try with_reducible apply At.mk)))
   all_goals ((refine byFin ?_); rfl)
 have es : s = S.k := by omega
 subst es
 have sv : S.Valid := ⟨by omega, by omega, fun j hj => lineErr_valid.1 (hv j hj)⟩
 unfold T.cells at g2
 clear hK
 (focus ((try with_reducible apply wpC.to); (repeat' ((conv => whnf); first | refine byEv ?_ | (apply Fork.mk <;> (intro _; try (exfalso; omega))) | ((apply q_call); (focus exact byNext); (focus exact byLo); (focus (first | exact kT9W0 | exact kTDragH1 | exact kTDragG2 | exact kTDragF5 | exact kTDragF4 | exact kTDragF2 | exact kTDragE1 | exact kTDragD0 | exact kTDragC6 | exact kTDragB2)); first | ((apply q_allB) <;> (intro z_b _ _ _; first | exact Bool.noConfusion z_b | replace z_b := of_decide_eq_true z_b | replace z_b := of_decide_eq_false z_b | skip) <;> ((try simp only [AllOk, Bd.ok, and_true] at z_b); first | contradiction | (revert z_b; intros))) | ((apply q_alli) <;> intro _ _ _ _ <;> try contradiction) | (apply q_allv; intro _ _ _)) | refine xT9Da0 ?_ | fail)); all_goals ((conv => whnf); try with_reducible apply At.mk)))
 have hsp : spanV t S = .tuple #[.agg ⟨[.int .i64 (if spanErr t S = 0 then spanLo t S else 0), .int .i64 (if spanErr t S = 0 then spanHi t S else 0)]⟩, .int .i64 (spanErr t S)] := rfl
 by_cases hrk : Reckoned t S
 rotate_left
 ·have he : spanErr t S = 19 := by
   unfold spanErr
   rw [if_neg byO, if_neg (by rw [linesErr_valid.2 sv]; omega), if_neg hrk]
  rw [he] at hsp
  apply q_call
  focus (exact byNext)
  focus (exact byLo)
  focus exact span_w (t := t) (m := m) byOm kn (hS0.same bySame (Nat.le_refl _))
  intro v5 h5 hv5 q5 hn5
  rw [hsp] at hv5
  subst hv5
  (focus ((try with_reducible apply wpC.to); (repeat' ((conv => whnf); first | refine byEv ?_ | (apply Fork.mk <;> (intro _; try (exfalso; omega))) | ((apply q_call); (focus exact byNext); (focus exact byLo); (focus (first | exact kT9W0 | exact kTDragH1 | exact kTDragG2 | exact kTDragF5 | exact kTDragF4 | exact kTDragF2 | exact kTDragE1 | exact kTDragD0 | exact kTDragC6 | exact kTDragB2)); first | ((apply q_allB) <;> (intro z_b _ _ _; first | exact Bool.noConfusion z_b | replace z_b := of_decide_eq_true z_b | replace z_b := of_decide_eq_false z_b | skip) <;> ((try simp only [AllOk, Bd.ok, and_true] at z_b); first | contradiction | (revert z_b; intros))) | ((apply q_alli) <;> intro _ _ _ _ <;> try contradiction) | (apply q_allv; intro _ _ _)) | refine xT9Da0 ?_ | fail)); all_goals ((conv => whnf); try with_reducible apply At.mk)))
  (refine byFin ?_)
  rfl
 have F : Fine t S := ⟨tk, sv, hrk⟩
 rw [spanErr_fine.2 F] at hsp
 apply q_call
 focus (exact byNext)
 focus (exact byLo)
 focus exact span_w (t := t) (m := m) byOm kn (hS0.same bySame (Nat.le_refl _))
 intro v5 h5 hv5 q5 hn5
 rw [hsp] at hv5
 subst hv5
 simp only [if_true]
 have sb := span_bd F
 have s5 : Same h.next h h5 := fun x hx => (q5.same x byOm).trans ((get_of fun y hy => byGet).trans (s2 x hx))
 have g5 := (q5.same h.next byOm).trans ((get_of fun y hy => by (exact byGet) : _ = h2.get h.next).trans g2)
 have g5' := (q5.same (h1.next + 3) byOm).trans ((get_of fun y hy => by (exact byGet) : _ = h2.get (h1.next + 3)).trans g2')
 have hn5' : h2.next + 13 ≤ h5.next := by (exact byOm)
 clear q5 hn5 g2 g2' s2
 (focus ((try with_reducible apply wpC.to); (repeat' ((conv => whnf); first | refine byEv ?_ | (apply Fork.mk <;> (intro _; try (exfalso; omega))) | ((apply q_call); (focus exact byNext); (focus exact byLo); (focus (first | exact kT9W0 | exact kTDragH1 | exact kTDragG2 | exact kTDragF5 | exact kTDragF4 | exact kTDragF2 | exact kTDragE1 | exact kTDragD0 | exact kTDragC6 | exact kTDragB2)); first | ((apply q_allB) <;> (intro z_b _ _ _; first | exact Bool.noConfusion z_b | replace z_b := of_decide_eq_true z_b | replace z_b := of_decide_eq_false z_b | skip) <;> ((try simp only [AllOk, Bd.ok, and_true] at z_b); first | contradiction | (revert z_b; intros))) | ((apply q_alli) <;> intro _ _ _ _ <;> try contradiction) | (apply q_allv; intro _ _ _)) | refine xT9Da0 ?_ | fail)); all_goals ((conv => whnf); try with_reducible apply At.mk)))
 refine wp_loop (fun x : Nat × Nat × Option Addr => [(1, .slice S.b S.k S.c), (2, .pointer (some ⟨h.next, 0, none⟩)), (5, .pointer (some ⟨h1.next + 3, 0, none⟩)), (7, .pointer (some ⟨h2.next + 10, 0, none⟩)), (9, .int .i64 (loTo t S x.1)), (10, .int .i64 (hiTo t S x.1)), (11, .int .i64 x.1)])
  (fun x h6 => Same h.next h h6 ∧ h6.get h.next = some (.cells t.cells 67) ∧ h6.get (h2.next + 10) = some (.cells [.int .i64 (spanLo t S), .int .i64 (spanHi t S)] 23) ∧ h6.get (h1.next + 3) = some (.cells [.int .i64 S.k, .int .i64 1, .int .i64 0, .int .i64 0, .slice x.2.2 x.1 0] 31) ∧ GG x.2.1 h6 33 4 x.1 (rowsOf (tstC t S) x.1) x.2.2 ∧ (0 < x.1 → h2.next + 11 ≤ x.2.1 ∧ x.2.1 < h6.next) ∧ h5.next ≤ h6.next ∧ x.1 ≤ S.k ∧ ∀ j, j < x.1 → -1000000 ≤ oneLo t S j ∧ oneHi t S j ≤ 1000000) (fun x => S.k - x.1) (0, 0, none)
  ⟨rfl, rfl, rfl, rfl, rfl, rfl, rfl, trivial⟩ ?_ ?_
 ·exact ⟨bySame, by unfold T.cells; (exact byGet), byGet, byGet, .inl ⟨rfl, rfl, rfl⟩, fun h => absurd h (by simp), byOm, by simp, fun j hj => absurd hj (by simp)⟩
 clear g5 g5' s5
 rintro ⟨s, r, w⟩ g6 h6 ⟨s6, g6t, g6a, g6b, G, hr, hn6, hs6, hb6⟩ K6 hK6
 dsimp only at g6b G hr hs6 hb6
 dsimp only
 unfold T.cells at g6t
 by_cases hsk' : s < S.k
 ·have oi := one_in F hsk'
  have hob : oneLo t S s ≤ oneHi t S s := by
   have F' := sub_fine F hsk' none ⟨0, 0, none⟩ 0
   have := span_bd F'
   unfold oneLo oneHi
   omega
  (focus ((try with_reducible apply wpC.to); (repeat' ((conv => whnf); first | refine byEv ?_ | (apply Fork.mk <;> (intro _; try (exfalso; omega))) | ((apply q_call); (focus exact byNext); (focus exact byLo); (focus (first | exact kT9W0 | exact kTDragH1 | exact kTDragG2 | exact kTDragF5 | exact kTDragF4 | exact kTDragF2 | exact kTDragE1 | exact kTDragD0 | exact kTDragC6 | exact kTDragB2)); first | ((apply q_allB) <;> (intro z_b _ _ _; first | exact Bool.noConfusion z_b | replace z_b := of_decide_eq_true z_b | replace z_b := of_decide_eq_false z_b | skip) <;> ((try simp only [AllOk, Bd.ok, and_true] at z_b); first | contradiction | (revert z_b; intros))) | ((apply q_alli) <;> intro _ _ _ _ <;> try contradiction) | (apply q_allv; intro _ _ _)) | refine xT9Da0 ?_ | fail)); all_goals ((conv => whnf); try with_reducible apply At.mk)))
  apply q_slsl (l := s) (e := s + 1)
  case hx => rw [← e1 byO]; exact rfl
  case hl => exact rfl
  case hh => exact rfl
  case hs => exact hfl.s byO
  case h1 => omega
  case h2 => have := hfl.c; omega
  case h3 => have := hfl.c; omega
  case hf => exact hfl.f byO
  (focus ((try with_reducible apply wpC.to); (repeat' ((conv => whnf); first | refine byEv ?_ | (apply Fork.mk <;> (intro _; try (exfalso; omega))) | ((apply q_call); (focus exact byNext); (focus exact byLo); (focus (first | exact kT9W0 | exact kTDragH1 | exact kTDragG2 | exact kTDragF5 | exact kTDragF4 | exact kTDragF2 | exact kTDragE1 | exact kTDragD0 | exact kTDragC6 | exact kTDragB2)); first | ((apply q_allB) <;> (intro z_b _ _ _; first | exact Bool.noConfusion z_b | replace z_b := of_decide_eq_true z_b | replace z_b := of_decide_eq_false z_b | skip) <;> ((try simp only [AllOk, Bd.ok, and_true] at z_b); first | contradiction | (revert z_b; intros))) | ((apply q_alli) <;> intro _ _ _ _ <;> try contradiction) | (apply q_allv; intro _ _ _)) | refine xT9Da0 ?_ | fail)); all_goals ((conv => whnf); try with_reducible apply At.mk)))
  apply q_callv
  focus (exact byNext)
  focus (exact byLo)
  focus
   apply AW.arg1
   ·exact spanSub_w (m := m) F hsk' byOm (hS0.same bySame (Nat.le_refl _))
   ·exact Is.rfl
  intro h7 q7 hn7
  by_cases hgood : -1000000 ≤ oneLo t S s ∧ oneHi t S s ≤ 1000000
  rotate_left
  ·(focus ((try with_reducible apply wpC.to); (repeat' ((conv => whnf); first | refine byEv ?_ | (apply Fork.mk <;> (intro _; try (exfalso; omega))) | ((apply q_call); (focus exact byNext); (focus exact byLo); (focus (first | exact kT9W0 | exact kTDragH1 | exact kTDragG2 | exact kTDragF5 | exact kTDragF4 | exact kTDragF2 | exact kTDragE1 | exact kTDragD0 | exact kTDragC6 | exact kTDragB2)); first | ((apply q_allB) <;> (intro z_b _ _ _; first | exact Bool.noConfusion z_b | replace z_b := of_decide_eq_true z_b | replace z_b := of_decide_eq_false z_b | skip) <;> ((try simp only [AllOk, Bd.ok, and_true] at z_b); first | contradiction | (revert z_b; intros))) | ((apply q_alli) <;> intro _ _ _ _ <;> try contradiction) | (apply q_allv; intro _ _ _)) | refine xT9Da0 ?_ | fail)); all_goals ((conv => whnf); try with_reducible apply At.mk)))
   all_goals ((refine byFin ?_); rfl)
  have hn7' : h6.next ≤ h7.next := by (exact byOm)
  have hfr : ∀ y, y < h6.next → h7.get y = h6.get y := fun y hy => (q7.same y byOm).trans (get_of fun z hz => byGet)
  (focus ((try with_reducible apply wpC.to); (repeat' ((conv => whnf); first | refine byEv ?_ | (apply Fork.mk <;> (intro _; try (exfalso; omega))) | ((apply q_call); (focus exact byNext); (focus exact byLo); (focus (first | exact kT9W0 | exact kTDragH1 | exact kTDragG2 | exact kTDragF5 | exact kTDragF4 | exact kTDragF2 | exact kTDragE1 | exact kTDragD0 | exact kTDragC6 | exact kTDragB2)); first | ((apply q_allB) <;> (intro z_b _ _ _; first | exact Bool.noConfusion z_b | replace z_b := of_decide_eq_true z_b | replace z_b := of_decide_eq_false z_b | skip) <;> ((try simp only [AllOk, Bd.ok, and_true] at z_b); first | contradiction | (revert z_b; intros))) | ((apply q_alli) <;> intro _ _ _ _ <;> try contradiction) | (apply q_allv; intro _ _ _)) | refine xT9Da0 ?_ | fail)); all_goals ((conv => whnf); try with_reducible apply At.mk)))
  apply q_appGG (r := r) (n := s) (m := 1) (cs := rowsOf (tstC t S) s) (nc := tstC t S s) (v := w)
  case G => exact G.frame fun h0 => (get_of fun y hy => by have := hr h0; (exact byGet)).trans (hfr r (hr h0).2)
  case hsv => exact rfl
  case C => exact Cells.one byMem (by unfold AE.far; omega) rfl rfl
  case hm => omega
  case hlo => (exact byOm)
  case hlr => exact fun h0 => by have := hr h0; exact ⟨byOm, byOm⟩
  case hsm => omega
  intro w' r' row ha hb hc G'
  have hr' : h2.next + 11 ≤ r' ∧ r' < h7.next + 48 ∧ (0 < s → r' = r) ∧ (s = 0 → h7.next + 47 ≤ r') := by
   rcases Nat.eq_zero_or_pos s with h0 | h0
   ·have := ha h0; exact ⟨byOm, byOm, fun h => by omega, fun _ => byOm⟩
   ·have := hb h0; have := hr h0; exact ⟨byOm, byOm, fun _ => by omega, fun h => by omega⟩
  obtain ⟨x1, x2, x3, x4⟩ := hr'
  have E1 : rowsOf (tstC t S) (s + 1) = rowsOf (tstC t S) s ++ tstC t S s := rfl
  (focus ((try with_reducible apply wpC.to); (repeat' ((conv => whnf); first | refine byEv ?_ | (apply Fork.mk <;> (intro _; try (exfalso; omega))) | ((apply q_call); (focus exact byNext); (focus exact byLo); (focus (first | exact kT9W0 | exact kTDragH1 | exact kTDragG2 | exact kTDragF5 | exact kTDragF4 | exact kTDragF2 | exact kTDragE1 | exact kTDragD0 | exact kTDragC6 | exact kTDragB2)); first | ((apply q_allB) <;> (intro z_b _ _ _; first | exact Bool.noConfusion z_b | replace z_b := of_decide_eq_true z_b | replace z_b := of_decide_eq_false z_b | skip) <;> ((try simp only [AllOk, Bd.ok, and_true] at z_b); first | contradiction | (revert z_b; intros))) | ((apply q_alli) <;> intro _ _ _ _ <;> try contradiction) | (apply q_allv; intro _ _ _)) | refine xT9Da0 ?_ | fail)); all_goals ((conv => whnf); try with_reducible apply At.mk)))
  refine hK6 (s + 1, r', w') _ _ ⟨rfl, rfl, rfl, rfl, rfl, rfl, int_of rfl (by dsimp only; omega), trivial⟩ ⟨bySame, by unfold T.cells; (exact byGet), byGet, byGet, ?_, fun _ => ⟨by dsimp only; omega, by dsimp only; (exact byOm)⟩, byOm, by dsimp only; omega, fun j hj => ?_⟩ (by dsimp only; omega)
  ·dsimp only
   rw [E1]
   exact G'.frame fun _ => get_of fun y hy => by (exact byGet)
  ·dsimp only at hj
   by_cases e : j = s
   ·subst e; exact hgood
   ·exact hb6 j byO
 have es : s = S.k := by omega
 subst es
 clear hK6
 obtain ⟨a, ha, hels, hab⟩ := G.els (f := tstC t S) fun _ => rfl
 obtain rfl := ha byO
 have hab := hab byO
 have hr := hr byO
 obtain ⟨Z, hZ⟩ : ∃ Z : Agr.Tab, Z = ⟨S.k, 1, 0, 0, S.k, fun i => ⟨i, 0, oneLo t S i, oneHi t S i⟩, some a, a, 0⟩ := ⟨_, rfl⟩
 have zv : Z.Valid := by
  rw [hZ]
  refine ⟨by dsimp only; omega, by dsimp only; omega, by dsimp only; omega, by dsimp only; omega, by dsimp only; omega, by unfold Agr.isR; dsimp only; omega, fun i hi => ?_⟩
  dsimp only at hi ⊢
  have := hb6 i hi
  have := one_in F hi
  have h3 : oneLo t S i ≤ oneHi t S i := by
   have := span_bd (sub_fine F hi none ⟨0, 0, none⟩ 0)
   unfold oneLo oneHi
   omega
  unfold Agr.isR
  omega
 have zok : Z.Ok h6.next h6 := by
  rw [hZ]
  exact ⟨fun _ => rfl, hels, fun _ => by dsimp only; omega, by dsimp only; omega⟩
 have zone : AgreeS.One Z.toTable := ⟨zv.ok, by rw [hZ]; rfl, by rw [hZ]; rfl, by rw [hZ]; rfl⟩
 have hmem : ∀ y, y ∈ Z.toTable.tests ↔ ∃ i, i < S.k ∧ (⟨i, 0, oneLo t S i, oneHi t S i⟩ : AgreeS.Test) = y := fun y => by
  rw [hZ]
  simp [Agr.Tab.toTable, Agr.RTest.toTest]
 have hall : ∀ n : Int, (∀ y ∈ Z.toTable.tests, y.lo ≤ n ∧ n ≤ y.hi) ↔ loTo t S S.k ≤ n ∧ n ≤ hiTo t S S.k := fun n => by
  rw [to_iff]
  constructor
  ·intro h
   have h' : ∀ j, j < S.k → oneLo t S j ≤ n ∧ n ≤ oneHi t S j := fun j hj => h _ ((hmem _).2 ⟨j, hj, rfl⟩)
   have := h' 0 byO
   have := hb6 0 byO
   exact ⟨by omega, h'⟩
  ·rintro ⟨-, h⟩ y hy
   obtain ⟨i, hi, rfl⟩ := (hmem y).1 hy
   exact h i hi
 have htst : AgreeS.Tested Z.toTable 0 := zone.tested ((hmem _).2 ⟨0, by omega, rfl⟩)
 have zc : Z.cells = [.int .i64 S.k, .int .i64 1, .int .i64 0, .int .i64 0, .slice (some a) S.k 0] := by rw [hZ]; rfl
 have zh : Z.hulls = 1 := by rw [hZ]
 have hls : loTo t S S.k ≤ hiTo t S S.k → Agr.sErr Z.toTable 0 = 0 ∧ Agr.sLo Z.toTable 0 = loTo t S S.k ∧ Agr.sHi Z.toTable 0 = hiTo t S S.k := fun hle => by
  obtain ⟨h1, h2, h3⟩ := zone.is hle htst hall
  have he : Agr.sErr Z.toTable 0 = 0 := Agr.sErr_ok.2 ⟨h1, htst⟩
  exact ⟨he, (if_pos he).trans h2, (if_pos he).trans h3⟩
 have hno : ¬ loTo t S S.k ≤ hiTo t S S.k → Agr.sErr Z.toTable 0 = 20 := fun hle => by
  have h1 := zone.not fun n hn => by have := (hall n).1 hn; omega
  unfold Agr.sErr
  rw [if_neg h1]
 have s6' : Same h6.next h6 h6 := fun _ _ => rfl
 (focus ((try with_reducible apply wpC.to); (repeat' ((conv => whnf); first | refine byEv ?_ | (apply Fork.mk <;> (intro _; try (exfalso; omega))) | ((apply q_call); (focus exact byNext); (focus exact byLo); (focus (first | exact kT9W0 | exact kTDragH1 | exact kTDragG2 | exact kTDragF5 | exact kTDragF4 | exact kTDragF2 | exact kTDragE1 | exact kTDragD0 | exact kTDragC6 | exact kTDragB2)); first | ((apply q_allB) <;> (intro z_b _ _ _; first | exact Bool.noConfusion z_b | replace z_b := of_decide_eq_true z_b | replace z_b := of_decide_eq_false z_b | skip) <;> ((try simp only [AllOk, Bd.ok, and_true] at z_b); first | contradiction | (revert z_b; intros))) | ((apply q_alli) <;> intro _ _ _ _ <;> try contradiction) | (apply q_allv; intro _ _ _)) | refine xT9Da0 ?_ | fail)); all_goals ((conv => whnf); try with_reducible apply At.mk)))
 apply q_call
 focus (exact byNext)
 focus (exact byLo)
 focus exact (show AW Tryz.prog 19 _ _ [.agg ⟨[.int .i64 S.k, .int .i64 1, .int .i64 0, .int .i64 0, .slice (some a) S.k 0]⟩, .int .i64 0] _ by
  have := Agr.spread_w (T := Z) (m := h6.next) (z := 0) (h := (h6.bump 4).bump 8) byOm (zok.same bySame (Nat.le_refl _)) zv (by rw [zh]; omega)
  rw [zc] at this
  exact this)
 intro v8 h8 hv8 q8 hn8
 rw [show (0 : Int).toNat = 0 from rfl] at hv8
 by_cases hle : loTo t S S.k ≤ hiTo t S S.k
 ·obtain ⟨f1, f2, f3⟩ := hls hle
  rw [f1, f2, f3] at hv8
  subst hv8
  (focus ((try with_reducible apply wpC.to); (repeat' ((conv => whnf); first | refine byEv ?_ | (apply Fork.mk <;> (intro _; try (exfalso; omega))) | ((apply q_call); (focus exact byNext); (focus exact byLo); (focus (first | exact kT9W0 | exact kTDragH1 | exact kTDragG2 | exact kTDragF5 | exact kTDragF4 | exact kTDragF2 | exact kTDragE1 | exact kTDragD0 | exact kTDragC6 | exact kTDragB2)); first | ((apply q_allB) <;> (intro z_b _ _ _; first | exact Bool.noConfusion z_b | replace z_b := of_decide_eq_true z_b | replace z_b := of_decide_eq_false z_b | skip) <;> ((try simp only [AllOk, Bd.ok, and_true] at z_b); first | contradiction | (revert z_b; intros))) | ((apply q_alli) <;> intro _ _ _ _ <;> try contradiction) | (apply q_allv; intro _ _ _)) | refine xT9Da0 ?_ | fail)); all_goals ((conv => whnf); try with_reducible apply At.mk)))
  refine OpE.pure (.bool true) (xRange_eql (a := loTo t S S.k) (b := hiTo t S S.k) rfl rfl rfl) ?_
  (focus ((try with_reducible apply wpC.to); (repeat' ((conv => whnf); first | refine byEv ?_ | (apply Fork.mk <;> (intro _; try (exfalso; omega))) | ((apply q_call); (focus exact byNext); (focus exact byLo); (focus (first | exact kT9W0 | exact kTDragH1 | exact kTDragG2 | exact kTDragF5 | exact kTDragF4 | exact kTDragF2 | exact kTDragE1 | exact kTDragD0 | exact kTDragC6 | exact kTDragB2)); first | ((apply q_allB) <;> (intro z_b _ _ _; first | exact Bool.noConfusion z_b | replace z_b := of_decide_eq_true z_b | replace z_b := of_decide_eq_false z_b | skip) <;> ((try simp only [AllOk, Bd.ok, and_true] at z_b); first | contradiction | (revert z_b; intros))) | ((apply q_alli) <;> intro _ _ _ _ <;> try contradiction) | (apply q_allv; intro _ _ _)) | refine xT9Da0 ?_ | fail)); all_goals ((conv => whnf); try with_reducible apply At.mk)))
  (refine byFin ?_)
  rfl
 ·rw [hno hle] at hv8
  subst hv8
  (focus ((try with_reducible apply wpC.to); (repeat' ((conv => whnf); first | refine byEv ?_ | (apply Fork.mk <;> (intro _; try (exfalso; omega))) | ((apply q_call); (focus exact byNext); (focus exact byLo); (focus (first | exact kT9W0 | exact kTDragH1 | exact kTDragG2 | exact kTDragF5 | exact kTDragF4 | exact kTDragF2 | exact kTDragE1 | exact kTDragD0 | exact kTDragC6 | exact kTDragB2)); first | ((apply q_allB) <;> (intro z_b _ _ _; first | exact Bool.noConfusion z_b | replace z_b := of_decide_eq_true z_b | replace z_b := of_decide_eq_false z_b | skip) <;> ((try simp only [AllOk, Bd.ok, and_true] at z_b); first | contradiction | (revert z_b; intros))) | ((apply q_alli) <;> intro _ _ _ _ <;> try contradiction) | (apply q_allv; intro _ _ _)) | refine xT9Da0 ?_ | fail)); all_goals ((conv => whnf); try with_reducible apply At.mk)))
  (refine byFin ?_)
  rfl
end AE.Tryz
