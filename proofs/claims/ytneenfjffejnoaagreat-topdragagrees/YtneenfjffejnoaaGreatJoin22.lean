/- Walks and plain laws: DragSpec3, TDragH, TDragI. -/
import Derived.Test.YtneenfjffejnoaaGreatJoin17
import Derived.Test.YtneenfjffejnoaaGreatAEthree
set_option linter.unusedVariables false
set_option linter.unusedSimpArgs false
set_option linter.unusedSectionVars false

/- What drag computes, in plain words: lines of a contract. -/
namespace AE.Drag
open Go AE

structure Lines where
 k : Nat
 ln : Nat → Line
 b : Option Addr
 a : Addr
 c : Nat
def Lines.val (S : Lines) : Value := .slice S.b S.k S.c
structure Lines.Ok (S : Lines) (m : Nat) (h : H) : Prop where
 e : 0 < S.k → S.b = some S.a
 i : Els h S.a S.k 2 (fun i => (S.ln i).cells)
 r : 0 < S.k → S.a.block < m
 ok : ∀ i, i < S.k → (S.ln i).Ok m h
 l : S.k ≤ 9223372036854775807
theorem Lines.Ok.same {S : Lines} {m m' : Nat} {h h' : H} (k : S.Ok m h) (s : Same m h h') (hm : m ≤ m') : S.Ok m' h' :=
 ⟨k.e, k.i.same s k.r, fun h => by have := k.r h; omega, fun i hi => (k.ok i hi).same s hm, k.l⟩

structure Lines.Flat (S : Lines) : Prop where
 s : 0 < S.k → S.a.spot = none
 c : S.k ≤ S.c
 f : 0 < S.k → S.c < far
def firstErr (f : Nat → Int) : Nat → Int
 | 0 => 0
 | n + 1 => if firstErr f n ≠ 0 then firstErr f n else f n
theorem firstErr_zero {f : Nat → Int} : ∀ {n : Nat}, (∀ j, j < n → f j = 0) → firstErr f n = 0
 | 0, _ => rfl
 | n + 1, h => by
   unfold firstErr
   rw [firstErr_zero (fun j hj => h j byO)]
   simp [h n byO]
theorem firstErr_at {f : Nat → Int} {i : Nat} (h0 : ∀ j, j < i → f j = 0) (hi : f i ≠ 0) : ∀ {n : Nat}, i < n → firstErr f n = f i
 | 0, h => by omega
 | n + 1, h => by
   unfold firstErr
   by_cases e : i = n
   ·subst e; rw [firstErr_zero h0]; simp
   ·rw [firstErr_at h0 hi (n := n) byO]; simp [hi]
theorem firstErr_all {f : Nat → Int} : ∀ {n : Nat}, firstErr f n = 0 → ∀ j, j < n → f j = 0
 | 0, _, j, hj => by omega
 | n + 1, h, j, hj => by
   unfold firstErr at h
   split at h
   ·omega
   ·rename_i h1
    by_cases e : j = n
    ·subst e; exact h
    ·exact firstErr_all (n := n) byO j byO

noncomputable def linesErr (S : Lines) : Int := if S.k < 1 ∨ 4 < S.k then 6 else firstErr (fun i => lineErr (S.ln i)) S.k
structure Lines.Valid (S : Lines) : Prop where
 lo : 1 ≤ S.k
 hi : S.k ≤ 4
 v : ∀ i, i < S.k → AE.Drag.Valid (S.ln i)
theorem linesErr_valid {S : Lines} : linesErr S = 0 ↔ S.Valid := by
 unfold linesErr
 constructor
 ·intro h
  split at h
  ·omega
  ·rename_i h1
   exact ⟨by omega, by omega, fun i hi => lineErr_valid.1 (firstErr_all h i hi)⟩
 ·intro h
  have := h.lo; have := h.hi
  rw [if_neg byO]
  exact firstErr_zero fun j hj => lineErr_valid.2 (h.v j hj)

def reckons (t : T) (L : Line) : Prop := (L.re 0 ≤ modelRe t t.th ∧ modelRe t t.tl ≤ L.re (L.n - 1)) ∧ L.re 0 ≤ shipRe t t.sh ∧ shipRe t t.sl ≤ L.re (L.n - 1)
instance (t : T) (L : Line) : Decidable (reckons t L) := by unfold reckons; infer_instance
def Reckoned (t : T) (S : Lines) : Prop := ∀ i, i < S.k → reckons t (S.ln i)
noncomputable instance (t : T) (S : Lines) : Decidable (Reckoned t S) := Classical.propDecidable _

theorem ediv_anti {a b c : Int} (ha : 0 ≤ a) (hb : 0 < b) (h : b ≤ c) : a / c ≤ a / b := by
 apply Int.le_ediv_of_mul_le hb
 have h1 : 0 ≤ a / c := Int.ediv_nonneg ha byO
 have h2 : a / c * b ≤ a / c * c := Int.mul_le_mul_of_nonneg_left h h1
 have h3 : a / c * c ≤ a := Int.ediv_mul_le a byO
 omega
theorem both_of {t : T} (k : t.Ok) {L : Line} (r : reckons t L) {x : X} (h1 : t.tl ≤ x.tank) (h2 : x.tank ≤ t.th) (h3 : t.sl ≤ x.sea) (h4 : x.sea ≤ t.sh) : both t L x := by
 have := k.t1; have := k.t2; have := k.e1; have := k.e2
 obtain ⟨p1, p2, p3, p4, p5, p6, p7, p8, p9⟩ := k.prod
 obtain ⟨⟨r1, r2⟩, r3, r4⟩ := r
 have a1 := ediv_anti p1 (by omega : 0 < x.tank) h2
 have a2 := ediv_anti p1 (by omega : 0 < t.tl) h1
 have a3 := ediv_anti p7 (by omega : 0 < x.sea) h4
 have a4 := ediv_anti p7 (by omega : 0 < t.sl) h3
 unfold both inside
 unfold modelRe shipRe at *
 omega


def lowX (t : T) (m : Int) : X := ⟨t.fl, t.th, t.sl, m, t.bh, t.rl⟩
def highX (t : T) (m : Int) : X := ⟨t.fh, t.tl, t.sh, m, t.bl, t.rh⟩
def LowC (t : T) (S : Lines) (c : Int) : Prop := ∃ i, i < S.k ∧ ∃ m, t.ml ≤ m ∧ m ≤ t.mh ∧ c = coef t (S.ln i) (lowX t m)
def HighC (t : T) (S : Lines) (c : Int) : Prop := ∃ i, i < S.k ∧ ∃ m, t.ml ≤ m ∧ m ≤ t.mh ∧ c = coef t (S.ln i) (highX t m)
def IsMin (P : Int → Prop) (v : Int) : Prop := P v ∧ ∀ w, P w → v ≤ w
def IsMax (P : Int → Prop) (v : Int) : Prop := P v ∧ ∀ w, P w → w ≤ v
open Classical in
noncomputable def theMin (P : Int → Prop) : Int := if h : ∃ v, IsMin P v then h.choose else 0
open Classical in
noncomputable def theMax (P : Int → Prop) : Int := if h : ∃ v, IsMax P v then h.choose else 0
theorem theMin_eq {P : Int → Prop} {v : Int} (h : IsMin P v) : theMin P = v := by
 unfold theMin
 have hx : ∃ v, IsMin P v := ⟨v, h⟩
 rw [dif_pos hx]
 have h1 := hx.choose_spec
 have a := h1.2 _ h.1
 have b := h.2 _ h1.1
 omega
theorem theMax_eq {P : Int → Prop} {v : Int} (h : IsMax P v) : theMax P = v := by
 unfold theMax
 have hx : ∃ v, IsMax P v := ⟨v, h⟩
 rw [dif_pos hx]
 have h1 := hx.choose_spec
 have a := h1.2 _ h.1
 have b := h.2 _ h1.1
 omega
noncomputable def spanLo (t : T) (S : Lines) : Int := theMin (LowC t S)
noncomputable def spanHi (t : T) (S : Lines) : Int := theMax (HighC t S)
noncomputable def spanErr (t : T) (S : Lines) : Int := if testErr t ≠ 0 then testErr t else if linesErr S ≠ 0 then linesErr S else if Reckoned t S then 0 else 19
structure Fine (t : T) (S : Lines) : Prop where
 tk : t.Ok
 sv : S.Valid
 r : Reckoned t S
theorem spanErr_fine {t : T} {S : Lines} : spanErr t S = 0 ↔ Fine t S := by
 unfold spanErr
 constructor
 ·intro h
  split at h
  ·omega
  ·split at h
   ·omega
   ·split at h
    ·rename_i h1 h2 h3
     exact ⟨testErr_ok.1 byO, linesErr_valid.1 byO, h3⟩
    ·omega
 ·rintro ⟨h1, h2, h3⟩
  rw [if_neg (by rw [testErr_0 h1]; omega), if_neg (by rw [linesErr_valid.2 h2]; omega), if_pos h3]
end AE.Drag

/- Walks of drag and its reference: lines of a contract. -/
namespace AE.Tryz
open Go AE AE.Drag Go.Proofs
set_option maxRecDepth 100000

set_option maxHeartbeats 1000000 in
theorem checkLines_w {h : H} {S : Lines} {m : Nat} (hm : m ≤ h.next) (hS : S.Ok m h) : AW Tryz.prog 124 h.next h [.slice S.b S.k S.c] (fun w _ => w = .int .i64 (linesErr S)) := by
 obtain ⟨e1, i1, r1, ok, l1⟩ := hS
 refine fun124.call rfl (Nat.le_refl _) ?_
 unfold a124 linesErr
 by_cases hk : S.k < 1 ∨ 4 < S.k
 ·rw [if_pos hk]
  (focus ((try with_reducible apply wpC.to); (repeat' ((conv => whnf); first | refine byEv ?_ | (apply Fork.mk <;> (intro _; try (exfalso; omega))) | ((apply q_call); (focus exact byNext); (focus exact byLo); (focus (first | exact kTDragG2 | exact kTDragF5 | exact kTDragF4 | exact kTDragF2 | exact kTDragD0 | exact kTDragC6 | exact kTDragB1)); first | ((apply q_allB) <;> (intro z_b _ _ _; first | exact Bool.noConfusion z_b | replace z_b := of_decide_eq_true z_b | replace z_b := of_decide_eq_false z_b | skip) <;> ((try simp only [AllOk, Bd.ok, and_true] at z_b); first | contradiction | (revert z_b; intros))) | ((apply q_alli) <;> intro _ _ _ _ <;> try contradiction) | (apply q_allv; intro _ _ _)) | fail)); all_goals ((conv => whnf); try with_reducible apply At.mk)))
  all_goals ((refine byFin ?_); rfl)
 rw [if_neg hk]
 (focus ((try with_reducible apply wpC.to); (repeat' ((conv => whnf); first | refine byEv ?_ | (apply Fork.mk <;> (intro _; try (exfalso; omega))) | ((apply q_call); (focus exact byNext); (focus exact byLo); (focus (first | exact kTDragG2 | exact kTDragF5 | exact kTDragF4 | exact kTDragF2 | exact kTDragD0 | exact kTDragC6 | exact kTDragB1)); first | ((apply q_allB) <;> (intro z_b _ _ _; first | exact Bool.noConfusion z_b | replace z_b := of_decide_eq_true z_b | replace z_b := of_decide_eq_false z_b | skip) <;> ((try simp only [AllOk, Bd.ok, and_true] at z_b); first | contradiction | (revert z_b; intros))) | ((apply q_alli) <;> intro _ _ _ _ <;> try contradiction) | (apply q_allv; intro _ _ _)) | fail)); all_goals ((conv => whnf); try with_reducible apply At.mk)))
 refine wp_loop (fun s : Nat => [(14, .slice S.b S.k S.c), (15, .int .i64 S.k), (16, .int .i64 s)])
  (fun s h1 => Same h.next h h1 ∧ h.next ≤ h1.next ∧ s ≤ S.k ∧ ∀ j, j < s → lineErr (S.ln j) = 0) (fun s => S.k - s) 0 ⟨rfl, rfl, rfl, trivial⟩ ⟨bySame, byOm, by omega, fun j hj => by omega⟩ ?_
 rintro s g h1 ⟨q, hn1, hs, hz⟩ K hK
 by_cases hsk : s < S.k
 ·have hL := ok s hsk
  by_cases he : lineErr (S.ln s) = 0
  ·(focus ((try with_reducible apply wpC.to); (repeat' ((conv => whnf); first | refine byEv ?_ | (apply Fork.mk <;> (intro _; try (exfalso; omega))) | ((apply q_call); (focus exact byNext); (focus exact byLo); (focus (first | exact kTDragG2 | exact kTDragF5 | exact kTDragF4 | exact kTDragF2 | exact kTDragD0 | exact kTDragC6 | exact kTDragB1)); first | ((apply q_allB) <;> (intro z_b _ _ _; first | exact Bool.noConfusion z_b | replace z_b := of_decide_eq_true z_b | replace z_b := of_decide_eq_false z_b | skip) <;> ((try simp only [AllOk, Bd.ok, and_true] at z_b); first | contradiction | (revert z_b; intros))) | ((apply q_alli) <;> intro _ _ _ _ <;> try contradiction) | (apply q_allv; intro _ _ _)) | fail)); all_goals ((conv => whnf); try with_reducible apply At.mk)))
   refine hK (s + 1) _ _ ⟨rfl, rfl, int_of rfl byO, trivial⟩ ⟨bySame, byOm, by omega, fun j hj => ?_⟩ byO
   by_cases e : j = s
   ·subst e; exact he
   ·exact hz j byO
  ·(focus ((try with_reducible apply wpC.to); (repeat' ((conv => whnf); first | refine byEv ?_ | (apply Fork.mk <;> (intro _; try (exfalso; omega))) | ((apply q_call); (focus exact byNext); (focus exact byLo); (focus (first | exact kTDragG2 | exact kTDragF5 | exact kTDragF4 | exact kTDragF2 | exact kTDragD0 | exact kTDragC6 | exact kTDragB1)); first | ((apply q_allB) <;> (intro z_b _ _ _; first | exact Bool.noConfusion z_b | replace z_b := of_decide_eq_true z_b | replace z_b := of_decide_eq_false z_b | skip) <;> ((try simp only [AllOk, Bd.ok, and_true] at z_b); first | contradiction | (revert z_b; intros))) | ((apply q_alli) <;> intro _ _ _ _ <;> try contradiction) | (apply q_allv; intro _ _ _)) | fail)); all_goals ((conv => whnf); try with_reducible apply At.mk)))
   (refine byFin ?_)
   rw [firstErr_at (f := fun i => lineErr (S.ln i)) hz he hsk]
 ·have : s = S.k := by omega
  subst this
  (focus ((try with_reducible apply wpC.to); (repeat' ((conv => whnf); first | refine byEv ?_ | (apply Fork.mk <;> (intro _; try (exfalso; omega))) | ((apply q_call); (focus exact byNext); (focus exact byLo); (focus (first | exact kTDragG2 | exact kTDragF5 | exact kTDragF4 | exact kTDragF2 | exact kTDragD0 | exact kTDragC6 | exact kTDragB1)); first | ((apply q_allB) <;> (intro z_b _ _ _; first | exact Bool.noConfusion z_b | replace z_b := of_decide_eq_true z_b | replace z_b := of_decide_eq_false z_b | skip) <;> ((try simp only [AllOk, Bd.ok, and_true] at z_b); first | contradiction | (revert z_b; intros))) | ((apply q_alli) <;> intro _ _ _ _ <;> try contradiction) | (apply q_allv; intro _ _ _)) | fail)); all_goals ((conv => whnf); try with_reducible apply At.mk)))
  (refine byFin ?_)
  rw [firstErr_zero (f := fun i => lineErr (S.ln i)) hz]
theorem kTDragH0 {G : Prop} (g : G := by ((apply checkLines_w; rotate_left; (focus (apply Lines.Ok.same; (focus assumption); (focus exact bySame); (focus exact Nat.le_refl _))); (focus exact byOm)))) : G := g
theorem kTDragH1 {G : Prop} (g : G := by ((apply refLines_w; rotate_left; (focus (apply Lines.Ok.same; (focus assumption); (focus exact bySame); (focus exact Nat.le_refl _))); (focus exact byOm)))) : G := g
theorem reckons_w {h : H} {t : T} {L : Line} {m : Nat} (hm : m ≤ h.next) (k : t.Ok) (hL : L.Ok m h) (v : Valid L) : AW Tryz.prog 127 h.next h [.agg ⟨t.cells⟩, .agg ⟨L.cells⟩] (fun w _ => w = .bool (decide (reckons t L))) := by
 have hlo := v.lo
 refine fun127.call rfl (Nat.le_refl _) ?_
 unfold a127 reckons
 (focus ((try with_reducible apply wpC.to); (repeat' ((conv => whnf); first | refine byEv ?_ | ((apply q_call); (focus exact byNext); (focus exact byLo); (focus (first | exact kTDragH1 | exact kTDragG2 | exact kTDragF5 | exact kTDragF4 | exact kTDragF3 | exact kTDragF2 | exact kTDragD0 | exact kTDragC6 | exact kTDragC5)); first | ((apply q_allB) <;> (intro z_b _ _ _; first | exact Bool.noConfusion z_b | replace z_b := of_decide_eq_true z_b | replace z_b := of_decide_eq_false z_b | skip) <;> ((try simp only [AllOk, Bd.ok, and_true] at z_b); first | contradiction | (revert z_b; intros))) | ((apply q_alli) <;> intro _ _ _ _ <;> try contradiction) | (apply q_allv; intro _ _ _)) | fail)); all_goals ((conv => whnf); try with_reducible apply At.mk)))
 all_goals ((refine byFin ?_); first | exact bool_t rfl byO | exact bool_f rfl byO)
theorem kTDragH2 {G : Prop} (g : G := by ((apply AW.arg12; (focus (apply reckons_w; rotate_left; (focus assumption); (focus (apply Line.Ok.same; (focus assumption); (focus exact bySame); (focus exact Nat.le_refl _))); (focus assumption); (focus exact byOm))); (focus exact Is.rfl); (focus exact Is.rfl)))) : G := g
theorem notReckons_w {h : H} {t : T} {L : Line} {m r : Nat} (hm : m ≤ h.next) (k : t.Ok) (hL : L.Ok m h) (v : Valid L) (hr : r < h.next) (hg : h.get r = some (.cells t.cells 135)) : AW Tryz.prog 126 h.next h [.agg ⟨L.cells⟩, .pointer (some ⟨r, 0, none⟩)] (fun w _ => w = .bool (decide (¬ reckons t L))) := by
 unfold T.cells at hg
 refine fun126.call rfl (Nat.le_refl _) ?_
 unfold a126
 (focus ((try with_reducible apply wpC.to); (repeat' ((conv => whnf); first | refine byEv ?_ | ((apply q_call); (focus exact byNext); (focus exact byLo); (focus (first | exact kTDragH2 | exact kTDragH1 | exact kTDragG2 | exact kTDragF5 | exact kTDragF4 | exact kTDragF2 | exact kTDragD0 | exact kTDragC6)); first | ((apply q_allB) <;> (intro z_b _ _ _; first | exact Bool.noConfusion z_b | replace z_b := of_decide_eq_true z_b | replace z_b := of_decide_eq_false z_b | skip) <;> ((try simp only [AllOk, Bd.ok, and_true] at z_b); first | contradiction | (revert z_b; intros))) | ((apply q_alli) <;> intro _ _ _ _ <;> try contradiction) | (apply q_allv; intro _ _ _)) | fail)); all_goals ((conv => whnf); try with_reducible apply At.mk)))
 all_goals ((refine byFin ?_); first | exact bool_t rfl (by assumption) | exact bool_f rfl (fun c => c (by assumption)))
theorem kTDragH3 {G : Prop} (g : G := by ((apply AW.arg1; (focus (apply notReckons_w; rotate_left; (focus assumption); (focus (apply Line.Ok.same; (focus assumption); (focus exact bySame); (focus exact Nat.le_refl _))); (focus assumption); (focus exact byOm); (focus exact byGet); (focus exact byOm))); (focus exact Is.rfl)))) : G := g
theorem index_w {h : H} {t : T} {S : Lines} {m r : Nat} (hm : m ≤ h.next) (k : t.Ok) (hS : S.Ok m h) (v : S.Valid) (hr : r < h.next) (hg : h.get r = some (.cells t.cells 135)) : AW Tryz.prog 213 h.next h [.slice S.b S.k S.c, .func (.func 126) ⟨[]⟩ ⟨[.pointer (some ⟨r, 0, none⟩)]⟩] (fun w _ => ∃ z : Int, w = .int .i64 z ∧ (0 ≤ z ↔ ¬ Reckoned t S)) := by
 obtain ⟨e1, i1, r1, ok, l1⟩ := hS
 refine fun213.call rfl (Nat.le_refl _) ?_
 unfold a213
 (focus ((try with_reducible apply wpC.to); (repeat' ((conv => whnf); first | refine byEv ?_ | (apply Fork.mk <;> (intro _; try (exfalso; omega))) | ((apply q_call); (focus exact byNext); (focus exact byLo); (focus (first | exact kTDragH3 | exact kTDragH1 | exact kTDragG2 | exact kTDragG0 | exact kTDragF5 | exact kTDragF4 | exact kTDragF2 | exact kTDragD0 | exact kTDragC7 | exact kTDragC6)); first | ((apply q_allB) <;> (intro z_b _ _ _; first | exact Bool.noConfusion z_b | replace z_b := of_decide_eq_true z_b | replace z_b := of_decide_eq_false z_b | skip) <;> ((try simp only [AllOk, Bd.ok, and_true] at z_b); first | contradiction | (revert z_b; intros))) | ((apply q_alli) <;> intro _ _ _ _ <;> try contradiction) | (apply q_allv; intro _ _ _)) | fail)); all_goals ((conv => whnf); try with_reducible apply At.mk)))
 refine wp_loop (fun s : Nat => [(0, .slice S.b S.k S.c), (1, .func (.func 126) ⟨[]⟩ ⟨[.pointer (some ⟨r, 0, none⟩)]⟩), (7, .int .i64 S.k), (8, .int .i64 s)])
  (fun s h1 => Same h.next h h1 ∧ h.next ≤ h1.next ∧ s ≤ S.k ∧ ∀ j, j < s → reckons t (S.ln j)) (fun s => S.k - s) 0 ⟨rfl, rfl, rfl, rfl, trivial⟩ ⟨bySame, byOm, by omega, fun j hj => by omega⟩ ?_
 rintro s g h1 ⟨q, hn1, hs, hz⟩ K hK
 by_cases hsk : s < S.k
 ·have hL := ok s hsk
  have hv := v.v s hsk
  by_cases he : reckons t (S.ln s)
  ·(focus ((try with_reducible apply wpC.to); (repeat' ((conv => whnf); first | refine byEv ?_ | (apply Fork.mk <;> (intro _; try (exfalso; omega))) | ((apply q_call); (focus exact byNext); (focus exact byLo); (focus (first | exact kTDragH3 | exact kTDragH1 | exact kTDragG2 | exact kTDragG0 | exact kTDragF5 | exact kTDragF4 | exact kTDragF2 | exact kTDragD0 | exact kTDragC7 | exact kTDragC6)); first | ((apply q_allB) <;> (intro z_b _ _ _; first | exact Bool.noConfusion z_b | replace z_b := of_decide_eq_true z_b | replace z_b := of_decide_eq_false z_b | skip) <;> ((try simp only [AllOk, Bd.ok, and_true] at z_b); first | contradiction | (revert z_b; intros))) | ((apply q_alli) <;> intro _ _ _ _ <;> try contradiction) | (apply q_allv; intro _ _ _)) | fail)); all_goals ((conv => whnf); try with_reducible apply At.mk)))
   refine hK (s + 1) _ _ ⟨rfl, rfl, rfl, int_of rfl byO, trivial⟩ ⟨bySame, byOm, by omega, fun j hj => ?_⟩ byO
   by_cases e : j = s
   ·subst e; exact he
   ·exact hz j byO
  ·(focus ((try with_reducible apply wpC.to); (repeat' ((conv => whnf); first | refine byEv ?_ | (apply Fork.mk <;> (intro _; try (exfalso; omega))) | ((apply q_call); (focus exact byNext); (focus exact byLo); (focus (first | exact kTDragH3 | exact kTDragH1 | exact kTDragG2 | exact kTDragG0 | exact kTDragF5 | exact kTDragF4 | exact kTDragF2 | exact kTDragD0 | exact kTDragC7 | exact kTDragC6)); first | ((apply q_allB) <;> (intro z_b _ _ _; first | exact Bool.noConfusion z_b | replace z_b := of_decide_eq_true z_b | replace z_b := of_decide_eq_false z_b | skip) <;> ((try simp only [AllOk, Bd.ok, and_true] at z_b); first | contradiction | (revert z_b; intros))) | ((apply q_alli) <;> intro _ _ _ _ <;> try contradiction) | (apply q_allv; intro _ _ _)) | fail)); all_goals ((conv => whnf); try with_reducible apply At.mk)))
   (refine byFin ?_)
   exact ⟨_, rfl, by simp; exact fun c => he (c s hsk)⟩
 ·have : s = S.k := by omega
  subst this
  (focus ((try with_reducible apply wpC.to); (repeat' ((conv => whnf); first | refine byEv ?_ | (apply Fork.mk <;> (intro _; try (exfalso; omega))) | ((apply q_call); (focus exact byNext); (focus exact byLo); (focus (first | exact kTDragH3 | exact kTDragH1 | exact kTDragG2 | exact kTDragG0 | exact kTDragF5 | exact kTDragF4 | exact kTDragF2 | exact kTDragD0 | exact kTDragC7 | exact kTDragC6)); first | ((apply q_allB) <;> (intro z_b _ _ _; first | exact Bool.noConfusion z_b | replace z_b := of_decide_eq_true z_b | replace z_b := of_decide_eq_false z_b | skip) <;> ((try simp only [AllOk, Bd.ok, and_true] at z_b); first | contradiction | (revert z_b; intros))) | ((apply q_alli) <;> intro _ _ _ _ <;> try contradiction) | (apply q_allv; intro _ _ _)) | fail)); all_goals ((conv => whnf); try with_reducible apply At.mk)))
  (refine byFin ?_)
  exact ⟨_, rfl, by simp; exact hz⟩
theorem contains_w {h : H} {t : T} {S : Lines} {m r : Nat} (hm : m ≤ h.next) (k : t.Ok) (hS : S.Ok m h) (v : S.Valid) (hr : r < h.next) (hg : h.get r = some (.cells t.cells 135)) : AW Tryz.prog 125 h.next h [.slice S.b S.k S.c, .func (.func 126) ⟨[]⟩ ⟨[.pointer (some ⟨r, 0, none⟩)]⟩] (fun w _ => w = .bool (decide (¬ Reckoned t S))) := by
 refine fun125.call rfl (Nat.le_refl _) ?_
 unfold a125
 (focus ((try with_reducible apply wpC.to); (repeat' ((conv => whnf); first | refine byEv ?_ | (apply Fork.mk <;> (intro _; try (exfalso; omega))) | ((apply q_call); (focus exact byNext); (focus exact byLo); (focus (first | exact kTDragH1 | exact kTDragG2 | exact kTDragF5 | exact kTDragF4 | exact kTDragF2 | exact kTDragD0 | exact kTDragC6)); first | ((apply q_allB) <;> (intro z_b _ _ _; first | exact Bool.noConfusion z_b | replace z_b := of_decide_eq_true z_b | replace z_b := of_decide_eq_false z_b | skip) <;> ((try simp only [AllOk, Bd.ok, and_true] at z_b); first | contradiction | (revert z_b; intros))) | ((apply q_alli) <;> intro _ _ _ _ <;> try contradiction) | (apply q_allv; intro _ _ _)) | fail)); all_goals ((conv => whnf); try with_reducible apply At.mk)))
 apply q_call
 focus (exact byNext)
 focus omega
 focus exact index_w (m := m) byOm k (hS.same bySame (Nat.le_refl _)) v byOm byGet
 rintro _ h1 ⟨z, e, hz⟩ q hn
 subst e
 (focus ((try with_reducible apply wpC.to); (repeat' ((conv => whnf); first | refine byEv ?_ | (apply Fork.mk <;> (intro _; try (exfalso; omega))) | ((apply q_call); (focus exact byNext); (focus exact byLo); (focus (first | exact kTDragH1 | exact kTDragG2 | exact kTDragF5 | exact kTDragF4 | exact kTDragF2 | exact kTDragD0 | exact kTDragC6)); first | ((apply q_allB) <;> (intro z_b _ _ _; first | exact Bool.noConfusion z_b | replace z_b := of_decide_eq_true z_b | replace z_b := of_decide_eq_false z_b | skip) <;> ((try simp only [AllOk, Bd.ok, and_true] at z_b); first | contradiction | (revert z_b; intros))) | ((apply q_alli) <;> intro _ _ _ _ <;> try contradiction) | (apply q_allv; intro _ _ _)) | fail)); all_goals ((conv => whnf); try with_reducible apply At.mk)))
 all_goals (refine byFin ?_)
 ·exact bool_t rfl (hz.1 byO)
 ·exact bool_f rfl (fun c => by have := hz.2 c; omega)
theorem kTDragH4 {G : Prop} (g : G := by ((apply contains_w; rotate_left; (focus assumption); (focus (apply Lines.Ok.same; (focus assumption); (focus exact bySame); (focus exact Nat.le_refl _))); (focus assumption); (focus exact byOm); (focus exact byGet); (focus exact byOm)))) : G := g
theorem reckon_w {h : H} {t : T} {S : Lines} {m : Nat} (hm : m ≤ h.next) (kn : Known t) (hS : S.Ok m h) : AW Tryz.prog 61 h.next h [.agg ⟨t.cells⟩, .slice S.b S.k S.c] (fun w _ => w = .tuple #[.agg ⟨t.cells⟩, .int .i64 (spanErr t S)]) := by
 refine fun61.call rfl (Nat.le_refl _) ?_
 unfold a61 spanErr
 by_cases he : testErr t ≠ 0
 ·rw [if_pos he]
  (focus ((try with_reducible apply wpC.to); (repeat' ((conv => whnf); first | refine byEv ?_ | (apply Fork.mk <;> (intro _; try (exfalso; omega))) | ((apply q_call); (focus exact byNext); (focus exact byLo); (focus (first | exact kTDragH4 | exact kTDragH3 | exact kTDragH1 | exact kTDragH0 | exact kTDragG2 | exact kTDragF5 | exact kTDragF4 | exact kTDragF2 | exact kTDragE0 | exact kTDragD0 | exact kTDragC6)); first | ((apply q_allB) <;> (intro z_b _ _ _; first | exact Bool.noConfusion z_b | replace z_b := of_decide_eq_true z_b | replace z_b := of_decide_eq_false z_b | skip) <;> ((try simp only [AllOk, Bd.ok, and_true] at z_b); first | contradiction | (revert z_b; intros))) | ((apply q_alli) <;> intro _ _ _ _ <;> try contradiction) | (apply q_allv; intro _ _ _)) | fail)); all_goals ((conv => whnf); try with_reducible apply At.mk)))
  all_goals ((refine byFin ?_); rfl)
 rw [if_neg he]
 have k := testErr_ok.1 (by omega : testErr t = 0)
 by_cases hl : linesErr S ≠ 0
 ·rw [if_pos hl]
  (focus ((try with_reducible apply wpC.to); (repeat' ((conv => whnf); first | refine byEv ?_ | (apply Fork.mk <;> (intro _; try (exfalso; omega))) | ((apply q_call); (focus exact byNext); (focus exact byLo); (focus (first | exact kTDragH4 | exact kTDragH3 | exact kTDragH1 | exact kTDragH0 | exact kTDragG2 | exact kTDragF5 | exact kTDragF4 | exact kTDragF2 | exact kTDragE0 | exact kTDragD0 | exact kTDragC6)); first | ((apply q_allB) <;> (intro z_b _ _ _; first | exact Bool.noConfusion z_b | replace z_b := of_decide_eq_true z_b | replace z_b := of_decide_eq_false z_b | skip) <;> ((try simp only [AllOk, Bd.ok, and_true] at z_b); first | contradiction | (revert z_b; intros))) | ((apply q_alli) <;> intro _ _ _ _ <;> try contradiction) | (apply q_allv; intro _ _ _)) | fail)); all_goals ((conv => whnf); try with_reducible apply At.mk)))
  all_goals ((refine byFin ?_); rfl)
 rw [if_neg hl]
 have v := linesErr_valid.1 (by omega : linesErr S = 0)
 by_cases hr : Reckoned t S
 ·rw [if_pos hr]
  (focus ((try with_reducible apply wpC.to); (repeat' ((conv => whnf); first | refine byEv ?_ | (apply Fork.mk <;> (intro _; try (exfalso; omega))) | ((apply q_call); (focus exact byNext); (focus exact byLo); (focus (first | exact kTDragH4 | exact kTDragH3 | exact kTDragH1 | exact kTDragH0 | exact kTDragG2 | exact kTDragF5 | exact kTDragF4 | exact kTDragF2 | exact kTDragE0 | exact kTDragD0 | exact kTDragC6)); first | ((apply q_allB) <;> (intro z_b _ _ _; first | exact Bool.noConfusion z_b | replace z_b := of_decide_eq_true z_b | replace z_b := of_decide_eq_false z_b | skip) <;> ((try simp only [AllOk, Bd.ok, and_true] at z_b); first | contradiction | (revert z_b; intros))) | ((apply q_alli) <;> intro _ _ _ _ <;> try contradiction) | (apply q_allv; intro _ _ _)) | fail)); all_goals ((conv => whnf); try with_reducible apply At.mk)))
  all_goals first
   | contradiction
   | ((refine byFin ?_); rfl)
 ·rw [if_neg hr]
  (focus ((try with_reducible apply wpC.to); (repeat' ((conv => whnf); first | refine byEv ?_ | (apply Fork.mk <;> (intro _; try (exfalso; omega))) | ((apply q_call); (focus exact byNext); (focus exact byLo); (focus (first | exact kTDragH4 | exact kTDragH3 | exact kTDragH1 | exact kTDragH0 | exact kTDragG2 | exact kTDragF5 | exact kTDragF4 | exact kTDragF2 | exact kTDragE0 | exact kTDragD0 | exact kTDragC6)); first | ((apply q_allB) <;> (intro z_b _ _ _; first | exact Bool.noConfusion z_b | replace z_b := of_decide_eq_true z_b | replace z_b := of_decide_eq_false z_b | skip) <;> ((try simp only [AllOk, Bd.ok, and_true] at z_b); first | contradiction | (revert z_b; intros))) | ((apply q_alli) <;> intro _ _ _ _ <;> try contradiction) | (apply q_allv; intro _ _ _)) | fail)); all_goals ((conv => whnf); try with_reducible apply At.mk)))
  all_goals first
   | contradiction
   | ((refine byFin ?_); rfl)
theorem kTDragH5 {G : Prop} (g : G := by ((apply AW.arg1; (focus (apply reckon_w; rotate_left; (focus assumption); (focus (apply Lines.Ok.same; (focus assumption); (focus exact bySame); (focus exact Nat.le_refl _))); (focus exact byOm))); (focus exact Is.rfl)))) : G := g
end AE.Tryz

/- Walks of drag and its reference: the ends of a span. -/
namespace AE.Tryz
open Go AE AE.Drag Go.Proofs
set_option maxRecDepth 100000

def fCells (i : Int) (x : X) (n : Int) : List Value := [.int .i64 i, .int .i64 x.force, .int .i64 x.tank, .int .i64 x.sea, .int .i64 x.form, .int .i64 x.block, .int .i64 x.rough, .int .i64 n]

def BestLow (t : T) (S : Lines) (s : Nat) (f : Int) (bi : Int) (bx : X) (bn : Int) : Prop :=
 (bi = -1 ∧ bx = ⟨0, 0, 0, 0, 0, 0⟩ ∧ bn = 0 ∧ s = 0 ∧ f = t.ml) ∨
 ∃ (i : Nat) (f' : Int), bi = i ∧ i < S.k ∧ t.ml ≤ f' ∧ f' ≤ t.mh ∧ bx = lowX t f' ∧ bn = coef t (S.ln i) (lowX t f') ∧ (-200000 ≤ coef t (S.ln i) (lowX t f') ∧ coef t (S.ln i) (lowX t f') ≤ 1000202000) ∧
  (∀ j, j < s → ∀ f2, t.ml ≤ f2 → f2 ≤ t.mh → coef t (S.ln i) (lowX t f') ≤ coef t (S.ln j) (lowX t f2)) ∧ (∀ f2, t.ml ≤ f2 → f2 < f → coef t (S.ln i) (lowX t f') ≤ coef t (S.ln s) (lowX t f2))

set_option maxHeartbeats 4000000 in
theorem end_low {h : H} {t : T} {S : Lines} {m : Nat} (hm : m ≤ h.next) (hS : S.Ok m h) (F : Fine t S) : AW Tryz.prog 62 h.next h [.agg ⟨t.cells⟩, .slice S.b S.k S.c, .int .i64 (-1)]
 (fun w _ => ∃ (i : Nat) (f : Int), i < S.k ∧ t.ml ≤ f ∧ f ≤ t.mh ∧ w = .agg ⟨fCells i (lowX t f) (coef t (S.ln i) (lowX t f))⟩ ∧ ∀ c, LowC t S c → coef t (S.ln i) (lowX t f) ≤ c) := by
 obtain ⟨e1, i1, r1, ok, l1⟩ := hS
 obtain ⟨k, sv, rk⟩ := F
 have hk1 := sv.lo
 have hm1 := k.m1; have hm2 := k.m2; have hm3 := k.m3
 refine fun62.call rfl (Nat.le_refl _) ?_
 unfold a62
 (focus ((try with_reducible apply wpC.to); (repeat' ((conv => whnf); first | refine byEv ?_ | (apply Fork.mk <;> (intro _; try (exfalso; omega))) | ((apply q_call); (focus exact byNext); (focus exact byLo); (focus (first | exact kTDragH1 | exact kTDragG2 | exact kTDragG1 | exact kTDragF5 | exact kTDragF4 | exact kTDragF2 | exact kTDragD0 | exact kTDragC6)); first | ((apply q_allB) <;> (intro z_b _ _ _; first | exact Bool.noConfusion z_b | replace z_b := of_decide_eq_true z_b | replace z_b := of_decide_eq_false z_b | skip) <;> ((try simp only [AllOk, Bd.ok, and_true] at z_b); first | contradiction | (revert z_b; intros))) | ((apply q_alli) <;> intro _ _ _ _ <;> try contradiction) | (apply q_allv; intro _ _ _)) | fail)); all_goals ((conv => whnf); try with_reducible apply At.mk)))
 refine wp_loop (fun s : Nat => [(1, .slice S.b S.k S.c), (2, .int .i64 (-1)), (3, .pointer (some ⟨h.next + 0, 0, none⟩)), (6, .pointer (some ⟨h.next + 1, 0, none⟩)), (8, .pointer (some ⟨h.next + 52, 0, none⟩)), (9, .pointer (some ⟨h.next + 55, 0, none⟩)), (10, .pointer (some ⟨h.next + 58, 0, none⟩)), (64, .slice S.b S.k S.c), (65, .int .i64 S.k), (66, .int .i64 s)])
  (fun s h1 => h1.get (h.next + 0) = some (.cells t.cells 135) ∧ h1.get (h.next + 1) = some (.cells (fCells 0 ⟨0, 0, 0, 0, 0, 0⟩ 0) 141) ∧ (∃ f, h1.get (h.next + 52) = some (.cells (lowX t f).cells 139)) ∧ h1.get (h.next + 55) = some (.cells (fCells (-1) ⟨0, 0, 0, 0, 0, 0⟩ 0) 141) ∧
   (∃ bi bx bn, h1.get (h.next + 58) = some (.cells (fCells bi bx bn) 141) ∧ BestLow t S s t.ml bi bx bn) ∧ Same m h h1 ∧ h.next + 58 < h1.next ∧ s ≤ S.k) (fun s => S.k - s) 0
  ⟨rfl, rfl, rfl, rfl, rfl, rfl, rfl, rfl, rfl, rfl, trivial⟩ ⟨byGet, byGet, ⟨0, byGet⟩, byGet, ⟨-1, ⟨0, 0, 0, 0, 0, 0⟩, 0, byGet, .inl ⟨rfl, rfl, rfl, rfl, rfl⟩⟩, bySame, byOm, by omega⟩ ?_
 rintro s g h1 ⟨g1, g2, ⟨f0, g3⟩, g4, ⟨bi, bx, bn, g5, hbest⟩, q, hn1, hs⟩ K hK
 unfold T.cells at g1
 unfold fCells at g4 g5
 unfold X.cells at g3
 by_cases hsk : s < S.k
 ·have hL := ok s hsk
  have hv := sv.v s hsk
  (focus ((try with_reducible apply wpC.to); (repeat' ((conv => whnf); first | refine byEv ?_ | (apply Fork.mk <;> (intro _; try (exfalso; omega))) | ((apply q_call); (focus exact byNext); (focus exact byLo); (focus (first | exact kTDragH1 | exact kTDragG2 | exact kTDragG1 | exact kTDragF5 | exact kTDragF4 | exact kTDragF2 | exact kTDragD0 | exact kTDragC6)); first | ((apply q_allB) <;> (intro z_b _ _ _; first | exact Bool.noConfusion z_b | replace z_b := of_decide_eq_true z_b | replace z_b := of_decide_eq_false z_b | skip) <;> ((try simp only [AllOk, Bd.ok, and_true] at z_b); first | contradiction | (revert z_b; intros))) | ((apply q_alli) <;> intro _ _ _ _ <;> try contradiction) | (apply q_allv; intro _ _ _)) | fail)); all_goals ((conv => whnf); try with_reducible apply At.mk)))
  refine wp_loop (fun _ : Int => [(1, .slice S.b S.k S.c), (2, .int .i64 (-1)), (3, .pointer (some ⟨h.next + 0, 0, none⟩)), (6, .pointer (some ⟨h.next + 1, 0, none⟩)), (8, .pointer (some ⟨h.next + 52, 0, none⟩)), (9, .pointer (some ⟨h.next + 55, 0, none⟩)), (10, .pointer (some ⟨h.next + 58, 0, none⟩)), (11, .int .i64 s), (12, .pointer (some ⟨h1.next + 4, 0, none⟩)), (64, .slice S.b S.k S.c), (65, .int .i64 S.k), (66, .int .i64 s)])
   (fun f h2 => h2.get (h.next + 0) = some (.cells t.cells 135) ∧ h2.get (h.next + 1) = some (.cells (fCells 0 ⟨0, 0, 0, 0, 0, 0⟩ 0) 141) ∧ h2.get (h.next + 52) = some (.cells (lowX t f).cells 139) ∧ h2.get (h.next + 55) = some (.cells (fCells (-1) ⟨0, 0, 0, 0, 0, 0⟩ 0) 141) ∧
    (∃ bi bx bn, h2.get (h.next + 58) = some (.cells (fCells bi bx bn) 141) ∧ BestLow t S s f bi bx bn) ∧ Same m h h2 ∧ h2.get (h1.next + 4) = some (.cells (S.ln s).cells 71) ∧ h1.next + 4 < h2.next ∧ t.ml ≤ f ∧ f ≤ t.mh + 1) (fun f => (t.mh + 1 - f).toNat) t.ml
   ⟨rfl, rfl, rfl, rfl, rfl, rfl, rfl, rfl, rfl, rfl, rfl, rfl, trivial⟩ ⟨byGet, byGet, byGet, byGet, ⟨bi, bx, bn, byGet, hbest⟩, bySame, byGet, byOm, by omega, by omega⟩ ?_
  clear g1 g2 g3 g4 g5 hbest
  rintro f g h2 ⟨g1, g2, g3, g4, ⟨bi, bx, bn, g5, hbest⟩, q2, g6, hn2, hf1, hf2⟩ K2 hK2
  unfold T.cells at g1
  unfold fCells at g4 g5
  unfold X.cells at g3
  unfold Line.cells at g6
  have hform : (lowX t f).form = f := rfl
  by_cases hf : f ≤ t.mh
  ·have hit : IsTrue t (lowX t f) := ⟨Int.le_refl _, k.f2, k.t2, Int.le_refl _, Int.le_refl _, k.e2, hf1, hf, k.b2, Int.le_refl _, Int.le_refl _, k.r2⟩
   have hb : (lowX t f).Bd := hit.bd k
   have hbo : both t (S.ln s) (lowX t f) := both_of k (rk s hsk) hit.t1 hit.t2 hit.e1 hit.e2
   have hi1 : inside (S.ln s) (modelRe t (lowX t f).tank) := hbo.1
   have hi2 : inside (S.ln s) (shipRe t (lowX t f).sea) := hbo.2
   have hcb := coefOf_bd k hb (fric_bd hv hi1) (fric_bd hv hi2)
   have hcb' : -200000 ≤ coef t (S.ln s) (lowX t f) ∧ coef t (S.ln s) (lowX t f) ≤ 1000202000 := hcb
   rcases hbest with ⟨rfl, rfl, rfl, hs0, hf0⟩ | ⟨i, f', rfl, hi, hf3, hf4, rfl, rfl, hbd, hb1, hb2⟩
   ·(focus ((try with_reducible apply wpC.to); (repeat' ((conv => whnf); first | refine byEv ?_ | (apply Fork.mk <;> (intro _; try (exfalso; omega))) | ((apply q_call); (focus exact byNext); (focus exact byLo); (focus (first | exact kTDragH1 | exact kTDragG2 | exact kTDragG1 | exact kTDragF5 | exact kTDragF4 | exact kTDragF2 | exact kTDragD0 | exact kTDragC6)); first | ((apply q_allB) <;> (intro z_b _ _ _; first | exact Bool.noConfusion z_b | replace z_b := of_decide_eq_true z_b | replace z_b := of_decide_eq_false z_b | skip) <;> ((try simp only [AllOk, Bd.ok, and_true] at z_b); first | contradiction | (revert z_b; intros))) | ((apply q_alli) <;> intro _ _ _ _ <;> try contradiction) | (apply q_allv; intro _ _ _)) | fail)); all_goals ((conv => whnf); try with_reducible apply At.mk)))
    refine OpE.pure (.bool true) (by kernel_rfl) ?_
    (focus ((try with_reducible apply wpC.to); (repeat' ((conv => whnf); first | refine byEv ?_ | (apply Fork.mk <;> (intro _; try (exfalso; omega))) | ((apply q_call); (focus exact byNext); (focus exact byLo); (focus (first | exact kTDragH1 | exact kTDragG2 | exact kTDragG1 | exact kTDragF5 | exact kTDragF4 | exact kTDragF2 | exact kTDragD0 | exact kTDragC6)); first | ((apply q_allB) <;> (intro z_b _ _ _; first | exact Bool.noConfusion z_b | replace z_b := of_decide_eq_true z_b | replace z_b := of_decide_eq_false z_b | skip) <;> ((try simp only [AllOk, Bd.ok, and_true] at z_b); first | contradiction | (revert z_b; intros))) | ((apply q_alli) <;> intro _ _ _ _ <;> try contradiction) | (apply q_allv; intro _ _ _)) | fail)); all_goals ((conv => whnf); try with_reducible apply At.mk)))
    refine hK2 (f + 1) _ _ ⟨rfl, rfl, rfl, rfl, rfl, rfl, rfl, rfl, rfl, rfl, rfl, rfl, trivial⟩ ⟨byGet, byGet, byGet, byGet, ⟨s, lowX t f, coef t (S.ln s) (lowX t f), byGet, .inr ⟨s, f, rfl, hsk, hf1, hf, rfl, rfl, hcb', fun j hj => by omega, fun f2 h3 h4 => ?_⟩⟩, bySame, byGet, byOm, by omega, by omega⟩ byO
    have : f2 = f := by omega
    subst this
    exact Int.le_refl _
   ·(focus ((try with_reducible apply wpC.to); (repeat' ((conv => whnf); first | refine byEv ?_ | (apply Fork.mk <;> (intro _; try (exfalso; omega))) | ((apply q_call); (focus exact byNext); (focus exact byLo); (focus (first | exact kTDragH1 | exact kTDragG2 | exact kTDragG1 | exact kTDragF5 | exact kTDragF4 | exact kTDragF2 | exact kTDragD0 | exact kTDragC6)); first | ((apply q_allB) <;> (intro z_b _ _ _; first | exact Bool.noConfusion z_b | replace z_b := of_decide_eq_true z_b | replace z_b := of_decide_eq_false z_b | skip) <;> ((try simp only [AllOk, Bd.ok, and_true] at z_b); first | contradiction | (revert z_b; intros))) | ((apply q_alli) <;> intro _ _ _ _ <;> try contradiction) | (apply q_allv; intro _ _ _)) | fail)); all_goals ((conv => whnf); try with_reducible apply At.mk)))
    refine OpE.pure (.bool false) (by kernel_rfl) ?_
    (focus ((try with_reducible apply wpC.to); (repeat' ((conv => whnf); first | refine byEv ?_ | (apply Fork.mk <;> (intro _; try (exfalso; omega))) | ((apply q_call); (focus exact byNext); (focus exact byLo); (focus (first | exact kTDragH1 | exact kTDragG2 | exact kTDragG1 | exact kTDragF5 | exact kTDragF4 | exact kTDragF2 | exact kTDragD0 | exact kTDragC6)); first | ((apply q_allB) <;> (intro z_b _ _ _; first | exact Bool.noConfusion z_b | replace z_b := of_decide_eq_true z_b | replace z_b := of_decide_eq_false z_b | skip) <;> ((try simp only [AllOk, Bd.ok, and_true] at z_b); first | contradiction | (revert z_b; intros))) | ((apply q_alli) <;> intro _ _ _ _ <;> try contradiction) | (apply q_allv; intro _ _ _)) | fail)); all_goals ((conv => whnf); try with_reducible apply At.mk)))
    ·refine hK2 (f + 1) _ _ ⟨rfl, rfl, rfl, rfl, rfl, rfl, rfl, rfl, rfl, rfl, rfl, rfl, trivial⟩ ⟨byGet, byGet, byGet, byGet, ⟨s, lowX t f, coef t (S.ln s) (lowX t f), byGet, .inr ⟨s, f, rfl, hsk, hf1, hf, rfl, rfl, hcb', fun j hj f2 h3 h4 => ?_, fun f2 h3 h4 => ?_⟩⟩, bySame, byGet, byOm, by omega, by omega⟩ byO
     ·have := hb1 j hj f2 h3 h4; omega
     ·by_cases e : f2 = f
      ·subst e; omega
      ·have := hb2 f2 h3 byO; omega
    ·refine hK2 (f + 1) _ _ ⟨rfl, rfl, rfl, rfl, rfl, rfl, rfl, rfl, rfl, rfl, rfl, rfl, trivial⟩ ⟨byGet, byGet, byGet, byGet, ⟨i, lowX t f', coef t (S.ln i) (lowX t f'), byGet, .inr ⟨i, f', rfl, hi, hf3, hf4, rfl, rfl, hbd, hb1, fun f2 h3 h4 => ?_⟩⟩, bySame, byGet, byOm, by omega, by omega⟩ byO
     by_cases e : f2 = f
     ·subst e; omega
     ·exact hb2 f2 h3 byO
  ·have hfe : f = t.mh + 1 := by omega
   subst hfe
   (focus ((try with_reducible apply wpC.to); (repeat' ((conv => whnf); first | refine byEv ?_ | (apply Fork.mk <;> (intro _; try (exfalso; omega))) | ((apply q_call); (focus exact byNext); (focus exact byLo); (focus (first | exact kTDragH1 | exact kTDragG2 | exact kTDragG1 | exact kTDragF5 | exact kTDragF4 | exact kTDragF2 | exact kTDragD0 | exact kTDragC6)); first | ((apply q_allB) <;> (intro z_b _ _ _; first | exact Bool.noConfusion z_b | replace z_b := of_decide_eq_true z_b | replace z_b := of_decide_eq_false z_b | skip) <;> ((try simp only [AllOk, Bd.ok, and_true] at z_b); first | contradiction | (revert z_b; intros))) | ((apply q_alli) <;> intro _ _ _ _ <;> try contradiction) | (apply q_allv; intro _ _ _)) | fail)); all_goals ((conv => whnf); try with_reducible apply At.mk)))
   refine hK (s + 1) _ _ ⟨rfl, rfl, rfl, rfl, rfl, rfl, rfl, rfl, rfl, int_of rfl byO, trivial⟩ ⟨byGet, byGet, ⟨_, byGet⟩, byGet, ⟨bi, bx, bn, byGet, ?_⟩, bySame, byOm, by omega⟩ byO
   rcases hbest with ⟨rfl, rfl, rfl, hs0, hf0⟩ | ⟨i, f', rfl, hi, hf3, hf4, rfl, rfl, hbd, hb1, hb2⟩
   ·omega
   ·refine .inr ⟨i, f', rfl, hi, hf3, hf4, rfl, rfl, hbd, fun j hj f2 h3 h4 => ?_, fun f2 h3 h4 => by omega⟩
    by_cases e : j = s
    ·subst e; exact hb2 f2 h3 byO
    ·exact hb1 j byO f2 h3 h4
 ·have : s = S.k := by omega
  subst this
  rcases hbest with ⟨rfl, rfl, rfl, hs0, hf0⟩ | ⟨i, f', rfl, hi, hf3, hf4, rfl, rfl, hbd, hb1, hb2⟩
  ·omega
  unfold fCells at g2
  (focus ((try with_reducible apply wpC.to); (repeat' ((conv => whnf); first | refine byEv ?_ | (apply Fork.mk <;> (intro _; try (exfalso; omega))) | ((apply q_call); (focus exact byNext); (focus exact byLo); (focus (first | exact kTDragH1 | exact kTDragG2 | exact kTDragG1 | exact kTDragF5 | exact kTDragF4 | exact kTDragF2 | exact kTDragD0 | exact kTDragC6)); first | ((apply q_allB) <;> (intro z_b _ _ _; first | exact Bool.noConfusion z_b | replace z_b := of_decide_eq_true z_b | replace z_b := of_decide_eq_false z_b | skip) <;> ((try simp only [AllOk, Bd.ok, and_true] at z_b); first | contradiction | (revert z_b; intros))) | ((apply q_alli) <;> intro _ _ _ _ <;> try contradiction) | (apply q_allv; intro _ _ _)) | fail)); all_goals ((conv => whnf); try with_reducible apply At.mk)))
  (refine byFin ?_)
  refine ⟨i, f', hi, hf3, hf4, rfl, ?_⟩
  rintro c ⟨j, hj, f2, h3, h4, rfl⟩
  exact hb1 j hj f2 h3 h4
end AE.Tryz
