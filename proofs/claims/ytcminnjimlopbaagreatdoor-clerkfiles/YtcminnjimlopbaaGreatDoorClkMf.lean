/- Clerk, walked: bill. -/
import Derived.Test.YtcminnjimlopbaaGreatDoorClkMe
set_option linter.unusedVariables false
set_option linter.unusedSimpArgs false
set_option linter.unusedSectionVars false
namespace AE.Tryz
open Go AE Go.Proofs AE.Clerk
set_option maxRecDepth 100000
set_option linter.unusedVariables false

theorem flt_le {α : Type} {p q : α → Bool} (h : ∀ i, q i = true → p i = true) : ∀ l : List α, (l.filter q).length ≤ (l.filter p).length
 | [] => Nat.le_refl _
 | x :: l => by
   have ih := flt_le h l
   simp only [List.filter_cons]
   by_cases hq : q x = true
   ·rw [if_pos hq, if_pos (h x hq)]; simp only [List.length_cons]; omega
   ·rw [if_neg hq]; split
    ·simp only [List.length_cons]; omega
    ·exact ih
theorem flt_lt {α : Type} {p q : α → Bool} (h : ∀ i, q i = true → p i = true) {b : α} (hp : p b = true) (hq : q b = false) : ∀ {l : List α}, b ∈ l → (l.filter q).length < (l.filter p).length
 | [], hb => by simp at hb
 | x :: l, hb => by
   have hle := flt_le h l
   simp only [List.filter_cons]
   rcases List.mem_cons.1 hb with rfl | hb
   ·rw [if_neg (by simp [hq]), if_pos hp]; simp only [List.length_cons]; omega
   ·have ih := flt_lt h hp hq hb
    by_cases hq : q x = true
    ·rw [if_pos hq, if_pos (h x hq)]; simp only [List.length_cons]; omega
    ·rw [if_neg hq]; split
     ·simp only [List.length_cons]; omega
     ·exact ih
def usB (n : Nat) (seen : List Nat) : Nat := ((List.range n).filter fun i => !decide (i ∈ seen)).length
theorem usB_lt {n b : Nat} {seen : List Nat} (hb : b < n) (hn : b ∉ seen) : usB n (seen ++ [b]) < usB n seen :=
 flt_lt (fun i hi => by simp at hi ⊢; exact hi.1) (b := b) (by simpa using hn) (by simp) (by simpa using hb)
theorem ares_one {P : Program} {h : H} {ts : Ts} {r : ResultVar} {v : Value} (e : ares1 P h ts r = some v) : ares P h ts [r] = some v := e
theorem flat_below {v : Value} (h : flat v = true) {N : Nat} {J : Inj} : In (J.below N) v := (flat_ren _ v h).2
theorem flatL_below {N : Nat} {J : Inj} : ∀ {c : List Value}, (∀ v ∈ c, flat v = true) → InL (J.below N) c
 | [], _ => by simp [InL]
 | x :: l, h => by
   simp only [InL]
   exact ⟨flat_below (h x (by simp)), flatL_below fun v hv => h v (by simp [hv])⟩
theorem mCells_flat (m : Mdl) : ∀ v ∈ mCells m, flat v = true := by
 intro v hv
 simp [mCells] at hv
 rcases hv with rfl | rfl | rfl | rfl | rfl | rfl | rfl | rfl | rfl <;> rfl
theorem costE_flat {J : Inj} {N : Nat} {rs : List Rn} {i : Nat} : ∀ e ∈ entI (costE rs i), In (J.below N) e.key ∧ In (J.below N) e.val := by
 intro e he
 obtain ⟨e', he', rfl⟩ := List.mem_map.1 he
 obtain ⟨j, r, -, -, rfl⟩ := costE_ent he'
 exact ⟨flat_below rfl, flat_below rfl⟩
set_option maxHeartbeats 4000000 in
theorem bill_w {L : LP} {h : H} {ps : Nat → Nat} {s : St} {t lo at_ p i : Nat} {m : Mdl} {x : Ln} (a : At1 L h ps s t lo p i m) (hx : x.k = 5) (hxa : 1 ≤ x.a ∧ x.a ≤ 1000000) (hxm : 1 ≤ x.m ∧ x.m ≤ 1099511627776) :
 AW Tryz.prog 98 lo h [ptrV L.g, ptrV p, .agg ⟨x.cells⟩, .int .i64 at_] (fun v h' => ActR L h (act x at_ s i m).1 (act x at_ s i m).2 v h') := by
 have k := a.k
 obtain ⟨o1, o2, o3, o4, o5⟩ := k.ord
 obtain ⟨p1, p2, kp⟩ := a.row
 have hlo := a.lo
 have kg := k.g
 have kc : h.get L.g2 = some (.map ((costE s.rs 0).map (EG.ent fun k : Int => Value.int .i64 k)) s.rs.length) := k.c
 have ko : h.get L.g3 = some (.map ((ownE s.rs 0).map (EG.ent fun k : Int => Value.int .i64 k)) s.rs.length) := k.o
 have b3 := a.mok
 have ht := a.t60
 obtain ⟨w1, w2, w3, w4, w5, w6, w7, w8, w9⟩ := b3
 by_cases h1 : m.opn = 0
 ·have eact : act x at_ s i m = (s, 16) := by
   unfold act; rw [if_neg byO, if_neg byO, if_neg byO, if_pos hx, if_pos h1]
  rw [eact]
  refine fun98.callG (h1 := h) (N := h.next) (v := .iface 171 (.agg ⟨[.int .i64 16]⟩)) rfl byO (fun J _ => flat_below rfl) (Nat.le_refl _) (Nat.le_refl _) (Quiet.refl _ _) (fun r row hr hg => .inr (.inl ⟨hr, hg⟩)) ⟨⟨ps, k⟩, (show RefP 16 _ from .inr (.inr (.inr ⟨by decide, by decide, by decide, by decide, by decide, rfl⟩))), fun q _ _ => rfl, Nat.le_refl _⟩ ?_
  unfold a98 Ln.cells ptrV
  unfold mCells at kp
  (focus ((try with_reducible apply wpC.to); (repeat' ((conv => whnf); first | refine byEv ?_ | (apply Fork.mk <;> (intro _; try (exfalso; omega))) | ((apply q_call); (focus exact byNext); (focus exact byLo); (focus (first | exact kClkE1 | exact kClkR0 | exact kClkE0 | exact kClkE2 | exact kClkG0 | exact kClkG4 | exact kClkA1 | exact kClkA0 | exact kClkB0 | exact kClkC0)); first | ((apply q_allB) <;> (intro z_b _ _ _; first | exact Bool.noConfusion z_b | replace z_b := of_decide_eq_true z_b | replace z_b := of_decide_eq_false z_b | skip) <;> ((try (unfold btw at z_b)); first | contradiction | (revert z_b; intros))) | ((apply q_alli) <;> intro _ _ _ _ <;> try contradiction) | (apply q_allv; intro _ _ _)) | refine xClkG0 ?_ | ((apply q_cmpk); (focus exact rfl); (focus exact rfl); (focus exact rfl); (focus exact rfl); (all_goals (intro hb; first | (replace hb := of_decide_eq_true hb) | (replace hb := of_decide_eq_false hb))); (all_goals (try (exfalso; omega; done))); (all_goals (revert hb; intros))) | refine xAEStrN3 ?_ | ((apply q_streq); (focus exact rfl); (focus exact rfl); (focus exact rfl); (focus exact rfl); (all_goals (intro hb; first | (replace hb := of_decide_eq_true hb) | (replace hb := of_decide_eq_false hb))); (all_goals (try contradiction)); (all_goals (revert hb; intros))) | refine xAEStrN1 ?_ | refine xAEStrN0 ?_ | fail)); all_goals ((conv => whnf); try with_reducible apply At.mk)))
  exact ⟨.inr rfl, ares_one (one_tmp rfl), fun r row hr hg => .inr ((get_of fun y hy => by (exact byGet) : _ = h.get r).trans hg)⟩
 ·have eact : act x at_ s i m = (⟨s.stock, s.lost, s.ms.set i { m with billed := m.billed + m.opn * x.a, opn := 0 }, s.rs.map (billR x.m x.a)⟩, 0) := by
   unfold act; rw [if_neg byO, if_neg byO, if_neg byO, if_pos hx, if_neg h1]
  rw [eact]
  generalize hm' : ({ m with billed := m.billed + m.opn * x.a, opn := 0 } : Mdl) = m'
  refine fun98.callG (h1 := (h.put L.g2 (.map (entI (costE (s.rs.map (billR x.m x.a)) 0)) s.rs.length)).put p (.cells (mCells m') 85)) (N := h.next) (v := .nilIface) rfl byO (fun J _ => flat_below rfl) (Nat.le_refl _) (Nat.le_refl _) ((Quiet.put byO byO).trans (Quiet.put byO (by show p < h.next; omega))) (fun r row hr hg => ?_) ?_ ?_
  ·simp only [H.put] at hg
   by_cases h2 : r = p
   ·rw [if_pos h2] at hg
    simp only [Option.some.injEq] at hg
    subst hg
    exact kept_cells hr fun J => flatL_below (mCells_flat m')
   ·rw [if_neg h2] at hg
    by_cases h3 : r = L.g2
    ·rw [if_pos h3] at hg
     simp only [Option.some.injEq] at hg
     subst hg
     exact kept_map hr fun J => costE_flat
    ·rw [if_neg h3] at hg
     exact .inr (.inl ⟨hr, hg⟩)
  ·have em : m'.no = m.no := by rw [← hm']
   refine ⟨⟨_, a.k.step a.hm em (by rw [← hm']) byGet byGo ?_ ?_ (by rw [← a.hp]; (exact byGet)) (fun q h1 h2 h3 => by rw [← a.hp] at h3; exact get_of fun y hy => byGet) (Nat.le_refl _)⟩, .inl ⟨rfl, rfl⟩, fun q h1 h2 => get_of fun y hy => byGet, Nat.le_refl _⟩
   ·dsimp only
    rw [List.length_map]
    (exact byGet)
   ·dsimp only
    rw [List.length_map, own_bill]
    exact Eq.trans byGo ko
  unfold a98 Ln.cells ptrV
  unfold mCells at kp
  have hmul : 0 ≤ m.opn * x.a ∧ m.opn * x.a ≤ 60000000 := by
   have e1 := Int.mul_le_mul (show m.opn ≤ 60 by omega) hxa.2 byO byO
   have e2 := Int.mul_nonneg w4.1 (show 0 ≤ x.a by omega)
   omega
  have hnk := a.ok.rn
  (focus ((try with_reducible apply wpC.to); (repeat' ((conv => whnf); first | refine byEv ?_ | (apply Fork.mk <;> (intro _; try (exfalso; omega))) | ((apply q_call); (focus exact byNext); (focus exact byLo); (focus (first | exact kClkE1 | exact kClkR0 | exact kClkE0 | exact kClkE2 | exact kClkG0 | exact kClkG4 | exact kClkA1 | exact kClkA0 | exact kClkB0 | exact kClkC0)); first | ((apply q_allB) <;> (intro z_b _ _ _; first | exact Bool.noConfusion z_b | replace z_b := of_decide_eq_true z_b | replace z_b := of_decide_eq_false z_b | skip) <;> ((try (unfold btw at z_b)); first | contradiction | (revert z_b; intros))) | ((apply q_alli) <;> intro _ _ _ _ <;> try contradiction) | (apply q_allv; intro _ _ _)) | refine xClkG0 ?_ | ((apply q_cmpk); (focus exact rfl); (focus exact rfl); (focus exact rfl); (focus exact rfl); (all_goals (intro hb; first | (replace hb := of_decide_eq_true hb) | (replace hb := of_decide_eq_false hb))); (all_goals (try (exfalso; omega; done))); (all_goals (revert hb; intros))) | refine xAEStrN3 ?_ | ((apply q_streq); (focus exact rfl); (focus exact rfl); (focus exact rfl); (focus exact rfl); (all_goals (intro hb; first | (replace hb := of_decide_eq_true hb) | (replace hb := of_decide_eq_false hb))); (all_goals (try contradiction)); (all_goals (revert hb; intros))) | refine xAEStrN1 ?_ | refine xAEStrN0 ?_ | fail)); all_goals ((conv => whnf); try with_reducible apply At.mk)))
  apply q_mrange (r := L.g2)
  focus exact rfl
  focus (exact byGet)
  (focus ((try with_reducible apply wpC.to); (repeat' ((conv => whnf); first | refine byEv ?_ | (apply Fork.mk <;> (intro _; try (exfalso; omega))) | ((apply q_call); (focus exact byNext); (focus exact byLo); (focus (first | exact kClkE1 | exact kClkR0 | exact kClkE0 | exact kClkE2 | exact kClkG0 | exact kClkG4 | exact kClkA1 | exact kClkA0 | exact kClkB0 | exact kClkC0)); first | ((apply q_allB) <;> (intro z_b _ _ _; first | exact Bool.noConfusion z_b | replace z_b := of_decide_eq_true z_b | replace z_b := of_decide_eq_false z_b | skip) <;> ((try (unfold btw at z_b)); first | contradiction | (revert z_b; intros))) | ((apply q_alli) <;> intro _ _ _ _ <;> try contradiction) | (apply q_allv; intro _ _ _)) | refine xClkG0 ?_ | ((apply q_cmpk); (focus exact rfl); (focus exact rfl); (focus exact rfl); (focus exact rfl); (all_goals (intro hb; first | (replace hb := of_decide_eq_true hb) | (replace hb := of_decide_eq_false hb))); (all_goals (try (exfalso; omega; done))); (all_goals (revert hb; intros))) | refine xAEStrN3 ?_ | ((apply q_streq); (focus exact rfl); (focus exact rfl); (focus exact rfl); (focus exact rfl); (all_goals (intro hb; first | (replace hb := of_decide_eq_true hb) | (replace hb := of_decide_eq_false hb))); (all_goals (try contradiction)); (all_goals (revert hb; intros))) | refine xAEStrN1 ?_ | refine xAEStrN0 ?_ | fail)); all_goals ((conv => whnf); try with_reducible apply At.mk)))
  have hmc : mCells m' = [.int .i64 m.no, .int .i64 m.stage, .int .i64 m.wax, .int .i64 m.runs, .int .i64 0, .int .i64 (m.billed + m.opn * x.a), .int .i64 m.claimed, .int .i64 m.paid, .int .i64 m.loss] := by rw [← hm']; rfl
  refine wp_loop (fun _ : List Nat => [(0, .pointer (some ⟨L.g, 0, none⟩)), (6, .pointer (some ⟨h.next, 0, none⟩)), (44, .pointer (some ⟨h.next + 35, 0, none⟩))])
   (fun seen h1 => h1.get h.next = some (.cells [.int .i64 x.k, .int .i64 x.m, .int .i64 x.a, .int .i64 x.b] 38) ∧ h1.get L.g2 = some (.map ((costE (rsS x.m x.a seen s.rs 0) 0).map (EG.ent fun k : Int => Value.int .i64 k)) s.rs.length) ∧ h1.get (h.next + 35) = some (.iter L.g2 s.rs.length seen s.rs.length) ∧ h1.get p = some (.cells (mCells m') 85) ∧ (∀ r, r < h.next → r ≠ L.g2 → r ≠ p → h1.get r = h.get r) ∧ h.next + 36 ≤ h1.next) (fun seen => usB s.rs.length seen) [] ⟨rfl, rfl, rfl, trivial⟩ ⟨byGet, by rw [rsS_nil]; (exact byGet), byGet, by rw [hmc]; (exact byGet), fun r h1 h2 h3 => get_of fun y hy => byGet, byOm⟩ ?_
  rintro seen g' h2 ⟨x0, xc, xi, xp, fr, n2⟩ K hK
  have hbl : ∀ e ∈ costE (rsS x.m x.a seen s.rs 0) 0, e.b < s.rs.length := fun e he => by
   have := (costE_mem he).2
   rw [rsS_len] at this
   omega
  have xg := (fr L.g byO byO byO).trans kg
  have xo := (fr L.g3 byO byO byO).trans ko
  (focus ((try with_reducible apply wpC.to); (repeat' ((conv => whnf); first | refine byEv ?_ | (apply Fork.mk <;> (intro _; try (exfalso; omega))) | ((apply q_call); (focus exact byNext); (focus exact byLo); (focus (first | exact kClkE1 | exact kClkR0 | exact kClkE0 | exact kClkE2 | exact kClkG0 | exact kClkG4 | exact kClkA1 | exact kClkA0 | exact kClkB0 | exact kClkC0)); first | ((apply q_allB) <;> (intro z_b _ _ _; first | exact Bool.noConfusion z_b | replace z_b := of_decide_eq_true z_b | replace z_b := of_decide_eq_false z_b | skip) <;> ((try (unfold btw at z_b)); first | contradiction | (revert z_b; intros))) | ((apply q_alli) <;> intro _ _ _ _ <;> try contradiction) | (apply q_allv; intro _ _ _)) | refine xClkG0 ?_ | ((apply q_cmpk); (focus exact rfl); (focus exact rfl); (focus exact rfl); (focus exact rfl); (all_goals (intro hb; first | (replace hb := of_decide_eq_true hb) | (replace hb := of_decide_eq_false hb))); (all_goals (try (exfalso; omega; done))); (all_goals (revert hb; intros))) | refine xAEStrN3 ?_ | ((apply q_streq); (focus exact rfl); (focus exact rfl); (focus exact rfl); (focus exact rfl); (all_goals (intro hb; first | (replace hb := of_decide_eq_true hb) | (replace hb := of_decide_eq_false hb))); (all_goals (try contradiction)); (all_goals (revert hb; intros))) | refine xAEStrN1 ?_ | refine xAEStrN0 ?_ | fail)); all_goals ((conv => whnf); try with_reducible apply At.mk)))
  refine wp_nextG (r := h.next + 35) (mr := L.g2) (es := costE (rsS x.m x.a seen s.rs 0) 0) rfl byO byO byGet byGet hbl (Nat.le_refl _) (fun hz => ?_) (fun e he hns => ?_)
  ·clear hK
   (focus ((try with_reducible apply wpC.to); (repeat' ((conv => whnf); first | refine byEv ?_ | (apply Fork.mk <;> (intro _; try (exfalso; omega))) | ((apply q_call); (focus exact byNext); (focus exact byLo); (focus (first | exact kClkE1 | exact kClkR0 | exact kClkE0 | exact kClkE2 | exact kClkG0 | exact kClkG4 | exact kClkA1 | exact kClkA0 | exact kClkB0 | exact kClkC0)); first | ((apply q_allB) <;> (intro z_b _ _ _; first | exact Bool.noConfusion z_b | replace z_b := of_decide_eq_true z_b | replace z_b := of_decide_eq_false z_b | skip) <;> ((try (unfold btw at z_b)); first | contradiction | (revert z_b; intros))) | ((apply q_alli) <;> intro _ _ _ _ <;> try contradiction) | (apply q_allv; intro _ _ _)) | refine xClkG0 ?_ | ((apply q_cmpk); (focus exact rfl); (focus exact rfl); (focus exact rfl); (focus exact rfl); (all_goals (intro hb; first | (replace hb := of_decide_eq_true hb) | (replace hb := of_decide_eq_false hb))); (all_goals (try (exfalso; omega; done))); (all_goals (revert hb; intros))) | refine xAEStrN3 ?_ | ((apply q_streq); (focus exact rfl); (focus exact rfl); (focus exact rfl); (focus exact rfl); (all_goals (intro hb; first | (replace hb := of_decide_eq_true hb) | (replace hb := of_decide_eq_false hb))); (all_goals (try contradiction)); (all_goals (revert hb; intros))) | refine xAEStrN1 ?_ | refine xAEStrN0 ?_ | fail)); all_goals ((conv => whnf); try with_reducible apply At.mk)))
   refine ⟨.inr rfl, ares_one (one_tmp rfl), fun r row hr hg => .inr ?_⟩
   have hall : costE (rsS x.m x.a seen s.rs 0) 0 = costE (s.rs.map (billR x.m x.a)) 0 := costE_all fun j r hj hb => by
    have := costE_in (i := 0) (rsS_get (no := x.m) (a := x.a) (seen := seen) (i := 0) hj) (by split <;> simp [billR_back, hb])
    exact hz _ this
   rw [hall] at xc
   simp only [H.put] at hg
   by_cases h2 : r = p
   ·rw [if_pos h2] at hg
    rw [h2, ← hg]
    (exact byGet)
   ·rw [if_neg h2] at hg
    by_cases h3 : r = L.g2
    ·rw [if_pos h3] at hg
     rw [h3, ← hg]
     unfold entI
     (exact byGet)
    ·rw [if_neg h3] at hg
     rw [← hg]
     exact Eq.trans byGo (fr r hr h3 h2)
  ·obtain ⟨j, r', hj', hb', rfl⟩ := costE_ent he
   have hjl : j < s.rs.length := by
    have := (List.getElem?_eq_some_iff.1 hj').1
    rwa [rsS_len] at this
   obtain ⟨r, hr⟩ : ∃ r, s.rs[j]? = some r := ⟨_, List.getElem?_eq_getElem hjl⟩
   have er : r' = r := by
    have := rsS_get (no := x.m) (a := x.a) (seen := seen) (i := 0) hr
    rw [hj', if_neg hns] at this
    simpa using this
   subst er
   have hrk := a.ok.rs r' (List.mem_of_getElem? hr)
   have hown := own_some (i := 0) (runAt_self hnk hr) hr
   have hset := costE_set (no := x.m) (a := x.a) (seen := seen) (i := 0) hnk hr hb'
   have hput : putG (costE (rsS x.m x.a seen s.rs 0) 0) ((r'.at_ : Nat) : Int) (.int .i64 (billR x.m x.a r').cost) s.rs.length = costE (rsS x.m x.a (seen ++ [0 + j]) s.rs 0) 0 ∧ cntG (costE (rsS x.m x.a seen s.rs 0) 0) ((r'.at_ : Nat) : Int) s.rs.length = s.rs.length := by
    have hany : (costE (rsS x.m x.a seen s.rs 0) 0).any (fun e => e.k == ((r'.at_ : Nat) : Int)) = true := List.any_eq_true.2 ⟨_, he, by simp⟩
    unfold putG cntG
    rw [if_pos hany, if_pos hany]
    exact ⟨hset, rfl⟩
   have hus := usB_lt (n := s.rs.length) (b := 0 + j) byO hns
   (focus ((try with_reducible apply wpC.to); (repeat' ((conv => whnf); first | refine byEv ?_ | (apply Fork.mk <;> (intro _; try (exfalso; omega))) | ((apply q_call); (focus exact byNext); (focus exact byLo); (focus (first | exact kClkE1 | exact kClkR0 | exact kClkE0 | exact kClkE2 | exact kClkG0 | exact kClkG4 | exact kClkA1 | exact kClkA0 | exact kClkB0 | exact kClkC0)); first | ((apply q_allB) <;> (intro z_b _ _ _; first | exact Bool.noConfusion z_b | replace z_b := of_decide_eq_true z_b | replace z_b := of_decide_eq_false z_b | skip) <;> ((try (unfold btw at z_b)); first | contradiction | (revert z_b; intros))) | ((apply q_alli) <;> intro _ _ _ _ <;> try contradiction) | (apply q_allv; intro _ _ _)) | refine xClkG0 ?_ | ((apply q_cmpk); (focus exact rfl); (focus exact rfl); (focus exact rfl); (focus exact rfl); (all_goals (intro hb; first | (replace hb := of_decide_eq_true hb) | (replace hb := of_decide_eq_false hb))); (all_goals (try (exfalso; omega; done))); (all_goals (revert hb; intros))) | refine xAEStrN3 ?_ | ((apply q_streq); (focus exact rfl); (focus exact rfl); (focus exact rfl); (focus exact rfl); (all_goals (intro hb; first | (replace hb := of_decide_eq_true hb) | (replace hb := of_decide_eq_false hb))); (all_goals (try contradiction)); (all_goals (revert hb; intros))) | refine xAEStrN1 ?_ | refine xAEStrN0 ?_ | fail)); all_goals ((conv => whnf); try with_reducible apply At.mk)))
   refine OpE.mk (entryG (r := h.next + 35) (mr := L.g2) (seen := seen) (es := costE (rsS x.m x.a seen s.rs 0) 0) (f := fun k : Int => Value.int .i64 k) rfl byGet byGet he costE_births) ?_
   (focus ((try with_reducible apply wpC.to); (repeat' ((conv => whnf); first | refine byEv ?_ | (apply Fork.mk <;> (intro _; try (exfalso; omega))) | ((apply q_call); (focus exact byNext); (focus exact byLo); (focus (first | exact kClkE1 | exact kClkR0 | exact kClkE0 | exact kClkE2 | exact kClkG0 | exact kClkG4 | exact kClkA1 | exact kClkA0 | exact kClkB0 | exact kClkC0)); first | ((apply q_allB) <;> (intro z_b _ _ _; first | exact Bool.noConfusion z_b | replace z_b := of_decide_eq_true z_b | replace z_b := of_decide_eq_false z_b | skip) <;> ((try (unfold btw at z_b)); first | contradiction | (revert z_b; intros))) | ((apply q_alli) <;> intro _ _ _ _ <;> try contradiction) | (apply q_allv; intro _ _ _)) | refine xClkG0 ?_ | ((apply q_cmpk); (focus exact rfl); (focus exact rfl); (focus exact rfl); (focus exact rfl); (all_goals (intro hb; first | (replace hb := of_decide_eq_true hb) | (replace hb := of_decide_eq_false hb))); (all_goals (try (exfalso; omega; done))); (all_goals (revert hb; intros))) | refine xAEStrN3 ?_ | ((apply q_streq); (focus exact rfl); (focus exact rfl); (focus exact rfl); (focus exact rfl); (all_goals (intro hb; first | (replace hb := of_decide_eq_true hb) | (replace hb := of_decide_eq_false hb))); (all_goals (try contradiction)); (all_goals (revert hb; intros))) | refine xAEStrN1 ?_ | refine xAEStrN0 ?_ | fail)); all_goals ((conv => whnf); try with_reducible apply At.mk)))
   apply q_look (r := L.g3) (es := ownE s.rs 0) (c := s.rs.length) (k := ((r'.at_ : Nat) : Int)) (KeyT.i64 Tryz.underlying3)
   focus exact rfl
   focus exact rfl
   focus (exact byGet)
   rw [hown]
   simp only [Option.getD_some]
   by_cases hc1 : r'.no = x.m
   ·by_cases hc2 : r'.cost = 0
    ·have hbr : (billR x.m x.a r').cost = x.a := by unfold billR; rw [if_pos ⟨hc1, hc2⟩]
     rw [hbr] at hput
     (focus ((try with_reducible apply wpC.to); (repeat' ((conv => whnf); first | refine byEv ?_ | (apply Fork.mk <;> (intro _; try (exfalso; omega))) | ((apply q_call); (focus exact byNext); (focus exact byLo); (focus (first | exact kClkE1 | exact kClkR0 | exact kClkE0 | exact kClkE2 | exact kClkG0 | exact kClkG4 | exact kClkA1 | exact kClkA0 | exact kClkB0 | exact kClkC0)); first | ((apply q_allB) <;> (intro z_b _ _ _; first | exact Bool.noConfusion z_b | replace z_b := of_decide_eq_true z_b | replace z_b := of_decide_eq_false z_b | skip) <;> ((try (unfold btw at z_b)); first | contradiction | (revert z_b; intros))) | ((apply q_alli) <;> intro _ _ _ _ <;> try contradiction) | (apply q_allv; intro _ _ _)) | refine xClkG0 ?_ | ((apply q_cmpk); (focus exact rfl); (focus exact rfl); (focus exact rfl); (focus exact rfl); (all_goals (intro hb; first | (replace hb := of_decide_eq_true hb) | (replace hb := of_decide_eq_false hb))); (all_goals (try (exfalso; omega; done))); (all_goals (revert hb; intros))) | refine xAEStrN3 ?_ | ((apply q_streq); (focus exact rfl); (focus exact rfl); (focus exact rfl); (focus exact rfl); (all_goals (intro hb; first | (replace hb := of_decide_eq_true hb) | (replace hb := of_decide_eq_false hb))); (all_goals (try contradiction)); (all_goals (revert hb; intros))) | refine xAEStrN1 ?_ | refine xAEStrN0 ?_ | fail)); all_goals ((conv => whnf); try with_reducible apply At.mk)))
     apply q_mapup (r := L.g2) (es := costE (rsS x.m x.a seen s.rs 0) 0) (c := s.rs.length) (k := ((r'.at_ : Nat) : Int)) (v := .int .i64 x.a) (KeyT.i64 Tryz.underlying3)
     focus exact rfl
     focus exact rfl
     focus exact rfl
     focus omega
     focus (exact byGet)
     focus exact costE_nodup (by rw [rsS_at]; exact hnk)
     rw [hput.1, hput.2]
     (focus ((try with_reducible apply wpC.to); (repeat' ((conv => whnf); first | refine byEv ?_ | (apply Fork.mk <;> (intro _; try (exfalso; omega))) | ((apply q_call); (focus exact byNext); (focus exact byLo); (focus (first | exact kClkE1 | exact kClkR0 | exact kClkE0 | exact kClkE2 | exact kClkG0 | exact kClkG4 | exact kClkA1 | exact kClkA0 | exact kClkB0 | exact kClkC0)); first | ((apply q_allB) <;> (intro z_b _ _ _; first | exact Bool.noConfusion z_b | replace z_b := of_decide_eq_true z_b | replace z_b := of_decide_eq_false z_b | skip) <;> ((try (unfold btw at z_b)); first | contradiction | (revert z_b; intros))) | ((apply q_alli) <;> intro _ _ _ _ <;> try contradiction) | (apply q_allv; intro _ _ _)) | refine xClkG0 ?_ | ((apply q_cmpk); (focus exact rfl); (focus exact rfl); (focus exact rfl); (focus exact rfl); (all_goals (intro hb; first | (replace hb := of_decide_eq_true hb) | (replace hb := of_decide_eq_false hb))); (all_goals (try (exfalso; omega; done))); (all_goals (revert hb; intros))) | refine xAEStrN3 ?_ | ((apply q_streq); (focus exact rfl); (focus exact rfl); (focus exact rfl); (focus exact rfl); (all_goals (intro hb; first | (replace hb := of_decide_eq_true hb) | (replace hb := of_decide_eq_false hb))); (all_goals (try contradiction)); (all_goals (revert hb; intros))) | refine xAEStrN1 ?_ | refine xAEStrN0 ?_ | fail)); all_goals ((conv => whnf); try with_reducible apply At.mk)))
     exact hK (seen ++ [0 + j]) _ _ ⟨rfl, rfl, rfl, trivial⟩ ⟨byGet, byGet, byGet, byGet, fun r h1 h2 h3 => (get_of fun y hy => byGet).trans (fr r h1 h2 h3), byOm⟩ hus
    ·have hbr : billR x.m x.a r' = r' := by unfold billR; rw [if_neg (fun h => hc2 h.2)]
     have hmore : rsS x.m x.a (seen ++ [0 + j]) s.rs 0 = rsS x.m x.a seen s.rs 0 := rsS_more fun j2 r2 h2 e2 => by
      obtain rfl : j2 = j := by omega
      rw [hr] at h2
      simp only [Option.some.injEq] at h2
      subst h2
      exact hbr
     (focus ((try with_reducible apply wpC.to); (repeat' ((conv => whnf); first | refine byEv ?_ | (apply Fork.mk <;> (intro _; try (exfalso; omega))) | ((apply q_call); (focus exact byNext); (focus exact byLo); (focus (first | exact kClkE1 | exact kClkR0 | exact kClkE0 | exact kClkE2 | exact kClkG0 | exact kClkG4 | exact kClkA1 | exact kClkA0 | exact kClkB0 | exact kClkC0)); first | ((apply q_allB) <;> (intro z_b _ _ _; first | exact Bool.noConfusion z_b | replace z_b := of_decide_eq_true z_b | replace z_b := of_decide_eq_false z_b | skip) <;> ((try (unfold btw at z_b)); first | contradiction | (revert z_b; intros))) | ((apply q_alli) <;> intro _ _ _ _ <;> try contradiction) | (apply q_allv; intro _ _ _)) | refine xClkG0 ?_ | ((apply q_cmpk); (focus exact rfl); (focus exact rfl); (focus exact rfl); (focus exact rfl); (all_goals (intro hb; first | (replace hb := of_decide_eq_true hb) | (replace hb := of_decide_eq_false hb))); (all_goals (try (exfalso; omega; done))); (all_goals (revert hb; intros))) | refine xAEStrN3 ?_ | ((apply q_streq); (focus exact rfl); (focus exact rfl); (focus exact rfl); (focus exact rfl); (all_goals (intro hb; first | (replace hb := of_decide_eq_true hb) | (replace hb := of_decide_eq_false hb))); (all_goals (try contradiction)); (all_goals (revert hb; intros))) | refine xAEStrN1 ?_ | refine xAEStrN0 ?_ | fail)); all_goals ((conv => whnf); try with_reducible apply At.mk)))
     exact hK (seen ++ [0 + j]) _ _ ⟨rfl, rfl, rfl, trivial⟩ ⟨byGet, by rw [hmore]; (exact byGet), byGet, byGet, fun r h1 h2 h3 => (get_of fun y hy => byGet).trans (fr r h1 h2 h3), byOm⟩ hus
   ·have hbr : billR x.m x.a r' = r' := by unfold billR; rw [if_neg (fun h => hc1 h.1)]
    have hmore : rsS x.m x.a (seen ++ [0 + j]) s.rs 0 = rsS x.m x.a seen s.rs 0 := rsS_more fun j2 r2 h2 e2 => by
     obtain rfl : j2 = j := by omega
     rw [hr] at h2
     simp only [Option.some.injEq] at h2
     subst h2
     exact hbr
    (focus ((try with_reducible apply wpC.to); (repeat' ((conv => whnf); first | refine byEv ?_ | (apply Fork.mk <;> (intro _; try (exfalso; omega))) | ((apply q_call); (focus exact byNext); (focus exact byLo); (focus (first | exact kClkE1 | exact kClkR0 | exact kClkE0 | exact kClkE2 | exact kClkG0 | exact kClkG4 | exact kClkA1 | exact kClkA0 | exact kClkB0 | exact kClkC0)); first | ((apply q_allB) <;> (intro z_b _ _ _; first | exact Bool.noConfusion z_b | replace z_b := of_decide_eq_true z_b | replace z_b := of_decide_eq_false z_b | skip) <;> ((try (unfold btw at z_b)); first | contradiction | (revert z_b; intros))) | ((apply q_alli) <;> intro _ _ _ _ <;> try contradiction) | (apply q_allv; intro _ _ _)) | refine xClkG0 ?_ | ((apply q_cmpk); (focus exact rfl); (focus exact rfl); (focus exact rfl); (focus exact rfl); (all_goals (intro hb; first | (replace hb := of_decide_eq_true hb) | (replace hb := of_decide_eq_false hb))); (all_goals (try (exfalso; omega; done))); (all_goals (revert hb; intros))) | refine xAEStrN3 ?_ | ((apply q_streq); (focus exact rfl); (focus exact rfl); (focus exact rfl); (focus exact rfl); (all_goals (intro hb; first | (replace hb := of_decide_eq_true hb) | (replace hb := of_decide_eq_false hb))); (all_goals (try contradiction)); (all_goals (revert hb; intros))) | refine xAEStrN1 ?_ | refine xAEStrN0 ?_ | fail)); all_goals ((conv => whnf); try with_reducible apply At.mk)))
    exact hK (seen ++ [0 + j]) _ _ ⟨rfl, rfl, rfl, trivial⟩ ⟨byGet, by rw [hmore]; (exact byGet), byGet, byGet, fun r h1 h2 h3 => (get_of fun y hy => byGet).trans (fr r h1 h2 h3), byOm⟩ hus
end AE.Tryz
