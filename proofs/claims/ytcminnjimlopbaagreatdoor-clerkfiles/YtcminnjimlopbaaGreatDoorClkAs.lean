/- Clerk, walked: a line made of a kind and numbers. -/
import Derived.Test.YtcminnjimlopbaaGreatDoorJoin35
set_option linter.unusedVariables false
set_option linter.unusedSimpArgs false
set_option linter.unusedSectionVars false
namespace AE
open Go
section
variable {P : Program} {lo nid : Nat} {ts : Ts} {h : H} {k : Value → H → Prop}
theorem q_copyK {r o len cap c n : Nat} {e : TypeId} {dd s : Opd} {a : Addr} {cs nc : List Value} (hd : ev ts dd = .slice (some ⟨r, o, none⟩) len cap) (hs : ev ts s = .slice (some a) n c) (hn : n ≤ len) (h0 : 0 < n) (hl : h.loadN a n = some nc) (hnl : nc.length = n) (hg : h.get r = some (.cells cs e)) (hoc : o + n ≤ cs.length) (ho : nc.all Value.oneCell' = true) (hlo : lo ≤ r) (hfd : cap < far) (hfs : c < far)
 (hr : k (.int .i64 n) (h.put r (.cells (splice cs o nc) e))) : OpE P lo nid ts h (.copy 1 dd s) k :=
 OpE.mk (by
  have hst : h.storeN lo ⟨r, o, none⟩ nc = some (h.put r (.cells (splice cs o nc) e)) := by
   unfold H.storeN
   rw [if_pos ⟨hlo, ho⟩]
   simp [hg, storeRow, hnl, hoc]
  have hn0 : n ≠ 0 := by omega
  simp [aop, xCopy, hd, hs, alenOf, acells, Nat.not_le.2 hfd, Nat.not_le.2 hfs, hl, hst, hn0, if_pos hn]) hr
end
end AE
namespace AE.Tryz
open Go AE Go.Proofs AE.Clerk
set_option maxRecDepth 100000
set_option linter.unusedVariables false

theorem lt_far0 : 0 < far := by unfold far; decide
theorem lt_far2 : 2 < far := by unfold far; decide
theorem lt_far3 : 3 < far := by unfold far; decide
def AsOk (kd : Int) (zs : List Int) (x : Ln) : Prop := x.Valid 1099511627776 ∧ x.k = kd ∧ x.nums = zs
theorem as_len0 {zs : List Int} {x : Ln} (h : AsOk 0 zs x) : zs.length = 1 := by
 obtain ⟨-, hk, rfl⟩ := h
 unfold Ln.nums
 simp [hk]
theorem as_uniq0 {z : Int} {x : Ln} (h : AsOk 0 [z] x) : x = ⟨0, 0, z, 0⟩ := by
 obtain ⟨hv, hk, hn⟩ := h
 obtain ⟨k, m, a, b⟩ := x
 simp only at hk
 subst hk
 unfold Ln.Valid btw at hv
 unfold Ln.nums at hn
 simp at hn hv
 simp
 omega
theorem as_len1 {zs : List Int} {x : Ln} (h : AsOk 1 zs x) : zs.length = 3 := by
 obtain ⟨-, hk, rfl⟩ := h
 unfold Ln.nums
 simp [hk]
theorem as_uniq1 {z z2 z3 : Int} {x : Ln} (h : AsOk 1 [z, z2, z3] x) : x = ⟨1, z, z2, z3⟩ := by
 obtain ⟨hv, hk, hn⟩ := h
 obtain ⟨k, m, a, b⟩ := x
 simp only at hk
 subst hk
 unfold Ln.Valid btw at hv
 unfold Ln.nums at hn
 simp at hn hv
 simp
 omega
theorem as_len2 {zs : List Int} {x : Ln} (h : AsOk 2 zs x) : zs.length = 1 := by
 obtain ⟨-, hk, rfl⟩ := h
 unfold Ln.nums
 simp [hk]
theorem as_uniq2 {z : Int} {x : Ln} (h : AsOk 2 [z] x) : x = ⟨2, z, 0, 0⟩ := by
 obtain ⟨hv, hk, hn⟩ := h
 obtain ⟨k, m, a, b⟩ := x
 simp only at hk
 subst hk
 unfold Ln.Valid btw at hv
 unfold Ln.nums at hn
 simp at hn hv
 simp
 omega
theorem as_len3 {zs : List Int} {x : Ln} (h : AsOk 3 zs x) : zs.length = 3 := by
 obtain ⟨-, hk, rfl⟩ := h
 unfold Ln.nums
 simp [hk]
theorem as_uniq3 {z z2 z3 : Int} {x : Ln} (h : AsOk 3 [z, z2, z3] x) : x = ⟨3, z, z2, z3⟩ := by
 obtain ⟨hv, hk, hn⟩ := h
 obtain ⟨k, m, a, b⟩ := x
 simp only at hk
 subst hk
 unfold Ln.Valid btw at hv
 unfold Ln.nums at hn
 simp at hn hv
 simp
 omega
theorem as_len4 {zs : List Int} {x : Ln} (h : AsOk 4 zs x) : zs.length = 1 := by
 obtain ⟨-, hk, rfl⟩ := h
 unfold Ln.nums
 simp [hk]
theorem as_uniq4 {z : Int} {x : Ln} (h : AsOk 4 [z] x) : x = ⟨4, z, 0, 0⟩ := by
 obtain ⟨hv, hk, hn⟩ := h
 obtain ⟨k, m, a, b⟩ := x
 simp only at hk
 subst hk
 unfold Ln.Valid btw at hv
 unfold Ln.nums at hn
 simp at hn hv
 simp
 omega
theorem as_len5 {zs : List Int} {x : Ln} (h : AsOk 5 zs x) : zs.length = 2 := by
 obtain ⟨-, hk, rfl⟩ := h
 unfold Ln.nums
 simp [hk]
theorem as_uniq5 {z z2 : Int} {x : Ln} (h : AsOk 5 [z, z2] x) : x = ⟨5, z, z2, 0⟩ := by
 obtain ⟨hv, hk, hn⟩ := h
 obtain ⟨k, m, a, b⟩ := x
 simp only at hk
 subst hk
 unfold Ln.Valid btw at hv
 unfold Ln.nums at hn
 simp at hn hv
 simp
 omega
theorem as_len6 {zs : List Int} {x : Ln} (h : AsOk 6 zs x) : zs.length = 2 := by
 obtain ⟨-, hk, rfl⟩ := h
 unfold Ln.nums
 simp [hk]
theorem as_uniq6 {z z2 : Int} {x : Ln} (h : AsOk 6 [z, z2] x) : x = ⟨6, z, z2, 0⟩ := by
 obtain ⟨hv, hk, hn⟩ := h
 obtain ⟨k, m, a, b⟩ := x
 simp only at hk
 subst hk
 unfold Ln.Valid btw at hv
 unfold Ln.nums at hn
 simp at hn hv
 simp
 omega
theorem as_len7 {zs : List Int} {x : Ln} (h : AsOk 7 zs x) : zs.length = 2 := by
 obtain ⟨-, hk, rfl⟩ := h
 unfold Ln.nums
 simp [hk]
theorem as_uniq7 {z z2 : Int} {x : Ln} (h : AsOk 7 [z, z2] x) : x = ⟨7, z, z2, 0⟩ := by
 obtain ⟨hv, hk, hn⟩ := h
 obtain ⟨k, m, a, b⟩ := x
 simp only at hk
 subst hk
 unfold Ln.Valid btw at hv
 unfold Ln.nums at hn
 simp at hn hv
 simp
 omega
def AsR (h : H) (rr : Nat) (kd : Int) (zs : List Int) (sv : Value) (v : Value) (h' : H) : Prop :=
 (∀ q, q < h.next → q ≠ rr → h'.get q = h.get q) ∧
 ((∃ x, AsOk kd zs x ∧ v = .bool true ∧ h'.get rr = some (.cells [.int .i64 x.k, .int .i64 x.m, .int .i64 x.a, .int .i64 x.b, sv] 119)) ∨
  ((¬ ∃ x, AsOk kd zs x) ∧ v = .bool false ∧ ∃ k m a b, h'.get rr = some (.cells [k, m, a, b, sv] 119)))
set_option maxHeartbeats 4000000 in
theorem as_w {h : H} {lo rr : Nat} {kd : Int} {zs : List Int} {k m a b : Value} {bN : Option Addr} {aN : Addr} (hk : 0 ≤ kd ∧ kd ≤ 7) (hlo : lo ≤ rr) (hr : rr < h.next) (hzl : zs.length ≤ 100000) (hzb : ∀ z ∈ zs, -1 ≤ z ∧ z ≤ 100000000000000) (hN : NumL h.next h zs bN aN 0) (hne : 0 < zs.length → aN.block ≠ rr) (hg : h.get rr = some (.cells [k, m, a, b, .slice bN zs.length 0] 119)) :
 AW Tryz.prog 69 lo h [.pointer (some ⟨rr, 0, none⟩), .int .i64 kd] (fun v h' => AsR h rr kd zs (.slice bN zs.length 0) v h') := by
 refine fun69.call rfl byO ?_
 unfold a69
 have hk' : kd = 0 ∨ kd = 1 ∨ kd = 2 ∨ kd = 3 ∨ kd = 4 ∨ kd = 5 ∨ kd = 6 ∨ kd = 7 := by omega
 rcases hk' with rfl | rfl | rfl | rfl | rfl | rfl | rfl | rfl
 ·by_cases hl : zs.length = 1
  ·match zs, hl with
   | [z], _ =>
     have e1 := hN.e (by simp)
     have i1 : h.loadN aN 1 = some [.int .i64 z] := by
      have := hN.i.load (by simp)
      simpa [iCells, rowsOf] using this
     have r1 := hN.r (by simp)
     have ne1 := hne (by simp)
     subst e1
     simp only [List.length_cons, List.length_nil] at hg ⊢
     (focus ((try with_reducible apply wpC.to); (repeat' ((conv => whnf); first | refine byEv ?_ | (apply Fork.mk <;> (intro _; try (exfalso; omega))) | ((apply q_call); (focus exact byNext); (focus exact byLo); (focus (first | exact kClkE1 | exact kClkC0)); first | ((apply q_allB) <;> (intro z_b _ _ _; first | exact Bool.noConfusion z_b | replace z_b := of_decide_eq_true z_b | replace z_b := of_decide_eq_false z_b | skip) <;> ((try (unfold btw at z_b)); first | contradiction | (revert z_b; intros))) | ((apply q_alli) <;> intro _ _ _ _ <;> try contradiction) | (apply q_allv; intro _ _ _)) | fail)); all_goals ((conv => whnf); try with_reducible apply At.mk)))
     apply q_copyK (a := aN) (n := 1) (nc := [.int .i64 z])
     focus exact rfl
     focus exact rfl
     focus exact Nat.le_of_ble_eq_true rfl
     focus omega
     focus (((repeat (first | assumption | ((with_reducible apply put_old); focus ((try dsimp only [aadd]); omega)) | with_reducible apply bump_old | ((with_reducible apply quiet_old); (focus assumption); focus ((try dsimp only [aadd]); omega)) | ((with_reducible apply same_old); (focus assumption); focus ((try dsimp only [aadd]); omega)))); done))
     focus exact rfl
     focus (exact byGet)
     focus exact Nat.le_of_ble_eq_true rfl
     focus exact rfl
     focus (dsimp only; omega)
     focus first | exact lt_far2 | exact lt_far3
     focus exact lt_far0
     dsimp only
     (refine byRun ?_)
     apply q_callB
     focus (exact byNext)
     focus (exact byLo)
     focus exact valid_w (x := ⟨0, 0, z, 0⟩)
     ·intro hb h5 q5 n5
      replace hb := of_decide_eq_true hb
      (refine byRun ?_)
      (refine byFin ?_)
      exact ⟨fun q hq1 hq2 => get_of fun y hy => byGet, .inl ⟨⟨0, 0, z, 0⟩, ⟨hb, rfl, rfl⟩, rfl, byGet⟩⟩
     ·intro hb h5 q5 n5
      replace hb := of_decide_eq_false hb
      (refine byRun ?_)
      (refine byFin ?_)
      exact ⟨fun q hq1 hq2 => get_of fun y hy => byGet, .inr ⟨fun ⟨x, hx⟩ => hb (by rw [← as_uniq0 hx]; exact hx.1), rfl, _, _, _, _, byGet⟩⟩
  ·(focus ((try with_reducible apply wpC.to); (repeat' ((conv => whnf); first | refine byEv ?_ | (apply Fork.mk <;> (intro _; try (exfalso; omega))) | ((apply q_call); (focus exact byNext); (focus exact byLo); (focus (first | exact kClkE1 | exact kClkC0)); first | ((apply q_allB) <;> (intro z_b _ _ _; first | exact Bool.noConfusion z_b | replace z_b := of_decide_eq_true z_b | replace z_b := of_decide_eq_false z_b | skip) <;> ((try (unfold btw at z_b)); first | contradiction | (revert z_b; intros))) | ((apply q_alli) <;> intro _ _ _ _ <;> try contradiction) | (apply q_allv; intro _ _ _)) | fail)); all_goals ((conv => whnf); try with_reducible apply At.mk)))
   (refine byFin ?_)
   exact ⟨fun q hq1 hq2 => get_of fun y hy => byGet, .inr ⟨fun ⟨x, hx⟩ => hl (as_len0 hx), rfl, _, _, _, _, byGet⟩⟩
 ·by_cases hl : zs.length = 3
  ·match zs, hl with
   | [z, z2, z3], _ =>
     have e1 := hN.e (by simp)
     have i1 : h.loadN aN 3 = some [.int .i64 z, .int .i64 z2, .int .i64 z3] := by
      have := hN.i.load (by simp)
      simpa [iCells, rowsOf] using this
     have r1 := hN.r (by simp)
     have ne1 := hne (by simp)
     subst e1
     simp only [List.length_cons, List.length_nil] at hg ⊢
     (focus ((try with_reducible apply wpC.to); (repeat' ((conv => whnf); first | refine byEv ?_ | (apply Fork.mk <;> (intro _; try (exfalso; omega))) | ((apply q_call); (focus exact byNext); (focus exact byLo); (focus (first | exact kClkE1 | exact kClkC0)); first | ((apply q_allB) <;> (intro z_b _ _ _; first | exact Bool.noConfusion z_b | replace z_b := of_decide_eq_true z_b | replace z_b := of_decide_eq_false z_b | skip) <;> ((try (unfold btw at z_b)); first | contradiction | (revert z_b; intros))) | ((apply q_alli) <;> intro _ _ _ _ <;> try contradiction) | (apply q_allv; intro _ _ _)) | fail)); all_goals ((conv => whnf); try with_reducible apply At.mk)))
     apply q_copyK (a := aN) (n := 3) (nc := [.int .i64 z, .int .i64 z2, .int .i64 z3])
     focus exact rfl
     focus exact rfl
     focus exact Nat.le_of_ble_eq_true rfl
     focus omega
     focus (((repeat (first | assumption | ((with_reducible apply put_old); focus ((try dsimp only [aadd]); omega)) | with_reducible apply bump_old | ((with_reducible apply quiet_old); (focus assumption); focus ((try dsimp only [aadd]); omega)) | ((with_reducible apply same_old); (focus assumption); focus ((try dsimp only [aadd]); omega)))); done))
     focus exact rfl
     focus (exact byGet)
     focus exact Nat.le_of_ble_eq_true rfl
     focus exact rfl
     focus (dsimp only; omega)
     focus first | exact lt_far2 | exact lt_far3
     focus exact lt_far0
     dsimp only
     (refine byRun ?_)
     apply q_callB
     focus (exact byNext)
     focus (exact byLo)
     focus exact valid_w (x := ⟨1, z, z2, z3⟩)
     ·intro hb h5 q5 n5
      replace hb := of_decide_eq_true hb
      (refine byRun ?_)
      (refine byFin ?_)
      exact ⟨fun q hq1 hq2 => get_of fun y hy => byGet, .inl ⟨⟨1, z, z2, z3⟩, ⟨hb, rfl, rfl⟩, rfl, byGet⟩⟩
     ·intro hb h5 q5 n5
      replace hb := of_decide_eq_false hb
      (refine byRun ?_)
      (refine byFin ?_)
      exact ⟨fun q hq1 hq2 => get_of fun y hy => byGet, .inr ⟨fun ⟨x, hx⟩ => hb (by rw [← as_uniq1 hx]; exact hx.1), rfl, _, _, _, _, byGet⟩⟩
  ·(focus ((try with_reducible apply wpC.to); (repeat' ((conv => whnf); first | refine byEv ?_ | (apply Fork.mk <;> (intro _; try (exfalso; omega))) | ((apply q_call); (focus exact byNext); (focus exact byLo); (focus (first | exact kClkE1 | exact kClkC0)); first | ((apply q_allB) <;> (intro z_b _ _ _; first | exact Bool.noConfusion z_b | replace z_b := of_decide_eq_true z_b | replace z_b := of_decide_eq_false z_b | skip) <;> ((try (unfold btw at z_b)); first | contradiction | (revert z_b; intros))) | ((apply q_alli) <;> intro _ _ _ _ <;> try contradiction) | (apply q_allv; intro _ _ _)) | fail)); all_goals ((conv => whnf); try with_reducible apply At.mk)))
   (refine byFin ?_)
   exact ⟨fun q hq1 hq2 => get_of fun y hy => byGet, .inr ⟨fun ⟨x, hx⟩ => hl (as_len1 hx), rfl, _, _, _, _, byGet⟩⟩
 ·by_cases hl : zs.length = 1
  ·match zs, hl with
   | [z], _ =>
     have e1 := hN.e (by simp)
     have i1 : h.loadN aN 1 = some [.int .i64 z] := by
      have := hN.i.load (by simp)
      simpa [iCells, rowsOf] using this
     have r1 := hN.r (by simp)
     have ne1 := hne (by simp)
     subst e1
     simp only [List.length_cons, List.length_nil] at hg ⊢
     (focus ((try with_reducible apply wpC.to); (repeat' ((conv => whnf); first | refine byEv ?_ | (apply Fork.mk <;> (intro _; try (exfalso; omega))) | ((apply q_call); (focus exact byNext); (focus exact byLo); (focus (first | exact kClkE1 | exact kClkC0)); first | ((apply q_allB) <;> (intro z_b _ _ _; first | exact Bool.noConfusion z_b | replace z_b := of_decide_eq_true z_b | replace z_b := of_decide_eq_false z_b | skip) <;> ((try (unfold btw at z_b)); first | contradiction | (revert z_b; intros))) | ((apply q_alli) <;> intro _ _ _ _ <;> try contradiction) | (apply q_allv; intro _ _ _)) | fail)); all_goals ((conv => whnf); try with_reducible apply At.mk)))
     apply q_copyK (a := aN) (n := 1) (nc := [.int .i64 z])
     focus exact rfl
     focus exact rfl
     focus exact Nat.le_of_ble_eq_true rfl
     focus omega
     focus (((repeat (first | assumption | ((with_reducible apply put_old); focus ((try dsimp only [aadd]); omega)) | with_reducible apply bump_old | ((with_reducible apply quiet_old); (focus assumption); focus ((try dsimp only [aadd]); omega)) | ((with_reducible apply same_old); (focus assumption); focus ((try dsimp only [aadd]); omega)))); done))
     focus exact rfl
     focus (exact byGet)
     focus exact Nat.le_of_ble_eq_true rfl
     focus exact rfl
     focus (dsimp only; omega)
     focus first | exact lt_far2 | exact lt_far3
     focus exact lt_far0
     dsimp only
     (refine byRun ?_)
     apply q_callB
     focus (exact byNext)
     focus (exact byLo)
     focus exact valid_w (x := ⟨2, z, 0, 0⟩)
     ·intro hb h5 q5 n5
      replace hb := of_decide_eq_true hb
      (refine byRun ?_)
      (refine byFin ?_)
      exact ⟨fun q hq1 hq2 => get_of fun y hy => byGet, .inl ⟨⟨2, z, 0, 0⟩, ⟨hb, rfl, rfl⟩, rfl, byGet⟩⟩
     ·intro hb h5 q5 n5
      replace hb := of_decide_eq_false hb
      (refine byRun ?_)
      (refine byFin ?_)
      exact ⟨fun q hq1 hq2 => get_of fun y hy => byGet, .inr ⟨fun ⟨x, hx⟩ => hb (by rw [← as_uniq2 hx]; exact hx.1), rfl, _, _, _, _, byGet⟩⟩
  ·(focus ((try with_reducible apply wpC.to); (repeat' ((conv => whnf); first | refine byEv ?_ | (apply Fork.mk <;> (intro _; try (exfalso; omega))) | ((apply q_call); (focus exact byNext); (focus exact byLo); (focus (first | exact kClkE1 | exact kClkC0)); first | ((apply q_allB) <;> (intro z_b _ _ _; first | exact Bool.noConfusion z_b | replace z_b := of_decide_eq_true z_b | replace z_b := of_decide_eq_false z_b | skip) <;> ((try (unfold btw at z_b)); first | contradiction | (revert z_b; intros))) | ((apply q_alli) <;> intro _ _ _ _ <;> try contradiction) | (apply q_allv; intro _ _ _)) | fail)); all_goals ((conv => whnf); try with_reducible apply At.mk)))
   (refine byFin ?_)
   exact ⟨fun q hq1 hq2 => get_of fun y hy => byGet, .inr ⟨fun ⟨x, hx⟩ => hl (as_len2 hx), rfl, _, _, _, _, byGet⟩⟩
 ·by_cases hl : zs.length = 3
  ·match zs, hl with
   | [z, z2, z3], _ =>
     have e1 := hN.e (by simp)
     have i1 : h.loadN aN 3 = some [.int .i64 z, .int .i64 z2, .int .i64 z3] := by
      have := hN.i.load (by simp)
      simpa [iCells, rowsOf] using this
     have r1 := hN.r (by simp)
     have ne1 := hne (by simp)
     subst e1
     simp only [List.length_cons, List.length_nil] at hg ⊢
     (focus ((try with_reducible apply wpC.to); (repeat' ((conv => whnf); first | refine byEv ?_ | (apply Fork.mk <;> (intro _; try (exfalso; omega))) | ((apply q_call); (focus exact byNext); (focus exact byLo); (focus (first | exact kClkE1 | exact kClkC0)); first | ((apply q_allB) <;> (intro z_b _ _ _; first | exact Bool.noConfusion z_b | replace z_b := of_decide_eq_true z_b | replace z_b := of_decide_eq_false z_b | skip) <;> ((try (unfold btw at z_b)); first | contradiction | (revert z_b; intros))) | ((apply q_alli) <;> intro _ _ _ _ <;> try contradiction) | (apply q_allv; intro _ _ _)) | fail)); all_goals ((conv => whnf); try with_reducible apply At.mk)))
     apply q_copyK (a := aN) (n := 3) (nc := [.int .i64 z, .int .i64 z2, .int .i64 z3])
     focus exact rfl
     focus exact rfl
     focus exact Nat.le_of_ble_eq_true rfl
     focus omega
     focus (((repeat (first | assumption | ((with_reducible apply put_old); focus ((try dsimp only [aadd]); omega)) | with_reducible apply bump_old | ((with_reducible apply quiet_old); (focus assumption); focus ((try dsimp only [aadd]); omega)) | ((with_reducible apply same_old); (focus assumption); focus ((try dsimp only [aadd]); omega)))); done))
     focus exact rfl
     focus (exact byGet)
     focus exact Nat.le_of_ble_eq_true rfl
     focus exact rfl
     focus (dsimp only; omega)
     focus first | exact lt_far2 | exact lt_far3
     focus exact lt_far0
     dsimp only
     (refine byRun ?_)
     apply q_callB
     focus (exact byNext)
     focus (exact byLo)
     focus exact valid_w (x := ⟨3, z, z2, z3⟩)
     ·intro hb h5 q5 n5
      replace hb := of_decide_eq_true hb
      (refine byRun ?_)
      (refine byFin ?_)
      exact ⟨fun q hq1 hq2 => get_of fun y hy => byGet, .inl ⟨⟨3, z, z2, z3⟩, ⟨hb, rfl, rfl⟩, rfl, byGet⟩⟩
     ·intro hb h5 q5 n5
      replace hb := of_decide_eq_false hb
      (refine byRun ?_)
      (refine byFin ?_)
      exact ⟨fun q hq1 hq2 => get_of fun y hy => byGet, .inr ⟨fun ⟨x, hx⟩ => hb (by rw [← as_uniq3 hx]; exact hx.1), rfl, _, _, _, _, byGet⟩⟩
  ·(focus ((try with_reducible apply wpC.to); (repeat' ((conv => whnf); first | refine byEv ?_ | (apply Fork.mk <;> (intro _; try (exfalso; omega))) | ((apply q_call); (focus exact byNext); (focus exact byLo); (focus (first | exact kClkE1 | exact kClkC0)); first | ((apply q_allB) <;> (intro z_b _ _ _; first | exact Bool.noConfusion z_b | replace z_b := of_decide_eq_true z_b | replace z_b := of_decide_eq_false z_b | skip) <;> ((try (unfold btw at z_b)); first | contradiction | (revert z_b; intros))) | ((apply q_alli) <;> intro _ _ _ _ <;> try contradiction) | (apply q_allv; intro _ _ _)) | fail)); all_goals ((conv => whnf); try with_reducible apply At.mk)))
   (refine byFin ?_)
   exact ⟨fun q hq1 hq2 => get_of fun y hy => byGet, .inr ⟨fun ⟨x, hx⟩ => hl (as_len3 hx), rfl, _, _, _, _, byGet⟩⟩
 ·by_cases hl : zs.length = 1
  ·match zs, hl with
   | [z], _ =>
     have e1 := hN.e (by simp)
     have i1 : h.loadN aN 1 = some [.int .i64 z] := by
      have := hN.i.load (by simp)
      simpa [iCells, rowsOf] using this
     have r1 := hN.r (by simp)
     have ne1 := hne (by simp)
     subst e1
     simp only [List.length_cons, List.length_nil] at hg ⊢
     (focus ((try with_reducible apply wpC.to); (repeat' ((conv => whnf); first | refine byEv ?_ | (apply Fork.mk <;> (intro _; try (exfalso; omega))) | ((apply q_call); (focus exact byNext); (focus exact byLo); (focus (first | exact kClkE1 | exact kClkC0)); first | ((apply q_allB) <;> (intro z_b _ _ _; first | exact Bool.noConfusion z_b | replace z_b := of_decide_eq_true z_b | replace z_b := of_decide_eq_false z_b | skip) <;> ((try (unfold btw at z_b)); first | contradiction | (revert z_b; intros))) | ((apply q_alli) <;> intro _ _ _ _ <;> try contradiction) | (apply q_allv; intro _ _ _)) | fail)); all_goals ((conv => whnf); try with_reducible apply At.mk)))
     apply q_copyK (a := aN) (n := 1) (nc := [.int .i64 z])
     focus exact rfl
     focus exact rfl
     focus exact Nat.le_of_ble_eq_true rfl
     focus omega
     focus (((repeat (first | assumption | ((with_reducible apply put_old); focus ((try dsimp only [aadd]); omega)) | with_reducible apply bump_old | ((with_reducible apply quiet_old); (focus assumption); focus ((try dsimp only [aadd]); omega)) | ((with_reducible apply same_old); (focus assumption); focus ((try dsimp only [aadd]); omega)))); done))
     focus exact rfl
     focus (exact byGet)
     focus exact Nat.le_of_ble_eq_true rfl
     focus exact rfl
     focus (dsimp only; omega)
     focus first | exact lt_far2 | exact lt_far3
     focus exact lt_far0
     dsimp only
     (refine byRun ?_)
     apply q_callB
     focus (exact byNext)
     focus (exact byLo)
     focus exact valid_w (x := ⟨4, z, 0, 0⟩)
     ·intro hb h5 q5 n5
      replace hb := of_decide_eq_true hb
      (refine byRun ?_)
      (refine byFin ?_)
      exact ⟨fun q hq1 hq2 => get_of fun y hy => byGet, .inl ⟨⟨4, z, 0, 0⟩, ⟨hb, rfl, rfl⟩, rfl, byGet⟩⟩
     ·intro hb h5 q5 n5
      replace hb := of_decide_eq_false hb
      (refine byRun ?_)
      (refine byFin ?_)
      exact ⟨fun q hq1 hq2 => get_of fun y hy => byGet, .inr ⟨fun ⟨x, hx⟩ => hb (by rw [← as_uniq4 hx]; exact hx.1), rfl, _, _, _, _, byGet⟩⟩
  ·(focus ((try with_reducible apply wpC.to); (repeat' ((conv => whnf); first | refine byEv ?_ | (apply Fork.mk <;> (intro _; try (exfalso; omega))) | ((apply q_call); (focus exact byNext); (focus exact byLo); (focus (first | exact kClkE1 | exact kClkC0)); first | ((apply q_allB) <;> (intro z_b _ _ _; first | exact Bool.noConfusion z_b | replace z_b := of_decide_eq_true z_b | replace z_b := of_decide_eq_false z_b | skip) <;> ((try (unfold btw at z_b)); first | contradiction | (revert z_b; intros))) | ((apply q_alli) <;> intro _ _ _ _ <;> try contradiction) | (apply q_allv; intro _ _ _)) | fail)); all_goals ((conv => whnf); try with_reducible apply At.mk)))
   (refine byFin ?_)
   exact ⟨fun q hq1 hq2 => get_of fun y hy => byGet, .inr ⟨fun ⟨x, hx⟩ => hl (as_len4 hx), rfl, _, _, _, _, byGet⟩⟩
 ·by_cases hl : zs.length = 2
  ·match zs, hl with
   | [z, z2], _ =>
     have e1 := hN.e (by simp)
     have i1 : h.loadN aN 2 = some [.int .i64 z, .int .i64 z2] := by
      have := hN.i.load (by simp)
      simpa [iCells, rowsOf] using this
     have r1 := hN.r (by simp)
     have ne1 := hne (by simp)
     subst e1
     simp only [List.length_cons, List.length_nil] at hg ⊢
     (focus ((try with_reducible apply wpC.to); (repeat' ((conv => whnf); first | refine byEv ?_ | (apply Fork.mk <;> (intro _; try (exfalso; omega))) | ((apply q_call); (focus exact byNext); (focus exact byLo); (focus (first | exact kClkE1 | exact kClkC0)); first | ((apply q_allB) <;> (intro z_b _ _ _; first | exact Bool.noConfusion z_b | replace z_b := of_decide_eq_true z_b | replace z_b := of_decide_eq_false z_b | skip) <;> ((try (unfold btw at z_b)); first | contradiction | (revert z_b; intros))) | ((apply q_alli) <;> intro _ _ _ _ <;> try contradiction) | (apply q_allv; intro _ _ _)) | fail)); all_goals ((conv => whnf); try with_reducible apply At.mk)))
     apply q_copyK (a := aN) (n := 2) (nc := [.int .i64 z, .int .i64 z2])
     focus exact rfl
     focus exact rfl
     focus exact Nat.le_of_ble_eq_true rfl
     focus omega
     focus (((repeat (first | assumption | ((with_reducible apply put_old); focus ((try dsimp only [aadd]); omega)) | with_reducible apply bump_old | ((with_reducible apply quiet_old); (focus assumption); focus ((try dsimp only [aadd]); omega)) | ((with_reducible apply same_old); (focus assumption); focus ((try dsimp only [aadd]); omega)))); done))
     focus exact rfl
     focus (exact byGet)
     focus exact Nat.le_of_ble_eq_true rfl
     focus exact rfl
     focus (dsimp only; omega)
     focus first | exact lt_far2 | exact lt_far3
     focus exact lt_far0
     dsimp only
     (refine byRun ?_)
     apply q_callB
     focus (exact byNext)
     focus (exact byLo)
     focus exact valid_w (x := ⟨5, z, z2, 0⟩)
     ·intro hb h5 q5 n5
      replace hb := of_decide_eq_true hb
      (refine byRun ?_)
      (refine byFin ?_)
      exact ⟨fun q hq1 hq2 => get_of fun y hy => byGet, .inl ⟨⟨5, z, z2, 0⟩, ⟨hb, rfl, rfl⟩, rfl, byGet⟩⟩
     ·intro hb h5 q5 n5
      replace hb := of_decide_eq_false hb
      (refine byRun ?_)
      (refine byFin ?_)
      exact ⟨fun q hq1 hq2 => get_of fun y hy => byGet, .inr ⟨fun ⟨x, hx⟩ => hb (by rw [← as_uniq5 hx]; exact hx.1), rfl, _, _, _, _, byGet⟩⟩
  ·(focus ((try with_reducible apply wpC.to); (repeat' ((conv => whnf); first | refine byEv ?_ | (apply Fork.mk <;> (intro _; try (exfalso; omega))) | ((apply q_call); (focus exact byNext); (focus exact byLo); (focus (first | exact kClkE1 | exact kClkC0)); first | ((apply q_allB) <;> (intro z_b _ _ _; first | exact Bool.noConfusion z_b | replace z_b := of_decide_eq_true z_b | replace z_b := of_decide_eq_false z_b | skip) <;> ((try (unfold btw at z_b)); first | contradiction | (revert z_b; intros))) | ((apply q_alli) <;> intro _ _ _ _ <;> try contradiction) | (apply q_allv; intro _ _ _)) | fail)); all_goals ((conv => whnf); try with_reducible apply At.mk)))
   (refine byFin ?_)
   exact ⟨fun q hq1 hq2 => get_of fun y hy => byGet, .inr ⟨fun ⟨x, hx⟩ => hl (as_len5 hx), rfl, _, _, _, _, byGet⟩⟩
 ·by_cases hl : zs.length = 2
  ·match zs, hl with
   | [z, z2], _ =>
     have e1 := hN.e (by simp)
     have i1 : h.loadN aN 2 = some [.int .i64 z, .int .i64 z2] := by
      have := hN.i.load (by simp)
      simpa [iCells, rowsOf] using this
     have r1 := hN.r (by simp)
     have ne1 := hne (by simp)
     subst e1
     simp only [List.length_cons, List.length_nil] at hg ⊢
     (focus ((try with_reducible apply wpC.to); (repeat' ((conv => whnf); first | refine byEv ?_ | (apply Fork.mk <;> (intro _; try (exfalso; omega))) | ((apply q_call); (focus exact byNext); (focus exact byLo); (focus (first | exact kClkE1 | exact kClkC0)); first | ((apply q_allB) <;> (intro z_b _ _ _; first | exact Bool.noConfusion z_b | replace z_b := of_decide_eq_true z_b | replace z_b := of_decide_eq_false z_b | skip) <;> ((try (unfold btw at z_b)); first | contradiction | (revert z_b; intros))) | ((apply q_alli) <;> intro _ _ _ _ <;> try contradiction) | (apply q_allv; intro _ _ _)) | fail)); all_goals ((conv => whnf); try with_reducible apply At.mk)))
     apply q_copyK (a := aN) (n := 2) (nc := [.int .i64 z, .int .i64 z2])
     focus exact rfl
     focus exact rfl
     focus exact Nat.le_of_ble_eq_true rfl
     focus omega
     focus (((repeat (first | assumption | ((with_reducible apply put_old); focus ((try dsimp only [aadd]); omega)) | with_reducible apply bump_old | ((with_reducible apply quiet_old); (focus assumption); focus ((try dsimp only [aadd]); omega)) | ((with_reducible apply same_old); (focus assumption); focus ((try dsimp only [aadd]); omega)))); done))
     focus exact rfl
     focus (exact byGet)
     focus exact Nat.le_of_ble_eq_true rfl
     focus exact rfl
     focus (dsimp only; omega)
     focus first | exact lt_far2 | exact lt_far3
     focus exact lt_far0
     dsimp only
     (refine byRun ?_)
     apply q_callB
     focus (exact byNext)
     focus (exact byLo)
     focus exact valid_w (x := ⟨6, z, z2, 0⟩)
     ·intro hb h5 q5 n5
      replace hb := of_decide_eq_true hb
      (refine byRun ?_)
      (refine byFin ?_)
      exact ⟨fun q hq1 hq2 => get_of fun y hy => byGet, .inl ⟨⟨6, z, z2, 0⟩, ⟨hb, rfl, rfl⟩, rfl, byGet⟩⟩
     ·intro hb h5 q5 n5
      replace hb := of_decide_eq_false hb
      (refine byRun ?_)
      (refine byFin ?_)
      exact ⟨fun q hq1 hq2 => get_of fun y hy => byGet, .inr ⟨fun ⟨x, hx⟩ => hb (by rw [← as_uniq6 hx]; exact hx.1), rfl, _, _, _, _, byGet⟩⟩
  ·(focus ((try with_reducible apply wpC.to); (repeat' ((conv => whnf); first | refine byEv ?_ | (apply Fork.mk <;> (intro _; try (exfalso; omega))) | ((apply q_call); (focus exact byNext); (focus exact byLo); (focus (first | exact kClkE1 | exact kClkC0)); first | ((apply q_allB) <;> (intro z_b _ _ _; first | exact Bool.noConfusion z_b | replace z_b := of_decide_eq_true z_b | replace z_b := of_decide_eq_false z_b | skip) <;> ((try (unfold btw at z_b)); first | contradiction | (revert z_b; intros))) | ((apply q_alli) <;> intro _ _ _ _ <;> try contradiction) | (apply q_allv; intro _ _ _)) | fail)); all_goals ((conv => whnf); try with_reducible apply At.mk)))
   (refine byFin ?_)
   exact ⟨fun q hq1 hq2 => get_of fun y hy => byGet, .inr ⟨fun ⟨x, hx⟩ => hl (as_len6 hx), rfl, _, _, _, _, byGet⟩⟩
 ·by_cases hl : zs.length = 2
  ·match zs, hl with
   | [z, z2], _ =>
     have e1 := hN.e (by simp)
     have i1 : h.loadN aN 2 = some [.int .i64 z, .int .i64 z2] := by
      have := hN.i.load (by simp)
      simpa [iCells, rowsOf] using this
     have r1 := hN.r (by simp)
     have ne1 := hne (by simp)
     subst e1
     simp only [List.length_cons, List.length_nil] at hg ⊢
     (focus ((try with_reducible apply wpC.to); (repeat' ((conv => whnf); first | refine byEv ?_ | (apply Fork.mk <;> (intro _; try (exfalso; omega))) | ((apply q_call); (focus exact byNext); (focus exact byLo); (focus (first | exact kClkE1 | exact kClkC0)); first | ((apply q_allB) <;> (intro z_b _ _ _; first | exact Bool.noConfusion z_b | replace z_b := of_decide_eq_true z_b | replace z_b := of_decide_eq_false z_b | skip) <;> ((try (unfold btw at z_b)); first | contradiction | (revert z_b; intros))) | ((apply q_alli) <;> intro _ _ _ _ <;> try contradiction) | (apply q_allv; intro _ _ _)) | fail)); all_goals ((conv => whnf); try with_reducible apply At.mk)))
     apply q_copyK (a := aN) (n := 2) (nc := [.int .i64 z, .int .i64 z2])
     focus exact rfl
     focus exact rfl
     focus exact Nat.le_of_ble_eq_true rfl
     focus omega
     focus (((repeat (first | assumption | ((with_reducible apply put_old); focus ((try dsimp only [aadd]); omega)) | with_reducible apply bump_old | ((with_reducible apply quiet_old); (focus assumption); focus ((try dsimp only [aadd]); omega)) | ((with_reducible apply same_old); (focus assumption); focus ((try dsimp only [aadd]); omega)))); done))
     focus exact rfl
     focus (exact byGet)
     focus exact Nat.le_of_ble_eq_true rfl
     focus exact rfl
     focus (dsimp only; omega)
     focus first | exact lt_far2 | exact lt_far3
     focus exact lt_far0
     dsimp only
     (refine byRun ?_)
     apply q_callB
     focus (exact byNext)
     focus (exact byLo)
     focus exact valid_w (x := ⟨7, z, z2, 0⟩)
     ·intro hb h5 q5 n5
      replace hb := of_decide_eq_true hb
      (refine byRun ?_)
      (refine byFin ?_)
      exact ⟨fun q hq1 hq2 => get_of fun y hy => byGet, .inl ⟨⟨7, z, z2, 0⟩, ⟨hb, rfl, rfl⟩, rfl, byGet⟩⟩
     ·intro hb h5 q5 n5
      replace hb := of_decide_eq_false hb
      (refine byRun ?_)
      (refine byFin ?_)
      exact ⟨fun q hq1 hq2 => get_of fun y hy => byGet, .inr ⟨fun ⟨x, hx⟩ => hb (by rw [← as_uniq7 hx]; exact hx.1), rfl, _, _, _, _, byGet⟩⟩
  ·(focus ((try with_reducible apply wpC.to); (repeat' ((conv => whnf); first | refine byEv ?_ | (apply Fork.mk <;> (intro _; try (exfalso; omega))) | ((apply q_call); (focus exact byNext); (focus exact byLo); (focus (first | exact kClkE1 | exact kClkC0)); first | ((apply q_allB) <;> (intro z_b _ _ _; first | exact Bool.noConfusion z_b | replace z_b := of_decide_eq_true z_b | replace z_b := of_decide_eq_false z_b | skip) <;> ((try (unfold btw at z_b)); first | contradiction | (revert z_b; intros))) | ((apply q_alli) <;> intro _ _ _ _ <;> try contradiction) | (apply q_allv; intro _ _ _)) | fail)); all_goals ((conv => whnf); try with_reducible apply At.mk)))
   (refine byFin ?_)
   exact ⟨fun q hq1 hq2 => get_of fun y hy => byGet, .inr ⟨fun ⟨x, hx⟩ => hl (as_len7 hx), rfl, _, _, _, _, byGet⟩⟩
end AE.Tryz
