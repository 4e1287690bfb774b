/- Walks of agree: the steps of a net, one after the other. -/
import Derived.Test.YtfdlkdjihmlbhaaAgreeE
import Derived.Test.YtfdlkdjihmlbhaaAEthree
set_option linter.unusedVariables false
set_option linter.unusedSimpArgs false
set_option linter.unusedSectionVars false
namespace AE.Try
open Go AE AE.Ag AgreeS Go.Proofs
set_option maxRecDepth 100000

theorem steps_w {h : H} {r : Nat} : AW Try.prog 60 h.next h [.pointer (some ⟨r, 0, none⟩)] (fun v h' => ∃ q, v = .func (.func 65) ⟨[]⟩ ⟨[.pointer (some ⟨q, 0, none⟩)]⟩ ∧ h.next ≤ q ∧ q < h'.next ∧ h'.get q = some (.cells [.pointer (some ⟨r, 0, none⟩)] 62)) := by
  refine fun60.call rfl (Nat.le_refl _) ?_
  unfold a60
  (focus ((try with_reducible apply wpC.to); (repeat' ((conv => whnf); first | ((apply Start.mk); (focus exact byNext); (focus exact byLen)) | ((apply New.mk); (focus exact byNid)) | ((apply Need.mk); (focus exact byNeed)) | ((with_reducible apply Ix.pred); (focus first | assumption | exact fun _ => rfl); (focus omega); (focus omega)) | apply forceV_any | apply forceL_any)); all_goals (conv => whnf); all_goals (try with_reducible apply At.mk)))
  (first | (apply fin1; (focus first | exact .inl rfl | exact .inr rfl); focus exact byR1) | (apply fin2; (focus first | exact .inl rfl | exact .inr rfl); (focus exact byR1); (focus exact byR1)) | (apply fin3; (focus first | exact .inl rfl | exact .inr rfl); (focus exact byR1); (focus exact byR1); (focus exact byR1)) | (apply fin0; (focus first | exact .inl rfl | exact .inr rfl)))
  exact ⟨_, rfl, by (exact byOm), by (exact byOm), by (exact byGet)⟩

theorem loadN_all {h : H} {r off n : Nat} {hd m : List Value} {e : TypeId} (hg : h.get r = some (.cells (hd ++ m) e)) (ho : hd.length = off) (hn : m.length = n) : h.loadN ⟨r, off, none⟩ n = some m := by
  refine loadN_cells hg ?_
  have := cut_app (p := hd) (m := m) (s := []) ho hn
  simpa using this

theorem ixvn_of {P : Program} {lo nid n sz i : Nat} {ts : Ts} {h : H} {x y : Opd} {cs l : List Value} (hx : ev ts x = .agg ⟨cs⟩) (hy : ev ts y = .int .i64 (i : Int)) (hi : i < n) (hc : cut cs (i * sz) sz = some l) : aop P lo nid ts h (.ixvn n sz x y) = some (.agg ⟨l⟩, h) := by
  simp [aop, keep, hx, hy, xIxvn, natOf?, hi, hc]
theorem splice_whole {c vs : List Value} (h : c.length = vs.length) : splice c 0 vs = vs := by simp [splice, ← h]
theorem kCells_one (k : Known) : (kCells k).all Value.oneCell' = true := by
  unfold kCells
  have : ∀ n, (rowsOf (fun i => boundV (k i)) n).all Value.oneCell' = true := by
    intro n
    induction n with
    | zero => rfl
    | succ n ih => simp only [rowsOf, List.all_append, ih, oneCell_bound, Bool.and_self]
  exact this 13
theorem cutK (k : Known) {t : Nat} (ht : t < 13) : cut (kCells k) (t * 2) 2 = some (boundV (k t)) := by
  have := kCells_get k ht [] [] (a := t * 2) (by simp)
  simpa using this
theorem cutRow (B : Net) {f : Nat} (hf : f < 13) : cut (netRows B) (f * 26) 26 = some (kCells (B f)) := by
  have := netRows_row B hf [] [] (a := f * 26) (by simp)
  simpa using this

theorem PartOf.one {P : Program} {e : TypeId} {cs : List Value} {off : Nat} {v : Value} (h1 : isAggT P e = some false) (h2 : cs[off]? = some v) : PartOf P e false cs off [v] := ⟨h1, by rw [if_neg (by simp)]; exact ⟨v, h2, rfl⟩⟩
theorem PartOf.agg {P : Program} {e : TypeId} {s : Nat} {cs x : List Value} {off : Nat} (h1 : isAggT P e = some true) (h2 : sizeT P e = some s) (h3 : cut cs off s = some x) : PartOf P e true cs off x := ⟨h1, by rw [if_pos rfl]; exact ⟨s, h2, h3⟩⟩

theorem bound_eqc (a c : Bool) (x y : Int) : EqC Try.prog 2 78 true [.bool a, .int .i64 x] [.bool c, .int .i64 y] (a == c && (x == y && true)) := by
  refine EqC.struct (fs := ?fs) ?ht ?hs ?h
  case ht => exact rfl
  case hs => kernel_rfl
  refine EqFs.cons (agg := false) (x := [.bool a]) (y := [.bool c]) (by decide) (PartOf.one rfl rfl) (PartOf.one rfl rfl) (EqC.bool rfl) ?_
  exact EqFs.cons (agg := false) (x := [.int .i64 x]) (y := [.int .i64 y]) (by decide) (PartOf.one rfl rfl) (PartOf.one rfl rfl) (EqC.int rfl) EqFs.nil
theorem bound_none (o : Option Int) : EqC Try.prog 2 78 true (boundV o) (boundV none) o.isNone := by
  cases o with
  | none => exact bound_eqc false false 0 0
  | some m => exact bound_eqc true false m 0
theorem row_eqc (k : Known) : EqC Try.prog 3 80 true (kCells k) (kCells fun _ => none) (allB (fun i => (k i).isNone) 13) :=
  EqC.arr (e := 78) (m := 13) (s := 2) (agg := true) (x := fun i => boundV (k i)) (y := fun _ => boundV none) rfl rfl (fun i hi => PartOf.agg rfl rfl (cutK k hi)) (fun i hi => PartOf.agg rfl rfl (cutK _ hi)) fun i _ => bound_none (k i)
theorem zero_lit : kCells (fun _ => none) = [.bool false, .int .i64 0, .bool false, .int .i64 0, .bool false, .int .i64 0, .bool false, .int .i64 0, .bool false, .int .i64 0, .bool false, .int .i64 0, .bool false, .int .i64 0, .bool false, .int .i64 0, .bool false, .int .i64 0, .bool false, .int .i64 0, .bool false, .int .i64 0, .bool false, .int .i64 0, .bool false, .int .i64 0] := by kernel_rfl
theorem flatL_all : ∀ {cs : List Value}, (∀ v ∈ cs, AE.flat v = true) → flatL cs = true
  | [], _ => rfl
  | v :: cs, h => by simp only [flatL, h v (by simp), flatL_all fun w hw => h w (List.mem_cons_of_mem _ hw), Bool.and_self]
theorem boundV_flat (o : Option Int) : ∀ v ∈ boundV o, AE.flat v = true := by
  cases o <;> (intro v hv; simp only [boundV, List.mem_cons, List.not_mem_nil, or_false] at hv; rcases hv with rfl | rfl <;> rfl)
theorem kCells_flat (k : Known) : AE.flat (.agg ⟨kCells k⟩) = true := by
  show flatL (kCells k) = true
  refine flatL_all fun v hv => ?_
  have : ∀ n, v ∈ rowsOf (fun i => boundV (k i)) n → AE.flat v = true := by
    intro n
    induction n with
    | zero => intro h; cases h
    | succ n ih =>
      intro h
      rcases List.mem_append.1 h with h | h
      · exact ih h
      · exact boundV_flat (k n) v h
  unfold kCells at hv
  exact this 13 hv

set_option maxHeartbeats 1000000 in
theorem eachStep_w {h : H} {lo : Nat} {yv : Value} {q r : Nat} {B : Net} {hd : List Value} {e : TypeId} (hlo : lo ≤ h.next) (hg : h.get q = some (.cells [.pointer (some ⟨r, 0, none⟩)] 62)) (hd6 : hd.length = 6) (hgr : h.get r = some (.cells (hd ++ netRows B) e))
    (hB : ∀ f t m, B f t = some m → -1000000 ≤ m ∧ m ≤ 1000000)
    (Inv : List Step → H → Prop) (hst : ∀ l h1 h2, Inv l h1 → Quiet h1.next h1 h2 → Inv l h2)
    (hy : ∀ l s rest h1, l ++ s :: rest = steps B → Inv l h1 → lo ≤ h1.next → ∃ v h2, (v = .bool true ∧ Inv (l ++ [s]) h2) ∧ ACall Try.prog yv lo h1 [.agg ⟨[.int .i64 s.from_, .int .i64 s.to, .int .i64 s.most]⟩] v h2) (h0 : Inv [] h) :
    AW Try.prog 65 lo h [yv, .pointer (some ⟨q, 0, none⟩)] (fun _ h' => Inv (steps B) h') := by
  refine fun65.call rfl hlo ?_
  unfold a65
  (focus ((try with_reducible apply wpC.to); (repeat' ((conv => whnf); first | ((apply Start.mk); (focus exact byNext); (focus exact byLen)) | ((apply New.mk); (focus exact byNid)) | ((apply Need.mk); (focus exact byNeed)) | ((apply Fork.mk) <;> (intro _; try (exfalso; omega; done))) | ((apply Load1.mk); (focus exact byMem); (focus exact byVal)) | ((apply LoadN.mk); (focus exact byMem); (focus exact byList)) | ((apply Sto.mk); (focus exact bySto); (focus exact byLo); (focus exact byGet); (focus exact rfl); (focus exact rfl); (focus exact rfl); (focus exact byList)) | ((with_reducible apply Ix.pred); (focus first | assumption | exact fun _ => rfl); (focus omega); (focus omega)) | ((apply q_call); (focus exact byNext); (focus exact byLo); (focus (exact is_w)); first | ((apply q_allB) <;> (intro z_b _ _ _; first | exact Bool.noConfusion z_b | replace z_b := of_decide_eq_true z_b | replace z_b := of_decide_eq_false z_b | skip) <;> (first | contradiction | (revert z_b; intros))) | ((apply q_alli) <;> (intro _ _ _ _; try contradiction)) | ((apply q_allv); intro _ _ _)) | ((apply OpE.val); (focus exact rfl); (focus exact byVal)) | apply callC_any | apply forceV_any | apply forceL_any)); all_goals (conv => whnf); all_goals (try with_reducible apply At.mk)))
  refine LoadN.mk (l := netRows B) (loadN_all (by (exact byGet)) (by simp [hd6]) (netRows_len B)) Is.rfl ?_
  (focus ((try with_reducible apply wpC.to); (repeat' ((conv => whnf); first | ((apply Start.mk); (focus exact byNext); (focus exact byLen)) | ((apply New.mk); (focus exact byNid)) | ((apply Need.mk); (focus exact byNeed)) | ((apply Fork.mk) <;> (intro _; try (exfalso; omega; done))) | ((apply Load1.mk); (focus exact byMem); (focus exact byVal)) | ((apply LoadN.mk); (focus exact byMem); (focus exact byList)) | ((apply Sto.mk); (focus exact bySto); (focus exact byLo); (focus exact byGet); (focus exact rfl); (focus exact rfl); (focus exact rfl); (focus exact byList)) | ((with_reducible apply Ix.pred); (focus first | assumption | exact fun _ => rfl); (focus omega); (focus omega)) | ((apply q_call); (focus exact byNext); (focus exact byLo); (focus (exact is_w)); first | ((apply q_allB) <;> (intro z_b _ _ _; first | exact Bool.noConfusion z_b | replace z_b := of_decide_eq_true z_b | replace z_b := of_decide_eq_false z_b | skip) <;> (first | contradiction | (revert z_b; intros))) | ((apply q_alli) <;> (intro _ _ _ _; try contradiction)) | ((apply q_allv); intro _ _ _)) | ((apply OpE.val); (focus exact rfl); (focus exact byVal)) | apply callC_any | apply forceV_any | apply forceL_any)); all_goals (conv => whnf); all_goals (try with_reducible apply At.mk)))
  refine wp_loop (fun s : Nat => [(0, yv), (10, .agg ⟨netRows B⟩), (11, .int .i64 s)]) (fun s h1 => Inv (pre B s 0) h1 ∧ Quiet lo h h1 ∧ s ≤ 13) (fun s => 13 - s) 0 ⟨rfl, rfl, rfl, trivial⟩ ⟨?_, ?_, by omega⟩ ?_
  · exact hst _ h _ h0 ⟨by simp [bump_next], fun _ _ => rfl, fun hc r hr => hc r (by simp [bump_next] at hr; omega)⟩
  · (exact byQuiet)
  rintro s g h1 ⟨hi, qu, hs⟩ K hK
  have hnx := qu.next
  (focus ((try with_reducible apply wpC.to); (repeat' ((conv => whnf); first | ((apply Start.mk); (focus exact byNext); (focus exact byLen)) | ((apply New.mk); (focus exact byNid)) | ((apply Need.mk); (focus exact byNeed)) | ((apply Fork.mk) <;> (intro _; try (exfalso; omega; done))) | ((apply Load1.mk); (focus exact byMem); (focus exact byVal)) | ((apply LoadN.mk); (focus exact byMem); (focus exact byList)) | ((apply Sto.mk); (focus exact bySto); (focus exact byLo); (focus exact byGet); (focus exact rfl); (focus exact rfl); (focus exact rfl); (focus exact byList)) | ((with_reducible apply Ix.pred); (focus first | assumption | exact fun _ => rfl); (focus omega); (focus omega)) | ((apply q_call); (focus exact byNext); (focus exact byLo); (focus (exact is_w)); first | ((apply q_allB) <;> (intro z_b _ _ _; first | exact Bool.noConfusion z_b | replace z_b := of_decide_eq_true z_b | replace z_b := of_decide_eq_false z_b | skip) <;> (first | contradiction | (revert z_b; intros))) | ((apply q_alli) <;> (intro _ _ _ _; try contradiction)) | ((apply q_allv); intro _ _ _)) | ((apply OpE.val); (focus exact rfl); (focus exact byVal)) | apply callC_any | apply forceV_any | apply forceL_any)); all_goals (conv => whnf); all_goals (try with_reducible apply At.mk)))
  · have hs13 : s < 13 := by omega
    refine OpE.val (v := .agg ⟨kCells (B s)⟩) (ixvn_of rfl rfl hs13 (cutRow B hs13)) rfl ?_
    (focus ((try with_reducible apply wpC.to); (repeat' ((conv => whnf); first | ((apply Start.mk); (focus exact byNext); (focus exact byLen)) | ((apply New.mk); (focus exact byNid)) | ((apply Need.mk); (focus exact byNeed)) | ((apply Fork.mk) <;> (intro _; try (exfalso; omega; done))) | ((apply Load1.mk); (focus exact byMem); (focus exact byVal)) | ((apply LoadN.mk); (focus exact byMem); (focus exact byList)) | ((apply Sto.mk); (focus exact bySto); (focus exact byLo); (focus exact byGet); (focus exact rfl); (focus exact rfl); (focus exact rfl); (focus exact byList)) | ((with_reducible apply Ix.pred); (focus first | assumption | exact fun _ => rfl); (focus omega); (focus omega)) | ((apply q_call); (focus exact byNext); (focus exact byLo); (focus (exact is_w)); first | ((apply q_allB) <;> (intro z_b _ _ _; first | exact Bool.noConfusion z_b | replace z_b := of_decide_eq_true z_b | replace z_b := of_decide_eq_false z_b | skip) <;> (first | contradiction | (revert z_b; intros))) | ((apply q_alli) <;> (intro _ _ _ _; try contradiction)) | ((apply q_allv); intro _ _ _)) | ((apply OpE.val); (focus exact rfl); (focus exact byVal)) | apply callC_any | apply forceV_any | apply forceL_any)); all_goals (conv => whnf); all_goals (try with_reducible apply At.mk)))
    refine Sto.mk (c' := kCells (B s)) rfl (by omega) (by (exact byGet)) (kCells_len _) (kCells_one _) rfl (is_eq (splice_whole (by rw [kCells_len]; rfl))) ?_
    (focus ((try with_reducible apply wpC.to); (repeat' ((conv => whnf); first | ((apply Start.mk); (focus exact byNext); (focus exact byLen)) | ((apply New.mk); (focus exact byNid)) | ((apply Need.mk); (focus exact byNeed)) | ((apply Fork.mk) <;> (intro _; try (exfalso; omega; done))) | ((apply Load1.mk); (focus exact byMem); (focus exact byVal)) | ((apply LoadN.mk); (focus exact byMem); (focus exact byList)) | ((apply Sto.mk); (focus exact bySto); (focus exact byLo); (focus exact byGet); (focus exact rfl); (focus exact rfl); (focus exact rfl); (focus exact byList)) | ((with_reducible apply Ix.pred); (focus first | assumption | exact fun _ => rfl); (focus omega); (focus omega)) | ((apply q_call); (focus exact byNext); (focus exact byLo); (focus (exact is_w)); first | ((apply q_allB) <;> (intro z_b _ _ _; first | exact Bool.noConfusion z_b | replace z_b := of_decide_eq_true z_b | replace z_b := of_decide_eq_false z_b | skip) <;> (first | contradiction | (revert z_b; intros))) | ((apply q_alli) <;> (intro _ _ _ _; try contradiction)) | ((apply q_allv); intro _ _ _)) | ((apply OpE.val); (focus exact rfl); (focus exact byVal)) | apply callC_any | apply forceV_any | apply forceL_any)); all_goals (conv => whnf); all_goals (try with_reducible apply At.mk)))
    refine LoadN.mk (l := kCells (B s)) (loadN_all (hd := []) (by (exact byGet)) rfl (kCells_len _)) Is.rfl ?_
    (focus ((try with_reducible apply wpC.to); (repeat' ((conv => whnf); first | ((apply Start.mk); (focus exact byNext); (focus exact byLen)) | ((apply New.mk); (focus exact byNid)) | ((apply Need.mk); (focus exact byNeed)) | ((apply Fork.mk) <;> (intro _; try (exfalso; omega; done))) | ((apply Load1.mk); (focus exact byMem); (focus exact byVal)) | ((apply LoadN.mk); (focus exact byMem); (focus exact byList)) | ((apply Sto.mk); (focus exact bySto); (focus exact byLo); (focus exact byGet); (focus exact rfl); (focus exact rfl); (focus exact rfl); (focus exact byList)) | ((with_reducible apply Ix.pred); (focus first | assumption | exact fun _ => rfl); (focus omega); (focus omega)) | ((apply q_call); (focus exact byNext); (focus exact byLo); (focus (exact is_w)); first | ((apply q_allB) <;> (intro z_b _ _ _; first | exact Bool.noConfusion z_b | replace z_b := of_decide_eq_true z_b | replace z_b := of_decide_eq_false z_b | skip) <;> (first | contradiction | (revert z_b; intros))) | ((apply q_alli) <;> (intro _ _ _ _; try contradiction)) | ((apply q_allv); intro _ _ _)) | ((apply OpE.val); (focus exact rfl); (focus exact byVal)) | apply callC_any | apply forceV_any | apply forceL_any)); all_goals (conv => whnf); all_goals (try with_reducible apply At.mk)))
    refine OpE.pure (.bool (allB (fun i => (B s i).isNone) 13)) (xPure_eql (A := ⟨kCells (B s)⟩) (B := ⟨kCells fun _ => none⟩) rfl rfl (by rw [zero_lit]; rfl) (kCells_flat _) (kCells_flat _) (by kernel_rfl) ((row_eqc (B s)).run 3 Op.maxDepth (by decide))) ?_
    cases hall : allB (fun i => (B s i).isNone) 13 with
    | true =>
      (focus ((try with_reducible apply wpC.to); (repeat' ((conv => whnf); first | ((apply Start.mk); (focus exact byNext); (focus exact byLen)) | ((apply New.mk); (focus exact byNid)) | ((apply Need.mk); (focus exact byNeed)) | ((apply Fork.mk) <;> (intro _; try (exfalso; omega; done))) | ((apply Load1.mk); (focus exact byMem); (focus exact byVal)) | ((apply LoadN.mk); (focus exact byMem); (focus exact byList)) | ((apply Sto.mk); (focus exact bySto); (focus exact byLo); (focus exact byGet); (focus exact rfl); (focus exact rfl); (focus exact rfl); (focus exact byList)) | ((with_reducible apply Ix.pred); (focus first | assumption | exact fun _ => rfl); (focus omega); (focus omega)) | ((apply q_call); (focus exact byNext); (focus exact byLo); (focus (exact is_w)); first | ((apply q_allB) <;> (intro z_b _ _ _; first | exact Bool.noConfusion z_b | replace z_b := of_decide_eq_true z_b | replace z_b := of_decide_eq_false z_b | skip) <;> (first | contradiction | (revert z_b; intros))) | ((apply q_alli) <;> (intro _ _ _ _; try contradiction)) | ((apply q_allv); intro _ _ _)) | ((apply OpE.val); (focus exact rfl); (focus exact byVal)) | apply callC_any | apply forceV_any | apply forceL_any)); all_goals (conv => whnf); all_goals (try with_reducible apply At.mk)))
      have hnone : ∀ t, t < 13 → B s t = none := fun t ht => by
        have := List.all_eq_true.1 hall t (List.mem_range.2 ht)
        simpa using this
      have hp : pre B (s + 1) 0 = pre B s 0 := by rw [pre_next, pre_row 13 hnone]
      refine hK (s + 1) _ _ ⟨rfl, rfl, int_of rfl (by omega), trivial⟩ ⟨?_, by (exact byQuiet), by omega⟩ (by omega)
      rw [hp]
      exact hst _ _ _ hi (by (exact byQuiet))
    | false =>
      (focus ((try with_reducible apply wpC.to); (repeat' ((conv => whnf); first | ((apply Start.mk); (focus exact byNext); (focus exact byLen)) | ((apply New.mk); (focus exact byNid)) | ((apply Need.mk); (focus exact byNeed)) | ((apply Fork.mk) <;> (intro _; try (exfalso; omega; done))) | ((apply Load1.mk); (focus exact byMem); (focus exact byVal)) | ((apply LoadN.mk); (focus exact byMem); (focus exact byList)) | ((apply Sto.mk); (focus exact bySto); (focus exact byLo); (focus exact byGet); (focus exact rfl); (focus exact rfl); (focus exact rfl); (focus exact byList)) | ((with_reducible apply Ix.pred); (focus first | assumption | exact fun _ => rfl); (focus omega); (focus omega)) | ((apply q_call); (focus exact byNext); (focus exact byLo); (focus (exact is_w)); first | ((apply q_allB) <;> (intro z_b _ _ _; first | exact Bool.noConfusion z_b | replace z_b := of_decide_eq_true z_b | replace z_b := of_decide_eq_false z_b | skip) <;> (first | contradiction | (revert z_b; intros))) | ((apply q_alli) <;> (intro _ _ _ _; try contradiction)) | ((apply q_allv); intro _ _ _)) | ((apply OpE.val); (focus exact rfl); (focus exact byVal)) | apply callC_any | apply forceV_any | apply forceL_any)); all_goals (conv => whnf); all_goals (try with_reducible apply At.mk)))
      refine LoadN.mk (l := kCells (B s)) (loadN_all (hd := []) (by (exact byGet)) rfl (kCells_len _)) Is.rfl ?_
      (focus ((try with_reducible apply wpC.to); (repeat' ((conv => whnf); first | ((apply Start.mk); (focus exact byNext); (focus exact byLen)) | ((apply New.mk); (focus exact byNid)) | ((apply Need.mk); (focus exact byNeed)) | ((apply Fork.mk) <;> (intro _; try (exfalso; omega; done))) | ((apply Load1.mk); (focus exact byMem); (focus exact byVal)) | ((apply LoadN.mk); (focus exact byMem); (focus exact byList)) | ((apply Sto.mk); (focus exact bySto); (focus exact byLo); (focus exact byGet); (focus exact rfl); (focus exact rfl); (focus exact rfl); (focus exact byList)) | ((with_reducible apply Ix.pred); (focus first | assumption | exact fun _ => rfl); (focus omega); (focus omega)) | ((apply q_call); (focus exact byNext); (focus exact byLo); (focus (exact is_w)); first | ((apply q_allB) <;> (intro z_b _ _ _; first | exact Bool.noConfusion z_b | replace z_b := of_decide_eq_true z_b | replace z_b := of_decide_eq_false z_b | skip) <;> (first | contradiction | (revert z_b; intros))) | ((apply q_alli) <;> (intro _ _ _ _; try contradiction)) | ((apply q_allv); intro _ _ _)) | ((apply OpE.val); (focus exact rfl); (focus exact byVal)) | apply callC_any | apply forceV_any | apply forceL_any)); all_goals (conv => whnf); all_goals (try with_reducible apply At.mk)))
      refine wp_loop (fun u : Nat => [(0, yv), (3, .int .i64 s), (10, .agg ⟨netRows B⟩), (11, .int .i64 s), (18, .agg ⟨kCells (B s)⟩), (19, .int .i64 u)]) (fun u h1 => Inv (pre B s u) h1 ∧ Quiet lo h h1 ∧ u ≤ 13) (fun u => 13 - u) 0 ⟨rfl, rfl, rfl, rfl, rfl, rfl, trivial⟩ ⟨hst _ _ _ hi (by (exact byQuiet)), by (exact byQuiet), by omega⟩ ?_
      rintro u g' h2 ⟨hi', qu', hu⟩ K' hK'
      have hnx2 := qu'.next
      (focus ((try with_reducible apply wpC.to); (repeat' ((conv => whnf); first | ((apply Start.mk); (focus exact byNext); (focus exact byLen)) | ((apply New.mk); (focus exact byNid)) | ((apply Need.mk); (focus exact byNeed)) | ((apply Fork.mk) <;> (intro _; try (exfalso; omega; done))) | ((apply Load1.mk); (focus exact byMem); (focus exact byVal)) | ((apply LoadN.mk); (focus exact byMem); (focus exact byList)) | ((apply Sto.mk); (focus exact bySto); (focus exact byLo); (focus exact byGet); (focus exact rfl); (focus exact rfl); (focus exact rfl); (focus exact byList)) | ((with_reducible apply Ix.pred); (focus first | assumption | exact fun _ => rfl); (focus omega); (focus omega)) | ((apply q_call); (focus exact byNext); (focus exact byLo); (focus (exact is_w)); first | ((apply q_allB) <;> (intro z_b _ _ _; first | exact Bool.noConfusion z_b | replace z_b := of_decide_eq_true z_b | replace z_b := of_decide_eq_false z_b | skip) <;> (first | contradiction | (revert z_b; intros))) | ((apply q_alli) <;> (intro _ _ _ _; try contradiction)) | ((apply q_allv); intro _ _ _)) | ((apply OpE.val); (focus exact rfl); (focus exact byVal)) | apply callC_any | apply forceV_any | apply forceL_any)); all_goals (conv => whnf); all_goals (try with_reducible apply At.mk)))
      · have hu13 : u < 13 := by omega
        cases e : B s u with
        | none =>
          refine OpE.val (v := .agg ⟨boundV none⟩) (ixvn_of rfl rfl hu13 (e ▸ cutK (B s) hu13)) rfl ?_
          (focus ((try with_reducible apply wpC.to); (repeat' ((conv => whnf); first | ((apply Start.mk); (focus exact byNext); (focus exact byLen)) | ((apply New.mk); (focus exact byNid)) | ((apply Need.mk); (focus exact byNeed)) | ((apply Fork.mk) <;> (intro _; try (exfalso; omega; done))) | ((apply Load1.mk); (focus exact byMem); (focus exact byVal)) | ((apply LoadN.mk); (focus exact byMem); (focus exact byList)) | ((apply Sto.mk); (focus exact bySto); (focus exact byLo); (focus exact byGet); (focus exact rfl); (focus exact rfl); (focus exact rfl); (focus exact byList)) | ((with_reducible apply Ix.pred); (focus first | assumption | exact fun _ => rfl); (focus omega); (focus omega)) | ((apply q_call); (focus exact byNext); (focus exact byLo); (focus (exact is_w)); first | ((apply q_allB) <;> (intro z_b _ _ _; first | exact Bool.noConfusion z_b | replace z_b := of_decide_eq_true z_b | replace z_b := of_decide_eq_false z_b | skip) <;> (first | contradiction | (revert z_b; intros))) | ((apply q_alli) <;> (intro _ _ _ _; try contradiction)) | ((apply q_allv); intro _ _ _)) | ((apply OpE.val); (focus exact rfl); (focus exact byVal)) | apply callC_any | apply forceV_any | apply forceL_any)); all_goals (conv => whnf); all_goals (try with_reducible apply At.mk)))
          refine hK' (u + 1) _ _ ⟨rfl, rfl, rfl, rfl, rfl, int_of rfl (by omega), trivial⟩ ⟨?_, by (exact byQuiet), by omega⟩ (by omega)
          rw [pre_none e]
          exact hst _ _ _ hi' (by (exact byQuiet))
        | some m =>
          refine OpE.val (v := .agg ⟨boundV (some m)⟩) (ixvn_of rfl rfl hu13 (e ▸ cutK (B s) hu13)) rfl ?_
          obtain ⟨rest, hrest⟩ := pre_split hs13 hu13 e
          (focus ((try with_reducible apply wpC.to); (repeat' ((conv => whnf); first | ((apply Start.mk); (focus exact byNext); (focus exact byLen)) | ((apply New.mk); (focus exact byNid)) | ((apply Need.mk); (focus exact byNeed)) | ((apply Fork.mk) <;> (intro _; try (exfalso; omega; done))) | ((apply Load1.mk); (focus exact byMem); (focus exact byVal)) | ((apply LoadN.mk); (focus exact byMem); (focus exact byList)) | ((apply Sto.mk); (focus exact bySto); (focus exact byLo); (focus exact byGet); (focus exact rfl); (focus exact rfl); (focus exact rfl); (focus exact byList)) | ((with_reducible apply Ix.pred); (focus first | assumption | exact fun _ => rfl); (focus omega); (focus omega)) | ((apply q_call); (focus exact byNext); (focus exact byLo); (focus (exact is_w)); first | ((apply q_allB) <;> (intro z_b _ _ _; first | exact Bool.noConfusion z_b | replace z_b := of_decide_eq_true z_b | replace z_b := of_decide_eq_false z_b | skip) <;> (first | contradiction | (revert z_b; intros))) | ((apply q_alli) <;> (intro _ _ _ _; try contradiction)) | ((apply q_allv); intro _ _ _)) | ((apply OpE.val); (focus exact rfl); (focus exact byVal)) | apply callC_any | apply forceV_any | apply forceL_any)); all_goals (conv => whnf); all_goals (try with_reducible apply At.mk)))
          apply q_calla
          focus exact hy (pre B s u) ⟨s, u, m⟩ rest _ hrest (hst _ _ _ hi' (by (exact byQuiet))) (by (exact byOm))
          rintro _ h3 ⟨rfl, hi3⟩ q3
          have hnx3 := q3.next
          (focus ((try with_reducible apply wpC.to); (repeat' ((conv => whnf); first | ((apply Start.mk); (focus exact byNext); (focus exact byLen)) | ((apply New.mk); (focus exact byNid)) | ((apply Need.mk); (focus exact byNeed)) | ((apply Fork.mk) <;> (intro _; try (exfalso; omega; done))) | ((apply Load1.mk); (focus exact byMem); (focus exact byVal)) | ((apply LoadN.mk); (focus exact byMem); (focus exact byList)) | ((apply Sto.mk); (focus exact bySto); (focus exact byLo); (focus exact byGet); (focus exact rfl); (focus exact rfl); (focus exact rfl); (focus exact byList)) | ((with_reducible apply Ix.pred); (focus first | assumption | exact fun _ => rfl); (focus omega); (focus omega)) | ((apply q_call); (focus exact byNext); (focus exact byLo); (focus (exact is_w)); first | ((apply q_allB) <;> (intro z_b _ _ _; first | exact Bool.noConfusion z_b | replace z_b := of_decide_eq_true z_b | replace z_b := of_decide_eq_false z_b | skip) <;> (first | contradiction | (revert z_b; intros))) | ((apply q_alli) <;> (intro _ _ _ _; try contradiction)) | ((apply q_allv); intro _ _ _)) | ((apply OpE.val); (focus exact rfl); (focus exact byVal)) | apply callC_any | apply forceV_any | apply forceL_any)); all_goals (conv => whnf); all_goals (try with_reducible apply At.mk)))
          refine hK' (u + 1) _ _ ⟨rfl, rfl, rfl, rfl, rfl, int_of rfl (by omega), trivial⟩ ⟨?_, by (exact byQuiet), by omega⟩ (by omega)
          rw [pre_some e]
          exact hst _ _ _ hi3 (by (exact byQuiet))
      · have : u = 13 := by omega
        subst this
        rw [← pre_next] at hi'
        refine hK (s + 1) _ _ ⟨rfl, rfl, int_of rfl (by omega), trivial⟩ ⟨hst _ _ _ hi' (by (exact byQuiet)), by (exact byQuiet), by omega⟩ (by omega)
  · (first | (apply fin1; (focus first | exact .inl rfl | exact .inr rfl); focus exact byR1) | (apply fin2; (focus first | exact .inl rfl | exact .inr rfl); (focus exact byR1); (focus exact byR1)) | (apply fin3; (focus first | exact .inl rfl | exact .inr rfl); (focus exact byR1); (focus exact byR1); (focus exact byR1)) | (apply fin0; (focus first | exact .inl rfl | exact .inr rfl)))
    have : s = 13 := by omega
    subst this
    rw [pre_all] at hi
    exact hst _ _ _ hi (by (exact byQuiet))

end AE.Try
