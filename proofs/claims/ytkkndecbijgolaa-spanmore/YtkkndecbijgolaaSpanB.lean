/- Walks of span: which runs are valid. -/
import Derived.Test.YtkkndecbijgolaaSpanA
set_option linter.unusedVariables false
set_option linter.unusedSimpArgs false
set_option linter.unusedSectionVars false
namespace AE.Try
open Go AE Go.Proofs AE.Sp
set_option maxRecDepth 100000
set_option linter.unusedVariables false

/-! ### within -/

theorem beyond_w {h : H} {r1 r2 : Nat} {n lo hi : Int} {e : TypeId} (hg1 : h.get r1 = some (.cells [.int .i64 lo] e)) (hg2 : h.get r2 = some (.cells [.int .i64 hi] e)) : AW Try.prog 75 h.next h [.int .i64 n, .pointer (some ⟨r1, 0, none⟩), .pointer (some ⟨r2, 0, none⟩)] (fun v _ => v = .bool (decide (n < lo ∨ hi < n))) := by
  refine fun75.call rfl (Nat.le_refl _) ?_
  unfold a75
  (focus ((try with_reducible apply wpC.to); (repeat' ((conv => whnf); first | refine byEv ?_ | (apply Fork.mk <;> (intro _; try (exfalso; omega))) | fail)); all_goals ((conv => whnf); try with_reducible apply At.mk)))
  all_goals ((refine byFin ?_); first | exact bool_t rfl (by omega) | exact bool_f rfl (by omega))
theorem within_w {h : H} {T : Arr} {m : Nat} {lo hi : Int} (hm : m ≤ h.next) (hT : T.Ok m h) :
    AW Try.prog 42 h.next h [.int .i64 lo, .int .i64 hi, .slice T.b T.n T.c] (fun v _ => v = .bool (decide (∀ i, i < T.n → lo ≤ T.f i ∧ T.f i ≤ hi))) := by
  refine fun42.call rfl (Nat.le_refl _) ?_
  unfold a42
  (focus ((try with_reducible apply wpC.to); (repeat' ((conv => whnf); first | refine byEv ?_ | fail)); all_goals ((conv => whnf); try with_reducible apply At.mk)))
  apply q_callB
  focus (exact byNext)
  focus (exact byLo)
  focus
    refine anyInts_w (m := m) (p := fun i => decide (T.f i < lo ∨ hi < T.f i)) byOm (hT.same bySame (Nat.le_refl _)) fun i k1 hi q => ?_
    exact acall_of (beyond_w (e := 2) (r1 := h.next) (r2 := h.next + 1) ((q.same _ byOm).trans byGet) ((q.same _ byOm).trans byGet)) rfl
  · intro hb h2 q hn
    (focus ((try with_reducible apply wpC.to); (repeat' ((conv => whnf); first | refine byEv ?_ | fail)); all_goals ((conv => whnf); try with_reducible apply At.mk)))
    (refine byFin ?_)
    refine bool_f rfl fun hall => ?_
    obtain ⟨i, hi, h3⟩ := of_decide_eq_true hb
    have := hall i hi
    have := of_decide_eq_true h3
    omega
  · intro hb h2 q hn
    (focus ((try with_reducible apply wpC.to); (repeat' ((conv => whnf); first | refine byEv ?_ | fail)); all_goals ((conv => whnf); try with_reducible apply At.mk)))
    (refine byFin ?_)
    refine bool_t rfl fun i hi' => ?_
    have := of_decide_eq_false hb
    by_cases hx : T.f i < lo ∨ hi < T.f i
    · exact absurd ⟨i, hi', decide_eq_true hx⟩ this
    · omega
/-- A list of numbers that the code has made. -/
theorem ints_list {h : H} {r : Nat} {e : TypeId} {l : List Int} (hg : h.get r = some (.cells (l.map (Value.int .i64)) e)) : Ints h ⟨r, 0, none⟩ l.length (fun i => l.getD i 0) := fun i hi => by
  refine loadN_one hg ?_
  show (l.map (Value.int .i64))[0 + i]? = _
  simp [hi]
theorem within1_w {h : H} {lo hi a : Int} {r : Nat} {e : TypeId} (hg : h.get r = some (.cells [.int .i64 a] e)) (hr : r < h.next) :
    AW Try.prog 42 h.next h [.int .i64 lo, .int .i64 hi, .slice (some ⟨r, 0, none⟩) 1 1] (fun v _ => v = .bool (decide (lo ≤ a ∧ a ≤ hi))) := by
  obtain ⟨v, h', e1, k⟩ := within_w (h := h) (T := ⟨1, fun i => [a].getD i 0, some ⟨r, 0, none⟩, ⟨r, 0, none⟩, 1⟩) (m := h.next) (lo := lo) (hi := hi) (Nat.le_refl _) ⟨fun _ => rfl, ints_list (l := [a]) hg, fun _ => hr, by show 1 ≤ _; omega⟩
  refine ⟨v, h', ?_, k⟩
  rw [e1]
  congr 1
  refine decide_eq_decide.2 ⟨fun k => k 0 (by show 0 < 1; omega), fun k i hi => ?_⟩
  have hi : i < 1 := hi
  obtain rfl : i = 0 := by omega
  exact k
theorem within2_w {h : H} {lo hi a b : Int} {r : Nat} {e : TypeId} (hg : h.get r = some (.cells [.int .i64 a, .int .i64 b] e)) (hr : r < h.next) :
    AW Try.prog 42 h.next h [.int .i64 lo, .int .i64 hi, .slice (some ⟨r, 0, none⟩) 2 2] (fun v _ => v = .bool (decide ((lo ≤ a ∧ a ≤ hi) ∧ (lo ≤ b ∧ b ≤ hi)))) := by
  obtain ⟨v, h', e1, k⟩ := within_w (h := h) (T := ⟨2, fun i => [a, b].getD i 0, some ⟨r, 0, none⟩, ⟨r, 0, none⟩, 2⟩) (m := h.next) (lo := lo) (hi := hi) (Nat.le_refl _) ⟨fun _ => rfl, ints_list (l := [a, b]) hg, fun _ => hr, by show 2 ≤ _; omega⟩
  refine ⟨v, h', ?_, k⟩
  rw [e1]
  congr 1
  refine decide_eq_decide.2 ⟨fun k => ⟨k 0 (by show 0 < 2; omega), k 1 (by show 1 < 2; omega)⟩, fun k i hi => ?_⟩
  have hi : i < 2 := hi
  obtain rfl | rfl : i = 0 ∨ i = 1 := by omega
  · exact k.1
  · exact k.2

theorem kSpanB0 {G G' : Prop} (g : G') (t : G' → G := by ((apply q_call); (focus exact byNext); (focus exact byLo); (focus ((apply within1_w; (focus exact byGet); (focus exact byOm)))))) : G := t g
theorem kSpanB1 {G G' : Prop} (g : G') (t : G' → G := by ((apply q_call); (focus exact byNext); (focus exact byLo); (focus ((apply within2_w; (focus exact byGet); (focus exact byOm)))))) : G := t g

theorem factors2_w {h : H} {a b : Int} {r : Nat} {e : TypeId} (hg : h.get r = some (.cells [.int .i64 a, .int .i64 b] e)) (hr : r < h.next) :
    AW Try.prog 73 h.next h [.slice (some ⟨r, 0, none⟩) 2 2] (fun v _ => v = .bool (decide ((-20 ≤ a ∧ a ≤ 20) ∧ (-20 ≤ b ∧ b ≤ 20)))) := by
  refine fun73.call rfl (Nat.le_refl _) ?_
  unfold a73
  (focus ((try with_reducible apply wpC.to); (repeat' ((conv => whnf); first | refine byEv ?_ | ((first | refine kSpanB1 ?_ | refine kSpanB0 ?_); first | ((first | apply q_allD | apply q_alli | apply q_allB) <;> intro _ _ _ _ <;> try contradiction) | (apply q_allv; intro _ _ _)) | fail)); all_goals ((conv => whnf); try with_reducible apply At.mk)))
  all_goals (refine byFin ?_)
  all_goals first | exact bool_t rfl (by assumption) | exact bool_f rfl (by assumption)
theorem kSpanB2 {G G' : Prop} (g : G') (t : G' → G := by ((apply q_call); (focus exact byNext); (focus exact byLo); (focus ((apply factors2_w; (focus exact byGet); (focus exact byOm)))))) : G := t g

/-! ### runs -/

def Fac (p q : Int) : Prop := (-20 ≤ p ∧ p ≤ 20) ∧ (-20 ≤ q ∧ q ≤ 20)
instance (p q : Int) : Decidable (Fac p q) := inferInstanceAs (Decidable ((-20 ≤ p ∧ p ≤ 20) ∧ (-20 ≤ q ∧ q ≤ 20)))
/-- The run is valid. -/
structure Run.Ok (x : Run) : Prop where
  p : -20 ≤ x.p ∧ x.p ≤ 20
  q : -20 ≤ x.q ∧ x.q ≤ 20
  nz : x.p ≠ 0 ∨ x.q ≠ 0
  lo : -100000 ≤ x.lo
  le : x.lo ≤ x.hi
  hi : x.hi ≤ 100000
instance (x : Run) : Decidable x.Ok := decidable_of_iff ((-20 ≤ x.p ∧ x.p ≤ 20) ∧ (-20 ≤ x.q ∧ x.q ≤ 20) ∧ (x.p ≠ 0 ∨ x.q ≠ 0) ∧ -100000 ≤ x.lo ∧ x.lo ≤ x.hi ∧ x.hi ≤ 100000) ⟨fun ⟨a, b, c, d, e, f⟩ => ⟨a, b, c, d, e, f⟩, fun ⟨a, b, c, d, e, f⟩ => ⟨a, b, c, d, e, f⟩⟩

theorem isRun_w {h : H} {x : Run} : AW Try.prog 39 h.next h [.agg ⟨x.cells⟩] (fun v _ => v = .bool (decide x.Ok)) := by
  refine fun39.call rfl (Nat.le_refl _) ?_
  unfold a39 Run.cells
  (focus ((try with_reducible apply wpC.to); (repeat' ((conv => whnf); first | refine byEv ?_ | (apply Fork.mk <;> (intro _; try (exfalso; omega))) | ((first | refine kSpanB2 ?_ | refine kSpanB1 ?_ | refine kSpanB0 ?_); first | ((first | apply q_allD | apply q_alli | apply q_allB) <;> intro _ _ _ _ <;> try contradiction) | (apply q_allv; intro _ _ _)) | fail)); all_goals ((conv => whnf); try with_reducible apply At.mk)))
  all_goals (refine byFin ?_)
  all_goals first | exact bool_t rfl ⟨by omega, by omega, by omega, by omega, by omega, by omega⟩ | exact bool_f rfl (fun k => by obtain ⟨a, b, c, d, e, f⟩ := k; omega)
theorem kSpanB3 {G G' : Prop} (g : G') (t : G' → G := by ((apply q_call); (focus exact byNext); (focus exact byLo); (focus ((apply isRun_w))))) : G := t g
theorem noRun_w {h : H} {x : Run} : AW Try.prog 38 h.next h [.agg ⟨x.cells⟩] (fun v _ => v = .bool (decide ¬ x.Ok)) := by
  refine fun38.call rfl (Nat.le_refl _) ?_
  unfold a38 Run.cells
  (focus ((try with_reducible apply wpC.to); (repeat' ((conv => whnf); first | refine byEv ?_ | ((refine kSpanB3 ?_); first | ((first | apply q_allD | apply q_alli | apply q_allB) <;> intro _ _ _ _ <;> try contradiction) | (apply q_allv; intro _ _ _)) | fail)); all_goals ((conv => whnf); try with_reducible apply At.mk)))
  all_goals (refine byFin ?_)
  all_goals first | exact bool_t rfl (by assumption) | exact bool_f rfl (fun k => k (by assumption))

def Runs.Val (L : Runs) : Prop := ∀ i, i < L.n → (L.f i).Ok
open Classical in
/-- The error of runs. -/
noncomputable def Runs.err (L : Runs) : Int := if 12 < L.n then 6 else if ¬ L.Val then 2 else 0
theorem Runs.err_0 {L : Runs} (h : L.err = 0) : L.n ≤ 12 ∧ L.Val := by
  unfold Runs.err at h
  split at h
  · omega
  rename_i h1
  split at h
  · omega
  rename_i h2
  exact ⟨by omega, Classical.not_not.1 h2⟩
theorem Runs.err_ok {L : Runs} (h1 : L.n ≤ 12) (h2 : L.Val) : L.err = 0 := by
  unfold Runs.err; rw [if_neg (by omega), if_neg (fun k => k h2)]
theorem Runs.err_6 {L : Runs} (h1 : 12 < L.n) : L.err = 6 := by unfold Runs.err; rw [if_pos h1]
theorem Runs.err_2 {L : Runs} (h1 : L.n ≤ 12) (h2 : ¬ L.Val) : L.err = 2 := by unfold Runs.err; rw [if_neg (by omega), if_pos h2]

theorem checkRuns_w {h : H} {L : Runs} {m : Nat} (hm : m ≤ h.next) (hL : L.Ok m h) : AW Try.prog 13 h.next h [.slice L.b L.n L.c] (fun v _ => v = .int .i64 L.err) := by
  have hL0 := hL
  obtain ⟨e1, i1, r1, l1⟩ := hL
  refine fun13.call rfl (Nat.le_refl _) ?_
  unfold a13
  (focus ((try with_reducible apply wpC.to); (repeat' ((conv => whnf); first | refine byEv ?_ | (apply Fork.mk <;> (intro _; try (exfalso; omega))) | fail)); all_goals ((conv => whnf); try with_reducible apply At.mk)))
  · (refine byFin ?_)
    rw [L.err_6 (by omega)]
  apply q_callB
  focus (exact byNext)
  focus (exact byLo)
  focus
    refine anyRuns_w (m := m) (p := fun i => decide ¬ (L.f i).Ok) byOm (hL0.same bySame (Nat.le_refl _)) fun i k1 hi q => ?_
    exact acall_of (noRun_w (h := k1) (x := L.f i)) rfl
  · intro hb h2 q2 n2
    obtain ⟨i, hi, h3⟩ := of_decide_eq_true hb
    have h3 := of_decide_eq_true h3
    (focus ((try with_reducible apply wpC.to); (repeat' ((conv => whnf); first | refine byEv ?_ | (apply Fork.mk <;> (intro _; try (exfalso; omega))) | fail)); all_goals ((conv => whnf); try with_reducible apply At.mk)))
    (refine byFin ?_)
    rw [L.err_2 (by omega) (fun k => h3 (k i hi))]
  · intro hb h2 q2 n2
    have := of_decide_eq_false hb
    have hv : L.Val := fun i hi => Classical.byContradiction fun h => this ⟨i, hi, decide_eq_true h⟩
    clear hb
    (focus ((try with_reducible apply wpC.to); (repeat' ((conv => whnf); first | refine byEv ?_ | (apply Fork.mk <;> (intro _; try (exfalso; omega))) | fail)); all_goals ((conv => whnf); try with_reducible apply At.mk)))
    (refine byFin ?_)
    rw [L.err_ok (by omega) hv]

theorem kSpanB4 {G G' : Prop} (g : G') (t : G' → G := by ((apply q_call); (focus exact byNext); (focus exact byLo); (focus ((apply checkRuns_w; rotate_left; (focus (apply Runs.Ok.same; (focus assumption); (focus exact bySame); (focus exact Nat.le_refl _))); (focus exact byOm)))))) : G := t g

/-- The error of runs and two factors. -/
noncomputable def Runs.err2 (L : Runs) (p q : Int) : Int := if L.err ≠ 0 then L.err else if Fac p q then 0 else 3
theorem checkErr_w {h : H} {L : Runs} {m : Nat} {p q : Int} (hm : m ≤ h.next) (hL : L.Ok m h) : AW Try.prog 55 h.next h [.slice L.b L.n L.c, .int .i64 p, .int .i64 q] (fun v _ => v = .int .i64 (L.err2 p q)) := by
  have hL0 := hL
  refine fun55.call rfl (Nat.le_refl _) ?_
  unfold a55
  (focus ((try with_reducible apply wpC.to); (repeat' ((conv => whnf); first | refine byEv ?_ | (apply Fork.mk <;> (intro _; try (exfalso; omega))) | ((first | refine kSpanB4 ?_ | refine kSpanB2 ?_); first | ((first | apply q_allD | apply q_alli | apply q_allB) <;> intro _ _ _ _ <;> try contradiction) | (apply q_allv; intro _ _ _)) | fail)); all_goals ((conv => whnf); try with_reducible apply At.mk)))
  · (refine byFin ?_)
    unfold Runs.err2; rw [if_pos (by assumption)]
  · (refine byFin ?_)
    unfold Runs.err2; rw [if_neg (by omega), if_pos (by assumption)]
  · (refine byFin ?_)
    unfold Runs.err2; rw [if_neg (by omega), if_neg (by assumption)]

/-! ### those of the definitions -/

theorem factor_r {h : H} {n : Int} : AW Try.prog 40 h.next h [.int .i64 n] (fun v _ => v = .bool (decide (-20 ≤ n ∧ n ≤ 20))) := by
  refine fun40.call rfl (Nat.le_refl _) ?_
  unfold a40
  (focus ((try with_reducible apply wpC.to); (repeat' ((conv => whnf); first | refine byEv ?_ | (apply Fork.mk <;> (intro _; try (exfalso; omega))) | fail)); all_goals ((conv => whnf); try with_reducible apply At.mk)))
  all_goals ((refine byFin ?_); first | exact bool_t rfl (by omega) | exact bool_f rfl (by omega))
theorem values_r {h : H} {lo hi : Int} : AW Try.prog 41 h.next h [.agg ⟨[.int .i64 lo, .int .i64 hi]⟩] (fun v _ => v = .bool (decide (-100000 ≤ lo ∧ lo ≤ hi ∧ hi ≤ 100000))) := by
  refine fun41.call rfl (Nat.le_refl _) ?_
  unfold a41
  (focus ((try with_reducible apply wpC.to); (repeat' ((conv => whnf); first | refine byEv ?_ | (apply Fork.mk <;> (intro _; try (exfalso; omega))) | fail)); all_goals ((conv => whnf); try with_reducible apply At.mk)))
  all_goals ((refine byFin ?_); first | exact bool_t rfl (by omega) | exact bool_f rfl (by omega))
theorem kSpanB5 {G G' : Prop} (g : G') (t : G' → G := by ((apply q_call); (focus exact byNext); (focus exact byLo); (focus ((apply factor_r))))) : G := t g
theorem kSpanB6 {G G' : Prop} (g : G') (t : G' → G := by ((apply q_call); (focus exact byNext); (focus exact byLo); (focus ((apply values_r))))) : G := t g
theorem run_part {h : H} {L : Runs} {i o k : Nat} {l : List Value} (e : Els h L.a L.n 4 (fun i => (L.f i).cells)) (hi : i < L.n) (hc : cut (L.f i).cells o k = some l) : h.loadN (aadd (aadd L.a (i * 4)) o) k = some l := load_part (e i hi) hc
theorem xSpanB0 {G G' : Prop} (g : G') (t : G' → G := by (((with_reducible apply Load1.mk); (focus ((repeat (first | (apply run_part <;> first | assumption | omega | exact rfl) | with_reducible apply bump_old | ((with_reducible apply put_old); focus (dsimp only [aadd]; omega)) | ((with_reducible apply quiet_old); (focus assumption); focus (dsimp only [aadd]; omega)) | ((with_reducible apply same_old); (focus assumption); focus (dsimp only [aadd]; omega)))); (first | done | fail))); (focus exact byVal)))) : G := t g
theorem xSpanB1 {G G' : Prop} (g : G') (t : G' → G := by (((with_reducible apply LoadN.mk); (focus ((repeat (first | (apply run_part <;> first | assumption | omega | exact rfl) | with_reducible apply bump_old | ((with_reducible apply put_old); focus (dsimp only [aadd]; omega)) | ((with_reducible apply quiet_old); (focus assumption); focus (dsimp only [aadd]; omega)) | ((with_reducible apply same_old); (focus assumption); focus (dsimp only [aadd]; omega)))); (first | done | fail))); (focus exact byList)))) : G := t g
set_option maxHeartbeats 1000000 in
theorem checkRuns_r {h : H} {L : Runs} {m : Nat} (hm : m ≤ h.next) (hL : L.Ok m h) : AW Try.prog 14 h.next h [.slice L.b L.n L.c] (fun v _ => v = .int .i64 L.err) := by
  obtain ⟨e1, i1, r1, l1⟩ := hL
  refine fun14.call rfl (Nat.le_refl _) ?_
  unfold a14
  (focus ((try with_reducible apply wpC.to); (repeat' ((conv => whnf); first | refine byEv ?_ | (apply Fork.mk <;> (intro _; try (exfalso; omega))) | ((first | refine kSpanB6 ?_ | refine kSpanB5 ?_); first | ((first | apply q_allD | apply q_alli | apply q_allB) <;> intro _ _ _ _ <;> try contradiction) | (apply q_allv; intro _ _ _)) | refine xSpanB1 ?_ | refine xSpanB0 ?_ | fail)); all_goals ((conv => whnf); try with_reducible apply At.mk)))
  · (refine byFin ?_)
    rw [L.err_6 (by omega)]
  refine wp_loop (fun s : Nat => [(0, .slice L.b L.n L.c), (3, .int .i64 s)]) (fun s h1 => Same m h h1 ∧ h.next ≤ h1.next ∧ s ≤ L.n ∧ ∀ i, i < s → (L.f i).Ok) (fun s => L.n - s) 0 ⟨rfl, rfl, trivial⟩ ⟨bySame, byOm, by omega, fun i hi => absurd hi (Nat.not_lt_zero i)⟩ ?_
  rintro s g h1 ⟨sm, n1, hs, hp⟩ K hK
  by_cases hsn : s < L.n
  · have x1 := r1 (by omega)
    have i5 := i1.same sm r1
    have bad : ¬ (L.f s).Ok → L.err = 2 := fun k => L.err_2 (by omega) fun hv => k (hv s hsn)
    (focus ((try with_reducible apply wpC.to); (repeat' ((conv => whnf); first | refine byEv ?_ | (apply Fork.mk <;> (intro _; try (exfalso; omega))) | ((first | refine kSpanB6 ?_ | refine kSpanB5 ?_); first | ((first | apply q_allD | apply q_alli | apply q_allB) <;> intro _ _ _ _ <;> try contradiction) | (apply q_allv; intro _ _ _)) | refine xSpanB1 ?_ | refine xSpanB0 ?_ | fail)); all_goals ((conv => whnf); try with_reducible apply At.mk)))
    all_goals first
      | ((refine byFin ?_); rw [bad (fun k => by obtain ⟨a, b, c, d, e, f⟩ := k; omega)])
      | (refine hK (s + 1) _ _ ⟨rfl, int_of rfl (by omega), trivial⟩ ⟨bySame, byOm, by omega, fun i hi => ?_⟩ (by omega)
         by_cases e : i = s
         · subst e; exact ⟨by omega, by omega, by omega, by omega, by omega, by omega⟩
         · exact hp i (by omega))
  · obtain rfl : s = L.n := by omega
    (focus ((try with_reducible apply wpC.to); (repeat' ((conv => whnf); first | refine byEv ?_ | (apply Fork.mk <;> (intro _; try (exfalso; omega))) | ((first | refine kSpanB6 ?_ | refine kSpanB5 ?_); first | ((first | apply q_allD | apply q_alli | apply q_allB) <;> intro _ _ _ _ <;> try contradiction) | (apply q_allv; intro _ _ _)) | refine xSpanB1 ?_ | refine xSpanB0 ?_ | fail)); all_goals ((conv => whnf); try with_reducible apply At.mk)))
    (refine byFin ?_)
    rw [L.err_ok (by omega) hp]
theorem kSpanB7 {G G' : Prop} (g : G') (t : G' → G := by ((apply q_call); (focus exact byNext); (focus exact byLo); (focus ((apply checkRuns_r; rotate_left; (focus (apply Runs.Ok.same; (focus assumption); (focus exact bySame); (focus exact Nat.le_refl _))); (focus exact byOm)))))) : G := t g
end AE.Try
