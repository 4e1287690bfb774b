/- Walks of span: a short list sorted. -/
import Derived.Test.YtkkndecbijgolaaSpanL
set_option linter.unusedVariables false
set_option linter.unusedSimpArgs false
set_option linter.unusedSectionVars false
namespace AE.Try
open Go AE Go.Proofs AE.Sp
set_option maxRecDepth 100000
set_option linter.unusedVariables false

/-- A list of numbers that grew. -/
def IR (r : Nat) (h : H) (n : Nat) (f : Nat → Int) (v : Option Addr) : Prop := GAt r h 3 1 n (iCells f n) v
theorem IR.frame {r n : Nat} {h h' : H} {f : Nat → Int} {v : Option Addr} (k : IR r h n f v) (e : h'.get r = h.get r) : IR r h' n f v := GAt.frame k e
theorem iCells_cut {f : Nat → Int} {n i : Nat} (hi : i < n) : cut (iCells f n) i 1 = some [.int .i64 (f i)] := by
  have := cut_rowsOf (g := fun i => [Value.int .i64 (f i)]) (w := 1) (fun _ => rfl) hi [] [] (a := i) (by simp)
  unfold iCells
  simpa using this
theorem IR.ints {r n : Nat} {h : H} {f : Nat → Int} {v : Option Addr} (k : IR r h n f v) : ∃ a, v = some a ∧ a.block = r ∧ Ints h a n f := by
  obtain ⟨a, hv, hb, hld, -⟩ := k.load
  exact ⟨a, hv, hb, fun i hi => by have := hld i 1 _ (iCells_cut hi); simpa using this⟩
theorem IR.sto {r n i lo off : Nat} {h : H} {f : Nat → Int} {a : Addr} {x : Int} {K : H → Prop} (k : IR r h n f (some a)) (hi : i < n) (ho : off = i * 1) (hlo : lo ≤ r) (hk : ∀ row, IR r (h.put r row) n (updN f i x) (some a) → K (h.put r row)) : Sto lo h (aadd a off) 1 [.int .i64 x] K := by
  subst ho
  obtain ⟨a', h1, h2, -, h4⟩ := k.load
  simp only [Option.some.injEq] at h1
  subst h1
  obtain ⟨row, e1, e2⟩ := h4 lo (i * 1) [.int .i64 x] hlo rfl (by rw [iCells_len]; simp; omega)
  refine Sto.raw e1 rfl (hk row ?_)
  rw [iCells_set f x hi (by omega)] at e2
  exact e2
theorem isNaN_w {h : H} {x : Int} : AW Try.prog 114 h.next h [.int .i64 x] (fun v _ => v = .bool false) := by
  refine fun114.call rfl (Nat.le_refl _) ?_
  unfold a114
  (focus ((try with_reducible apply wpC.to); (repeat' ((conv => whnf); first | refine byEv ?_ | (apply Fork.mk <;> (intro _; try (exfalso; omega))) | fail)); all_goals ((conv => whnf); try with_reducible apply At.mk)))
  (refine byFin ?_)
  rfl
theorem kSpanM0 {G G' : Prop} (g : G') (t : G' → G := by ((apply q_call); (focus exact byNext); (focus exact byLo); (focus ((apply isNaN_w))))) : G := t g
theorem cmpLess_w {h : H} {x y : Int} : AW Try.prog 104 h.next h [.int .i64 x, .int .i64 y] (fun v _ => v = .bool (decide (x < y))) := by
  refine fun104.call rfl (Nat.le_refl _) ?_
  unfold a104
  (focus ((try with_reducible apply wpC.to); (repeat' ((conv => whnf); first | refine byEv ?_ | (apply Fork.mk <;> (intro _; try (exfalso; omega))) | ((refine kSpanM0 ?_); first | ((first | apply q_allD | apply q_alli | apply q_allB) <;> intro _ _ _ _ <;> try contradiction) | (apply q_allv; intro _ _ _)) | fail)); all_goals ((conv => whnf); try with_reducible apply At.mk)))
  all_goals ((refine byFin ?_); first | exact bool_t rfl (by omega) | exact bool_f rfl (by omega))
/-- Two neighbours change places. -/
def swp (f : Nat → Int) (j : Nat) : Nat → Int := updN (updN f j (f (j - 1))) (j - 1) (f j)
theorem swp_at (f : Nat → Int) {j : Nat} (hj : 0 < j) (i : Nat) : swp f j i = if i = j then f (j - 1) else if i = j - 1 then f j else f i := by
  unfold swp updN
  by_cases h1 : i = j
  · subst h1
    rw [if_neg (by omega), if_pos rfl, if_pos rfl]
  · by_cases h2 : i = j - 1
    · rw [if_pos h2, if_neg h1, if_pos h2]
    · rw [if_neg h2, if_neg h1, if_neg h1, if_neg h2]
/-- The same numbers, each one once. -/
structure SameN (n : Nat) (f f' : Nat → Int) : Prop where
  inj : ∀ i j, i < n → j < n → f' i = f' j → i = j
  mem : ∀ x, (∃ i, i < n ∧ f' i = x) ↔ ∃ i, i < n ∧ f i = x
def sig (j i : Nat) : Nat := if i = j then j - 1 else if i = j - 1 then j else i
theorem swp_sig (f : Nat → Int) {j : Nat} (hj : 0 < j) (i : Nat) : swp f j i = f (sig j i) := by
  rw [swp_at f hj]
  unfold sig
  by_cases h1 : i = j
  · rw [if_pos h1, if_pos h1]
  · rw [if_neg h1, if_neg h1]
    by_cases h2 : i = j - 1
    · rw [if_pos h2, if_pos h2]
    · rw [if_neg h2, if_neg h2]
theorem sig_lt {j i n : Nat} (hj : j < n) (hi : i < n) : sig j i < n := by unfold sig; split <;> (try split) <;> omega
theorem sig_sig {j i : Nat} (hj : 0 < j) : sig j (sig j i) = i := by
  unfold sig
  by_cases h1 : i = j
  · rw [if_pos h1, if_neg (by omega), if_pos rfl, h1]
  · rw [if_neg h1]
    by_cases h2 : i = j - 1
    · rw [if_pos h2, if_pos rfl, h2]
    · rw [if_neg h2, if_neg h1, if_neg h2]
theorem SameN.swp {n j : Nat} {f f' : Nat → Int} (k : SameN n f f') (h0 : 0 < j) (hj : j < n) : SameN n f (swp f' j) := by
  constructor
  · intro a b ha hb e
    rw [swp_sig _ h0, swp_sig _ h0] at e
    have := k.inj _ _ (sig_lt hj ha) (sig_lt hj hb) e
    rw [← sig_sig (i := a) h0, this, sig_sig h0]
  · intro x
    rw [← k.mem]
    constructor
    · rintro ⟨i, hi, rfl⟩
      exact ⟨sig j i, sig_lt hj hi, (swp_sig _ h0 i).symm⟩
    · rintro ⟨i, hi, rfl⟩
      exact ⟨sig j i, sig_lt hj hi, by rw [swp_sig _ h0, sig_sig h0]⟩

set_option maxHeartbeats 4000000 in
theorem insertion_w {h : H} {lo r n : Nat} {f : Nat → Int} {v : Option Addr} (hlh : lo ≤ h.next) (hlr : 0 < n → lo ≤ r ∧ r < h.next) (hn : n < 1000000) (k : 0 < n → IR r h n f v) (inj : ∀ i j, i < n → j < n → f i = f j → i = j) :
    AW Try.prog 98 lo h [.slice v n 0, .int .i64 0, .int .i64 (n : Int)] (fun _ h' => ∃ f', (∀ i j, i < j → j < n → f' i < f' j) ∧ SameN n f f' ∧ (0 < n → IR r h' n f' v) ∧ h.next ≤ h'.next ∧ ∀ q, q < h.next → (0 < n → q ≠ r) → h'.get q = h.get q) := by
  refine fun98.call rfl hlh ?_
  unfold a98
  (focus ((try with_reducible apply wpC.to); (repeat' ((conv => whnf); first | refine byEv ?_ | (apply Fork.mk <;> (intro _; try (exfalso; omega))) | fail)); all_goals ((conv => whnf); try with_reducible apply At.mk)))
  refine wp_loop (fun s : Nat × (Nat → Int) => [(0, .slice v n 0), (1, .int .i64 0), (2, .int .i64 n), (6, .int .i64 s.1)])
    (fun s h1 => (0 < n → IR r h1 n s.2 v) ∧ SameN n f s.2 ∧ h.next ≤ h1.next ∧ (∀ q, q < h.next → (0 < n → q ≠ r) → h1.get q = h.get q) ∧ 1 ≤ s.1 ∧ (s.1 ≤ n ∨ s.1 = 1) ∧ ∀ i j, i < j → j < s.1 → j < n → s.2 i < s.2 j) (fun s => n - s.1) (1, f) ⟨rfl, rfl, rfl, rfl, trivial⟩ ⟨fun h0 => (k h0).frame rfl, ⟨inj, fun x => Iff.rfl⟩, byOm, fun q _ _ => rfl, by omega, .inr rfl, fun i j h1 h2 => by dsimp only at h2; omega⟩ ?_
  rintro ⟨s, F⟩ g h1 ⟨ir, sn, n1, fr, s1, s2, inc⟩ K hK
  dsimp only at ir sn s1 s2 inc ⊢
  by_cases hsn : s < n
  · (focus ((try with_reducible apply wpC.to); (repeat' ((conv => whnf); first | refine byEv ?_ | (apply Fork.mk <;> (intro _; try (exfalso; omega))) | fail)); all_goals ((conv => whnf); try with_reducible apply At.mk)))
    refine wp_loop (fun t : Nat × (Nat → Int) => [(0, .slice v n 0), (1, .int .i64 0), (2, .int .i64 n), (6, .int .i64 s), (7, .int .i64 t.1)])
      (fun t h1 => (0 < n → IR r h1 n t.2 v) ∧ SameN n f t.2 ∧ h.next ≤ h1.next ∧ (∀ q, q < h.next → (0 < n → q ≠ r) → h1.get q = h.get q) ∧ t.1 ≤ s ∧ (∀ i j, i < j → j ≤ s → i ≠ t.1 → j ≠ t.1 → t.2 i < t.2 j) ∧ ∀ j, t.1 < j → j ≤ s → t.2 t.1 < t.2 j) (fun t => t.1) (s, F) ⟨rfl, rfl, rfl, rfl, rfl, trivial⟩ ⟨fun h0 => (ir h0).frame rfl, sn, byOm, fr, Nat.le_refl _, fun i j h1 h2 h3 h4 => inc i j h1 (by dsimp only at h4; omega) (by omega), fun j h1 h2 => by dsimp only at h1; omega⟩ ?_
    rintro ⟨t, G⟩ g' h2 ⟨ir, sn, n2, fr, t1, iG, jG⟩ K' hK'
    dsimp only at ir sn t1 iG jG ⊢
    have hlr := hlr (by omega)
    have ir := ir (by omega)
    obtain ⟨a, rfl, hab, ints⟩ := ir.ints
    have hblk : a.block < h.next := by omega
    by_cases ht : 0 < t
    · (focus ((try with_reducible apply wpC.to); (repeat' ((conv => whnf); first | refine byEv ?_ | (apply Fork.mk <;> (intro _; try (exfalso; omega))) | fail)); all_goals ((conv => whnf); try with_reducible apply At.mk)))
      apply q_callB
      focus (exact byNext)
      focus (exact byLo)
      focus exact cmpLess_w
      · intro hc h3 q3 n3
        have hc := of_decide_eq_true hc
        have ir3 : IR r h3 n G (some a) := ir.frame (get_of fun y hy => byGet)
        have ints3 : Ints h3 a n G := fun i hi => by have := ints i hi; (exact byOld)
        (focus ((try with_reducible apply wpC.to); (repeat' ((conv => whnf); first | refine byEv ?_ | (apply Fork.mk <;> (intro _; try (exfalso; omega))) | fail)); all_goals ((conv => whnf); try with_reducible apply At.mk)))
        refine IR.sto (r := r) (f := G) (ir3.frame rfl) (by omega) rfl (by omega) fun row ir4 => ?_
        (focus ((try with_reducible apply wpC.to); (repeat' ((conv => whnf); first | refine byEv ?_ | (apply Fork.mk <;> (intro _; try (exfalso; omega))) | fail)); all_goals ((conv => whnf); try with_reducible apply At.mk)))
        refine IR.sto (r := r) (f := updN G t (G (t - 1))) ir4 (by omega) rfl (by omega) fun row' ir5 => ?_
        (focus ((try with_reducible apply wpC.to); (repeat' ((conv => whnf); first | refine byEv ?_ | (apply Fork.mk <;> (intro _; try (exfalso; omega))) | fail)); all_goals ((conv => whnf); try with_reducible apply At.mk)))
        have at_ := swp_at G ht
        refine hK' (t - 1, swp G t) _ _ ⟨rfl, rfl, rfl, rfl, int_of rfl (by dsimp only; omega), trivial⟩ ⟨fun _ => ir5.frame rfl, sn.swp ht (by omega), byOm, fun q hq1 hq2 => (get_of fun y hy => by have := hq2 (by omega); (exact byGet)).trans (fr q hq1 hq2), by dsimp only; omega, fun i j h1 h2 h3 h4 => ?_, fun j h1 h2 => ?_⟩ (by dsimp only; omega)
        · dsimp only at h3 h4 ⊢
          rw [at_, at_, if_neg h3, if_neg h4]
          by_cases e1 : i = t
          · rw [if_pos e1, if_neg (by omega)]
            by_cases e3 : t - 1 = t
            · omega
            · exact iG (t - 1) j (by omega) h2 e3 (by omega)
          · rw [if_neg e1]
            by_cases e2 : j = t
            · rw [if_pos e2]; exact iG i (t - 1) (by omega) (by omega) e1 (by omega)
            · rw [if_neg e2]; exact iG i j h1 h2 e1 e2
        · dsimp only at h1 ⊢
          rw [at_ (t - 1), at_ j, if_neg (by omega), if_pos rfl]
          by_cases e2 : j = t
          · rw [if_pos e2]; exact hc
          · rw [if_neg e2, if_neg (by omega)]; exact jG j (by omega) h2
      · intro hc h3 q3 n3
        have hc := of_decide_eq_false hc
        have hne : G (t - 1) ≠ G t := fun e => by have := sn.inj _ _ (by omega) (by omega) e; omega
        (focus ((try with_reducible apply wpC.to); (repeat' ((conv => whnf); first | refine byEv ?_ | (apply Fork.mk <;> (intro _; try (exfalso; omega))) | fail)); all_goals ((conv => whnf); try with_reducible apply At.mk)))
        refine hK (s + 1, G) _ _ ⟨rfl, rfl, rfl, int_of rfl (by dsimp only; omega), trivial⟩ ⟨fun _ => ir.frame (get_of fun y hy => byGet), sn, byOm, fun q hq1 hq2 => (get_of fun y hy => by have := hq2 (by omega); (exact byGet)).trans (fr q hq1 hq2), by dsimp only; omega, by dsimp only; omega, fun i j h1 h2 h3 => ?_⟩ (by dsimp only; omega)
        dsimp only at h2 ⊢
        by_cases e1 : i = t
        · subst e1; exact jG j h1 (by omega)
        · by_cases e2 : j = t
          · subst e2
            by_cases e3 : i = j - 1
            · subst e3; omega
            · have := iG i (j - 1) (by omega) (by omega) e1 (by omega)
              omega
          · exact iG i j h1 (by omega) e1 e2
    · obtain rfl : t = 0 := by omega
      (focus ((try with_reducible apply wpC.to); (repeat' ((conv => whnf); first | refine byEv ?_ | (apply Fork.mk <;> (intro _; try (exfalso; omega))) | fail)); all_goals ((conv => whnf); try with_reducible apply At.mk)))
      refine hK (s + 1, G) _ _ ⟨rfl, rfl, rfl, int_of rfl (by dsimp only; omega), trivial⟩ ⟨fun _ => ir.frame rfl, sn, byOm, fr, by dsimp only; omega, by dsimp only; omega, fun i j h1 h2 h3 => ?_⟩ (by dsimp only; omega)
      dsimp only at h2 ⊢
      by_cases e : i = 0
      · subst e; exact jG j h1 (by omega)
      · exact iG i j h1 (by omega) e (by omega)
  · (focus ((try with_reducible apply wpC.to); (repeat' ((conv => whnf); first | refine byEv ?_ | (apply Fork.mk <;> (intro _; try (exfalso; omega))) | fail)); all_goals ((conv => whnf); try with_reducible apply At.mk)))
    (refine byFin ?_)
    exact ⟨F, fun i j h1 h2 => inc i j h1 (by omega) h2, sn, fun h0 => (ir h0).frame rfl, byOm, fr⟩
theorem len64_w {h : H} {n : Nat} (hn : n ≤ 3) : AW Try.prog 108 h.next h [.int .u64 (n : Int)] (fun v h' => ∃ z, v = .int .i64 z) := by
  refine fun108.call rfl (Nat.le_refl _) ?_
  unfold a108
  obtain rfl | rfl | rfl | rfl : n = 0 ∨ n = 1 ∨ n = 2 ∨ n = 3 := by omega
  · (focus ((try with_reducible apply wpC.to); (repeat' ((conv => whnf); first | refine byEv ?_ | fail)); all_goals ((conv => whnf); try with_reducible apply At.mk)))
    refine Wrap.mk rfl ?_
    (focus ((try with_reducible apply wpC.to); (repeat' ((conv => whnf); first | refine byEv ?_ | fail)); all_goals ((conv => whnf); try with_reducible apply At.mk)))
    refine Wrap.mk (y := 0) (by kernel_rfl) ?_
    (focus ((try with_reducible apply wpC.to); (repeat' ((conv => whnf); first | refine byEv ?_ | fail)); all_goals ((conv => whnf); try with_reducible apply At.mk)))
    (refine byFin ?_)
    exact ⟨_, rfl⟩
  · (focus ((try with_reducible apply wpC.to); (repeat' ((conv => whnf); first | refine byEv ?_ | fail)); all_goals ((conv => whnf); try with_reducible apply At.mk)))
    refine Wrap.mk rfl ?_
    (focus ((try with_reducible apply wpC.to); (repeat' ((conv => whnf); first | refine byEv ?_ | fail)); all_goals ((conv => whnf); try with_reducible apply At.mk)))
    refine Wrap.mk (y := 1) (by kernel_rfl) ?_
    (focus ((try with_reducible apply wpC.to); (repeat' ((conv => whnf); first | refine byEv ?_ | fail)); all_goals ((conv => whnf); try with_reducible apply At.mk)))
    (refine byFin ?_)
    exact ⟨_, rfl⟩
  · (focus ((try with_reducible apply wpC.to); (repeat' ((conv => whnf); first | refine byEv ?_ | fail)); all_goals ((conv => whnf); try with_reducible apply At.mk)))
    refine Wrap.mk rfl ?_
    (focus ((try with_reducible apply wpC.to); (repeat' ((conv => whnf); first | refine byEv ?_ | fail)); all_goals ((conv => whnf); try with_reducible apply At.mk)))
    refine Wrap.mk (y := 2) (by kernel_rfl) ?_
    (focus ((try with_reducible apply wpC.to); (repeat' ((conv => whnf); first | refine byEv ?_ | fail)); all_goals ((conv => whnf); try with_reducible apply At.mk)))
    (refine byFin ?_)
    exact ⟨_, rfl⟩
  · (focus ((try with_reducible apply wpC.to); (repeat' ((conv => whnf); first | refine byEv ?_ | fail)); all_goals ((conv => whnf); try with_reducible apply At.mk)))
    refine Wrap.mk rfl ?_
    (focus ((try with_reducible apply wpC.to); (repeat' ((conv => whnf); first | refine byEv ?_ | fail)); all_goals ((conv => whnf); try with_reducible apply At.mk)))
    refine Wrap.mk (y := 2) (by kernel_rfl) ?_
    (focus ((try with_reducible apply wpC.to); (repeat' ((conv => whnf); first | refine byEv ?_ | fail)); all_goals ((conv => whnf); try with_reducible apply At.mk)))
    (refine byFin ?_)
    exact ⟨_, rfl⟩
theorem len_w {h : H} {n : Nat} (hn : n ≤ 3) : AW Try.prog 94 h.next h [.int .u64 (n : Int)] (fun v h' => ∃ z, v = .int .i64 z) := by
  refine fun94.call rfl (Nat.le_refl _) ?_
  unfold a94
  (focus ((try with_reducible apply wpC.to); (repeat' ((conv => whnf); first | refine byEv ?_ | fail)); all_goals ((conv => whnf); try with_reducible apply At.mk)))
  apply q_call
  focus (exact byNext)
  focus (exact byLo)
  focus exact len64_w hn
  rintro _ h2 ⟨z, rfl⟩ q2 n2
  (focus ((try with_reducible apply wpC.to); (repeat' ((conv => whnf); first | refine byEv ?_ | fail)); all_goals ((conv => whnf); try with_reducible apply At.mk)))
  (refine byFin ?_)
  exact ⟨z, rfl⟩
theorem pdq_w {h : H} {lo r n : Nat} {f : Nat → Int} {v : Option Addr} {z : Int} (hlh : lo ≤ h.next) (hlr : 0 < n → lo ≤ r ∧ r < h.next) (hn : n ≤ 3) (k : 0 < n → IR r h n f v) (inj : ∀ i j, i < n → j < n → f i = f j → i = j) :
    AW Try.prog 93 lo h [.slice v n 0, .int .i64 0, .int .i64 (n : Int), .int .i64 z] (fun _ h' => ∃ f', (∀ i j, i < j → j < n → f' i < f' j) ∧ SameN n f f' ∧ (0 < n → IR r h' n f' v) ∧ h.next ≤ h'.next ∧ ∀ q, q < h.next → (0 < n → q ≠ r) → h'.get q = h.get q) := by
  refine fun93.call rfl hlh ?_
  unfold a93
  (focus ((try with_reducible apply wpC.to); (repeat' ((conv => whnf); first | refine byEv ?_ | (apply Fork.mk <;> (intro _; try (exfalso; omega))) | fail)); all_goals ((conv => whnf); try with_reducible apply At.mk)))
  refine wp_loop (fun s : Nat => [(0, .slice v n 0), (1, .int .i64 0), (2, .int .i64 n)]) (fun s h1 => Quiet h.next h h1) (fun s => s) 0 ⟨rfl, rfl, rfl, trivial⟩ byQuiet ?_
  rintro s g h1 q1 K hK
  have n1 := q1.next
  (focus ((try with_reducible apply wpC.to); (repeat' ((conv => whnf); first | refine byEv ?_ | (apply Fork.mk <;> (intro _; try (exfalso; omega))) | fail)); all_goals ((conv => whnf); try with_reducible apply At.mk)))
  apply q_callw
  focus exact insertion_w (r := r) (f := f) byOm (fun h0 => ⟨(hlr h0).1, by have := (hlr h0).2; (exact byOm)⟩) (by omega) (fun h0 => (k h0).frame (get_of fun y hy => by have := hlr h0; (exact byGet))) inj
  rintro _ h2 ⟨f', a1, a2, a3, a4, a5⟩ q2
  simp only [put_next, bump_next] at a4
  (focus ((try with_reducible apply wpC.to); (repeat' ((conv => whnf); first | refine byEv ?_ | (apply Fork.mk <;> (intro _; try (exfalso; omega))) | fail)); all_goals ((conv => whnf); try with_reducible apply At.mk)))
  (refine byFin ?_)
  exact ⟨f', a1, a2, fun h0 => (a3 h0).frame rfl, byOm, fun q hq1 hq2 => (a5 q byOm hq2).trans (get_of fun y hy => byGet)⟩
theorem sort_w {h : H} {lo r n : Nat} {f : Nat → Int} {v : Option Addr} (hlh : lo ≤ h.next) (hlr : 0 < n → lo ≤ r ∧ r < h.next) (hn : n ≤ 3) (k : 0 < n → IR r h n f v) (inj : ∀ i j, i < n → j < n → f i = f j → i = j) :
    AW Try.prog 78 lo h [.slice v n 0] (fun _ h' => ∃ f', (∀ i j, i < j → j < n → f' i < f' j) ∧ SameN n f f' ∧ (0 < n → IR r h' n f' v) ∧ h.next ≤ h'.next ∧ ∀ q, q < h.next → (0 < n → q ≠ r) → h'.get q = h.get q) := by
  refine fun78.call rfl hlh ?_
  unfold a78
  (focus ((try with_reducible apply wpC.to); (repeat' ((conv => whnf); first | refine byEv ?_ | fail)); all_goals ((conv => whnf); try with_reducible apply At.mk)))
  apply q_call
  focus (exact byNext)
  focus (exact byLo)
  focus exact len_w hn
  rintro _ h2 ⟨z, rfl⟩ q2 n2
  (focus ((try with_reducible apply wpC.to); (repeat' ((conv => whnf); first | refine byEv ?_ | fail)); all_goals ((conv => whnf); try with_reducible apply At.mk)))
  apply q_callw
  focus exact pdq_w (r := r) (f := f) byOm (fun h0 => ⟨(hlr h0).1, by have := (hlr h0).2; (exact byOm)⟩) hn (fun h0 => (k h0).frame (get_of fun y hy => by have := hlr h0; (exact byGet))) inj
  rintro _ h3 ⟨f', a1, a2, a3, a4, a5⟩ q3
  (focus ((try with_reducible apply wpC.to); (repeat' ((conv => whnf); first | refine byEv ?_ | fail)); all_goals ((conv => whnf); try with_reducible apply At.mk)))
  (refine byFin ?_)
  exact ⟨f', a1, a2, fun h0 => (a3 h0).frame rfl, byOm, fun q hq1 hq2 => (a5 q byOm hq2).trans (get_of fun y hy => byGet)⟩
end AE.Try
