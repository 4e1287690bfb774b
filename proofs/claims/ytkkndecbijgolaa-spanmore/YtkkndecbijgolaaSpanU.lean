/- Walks of span: is a proof one. -/
import Derived.Test.YtkkndecbijgolaaSpanT
set_option linter.unusedVariables false
set_option linter.unusedSimpArgs false
set_option linter.unusedSectionVars false
namespace AE.Try
open Go AE Go.Proofs AE.Sp
set_option maxRecDepth 100000
set_option linter.unusedVariables false

/-- A side of a proof that is in range. -/
def PS.Good (x : PS) (n : Nat) : Prop := (0 ≤ x.r ∧ x.r < n) ∧ 1 ≤ x.t ∧ x.t ≤ 1000000
instance (x : PS) (n : Nat) : Decidable (x.Good n) := inferInstanceAs (Decidable (_ ∧ _))
theorem badSide_w {h : H} {L : Runs} {x : PS} {r : Nat} (hr : r < h.next) (hg : h.get r = some (.cells [.slice L.b L.n L.c] 22)) (ln : L.n ≤ 12) : AW Try.prog 56 h.next h [.agg ⟨x.cells⟩, .pointer (some ⟨r, 0, none⟩)] (fun v _ => v = .bool (decide (¬ x.Good L.n))) := by
  refine fun56.call rfl (Nat.le_refl _) ?_
  unfold a56 PS.cells
  (focus ((try with_reducible apply wpC.to); (repeat' ((conv => whnf); first | refine byEv ?_ | (apply Fork.mk <;> (intro _; try (exfalso; omega))) | ((first | refine kSpanB1 ?_ | refine kSpanB0 ?_); first | ((first | apply q_allD | apply q_alli | apply q_allB) <;> intro _ _ _ _ <;> try contradiction) | (apply q_allv; intro _ _ _)) | fail)); all_goals ((conv => whnf); try with_reducible apply At.mk)))
  all_goals (refine byFin ?_)
  all_goals first | exact bool_t rfl (fun k => by obtain ⟨⟨k1, k2⟩, k3, k4⟩ := k; omega) | exact bool_f rfl (fun k => k ⟨⟨by omega, by omega⟩, by omega, by omega⟩)

def PSs.Goods (P : PSs) (n : Nat) : Prop := ∀ i, i < P.n → (P.f i).Good n
def PSs.sum (P : PSs) (L : Runs) : Sd := sumOf L ((List.range P.n).map P.f)
open Classical in
/-- The error of a proof. -/
noncomputable def Runs.cerr (L : Runs) (p q : Int) (P : PSs) (tm : Int) : Int := if L.err2 p q ≠ 0 then L.err2 p q else if 24 < P.n then 6 else if ¬ (P.Goods L.n ∧ 1 ≤ tm ∧ tm ≤ 1099511627776) then 3 else if ¬ ((P.sum L).u = tm * p ∧ (P.sum L).v = tm * q) then 14 else 0
noncomputable def Runs.cval (L : Runs) (p q : Int) (P : PSs) (tm : Int) : Fr := if L.cerr p q P tm = 0 then fr (P.sum L).w tm else ⟨0, 0⟩
theorem sdOf_up {L : Runs} (lv : L.Val) {x : PS} (h : x.Good L.n) : (sdOf L x).Up 20 100000 := by
  unfold sdOf
  obtain ⟨⟨h1, h2⟩, -⟩ := h
  split
  · exact (lv _ (by omega)).upper
  · exact (lv _ (by omega)).lower
theorem by_upI {s : Sd} (k : s.Up 20 100000) {n : Int} (hn : 1 ≤ n ∧ n ≤ 1000000) : (s.by n).Up 20000000 100000000000 := by
  have b1 := mul_bnd (b := n) (B := 1000000) k.u.1 k.u.2 (by omega) (by omega)
  have b2 := mul_bnd (b := n) (B := 1000000) k.v.1 k.v.2 (by omega) (by omega)
  have b3 := mul_bnd (b := n) (B := 1000000) k.w.1 k.w.2 (by omega) (by omega)
  exact ⟨by unfold Sd.by; dsimp only; omega, by unfold Sd.by; dsimp only; omega, by unfold Sd.by; dsimp only; omega⟩
theorem sumOf_add (L : Runs) (l : List PS) (x : PS) : sumOf L (l ++ [x]) = (sumOf L l).add ((sdOf L x).by x.t) := by simp [sumOf]
def PSs.part (P : PSs) (L : Runs) (s : Nat) : Sd := sumOf L ((List.range s).map P.f)
theorem PSs.part_succ (P : PSs) (L : Runs) (s : Nat) : P.part L (s + 1) = (P.part L s).add ((sdOf L (P.f s)).by (P.f s).t) := by
  unfold PSs.part
  rw [List.range_succ, List.map_append, List.map_cons, List.map_nil, sumOf_add]

theorem kSpanU0 {G G' : Prop} (g : G') (t : G' → G := by ((apply q_call); (focus exact byNext); (focus exact byLo); (focus ((apply by_w (F := 20) (W := 100000) (N := 1000000); (focus assumption); (focus omega); (focus decide); (focus decide)))))) : G := t g
set_option maxHeartbeats 8000000 in
theorem checkProof_w {h : H} {L : Runs} {P : PSs} {m : Nat} {p q tm : Int} (hm : m ≤ h.next) (hL : L.Ok m h) (hP : P.Ok m h) : AW Try.prog 26 h.next h [.slice L.b L.n L.c, .int .i64 p, .int .i64 q, .agg ⟨[.slice P.b P.n P.c, .int .i64 tm]⟩] (fun v _ => v = .tuple #[.agg ⟨(L.cval p q P tm).cells⟩, .int .i64 (L.cerr p q P tm)]) := by
  have fin : ∀ e, L.cerr p q P tm = e → e ≠ 0 → Value.tuple #[.agg ⟨[.int .i64 0, .int .i64 0]⟩, .int .i64 e] = .tuple #[.agg ⟨(L.cval p q P tm).cells⟩, .int .i64 (L.cerr p q P tm)] := fun e h1 h2 => by
    unfold Runs.cval
    rw [h1, if_neg h2]; rfl
  have b1 : L.err2 p q ≠ 0 → L.cerr p q P tm = L.err2 p q := fun h => by unfold Runs.cerr; rw [if_pos h]
  have b2 : L.err2 p q = 0 → 24 < P.n → L.cerr p q P tm = 6 := fun h h' => by unfold Runs.cerr; rw [if_neg (by omega), if_pos h']
  have b3 : L.err2 p q = 0 → P.n ≤ 24 → ¬ (P.Goods L.n ∧ 1 ≤ tm ∧ tm ≤ 1099511627776) → L.cerr p q P tm = 3 := fun h h' h'' => by unfold Runs.cerr; rw [if_neg (by omega), if_neg (by omega), if_pos h'']
  have b4 : L.err2 p q = 0 → P.n ≤ 24 → (P.Goods L.n ∧ 1 ≤ tm ∧ tm ≤ 1099511627776) → ¬ ((P.sum L).u = tm * p ∧ (P.sum L).v = tm * q) → L.cerr p q P tm = 14 := fun h h' h'' h3 => by unfold Runs.cerr; rw [if_neg (by omega), if_neg (by omega), if_neg (fun k => k h''), if_pos h3]
  have b5 : L.err2 p q = 0 → P.n ≤ 24 → (P.Goods L.n ∧ 1 ≤ tm ∧ tm ≤ 1099511627776) → ((P.sum L).u = tm * p ∧ (P.sum L).v = tm * q) → L.cerr p q P tm = 0 := fun h h' h'' h3 => by unfold Runs.cerr; rw [if_neg (by omega), if_neg (by omega), if_neg (fun k => k h''), if_neg (fun k => k h3)]
  obtain ⟨pe, pi, pr, pl⟩ := id hP
  refine fun26.call rfl (Nat.le_refl _) ?_
  unfold a26
  (focus ((try with_reducible apply wpC.to); (repeat' ((conv => whnf); first | refine byEv ?_ | (apply Fork.mk <;> (intro _; try (exfalso; omega))) | ((first | refine kSpanU0 ?_ | refine kSpanQ0 ?_ | refine kSpanH2 ?_ | refine kSpanG0 ?_ | refine kSpanF0 ?_ | refine kSpanB1 ?_ | refine kSpanB0 ?_); first | ((first | apply q_allD | apply q_alli | apply q_allB) <;> intro _ _ _ _ <;> try contradiction) | (apply q_allv; intro _ _ _)) | refine xSpanC0 ?_ | refine xSpanB1 ?_ | refine xSpanB0 ?_ | fail)); all_goals ((conv => whnf); try with_reducible apply At.mk)))
  · (refine byFin ?_)
    exact (fin _ (b1 (by assumption)) (by assumption)) ▸ (congrArg (fun e => Value.tuple #[.agg ⟨[.int .i64 0, .int .i64 0]⟩, .int .i64 e]) rfl)
  · (refine byFin ?_)
    exact fin 6 (b2 (by assumption) (by omega)) (by decide)
  have e0 : L.err2 p q = 0 := by assumption
  have pn : P.n ≤ 24 := by omega
  obtain ⟨e1, fac⟩ := Runs.err2_0 e0
  obtain ⟨ln, lv⟩ := L.err_0 e1
  apply q_callB
  focus (exact byNext)
  focus (exact byLo)
  focus
    refine anyPSs_w (m := m) (p := fun i => decide ¬ (P.f i).Good L.n) byOm (hP.same bySame (Nat.le_refl _)) fun i k1 hi qq => ?_
    have hn := qq.next
    simp only [put_next, bump_next] at hn
    exact acall_of (badSide_w (h := k1) (L := L) (x := P.f i) (r := h.next) byOm ((qq.same _ byOm).trans byGet) ln) rfl
  · intro hb h2 q2 n2
    obtain ⟨i, hi, h3⟩ := of_decide_eq_true hb
    have h3 := of_decide_eq_true h3
    (focus ((try with_reducible apply wpC.to); (repeat' ((conv => whnf); first | refine byEv ?_ | (apply Fork.mk <;> (intro _; try (exfalso; omega))) | ((first | refine kSpanU0 ?_ | refine kSpanQ0 ?_ | refine kSpanH2 ?_ | refine kSpanG0 ?_ | refine kSpanF0 ?_ | refine kSpanB1 ?_ | refine kSpanB0 ?_); first | ((first | apply q_allD | apply q_alli | apply q_allB) <;> intro _ _ _ _ <;> try contradiction) | (apply q_allv; intro _ _ _)) | refine xSpanC0 ?_ | refine xSpanB1 ?_ | refine xSpanB0 ?_ | fail)); all_goals ((conv => whnf); try with_reducible apply At.mk)))
    all_goals (refine byFin ?_)
    all_goals exact fin 3 (b3 e0 pn fun k => h3 (k.1 i hi)) (by decide)
  · intro hb h2 q2 n2
    have := of_decide_eq_false hb
    have gs : P.Goods L.n := fun i hi => Classical.byContradiction fun h => this ⟨i, hi, decide_eq_true h⟩
    clear hb this
    (focus ((try with_reducible apply wpC.to); (repeat' ((conv => whnf); first | refine byEv ?_ | (apply Fork.mk <;> (intro _; try (exfalso; omega))) | ((first | refine kSpanU0 ?_ | refine kSpanQ0 ?_ | refine kSpanH2 ?_ | refine kSpanG0 ?_ | refine kSpanF0 ?_ | refine kSpanB1 ?_ | refine kSpanB0 ?_); first | ((first | apply q_allD | apply q_alli | apply q_allB) <;> intro _ _ _ _ <;> try contradiction) | (apply q_allv; intro _ _ _)) | refine xSpanC0 ?_ | refine xSpanB1 ?_ | refine xSpanB0 ?_ | fail)); all_goals ((conv => whnf); try with_reducible apply At.mk)))
    rotate_left
    · (refine byFin ?_)
      exact fin 3 (b3 e0 pn fun k => by have := k.2; contradiction) (by decide)
    rename_i hw qw nw ht
    refine wp_loop (fun s : Nat => [(1, .int .i64 p), (2, .int .i64 q), (4, .pointer (some ⟨h.next, 0, none⟩)), (7, .pointer (some ⟨h.next + 1, 0, none⟩)), (8, .pointer (some ⟨h.next + 2, 0, none⟩)), (12, .pointer (some ⟨hw.next, 0, none⟩)), (45, .slice P.b P.n P.c), (46, .int .i64 P.n), (47, .int .i64 s)])
      (fun s h1 => h1.get h.next = some (.cells [.slice L.b L.n L.c] 22) ∧ h1.get (h.next + 1) = some (.cells [.slice P.b P.n P.c, .int .i64 tm] 33) ∧ h1.get (h.next + 2) = some (.cells [.int .i64 0, .int .i64 0] 38) ∧ h1.get (hw.next) = some (.cells [.int .i64 (P.part L s).u, .int .i64 (P.part L s).v, .int .i64 (P.part L s).w] 80) ∧ Same m h h1 ∧ hw.next + 1 ≤ h1.next ∧ s ≤ P.n ∧ (P.part L s).Up (20000000 * s) (100000000000 * s)) (fun s => P.n - s) 0 ⟨rfl, rfl, rfl, rfl, rfl, rfl, rfl, rfl, rfl, trivial⟩ ⟨byGet, byGet, byGet, byGet, bySame, byOm, by omega, ⟨by show _ ≤ (0 : Int) ∧ (0 : Int) ≤ _; omega, by show _ ≤ (0 : Int) ∧ (0 : Int) ≤ _; omega, by show _ ≤ (0 : Int) ∧ (0 : Int) ≤ _; omega⟩⟩ ?_
    rintro s g h3 ⟨x0, x1, x2, x3, sm, n3, hs, up⟩ K hK
    by_cases hsn : s < P.n
    · obtain ⟨le, li, lr, ll⟩ := id hL
      have gd := gs s hsn
      obtain ⟨⟨gr1, gr2⟩, gt⟩ := id gd
      have li5 := li.same sm lr
      have pi5 := pi.same sm pr
      have pr' := pr (by omega)
      have lr' := lr (by omega)
      have tv := lv (P.f s).r.toNat (by omega)
      have tvl := tv.lower
      have tvu := tv.upper
      unfold PS.cells at pi5
      unfold Run.cells at li5
      have nw' := nw
      have xr : (P.f s).r.toNat < L.n := by omega
      have su := by_upI (sdOf_up lv gd) gt
      have up1 : (P.part L s).Up 480000000 2400000000000 := up.mono (by omega) (by omega)
      have su1 := su.mono (F' := 480000000) (W' := 2400000000000) (by decide) (by decide)
      cases hup : (P.f s).up
      · have es : sdOf L (P.f s) = (L.f (P.f s).r.toNat).lower := by unfold sdOf; rw [hup]; rfl
        have eq := P.part_succ L s
        rw [es] at su1 su eq
        (focus ((try with_reducible apply wpC.to); (repeat' ((conv => whnf); first | refine byEv ?_ | (apply Fork.mk <;> (intro _; try (exfalso; omega))) | ((first | refine kSpanU0 ?_ | refine kSpanQ0 ?_ | refine kSpanH2 ?_ | refine kSpanG0 ?_ | refine kSpanF0 ?_ | refine kSpanB1 ?_ | refine kSpanB0 ?_); first | ((first | apply q_allD | apply q_alli | apply q_allB) <;> intro _ _ _ _ <;> try contradiction) | (apply q_allv; intro _ _ _)) | refine xSpanC0 ?_ | refine xSpanB1 ?_ | refine xSpanB0 ?_ | fail)); all_goals ((conv => whnf); try with_reducible apply At.mk)))
        rw [hup]
        (focus ((try with_reducible apply wpC.to); (repeat' ((conv => whnf); first | refine byEv ?_ | (apply Fork.mk <;> (intro _; try (exfalso; omega))) | ((first | refine kSpanU0 ?_ | refine kSpanQ0 ?_ | refine kSpanH2 ?_ | refine kSpanG0 ?_ | refine kSpanF0 ?_ | refine kSpanB1 ?_ | refine kSpanB0 ?_); first | ((first | apply q_allD | apply q_alli | apply q_allB) <;> intro _ _ _ _ <;> try contradiction) | (apply q_allv; intro _ _ _)) | refine xSpanC0 ?_ | refine xSpanB1 ?_ | refine xSpanB0 ?_ | fail)); all_goals ((conv => whnf); try with_reducible apply At.mk)))
        apply q_callv
        focus (exact byNext)
        focus (exact byLo)
        focus exact sum2_w (a := P.part L s) (b := (L.f (P.f s).r.toNat).lower.by (P.f s).t) (F := 480000000) (W := 2400000000000) (e := 80) up1 su1 (by decide) (by decide) byGet byOm
        intro h7 q7 n7
        unfold Sd.cells
        (focus ((try with_reducible apply wpC.to); (repeat' ((conv => whnf); first | refine byEv ?_ | (apply Fork.mk <;> (intro _; try (exfalso; omega))) | ((first | refine kSpanU0 ?_ | refine kSpanQ0 ?_ | refine kSpanH2 ?_ | refine kSpanG0 ?_ | refine kSpanF0 ?_ | refine kSpanB1 ?_ | refine kSpanB0 ?_); first | ((first | apply q_allD | apply q_alli | apply q_allB) <;> intro _ _ _ _ <;> try contradiction) | (apply q_allv; intro _ _ _)) | refine xSpanC0 ?_ | refine xSpanB1 ?_ | refine xSpanB0 ?_ | fail)); all_goals ((conv => whnf); try with_reducible apply At.mk)))
        refine hK (s + 1) _ _ ⟨rfl, rfl, rfl, rfl, rfl, rfl, rfl, rfl, int_of rfl (by omega), trivial⟩ ⟨byGet, byGet, byGet, by rw [eq]; (exact byGet), bySame, byOm, by omega, ?_⟩ (by omega)
        rw [eq]
        obtain ⟨u1, u2, u3⟩ := up
        obtain ⟨w1, w2, w3⟩ := su
        exact ⟨by unfold Sd.add; dsimp only; omega, by unfold Sd.add; dsimp only; omega, by unfold Sd.add; dsimp only; omega⟩
      · have es : sdOf L (P.f s) = (L.f (P.f s).r.toNat).upper := by unfold sdOf; rw [hup]; rfl
        have eq := P.part_succ L s
        rw [es] at su1 su eq
        (focus ((try with_reducible apply wpC.to); (repeat' ((conv => whnf); first | refine byEv ?_ | (apply Fork.mk <;> (intro _; try (exfalso; omega))) | ((first | refine kSpanU0 ?_ | refine kSpanQ0 ?_ | refine kSpanH2 ?_ | refine kSpanG0 ?_ | refine kSpanF0 ?_ | refine kSpanB1 ?_ | refine kSpanB0 ?_); first | ((first | apply q_allD | apply q_alli | apply q_allB) <;> intro _ _ _ _ <;> try contradiction) | (apply q_allv; intro _ _ _)) | refine xSpanC0 ?_ | refine xSpanB1 ?_ | refine xSpanB0 ?_ | fail)); all_goals ((conv => whnf); try with_reducible apply At.mk)))
        rw [hup]
        (focus ((try with_reducible apply wpC.to); (repeat' ((conv => whnf); first | refine byEv ?_ | (apply Fork.mk <;> (intro _; try (exfalso; omega))) | ((first | refine kSpanU0 ?_ | refine kSpanQ0 ?_ | refine kSpanH2 ?_ | refine kSpanG0 ?_ | refine kSpanF0 ?_ | refine kSpanB1 ?_ | refine kSpanB0 ?_); first | ((first | apply q_allD | apply q_alli | apply q_allB) <;> intro _ _ _ _ <;> try contradiction) | (apply q_allv; intro _ _ _)) | refine xSpanC0 ?_ | refine xSpanB1 ?_ | refine xSpanB0 ?_ | fail)); all_goals ((conv => whnf); try with_reducible apply At.mk)))
        apply q_callv
        focus (exact byNext)
        focus (exact byLo)
        focus exact sum2_w (a := P.part L s) (b := (L.f (P.f s).r.toNat).upper.by (P.f s).t) (F := 480000000) (W := 2400000000000) (e := 80) up1 su1 (by decide) (by decide) byGet byOm
        intro h7 q7 n7
        unfold Sd.cells
        (focus ((try with_reducible apply wpC.to); (repeat' ((conv => whnf); first | refine byEv ?_ | (apply Fork.mk <;> (intro _; try (exfalso; omega))) | ((first | refine kSpanU0 ?_ | refine kSpanQ0 ?_ | refine kSpanH2 ?_ | refine kSpanG0 ?_ | refine kSpanF0 ?_ | refine kSpanB1 ?_ | refine kSpanB0 ?_); first | ((first | apply q_allD | apply q_alli | apply q_allB) <;> intro _ _ _ _ <;> try contradiction) | (apply q_allv; intro _ _ _)) | refine xSpanC0 ?_ | refine xSpanB1 ?_ | refine xSpanB0 ?_ | fail)); all_goals ((conv => whnf); try with_reducible apply At.mk)))
        refine hK (s + 1) _ _ ⟨rfl, rfl, rfl, rfl, rfl, rfl, rfl, rfl, int_of rfl (by omega), trivial⟩ ⟨byGet, byGet, byGet, by rw [eq]; (exact byGet), bySame, byOm, by omega, ?_⟩ (by omega)
        rw [eq]
        obtain ⟨u1, u2, u3⟩ := up
        obtain ⟨w1, w2, w3⟩ := su
        exact ⟨by unfold Sd.add; dsimp only; omega, by unfold Sd.add; dsimp only; omega, by unfold Sd.add; dsimp only; omega⟩
    · obtain rfl : s = P.n := by omega
      have es : P.part L P.n = P.sum L := rfl
      have hW : (⟨p, q, 0⟩ : Sd).Up 20 0 := ⟨fac.1, fac.2, by dsimp only; omega⟩
      have up1 : (P.part L P.n).Up 30000000000000 3000000000000 := up.mono (by omega) (by omega)
      have c1 := mul_bnd (b := -tm) (B := 1099511627776) fac.1.1 fac.1.2 (by omega) (by omega)
      have c2 := mul_bnd (b := -tm) (B := 1099511627776) fac.2.1 fac.2.2 (by omega) (by omega)
      have up2 : ((⟨p, q, 0⟩ : Sd).by (-tm)).Up 30000000000000 3000000000000 := ⟨by unfold Sd.by; dsimp only; omega, by unfold Sd.by; dsimp only; omega, by unfold Sd.by; dsimp only; omega⟩
      have upw := up1.w
      (focus ((try with_reducible apply wpC.to); (repeat' ((conv => whnf); first | refine byEv ?_ | (apply Fork.mk <;> (intro _; try (exfalso; omega))) | ((first | refine kSpanU0 ?_ | refine kSpanQ0 ?_ | refine kSpanH2 ?_ | refine kSpanG0 ?_ | refine kSpanF0 ?_ | refine kSpanB1 ?_ | refine kSpanB0 ?_); first | ((first | apply q_allD | apply q_alli | apply q_allB) <;> intro _ _ _ _ <;> try contradiction) | (apply q_allv; intro _ _ _)) | refine xSpanC0 ?_ | refine xSpanB1 ?_ | refine xSpanB0 ?_ | fail)); all_goals ((conv => whnf); try with_reducible apply At.mk)))
      apply q_callv
      focus (exact byNext)
      focus (exact byLo)
      focus exact by_w (s := ⟨p, q, 0⟩) (F := 20) (W := 0) (N := 1099511627776) hW (by omega) (by decide) (by decide)
      intro h7 q7 n7
      unfold Sd.cells
      (focus ((try with_reducible apply wpC.to); (repeat' ((conv => whnf); first | refine byEv ?_ | (apply Fork.mk <;> (intro _; try (exfalso; omega))) | ((first | refine kSpanU0 ?_ | refine kSpanQ0 ?_ | refine kSpanH2 ?_ | refine kSpanG0 ?_ | refine kSpanF0 ?_ | refine kSpanB1 ?_ | refine kSpanB0 ?_); first | ((first | apply q_allD | apply q_alli | apply q_allB) <;> intro _ _ _ _ <;> try contradiction) | (apply q_allv; intro _ _ _)) | refine xSpanC0 ?_ | refine xSpanB1 ?_ | refine xSpanB0 ?_ | fail)); all_goals ((conv => whnf); try with_reducible apply At.mk)))
      apply q_callv
      focus (exact byNext)
      focus (exact byLo)
      focus exact sum2_w (a := P.part L P.n) (b := (⟨p, q, 0⟩ : Sd).by (-tm)) (F := 30000000000000) (W := 3000000000000) (e := 80) up1 up2 (by decide) (by decide) byGet byOm
      intro h8 q8 n8
      (focus ((try with_reducible apply wpC.to); (repeat' ((conv => whnf); first | refine byEv ?_ | (apply Fork.mk <;> (intro _; try (exfalso; omega))) | ((first | refine kSpanU0 ?_ | refine kSpanQ0 ?_ | refine kSpanH2 ?_ | refine kSpanG0 ?_ | refine kSpanF0 ?_ | refine kSpanB1 ?_ | refine kSpanB0 ?_); first | ((first | apply q_allD | apply q_alli | apply q_allB) <;> intro _ _ _ _ <;> try contradiction) | (apply q_allv; intro _ _ _)) | refine xSpanC0 ?_ | refine xSpanB1 ?_ | refine xSpanB0 ?_ | fail)); all_goals ((conv => whnf); try with_reducible apply At.mk)))
      by_cases hP : (P.part L P.n).u + p * -tm = 0 ∧ (P.part L P.n).v + q * -tm = 0
      · refine OpE.pure (.bool false) (xPure_neq (A := ⟨(((P.part L P.n).add ((⟨p, q, 0⟩ : Sd).by (-tm))).flat).cells⟩) (B := ⟨(⟨0, 0, 0⟩ : Sd).cells⟩) rfl rfl rfl rfl rfl (by kernel_rfl) ((eql_sd ((P.part L P.n).add ((⟨p, q, 0⟩ : Sd).by (-tm))).flat ⟨0, 0, 0⟩).trans (congrArg some (decide_eq_true ⟨hP.1, hP.2, rfl⟩)))) ?_
        have hP2 : (P.sum L).u = tm * p ∧ (P.sum L).v = tm * q := by
          rw [← es, Int.mul_comm tm, Int.mul_comm tm]
          have h1 := hP.1
          have h2 := hP.2
          rw [Int.mul_neg] at h1 h2
          omega
        have ec := b5 e0 pn ⟨gs, ht⟩ hP2
        (focus ((try with_reducible apply wpC.to); (repeat' ((conv => whnf); first | refine byEv ?_ | (apply Fork.mk <;> (intro _; try (exfalso; omega))) | ((first | refine kSpanU0 ?_ | refine kSpanQ0 ?_ | refine kSpanH2 ?_ | refine kSpanG0 ?_ | refine kSpanF0 ?_ | refine kSpanB1 ?_ | refine kSpanB0 ?_); first | ((first | apply q_allD | apply q_alli | apply q_allB) <;> intro _ _ _ _ <;> try contradiction) | (apply q_allv; intro _ _ _)) | refine xSpanC0 ?_ | refine xSpanB1 ?_ | refine xSpanB0 ?_ | fail)); all_goals ((conv => whnf); try with_reducible apply At.mk)))
        apply q_callv
        focus (exact byNext)
        focus (exact byLo)
        focus exact ratio_w (by omega) (by omega)
        intro h9 q9 n9
        (focus ((try with_reducible apply wpC.to); (repeat' ((conv => whnf); first | refine byEv ?_ | (apply Fork.mk <;> (intro _; try (exfalso; omega))) | ((first | refine kSpanU0 ?_ | refine kSpanQ0 ?_ | refine kSpanH2 ?_ | refine kSpanG0 ?_ | refine kSpanF0 ?_ | refine kSpanB1 ?_ | refine kSpanB0 ?_); first | ((first | apply q_allD | apply q_alli | apply q_allB) <;> intro _ _ _ _ <;> try contradiction) | (apply q_allv; intro _ _ _)) | refine xSpanC0 ?_ | refine xSpanB1 ?_ | refine xSpanB0 ?_ | fail)); all_goals ((conv => whnf); try with_reducible apply At.mk)))
        (refine byFin ?_)
        unfold Runs.cval
        rw [ec, if_pos rfl, ← es]; rfl
      · refine OpE.pure (.bool true) (xPure_neq (A := ⟨(((P.part L P.n).add ((⟨p, q, 0⟩ : Sd).by (-tm))).flat).cells⟩) (B := ⟨(⟨0, 0, 0⟩ : Sd).cells⟩) rfl rfl rfl rfl rfl (by kernel_rfl) ((eql_sd ((P.part L P.n).add ((⟨p, q, 0⟩ : Sd).by (-tm))).flat ⟨0, 0, 0⟩).trans (congrArg some (decide_eq_false fun k => hP ⟨k.1, k.2.1⟩)))) ?_
        (focus ((try with_reducible apply wpC.to); (repeat' ((conv => whnf); first | refine byEv ?_ | (apply Fork.mk <;> (intro _; try (exfalso; omega))) | ((first | refine kSpanU0 ?_ | refine kSpanQ0 ?_ | refine kSpanH2 ?_ | refine kSpanG0 ?_ | refine kSpanF0 ?_ | refine kSpanB1 ?_ | refine kSpanB0 ?_); first | ((first | apply q_allD | apply q_alli | apply q_allB) <;> intro _ _ _ _ <;> try contradiction) | (apply q_allv; intro _ _ _)) | refine xSpanC0 ?_ | refine xSpanB1 ?_ | refine xSpanB0 ?_ | fail)); all_goals ((conv => whnf); try with_reducible apply At.mk)))
        (refine byFin ?_)
        refine fin 14 (b4 e0 pn ⟨gs, ht⟩ fun k => hP ?_) (by decide)
        rw [← es] at k
        obtain ⟨k1, k2⟩ := k
        rw [k1, k2, Int.mul_neg, Int.mul_neg, Int.mul_comm p, Int.mul_comm q]
        omega
end AE.Try
