/- Walks of span: corners. -/
import Derived.Test.YtkkndecbijgolaaSpanN
import Derived.Test.YtkkndecbijgolaaAEthree
set_option linter.unusedVariables false
set_option linter.unusedSimpArgs false
set_option linter.unusedSectionVars false
namespace AE
open Go Go.RowKit
section
variable {P : Program} {lo nid : Nat} {ts : Ts} {h : H} {k : Value → H → Prop}
/-- Up to l. -/
theorem q_slto {sz n c l : Nat} {x hi' : Opd} {a : Addr} {k1 : IntKind} (hx : ev ts x = .slice (some a) n c) (hh : ev ts hi' = .int k1 (l : Int)) (hs : a.spot = none) (h1 : l ≤ c) (h0 : 0 < c) (hf : c < far)
    (hr : k (.slice (some a) l c) h) : OpE P lo nid ts h (.slsl sz x none (some hi') none) k := by
  have n1 : natOf? (ev ts hi') = some l := by rw [hh]; simp [natOf?]
  refine OpE.mk (h' := h) (v := .slice (some (slAddr a 0 c sz)) (l - 0) (c - 0)) ?_ ?_
  · simp [aop, slsl, hx, hs, slKnown, evO, optNat, n1, enc1, keep, Nat.not_le.2 hf, hf]
    omega
  · have e : slAddr a 0 c sz = a := by
      unfold slAddr; rw [if_neg (by omega), Nat.zero_mul]; simp [aadd]
    rw [e]
    exact hr
/-- A copy of a list into a row of that length. -/
theorem q_copyE {sz r n cd cs : Nat} {e : TypeId} {dd s : Opd} {b : Option Addr} {a : Addr} {c : List Value} {f : Nat → List Value} (hd : ev ts dd = .slice (some ⟨r, 0, none⟩) n cd) (hs : ev ts s = .slice b n cs) (hb : 0 < n → b = some a) (hi : Els h a n sz f) (hf : ∀ i, (f i).length = sz) (ho : ∀ i, (f i).all Value.oneCell' = true) (hn : 0 < n)
    (hget : h.get r = some (.cells c e)) (hlen : c.length = n * sz) (hlo : lo ≤ r) (hfd : cd < far) (hfs : cs < far) (hr : k (.int .i64 n) (h.put r (.cells (rowsOf f n) e))) : OpE P lo nid ts h (.copy sz dd s) k :=
  OpE.mk (by
    obtain rfl := hb hn
    have hall := hi.all hn n hn (Nat.le_refl _)
    have hlr := rowsOf_len hf n
    have hst : h.storeN lo ⟨r, 0, none⟩ (rowsOf f n) = some (h.put r (.cells (rowsOf f n) e)) := by
      unfold H.storeN
      rw [if_pos ⟨hlo, rows_one ho n⟩]
      have hsp : splice c 0 (rowsOf f n) = rowsOf f n := by
        unfold splice
        rw [hlr]
        simp [hlen]
      simp [hget, storeRow, hlr, hlen, hsp]
    have hn0 : n ≠ 0 := by omega
    simp [aop, xCopy, hd, hs, alenOf, acells, hall, hn0, hst, Nat.not_le.2 hfd, Nat.not_le.2 hfs]) hr
end
end AE
namespace AE.Try
open Go AE Go.Proofs AE.Sp
set_option maxRecDepth 100000
set_option linter.unusedVariables false

theorem rowsOf_cut {f : Nat → List Value} {n sz : Nat} (hf : ∀ i, (f i).length = sz) : cut (rowsOf f n) 0 (n * sz) = some (rowsOf f n) := by
  have h := rowsOf_len hf n
  unfold cut
  rw [if_pos (by omega), ← h]
  simp
/-- The truths where lines meet, those nearest to 0 and 0, or, without runs, 0 and 0. -/
def CornerOf (T : Tab) (t : Tru) : Prop := (T.n = 0 ∧ t = ⟨0, 0, 1⟩) ∨ (∃ i, i < 2 * T.n ∧ t = nr (T.S i)) ∨ ∃ i j, (i < 2 * T.n ∧ j < 2 * T.n) ∧ 0 < cr (T.S i) (T.S j) ∧ t = vx (T.S i) (T.S j)
def CDone (T : Tab) (l : List Tru) (i j : Nat) : Prop := ∀ j', j' < j → (0 < cr (T.S i) (T.S j') → vx (T.S i) (T.S j') ∈ l) ∧ (0 < cr (T.S j') (T.S i) → vx (T.S j') (T.S i) ∈ l)
def CDone1 (T : Tab) (l : List Tru) (i : Nat) : Prop := ∀ i', i' < i → nr (T.S i') ∈ l ∧ CDone T l i' i'
theorem CDone.add {T : Tab} {l : List Tru} {i j : Nat} {t : Tru} (k : CDone T l i j) : CDone T (l ++ [t]) i j := fun j' h => ⟨fun hc => List.mem_append_left _ ((k j' h).1 hc), fun hc => List.mem_append_left _ ((k j' h).2 hc)⟩
theorem CDone1.add {T : Tab} {l : List Tru} {i : Nat} {t : Tru} (k : CDone1 T l i) : CDone1 T (l ++ [t]) i := fun i' h => ⟨List.mem_append_left _ (k i' h).1, (k i' h).2.add⟩
theorem cr_self (a : Sd) : cr a a = 0 := by unfold cr; rw [Int.mul_comm a.v a.u]; omega
theorem CDone1.all {T : Tab} {l : List Tru} (k : CDone1 T l (2 * T.n)) (h0 : T.n ≠ 0) {t : Tru} (h : CornerOf T t) : t ∈ l := by
  rcases h with ⟨h, -⟩ | ⟨i, hi, rfl⟩ | ⟨i, j, ⟨hi, hj⟩, hc, rfl⟩
  · exact absurd h h0
  · exact (k i hi).1
  · rcases Nat.lt_trichotomy i j with h | h | h
    · exact ((k j hj).2 i h).2 hc
    · subst h; rw [cr_self] at hc; exact absurd hc (by omega)
    · exact ((k i hi).2 j h).1 hc
theorem dt_side (f : Nat → Run) (i : Nat) : dt (sides f i) (sides f i) = (f (i / 2)).p * (f (i / 2)).p + (f (i / 2)).q * (f (i / 2)).q := by
  unfold sides dt
  split
  · rfl
  · unfold Run.upper; dsimp only; rw [Int.neg_mul_neg, Int.neg_mul_neg]

set_option maxHeartbeats 8000000 in
theorem corners_w {h : H} {T : Tab} {m lo r1 : Nat} {yv : Value} (hlo : lo ≤ h.next) (hT : T.Ok m h) (hm : m ≤ h.next) (g1 : h.get r1 = some (.cells [.pointer (some ⟨T.r, 0, none⟩)] 84)) (b1 : r1 < h.next)
    (Inv : List Tru → H → Prop) (Fin : H → Prop) (hI : ∀ l h1, Inv l h1 → h1.get r1 = h.get r1 ∧ Same m h h1) (hst : ∀ l h1 h2, Inv l h1 → Quiet h1.next h1 h2 → Inv l h2) (hfin : ∀ h1 h2, Fin h1 → Quiet h1.next h1 h2 → Fin h2)
    (hy : ∀ l t h1, CornerOf T t → Inv l h1 → h.next ≤ h1.next → ∃ v h2, (((v = .bool true ∧ Inv (l ++ [t]) h2) ∨ (v = .bool false ∧ Fin h2)) ∧ ∀ r, h.next ≤ r → r < h1.next → h2.get r = h1.get r) ∧ ACall Try.prog yv lo h1 [.agg ⟨t.cells⟩] v h2)
    (h0 : Inv [] h) :
    AW Try.prog 82 lo h [yv, .pointer (some ⟨r1, 0, none⟩)] (fun _ h' => (∃ l, (∀ t, CornerOf T t → t ∈ l) ∧ Inv l h') ∨ Fin h') := by
  have hT0 := hT
  obtain ⟨tg, trr, tpe, tpi, tpr, tse, tsi, tsr, tle, tval, tne⟩ := hT
  refine fun82.call rfl hlo ?_
  unfold a82
  by_cases hn : T.n = 0
  · have tg : h.get T.r = some (.cells [.slice T.pb 0 0, .slice none 0 0] 125) := by rw [tg, tne hn, hn]
    (focus ((try with_reducible apply wpC.to); (repeat' ((conv => whnf); first | refine byEv ?_ | (apply Fork.mk <;> (intro _; try (exfalso; omega))) | ((refine kSpanH1 ?_); first | ((first | apply q_allD | apply q_alli | apply q_allB) <;> intro _ _ _ _ <;> try contradiction) | (apply q_allv; intro _ _ _)) | fail)); all_goals ((conv => whnf); try with_reducible apply At.mk)))
    apply q_calla
    focus exact acall_mono (hy [] ⟨0, 0, 1⟩ _ (.inl ⟨hn, rfl⟩) (hst _ h _ h0 byQuiet) byOm) byOm
    rintro v h2 ⟨⟨rfl, hi2⟩ | ⟨rfl, hf2⟩, fr2⟩ q2
    rotate_left
    · (focus ((try with_reducible apply wpC.to); (repeat' ((conv => whnf); first | refine byEv ?_ | (apply Fork.mk <;> (intro _; try (exfalso; omega))) | ((refine kSpanH1 ?_); first | ((first | apply q_allD | apply q_alli | apply q_allB) <;> intro _ _ _ _ <;> try contradiction) | (apply q_allv; intro _ _ _)) | fail)); all_goals ((conv => whnf); try with_reducible apply At.mk)))
      (refine byFin ?_)
      exact .inr (hfin _ _ hf2 byQuiet)
    have n2 := q2.next
    simp only [put_next, bump_next] at n2
    obtain ⟨gr1, sm⟩ := hI _ _ hi2
    have tg2 := (sm _ trr).trans tg
    have gr1 := gr1.trans g1
    (focus ((try with_reducible apply wpC.to); (repeat' ((conv => whnf); first | refine byEv ?_ | (apply Fork.mk <;> (intro _; try (exfalso; omega))) | ((refine kSpanH1 ?_); first | ((first | apply q_allD | apply q_alli | apply q_allB) <;> intro _ _ _ _ <;> try contradiction) | (apply q_allv; intro _ _ _)) | fail)); all_goals ((conv => whnf); try with_reducible apply At.mk)))
    refine q_mkslice (a := 0) (b := 0) (k1 := .i64) (k2 := .i64) rfl rfl (Nat.le_refl _) (by omega) ?_
    (focus ((try with_reducible apply wpC.to); (repeat' ((conv => whnf); first | refine byEv ?_ | (apply Fork.mk <;> (intro _; try (exfalso; omega))) | ((refine kSpanH1 ?_); first | ((first | apply q_allD | apply q_alli | apply q_allB) <;> intro _ _ _ _ <;> try contradiction) | (apply q_allv; intro _ _ _)) | fail)); all_goals ((conv => whnf); try with_reducible apply At.mk)))
    refine wp_loop (fun _ : Nat => [(38, .int .i64 (0 : Nat)), (39, .int .i64 (0 : Nat))]) (fun _ h1 => Inv ([] ++ [⟨0, 0, 1⟩]) h1) (fun s => s) 0 ⟨rfl, rfl, trivial⟩ (hst _ _ _ hi2 byQuiet) ?_
    rintro s g h3 hi3 K hK
    (focus ((try with_reducible apply wpC.to); (repeat' ((conv => whnf); first | refine byEv ?_ | (apply Fork.mk <;> (intro _; try (exfalso; omega))) | ((refine kSpanH1 ?_); first | ((first | apply q_allD | apply q_alli | apply q_allB) <;> intro _ _ _ _ <;> try contradiction) | (apply q_allv; intro _ _ _)) | fail)); all_goals ((conv => whnf); try with_reducible apply At.mk)))
    (refine byFin ?_)
    refine .inl ⟨_, fun t ht => ?_, hst _ _ _ hi3 byQuiet⟩
    rcases ht with ⟨-, rfl⟩ | ⟨i, hi, -⟩ | ⟨i, j, ⟨hi, -⟩, -⟩
    · simp
    · omega
    · omega
  · have hz : ¬ ((T.n : Nat) : Int) = 0 := by omega
    have h2n : 0 < 2 * T.n := by omega
    have tsr' := tsr h2n
    have tpr' := tpr (by omega)
    have b1' := b1
    (focus ((try with_reducible apply wpC.to); (repeat' ((conv => whnf); first | refine byEv ?_ | (apply Fork.mk <;> (intro _; try (exfalso; omega))) | ((refine kSpanH1 ?_); first | ((first | apply q_allD | apply q_alli | apply q_allB) <;> intro _ _ _ _ <;> try contradiction) | (apply q_allv; intro _ _ _)) | fail)); all_goals ((conv => whnf); try with_reducible apply At.mk)))
    refine q_mkslice (a := 2 * T.n) (b := 2 * T.n) (k1 := .i64) (k2 := .i64) rfl rfl (Nat.le_refl _) (by omega) ?_
    rw [reps_rows]
    (focus ((try with_reducible apply wpC.to); (repeat' ((conv => whnf); first | refine byEv ?_ | (apply Fork.mk <;> (intro _; try (exfalso; omega))) | ((refine kSpanH1 ?_); first | ((first | apply q_allD | apply q_alli | apply q_allB) <;> intro _ _ _ _ <;> try contradiction) | (apply q_allv; intro _ _ _)) | fail)); all_goals ((conv => whnf); try with_reducible apply At.mk)))
    apply q_copyE (a := T.sa) (b := T.sb) (n := 2 * T.n) (f := fun i => (T.S i).cells)
    case hd => exact rfl
    case hs => exact rfl
    case hb => exact tse
    case hi => exact tsi.same (m := m) bySame tsr
    case hf => exact fun _ => rfl
    case ho => exact fun _ => rfl
    case hn => exact h2n
    case hget => (exact byGet)
    case hlen => exact rowsOf_len (fun _ => rfl) _
    case hlo => (exact byOm)
    case hfd => unfold far; omega
    case hfs => unfold far; omega
    (focus ((try with_reducible apply wpC.to); (repeat' ((conv => whnf); first | refine byEv ?_ | (apply Fork.mk <;> (intro _; try (exfalso; omega))) | ((refine kSpanH1 ?_); first | ((first | apply q_allD | apply q_alli | apply q_allB) <;> intro _ _ _ _ <;> try contradiction) | (apply q_allv; intro _ _ _)) | fail)); all_goals ((conv => whnf); try with_reducible apply At.mk)))
    refine wp_loop (fun s : Nat × List Tru => [(0, yv), (1, .pointer (some ⟨r1, 0, none⟩)), (3, .slice (some ⟨h.next + 17, 0, none⟩) (2 * T.n) (2 * T.n)), (37, .slice (some ⟨h.next + 17, 0, none⟩) (2 * T.n) (2 * T.n)), (38, .int .i64 ((2 * T.n : Nat) : Int)), (39, .int .i64 s.1)])
      (fun s h1 => h1.get (h.next + 17) = some (.cells (rowsOf (fun i => (T.S i).cells) (2 * T.n)) 80) ∧ Inv s.2 h1 ∧ h.next + 18 ≤ h1.next ∧ s.1 ≤ 2 * T.n ∧ CDone1 T s.2 s.1) (fun s => 2 * T.n - s.1) (0, []) ⟨rfl, rfl, rfl, rfl, rfl, rfl, trivial⟩ ⟨byGet, hst _ _ _ h0 byQuiet, byOm, by omega, fun i' h => absurd h (Nat.not_lt_zero _)⟩ ?_
    rintro ⟨i, l⟩ g h3 ⟨x3, hi3, n3, hs, dn⟩ K hK
    dsimp only at hi3 hs dn ⊢
    by_cases hin : i < 2 * T.n
    · have e3 : Els h3 ⟨h.next + 17, 0, none⟩ (2 * T.n) 3 (fun i => (T.S i).cells) := rows_els (fun _ => rfl) (loadN_cells x3 (rowsOf_cut fun _ => rfl))
      obtain ⟨gr1, sm3⟩ := hI _ _ hi3
      have gr1 := gr1.trans g1
      have b1' := b1
      have tg3 := (sm3 _ trr).trans tg
      have p3 := tpi.same sm3 tpr
      have tpr' := tpr (by omega)
      have tv := tval (i / 2) (by omega)
      have ui := hT0.up hin
      obtain ⟨tp, tq, -, -, -, -⟩ := tv
      have m1 := mul_bnd ui.u.1 ui.u.2 ui.w.1 ui.w.2
      have m2 := mul_bnd ui.v.1 ui.v.2 ui.w.1 ui.w.2
      have m3 := mul_bnd tp.1 tp.2 tp.1 tp.2
      have m4 := mul_bnd tq.1 tq.2 tq.1 tq.2
      have e2 : ((i : Int) / 2).toNat = i / 2 := by omega
      have edt : dt (T.S i) (T.S i) = _ := dt_side T.f i
      rw [← e2] at m3 m4 edt
      unfold Run.pair Run.cells at p3
      unfold Sd.cells at e3
      (focus ((try with_reducible apply wpC.to); (repeat' ((conv => whnf); first | refine byEv ?_ | (apply Fork.mk <;> (intro _; try (exfalso; omega))) | ((refine kSpanH1 ?_); first | ((first | apply q_allD | apply q_alli | apply q_allB) <;> intro _ _ _ _ <;> try contradiction) | (apply q_allv; intro _ _ _)) | fail)); all_goals ((conv => whnf); try with_reducible apply At.mk)))
      apply q_calla
      rw [← edt]
      focus exact acall_mono (hy l (nr (T.S i)) _ (.inr (.inl ⟨i, hin, rfl⟩)) (hst _ h3 _ hi3 byQuiet) byOm) byOm
      rintro v h4 ⟨⟨rfl, hi4⟩ | ⟨rfl, hf4⟩, fr4⟩ q4
      rotate_left
      · (focus ((try with_reducible apply wpC.to); (repeat' ((conv => whnf); first | refine byEv ?_ | (apply Fork.mk <;> (intro _; try (exfalso; omega))) | ((refine kSpanH1 ?_); first | ((first | apply q_allD | apply q_alli | apply q_allB) <;> intro _ _ _ _ <;> try contradiction) | (apply q_allv; intro _ _ _)) | fail)); all_goals ((conv => whnf); try with_reducible apply At.mk)))
        (refine byFin ?_)
        exact .inr (hfin _ _ hf4 byQuiet)
      have n4 := q4.next
      simp only [put_next, bump_next] at n4
      have x4 := (fr4 (h.next + 17) (by omega) byOm).trans ((get_of fun y hy => byGet).trans x3)
      have x5 := (fr4 (h3.next + 4) (by omega) byOm).trans (show _ = some (.cells (T.S i).cells 80) from byGet)
      (focus ((try with_reducible apply wpC.to); (repeat' ((conv => whnf); first | refine byEv ?_ | (apply Fork.mk <;> (intro _; try (exfalso; omega))) | ((refine kSpanH1 ?_); first | ((first | apply q_allD | apply q_alli | apply q_allB) <;> intro _ _ _ _ <;> try contradiction) | (apply q_allv; intro _ _ _)) | fail)); all_goals ((conv => whnf); try with_reducible apply At.mk)))
      apply q_slto (a := ⟨h.next + 17, 0, none⟩) (n := 2 * T.n) (c := 2 * T.n) (l := i) (k1 := .i64)
      case hx => exact rfl
      case hh => exact rfl
      case hs => exact rfl
      case h1 => omega
      case h0 => exact h2n
      case hf => unfold far; omega
      (focus ((try with_reducible apply wpC.to); (repeat' ((conv => whnf); first | refine byEv ?_ | (apply Fork.mk <;> (intro _; try (exfalso; omega))) | ((refine kSpanH1 ?_); first | ((first | apply q_allD | apply q_alli | apply q_allB) <;> intro _ _ _ _ <;> try contradiction) | (apply q_allv; intro _ _ _)) | fail)); all_goals ((conv => whnf); try with_reducible apply At.mk)))
      refine wp_loop (fun s : Nat × List Tru => [(0, yv), (1, .pointer (some ⟨r1, 0, none⟩)), (3, .slice (some ⟨h.next + 17, 0, none⟩) (2 * T.n) (2 * T.n)), (4, .int .i64 i), (5, .pointer (some ⟨h3.next + 4, 0, none⟩)), (37, .slice (some ⟨h.next + 17, 0, none⟩) (2 * T.n) (2 * T.n)), (38, .int .i64 ((2 * T.n : Nat) : Int)), (39, .int .i64 i), (84, .slice (some ⟨h.next + 17, 0, none⟩) i (2 * T.n)), (85, .int .i64 i), (86, .int .i64 s.1)])
        (fun s h1 => h1.get (h.next + 17) = some (.cells (rowsOf (fun i => (T.S i).cells) (2 * T.n)) 80) ∧ h1.get (h3.next + 4) = some (.cells [.int .i64 (T.S i).u, .int .i64 (T.S i).v, .int .i64 (T.S i).w] 80) ∧ Inv s.2 h1 ∧ (h.next + 18 ≤ h1.next ∧ h3.next + 5 ≤ h1.next) ∧ s.1 ≤ i ∧ CDone1 T s.2 i ∧ nr (T.S i) ∈ s.2 ∧ CDone T s.2 i s.1) (fun s => i - s.1) (0, l ++ [nr (T.S i)]) ⟨rfl, rfl, rfl, rfl, rfl, rfl, rfl, rfl, rfl, rfl, rfl, trivial⟩ ⟨byGet, byGet, hst _ _ _ hi4 byQuiet, byOm, by omega, dn.add, by simp, fun j' h => absurd h (Nat.not_lt_zero _)⟩ ?_
      rintro ⟨j, l⟩ g' h5 ⟨y1, y2, hi5, n5, hs5, dn5, mem5, dj⟩ K' hK'
      dsimp only at hi5 hs5 dn5 mem5 dj ⊢
      by_cases hji : j < i
      · have uj := hT0.up (i := j) (by omega)
        have c1 := mul_bnd ui.u.1 ui.u.2 uj.v.1 uj.v.2
        have c2 := mul_bnd ui.v.1 ui.v.2 uj.u.1 uj.u.2
        have c3 := mul_bnd ui.w.1 ui.w.2 uj.v.1 uj.v.2
        have c4 := mul_bnd uj.w.1 uj.w.2 ui.v.1 ui.v.2
        have c5 := mul_bnd ui.u.1 ui.u.2 uj.w.1 uj.w.2
        have c6 := mul_bnd uj.u.1 uj.u.2 ui.w.1 ui.w.2
        have ec : -800 ≤ cr (T.S i) (T.S j) ∧ cr (T.S i) (T.S j) ≤ 800 := by unfold cr; omega
        have e5 : Els h5 ⟨h.next + 17, 0, none⟩ i 3 (fun i => (T.S i).cells) := fun k hk => (rows_els (sz := 3) (n := 2 * T.n) (f := fun i => (T.S i).cells) (fun _ => rfl) (loadN_cells y1 (rowsOf_cut fun _ => rfl))) k (by omega)
        unfold Sd.cells at e5
        have vneg : (⟨-((T.S i).w * (T.S j).v - (T.S j).w * (T.S i).v), -((T.S i).u * (T.S j).w - (T.S j).u * (T.S i).w), -cr (T.S i) (T.S j)⟩ : Tru) = vx (T.S j) (T.S i) := by
          unfold vx; rw [cr_swap (T.S i) (T.S j), Int.neg_sub, Int.neg_sub]
        (focus ((try with_reducible apply wpC.to); (repeat' ((conv => whnf); first | refine byEv ?_ | (apply Fork.mk <;> (intro _; try (exfalso; omega))) | ((refine kSpanH1 ?_); first | ((first | apply q_allD | apply q_alli | apply q_allB) <;> intro _ _ _ _ <;> try contradiction) | (apply q_allv; intro _ _ _)) | fail)); all_goals ((conv => whnf); try with_reducible apply At.mk)))
        · apply q_calla
          focus exact acall_mono (hy l ⟨-((T.S i).w * (T.S j).v - (T.S j).w * (T.S i).v), -((T.S i).u * (T.S j).w - (T.S j).u * (T.S i).w), -cr (T.S i) (T.S j)⟩ _ (.inr (.inr ⟨j, i, ⟨by omega, hin⟩, by rw [cr_swap]; assumption, vneg⟩)) (hst _ h5 _ hi5 byQuiet) byOm) byOm
          rintro v h6 ⟨⟨rfl, hi6⟩ | ⟨rfl, hf6⟩, fr6⟩ q6
          rotate_left
          · (focus ((try with_reducible apply wpC.to); (repeat' ((conv => whnf); first | refine byEv ?_ | (apply Fork.mk <;> (intro _; try (exfalso; omega))) | ((refine kSpanH1 ?_); first | ((first | apply q_allD | apply q_alli | apply q_allB) <;> intro _ _ _ _ <;> try contradiction) | (apply q_allv; intro _ _ _)) | fail)); all_goals ((conv => whnf); try with_reducible apply At.mk)))
            (refine byFin ?_)
            exact .inr (hfin _ _ hf6 byQuiet)
          have n6 := q6.next
          simp only [put_next, bump_next] at n6
          have z1 := (fr6 (h.next + 17) (by omega) byOm).trans ((get_of fun y hy => byGet).trans y1)
          have z2 := (fr6 (h3.next + 4) (by omega) byOm).trans ((get_of fun y hy => byGet).trans y2)
          (focus ((try with_reducible apply wpC.to); (repeat' ((conv => whnf); first | refine byEv ?_ | (apply Fork.mk <;> (intro _; try (exfalso; omega))) | ((refine kSpanH1 ?_); first | ((first | apply q_allD | apply q_alli | apply q_allB) <;> intro _ _ _ _ <;> try contradiction) | (apply q_allv; intro _ _ _)) | fail)); all_goals ((conv => whnf); try with_reducible apply At.mk)))
          refine hK' (j + 1, l ++ [⟨-((T.S i).w * (T.S j).v - (T.S j).w * (T.S i).v), -((T.S i).u * (T.S j).w - (T.S j).u * (T.S i).w), -cr (T.S i) (T.S j)⟩]) _ _ ⟨rfl, rfl, rfl, rfl, rfl, rfl, rfl, rfl, rfl, rfl, int_of rfl (by dsimp only; omega), trivial⟩ ⟨byGet, byGet, hst _ _ _ hi6 byQuiet, byOm, by dsimp only; omega, dn5.add, List.mem_append_left _ mem5, fun j' h => ?_⟩ (by dsimp only; omega)
          dsimp only at h
          by_cases e : j' = j
          · subst e
            exact ⟨fun hc => by omega, fun _ => by rw [← vneg]; simp⟩
          · exact dj.add j' (by omega)
        · apply q_calla
          focus exact acall_mono (hy l (vx (T.S i) (T.S j)) _ (.inr (.inr ⟨i, j, ⟨hin, by omega⟩, by assumption, rfl⟩)) (hst _ h5 _ hi5 byQuiet) byOm) byOm
          rintro v h6 ⟨⟨rfl, hi6⟩ | ⟨rfl, hf6⟩, fr6⟩ q6
          rotate_left
          · (focus ((try with_reducible apply wpC.to); (repeat' ((conv => whnf); first | refine byEv ?_ | (apply Fork.mk <;> (intro _; try (exfalso; omega))) | ((refine kSpanH1 ?_); first | ((first | apply q_allD | apply q_alli | apply q_allB) <;> intro _ _ _ _ <;> try contradiction) | (apply q_allv; intro _ _ _)) | fail)); all_goals ((conv => whnf); try with_reducible apply At.mk)))
            (refine byFin ?_)
            exact .inr (hfin _ _ hf6 byQuiet)
          have n6 := q6.next
          simp only [put_next, bump_next] at n6
          have z1 := (fr6 (h.next + 17) (by omega) byOm).trans ((get_of fun y hy => byGet).trans y1)
          have z2 := (fr6 (h3.next + 4) (by omega) byOm).trans ((get_of fun y hy => byGet).trans y2)
          (focus ((try with_reducible apply wpC.to); (repeat' ((conv => whnf); first | refine byEv ?_ | (apply Fork.mk <;> (intro _; try (exfalso; omega))) | ((refine kSpanH1 ?_); first | ((first | apply q_allD | apply q_alli | apply q_allB) <;> intro _ _ _ _ <;> try contradiction) | (apply q_allv; intro _ _ _)) | fail)); all_goals ((conv => whnf); try with_reducible apply At.mk)))
          refine hK' (j + 1, l ++ [(vx (T.S i) (T.S j))]) _ _ ⟨rfl, rfl, rfl, rfl, rfl, rfl, rfl, rfl, rfl, rfl, int_of rfl (by dsimp only; omega), trivial⟩ ⟨byGet, byGet, hst _ _ _ hi6 byQuiet, byOm, by dsimp only; omega, dn5.add, List.mem_append_left _ mem5, fun j' h => ?_⟩ (by dsimp only; omega)
          dsimp only at h
          by_cases e : j' = j
          · subst e
            exact ⟨fun _ => by simp, fun hc => by rw [cr_swap] at hc; omega⟩
          · exact dj.add j' (by omega)
        · (focus ((try with_reducible apply wpC.to); (repeat' ((conv => whnf); first | refine byEv ?_ | (apply Fork.mk <;> (intro _; try (exfalso; omega))) | ((refine kSpanH1 ?_); first | ((first | apply q_allD | apply q_alli | apply q_allB) <;> intro _ _ _ _ <;> try contradiction) | (apply q_allv; intro _ _ _)) | fail)); all_goals ((conv => whnf); try with_reducible apply At.mk)))
          refine hK' (j + 1, l) _ _ ⟨rfl, rfl, rfl, rfl, rfl, rfl, rfl, rfl, rfl, rfl, int_of rfl (by dsimp only; omega), trivial⟩ ⟨byGet, byGet, hst _ _ _ hi5 byQuiet, byOm, by dsimp only; omega, dn5, mem5, fun j' h => ?_⟩ (by dsimp only; omega)
          dsimp only at h
          by_cases e : j' = j
          · subst e; exact ⟨fun hc => by omega, fun hc => by rw [cr_swap] at hc; omega⟩
          · exact dj j' (by omega)
      · obtain rfl : j = i := by omega
        (focus ((try with_reducible apply wpC.to); (repeat' ((conv => whnf); first | refine byEv ?_ | (apply Fork.mk <;> (intro _; try (exfalso; omega))) | ((refine kSpanH1 ?_); first | ((first | apply q_allD | apply q_alli | apply q_allB) <;> intro _ _ _ _ <;> try contradiction) | (apply q_allv; intro _ _ _)) | fail)); all_goals ((conv => whnf); try with_reducible apply At.mk)))
        refine hK (j + 1, l) _ _ ⟨rfl, rfl, rfl, rfl, rfl, int_of rfl (by dsimp only; omega), trivial⟩ ⟨byGet, hst _ _ _ hi5 byQuiet, byOm, by dsimp only; omega, fun i' h => ?_⟩ (by dsimp only; omega)
        dsimp only at h
        by_cases e : i' = j
        · subst e; exact ⟨mem5, dj⟩
        · exact dn5 i' (by omega)
    · obtain rfl : i = 2 * T.n := by omega
      (focus ((try with_reducible apply wpC.to); (repeat' ((conv => whnf); first | refine byEv ?_ | (apply Fork.mk <;> (intro _; try (exfalso; omega))) | ((refine kSpanH1 ?_); first | ((first | apply q_allD | apply q_alli | apply q_allB) <;> intro _ _ _ _ <;> try contradiction) | (apply q_allv; intro _ _ _)) | fail)); all_goals ((conv => whnf); try with_reducible apply At.mk)))
      (refine byFin ?_)
      exact .inl ⟨l, fun t ht => dn.all hn ht, hst _ _ _ hi3 byQuiet⟩
end AE.Try
