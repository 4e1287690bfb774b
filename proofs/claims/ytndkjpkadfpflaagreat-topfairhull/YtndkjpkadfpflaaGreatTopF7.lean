/- Walks of fair: the best line of a drawer. -/
import Derived.Test.YtndkjpkadfpflaaGreatJoin1
set_option linter.unusedVariables false
set_option linter.unusedSimpArgs false
set_option linter.unusedSectionVars false
namespace AE.Tryz
open Go AE Go.Proofs AE.Fair
set_option maxRecDepth 100000
set_option linter.unusedVariables false

/-- A line within spots that costs T; of one spot, nothing. -/
structure Fairest (S : Spots) (x : Nat → Int) (T : Int) : Prop where
  inn : ∀ j, j < S.r.n → S.lo j ≤ x j ∧ x j ≤ S.lo j + (S.w j : Int) - 1
  one : S.r.n = 1 → T = 0
  two : 2 ≤ S.r.n → T = (bestP S.t S.lo S.w S.r.n).2 ∧ mc S.t (ms x (S.r.n - 2)) = T
/-- Where the walk along the line is. -/
structure BS where
  i : Nat
  a : Nat
  b : Nat
  s : Int
  x : Nat → Int
  r : Nat
  w : Option Addr
theorem first_w {h : H} {S : Spots} {m d l rd rs k : Nat} {F : Nat → Int} (hm : m ≤ h.next) (D : Drawn h m d l S F) (B : Behind S F 0) (hn : 2 ≤ S.r.n) (hk : k < S.w 0 * S.w 1) (hrdn : rd < h.next) (hrsn : rs < h.next) (hrd : h.get rd = some (.cells [.pointer (some ⟨d, 0, none⟩)] 87)) (hrs : h.get rs = some (.cells [.int .i64 (S.w 1)] 3)) :
    AW Tryz.prog 101 h.next h [.int .i64 k, .pointer (some ⟨rd, 0, none⟩), .pointer (some ⟨rs, 0, none⟩)] (fun v _ => v = .int .i64 (dp S.t S.lo S.w (S.r.n - 2) 1 (k / S.w 1) (k % S.w 1) 0)) := by
  have w0 := D.fit.good.w1 0 (by omega)
  have w1 := D.fit.good.w1 1 (by omega)
  have hdn := D.dn
  have hln := D.ln
  have ha : k / S.w 1 < S.w 0 := Nat.div_lt_of_lt_mul (by rw [Nat.mul_comm]; exact hk)
  have hb : k % S.w 1 < S.w 1 := Nat.mod_lt _ (by omega)
  have hkk : k < 25 := Nat.lt_of_lt_of_le hk (Nat.le_trans (Nat.mul_le_mul w0.2 w1.2) (by omega))
  refine fun101.call rfl (Nat.le_refl _) ?_
  unfold a101
  (focus ((try with_reducible apply wpC.to); (repeat' ((conv => whnf); first | refine byEv ?_ | refine xTopF20 ?_ | fail)); all_goals ((conv => whnf); try with_reducible apply At.mk)))
  rw [← Int.natCast_ediv, ← Int.natCast_emod]
  apply q_call
  focus (exact byNext)
  focus (exact byLo)
  focus exact at_w (S := S) (l := l) (i := 1) (a := k / S.w 1) (b := k % S.w 1) (s := 0) (F := F) byOm byOm ((get_of fun y hy => byGet).trans D.gd) ((get_of fun y hy => byGet).trans D.gl) (by omega) (by omega) (by omega) (by omega) (by omega)
  rintro _ h3 rfl q3 hn3
  (focus ((try with_reducible apply wpC.to); (repeat' ((conv => whnf); first | refine byEv ?_ | refine xTopF20 ?_ | fail)); all_goals ((conv => whnf); try with_reducible apply At.mk)))
  (refine byFin ?_)
  have e := B 1 (k / S.w 1) (k % S.w 1) 0 (by omega) (by omega) ha hb (by omega)
  unfold ix dpS at e
  rw [show S.r.n - 1 - 1 = S.r.n - 2 by omega] at e
  exact congrArg (Value.int .i64) e
set_option maxHeartbeats 2000000 in
theorem best_w {h : H} {lo m d l : Nat} {S : Spots} (hlo : lo ≤ h.next) (hll : lo ≤ l) (hml : m ≤ l) (hl : l < h.next) (hd : d < h.next) (hdl : d ≠ l) (D : Drawn h m d l S (fun _ => 0)) :
    AW Tryz.prog 40 lo h [.pointer (some ⟨d, 0, none⟩)] (fun v h' => ∃ r w c x T, v = .tuple #[.slice w S.r.n c, .int .i64 T] ∧ LG r h' 2 S.r.n x w c ∧ h.next ≤ r ∧ r < h'.next ∧ Fairest S x T ∧ ∀ r, r < h.next → r ≠ l → h'.get r = h.get r) := by
  have fit := D.fit
  have n1 := fit.good.n1
  have n2 := fit.good.n2
  have w0 := fit.good.w1 0 (by omega)
  have l0 := fit.good.lo1 0 (by omega)
  refine fun40.call rfl hlo ?_
  unfold a40
  (focus ((try with_reducible apply wpC.to); (repeat' ((conv => whnf); first | refine byEv ?_ | (apply Fork.mk <;> (intro _; try (exfalso; omega))) | ((refine kTopF20 ?_); first | ((first | apply q_allD | apply q_alli | apply q_allB) <;> intro _ _ _ _ <;> try contradiction) | (apply q_allv; intro _ _ _)) | refine xTopF20 ?_ | fail)); all_goals ((conv => whnf); try with_reducible apply At.mk)))
  apply q_callw
  focus exact fill_w (lo := lo) (m := m) (d := d) (l := l) (S := S) byOm hll hml byOm byOm hdl (((D.bump 3).put (r := h.next) (row := .cells [.pointer (some ⟨d, 0, none⟩)] 87) (by omega) (by omega) (by omega)).bump 2)
  rintro v1 h1 ⟨F, D1, B1, old⟩ q1
  have hn1 : h.next + 5 ≤ h1.next := by have := q1.next; (exact byOm)
  have d1 := D1.gd
  have dn1 := D1.dn
  have ln1 := D1.ln
  unfold drow at d1
  have g1 : h1.get h.next = some (.cells [.pointer (some ⟨d, 0, none⟩)] 87) := (old _ byOm (by omega)).trans byGet
  have sr1' := D1.sr
  obtain ⟨se1, si1, sr1, sl1⟩ := D1.sr
  by_cases h1n : S.r.n = 1
  · (focus ((try with_reducible apply wpC.to); (repeat' ((conv => whnf); first | refine byEv ?_ | (apply Fork.mk <;> (intro _; try (exfalso; omega))) | ((refine kTopF20 ?_); first | ((first | apply q_allD | apply q_alli | apply q_allB) <;> intro _ _ _ _ <;> try contradiction) | (apply q_allv; intro _ _ _)) | refine xTopF20 ?_ | fail)); all_goals ((conv => whnf); try with_reducible apply At.mk)))
    (refine byFin ?_)
    rw [h1n]
    refine ⟨h1.next + 8, some ⟨h1.next + 8, 0, none⟩, 1, one (S.lo 0), 0, rfl, .inl ⟨rfl, rfl, rfl, ?_⟩, byOm, byOm, ⟨fun j hj => ?_, fun _ => rfl, fun h2 => by omega⟩, fun r hr hrl => (get_of fun y hy => byGet).trans ((old r byOm hrl).trans (get_of fun y hy => byGet))⟩
    · show _ = some (ARow.cells [.int .i64 (S.r.f 0).lo] 2)
      (exact byGet)
    · obtain rfl : j = 0 := by omega
      show S.lo 0 ≤ S.lo 0 ∧ _
      simp only [one]
      omega
  have hn2 : 2 ≤ S.r.n := by omega
  have w1 := fit.good.w1 1 (by omega)
  (focus ((try with_reducible apply wpC.to); (repeat' ((conv => whnf); first | refine byEv ?_ | (apply Fork.mk <;> (intro _; try (exfalso; omega))) | ((refine kTopF20 ?_); first | ((first | apply q_allD | apply q_alli | apply q_allB) <;> intro _ _ _ _ <;> try contradiction) | (apply q_allv; intro _ _ _)) | refine xTopF20 ?_ | fail)); all_goals ((conv => whnf); try with_reducible apply At.mk)))
  apply q_call
  focus (exact byNext)
  focus (exact byLo)
  focus exact wide_w (i := 1) (m := m) (l := l) byOm (sr1'.same bySame (Nat.le_refl _)) fit ((get_of fun y hy => byGet).trans D1.gd) (by omega)
  rintro _ h2 rfl q2 hn2'
  have D2 : Drawn h2 m d l S F := (((((D1.bump 10).put (r := h1.next + 8) (row := .cells [.int .i64 (S.r.f 0).lo] 2) (by omega) (by omega) (by omega)).bump 7).bump 4)).quiet q2 byOm byOm byOm
  have g2 : h2.get h.next = some (.cells [.pointer (some ⟨d, 0, none⟩)] 87) := (q2.same _ byOm).trans byGet
  have g2' : h2.get (h1.next + 8) = some (.cells [.int .i64 (S.r.f 0).lo] 2) := (q2.same _ byOm).trans byGet
  have old2 : ∀ r, r < h.next → r ≠ l → h2.get r = h.get r := fun r hr hrl => (q2.same _ byOm).trans ((get_of fun y hy => byGet).trans ((old r byOm hrl).trans (get_of fun y hy => byGet)))
  have hn3 : h1.next + 21 ≤ h2.next := by (exact byOm)
  have d2 := D2.gd
  unfold drow at d2
  have dn2 := D2.dn
  have ln2 := D2.ln
  clear old d1 dn1 ln1 g1 sr1' se1 si1 sr1 sl1 D1 q1
  have hpp : (S.w 0 * S.w 1 : Nat) ≤ 25 := Nat.le_trans (Nat.mul_le_mul w0.2 w1.2) (by omega)
  have hpp1 : 1 ≤ S.w 0 * S.w 1 := Nat.mul_pos (by omega) (by omega)
  have hpe : (S.w 0 : Int) * (S.w 1 : Int) = ((S.w 0 * S.w 1 : Nat) : Int) := by push_cast; rfl
  have hpi : 0 ≤ (S.w 0 : Int) * (S.w 1 : Int) ∧ (S.w 0 : Int) * (S.w 1 : Int) ≤ 25 := by omega
  (focus ((try with_reducible apply wpC.to); (repeat' ((conv => whnf); first | refine byEv ?_ | (apply Fork.mk <;> (intro _; try (exfalso; omega))) | ((refine kTopF20 ?_); first | ((first | apply q_allD | apply q_alli | apply q_allB) <;> intro _ _ _ _ <;> try contradiction) | (apply q_allv; intro _ _ _)) | refine xTopF20 ?_ | fail)); all_goals ((conv => whnf); try with_reducible apply At.mk)))
  apply q_call
  focus (exact byNext)
  focus (exact byLo)
  focus exact wide_w (i := 0) (m := m) (l := l) byOm (D2.sr.same bySame (Nat.le_refl _)) fit ((get_of fun y hy => byGet).trans D2.gd) (by omega)
  rintro _ h3 rfl q3 hn3'
  have D3 : Drawn h3 m d l S F := (((D2.put (r := h1.next + 19) (row := .cells [.int .i64 0] 3) (by omega) (by omega) (by omega)).put (r := h1.next + 19) (row := .cells [.int .i64 (S.w 1)] 3) (by omega) (by omega) (by omega)).bump 11).quiet q3 byOm byOm byOm
  have g3 : h3.get h.next = some (.cells [.pointer (some ⟨d, 0, none⟩)] 87) := (q3.same _ byOm).trans byGet
  have g3' : h3.get (h1.next + 8) = some (.cells [.int .i64 (S.r.f 0).lo] 2) := (q3.same _ byOm).trans byGet
  have g3'' : h3.get (h1.next + 19) = some (.cells [.int .i64 (S.w 1)] 3) := (q3.same _ byOm).trans byGet
  have old3 : ∀ r, r < h.next → r ≠ l → h3.get r = h.get r := fun r hr hrl => (q3.same _ byOm).trans ((get_of fun y hy => byGet).trans (old2 r hr hrl))
  have hn4 : h2.next + 11 ≤ h3.next := by (exact byOm)
  have d3 := D3.gd
  unfold drow at d3
  have dn3 := D3.dn
  have ln3 := D3.ln
  clear old2 d2 dn2 ln2 g2 g2' D2 q2 q3
  (focus ((try with_reducible apply wpC.to); (repeat' ((conv => whnf); first | refine byEv ?_ | (apply Fork.mk <;> (intro _; try (exfalso; omega))) | ((refine kTopF20 ?_); first | ((first | apply q_allD | apply q_alli | apply q_allB) <;> intro _ _ _ _ <;> try contradiction) | (apply q_allv; intro _ _ _)) | refine xTopF20 ?_ | fail)); all_goals ((conv => whnf); try with_reducible apply At.mk)))
  rw [hpe]
  apply q_call
  focus (exact byNext)
  focus (exact byLo)
  focus exact least_w (n := S.w 0 * S.w 1) (f := fun k => dp S.t S.lo S.w (S.r.n - 2) 1 (k / S.w 1) (k % S.w 1) 0) hpp1 (by omega) fun k h4 hk q4 => by
            have nx := q4.next
            exact acall_of (first_w (m := m) (d := d) (l := l) (F := F) byOm (D3.quiet (q4.mono (Nat.le_refl _)) byOm byOm byOm) B1 hn2 hk byOm byOm ((q4.same _ byOm).trans byGet) ((q4.same _ byOm).trans byGet)) rfl
  intro v h5 hv q5 hn5
  replace hv : v = .tuple #[.int .i64 ((bestP S.t S.lo S.w S.r.n).1 : Nat), .int .i64 (bestP S.t S.lo S.w S.r.n).2] := hv
  subst hv
  have P0 := fun x h0 h1 => path_first (x := x) fit.good hn2 h0 h1
  have hkk : (bestP S.t S.lo S.w S.r.n).1 < S.w 0 * S.w 1 := by
    have := (leastN_at (fun k => dp S.t S.lo S.w (S.r.n - 2) 1 (k / S.w 1) (k % S.w 1) 0) (S.w 0 * S.w 1 - 1)).1
    unfold bestP
    omega
  generalize (bestP S.t S.lo S.w S.r.n).1 = kk at P0 hkk ⊢
  generalize hT : (bestP S.t S.lo S.w S.r.n).2 = T at P0 ⊢
  have hA : kk / S.w 1 < S.w 0 := Nat.div_lt_of_lt_mul (by rw [Nat.mul_comm]; exact hkk)
  have hB : kk % S.w 1 < S.w 1 := Nat.mod_lt _ (by omega)
  have D5 : Drawn h5 m d l S F := D3.quiet q5 byOm dn3 ln3
  have g5 : h5.get h.next = some (.cells [.pointer (some ⟨d, 0, none⟩)] 87) := (q5.same _ byOm).trans byGet
  have g5' : h5.get (h1.next + 8) = some (.cells [.int .i64 (S.r.f 0).lo] 2) := (q5.same _ byOm).trans byGet
  have g5'' : h5.get (h1.next + 19) = some (.cells [.int .i64 (S.w 1)] 3) := (q5.same _ byOm).trans byGet
  have old5 : ∀ r, r < h.next → r ≠ l → h5.get r = h.get r := fun r hr hrl => (q5.same _ byOm).trans (old3 r hr hrl)
  have hn6 : h3.next ≤ h5.next := by (exact byOm)
  have d5 := D5.gd
  unfold drow at d5
  have dn5 := D5.dn
  have ln5 := D5.ln
  have l1 := fit.good.lo1 1 (by omega)
  unfold Spots.lo at l0 l1
  clear old3 d3 dn3 ln3 g3 g3' g3'' D3 q5
  obtain ⟨se5, si5, sr5, sl5⟩ := D5.sr
  have eA : ((kk : Int) / (S.w 1 : Int)) = ((kk / S.w 1 : Nat) : Int) := (Int.natCast_ediv _ _).symm
  have eB : ((kk : Int) % (S.w 1 : Int)) = ((kk % S.w 1 : Nat) : Int) := (Int.natCast_emod _ _).symm
  generalize hAA : kk / S.w 1 = A at P0 hA eA
  generalize hBB : kk % S.w 1 = B at P0 hB eB
  (focus ((try with_reducible apply wpC.to); (repeat' ((conv => whnf); first | refine byEv ?_ | (apply Fork.mk <;> (intro _; try (exfalso; omega))) | ((refine kTopF20 ?_); first | ((first | apply q_allD | apply q_alli | apply q_allB) <;> intro _ _ _ _ <;> try contradiction) | (apply q_allv; intro _ _ _)) | refine xTopF20 ?_ | fail)); all_goals ((conv => whnf); try with_reducible apply At.mk)))
  rw [eA, eB]
  have hx0 : ∀ j, (fun j : Nat => if j = 0 then (S.r.f 0).lo + (A : Int) else (S.r.f 1).lo + (B : Int)) j = if j = 0 then (S.r.f 0).lo + (A : Int) else (S.r.f 1).lo + (B : Int) := fun _ => rfl
  generalize (fun j : Nat => if j = 0 then (S.r.f 0).lo + (A : Int) else (S.r.f 1).lo + (B : Int)) = x0 at hx0
  have e0 : x0 0 = (S.r.f 0).lo + (A : Int) := (hx0 0).trans (if_pos rfl)
  have e1 : x0 1 = (S.r.f 1).lo + (B : Int) := (hx0 1).trans (if_neg (by omega))
  have P1 := P0 x0 e0 e1
  apply q_appLG (r := h1.next + 8) (n := 1) (f := x0) (w := some ⟨h1.next + 8, 0, none⟩) (c := 1)
  case G => exact .inl ⟨rfl, rfl, rfl, by rw [e0]; (exact byGet)⟩
  case hsv => exact rfl
  case C => rw [e1]; exact Cells.one byMem (by unfold AE.far; omega) rfl rfl
  case hlo => omega
  case hlr => omega
  case hsm => omega
  intro w6 r6 h6 hr6 hf6 hx6 L6
  have hx6 : h6.next = h5.next + 33 := hx6
  have D6 : Drawn h6 m d l S F := ⟨fit, D5.sr.same (fun x hx => (hf6 x (by omega)).trans (get_of fun y hy => byGet)) (Nat.le_refl _), (hf6 _ (by omega)).trans ((get_of fun y hy => byGet).trans D5.gd), (hf6 _ (by omega)).trans ((get_of fun y hy => byGet).trans D5.gl), by omega, by omega, D5.bd⟩
  have g6 : h6.get h.next = some (.cells [.pointer (some ⟨d, 0, none⟩)] 87) := (hf6 _ (by omega)).trans byGet
  have s6 : h6.get (h5.next + 8) = some (.cells (stC 1 A B 0) 165) := (hf6 _ (by omega)).trans (by unfold stC; (exact byGet))
  have old6 : ∀ r, r < h.next → r ≠ l → h6.get r = h.get r := fun r hr hrl => (hf6 _ (by omega)).trans ((get_of fun y hy => byGet).trans (old5 r hr hrl))
  clear hf6 old5 d5 dn5 ln5 g5 g5' g5'' D5 se5 si5 sr5 sl5 P0 hkk hAA hBB eA eB hpe hpi
  (focus ((try with_reducible apply wpC.to); (repeat' ((conv => whnf); first | refine byEv ?_ | (apply Fork.mk <;> (intro _; try (exfalso; omega))) | ((refine kTopF20 ?_); first | ((first | apply q_allD | apply q_alli | apply q_allB) <;> intro _ _ _ _ <;> try contradiction) | (apply q_allv; intro _ _ _)) | refine xTopF20 ?_ | fail)); all_goals ((conv => whnf); try with_reducible apply At.mk)))
  refine wp_loop (fun x : BS => [(1, .pointer (some ⟨h.next, 0, none⟩)), (4, .slice x.w (x.i + 1) 0), (7, .int .i64 T), (8, .pointer (some ⟨h5.next + 8, 0, none⟩))])
    (fun x h7 => Drawn h7 m d l S F ∧ h7.get h.next = some (.cells [.pointer (some ⟨d, 0, none⟩)] 87) ∧ h7.get (h5.next + 8) = some (.cells (stC x.i x.a x.b x.s) 165) ∧ LG x.r h7 2 (x.i + 1) x.x x.w 0 ∧ Path S.r.n S.t S.lo S.w T x.x x.i x.a x.b x.s ∧ (0 ≤ x.s ∧ x.s ≤ 2) ∧
      h5.next + 9 ≤ h7.next ∧ h1.next ≤ x.r ∧ x.r ≠ h5.next + 8 ∧ x.r < h7.next ∧ ∀ r, r < h.next → r ≠ l → h7.get r = h.get r)
    (fun x => S.r.n - x.i) ⟨1, A, B, 0, x0, r6, w6⟩ ⟨rfl, rfl, rfl, rfl, trivial⟩ ⟨D6, g6, s6, L6, P1, by simp, by omega, by dsimp only; omega, by dsimp only; omega, by dsimp only; omega, old6⟩ ?_
  clear D6 g6 s6 L6 P1 old6 hr6 hx6 e0 e1 hx0
  rintro ⟨i, a, b, s, x, r, w⟩ g7 h7 ⟨D7, g7', s7, L7, P7, hs7, hn7, hr7, hr7', hr7'', old7⟩ K hK
  dsimp only at s7 L7 P7 hs7 hr7 hr7' hr7''
  dsimp only
  have d7 := D7.gd
  unfold drow at d7
  have dn7 := D7.dn
  have ln7 := D7.ln
  have pi1 := P7.i1
  have pi2 := P7.i2
  by_cases hi : i + 1 < S.r.n
  · obtain ⟨sn, rfl⟩ : ∃ sn : Nat, s = (sn : Int) := ⟨s.toNat, by omega⟩
    have pa := P7.a1
    have pb := P7.b1
    have wa := fit.good.w1 (i - 1) (by omega)
    have wb := fit.good.w1 i (by omega)
    have wc := fit.good.w1 (i + 1) hi
    have lc := fit.good.lo1 (i + 1) hi
    unfold Spots.lo at lc
    have vd := via_dp (S := S) (F := F) (i := i) (a := a) (b := b) (s := sn) fit (fun j a b s hj => B1 j a b s (by omega)) pi1 hi pb (by omega)
    have hc : pickC S.t S.lo S.w (S.r.n - 2 - i) i a b sn < S.w (i + 1) := by
      rw [← vd.2]
      have := (leastN_at (via S F i a b sn) (S.w (i + 1) - 1)).1
      omega
    have Pn := fun y hy he => (P7.next (y := y) fit.good hi hy he).1
    (focus ((try with_reducible apply wpC.to); (repeat' ((conv => whnf); first | refine byEv ?_ | (apply Fork.mk <;> (intro _; try (exfalso; omega))) | ((refine kTopF20 ?_); first | ((first | apply q_allD | apply q_alli | apply q_allB) <;> intro _ _ _ _ <;> try contradiction) | (apply q_allv; intro _ _ _)) | refine xTopF20 ?_ | fail)); all_goals ((conv => whnf); try with_reducible apply At.mk)))
    apply q_call
    focus (exact byNext)
    focus (exact byLo)
    focus exact go1_w (m := m) byOm ((D7.bump 10).bump 8) pi1 hi (by omega) (by omega) (by omega) (by omega)
    intro v h8 hv q8 hn8
    rw [vd.2] at hv
    subst hv
    generalize pickC S.t S.lo S.w (S.r.n - 2 - i) i a b sn = c at hc Pn ⊢
    have D8 : Drawn h8 m d l S F := ((D7.bump 10).bump 8).quiet q8 byOm byOm byOm
    have g8 : h8.get h.next = some (.cells [.pointer (some ⟨d, 0, none⟩)] 87) := (q8.same _ byOm).trans byGet
    have s8 : h8.get (h5.next + 8) = some (.cells (stC i a b sn) 165) := (q8.same _ byOm).trans ((get_of fun y hy => byGet).trans s7)
    have L8 := L7.frame (h' := h8) ((q8.same _ byOm).trans (get_of fun y hy => byGet))
    have old8 : ∀ r, r < h.next → r ≠ l → h8.get r = h.get r := fun r hr hrl => (q8.same _ byOm).trans ((get_of fun y hy => byGet).trans (old7 r hr hrl))
    have hn9 : h7.next + 18 ≤ h8.next := by (exact byOm)
    have d8 := D8.gd
    unfold drow at d8
    have dn8 := D8.dn
    have ln8 := D8.ln
    clear D7 g7' s7 L7 P7 old7 d7 dn7 ln7 q8 vd
    have s8' := s8
    unfold stC at s8'
    (focus ((try with_reducible apply wpC.to); (repeat' ((conv => whnf); first | refine byEv ?_ | (apply Fork.mk <;> (intro _; try (exfalso; omega))) | ((refine kTopF20 ?_); first | ((first | apply q_allD | apply q_alli | apply q_allB) <;> intro _ _ _ _ <;> try contradiction) | (apply q_allv; intro _ _ _)) | refine xTopF20 ?_ | fail)); all_goals ((conv => whnf); try with_reducible apply At.mk)))
    apply q_call
    focus (exact byNext)
    focus (exact byLo)
    focus exact on_w (m := m) (l := l) byOm (D8.sr.same bySame (Nat.le_refl _)) fit byOm ((get_of fun y hy => byGet).trans D8.gd) pi1 hi (by omega) (by omega) (by omega) (by omega) (by omega)
    intro v h9 hv q9 hn9'
    have hsg := sgn_bd (s := (sn : Int)) (d := dif S.lo i a b c) (by omega) (by omega)
    generalize sgn (sn : Int) (dif S.lo i a b c) = s' at hv hsg Pn
    generalize pay S.t (sn : Int) (dif S.lo i a b c) = py at hv
    unfold stC at hv
    subst hv
    have D9 : Drawn h9 m d l S F := (D8.bump 8).quiet q9 byOm byOm byOm
    have g9 : h9.get h.next = some (.cells [.pointer (some ⟨d, 0, none⟩)] 87) := (q9.same _ byOm).trans byGet
    have s9 : h9.get (h5.next + 8) = some (.cells [.int .i64 i, .int .i64 a, .int .i64 b, .int .i64 sn] 165) := (q9.same _ byOm).trans byGet
    have L9 := L8.frame (h' := h9) ((q9.same _ byOm).trans (get_of fun y hy => byGet))
    have old9 : ∀ r, r < h.next → r ≠ l → h9.get r = h.get r := fun r hr hrl => (q9.same _ byOm).trans ((get_of fun y hy => byGet).trans (old8 r hr hrl))
    have hn10 : h8.next ≤ h9.next := by (exact byOm)
    have d9 := D9.gd
    unfold drow at d9
    have dn9 := D9.dn
    have ln9 := D9.ln
    clear D8 g8 s8 s8' L8 old8 d8 dn8 ln8 q9
    obtain ⟨se9, si9, sr9, sl9⟩ := D9.sr
    (focus ((try with_reducible apply wpC.to); (repeat' ((conv => whnf); first | refine byEv ?_ | (apply Fork.mk <;> (intro _; try (exfalso; omega))) | ((refine kTopF20 ?_); first | ((first | apply q_allD | apply q_alli | apply q_allB) <;> intro _ _ _ _ <;> try contradiction) | (apply q_allv; intro _ _ _)) | refine xTopF20 ?_ | fail)); all_goals ((conv => whnf); try with_reducible apply At.mk)))
    have hy1 : ∀ j, j ≤ i → updN x (i + 1) ((S.r.f (i + 1)).lo + (c : Int)) j = x j := fun j hj => by unfold updN; rw [if_neg (by omega)]
    have hy2 : updN x (i + 1) ((S.r.f (i + 1)).lo + (c : Int)) (i + 1) = (S.r.f (i + 1)).lo + (c : Int) := by unfold updN; rw [if_pos rfl]
    generalize updN x (i + 1) ((S.r.f (i + 1)).lo + (c : Int)) = y at hy1 hy2
    have P8 := Pn y hy1 hy2
    apply q_appLG (r := r) (n := i + 1) (f := y) (w := w) (c := 0)
    case G => exact (L9.congr fun j hj => (hy1 j (by omega)).symm).frame (get_of fun y hy => byGet)
    case hsv => exact rfl
    case C => rw [hy2]; exact Cells.one byMem (by unfold AE.far; omega) rfl rfl
    case hlo => omega
    case hlr => omega
    case hsm => omega
    intro w' r' h10 hr10 hf10 hx10 L10
    have hx10 : h10.next = h9.next + 16 := hx10
    have D10 : Drawn h10 m d l S F := ⟨fit, D9.sr.same (fun x hx => (hf10 x (by omega)).trans (get_of fun y hy => byGet)) (Nat.le_refl _), (hf10 _ (by omega)).trans ((get_of fun y hy => byGet).trans D9.gd), (hf10 _ (by omega)).trans ((get_of fun y hy => byGet).trans D9.gl), by omega, by omega, D9.bd⟩
    have g10 : h10.get h.next = some (.cells [.pointer (some ⟨d, 0, none⟩)] 87) := (hf10 _ (by omega)).trans byGet
    have s10 : h10.get (h5.next + 8) = some (.cells (stC (i + 1) b c s') 165) := (hf10 _ (by omega)).trans (by unfold stC; (exact byGet))
    have old10 : ∀ r, r < h.next → r ≠ l → h10.get r = h.get r := fun r hr hrl => (hf10 _ (by omega)).trans ((get_of fun y hy => byGet).trans (old9 r hr hrl))
    (focus ((try with_reducible apply wpC.to); (repeat' ((conv => whnf); first | refine byEv ?_ | (apply Fork.mk <;> (intro _; try (exfalso; omega))) | ((refine kTopF20 ?_); first | ((first | apply q_allD | apply q_alli | apply q_allB) <;> intro _ _ _ _ <;> try contradiction) | (apply q_allv; intro _ _ _)) | refine xTopF20 ?_ | fail)); all_goals ((conv => whnf); try with_reducible apply At.mk)))
    exact hK ⟨i + 1, b, c, s', y, r', w'⟩ _ _ ⟨rfl, rfl, rfl, rfl, trivial⟩ ⟨D10, g10, s10, L10, P8, hsg, by omega, by dsimp only; omega, by dsimp only; omega, by dsimp only; omega, old10⟩ (by dsimp only; omega)
  · have ei : i = S.r.n - 1 := by omega
    (focus ((try with_reducible apply wpC.to); (repeat' ((conv => whnf); first | refine byEv ?_ | (apply Fork.mk <;> (intro _; try (exfalso; omega))) | ((refine kTopF20 ?_); first | ((first | apply q_allD | apply q_alli | apply q_allB) <;> intro _ _ _ _ <;> try contradiction) | (apply q_allv; intro _ _ _)) | refine xTopF20 ?_ | fail)); all_goals ((conv => whnf); try with_reducible apply At.mk)))
    (refine byFin ?_)
    rw [show i + 1 = S.r.n by omega] at L7 ⊢
    refine ⟨r, w, 0, x, T, rfl, L7.frame rfl, by omega, byOm, ⟨fun j hj => P7.inn j (by omega), fun h1 => by omega, fun _ => ⟨hT.symm, ?_⟩⟩, fun r hr hrl => (get_of fun y hy => byGet).trans (old7 r hr hrl)⟩
    have e := P7.sum
    rw [show S.r.n - 1 - i = 0 by omega, show i - 1 = S.r.n - 2 by omega] at e
    simpa [dp] using e
end AE.Tryz
