/- Clerk, walked: the law Balanced. -/
import Derived.Test.YtcminnjimlopbaaGreatDoorClkWk
set_option linter.unusedVariables false
set_option linter.unusedSimpArgs false
set_option linter.unusedSectionVars false
namespace AE.Tryz
open Go AE Go.Proofs AE.Clerk
set_option maxRecDepth 100000
set_option linter.unusedVariables false

theorem tot_bd {f : Nat → Ln} : ∀ {n : Nat}, (∀ i, i < n → (f i).Valid 1099511627776) → (0 ≤ tB f n ∧ tB f n ≤ 1000000 * n) ∧ (0 ≤ tR f n ∧ tR f n ≤ n) ∧ (0 ≤ tP f n ∧ tP f n ≤ 1000000000 * n)
 | 0, _ => by simp [tB, tR, tP]
 | n + 1, hv => by
   obtain ⟨h1, h2, h3⟩ := tot_bd (f := f) (n := n) fun i hi => hv i byO
   have hd := valid_dis (hv n byO)
   have d0 := hd.1
   have d6 := hd.2.2.2.2.1
   simp only [tB, tR, tP]
   refine ⟨?_, ?_, ?_⟩
   ·split
    ·have := d0 (by rename_i h; exact h.2); omega
    ·omega
   ·split <;> omega
   ·split
    ·have := d6 (by rename_i h; exact h.2); omega
    ·omega
theorem sum_take {α : Type} (g : α → Int) {l : List α} {q : Nat} {x : α} (h : l[q]? = some x) : sumL g (l.take (q + 1)) = sumL g (l.take q) + g x := by
 rw [List.take_add_one, h, Option.toList_some, sumL_app]
 simp [sumL]
theorem sum_bd {α : Type} {g : α → Int} {c : Int} (hc : 0 ≤ c) {l : List α} (h : ∀ x ∈ l, 0 ≤ g x ∧ g x ≤ c) : 0 ≤ sumL g l ∧ sumL g l ≤ c * l.length := by
 induction l with
 | nil => simp [sumL]
 | cons x l ih =>
   have h1 := h x (by simp)
   have h2 := ih fun y hy => h y (List.mem_cons_of_mem x hy)
   simp only [sumL, List.length_cons]
   have : c * ((l.length + 1 : Nat) : Int) = c * l.length + c := by rw [Int.natCast_add, Int.mul_add]; simp
   omega
theorem sorted_lt {ms : List Mdl} (hn : (ms.map Mdl.no).Nodup) {q : Nat} {x y : Mdl} (hx : (sortM ms)[q]? = some x) (hy : (sortM ms)[q + 1]? = some y) : x.no < y.no := by
 have hs := sortM_sorted ms
 obtain ⟨h1, e1⟩ := List.getElem?_eq_some_iff.1 hx
 obtain ⟨h2, e2⟩ := List.getElem?_eq_some_iff.1 hy
 have hle := List.pairwise_iff_getElem.1 hs q (q + 1) h1 h2 byO
 rw [e1, e2] at hle
 have hn' : ((sortM ms).map Mdl.no).Nodup := ((sortM_perm ms).map Mdl.no).nodup_iff.2 hn
 have hne : x.no ≠ y.no := fun e => by
  have := (List.getElem?_inj (l := (sortM ms).map Mdl.no) (i := q) (j := q + 1) (by simpa using h1) hn').1 (by rw [List.getElem?_map, List.getElem?_map, hx, hy]; simp [e])
  omega
 omega
set_option maxHeartbeats 4000000 in
theorem balanced_w {h : H} {B : Bk} {m : Nat} (hm : m ≤ h.next) (hB : B.Ok m h) : AW Tryz.prog 8 h.next h [.slice B.b B.n B.c] (fun v _ => v = .bool true) := by
 refine fun8.call rfl (Nat.le_refl _) ?_
 unfold a8
 (refine byRun ?_)
 apply q_callv
 focus (exact byNext)
 focus (exact byLo)
 focus exact right_w (m := m) byOm (hB.same (m' := m) bySame (Nat.le_refl _))
 intro h1 q1 n1
 by_cases hg : Good B.n B.f
 rotate_left
 ·rw [decide_eq_false hg]
  (refine byRun ?_)
  apply q_callv
  focus (exact byNext)
  focus (exact byLo)
  focus exact works_w
  intro h2 q2 n2
  (refine byRun ?_)
  (refine byFin ?_)
  rfl
 rw [decide_eq_true hg]
 have h60 := hg.1
 have ok := after_ok (f := B.f) (n := B.n) byO hg.2
 have bal := after_bal (f := B.f) (n := B.n) byO hg.2
 (refine byRun ?_)
 apply q_call
 focus (exact byNext)
 focus (exact byLo)
 focus exact Replay_w (m := m) byOm (hB.same (m' := m) bySame (Nat.le_refl _))
 rintro v h2 hv q2 n2
 obtain ⟨re, rfl, ge, re1, re2⟩ := (show ∃ re : Nat, v = .tuple #[.slice (some ⟨re, 0, none⟩) B.n B.n, .int .i64 0] ∧ h2.get re = some (.cells (outC B.f B.n B.n) 25) ∧ _ ≤ re ∧ re < h2.next from hv.elim (fun h => absurd hg h.1) (·.2))
 clear hv
 (refine byRun ?_)
 apply q_call
 focus (exact byNext)
 focus (exact byLo)
 focus exact State_w (m := m) byOm (hB.same (m' := m) bySame (Nat.le_refl _))
 rintro v h3 hv q3 n3
 unfold StaR at hv
 generalize hS : after B.f B.n = S at hv ok bal
 obtain ⟨rs, rfl, gs, bs1⟩ := (show ∃ rs : Nat, v = .tuple #[.agg ⟨[.int .i64 S.stock, .int .i64 S.lost, .slice (addrX rs S.ms.length) S.ms.length 0]⟩, .int .i64 0] ∧ GX rs h3 61 8 S.ms.length (cellsOf mC8 (sortM S.ms)) ∧ (0 < S.ms.length → _ ≤ rs ∧ rs < h3.next) from hv.elim (fun h => absurd hg h.1) (·.2))
 clear hv
 have hml := ok.ml
 have hl := sortM_len S.ms
 (refine byRun ?_)
 have Ne := outC_ns (m := h2.next) ge re2 byO
 have hB0 := hB
 obtain ⟨e1, i1, r1, l1, -⟩ := hB
 have gs4 := gs
 have bs2 : 0 < S.ms.length → h2.next + 6 ≤ rs ∧ rs < h3.next := fun h0 => by have := bs1 h0; simp only [put_next, bump_next] at this; omega
 clear bs1
 refine wp_loop (fun q : Nat => [(0, .slice B.b B.n B.c), (3, .slice (some ⟨re, 0, none⟩) B.n B.n), (5, .pointer (some ⟨h2.next + 5, 0, none⟩)), (7, .int .i64 (tB B.f q)), (8, .int .i64 (tR B.f q)), (9, .int .i64 (tP B.f q)), (10, .int .i64 q)])
  (fun q h4 => Same m h h4 ∧ (∀ r, r < h3.next → r ≠ h2.next + 5 → h4.get r = h3.get r) ∧ h3.next ≤ h4.next ∧ q ≤ B.n ∧ h4.get (h2.next + 5) = some (.cells [.int .i64 S.stock, .int .i64 S.lost, .slice (addrX rs S.ms.length) S.ms.length 0] 30)) (fun q => B.n - q) 0 ⟨rfl, rfl, rfl, rfl, rfl, rfl, rfl, trivial⟩ ⟨bySame, fun r h1 h2 => get_of fun y hy => byGet, byOm, by omega, byGet⟩ ?_
 rintro q g h4 ⟨s4, fr, n4, hq, x5⟩ K hK
 obtain ⟨⟨b1, b2⟩, ⟨b3, b4⟩, ⟨b5, b6⟩⟩ := tot_bd (f := B.f) (n := q) fun i hi => hg.2 i byO
 by_cases hlt : q < B.n
 ·have hd := valid_dis (hg.2 q hlt)
  have hkd := kind_bd (hg.2 q hlt)
  have ie := (Ne.same (m' := h2.next) (h' := h4) (fun r hr => (fr r byO byO).trans byGo) (Nat.le_refl _)).i q hlt
  have ie : h4.loadN (aadd ⟨re, 0, none⟩ (q * 1)) 1 = some [.int .i64 (errAt B.f q)] := by rw [Nat.mul_one]; exact ie
  have ik := i1.same s4 (fun h => by have := r1 h; omega) q hlt
  have le := e1 byO
  have l0 : h4.loadN (aadd (aadd B.a (q * 4)) 0) 1 = some [.int .i64 (B.f q).k] := load_part ik rfl
  have l2' : h4.loadN (aadd (aadd B.a (q * 4)) 2) 1 = some [.int .i64 (B.f q).a] := load_part ik rfl
  have lr := r1 byO
  have sB : tB B.f (q + 1) = tB B.f q + (if errAt B.f q = 0 ∧ (B.f q).k = 0 then (B.f q).a else 0) := rfl
  have sR : tR B.f (q + 1) = tR B.f q + (if errAt B.f q = 0 ∧ (B.f q).k = 3 then 1 else 0) := rfl
  have sP : tP B.f (q + 1) = tP B.f q + (if errAt B.f q = 0 ∧ (B.f q).k = 6 then (B.f q).a else 0) := rfl
  generalize errAt B.f q = eq at ie sB sR sP
  by_cases c0 : eq = 0
  rotate_left
  ·rw [if_neg (fun h => c0 h.1)] at sB sR sP
   (refine byRun ?_)
   exact hK (q + 1) _ _ ⟨rfl, rfl, rfl, int_of rfl byO, int_of rfl byO, int_of rfl byO, int_of rfl byO, trivial⟩ ⟨bySame, fun r h1 h2 => (get_of fun y hy => byGet).trans (fr r h1 h2), byOm, by omega, byGet⟩ byO
  subst c0
  by_cases c1 : (B.f q).k = 0
  ·rw [if_pos ⟨rfl, c1⟩] at sB
   rw [if_neg byO] at sR sP
   have hd0 := hd.1 c1
   (refine byRun ?_)
   exact hK (q + 1) _ _ ⟨rfl, rfl, rfl, int_of rfl byO, int_of rfl byO, int_of rfl byO, int_of rfl byO, trivial⟩ ⟨bySame, fun r h1 h2 => (get_of fun y hy => byGet).trans (fr r h1 h2), byOm, by omega, byGet⟩ byO
  by_cases c3 : (B.f q).k = 3
  ·rw [if_pos ⟨rfl, c3⟩] at sR
   rw [if_neg byO] at sB sP
   (refine byRun ?_)
   exact hK (q + 1) _ _ ⟨rfl, rfl, rfl, int_of rfl byO, int_of rfl byO, int_of rfl byO, int_of rfl byO, trivial⟩ ⟨bySame, fun r h1 h2 => (get_of fun y hy => byGet).trans (fr r h1 h2), byOm, by omega, byGet⟩ byO
  by_cases c6 : (B.f q).k = 6
  ·rw [if_pos ⟨rfl, c6⟩] at sP
   rw [if_neg byO] at sB sR
   have hd6 := hd.2.2.2.2.1 c6
   (refine byRun ?_)
   exact hK (q + 1) _ _ ⟨rfl, rfl, rfl, int_of rfl byO, int_of rfl byO, int_of rfl byO, int_of rfl byO, trivial⟩ ⟨bySame, fun r h1 h2 => (get_of fun y hy => byGet).trans (fr r h1 h2), byOm, by omega, byGet⟩ byO
  ·rw [if_neg byO] at sB sR sP
   (refine byRun ?_)
   exact hK (q + 1) _ _ ⟨rfl, rfl, rfl, int_of rfl byO, int_of rfl byO, int_of rfl byO, int_of rfl byO, trivial⟩ ⟨bySame, fun r h1 h2 => (get_of fun y hy => byGet).trans (fr r h1 h2), byOm, by omega, byGet⟩ byO
 obtain rfl : q = B.n := by omega
 clear hK
 have os := ok.stock
 have ol := ok.lost
 have cs1 := bal.wax
 have cs2 := bal.runs
 have cs3 := bal.paid

 have hmem : ∀ x ∈ sortM S.ms, x ∈ S.ms := fun x hx => (sortM_perm S.ms).mem_iff.1 hx
 have wbd : ∀ q, 0 ≤ sumL wM ((sortM S.ms).take q) ∧ sumL wM ((sortM S.ms).take q) ≤ 60000000 := fun q => by
  have := sum_bd (g := wM) (c := 1000000) byO (l := (sortM S.ms).take q) fun x hx => by
   have := (ok.ms x (hmem x (List.mem_of_mem_take hx))).wax
   unfold wM
   split <;> omega
  have h2 : ((sortM S.ms).take q).length ≤ 60 := by rw [List.length_take, hl]; omega
  omega
 have rbd : ∀ q, 0 ≤ sumL Mdl.runs ((sortM S.ms).take q) ∧ sumL Mdl.runs ((sortM S.ms).take q) ≤ 3600 := fun q => by
  have := sum_bd (g := Mdl.runs) (c := 60) byO (l := (sortM S.ms).take q) fun x hx => by
   have := (ok.ms x (hmem x (List.mem_of_mem_take hx))).runs
   omega
  have h2 : ((sortM S.ms).take q).length ≤ 60 := by rw [List.length_take, hl]; omega
  omega
 have pbd : ∀ q, 0 ≤ sumL Mdl.paid ((sortM S.ms).take q) ∧ sumL Mdl.paid ((sortM S.ms).take q) ≤ 3600000000000 := fun q => by
  have := sum_bd (g := Mdl.paid) (c := 60000000000) byO (l := (sortM S.ms).take q) fun x hx => by
   have := (ok.ms x (hmem x (List.mem_of_mem_take hx))).paid
   omega
  have h2 : ((sortM S.ms).take q).length ≤ 60 := by rw [List.length_take, hl]; omega
  omega
 have gs5 := gs4.frame (h' := h4) fun h0 => fr rs (by have := bs2 h0; omega) (by have := bs2 h0; omega)
 have kS := (gx_rd (m := h3.next) gs5 (cM8_one _) (fun h0 => (bs2 h0).2) byO).rd0
 have B4 : B.Ok m h4 := Bk.Ok.same (m := m) (h := h) hB0 s4 (Nat.le_refl _)
 have N4 : Ns.Ok ⟨B.n, errAt B.f, some ⟨re, 0, none⟩, ⟨re, 0, none⟩, B.n⟩ h2.next h4 := Ne.same (m' := h2.next) (h' := h4) (fun r hr => (fr r byO byO).trans byGo) (Nat.le_refl _)
 (refine byRun ?_)
 refine wp_loop (fun q : Nat => [(0, .slice B.b B.n B.c), (3, .slice (some ⟨re, 0, none⟩) B.n B.n), (5, .pointer (some ⟨h2.next + 5, 0, none⟩)), (7, .int .i64 (tB B.f B.n)), (8, .int .i64 (tR B.f B.n - sumL Mdl.runs ((sortM S.ms).take q))), (9, .int .i64 (tP B.f B.n - sumL Mdl.paid ((sortM S.ms).take q))), (11, .int .i64 (S.stock + S.lost + sumL wM ((sortM S.ms).take q))), (12, .int .i64 q)])
  (fun q h5 => Same h3.next h4 h5 ∧ h3.next ≤ h5.next ∧ q ≤ S.ms.length ∧ h5.get (h2.next + 5) = some (.cells [.int .i64 S.stock, .int .i64 S.lost, .slice (addrX rs S.ms.length) S.ms.length 0] 30)) (fun q => S.ms.length - q) 0 ⟨rfl, rfl, rfl, rfl, int_of rfl (by simp [sumL]), int_of rfl (by simp [sumL]), int_of rfl (by simp [sumL]), rfl, trivial⟩ ⟨bySame, byOm, by omega, byGet⟩ ?_
 rintro q g h5 ⟨s5, n5, hq, x5'⟩ K hK
 have ws := wbd q
 have rs' := rbd q
 have ps' := pbd q
 by_cases hlt : q < S.ms.length
 ·obtain ⟨y, hy⟩ : ∃ y, (sortM S.ms)[q]? = some y := ⟨_, List.getElem?_eq_getElem (by rw [hl]; exact hlt)⟩
  have hyo := ok.ms y (hmem y (List.mem_of_getElem? hy))
  obtain ⟨y1, y2, y3, y4, y5, y6, y7, y8, y9⟩ := hyo
  have hyb := bal.m y (hmem y (List.mem_of_getElem? hy))
  obtain ⟨⟨z1, z2, z3, z4⟩, z5, z6, z7, z8⟩ := hyb
  have hcb : y.claimed ≤ y.billed := by
   rw [z5, z6]
   refine sumL_le fun r hr => ?_
   have := (bal.rs r hr).1
   unfold kR cR
   by_cases hn : r.no = y.no
   ·rw [if_pos hn]; split <;> omega
   ·rw [if_neg hn, if_neg (fun h => hn h.1)]; exact Int.le_refl _
  have sw := sum_take wM hy
  have sr := sum_take Mdl.runs hy
  have sp := sum_take Mdl.paid hy
  obtain ⟨ka, eb, kab, ea⟩ := (kS.same (m' := h3.next) s5 (Nat.le_refl _)) byO
  have e8 := ea _ _ _ (cut_cellsOf (g := mC8) (w := 8) (fun _ => rfl) hy)
  unfold mC8 at e8
  rw [eb] at x5'
  have hprev : 0 < q → ∃ no : Int, no < y.no ∧ h5.loadN (aadd (aadd ka ((q - 1) * 8)) 0) 1 = some [.int .i64 no] := fun h0 => by
   obtain ⟨x, hx⟩ : ∃ x, (sortM S.ms)[q - 1]? = some x := ⟨_, List.getElem?_eq_getElem (by rw [hl]; omega)⟩
   refine ⟨x.no, sorted_lt ok.mn hx (by rw [show q - 1 + 1 = q by omega]; exact hy), ?_⟩
   have := ea _ _ _ (cut_cellsOf (g := mC8) (w := 8) (fun _ => rfl) hx)
   exact load_part this rfl
  clear ea
  have B5 := B4.same (m' := m) (h' := h5) (s5.mono byO) (Nat.le_refl _)
  have N5 := N4.same (m' := h2.next) (h' := h5) (s5.mono byO) (Nat.le_refl _)
  by_cases h0 : 0 < q
  ·obtain ⟨no, hno, lno⟩ := hprev h0
   by_cases hst : y.stage = 1
   ·rw [show wM y = y.wax from if_pos hst] at sw
    (refine byRun ?_)
    apply q_callv
    focus (exact byNext)
    focus (exact byLo)
    focus exact billed_w (E := ⟨B.n, errAt B.f, some ⟨re, 0, none⟩, ⟨re, 0, none⟩, B.n⟩) (no := y.no) (m := h3.next) byOm (B5.same (m' := h3.next) bySame byO) (N5.same (m' := h3.next) bySame byO) hg rfl (fun i hi => rfl)
    intro h6 q6 n6
    rw [show (bf B.f y.no B.n).2 = y.billed by rw [z8]]
    (refine byRun ?_)
    exact hK (q + 1) _ _ ⟨rfl, rfl, rfl, rfl, int_of rfl byO, int_of rfl byO, int_of rfl byO, int_of rfl byO, trivial⟩ ⟨bySame, byOm, by omega, byGet⟩ byO
   ·rw [show wM y = 0 from if_neg hst] at sw
    (refine byRun ?_)
    apply q_callv
    focus (exact byNext)
    focus (exact byLo)
    focus exact billed_w (E := ⟨B.n, errAt B.f, some ⟨re, 0, none⟩, ⟨re, 0, none⟩, B.n⟩) (no := y.no) (m := h3.next) byOm (B5.same (m' := h3.next) bySame byO) (N5.same (m' := h3.next) bySame byO) hg rfl (fun i hi => rfl)
    intro h6 q6 n6
    rw [show (bf B.f y.no B.n).2 = y.billed by rw [z8]]
    (refine byRun ?_)
    exact hK (q + 1) _ _ ⟨rfl, rfl, rfl, rfl, int_of rfl byO, int_of rfl byO, int_of rfl byO, int_of rfl byO, trivial⟩ ⟨bySame, byOm, by omega, byGet⟩ byO
  ·have hq0 : q = 0 := by omega
   by_cases hst : y.stage = 1
   ·rw [show wM y = y.wax from if_pos hst] at sw
    (refine byRun ?_)
    apply q_callv
    focus (exact byNext)
    focus (exact byLo)
    focus exact billed_w (E := ⟨B.n, errAt B.f, some ⟨re, 0, none⟩, ⟨re, 0, none⟩, B.n⟩) (no := y.no) (m := h3.next) byOm (B5.same (m' := h3.next) bySame byO) (N5.same (m' := h3.next) bySame byO) hg rfl (fun i hi => rfl)
    intro h6 q6 n6
    rw [show (bf B.f y.no B.n).2 = y.billed by rw [z8]]
    (refine byRun ?_)
    exact hK (q + 1) _ _ ⟨rfl, rfl, rfl, rfl, int_of rfl byO, int_of rfl byO, int_of rfl byO, int_of rfl byO, trivial⟩ ⟨bySame, byOm, by omega, byGet⟩ byO
   ·rw [show wM y = 0 from if_neg hst] at sw
    (refine byRun ?_)
    apply q_callv
    focus (exact byNext)
    focus (exact byLo)
    focus exact billed_w (E := ⟨B.n, errAt B.f, some ⟨re, 0, none⟩, ⟨re, 0, none⟩, B.n⟩) (no := y.no) (m := h3.next) byOm (B5.same (m' := h3.next) bySame byO) (N5.same (m' := h3.next) bySame byO) hg rfl (fun i hi => rfl)
    intro h6 q6 n6
    rw [show (bf B.f y.no B.n).2 = y.billed by rw [z8]]
    (refine byRun ?_)
    exact hK (q + 1) _ _ ⟨rfl, rfl, rfl, rfl, int_of rfl byO, int_of rfl byO, int_of rfl byO, int_of rfl byO, trivial⟩ ⟨bySame, byOm, by omega, byGet⟩ byO
 obtain rfl : q = S.ms.length := by omega
 clear hK
 rw [List.take_of_length_le (by rw [hl]; exact Nat.le_refl _)] at ws rs' ps' ⊢
 rw [sumL_perm _ (sortM_perm S.ms)] at ws rs' ps' ⊢
 rw [sumL_perm _ (sortM_perm S.ms), sumL_perm _ (sortM_perm S.ms)]
 (refine byRun ?_)
 apply q_callv
 focus (exact byNext)
 focus (exact byLo)
 focus exact works_w
 intro h6 q6 n6
 (refine byRun ?_)
 (refine byFin ?_)
 rfl
end AE.Tryz
