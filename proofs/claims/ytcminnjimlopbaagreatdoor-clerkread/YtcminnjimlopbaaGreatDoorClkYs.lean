/- Clerk, walked: the law Sealed. -/
import Derived.Test.YtcminnjimlopbaaGreatDoorClkWk
import Derived.Test.YtcminnjimlopbaaGreatDoorClkDf
set_option linter.unusedVariables false
set_option linter.unusedSimpArgs false
set_option linter.unusedSectionVars false
namespace AE.Tryz
open Go AE Go.Proofs AE.Clerk
set_option maxRecDepth 100000
set_option linter.unusedVariables false

theorem mod_nat {z : Int} {n : Nat} (h : 0 < n) : ∃ j : Nat, z % (n : Int) = j ∧ j < n := ⟨(z % (n : Int)).toNat, by
 have := Int.emod_nonneg z (show (n : Int) ≠ 0 by omega)
 omega, by
 have := Int.emod_lt_of_pos z (show 0 < (n : Int) by omega)
 have := Int.emod_nonneg z (show (n : Int) ≠ 0 by omega)
 omega⟩
theorem NumL.cells {m : Nat} {h : H} {l : List Int} {b : Option Addr} {a : Addr} {c : Nat} (k : NumL m h l b a c) (hc : c < far) : Cells h 1 l.length (.slice b l.length c) (cI l) := by
 refine ⟨rfl, fun h0 => ?_, by rw [cI_len]; omega, cI_one l⟩
 rw [k.e h0]
 simp only [acells]
 rw [if_neg byO, Nat.mul_one, k.i.load h0]
 congr 1
 have := cellsOf_rows (fun z : Int => [Value.int .i64 z]) l 0
 rw [cI_cells, this]
 unfold iCells
 rfl
theorem gat_num {r n m : Nat} {h : H} {e : TypeId} {l : List Int} {a : Addr} (G : GAt r h e 1 n (cI l) (some a)) (hr : r < m) : NumL m h l (some a) a 0 := by
 refine ⟨fun _ => rfl, fun i hi => ?_, fun _ => ?_⟩
 ·have hj : l[i]? = some (l.getD i 0) := getD_some hi
  have := gat_int G hj
  rw [Nat.mul_one] at this
  exact this
 ·obtain ⟨a', e1, e2, -, -⟩ := G.load
  simp only [Option.some.injEq] at e1
  rw [e1, e2]
  exact hr
theorem checkReceipt_wn {h : H} {m n' : Nat} {sl : Int} {x : Ln} {i n : Int} {ys : List Int} {b : Option Addr} {a : Addr} {c : Nat} (en : n' = ys.length) (hm : m ≤ h.next) (hi : -9223372036854775808 ≤ i ∧ i ≤ 9223372036854775807) (hn : -9223372036854775808 ≤ n ∧ n ≤ 9223372036854775807) (hys : n' ≤ 9223372036854775807) (k : NumL m h ys b a c) :
 AW Tryz.prog 28 h.next h [.int .i64 sl, .agg ⟨x.cells⟩, .agg ⟨[.int .i64 i, .int .i64 n, .slice b n' c]⟩] (fun v _ => v = .int .i64 (ckErr sl x i n ys)) := by
 subst en
 exact checkReceipt_w hm hi hn hys k
set_option maxHeartbeats 8000000 in
theorem sealed_law {h : H} {B : Bk} {m : Nat} {wz az bz : Int} {y : Ln} (hm : m ≤ h.next) (hB : B.Ok m h) (hw : 0 ≤ wz ∧ wz < 256) (ha : 0 ≤ az ∧ az < 256) (hb : 0 ≤ bz ∧ bz < 4294967296) : AW Tryz.prog 7 h.next h [.slice B.b B.n B.c, .int .u8 wz, .agg ⟨y.cells⟩, .int .u8 az, .int .u32 bz] (fun v _ => v = .bool true) := by
 refine fun7.call rfl (Nat.le_refl _) ?_
 unfold a7 Ln.cells
 have hbl := hB.l
 (refine byRun ?_)
 apply q_callv
 focus (exact byNext)
 focus (exact byLo)
 focus exact right_w (m := m) byOm (hB.same (m' := m) bySame (Nat.le_refl _))
 intro h1 q1 n1
 by_cases hg : Good B.n B.f
 rotate_left
 ·rw [decide_eq_false hg]
  (refine byRun ?_)
  apply q_callv
  focus (exact byNext)
  focus (exact byLo)
  focus exact works_w
  intro h2 q2 n2
  (refine byRun ?_)
  (refine byFin ?_)
  rfl
 rw [decide_eq_true hg]
 have h60 := hg.1
 by_cases h0 : B.n = 0
 ·(refine byRun ?_)
  apply q_callv
  focus (exact byNext)
  focus (exact byLo)
  focus exact works_w
  intro h2 q2 n2
  (refine byRun ?_)
  (refine byFin ?_)
  rfl
 obtain ⟨j, hj, hjn⟩ := mod_nat (z := wz) (show 0 < B.n by omega)
 (refine byRun ?_)
 rw [hj]
 apply q_callv
 focus (exact byNext)
 focus (exact byLo)
 focus exact root_api (m := m) byOm (hB.same (m' := m) bySame (Nat.le_refl _))
 intro h2 q2 n2
 rw [show rootR B.n B.f = .tuple #[.int .i64 (root B.f 0 B.n), .int .i64 0] by unfold rootR; rw [if_pos hg, bookErr_ok.2 hg]]
 have hz := root_bd B.f 0 B.n
 (refine byRun ?_)
 apply q_call
 focus (exact byNext)
 focus (exact byLo)
 focus exact receipt_w (i := (j : Int)) (m := m) byOm (hB.same (m' := m) bySame (Nat.le_refl _)) byO
 rintro v h3 hv q3 n3
 unfold RecR at hv
 rw [if_pos hg, if_pos byO, Int.toNat_natCast] at hv
 obtain ⟨b, a, c, rfl, nl, cf, sg⟩ := hv
 have hlen : (besideL B.f B.n j).length = (parts 0 B.n j).length := besideL_len
 have hl60 : (besideL B.f B.n j).length ≤ 60 := by rw [hlen]; have := parts_len (a := 0) (n := B.n) (i := j) byO; omega
 have sgl : 0 < (besideL B.f B.n j).length → h2.next + 9 ≤ a.block ∧ a.block < h3.next := fun h => by have := (sg h).1; have := nl.r h; simp only [put_next, bump_next] at *; omega
 have sgS : 0 < (besideL B.f B.n j).length → SlG a (besideL B.f B.n j).length c := fun h => (sg h).2
 clear sg
 have lj : (h3.loadN (aadd B.a (j * 4)) 4) = some (B.f j).cells := (hB.same (m' := m) (h' := h3) bySame (Nat.le_refl _)).i j hjn
 unfold Ln.cells at lj
 have le := hB.e
 have lr := hB.r byO
 (refine byRun ?_)
 apply q_callv
 focus (exact byNext)
 focus (exact byLo)
 focus exact text_api (x := B.f j)
 intro h4 q4 n4
 rw [show textR (B.f j) = .tuple #[.string (bs (B.f j).text), .int .i64 0] from if_pos (hg.2 j hjn)]
 have x14 : h4.get (h2.next + 6) = some (.cells [.int .i64 j, .int .i64 B.n, .slice b (besideL B.f B.n j).length c] 45) := by (exact byGet)
 have nl4 := nl.get' (m' := h4.next) (h' := h4) (fun h => get_of fun y hy => by have := sgl h; (exact byGet)) (fun h => by have := sgl h; (exact byOm))
 have s4 : Same m h h4 := by (exact bySame)
 have n24 : h2.next + 9 ≤ h4.next ∧ h.next ≤ h2.next := by (exact byOm)
 have lj4 : (h4.loadN (aadd B.a (j * 4)) 4) = some (B.f j).cells := (hB.same s4 (Nat.le_refl _)).i j hjn
 unfold Ln.cells at lj4
 have x7 : h4.get h.next = some (.cells [.int .i64 y.k, .int .i64 y.m, .int .i64 y.a, .int .i64 y.b] 38) := by (exact byGet)
 have ckg := ck_good hg hjn
 clear lj nl q1 q2 q3 q4
 unfold Clerk.P at hz
 (refine byRun ?_)
 apply q_callv
 focus (exact byNext)
 focus (exact byLo)
 focus exact checkReceipt_w (x := B.f j) (m := h4.next) byOm byO byO byO (nl4.same (m' := h4.next) bySame (Nat.le_refl _))
 intro h5 q5 n5
 rw [ckg]
 (refine byRun ?_)
 apply q_callv
 focus (exact byNext)
 focus (exact byLo)
 focus exact rcheckReceipt_w (x := B.f j) (m := h4.next) byOm byO byO byO (nl4.same (m' := h4.next) bySame (Nat.le_refl _)) sgS
 intro h6 q6 n6
 rw [ckg]
 (refine byRun ?_)
 apply q_callv
 focus (exact byNext)
 focus (exact byLo)
 focus exact text_api (x := y)
 intro h7 q7 n7
 by_cases hy : y.Valid 1099511627776
 rotate_left
 ·rw [show textR y = .tuple #[.string ⟨#[]⟩, .int .i64 2] from if_neg hy]
  have s7 : Same m h h7 := by (exact bySame)
  have x14X : h7.get (h2.next + 6) = some (.cells [.int .i64 j, .int .i64 B.n, .slice b (besideL B.f B.n j).length c] 45) := by (exact byGet)
  have nlX := nl4.get' (m' := h7.next) (h' := h7) (fun h => get_of fun y hy => by have := sgl h; (exact byGet)) (fun h => by have := sgl h; (exact byOm))
  have nX : h3.next ≤ h7.next := by (exact byOm)
  have ljX : (h7.loadN (aadd B.a (j * 4)) 4) = some (B.f j).cells := (hB.same s7 (Nat.le_refl _)).i j hjn
  unfold Ln.cells at ljX
  clear nl4 x14 s4 lj4 x7
  have hdz : 0 ≤ bz % 2147483646 ∧ bz % 2147483646 < 2147483646 := ⟨Int.emod_nonneg _ (by decide), Int.emod_lt_of_pos _ (by decide)⟩
  have hsl : 0 ≤ (root B.f 0 B.n + (1 + bz % 2147483646)) % 2147483647 ∧ (root B.f 0 B.n + (1 + bz % 2147483646)) % 2147483647 < 2147483647 := ⟨Int.emod_nonneg _ (by decide), Int.emod_lt_of_pos _ (by decide)⟩
  have hne : (root B.f 0 B.n + (1 + bz % 2147483646)) % 2147483647 ≠ root B.f 0 B.n := by omega
  (refine byRun ?_)
  apply q_callv
  focus (exact byNext)
  focus (exact byLo)
  focus exact checkReceipt_w (x := B.f j) (m := h7.next) byOm byO byO byO (nlX.same (m' := h7.next) bySame (Nat.le_refl _))
  intro ha qa na
  rw [ck_root hg hjn hsl hne]
  by_cases hL : (besideL B.f B.n j).length = 0
  ·(refine byRun ?_)
   apply q_callv
   focus (exact byNext)
   focus (exact byLo)
   focus exact works_w
   intro hw qw nw
   (refine byRun ?_)
   (refine byFin ?_)
   rfl
  obtain ⟨k, hk, hkl⟩ := mod_nat (z := az) (show 0 < (besideL B.f B.n j).length by omega)
  have sgl' := sgl byO
  have x14a : ha.get (h2.next + 6) = some (.cells [.int .i64 j, .int .i64 B.n, .slice b (besideL B.f B.n j).length c] 45) := by (exact byGet)
  have nla := nlX.get' (m' := ha.next) (h' := ha) (fun h => get_of fun y hy => byGet) (fun h => byOm)
  have sa : Same m h ha := by (exact bySame)
  have na3 : h3.next ≤ ha.next := by (exact byOm)
  clear nlX x14X ljX s7 qa
  (refine byRun ?_)
  rw [hk]
  apply q_appNew (r0 := ha.next + 15) (n := (besideL B.f B.n j).length) (nc := cI (besideL B.f B.n j))
  case hsv => exact rfl
  case hg => (exact byGet)
  case C => exact (nla.get' (m' := ha.next) (fun h => get_of fun y hy => byGet) (fun h => by omega)).cells cf
  case hlo => omega
  case hnx => (exact byOm)
  case hsm => omega
  rintro d hb' gd qd nd -
  have nd' : ha.next + 22 ≤ hb'.next := by rw [nd]; (exact byOm)
  clear nd
  obtain ⟨-, gd⟩ : 0 < (besideL B.f B.n j).length ∧ GAt (ha.next + 18) hb' 2 1 (besideL B.f B.n j).length (cI (besideL B.f B.n j)) d := ⟨by omega, gd.elim (fun h => absurd h.1 hL) (·.2)⟩
  obtain ⟨da, rfl, db, -, -⟩ := gd.load
  have hLk : (besideL B.f B.n j)[k]? = some ((besideL B.f B.n j).getD k 0) := getD_some hkl
  have hLb := btw_bd.1 (besideL_all (f := B.f) (n := B.n) (i := j) _ (getD_mem hkl))
  have hbd := ck_beside hg hjn hkl (z := ((besideL B.f B.n j).getD k 0 + (1 + bz % 2147483646)) % 2147483647) ⟨Int.emod_nonneg _ (by decide), Int.emod_lt_of_pos _ (by decide)⟩ (by unfold Clerk.P at hLb; omega)
  have hset : cI ((besideL B.f B.n j).set k (((besideL B.f B.n j).getD k 0 + (1 + bz % 2147483646)) % 2147483647)) = splice (cI (besideL B.f B.n j)) (k * 1) [.int .i64 (((besideL B.f B.n j).getD k 0 + (1 + bz % 2147483646)) % 2147483647)] := (cI_set hkl).symm
  have ldk := gat_int gd hLk
  unfold Clerk.P at hLb
  have sb : Same m h hb' := by (exact bySame)
  have ljb : (hb'.loadN (aadd B.a (j * 4)) 4) = some (B.f j).cells := (hB.same sb (Nat.le_refl _)).i j hjn
  unfold Ln.cells at ljb
  have hl5 : ((besideL B.f B.n j).set k (((besideL B.f B.n j).getD k 0 + (1 + bz % 2147483646)) % 2147483647)).length = (besideL B.f B.n j).length := List.length_set ..
  generalize (besideL B.f B.n j).getD k 0 = lk at *
  (refine byRun ?_)
  apply q_stoG (r := ha.next + 18) (n := (besideL B.f B.n j).length) (m := 1) (off := k * 1) (cs := cI (besideL B.f B.n j)) (vs := [.int .i64 ((lk + (1 + bz % 2147483646)) % 2147483647)]) (gd.frame byGo) byO rfl rfl (by rw [cI_len]; omega)
  intro row ge
  rw [← hset] at ge
  (refine byRun ?_)
  apply q_callv
  focus (exact byNext)
  focus (exact byLo)
  focus exact checkReceipt_wn (x := B.f j) hl5.symm (m := hb'.next) byOm byO byO byO (gat_num (ge.frame byGo) byO)
  intro hc qc nc
  rw [hbd]
  (refine byRun ?_)
  apply q_callv
  focus (exact byNext)
  focus (exact byLo)
  focus exact works_w
  intro hw qw nw
  (refine byRun ?_)
  (refine byFin ?_)
  rfl
 rw [show textR y = .tuple #[.string (bs y.text), .int .i64 0] from if_pos hy]
 have lt1 := text_len47 hy
 have lt2 := text_len47 (hg.2 j hjn)
 (refine byRun ?_)
 apply q_callv
 focus (exact byNext)
 focus (exact byLo)
 focus exact near_w (by rw [bs_len]; omega) (by rw [bs_len]; omega)
 intro h8 q8 n8
 rw [nats_bs (text_lt _), nats_bs (text_lt _), bs_len, bs_len]
 by_cases hnear : (B.f j).text.length = y.text.length ∧ difN (B.f j).text y.text (B.f j).text.length = 1
 rotate_left
 ·rw [decide_eq_false hnear]
  have s7 : Same m h h8 := by (exact bySame)
  have x14X : h8.get (h2.next + 6) = some (.cells [.int .i64 j, .int .i64 B.n, .slice b (besideL B.f B.n j).length c] 45) := by (exact byGet)
  have nlX := nl4.get' (m' := h8.next) (h' := h8) (fun h => get_of fun y hy => by have := sgl h; (exact byGet)) (fun h => by have := sgl h; (exact byOm))
  have nX : h3.next ≤ h8.next := by (exact byOm)
  have ljX : (h8.loadN (aadd B.a (j * 4)) 4) = some (B.f j).cells := (hB.same s7 (Nat.le_refl _)).i j hjn
  unfold Ln.cells at ljX
  clear nl4 x14 s4 lj4 x7
  have hdz : 0 ≤ bz % 2147483646 ∧ bz % 2147483646 < 2147483646 := ⟨Int.emod_nonneg _ (by decide), Int.emod_lt_of_pos _ (by decide)⟩
  have hsl : 0 ≤ (root B.f 0 B.n + (1 + bz % 2147483646)) % 2147483647 ∧ (root B.f 0 B.n + (1 + bz % 2147483646)) % 2147483647 < 2147483647 := ⟨Int.emod_nonneg _ (by decide), Int.emod_lt_of_pos _ (by decide)⟩
  have hne : (root B.f 0 B.n + (1 + bz % 2147483646)) % 2147483647 ≠ root B.f 0 B.n := by omega
  (refine byRun ?_)
  apply q_callv
  focus (exact byNext)
  focus (exact byLo)
  focus exact checkReceipt_w (x := B.f j) (m := h8.next) byOm byO byO byO (nlX.same (m' := h8.next) bySame (Nat.le_refl _))
  intro ha qa na
  rw [ck_root hg hjn hsl hne]
  by_cases hL : (besideL B.f B.n j).length = 0
  ·(refine byRun ?_)
   apply q_callv
   focus (exact byNext)
   focus (exact byLo)
   focus exact works_w
   intro hw qw nw
   (refine byRun ?_)
   (refine byFin ?_)
   rfl
  obtain ⟨k, hk, hkl⟩ := mod_nat (z := az) (show 0 < (besideL B.f B.n j).length by omega)
  have sgl' := sgl byO
  have x14a : ha.get (h2.next + 6) = some (.cells [.int .i64 j, .int .i64 B.n, .slice b (besideL B.f B.n j).length c] 45) := by (exact byGet)
  have nla := nlX.get' (m' := ha.next) (h' := ha) (fun h => get_of fun y hy => byGet) (fun h => byOm)
  have sa : Same m h ha := by (exact bySame)
  have na3 : h3.next ≤ ha.next := by (exact byOm)
  clear nlX x14X ljX s7 qa
  (refine byRun ?_)
  rw [hk]
  apply q_appNew (r0 := ha.next + 15) (n := (besideL B.f B.n j).length) (nc := cI (besideL B.f B.n j))
  case hsv => exact rfl
  case hg => (exact byGet)
  case C => exact (nla.get' (m' := ha.next) (fun h => get_of fun y hy => byGet) (fun h => by omega)).cells cf
  case hlo => omega
  case hnx => (exact byOm)
  case hsm => omega
  rintro d hb' gd qd nd -
  have nd' : ha.next + 22 ≤ hb'.next := by rw [nd]; (exact byOm)
  clear nd
  obtain ⟨-, gd⟩ : 0 < (besideL B.f B.n j).length ∧ GAt (ha.next + 18) hb' 2 1 (besideL B.f B.n j).length (cI (besideL B.f B.n j)) d := ⟨by omega, gd.elim (fun h => absurd h.1 hL) (·.2)⟩
  obtain ⟨da, rfl, db, -, -⟩ := gd.load
  have hLk : (besideL B.f B.n j)[k]? = some ((besideL B.f B.n j).getD k 0) := getD_some hkl
  have hLb := btw_bd.1 (besideL_all (f := B.f) (n := B.n) (i := j) _ (getD_mem hkl))
  have hbd := ck_beside hg hjn hkl (z := ((besideL B.f B.n j).getD k 0 + (1 + bz % 2147483646)) % 2147483647) ⟨Int.emod_nonneg _ (by decide), Int.emod_lt_of_pos _ (by decide)⟩ (by unfold Clerk.P at hLb; omega)
  have hset : cI ((besideL B.f B.n j).set k (((besideL B.f B.n j).getD k 0 + (1 + bz % 2147483646)) % 2147483647)) = splice (cI (besideL B.f B.n j)) (k * 1) [.int .i64 (((besideL B.f B.n j).getD k 0 + (1 + bz % 2147483646)) % 2147483647)] := (cI_set hkl).symm
  have ldk := gat_int gd hLk
  unfold Clerk.P at hLb
  have sb : Same m h hb' := by (exact bySame)
  have ljb : (hb'.loadN (aadd B.a (j * 4)) 4) = some (B.f j).cells := (hB.same sb (Nat.le_refl _)).i j hjn
  unfold Ln.cells at ljb
  have hl5 : ((besideL B.f B.n j).set k (((besideL B.f B.n j).getD k 0 + (1 + bz % 2147483646)) % 2147483647)).length = (besideL B.f B.n j).length := List.length_set ..
  generalize (besideL B.f B.n j).getD k 0 = lk at *
  (refine byRun ?_)
  apply q_stoG (r := ha.next + 18) (n := (besideL B.f B.n j).length) (m := 1) (off := k * 1) (cs := cI (besideL B.f B.n j)) (vs := [.int .i64 ((lk + (1 + bz % 2147483646)) % 2147483647)]) (gd.frame byGo) byO rfl rfl (by rw [cI_len]; omega)
  intro row ge
  rw [← hset] at ge
  (refine byRun ?_)
  apply q_callv
  focus (exact byNext)
  focus (exact byLo)
  focus exact checkReceipt_wn (x := B.f j) hl5.symm (m := hb'.next) byOm byO byO byO (gat_num (ge.frame byGo) byO)
  intro hc qc nc
  rw [hbd]
  (refine byRun ?_)
  apply q_callv
  focus (exact byNext)
  focus (exact byLo)
  focus exact works_w
  intro hw qw nw
  (refine byRun ?_)
  (refine byFin ?_)
  rfl
 rw [decide_eq_true hnear]
 have ckl := ck_leaf hg hjn hy (dif_one hnear.1 hnear.2)
 have x14y : h8.get (h2.next + 6) = some (.cells [.int .i64 j, .int .i64 B.n, .slice b (besideL B.f B.n j).length c] 45) := by (exact byGet)
 have x7y : h8.get h.next = some (.cells [.int .i64 y.k, .int .i64 y.m, .int .i64 y.a, .int .i64 y.b] 38) := by (exact byGet)
 have nly := nl4.get' (m' := h8.next) (h' := h8) (fun h => get_of fun y hy => by have := sgl h; (exact byGet)) (fun h => by have := sgl h; (exact byOm))
 (refine byRun ?_)
 apply q_callv
 focus (exact byNext)
 focus (exact byLo)
 focus exact checkReceipt_w (x := y) (m := h8.next) byOm byO byO byO (nly.same (m' := h8.next) bySame (Nat.le_refl _))
 intro h9 q9 n9
 rw [ckl]
 have s7 : Same m h h9 := by (exact bySame)
 have x14X : h9.get (h2.next + 6) = some (.cells [.int .i64 j, .int .i64 B.n, .slice b (besideL B.f B.n j).length c] 45) := by (exact byGet)
 have nlX := nl4.get' (m' := h9.next) (h' := h9) (fun h => get_of fun y hy => by have := sgl h; (exact byGet)) (fun h => by have := sgl h; (exact byOm))
 have nX : h3.next ≤ h9.next := by (exact byOm)
 have ljX : (h9.loadN (aadd B.a (j * 4)) 4) = some (B.f j).cells := (hB.same s7 (Nat.le_refl _)).i j hjn
 unfold Ln.cells at ljX
 clear nl4 x14 s4 lj4 x7
 have hdz : 0 ≤ bz % 2147483646 ∧ bz % 2147483646 < 2147483646 := ⟨Int.emod_nonneg _ (by decide), Int.emod_lt_of_pos _ (by decide)⟩
 have hsl : 0 ≤ (root B.f 0 B.n + (1 + bz % 2147483646)) % 2147483647 ∧ (root B.f 0 B.n + (1 + bz % 2147483646)) % 2147483647 < 2147483647 := ⟨Int.emod_nonneg _ (by decide), Int.emod_lt_of_pos _ (by decide)⟩
 have hne : (root B.f 0 B.n + (1 + bz % 2147483646)) % 2147483647 ≠ root B.f 0 B.n := by omega
 (refine byRun ?_)
 apply q_callv
 focus (exact byNext)
 focus (exact byLo)
 focus exact checkReceipt_w (x := B.f j) (m := h9.next) byOm byO byO byO (nlX.same (m' := h9.next) bySame (Nat.le_refl _))
 intro ha qa na
 rw [ck_root hg hjn hsl hne]
 by_cases hL : (besideL B.f B.n j).length = 0
 ·(refine byRun ?_)
  apply q_callv
  focus (exact byNext)
  focus (exact byLo)
  focus exact works_w
  intro hw qw nw
  (refine byRun ?_)
  (refine byFin ?_)
  rfl
 obtain ⟨k, hk, hkl⟩ := mod_nat (z := az) (show 0 < (besideL B.f B.n j).length by omega)
 have sgl' := sgl byO
 have x14a : ha.get (h2.next + 6) = some (.cells [.int .i64 j, .int .i64 B.n, .slice b (besideL B.f B.n j).length c] 45) := by (exact byGet)
 have nla := nlX.get' (m' := ha.next) (h' := ha) (fun h => get_of fun y hy => byGet) (fun h => byOm)
 have sa : Same m h ha := by (exact bySame)
 have na3 : h3.next ≤ ha.next := by (exact byOm)
 clear nlX x14X ljX s7 qa
 (refine byRun ?_)
 rw [hk]
 apply q_appNew (r0 := ha.next + 15) (n := (besideL B.f B.n j).length) (nc := cI (besideL B.f B.n j))
 case hsv => exact rfl
 case hg => (exact byGet)
 case C => exact (nla.get' (m' := ha.next) (fun h => get_of fun y hy => byGet) (fun h => by omega)).cells cf
 case hlo => omega
 case hnx => (exact byOm)
 case hsm => omega
 rintro d hb' gd qd nd -
 have nd' : ha.next + 22 ≤ hb'.next := by rw [nd]; (exact byOm)
 clear nd
 obtain ⟨-, gd⟩ : 0 < (besideL B.f B.n j).length ∧ GAt (ha.next + 18) hb' 2 1 (besideL B.f B.n j).length (cI (besideL B.f B.n j)) d := ⟨by omega, gd.elim (fun h => absurd h.1 hL) (·.2)⟩
 obtain ⟨da, rfl, db, -, -⟩ := gd.load
 have hLk : (besideL B.f B.n j)[k]? = some ((besideL B.f B.n j).getD k 0) := getD_some hkl
 have hLb := btw_bd.1 (besideL_all (f := B.f) (n := B.n) (i := j) _ (getD_mem hkl))
 have hbd := ck_beside hg hjn hkl (z := ((besideL B.f B.n j).getD k 0 + (1 + bz % 2147483646)) % 2147483647) ⟨Int.emod_nonneg _ (by decide), Int.emod_lt_of_pos _ (by decide)⟩ (by unfold Clerk.P at hLb; omega)
 have hset : cI ((besideL B.f B.n j).set k (((besideL B.f B.n j).getD k 0 + (1 + bz % 2147483646)) % 2147483647)) = splice (cI (besideL B.f B.n j)) (k * 1) [.int .i64 (((besideL B.f B.n j).getD k 0 + (1 + bz % 2147483646)) % 2147483647)] := (cI_set hkl).symm
 have ldk := gat_int gd hLk
 unfold Clerk.P at hLb
 have sb : Same m h hb' := by (exact bySame)
 have ljb : (hb'.loadN (aadd B.a (j * 4)) 4) = some (B.f j).cells := (hB.same sb (Nat.le_refl _)).i j hjn
 unfold Ln.cells at ljb
 have hl5 : ((besideL B.f B.n j).set k (((besideL B.f B.n j).getD k 0 + (1 + bz % 2147483646)) % 2147483647)).length = (besideL B.f B.n j).length := List.length_set ..
 generalize (besideL B.f B.n j).getD k 0 = lk at *
 (refine byRun ?_)
 apply q_stoG (r := ha.next + 18) (n := (besideL B.f B.n j).length) (m := 1) (off := k * 1) (cs := cI (besideL B.f B.n j)) (vs := [.int .i64 ((lk + (1 + bz % 2147483646)) % 2147483647)]) (gd.frame byGo) byO rfl rfl (by rw [cI_len]; omega)
 intro row ge
 rw [← hset] at ge
 (refine byRun ?_)
 apply q_callv
 focus (exact byNext)
 focus (exact byLo)
 focus exact checkReceipt_wn (x := B.f j) hl5.symm (m := hb'.next) byOm byO byO byO (gat_num (ge.frame byGo) byO)
 intro hc qc nc
 rw [hbd]
 (refine byRun ?_)
 apply q_callv
 focus (exact byNext)
 focus (exact byLo)
 focus exact works_w
 intro hw qw nw
 (refine byRun ?_)
 (refine byFin ?_)
 rfl
end AE.Tryz
