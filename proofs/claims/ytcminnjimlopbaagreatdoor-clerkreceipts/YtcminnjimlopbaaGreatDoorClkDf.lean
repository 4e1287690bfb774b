/- Clerk, walked: the definitions' Do. -/
import Derived.Test.YtcminnjimlopbaaGreatDoorJoin43
set_option linter.unusedVariables false
set_option linter.unusedSimpArgs false
set_option linter.unusedSectionVars false
namespace AE.Tryz
open Go AE Go.Proofs AE.Clerk
set_option maxRecDepth 100000
set_option linter.unusedVariables false
theorem cI_app (l : List Int) (z : Int) : cI (l ++ [z]) = cI l ++ [.int .i64 z] := by simp [cI]
theorem q_stoG {lo r sz n m off : Nat} {h : H} {e : TypeId} {cs vs : List Value} {a : Addr} {k : H → Prop} (G : GAt r h e sz n cs (some a)) (hlo : lo ≤ r) (hvl : vs.length = m) (ho : vs.all Value.oneCell' = true) (hle : off + m ≤ cs.length) (hk : ∀ row, GAt r (h.put r row) e sz n (splice cs off vs) (some a) → k (h.put r row)) : Sto lo h (aadd a off) m vs k := by
 obtain ⟨a', e1, -, -, st⟩ := G.load
 simp only [Option.some.injEq] at e1
 subst e1
 obtain ⟨row, hs, G'⟩ := st lo off vs hlo ho (by rw [hvl]; exact hle)
 exact Sto.raw hs hvl (hk row G')
theorem splice_set {α : Type} {g : α → List Value} {w : Nat} (hw : ∀ x, (g x).length = w) : ∀ {l : List α} {j : Nat} {x : α}, j < l.length → splice (cellsOf g l) (j * w) (g x) = cellsOf g (l.set j x)
 | [], _, _, h => by simp at h
 | y :: l, 0, x, _ => by
   have e : cellsOf g (y :: l) = g y ++ cellsOf g l := by simp [cellsOf]
   have e2 : cellsOf g ((y :: l).set 0 x) = g x ++ cellsOf g l := by simp [cellsOf]
   rw [e, e2]
   unfold splice
   rw [Nat.zero_mul, List.take_zero, List.nil_append, Nat.zero_add, hw x, ← hw y, List.drop_left]
 | y :: l, j + 1, x, h => by
   have ih := splice_set hw (l := l) (j := j) (x := x) (by simpa using h)
   have e : cellsOf g (y :: l) = g y ++ cellsOf g l := by simp [cellsOf]
   have e2 : cellsOf g ((y :: l).set (j + 1) x) = g y ++ cellsOf g (l.set j x) := by simp [cellsOf]
   rw [e, e2, ← ih]
   unfold splice
   have hy := hw y
   rw [show (j + 1) * w = (g y).length + j * w by rw [hy, Nat.succ_mul]; omega, List.take_length_add_append, Nat.add_assoc, List.drop_length_add_append]
   simp only [List.append_assoc]
theorem cM_set {S : SD} {i : Nat} {y : Mdl} (hi : i < S.ms.length) : splice (cM S.none0) (i * 8) (mC8 y) = cellsOf mC8 (S.ms.set i y) := splice_set (w := 8) (fun _ => rfl) hi
theorem loss_set {ms : List Mdl} {i : Nat} {y y' : Mdl} (hy : ms[i]? = some y) (e : y'.loss = y.loss) : (ms.set i y').map Mdl.loss = ms.map Mdl.loss := by
 rw [List.map_set]
 apply List.ext_getElem?
 intro j
 rw [List.getElem?_set]
 by_cases hij : i = j
 ·subst hij
  have h2 := (List.getElem?_eq_some_iff.1 hy).1
  simp only [List.length_map, List.getElem?_map, if_true]
  rw [if_pos h2, hy]
  simp [e]
 ·rw [if_neg hij]
theorem sg_mk {lo hi : Nat} {h h' : H} {S S' : SD} {b1 b2 b3 b4 b5 : Option Addr} {a1 r1 a2 r2 a3 r3 a4 r4 a5 r5 i : Nat} {y y' : Mdl} (k : SG lo hi h S.none0 b1 b2 b3 b4 b5 a1 r1 a2 r2 a3 r3 a4 r4 a5 r5) (hy : S.ms[i]? = some y) (e : y'.loss = y.loss) (e1 : S'.ms = S.ms.set i y')
 (G : GAt r1 h' 61 8 S.ms.length (cellsOf mC8 (S.ms.set i y')) b1) (g2 : GE a2 r2 h' 2 1 S.ms.length (cL S.none0) b2) (g3 : GE a3 r3 h' 3 1 S'.rn.length (cI S'.rn) b3) (g4 : GE a4 r4 h' 2 1 S'.co.length (cI S'.co) b4) (g5 : GE a5 r5 h' 3 1 S'.bk.length (cI S'.bk) b5)
 (l3 : S'.rn.length ≤ 100) (l4 : S'.co.length ≤ 100) (l5 : S'.bk.length ≤ 100) : SG lo hi h' S' b1 b2 b3 b4 b5 a1 r1 a2 r2 a3 r3 a4 r4 a5 r5 := by
 have hi1 : i < S.ms.length := (List.getElem?_eq_some_iff.1 hy).1
 have hl : S'.ms.length = S.ms.length := by rw [e1, List.length_set]
 have s1 : S.ms.length ≤ 100 := k.s1
 refine ⟨.inr ⟨by omega, ?_⟩, ?_, g3, g4, g5, k.c, by omega, l3, l4, l5⟩
 ·unfold cM
  rw [hl, e1]
  exact G
 ·rw [hl]
  unfold cL
  rw [e1, loss_set hy e]
  exact g2
theorem gat_int {r n : Nat} {h : H} {e : TypeId} {l : List Int} {a : Addr} {j : Nat} {z : Int} (G : GAt r h e 1 n (cI l) (some a)) (hj : l[j]? = some z) : h.loadN (aadd a (j * 1)) 1 = some [.int .i64 z] := by
 obtain ⟨a', e1, -, ld, -⟩ := G.load
 simp only [Option.some.injEq] at e1
 subst e1
 refine ld _ _ _ ?_
 rw [cI_cells]
 exact cut_cellsOf (g := fun z : Int => [Value.int .i64 z]) (w := 1) (fun _ => rfl) hj
theorem cI_set {l : List Int} {j : Nat} {z : Int} (h : j < l.length) : splice (cI l) (j * 1) [.int .i64 z] = cI (l.set j z) := by
 rw [cI_cells, cI_cells]
 exact splice_set (g := fun z : Int => [Value.int .i64 z]) (w := 1) (fun _ => rfl) h
theorem getD_some {l : List Int} {j : Nat} (h : j < l.length) : l[j]? = some (l.getD j 0) := by
 rw [List.getD_eq_getElem?_getD, List.getElem?_eq_getElem h]
 rfl
theorem stC_none (S : SD) (b1 b2 b3 b4 b5 : Option Addr) : stC S.none0 b1 b2 b3 b4 b5 = [.int .i64 S.stock, .int .i64 S.lost, .slice b1 S.ms.length 0, .slice b2 S.ms.length 0, .slice b3 (S.rn.length + 1) 0, .slice b4 (S.co.length + 1) 0, .slice b5 (S.bk.length + 1) 0] := by
 unfold stC SD.none0
 simp only [List.length_append, List.length_cons, List.length_nil, Nat.zero_add]
def DoR (lo : Nat) (p : SD × Int) (v : Value) (h' : H) : Prop := ∃ cs, v = .tuple #[.agg ⟨cs⟩, .int .i64 p.2] ∧ StP lo p.1 h' cs
theorem copied_none_w {h : H} {S : SD} {m : Nat} {b1 b2 b3 b4 b5 : Option Addr} (hm : m ≤ h.next) (k : SR m h S.none0 b1 b2 b3 b4 b5) :
 AW Tryz.prog 102 h.next h [.agg ⟨[.int .i64 S.stock, .int .i64 S.lost, .slice b1 S.ms.length 0, .slice b2 S.ms.length 0, .slice b3 (S.rn.length + 1) 0, .slice b4 (S.co.length + 1) 0, .slice b5 (S.bk.length + 1) 0]⟩] (fun v h' => ∃ c1 c2 c3 c4 c5 a1 r1 a2 r2 a3 r3 a4 r4 a5 r5, v = .agg ⟨[.int .i64 S.stock, .int .i64 S.lost, .slice c1 S.ms.length 0, .slice c2 S.ms.length 0, .slice c3 (S.rn.length + 1) 0, .slice c4 (S.co.length + 1) 0, .slice c5 (S.bk.length + 1) 0]⟩ ∧ SF h.next h'.next h' S.none0 c1 c2 c3 c4 c5 a1 r1 a2 r2 a3 r3 a4 r4 a5 r5) := by
 have := copied_w hm k
 simp only [stC_none] at this
 exact this
theorem drawn_none_w {h : H} {S : SD} {m : Nat} {b1 b2 b3 b4 b5 : Option Addr} {x : Ln} (hm : m ≤ h.next) (k : SR m h S.none0 b1 b2 b3 b4 b5) (hx : 1 ≤ x.a ∧ x.a ≤ 1000000 ∧ 0 ≤ x.b ∧ x.b ≤ 1000) (hl : S.ms.length ≤ 99) :
 AW Tryz.prog 104 h.next h [.agg ⟨[.int .i64 S.stock, .int .i64 S.lost, .slice b1 S.ms.length 0, .slice b2 S.ms.length 0, .slice b3 (S.rn.length + 1) 0, .slice b4 (S.co.length + 1) 0, .slice b5 (S.bk.length + 1) 0]⟩, .agg ⟨[.int .i64 x.k, .int .i64 x.m, .int .i64 x.a, .int .i64 x.b]⟩] (fun v h' => ∃ cs, v = .agg ⟨cs⟩ ∧ StP h.next { S.none0 with ms := insM S.ms (drawn x) } h' cs) := by
 have := drawn_w hm k hx hl
 simp only [stC_none] at this
 exact this
set_option maxHeartbeats 8000000 in
theorem Do_w {h : H} {S : SD} {B : Bk} {m t : Nat} {b1 b2 b3 b4 b5 : Option Addr} (hm : m ≤ h.next) (k : SR m h S b1 b2 b3 b4 b5) (hB : B.Ok m h) (ht : t < B.n) (h60 : B.n ≤ 60) (l3 : S.rn.length = t) (l4 : S.co.length = t) (l5 : S.bk.length = t) (l1 : S.ms.length ≤ t) (hst : 0 ≤ S.stock ∧ S.stock ≤ 100000000) (hlo : 0 ≤ S.lost ∧ S.lost ≤ 100000000) (hms : ∀ y ∈ S.ms, y.Ok t) (hco : ∀ j, 0 ≤ S.co.getD j 0 ∧ S.co.getD j 0 ≤ 1000000) (hv : (B.f t).Valid 1099511627776) :
 AW Tryz.prog 74 h.next h [.agg ⟨stC S b1 b2 b3 b4 b5⟩, .slice B.b B.n B.c, .int .i64 t] (fun v h' => DoR h.next (doD (B.f t) B.f t S) v h') := by
 have k1 := k.m1
 have k2 := k.m2
 have i3 := hB.i
 have e3 := hB.e
 have r3' := hB.r
 unfold Ln.cells at i3
 refine fun74.call rfl (Nat.le_refl _) ?_
 unfold a74 stC
 (refine byRun ?_)
 apply q_call
 focus (exact byNext)
 focus (exact byLo)
 focus exact copied_w (m := m) byOm (k.same (m' := m) bySame (Nat.le_refl _))
 rintro v h2 ⟨c1, c2, c3, c4, c5, a1, r1, a2, r2, a3, r3, a4, r4, a5, r5, rfl, sf⟩ q2 n2
 unfold stC
 obtain ⟨w1, w2, w3, w4, w5, ⟨wa, wb, wc, wd, we, wf, wg, wh, wi, wj, wk⟩, -, -, -, -⟩ := sf
 have wa' : h.next + 13 ≤ a1 := by (exact byOm)
 clear wa
 (refine byRun ?_)
 apply q_appE (r0 := a3) (r := r3) (n := S.rn.length) (m := 1) (cs := cI S.rn) (nc := [.int .i64 0])
 case G => exact w3.frame (fun _ => get_of fun y hy => byGet) (fun _ => get_of fun y hy => byGet)
 case hsv => exact rfl
 case C =>
  apply Cells.one
  focus (apply loadN_cells; (focus (exact byGet)); (focus exact rfl))
  focus (unfold far; omega)
  focus exact rfl
  focus exact rfl
 case hlo => omega
 case hnx => (exact byOm)
 case hsm => omega
 rintro e3' d3 h3 he3 g3 q3 n3 f3
 have n3' : h2.next + 18 ≤ h3.next := by rw [n3]; (exact byOm)
 have w4' := w4.frame (h' := h3) (fun _ => (f3 a4 byO byO).trans byGo) (fun _ => (f3 r4 byO byO).trans byGo)
 have w5' := w5.frame (h' := h3) (fun _ => (f3 a5 byO byO).trans byGo) (fun _ => (f3 r5 byO byO).trans byGo)
 clear f3 n3
 (refine byRun ?_)
 apply q_appE (r0 := a4) (r := r4) (n := S.co.length) (m := 1) (cs := cI S.co) (nc := [.int .i64 0])
 case G => exact w4'.frame (fun _ => get_of fun y hy => byGet) (fun _ => get_of fun y hy => byGet)
 case hsv => exact rfl
 case C =>
  apply Cells.one
  focus (apply loadN_cells; (focus (exact byGet)); (focus exact rfl))
  focus (unfold far; omega)
  focus exact rfl
  focus exact rfl
 case hlo => omega
 case hnx => (exact byOm)
 case hsm => omega
 rintro e4' d4 h4 he4 g4 q4 n4 f4
 have n4' : h3.next ≤ h4.next := by rw [n4]; (exact byOm)
 have g3b := g3.frame (h' := h4) (fun _ => (f4 a3 byO byO).trans byGo) (fun _ => (f4 e3' byO byO).trans byGo)
 have w5b := w5'.frame (h' := h4) (fun _ => (f4 a5 byO byO).trans byGo) (fun _ => (f4 r5 byO byO).trans byGo)
 clear f4 n4
 (refine byRun ?_)
 apply q_appE (r0 := a5) (r := r5) (n := S.bk.length) (m := 1) (cs := cI S.bk) (nc := [.int .i64 0])
 case G => exact w5b.frame (fun _ => get_of fun y hy => byGet) (fun _ => get_of fun y hy => byGet)
 case hsv => exact rfl
 case C =>
  apply Cells.one
  focus (apply loadN_cells; (focus (exact byGet)); (focus exact rfl))
  focus (unfold far; omega)
  focus exact rfl
  focus exact rfl
 case hlo => omega
 case hnx => (exact byOm)
 case hsm => omega
 rintro e5' d5 h5 he5 g5 q5 n5 f5
 have n5' : h4.next ≤ h5.next := by rw [n5]; (exact byOm)
 have g3c := g3b.frame (h' := h5) (fun _ => (f5 a3 byO byO).trans byGo) (fun _ => (f5 e3' byO byO).trans byGo)
 have g4c := g4.frame (h' := h5) (fun _ => (f5 a4 byO byO).trans byGo) (fun _ => (f5 e4' byO byO).trans byGo)
 clear f5 n5
 (refine byRun ?_)
 have tch3 : ∀ y ∈ touchV (.slice c3 S.rn.length 0), a1 ≤ y := GE.touch w3 byO byO
 have tch4 : ∀ y ∈ touchV (.slice c4 S.co.length 0), a1 ≤ y := GE.touch w4 byO byO
 refine Need.mk (Apart.above2 tch3 rfl (by show h.next + 11 < _; omega) (Apart.above2 tch3 rfl (by show h.next + 11 < _; omega) (Apart.above2 tch4 rfl (by show h.next + 11 < _; omega) Apart.nil2))) ?_
 clear tch3 tch4
 (refine byRun ?_)
 have sg9 : SG (h.next + 13) h5.next h5 S.none0 c1 c2 d3 d4 d5 a1 r1 a2 r2 a3 e3' a4 e4' a5 e5' := by
  refine ⟨w1.frame (fun _ => get_of fun y hy => byGet) (fun _ => get_of fun y hy => byGet), w2.frame (fun _ => get_of fun y hy => byGet) (fun _ => get_of fun y hy => byGet), ?_, ?_, ?_, by omega, by show S.ms.length ≤ 100; omega, ?_, ?_, ?_⟩
  ·show GE _ _ _ _ _ (S.rn ++ [0]).length (cI (S.rn ++ [0])) _
   rw [List.length_append, cI_app]; exact g3c
  ·show GE _ _ _ _ _ (S.co ++ [0]).length (cI (S.co ++ [0])) _
   rw [List.length_append, cI_app]; exact g4c
  ·show GE _ _ _ _ _ (S.bk ++ [0]).length (cI (S.bk ++ [0])) _
   rw [List.length_append, cI_app]; exact g5
  ·show (S.rn ++ [0]).length ≤ 100
   rw [List.length_append]; simp; omega
  ·show (S.co ++ [0]).length ≤ 100
   rw [List.length_append]; simp; omega
  ·show (S.bk ++ [0]).length ≤ 100
   rw [List.length_append]; simp; omega
 apply q_call
 focus (exact byNext)
 focus (exact byLo)
 focus exact copied_none_w (m := h5.next) byOm ((sg9.frame fun q h1 h2 => get_of fun y hy => byGet).rd (Nat.le_refl _))
 rintro v h6 ⟨f1, f2, f3, f4, f5, p1, s1, p2, s2, p3, s3, p4, s4, p5, s5, rfl, sf⟩ q6 n6
 have nA : h.next + 13 ≤ h5.next := by omega
 have x0 : h6.get h.next = some (.cells [.int .i64 S.stock, .int .i64 S.lost, .slice b1 S.ms.length 0, .slice b2 S.ms.length 0, .slice b3 S.rn.length 0, .slice b4 S.co.length 0, .slice b5 S.bk.length 0] 74) := by (exact byGet)
 have x1 : h6.get (h.next + 1) = some (.cells [.int .i64 0, .int .i64 0, .slice none 0 0, .slice none 0 0, .slice none 0 0, .slice none 0 0, .slice none 0 0] 74) := by (exact byGet)
 have x7 : h6.get (h.next + 7) = some (.cells [.int .i64 (B.f t).k, .int .i64 (B.f t).m, .int .i64 (B.f t).a, .int .i64 (B.f t).b] 38) := by (exact byGet)
 have x11 : h6.get (h.next + 11) = some (.cells [.int .i64 S.stock, .int .i64 S.lost, .slice c1 S.ms.length 0, .slice c2 S.ms.length 0, .slice d3 (S.rn.length + 1) 0, .slice d4 (S.co.length + 1) 0, .slice d5 (S.bk.length + 1) 0] 74) := by (exact byGet)
 have sg9' := sg9.frame (h' := h6) fun q h1 h2 => get_of fun y hy => by (exact byGet)
 have sm6 : Same m h h6 := by (exact bySame)
 have k6 := k.same (m' := m) sm6 (Nat.le_refl _)
 have B6 := hB.same (m' := m) sm6 (Nat.le_refl _)
 obtain ⟨v1, v2, v3, v4, v5, ⟨va, vb, vc, vd, ve, vf, vg, vh, vi, vj, vk⟩, -, -, -, -⟩ := sf
 have va' : h5.next + 4 ≤ p1 := by (exact byOm)
 clear q2 n2 w1 w2 w3 w4 w5 wb wc wd we wf wg wh wi wj wk wa' q3 g3 w4' w5' q4 g4 g3b w5b q5 g5 g3c g4c sg9 q6 va n3' n4' n5' he3 he4 he5
 have hkd := kind_bd hv
 have hd := valid_dis hv
 have z1 := sg9'.s1
 have z3 := sg9'.s3
 have z4 := sg9'.s4
 have z5 := sg9'.s5
 have sg10 : SG (h5.next + 4) h6.next h6 S.none0 f1 f2 f3 f4 f5 p1 s1 p2 s2 p3 s3 p4 s4 p5 s5 := ⟨v1, v2, v3, v4, v5, by omega, z1, z3, z4, z5⟩
 by_cases hk0 : (B.f t).k = 0
 ·rw [show doD (B.f t) B.f t S = ({ S.none0 with stock := S.stock + (B.f t).a }, 0) by unfold doD; rw [if_pos hk0]]
  have := hd.1 hk0
  (refine byRun ?_)
  (refine byFin ?_)
  (exact ⟨_, rfl, _, _, _, _, _, _, _, _, _, _, _, _, _, _, _, by simp [stC, SD.none0], SG.cast (((sg10).frame fun q h1 h2 => get_of fun y hy => byGet).mono byO byOm) rfl rfl rfl rfl⟩)
 rw [show doD (B.f t) B.f t S = (match S.ms.findIdx? fun m => decide (m.no = (B.f t).m) with
  | none => if (B.f t).k = 1 then ({ S.none0 with ms := insM S.ms (drawn (B.f t)) }, 0) else (S.none0, 5)
  | some i => if (B.f t).k = 1 then (S.none0, 11) else match S.ms[i]? with
    | none => (S.none0, 5)
    | some m => actD (B.f t) B.f t S i m) from if_neg hk0]
 (refine byRun ?_)
 apply q_callv
 focus (exact byNext)
 focus (exact byLo)
 focus exact model_w (m := m) byOm (k6.same (m' := m) bySame (Nat.le_refl _))
 intro h7 q7 n7
 cases hf : mdlAt S.ms (B.f t).m with
 | none =>
   rw [show (S.ms.findIdx? fun m => decide (m.no = (B.f t).m)) = none from hf]
   dsimp only [idxV]
   by_cases hk1 : (B.f t).k = 1
   ·rw [if_pos hk1]
    (refine byRun ?_)
    apply q_call
    focus (exact byNext)
    focus (exact byLo)
    focus exact drawn_none_w (m := h5.next) (x := B.f t) byOm ((sg9'.frame fun q h1 h2 => get_of fun y hy => byGet).rd (Nat.le_refl _)) (hd.2.2.1 hk1) byO
    rintro v h8 ⟨cs, rfl, ⟨y1, y2, y3, y4, y5, o1, u1, o2, u2, o3, u3, o4, u4, o5, u5, rfl, sgd⟩⟩ q8 n8
    have sgd' := sgd.mono (lo' := h7.next + 10) (show h7.next + 10 ≤ _ from byOm) (Nat.le_refl _)
    clear sgd
    unfold stC
    (refine byRun ?_)
    (refine byFin ?_)
    exact ⟨_, rfl, y1, y2, y3, y4, y5, o1, u1, o2, u2, o3, u3, o4, u4, o5, u5, rfl, (sgd'.frame fun q h1 h2 => get_of fun y hy => byGet).mono byO byOm⟩
   ·rw [if_neg hk1]
    (refine byRun ?_)
    (refine byFin ?_)
    (exact ⟨_, rfl, _, _, _, _, _, _, _, _, _, _, _, _, _, _, _, by rw [stC_none], ((sg9').frame fun q h1 h2 => get_of fun y hy => byGet).mono byO byOm⟩)
 | some i =>
   rw [show (S.ms.findIdx? fun m => decide (m.no = (B.f t).m)) = some i from hf]
   dsimp only [idxV]
   by_cases hk1 : (B.f t).k = 1
   ·rw [if_pos hk1]
    (refine byRun ?_)
    (refine byFin ?_)
    (exact ⟨_, rfl, _, _, _, _, _, _, _, _, _, _, _, _, _, _, _, by rw [stC_none], ((sg9').frame fun q h1 h2 => get_of fun y hy => byGet).mono byO byOm⟩)
   rw [if_neg hk1]
   have hi : i < S.ms.length := (List.findIdx?_eq_some_iff_getElem.1 hf).1
   obtain ⟨y, hy⟩ : ∃ y, S.ms[i]? = some y := ⟨_, List.getElem?_eq_getElem hi⟩
   rw [hy]
   dsimp only
   obtain ⟨ma, rfl, mb, mel⟩ := k6.m1.mdl byO
   have e8 := mel i y hy
   unfold mC8 at e8
   obtain ⟨la, rfl, lb, lel⟩ := (show RdS m h6 1 (S.ms.map Mdl.loss).length (cI (S.ms.map Mdl.loss)) b2 by rw [List.length_map]; exact k6.m2).ints (by rw [List.length_map]; omega)
   have el := lel i y.loss (by rw [List.getElem?_map, hy]; rfl)
   obtain ⟨w1, w2, w3, w4, w5, w6, w7, w8, w9⟩ := hms y (List.mem_of_getElem? hy)
   have sm7 : Same m h6 h7 := by (exact bySame)
   have e8' : h7.loadN (aadd ma (i * 8)) 8 = some [.int .i64 y.no, .int .i64 y.stage, .int .i64 y.wax, .int .i64 y.runs, .int .i64 y.opn, .int .i64 y.billed, .int .i64 y.claimed, .int .i64 y.paid] := (sm7.loadN (a := aadd ma (i * 8)) mb _).trans e8
   have el' : h7.loadN (aadd la (i * 1)) 1 = some [.int .i64 y.loss] := (sm7.loadN (a := aadd la (i * 1)) lb _).trans el
   have g10 : SG (h5.next + 4) h6.next h7 S.none0 f1 f2 f3 f4 f5 p1 s1 p2 s2 p3 s3 p4 s4 p5 s5 := sg10.frame fun q h1 h2 => get_of fun y hy => by (exact byGet)
   have g9 := sg9'.frame (h' := h7) fun q h1 h2 => get_of fun y hy => by (exact byGet)
   have k7 := k6.same (m' := m) sm7 (Nat.le_refl _)
   have B7 := B6.same (m' := m) sm7 (Nat.le_refl _)
   have t0 : h7.get h.next = some (.cells [.int .i64 S.stock, .int .i64 S.lost, .slice (some ma) S.ms.length 0, .slice (some la) S.ms.length 0, .slice b3 S.rn.length 0, .slice b4 S.co.length 0, .slice b5 S.bk.length 0] 74) := by (exact byGet)
   have t1 : h7.get (h.next + 1) = some (.cells [.int .i64 0, .int .i64 0, .slice none 0 0, .slice none 0 0, .slice none 0 0, .slice none 0 0, .slice none 0 0] 74) := by (exact byGet)
   have t7 : h7.get (h.next + 7) = some (.cells [.int .i64 (B.f t).k, .int .i64 (B.f t).m, .int .i64 (B.f t).a, .int .i64 (B.f t).b] 38) := by (exact byGet)
   have t11 : h7.get (h.next + 11) = some (.cells [.int .i64 S.stock, .int .i64 S.lost, .slice c1 S.ms.length 0, .slice c2 S.ms.length 0, .slice d3 (S.rn.length + 1) 0, .slice d4 (S.co.length + 1) 0, .slice d5 (S.bk.length + 1) 0] 74) := by (exact byGet)
   have t10 : h7.get (h5.next + 2) = some (.cells [.int .i64 S.stock, .int .i64 S.lost, .slice f1 S.ms.length 0, .slice f2 S.ms.length 0, .slice f3 (S.rn.length + 1) 0, .slice f4 (S.co.length + 1) 0, .slice f5 (S.bk.length + 1) 0] 74) := by (exact byGet)
   clear x0 x1 x7 x11 q7 e8 el sg10 sg9' k6 B6 mel lel sm6 sm7 v1 v2 v3 v4 v5
   rcases (show (B.f t).k = 2 ∨ (B.f t).k = 3 ∨ (B.f t).k = 4 ∨ (B.f t).k = 5 ∨ (B.f t).k = 6 ∨ (B.f t).k = 7 by omega) with hk | hk | hk | hk | hk | hk
   ·have hlm : (cM S.none0).length = S.ms.length * 8 := cM_len _
    have hi8 : i * 8 + 8 ≤ (cM S.none0).length := by omega
    rw [show actD (B.f t) B.f t S i y = if y.stage ≠ 0 then (S.none0, 9) else if S.stock < y.wax + y.loss then (S.none0, 10) else
   ({ S.none0 with stock := S.stock - (y.wax + y.loss), lost := S.lost + y.loss, ms := S.ms.set i { y with stage := 1 } }, 0) by unfold actD; rw [if_pos hk]]
    by_cases hs0 : y.stage = 0
    rotate_left
    ·rw [if_pos hs0]
     (refine byRun ?_)
     (refine byFin ?_)
     (exact ⟨_, rfl, _, _, _, _, _, _, _, _, _, _, _, _, _, _, _, by rw [stC_none], ((g9).frame fun q h1 h2 => get_of fun y hy => byGet).mono byO byOm⟩)
    rw [if_neg byO]
    by_cases hs1 : S.stock < y.wax + y.loss
    ·rw [if_pos hs1]
     (refine byRun ?_)
     (refine byFin ?_)
     (exact ⟨_, rfl, _, _, _, _, _, _, _, _, _, _, _, _, _, _, _, by rw [stC_none], ((g9).frame fun q h1 h2 => get_of fun y hy => byGet).mono byO byOm⟩)
    rw [if_neg hs1]
    have G1 : GAt s1 h7 61 8 S.ms.length (cM S.none0) f1 := g10.g1.elim (fun h => absurd h.1 (by show S.ms.length ≠ 0; omega)) (·.2)
    obtain ⟨fa, rfl, fb, -, -⟩ := G1.load
    (refine byRun ?_)
    apply q_stoG (r := s1) (n := S.ms.length) (off := i * 8) (cs := cM S.none0) (vs := mC8 { y with stage := 1 }) (G1.frame byGo) byO rfl rfl hi8
    intro row G2
    rw [cM_set hi] at G2
    (refine byRun ?_)
    (refine byFin ?_)
    refine ⟨_, rfl, some fa, f2, f3, f4, f5, p1, s1, p2, s2, p3, s3, p4, s4, p5, s5, by simp [stC, SD.none0], SG.mono (lo := h5.next + 4) (hi := h6.next) ?_ byO byOm⟩
    exact sg_mk (y' := { y with stage := 1 }) g10 hy rfl rfl (G2.frame byGo) (g10.g2.frame (fun _ => get_of fun y hy => byGet) (fun _ => get_of fun y hy => byGet)) (g10.g3.frame (fun _ => get_of fun y hy => byGet) (fun _ => get_of fun y hy => byGet)) (g10.g4.frame (fun _ => get_of fun y hy => byGet) (fun _ => get_of fun y hy => byGet)) (g10.g5.frame (fun _ => get_of fun y hy => byGet) (fun _ => get_of fun y hy => byGet)) z3 z4 z5
   ·skip
    have hlm : (cM S.none0).length = S.ms.length * 8 := cM_len _
    have hi8 : i * 8 + 8 ≤ (cM S.none0).length := by omega
    rw [show actD (B.f t) B.f t S i y = if y.stage ≠ 1 then (S.none0, 9) else ({ S.none0 with ms := S.ms.set i { y with runs := y.runs + 1, opn := y.opn + 1 }, rn := (S.rn ++ [0]).set t 1 }, 0) by unfold actD; rw [if_neg byO, if_pos hk]]
    by_cases hs0 : y.stage = 1
    rotate_left
    ·rw [if_pos hs0]
     (refine byRun ?_)
     (refine byFin ?_)
     (exact ⟨_, rfl, _, _, _, _, _, _, _, _, _, _, _, _, _, _, _, by rw [stC_none], ((g9).frame fun q h1 h2 => get_of fun y hy => byGet).mono byO byOm⟩)
    rw [if_neg byO]
    have G1 : GAt s1 h7 61 8 S.ms.length (cM S.none0) f1 := g10.g1.elim (fun h => absurd h.1 (by show S.ms.length ≠ 0; omega)) (·.2)
    have hr1 : S.none0.rn.length = S.rn.length + 1 := by simp [SD.none0]
    have G3 : GAt s3 h7 3 1 S.none0.rn.length (cI S.none0.rn) f3 := g10.g3.elim (fun h => absurd h.1 byO) (·.2)
    obtain ⟨fa, rfl, fb, -, -⟩ := G1.load
    obtain ⟨ga, rfl, gb, -, -⟩ := G3.load
    (refine byRun ?_)
    apply q_stoG (r := s3) (n := S.none0.rn.length) (m := 1) (off := t * 1) (cs := cI S.none0.rn) (vs := [.int .i64 1]) (G3.frame byGo) byO rfl rfl (by rw [cI_len]; omega)
    intro row3 G3'
    rw [cI_set byO] at G3'
    (refine byRun ?_)
    apply q_stoG (r := s1) (n := S.ms.length) (off := i * 8) (cs := cM S.none0) (vs := mC8 { y with runs := y.runs + 1, opn := y.opn + 1 }) (G1.frame byGo) byO rfl rfl hi8
    intro row G2
    rw [cM_set hi] at G2
    (refine byRun ?_)
    (refine byFin ?_)
    refine ⟨_, rfl, some fa, f2, some ga, f4, f5, p1, s1, p2, s2, p3, s3, p4, s4, p5, s5, by simp [stC, SD.none0], SG.mono (lo := h5.next + 4) (hi := h6.next) ?_ byO byOm⟩
    exact sg_mk (y' := { y with runs := y.runs + 1, opn := y.opn + 1 }) g10 hy rfl rfl (G2.frame byGo) (g10.g2.frame (fun _ => get_of fun y hy => byGet) (fun _ => get_of fun y hy => byGet)) (by
     show GE _ _ _ _ _ (S.none0.rn.set t 1).length (cI (S.none0.rn.set t 1)) _
     rw [List.length_set]
     exact .inr ⟨by omega, G3'.frame byGo⟩) (g10.g4.frame (fun _ => get_of fun y hy => byGet) (fun _ => get_of fun y hy => byGet)) (g10.g5.frame (fun _ => get_of fun y hy => byGet) (fun _ => get_of fun y hy => byGet)) (by show (S.none0.rn.set t 1).length ≤ 100; rw [List.length_set]; exact z3) z4 z5
   ·skip
    have hlm : (cM S.none0).length = S.ms.length * 8 := cM_len _
    have hi8 : i * 8 + 8 ≤ (cM S.none0).length := by omega
    rw [show actD (B.f t) B.f t S i y = if y.stage ≠ 1 then (S.none0, 9) else ({ S.none0 with stock := S.stock + y.wax, ms := S.ms.set i { y with stage := 2 } }, 0) by unfold actD; rw [if_neg byO, if_neg byO, if_pos hk]]
    by_cases hs0 : y.stage = 1
    rotate_left
    ·rw [if_pos hs0]
     (refine byRun ?_)
     (refine byFin ?_)
     (exact ⟨_, rfl, _, _, _, _, _, _, _, _, _, _, _, _, _, _, _, by rw [stC_none], ((g9).frame fun q h1 h2 => get_of fun y hy => byGet).mono byO byOm⟩)
    rw [if_neg byO]
    have G1 : GAt s1 h7 61 8 S.ms.length (cM S.none0) f1 := g10.g1.elim (fun h => absurd h.1 (by show S.ms.length ≠ 0; omega)) (·.2)
    obtain ⟨fa, rfl, fb, -, -⟩ := G1.load
    (refine byRun ?_)
    apply q_stoG (r := s1) (n := S.ms.length) (off := i * 8) (cs := cM S.none0) (vs := mC8 { y with stage := 2 }) (G1.frame byGo) byO rfl rfl hi8
    intro row G2
    rw [cM_set hi] at G2
    (refine byRun ?_)
    (refine byFin ?_)
    refine ⟨_, rfl, some fa, f2, f3, f4, f5, p1, s1, p2, s2, p3, s3, p4, s4, p5, s5, by simp [stC, SD.none0], SG.mono (lo := h5.next + 4) (hi := h6.next) ?_ byO byOm⟩
    exact sg_mk (y' := { y with stage := 2 }) g10 hy rfl rfl (G2.frame byGo) (g10.g2.frame (fun _ => get_of fun y hy => byGet) (fun _ => get_of fun y hy => byGet)) (g10.g3.frame (fun _ => get_of fun y hy => byGet) (fun _ => get_of fun y hy => byGet)) (g10.g4.frame (fun _ => get_of fun y hy => byGet) (fun _ => get_of fun y hy => byGet)) (g10.g5.frame (fun _ => get_of fun y hy => byGet) (fun _ => get_of fun y hy => byGet)) z3 z4 z5
   ·skip
    have hlm : (cM S.none0).length = S.ms.length * 8 := cM_len _
    have hi8 : i * 8 + 8 ≤ (cM S.none0).length := by omega
    have ha5 := hd.2.2.2.1 hk
    rw [show actD (B.f t) B.f t S i y = if y.opn = 0 then (S.none0, 16) else ({ S.none0 with ms := S.ms.set i { y with billed := y.billed + y.opn * (B.f t).a, opn := 0 }, co := billQ B.f (B.f t) (S.rn ++ [0]) (S.co ++ [0]) t }, 0) by unfold actD; rw [if_neg byO, if_neg byO, if_neg byO, if_pos hk]]
    by_cases hs0 : y.opn = 0
    ·rw [if_pos hs0]
     (refine byRun ?_)
     (refine byFin ?_)
     (exact ⟨_, rfl, _, _, _, _, _, _, _, _, _, _, _, _, _, _, _, by rw [stC_none], ((g9).frame fun q h1 h2 => get_of fun y hy => byGet).mono byO byOm⟩)
    rw [if_neg hs0]
    have hmul : 0 ≤ y.opn * (B.f t).a ∧ y.opn * (B.f t).a ≤ 60000000 := by
     have e1 := Int.mul_le_mul (show y.opn ≤ 60 by omega) ha5.2 byO byO
     have e2 := Int.mul_nonneg w4.1 (show 0 ≤ (B.f t).a by omega)
     omega
    have hr1 : S.none0.rn.length = S.rn.length + 1 := by simp [SD.none0]
    have hc1 : S.none0.co.length = S.co.length + 1 := by simp [SD.none0]
    have G1 : GAt s1 h7 61 8 S.ms.length (cM S.none0) f1 := g10.g1.elim (fun h => absurd h.1 (by show S.ms.length ≠ 0; omega)) (·.2)
    have G3 : GAt s3 h7 3 1 S.none0.rn.length (cI S.none0.rn) f3 := g10.g3.elim (fun h => absurd h.1 byO) (·.2)
    have G4 : GAt s4 h7 2 1 S.none0.co.length (cI S.none0.co) f4 := g10.g4.elim (fun h => absurd h.1 byO) (·.2)
    obtain ⟨fa, rfl, fb, -, -⟩ := G1.load
    obtain ⟨ga, rfl, gb, -, -⟩ := G3.load
    obtain ⟨ca, rfl, cb, -, -⟩ := G4.load
    generalize hbil : y.billed + y.opn * (B.f t).a = bil
    have hbd : 0 ≤ bil ∧ bil ≤ 100000000000 := by omega
    (refine byRun ?_)
    rw [hbil]
    refine wp_loop (fun q : Nat => [(1, .slice B.b B.n B.c), (2, .int .i64 t), (6, .pointer (some ⟨h.next + 1, 0, none⟩)), (8, .pointer (some ⟨h.next + 7, 0, none⟩)), (10, .pointer (some ⟨h5.next + 2, 0, none⟩)), (11, .int .i64 i), (12, .pointer (some ⟨h7.next + 11, 0, none⟩)), (13, .int .i64 q)])
     (fun q h1 => (∀ r, r < h7.next → r ≠ s4 → h1.get r = h7.get r) ∧ h1.get (h7.next + 11) = some (.cells [.int .i64 y.no, .int .i64 y.stage, .int .i64 y.wax, .int .i64 y.runs, .int .i64 0, .int .i64 bil, .int .i64 y.claimed, .int .i64 y.paid] 61) ∧ h7.next + 12 ≤ h1.next ∧ q ≤ t ∧ GAt s4 h1 2 1 S.none0.co.length (cI (billQ B.f (B.f t) (S.rn ++ [0]) (S.co ++ [0]) q)) (some ca)) (fun q => t - q) 0 ⟨rfl, rfl, rfl, rfl, rfl, rfl, rfl, rfl, trivial⟩ ⟨fun r h1 h2 => get_of fun y hy => byGet, byGet, byOm, by omega, by rw [billQ_zero]; exact G4.frame byGo⟩ ?_
    rintro q g' h1 ⟨fr, xm, n1, hq, G4'⟩ K hK
    have x7 := (fr _ byO byO).trans t7
    have x10 := (fr _ byO byO).trans t10
    have x1 := (fr _ byO byO).trans t1
    by_cases hlt : q < t
    ·have sm1 : Same m h7 h1 := fun r hr => fr r byO byO
     have B1 := B7.same (m' := m) sm1 (Nat.le_refl _)
     have lq : h1.loadN (aadd (aadd B.a (q * 4)) 1) 1 = some [.int .i64 (B.f q).m] := load_part (B1.i q byO) rfl
     have lb1 := B1.e byO
     have lr1 := B1.r byO
     obtain ⟨rz, hrz⟩ : ∃ rz, S.none0.rn[q]? = some rz := ⟨_, List.getElem?_eq_getElem byO⟩
     obtain ⟨cz, hcz⟩ : ∃ cz, S.none0.co[q]? = some cz := ⟨_, List.getElem?_eq_getElem byO⟩
     have G3' := G3.frame (h' := h1) (fr s3 byO byO)
     have lrz := gat_int G3' hrz
     have lcz := gat_int G4' ((billQ_at B.f (B.f t) (S.rn ++ [0]) (S.co ++ [0]) q).trans hcz)
     have hst := billQ_step (f := B.f) (x := B.f t) (rn := S.rn ++ [0]) (show (S.co ++ [0])[q]? = some cz from hcz)
     have hrz' : (S.rn ++ [0])[q]? = some rz := hrz
     rw [hrz'] at hst
     simp only [Option.some.injEq] at hst
     by_cases b1 : rz = 1
     rotate_left
     ·rw [if_neg (fun h => b1 h.1)] at hst
      (refine byRun ?_)
      exact hK (q + 1) _ _ ⟨rfl, rfl, rfl, rfl, rfl, rfl, rfl, int_of rfl byO, trivial⟩ ⟨fun r h1 h2 => (get_of fun y hy => byGet).trans (fr r h1 h2), byGet, byOm, by omega, by rw [hst]; exact G4'.frame byGo⟩ byO
     by_cases b2 : (B.f q).m = (B.f t).m
     rotate_left
     ·rw [if_neg (fun h => b2 h.2.1)] at hst
      (refine byRun ?_)
      exact hK (q + 1) _ _ ⟨rfl, rfl, rfl, rfl, rfl, rfl, rfl, int_of rfl byO, trivial⟩ ⟨fun r h1 h2 => (get_of fun y hy => byGet).trans (fr r h1 h2), byGet, byOm, by omega, by rw [hst]; exact G4'.frame byGo⟩ byO
     by_cases b3 : cz = 0
     rotate_left
     ·rw [if_neg (fun h => b3 h.2.2)] at hst
      (refine byRun ?_)
      exact hK (q + 1) _ _ ⟨rfl, rfl, rfl, rfl, rfl, rfl, rfl, int_of rfl byO, trivial⟩ ⟨fun r h1 h2 => (get_of fun y hy => byGet).trans (fr r h1 h2), byGet, byOm, by omega, by rw [hst]; exact G4'.frame byGo⟩ byO
     rw [if_pos ⟨b1, b2, b3⟩] at hst
     have hql : q < (billQ B.f (B.f t) (S.rn ++ [0]) (S.co ++ [0]) q).length := by rw [billQ_len]; simp; omega
     (refine byRun ?_)
     apply q_stoG (r := s4) (n := S.none0.co.length) (m := 1) (off := q * 1) (cs := cI (billQ B.f (B.f t) (S.rn ++ [0]) (S.co ++ [0]) q)) (vs := [.int .i64 (B.f t).a]) (G4'.frame byGo) byO rfl rfl (by rw [cI_len]; omega)
     intro row4 G5
     rw [cI_set hql, ← hst] at G5
     (refine byRun ?_)
     exact hK (q + 1) _ _ ⟨rfl, rfl, rfl, rfl, rfl, rfl, rfl, int_of rfl byO, trivial⟩ ⟨fun r h1 h2 => (get_of fun y hy => byGet).trans (fr r h1 h2), byGet, byOm, by omega, G5.frame byGo⟩ byO
    ·obtain rfl : q = t := by omega
     clear hK
     (refine byRun ?_)
     apply q_stoG (r := s1) (n := S.ms.length) (off := i * 8) (cs := cM S.none0) (vs := mC8 { y with billed := bil, opn := 0 }) (G1.frame ((get_of fun y hy => byGet).trans (fr s1 byO byO))) byO rfl rfl hi8
     intro row G2
     rw [cM_set hi] at G2
     (refine byRun ?_)
     (refine byFin ?_)
     refine ⟨_, rfl, some fa, f2, some ga, some ca, f5, p1, s1, p2, s2, p3, s3, p4, s4, p5, s5, by simp [stC, SD.none0, billQ_len], SG.mono (lo := h5.next + 4) (hi := h6.next) ?_ byO byOm⟩
     refine sg_mk (y' := { y with billed := bil, opn := 0 }) g10 hy rfl rfl (G2.frame byGo) (g10.g2.frame (fun _ => (get_of fun y hy => byGet).trans (fr _ byO byO)) (fun _ => (get_of fun y hy => byGet).trans (fr _ byO byO))) (g10.g3.frame (fun _ => (get_of fun y hy => byGet).trans (fr _ byO byO)) (fun _ => (get_of fun y hy => byGet).trans (fr _ byO byO))) ?_ (g10.g5.frame (fun _ => (get_of fun y hy => byGet).trans (fr _ byO byO)) (fun _ => (get_of fun y hy => byGet).trans (fr _ byO byO))) z3 (by show (billQ _ _ _ _ _).length ≤ 100; rw [billQ_len]; exact z4) z5
     show GE _ _ _ _ _ (billQ _ _ _ _ _).length (cI (billQ _ _ _ _ _)) _
     rw [billQ_len]
     exact .inr ⟨by simp, G4'.frame byGo⟩
   ·skip
    have hlm : (cM S.none0).length = S.ms.length * 8 := cM_len _
    have hi8 : i * 8 + 8 ≤ (cM S.none0).length := by omega
    have ha6 := hd.2.2.2.2.1 hk
    rw [show actD (B.f t) B.f t S i y = if (B.f t).a > y.billed - y.claimed - y.paid then (S.none0, 4) else ({ S.none0 with ms := S.ms.set i { y with paid := y.paid + (B.f t).a } }, 0) by unfold actD; rw [if_neg byO, if_neg byO, if_neg byO, if_neg byO, if_pos hk]]
    by_cases hs0 : (B.f t).a > y.billed - y.claimed - y.paid
    ·rw [if_pos hs0]
     (refine byRun ?_)
     (refine byFin ?_)
     (exact ⟨_, rfl, _, _, _, _, _, _, _, _, _, _, _, _, _, _, _, by rw [stC_none], ((g9).frame fun q h1 h2 => get_of fun y hy => byGet).mono byO byOm⟩)
    rw [if_neg hs0]
    have G1 : GAt s1 h7 61 8 S.ms.length (cM S.none0) f1 := g10.g1.elim (fun h => absurd h.1 (by show S.ms.length ≠ 0; omega)) (·.2)
    obtain ⟨fa, rfl, fb, -, -⟩ := G1.load
    (refine byRun ?_)
    apply q_stoG (r := s1) (n := S.ms.length) (off := i * 8) (cs := cM S.none0) (vs := mC8 { y with paid := y.paid + (B.f t).a }) (G1.frame byGo) byO rfl rfl hi8
    intro row G2
    rw [cM_set hi] at G2
    (refine byRun ?_)
    (refine byFin ?_)
    refine ⟨_, rfl, some fa, f2, f3, f4, f5, p1, s1, p2, s2, p3, s3, p4, s4, p5, s5, by simp [stC, SD.none0], SG.mono (lo := h5.next + 4) (hi := h6.next) ?_ byO byOm⟩
    exact sg_mk (y' := { y with paid := y.paid + (B.f t).a }) g10 hy rfl rfl (G2.frame byGo) (g10.g2.frame (fun _ => get_of fun y hy => byGet) (fun _ => get_of fun y hy => byGet)) (g10.g3.frame (fun _ => get_of fun y hy => byGet) (fun _ => get_of fun y hy => byGet)) (g10.g4.frame (fun _ => get_of fun y hy => byGet) (fun _ => get_of fun y hy => byGet)) (g10.g5.frame (fun _ => get_of fun y hy => byGet) (fun _ => get_of fun y hy => byGet)) z3 z4 z5
   ·skip
    have hlm : (cM S.none0).length = S.ms.length * 8 := cM_len _
    have hi8 : i * 8 + 8 ≤ (cM S.none0).length := by omega
    have ha7 := hd.2.2.2.2.2 hk
    obtain ⟨j, hj⟩ : ∃ j : Nat, (B.f t).a = j := ⟨(B.f t).a.toNat, by omega⟩
    have t7' : h7.get (h.next + 7) = some (.cells [.int .i64 (B.f t).k, .int .i64 (B.f t).m, .int .i64 (j : Int), .int .i64 (B.f t).b] 38) := by rw [← hj]; exact t7
    clear t7
    rw [show actD (B.f t) B.f t S i y = if ¬ ((j : Int) < t ∧ S.rn.getD j 0 ≠ 0 ∧ (B.f j).m = (B.f t).m ∧ S.co.getD j 0 ≠ 0 ∧ S.bk.getD j 0 ≠ 1) then (S.none0, 23) else
   ({ S.none0 with ms := S.ms.set i { y with claimed := y.claimed + S.co.getD j 0 }, bk := (S.bk ++ [0]).set j 1 }, 0) by unfold actD; rw [if_neg byO, if_neg byO, if_neg byO, if_neg byO, if_neg byO, hj, Int.toNat_natCast]]
    by_cases q1 : (j : Int) < t
    rotate_left
    ·rw [if_pos (fun h => q1 h.1)]
     (refine byRun ?_)
     (refine byFin ?_)
     (exact ⟨_, rfl, _, _, _, _, _, _, _, _, _, _, _, _, _, _, _, by rw [stC_none], ((g9).frame fun q h1 h2 => get_of fun y hy => byGet).mono byO byOm⟩)
    have q1' : j < t := by omega
    obtain ⟨ra, rfl, rb, rel⟩ := k7.m3.ints byO
    obtain ⟨ca, rfl, cb, cel⟩ := k7.m4.ints byO
    obtain ⟨ba, rfl, bb, bel⟩ := k7.m5.ints byO
    have rj := rel j _ (getD_some byO)
    have cj := cel j _ (getD_some byO)
    have bj := bel j _ (getD_some byO)
    clear rel cel bel
    have lj : h7.loadN (aadd (aadd B.a (j * 4)) 1) 1 = some [.int .i64 (B.f j).m] := load_part (B7.i j byO) rfl
    have le := B7.e byO
    have lr := B7.r byO
    have cjb := hco j
    generalize S.rn.getD j 0 = rz at rj ⊢
    generalize S.bk.getD j 0 = bz at bj ⊢
    generalize hcz : S.co.getD j 0 = cz at cj cjb ⊢
    by_cases q2 : rz = 0
    ·rw [if_pos (fun h => h.2.1 q2)]
     (refine byRun ?_)
     (refine byFin ?_)
     (exact ⟨_, rfl, _, _, _, _, _, _, _, _, _, _, _, _, _, _, _, by rw [stC_none], ((g9).frame fun q h1 h2 => get_of fun y hy => byGet).mono byO byOm⟩)
    by_cases q3 : (B.f j).m = (B.f t).m
    rotate_left
    ·rw [if_pos (fun h => q3 h.2.2.1)]
     (refine byRun ?_)
     (refine byFin ?_)
     (exact ⟨_, rfl, _, _, _, _, _, _, _, _, _, _, _, _, _, _, _, by rw [stC_none], ((g9).frame fun q h1 h2 => get_of fun y hy => byGet).mono byO byOm⟩)
    by_cases q4 : cz = 0
    ·rw [if_pos (fun h => h.2.2.2.1 q4)]
     (refine byRun ?_)
     (refine byFin ?_)
     (exact ⟨_, rfl, _, _, _, _, _, _, _, _, _, _, _, _, _, _, _, by rw [stC_none], ((g9).frame fun q h1 h2 => get_of fun y hy => byGet).mono byO byOm⟩)
    by_cases q5 : bz = 1
    ·rw [if_pos (fun h => h.2.2.2.2 q5)]
     (refine byRun ?_)
     (refine byFin ?_)
     (exact ⟨_, rfl, _, _, _, _, _, _, _, _, _, _, _, _, _, _, _, by rw [stC_none], ((g9).frame fun q h1 h2 => get_of fun y hy => byGet).mono byO byOm⟩)
    rw [if_neg (fun h => h ⟨q1, q2, q3, q4, q5⟩)]
    have G1 : GAt s1 h7 61 8 S.ms.length (cM S.none0) f1 := g10.g1.elim (fun h => absurd h.1 (by show S.ms.length ≠ 0; omega)) (·.2)
    have hb1 : S.none0.bk.length = S.bk.length + 1 := by simp [SD.none0]
    have G5 : GAt s5 h7 3 1 S.none0.bk.length (cI S.none0.bk) f5 := g10.g5.elim (fun h => absurd h.1 byO) (·.2)
    obtain ⟨fa, rfl, fb, -, -⟩ := G1.load
    obtain ⟨ga, rfl, gb, -, -⟩ := G5.load
    (refine byRun ?_)
    apply q_stoG (r := s5) (n := S.none0.bk.length) (m := 1) (off := j * 1) (cs := cI S.none0.bk) (vs := [.int .i64 1]) (G5.frame byGo) byO rfl rfl (by rw [cI_len]; omega)
    intro row5 G5'
    rw [cI_set byO] at G5'
    (refine byRun ?_)
    apply q_stoG (r := s1) (n := S.ms.length) (off := i * 8) (cs := cM S.none0) (vs := mC8 { y with claimed := y.claimed + cz }) (G1.frame byGo) byO rfl rfl hi8
    intro row G2
    rw [cM_set hi] at G2
    (refine byRun ?_)
    (refine byFin ?_)
    refine ⟨_, rfl, some fa, f2, f3, f4, some ga, p1, s1, p2, s2, p3, s3, p4, s4, p5, s5, by simp [stC, SD.none0], SG.mono (lo := h5.next + 4) (hi := h6.next) ?_ byO byOm⟩
    exact sg_mk (y' := { y with claimed := y.claimed + cz }) g10 hy rfl rfl (G2.frame byGo) (g10.g2.frame (fun _ => get_of fun y hy => byGet) (fun _ => get_of fun y hy => byGet)) (g10.g3.frame (fun _ => get_of fun y hy => byGet) (fun _ => get_of fun y hy => byGet)) (g10.g4.frame (fun _ => get_of fun y hy => byGet) (fun _ => get_of fun y hy => byGet)) (by
     show GE _ _ _ _ _ (S.none0.bk.set j 1).length (cI (S.none0.bk.set j 1)) _
     rw [List.length_set]
     exact .inr ⟨by omega, G5'.frame byGo⟩) z3 z4 (by show (S.none0.bk.set j 1).length ≤ 100; rw [List.length_set]; exact z5)
end AE.Tryz
