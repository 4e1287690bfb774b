/- Walks of agree: heights. -/
import Derived.Test.YtneenfjffejnoaaGreatJoin23
import Derived.Test.YtneenfjffejnoaaGreatAEthree
set_option linter.unusedVariables false
set_option linter.unusedSimpArgs false
set_option linter.unusedSectionVars false
namespace AE.Tryz.Agr
open Go AE AE.Ag AgreeS Go.Proofs
set_option maxRecDepth 100000

def hCells (r mr : Nat) (x : St) : List Value := [.pointer (some ⟨r, 0, none⟩)] ++ kCells x.known ++ [.map (some mr), .int .i64 x.last]

theorem hCells_len (r mr : Nat) (x : St) : (hCells r mr x).length = 29 := by simp [hCells, kCells_len]
theorem h_load {h' : H} {hr r mr t : Nat} {x : St} {e : TypeId} (ht : t < 13) (hg : h'.get hr = some (.cells (hCells r mr x) e)) : h'.loadN ⟨hr, 0 + 1 + t * 2, none⟩ 2 = some (boundV (x.known t)) :=
 loadN_cells hg (kCells_get x.known ht [.pointer (some ⟨r, 0, none⟩)] [.map (some mr), .int .i64 x.last] (by simp))
theorem h_map {h' : H} {hr r mr : Nat} {x : St} {e : TypeId} (hg : h'.get hr = some (.cells (hCells r mr x) e)) : h'.loadN ⟨hr, 0 + 27, none⟩ 1 = some [.map (some mr)] := by
 refine loadN_cells hg ?_
 have := cut_app (p := [.pointer (some ⟨r, 0, none⟩)] ++ kCells x.known) (m := [.map (some mr)]) (s := [.int .i64 x.last]) (a := 0 + 27) (n := 1) (by simp [kCells_len]) rfl
 simpa [hCells] using this
theorem h_last {h' : H} {hr r mr : Nat} {x : St} {e : TypeId} (hg : h'.get hr = some (.cells (hCells r mr x) e)) : h'.loadN ⟨hr, 0 + 28, none⟩ 1 = some [.int .i64 x.last] := by
 refine loadN_cells hg ?_
 have := cut_app (p := [.pointer (some ⟨r, 0, none⟩)] ++ kCells x.known ++ [.map (some mr)]) (m := [.int .i64 x.last]) (s := []) (a := 0 + 28) (n := 1) (by simp [kCells_len]) rfl
 simpa [hCells] using this
theorem h_set (r mr : Nat) (x : St) {t : Nat} (v : Option Int) (ht : t < 13) : splice (hCells r mr x) (0 + 1 + t * 2) (boundV v) = hCells r mr { x with known := upd x.known t v } :=
 kCells_set x.known v ht [.pointer (some ⟨r, 0, none⟩)] [.map (some mr), .int .i64 x.last] (by simp)
theorem h_setlast (r mr : Nat) (x : St) (l : Int) : splice (hCells r mr x) (0 + 28) [.int .i64 l] = hCells r mr { x with last := l } := by
 have := splice_app (p := [.pointer (some ⟨r, 0, none⟩)] ++ kCells x.known ++ [.map (some mr)]) (m := [.int .i64 x.last]) (m' := [.int .i64 l]) (s := []) (a := 0 + 28) (by simp [kCells_len]) rfl
 simpa [hCells] using this
theorem h_ble (r mr : Nat) (x : St) {off n : Nat} (h : off + n ≤ 29) : Nat.ble (off + n) (hCells r mr x).length = true := Nat.ble_eq_true_of_le (by rw [hCells_len]; exact h)
theorem hCells_before (r mr : Nat) (k : Known) (b b' : List (Nat × Nat)) (l : Int) : hCells r mr ⟨k, b, l⟩ = hCells r mr ⟨k, b', l⟩ := rfl
attribute [irreducible] hCells

set_option maxHeartbeats 2000000 in
theorem from_w {h : H} {T : Tab} {r a : Nat} {ai : Int} {B : Net} {e : TypeId} (hv : T.Valid) (hr : r < h.next) (hB : Lim T.toTable.many B) (hg : h.get r = some (.cells (T.head ++ netRows B) e)) (ha : a < T.toTable.many) (hai : ai = (a : Int)) :
 AW Tryz.prog 102 h.next h [.pointer (some ⟨r, 0, none⟩), .int .i64 ai] (fun v h' => ∃ hr mr e', v = .tuple #[.pointer (some ⟨hr, 0, none⟩), .bool (decide ((AgreeS.found B T.toTable.many a).last < 0))] ∧ h.next ≤ hr ∧ hr < h'.next ∧ h.next ≤ mr ∧ mr < h'.next ∧ hr ≠ mr ∧
  h'.get hr = some (.cells (hCells r mr (AgreeS.found B T.toTable.many a)) e') ∧ h'.get mr = some (.map (ents (AgreeS.found B T.toTable.many a).before 0) (AgreeS.found B T.toTable.many a).before.length)) := by
 subst hai
 have hok := hv.ok
 have hmm := hok.many
 obtain ⟨n24, t1, t2, h1, h2, hb, hf⟩ := hv
 obtain ⟨N, hN, hNi⟩ : ∃ N, N = T.toTable.many ∧ (N : Int) = 1 + T.tanks + T.hulls := ⟨_, rfl, by simp only [Table.many, Tab.toTable]; omega⟩
 rw [← hN] at hB ha hmm ⊢
 refine fun102.call rfl byO ?_
 unfold a102
 (focus ((try with_reducible apply wpC.to); (repeat' ((conv => whnf); first | refine byEv ?_ | (apply Fork.mk <;> (intro _; try (exfalso; omega))) | fail)); all_goals ((conv => whnf); try with_reducible apply At.mk)))
 refine OpE.mk (v := .map (some (h.next + 3))) rfl ?_
 (focus ((try with_reducible apply wpC.to); (repeat' ((conv => whnf); first | refine byEv ?_ | (apply Fork.mk <;> (intro _; try (exfalso; omega))) | fail)); all_goals ((conv => whnf); try with_reducible apply At.mk)))
 have hst : splice ([.pointer (some ⟨r, 0, none⟩)] ++ kCells (fun _ => none) ++ [.map (some (h.next + 3)), .int .i64 (-1)]) (0 + 1 + a * 2) [.bool true, .int .i64 0] = hCells r (h.next + 3) (AgreeS.start a) := by
  have := kCells_set (fun _ => none) (some 0) (t := a) (a := 0 + 1 + a * 2) byO [.pointer (some ⟨r, 0, none⟩)] [.map (some (h.next + 3)), .int .i64 (-1)] (by simp)
  have e1 : (AgreeS.start a).known = upd (fun _ => none) a (some 0) := rfl
  have e2 : (AgreeS.start a).last = -1 := rfl
  simpa [hCells, e1, e2, boundV] using this
 refine Sto.mk (r := h.next + 5) (off := 0 + 1 + a * 2) (c' := hCells r (h.next + 3) (AgreeS.start a)) rfl byO byGet rfl rfl (Nat.ble_eq_true_of_le ?_) ?_ ?_
 ·simp only [List.length_cons, List.length_nil]; omega
 ·refine is_eq ((congrArg (fun l => splice l (0 + 1 + a * 2) [.bool true, .int .i64 0]) (?_ : _ = [.pointer (some ⟨r, 0, none⟩)] ++ kCells (fun _ => none) ++ [.map (some (h.next + 3)), .int .i64 (-1)])).trans hst)
  kernel_rfl
 (focus ((try with_reducible apply wpC.to); (repeat' ((conv => whnf); first | refine byEv ?_ | (apply Fork.mk <;> (intro _; try (exfalso; omega))) | fail)); all_goals ((conv => whnf); try with_reducible apply At.mk)))
 refine wp_loop (fun s : Nat => [(0, .pointer (some ⟨r, 0, none⟩)), (6, .pointer (some ⟨h.next + 6, 0, none⟩)), (23, .int .i64 (1 + T.tanks + T.hulls)), (24, .int .i64 s)])
  (fun s h1 => h1.get (h.next + 5) = some (.cells (hCells r (h.next + 3) (passes B s (AgreeS.start a))) 192) ∧ h1.get (h.next + 3) = some (.map (ents (passes B s (AgreeS.start a)).before 0) (passes B s (AgreeS.start a)).before.length) ∧
   h1.get (h.next + 6) = some (.cells [.pointer (some ⟨h.next + 5, 0, none⟩)] 99) ∧ h1.get r = some (.cells (T.head ++ netRows B) e) ∧ h.next + 7 ≤ h1.next ∧ s ≤ N) (fun s => N - s) 0 ⟨rfl, rfl, rfl, rfl, trivial⟩ ⟨byGet, byGet, byGet, ?_, byOm, by omega⟩ ?_
 ·(with_reducible apply bump_skip)
  (exact byGet)
 rintro s g h1 ⟨g1, g2, g3, g4, hn, hs⟩ K hK
 generalize hx : passes B s (AgreeS.start a) = x at g1 g2
 (focus ((try with_reducible apply wpC.to); (repeat' ((conv => whnf); first | refine byEv ?_ | (apply Fork.mk <;> (intro _; try (exfalso; omega))) | fail)); all_goals ((conv => whnf); try with_reducible apply At.mk)))
 ·refine Sto.mk (r := h.next + 5) (off := 0 + 28) (c' := hCells r (h.next + 3) { x with last := -1 }) rfl byO byGet rfl rfl (h_ble _ _ _ byO) (is_eq (h_setlast _ _ _ _)) ?_
  (focus ((try with_reducible apply wpC.to); (repeat' ((conv => whnf); first | refine byEv ?_ | (apply Fork.mk <;> (intro _; try (exfalso; omega))) | fail)); all_goals ((conv => whnf); try with_reducible apply At.mk)))
  apply q_call
  focus (exact byNext)
  focus omega
  focus exact steps_w
  rintro _ h2 ⟨q, rfl, hq1, hq2, hgq⟩ qu hn2
  (focus ((try with_reducible apply wpC.to); (repeat' ((conv => whnf); first | refine byEv ?_ | (apply Fork.mk <;> (intro _; try (exfalso; omega))) | fail)); all_goals ((conv => whnf); try with_reducible apply At.mk)))
  refine wp_forget (l := [(0, .pointer (some ⟨r, 0, none⟩)), (6, .pointer (some ⟨h.next + 6, 0, none⟩)), (23, .int .i64 (1 + T.tanks + T.hulls)), (24, .int .i64 s), (30, .func (.func 282) ⟨[]⟩ ⟨[.pointer (some ⟨q, 0, none⟩)]⟩)]) ⟨rfl, rfl, rfl, rfl, rfl, trivial⟩ fun g' => ?_
  apply wp_range
  focus exact rfl
  focus (exact byNext)
  focus (exact byList)
  intro L0 hL0
  generalize hx0 : ({ x with last := -1 } : St) = x0
  have hb0 : x0.before = x.before := by rw [← hx0]
  refine ⟨_, eachStep_w (q := q) (r := r) (hd := T.head) (e := e) (B := B) byOm byGet T.head_len ?_ (fun f t m hm => by have := (hB f t m hm).2.2; unfold M at this; omega)
   (fun l h3 => h3.get (h.next + 5) = some (.cells (hCells r (h.next + 3) (l.foldl relax x0)) 192) ∧ h3.get (h.next + 3) = some (.map (ents (l.foldl relax x0).before 0) (l.foldl relax x0).before.length) ∧
    h3.get (h.next + 6) = some (.cells [.pointer (some ⟨h.next + 5, 0, none⟩)] 99) ∧ h3.get r = some (.cells (T.head ++ netRows B) e) ∧ h3.get h2.next = some (.loop L0) ∧ h2.next < h3.next) ?_ ?_ ⟨?_, ?_, ?_, ?_, ?_, ?_⟩, ?_⟩
  ·(exact byGet)
  ·rintro l h3 h4 ⟨k1, k2, k3, k4, k5, k6⟩ qq
   have := qq.next
   exact ⟨byGet, byGet, byGet, byGet, byGet, by omega⟩
  ·rintro l ⟨f, t, m⟩ rest h3 hsplit ⟨k1, k2, k3, k4, k5, k6⟩ hle
   have hmem : (⟨f, t, m⟩ : Step) ∈ steps B := by rw [← hsplit]; simp
   obtain ⟨hf13, ht13, hBm⟩ := mem_steps.1 hmem
   have hf13 : f < 13 := hf13
   have ht13 : t < 13 := ht13
   obtain ⟨-, -, hm1, hm2⟩ := hB f t m hBm
   have hfold : (l ++ [(⟨f, t, m⟩ : Step)]).foldl relax x0 = relax (l.foldl relax x0) ⟨f, t, m⟩ := by rw [List.foldl_append]; rfl
   rw [hfold]
   generalize hyy : l.foldl relax x0 = y at k1 k2 ⊢
   have hsm : Small (s * 169 + 169) y.known := by
    have h1 : Small (0 + s * 169) (passes B s (AgreeS.start a)).known := small_passes hB s 0 _ (small_start a)
    rw [hx] at h1
    have h2 : Small (0 + s * 169 + l.length) (l.foldl relax x0).known := by
     rw [← hx0]
     exact Small.fold hB l _ _ (fun u hu => by rw [← hsplit]; simp [hu]) h1
    rw [hyy] at h2
    refine h2.mono ?_
    have := steps_len B
    rw [← hsplit] at this
    simp at this
    omega
   obtain ⟨b1, c1, hb1, hc1, hk1⟩ : ∃ b1 c1, boundV (y.known f) = [.bool b1, .int .i64 c1] ∧ (-10000000000 ≤ c1 ∧ c1 ≤ 10000000000) ∧ y.known f = (if b1 then some c1 else none) := by
    cases e : y.known f with
    | none => exact ⟨false, 0, rfl, by omega, rfl⟩
    | some c =>
      have := hsm _ _ e
      have hsn : ((s * 169 + 169 : Nat) : Int) ≤ 10000 := by omega
      have : ((s * 169 + 169 : Nat) : Int) * M ≤ 10000 * M := Int.mul_le_mul_of_nonneg_right hsn (by simp [M])
      refine ⟨true, c, rfl, ?_, rfl⟩
      unfold M at this
      unfold M at *
      omega
   obtain ⟨b2, c2, hb2, hk2⟩ : ∃ b2 c2, boundV (y.known t) = [.bool b2, .int .i64 c2] ∧ y.known t = (if b2 then some c2 else none) := by
    cases e : y.known t with
    | none => exact ⟨false, 0, rfl, rfl⟩
    | some c => exact ⟨true, c, rfl, rfl⟩
   unfold M at hm1 hm2
   refine YA.call fun102.mixed (A := a102A0) (B := a102B0) (L := L0) (by rw [hL0]; exact c102A0) (by rw [hL0]; exact c102B0) k5 byO byO (by rw [hL0]; exact rfl) (by rw [hL0]; exact rfl) ?_
   unfold YA a102A0
   refine wp_forget (l := [(6, .pointer (some ⟨h.next + 6, 0, none⟩)), (31, .agg ⟨[.int .i64 f, .int .i64 t, .int .i64 m]⟩)]) ⟨by rw [hL0]; exact rfl, by rw [hL0]; exact rfl, trivial⟩ fun g'' => ?_
   (focus ((try with_reducible apply wpC.to); (repeat' ((conv => whnf); first | refine byEv ?_ | (apply Fork.mk <;> (intro _; try (exfalso; omega))) | fail)); all_goals ((conv => whnf); try with_reducible apply At.mk)))
   refine ⟨rfl, L0, byGet, by rw [hL0]; exact rfl, ?_⟩
   unfold a102B0
   have hL1 : ended (busy L0) .none = L0 := by rw [hL0]; exact rfl
   have fin : ∀ z : St, z = relax y ⟨f, t, m⟩ → ∀ h4 : H, h4.get (h.next + 5) = some (.cells (hCells r (h.next + 3) z) 192) → h4.get (h.next + 3) = some (.map (ents z.before 0) z.before.length) → h4.get (h.next + 6) = some (.cells [.pointer (some ⟨h.next + 5, 0, none⟩)] 99) →
    h4.get r = some (.cells (T.head ++ netRows B) e) → h4.get h2.next = some (.loop (busy L0)) → h2.next < h4.next → ∃ p L2, roundEnd .normal = some p ∧ h4.get h2.next = some (.loop L2) ∧ Value.bool (pendB p) = .bool true ∧
     (h4.put h2.next (.loop (ended L2 p))).get (h.next + 5) = some (.cells (hCells r (h.next + 3) (relax y ⟨f, t, m⟩)) 192) ∧ (h4.put h2.next (.loop (ended L2 p))).get (h.next + 3) = some (.map (ents (relax y ⟨f, t, m⟩).before 0) (relax y ⟨f, t, m⟩).before.length) ∧
     (h4.put h2.next (.loop (ended L2 p))).get (h.next + 6) = some (.cells [.pointer (some ⟨h.next + 5, 0, none⟩)] 99) ∧ (h4.put h2.next (.loop (ended L2 p))).get r = some (.cells (T.head ++ netRows B) e) ∧ (h4.put h2.next (.loop (ended L2 p))).get h2.next = some (.loop L0) ∧ h2.next < (h4.put h2.next (.loop (ended L2 p))).next := by
    intro z hz h4 a1 a2 a3 a4 a5 a6
    subst hz
    refine ⟨.none, _, rfl, a5, rfl, ?_⟩
    rw [hL1]
    exact ⟨byGet, byGet, byGet, byGet, byGet, byOm⟩
   (focus ((try with_reducible apply wpC.to); (repeat' ((conv => whnf); first | refine byEv ?_ | (apply Fork.mk <;> (intro _; try (exfalso; omega))) | fail)); all_goals ((conv => whnf); try with_reducible apply At.mk)))
   refine LoadN.mk (l := [.bool b1, .int .i64 c1]) (hb1 ▸ h_load hf13 byGet) Is.rfl ?_
   (focus ((try with_reducible apply wpC.to); (repeat' ((conv => whnf); first | refine byEv ?_ | (apply Fork.mk <;> (intro _; try (exfalso; omega))) | fail)); all_goals ((conv => whnf); try with_reducible apply At.mk)))
   refine LoadN.mk (l := [.bool b2, .int .i64 c2]) (hb2 ▸ h_load ht13 byGet) Is.rfl ?_
   cases b1 with
   | false =>
     (focus ((try with_reducible apply wpC.to); (repeat' ((conv => whnf); first | refine byEv ?_ | (apply Fork.mk <;> (intro _; try (exfalso; omega))) | fail)); all_goals ((conv => whnf); try with_reducible apply At.mk)))
     refine fin y (by simp [relax, better, hk1]) _ byGet byGet byGet byGet byGet byOm
   | true =>
     cases b2 with
     | false =>
       (focus ((try with_reducible apply wpC.to); (repeat' ((conv => whnf); first | refine byEv ?_ | (apply Fork.mk <;> (intro _; try (exfalso; omega))) | fail)); all_goals ((conv => whnf); try with_reducible apply At.mk)))
       refine Sto.mk (r := h.next + 5) (off := 0 + 1 + t * 2) (c' := hCells r (h.next + 3) { y with known := upd y.known t (some (c1 + m)) }) rfl byO byGet rfl rfl (h_ble _ _ _ byO) (is_eq (h_set r (h.next + 3) y (some (c1 + m)) ht13)) ?_
       (focus ((try with_reducible apply wpC.to); (repeat' ((conv => whnf); first | refine byEv ?_ | (apply Fork.mk <;> (intro _; try (exfalso; omega))) | fail)); all_goals ((conv => whnf); try with_reducible apply At.mk)))
       refine Load1.mk (h_map byGet) rfl ?_
       (focus ((try with_reducible apply wpC.to); (repeat' ((conv => whnf); first | refine byEv ?_ | (apply Fork.mk <;> (intro _; try (exfalso; omega))) | fail)); all_goals ((conv => whnf); try with_reducible apply At.mk)))
       refine OpE.mk (mapup_of (r := h.next + 3) (l := y.before) (a := t) (b := f) rfl rfl rfl rfl byO byGet) ?_
       (focus ((try with_reducible apply wpC.to); (repeat' ((conv => whnf); first | refine byEv ?_ | (apply Fork.mk <;> (intro _; try (exfalso; omega))) | fail)); all_goals ((conv => whnf); try with_reducible apply At.mk)))
       refine Sto.mk (r := h.next + 5) (off := 0 + 28) (c' := hCells r (h.next + 3) ⟨upd y.known t (some (c1 + m)), putB y.before t f, t⟩) rfl byO byGet rfl rfl (h_ble _ _ _ byO) (is_eq ((h_setlast _ _ _ _).trans (hCells_before _ _ _ _ _ _))) ?_
       (focus ((try with_reducible apply wpC.to); (repeat' ((conv => whnf); first | refine byEv ?_ | (apply Fork.mk <;> (intro _; try (exfalso; omega))) | fail)); all_goals ((conv => whnf); try with_reducible apply At.mk)))
       refine fin ⟨upd y.known t (some (c1 + m)), putB y.before t f, t⟩ ?_ _ byGet byGet byGet byGet byGet byOm
       have hbet : better y.known ⟨f, t, m⟩ = true := by simp [better, hk1, hk2]; try omega
       simp [relax, hbet, lower, hk1]
     | true =>
       (focus ((try with_reducible apply wpC.to); (repeat' ((conv => whnf); first | refine byEv ?_ | (apply Fork.mk <;> (intro _; try (exfalso; omega))) | fail)); all_goals ((conv => whnf); try with_reducible apply At.mk)))
       ·refine Sto.mk (r := h.next + 5) (off := 0 + 1 + t * 2) (c' := hCells r (h.next + 3) { y with known := upd y.known t (some (c1 + m)) }) rfl byO byGet rfl rfl (h_ble _ _ _ byO) (is_eq (h_set r (h.next + 3) y (some (c1 + m)) ht13)) ?_
        (focus ((try with_reducible apply wpC.to); (repeat' ((conv => whnf); first | refine byEv ?_ | (apply Fork.mk <;> (intro _; try (exfalso; omega))) | fail)); all_goals ((conv => whnf); try with_reducible apply At.mk)))
        refine Load1.mk (h_map byGet) rfl ?_
        (focus ((try with_reducible apply wpC.to); (repeat' ((conv => whnf); first | refine byEv ?_ | (apply Fork.mk <;> (intro _; try (exfalso; omega))) | fail)); all_goals ((conv => whnf); try with_reducible apply At.mk)))
        refine OpE.mk (mapup_of (r := h.next + 3) (l := y.before) (a := t) (b := f) rfl rfl rfl rfl byO byGet) ?_
        (focus ((try with_reducible apply wpC.to); (repeat' ((conv => whnf); first | refine byEv ?_ | (apply Fork.mk <;> (intro _; try (exfalso; omega))) | fail)); all_goals ((conv => whnf); try with_reducible apply At.mk)))
        refine Sto.mk (r := h.next + 5) (off := 0 + 28) (c' := hCells r (h.next + 3) ⟨upd y.known t (some (c1 + m)), putB y.before t f, t⟩) rfl byO byGet rfl rfl (h_ble _ _ _ byO) (is_eq ((h_setlast _ _ _ _).trans (hCells_before _ _ _ _ _ _))) ?_
        (focus ((try with_reducible apply wpC.to); (repeat' ((conv => whnf); first | refine byEv ?_ | (apply Fork.mk <;> (intro _; try (exfalso; omega))) | fail)); all_goals ((conv => whnf); try with_reducible apply At.mk)))
        refine fin ⟨upd y.known t (some (c1 + m)), putB y.before t f, t⟩ ?_ _ byGet byGet byGet byGet byGet byOm
        have hbet : better y.known ⟨f, t, m⟩ = true := by simp [better, hk1, hk2]; try omega
        simp [relax, hbet, lower, hk1]
       ·have hbet : better y.known ⟨f, t, m⟩ = false := by simp [better, hk1, hk2]; try omega
        refine fin y (by simp [relax, hbet]) _ byGet byGet byGet byGet byGet byOm
  ·rw [List.foldl_nil, ← hx0]
   (exact byGet)
  ·rw [List.foldl_nil, hb0]
   (exact byGet)
  ·(exact byGet)
  ·(exact byGet)
  ·(exact byGet)
  ·(exact byOm)
  ·rintro v h3 ⟨k1, k2, k3, k4, k5, k6⟩ qq
   have hpass : (steps B).foldl relax x0 = passes B (s + 1) (AgreeS.start a) := by
    rw [passes_succ, hx, pass, hx0]
   rw [hpass] at k1 k2
   refine ⟨_, k5, by rw [hL0]; simp [loop0], ?_⟩
   rw [hL0]
   simp only [loop0, pendE]
   (focus ((try with_reducible apply wpC.to); (repeat' ((conv => whnf); first | refine byEv ?_ | (apply Fork.mk <;> (intro _; try (exfalso; omega))) | fail)); all_goals ((conv => whnf); try with_reducible apply At.mk)))
   refine hK (s + 1) _ _ ⟨rfl, rfl, rfl, int_of rfl byO, trivial⟩ ⟨byGet, byGet, byGet, byGet, byOm, by omega⟩ byO
 ·refine Load1.mk (h_last byGet) rfl ?_
  have hsN : s = N := by omega
  have hfx : AgreeS.found B N a = x := by rw [← hsN]; exact hx
  (focus ((try with_reducible apply wpC.to); (repeat' ((conv => whnf); first | refine byEv ?_ | (apply Fork.mk <;> (intro _; try (exfalso; omega))) | fail)); all_goals ((conv => whnf); try with_reducible apply At.mk)))
  all_goals (refine byFin ?_)
  ·refine ⟨h.next + 5, h.next + 3, 192, ?_, by omega, byOm, by omega, byOm, by omega, ?_, ?_⟩ <;> rw [hfx]
   ·rw [decide_eq_true byO]
   ·(exact byGet)
   ·(exact byGet)
  ·refine ⟨h.next + 5, h.next + 3, 192, ?_, by omega, byOm, by omega, byOm, by omega, ?_, ?_⟩ <;> rw [hfx]
   ·rw [decide_eq_false byO]
   ·(exact byGet)
   ·(exact byGet)

end AE.Tryz.Agr
