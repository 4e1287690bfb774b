/- Walks and plain laws: TAgreeD, TAgreeE, TAgreeF. -/
import Derived.Test.YtneenfjffejnoaaGreatJoin21
import Derived.Test.YtneenfjffejnoaaGreatAEthree
set_option linter.unusedVariables false
set_option linter.unusedSimpArgs false
set_option linter.unusedSectionVars false

/- Walks of agree: the net of a table. -/
namespace AE.Tryz.Agr
open Go AE AE.Ag AgreeS Go.Proofs
set_option maxRecDepth 100000

def RTest.toTest (x : RTest) : Test := ⟨x.tank.toNat, x.hull.toNat, x.lo, x.hi⟩
def Tab.toTable (T : Tab) : Table := ⟨T.tanks.toNat, T.hulls.toNat, T.blo, T.bhi, (List.range T.n).map fun i => (T.f i).toTest⟩
theorem Tab.Valid.ok {T : Tab} (v : T.Valid) : T.toTable.Ok := by
 obtain ⟨n24, t1, t2, h1, h2, hb, hf⟩ := v
 unfold isR at hb
 refine ⟨by simp only [Tab.toTable]; omega, by simp only [Tab.toTable]; omega, by simp only [Tab.toTable]; omega, by simp only [Tab.toTable]; omega, hb.1, by simp only [Tab.toTable, M]; omega, by simp only [Tab.toTable, M]; omega, fun x hx => ?_⟩
 simp only [Tab.toTable, List.mem_map, List.mem_range] at hx
 obtain ⟨i, hi, rfl⟩ := hx
 obtain ⟨a, b, c⟩ := hf i hi
 unfold isR at c
 exact ⟨by simp only [Tab.toTable, RTest.toTest]; omega, by simp only [Tab.toTable, RTest.toTest]; omega, c.1, by simp only [RTest.toTest, M]; omega, by simp only [RTest.toTest, M]; omega⟩

def Tab.head (T : Tab) : List Value := T.cells ++ [.int .i64 (1 + T.tanks + T.hulls)]
theorem Tab.head_len (T : Tab) : T.head.length = 6 := rfl

def netTo (T : Tab) (k : Nat) : Net := ((List.range k).map fun i => (T.f i).toTest).foldl (putTest T.toTable) ((List.range T.tanks.toNat).foldl (putTank T.toTable) empty)
theorem netTo_all (T : Tab) : netTo T T.n = netOf T.toTable := rfl
theorem netTo_succ (T : Tab) (k : Nat) : netTo T (k + 1) = putTest T.toTable (netTo T k) (T.f k).toTest := by
 simp [netTo, List.range_succ]
def tankTo (T : Tab) (k : Nat) : Net := (List.range k).foldl (putTank T.toTable) empty
theorem tankTo_succ (T : Tab) (k : Nat) : tankTo T (k + 1) = putTank T.toTable (tankTo T k) k := by
 simp [tankTo, List.range_succ]
theorem netTo_zero (T : Tab) : netTo T 0 = tankTo T T.tanks.toNat := rfl

theorem put_i {h : H} {lo r f t : Nat} {fi ti m : Int} {hd : List Value} {B : Net} {e : TypeId} (hlo : lo ≤ r) (hr : r < h.next) (hd6 : hd.length = 6) (hf : f < 13) (ht : t < 13) (hfi : fi = (f : Int)) (hti : ti = (t : Int)) (hg : h.get r = some (.cells (hd ++ netRows B) e)) :
 AW Tryz.prog 101 lo h [.pointer (some ⟨r, 0, none⟩), .int .i64 fi, .int .i64 ti, .int .i64 m] (fun _ h' => h'.get r = some (.cells (hd ++ netRows (AgreeS.put B f t m)) e) ∧ ∀ s, s < h.next → s ≠ r → h'.get s = h.get s) := by
 subst hfi; subst hti
 exact put_w hlo hr hd6 hf ht hg

set_option maxHeartbeats 1000000 in
theorem newNet_w {h : H} {T : Tab} {m : Nat} (hm : m ≤ h.next) (hT : T.Ok m h) (hv : T.Valid) :
 AW Tryz.prog 39 h.next h [.agg ⟨T.cells⟩] (fun v h' => ∃ r e, v = .pointer (some ⟨r, 0, none⟩) ∧ h.next ≤ r ∧ r < h'.next ∧ h'.get r = some (.cells (T.head ++ netRows (netOf T.toTable)) e)) := by
 have hok := hv.ok
 obtain ⟨n24, t1, t2, h1, h2, hb, hf⟩ := hv
 unfold isR at hb
 refine fun39.call rfl byO ?_
 unfold a39
 (focus ((try with_reducible apply wpC.to); (repeat' ((conv => whnf); first | refine byEv ?_ | (apply Fork.mk <;> (intro _; try (exfalso; omega))) | fail)); all_goals ((conv => whnf); try with_reducible apply At.mk)))
 refine wp_loop (fun s : Nat => [(1, .pointer (some ⟨h.next, 0, none⟩)), (3, .pointer (some ⟨h.next + 10, 0, none⟩)), (22, .int .i64 T.tanks), (23, .int .i64 s)])
  (fun s h1 => h1.get (h.next + 10) = some (.cells (T.head ++ netRows (tankTo T s)) 187) ∧ h1.get h.next = some (.cells T.cells 31) ∧ Same h.next h h1 ∧ h.next + 11 ≤ h1.next ∧ (s : Int) ≤ T.tanks) (fun s => T.tanks.toNat - s) 0 ⟨rfl, rfl, rfl, rfl, trivial⟩ ⟨?_, ?_, ?_, ?_, by omega⟩ ?_
 ·refine Eq.trans (b := some (ARow.cells ?zz 187)) ?_ ?_
  rotate_left
  focus (((try dsimp only [aadd]); (repeat (first | assumption | exact put_get rfl | ((with_reducible apply put_skip); focus exact byNe) | with_reducible apply bump_skip | ((with_reducible apply quiet_skip); (focus assumption); focus exact byLt) | exact put_get byO | ((with_reducible apply same_get); (focus assumption); focus exact byLt))); done))
  focus kernel_rfl
 ·(exact byGet)
 ·(exact bySame)
 ·(exact byOm)
 rintro s g h1 ⟨g1, g2, sm, hn, hs⟩ K hK
 (focus ((try with_reducible apply wpC.to); (repeat' ((conv => whnf); first | refine byEv ?_ | (apply Fork.mk <;> (intro _; try (exfalso; omega))) | fail)); all_goals ((conv => whnf); try with_reducible apply At.mk)))
 ·apply q_callw
  focus exact put_i (f := 0) (t := 1 + s) (B := tankTo T s) byO byOm T.head_len byO byO rfl byO byGet
  rintro _ h2 ⟨g3, g4⟩ q2
  have g5 : h2.get h.next = some (ARow.cells T.cells 31) := (g4 h.next byOm byO).trans byGet
  have hn2 := q2.next
  (focus ((try with_reducible apply wpC.to); (repeat' ((conv => whnf); first | refine byEv ?_ | (apply Fork.mk <;> (intro _; try (exfalso; omega))) | fail)); all_goals ((conv => whnf); try with_reducible apply At.mk)))
  apply q_callw
  focus exact put_i (f := 1 + s) (t := 0) byO byOm T.head_len byO byO byO rfl byGet
  rintro _ h3 ⟨g6, g7⟩ q3
  have g8 : h3.get h.next = some (ARow.cells T.cells 31) := (g7 h.next byOm byO).trans byGet
  have hn3 := q3.next
  (focus ((try with_reducible apply wpC.to); (repeat' ((conv => whnf); first | refine byEv ?_ | (apply Fork.mk <;> (intro _; try (exfalso; omega))) | fail)); all_goals ((conv => whnf); try with_reducible apply At.mk)))
  refine hK (s + 1) _ _ ⟨rfl, rfl, rfl, int_of rfl byO, trivial⟩ ⟨?_, byGet, bySame, byOm, by omega⟩ byO
  rw [tankTo_succ]
  exact bump_skip g6
 ·have : s = T.tanks.toNat := by omega
  subst this
  rw [← netTo_zero] at g1
  refine wp_loop (fun s : Nat => [(1, .pointer (some ⟨h.next, 0, none⟩)), (3, .pointer (some ⟨h.next + 10, 0, none⟩)), (52, .slice T.b T.n T.c), (53, .int .i64 T.n), (54, .int .i64 s)])
   (fun s h1 => h1.get (h.next + 10) = some (.cells (T.head ++ netRows (netTo T s)) 187) ∧ h1.get h.next = some (.cells T.cells 31) ∧ Same h.next h h1 ∧ h.next + 11 ≤ h1.next ∧ s ≤ T.n) (fun s => T.n - s) 0 ⟨rfl, rfl, rfl, rfl, rfl, trivial⟩ ⟨byGet, byGet, bySame, byOm, by omega⟩ ?_
  rintro s g' h1' ⟨g1, g2, sm, hn, hs⟩ K hK
  have hT0 : T.Ok m h1' := hT.same bySame (Nat.le_refl _)
  obtain ⟨te, ti, tr, tl⟩ := hT0
  have hfs : s < T.n → 0 ≤ (T.f s).tank ∧ (T.f s).tank < T.tanks ∧ 0 ≤ (T.f s).hull ∧ (T.f s).hull < T.hulls ∧ (T.f s).lo ≤ (T.f s).hi ∧ -1000000 ≤ (T.f s).lo ∧ (T.f s).hi ≤ 1000000 := fun hlt => by
   obtain ⟨a, b, c⟩ := hf s hlt
   unfold isR at c
   omega
  (focus ((try with_reducible apply wpC.to); (repeat' ((conv => whnf); first | refine byEv ?_ | (apply Fork.mk <;> (intro _; try (exfalso; omega))) | fail)); all_goals ((conv => whnf); try with_reducible apply At.mk)))
  ·have hfs := hfs byO
   apply q_callw
   focus exact put_i (f := 1 + T.tanks.toNat + (T.f s).hull.toNat) (t := 1 + (T.f s).tank.toNat) (B := netTo T s) byO byOm T.head_len byO byO byO byO byGet
   rintro _ h2 ⟨g3, g4⟩ q2
   have g5 : h2.get h.next = some (ARow.cells T.cells 31) := (g4 h.next byOm byO).trans byGet
   have g9 : h2.get (h1'.next + 3) = some (ARow.cells (T.f s).cells 33) := (g4 (h1'.next + 3) byOm byO).trans byGet
   have hn2 := q2.next
   unfold RTest.cells at g9
   (focus ((try with_reducible apply wpC.to); (repeat' ((conv => whnf); first | refine byEv ?_ | (apply Fork.mk <;> (intro _; try (exfalso; omega))) | fail)); all_goals ((conv => whnf); try with_reducible apply At.mk)))
   apply q_callw
   focus exact put_i (f := 1 + (T.f s).tank.toNat) (t := 1 + T.tanks.toNat + (T.f s).hull.toNat) byO byOm T.head_len byO byO byO byO byGet
   rintro _ h3 ⟨g6, g7⟩ q3
   have g8 : h3.get h.next = some (ARow.cells T.cells 31) := (g7 h.next byOm byO).trans byGet
   have hn3 := q3.next
   (focus ((try with_reducible apply wpC.to); (repeat' ((conv => whnf); first | refine byEv ?_ | (apply Fork.mk <;> (intro _; try (exfalso; omega))) | fail)); all_goals ((conv => whnf); try with_reducible apply At.mk)))
   refine hK (s + 1) _ _ ⟨rfl, rfl, rfl, rfl, int_of rfl byO, trivial⟩ ⟨?_, byGet, bySame, byOm, by omega⟩ byO
   rw [netTo_succ]
   exact bump_skip g6
  ·(refine byFin ?_)
   have : s = T.n := by omega
   subst this
   rw [netTo_all] at g1
   exact ⟨_, _, rfl, by omega, byOm, byGet⟩

end AE.Tryz.Agr

/- Walks of agree: a net turned round. -/
namespace AE.Tryz.Agr
open Go AE AE.Ag AgreeS Go.Proofs
set_option maxRecDepth 100000

def partT (B : Net) (a b : Nat) : Net := fun t f => if f < a ∨ (f = a ∧ t < b) then B f t else none
theorem partT_zero (B : Net) : partT B 0 0 = empty := by funext t f; simp [partT, empty]
theorem partT_row {B : Net} {N a : Nat} (hB : ∀ f t m, B f t = some m → f < N ∧ t < N) : partT B a N = partT B (a + 1) 0 := by
 funext t f
 simp only [partT]
 by_cases h : f = a
 ·subst h
  by_cases ht : t < N
  ·simp [ht]
  ·have : B f t = none := by
    cases e : B f t with
    | none => rfl
    | some m => exact absurd (hB _ _ _ e).2 ht
   simp [this]
 ·have : (f < a ∨ f = a ∧ t < N) ↔ (f < a + 1 ∨ f = a + 1 ∧ t < 0) := by omega
  simp only [this]
theorem partT_all {B : Net} {N : Nat} (hB : ∀ f t m, B f t = some m → f < N ∧ t < N) : partT B N 0 = turn B := by
 funext t f
 simp only [partT, turn]
 by_cases h : f < N
 ·simp [h]
 ·have : B f t = none := by
   cases e : B f t with
   | none => rfl
   | some m => exact absurd (hB _ _ _ e).1 h
  simp [this]
theorem partT_step (B : Net) (a b i j : Nat) : partT B a (b + 1) i j = if i = b ∧ j = a then B a b else partT B a b i j := by
 simp only [partT]
 by_cases h : i = b ∧ j = a
 ·obtain ⟨rfl, rfl⟩ := h; simp
 ·rw [if_neg h]
  have : (j < a ∨ j = a ∧ i < b + 1) ↔ (j < a ∨ j = a ∧ i < b) := by omega
  simp only [this]

theorem boundV_is (o : Option Int) : ∃ b x, boundV o = [.bool b, .int .i64 x] := by cases o <;> exact ⟨_, _, rfl⟩

set_option maxHeartbeats 1000000 in
theorem turned_w {h : H} {T : Tab} {r : Nat} {B : Net} {e : TypeId} (hv : T.Valid) (hr : r < h.next) (hB : ∀ f t m, B f t = some m → f < T.toTable.many ∧ t < T.toTable.many) (hg : h.get r = some (.cells (T.head ++ netRows B) e)) :
 AW Tryz.prog 56 h.next h [.pointer (some ⟨r, 0, none⟩)] (fun v h' => ∃ r' e', v = .pointer (some ⟨r', 0, none⟩) ∧ h.next ≤ r' ∧ r' < h'.next ∧ h'.get r' = some (.cells (T.head ++ netRows (turn B)) e')) := by
 obtain ⟨n24, t1, t2, h1, h2, hb, hf⟩ := hv
 obtain ⟨N, hN, hNi⟩ : ∃ N, N = T.toTable.many ∧ (N : Int) = 1 + T.tanks + T.hulls := ⟨_, rfl, by simp only [Table.many, Tab.toTable]; omega⟩
 rw [← hN] at hB
 refine fun56.call rfl byO ?_
 unfold a56
 (focus ((try with_reducible apply wpC.to); (repeat' ((conv => whnf); first | refine byEv ?_ | (apply Fork.mk <;> (intro _; try (exfalso; omega))) | fail)); all_goals ((conv => whnf); try with_reducible apply At.mk)))
 refine wp_loop (fun s : Nat => [(0, .pointer (some ⟨r, 0, none⟩)), (3, .pointer (some ⟨h.next + 10, 0, none⟩)), (19, .int .i64 (1 + T.tanks + T.hulls)), (20, .int .i64 s)])
  (fun s h1 => h1.get (h.next + 10) = some (.cells (T.head ++ netRows (partT B s 0)) 187) ∧ h1.get r = some (.cells (T.head ++ netRows B) e) ∧ h.next + 11 ≤ h1.next ∧ s ≤ N) (fun s => N - s) 0 ⟨rfl, rfl, rfl, rfl, trivial⟩ ⟨?_, ?_, byOm, by omega⟩ ?_
 ·rw [partT_zero]
  refine Eq.trans (b := some (ARow.cells ?zz 187)) ?_ ?_
  rotate_left
  focus (((try dsimp only [aadd]); (repeat (first | assumption | exact put_get rfl | ((with_reducible apply put_skip); focus exact byNe) | with_reducible apply bump_skip | ((with_reducible apply quiet_skip); (focus assumption); focus exact byLt) | exact put_get byO | ((with_reducible apply same_get); (focus assumption); focus exact byLt))); done))
  focus kernel_rfl
 ·(with_reducible apply bump_skip)
  (with_reducible apply put_skip)
  focus omega
  (exact byGet)
 rintro s g h1 ⟨g1, g2, hn, hs⟩ K hK
 (focus ((try with_reducible apply wpC.to); (repeat' ((conv => whnf); first | refine byEv ?_ | (apply Fork.mk <;> (intro _; try (exfalso; omega))) | fail)); all_goals ((conv => whnf); try with_reducible apply At.mk)))
 ·refine wp_loop (fun u : Nat => [(0, .pointer (some ⟨r, 0, none⟩)), (3, .pointer (some ⟨h.next + 10, 0, none⟩)), (4, .int .i64 s), (19, .int .i64 (1 + T.tanks + T.hulls)), (20, .int .i64 s), (26, .int .i64 (1 + T.tanks + T.hulls)), (27, .int .i64 u)])
   (fun u h1 => h1.get (h.next + 10) = some (.cells (T.head ++ netRows (partT B s u)) 187) ∧ h1.get r = some (.cells (T.head ++ netRows B) e) ∧ h.next + 11 ≤ h1.next ∧ u ≤ N) (fun u => N - u) 0 ⟨rfl, rfl, rfl, rfl, rfl, rfl, rfl, trivial⟩ ⟨byGet, byGet, byOm, by omega⟩ ?_
  rintro u g' h2 ⟨g3, g4, hn2, hu⟩ K' hK'
  obtain ⟨b, x, hbx⟩ := boundV_is (B s u)
  have hld : s < N → u < N → ∀ h1 : H, h1.get r = some (.cells (T.head ++ netRows B) e) → h1.loadN ⟨r, 0 + 6 + s * 26 + u * 2, none⟩ 2 = some [.bool b, .int .i64 x] := fun hs hu h1 h1g =>
   loadN_cells h1g (by
    have := netRows_get B (f := s) (t := u) byO byO T.head [] (a := 0 + 6 + s * 26 + u * 2) (by rw [T.head_len])
    rw [← hbx]
    simpa using this)
  have hst : s < N → u < N → splice (T.head ++ netRows (partT B s u)) (0 + 6 + u * 26 + s * 2) [.bool b, .int .i64 x] = T.head ++ netRows (partT B s (u + 1)) := fun hs hu => by
   have := netRows_set (B := partT B s u) (B' := partT B s (u + 1)) (v := B s u) (a := 0 + 6 + u * 26 + s * 2) (f := u) (t := s) (partT_step B s u) byO byO T.head [] (by rw [T.head_len])
   rw [hbx] at this
   simpa using this
  (focus ((try with_reducible apply wpC.to); (repeat' ((conv => whnf); first | refine byEv ?_ | (apply Fork.mk <;> (intro _; try (exfalso; omega))) | fail)); all_goals ((conv => whnf); try with_reducible apply At.mk)))
  ·refine LoadN.mk (hld byO byO _ byGet) Is.rfl ?_
   (focus ((try with_reducible apply wpC.to); (repeat' ((conv => whnf); first | refine byEv ?_ | (apply Fork.mk <;> (intro _; try (exfalso; omega))) | fail)); all_goals ((conv => whnf); try with_reducible apply At.mk)))
   refine Sto.mk (r := h.next + 10) (off := 0 + 6 + u * 26 + s * 2) rfl byO byGet rfl rfl (Nat.ble_eq_true_of_le (by simp [T.head_len, netRows_len]; omega)) (is_eq (hst byO byO)) ?_
   (focus ((try with_reducible apply wpC.to); (repeat' ((conv => whnf); first | refine byEv ?_ | (apply Fork.mk <;> (intro _; try (exfalso; omega))) | fail)); all_goals ((conv => whnf); try with_reducible apply At.mk)))
   refine hK' (u + 1) _ _ ⟨rfl, rfl, rfl, rfl, rfl, rfl, int_of rfl byO, trivial⟩ ⟨byGet, ?_, byOm, by omega⟩ byO
   (exact byGet)
  ·have : u = N := by omega
   subst this
   rw [partT_row hB] at g3
   refine hK (s + 1) _ _ ⟨rfl, rfl, rfl, int_of rfl byO, trivial⟩ ⟨byGet, byGet, byOm, by omega⟩ byO
 ·(refine byFin ?_)
  have : s = N := by omega
  subst this
  rw [partT_all hB] at g1
  exact ⟨_, _, rfl, by omega, byOm, byGet⟩

end AE.Tryz.Agr

/- Walks of agree: the steps of a net, one after the other. -/
namespace AE.Tryz.Agr
open Go AE AE.Ag AgreeS Go.Proofs
set_option maxRecDepth 100000

theorem steps_w {h : H} {r : Nat} : AW Tryz.prog 191 h.next h [.pointer (some ⟨r, 0, none⟩)] (fun v h' => ∃ q, v = .func (.func 282) ⟨[]⟩ ⟨[.pointer (some ⟨q, 0, none⟩)]⟩ ∧ h.next ≤ q ∧ q < h'.next ∧ h'.get q = some (.cells [.pointer (some ⟨r, 0, none⟩)] 101)) := by
 refine fun191.call rfl (Nat.le_refl _) ?_
 unfold a191
 (focus ((try with_reducible apply wpC.to); (repeat' ((conv => whnf); first | refine byEv ?_ | fail)); all_goals ((conv => whnf); try with_reducible apply At.mk)))
 (refine byFin ?_)
 exact ⟨_, rfl, byOm, byOm, byGet⟩

theorem loadN_all {h : H} {r off n : Nat} {hd m : List Value} {e : TypeId} (hg : h.get r = some (.cells (hd ++ m) e)) (ho : hd.length = off) (hn : m.length = n) : h.loadN ⟨r, off, none⟩ n = some m := by
 refine loadN_cells hg ?_
 have := cut_app (p := hd) (m := m) (s := []) ho hn
 simpa using this

theorem ixvn_of {P : Program} {lo nid n sz i : Nat} {ts : Ts} {h : H} {x y : Opd} {cs l : List Value} (hx : ev ts x = .agg ⟨cs⟩) (hy : ev ts y = .int .i64 (i : Int)) (hi : i < n) (hc : cut cs (i * sz) sz = some l) : aop P lo nid ts h (.ixvn n sz x y) = some (.agg ⟨l⟩, h) := by
 simp [aop, keep, hx, hy, xIxvn, natOf?, hi, hc]
theorem splice_whole {c vs : List Value} (h : c.length = vs.length) : splice c 0 vs = vs := by simp [splice, ← h]
theorem kCells_one (k : Known) : (kCells k).all Value.oneCell' = true := by
 unfold kCells
 have : ∀ n, (rowsOf (fun i => boundV (k i)) n).all Value.oneCell' = true := by
  intro n
  induction n with
  | zero => rfl
  | succ n ih => simp only [rowsOf, List.all_append, ih, oneCell_bound, Bool.and_self]
 exact this 13
theorem cutK (k : Known) {t : Nat} (ht : t < 13) : cut (kCells k) (t * 2) 2 = some (boundV (k t)) := by
 have := kCells_get k ht [] [] (a := t * 2) (by simp)
 simpa using this
theorem cutRow (B : Net) {f : Nat} (hf : f < 13) : cut (netRows B) (f * 26) 26 = some (kCells (B f)) := by
 have := netRows_row B hf [] [] (a := f * 26) (by simp)
 simpa using this

theorem PartOf.one {P : Program} {e : TypeId} {cs : List Value} {off : Nat} {v : Value} (h1 : isAggT P e = some false) (h2 : cs[off]? = some v) : PartOf P e false cs off [v] := ⟨h1, by rw [if_neg (by simp)]; exact ⟨v, h2, rfl⟩⟩
theorem PartOf.agg {P : Program} {e : TypeId} {s : Nat} {cs x : List Value} {off : Nat} (h1 : isAggT P e = some true) (h2 : sizeT P e = some s) (h3 : cut cs off s = some x) : PartOf P e true cs off x := ⟨h1, by rw [if_pos rfl]; exact ⟨s, h2, h3⟩⟩

theorem bound_eqc (a c : Bool) (x y : Int) : EqC Tryz.prog 2 182 true [.bool a, .int .i64 x] [.bool c, .int .i64 y] (a == c && (x == y && true)) := by
 refine EqC.struct (fs := ?fs) ?ht ?hs ?h
 case ht => exact rfl
 case hs => kernel_rfl
 refine EqFs.cons (agg := false) (x := [.bool a]) (y := [.bool c]) (by decide) (PartOf.one rfl rfl) (PartOf.one rfl rfl) (EqC.bool rfl) ?_
 exact EqFs.cons (agg := false) (x := [.int .i64 x]) (y := [.int .i64 y]) (by decide) (PartOf.one rfl rfl) (PartOf.one rfl rfl) (EqC.int rfl) EqFs.nil
theorem bound_none (o : Option Int) : EqC Tryz.prog 2 182 true (boundV o) (boundV none) o.isNone := by
 cases o with
 | none => exact bound_eqc false false 0 0
 | some m => exact bound_eqc true false m 0
theorem row_eqc (k : Known) : EqC Tryz.prog 3 184 true (kCells k) (kCells fun _ => none) (allB (fun i => (k i).isNone) 13) :=
 EqC.arr (e := 182) (m := 13) (s := 2) (agg := true) (x := fun i => boundV (k i)) (y := fun _ => boundV none) rfl rfl (fun i hi => PartOf.agg rfl rfl (cutK k hi)) (fun i hi => PartOf.agg rfl rfl (cutK _ hi)) fun i _ => bound_none (k i)
theorem zero_lit : kCells (fun _ => none) = [.bool false, .int .i64 0, .bool false, .int .i64 0, .bool false, .int .i64 0, .bool false, .int .i64 0, .bool false, .int .i64 0, .bool false, .int .i64 0, .bool false, .int .i64 0, .bool false, .int .i64 0, .bool false, .int .i64 0, .bool false, .int .i64 0, .bool false, .int .i64 0, .bool false, .int .i64 0, .bool false, .int .i64 0] := by kernel_rfl
theorem flatL_all : ∀ {cs : List Value}, (∀ v ∈ cs, AE.flat v = true) → flatL cs = true
 | [], _ => rfl
 | v :: cs, h => by simp only [flatL, h v (by simp), flatL_all fun w hw => h w (List.mem_cons_of_mem _ hw), Bool.and_self]
theorem boundV_flat (o : Option Int) : ∀ v ∈ boundV o, AE.flat v = true := by
 cases o <;> (intro v hv; simp only [boundV, List.mem_cons, List.not_mem_nil, or_false] at hv; rcases hv with rfl | rfl <;> rfl)
theorem kCells_flat (k : Known) : AE.flat (.agg ⟨kCells k⟩) = true := by
 show flatL (kCells k) = true
 refine flatL_all fun v hv => ?_
 have : ∀ n, v ∈ rowsOf (fun i => boundV (k i)) n → AE.flat v = true := by
  intro n
  induction n with
  | zero => intro h; cases h
  | succ n ih =>
    intro h
    rcases List.mem_append.1 h with h | h
    ·exact ih h
    ·exact boundV_flat (k n) v h
 unfold kCells at hv
 exact this 13 hv

set_option maxHeartbeats 1000000 in
theorem eachStep_w {h : H} {lo : Nat} {yv : Value} {q r : Nat} {B : Net} {hd : List Value} {e : TypeId} (hlo : lo ≤ h.next) (hg : h.get q = some (.cells [.pointer (some ⟨r, 0, none⟩)] 101)) (hd6 : hd.length = 6) (hgr : h.get r = some (.cells (hd ++ netRows B) e))
 (hB : ∀ f t m, B f t = some m → -1000000 ≤ m ∧ m ≤ 1000000)
 (Inv : List Step → H → Prop) (hst : ∀ l h1 h2, Inv l h1 → Quiet h1.next h1 h2 → Inv l h2)
 (hy : ∀ l s rest h1, l ++ s :: rest = steps B → Inv l h1 → lo ≤ h1.next → ∃ v h2, (v = .bool true ∧ Inv (l ++ [s]) h2) ∧ ACall Tryz.prog yv lo h1 [.agg ⟨[.int .i64 s.from_, .int .i64 s.to, .int .i64 s.most]⟩] v h2) (h0 : Inv [] h) :
 AW Tryz.prog 282 lo h [yv, .pointer (some ⟨q, 0, none⟩)] (fun _ h' => Inv (steps B) h') := by
 refine fun282.call rfl hlo ?_
 unfold a282
 (focus ((try with_reducible apply wpC.to); (repeat' ((conv => whnf); first | refine byEv ?_ | (apply Fork.mk <;> (intro _; try (exfalso; omega))) | ((refine kTAgreeB1c ?_); first | ((first | apply q_allD | apply q_alli | apply q_allB) <;> intro _ _ _ _ <;> try contradiction) | (apply q_allv; intro _ _ _)) | fail)); all_goals ((conv => whnf); try with_reducible apply At.mk)))
 refine LoadN.mk (l := netRows B) (loadN_all byGet (by simp [hd6]) (netRows_len B)) Is.rfl ?_
 (focus ((try with_reducible apply wpC.to); (repeat' ((conv => whnf); first | refine byEv ?_ | (apply Fork.mk <;> (intro _; try (exfalso; omega))) | ((refine kTAgreeB1c ?_); first | ((first | apply q_allD | apply q_alli | apply q_allB) <;> intro _ _ _ _ <;> try contradiction) | (apply q_allv; intro _ _ _)) | fail)); all_goals ((conv => whnf); try with_reducible apply At.mk)))
 refine wp_loop (fun s : Nat => [(0, yv), (10, .agg ⟨netRows B⟩), (11, .int .i64 s)]) (fun s h1 => Inv (pre B s 0) h1 ∧ Quiet lo h h1 ∧ s ≤ 13) (fun s => 13 - s) 0 ⟨rfl, rfl, rfl, trivial⟩ ⟨?_, ?_, by omega⟩ ?_
 ·exact hst _ h _ h0 ⟨by simp [bump_next], fun _ _ => rfl, fun hc r hr => hc r (by simp [bump_next] at hr; omega)⟩
 ·(exact byQuiet)
 rintro s g h1 ⟨hi, qu, hs⟩ K hK
 have hnx := qu.next
 (focus ((try with_reducible apply wpC.to); (repeat' ((conv => whnf); first | refine byEv ?_ | (apply Fork.mk <;> (intro _; try (exfalso; omega))) | ((refine kTAgreeB1c ?_); first | ((first | apply q_allD | apply q_alli | apply q_allB) <;> intro _ _ _ _ <;> try contradiction) | (apply q_allv; intro _ _ _)) | fail)); all_goals ((conv => whnf); try with_reducible apply At.mk)))
 ·have hs13 : s < 13 := by omega
  refine OpE.val (v := .agg ⟨kCells (B s)⟩) (ixvn_of rfl rfl hs13 (cutRow B hs13)) rfl ?_
  (focus ((try with_reducible apply wpC.to); (repeat' ((conv => whnf); first | refine byEv ?_ | (apply Fork.mk <;> (intro _; try (exfalso; omega))) | ((refine kTAgreeB1c ?_); first | ((first | apply q_allD | apply q_alli | apply q_allB) <;> intro _ _ _ _ <;> try contradiction) | (apply q_allv; intro _ _ _)) | fail)); all_goals ((conv => whnf); try with_reducible apply At.mk)))
  refine Sto.mk (c' := kCells (B s)) rfl byO byGet (kCells_len _) (kCells_one _) rfl (is_eq (splice_whole (by rw [kCells_len]; rfl))) ?_
  (focus ((try with_reducible apply wpC.to); (repeat' ((conv => whnf); first | refine byEv ?_ | (apply Fork.mk <;> (intro _; try (exfalso; omega))) | ((refine kTAgreeB1c ?_); first | ((first | apply q_allD | apply q_alli | apply q_allB) <;> intro _ _ _ _ <;> try contradiction) | (apply q_allv; intro _ _ _)) | fail)); all_goals ((conv => whnf); try with_reducible apply At.mk)))
  refine LoadN.mk (l := kCells (B s)) (loadN_all (hd := []) byGet rfl (kCells_len _)) Is.rfl ?_
  (focus ((try with_reducible apply wpC.to); (repeat' ((conv => whnf); first | refine byEv ?_ | (apply Fork.mk <;> (intro _; try (exfalso; omega))) | ((refine kTAgreeB1c ?_); first | ((first | apply q_allD | apply q_alli | apply q_allB) <;> intro _ _ _ _ <;> try contradiction) | (apply q_allv; intro _ _ _)) | fail)); all_goals ((conv => whnf); try with_reducible apply At.mk)))
  refine OpE.pure (.bool (allB (fun i => (B s i).isNone) 13)) (xPure_eql (A := ⟨kCells (B s)⟩) (B := ⟨kCells fun _ => none⟩) rfl rfl (by rw [zero_lit]; rfl) (kCells_flat _) (kCells_flat _) (by kernel_rfl) ((row_eqc (B s)).run 3 Op.maxDepth (by decide))) ?_
  cases hall : allB (fun i => (B s i).isNone) 13 with
  | true =>
    (focus ((try with_reducible apply wpC.to); (repeat' ((conv => whnf); first | refine byEv ?_ | (apply Fork.mk <;> (intro _; try (exfalso; omega))) | ((refine kTAgreeB1c ?_); first | ((first | apply q_allD | apply q_alli | apply q_allB) <;> intro _ _ _ _ <;> try contradiction) | (apply q_allv; intro _ _ _)) | fail)); all_goals ((conv => whnf); try with_reducible apply At.mk)))
    have hnone : ∀ t, t < 13 → B s t = none := fun t ht => by
     have := List.all_eq_true.1 hall t (List.mem_range.2 ht)
     simpa using this
    have hp : pre B (s + 1) 0 = pre B s 0 := by rw [pre_next, pre_row 13 hnone]
    refine hK (s + 1) _ _ ⟨rfl, rfl, int_of rfl byO, trivial⟩ ⟨?_, byQuiet, by omega⟩ byO
    rw [hp]
    exact hst _ _ _ hi byQuiet
  | false =>
    (focus ((try with_reducible apply wpC.to); (repeat' ((conv => whnf); first | refine byEv ?_ | (apply Fork.mk <;> (intro _; try (exfalso; omega))) | ((refine kTAgreeB1c ?_); first | ((first | apply q_allD | apply q_alli | apply q_allB) <;> intro _ _ _ _ <;> try contradiction) | (apply q_allv; intro _ _ _)) | fail)); all_goals ((conv => whnf); try with_reducible apply At.mk)))
    refine LoadN.mk (l := kCells (B s)) (loadN_all (hd := []) byGet rfl (kCells_len _)) Is.rfl ?_
    (focus ((try with_reducible apply wpC.to); (repeat' ((conv => whnf); first | refine byEv ?_ | (apply Fork.mk <;> (intro _; try (exfalso; omega))) | ((refine kTAgreeB1c ?_); first | ((first | apply q_allD | apply q_alli | apply q_allB) <;> intro _ _ _ _ <;> try contradiction) | (apply q_allv; intro _ _ _)) | fail)); all_goals ((conv => whnf); try with_reducible apply At.mk)))
    refine wp_loop (fun u : Nat => [(0, yv), (3, .int .i64 s), (10, .agg ⟨netRows B⟩), (11, .int .i64 s), (18, .agg ⟨kCells (B s)⟩), (19, .int .i64 u)]) (fun u h1 => Inv (pre B s u) h1 ∧ Quiet lo h h1 ∧ u ≤ 13) (fun u => 13 - u) 0 ⟨rfl, rfl, rfl, rfl, rfl, rfl, trivial⟩ ⟨hst _ _ _ hi byQuiet, byQuiet, by omega⟩ ?_
    rintro u g' h2 ⟨hi', qu', hu⟩ K' hK'
    have hnx2 := qu'.next
    (focus ((try with_reducible apply wpC.to); (repeat' ((conv => whnf); first | refine byEv ?_ | (apply Fork.mk <;> (intro _; try (exfalso; omega))) | ((refine kTAgreeB1c ?_); first | ((first | apply q_allD | apply q_alli | apply q_allB) <;> intro _ _ _ _ <;> try contradiction) | (apply q_allv; intro _ _ _)) | fail)); all_goals ((conv => whnf); try with_reducible apply At.mk)))
    ·have hu13 : u < 13 := by omega
     cases e : B s u with
     | none =>
       refine OpE.val (v := .agg ⟨boundV none⟩) (ixvn_of rfl rfl hu13 (e ▸ cutK (B s) hu13)) rfl ?_
       (focus ((try with_reducible apply wpC.to); (repeat' ((conv => whnf); first | refine byEv ?_ | (apply Fork.mk <;> (intro _; try (exfalso; omega))) | ((refine kTAgreeB1c ?_); first | ((first | apply q_allD | apply q_alli | apply q_allB) <;> intro _ _ _ _ <;> try contradiction) | (apply q_allv; intro _ _ _)) | fail)); all_goals ((conv => whnf); try with_reducible apply At.mk)))
       refine hK' (u + 1) _ _ ⟨rfl, rfl, rfl, rfl, rfl, int_of rfl byO, trivial⟩ ⟨?_, byQuiet, by omega⟩ byO
       rw [pre_none e]
       exact hst _ _ _ hi' byQuiet
     | some m =>
       refine OpE.val (v := .agg ⟨boundV (some m)⟩) (ixvn_of rfl rfl hu13 (e ▸ cutK (B s) hu13)) rfl ?_
       obtain ⟨rest, hrest⟩ := pre_split hs13 hu13 e
       (focus ((try with_reducible apply wpC.to); (repeat' ((conv => whnf); first | refine byEv ?_ | (apply Fork.mk <;> (intro _; try (exfalso; omega))) | ((refine kTAgreeB1c ?_); first | ((first | apply q_allD | apply q_alli | apply q_allB) <;> intro _ _ _ _ <;> try contradiction) | (apply q_allv; intro _ _ _)) | fail)); all_goals ((conv => whnf); try with_reducible apply At.mk)))
       apply q_calla
       focus exact hy (pre B s u) ⟨s, u, m⟩ rest _ hrest (hst _ _ _ hi' byQuiet) byOm
       rintro _ h3 ⟨rfl, hi3⟩ q3
       have hnx3 := q3.next
       (focus ((try with_reducible apply wpC.to); (repeat' ((conv => whnf); first | refine byEv ?_ | (apply Fork.mk <;> (intro _; try (exfalso; omega))) | ((refine kTAgreeB1c ?_); first | ((first | apply q_allD | apply q_alli | apply q_allB) <;> intro _ _ _ _ <;> try contradiction) | (apply q_allv; intro _ _ _)) | fail)); all_goals ((conv => whnf); try with_reducible apply At.mk)))
       refine hK' (u + 1) _ _ ⟨rfl, rfl, rfl, rfl, rfl, int_of rfl byO, trivial⟩ ⟨?_, byQuiet, by omega⟩ byO
       rw [pre_some e]
       exact hst _ _ _ hi3 byQuiet
    ·have : u = 13 := by omega
     subst this
     rw [← pre_next] at hi'
     refine hK (s + 1) _ _ ⟨rfl, rfl, int_of rfl byO, trivial⟩ ⟨hst _ _ _ hi' byQuiet, byQuiet, by omega⟩ byO
 ·(refine byFin ?_)
  have : s = 13 := by omega
  subst this
  rw [pre_all] at hi
  exact hst _ _ _ hi byQuiet

end AE.Tryz.Agr
