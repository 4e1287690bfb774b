/- Walks and plain laws: TAgreeJ, TAgreeK. -/
import Derived.Test.YtneenfjffejnoaaGreatJoin10
set_option linter.unusedVariables false
set_option linter.unusedSimpArgs false
set_option linter.unusedSectionVars false

/- Walks of agree: hulls. -/
namespace AE.Tryz.Agr
open Go AE AE.Ag AgreeS Go.Proofs
set_option maxRecDepth 100000

theorem ofHull_w {h : H} {x : RTest} {r : Nat} {z : Int} {e : TypeId} (hr : r < h.next) (hg : h.get r = some (.cells [.int .i64 z] e)) : AW Tryz.prog 120 h.next h [.agg ⟨x.cells⟩, .pointer (some ⟨r, 0, none⟩)] (fun v _ => v = .bool (decide (x.hull = z))) := by
 refine fun120.call rfl (Nat.le_refl _) ?_
 unfold a120
 (focus ((try with_reducible apply wpC.to); (repeat' ((conv => whnf); first | refine byEv ?_ | (apply Fork.mk <;> (intro _; try (exfalso; omega))) | fail)); all_goals ((conv => whnf); try with_reducible apply At.mk)))
 all_goals ((refine byFin ?_); first | exact bool_t rfl byO | exact bool_f rfl byO)

theorem tested_iff {T : Tab} (hv : T.Valid) {z : Int} (hz : 0 ≤ z) : Tested T.toTable z.toNat ↔ ∃ i, i < T.n ∧ (T.f i).hull = z := by
 constructor
 ·rintro ⟨y, hy, hyz⟩
  simp only [Tab.toTable, List.mem_map, List.mem_range] at hy
  obtain ⟨i, hi, rfl⟩ := hy
  have := hv.f i hi
  simp only [RTest.toTest] at hyz
  exact ⟨i, hi, by omega⟩
 ·rintro ⟨i, hi, rfl⟩
  exact ⟨(T.f i).toTest, by simp only [Tab.toTable, List.mem_map, List.mem_range]; exact ⟨i, hi, rfl⟩, rfl⟩

inductive HullsIs (T : Tab) (n : Nat) (f : Nat → Int) (h : H) : Value → H → Prop
 | doubt {h' : H} (ha : ¬ Agrees T.toTable) : HullsIs T n f h (.tuple #[.pointer none, .pointer none, .int .i64 20]) h'
 | unt {h' : H} (ha : Agrees T.toTable) (hn : ∃ i, i < n ∧ ¬ Tested T.toTable (f i).toNat) : HullsIs T n f h (.tuple #[.pointer none, .pointer none, .int .i64 5]) h'
 | ok {h' : H} {r hr : Nat} {e : TypeId} (ha : Agrees T.toTable) (ht : ∀ i, i < n → Tested T.toTable (f i).toNat) (h1 : h.next ≤ r) (h2 : r < h'.next) (hg : h'.get r = some (.cells (T.head ++ netRows (netOf T.toTable)) e))
  (hl : Lies h r (AgreeS.found (netOf T.toTable) T.toTable.many 0) hr h') : HullsIs T n f h (.tuple #[.pointer (some ⟨r, 0, .none⟩), .pointer (some ⟨hr, 0, .none⟩), .int .i64 0]) h'

set_option maxHeartbeats 1000000 in
theorem hulls_w {h : H} {T : Tab} {m : Nat} {L : Arr} (hm : m ≤ h.next) (hT : T.Ok m h) (hv : T.Valid) (hL : L.Ok h.next h) (hf : ∀ i, i < L.n → 0 ≤ L.f i ∧ L.f i < T.hulls) :
 AW Tryz.prog 55 h.next h [.agg ⟨T.cells⟩, L.val] (HullsIs T L.n L.f h) := by
 have hok := hv.ok
 obtain ⟨le, li, lr, ll⟩ := hL
 unfold Arr.val
 refine fun55.call rfl (Nat.le_refl _) ?_
 unfold a55
 (focus ((try with_reducible apply wpC.to); (repeat' ((conv => whnf); first | refine byEv ?_ | (apply Fork.mk <;> (intro _; try (exfalso; omega))) | fail)); all_goals ((conv => whnf); try with_reducible apply At.mk)))
 apply q_callv
 focus (exact byNext)
 focus (exact byLo)
 focus exact checkTable_w (m := m) byOm (hT.same bySame (Nat.le_refl _)) hv
 intro h1 q1 hn1
 (focus ((try with_reducible apply wpC.to); (repeat' ((conv => whnf); first | refine byEv ?_ | (apply Fork.mk <;> (intro _; try (exfalso; omega))) | fail)); all_goals ((conv => whnf); try with_reducible apply At.mk)))
 refine wp_loop (fun s : Nat => [(1, .slice L.b L.n L.c), (2, .pointer (some ⟨h.next, 0, none⟩)), (20, .slice L.b L.n L.c), (21, .int .i64 L.n), (22, .int .i64 s)])
  (fun s h2 => Same h.next h h2 ∧ h.next + 1 ≤ h2.next ∧ s ≤ L.n ∧ h2.get h.next = some (.cells T.cells 31)) (fun s => L.n - s) 0 ⟨rfl, rfl, rfl, rfl, rfl, trivial⟩ ⟨bySame, byOm, by omega, byGet⟩ ?_
 rintro s g h2 ⟨sm, hn2, hs, g1⟩ K hK
 have hfs : s < L.n → 0 ≤ L.f s ∧ L.f s < T.hulls := hf s
 (focus ((try with_reducible apply wpC.to); (repeat' ((conv => whnf); first | refine byEv ?_ | (apply Fork.mk <;> (intro _; try (exfalso; omega))) | fail)); all_goals ((conv => whnf); try with_reducible apply At.mk)))
 ·refine hK (s + 1) _ _ ⟨rfl, rfl, rfl, rfl, int_of rfl byO, trivial⟩ ⟨bySame, byOm, by omega, byGet⟩ byO
 clear hfs hK K
 apply q_call
 focus (exact byNext)
 focus (exact byLo)
 focus exact newNet_w (m := m) (by have := sm; (exact byOm)) (hT.same bySame (Nat.le_refl _)) hv
 rintro _ h3 ⟨r, e, rfl, hr1, hr2, hr3⟩ q3 hn3
 (focus ((try with_reducible apply wpC.to); (repeat' ((conv => whnf); first | refine byEv ?_ | (apply Fork.mk <;> (intro _; try (exfalso; omega))) | fail)); all_goals ((conv => whnf); try with_reducible apply At.mk)))
 apply q_call
 focus (exact byNext)
 focus (exact byLo)
 focus exact heights_w (B := netOf T.toTable) (e := e) hv byOm (lim_net hok) byGet
 rintro _ h4 ⟨hr, rfl, hL⟩ q4 hn4
 simp only [bump_next] at hr1 hr2
 by_cases ha : (AgreeS.found (netOf T.toTable) T.toTable.many 0).last < 0
 rotate_left
 ·rw [decide_eq_false ha]
  (focus ((try with_reducible apply wpC.to); (repeat' ((conv => whnf); first | refine byEv ?_ | (apply Fork.mk <;> (intro _; try (exfalso; omega))) | fail)); all_goals ((conv => whnf); try with_reducible apply At.mk)))
  (refine byFin ?_)
  exact .doubt fun h => ha ((agrees_iff hok).2 h)
 rw [decide_eq_true ha]
 have ha := (agrees_iff hok).1 ha
 (focus ((try with_reducible apply wpC.to); (repeat' ((conv => whnf); first | refine byEv ?_ | (apply Fork.mk <;> (intro _; try (exfalso; omega))) | fail)); all_goals ((conv => whnf); try with_reducible apply At.mk)))
 obtain ⟨mr, e', l1, l2, l3, l4, l5, l6, l7⟩ := hL
 simp only [bump_next] at l1 l3
 refine wp_loop (fun u : Nat => [(2, .pointer (some ⟨h.next, 0, none⟩)), (10, .pointer (some ⟨r, 0, none⟩)), (11, .pointer (some ⟨hr, 0, none⟩)), (44, .slice L.b L.n L.c), (45, .int .i64 L.n), (46, .int .i64 u)])
  (fun u h5 => Same h4.next h4 h5 ∧ h4.next ≤ h5.next ∧ u ≤ L.n ∧ (∀ i, i < u → Tested T.toTable (L.f i).toNat)) (fun u => L.n - u) 0 ⟨rfl, rfl, rfl, rfl, rfl, rfl, trivial⟩ ⟨bySame, byOm, by omega, fun i hi => by omega⟩ ?_
 clear g
 rintro u g h5 ⟨sm5, hn5, hu, htt⟩ K hK
 have hT4 : T.Ok m h4 := hT.same bySame (Nat.le_refl _)
 have g5 : h4.get h.next = some (.cells T.cells 31) := by (exact byGet)
 (focus ((try with_reducible apply wpC.to); (repeat' ((conv => whnf); first | refine byEv ?_ | (apply Fork.mk <;> (intro _; try (exfalso; omega))) | fail)); all_goals ((conv => whnf); try with_reducible apply At.mk)))
 ·have hfu := hf u byO
  apply q_callB
  focus (exact byNext)
  focus (exact byLo)
  focus
   refine anyTests_w (m := m) (p := fun i => decide ((T.f i).hull = L.f u)) byOm (hT4.same bySame (Nat.le_refl _)) fun i k1 hi q => ?_
   exact acall_of (ofHull_w (x := T.f i) (r := h5.next + 3) (e := 3) (by have := q.next; (exact byOm)) ((q.same _ byOm).trans byGet)) rfl
  ·intro hb h6 q hn6
   (focus ((try with_reducible apply wpC.to); (repeat' ((conv => whnf); first | refine byEv ?_ | (apply Fork.mk <;> (intro _; try (exfalso; omega))) | fail)); all_goals ((conv => whnf); try with_reducible apply At.mk)))
   refine hK (u + 1) _ _ ⟨rfl, rfl, rfl, rfl, rfl, int_of rfl byO, trivial⟩ ⟨bySame, byOm, by omega, fun i hi => ?_⟩ byO
   by_cases hiu : i = u
   ·subst hiu
    obtain ⟨j, hj, hj2⟩ := of_decide_eq_true hb
    exact (tested_iff hv hfu.1).2 ⟨j, hj, of_decide_eq_true hj2⟩
   ·exact htt i byO
  ·intro hb h6 q hn6
   (focus ((try with_reducible apply wpC.to); (repeat' ((conv => whnf); first | refine byEv ?_ | (apply Fork.mk <;> (intro _; try (exfalso; omega))) | fail)); all_goals ((conv => whnf); try with_reducible apply At.mk)))
   (refine byFin ?_)
   refine .unt ha ⟨u, by omega, fun ht => of_decide_eq_false hb ?_⟩
   obtain ⟨j, hj, hj2⟩ := (tested_iff hv hfu.1).1 ht
   exact ⟨j, hj, decide_eq_true hj2⟩
 ·(refine byFin ?_)
  have : u = L.n := by omega
  subst this
  exact .ok ha htt byO byOm (e := e) byGet ⟨mr, e', by omega, byOm, by omega, byOm, l5, byGet, byGet⟩

end AE.Tryz.Agr

/- Walks of agree: what a hull can have, and the truths of its ends. -/
namespace AE.Tryz.Agr
set_option linter.unusedSimpArgs false
open Go AE AE.Ag AgreeS Go.Proofs
set_option maxRecDepth 100000
open Classical in
noncomputable def sErr (T : Table) (j : Nat) : Int := if Agrees T then (if Tested T j then 0 else 5) else 20
noncomputable def sLo (T : Table) (j : Nat) : Int := if sErr T j = 0 then lowX T j else 0
noncomputable def sHi (T : Table) (j : Nat) : Int := if sErr T j = 0 then highX T j else 0
open Classical in
noncomputable def bErr (T : Table) (i j : Nat) : Int := if Agrees T then (if Tested T i ∧ Tested T j then 0 else 5) else 20
theorem sErr_ok {T : Table} {j : Nat} : sErr T j = 0 ↔ Agrees T ∧ Tested T j := by
 unfold sErr
 by_cases ha : Agrees T <;> by_cases ht : Tested T j <;> simp [ha, ht]
theorem bErr_ok {T : Table} {i j : Nat} : bErr T i j = 0 ↔ Agrees T ∧ Tested T i ∧ Tested T j := by
 unfold bErr
 by_cases ha : Agrees T <;> by_cases ht : Tested T i <;> by_cases hu : Tested T j <;> simp [ha, ht, hu]

theorem HullsIs.one {T : Tab} {z : Int} {h : H} {v : Value} {h' : H} (k : HullsIs T 1 (fun _ => z) h v h') :
 (sErr T.toTable z.toNat ≠ 0 ∧ v = .tuple #[.pointer none, .pointer none, .int .i64 (sErr T.toTable z.toNat)]) ∨
 (sErr T.toTable z.toNat = 0 ∧ Agrees T.toTable ∧ Tested T.toTable z.toNat ∧ ∃ r hr e, v = .tuple #[.pointer (some ⟨r, 0, none⟩), .pointer (some ⟨hr, 0, none⟩), .int .i64 0] ∧ h.next ≤ r ∧ r < h'.next ∧ h'.get r = some (.cells (T.head ++ netRows (netOf T.toTable)) e) ∧
  Lies h r (AgreeS.found (netOf T.toTable) T.toTable.many 0) hr h') := by
 cases k with
 | doubt ha => exact .inl (by simp [sErr, ha])
 | unt ha hn =>
   obtain ⟨i, -, hn⟩ := hn
   exact .inl (by simp [sErr, ha, hn])
 | ok ha ht h1 h2 hg hl =>
   have ht := ht 0 byO
   exact .inr ⟨sErr_ok.2 ⟨ha, ht⟩, ha, ht, _, _, _, rfl, h1, h2, hg, hl⟩
theorem HullsIs.two {T : Tab} {z w : Int} {h : H} {v : Value} {h' : H} (k : HullsIs T 2 (fun i => if i = 0 then z else w) h v h') :
 (bErr T.toTable z.toNat w.toNat ≠ 0 ∧ v = .tuple #[.pointer none, .pointer none, .int .i64 (bErr T.toTable z.toNat w.toNat)]) ∨
 (bErr T.toTable z.toNat w.toNat = 0 ∧ Agrees T.toTable ∧ Tested T.toTable z.toNat ∧ Tested T.toTable w.toNat ∧ ∃ r hr e, v = .tuple #[.pointer (some ⟨r, 0, none⟩), .pointer (some ⟨hr, 0, none⟩), .int .i64 0] ∧ h.next ≤ r ∧ r < h'.next ∧ h'.get r = some (.cells (T.head ++ netRows (netOf T.toTable)) e) ∧
  Lies h r (AgreeS.found (netOf T.toTable) T.toTable.many 0) hr h') := by
 cases k with
 | doubt ha => exact .inl (by simp [bErr, ha])
 | unt ha hn =>
   obtain ⟨i, -, hn⟩ := hn
   refine .inl ?_
   split at hn <;> simp [bErr, ha, hn]
 | ok ha ht h1 h2 hg hl =>
   have ht0 := ht 0 byO
   have ht1 := ht 1 byO
   simp only [if_true] at ht0
   rw [if_neg byO] at ht1
   exact .inr ⟨bErr_ok.2 ⟨ha, ht0, ht1⟩, ha, ht0, ht1, _, _, _, rfl, h1, h2, hg, hl⟩

theorem low_small {T : Table} (h : T.Ok) (k : Agrees T) (v : Nat) : -(12 * AgreeS.M) ≤ hts (AgreeS.found (netOf T) T.many 0).known v ∧ hts (AgreeS.found (netOf T) T.many 0).known v ≤ 12 * AgreeS.M := hts_small (agrees_found h k).2 v
theorem high_small {T : Table} (h : T.Ok) (k : Agrees T) (v : Nat) : -(12 * AgreeS.M) ≤ hts (AgreeS.found (turn (netOf T)) T.many 0).known v ∧ hts (AgreeS.found (turn (netOf T)) T.many 0).known v ≤ 12 * AgreeS.M := hts_small (agrees_turned h k).2 v

set_option maxHeartbeats 1000000 in
theorem spread_w {h : H} {T : Tab} {m : Nat} {z : Int} (hm : m ≤ h.next) (hT : T.Ok m h) (hv : T.Valid) (hz : 0 ≤ z ∧ z < T.hulls) :
 AW Tryz.prog 19 h.next h [.agg ⟨T.cells⟩, .int .i64 z] (fun v _ => v = .tuple #[.agg ⟨[.int .i64 (sLo T.toTable z.toNat), .int .i64 (sHi T.toTable z.toNat)]⟩, .int .i64 (sErr T.toTable z.toNat)]) := by
 have hok := hv.ok
 have hmm := hok.many
 refine fun19.call rfl (Nat.le_refl _) ?_
 unfold a19
 (focus ((try with_reducible apply wpC.to); (repeat' ((conv => whnf); first | refine byEv ?_ | (apply Fork.mk <;> (intro _; try (exfalso; omega))) | fail)); all_goals ((conv => whnf); try with_reducible apply At.mk)))
 apply q_call
 focus (exact byNext)
 focus (exact byLo)
 focus exact hulls_w (m := m) (L := ⟨1, fun _ => z, some ⟨h.next + 5, 0, none⟩, ⟨h.next + 5, 0, none⟩, 1⟩) byOm (hT.same bySame (Nat.le_refl _)) hv ⟨fun _ => rfl, fun i hi => by obtain rfl : i = 0 := (by simp only at hi; omega); exact loadN_one (off := 0 + 0) byGet rfl, fun _ => by simp only; (exact byOm), by simp⟩ (fun i hi => hz)
 intro v h1 k q hn
 rcases k.one with ⟨he, rfl⟩ | ⟨he, ha, ht, r, hr, e, rfl, hr1, hr2, hg, mr, e', l1, l2, l3, l4, l5, l6, l7⟩
 ·(focus ((try with_reducible apply wpC.to); (repeat' ((conv => whnf); first | refine byEv ?_ | (apply Fork.mk <;> (intro _; try (exfalso; omega))) | fail)); all_goals ((conv => whnf); try with_reducible apply At.mk)))
  have h1 : sLo T.toTable z.toNat = 0 := if_neg he
  have h2 : sHi T.toTable z.toNat = 0 := if_neg he
  rw [h1, h2]
  all_goals ((refine byFin ?_); rfl)
 try simp only [put_next, bump_next] at hr1 l1 l3
 (focus ((try with_reducible apply wpC.to); (repeat' ((conv => whnf); first | refine byEv ?_ | (apply Fork.mk <;> (intro _; try (exfalso; omega))) | fail)); all_goals ((conv => whnf); try with_reducible apply At.mk)))
 apply q_call
 focus (exact byNext)
 focus (exact byLo)
 focus exact turned_w (T := T) (B := netOf T.toTable) hv byOm (fun f t m hm => ⟨(lim_net hok f t m hm).1, (lim_net hok f t m hm).2.1⟩) byGet
 rintro _ h2 ⟨r2, e2, rfl, r21, r22, hg2⟩ q2 hn2
 try simp only [put_next, bump_next] at r21
 (focus ((try with_reducible apply wpC.to); (repeat' ((conv => whnf); first | refine byEv ?_ | (apply Fork.mk <;> (intro _; try (exfalso; omega))) | fail)); all_goals ((conv => whnf); try with_reducible apply At.mk)))
 apply q_call
 focus (exact byNext)
 focus (exact byLo)
 focus exact heights_w (B := turn (netOf T.toTable)) hv byOm (lim_turn (lim_net hok)) byGet
 rintro _ h3 ⟨hr3, rfl, mr3, e3, m1, m2, m3, m4, m5, m6, m7⟩ q3 hn3
 try simp only [put_next, bump_next] at m1 m3
 (focus ((try with_reducible apply wpC.to); (repeat' ((conv => whnf); first | refine byEv ?_ | (apply Fork.mk <;> (intro _; try (exfalso; omega))) | fail)); all_goals ((conv => whnf); try with_reducible apply At.mk)))
 apply q_call
 focus (exact byNext)
 focus (exact byLo)
 focus exact truth_w (x := AgreeS.found (netOf T.toTable) T.toTable.many 0) (r := r) (B := netOf T.toTable) hv (low_small hok ha) (.inl rfl) byOm byOm byGet byGet
 rintro _ h4 ⟨t, rfl, an, cn, af, cf, ⟨aoe, aoi, aor, aol⟩, ⟨coe, coi, cor, col⟩, ab, cb⟩ q4 hn4
 try simp only [put_next, bump_next] at ab cb
 (focus ((try with_reducible apply wpC.to); (repeat' ((conv => whnf); first | refine byEv ?_ | (apply Fork.mk <;> (intro _; try (exfalso; omega))) | fail)); all_goals ((conv => whnf); try with_reducible apply At.mk)))
 apply q_call
 focus (exact byNext)
 focus (exact byLo)
 focus exact truth_w (x := AgreeS.found (turn (netOf T.toTable)) T.toTable.many 0) (r := r2) (B := turn (netOf T.toTable)) hv (high_small hok ha) (.inr rfl) byOm byOm byGet byGet
 rintro _ h5 ⟨t', rfl, an', cn', af', cf', ⟨aoe', aoi', aor', aol'⟩, ⟨coe', coi', cor', col'⟩, ab', cb'⟩ q5 hn5
 try simp only [put_next, bump_next] at ab' cb'
 (focus ((try with_reducible apply wpC.to); (repeat' ((conv => whnf); first | refine byEv ?_ | (apply Fork.mk <;> (intro _; try (exfalso; omega))) | fail)); all_goals ((conv => whnf); try with_reducible apply At.mk)))
 (refine byFin ?_)
 have e1 : sLo T.toTable z.toNat = lowX T.toTable z.toNat := if_pos he
 have e2 : sHi T.toTable z.toNat = highX T.toTable z.toNat := if_pos he
 rw [e1, e2, he, cf _ byO, cf' _ byO]
 rw [Int.one_mul, show -(-1 * hts (AgreeS.found (turn (netOf T.toTable)) T.toTable.many 0).known (1 + T.tanks.toNat + z.toNat)) = hts (AgreeS.found (turn (netOf T.toTable)) T.toTable.many 0).known (1 + T.tanks.toNat + z.toNat) by omega]
 rfl

def Tru.zero : Tru := ⟨⟨0, fun _ => 0, none, ⟨0, 0, none⟩, 0⟩, ⟨0, fun _ => 0, none, ⟨0, 0, none⟩, 0⟩⟩

theorem Arr.Ok.frame {A : Arr} {b m m' : Nat} {h h' : H} (k : A.Ok m h) (hb : 0 < A.n → b ≤ A.a.block) (hm : m ≤ m') (hs : ∀ r, b ≤ r → r < m → h'.get r = h.get r) : A.Ok m' h' :=
 ⟨k.e, fun i hi => by
  have := k.i i hi
  rw [← this]
  simp only [H.loadN, aadd]
  rw [hs _ (hb byO) (k.r byO)], fun h0 => by have := k.r h0; omega, k.l⟩
theorem TruthAt.frame {T : Tab} {x : Known} {sg : Int} {m m' : Nat} {t : Tru} {h h' : H} (k : TruthAt T x sg m t h) (hm : m' ≤ m) (hn : h.next ≤ h'.next) (hs : ∀ r, m ≤ r → r < h.next → h'.get r = h.get r) : TruthAt T x sg m' t h' :=
 ⟨k.an, k.cn, k.af, k.cf, k.ao.frame (fun _ => k.ab) hn hs, k.co.frame (fun _ => k.cb) hn hs, Nat.le_trans hm k.ab, Nat.le_trans hm k.cb⟩

end AE.Tryz.Agr
