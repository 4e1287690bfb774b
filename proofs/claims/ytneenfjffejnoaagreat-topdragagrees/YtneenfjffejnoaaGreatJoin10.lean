/- Walks and plain laws: TAgreeH, TAgreeI. -/
import Derived.Test.YtneenfjffejnoaaGreatTAgreeG
import Derived.Test.YtneenfjffejnoaaGreatAEthree
set_option linter.unusedVariables false
set_option linter.unusedSimpArgs false
set_option linter.unusedSectionVars false

/- Walks of agree: heights from the floor, one height. -/
namespace AE.Tryz.Agr
open Go AE AE.Ag AgreeS Go.Proofs
set_option maxRecDepth 100000

theorem at_w {h : H} {hr r mr t : Nat} {ti : Int} {x : St} {e : TypeId} (ht : t < 13) (hti : ti = (t : Int)) (hg : h.get hr = some (.cells (hCells r mr x) e)) : AW Tryz.prog 103 h.next h [.pointer (some ⟨hr, 0, none⟩), .int .i64 ti] (fun v _ => v = .int .i64 (hts x.known t)) := by
 subst hti
 have hx : ∀ h1 : H, h1.get hr = some (.cells (hCells r mr x) e) → h1.loadN ⟨hr, 0 + 1 + t * 2 + 1, none⟩ 1 = some [.int .i64 (hts x.known t)] := fun h1 h1g => by
  have h2 := h_load ht h1g
  simp only [H.loadN, h1g, Option.bind_some, loadRow] at h2 ⊢
  refine cut_cut h2 ?_
  unfold hts
  cases x.known t <;> rfl
 refine fun103.call rfl (Nat.le_refl _) ?_
 unfold a103
 (focus ((try with_reducible apply wpC.to); (repeat' ((conv => whnf); first | refine byEv ?_ | fail)); all_goals ((conv => whnf); try with_reducible apply At.mk)))
 refine Load1.mk (hx _ byGet) rfl ?_
 (focus ((try with_reducible apply wpC.to); (repeat' ((conv => whnf); first | refine byEv ?_ | fail)); all_goals ((conv => whnf); try with_reducible apply At.mk)))
 (refine byFin ?_)
 rfl

def Lies (h0 : H) (r : Nat) (x : St) (hr : Nat) (h' : H) : Prop := ∃ mr e', h0.next ≤ hr ∧ hr < h'.next ∧ h0.next ≤ mr ∧ mr < h'.next ∧ hr ≠ mr ∧ h'.get hr = some (.cells (hCells r mr x) e') ∧ h'.get mr = some (.map (ents x.before 0) x.before.length)

theorem heights_w {h : H} {T : Tab} {r : Nat} {B : Net} {e : TypeId} (hv : T.Valid) (hr : r < h.next) (hB : Lim T.toTable.many B) (hg : h.get r = some (.cells (T.head ++ netRows B) e)) :
 AW Tryz.prog 40 h.next h [.pointer (some ⟨r, 0, none⟩)] (fun v h' => ∃ hr, v = .tuple #[.pointer (some ⟨hr, 0, none⟩), .bool (decide ((AgreeS.found B T.toTable.many 0).last < 0))] ∧ Lies h r (AgreeS.found B T.toTable.many 0) hr h') := by
 refine fun40.call rfl (Nat.le_refl _) ?_
 unfold a40
 (focus ((try with_reducible apply wpC.to); (repeat' ((conv => whnf); first | refine byEv ?_ | fail)); all_goals ((conv => whnf); try with_reducible apply At.mk)))
 apply q_call
 focus (exact byNext)
 focus (exact byLo)
 focus exact from_w (a := 0) hv byOm hB byGet (by have := hv.ok.many; omega) rfl
 rintro _ h1 ⟨hr, mr, e', rfl, a1, a2, a3, a4, a5, a6, a7⟩ q hn
 (focus ((try with_reducible apply wpC.to); (repeat' ((conv => whnf); first | refine byEv ?_ | fail)); all_goals ((conv => whnf); try with_reducible apply At.mk)))
 (refine byFin ?_)
 simp only [bump_next] at a1 a3
 exact ⟨hr, rfl, mr, e', by omega, byOm, by omega, byOm, a5, byGet, byGet⟩

end AE.Tryz.Agr

/- Walks of agree: the truth of heights. -/
namespace AE.Tryz.Agr
open Go AE AE.Ag AgreeS Go.Proofs
set_option maxRecDepth 100000

theorem h_net {h' : H} {hr r mr : Nat} {x : St} {e : TypeId} (hg : h'.get hr = some (.cells (hCells r mr x) e)) : h'.loadN ⟨hr, 0 + 0, none⟩ 1 = some [.pointer (some ⟨r, 0, none⟩)] := by
 refine loadN_cells hg ?_
 unfold hCells
 exact cut_app (p := []) (m := [.pointer (some ⟨r, 0, none⟩)]) (s := kCells x.known ++ [.map (some mr), .int .i64 x.last]) (a := 0 + 0) (n := 1) rfl rfl

structure Tru where
 A : Arr
 C : Arr
def Tru.cells (x : Tru) : List Value := [x.A.val, x.C.val]
structure TruthAt (T : Tab) (x : Known) (sg : Int) (m : Nat) (t : Tru) (h : H) : Prop where
 an : (t.A.n : Int) = T.tanks
 cn : (t.C.n : Int) = T.hulls
 af : ∀ i, i < t.A.n → t.A.f i = sg * hts x (1 + i)
 cf : ∀ j, j < t.C.n → t.C.f j = -(sg * hts x (1 + T.tanks.toNat + j))
 ao : t.A.Ok h.next h
 co : t.C.Ok h.next h
 ab : m ≤ t.A.a.block
 cb : m ≤ t.C.a.block

set_option maxHeartbeats 1000000 in
theorem truth_w {h : H} {T : Tab} {hr r mr : Nat} {x : St} {B : Net} {e e' : TypeId} {sg : Int} (hv : T.Valid) (hsm : ∀ v, -(12 * AgreeS.M) ≤ hts x.known v ∧ hts x.known v ≤ 12 * AgreeS.M) (hsg : sg = 1 ∨ sg = -1)
 (hhr : hr < h.next) (hr' : r < h.next) (hgh : h.get hr = some (.cells (hCells r mr x) e')) (hg : h.get r = some (.cells (T.head ++ netRows B) e)) :
 AW Tryz.prog 41 h.next h [.pointer (some ⟨hr, 0, none⟩), .int .i64 sg] (fun v h' => ∃ t : Tru, v = .agg ⟨t.cells⟩ ∧ TruthAt T x.known sg h.next t h') := by
 obtain ⟨n24, t1, t2, h1, h2, hb, hf⟩ := hv
 have hsmall : ∀ v, -12000000 ≤ sg * hts x.known v ∧ sg * hts x.known v ≤ 12000000 := fun v => by
  have := hsm v
  unfold AgreeS.M at this
  rcases hsg with rfl | rfl <;> omega
 refine fun41.call rfl (Nat.le_refl _) ?_
 unfold a41
 (focus ((try with_reducible apply wpC.to); (repeat' ((conv => whnf); first | refine byEv ?_ | (apply Fork.mk <;> (intro _; try (exfalso; omega))) | fail)); all_goals ((conv => whnf); try with_reducible apply At.mk)))
 refine Load1.mk (h_net byGet) rfl ?_
 (focus ((try with_reducible apply wpC.to); (repeat' ((conv => whnf); first | refine byEv ?_ | (apply Fork.mk <;> (intro _; try (exfalso; omega))) | fail)); all_goals ((conv => whnf); try with_reducible apply At.mk)))
 obtain ⟨N, hN⟩ : ∃ N : Nat, (N : Int) = 1 + T.tanks + T.hulls := ⟨(1 + T.tanks + T.hulls).toNat, by omega⟩
 rw [← hN]
 apply q_mkslice (a := N) (b := N)
 focus exact rfl
 focus exact rfl
 focus omega
 focus omega
 (focus ((try with_reducible apply wpC.to); (repeat' ((conv => whnf); first | refine byEv ?_ | (apply Fork.mk <;> (intro _; try (exfalso; omega))) | fail)); all_goals ((conv => whnf); try with_reducible apply At.mk)))
 have hz : reps [Value.int .i64 0] N = iCells (fun i => if i < 0 then sg * hts x.known i else 0) N := by rw [reps_rows]; unfold iCells; rfl
 rw [hz]
 refine wp_loop (fun s : Nat => [(0, .pointer (some ⟨hr, 0, none⟩)), (1, .int .i64 sg), (4, .pointer (some ⟨h.next, 0, none⟩)), (5, .slice (some ⟨h.next + 8, 0, none⟩) N N), (19, .int .i64 N), (20, .int .i64 s)])
  (fun s h1 => h1.get (h.next + 8) = some (.cells (iCells (fun i => if i < s then sg * hts x.known i else 0) N) 2) ∧ Same h.next h h1 ∧ h.next + 9 ≤ h1.next ∧ s ≤ N ∧ h1.get h.next = some (.cells [.slice none 0 0, .slice none 0 0] 39)) (fun s => N - s) 0 ⟨rfl, rfl, rfl, rfl, rfl, rfl, trivial⟩ ⟨byGet, bySame, byOm, by omega, byGet⟩ ?_
 rintro s g h1 ⟨g1, sm, hn, hs, g2⟩ K hK
 (focus ((try with_reducible apply wpC.to); (repeat' ((conv => whnf); first | refine byEv ?_ | (apply Fork.mk <;> (intro _; try (exfalso; omega))) | fail)); all_goals ((conv => whnf); try with_reducible apply At.mk)))
 ·apply q_callv
  focus (exact byNext)
  focus (exact byLo)
  focus exact at_w (t := s) byO rfl byGet
  intro h2 q2 hn2
  have hss := hsmall s
  (focus ((try with_reducible apply wpC.to); (repeat' ((conv => whnf); first | refine byEv ?_ | (apply Fork.mk <;> (intro _; try (exfalso; omega))) | fail)); all_goals ((conv => whnf); try with_reducible apply At.mk)))
  have hst : splice (iCells (fun i => if i < s then sg * hts x.known i else 0) N) (0 + s * 1) [.int .i64 (sg * hts x.known s)] = iCells (fun i => if i < s + 1 then sg * hts x.known i else 0) N := by
   rw [iCells_set _ _ (i := s) byO byO]
   congr 1
   funext j
   simp only [updN]
   by_cases hj : j = s
   ·subst hj; rw [if_pos rfl, if_pos byO]
   ·rw [if_neg hj]
    by_cases hj2 : j < s
    ·rw [if_pos hj2, if_pos byO]
    ·rw [if_neg hj2, if_neg byO]
  refine Sto.mk (r := h.next + 8) (off := 0 + s * 1) (c' := iCells (fun i => if i < s + 1 then sg * hts x.known i else 0) N) rfl byO byGet rfl rfl (Nat.ble_eq_true_of_le (by rw [iCells_len]; omega)) (is_eq hst) ?_
  (focus ((try with_reducible apply wpC.to); (repeat' ((conv => whnf); first | refine byEv ?_ | (apply Fork.mk <;> (intro _; try (exfalso; omega))) | fail)); all_goals ((conv => whnf); try with_reducible apply At.mk)))
  refine hK (s + 1) _ _ ⟨rfl, rfl, rfl, rfl, rfl, int_of rfl byO, trivial⟩ ⟨byGet, bySame, byOm, by omega, byGet⟩ byO
 ·have hsN : s = N := by omega
  subst hsN
  refine Load1.mk (h_net byGet) rfl ?_
  (focus ((try with_reducible apply wpC.to); (repeat' ((conv => whnf); first | refine byEv ?_ | (apply Fork.mk <;> (intro _; try (exfalso; omega))) | fail)); all_goals ((conv => whnf); try with_reducible apply At.mk)))
  apply q_mkslice (a := T.tanks.toNat) (b := T.tanks.toNat)
  focus exact int_of rfl byO
  focus exact int_of rfl byO
  focus omega
  focus omega
  (focus ((try with_reducible apply wpC.to); (repeat' ((conv => whnf); first | refine byEv ?_ | (apply Fork.mk <;> (intro _; try (exfalso; omega))) | fail)); all_goals ((conv => whnf); try with_reducible apply At.mk)))
  have hsn : s = 1 + T.tanks.toNat + T.hulls.toNat := by omega
  have hI : ∀ h4 : H, h4.get (h.next + 8) = some (.cells (iCells (fun i => if i < s then sg * hts x.known i else 0) s) 2) → Ints h4 ⟨h.next + 8, 0, none⟩ s (fun i => sg * hts x.known i) := fun h4 hg4 i hi => by
   have := iCells_ints hg4 i hi
   rwa [if_pos hi] at this
  apply q_slfrom (a := ⟨h.next + 8, 0, none⟩) (n := s) (c := s) (l := 1)
  focus exact rfl
  focus exact rfl
  focus exact rfl
  focus omega
  focus omega
  focus omega
  focus (unfold far; omega)
  (focus ((try with_reducible apply wpC.to); (repeat' ((conv => whnf); first | refine byEv ?_ | (apply Fork.mk <;> (intro _; try (exfalso; omega))) | fail)); all_goals ((conv => whnf); try with_reducible apply At.mk)))
  apply q_copyL (r := h1.next + 9) (n := T.tanks.toNat) (m := s - 1) (f := fun i => sg * hts x.known (1 + i))
  case hd => exact rfl
  case hs => exact rfl
  case hi => exact (hI _ byGet).shift 1
  case hn => omega
  case hnm => omega
  case hget => (exact byGet)
  case hlen => rw [reps_length]; simp
  case hlo => omega
  case hfd => unfold far; omega
  case hfs => unfold far; omega
  (focus ((try with_reducible apply wpC.to); (repeat' ((conv => whnf); first | refine byEv ?_ | (apply Fork.mk <;> (intro _; try (exfalso; omega))) | fail)); all_goals ((conv => whnf); try with_reducible apply At.mk)))
  refine Load1.mk (h_net byGet) rfl ?_
  (focus ((try with_reducible apply wpC.to); (repeat' ((conv => whnf); first | refine byEv ?_ | (apply Fork.mk <;> (intro _; try (exfalso; omega))) | fail)); all_goals ((conv => whnf); try with_reducible apply At.mk)))
  apply q_slfrom (a := ⟨h.next + 8, 0, none⟩) (n := s) (c := s) (l := 1 + T.tanks.toNat)
  focus exact rfl
  focus exact int_of rfl byO
  focus exact rfl
  focus omega
  focus omega
  focus omega
  focus (unfold far; omega)
  (focus ((try with_reducible apply wpC.to); (repeat' ((conv => whnf); first | refine byEv ?_ | (apply Fork.mk <;> (intro _; try (exfalso; omega))) | fail)); all_goals ((conv => whnf); try with_reducible apply At.mk)))
  rw [show s - (1 + T.tanks.toNat) = T.hulls.toNat by omega]
  refine wp_loop (fun u : Nat => [(4, .pointer (some ⟨h.next, 0, none⟩)), (7, .pointer (some ⟨h1.next + 11, 0, none⟩)), (57, .slice (some (aadd ⟨h.next + 8, 0, none⟩ ((1 + T.tanks.toNat) * 1))) T.hulls.toNat T.hulls.toNat), (58, .int .i64 (T.hulls.toNat : Int)), (59, .int .i64 u)])
   (fun u h2 => h2.get (h.next + 8) = some (.cells (iCells (fun i => if i < s then sg * hts x.known i else 0) s) 2) ∧ h2.get (h1.next + 9) = some (.cells (iCells (fun i => sg * hts x.known (1 + i)) T.tanks.toNat) 2) ∧
    h2.get h.next = some (.cells [.slice none 0 0, .slice none 0 0] 39) ∧ h1.next + 18 ≤ h2.next ∧ u ≤ T.hulls.toNat ∧
    ∃ v, h2.get (h1.next + 11) = some (.cells [.slice (some ⟨h1.next + 9, 0, none⟩) T.tanks.toNat T.tanks.toNat, .slice v u 0] 39) ∧ Grown (h1.next + 12) h2.next h2 2 1 u (rowsOf (fun j => [.int .i64 (-(sg * hts x.known (1 + T.tanks.toNat + j)))]) u) v) (fun u => T.hulls.toNat - u) 0 ⟨rfl, rfl, rfl, rfl, rfl, trivial⟩
   ⟨byGet, byGet, byGet, byOm, by omega, none, byGet, Grown.nil⟩ ?_
  clear hK K
  rintro u g' h2 ⟨g3, g4, g5, hn2, hu, v, g6, G⟩ K hK
  (focus ((try with_reducible apply wpC.to); (repeat' ((conv => whnf); first | refine byEv ?_ | (apply Fork.mk <;> (intro _; try (exfalso; omega))) | fail)); all_goals ((conv => whnf); try with_reducible apply At.mk)))
  ·refine Load1.mk (((hI _ byGet).shift (1 + T.tanks.toNat)).at (m := u) byO) rfl ?_
   have hss := hsmall (1 + T.tanks.toNat + u)
   (focus ((try with_reducible apply wpC.to); (repeat' ((conv => whnf); first | refine byEv ?_ | (apply Fork.mk <;> (intro _; try (exfalso; omega))) | fail)); all_goals ((conv => whnf); try with_reducible apply At.mk)))
   apply q_appG (b := h1.next + 12) (N := h2.next) (n := u) (m := 1) (nc := [.int .i64 (-(sg * hts x.known (1 + T.tanks.toNat + u)))])
   case hsv => exact rfl
   case G => exact G.frame (Nat.le_refl _) fun j hj1 hj2 => get_of fun y hy => by (exact byGet)
   case C => exact Cells.one byMem (by unfold far; omega) rfl rfl
   case hm => omega
   case hlo => omega
   case hb => omega
   case hN => omega
   case hsm => omega
   intro v' j row hj1 hj2 hj3 G'
   (focus ((try with_reducible apply wpC.to); (repeat' ((conv => whnf); first | refine byEv ?_ | (apply Fork.mk <;> (intro _; try (exfalso; omega))) | fail)); all_goals ((conv => whnf); try with_reducible apply At.mk)))
   refine hK (u + 1) _ _ ⟨rfl, rfl, rfl, rfl, int_of rfl byO, trivial⟩ ⟨byGet, byGet, byGet, byOm, by omega, v', byGet, ?_⟩ byO
   exact G'.frame byOm fun i hi1 hi2 => get_of fun y hy => by (exact byGet)
  ·have : u = T.hulls.toNat := by omega
   subst this
   (refine byFin ?_)
   obtain ⟨a, ha, hE, hb⟩ := G.els (fun _ => rfl)
   refine ⟨⟨⟨T.tanks.toNat, fun i => sg * hts x.known (1 + i), some ⟨h1.next + 9, 0, none⟩, ⟨h1.next + 9, 0, none⟩, T.tanks.toNat⟩, ⟨T.hulls.toNat, fun j => -(sg * hts x.known (1 + T.tanks.toNat + j)), v, a, 0⟩⟩, rfl, by simp only; omega, by simp only; omega, fun i hi => rfl, fun j hj => rfl, ?_, ?_, by simp only; omega, ?_⟩
   ·exact ⟨fun _ => rfl, iCells_ints (e := 2) byGet, fun _ => by simp only; (exact byOm), by simp only; omega⟩
   ·have hb' : 0 < T.hulls.toNat := by omega
    have hb := hb hb'
    refine ⟨ha, fun i hi => ?_, fun h0 => by simp only; (exact byOm), by simp only; omega⟩
    have hEi := hE i hi
    rw [Nat.mul_one] at hEi
    (exact byOld)
   ·have hb := hb byO
    simp only
    omega

end AE.Tryz.Agr
