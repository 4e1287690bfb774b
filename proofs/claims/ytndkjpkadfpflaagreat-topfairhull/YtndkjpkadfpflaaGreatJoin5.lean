/- Walks and plain laws: TopF2, TopF3. -/
import Derived.Test.YtndkjpkadfpflaaGreatTopF1
set_option linter.unusedVariables false
set_option linter.unusedSimpArgs false
set_option linter.unusedSectionVars false

/- Walks of fair: a drawer, what a step costs, the best step. -/
namespace AE.Tryz
open Go AE Go.Proofs AE.Fair
set_option maxRecDepth 100000
set_option linter.unusedVariables false

def Spots.lo (S : Spots) (i : Nat) : Int := (S.r.f i).lo
def Spots.w (S : Spots) (i : Nat) : Nat := ((S.r.f i).hi - (S.r.f i).lo).toNat + 1
/-- The spots are valid. -/
structure Spots.Fit (S : Spots) : Prop where
  good : Good S.r.n S.t S.lo S.w
  hi : ∀ i, i < S.r.n → (S.r.f i).hi = S.lo i + (S.w i : Int) - 1
theorem spots_fit {S : Spots} (h : spotsErr S = 0) : S.Fit := by
  unfold spotsErr at h
  split at h
  · omega
  · rename_i hn
    split at h
    · rename_i hg
      have hr : ∀ i, i < S.r.n → (-1000000 ≤ (S.r.f i).lo ∧ (S.r.f i).lo ≤ 1000000) ∧ (-1000000 ≤ (S.r.f i).hi ∧ (S.r.f i).hi ≤ 1000000) ∧ 0 ≤ (S.r.f i).hi - (S.r.f i).lo ∧ (S.r.f i).hi - (S.r.f i).lo ≤ 4 := fun i hi => by
        have := hg.2 i hi
        unfold BadR at this
        omega
      refine ⟨⟨by omega, by omega, hg.1.1, hg.1.2, fun i hi => ?_, fun i hi => ?_⟩, fun i hi => ?_⟩
      all_goals
        have := hr i hi
        unfold Spots.w
        try unfold Spots.lo
        omega
    · omega

/-- What a drawer's row holds. -/
def drow (S : Spots) (l : Nat) : ARow := .cells [.slice S.r.b S.r.n S.r.c, .int .i64 S.t, .int .i64 1, .int .i64 S.t, .slice (some ⟨l, 0, none⟩) S.r.n S.r.n] 158

theorem rg_part {h : H} {T : Rgs} {i o k : Nat} {l : List Value} (e : Els h T.a T.n 2 (fun i => (T.f i).cells)) (hi : i < T.n) (hc : cut (T.f i).cells o k = some l) : h.loadN (aadd (aadd T.a (i * 2)) o) k = some l := load_part (e i hi) hc
theorem xTopF20 {G G' : Prop} (g : G') (t : G' → G := by (((with_reducible apply Load1.mk); (focus ((repeat (first | (apply rg_part <;> first | assumption | omega | exact rfl) | with_reducible apply bump_old | ((with_reducible apply put_old); focus (dsimp only [aadd]; omega)) | ((with_reducible apply quiet_old); (focus assumption); focus (dsimp only [aadd]; omega)) | ((with_reducible apply same_old); (focus assumption); focus (dsimp only [aadd]; omega)))); (first | done | fail))); (focus exact byVal)))) : G := t g
theorem wide_w {h : H} {S : Spots} {m d l i : Nat} (hm : m ≤ h.next) (hS : S.r.Ok m h) (F : S.Fit) (hd : h.get d = some (drow S l)) (hi : i < S.r.n) : AW Tryz.prog 99 h.next h [.pointer (some ⟨d, 0, none⟩), .int .i64 i] (fun v _ => v = .int .i64 (S.w i)) := by
  obtain ⟨e1, i1, r1, l1⟩ := hS
  have g1 := F.good.lo1 i hi
  have g2 := F.good.w1 i hi
  have g3 := F.hi i hi
  unfold Spots.lo at g1 g3
  unfold drow at hd
  refine fun99.call rfl (Nat.le_refl _) ?_
  unfold a99
  (focus ((try with_reducible apply wpC.to); (repeat' ((conv => whnf); first | refine byEv ?_ | refine xTopF20 ?_ | fail)); all_goals ((conv => whnf); try with_reducible apply At.mk)))
  all_goals (refine byFin ?_)
  · congr 1; omega
theorem kTopF20 {G G' : Prop} (g : G') (t : G' → G := by ((apply q_call); (focus exact byNext); (focus exact byLo); (focus ((apply wide_w; rotate_left; (focus (apply Rgs.Ok.same; (focus assumption); (focus exact bySame); (focus exact Nat.le_refl _))); (focus assumption); (focus exact byGet); (focus omega); (focus exact byOm)))))) : G := t g

/-- The cells of a state. -/
def stC (i a b : Nat) (s : Int) : List Value := [.int .i64 i, .int .i64 a, .int .i64 b, .int .i64 s]
theorem at_load {h : H} {l n i a b c : Nat} {e : TypeId} {F : Nat → Int} (hg : h.get l = some (.cells (iCells F (n * 75)) e)) (hi : i < n) (ha : a < 5) (hb : b < 5) (hc : c < 3) :
    h.loadN (aadd (aadd (aadd (aadd ⟨l, 0, none⟩ (i * 75)) (a * 15)) (b * 3)) (c * 1)) 1 = some [.int .i64 (F (i * 75 + a * 15 + b * 3 + c))] := by
  have hlt : i * 75 + a * 15 + b * 3 + c < n * 75 := by omega
  have := iCells_ints hg (i * 75 + a * 15 + b * 3 + c) hlt
  have e : aadd (aadd (aadd (aadd ⟨l, 0, none⟩ (i * 75)) (a * 15)) (b * 3)) (c * 1) = aadd ⟨l, 0, none⟩ (i * 75 + a * 15 + b * 3 + c) := by
    simp only [aadd]
    congr 1
    omega
  rw [e]
  exact this
theorem at_w {h : H} {S : Spots} {d l i a b : Nat} {s : Int} {F : Nat → Int} (hdn : d < h.next) (hln : l < h.next) (hd : h.get d = some (drow S l)) (hl : h.get l = some (.cells (iCells F (S.r.n * 75)) 245)) (hi : i < S.r.n) (ha : a < 5) (hb : b < 5) (h0 : 0 ≤ s) (h2 : s ≤ 2) :
    AW Tryz.prog 102 h.next h [.pointer (some ⟨d, 0, none⟩), .agg ⟨stC i a b s⟩] (fun v _ => v = .int .i64 (F (i * 75 + a * 15 + b * 3 + s.toNat))) := by
  unfold drow at hd
  refine fun102.call rfl (Nat.le_refl _) ?_
  unfold a102 stC
  (focus ((try with_reducible apply wpC.to); (repeat' ((conv => whnf); first | refine byEv ?_ | refine xTopF20 ?_ | fail)); all_goals ((conv => whnf); try with_reducible apply At.mk)))
  refine Load1.mk (at_load (h := _) (l := l) (n := S.r.n) (i := i) (a := a) (b := b) (c := s.toNat) (e := 245) (F := F) byGet hi ha hb (by omega)) rfl ?_
  (focus ((try with_reducible apply wpC.to); (repeat' ((conv => whnf); first | refine byEv ?_ | refine xTopF20 ?_ | fail)); all_goals ((conv => whnf); try with_reducible apply At.mk)))
  (refine byFin ?_)
  rfl

theorem on_w {h : H} {S : Spots} {m d l i a b c : Nat} {s : Int} (hm : m ≤ h.next) (hS : S.r.Ok m h) (F : S.Fit) (hdn : d < h.next) (hd : h.get d = some (drow S l)) (h1 : 1 ≤ i) (hi : i + 1 < S.r.n) (ha : a < 5) (hb : b < 5) (hc : c < 5) (h0 : 0 ≤ s) (h2 : s ≤ 2) :
    AW Tryz.prog 104 h.next h [.pointer (some ⟨d, 0, none⟩), .agg ⟨stC i a b s⟩, .int .i64 c] (fun v _ => v = .tuple #[.agg ⟨stC (i + 1) b c (sgn s (dif S.lo i a b c))⟩, .int .i64 (pay S.t s (dif S.lo i a b c))]) := by
  obtain ⟨e1, i1, r1, l1⟩ := hS
  have g1 := F.good.lo1 (i - 1) (by omega)
  have g2 := F.good.lo1 i (by omega)
  have g3 := F.good.lo1 (i + 1) hi
  have w1 := F.good.w1 (i - 1) (by omega)
  have w2 := F.good.w1 i (by omega)
  have w3 := F.good.w1 (i + 1) hi
  have n2 := F.good.n2
  have t1 := F.good.t1
  have t2 := F.good.t2
  have hE : dif S.lo i a b c = (S.r.f (i - 1)).lo + a - 2 * ((S.r.f i).lo + b) + ((S.r.f (i + 1)).lo + c) := rfl
  have ht : 0 ≤ S.t * chg s ((S.r.f (i - 1)).lo + a - 2 * ((S.r.f i).lo + b) + ((S.r.f (i + 1)).lo + c)) ∧ S.t * chg s ((S.r.f (i - 1)).lo + a - 2 * ((S.r.f i).lo + b) + ((S.r.f (i + 1)).lo + c)) ≤ 1000000 := by
    unfold chg
    split
    · rw [Int.mul_one]; omega
    · rw [Int.mul_zero]; omega
  unfold Spots.lo at g1 g2 g3
  unfold drow at hd
  refine fun104.call rfl (Nat.le_refl _) ?_
  unfold a104 stC
  (focus ((try with_reducible apply wpC.to); (repeat' ((conv => whnf); first | refine byEv ?_ | ((refine kTopSc1 ?_); first | ((first | apply q_allD | apply q_alli | apply q_allB) <;> intro _ _ _ _ <;> try contradiction) | (apply q_allv; intro _ _ _)) | refine xTopF20 ?_ | fail)); all_goals ((conv => whnf); try with_reducible apply At.mk)))
  (refine byFin ?_)
  rw [Int.one_mul]
  rfl
end AE.Tryz

/- Walks of fair: the least number of some, the best step. -/
namespace AE.Tryz
open Go AE Go.Proofs AE.Fair
set_option maxRecDepth 100000
set_option linter.unusedVariables false

theorem least_w {h : H} {fv : Value} {n : Nat} {f : Nat → Int} (h1 : 1 ≤ n) (hn : n ≤ 1000000) (hy : ∀ i h1, i < n → Quiet h.next h h1 → ∃ v h2, v = .int .i64 (f i) ∧ ACall Tryz.prog fv h1.next h1 [.int .i64 i] v h2) :
    AW Tryz.prog 100 h.next h [.int .i64 n, fv] (fun v _ => v = .tuple #[.int .i64 ((leastN f (n - 1)).1 : Nat), .int .i64 (leastN f (n - 1)).2]) := by
  refine fun100.call rfl (Nat.le_refl _) ?_
  unfold a100
  (focus ((try with_reducible apply wpC.to); (repeat' ((conv => whnf); first | refine byEv ?_ | (apply Fork.mk <;> (intro _; try (exfalso; omega))) | ((refine kTopSc1 ?_); first | ((first | apply q_allD | apply q_alli | apply q_allB) <;> intro _ _ _ _ <;> try contradiction) | (apply q_allv; intro _ _ _)) | fail)); all_goals ((conv => whnf); try with_reducible apply At.mk)))
  apply q_calla
  focus exact acall_mono (hy 0 _ (by omega) byQuiet) byOm
  rintro _ h2 rfl q2
  have hnx2 := q2.next
  (focus ((try with_reducible apply wpC.to); (repeat' ((conv => whnf); first | refine byEv ?_ | (apply Fork.mk <;> (intro _; try (exfalso; omega))) | ((refine kTopSc1 ?_); first | ((first | apply q_allD | apply q_alli | apply q_allB) <;> intro _ _ _ _ <;> try contradiction) | (apply q_allv; intro _ _ _)) | fail)); all_goals ((conv => whnf); try with_reducible apply At.mk)))
  refine wp_loop (fun s : Nat => [(0, .int .i64 n), (1, fv), (6, .int .i64 ((leastN f s).1 : Nat)), (7, .int .i64 (leastN f s).2), (8, .int .i64 ((s : Int) + 1))]) (fun s h1 => Quiet h.next h h1 ∧ s < n) (fun s => n - s) 0 ⟨rfl, rfl, rfl, rfl, rfl, trivial⟩ ⟨byQuiet, by omega⟩ ?_
  rintro s g h3 ⟨q, hs⟩ K hK
  have hnx := q.next
  by_cases hsn : s + 1 < n
  · (focus ((try with_reducible apply wpC.to); (repeat' ((conv => whnf); first | refine byEv ?_ | (apply Fork.mk <;> (intro _; try (exfalso; omega))) | ((refine kTopSc1 ?_); first | ((first | apply q_allD | apply q_alli | apply q_allB) <;> intro _ _ _ _ <;> try contradiction) | (apply q_allv; intro _ _ _)) | fail)); all_goals ((conv => whnf); try with_reducible apply At.mk)))
    apply q_calla
    focus exact acall_mono (hy (s + 1) _ (by omega) byQuiet) byOm
    rintro _ h4 rfl q4
    have hnx4 := q4.next
    by_cases hlt : f (s + 1) < (leastN f s).2
    · have e : leastN f (s + 1) = (s + 1, f (s + 1)) := by rw [leastN, if_pos hlt]
      (focus ((try with_reducible apply wpC.to); (repeat' ((conv => whnf); first | refine byEv ?_ | (apply Fork.mk <;> (intro _; try (exfalso; omega))) | ((refine kTopSc1 ?_); first | ((first | apply q_allD | apply q_alli | apply q_allB) <;> intro _ _ _ _ <;> try contradiction) | (apply q_allv; intro _ _ _)) | fail)); all_goals ((conv => whnf); try with_reducible apply At.mk)))
      refine hK (s + 1) _ _ ⟨rfl, rfl, ?_, ?_, int_of rfl (by omega), trivial⟩ ⟨byQuiet, by omega⟩ (by omega)
      · rw [e]; exact int_of rfl (by dsimp only; omega)
      · rw [e]; rfl
    · have e : leastN f (s + 1) = leastN f s := by rw [leastN, if_neg hlt]
      (focus ((try with_reducible apply wpC.to); (repeat' ((conv => whnf); first | refine byEv ?_ | (apply Fork.mk <;> (intro _; try (exfalso; omega))) | ((refine kTopSc1 ?_); first | ((first | apply q_allD | apply q_alli | apply q_allB) <;> intro _ _ _ _ <;> try contradiction) | (apply q_allv; intro _ _ _)) | fail)); all_goals ((conv => whnf); try with_reducible apply At.mk)))
      refine hK (s + 1) _ _ ⟨rfl, rfl, ?_, ?_, int_of rfl (by omega), trivial⟩ ⟨byQuiet, by omega⟩ (by omega)
      · rw [e]; rfl
      · rw [e]; rfl
  · have e : s = n - 1 := by omega
    subst e
    (focus ((try with_reducible apply wpC.to); (repeat' ((conv => whnf); first | refine byEv ?_ | (apply Fork.mk <;> (intro _; try (exfalso; omega))) | ((refine kTopSc1 ?_); first | ((first | apply q_allD | apply q_alli | apply q_allB) <;> intro _ _ _ _ <;> try contradiction) | (apply q_allv; intro _ _ _)) | fail)); all_goals ((conv => whnf); try with_reducible apply At.mk)))
    (refine byFin ?_)
    rfl

/-- What a step costs, and what is paid then. -/
def via (S : Spots) (F : Nat → Int) (i a b : Nat) (s : Int) (c : Nat) : Int := pay S.t s (dif S.lo i a b c) + F ((i + 1) * 75 + b * 15 + c * 3 + (sgn s (dif S.lo i a b c)).toNat)
theorem sgn_bd {s d : Int} (h0 : 0 ≤ s) (h2 : s ≤ 2) : 0 ≤ sgn s d ∧ sgn s d ≤ 2 := by
  unfold sgn
  split
  · omega
  · split <;> omega
structure Drawn (h : H) (m d l : Nat) (S : Spots) (F : Nat → Int) : Prop where
  fit : S.Fit
  sr : S.r.Ok m h
  gd : h.get d = some (drow S l)
  gl : h.get l = some (.cells (iCells F (S.r.n * 75)) 245)
  dn : d < h.next
  ln : l < h.next
  bd : ∀ k, k < S.r.n * 75 → 0 ≤ F k ∧ F k ≤ 200000000
theorem via_w {h : H} {S : Spots} {m d l i a b c rd rs : Nat} {s : Int} {F : Nat → Int} (hm : m ≤ h.next) (D : Drawn h m d l S F) (hrdn : rd < h.next) (hrsn : rs < h.next) (hrd : h.get rd = some (.cells [.pointer (some ⟨d, 0, none⟩)] 87)) (hrs : h.get rs = some (.cells (stC i a b s) 165)) (h1 : 1 ≤ i) (hi : i + 1 < S.r.n) (ha : a < 5) (hb : b < 5) (hc : c < 5) (h0 : 0 ≤ s) (h2 : s ≤ 2) :
    AW Tryz.prog 155 h.next h [.int .i64 c, .pointer (some ⟨rd, 0, none⟩), .pointer (some ⟨rs, 0, none⟩)] (fun v _ => v = .int .i64 (via S F i a b s c)) := by
  have hb1 := sgn_bd (d := dif S.lo i a b c) h0 h2
  have hF := D.bd ((i + 1) * 75 + b * 15 + c * 3 + (sgn s (dif S.lo i a b c)).toNat) (by omega)
  have hp := pay_bd (t := S.t) (s := s) (B := 40000000) D.fit.good.t1 (d := dif S.lo i a b c) (by
    have g1 := D.fit.good.lo1 (i - 1) (by omega)
    have g2 := D.fit.good.lo1 i (by omega)
    have g3 := D.fit.good.lo1 (i + 1) hi
    have w1 := D.fit.good.w1 (i - 1) (by omega)
    have w2 := D.fit.good.w1 i (by omega)
    have w3 := D.fit.good.w1 (i + 1) hi
    unfold dif
    omega)
  have ht := D.fit.good.t2
  obtain ⟨fit, hr, hd, hl, hdn, hln, bd⟩ := D
  unfold stC at hrs
  refine fun155.call rfl (Nat.le_refl _) ?_
  unfold a155
  (focus ((try with_reducible apply wpC.to); (repeat' ((conv => whnf); first | refine byEv ?_ | refine xTopF20 ?_ | fail)); all_goals ((conv => whnf); try with_reducible apply At.mk)))
  apply q_call
  focus (exact byNext)
  focus (exact byLo)
  focus exact on_w (m := m) byOm (hr.same bySame (Nat.le_refl _)) fit byOm byGet h1 hi ha hb hc h0 h2
  rintro _ h3 rfl q3 hn3
  unfold stC
  (focus ((try with_reducible apply wpC.to); (repeat' ((conv => whnf); first | refine byEv ?_ | refine xTopF20 ?_ | fail)); all_goals ((conv => whnf); try with_reducible apply At.mk)))
  apply q_call
  focus (exact byNext)
  focus (exact byLo)
  focus exact at_w (S := S) (l := l) (i := i + 1) (a := b) (b := c) (s := sgn s (dif S.lo i a b c)) (F := F) byOm byOm byGet byGet hi hb hc hb1.1 hb1.2
  rintro _ h4 rfl q4 hn4
  (focus ((try with_reducible apply wpC.to); (repeat' ((conv => whnf); first | refine byEv ?_ | refine xTopF20 ?_ | fail)); all_goals ((conv => whnf); try with_reducible apply At.mk)))
  (refine byFin ?_)
  rfl
theorem go1_w {h : H} {S : Spots} {m d l i a b : Nat} {s : Int} {F : Nat → Int} (hm : m ≤ h.next) (D : Drawn h m d l S F) (h1 : 1 ≤ i) (hi : i + 1 < S.r.n) (ha : a < 5) (hb : b < 5) (h0 : 0 ≤ s) (h2 : s ≤ 2) :
    AW Tryz.prog 103 h.next h [.pointer (some ⟨d, 0, none⟩), .agg ⟨stC i a b s⟩] (fun v _ => v = .tuple #[.int .i64 ((leastN (via S F i a b s) (S.w (i + 1) - 1)).1 : Nat), .int .i64 (leastN (via S F i a b s) (S.w (i + 1) - 1)).2]) := by
  have hw := D.fit.good.w1 (i + 1) hi
  have n2 := D.fit.good.n2
  have fit := D.fit
  have hr := D.sr
  have hd := D.gd
  refine fun103.call rfl (Nat.le_refl _) ?_
  unfold a103 stC
  have hdn := D.dn
  have hln := D.ln
  (focus ((try with_reducible apply wpC.to); (repeat' ((conv => whnf); first | refine byEv ?_ | ((refine kTopF20 ?_); first | ((first | apply q_allD | apply q_alli | apply q_allB) <;> intro _ _ _ _ <;> try contradiction) | (apply q_allv; intro _ _ _)) | refine xTopF20 ?_ | fail)); all_goals ((conv => whnf); try with_reducible apply At.mk)))
  rename_i h3 q3 hn3
  have g1 : h3.get h.next = some (.cells [.pointer (some ⟨d, 0, none⟩)] 87) := (q3.same _ (by omega)).trans byGet
  have g2 : h3.get (h.next + 1) = some (.cells (stC i a b s) 165) := (q3.same _ (by omega)).trans (by unfold stC; (exact byGet))
  have D3 : Drawn h3 m d l S F := ⟨fit, hr.same (fun x hx => (q3.same x (by omega)).trans (get_of fun y hy => byGet)) (Nat.le_refl _), (q3.same _ (by omega)).trans byGet, (q3.same _ (by omega)).trans ((get_of fun y hy => byGet).trans D.gl), by omega, by omega, D.bd⟩
  apply q_call
  focus (exact byNext)
  focus (exact byLo)
  focus exact least_w (n := S.w (i + 1)) (f := via S F i a b s) hw.1 (by omega) fun c h4 hc q4 => by
            have nx := q4.next
            exact acall_of (via_w (m := m) (d := d) (l := l) byOm ⟨fit, D3.sr.same (fun x hx => (q4.same x byOm).trans (get_of fun y hy => byGet)) (Nat.le_refl _), (q4.same _ byOm).trans ((get_of fun y hy => byGet).trans D3.gd), (q4.same _ byOm).trans ((get_of fun y hy => byGet).trans D3.gl), byOm, byOm, D.bd⟩ byOm byOm ((q4.same _ byOm).trans ((get_of fun y hy => byGet).trans g1)) ((q4.same _ byOm).trans ((get_of fun y hy => byGet).trans g2)) h1 hi ha hb (by omega) h0 h2) rfl
  rintro _ h5 rfl q5 hn5
  (focus ((try with_reducible apply wpC.to); (repeat' ((conv => whnf); first | refine byEv ?_ | ((refine kTopF20 ?_); first | ((first | apply q_allD | apply q_alli | apply q_allB) <;> intro _ _ _ _ <;> try contradiction) | (apply q_allv; intro _ _ _)) | refine xTopF20 ?_ | fail)); all_goals ((conv => whnf); try with_reducible apply At.mk)))
  (refine byFin ?_)
  rfl
end AE.Tryz
