/- Walks of fair: a drawer, what a step costs, the best step. -/
import Derived.Test.YtndkjpkadfpflaaGreatTopF1
set_option linter.unusedVariables false
set_option linter.unusedSimpArgs false
set_option linter.unusedSectionVars false
namespace AE.Tryz
open Go AE Go.Proofs AE.Fair
set_option maxRecDepth 100000
set_option linter.unusedVariables false

def Spots.lo (S : Spots) (i : Nat) : Int := (S.r.f i).lo
def Spots.w (S : Spots) (i : Nat) : Nat := ((S.r.f i).hi - (S.r.f i).lo).toNat + 1
/-- The spots are valid. -/
structure Spots.Fit (S : Spots) : Prop where
  good : Good S.r.n S.t S.lo S.w
  hi : ∀ i, i < S.r.n → (S.r.f i).hi = S.lo i + (S.w i : Int) - 1
theorem spots_fit {S : Spots} (h : spotsErr S = 0) : S.Fit := by
  unfold spotsErr at h
  split at h
  · omega
  · rename_i hn
    split at h
    · rename_i hg
      have hr : ∀ i, i < S.r.n → (-1000000 ≤ (S.r.f i).lo ∧ (S.r.f i).lo ≤ 1000000) ∧ (-1000000 ≤ (S.r.f i).hi ∧ (S.r.f i).hi ≤ 1000000) ∧ 0 ≤ (S.r.f i).hi - (S.r.f i).lo ∧ (S.r.f i).hi - (S.r.f i).lo ≤ 4 := fun i hi => by
        have := hg.2 i hi
        unfold BadR at this
        omega
      refine ⟨⟨by omega, by omega, hg.1.1, hg.1.2, fun i hi => ?_, fun i hi => ?_⟩, fun i hi => ?_⟩
      all_goals
        have := hr i hi
        unfold Spots.w
        try unfold Spots.lo
        omega
    · omega

/-- What a drawer's row holds. -/
def drow (S : Spots) (l : Nat) : ARow := .cells [.slice S.r.b S.r.n S.r.c, .int .i64 S.t, .int .i64 1, .int .i64 S.t, .slice (some ⟨l, 0, none⟩) S.r.n S.r.n] 158

theorem rg_part {h : H} {T : Rgs} {i o k : Nat} {l : List Value} (e : Els h T.a T.n 2 (fun i => (T.f i).cells)) (hi : i < T.n) (hc : cut (T.f i).cells o k = some l) : h.loadN (aadd (aadd T.a (i * 2)) o) k = some l := load_part (e i hi) hc
theorem xTopF20 {G G' : Prop} (g : G') (t : G' → G := by (((with_reducible apply Load1.mk); (focus ((repeat (first | (apply rg_part <;> first | assumption | omega | exact rfl) | with_reducible apply bump_old | ((with_reducible apply put_old); focus (dsimp only [aadd]; omega)) | ((with_reducible apply quiet_old); (focus assumption); focus (dsimp only [aadd]; omega)) | ((with_reducible apply same_old); (focus assumption); focus (dsimp only [aadd]; omega)))); (first | done | fail))); (focus exact byVal)))) : G := t g
theorem wide_w {h : H} {S : Spots} {m d l i : Nat} (hm : m ≤ h.next) (hS : S.r.Ok m h) (F : S.Fit) (hd : h.get d = some (drow S l)) (hi : i < S.r.n) : AW Tryz.prog 99 h.next h [.pointer (some ⟨d, 0, none⟩), .int .i64 i] (fun v _ => v = .int .i64 (S.w i)) := by
  obtain ⟨e1, i1, r1, l1⟩ := hS
  have g1 := F.good.lo1 i hi
  have g2 := F.good.w1 i hi
  have g3 := F.hi i hi
  unfold Spots.lo at g1 g3
  unfold drow at hd
  refine fun99.call rfl (Nat.le_refl _) ?_
  unfold a99
  (focus ((try with_reducible apply wpC.to); (repeat' ((conv => whnf); first | refine byEv ?_ | refine xTopF20 ?_ | fail)); all_goals ((conv => whnf); try with_reducible apply At.mk)))
  all_goals (refine byFin ?_)
  · congr 1; omega
theorem kTopF20c {G G' : Prop} (g : G') (t : G' → G := by ((apply q_call); (focus exact byNext); (focus exact byLo); (focus ((apply wide_w; rotate_left; (focus (apply Rgs.Ok.same; (focus assumption); (focus exact bySame); (focus exact Nat.le_refl _))); (focus assumption); (focus exact byGet); (focus omega); (focus exact byOm)))))) : G := t g

/-- The cells of a state. -/
def stC (i a b : Nat) (s : Int) : List Value := [.int .i64 i, .int .i64 a, .int .i64 b, .int .i64 s]
theorem at_load {h : H} {l n i a b c : Nat} {e : TypeId} {F : Nat → Int} (hg : h.get l = some (.cells (iCells F (n * 75)) e)) (hi : i < n) (ha : a < 5) (hb : b < 5) (hc : c < 3) :
    h.loadN (aadd (aadd (aadd (aadd ⟨l, 0, none⟩ (i * 75)) (a * 15)) (b * 3)) (c * 1)) 1 = some [.int .i64 (F (i * 75 + a * 15 + b * 3 + c))] := by
  have hlt : i * 75 + a * 15 + b * 3 + c < n * 75 := by omega
  have := iCells_ints hg (i * 75 + a * 15 + b * 3 + c) hlt
  have e : aadd (aadd (aadd (aadd ⟨l, 0, none⟩ (i * 75)) (a * 15)) (b * 3)) (c * 1) = aadd ⟨l, 0, none⟩ (i * 75 + a * 15 + b * 3 + c) := by
    simp only [aadd]
    congr 1
    omega
  rw [e]
  exact this
theorem at_w {h : H} {S : Spots} {d l i a b : Nat} {s : Int} {F : Nat → Int} (hdn : d < h.next) (hln : l < h.next) (hd : h.get d = some (drow S l)) (hl : h.get l = some (.cells (iCells F (S.r.n * 75)) 245)) (hi : i < S.r.n) (ha : a < 5) (hb : b < 5) (h0 : 0 ≤ s) (h2 : s ≤ 2) :
    AW Tryz.prog 102 h.next h [.pointer (some ⟨d, 0, none⟩), .agg ⟨stC i a b s⟩] (fun v _ => v = .int .i64 (F (i * 75 + a * 15 + b * 3 + s.toNat))) := by
  unfold drow at hd
  refine fun102.call rfl (Nat.le_refl _) ?_
  unfold a102 stC
  (focus ((try with_reducible apply wpC.to); (repeat' ((conv => whnf); first | refine byEv ?_ | refine xTopF20 ?_ | fail)); all_goals ((conv => whnf); try with_reducible apply At.mk)))
  refine Load1.mk (at_load (h := _) (l := l) (n := S.r.n) (i := i) (a := a) (b := b) (c := s.toNat) (e := 245) (F := F) byGet hi ha hb (by omega)) rfl ?_
  (focus ((try with_reducible apply wpC.to); (repeat' ((conv => whnf); first | refine byEv ?_ | refine xTopF20 ?_ | fail)); all_goals ((conv => whnf); try with_reducible apply At.mk)))
  (refine byFin ?_)
  rfl

theorem on_w {h : H} {S : Spots} {m d l i a b c : Nat} {s : Int} (hm : m ≤ h.next) (hS : S.r.Ok m h) (F : S.Fit) (hdn : d < h.next) (hd : h.get d = some (drow S l)) (h1 : 1 ≤ i) (hi : i + 1 < S.r.n) (ha : a < 5) (hb : b < 5) (hc : c < 5) (h0 : 0 ≤ s) (h2 : s ≤ 2) :
    AW Tryz.prog 104 h.next h [.pointer (some ⟨d, 0, none⟩), .agg ⟨stC i a b s⟩, .int .i64 c] (fun v _ => v = .tuple #[.agg ⟨stC (i + 1) b c (sgn s (dif S.lo i a b c))⟩, .int .i64 (pay S.t s (dif S.lo i a b c))]) := by
  obtain ⟨e1, i1, r1, l1⟩ := hS
  have g1 := F.good.lo1 (i - 1) (by omega)
  have g2 := F.good.lo1 i (by omega)
  have g3 := F.good.lo1 (i + 1) hi
  have w1 := F.good.w1 (i - 1) (by omega)
  have w2 := F.good.w1 i (by omega)
  have w3 := F.good.w1 (i + 1) hi
  have n2 := F.good.n2
  have t1 := F.good.t1
  have t2 := F.good.t2
  have hE : dif S.lo i a b c = (S.r.f (i - 1)).lo + a - 2 * ((S.r.f i).lo + b) + ((S.r.f (i + 1)).lo + c) := rfl
  have ht : 0 ≤ S.t * chg s ((S.r.f (i - 1)).lo + a - 2 * ((S.r.f i).lo + b) + ((S.r.f (i + 1)).lo + c)) ∧ S.t * chg s ((S.r.f (i - 1)).lo + a - 2 * ((S.r.f i).lo + b) + ((S.r.f (i + 1)).lo + c)) ≤ 1000000 := by
    unfold chg
    split
    · rw [Int.mul_one]; omega
    · rw [Int.mul_zero]; omega
  unfold Spots.lo at g1 g2 g3
  unfold drow at hd
  refine fun104.call rfl (Nat.le_refl _) ?_
  unfold a104 stC
  (focus ((try with_reducible apply wpC.to); (repeat' ((conv => whnf); first | refine byEv ?_ | ((refine kTopSc1c ?_); first | ((first | apply q_allD | apply q_alli | apply q_allB) <;> intro _ _ _ _ <;> try contradiction) | (apply q_allv; intro _ _ _)) | refine xTopF20 ?_ | fail)); all_goals ((conv => whnf); try with_reducible apply At.mk)))
  (refine byFin ?_)
  rw [Int.one_mul]
  rfl
end AE.Tryz
