/- Walks and plain laws: AgreeCells, TAgreeA, TAgreeB, TAgreeC. -/
import Derived.Test.YtneenfjffejnoaaGreatAEthree
import Derived.Test.YtneenfjffejnoaaGreatAgreeSpec3
import Derived.Test.YtneenfjffejnoaaGreatT9Code
set_option linter.unusedVariables false
set_option linter.unusedSimpArgs false
set_option linter.unusedSectionVars false

/- How nets and heights lie in cells. -/
set_option linter.unusedVariables false
namespace AE.Ag
open Go AE AgreeS

def boundV : Option Int → List Value
 | some m => [.bool true, .int .i64 m]
 | none => [.bool false, .int .i64 0]
def kCells (k : Known) : List Value := rowsOf (fun i => boundV (k i)) 13
def netRows (B : Net) : List Value := rowsOf (fun f => kCells (B f)) 13

theorem boundV_len (o : Option Int) : (boundV o).length = 2 := by cases o <;> rfl
theorem kCells_len (k : Known) : (kCells k).length = 26 := rowsOf_len (fun _ => boundV_len _) 13
theorem netRows_len (B : Net) : (netRows B).length = 338 := rowsOf_len (fun _ => kCells_len _) 13

theorem kCells_get (k : Known) {t a : Nat} (ht : t < 13) (p s : List Value) (ha : a = p.length + t * 2) : cut (p ++ kCells k ++ s) a 2 = some (boundV (k t)) :=
 cut_rowsOf (g := fun i => boundV (k i)) (fun _ => boundV_len _) ht p s ha
theorem kCells_set (k : Known) {t a : Nat} (v : Option Int) (ht : t < 13) (p s : List Value) (ha : a = p.length + t * 2) : splice (p ++ kCells k ++ s) a (boundV v) = p ++ kCells (upd k t v) ++ s := by
 have := splice_rowsOf (g := fun i => boundV (k i)) (fun _ => boundV_len _) ht p s (boundV v) (boundV_len _) ha
 have e : updL (fun i => boundV (k i)) t (boundV v) = fun i => boundV (upd k t v i) := by
  funext i; simp only [updL, upd]; split <;> rfl
 rw [e] at this
 exact this
theorem netRows_row (B : Net) {f a : Nat} (hf : f < 13) (p s : List Value) (ha : a = p.length + f * 26) : cut (p ++ netRows B ++ s) a 26 = some (kCells (B f)) :=
 cut_rowsOf (g := fun f => kCells (B f)) (fun _ => kCells_len _) hf p s ha
theorem netRows_get (B : Net) {f t a : Nat} (hf : f < 13) (ht : t < 13) (p s : List Value) (ha : a = p.length + f * 26 + t * 2) : cut (p ++ netRows B ++ s) a 2 = some (boundV (B f t)) := by
 subst ha
 have h1 := netRows_row B hf p s rfl
 have h2 := kCells_get (B f) ht [] [] (a := t * 2) (by simp)
 simp only [List.nil_append, List.append_nil] at h2
 exact cut_cut h1 h2
theorem netRows_set {B B' : Net} {f t a : Nat} {v : Option Int} (hB : ∀ i j, B' i j = if i = f ∧ j = t then v else B i j) (hf : f < 13) (ht : t < 13) (p s : List Value) (ha : a = p.length + f * 26 + t * 2) : splice (p ++ netRows B ++ s) a (boundV v) = p ++ netRows B' ++ s := by
 subst ha
 have h1 := netRows_row B hf p s rfl
 rw [splice_splice h1 (by rw [boundV_len]; omega)]
 have h2 := kCells_set (B f) v ht [] [] (a := t * 2) (by simp)
 simp only [List.nil_append, List.append_nil] at h2
 rw [h2]
 have := splice_rowsOf (g := fun f => kCells (B f)) (fun _ => kCells_len _) hf p s (kCells (upd (B f) t v)) (kCells_len _) rfl
 have e : updL (fun f => kCells (B f)) f (kCells (upd (B f) t v)) = fun f => kCells (B' f) := by
  funext i; simp only [updL]; split
  ·rename_i h; subst h
   congr 1; funext j; simp only [upd, hB]; simp
  ·rename_i h
   congr 1; funext j; simp [hB, h]
 rw [e] at this
 exact this

theorem oneCell_bound (o : Option Int) : (boundV o).all Value.oneCell' = true := by cases o <;> rfl

attribute [irreducible] netRows kCells

end AE.Ag

/- Walks of agree: tables, small functions. -/
namespace AE.Tryz.Agr
open Go AE AE.Ag AgreeS Go.Proofs
set_option maxRecDepth 100000

structure RTest where
 tank : Int
 hull : Int
 lo : Int
 hi : Int
def RTest.cells (x : RTest) : List Value := [.int .i64 x.tank, .int .i64 x.hull, .int .i64 x.lo, .int .i64 x.hi]
structure Tab where
 tanks : Int
 hulls : Int
 blo : Int
 bhi : Int
 n : Nat
 f : Nat → RTest
 b : Option Addr
 a : Addr
 c : Nat
def Tab.cells (T : Tab) : List Value := [.int .i64 T.tanks, .int .i64 T.hulls, .int .i64 T.blo, .int .i64 T.bhi, .slice T.b T.n T.c]
structure Tab.Ok (T : Tab) (m : Nat) (h : H) : Prop where
 e : 0 < T.n → T.b = some T.a
 i : Els h T.a T.n 4 (fun i => (T.f i).cells)
 r : 0 < T.n → T.a.block < m
 l : T.n ≤ 9223372036854775807
theorem Tab.Ok.same {T : Tab} {m m' : Nat} {h h' : H} (k : T.Ok m h) (s : Same m h h') (hm : m ≤ m') : T.Ok m' h' :=
 ⟨k.e, k.i.same s k.r, fun h => by have := k.r h; omega, k.l⟩


theorem acall_of {g : FuncId} {first capt args xs : List Value} {lo : Nat} {h : H} {R : Value → H → Prop} (hc : AW Tryz.prog g lo h xs R) (e : first ++ args ++ capt = xs) : ∃ v h', R v h' ∧ ACall Tryz.prog (.func (.func g) ⟨first⟩ ⟨capt⟩) lo h args v h' := by
 obtain ⟨v, h', r, a⟩ := hc
 subst e
 exact ⟨v, h', r, a.acall⟩
theorem acall_mono {fv : Value} {args : List Value} {lo lo' : Nat} {h : H} {R : Value → H → Prop} (hc : ∃ v h', R v h' ∧ ACall Tryz.prog fv lo h args v h') (hl : lo' ≤ lo) : ∃ v h', R v h' ∧ ACall Tryz.prog fv lo' h args v h' :=
 let ⟨v, h', r, a⟩ := hc; ⟨v, h', r, a.mono hl⟩

structure Arr where
 n : Nat
 f : Nat → Int
 b : Option Addr
 a : Addr
 c : Nat
def Arr.val (T : Arr) : Value := .slice T.b T.n T.c
structure Arr.Ok (T : Arr) (m : Nat) (h : H) : Prop where
 e : 0 < T.n → T.b = some T.a
 i : Ints h T.a T.n T.f
 r : 0 < T.n → T.a.block < m
 l : T.n ≤ 9223372036854775807
theorem Arr.Ok.same {T : Arr} {m m' : Nat} {h h' : H} (k : T.Ok m h) (s : Same m h h') (hm : m ≤ m') : T.Ok m' h' :=
 ⟨k.e, k.i.same s k.r, fun h => by have := k.r h; omega, k.l⟩

theorem indexTests_w {h : H} {T : Tab} {m : Nat} (hm : m ≤ h.next) (hT : T.Ok m h) {pf : Value} {p : Nat → Bool} (hy : ∀ i h1, i < T.n → Quiet h.next h h1 → ∃ v h2, v = .bool (p i) ∧ ACall Tryz.prog pf h1.next h1 [.agg ⟨(T.f i).cells⟩] v h2) :
 AW Tryz.prog 188 h.next h [.slice T.b T.n T.c, pf] (fun v _ => ∃ z, v = .int .i64 z ∧ (0 ≤ z ↔ ∃ i, i < T.n ∧ p i = true)) := by
 obtain ⟨e1, i1, r1, l1⟩ := hT
 refine fun188.call rfl (Nat.le_refl _) ?_
 unfold a188
 (focus ((try with_reducible apply wpC.to); (repeat' ((conv => whnf); first | refine byEv ?_ | (apply Fork.mk <;> (intro _; try (exfalso; omega))) | fail)); all_goals ((conv => whnf); try with_reducible apply At.mk)))
 refine wp_loop (fun s : Nat => [(0, .slice T.b T.n T.c), (1, pf), (7, .int .i64 T.n), (8, .int .i64 s)]) (fun s h1 => Quiet h.next h h1 ∧ s ≤ T.n ∧ ∀ i, i < s → p i = false) (fun s => T.n - s) 0 ⟨rfl, rfl, rfl, rfl, trivial⟩ ⟨?_, by omega, fun i hi => by omega⟩ ?_
 ·(exact byQuiet)
 rintro s g h1 ⟨q, hs, hp⟩ K hK
 have hnx := q.next
 (focus ((try with_reducible apply wpC.to); (repeat' ((conv => whnf); first | refine byEv ?_ | (apply Fork.mk <;> (intro _; try (exfalso; omega))) | fail)); all_goals ((conv => whnf); try with_reducible apply At.mk)))
 ·apply q_calla
  focus exact acall_mono (hy s _ byO byQuiet) byOm
  rintro _ h2 rfl q2
  have hnx2 := q2.next
  cases hb : p s with
  | true =>
    (focus ((try with_reducible apply wpC.to); (repeat' ((conv => whnf); first | refine byEv ?_ | (apply Fork.mk <;> (intro _; try (exfalso; omega))) | fail)); all_goals ((conv => whnf); try with_reducible apply At.mk)))
    (refine byFin ?_)
    exact ⟨_, rfl, ⟨fun _ => ⟨s, by omega, hb⟩, fun _ => by omega⟩⟩
  | false =>
    (focus ((try with_reducible apply wpC.to); (repeat' ((conv => whnf); first | refine byEv ?_ | (apply Fork.mk <;> (intro _; try (exfalso; omega))) | fail)); all_goals ((conv => whnf); try with_reducible apply At.mk)))
    refine hK (s + 1) _ _ ⟨rfl, rfl, rfl, int_of rfl byO, trivial⟩ ⟨byQuiet, by omega, fun i hi => ?_⟩ byO
    by_cases e : i = s
    ·subst e; exact hb
    ·exact hp i byO
 ·(refine byFin ?_)
  refine ⟨_, rfl, ⟨fun h => by omega, fun ⟨i, hi, hpi⟩ => ?_⟩⟩
  rw [hp i byO] at hpi
  cases hpi
theorem anyTests_w {h : H} {T : Tab} {m : Nat} (hm : m ≤ h.next) (hT : T.Ok m h) {pf : Value} {p : Nat → Bool} (hy : ∀ i h1, i < T.n → Quiet h.next h h1 → ∃ v h2, v = .bool (p i) ∧ ACall Tryz.prog pf h1.next h1 [.agg ⟨(T.f i).cells⟩] v h2) :
 AW Tryz.prog 98 h.next h [.slice T.b T.n T.c, pf] (fun v _ => v = .bool (decide (∃ i, i < T.n ∧ p i = true))) := by
 refine fun98.call rfl (Nat.le_refl _) ?_
 unfold a98
 (focus ((try with_reducible apply wpC.to); (repeat' ((conv => whnf); first | refine byEv ?_ | (apply Fork.mk <;> (intro _; try (exfalso; omega))) | fail)); all_goals ((conv => whnf); try with_reducible apply At.mk)))
 apply q_call
 focus (exact byNext)
 focus (exact byLo)
 focus exact indexTests_w (m := m) byOm (hT.same bySame (Nat.le_refl _)) fun i h1 hi q => hy i h1 hi (Quiet.trans byQuiet (q.mono byOm))
 rintro _ h1 ⟨z, rfl, hz⟩ q hn
 (focus ((try with_reducible apply wpC.to); (repeat' ((conv => whnf); first | refine byEv ?_ | (apply Fork.mk <;> (intro _; try (exfalso; omega))) | fail)); all_goals ((conv => whnf); try with_reducible apply At.mk)))
 all_goals (refine byFin ?_)
 ·exact bool_t rfl (hz.1 byO)
 ·exact bool_f rfl (fun h => by have := hz.2 h; omega)

theorem indexInts_w {h : H} {T : Arr} {m : Nat} (hm : m ≤ h.next) (hT : T.Ok m h) {pf : Value} {p : Nat → Bool} (hy : ∀ i h1, i < T.n → Quiet h.next h h1 → ∃ v h2, v = .bool (p i) ∧ ACall Tryz.prog pf h1.next h1 [.int .i64 (T.f i)] v h2) :
 AW Tryz.prog 205 h.next h [.slice T.b T.n T.c, pf] (fun v _ => ∃ z, v = .int .i64 z ∧ (0 ≤ z ↔ ∃ i, i < T.n ∧ p i = true)) := by
 obtain ⟨e1, i1, r1, l1⟩ := hT
 refine fun205.call rfl (Nat.le_refl _) ?_
 unfold a205
 (focus ((try with_reducible apply wpC.to); (repeat' ((conv => whnf); first | refine byEv ?_ | (apply Fork.mk <;> (intro _; try (exfalso; omega))) | fail)); all_goals ((conv => whnf); try with_reducible apply At.mk)))
 refine wp_loop (fun s : Nat => [(0, .slice T.b T.n T.c), (1, pf), (7, .int .i64 T.n), (8, .int .i64 s)]) (fun s h1 => Quiet h.next h h1 ∧ s ≤ T.n ∧ ∀ i, i < s → p i = false) (fun s => T.n - s) 0 ⟨rfl, rfl, rfl, rfl, trivial⟩ ⟨?_, by omega, fun i hi => by omega⟩ ?_
 ·(exact byQuiet)
 rintro s g h1 ⟨q, hs, hp⟩ K hK
 have hnx := q.next
 (focus ((try with_reducible apply wpC.to); (repeat' ((conv => whnf); first | refine byEv ?_ | (apply Fork.mk <;> (intro _; try (exfalso; omega))) | fail)); all_goals ((conv => whnf); try with_reducible apply At.mk)))
 ·apply q_calla
  focus exact acall_mono (hy s _ byO byQuiet) byOm
  rintro _ h2 rfl q2
  have hnx2 := q2.next
  cases hb : p s with
  | true =>
    (focus ((try with_reducible apply wpC.to); (repeat' ((conv => whnf); first | refine byEv ?_ | (apply Fork.mk <;> (intro _; try (exfalso; omega))) | fail)); all_goals ((conv => whnf); try with_reducible apply At.mk)))
    (refine byFin ?_)
    exact ⟨_, rfl, ⟨fun _ => ⟨s, by omega, hb⟩, fun _ => by omega⟩⟩
  | false =>
    (focus ((try with_reducible apply wpC.to); (repeat' ((conv => whnf); first | refine byEv ?_ | (apply Fork.mk <;> (intro _; try (exfalso; omega))) | fail)); all_goals ((conv => whnf); try with_reducible apply At.mk)))
    refine hK (s + 1) _ _ ⟨rfl, rfl, rfl, int_of rfl byO, trivial⟩ ⟨byQuiet, by omega, fun i hi => ?_⟩ byO
    by_cases e : i = s
    ·subst e; exact hb
    ·exact hp i byO
 ·(refine byFin ?_)
  refine ⟨_, rfl, ⟨fun h => by omega, fun ⟨i, hi, hpi⟩ => ?_⟩⟩
  rw [hp i byO] at hpi
  cases hpi
theorem anyInts_w {h : H} {T : Arr} {m : Nat} (hm : m ≤ h.next) (hT : T.Ok m h) {pf : Value} {p : Nat → Bool} (hy : ∀ i h1, i < T.n → Quiet h.next h h1 → ∃ v h2, v = .bool (p i) ∧ ACall Tryz.prog pf h1.next h1 [.int .i64 (T.f i)] v h2) :
 AW Tryz.prog 118 h.next h [.slice T.b T.n T.c, pf] (fun v _ => v = .bool (decide (∃ i, i < T.n ∧ p i = true))) := by
 refine fun118.call rfl (Nat.le_refl _) ?_
 unfold a118
 (focus ((try with_reducible apply wpC.to); (repeat' ((conv => whnf); first | refine byEv ?_ | (apply Fork.mk <;> (intro _; try (exfalso; omega))) | fail)); all_goals ((conv => whnf); try with_reducible apply At.mk)))
 apply q_call
 focus (exact byNext)
 focus (exact byLo)
 focus exact indexInts_w (m := m) byOm (hT.same bySame (Nat.le_refl _)) fun i h1 hi q => hy i h1 hi (Quiet.trans byQuiet (q.mono byOm))
 rintro _ h1 ⟨z, rfl, hz⟩ q hn
 (focus ((try with_reducible apply wpC.to); (repeat' ((conv => whnf); first | refine byEv ?_ | (apply Fork.mk <;> (intro _; try (exfalso; omega))) | fail)); all_goals ((conv => whnf); try with_reducible apply At.mk)))
 all_goals (refine byFin ?_)
 ·exact bool_t rfl (hz.1 byO)
 ·exact bool_f rfl (fun h => by have := hz.2 h; omega)


theorem beyond_w {h : H} {r : Nat} {n most : Int} {e : TypeId} (hg : h.get r = some (.cells [.int .i64 most] e)) (h0 : 0 ≤ most) (h1 : most ≤ 4611686018427387904) : AW Tryz.prog 145 h.next h [.int .i64 n, .pointer (some ⟨r, 0, none⟩)] (fun v _ => v = .bool (decide (n < -most ∨ most < n))) := by
 refine fun145.call rfl (Nat.le_refl _) ?_
 unfold a145
 (focus ((try with_reducible apply wpC.to); (repeat' ((conv => whnf); first | refine byEv ?_ | (apply Fork.mk <;> (intro _; try (exfalso; omega))) | fail)); all_goals ((conv => whnf); try with_reducible apply At.mk)))
 all_goals ((refine byFin ?_); first | exact bool_t rfl byO | exact bool_f rfl byO)

theorem within_w {h : H} {T : Arr} {m : Nat} {most : Int} (hm : m ≤ h.next) (hT : T.Ok m h) (h0 : 0 ≤ most) (h1 : most ≤ 4611686018427387904) :
 AW Tryz.prog 74 h.next h [.int .i64 most, .slice T.b T.n T.c] (fun v _ => v = .bool (decide (∀ i, i < T.n → -most ≤ T.f i ∧ T.f i ≤ most))) := by
 refine fun74.call rfl (Nat.le_refl _) ?_
 unfold a74
 (focus ((try with_reducible apply wpC.to); (repeat' ((conv => whnf); first | refine byEv ?_ | fail)); all_goals ((conv => whnf); try with_reducible apply At.mk)))
 apply q_callB
 focus (exact byNext)
 focus (exact byLo)
 focus
  refine anyInts_w (m := m) (p := fun i => decide (T.f i < -most ∨ most < T.f i)) byOm (hT.same bySame (Nat.le_refl _)) fun i k1 hi q => ?_
  exact acall_of (beyond_w (e := 2) (r := h.next) (most := most) ((q.same _ byOm).trans byGet) h0 h1) rfl
 ·intro hb h2 q hn
  (focus ((try with_reducible apply wpC.to); (repeat' ((conv => whnf); first | refine byEv ?_ | fail)); all_goals ((conv => whnf); try with_reducible apply At.mk)))
  (refine byFin ?_)
  refine bool_f rfl fun hall => ?_
  obtain ⟨i, hi, h3⟩ := of_decide_eq_true hb
  have := hall i hi
  have := of_decide_eq_true h3
  omega
 ·intro hb h2 q hn
  (focus ((try with_reducible apply wpC.to); (repeat' ((conv => whnf); first | refine byEv ?_ | fail)); all_goals ((conv => whnf); try with_reducible apply At.mk)))
  (refine byFin ?_)
  refine bool_t rfl fun i hi => ?_
  have := of_decide_eq_false hb
  by_cases hx : T.f i < -most ∨ most < T.f i
  ·exact absurd ⟨i, hi, decide_eq_true hx⟩ this
  ·omega

end AE.Tryz.Agr

/- Walks of agree: valid tables. -/
namespace AE.Tryz.Agr
open Go AE AE.Ag AgreeS Go.Proofs
set_option maxRecDepth 100000

def isR (lo hi : Int) : Prop := lo ≤ hi ∧ -1000000 ≤ lo ∧ hi ≤ 1000000
instance (lo hi : Int) : Decidable (isR lo hi) := by unfold isR; infer_instance

theorem isRange_w {h : H} {lo hi : Int} : AW Tryz.prog 97 h.next h [.agg ⟨[.int .i64 lo, .int .i64 hi]⟩] (fun v _ => v = .bool (decide (isR lo hi))) := by
 refine fun97.call rfl (Nat.le_refl _) ?_
 unfold a97
 (focus ((try with_reducible apply wpC.to); (repeat' ((conv => whnf); first | refine byEv ?_ | (apply Fork.mk <;> (intro _; try (exfalso; omega))) | fail)); all_goals ((conv => whnf); try with_reducible apply At.mk)))
 ·apply q_callB
  focus (exact byNext)
  focus (exact byLo)
  focus
   refine within_w (T := ⟨2, fun i => if i = 0 then lo else hi, some ⟨h.next + 12, 0, none⟩, ⟨h.next + 12, 0, none⟩, 2⟩) (m := h.next + 13) byOm ⟨fun _ => rfl, fun i hi => ?_, fun _ => by simp only; omega, by simp⟩ byO byO
   have : i = 0 ∨ i = 1 := by simp only at hi; omega
   rcases this with rfl | rfl
   ·exact loadN_one (off := 0 + 0) byGet rfl
   ·exact loadN_one (off := 0 + 1) byGet rfl
  ·intro hb h2 q hn
   (focus ((try with_reducible apply wpC.to); (repeat' ((conv => whnf); first | refine byEv ?_ | (apply Fork.mk <;> (intro _; try (exfalso; omega))) | fail)); all_goals ((conv => whnf); try with_reducible apply At.mk)))
   (refine byFin ?_)
   have := of_decide_eq_true hb
   have h0 := this 0 (by simp)
   have h1 : -1000000 ≤ hi ∧ hi ≤ 1000000 := this 1 (by simp)
   simp only [if_true] at h0
   exact bool_t rfl (by unfold isR; omega)
  ·intro hb h2 q hn
   (focus ((try with_reducible apply wpC.to); (repeat' ((conv => whnf); first | refine byEv ?_ | (apply Fork.mk <;> (intro _; try (exfalso; omega))) | fail)); all_goals ((conv => whnf); try with_reducible apply At.mk)))
   (refine byFin ?_)
   have := of_decide_eq_false hb
   refine bool_f rfl fun hr => this fun i _ => ?_
   unfold isR at hr
   simp only
   split <;> omega
 ·(refine byFin ?_)
  exact bool_f rfl (by unfold isR; omega)
theorem kTAgreeB0c {G G' : Prop} (g : G') (t : G' → G := by ((apply q_call); (focus exact byNext); (focus exact byLo); (focus (exact isRange_w)))) : G := t g

theorem is_w {h : H} {a b : Int} : AW Tryz.prog 96 h.next h [.int .i64 a, .int .i64 b] (fun v _ => v = .bool (decide (0 ≤ a ∧ a < b))) := by
 refine fun96.call rfl (Nat.le_refl _) ?_
 unfold a96
 (focus ((try with_reducible apply wpC.to); (repeat' ((conv => whnf); first | refine byEv ?_ | (apply Fork.mk <;> (intro _; try (exfalso; omega))) | fail)); all_goals ((conv => whnf); try with_reducible apply At.mk)))
 all_goals ((refine byFin ?_); first | exact bool_t rfl byO | exact bool_f rfl byO)
theorem kTAgreeB1c {G G' : Prop} (g : G') (t : G' → G := by ((apply q_call); (focus exact byNext); (focus exact byLo); (focus (exact is_w)))) : G := t g
theorem badTest_w {h : H} {x : RTest} {r s : Nat} {tanks hulls : Int} {cs : List Value} {e e' : TypeId} (hr : r < h.next) (hs' : s < h.next) (hg : h.get r = some (.cells [.func (.func 96) ⟨[]⟩ ⟨[]⟩] e)) (hs : h.get s = some (.cells (.int .i64 tanks :: .int .i64 hulls :: cs) e')) :
 AW Tryz.prog 99 h.next h [.agg ⟨x.cells⟩, .pointer (some ⟨r, 0, none⟩), .pointer (some ⟨s, 0, none⟩)] (fun v _ => v = .bool (decide (¬ ((0 ≤ x.tank ∧ x.tank < tanks) ∧ (0 ≤ x.hull ∧ x.hull < hulls))))) := by
 refine fun99.call rfl (Nat.le_refl _) ?_
 unfold a99
 (focus ((try with_reducible apply wpC.to); (repeat' ((conv => whnf); first | refine byEv ?_ | ((refine kTAgreeB1c ?_); first | ((first | apply q_allD | apply q_alli | apply q_allB) <;> intro _ _ _ _ <;> try contradiction) | (apply q_allv; intro _ _ _)) | fail)); all_goals ((conv => whnf); try with_reducible apply At.mk)))
 all_goals ((refine byFin ?_); first | exact bool_t rfl byO | exact bool_f rfl byO)
theorem badValue_w {h : H} {x : RTest} : AW Tryz.prog 100 h.next h [.agg ⟨x.cells⟩] (fun v _ => v = .bool (decide (¬ isR x.lo x.hi))) := by
 refine fun100.call rfl (Nat.le_refl _) ?_
 unfold a100
 (focus ((try with_reducible apply wpC.to); (repeat' ((conv => whnf); first | refine byEv ?_ | ((refine kTAgreeB0c ?_); first | ((first | apply q_allD | apply q_alli | apply q_allB) <;> intro _ _ _ _ <;> try contradiction) | (apply q_allv; intro _ _ _)) | fail)); all_goals ((conv => whnf); try with_reducible apply At.mk)))
 all_goals (refine byFin ?_)
 all_goals first | exact bool_t rfl (by assumption) | exact bool_f rfl (by simpa using ‹isR x.lo x.hi›)

structure Tab.Valid (T : Tab) : Prop where
 n : T.n ≤ 24
 t1 : 1 ≤ T.tanks
 t2 : T.tanks ≤ 6
 h1 : 1 ≤ T.hulls
 h2 : T.hulls ≤ 6
 b : isR T.blo T.bhi
 f : ∀ i, i < T.n → (0 ≤ (T.f i).tank ∧ (T.f i).tank < T.tanks) ∧ (0 ≤ (T.f i).hull ∧ (T.f i).hull < T.hulls) ∧ isR (T.f i).lo (T.f i).hi

theorem checkTable_w {h : H} {T : Tab} {m : Nat} (hm : m ≤ h.next) (hT : T.Ok m h) (hv : T.Valid) : AW Tryz.prog 38 h.next h [.agg ⟨T.cells⟩] (fun v _ => v = .int .i64 0) := by
 obtain ⟨n24, t1, t2, h1, h2, hb, hf⟩ := hv
 refine fun38.call rfl (Nat.le_refl _) ?_
 unfold a38
 (focus ((try with_reducible apply wpC.to); (repeat' ((conv => whnf); first | refine byEv ?_ | (apply Fork.mk <;> (intro _; try (exfalso; omega))) | ((first | refine kTAgreeB1c ?_ | refine kTAgreeB0c ?_); first | ((first | apply q_allD | apply q_alli | apply q_allB) <;> intro _ _ _ _ <;> try contradiction) | (apply q_allv; intro _ _ _)) | fail)); all_goals ((conv => whnf); try with_reducible apply At.mk)))
 apply q_callB
 focus (exact byNext)
 focus (exact byLo)
 focus
  refine anyTests_w (m := m) (p := fun i => decide (¬ ((0 ≤ (T.f i).tank ∧ (T.f i).tank < T.tanks) ∧ (0 ≤ (T.f i).hull ∧ (T.f i).hull < T.hulls)))) byOm (hT.same bySame (Nat.le_refl _)) fun i k1 hi q => ?_
  have hq := q.next
  exact acall_of (badTest_w (x := T.f i) (r := h.next + 2) (s := h.next) (e := 178) (e' := 31) (tanks := T.tanks) (hulls := T.hulls) byOm byOm ((q.same _ byOm).trans byGet) ((q.same _ byOm).trans byGet)) rfl
 ·intro hb' h2 q hn
  exfalso
  obtain ⟨i, hi, hp⟩ := of_decide_eq_true hb'
  have := of_decide_eq_true hp
  have := hf i hi
  omega
 intro _ h2 q hn
 (focus ((try with_reducible apply wpC.to); (repeat' ((conv => whnf); first | refine byEv ?_ | (apply Fork.mk <;> (intro _; try (exfalso; omega))) | ((first | refine kTAgreeB1c ?_ | refine kTAgreeB0c ?_); first | ((first | apply q_allD | apply q_alli | apply q_allB) <;> intro _ _ _ _ <;> try contradiction) | (apply q_allv; intro _ _ _)) | fail)); all_goals ((conv => whnf); try with_reducible apply At.mk)))
 apply q_callB
 focus (exact byNext)
 focus (exact byLo)
 focus
  refine anyTests_w (m := m) (p := fun i => decide (¬ isR (T.f i).lo (T.f i).hi)) byOm (hT.same bySame (Nat.le_refl _)) fun i k1 hi q => ?_
  exact acall_of (badValue_w (x := T.f i)) rfl
 ·intro hb' h2 q hn
  exfalso
  obtain ⟨i, hi, hp⟩ := of_decide_eq_true hb'
  exact of_decide_eq_true hp (hf i hi).2.2
 intro _ h2 q hn
 (focus ((try with_reducible apply wpC.to); (repeat' ((conv => whnf); first | refine byEv ?_ | (apply Fork.mk <;> (intro _; try (exfalso; omega))) | ((first | refine kTAgreeB1c ?_ | refine kTAgreeB0c ?_); first | ((first | apply q_allD | apply q_alli | apply q_allB) <;> intro _ _ _ _ <;> try contradiction) | (apply q_allv; intro _ _ _)) | fail)); all_goals ((conv => whnf); try with_reducible apply At.mk)))
 (refine byFin ?_)
 rfl

end AE.Tryz.Agr

/- Walks of agree: nets. -/
namespace AE.Tryz.Agr
open Go AE AE.Ag AgreeS Go.Proofs
set_option maxRecDepth 100000

theorem old_w {h : H} {r : Nat} {x : Int} {b : Bool} {e : TypeId} (hr : r < h.next) (hg : h.get r = some (.cells [.bool b, .int .i64 x] e)) : AW Tryz.prog 190 h.next h [.pointer (some ⟨r, 0, none⟩)] (fun v _ => v = .tuple #[.int .i64 x, .bool b]) := by
 refine fun190.call rfl (Nat.le_refl _) ?_
 unfold a190
 (focus ((try with_reducible apply wpC.to); (repeat' ((conv => whnf); first | refine byEv ?_ | fail)); all_goals ((conv => whnf); try with_reducible apply At.mk)))
 all_goals (refine byFin ?_)
 all_goals rfl
theorem lesser_w {h : H} {a x : Int} {b : Bool} {fv : Value} (hy : ∀ h1, Quiet h.next h h1 → ∃ v h2, v = .tuple #[.int .i64 x, .bool b] ∧ ACall Tryz.prog fv h1.next h1 [] v h2) : AW Tryz.prog 189 h.next h [.int .i64 a, fv] (fun v _ => v = .int .i64 (if b then min a x else a)) := by
 refine fun189.call rfl (Nat.le_refl _) ?_
 unfold a189
 (focus ((try with_reducible apply wpC.to); (repeat' ((conv => whnf); first | refine byEv ?_ | ((refine kTAgreeB1c ?_); first | ((first | apply q_allD | apply q_alli | apply q_allB) <;> intro _ _ _ _ <;> try contradiction) | (apply q_allv; intro _ _ _)) | fail)); all_goals ((conv => whnf); try with_reducible apply At.mk)))
 apply q_calla
 focus exact acall_mono (hy _ byQuiet) byOm
 rintro _ h2 rfl q
 cases b with
 | true =>
   (focus ((try with_reducible apply wpC.to); (repeat' ((conv => whnf); first | refine byEv ?_ | ((refine kTAgreeB1c ?_); first | ((first | apply q_allD | apply q_alli | apply q_allB) <;> intro _ _ _ _ <;> try contradiction) | (apply q_allv; intro _ _ _)) | fail)); all_goals ((conv => whnf); try with_reducible apply At.mk)))
   all_goals (refine byFin ?_)
   all_goals exact int_of rfl (by first | (simp only [if_true]; done) | (simp only [if_true]; omega))
 | false =>
   (focus ((try with_reducible apply wpC.to); (repeat' ((conv => whnf); first | refine byEv ?_ | ((refine kTAgreeB1c ?_); first | ((first | apply q_allD | apply q_alli | apply q_allB) <;> intro _ _ _ _ <;> try contradiction) | (apply q_allv; intro _ _ _)) | fail)); all_goals ((conv => whnf); try with_reducible apply At.mk)))
   (refine byFin ?_)
   exact int_of rfl (by simp)

theorem is_eq {l m : List Value} (h : l = m) : Is l m := h ▸ Is.rfl

theorem put_w {h : H} {lo r f t : Nat} {m : Int} {hd : List Value} {B : Net} {e : TypeId} (hlo : lo ≤ r) (hr : r < h.next) (hd6 : hd.length = 6) (hf : f < 13) (ht : t < 13) (hg : h.get r = some (.cells (hd ++ netRows B) e)) :
 AW Tryz.prog 101 lo h [.pointer (some ⟨r, 0, none⟩), .int .i64 f, .int .i64 t, .int .i64 m] (fun _ h' => h'.get r = some (.cells (hd ++ netRows (AgreeS.put B f t m)) e) ∧ ∀ s, s < h.next → s ≠ r → h'.get s = h.get s) := by
 refine fun101.call rfl byO ?_
 unfold a101
 obtain ⟨b, x, hbx, hmin⟩ : ∃ b x, boundV (B f t) = [.bool b, .int .i64 x] ∧ AgreeS.put B f t m f t = some (if b then min m x else m) := by
  cases hb : B f t with
  | none => exact ⟨false, 0, rfl, by simp [AgreeS.put, hb]⟩
  | some o => exact ⟨true, o, rfl, by simp [AgreeS.put, hb]⟩
 have hld : ∀ h1 : H, h1.get r = some (.cells (hd ++ netRows B) e) → h1.loadN ⟨r, 0 + 6 + f * 26 + t * 2, none⟩ 2 = some [.bool b, .int .i64 x] := fun h1 h1g =>
  loadN_cells h1g (by
   have := netRows_get B hf ht hd [] (a := 0 + 6 + f * 26 + t * 2) byO
   rw [← hbx]
   simpa using this)
 have hst : splice (hd ++ netRows B) (0 + 6 + f * 26 + t * 2) [.bool true, .int .i64 (if b then min m x else m)] = hd ++ netRows (AgreeS.put B f t m) := by
  have := netRows_set (B := B) (B' := AgreeS.put B f t m) (v := some (if b then min m x else m)) (a := 0 + 6 + f * 26 + t * 2) (fun i j => by
   by_cases hij : i = f ∧ j = t
   ·obtain ⟨rfl, rfl⟩ := hij; rw [hmin]; simp
   ·simp [AgreeS.put, hij]) hf ht hd [] byO
  simpa [boundV] using this
 (focus ((try with_reducible apply wpC.to); (repeat' ((conv => whnf); first | refine byEv ?_ | fail)); all_goals ((conv => whnf); try with_reducible apply At.mk)))
 refine LoadN.mk (hld _ byGet) Is.rfl ?_
 (focus ((try with_reducible apply wpC.to); (repeat' ((conv => whnf); first | refine byEv ?_ | fail)); all_goals ((conv => whnf); try with_reducible apply At.mk)))
 apply q_callv
 focus (exact byNext)
 focus (exact byLo)
 focus exact lesser_w (b := b) (x := x) fun h1 q => acall_of (old_w (e := 182) (r := h.next + 8) (by have := q.next; (exact byOm)) ((q.same _ byOm).trans byGet)) rfl
 intro h2 q hn
 (focus ((try with_reducible apply wpC.to); (repeat' ((conv => whnf); first | refine byEv ?_ | fail)); all_goals ((conv => whnf); try with_reducible apply At.mk)))
 refine Sto.mk (r := r) (off := 0 + 6 + f * 26 + t * 2) rfl hlo byGet rfl rfl (Nat.ble_eq_true_of_le (by simp [hd6, netRows_len]; omega)) (is_eq hst) ?_
 (focus ((try with_reducible apply wpC.to); (repeat' ((conv => whnf); first | refine byEv ?_ | fail)); all_goals ((conv => whnf); try with_reducible apply At.mk)))
 (refine byFin ?_)
 refine ⟨byGet, fun s hs hne => ?_⟩
 generalize hx : h.get s = y
 (exact byGet)

end AE.Tryz.Agr
