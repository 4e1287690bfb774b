/- Walks and plain laws: ClkDb, ClkDc. -/
import Derived.Test.YtcminnjimlopbaaGreatDoorJoin34
set_option linter.unusedVariables false
set_option linter.unusedSimpArgs false
set_option linter.unusedSectionVars false

/- Clerk: the definitions' stand, as it lies in the heap; copied. -/
namespace AE.Clerk
structure SD where
 stock : Int
 lost : Int
 ms : List Mdl
 rn : List Int
 co : List Int
 bk : List Int
end AE.Clerk
namespace AE.Tryz
open Go AE Go.Proofs AE.Clerk
set_option maxRecDepth 100000
set_option linter.unusedVariables false

def cI (l : List Int) : List Value := l.map (Value.int .i64)
def cM (S : SD) : List Value := cellsOf mC8 S.ms
def cL (S : SD) : List Value := cI (S.ms.map Mdl.loss)
theorem cI_len (l : List Int) : (cI l).length = l.length := List.length_map ..
theorem cM_len (S : SD) : (cM S).length = S.ms.length * 8 := by
 unfold cM cellsOf
 induction S.ms with
 | nil => rfl
 | cons m l ih => simp only [List.flatMap_cons, List.length_append, ih, List.length_cons]; simp [mC8]; omega
theorem cL_len (S : SD) : (cL S).length = S.ms.length := by unfold cL; rw [cI_len, List.length_map]
theorem cI_one (l : List Int) : (cI l).all Value.oneCell' = true := by
 simp only [cI, List.all_map, List.all_eq_true]
 intro x _
 rfl
theorem cM_one (S : SD) : (cM S).all Value.oneCell' = true := by
 unfold cM cellsOf
 rw [List.all_flatMap]
 simp only [List.all_eq_true]
 intro m _ v hv
 simp [mC8] at hv
 rcases hv with rfl | rfl | rfl | rfl | rfl | rfl | rfl | rfl <;> rfl
def RdS (m : Nat) (h : H) (sz n : Nat) (cs : List Value) (b : Option Addr) : Prop :=
 cs.length = n * sz ∧ cs.all Value.oneCell' = true ∧ (0 < n → ∃ a, b = some a ∧ h.loadN a (n * sz) = some cs ∧ a.block < m ∧ SlG a n 0) ∧ (n = 0 → b = none ∨ ∃ r, b = some ⟨r, 0, none⟩)
theorem RdS.same {m m' sz n : Nat} {h h' : H} {cs : List Value} {b : Option Addr} (k : RdS m h sz n cs b) (s : Same m h h') (hm : m ≤ m') : RdS m' h' sz n cs b :=
 ⟨k.1, k.2.1, fun h0 => by
  obtain ⟨a, e, l, hb, hs⟩ := k.2.2.1 h0
  exact ⟨a, e, by rw [s.loadN hb]; exact l, by omega, hs⟩, k.2.2.2⟩
theorem RdS.cells {m sz n : Nat} {h : H} {cs : List Value} {b : Option Addr} (k : RdS m h sz n cs b) : Cells h sz n (.slice b n 0) cs := by
 refine ⟨rfl, fun h0 => ?_, k.1, k.2.1⟩
 obtain ⟨a, rfl, l, -, -⟩ := k.2.2.1 h0
 have : ¬ far ≤ 0 := by unfold far; omega
 simp only [acells, if_neg this]
 exact l
theorem RdS.els {m sz n : Nat} {h : H} {cs : List Value} {b : Option Addr} (k : RdS m h sz n cs b) (h0 : 0 < n) : ∃ a, b = some a ∧ a.block < m ∧ SlG a n 0 ∧ ∀ off j l, cut cs off j = some l → h.loadN (aadd a off) j = some l := by
 obtain ⟨a, e, l, hb, hs⟩ := k.2.2.1 h0
 exact ⟨a, e, hb, hs, fun off j l' hc => load_part l hc⟩
theorem GE.rd {m a r sz n : Nat} {h : H} {e : TypeId} {cs : List Value} {b : Option Addr} (g : GE a r h e sz n cs b) (hr : r < m) (hl : cs.length = n * sz) (ho : cs.all Value.oneCell' = true) (hn : n < 1000000) : RdS m h sz n cs b := by
 refine ⟨hl, ho, fun h0 => ?_, fun h0 => ?_⟩
 rotate_left
 ·rcases g with ⟨-, h2, -⟩ | ⟨h1, -⟩
  ·exact .inr ⟨_, h2⟩
  ·omega
 rcases g with ⟨h1, -⟩ | ⟨-, g⟩
 ·omega
 ·obtain ⟨ad, e1, e2, e3, -⟩ := g.load
  obtain ⟨g', lens, valid, hv, -⟩ := g.is
  refine ⟨ad, e1, ?_, by rw [e2]; exact hr, .inr (.inl ⟨?_, rfl, by unfold far; omega⟩)⟩
  ·have := e3 0 (n * sz) cs (by rw [← hl]; exact cut_whole cs)
   rwa [show aadd ad 0 = ad by simp [aadd]] at this
  ·rw [e1] at hv
   simp only [Option.some.injEq] at hv
   rw [hv]
   exact ⟨_, rfl⟩
structure SR (m : Nat) (h : H) (S : SD) (b1 b2 b3 b4 b5 : Option Addr) : Prop where
 m1 : RdS m h 8 S.ms.length (cM S) b1
 m2 : RdS m h 1 S.ms.length (cL S) b2
 m3 : RdS m h 1 S.rn.length (cI S.rn) b3
 m4 : RdS m h 1 S.co.length (cI S.co) b4
 m5 : RdS m h 1 S.bk.length (cI S.bk) b5
 s1 : S.ms.length ≤ 100
 s3 : S.rn.length ≤ 100
 s4 : S.co.length ≤ 100
 s5 : S.bk.length ≤ 100
def stC (S : SD) (b1 b2 b3 b4 b5 : Option Addr) : List Value := [.int .i64 S.stock, .int .i64 S.lost, .slice b1 S.ms.length 0, .slice b2 S.ms.length 0, .slice b3 S.rn.length 0, .slice b4 S.co.length 0, .slice b5 S.bk.length 0]
theorem SR.same {m m' : Nat} {h h' : H} {S : SD} {b1 b2 b3 b4 b5 : Option Addr} (k : SR m h S b1 b2 b3 b4 b5) (s : Same m h h') (hm : m ≤ m') : SR m' h' S b1 b2 b3 b4 b5 :=
 ⟨k.m1.same s hm, k.m2.same s hm, k.m3.same s hm, k.m4.same s hm, k.m5.same s hm, k.s1, k.s3, k.s4, k.s5⟩
structure SF (lo hi : Nat) (h : H) (S : SD) (b1 b2 b3 b4 b5 : Option Addr) (a1 r1 a2 r2 a3 r3 a4 r4 a5 r5 : Nat) : Prop where
 g1 : GE a1 r1 h 61 8 S.ms.length (cM S) b1
 g2 : GE a2 r2 h 2 1 S.ms.length (cL S) b2
 g3 : GE a3 r3 h 3 1 S.rn.length (cI S.rn) b3
 g4 : GE a4 r4 h 2 1 S.co.length (cI S.co) b4
 g5 : GE a5 r5 h 3 1 S.bk.length (cI S.bk) b5
 c : lo ≤ a1 ∧ a1 < r1 ∧ r1 < a2 ∧ a2 < r2 ∧ r2 < a3 ∧ a3 < r3 ∧ r3 < a4 ∧ a4 < r4 ∧ r4 < a5 ∧ a5 < r5 ∧ r5 < hi
 s1 : S.ms.length ≤ 100
 s3 : S.rn.length ≤ 100
 s4 : S.co.length ≤ 100
 s5 : S.bk.length ≤ 100
theorem copied_w {h : H} {S : SD} {m : Nat} {b1 b2 b3 b4 b5 : Option Addr} (hm : m ≤ h.next) (k : SR m h S b1 b2 b3 b4 b5) :
 AW Tryz.prog 102 h.next h [.agg ⟨stC S b1 b2 b3 b4 b5⟩] (fun v h' => ∃ c1 c2 c3 c4 c5 a1 r1 a2 r2 a3 r3 a4 r4 a5 r5, v = .agg ⟨stC S c1 c2 c3 c4 c5⟩ ∧ SF h.next h'.next h' S c1 c2 c3 c4 c5 a1 r1 a2 r2 a3 r3 a4 r4 a5 r5) := by
 obtain ⟨k1, k2, k3, k4, k5, s1, s3, s4, s5⟩ := k
 refine fun102.call rfl (Nat.le_refl _) ?_
 unfold a102 stC
 (refine byRun ?_)
 apply q_appNew (r0 := h.next + 5) (n := S.ms.length) (nc := cM S)
 case hsv => exact rfl
 case hg => (exact byGet)
 case C => exact (k1.same (m' := m) bySame (Nat.le_refl _)).cells
 case hlo => omega
 case hnx => (exact byOm)
 case hsm => omega
 rintro c1 h1 g1 q1 n1 -
 have n1' : h.next + 13 ≤ h1.next := by rw [n1]; (exact byOm)
 clear n1
 (refine byRun ?_)
 apply q_appNew (r0 := h1.next) (n := S.ms.length) (nc := cL S)
 case hsv => exact rfl
 case hg => (exact byGet)
 case C => exact (k2.same (m' := m) bySame (Nat.le_refl _)).cells
 case hlo => omega
 case hnx => (exact byOm)
 case hsm => omega
 rintro c2 h2 g2 q2 n2 -
 have n2' : h1.next + 6 ≤ h2.next := by rw [n2]; (exact byOm)
 clear n2
 (refine byRun ?_)
 apply q_appNew (r0 := h2.next) (n := S.rn.length) (nc := cI S.rn)
 case hsv => exact rfl
 case hg => (exact byGet)
 case C => exact (k3.same (m' := m) bySame (Nat.le_refl _)).cells
 case hlo => omega
 case hnx => (exact byOm)
 case hsm => omega
 rintro c3 h3 g3 q3 n3 -
 have n3' : h2.next + 6 ≤ h3.next := by rw [n3]; (exact byOm)
 clear n3
 (refine byRun ?_)
 apply q_appNew (r0 := h3.next) (n := S.co.length) (nc := cI S.co)
 case hsv => exact rfl
 case hg => (exact byGet)
 case C => exact (k4.same (m' := m) bySame (Nat.le_refl _)).cells
 case hlo => omega
 case hnx => (exact byOm)
 case hsm => omega
 rintro c4 h4 g4 q4 n4 -
 have n4' : h3.next + 6 ≤ h4.next := by rw [n4]; (exact byOm)
 clear n4
 (refine byRun ?_)
 apply q_appNew (r0 := h4.next) (n := S.bk.length) (nc := cI S.bk)
 case hsv => exact rfl
 case hg => (exact byGet)
 case C => exact (k5.same (m' := m) bySame (Nat.le_refl _)).cells
 case hlo => omega
 case hnx => (exact byOm)
 case hsm => omega
 rintro c5 h5 g5 q5 n5 -
 have n5' : h4.next + 6 ≤ h5.next := by rw [n5]; (exact byOm)
 clear n5
 (refine byRun ?_)
 (refine byFin ?_)
 refine ⟨c1, c2, c3, c4, c5, h.next + 5, h.next + 9, h1.next, h1.next + 3, h2.next, h2.next + 3, h3.next, h3.next + 3, h4.next, h4.next + 3, rfl, ?_⟩
 refine ⟨g1.frame (fun _ => get_of fun y hy => byGet) (fun _ => get_of fun y hy => byGet), g2.frame (fun _ => get_of fun y hy => byGet) (fun _ => get_of fun y hy => byGet), g3.frame (fun _ => get_of fun y hy => byGet) (fun _ => get_of fun y hy => byGet), g4.frame (fun _ => get_of fun y hy => byGet) (fun _ => get_of fun y hy => byGet), g5.frame (fun _ => get_of fun y hy => byGet) (fun _ => get_of fun y hy => byGet), ⟨by omega, by omega, by omega, by omega, by omega, by omega, by omega, by omega, by omega, by omega, byOm⟩, s1, s3, s4, s5⟩
end AE.Tryz

/- Clerk, walked: the definitions' model. -/
namespace AE.Tryz
open Go AE Go.Proofs AE.Clerk
set_option maxRecDepth 100000
set_option linter.unusedVariables false

theorem cut_cellsOf {α : Type} {g : α → List Value} {w : Nat} (hw : ∀ x, (g x).length = w) : ∀ {l : List α} {j : Nat} {x : α}, l[j]? = some x → cut (cellsOf g l) (j * w) w = some (g x)
 | [], _, _, h => by simp at h
 | y :: l, 0, x, h => by
   simp only [List.getElem?_cons_zero, Option.some.injEq] at h
   subst h
   have : cellsOf g (y :: l) = [] ++ g y ++ cellsOf g l := by simp [cellsOf]
   rw [this]
   exact cut_app (by simp) (hw y)
 | y :: l, j + 1, x, h => by
   have ih := cut_cellsOf hw (l := l) (j := j) (x := x) (by simpa using h)
   have e : cellsOf g (y :: l) = g y ++ cellsOf g l := by simp [cellsOf]
   unfold cut at ih ⊢
   have hy := hw y
   split at ih
   ·rename_i hle
    rw [e, if_pos (by rw [List.length_append, hy, Nat.succ_mul]; omega)]
    rw [← ih, show (j + 1) * w = (g y).length + j * w by rw [hy, Nat.succ_mul]; omega, List.drop_append]
    rw [List.drop_eq_nil_of_le byO, List.nil_append, show (g y).length + j * w - (g y).length = j * w by omega]
   ·exact absurd ih (by simp)
theorem cI_cells (l : List Int) : cI l = cellsOf (fun z : Int => [Value.int .i64 z]) l := by
 unfold cI cellsOf
 rw [List.map_eq_flatMap]
theorem RdS.mdl {m : Nat} {h : H} {S : SD} {b : Option Addr} (k : RdS m h 8 S.ms.length (cM S) b) (h0 : 0 < S.ms.length) : ∃ a, b = some a ∧ a.block < m ∧ ∀ j x, S.ms[j]? = some x → h.loadN (aadd a (j * 8)) 8 = some (mC8 x) := by
 obtain ⟨a, e, hb, -, hc⟩ := k.els h0
 exact ⟨a, e, hb, fun j x hx => hc _ _ _ (cut_cellsOf (g := mC8) (w := 8) (fun _ => rfl) hx)⟩
theorem RdS.ints {m : Nat} {h : H} {l : List Int} {b : Option Addr} (k : RdS m h 1 l.length (cI l) b) (h0 : 0 < l.length) : ∃ a, b = some a ∧ a.block < m ∧ ∀ j x, l[j]? = some x → h.loadN (aadd a (j * 1)) 1 = some [.int .i64 x] := by
 obtain ⟨a, e, hb, -, hc⟩ := k.els h0
 rw [cI_cells] at hc
 exact ⟨a, e, hb, fun j x hx => hc _ _ _ (cut_cellsOf (g := fun z : Int => [Value.int .i64 z]) (w := 1) (fun _ => rfl) hx)⟩
def idxV (o : Option Nat) : Int := match o with | some i => i | none => -1
theorem model_w {h : H} {S : SD} {m : Nat} {b1 b2 b3 b4 b5 : Option Addr} {n : Int} (hm : m ≤ h.next) (k : SR m h S b1 b2 b3 b4 b5) :
 AW Tryz.prog 103 h.next h [.agg ⟨stC S b1 b2 b3 b4 b5⟩, .int .i64 n] (fun v _ => v = .int .i64 (idxV (mdlAt S.ms n))) := by
 have k1 := k.m1
 have s1 := k.s1
 refine fun103.call rfl (Nat.le_refl _) ?_
 unfold a103 stC
 (refine byRun ?_)
 refine wp_loop (fun q : Nat => [(1, .int .i64 n), (2, .pointer (some ⟨h.next, 0, none⟩)), (5, .int .i64 q)]) (fun q h1 => Same h.next h h1 ∧ h1.get h.next = some (.cells [.int .i64 S.stock, .int .i64 S.lost, .slice b1 S.ms.length 0, .slice b2 S.ms.length 0, .slice b3 S.rn.length 0, .slice b4 S.co.length 0, .slice b5 S.bk.length 0] 74) ∧ h.next + 1 ≤ h1.next ∧ q ≤ S.ms.length ∧ ∀ i x, i < q → S.ms[i]? = some x → x.no ≠ n) (fun q => S.ms.length - q) 0 ⟨rfl, rfl, rfl, trivial⟩ ⟨bySame, byGet, byOm, by omega, fun i x hi => absurd hi (Nat.not_lt_zero i)⟩ ?_
 rintro q g' h1 ⟨s1', gb, n1, hq, hno⟩ K hK
 by_cases hlt : q < S.ms.length
 ·obtain ⟨a, rfl, ha, hel⟩ := (k1.same (s1'.mono hm) (Nat.le_refl _)).mdl byO
  obtain ⟨x, hx⟩ : ∃ x, S.ms[q]? = some x := ⟨_, List.getElem?_eq_getElem hlt⟩
  have e8 := hel q x hx
  have e0 : h1.loadN (aadd (aadd a (q * 8)) 0) 1 = some [.int .i64 x.no] := load_part e8 rfl
  by_cases hxn : x.no = n
  ·have hat : mdlAt S.ms n = some q := by
    unfold mdlAt
    rw [List.findIdx?_eq_some_iff_getElem]
    have := (List.getElem?_eq_some_iff.1 hx).2
    refine ⟨hlt, by rw [this]; simpa using hxn, fun j hj => ?_⟩
    have := hno j _ hj (List.getElem?_eq_getElem byO)
    simpa using this
   (refine byRun ?_)
   (refine byFin ?_)
   rw [hat]; rfl
  ·(refine byRun ?_)
   exact hK (q + 1) _ _ ⟨rfl, rfl, int_of rfl byO, trivial⟩ ⟨bySame, byGet, byOm, by omega, fun i y hi hy => by
    by_cases hiq : i = q
    ·subst hiq; rw [hx] at hy; simp only [Option.some.injEq] at hy; subst hy; exact hxn
    ·exact hno i y byO hy⟩ byO
 ·have hat : mdlAt S.ms n = none := by
   unfold mdlAt
   rw [List.findIdx?_eq_none_iff]
   intro x hx
   obtain ⟨i, hi, e⟩ := List.getElem_of_mem hx
   have := hno i x byO (by rw [← e]; exact List.getElem?_eq_getElem hi)
   simpa using this
  clear hK
  (refine byRun ?_)
  (refine byFin ?_)
  rw [hat]; rfl
end AE.Tryz
