/- Walks and plain laws: DragSpec, TDragA. -/
import Derived.Test.YtneenfjffejnoaaGreatAEthree
import Derived.Test.YtneenfjffejnoaaGreatT9Code
set_option linter.unusedVariables false
set_option linter.unusedSimpArgs false
set_option linter.unusedSectionVars false

/- What drag computes, in plain words: friction lines. -/
namespace AE.Drag
open Go AE

structure Line where
 n : Nat
 re : Nat → Int
 m : Nat
 cf : Nat → Int
 b1 : Option Addr
 a1 : Addr
 c1 : Nat
 b2 : Option Addr
 a2 : Addr
 c2 : Nat
def Line.cells (L : Line) : List Value := [.slice L.b1 L.n L.c1, .slice L.b2 L.m L.c2]
structure Line.Ok (L : Line) (m : Nat) (h : H) : Prop where
 e1 : 0 < L.n → L.b1 = some L.a1
 i1 : Ints h L.a1 L.n L.re
 r1 : 0 < L.n → L.a1.block < m
 e2 : 0 < L.m → L.b2 = some L.a2
 i2 : Ints h L.a2 L.m L.cf
 r2 : 0 < L.m → L.a2.block < m
 l1 : L.n ≤ 9223372036854775807
 l2 : L.m ≤ 9223372036854775807
theorem Line.Ok.same {L : Line} {m m' : Nat} {h h' : H} (k : L.Ok m h) (s : Same m h h') (hm : m ≤ m') : L.Ok m' h' :=
 ⟨k.e1, k.i1.same s k.r1, fun h => by have := k.r1 h; omega, k.e2, k.i2.same s k.r2, fun h => by have := k.r2 h; omega, k.l1, k.l2⟩

def pointOk (L : Line) (i : Nat) : Prop := 1 ≤ L.re i ∧ L.re i ≤ 1000000000 ∧ 0 ≤ L.cf i ∧ L.cf i ≤ 100000 ∧ (0 < i → L.re (i - 1) < L.re i ∧ L.cf i ≤ L.cf (i - 1))
open Classical in
noncomputable def lineErr (L : Line) : Int := if L.n < 2 ∨ 12 < L.n then 6 else if L.m ≠ L.n then 15 else if ∀ i, i < L.n → pointOk L i then 0 else 2

structure Valid (L : Line) : Prop where
 lo : 2 ≤ L.n
 hi : L.n ≤ 12
 eq : L.m = L.n
 pt : ∀ i, i < L.n → pointOk L i

theorem lineErr_valid {L : Line} : lineErr L = 0 ↔ Valid L := by
 unfold lineErr
 constructor
 ·intro h
  split at h
  ·omega
  ·split at h
   ·omega
   ·split at h
    ·rename_i h1 h2 h3
     exact ⟨by omega, by omega, by omega, h3⟩
    ·omega
 ·rintro ⟨h1, h2, h3, h4⟩
  rw [if_neg byO, if_neg byO, if_pos h4]

theorem Valid.re_lt {L : Line} (v : Valid L) : ∀ {i j : Nat}, i < j → j < L.n → L.re i < L.re j := by
 intro i j hij hj
 induction j with
 | zero => omega
 | succ j ih =>
   have := ((v.pt (j + 1) hj).2.2.2.2 byO).1
   simp only [Nat.add_sub_cancel] at this
   by_cases h : i = j
   ·subst h; exact this
   ·have := ih byO byO; omega
theorem Valid.cf_le {L : Line} (v : Valid L) : ∀ {i j : Nat}, i ≤ j → j < L.n → L.cf j ≤ L.cf i := by
 intro i j hij hj
 induction j with
 | zero => have : i = 0 := by omega
           subst this; omega
 | succ j ih =>
   by_cases h : i = j + 1
   ·subst h; omega
   ·have := ((v.pt (j + 1) hj).2.2.2.2 byO).2
    simp only [Nat.add_sub_cancel] at this
    have := ih byO byO; omega
theorem Valid.re_bd {L : Line} (v : Valid L) {i : Nat} (hi : i < L.n) : 1 ≤ L.re i ∧ L.re i ≤ 1000000000 := ⟨(v.pt i hi).1, (v.pt i hi).2.1⟩
theorem Valid.cf_bd {L : Line} (v : Valid L) {i : Nat} (hi : i < L.n) : 0 ≤ L.cf i ∧ L.cf i ≤ 100000 := ⟨(v.pt i hi).2.2.1, (v.pt i hi).2.2.2.1⟩

def cnt (re : Nat → Int) (x : Int) : Nat → Nat
 | 0 => 0
 | k + 1 => if re k < x then k + 1 else cnt re x k
theorem cnt_le (re : Nat → Int) (x : Int) : ∀ k, cnt re x k ≤ k
 | 0 => Nat.le_refl _
 | k + 1 => by
   unfold cnt
   split
   ·omega
   ·have := cnt_le re x k; omega
def idx (L : Line) (x : Int) : Nat := cnt L.re x L.n
theorem cnt_spec {re : Nat → Int} {x : Int} : ∀ {k : Nat}, (∀ i j, i < j → j < k → re i < re j) → (∀ i, i < cnt re x k → re i < x) ∧ (∀ i, cnt re x k ≤ i → i < k → x ≤ re i)
 | 0, _ => ⟨fun i h => by simp [cnt] at h, fun i _ h => by omega⟩
 | k + 1, hr => by
   have ih := cnt_spec (re := re) (x := x) (k := k) (fun i j h1 h2 => hr i j h1 byO)
   unfold cnt
   split
   ·rename_i h
    refine ⟨fun i hi => ?_, fun i h1 h2 => by omega⟩
    by_cases e : i = k
    ·subst e; exact h
    ·have := hr i k byO byO; omega
   ·rename_i h
    refine ⟨ih.1, fun i h1 h2 => ?_⟩
    by_cases e : i = k
    ·subst e; omega
    ·exact ih.2 i h1 byO
def fr (L : Line) (x : Int) (i : Nat) : Int := if L.re i = x then L.cf i else L.cf (i - 1) - (L.cf (i - 1) - L.cf i) * (x - L.re (i - 1)) / (L.re i - L.re (i - 1))
def fric (L : Line) (x : Int) : Int := fr L x (idx L x)
def inside (L : Line) (x : Int) : Prop := L.re 0 ≤ x ∧ x ≤ L.re (L.n - 1)
instance (L : Line) (x : Int) : Decidable (inside L x) := by unfold inside; infer_instance


theorem idx_spec {L : Line} (v : Valid L) (x : Int) : (∀ i, i < idx L x → L.re i < x) ∧ (∀ i, idx L x ≤ i → i < L.n → x ≤ L.re i) := cnt_spec (fun _ _ a b => v.re_lt a b)
theorem idx_in {L : Line} (v : Valid L) {x : Int} (h : inside L x) : idx L x < L.n ∧ x ≤ L.re (idx L x) := by
 obtain ⟨s1, s2⟩ := idx_spec v x
 have hl := cnt_le L.re x L.n
 have := v.lo
 have hlt : idx L x < L.n := by
  rcases Nat.lt_or_ge (L.n - 1) (idx L x) with h1 | h1
  ·have := s1 _ h1; have := h.2; omega
  ·unfold idx at *; omega
 exact ⟨hlt, s2 _ (Nat.le_refl _) hlt⟩
structure Mid (L : Line) (x : Int) (k : Nat) : Prop where
 pos : 0 < k
 lo : L.re (k - 1) < x
 hi : x < L.re k
 c0 : 0 ≤ L.cf k
 c1 : L.cf k ≤ L.cf (k - 1)
 c2 : L.cf (k - 1) ≤ 100000
 r0 : 1 ≤ L.re (k - 1)
 r1 : L.re k ≤ 1000000000
 p0 : 0 ≤ (L.cf (k - 1) - L.cf k) * (x - L.re (k - 1))
 p1 : (L.cf (k - 1) - L.cf k) * (x - L.re (k - 1)) ≤ 100000000000000
 q0 : 0 ≤ (L.cf (k - 1) - L.cf k) * (x - L.re (k - 1)) / (L.re k - L.re (k - 1))
 q1 : (L.cf (k - 1) - L.cf k) * (x - L.re (k - 1)) / (L.re k - L.re (k - 1)) ≤ L.cf (k - 1) - L.cf k
theorem mid_of {L : Line} (v : Valid L) {x : Int} {k : Nat} (hk : 0 < k) (hkn : k < L.n) (h1 : L.re (k - 1) < x) (h2 : x < L.re k) : Mid L x k := by
 have a := v.cf_bd hkn
 have b := v.cf_bd (i := k - 1) byO
 have c := v.cf_le (i := k - 1) (j := k) byO hkn
 have d := v.re_bd hkn
 have e := v.re_bd (i := k - 1) byO
 have p0 : 0 ≤ (L.cf (k - 1) - L.cf k) * (x - L.re (k - 1)) := Int.mul_nonneg byO byO
 have p1 : (L.cf (k - 1) - L.cf k) * (x - L.re (k - 1)) ≤ 100000 * 1000000000 := Int.mul_le_mul byO byO byO byO
 refine ⟨hk, h1, h2, a.1, c, b.2, e.1, d.2, p0, by omega, Int.ediv_nonneg p0 byO, Int.ediv_le_of_le_mul byO ?_⟩
 exact Int.mul_le_mul_of_nonneg_left byO byO
theorem idx_mid {L : Line} (v : Valid L) {x : Int} (h : inside L x) (hne : L.re (idx L x) ≠ x) : Mid L x (idx L x) := by
 obtain ⟨h1, h2⟩ := idx_in v h
 obtain ⟨s1, s2⟩ := idx_spec v x
 have hk : 0 < idx L x := by
  rcases Nat.eq_zero_or_pos (idx L x) with h0 | h0
  ·rw [h0] at h2 hne; have := h.1; omega
  ·exact h0
 exact mid_of v hk h1 (s1 _ byO) byO
theorem fric_bd {L : Line} (v : Valid L) {x : Int} (h : inside L x) : 0 ≤ fric L x ∧ fric L x ≤ 100000 := by
 unfold fric fr
 obtain ⟨h1, h2⟩ := idx_in v h
 have := v.cf_bd h1
 split
 ·omega
 ·rename_i hne
  have m := idx_mid v h hne
  have := m.q0; have := m.q1; have := m.c2; have := m.c0; have := m.c1
  omega

end AE.Drag

/- Walks of drag and its reference: bounds, lines. -/
namespace AE.Tryz
open Go AE AE.Drag Go.Proofs
set_option maxRecDepth 100000

theorem between_w {h : H} {n lo hi : Int} : AW Tryz.prog 59 h.next h [.int .i64 n, .int .i64 lo, .int .i64 hi] (fun v _ => v = .bool (decide (lo ≤ n ∧ n ≤ hi))) := by
 refine fun59.call rfl (Nat.le_refl _) ?_
 unfold a59
 (focus ((try with_reducible apply wpC.to); (repeat' ((conv => whnf); first | refine byEv ?_ | (apply Fork.mk <;> (intro _; try (exfalso; omega))) | fail)); all_goals ((conv => whnf); try with_reducible apply At.mk)))
 all_goals ((refine byFin ?_); first | exact bool_t rfl byO | exact bool_f rfl byO)
theorem within_w {h : H} {a b lo hi : Int} : AW Tryz.prog 60 h.next h [.agg ⟨[.int .i64 a, .int .i64 b]⟩, .int .i64 lo, .int .i64 hi] (fun v _ => v = .bool (decide (lo ≤ a ∧ a ≤ b ∧ b ≤ hi))) := by
 refine fun60.call rfl (Nat.le_refl _) ?_
 unfold a60
 (focus ((try with_reducible apply wpC.to); (repeat' ((conv => whnf); first | refine byEv ?_ | (apply Fork.mk <;> (intro _; try (exfalso; omega))) | fail)); all_goals ((conv => whnf); try with_reducible apply At.mk)))
 all_goals ((refine byFin ?_); first | exact bool_t rfl byO | exact bool_f rfl byO)
theorem kTDragA0 {G : Prop} (g : G := by (exact between_w)) : G := g
theorem kTDragA1 {G : Prop} (g : G := by (exact within_w)) : G := g
theorem exactly_w {h : H} {n lo hi : Int} : AW Tryz.prog 211 h.next h [.int .i64 n, .int .i64 lo, .int .i64 hi] (fun v _ => v = .agg ⟨[.int .i64 n, .int .i64 n, .int .i64 lo, .int .i64 hi]⟩) := by
 refine fun211.call rfl (Nat.le_refl _) ?_
 unfold a211
 (focus ((try with_reducible apply wpC.to); (repeat' ((conv => whnf); first | refine byEv ?_ | fail)); all_goals ((conv => whnf); try with_reducible apply At.mk)))
 all_goals ((refine byFin ?_); rfl)
theorem kTDragA2 {G : Prop} (g : G := by (exact exactly_w)) : G := g
theorem values0_w {h : H} {b : Option Addr} {n c : Nat} : AW Tryz.prog 294 h.next h [.slice b n c] (fun v h' => ∃ r, v = .func (.func 361) ⟨[]⟩ ⟨[.pointer (some ⟨r, 0, none⟩)]⟩ ∧ h.next ≤ r ∧ r < h'.next ∧ h'.get r = some (.cells [.slice b n c] 423)) := by
 refine fun294.call rfl (Nat.le_refl _) ?_
 unfold a294
 (focus ((try with_reducible apply wpC.to); (repeat' ((conv => whnf); first | refine byEv ?_ | fail)); all_goals ((conv => whnf); try with_reducible apply At.mk)))
 all_goals (refine byFin ?_)
 refine ⟨_, rfl, ?_, ?_, ?_⟩
 ·(exact byOm)
 ·(exact byOm)
 ·(exact byGet)
theorem bounds_w {h : H} {b : Option Addr} {n c : Nat} : AW Tryz.prog 210 h.next h [.slice b n c] (fun v h' => ∃ r, v = .func (.func 361) ⟨[]⟩ ⟨[.pointer (some ⟨r, 0, none⟩)]⟩ ∧ h.next ≤ r ∧ r < h'.next ∧ h'.get r = some (.cells [.slice b n c] 423)) := by
 refine fun210.call rfl (Nat.le_refl _) ?_
 unfold a210
 (focus ((try with_reducible apply wpC.to); (repeat' ((conv => whnf); first | refine byEv ?_ | fail)); all_goals ((conv => whnf); try with_reducible apply At.mk)))
 apply q_call
 focus (exact byNext)
 focus omega
 focus exact values0_w
 rintro _ h1 ⟨r, rfl, hr1, hr2, hg⟩ q hn
 (focus ((try with_reducible apply wpC.to); (repeat' ((conv => whnf); first | refine byEv ?_ | fail)); all_goals ((conv => whnf); try with_reducible apply At.mk)))
 all_goals (refine byFin ?_)
 refine ⟨_, rfl, ?_, ?_, ?_⟩
 ·(exact byOm)
 ·(exact byOm)
 ·(exact byGet)

structure Bd where
 a : Int
 b : Int
 lo : Int
 hi : Int
def Bd.cells (x : Bd) : List Value := [.int .i64 x.a, .int .i64 x.b, .int .i64 x.lo, .int .i64 x.hi]
def Bd.ok (x : Bd) : Prop := x.lo ≤ x.a ∧ x.a ≤ x.b ∧ x.b ≤ x.hi

theorem iter_w {h : H} {lo : Nat} {yv : Value} {r n c : Nat} {a : Addr} {f : Nat → Bd} (hlo : lo ≤ h.next) (hr : r < lo) (hg : h.get r = some (.cells [.slice (some a) n c] 423)) (ha : a.block < lo) (hn : n < 1000000000000000)
 (he : Els h a n 4 (fun i => (f i).cells)) (Inv : Nat → H → Prop) (Done : H → Prop) (hst : ∀ i h1 h2, Inv i h1 → Quiet h1.next h1 h2 → Inv i h2)
 (hy : ∀ i h1, i < n → Inv i h1 → lo ≤ h1.next → ∃ v h2, (∃ b, v = .bool b ∧ (b = true → Inv (i + 1) h2) ∧ (b = false → Done h2)) ∧ ACall Tryz.prog yv lo h1 [.agg ⟨(f i).cells⟩] v h2) (h0 : Inv 0 h) :
 AW Tryz.prog 361 lo h [yv, .pointer (some ⟨r, 0, none⟩)] (fun _ h' => Inv n h' ∨ Done h') := by
 refine fun361.call rfl hlo ?_
 unfold a361
 (focus ((try with_reducible apply wpC.to); (repeat' ((conv => whnf); first | refine byEv ?_ | (apply Fork.mk <;> (intro _; try (exfalso; omega))) | fail)); all_goals ((conv => whnf); try with_reducible apply At.mk)))
 refine wp_loop (fun s : Nat => [(0, yv), (5, .slice (some a) n c), (6, .int .i64 n), (7, .int .i64 s)]) (fun s h1 => Inv s h1 ∧ Quiet lo h h1 ∧ s ≤ n) (fun s => n - s) 0 ⟨rfl, rfl, rfl, rfl, trivial⟩ ⟨?_, ?_, by omega⟩ ?_
 ·exact hst _ h _ h0 ⟨by simp [bump_next], fun _ _ => rfl, fun hc r hr => hc r (by simp [bump_next] at hr; omega)⟩
 ·(exact byQuiet)
 rintro s g h1 ⟨hi, q, hs⟩ K hK
 have hnx := q.next
 (focus ((try with_reducible apply wpC.to); (repeat' ((conv => whnf); first | refine byEv ?_ | (apply Fork.mk <;> (intro _; try (exfalso; omega))) | fail)); all_goals ((conv => whnf); try with_reducible apply At.mk)))
 ·apply q_calla
  focus exact hy s _ byO (hst s h1 _ hi byQuiet) byOm
  rintro _ h2 ⟨b, rfl, hb1, hb2⟩ q2
  have hnx2 := q2.next
  cases b with
  | true =>
    (focus ((try with_reducible apply wpC.to); (repeat' ((conv => whnf); first | refine byEv ?_ | (apply Fork.mk <;> (intro _; try (exfalso; omega))) | fail)); all_goals ((conv => whnf); try with_reducible apply At.mk)))
    refine hK (s + 1) _ _ ⟨rfl, rfl, rfl, int_of rfl byO, trivial⟩ ⟨hst _ _ _ (hb1 rfl) byQuiet, byQuiet, by omega⟩ byO
  | false =>
    (focus ((try with_reducible apply wpC.to); (repeat' ((conv => whnf); first | refine byEv ?_ | (apply Fork.mk <;> (intro _; try (exfalso; omega))) | fail)); all_goals ((conv => whnf); try with_reducible apply At.mk)))
    (refine byFin ?_)
    exact .inr (hb2 rfl)
 ·(refine byFin ?_)
  have : s = n := by omega
  subst this
  exact .inl (hst _ _ _ hi byQuiet)

instance (x : Bd) : Decidable x.ok := by unfold Bd.ok; infer_instance

theorem good_w {h : H} {r n c : Nat} {a : Addr} {f : Nat → Bd} (hr : r < h.next) (hg : h.get r = some (.cells [.slice (some a) n c] 423)) (ha : a.block < h.next) (hn : n < 1000000000000000) (he : Els h a n 4 (fun i => (f i).cells)) :
 AW Tryz.prog 209 h.next h [.func (.func 361) ⟨[]⟩ ⟨[.pointer (some ⟨r, 0, none⟩)]⟩] (fun v _ => v = .bool (decide (∀ i, i < n → (f i).ok))) := by
 refine fun209.call rfl (Nat.le_refl _) ?_
 unfold a209
 (focus ((try with_reducible apply wpC.to); (repeat' ((conv => whnf); first | refine byEv ?_ | (apply Fork.mk <;> (intro _; try (exfalso; omega))) | fail)); all_goals ((conv => whnf); try with_reducible apply At.mk)))
 refine wp_forget (l := [(0, _), (2, _), (4, _)]) ⟨rfl, rfl, rfl, trivial⟩ fun g => ?_
 apply wp_range
 focus exact rfl
 focus (exact byNext)
 focus (exact byList)
 intro L0 hL0
 refine ⟨_, iter_w (f := f) (a := a) (r := r) (n := n) (c := c) byOm hr byGet ha hn (he.same (m := h.next) bySame (fun _ => ha))
  (fun i h2 => h2.get (h.next + 2) = some (.loop L0) ∧ h2.get (h.next + 0) = some (.cells [.bool false] 4) ∧ h.next + 2 < h2.next ∧ ∀ j, j < i → (f j).ok)
  (fun h2 => h2.get (h.next + 2) = some (.loop (ended L0 .ret)) ∧ h2.get (h.next + 0) = some (.cells [.bool false] 4) ∧ h.next + 2 < h2.next ∧ ¬ ∀ j, j < n → (f j).ok) ?_ ?_ ?_, ?_⟩
 ·rintro i h1 h2 ⟨g1, g2, g3, g4⟩ q
  have := q.next
  exact ⟨byGet, byGet, by omega, g4⟩
 ·rintro i h1 hi ⟨g1, g2, g3, g4⟩ hle
  refine YA.call fun209.mixed (A := a209A0) (B := a209B0) (L := L0) (by rw [hL0]; exact c209A0) (by rw [hL0]; exact c209B0) g1 byO byO (by rw [hL0]; exact rfl) (by rw [hL0]; exact rfl) ?_
  unfold YA a209A0
  refine wp_forget (l := [(2, _), (5, _)]) ⟨by rw [hL0]; exact rfl, by rw [hL0]; exact rfl, trivial⟩ fun g => ?_
  (focus ((try with_reducible apply wpC.to); (repeat' ((conv => whnf); first | refine byEv ?_ | (apply Fork.mk <;> (intro _; try (exfalso; omega))) | fail)); all_goals ((conv => whnf); try with_reducible apply At.mk)))
  refine ⟨rfl, L0, byGet, by rw [hL0]; exact rfl, ?_⟩
  unfold a209B0
  have hL1 : ended (busy L0) .none = L0 := by rw [hL0]; exact rfl
  (focus ((try with_reducible apply wpC.to); (repeat' ((conv => whnf); first | refine byEv ?_ | (apply Fork.mk <;> (intro _; try (exfalso; omega))) | fail)); all_goals ((conv => whnf); try with_reducible apply At.mk)))
  all_goals first
   | (refine ⟨.ret, _, rfl, byGet, false, rfl, by simp, fun _ => ⟨byGet, byGet, byOm, fun hall => ?_⟩⟩
      have := hall i hi
      unfold Bd.ok at this
      omega)
   | (refine ⟨.none, _, rfl, byGet, true, rfl, fun _ => ⟨by rw [hL1]; (exact byGet), byGet, byOm, fun j hj => ?_⟩, by simp⟩
      by_cases e : j = i
      ·subst e; unfold Bd.ok; omega
      ·exact g4 j byO)
 ·exact ⟨byGet, byGet, byOm, fun j hj => by omega⟩
 ·rintro v h2 hd q
  have hnx := q.next
  rcases hd with ⟨g1, g2, g3, g4⟩ | ⟨g1, g2, g3, g4⟩
  ·refine ⟨_, g1, by rw [hL0]; simp [loop0], ?_⟩
   rw [hL0]
   simp only [loop0, pendE]
   (focus ((try with_reducible apply wpC.to); (repeat' ((conv => whnf); first | refine byEv ?_ | (apply Fork.mk <;> (intro _; try (exfalso; omega))) | fail)); all_goals ((conv => whnf); try with_reducible apply At.mk)))
   (refine byFin ?_)
   exact bool_t rfl g4
  ·refine ⟨_, g1, by simp [ended, pendS], ?_⟩
   simp only [ended, pendE]
   (focus ((try with_reducible apply wpC.to); (repeat' ((conv => whnf); first | refine byEv ?_ | (apply Fork.mk <;> (intro _; try (exfalso; omega))) | fail)); all_goals ((conv => whnf); try with_reducible apply At.mk)))
   (refine byFin ?_)
   exact bool_f rfl g4
end AE.Tryz
