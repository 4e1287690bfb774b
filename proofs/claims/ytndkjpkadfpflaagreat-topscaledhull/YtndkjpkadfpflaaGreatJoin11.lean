/- Walks and plain laws: TopH6, TDragA. -/
import Derived.Test.YtndkjpkadfpflaaGreatTopH5
import Derived.Test.YtndkjpkadfpflaaGreatTopCode
import Derived.Test.YtndkjpkadfpflaaGreatAEthree
import Derived.Test.YtndkjpkadfpflaaGreatJoin14
set_option linter.unusedVariables false
set_option linter.unusedSimpArgs false
set_option linter.unusedSectionVars false

/- A hull so many times as long, wide and high, in plain words. -/
namespace AE.Tryz
open Go AE Go.Proofs AE.Box AE.Fair
set_option linter.unusedVariables false

theorem sumP_mul (a : Int) (F : Nat → Nat → Int) (w p : Nat) : sumP (fun i k => a * F i k) w p = a * sumP F w p := sumF_mul a _ p
/-- The hull X is s times T. -/
structure Scaled (s : Int) (T X : Hull) : Prop where
  s1 : 1 ≤ s
  sp : X.sp = T.sp * s
  st : X.st = T.st * s
  n : X.n = T.n
  w : X.w 0 = T.w 0
  lo : ∀ i k, i < T.n → k < T.w 0 → (X.f i k).lo = (T.f i k).lo * s
  hi : ∀ i k, i < T.n → k < T.w 0 → (X.f i k).hi = (T.f i k).hi * s
def times (s : Int) (y : Nat → Nat → Int) : Nat → Nat → Int := fun i k => y i k * s
theorem Scaled.vol {s : Int} {T X : Hull} (S : Scaled s T X) (y : Nat → Nat → Int) : X.hul.vol (times s y) = s * T.hul.vol y := by
  have e1 : X.hul.n = T.hul.n := S.n
  have e2 : X.hul.w = T.hul.w := S.w
  unfold Hul.vol
  rw [e1, e2, ← sumP_mul]
  refine sumP_congr (n := T.n) (fun i k hi hk => ?_) (Nat.le_refl _)
  unfold Geo.wy times
  rw [e1, e2]
  ac_rfl
def pw (s : Int) (q : Nat) : Int := if q = 0 ∨ q = 1 then s else s * s
theorem Scaled.num {s : Int} {T X : Hull} (S : Scaled s T X) (q : Nat) (y : Nat → Nat → Int) : X.hul.num q (times s y) = pw s q * s * T.hul.num q y := by
  have e1 : X.hul.n = T.hul.n := S.n
  have e2 : X.hul.w = T.hul.w := S.w
  have e3 : X.hul.sp = T.hul.sp * s := S.sp
  have e4 : X.hul.st = T.hul.st * s := S.st
  unfold Hul.num
  rw [e1, e2, ← sumP_mul]
  refine sumP_congr (n := T.n) (fun i k hi hk => ?_) (Nat.le_refl _)
  unfold Geo.a Geo.wy times pw
  rw [e1, e2, e3, e4]
  by_cases h0 : q = 0
  · rw [if_pos h0, if_pos (Or.inl h0), if_pos h0]
    ac_rfl
  by_cases h1 : q = 1
  · rw [if_neg h0, if_pos h1, if_pos (Or.inr h1), if_neg h0, if_pos h1]
    ac_rfl
  rw [if_neg h0, if_neg h1, if_neg (show ¬ (q = 0 ∨ q = 1) by omega), if_neg h0, if_neg h1]
  split
  · rw [Int.mul_add]
    congr 1
    · ac_rfl
    · ac_rfl
  · ac_rfl
theorem Scaled.den {s : Int} {T X : Hull} (S : Scaled s T X) (q : Nat) (y : Nat → Nat → Int) : X.hul.den q (times s y) = pw s q * T.hul.den q y := by
  have e1 : X.hul.n = T.hul.n := S.n
  have e2 : X.hul.w = T.hul.w := S.w
  have e4 : X.hul.st = T.hul.st * s := S.st
  unfold Hul.den
  rw [e1, e2, ← sumP_mul]
  refine sumP_congr (n := T.n) (fun i k hi hk => ?_) (Nat.le_refl _)
  unfold Geo.b Geo.wy times pw
  rw [e1, e2, e4]
  by_cases h0 : q = 0 ∨ q = 1
  · rw [if_pos h0, if_pos h0, if_pos h0]
    ac_rfl
  · rw [if_neg h0, if_neg h0, if_neg h0]
    ac_rfl
theorem pw_pos {s : Int} (h : 1 ≤ s) (q : Nat) : 0 < pw s q := by
  unfold pw
  split
  · omega
  · exact Int.mul_pos (by omega) (by omega)
theorem Scaled.in {s : Int} {T X : Hull} (S : Scaled s T X) {y : Nat → Nat → Int} (h : T.hul.In y) : X.hul.In (times s y) := fun i k hi hk => by
  have hi : i < T.n := by rw [← S.n]; exact hi
  have hk : k < T.w 0 := by rw [← S.w]; exact hk
  have := h i k hi hk
  have e1 : X.hul.lo i k = (T.f i k).lo * s := S.lo i k hi hk
  have e2 : X.hul.hi i k = (T.f i k).hi * s := S.hi i k hi hk
  have s1 := S.s1
  rw [e1, e2]
  exact ⟨Int.mul_le_mul_of_nonneg_right this.1 (by omega), Int.mul_le_mul_of_nonneg_right this.2 (by omega)⟩
theorem Scaled.val {s : Int} {T X : Hull} (S : Scaled s T X) (V : T.Valid) (q : Nat) {y : Nat → Nat → Int} (h : T.hul.In y) : X.hul.val q (times s y) = fr ((T.hul.val q y).n * s) (T.hul.val q y).d := by
  have hd := V.hul.den_pos q h
  have k : FrOf (T.hul.val q y) (T.hul.num q y) (T.hul.den q y) := fr_of hd
  have hp := pw_pos S.s1 q
  show fr (X.hul.num q (times s y)) (X.hul.den q (times s y)) = _
  rw [S.num, S.den]
  refine fr_eq (Int.mul_pos hp hd) k.d0 ?_
  have c := k.cross
  have e1 : pw s q * s * T.hul.num q y * (T.hul.val q y).d = pw s q * s * (T.hul.num q y * (T.hul.val q y).d) := by ac_rfl
  have e2 : (T.hul.val q y).n * s * (pw s q * T.hul.den q y) = pw s q * s * ((T.hul.val q y).n * T.hul.den q y) := by ac_rfl
  rw [e1, e2, c]
theorem Scaled.volume {s : Int} {T X : Hull} (S : Scaled s T X) (V : T.Valid) {y : Nat → Nat → Int} (h : T.hul.In y) : fr (X.sp * X.st * X.hul.vol (times s y)) 2 = fr ((fr (T.sp * T.st * T.hul.vol y) 2).n * (s * s * s)) (fr (T.sp * T.st * T.hul.vol y) 2).d := by
  have k := (volume_q V h).2
  rw [S.vol, S.sp, S.st]
  refine fr_eq (by omega) k.d0 ?_
  have c := k.cross
  generalize (fr (T.sp * T.st * T.hul.vol y) 2).n = a at c ⊢
  generalize (fr (T.sp * T.st * T.hul.vol y) 2).d = b at c ⊢
  have e1 : T.sp * s * (T.st * s) * (s * T.hul.vol y) * b = s * s * s * (T.sp * T.st * T.hul.vol y * b) := by ac_rfl
  have e2 : a * (s * s * s) * 2 = s * s * s * (a * 2) := by ac_rfl
  rw [e1, e2, c]
/-- Two ends of one side have the same number. -/
theorem IsEnd.same {T : Hull} {q : Nat} {s : Int} (V : T.Valid) (hs : s = 1 ∨ s = -1) {Z Z' : Nat → Nat → Int} (E : IsEnd T q s Z) (E' : IsEnd T q s Z') : T.hul.val q Z = T.hul.val q Z' := by
  have k : FrOf (T.hul.val q Z) (T.hul.num q Z) (T.hul.den q Z) := fr_of (V.hul.den_pos q E.inn)
  have k' : FrOf (T.hul.val q Z') (T.hul.num q Z') (T.hul.den q Z') := fr_of (V.hul.den_pos q E'.inn)
  have q1 := V.hul.val_q q E.inn
  have q2 := V.hul.val_q q E'.inn
  have a : ¬ lt4 (T.hul.val q Z).n (T.hul.val q Z).d (T.hul.val q Z').n (T.hul.val q Z').d ∧ ¬ lt4 (T.hul.val q Z').n (T.hul.val q Z').d (T.hul.val q Z).n (T.hul.val q Z).d := by
    have o1 := E.none _ (E'.inn.valid q)
    have o2 := E'.none _ (E.inn.valid q)
    rcases hs with rfl | rfl
    · rw [Int.one_mul] at o1 o2
      exact ⟨over_le V E'.inn q1 o1, over_le V E.inn q2 o2⟩
    · exact ⟨over_ge V E.inn q2 o2, over_ge V E'.inn q1 o1⟩
  unfold lt4 at a
  have e : (T.hul.val q Z).n * (T.hul.val q Z').d = (T.hul.val q Z').n * (T.hul.val q Z).d := by omega
  have f1 : fr (T.hul.val q Z).n (T.hul.val q Z).d = T.hul.val q Z := fr_fr (V.hul.den_pos q E.inn)
  have f2 : fr (T.hul.val q Z').n (T.hul.val q Z').d = T.hul.val q Z' := fr_fr (V.hul.den_pos q E'.inn)
  rw [← f1, ← f2]
  exact fr_eq k.d0 k'.d0 e
end AE.Tryz

/- Walks of drag and its reference: bounds, lines. -/
namespace AE.Tryz
open Go AE AE.Drag Go.Proofs
set_option maxRecDepth 100000

theorem between_w {h : H} {n lo hi : Int} : AW Tryz.prog 55 h.next h [.int .i64 n, .int .i64 lo, .int .i64 hi] (fun v _ => v = .bool (decide (lo ≤ n ∧ n ≤ hi))) := by
  refine fun55.call rfl (Nat.le_refl _) ?_
  unfold a55
  (focus ((try with_reducible apply wpC.to); (repeat' ((conv => whnf); first | refine byEv ?_ | (apply Fork.mk <;> (intro _; try (exfalso; omega))) | fail)); all_goals ((conv => whnf); try with_reducible apply At.mk)))
  all_goals ((refine byFin ?_); first | exact bool_t rfl (by omega) | exact bool_f rfl (by omega))
theorem within_w {h : H} {a b lo hi : Int} : AW Tryz.prog 62 h.next h [.agg ⟨[.int .i64 a, .int .i64 b]⟩, .int .i64 lo, .int .i64 hi] (fun v _ => v = .bool (decide (lo ≤ a ∧ a ≤ b ∧ b ≤ hi))) := by
  refine fun62.call rfl (Nat.le_refl _) ?_
  unfold a62
  (focus ((try with_reducible apply wpC.to); (repeat' ((conv => whnf); first | refine byEv ?_ | (apply Fork.mk <;> (intro _; try (exfalso; omega))) | fail)); all_goals ((conv => whnf); try with_reducible apply At.mk)))
  all_goals ((refine byFin ?_); first | exact bool_t rfl (by omega) | exact bool_f rfl (by omega))
theorem kTDragA0 {G : Prop} (g : G := by (exact between_w)) : G := g
theorem kTDragA1 {G : Prop} (g : G := by (exact within_w)) : G := g
theorem exactly_w {h : H} {n lo hi : Int} : AW Tryz.prog 70 h.next h [.int .i64 n, .int .i64 lo, .int .i64 hi] (fun v _ => v = .agg ⟨[.int .i64 n, .int .i64 n, .int .i64 lo, .int .i64 hi]⟩) := by
  refine fun70.call rfl (Nat.le_refl _) ?_
  unfold a70
  (focus ((try with_reducible apply wpC.to); (repeat' ((conv => whnf); first | refine byEv ?_ | fail)); all_goals ((conv => whnf); try with_reducible apply At.mk)))
  all_goals ((refine byFin ?_); rfl)
theorem kTDragA2 {G : Prop} (g : G := by (exact exactly_w)) : G := g
theorem values0_w {h : H} {b : Option Addr} {n c : Nat} : AW Tryz.prog 130 h.next h [.slice b n c] (fun v h' => ∃ r, v = .func (.func 167) ⟨[]⟩ ⟨[.pointer (some ⟨r, 0, none⟩)]⟩ ∧ h.next ≤ r ∧ r < h'.next ∧ h'.get r = some (.cells [.slice b n c] 199)) := by
  refine fun130.call rfl (Nat.le_refl _) ?_
  unfold a130
  (focus ((try with_reducible apply wpC.to); (repeat' ((conv => whnf); first | refine byEv ?_ | fail)); all_goals ((conv => whnf); try with_reducible apply At.mk)))
  all_goals (refine byFin ?_)
  refine ⟨_, rfl, ?_, ?_, ?_⟩
  · (exact byOm)
  · (exact byOm)
  · (exact byGet)
theorem bounds_w {h : H} {b : Option Addr} {n c : Nat} : AW Tryz.prog 69 h.next h [.slice b n c] (fun v h' => ∃ r, v = .func (.func 167) ⟨[]⟩ ⟨[.pointer (some ⟨r, 0, none⟩)]⟩ ∧ h.next ≤ r ∧ r < h'.next ∧ h'.get r = some (.cells [.slice b n c] 199)) := by
  refine fun69.call rfl (Nat.le_refl _) ?_
  unfold a69
  (focus ((try with_reducible apply wpC.to); (repeat' ((conv => whnf); first | refine byEv ?_ | fail)); all_goals ((conv => whnf); try with_reducible apply At.mk)))
  apply q_call
  focus (exact byNext)
  focus omega
  focus exact values0_w
  rintro _ h1 ⟨r, rfl, hr1, hr2, hg⟩ q hn
  (focus ((try with_reducible apply wpC.to); (repeat' ((conv => whnf); first | refine byEv ?_ | fail)); all_goals ((conv => whnf); try with_reducible apply At.mk)))
  all_goals (refine byFin ?_)
  refine ⟨_, rfl, ?_, ?_, ?_⟩
  · (exact byOm)
  · (exact byOm)
  · (exact byGet)

/-- A bound: the ends of a range, and between what they have to be. -/
structure Bd where
  a : Int
  b : Int
  lo : Int
  hi : Int
def Bd.cells (x : Bd) : List Value := [.int .i64 x.a, .int .i64 x.b, .int .i64 x.lo, .int .i64 x.hi]
def Bd.ok (x : Bd) : Prop := x.lo ≤ x.a ∧ x.a ≤ x.b ∧ x.b ≤ x.hi

theorem iter_w {h : H} {lo : Nat} {yv : Value} {r n c : Nat} {a : Addr} {f : Nat → Bd} (hlo : lo ≤ h.next) (hr : r < lo) (hg : h.get r = some (.cells [.slice (some a) n c] 199)) (ha : a.block < lo) (hn : n < 1000000000000000)
    (he : Els h a n 4 (fun i => (f i).cells)) (Inv : Nat → H → Prop) (Done : H → Prop) (hst : ∀ i h1 h2, Inv i h1 → Quiet h1.next h1 h2 → Inv i h2)
    (hy : ∀ i h1, i < n → Inv i h1 → lo ≤ h1.next → ∃ v h2, (∃ b, v = .bool b ∧ (b = true → Inv (i + 1) h2) ∧ (b = false → Done h2)) ∧ ACall Tryz.prog yv lo h1 [.agg ⟨(f i).cells⟩] v h2) (h0 : Inv 0 h) :
    AW Tryz.prog 167 lo h [yv, .pointer (some ⟨r, 0, none⟩)] (fun _ h' => Inv n h' ∨ Done h') := by
  refine fun167.call rfl hlo ?_
  unfold a167
  (focus ((try with_reducible apply wpC.to); (repeat' ((conv => whnf); first | refine byEv ?_ | (apply Fork.mk <;> (intro _; try (exfalso; omega))) | fail)); all_goals ((conv => whnf); try with_reducible apply At.mk)))
  refine wp_loop (fun s : Nat => [(0, yv), (5, .slice (some a) n c), (6, .int .i64 n), (7, .int .i64 s)]) (fun s h1 => Inv s h1 ∧ Quiet lo h h1 ∧ s ≤ n) (fun s => n - s) 0 ⟨rfl, rfl, rfl, rfl, trivial⟩ ⟨?_, ?_, by omega⟩ ?_
  · exact hst _ h _ h0 ⟨by simp [bump_next], fun _ _ => rfl, fun hc r hr => hc r (by simp [bump_next] at hr; omega)⟩
  · (exact byQuiet)
  rintro s g h1 ⟨hi, q, hs⟩ K hK
  have hnx := q.next
  (focus ((try with_reducible apply wpC.to); (repeat' ((conv => whnf); first | refine byEv ?_ | (apply Fork.mk <;> (intro _; try (exfalso; omega))) | fail)); all_goals ((conv => whnf); try with_reducible apply At.mk)))
  · apply q_calla
    focus exact hy s _ (by omega) (hst s h1 _ hi byQuiet) byOm
    rintro _ h2 ⟨b, rfl, hb1, hb2⟩ q2
    have hnx2 := q2.next
    cases b with
    | true =>
      (focus ((try with_reducible apply wpC.to); (repeat' ((conv => whnf); first | refine byEv ?_ | (apply Fork.mk <;> (intro _; try (exfalso; omega))) | fail)); all_goals ((conv => whnf); try with_reducible apply At.mk)))
      refine hK (s + 1) _ _ ⟨rfl, rfl, rfl, int_of rfl (by omega), trivial⟩ ⟨hst _ _ _ (hb1 rfl) byQuiet, byQuiet, by omega⟩ (by omega)
    | false =>
      (focus ((try with_reducible apply wpC.to); (repeat' ((conv => whnf); first | refine byEv ?_ | (apply Fork.mk <;> (intro _; try (exfalso; omega))) | fail)); all_goals ((conv => whnf); try with_reducible apply At.mk)))
      (refine byFin ?_)
      exact .inr (hb2 rfl)
  · (refine byFin ?_)
    have : s = n := by omega
    subst this
    exact .inl (hst _ _ _ hi byQuiet)

instance (x : Bd) : Decidable x.ok := by unfold Bd.ok; infer_instance

theorem good_w {h : H} {r n c : Nat} {a : Addr} {f : Nat → Bd} (hr : r < h.next) (hg : h.get r = some (.cells [.slice (some a) n c] 199)) (ha : a.block < h.next) (hn : n < 1000000000000000) (he : Els h a n 4 (fun i => (f i).cells)) :
    AW Tryz.prog 68 h.next h [.func (.func 167) ⟨[]⟩ ⟨[.pointer (some ⟨r, 0, none⟩)]⟩] (fun v _ => v = .bool (decide (∀ i, i < n → (f i).ok))) := by
  refine fun68.call rfl (Nat.le_refl _) ?_
  unfold a68
  (focus ((try with_reducible apply wpC.to); (repeat' ((conv => whnf); first | refine byEv ?_ | (apply Fork.mk <;> (intro _; try (exfalso; omega))) | fail)); all_goals ((conv => whnf); try with_reducible apply At.mk)))
  refine wp_forget (l := [(0, _), (2, _), (4, _)]) ⟨rfl, rfl, rfl, trivial⟩ fun g => ?_
  apply wp_range
  focus exact rfl
  focus (exact byNext)
  focus (exact byList)
  intro L0 hL0
  refine ⟨_, iter_w (f := f) (a := a) (r := r) (n := n) (c := c) byOm hr byGet ha hn (he.same (m := h.next) bySame (fun _ => ha))
      (fun i h2 => h2.get (h.next + 2) = some (.loop L0) ∧ h2.get (h.next + 0) = some (.cells [.bool false] 4) ∧ h.next + 2 < h2.next ∧ ∀ j, j < i → (f j).ok)
      (fun h2 => h2.get (h.next + 2) = some (.loop (ended L0 .ret)) ∧ h2.get (h.next + 0) = some (.cells [.bool false] 4) ∧ h.next + 2 < h2.next ∧ ¬ ∀ j, j < n → (f j).ok) ?_ ?_ ?_, ?_⟩
  · rintro i h1 h2 ⟨g1, g2, g3, g4⟩ q
    have := q.next
    exact ⟨byGet, byGet, by omega, g4⟩
  · rintro i h1 hi ⟨g1, g2, g3, g4⟩ hle
    refine YA.call fun68.mixed (A := a68A0) (B := a68B0) (L := L0) (by rw [hL0]; exact c68A0) (by rw [hL0]; exact c68B0) g1 (by omega) (by omega) (by rw [hL0]; exact rfl) (by rw [hL0]; exact rfl) ?_
    unfold YA a68A0
    refine wp_forget (l := [(2, _), (5, _)]) ⟨by rw [hL0]; exact rfl, by rw [hL0]; exact rfl, trivial⟩ fun g => ?_
    (focus ((try with_reducible apply wpC.to); (repeat' ((conv => whnf); first | refine byEv ?_ | (apply Fork.mk <;> (intro _; try (exfalso; omega))) | fail)); all_goals ((conv => whnf); try with_reducible apply At.mk)))
    refine ⟨rfl, L0, byGet, by rw [hL0]; exact rfl, ?_⟩
    unfold a68B0
    have hL1 : ended (busy L0) .none = L0 := by rw [hL0]; exact rfl
    (focus ((try with_reducible apply wpC.to); (repeat' ((conv => whnf); first | refine byEv ?_ | (apply Fork.mk <;> (intro _; try (exfalso; omega))) | fail)); all_goals ((conv => whnf); try with_reducible apply At.mk)))
    all_goals first
      | (refine ⟨.ret, _, rfl, byGet, false, rfl, by simp, fun _ => ⟨byGet, byGet, byOm, fun hall => ?_⟩⟩
         have := hall i hi
         unfold Bd.ok at this
         omega)
      | (refine ⟨.none, _, rfl, byGet, true, rfl, fun _ => ⟨by rw [hL1]; (exact byGet), byGet, byOm, fun j hj => ?_⟩, by simp⟩
         by_cases e : j = i
         · subst e; unfold Bd.ok; omega
         · exact g4 j (by omega))
  · exact ⟨byGet, byGet, byOm, fun j hj => by omega⟩
  · rintro v h2 hd q
    have hnx := q.next
    rcases hd with ⟨g1, g2, g3, g4⟩ | ⟨g1, g2, g3, g4⟩
    · refine ⟨_, g1, by rw [hL0]; simp [loop0], ?_⟩
      rw [hL0]
      simp only [loop0, pendE]
      (focus ((try with_reducible apply wpC.to); (repeat' ((conv => whnf); first | refine byEv ?_ | (apply Fork.mk <;> (intro _; try (exfalso; omega))) | fail)); all_goals ((conv => whnf); try with_reducible apply At.mk)))
      (refine byFin ?_)
      exact bool_t rfl g4
    · refine ⟨_, g1, by simp [ended, pendS], ?_⟩
      simp only [ended, pendE]
      (focus ((try with_reducible apply wpC.to); (repeat' ((conv => whnf); first | refine byEv ?_ | (apply Fork.mk <;> (intro _; try (exfalso; omega))) | fail)); all_goals ((conv => whnf); try with_reducible apply At.mk)))
      (refine byFin ?_)
      exact bool_f rfl g4
end AE.Tryz
