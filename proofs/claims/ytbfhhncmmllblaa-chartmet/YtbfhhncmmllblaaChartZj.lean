/- A chart with one more pitch: the pull at any point stays. Plain laws. -/
import Derived.Test.YtbfhhncmmllblaaJoin7
set_option linter.unusedVariables false
set_option linter.unusedSimpArgs false
set_option linter.unusedSectionVars false
namespace AE.Try
open Go AE Go.Proofs
set_option maxRecDepth 100000
set_option linter.unusedVariables false

/-- The pull between four pulls. -/
def val4 (x0 x1 y0 y1 a b c d : Int) : Fr := fr (y0 * (x0 * a + x1 * c) + y1 * (x0 * b + x1 * d)) ((x0 + x1) * (y0 + y1))
theorem vsum_eq (T : Tbl) (p : Pt) (f : Nat → Nat → Int) : T.vsum p f = T.y p 0 * (T.x p 0 * f (T.i p) (T.k p) + T.x p 1 * f (T.i p + 1) (T.k p)) + T.y p 1 * (T.x p 0 * f (T.i p) (T.k p + 1) + T.x p 1 * f (T.i p + 1) (T.k p + 1)) := by
  have e : T.vsum p f = 0 + T.x p 0 * T.y p 0 * f (T.i p) (T.k p) + T.x p 0 * T.y p 1 * f (T.i p) (T.k p + 1) + T.x p 1 * T.y p 0 * f (T.i p + 1) (T.k p) + T.x p 1 * T.y p 1 * f (T.i p + 1) (T.k p + 1) := rfl
  rw [e]
  grind
theorem val_eq (T : Tbl) (p : Pt) (f : Nat → Nat → Int) : T.val p f = val4 (T.x p 0) (T.x p 1) (T.y p 0) (T.y p 1) (f (T.i p) (T.k p)) (f (T.i p) (T.k p + 1)) (f (T.i p + 1) (T.k p)) (f (T.i p + 1) (T.k p + 1)) := by
  unfold Tbl.val val4
  rw [vsum_eq, T.whole_eq]

def insI (i : Nat) (x : Int) (f : Nat → Int) (j : Nat) : Int := if j < i then f j else if j = i then x else f (j - 1)
def insR (i : Nat) (r : Nat → Int) (f : Nat → Nat → Int) (j k : Nat) : Int := if j < i then f j k else if j = i then r k else f (j - 1) k
theorem insI_lt {i j : Nat} {x : Int} {f : Nat → Int} (h : j < i) : insI i x f j = f j := if_pos h
theorem insI_at {i : Nat} {x : Int} {f : Nat → Int} : insI i x f i = x := by unfold insI; rw [if_neg (by omega), if_pos rfl]
theorem insI_gt {i j : Nat} {x : Int} {f : Nat → Int} (h : i ≤ j) : insI i x f (j + 1) = f j := by unfold insI; rw [if_neg (by omega), if_neg (by omega)]; rfl
theorem insR_lt {i j k : Nat} {x : Nat → Int} {f : Nat → Nat → Int} (h : j < i) : insR i x f j k = f j k := if_pos h
theorem insR_at {i k : Nat} {x : Nat → Int} {f : Nat → Nat → Int} : insR i x f i k = x k := by unfold insR; rw [if_neg (by omega), if_pos rfl]
theorem insR_gt {i j k : Nat} {x : Nat → Int} {f : Nat → Nat → Int} (h : i ≤ j) : insR i x f (j + 1) k = f j k := by unfold insR; rw [if_neg (by omega), if_neg (by omega)]; rfl

/-- What is known of the chart with one more pitch. -/
structure Ins (T T2 : Tbl) (i : Nat) (x : Int) (f f2 : Nat → Nat → Int) (r : Nat → Int) : Prop where
  g : T.Good
  i0 : 0 < i
  i1 : i < T.P.n
  x0 : T.P.f (i - 1) < x
  x1 : x < T.P.f i
  pn : T2.P.n = T.P.n + 1
  pf : T2.P.f = insI i x T.P.f
  ra : T2.A = T.A
  rr : Rising T2.P.f T2.P.n
  row : ∀ k, k < T.A.n → T.val ⟨x, T.A.f k⟩ f = ⟨r k, 1⟩
  f2 : ∀ j k, j < T2.P.n → k < T.A.n → f2 j k = insR i r f j k

section
variable {T T2 : Tbl} {i : Nat} {x : Int} {f f2 : Nat → Nat → Int} {r : Nat → Int}
theorem Ins.on (k : Ins T T2 i x f f2 r) {p : Pt} (o : T.On p) : T2.On p := by
  obtain ⟨⟨o1, o2⟩, o3⟩ := o
  refine ⟨⟨?_, ?_⟩, by rw [k.ra]; exact o3⟩
  · rw [k.pf, insI_lt k.i0]; exact o1
  · rw [k.pf, k.pn]
    have e : T.P.n + 1 - 1 = (T.P.n - 1) + 1 := by have := k.i1; omega
    rw [e, insI_gt (by have := k.i1; omega)]
    exact o2
/-- The new row, as it lies between its neighbours. -/
theorem Ins.rel (k : Ins T T2 i x f f2 r) {c : Nat} (hc : c < T.A.n) : r c * (T.P.f i - T.P.f (i - 1)) = (T.P.f i - x) * f (i - 1) c + (x - T.P.f (i - 1)) * f i c := by
  have g := k.g
  have hi0 := k.i0
  have hi1 := k.i1
  have hx0 := k.x0
  have hx1 := k.x1
  have ga2 := g.a2
  have hon : On T.P.f T.P.n x := ⟨by have := g.rp.le (i := 0) (j := i - 1) (by omega) (by omega); omega, by have := g.rp.le (i := i) (j := T.P.n - 1) (by omega) (by omega); omega⟩
  have hoa : On T.A.f T.A.n (T.A.f c) := ⟨g.ra.le (by omega) hc, g.ra.le (by omega) (by omega)⟩
  have o : T.On ⟨x, T.A.f c⟩ := ⟨hon, hoa⟩
  have ei : T.i ⟨x, T.A.f c⟩ = i - 1 := nb_eq g.rp (by omega) (by show x ≤ T.P.f (i - 1 + 1); rw [show i - 1 + 1 = i by omega]; omega) (fun _ => hx0) hon
  have ar := g.around o
  have h := (val_of ar f).cross
  rw [k.row c hc] at h
  dsimp only at h
  rw [vsum_eq, T.whole_eq, Int.mul_one] at h
  have ex0 : T.x ⟨x, T.A.f c⟩ 0 = T.P.f i - x := by unfold Tbl.x; rw [if_pos rfl, ei]; show T.P.f (i - 1 + 1) - x = _; rw [show i - 1 + 1 = i by omega]
  have ex1 : T.x ⟨x, T.A.f c⟩ 1 = x - T.P.f (i - 1) := by unfold Tbl.x; rw [if_neg (by decide), ei]
  rw [ex0, ex1, ei, show i - 1 + 1 = i by omega] at h
  by_cases h0 : c = 0
  · subst h0
    have ek : T.k ⟨x, T.A.f 0⟩ = 0 := nb_eq g.ra (by omega) (g.ra.le (by omega) (by omega)) (fun h => absurd h (Nat.lt_irrefl _)) hoa
    have ey0 : T.y ⟨x, T.A.f 0⟩ 0 = T.A.f 1 - T.A.f 0 := by unfold Tbl.y; rw [if_pos rfl, ek]
    have ey1 : T.y ⟨x, T.A.f 0⟩ 1 = 0 := by unfold Tbl.y; rw [if_neg (by decide), ek]; exact Int.sub_self _
    rw [ey0, ey1, ek] at h
    have hpos : T.A.f 0 < T.A.f 1 := g.ra.up 0 (by omega)
    refine Int.eq_of_mul_eq_mul_left (a := T.A.f 1 - T.A.f 0) (by omega) ?_
    grind
  · have ek : T.k ⟨x, T.A.f c⟩ = c - 1 := nb_eq g.ra (by omega) (by show T.A.f c ≤ T.A.f (c - 1 + 1); rw [show c - 1 + 1 = c by omega]; exact Int.le_refl _) (fun _ => by have := g.ra.up (c - 1) (by omega); rw [show c - 1 + 1 = c by omega] at this; exact this) hoa
    have ey0 : T.y ⟨x, T.A.f c⟩ 0 = 0 := by unfold Tbl.y; rw [if_pos rfl, ek]; show T.A.f (c - 1 + 1) - T.A.f c = 0; rw [show c - 1 + 1 = c by omega]; exact Int.sub_self _
    have ey1 : T.y ⟨x, T.A.f c⟩ 1 = T.A.f c - T.A.f (c - 1) := by unfold Tbl.y; rw [if_neg (by decide), ek]
    rw [ey0, ey1, ek, show c - 1 + 1 = c by omega] at h
    have hpos := g.ra.up (c - 1) (by omega)
    rw [show c - 1 + 1 = c by omega] at hpos
    refine Int.eq_of_mul_eq_mul_left (a := T.A.f c - T.A.f (c - 1)) (by omega) ?_
    grind
theorem val4_lo {p P0 P1 x y0 y1 a b c d u v : Int} (h0 : P0 < x) (h1 : x < P1) (hy : 0 < y0 + y1) (hu : u * (P1 - P0) = (P1 - x) * a + (x - P0) * c) (hv : v * (P1 - P0) = (P1 - x) * b + (x - P0) * d) :
    val4 (x - p) (p - P0) y0 y1 a b u v = val4 (P1 - p) (p - P0) y0 y1 a b c d := by
  unfold val4
  refine fr_eq ?_ ?_ ?_
  · exact Int.mul_pos (by omega) hy
  · exact Int.mul_pos (by omega) hy
  · have e1 : x - p + (p - P0) = x - P0 := by omega
    have e2 : P1 - p + (p - P0) = P1 - P0 := by omega
    rw [e1, e2]
    have key : (y0 * ((x - p) * a + (p - P0) * u) + y1 * ((x - p) * b + (p - P0) * v)) * (P1 - P0) = (y0 * ((P1 - p) * a + (p - P0) * c) + y1 * ((P1 - p) * b + (p - P0) * d)) * (x - P0) := by grind
    rw [← Int.mul_assoc, ← Int.mul_assoc, key]
theorem val4_hi {p P0 P1 x y0 y1 a b c d u v : Int} (h0 : P0 < x) (h1 : x < P1) (hy : 0 < y0 + y1) (hu : u * (P1 - P0) = (P1 - x) * a + (x - P0) * c) (hv : v * (P1 - P0) = (P1 - x) * b + (x - P0) * d) :
    val4 (P1 - p) (p - x) y0 y1 u v c d = val4 (P1 - p) (p - P0) y0 y1 a b c d := by
  unfold val4
  refine fr_eq ?_ ?_ ?_
  · exact Int.mul_pos (by omega) hy
  · exact Int.mul_pos (by omega) hy
  · have e1 : P1 - p + (p - x) = P1 - x := by omega
    have e2 : P1 - p + (p - P0) = P1 - P0 := by omega
    rw [e1, e2]
    have key : (y0 * ((P1 - p) * u + (p - x) * c) + y1 * ((P1 - p) * v + (p - x) * d)) * (P1 - P0) = (y0 * ((P1 - p) * a + (p - P0) * c) + y1 * ((P1 - p) * b + (p - P0) * d)) * (P1 - x) := by grind
    rw [← Int.mul_assoc, ← Int.mul_assoc, key]

theorem Ins.val (k : Ins T T2 i x f f2 r) {p : Pt} (o : T.On p) : T2.val p f2 = T.val p f := by
  have g := k.g
  have hi0 := k.i0
  have hi1 := k.i1
  have hx0 := k.x0
  have hx1 := k.x1
  have o2 := k.on o
  have ar := g.around o
  have hn := nb_spec g.rp g.p2 o.1
  have hk1 := ar.k
  have ek : T2.k p = T.k p := by unfold Tbl.k; rw [k.ra]
  have ey : ∀ b, T2.y p b = T.y p b := fun b => by unfold Tbl.y; rw [ek, k.ra]
  have hy : 0 < T.y p 0 + T.y p 1 := by
    have h1 := ar.whole
    rw [T.whole_eq] at h1
    refine Classical.byContradiction fun hc => ?_
    have hz : T.y p 0 + T.y p 1 = T.A.f (T.k p + 1) - T.A.f (T.k p) := by unfold Tbl.y; rw [if_pos rfl, if_neg (by decide)]; omega
    have := g.ra.up (T.k p) hk1
    omega
  have hP2 : T2.P.n = T.P.n + 1 := k.pn
  have ei1 : T.i p = nb T.P.f T.P.n p.p := rfl
  rw [val_eq, val_eq, ek, ey, ey]
  have pf := k.pf
  rcases Nat.lt_trichotomy (T.i p + 1) i with hc | hc | hc
  · have e2 : T2.i p = T.i p := by
      show nb T2.P.f T2.P.n p.p = _
      refine nb_eq k.rr (by omega) ?_ (fun h => ?_) o2.1
      · rw [pf, insI_lt hc]; exact hn.2.2.1
      · rw [pf, insI_lt (by omega)]; exact hn.2.2.2 h
    have ex : ∀ a, T2.x p a = T.x p a := fun a => by unfold Tbl.x; rw [e2, pf, insI_lt hc, insI_lt (by omega)]
    rw [ex, ex, e2, k.f2 _ _ (by omega) (by omega), k.f2 _ _ (by omega) (by omega), k.f2 _ _ (by omega) (by omega), k.f2 _ _ (by omega) (by omega), insR_lt (by omega), insR_lt (by omega), insR_lt hc, insR_lt hc]
  · have hi : T.i p = i - 1 := by omega
    have n0 : T.P.f (i - 1) ≤ p.p := by have := hn.2.1; rw [← ei1, hi] at this; exact this
    have n1 : p.p ≤ T.P.f i := by have := hn.2.2.1; rw [← ei1, hi, show i - 1 + 1 = i by omega] at this; exact this
    have n2 : 0 < i - 1 → T.P.f (i - 1) < p.p := by have := hn.2.2.2; rw [← ei1, hi] at this; exact this
    have ex0 : T.x p 0 = T.P.f i - p.p := by unfold Tbl.x; rw [if_pos rfl, hi, show i - 1 + 1 = i by omega]
    have ex1 : T.x p 1 = p.p - T.P.f (i - 1) := by unfold Tbl.x; rw [if_neg (by decide), hi]
    rw [ex0, ex1, hi, show i - 1 + 1 = i by omega]
    by_cases hp : p.p ≤ x
    · have e2 : T2.i p = i - 1 := by
        show nb T2.P.f T2.P.n p.p = _
        refine nb_eq k.rr (by omega) ?_ (fun h => ?_) o2.1
        · rw [pf, show i - 1 + 1 = i by omega, insI_at]; exact hp
        · rw [pf, insI_lt (by omega)]; exact n2 h
      have ex20 : T2.x p 0 = x - p.p := by unfold Tbl.x; rw [if_pos rfl, e2, pf, show i - 1 + 1 = i by omega, insI_at]
      have ex21 : T2.x p 1 = p.p - T.P.f (i - 1) := by unfold Tbl.x; rw [if_neg (by decide), e2, pf, insI_lt (by omega)]
      rw [ex20, ex21, e2, show i - 1 + 1 = i by omega, k.f2 _ _ (by omega) (by omega), k.f2 _ _ (by omega) (by omega), k.f2 _ _ (by omega) (by omega), k.f2 _ _ (by omega) (by omega), insR_lt (by omega), insR_lt (by omega), insR_at, insR_at]
      exact val4_lo hx0 hx1 hy (k.rel (by omega)) (k.rel (by omega))
    · have e2 : T2.i p = i := by
        show nb T2.P.f T2.P.n p.p = _
        refine nb_eq k.rr (by omega) ?_ (fun h => ?_) o2.1
        · rw [pf, insI_gt (Nat.le_refl _)]; exact n1
        · rw [pf, insI_at]; omega
      have ex20 : T2.x p 0 = T.P.f i - p.p := by unfold Tbl.x; rw [if_pos rfl, e2, pf, insI_gt (Nat.le_refl _)]
      have ex21 : T2.x p 1 = p.p - x := by unfold Tbl.x; rw [if_neg (by decide), e2, pf, insI_at]
      rw [ex20, ex21, e2, k.f2 _ _ (by omega) (by omega), k.f2 _ _ (by omega) (by omega), k.f2 _ _ (by omega) (by omega), k.f2 _ _ (by omega) (by omega), insR_at, insR_at, insR_gt (Nat.le_refl _), insR_gt (Nat.le_refl _)]
      exact val4_hi hx0 hx1 hy (k.rel (by omega)) (k.rel (by omega))
  · have e2 : T2.i p = T.i p + 1 := by
      show nb T2.P.f T2.P.n p.p = _
      refine nb_eq k.rr (by have := ar.i; omega) ?_ (fun h => ?_) o2.1
      · rw [pf, insI_gt (by omega)]; exact hn.2.2.1
      · rw [pf, insI_gt (by omega)]; exact hn.2.2.2 (by omega)
    have ex : ∀ a, T2.x p a = T.x p a := fun a => by unfold Tbl.x; rw [e2, pf, insI_gt (by omega), insI_gt (by omega)]
    have hii := ar.i
    rw [ex, ex, e2, k.f2 _ _ (by omega) (by omega), k.f2 _ _ (by omega) (by omega), k.f2 _ _ (by omega) (by omega), k.f2 _ _ (by omega) (by omega), insR_gt (by omega), insR_gt (by omega), insR_gt (by omega), insR_gt (by omega)]
end
end AE.Try
