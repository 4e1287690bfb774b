/- Where a need is met, in charts that fall. Plain laws. -/
import Derived.Test.YtbfhhncmmllblaaJoin7
import Derived.Test.YtbfhhncmmllblaaChartZj
import Derived.Test.YtbfhhncmmllblaaChartZf
import Derived.Test.YtbfhhncmmllblaaChartW
set_option linter.unusedVariables false
set_option linter.unusedSimpArgs false
set_option linter.unusedSectionVars false
namespace AE.Try
open Go AE Go.Proofs
set_option maxRecDepth 100000
set_option linter.unusedVariables false

/-- The pulls of a row fall. -/
def Tbl.Fall (T : Tbl) (f : Nat → Nat → Int) : Prop := ∀ i k, i < T.P.n → k + 1 < T.A.n → f i (k + 1) ≤ f i k
/-- The pull at a pitch and at advance number k, times the width. -/
def Tbl.pw (T : Tbl) (f : Nat → Nat → Int) (x : Int) (k : Nat) : Int := (T.P.f (nb T.P.f T.P.n x + 1) - x) * f (nb T.P.f T.P.n x) k + (x - T.P.f (nb T.P.f T.P.n x)) * f (nb T.P.f T.P.n x + 1) k
def Tbl.wd (T : Tbl) (x : Int) : Int := T.P.f (nb T.P.f T.P.n x + 1) - x + (x - T.P.f (nb T.P.f T.P.n x))
theorem ab_eq (T : Tbl) (f : Nat → Nat → Int) (x : Int) (n : Nd) (k : Nat) : T.ab f x n k = T.pw f x k - T.wd x * (n.b + n.s * T.A.f k) := rfl

section
variable {T : Tbl} {x : Int} {n : Nd} {f f' : Nat → Nat → Int}
theorem near (g : T.Good) (o : On T.P.f T.P.n x) : nb T.P.f T.P.n x + 1 < T.P.n ∧ 0 ≤ T.P.f (nb T.P.f T.P.n x + 1) - x ∧ 0 ≤ x - T.P.f (nb T.P.f T.P.n x) ∧ 0 < T.wd x := by
  have h := nb_spec g.rp g.p2 o
  have := g.rp.up _ h.1
  unfold Tbl.wd
  exact ⟨h.1, by omega, by omega, by omega⟩
theorem pw_le (g : T.Good) (o : On T.P.f T.P.n x) (h : ∀ i k, i < T.P.n → k < T.A.n → f i k ≤ f' i k) {k : Nat} (hk : k < T.A.n) : T.pw f x k ≤ T.pw f' x k := by
  obtain ⟨n1, n2, n3, n4⟩ := near g o
  have h1 := Int.mul_le_mul_of_nonneg_left (h _ k (Nat.lt_of_succ_lt n1) hk) n2
  have h2 := Int.mul_le_mul_of_nonneg_left (h _ k n1 hk) n3
  unfold Tbl.pw
  omega
theorem pw_fall (g : T.Good) (o : On T.P.f T.P.n x) (h : T.Fall f) {k : Nat} (hk : k + 1 < T.A.n) : T.pw f x (k + 1) ≤ T.pw f x k := by
  obtain ⟨n1, n2, n3, n4⟩ := near g o
  have h1 := Int.mul_le_mul_of_nonneg_left (h _ k (Nat.lt_of_succ_lt n1) hk) n2
  have h2 := Int.mul_le_mul_of_nonneg_left (h _ k n1 hk) n3
  unfold Tbl.pw
  omega
theorem ab_fall (g : T.Good) (o : On T.P.f T.P.n x) (h : T.Fall f) (hn : n.Ok) {k : Nat} (hk : k + 1 < T.A.n) : T.ab f x n (k + 1) < T.ab f x n k := by
  obtain ⟨n1, n2, n3, n4⟩ := near g o
  have h1 := pw_fall g o h hk
  have h2 := g.ra.up k hk
  have h3 := Int.mul_lt_mul_of_pos_left h2 (show 0 < n.s by have := hn.s0; omega)
  have h4 := Int.mul_lt_mul_of_pos_left (show n.b + n.s * T.A.f k < n.b + n.s * T.A.f (k + 1) by omega) n4
  rw [ab_eq, ab_eq]
  omega
theorem ab_down (g : T.Good) (o : On T.P.f T.P.n x) (h : T.Fall f) (hn : n.Ok) {i : Nat} : ∀ d, i + d < T.A.n → T.ab f x n (i + d) ≤ T.ab f x n i
  | 0, _ => Int.le_refl _
  | d + 1, hd => by
    have h1 := ab_down g o h hn (i := i) d (by omega)
    have h2 := ab_fall g o h hn (k := i + d) hd
    show T.ab f x n (i + d + 1) ≤ _
    omega
theorem mres_root (h : (T.mres f x n).2 = Bool.true) : ∃ q, RootAt T.A.f (T.ab f x n) T.A.n (T.mres f x n).1 q := by
  have hp := lead_pos (T.ab f x n) T.A.n
  have he := lead_end (T.ab f x n) T.A.n
  have hl := lead_le (T.ab f x n) T.A.n
  unfold Tbl.mres Tbl.mq at h ⊢
  generalize lead (T.ab f x n) T.A.n = q at *
  by_cases h1 : q < T.A.n ∧ T.ab f x n q = 0
  · rw [if_pos h1]
    exact ⟨q, h1.1, fun j hj => hp j hj, .inl ⟨h1.2, rfl⟩⟩
  · rw [if_neg h1] at h ⊢
    by_cases h2 : q = 0 ∨ q = T.A.n
    · rw [if_pos h2] at h; exact Bool.noConfusion h
    · rw [if_neg h2]
      refine ⟨q, by omega, fun j hj => hp j hj, .inr ⟨by omega, ?_, rfl⟩⟩
      rcases he with he | ⟨e1, e2⟩
      · omega
      · rcases Int.lt_or_eq_of_le e2 with e3 | e3
        · exact e3
        · exact absurd ⟨e1, e3⟩ h1
theorem mres_iff (g : T.Good) (o : On T.P.f T.P.n x) (hf : T.Fall f) (hn : n.Ok) : (T.mres f x n).2 = Bool.true ↔ 0 ≤ T.ab f x n 0 ∧ T.ab f x n (T.A.n - 1) ≤ 0 := by
  have ga2 := g.a2
  constructor
  · intro h
    obtain ⟨q, hq, hp, hc⟩ := mres_root h
    have hd := ab_down g o hf hn (i := q) (T.A.n - 1 - q) (by omega)
    rw [show q + (T.A.n - 1 - q) = T.A.n - 1 by omega] at hd
    rcases hc with ⟨c0, -⟩ | ⟨c0, c1, -⟩
    · refine ⟨?_, by omega⟩
      rcases Nat.eq_zero_or_pos q with h0 | h0
      · subst h0; omega
      · have := hp 0 h0; omega
    · exact ⟨by have := hp 0 c0; omega, by omega⟩
  · rintro ⟨h1, h2⟩
    have hp := lead_pos (T.ab f x n) T.A.n
    have he := lead_end (T.ab f x n) T.A.n
    unfold Tbl.mres Tbl.mq
    generalize lead (T.ab f x n) T.A.n = q at *
    by_cases c1 : q < T.A.n ∧ T.ab f x n q = 0
    · rw [if_pos c1]
    · rw [if_neg c1]
      by_cases c2 : q = 0 ∨ q = T.A.n
      · exfalso
        rcases c2 with c2 | c2
        · subst c2
          rcases he with he | ⟨-, he⟩
          · omega
          · exact c1 ⟨by omega, by omega⟩
        · have := hp (T.A.n - 1) (by omega); omega
      · rw [if_neg c2]
/-- The pull there is what is needed. -/
theorem met_eq {q : Nat} {y : Fr} (g : T.Good) (o : On T.P.f T.P.n x) (k : RootAt T.A.f (T.ab f x n) T.A.n y q) :
    T.pw f x (q - 1) * ((T.A.f (q - 1 + 1) - T.A.f (q - 1)) * y.d) + (T.pw f x (q - 1 + 1) - T.pw f x (q - 1)) * (y.n - T.A.f (q - 1) * y.d) = T.wd x * ((T.A.f (q - 1 + 1) - T.A.f (q - 1)) * (n.b * y.d + n.s * y.n)) := by
  obtain ⟨b1, b2, b3, b4, b5, b6⟩ := k.between g.a2 g.ra.up
  rw [ab_eq, ab_eq] at b5
  generalize T.pw f x (q - 1) = P at *
  generalize T.pw f x (q - 1 + 1) = Q at *
  generalize T.A.f (q - 1) = a at *
  generalize T.A.f (q - 1 + 1) = b at *
  generalize T.wd x = W at *
  grind
/-- The pull at a pitch and an advance of the chart. -/
theorem val_grid (g : T.Good) (o : On T.P.f T.P.n x) {k : Nat} (hk : k < T.A.n) : T.On ⟨x, T.A.f k⟩ ∧ T.val ⟨x, T.A.f k⟩ f = fr (T.pw f x k) (T.wd x) := by
  have ga2 := g.a2
  have hoa : On T.A.f T.A.n (T.A.f k) := ⟨g.ra.le (by omega) hk, g.ra.le (by omega) (by omega)⟩
  have o2 : T.On ⟨x, T.A.f k⟩ := ⟨o, hoa⟩
  refine ⟨o2, ?_⟩
  obtain ⟨n1, n2, n3, n4⟩ := near g o
  have ex0 : T.x ⟨x, T.A.f k⟩ 0 = T.P.f (nb T.P.f T.P.n x + 1) - x := by unfold Tbl.x; rw [if_pos rfl]; rfl
  have ex1 : T.x ⟨x, T.A.f k⟩ 1 = x - T.P.f (nb T.P.f T.P.n x) := by unfold Tbl.x; rw [if_neg (by decide)]; rfl
  have ei : T.i ⟨x, T.A.f k⟩ = nb T.P.f T.P.n x := rfl
  have ew : T.wd x = T.P.f (nb T.P.f T.P.n x + 1) - x + (x - T.P.f (nb T.P.f T.P.n x)) := rfl
  have ep : T.pw f x k = (T.P.f (nb T.P.f T.P.n x + 1) - x) * f (nb T.P.f T.P.n x) k + (x - T.P.f (nb T.P.f T.P.n x)) * f (nb T.P.f T.P.n x + 1) k := rfl
  rw [val_eq, ex0, ex1, ei]
  unfold val4
  rw [← ew]
  by_cases h0 : k = 0
  · subst h0
    have ek : T.k ⟨x, T.A.f 0⟩ = 0 := nb_eq g.ra (by omega) (g.ra.le (by omega) (by omega)) (fun h => absurd h (Nat.lt_irrefl _)) hoa
    have ey0 : T.y ⟨x, T.A.f 0⟩ 0 = T.A.f 1 - T.A.f 0 := by unfold Tbl.y; rw [if_pos rfl, ek]
    have ey1 : T.y ⟨x, T.A.f 0⟩ 1 = 0 := by unfold Tbl.y; rw [if_neg (by decide), ek]; exact Int.sub_self _
    have hpos : T.A.f 0 < T.A.f 1 := g.ra.up 0 (by omega)
    rw [ey0, ey1, ek, ← ep]
    refine fr_eq (Int.mul_pos n4 (by omega)) n4 ?_
    grind
  · have ek : T.k ⟨x, T.A.f k⟩ = k - 1 := nb_eq g.ra (by omega) (by show T.A.f k ≤ T.A.f (k - 1 + 1); rw [show k - 1 + 1 = k by omega]; exact Int.le_refl _) (fun _ => by have := g.ra.up (k - 1) (by omega); rw [show k - 1 + 1 = k by omega] at this; exact this) hoa
    have ey0 : T.y ⟨x, T.A.f k⟩ 0 = 0 := by unfold Tbl.y; rw [if_pos rfl, ek]; show T.A.f (k - 1 + 1) - T.A.f k = 0; rw [show k - 1 + 1 = k by omega]; exact Int.sub_self _
    have ey1 : T.y ⟨x, T.A.f k⟩ 1 = T.A.f k - T.A.f (k - 1) := by unfold Tbl.y; rw [if_neg (by decide), ek]
    have hpos := g.ra.up (k - 1) (by omega)
    rw [show k - 1 + 1 = k by omega] at hpos
    rw [ey0, ey1, ek, show k - 1 + 1 = k by omega, ← ep]
    refine fr_eq (Int.mul_pos n4 (by omega)) n4 ?_
    grind
end
end AE.Try
