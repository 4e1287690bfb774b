/- Plain laws of span: what a choice narrows a span to. -/
import Derived.Test.YtkkndecbijgolaaSpanZe
set_option linter.unusedVariables false
set_option linter.unusedSimpArgs false
set_option linter.unusedSectionVars false
namespace AE.Try
open Go AE Go.Proofs AE.Sp
set_option maxRecDepth 100000
set_option linter.unusedVariables false

/-- One run more. -/
def Runs.plus (L : Runs) (x : Run) : Runs := ⟨L.n + 1, fun i => if i < L.n then L.f i else x, none, ⟨0, 0, none⟩, 0⟩
theorem Runs.plus_val {L : Runs} {x : Run} (lv : L.Val) (hx : x.Ok) : (L.plus x).Val := fun i hi => by
  unfold Runs.plus
  dsimp only
  split
  · exact lv i (by assumption)
  · exact hx
theorem Runs.plus_fits {L : Runs} {x : Run} {t : Tru} : (L.plus x).Fits t ↔ L.Fits t ∧ x.Fit t := by
  constructor
  · intro h
    refine ⟨fun i hi => ?_, ?_⟩
    · have := h i (by show i < L.n + 1; omega)
      unfold Runs.plus at this
      dsimp only at this
      rw [if_pos hi] at this
      exact this
    · have := h L.n (by show L.n < L.n + 1; omega)
      unfold Runs.plus at this
      dsimp only at this
      rw [if_neg (Nat.lt_irrefl _)] at this
      exact this
  · rintro ⟨h1, h2⟩ i hi
    unfold Runs.plus
    dsimp only
    split
    · exact h1 i (by assumption)
    · exact h2

theorem Lst.rng {L : Runs} (lv : L.Val) (c : L.Cl) {p q : Int} (b : L.Bnd p q) (fac : Fac p q) : ∃ N D, Lst L p q N D ∧ L.low p q = fr N D ∧ (0 < D ∧ D ≤ 800) ∧ -160000000 ≤ N ∧ N ≤ 160000000 := by
  obtain ⟨N, D, h1, h2, -⟩ := lst_ofR lv c b fac
  exact ⟨N, D, h1, h1.low, ⟨h1.d, h2.1⟩, h2.2⟩
theorem fr_rng {N D X Y : Int} (hd : 0 < D ∧ D ≤ Y) (hn : -X ≤ N ∧ N ≤ X) : (0 < (fr N D).d ∧ (fr N D).d ≤ Y) ∧ -X ≤ (fr N D).n ∧ (fr N D).n ≤ X := by
  have k := fr_of (n := N) hd.1
  have := k.le_d
  exact ⟨⟨k.d0, by omega⟩, k.bnd hn.1 hn.2⟩
theorem fac_neg {p q : Int} (h : Fac p q) : Fac (-p) (-q) := ⟨by have := h.1; omega, by have := h.2; omega⟩
theorem bnd_negI {L : Runs} (lv : L.Val) {p q : Int} (h : L.Bnd p q) : L.Bnd (-p) (-q) := (bnd_iff lv).1 (bnd_neg ((bnd_iff lv).2 h))
/-- What is known of how wide two factors are. -/
structure WideOk (x : Fr) : Prop where
  f : fr x.n x.d = x
  d : 0 < x.d ∧ x.d ≤ 640000
  n : 0 ≤ x.n ∧ x.n ≤ 256000000000
theorem fr_same {x y : Fr} (kx : WideOk x) (ky : WideOk y) (h1 : ¬ flt x y) (h2 : ¬ flt y x) : x = y := by
  rw [← kx.f, ← ky.f]
  exact fr_eq kx.d.1 ky.d.1 (by have h1 : y.n * x.d ≤ x.n * y.d := Int.not_lt.1 h1; have h2 : x.n * y.d ≤ y.n * x.d := Int.not_lt.1 h2; omega)
theorem wide_ok {L : Runs} (lv : L.Val) (c : L.Cl) {p q : Int} (b : L.Bnd p q) (fac : Fac p q) : WideOk (L.wide p q) := by
  obtain ⟨N, D, k, e, hd, hn⟩ := Lst.rng lv c b fac
  obtain ⟨N', D', k', e', hd', hn'⟩ := Lst.rng lv c (bnd_negI lv b) (fac_neg fac)
  have r := fr_rng (X := 160000000) hd hn
  have r' := fr_rng (X := 160000000) hd' hn'
  unfold Runs.wide
  rw [e, e']
  obtain ⟨t, h1, h2, h3⟩ := k.at'
  have h4 := k'.le t h1 h3
  have e2 : -p * t.a + -q * t.b = -(p * t.a + q * t.b) := by rw [Int.neg_mul, Int.neg_mul]; omega
  rw [e2] at h4
  have le : N' * D ≤ -N * D' := by
    refine le_of_mul h3 ?_
    have m := Int.mul_le_mul_of_nonneg_right h4 (show 0 ≤ D by omega)
    have e3 : N' * D * t.d = N' * t.d * D := by ac_rfl
    have e4 : -(p * t.a + q * t.b) * D' * D = -((p * t.a + q * t.b) * D) * D' := by rw [← Int.neg_mul]; ac_rfl
    have e5 : -(N * t.d) * D' = -N * D' * t.d := by rw [← Int.neg_mul]; ac_rfl
    rw [e3]
    rw [e4, h2, e5] at m
    exact m
  have le2 : (fr N' D').n * (fr N D).d ≤ (-(fr N D).n) * (fr N' D').d := by
    have f1 := fr_of (n := N') hd'.1
    have f2 : FrOf ⟨-(fr N D).n, (fr N D).d⟩ (-N) D := by
      obtain ⟨a1, g, a2, a3, a4⟩ := fr_of (n := N) hd.1
      refine ⟨a1, g, a2, ?_, a4⟩
      dsimp only
      rw [Int.neg_mul]; omega
    exact f1.le f2 le
  rw [Int.neg_mul] at le2
  have m1 := mul_bnd (a := -(fr N' D').n) (A := 160000000) (b := (fr N D).d) (B := 800) (by omega) (by omega) (by omega) (by omega)
  have m2 := mul_bnd (a := (fr N D).n) (A := 160000000) (b := (fr N' D').d) (B := 800) (by omega) (by omega) (by omega) (by omega)
  have m3 := mul_bnd (a := (fr N D).d) (A := 800) (b := (fr N' D').d) (B := 800) (by omega) (by omega) (by omega) (by omega)
  have m4 := Int.mul_pos r.1.1 r'.1.1
  rw [Int.neg_mul] at m1 ⊢
  have x1 : -((fr N' D').n * (fr N D).d) - (fr N D).n * (fr N' D').d ≤ 256000000000 := by omega
  have x0 : 0 ≤ -((fr N' D').n * (fr N D).d) - (fr N D).n * (fr N' D').d := by omega
  generalize -((fr N' D').n * (fr N D).d) - (fr N D).n * (fr N' D').d = n at *
  have x2 : (fr N D).d * (fr N' D').d ≤ 640000 := by omega
  generalize (fr N D).d * (fr N' D').d = d at *
  have k2 := fr_of (n := n) m4
  have b2 := k2.bnd (X := 256000000000) (by omega) x1
  have l2 := k2.le_d
  refine ⟨fr_fr m4, ⟨k2.d0, by omega⟩, ?_, b2.2⟩
  obtain ⟨-, g, hg, hn2, -⟩ := k2
  exact nn_of_mul (a := g) hg (by rw [Int.mul_comm]; omega)

/-! ### choices -/

section
variable (L : Runs) (p q : Int) (C : Chs)
def Nx.cl (i k : Nat) : Prop := (L.plus (C.run i k)).Cl
noncomputable def Nx.wd (i k : Nat) : Fr := (L.plus (C.run i k)).wide p q
def Nx.bn (i k : Nat) : Prop := (L.plus (C.run i k)).Bnd p q
/-- x is the widest span with an end of a choice, of the first s. -/
def IsW (i s : Nat) (x : Fr) : Prop := (∃ k, k < s ∧ Nx.cl L C i k ∧ x = Nx.wd L p q C i k) ∧ ∀ k, k < s → Nx.cl L C i k → ¬ flt x (Nx.wd L p q C i k)
def NoW (i s : Nat) : Prop := ∀ k, k < s → ¬ Nx.cl L C i k
/-- All spans are bounded, with the first s ends of a choice. -/
def BnW (i s : Nat) : Prop := ∀ k, k < s → Nx.cl L C i k → Nx.bn L p q C i k
def WSt (i s : Nat) : Option Fr → Prop
  | none => NoW L C i s
  | some x => IsW L p q C i s x
/-- The choice that narrows most, of the first s. -/
def BSt (s : Nat) : Option (Nat × Fr) → Prop
  | none => ∀ j, j < s → NoW L C j (C.w j)
  | some (i, x) => (i < s ∧ IsW L p q C i (C.w i) x) ∧ ∀ j y, j < s → IsW L p q C j (C.w j) y → (j < i → flt x y) ∧ (i < j → ¬ flt y x)
end
section
variable {L : Runs} {p q : Int} {C : Chs} {i s : Nat} {x y : Fr}
theorem WSt.skip {o : Option Fr} (k : WSt L p q C i s o) (h : ¬ Nx.cl L C i s) : WSt L p q C i (s + 1) o := by
  cases o with
  | none =>
    intro j hj
    by_cases e : j = s
    · subst e; exact h
    · exact k j (by omega)
  | some x =>
    obtain ⟨⟨j, h1, h2, h3⟩, h4⟩ := k
    refine ⟨⟨j, by omega, h2, h3⟩, fun j hj hc => ?_⟩
    by_cases e : j = s
    · subst e; exact absurd hc h
    · exact h4 j (by omega) hc
theorem WSt.first (k : WSt L p q C i s none) (h : Nx.cl L C i s) : WSt L p q C i (s + 1) (some (Nx.wd L p q C i s)) :=
  ⟨⟨s, by omega, h, rfl⟩, fun j hj hc => by
    by_cases e : j = s
    · subst e; exact flt_irr _
    · exact absurd hc (k j (by omega))⟩
theorem WSt.keep (k : WSt L p q C i s (some x)) (h : ¬ flt x (Nx.wd L p q C i s)) : WSt L p q C i (s + 1) (some x) := by
  obtain ⟨⟨j, h1, h2, h3⟩, h4⟩ := k
  refine ⟨⟨j, by omega, h2, h3⟩, fun j hj hc => ?_⟩
  by_cases e : j = s
  · subst e; exact h
  · exact h4 j (by omega) hc
theorem WSt.more (k : WSt L p q C i s (some x)) (hok : ∀ k, Nx.cl L C i k → k ≤ s → WideOk (Nx.wd L p q C i k)) (hc : Nx.cl L C i s) (h : flt x (Nx.wd L p q C i s)) : WSt L p q C i (s + 1) (some (Nx.wd L p q C i s)) := by
  obtain ⟨⟨j, h1, h2, h3⟩, h4⟩ := k
  refine ⟨⟨s, by omega, hc, rfl⟩, fun j' hj hc' hf => ?_⟩
  by_cases e : j' = s
  · subst e; exact flt_irr _ hf
  · subst h3
    have a := (hok j h2 (by omega)).d.1
    have b := (hok j' hc' (by omega)).d.1
    have c := (hok s hc (Nat.le_refl _)).d.1
    refine h4 j' (by omega) hc' (flt_trans a c b h fun hz => ?_)
    have hf : _ < _ := hf
    have hz : _ < _ := hz
    omega
theorem IsW.ok (k : IsW L p q C i s x) (hok : ∀ k, Nx.cl L C i k → k < s → WideOk (Nx.wd L p q C i k)) : WideOk x := by
  obtain ⟨⟨j, h1, h2, rfl⟩, -⟩ := k
  exact hok j h2 h1
theorem IsW.uniq (k : IsW L p q C i s x) (k' : IsW L p q C i s y) (hok : ∀ k, Nx.cl L C i k → k < s → WideOk (Nx.wd L p q C i k)) : x = y := by
  have o1 := k.ok hok
  have o2 := k'.ok hok
  obtain ⟨⟨j, h1, h2, e1⟩, h4⟩ := k
  obtain ⟨⟨j', h1', h2', e1'⟩, h4'⟩ := k'
  refine fr_same o1 o2 (fun h => ?_) (fun h => ?_)
  · refine h4 j' h1' h2' ?_
    rw [← e1']; exact h
  · refine h4' j h1 h2 ?_
    rw [← e1]; exact h
theorem IsW.no (k : IsW L p q C i s x) (h : NoW L C i s) : False := by
  obtain ⟨⟨j, h1, h2, -⟩, -⟩ := k
  exact h j h1 h2
theorem BSt.skip {o : Option (Nat × Fr)} (k : BSt L p q C s o) (h : NoW L C s (C.w s)) : BSt L p q C (s + 1) o := by
  cases o with
  | none =>
    intro j hj
    by_cases e : j = s
    · subst e; exact h
    · exact k j (by omega)
  | some z =>
    obtain ⟨i, x⟩ := z
    obtain ⟨⟨h1, h2⟩, h3⟩ := k
    refine ⟨⟨by omega, h2⟩, fun j y hj hw => ?_⟩
    by_cases e : j = s
    · subst e; exact (hw.no h).elim
    · exact h3 j y (by omega) hw
theorem BSt.first (k : BSt L p q C s none) (h : IsW L p q C s (C.w s) x) : BSt L p q C (s + 1) (some (s, x)) := by
  refine ⟨⟨by omega, h⟩, fun j y hj hw => ?_⟩
  by_cases e : j = s
  · subst e; exact ⟨fun h => by omega, fun h => by omega⟩
  · exact (hw.no (k j (by omega))).elim
theorem BSt.keep (k : BSt L p q C s (some (i, x))) (h : IsW L p q C s (C.w s) y) (hok : ∀ k, Nx.cl L C s k → k < C.w s → WideOk (Nx.wd L p q C s k)) (hf : ¬ flt y x) : BSt L p q C (s + 1) (some (i, x)) := by
  obtain ⟨⟨h1, h2⟩, h3⟩ := k
  refine ⟨⟨by omega, h2⟩, fun j z hj hw => ?_⟩
  by_cases e : j = s
  · subst e
    obtain rfl := hw.uniq h hok
    exact ⟨fun h => by omega, fun _ => hf⟩
  · exact h3 j z (by omega) hw
theorem BSt.more (k : BSt L p q C s (some (i, x))) (h : IsW L p q C s (C.w s) y) (hok : ∀ i, i ≤ s → ∀ k, Nx.cl L C i k → k < C.w i → WideOk (Nx.wd L p q C i k)) (hf : flt y x) : BSt L p q C (s + 1) (some (s, y)) := by
  obtain ⟨⟨h1, h2⟩, h3⟩ := k
  refine ⟨⟨by omega, h⟩, fun j z hj hw => ⟨fun hjs => ?_, fun h => by omega⟩⟩
  obtain ⟨a, b⟩ := h3 j z hjs hw
  have d1 := (h2.ok (hok i (by omega))).d.1
  have d2 := (h.ok (hok s (Nat.le_refl _))).d.1
  have d3 := (hw.ok (hok j (by omega))).d.1
  refine flt_trans d2 d1 d3 hf fun hz => ?_
  rcases Nat.lt_trichotomy j i with e | e | e
  · have a : _ < _ := a e
    have hz : _ < _ := hz
    omega
  · subst e
    obtain rfl := hw.uniq h2 (hok j (by omega))
    exact flt_irr _ hz
  · exact b e hz
theorem BSt.uniq {o o' : Option (Nat × Fr)} (k : BSt L p q C s o) (k' : BSt L p q C s o') (hok : ∀ i, i < s → ∀ k, Nx.cl L C i k → k < C.w i → WideOk (Nx.wd L p q C i k)) : o = o' := by
  cases o with
  | none => cases o' with
    | none => rfl
    | some z =>
      obtain ⟨i, x⟩ := z
      exact (k'.1.2.no (k i k'.1.1)).elim
  | some z =>
    obtain ⟨i, x⟩ := z
    cases o' with
    | none => exact (k.1.2.no (k' i k.1.1)).elim
    | some z' =>
      obtain ⟨j, y⟩ := z'
      obtain ⟨⟨h1, h2⟩, h3⟩ := k
      obtain ⟨⟨h1', h2'⟩, h3'⟩ := k'
      rcases Nat.lt_trichotomy i j with e | e | e
      · exact absurd ((h3' i x h1 h2).1 e) ((h3 j y h1' h2').2 e)
      · subst e
        obtain rfl := h2.uniq h2' (hok i h1)
        rfl
      · exact absurd ((h3 j y h1' h2').1 e) ((h3' i x h1 h2).2 e)
end
open Classical in
/-- The error of Next. -/
noncomputable def Nx.err (L : Runs) (p q : Int) (C : Chs) : Int := if L.err2 p q ≠ 0 then L.err2 p q else if C.err ≠ 0 then C.err else if ¬ L.Cl then 20 else if (∀ i, i < C.n → BnW L p q C i (C.w i)) ∧ ∃ o, BSt L p q C C.n (some o) then 0 else 5
open Classical in
/-- What Next comes to. -/
noncomputable def Nx.res (L : Runs) (p q : Int) (C : Chs) : Nat × Fr := if h : Nx.err L p q C = 0 ∧ ∃ o, BSt L p q C C.n (some o) then Classical.choose h.2 else (0, ⟨0, 0⟩)
theorem Nx.res_of {L : Runs} {p q : Int} {C : Chs} {o : Nat × Fr} (he : Nx.err L p q C = 0) (k : BSt L p q C C.n (some o)) (hok : ∀ i, i < C.n → ∀ k, Nx.cl L C i k → k < C.w i → WideOk (Nx.wd L p q C i k)) : Nx.res L p q C = o := by
  unfold Nx.res
  rw [dif_pos ⟨he, o, k⟩]
  exact Option.some.inj ((Classical.choose_spec (show Nx.err L p q C = 0 ∧ ∃ o, BSt L p q C C.n (some o) from ⟨he, o, k⟩).2).uniq k hok)
theorem Nx.res_err {L : Runs} {p q : Int} {C : Chs} (he : Nx.err L p q C ≠ 0) : Nx.res L p q C = (0, ⟨0, 0⟩) := by
  unfold Nx.res
  rw [dif_neg fun k => he k.1]
end AE.Try
