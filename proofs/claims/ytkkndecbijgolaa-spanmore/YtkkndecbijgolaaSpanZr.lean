/- Plain laws of span: the examples of the chapter. -/
import Derived.Test.YtkkndecbijgolaaSpanZh
import Derived.Test.YtkkndecbijgolaaSpanZq
set_option linter.unusedVariables false
set_option linter.unusedSimpArgs false
set_option linter.unusedSectionVars false
namespace AE.Try
open Go AE Go.Proofs AE.Sp
set_option maxRecDepth 100000
set_option linter.unusedVariables false

def exF : Nat → Run
  | 0 => ⟨1, 1, 10, 12⟩
  | 1 => ⟨1, 2, 14, 15⟩
  | _ => ⟨0, 1, 6, 9⟩
theorem exF_ok (i : Nat) : (exF i).Ok := by
  match i with
  | 0 => exact ⟨by decide, by decide, by decide, by decide, by decide, by decide⟩
  | 1 => exact ⟨by decide, by decide, by decide, by decide, by decide, by decide⟩
  | n + 2 => exact ⟨by show -20 ≤ (0 : Int) ∧ (0 : Int) ≤ 20; decide, by show -20 ≤ (1 : Int) ∧ (1 : Int) ≤ 20; decide, by show (0 : Int) ≠ 0 ∨ (1 : Int) ≠ 0; decide, by show (-100000 : Int) ≤ 6; decide, by show (6 : Int) ≤ 9; decide, by show (9 : Int) ≤ 100000; decide⟩
theorem ex_val {L : Runs} (hf : L.f = exF) : L.Val := fun i _ => by rw [hf]; exact exF_ok i
theorem Runs.lerr_20 {L : Runs} {p q : Int} (e : L.err2 p q = 0) (c : ¬ L.Cl) : L.lerr p q = 20 := by unfold Runs.lerr; rw [if_neg (by omega), if_pos c]
theorem Runs.lerr_5 {L : Runs} {p q : Int} (e : L.err2 p q = 0) (c : L.Cl) (b : ¬ L.Bnd p q) : L.lerr p q = 5 := by unfold Runs.lerr; rw [if_neg (by omega), if_neg (fun k => k c), if_pos b]
theorem Runs.lerr_ok {L : Runs} {p q : Int} (e : L.err2 p q = 0) (c : L.Cl) (b : L.Bnd p q) : L.lerr p q = 0 := by unfold Runs.lerr; rw [if_neg (by omega), if_neg (fun k => k c), if_neg (fun k => k b)]

/-! ### two runs -/
section
variable {L : Runs} (hn : L.n = 2) (hf : L.f = exF)
include hn hf
theorem ex_fits {t : Tru} : L.Fits t ↔ (10 * t.d ≤ t.a + t.b ∧ t.a + t.b ≤ 12 * t.d) ∧ 14 * t.d ≤ t.a + 2 * t.b ∧ t.a + 2 * t.b ≤ 15 * t.d := by
  unfold Runs.Fits
  rw [hn, hf]
  constructor
  · intro h
    have h0 : 10 * t.d ≤ 1 * t.a + 1 * t.b ∧ 1 * t.a + 1 * t.b ≤ 12 * t.d := h 0 (by decide)
    have h1 : 14 * t.d ≤ 1 * t.a + 2 * t.b ∧ 1 * t.a + 2 * t.b ≤ 15 * t.d := h 1 (by decide)
    omega
  · intro h i hi
    match i, hi with
    | 0, _ => exact (show 10 * t.d ≤ 1 * t.a + 1 * t.b ∧ 1 * t.a + 1 * t.b ≤ 12 * t.d by omega)
    | 1, _ => exact (show 14 * t.d ≤ 1 * t.a + 2 * t.b ∧ 1 * t.a + 2 * t.b ≤ 15 * t.d by omega)
theorem ex_err {p q : Int} (fac : Fac p q) : L.err2 p q = 0 := Runs.err2_of (Runs.err_ok (by omega) (ex_val hf)) fac
theorem ex_cl : L.Cl := (cl_iff (ex_val hf)).2 ⟨⟨10, 2, 1⟩, by decide, (ex_fits hn hf).2 (by decide)⟩
theorem ex_bnd (p q : Int) : L.Bnd p q := (bnd_iff (ex_val hf)).1 (.inr (.inl ⟨1, 0, by omega, by decide, by rw [hf]; decide⟩))
theorem ex_lerr {p q : Int} (fac : Fac p q) : L.lerr p q = 0 := Runs.lerr_ok (ex_err hn hf fac) (ex_cl hn hf) (ex_bnd hn hf p q)
theorem ex_lst {p q N D : Int} (t : Tru) (hd : 0 < D) (ht : 0 < t.d) (fit : (10 * t.d ≤ t.a + t.b ∧ t.a + t.b ≤ 12 * t.d) ∧ 14 * t.d ≤ t.a + 2 * t.b ∧ t.a + 2 * t.b ≤ 15 * t.d) (he : (p * t.a + q * t.b) * D = N * t.d)
    (hle : ∀ a b d : Int, 0 < d → (10 * d ≤ a + b ∧ a + b ≤ 12 * d) ∧ 14 * d ≤ a + 2 * b ∧ a + 2 * b ≤ 15 * d → N * d ≤ (p * a + q * b) * D) : Lst L p q N D :=
  ⟨hd, ⟨t, (ex_fits hn hf).2 fit, he, ht⟩, fun s hs hd => hle s.a s.b s.d hd ((ex_fits hn hf).1 hs)⟩
theorem ex_01 : L.lval 0 1 = ⟨2, 1⟩ := ((ex_lst hn hf (p := 0) (q := 1) (N := 2) (D := 1) ⟨10, 2, 1⟩ (by decide) (by decide) (by decide) (by decide) (fun a b d _ h => by omega)).val (ex_lerr hn hf ⟨by decide, by decide⟩)).trans (fr_one 2)
theorem ex_23 : L.lval 2 3 = ⟨24, 1⟩ := ((ex_lst hn hf (p := 2) (q := 3) (N := 24) (D := 1) ⟨6, 4, 1⟩ (by decide) (by decide) (by decide) (by decide) (fun a b d _ h => by omega)).val (ex_lerr hn hf ⟨by decide, by decide⟩)).trans (fr_one 24)
end
/-! ### one, and three -/
section
variable {L : Runs} (hf : L.f = exF)
include hf
theorem ex1_cl (hn : L.n = 1) : L.Cl := (cl_iff (ex_val hf)).2 ⟨⟨10, 2, 1⟩, by decide, fun i hi => by
  obtain rfl : i = 0 := by omega
  rw [hf]; decide⟩
theorem ex1_nb (hn : L.n = 1) : ¬ L.Bnd 1 0 := fun b => by
  rcases (bnd_iff (ex_val hf)).2 b with ⟨h, -⟩ | ⟨i, j, hi, hj, -⟩ | ⟨i, hi, h⟩
  · exact absurd h (by decide)
  · omega
  · obtain rfl : i = 0 := by omega
    rw [hf] at h
    exact absurd h (by decide)
theorem ex1_err (hn : L.n = 1) : L.lerr 1 0 = 5 := Runs.lerr_5 (Runs.err2_of (Runs.err_ok (by omega) (ex_val hf)) ⟨by decide, by decide⟩) (ex1_cl hf hn) (ex1_nb hf hn)
theorem ex3_nc (hn : L.n = 3) : ¬ L.Cl := fun c => by
  obtain ⟨t, hd, h⟩ := (cl_iff (ex_val hf)).1 c
  have h0 := h 0 (by omega)
  have h1 := h 1 (by omega)
  have h2 := h 2 (by omega)
  rw [hf] at h0 h1 h2
  have h0 : 10 * t.d ≤ 1 * t.a + 1 * t.b ∧ 1 * t.a + 1 * t.b ≤ 12 * t.d := h0
  have h1 : 14 * t.d ≤ 1 * t.a + 2 * t.b ∧ 1 * t.a + 2 * t.b ≤ 15 * t.d := h1
  have h2 : 6 * t.d ≤ 0 * t.a + 1 * t.b ∧ 0 * t.a + 1 * t.b ≤ 9 * t.d := h2
  omega
theorem ex3_e (hn : L.n = 3) : L.err = 0 := Runs.err_ok (by omega) (ex_val hf)
theorem ex3_err (hn : L.n = 3) : L.lerr 0 0 = 20 := Runs.lerr_20 (Runs.err2_of (ex3_e hf hn) ⟨by decide, by decide⟩) (ex3_nc hf hn)
theorem ex3_derr (hn : L.n = 3) : L.derr = 0 := by unfold Runs.derr; rw [if_neg (by rw [ex3_e hf hn]; decide), if_neg (ex3_nc hf hn)]
end
/-! ### a proof -/
def exP : Nat → PS
  | 0 => ⟨1, false, 1⟩
  | _ => ⟨0, true, 1⟩
theorem ex_right {L : Runs} {P : PSs} (hn : L.n = 2) (hf : L.f = exF) (pn : P.n = 2) (pf : P.f = exP) : Right L 0 1 P 1 ∧ (P.sum L).w = 2 := by
  have es : P.sum L = ⟨0, 1, 2⟩ := by
    unfold PSs.sum
    rw [pn, pf]
    show sumOf L [exP 0, exP 1] = _
    unfold sumOf sdOf exP
    rw [hf]
    rfl
  refine ⟨⟨ex_err hn hf ⟨by decide, by decide⟩, by omega, fun i hi => ?_, by decide, by rw [es]; rfl, by rw [es]; rfl⟩, by rw [es]⟩
  rw [pn] at hi
  rw [pf, hn]
  match i, hi with
  | 0, _ => decide
  | 1, _ => decide
/-! ### choices -/
structure ExC (C : Chs) : Prop where
  n : C.n ≤ 2
  w : ∀ i, C.w i = 2
  p : ∀ i, C.p i = 1
  q : ∀ i, C.q i = if i = 0 then 0 else 3
  lo : ∀ i k, C.lo i k = if i = 0 then (if k = 0 then 5 else 8) else if k = 0 then 16 else 20
  hi : ∀ i k, C.hi i k = if i = 0 then (if k = 0 then 6 else 9) else if k = 0 then 16 else 20
section
variable {L : Runs} {C : Chs} (hn : L.n = 2) (hf : L.f = exF) (e : ExC C)
theorem ExC.run (e : ExC C) (i k : Nat) : C.run i k = ⟨1, if i = 0 then 0 else 3, if i = 0 then (if k = 0 then 5 else 8) else if k = 0 then 16 else 20, if i = 0 then (if k = 0 then 6 else 9) else if k = 0 then 16 else 20⟩ := by
  unfold Chs.run
  rw [e.p, e.q, e.lo, e.hi]
theorem ExC.good (e : ExC C) (i : Nat) : C.Good i := by
  refine ⟨by rw [e.w]; decide, fun k _ => ?_⟩
  rw [e.run]
  refine ⟨?_, ?_, .inl (show (1 : Int) ≠ 0 by decide), ?_, ?_, ?_⟩ <;> dsimp only <;> (try split) <;> (try split) <;> decide
theorem ex_low {x : Run} (hx : x.Ok) {p q N D : Int} (hn : L.n = 2) (hf : L.f = exF) (t : Tru) (hd : 0 < D) (ht : 0 < t.d) (fit : ((10 * t.d ≤ t.a + t.b ∧ t.a + t.b ≤ 12 * t.d) ∧ 14 * t.d ≤ t.a + 2 * t.b ∧ t.a + 2 * t.b ≤ 15 * t.d) ∧ x.Fit t) (he : (p * t.a + q * t.b) * D = N * t.d)
    (hle : ∀ a b d : Int, 0 < d → (10 * d ≤ a + b ∧ a + b ≤ 12 * d) ∧ 14 * d ≤ a + 2 * b ∧ a + 2 * b ≤ 15 * d → x.lo * d ≤ x.p * a + x.q * b ∧ x.p * a + x.q * b ≤ x.hi * d → N * d ≤ (p * a + q * b) * D) : (L.plus x).low p q = fr N D ∧ (L.plus x).Cl := by
  have f1 : (L.plus x).Fits t := Runs.plus_fits.2 ⟨(ex_fits hn hf).2 fit.1, fit.2⟩
  refine ⟨Lst.low ⟨hd, ⟨t, f1, he, ht⟩, fun s hs hd => ?_⟩, (cl_iff (L.plus_val (ex_val hf) hx)).2 ⟨t, ht, f1⟩⟩
  obtain ⟨h1, h2⟩ := Runs.plus_fits.1 hs
  exact hle s.a s.b s.d hd ((ex_fits hn hf).1 h1) h2
theorem fr_lit {n d n' d' : Int} (h : n / (Int.gcd n d : Int) = n') (h' : d / (Int.gcd n d : Int) = d') : fr n d = ⟨n', d'⟩ := by unfold fr; rw [h, h']
theorem wide_lit {K : Runs} {p q : Int} {x y z : Fr} (h1 : K.low p q = x) (h2 : K.low (-p) (-q) = y) (h : fr (-y.n * x.d - x.n * y.d) (x.d * y.d) = z) : K.wide p q = z := by unfold Runs.wide; rw [h1, h2]; exact h
theorem ex_w00 (hn : L.n = 2) (hf : L.f = exF) (e : ExC C) : Nx.cl L C 0 0 ∧ Nx.wd L 0 1 C 0 0 = ⟨1, 1⟩ := by
  have g := (e.good 0).2 0 (by rw [e.w]; decide)
  unfold Nx.cl Nx.wd
  rw [e.run] at g ⊢
  have a := ex_low (L := L) g hn hf (p := 0) (q := 1) (N := 4) (D := 1) ⟨6, 4, 1⟩ (by decide) (by decide) (by decide) (by decide) (fun a b d _ h1 h2 => by dsimp only [if_true] at h2; simp only [if_true] at h2; omega)
  have b := ex_low (L := L) g hn hf (p := -0) (q := -1) (N := -5) (D := 1) ⟨5, 5, 1⟩ (by decide) (by decide) (by decide) (by decide) (fun a b d _ h1 h2 => by simp only [if_true] at h2; omega)
  exact ⟨a.2, wide_lit (a.1.trans (fr_one 4)) (b.1.trans (fr_one (-5))) (fr_one 1)⟩
theorem ex_w01 (hn : L.n = 2) (hf : L.f = exF) (e : ExC C) : Nx.cl L C 0 1 ∧ Nx.wd L 0 1 C 0 1 = ⟨1, 1⟩ := by
  have g := (e.good 0).2 1 (by rw [e.w]; decide)
  unfold Nx.cl Nx.wd
  rw [e.run] at g ⊢
  have a := ex_low (L := L) g hn hf (p := 0) (q := 1) (N := 5) (D := 2) ⟨18, 5, 2⟩ (by decide) (by decide) (by decide) (by decide) (fun a b d _ h1 h2 => by simp only [if_true, Nat.one_ne_zero, if_false] at h2; omega)
  have b := ex_low (L := L) g hn hf (p := -0) (q := -1) (N := -7) (D := 2) ⟨16, 7, 2⟩ (by decide) (by decide) (by decide) (by decide) (fun a b d _ h1 h2 => by simp only [if_true, Nat.one_ne_zero, if_false] at h2; omega)
  exact ⟨a.2, wide_lit (a.1.trans (fr_lit (n' := 5) (d' := 2) (by decide) (by decide))) (b.1.trans (fr_lit (n' := -7) (d' := 2) (by decide) (by decide))) (fr_lit (by decide) (by decide))⟩
theorem ex_w10 (hn : L.n = 2) (hf : L.f = exF) (e : ExC C) : Nx.cl L C 1 0 ∧ Nx.wd L 0 1 C 1 0 = ⟨0, 1⟩ := by
  have g := (e.good 1).2 0 (by rw [e.w]; decide)
  unfold Nx.cl Nx.wd
  rw [e.run] at g ⊢
  have a := ex_low (L := L) g hn hf (p := 0) (q := 1) (N := 2) (D := 1) ⟨10, 2, 1⟩ (by decide) (by decide) (by decide) (by decide) (fun a b d _ h1 h2 => by simp only [if_true, Nat.one_ne_zero, if_false] at h2; omega)
  have b := ex_low (L := L) g hn hf (p := -0) (q := -1) (N := -2) (D := 1) ⟨10, 2, 1⟩ (by decide) (by decide) (by decide) (by decide) (fun a b d _ h1 h2 => by simp only [if_true, Nat.one_ne_zero, if_false] at h2; omega)
  exact ⟨a.2, wide_lit (a.1.trans (fr_one 2)) (b.1.trans (fr_one (-2))) (fr_one 0)⟩
theorem ex_w11 (hn : L.n = 2) (hf : L.f = exF) (e : ExC C) : Nx.cl L C 1 1 ∧ Nx.wd L 0 1 C 1 1 = ⟨0, 1⟩ := by
  have g := (e.good 1).2 1 (by rw [e.w]; decide)
  unfold Nx.cl Nx.wd
  rw [e.run] at g ⊢
  have a := ex_low (L := L) g hn hf (p := 0) (q := 1) (N := 5) (D := 1) ⟨5, 5, 1⟩ (by decide) (by decide) (by decide) (by decide) (fun a b d _ h1 h2 => by simp only [Nat.one_ne_zero, if_false] at h2; omega)
  have b := ex_low (L := L) g hn hf (p := -0) (q := -1) (N := -5) (D := 1) ⟨5, 5, 1⟩ (by decide) (by decide) (by decide) (by decide) (fun a b d _ h1 h2 => by simp only [Nat.one_ne_zero, if_false] at h2; omega)
  exact ⟨a.2, wide_lit (a.1.trans (fr_one 5)) (b.1.trans (fr_one (-5))) (fr_one 0)⟩
theorem plus_bnd (hn : L.n = 2) (hf : L.f = exF) {x : Run} (hx : x.Ok) (p q : Int) : (L.plus x).Bnd p q := (bnd_iff (L.plus_val (ex_val hf) hx)).1 (.inr (.inl ⟨1, 0, by show 1 < L.n + 1; omega, by decide, by
  unfold Runs.plus
  dsimp only
  rw [if_pos (by omega), if_pos (by omega), hf]; decide⟩))
theorem two_cases {P : Nat → Prop} (h0 : P 0) (h1 : P 1) : ∀ k, k < 2 → P k := fun k hk => by
  match k, hk with
  | 0, _ => exact h0
  | 1, _ => exact h1
theorem ex_is0 (hn : L.n = 2) (hf : L.f = exF) (e : ExC C) : IsW L 0 1 C 0 (C.w 0) ⟨1, 1⟩ := by
  obtain ⟨a1, a2⟩ := ex_w00 hn hf e
  obtain ⟨b1, b2⟩ := ex_w01 hn hf e
  rw [e.w]
  refine ⟨⟨0, by decide, a1, a2.symm⟩, two_cases (fun _ => by rw [a2]; exact flt_irr _) (fun _ => by rw [b2]; exact flt_irr _)⟩
theorem ex_is1 (hn : L.n = 2) (hf : L.f = exF) (e : ExC C) : IsW L 0 1 C 1 (C.w 1) ⟨0, 1⟩ := by
  obtain ⟨a1, a2⟩ := ex_w10 hn hf e
  obtain ⟨b1, b2⟩ := ex_w11 hn hf e
  rw [e.w]
  refine ⟨⟨0, by decide, a1, a2.symm⟩, two_cases (fun _ => by rw [a2]; exact flt_irr _) (fun _ => by rw [b2]; exact flt_irr _)⟩
theorem ex_bn (hn : L.n = 2) (hf : L.f = exF) (e : ExC C) (i : Nat) : BnW L 0 1 C i (C.w i) := fun k hk _ => plus_bnd hn hf ((e.good i).2 k hk) 0 1
theorem ex_ok (hn : L.n = 2) (hf : L.f = exF) (e : ExC C) (i k : Nat) (hc : Nx.cl L C i k) (hk : k < C.w i) : WideOk (Nx.wd L 0 1 C i k) := wide_ok (L.plus_val (ex_val hf) ((e.good i).2 k hk)) hc (ex_bn hn hf e i k hk hc) ⟨by decide, by decide⟩
theorem ex_cerr (e : ExC C) (h : 1 ≤ C.n) : C.err = 0 := Chs.err_0 (by have := e.n; omega) fun i _ => e.good i
theorem ex_next2 (hn : L.n = 2) (hf : L.f = exF) (e : ExC C) (h : C.n = 2) : Nx.err L 0 1 C = 0 ∧ Nx.res L 0 1 C = (1, ⟨0, 1⟩) := by
  have b0 : BSt L 0 1 C 1 (some (0, ⟨1, 1⟩)) := BSt.first (fun j hj => absurd hj (Nat.not_lt_zero j)) (ex_is0 hn hf e)
  have b1 : BSt L 0 1 C 2 (some (1, ⟨0, 1⟩)) := BSt.more b0 (ex_is1 hn hf e) (fun i _ k hc hk => ex_ok hn hf e i k hc hk) (by decide)
  rw [← h] at b1
  have er := Nx.e5 (ex_err hn hf ⟨by decide, by decide⟩) (ex_cerr e (by omega)) (ex_cl hn hf) ⟨fun i _ => ex_bn hn hf e i, _, b1⟩
  exact ⟨er, Nx.res_of er b1 fun i _ k hc hk => ex_ok hn hf e i k hc hk⟩
end
end AE.Try
