/- A chart with one more pitch, as it lies. -/
import Derived.Test.YtbfhhncmmllblaaChartZk
import Derived.Test.YtbfhhncmmllblaaChartE
set_option linter.unusedVariables false
set_option linter.unusedSimpArgs false
set_option linter.unusedSectionVars false
namespace AE.Try
open Go AE Go.Proofs
set_option maxRecDepth 100000
set_option linter.unusedVariables false

theorem grown_ins {e : TypeId} {s i n : Nat} {h : H} {g : Nat → Value} {x : Value} {d : Addr} (G : GAt s h e 1 (0 + i + 1 + (n - i)) ([] ++ (List.range i).map (fun j => g (0 + j)) ++ [x] ++ (List.range (n - i)).map (fun j => g (i + j))) (some d)) (hi : i ≤ n) : Vals h d (n + 1) (insA i x g) := by
  rw [List.nil_append, ins_list hi] at G
  obtain ⟨a, hv, -, hld, -⟩ := G.load
  obtain rfl : d = a := Option.some.inj hv
  intro j hj
  have := cut_rowsOf (g := fun j => [insA i x g j]) (w := 1) (fun _ => rfl) (show j < i + 1 + (n - i) by omega) [] [] (a := j) (by simp)
  exact hld _ _ _ (by simpa using this)
theorem insA_lt {α : Type} {i j : Nat} {x : α} {f : Nat → α} (h : j < i) : insA i x f j = f j := if_pos h
theorem insA_at {α : Type} {i : Nat} {x : α} {f : Nat → α} : insA i x f i = x := by unfold insA; rw [if_neg (by omega), if_pos rfl]
theorem insA_gt {α : Type} {i j : Nat} {x : α} {f : Nat → α} (h : i < j) : insA i x f j = f (j - 1) := by unfold insA; rw [if_neg (by omega), if_neg (by omega)]

def insM (i : Nat) (M : Mat) (w : Nat) (b : Option Addr) (a : Addr) (c : Nat) (d : Addr) : Mat := ⟨M.n + 1, insA i w M.w, some d, d, 0, insA i b M.rb, insA i a M.ra, insA i c M.rc⟩
theorem insM_row (i : Nat) (M : Mat) (w : Nat) (b : Option Addr) (a : Addr) (c : Nat) (d : Addr) (j : Nat) : (insM i M w b a c d).row j = insA i (.slice b w c) M.row j := by
  unfold Mat.row insM
  rcases Nat.lt_trichotomy j i with hj | hj | hj
  · simp only [insA_lt hj]
  · subst hj; simp only [insA_at]
  · simp only [insA_gt hj]

/-- The chart with one more pitch. -/
def Tbl.ins (T : Tbl) (i : Nat) (x : Int) (dP a2 dR : Addr) : Tbl := ⟨⟨T.P.n + 1, insI i x T.P.f, some dP, dP, 0⟩, T.A, insM i T.R T.A.n (some a2) a2 0 dR, insA i (fun _ => 0) T.lo, insA i (fun _ => 100000) T.hi⟩
def Pul.ins (p : Pul) (i w : Nat) (r : Nat → Int) (a1 dM : Addr) : Pul := ⟨insM i p.M w (some a1) a1 0 dM, insA i r p.f⟩

section
variable {T : Tbl} {A : Pul} {i : Nat} {x : Int} {r : Nat → Int} {dP a2 dR a1 dM : Addr} {h : H} {m N : Nat}
theorem ins_ok (hT : T.Ok m h) (g : T.Good) (hi : i < T.P.n) (hm : m ≤ N) (vP : Vals h dP (T.P.n + 1) (insA i (.int .i64 x) fun j => .int .i64 (T.P.f j))) (bP : dP.block < N) (vR : Vals h dR (T.R.n + 1) (insA i (.slice (some a2) T.A.n 0) fun j => T.R.row j)) (bR : dR.block < N) (v2 : Els h a2 T.A.n 2 fun _ => [.int .i64 0, .int .i64 100000]) (b2 : a2.block < N) : (T.ins i x dP a2 dR).Ok N h := by
  obtain ⟨⟨Pe, Pi, Pr, Pl⟩, kA, ⟨Re, Ri, Rr, Rl, Rre, Rri, Rrr, Rrl⟩⟩ := hT
  have gn := g.n
  have gp8 := g.p8
  have ga10 := g.a10
  refine ⟨⟨fun _ => rfl, fun j hj => ?_, fun _ => bP, by show T.P.n + 1 ≤ _; omega⟩, kA.same (Same.refl _ _) hm, ⟨fun _ => rfl, fun j hj => ?_, fun _ => bR, by show T.R.n + 1 ≤ _; omega, fun j hj h0 => ?_, fun j hj => ?_, fun j hj h0 => ?_, fun j hj => ?_⟩⟩
  · have := vP j hj
    refine this.trans ?_
    show _ = some [Value.int .i64 (insI i x T.P.f j)]
    unfold insA insI
    split
    · rfl
    · split <;> rfl
  · rw [show (T.ins i x dP a2 dR).R = insM i T.R T.A.n (some a2) a2 0 dR from rfl, insM_row]
    exact vR j hj
  · have hj : j < T.R.n + 1 := hj
    show insA i (some a2) T.R.rb j = some (insA i a2 T.R.ra j)
    have h0 : 0 < insA i T.A.n T.R.w j := h0
    rcases Nat.lt_trichotomy j i with hc | hc | hc
    · rw [insA_lt hc] at h0 ⊢; rw [insA_lt hc]; exact Rre j (by omega) h0
    · subst hc; rw [insA_at, insA_at]
    · rw [insA_gt hc] at h0 ⊢; rw [insA_gt hc]; exact Rre (j - 1) (by omega) h0
  · have hj : j < T.R.n + 1 := hj
    show Els h (insA i a2 T.R.ra j) (insA i T.A.n T.R.w j) 2 (fun k => [.int .i64 (insA i (fun _ => 0) T.lo j k), .int .i64 (insA i (fun _ => 100000) T.hi j k)])
    rcases Nat.lt_trichotomy j i with hc | hc | hc
    · simp only [insA_lt hc]; exact Rri j (by omega)
    · subst hc; simp only [insA_at]; exact v2
    · simp only [insA_gt hc]; exact Rri (j - 1) (by omega)
  · have hj : j < T.R.n + 1 := hj
    show (insA i a2 T.R.ra j).block < N
    have h0 : 0 < insA i T.A.n T.R.w j := h0
    rcases Nat.lt_trichotomy j i with hc | hc | hc
    · rw [insA_lt hc] at h0 ⊢; have := Rrr j (by omega) h0; omega
    · subst hc; rw [insA_at]; exact b2
    · rw [insA_gt hc] at h0 ⊢; have := Rrr (j - 1) (by omega) h0; omega
  · have hj : j < T.R.n + 1 := hj
    show insA i T.A.n T.R.w j ≤ _
    rcases Nat.lt_trichotomy j i with hc | hc | hc
    · rw [insA_lt hc]; exact Rrl j (by omega)
    · subst hc; rw [insA_at]; omega
    · rw [insA_gt hc]; exact Rrl (j - 1) (by omega)
theorem pins_ok (hA : A.Ok m h) (g : T.Good) (t : T.True A) (hi : i < T.P.n) (hm : m ≤ N) (vM : Vals h dM (A.M.n + 1) (insA i (.slice (some a1) T.A.n 0) fun j => A.M.row j)) (bM : dM.block < N) (v1 : Ints h a1 T.A.n r) (b1 : a1.block < N) : (A.ins i T.A.n r a1 dM).Ok N h := by
  obtain ⟨Re, Ri, Rr, Rl, Rre, Rri, Rrr, Rrl, Rrf⟩ := hA
  have gn := t.n
  have gp8 := g.p8
  have ga10 := g.a10
  refine ⟨fun _ => rfl, fun j hj => ?_, fun _ => bM, by show A.M.n + 1 ≤ _; omega, fun j hj h0 => ?_, fun j hj => ?_, fun j hj h0 => ?_, fun j hj => ?_, fun j hj h0 => ?_⟩
  · have hv := vM j hj
    rw [← insM_row i A.M T.A.n (some a1) a1 0 dM j] at hv
    exact hv
  · have hj : j < A.M.n + 1 := hj
    show insA i (some a1) A.M.rb j = some (insA i a1 A.M.ra j)
    have h0 : 0 < insA i T.A.n A.M.w j := h0
    rcases Nat.lt_trichotomy j i with hc | hc | hc
    · rw [insA_lt hc] at h0 ⊢; rw [insA_lt hc]; exact Rre j (by omega) h0
    · subst hc; rw [insA_at, insA_at]
    · rw [insA_gt hc] at h0 ⊢; rw [insA_gt hc]; exact Rre (j - 1) (by omega) h0
  · have hj : j < A.M.n + 1 := hj
    show Ints h (insA i a1 A.M.ra j) (insA i T.A.n A.M.w j) (insA i r A.f j)
    rcases Nat.lt_trichotomy j i with hc | hc | hc
    · simp only [insA_lt hc]; exact Rri j (by omega)
    · subst hc; simp only [insA_at]; exact v1
    · simp only [insA_gt hc]; exact Rri (j - 1) (by omega)
  · have hj : j < A.M.n + 1 := hj
    show (insA i a1 A.M.ra j).block < N
    have h0 : 0 < insA i T.A.n A.M.w j := h0
    rcases Nat.lt_trichotomy j i with hc | hc | hc
    · rw [insA_lt hc] at h0 ⊢; have := Rrr j (by omega) h0; omega
    · subst hc; rw [insA_at]; exact b1
    · rw [insA_gt hc] at h0 ⊢; have := Rrr (j - 1) (by omega) h0; omega
  · have hj : j < A.M.n + 1 := hj
    show insA i T.A.n A.M.w j ≤ _
    rcases Nat.lt_trichotomy j i with hc | hc | hc
    · rw [insA_lt hc]; exact Rrl j (by omega)
    · subst hc; rw [insA_at]; omega
    · rw [insA_gt hc]; exact Rrl (j - 1) (by omega)
  · have hj : j < A.M.n + 1 := hj
    show insA i 0 A.M.rc j < far
    have h0 : 0 < insA i T.A.n A.M.w j := h0
    rcases Nat.lt_trichotomy j i with hc | hc | hc
    · rw [insA_lt hc] at h0 ⊢; exact Rrf j (by omega) h0
    · subst hc; rw [insA_at]; unfold far; omega
    · rw [insA_gt hc] at h0 ⊢; exact Rrf (j - 1) (by omega) h0
theorem ins_good (g : T.Good) (h0 : 0 < i) (hi : i < T.P.n) (h8 : T.P.n < 8) (h1 : T.P.f (i - 1) < x) (h2 : x < T.P.f i) : (T.ins i x dP a2 dR).Good := by
  have gn := g.n
  have gp2 := g.p2
  refine ⟨by show 2 ≤ T.P.n + 1; omega, by show T.P.n + 1 ≤ 8; omega, g.a2, g.a10, by show T.R.n + 1 = T.P.n + 1; omega, fun j hj => ?_, rising_ins g.rp h0 hi h1 h2, g.ra, fun j k hj hk => ?_, fun j k hj hk => ?_⟩
  · have hj : j < T.P.n + 1 := hj
    show insA i T.A.n T.R.w j = T.A.n
    rcases Nat.lt_trichotomy j i with hc | hc | hc
    · rw [insA_lt hc]; exact g.w j (by omega)
    · subst hc; rw [insA_at]
    · rw [insA_gt hc]; exact g.w (j - 1) (by omega)
  · have hj : j < T.P.n + 1 := hj
    unfold Tbl.Bd
    show 0 ≤ insA i (fun _ => 0) T.lo j k ∧ insA i (fun _ => 0) T.lo j k ≤ insA i (fun _ => 100000) T.hi j k ∧ insA i (fun _ => 100000) T.hi j k ≤ 100000
    rcases Nat.lt_trichotomy j i with hc | hc | hc
    · rw [insA_lt hc, insA_lt hc]; exact g.bd j k (by omega) hk
    · subst hc; rw [insA_at, insA_at]; decide
    · rw [insA_gt hc, insA_gt hc]; exact g.bd (j - 1) k (by omega) hk
  · have hj : j < T.P.n + 1 := hj
    unfold Tbl.Fl
    show insA i (fun _ => 0) T.lo j (k + 1) ≤ insA i (fun _ => 0) T.lo j k ∧ insA i (fun _ => 100000) T.hi j (k + 1) ≤ insA i (fun _ => 100000) T.hi j k
    rcases Nat.lt_trichotomy j i with hc | hc | hc
    · rw [insA_lt hc, insA_lt hc]; exact g.fl j k (by omega) hk
    · subst hc; rw [insA_at, insA_at]; decide
    · rw [insA_gt hc, insA_gt hc]; exact g.fl (j - 1) k (by omega) hk
theorem ins_true (g : T.Good) (t : T.True A) (hi : i < T.P.n) (hr : ∀ k, k < T.A.n → 0 ≤ r k ∧ r k ≤ 100000) : (T.ins i x dP a2 dR).True (A.ins i T.A.n r a1 dM) := by
  have tn := t.n
  refine ⟨by show A.M.n + 1 = T.P.n + 1; omega, fun j hj => ?_, fun j k hj hk => ?_⟩
  · have hj : j < T.P.n + 1 := hj
    show insA i T.A.n A.M.w j = T.A.n
    rcases Nat.lt_trichotomy j i with hc | hc | hc
    · rw [insA_lt hc]; exact t.w j (by omega)
    · subst hc; rw [insA_at]
    · rw [insA_gt hc]; exact t.w (j - 1) (by omega)
  · have hj : j < T.P.n + 1 := hj
    show insA i (fun _ => 0) T.lo j k ≤ insA i r A.f j k ∧ insA i r A.f j k ≤ insA i (fun _ => 100000) T.hi j k
    rcases Nat.lt_trichotomy j i with hc | hc | hc
    · rw [insA_lt hc, insA_lt hc, insA_lt hc]; exact t.rng j k (by omega) hk
    · subst hc; rw [insA_at, insA_at, insA_at]; exact hr k hk
    · rw [insA_gt hc, insA_gt hc, insA_gt hc]; exact t.rng (j - 1) k (by omega) hk
theorem ins_ins (g : T.Good) (h0 : 0 < i) (hi : i < T.P.n) (h8 : T.P.n < 8) (h1 : T.P.f (i - 1) < x) (h2 : x < T.P.f i) (hr : ∀ k, k < T.A.n → T.val ⟨x, T.A.f k⟩ A.f = ⟨r k, 1⟩) : Ins T (T.ins i x dP a2 dR) i x A.f (A.ins i T.A.n r a1 dM).f r :=
  ⟨g, h0, hi, h1, h2, rfl, rfl, rfl, rising_ins g.rp h0 hi h1 h2, hr, fun j k hj hk => by
    show insA i r A.f j k = insR i r A.f j k
    unfold insA insR
    split
    · rfl
    · split <;> rfl⟩
end
end AE.Try
