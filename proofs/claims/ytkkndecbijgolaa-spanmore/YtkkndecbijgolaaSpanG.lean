/- Walks of span: sides that are put together. -/
import Derived.Test.YtkkndecbijgolaaJoin4
import Derived.Test.YtkkndecbijgolaaAEthree
set_option linter.unusedVariables false
set_option linter.unusedSimpArgs false
set_option linter.unusedSectionVars false
namespace AE.Try
open Go AE Go.Proofs AE.Sp
set_option maxRecDepth 100000
set_option linter.unusedVariables false

/-- Sides, each taken so often, put together. -/
def comb (S : Nat → Sd) (l : List (Nat × Nat)) : Sd := l.foldl (fun acc p => acc.add ((S p.1).by p.2)) ⟨0, 0, 0⟩
theorem comb_add (S : Nat → Sd) (l : List (Nat × Nat)) (p : Nat × Nat) : comb S (l ++ [p]) = (comb S l).add ((S p.1).by p.2) := by simp [comb]
theorem by_up {s : Sd} (k : s.Up 20 100000) {n : Nat} (hn : n ≤ 800) : (s.by n).Up 16000 80000000 := by
  have b1 := mul_bnd (b := (n : Int)) (B := 800) k.u.1 k.u.2 (by omega) (by omega)
  have b2 := mul_bnd (b := (n : Int)) (B := 800) k.v.1 k.v.2 (by omega) (by omega)
  have b3 := mul_bnd (b := (n : Int)) (B := 800) k.w.1 k.w.2 (by omega) (by omega)
  exact ⟨by unfold Sd.by; dsimp only; omega, by unfold Sd.by; dsimp only; omega, by unfold Sd.by; dsimp only; omega⟩
theorem comb_up {S : Nat → Sd} {N : Nat} (hS : ∀ i, i < N → (S i).Up 20 100000) {l : List (Nat × Nat)} (hl : ∀ p ∈ l, p.1 < N ∧ p.2 ≤ 800) (h3 : l.length ≤ 3) : (comb S l).Up 48000 240000000 := by
  have key : ∀ (l : List (Nat × Nat)) (acc : Sd) (c : Int), (∀ p ∈ l, p.1 < N ∧ p.2 ≤ 800) → acc.Up (16000 * c) (80000000 * c) → 0 ≤ c → (l.foldl (fun acc p => acc.add ((S p.1).by p.2)) acc).Up (16000 * (c + l.length)) (80000000 * (c + l.length)) := by
    intro l
    induction l with
    | nil => intro acc c _ k _; simpa using k
    | cons p l ih =>
      intro acc c hl k hc
      have hp := hl p (by simp)
      have b := by_up (hS p.1 hp.1) hp.2
      have := ih (acc.add ((S p.1).by p.2)) (c + 1) (fun x hx => hl x (by simp [hx])) ⟨by have := k.u; have := b.u; unfold Sd.add; dsimp only; omega, by have := k.v; have := b.v; unfold Sd.add; dsimp only; omega, by have := k.w; have := b.w; unfold Sd.add; dsimp only; omega⟩ (by omega)
      have e : c + 1 + (l.length : Int) = c + ((p :: l).length : Int) := by simp only [List.length_cons]; omega
      rw [e] at this
      exact this
  have := key l ⟨0, 0, 0⟩ 0 hl ⟨by dsimp only; omega, by dsimp only; omega, by dsimp only; omega⟩ (Int.le_refl _)
  obtain ⟨a, b, c⟩ := this
  refine ⟨?_, ?_, ?_⟩
  · show -48000 ≤ (comb S l).u ∧ _
    unfold comb; omega
  · unfold comb; omega
  · unfold comb; omega

/-- Sides that were put together, as they lie: the row of how often each is taken, and what is in it. -/
structure Mk where
  r : Option Nat
  l : List (Nat × Nat)
  s : Sd
  t : Int
def Mk.cells (M : Mk) : List Value := [.map M.r, .int .i64 M.s.u, .int .i64 M.s.v, .int .i64 M.s.w, .int .i64 M.t]
/-- Nothing is put together. -/
def Mk.none : Mk := ⟨.none, [], ⟨0, 0, 0⟩, 0⟩
structure Mk.Ok (M : Mk) (S : Nat → Sd) (N b m : Nat) (h : H) : Prop where
  g : ∀ q, M.r = some q → (b ≤ q ∧ q < m) ∧ h.get q = some (.map (ents M.l 0) M.l.length)
  z : M.r = .none → M.l = []
  k : (M.l.map Prod.fst).Pairwise (· < ·)
  v : ∀ p ∈ M.l, p.1 < N ∧ p.2 ≤ 800
  n : M.l.length ≤ 3
  s : M.s = comb S M.l
theorem Mk.Ok.frame {M : Mk} {S : Nat → Sd} {N b b' m m' : Nat} {h h' : H} (k : M.Ok S N b m h) (hb : b' ≤ b) (hm : m ≤ m') (s : ∀ r, b ≤ r → r < m → h'.get r = h.get r) : M.Ok S N b' m' h' :=
  ⟨fun q e => ⟨by have := (k.g q e).1; omega, (s _ (k.g q e).1.1 (k.g q e).1.2).trans (k.g q e).2⟩, k.z, k.k, k.v, k.n, k.s⟩

theorem _root_.AE.Sp.Sd.Up.mono {F W F' W' : Int} {s : Sd} (k : s.Up F W) (h1 : F ≤ F') (h2 : W ≤ W') : s.Up F' W' := ⟨by have := k.u; omega, by have := k.v; omega, by have := k.w; omega⟩
theorem sum2_w {h : H} {a b : Sd} {r : Nat} {F W : Int} {e : TypeId} (ka : a.Up F W) (kb : b.Up F W) (hF : F ≤ 2305843009213693952) (hW : W ≤ 2305843009213693952) (hg : h.get r = some (.cells [.int .i64 a.u, .int .i64 a.v, .int .i64 a.w, .int .i64 b.u, .int .i64 b.v, .int .i64 b.w] e)) (hr : r < h.next) : AW Try.prog 59 h.next h [.slice (some ⟨r, 0, none⟩) 2 2] (fun v _ => v = .agg ⟨(a.add b).cells⟩) := sum_w ka kb hF hW hg hr

def lstOf (g b : Nat → Nat) (k : Nat) : List (Nat × Nat) := (List.range k).map fun i => (g i, b i)
theorem lstOf_succ (g b : Nat → Nat) (k : Nat) : lstOf g b (k + 1) = lstOf g b k ++ [(g k, b k)] := by simp [lstOf, List.range_succ]
theorem lstOf_len (g b : Nat → Nat) (k : Nat) : (lstOf g b k).length = k := by simp [lstOf]
theorem mem_lstOf {g b : Nat → Nat} {k : Nat} {p : Nat × Nat} : p ∈ lstOf g b k ↔ ∃ i, i < k ∧ p = (g i, b i) := by
  simp only [lstOf, List.mem_map, List.mem_range]
  exact ⟨fun ⟨i, hi, e⟩ => ⟨i, hi, e.symm⟩, fun ⟨i, hi, e⟩ => ⟨i, hi, e.symm⟩⟩
theorem lstOf_inc {g b : Nat → Nat} : ∀ {k : Nat}, (∀ i j, i < j → j < k → g i < g j) → ((lstOf g b k).map Prod.fst).Pairwise (· < ·)
  | 0, _ => by simp [lstOf]
  | k + 1, h => by
    rw [lstOf_succ, List.map_append, List.pairwise_append]
    refine ⟨lstOf_inc fun i j hi hj => h i j hi (by omega), by simp, fun x hx y hy => ?_⟩
    obtain ⟨p, hp, rfl⟩ := List.mem_map.1 hx
    obtain ⟨i, hi, rfl⟩ := mem_lstOf.1 hp
    simp only [List.map_cons, List.map_nil, List.mem_singleton] at hy
    subst hy
    exact h i k hi (by omega)
theorem putE_new {l : List (Nat × Nat)} {a b : Nat} (h : ∀ p ∈ l, p.1 ≠ a) : putE l a b = l ++ [(a, b)] := by
  have : l.findIdx? (fun p => p.1 == a) = none := List.findIdx?_eq_none_iff.2 fun p hp => by simpa using h p hp
  unfold putE
  rw [this]

theorem kSpanG0 {G G' : Prop} (g : G') (t : G' → G := by ((apply q_call); (focus exact byNext); (focus exact byLo); (focus ((apply by_w (F := 20) (W := 100000) (N := 800); (focus assumption); (focus omega); (focus decide); (focus decide)))))) : G := t g

set_option maxHeartbeats 4000000 in
theorem take_w {h : H} {T : Tab} {m : Nat} {G B : Arr} {g b : Nat → Nat} {t : Int} (hm : m ≤ h.next) (hT : T.Ok m h) (hG : G.Ok m h) (hB : B.Ok m h) (gn : G.n ≤ 3) (bn : B.n = G.n) (hg : ∀ i, i < G.n → G.f i = (g i : Int) ∧ g i < 2 * T.n) (hb : ∀ i, i < G.n → B.f i = (b i : Int) ∧ b i ≤ 800) (inc : ∀ i j, i < j → j < G.n → g i < g j) :
    AW Try.prog 92 h.next h [.pointer (some ⟨T.r, 0, none⟩), .slice G.b G.n G.c, .int .i64 t, .slice B.b B.n B.c] (fun v h' => ∃ q, v = .agg ⟨(⟨some q, lstOf g b G.n, comb T.S (lstOf g b G.n), t⟩ : Mk).cells⟩ ∧ (⟨some q, lstOf g b G.n, comb T.S (lstOf g b G.n), t⟩ : Mk).Ok T.S (2 * T.n) h.next h'.next h') := by
  obtain ⟨ge, gi, gr, gl⟩ := hG
  obtain ⟨be, bi, br, bl⟩ := hB
  have gi : Ints h G.a G.n (fun i => (g i : Int)) := fun i hi => by dsimp only; rw [← (hg i hi).1]; exact gi i hi
  have bi : Ints h B.a B.n (fun i => (b i : Int)) := fun i hi => by dsimp only; rw [← (hb i (by omega)).1]; exact bi i hi
  refine fun92.call rfl (Nat.le_refl _) ?_
  unfold a92
  (focus ((try with_reducible apply wpC.to); (repeat' ((conv => whnf); first | refine byEv ?_ | (apply Fork.mk <;> (intro _; try (exfalso; omega))) | ((refine kSpanG0 ?_); first | ((first | apply q_allD | apply q_alli | apply q_allB) <;> intro _ _ _ _ <;> try contradiction) | (apply q_allv; intro _ _ _)) | fail)); all_goals ((conv => whnf); try with_reducible apply At.mk)))
  refine OpE.mk (v := .map (some (h.next + 1))) rfl ?_
  (focus ((try with_reducible apply wpC.to); (repeat' ((conv => whnf); first | refine byEv ?_ | (apply Fork.mk <;> (intro _; try (exfalso; omega))) | ((refine kSpanG0 ?_); first | ((first | apply q_allD | apply q_alli | apply q_allB) <;> intro _ _ _ _ <;> try contradiction) | (apply q_allv; intro _ _ _)) | fail)); all_goals ((conv => whnf); try with_reducible apply At.mk)))
  refine wp_loop (fun s : Nat => [(0, .pointer (some ⟨T.r, 0, none⟩)), (3, .slice B.b B.n B.c), (8, .pointer (some ⟨h.next, 0, none⟩)), (9, .pointer (some ⟨h.next + 5, 0, none⟩)), (16, .slice G.b G.n G.c), (17, .int .i64 G.n), (18, .int .i64 s)])
    (fun s h1 => h1.get h.next = some (.cells [.map none, .int .i64 0, .int .i64 0, .int .i64 0, .int .i64 0] 82) ∧ h1.get (h.next + 1) = some (.map (ents (lstOf g b s) 0) (lstOf g b s).length) ∧ h1.get (h.next + 5) = some (.cells [.map (some (h.next + 1)), .int .i64 (comb T.S (lstOf g b s)).u, .int .i64 (comb T.S (lstOf g b s)).v, .int .i64 (comb T.S (lstOf g b s)).w, .int .i64 t] 82) ∧ Same h.next h h1 ∧ h.next + 7 ≤ h1.next ∧ s ≤ G.n) (fun s => G.n - s) 0 ⟨rfl, rfl, rfl, rfl, rfl, rfl, rfl, trivial⟩ ⟨byGet, ?_, ?_, bySame, byOm, by omega⟩ ?_
  · show _ = some (ARow.map [] 0)
    (exact byGet)
  · show _ = some (ARow.cells [.map (some (h.next + 1)), .int .i64 0, .int .i64 0, .int .i64 0, .int .i64 t] 82)
    (exact byGet)
  rintro s g' h1 ⟨g1, g2, g3, sm, n1, hs⟩ K hK
  by_cases hsn : s < G.n
  · have xg := gr (by omega)
    have xb := br (by omega)
    have gi5 := gi.same (sm.mono hm) gr
    have bi5 := bi.same (sm.mono hm) br
    have hgs := hg s hsn
    have hbs := hb s hsn
    have up := hT.up hgs.2
    have Gc := comb_up (S := T.S) (N := 2 * T.n) (fun i hi => hT.up hi) (l := lstOf g b s) (fun p hp => by obtain ⟨i, hi, rfl⟩ := mem_lstOf.1 hp; exact ⟨(hg i (by omega)).2, (hb i (by omega)).2⟩) (by rw [lstOf_len]; omega)
    obtain ⟨tg, trr, tpe, tpi, tpr, tse, tsi, tsr, tle, tval⟩ := hT.same (sm.mono hm) (Nat.le_refl _)
    (focus ((try with_reducible apply wpC.to); (repeat' ((conv => whnf); first | refine byEv ?_ | (apply Fork.mk <;> (intro _; try (exfalso; omega))) | ((refine kSpanG0 ?_); first | ((first | apply q_allD | apply q_alli | apply q_allB) <;> intro _ _ _ _ <;> try contradiction) | (apply q_allv; intro _ _ _)) | fail)); all_goals ((conv => whnf); try with_reducible apply At.mk)))
    refine OpE.mk (mapup_of (r := h.next + 1) (l := lstOf g b s) (a := g s) (b := b s) Try.underlying3 rfl rfl rfl (by omega) byGet) ?_
    rw [putE_new (fun p hp => by obtain ⟨i, hi, rfl⟩ := mem_lstOf.1 hp; have := inc i s hi hsn; dsimp only; omega), ← lstOf_succ]
    (focus ((try with_reducible apply wpC.to); (repeat' ((conv => whnf); first | refine byEv ?_ | (apply Fork.mk <;> (intro _; try (exfalso; omega))) | ((refine kSpanG0 ?_); first | ((first | apply q_allD | apply q_alli | apply q_allB) <;> intro _ _ _ _ <;> try contradiction) | (apply q_allv; intro _ _ _)) | fail)); all_goals ((conv => whnf); try with_reducible apply At.mk)))
    apply q_callv
    focus (exact byNext)
    focus (exact byLo)
    focus exact sum2_w (a := comb T.S (lstOf g b s)) (b := (T.S (g s)).by (b s)) (F := 48000) (W := 240000000) (e := 80) Gc ((by_up up hbs.2).mono (by decide) (by decide)) (by decide) (by decide) byGet byOm
    intro h2 q2 n2
    rw [← comb_add T.S (lstOf g b s) (g s, b s), ← lstOf_succ]
    (focus ((try with_reducible apply wpC.to); (repeat' ((conv => whnf); first | refine byEv ?_ | (apply Fork.mk <;> (intro _; try (exfalso; omega))) | ((refine kSpanG0 ?_); first | ((first | apply q_allD | apply q_alli | apply q_allB) <;> intro _ _ _ _ <;> try contradiction) | (apply q_allv; intro _ _ _)) | fail)); all_goals ((conv => whnf); try with_reducible apply At.mk)))
    exact hK (s + 1) _ _ ⟨rfl, rfl, rfl, rfl, rfl, rfl, int_of rfl (by omega), trivial⟩ ⟨byGet, byGet, byGet, bySame, byOm, by omega⟩ (by omega)
  · obtain rfl : s = G.n := by omega
    (focus ((try with_reducible apply wpC.to); (repeat' ((conv => whnf); first | refine byEv ?_ | (apply Fork.mk <;> (intro _; try (exfalso; omega))) | ((refine kSpanG0 ?_); first | ((first | apply q_allD | apply q_alli | apply q_allB) <;> intro _ _ _ _ <;> try contradiction) | (apply q_allv; intro _ _ _)) | fail)); all_goals ((conv => whnf); try with_reducible apply At.mk)))
    (refine byFin ?_)
    refine ⟨h.next + 1, rfl, ⟨?_, fun e => absurd e (by simp), lstOf_inc inc, fun p hp => ?_, by dsimp only; rw [lstOf_len]; exact gn, rfl⟩⟩
    · intro q e
      obtain rfl : h.next + 1 = q := Option.some.inj e
      exact ⟨⟨by omega, byOm⟩, byGet⟩
    · obtain ⟨i, hi, rfl⟩ := mem_lstOf.1 hp
      exact ⟨(hg i hi).2, (hb i hi).2⟩
end AE.Try
