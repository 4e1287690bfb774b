/- Walks of span's definitions: corners. -/
import Derived.Test.YtkkndecbijgolaaGreatGSpanU
set_option linter.unusedVariables false
set_option linter.unusedSimpArgs false
set_option linter.unusedSectionVars false
namespace AE.Tryz
open Go AE Go.Proofs AE.Sp
set_option maxRecDepth 100000
set_option linter.unusedVariables false

theorem ends_r {h : H} {x : Run} : AW Tryz.prog 74 h.next h [.agg ⟨x.cells⟩] (fun v h' => ∃ r, (h.next ≤ r ∧ r < h'.next) ∧ v = .slice (some ⟨r, 0, none⟩) 2 2 ∧ h'.get r = some (.cells [.int .i64 x.lo, .int .i64 x.hi] 2)) := by
  refine fun74.call rfl (Nat.le_refl _) ?_
  unfold a74 Run.cells
  (focus ((try with_reducible apply wpC.to); (repeat' ((conv => whnf); first | refine byEv ?_ | fail)); all_goals ((conv => whnf); try with_reducible apply At.mk)))
  (refine byFin ?_)
  exact ⟨_, ⟨byOm, byOm⟩, rfl, byGet⟩
def Run.end' (x : Run) (a : Nat) : Int := [x.lo, x.hi].getD a 0
theorem Run.end_of {x : Run} {a : Nat} (k : x.Ok) : -100000 ≤ x.end' a ∧ x.end' a ≤ 100000 := by
  obtain ⟨k1, k2, k3, k4, k5, k6⟩ := k
  unfold Run.end'
  match a with
  | 0 => show -100000 ≤ x.lo ∧ x.lo ≤ 100000; omega
  | 1 => show -100000 ≤ x.hi ∧ x.hi ≤ 100000; omega
  | a + 2 => show (-100000 : Int) ≤ 0 ∧ (0 : Int) ≤ 100000; omega
def crp (x y : Run) : Int := x.p * y.q - x.q * y.p
/-- Where two lines meet. -/
def meetR (x y : Run) (a b : Nat) : Tru := ⟨x.end' a * y.q - y.end' b * x.q, y.end' b * x.p - x.end' a * y.p, crp x y⟩
def norm (t : Tru) : Tru := if t.d < 0 then ⟨-t.a, -t.b, -t.d⟩ else t
def nearR (x : Run) (a : Nat) : Tru := ⟨x.p * x.end' a, x.q * x.end' a, x.p * x.p + x.q * x.q⟩
def PDone (L : Runs) (i j : Nat) (l : List Tru) : Prop := crp (L.f i) (L.f j) ≠ 0 → ∀ a b, a < 2 → b < 2 → norm (meetR (L.f i) (L.f j) a b) ∈ l
theorem PDone.add {L : Runs} {i j : Nat} {l l' : List Tru} (k : PDone L i j l) : PDone L i j (l ++ l') := fun hc a b ha hb => List.mem_append_left _ (k hc a b ha hb)
/-- Corners so far. -/
structure CSt where
  l : List Tru
  v : Option Addr
  r : Nat
  b : Bool
structure CInv (L : Runs) (m n0 : Nat) (h0 h1 : H) (s : CSt) (i j N : Nat) : Prop where
  G : GG s.r h1 49 3 s.l.length (cellsOf Tru.cells s.l) s.v
  gr : 0 < s.l.length → n0 ≤ s.r ∧ s.r < h1.next
  ok : ∀ t ∈ s.l, 0 < t.d ∧ t.Val
  sm : Same m h0 h1
  le : s.l.length ≤ N
  d1 : ∀ i' j', i' < i → j' < i' → PDone L i' j' s.l
  d2 : ∀ j', j' < j → PDone L i j' s.l
  fl : s.b = true ↔ (∃ i' j', i' < i ∧ j' < i' ∧ crp (L.f i') (L.f j') ≠ 0) ∨ ∃ j', j' < j ∧ crp (L.f i) (L.f j') ≠ 0
  nn : n0 ≤ h1.next
theorem CInv.frame {L : Runs} {m n0 : Nat} {h0 h1 h2 : H} {s : CSt} {i j N : Nat} (k : CInv L m n0 h0 h1 s i j N) (hm : m ≤ n0) (q : Quiet h1.next h1 h2) : CInv L m n0 h0 h2 s i j N :=
  ⟨k.G.frame fun h0 => q.same _ (k.gr h0).2, fun h => by have := k.gr h; have := q.next; omega, k.ok, fun r hr => (q.same r (by have := k.nn; omega)).trans (k.sm r hr), k.le, k.d1, k.d2, k.fl, by have := q.next; have := k.nn; omega⟩
theorem CInv.mono {L : Runs} {m n0 : Nat} {h0 h1 : H} {s : CSt} {i j N N' : Nat} (k : CInv L m n0 h0 h1 s i j N) (h : N ≤ N') : CInv L m n0 h0 h1 s i j N' := ⟨k.G, k.gr, k.ok, k.sm, by have := k.le; omega, k.d1, k.d2, k.fl, k.nn⟩
theorem CInv.next {L : Runs} {m n0 : Nat} {h0 h1 : H} {s : CSt} {j N : Nat} (k : CInv L m n0 h0 h1 s j j N) : CInv L m n0 h0 h1 s (j + 1) 0 N := by
  refine ⟨k.G, k.gr, k.ok, k.sm, k.le, fun i' j' h1 h2 => ?_, fun j' h => absurd h (Nat.not_lt_zero _), ?_, k.nn⟩
  · by_cases e : i' = j
    · subst e; exact k.d2 j' h2
    · exact k.d1 i' j' (by omega) h2
  · rw [k.fl]
    constructor
    · rintro (⟨i', j', h1, h2, h3⟩ | ⟨j', h1, h2⟩)
      · exact .inl ⟨i', j', by omega, h2, h3⟩
      · exact .inl ⟨j, j', by omega, h1, h2⟩
    · rintro (⟨i', j', h1, h2, h3⟩ | ⟨j', h1, h2⟩)
      · by_cases e : i' = j
        · subst e; exact .inr ⟨j', h2, h3⟩
        · exact .inl ⟨i', j', by omega, h2, h3⟩
      · exact absurd h1 (Nat.not_lt_zero _)
theorem CInv.skip {L : Runs} {m n0 : Nat} {h0 h1 : H} {s : CSt} {i j N : Nat} (k : CInv L m n0 h0 h1 s i j N) (hc : crp (L.f i) (L.f j) = 0) : CInv L m n0 h0 h1 s i (j + 1) N := by
  refine ⟨k.G, k.gr, k.ok, k.sm, k.le, k.d1, fun j' h => ?_, ?_, k.nn⟩
  · by_cases e : j' = j
    · subst e; exact fun h => absurd hc h
    · exact k.d2 j' (by omega)
  · rw [k.fl]
    constructor
    · rintro (h | ⟨j', h1, h2⟩)
      · exact .inl h
      · exact .inr ⟨j', by omega, h2⟩
    · rintro (h | ⟨j', h1, h2⟩)
      · exact .inl h
      · by_cases e : j' = j
        · subst e; exact absurd hc h2
        · exact .inr ⟨j', by omega, h2⟩
theorem CInv.done {L : Runs} {m n0 : Nat} {h0 h1 : H} {s : CSt} {i j N : Nat} (k : CInv L m n0 h0 h1 s i j N) (hc : crp (L.f i) (L.f j) ≠ 0) (hk : ∀ k', k' < 4 → norm (meetR (L.f i) (L.f j) (k' / 2) (k' % 2)) ∈ s.l) : CInv L m n0 h0 h1 ⟨s.l, s.v, s.r, true⟩ i (j + 1) N := by
  refine ⟨k.G, k.gr, k.ok, k.sm, k.le, k.d1, fun j' h => ?_, ⟨fun _ => .inr ⟨j, by omega, hc⟩, fun _ => rfl⟩, k.nn⟩
  by_cases e : j' = j
  · subst e
    intro _ a b ha hb
    have := hk (2 * a + b) (by omega)
    rw [show (2 * a + b) / 2 = a by omega, show (2 * a + b) % 2 = b by omega] at this
    exact this
  · exact k.d2 j' (by omega)
theorem CInv.push {L : Runs} {m n0 : Nat} {h0 h1 h2 : H} {s : CSt} {i j N r' : Nat} {v' : Option Addr} {t : Tru} (k : CInv L m n0 h0 h1 s i j N) (hm : m ≤ n0) (ht : 0 < t.d ∧ t.Val) (n : h1.next ≤ h2.next) (fr : ∀ r, r < h1.next → (0 < s.l.length → r ≠ s.r) → h2.get r = h1.get r)
    (G' : GG r' h2 49 3 (s.l.length + 1) (cellsOf Tru.cells s.l ++ t.cells) v') (a1 : s.l.length = 0 → h1.next ≤ r' ∧ r' < h2.next) (a2 : 0 < s.l.length → r' = s.r) : CInv L m n0 h0 h2 ⟨s.l ++ [t], v', r', s.b⟩ i j (N + 1) := by
  have hl : (s.l ++ [t]).length = s.l.length + 1 := by simp
  refine ⟨by dsimp only; rw [hl, cellsOf_add]; exact G', fun _ => ?_, fun x hx => ?_, fun r hr => ?_, by dsimp only; rw [hl]; have := k.le; omega, fun i' j' h1 h2 => (k.d1 i' j' h1 h2).add, fun j' h => (k.d2 j' h).add, k.fl, by have := k.nn; omega⟩
  · dsimp only
    rcases Nat.eq_zero_or_pos s.l.length with e | e
    · have := a1 e; have := k.nn; omega
    · have := a2 e; have := k.gr e; omega
  · rcases List.mem_append.1 hx with h | h
    · exact k.ok x h
    · rw [List.mem_singleton.1 h]; exact ht
  · exact (fr r (by have := k.nn; omega) fun e => by have := k.gr e; omega).trans (k.sm r hr)
theorem slice_len {v : Value} {w : Option Addr} {n n' : Nat} (h : v = .slice w n 0) (e : n = n') : v = .slice w n' 0 := by rw [h, e]
/-- Corners so far, plainly. -/
structure SInv (L : Runs) (m n0 : Nat) (h0 h1 : H) (l : List Tru) (v : Option Addr) (r N : Nat) : Prop where
  G : GG r h1 49 3 l.length (cellsOf Tru.cells l) v
  gr : 0 < l.length → n0 ≤ r ∧ r < h1.next
  ok : ∀ t ∈ l, 0 < t.d ∧ t.Val
  sm : Same m h0 h1
  le : l.length ≤ N
  nn : n0 ≤ h1.next
theorem SInv.frame {L : Runs} {m n0 : Nat} {h0 h1 h2 : H} {l : List Tru} {v : Option Addr} {r N : Nat} (k : SInv L m n0 h0 h1 l v r N) (hm : m ≤ n0) (q : Quiet h1.next h1 h2) : SInv L m n0 h0 h2 l v r N :=
  ⟨k.G.frame fun h0 => q.same _ (k.gr h0).2, fun h => by have := k.gr h; have := q.next; omega, k.ok, fun r hr => (q.same r (by have := k.nn; omega)).trans (k.sm r hr), k.le, by have := q.next; have := k.nn; omega⟩
theorem SInv.mono {L : Runs} {m n0 : Nat} {h0 h1 : H} {l : List Tru} {v : Option Addr} {r N N' : Nat} (k : SInv L m n0 h0 h1 l v r N) (h : N ≤ N') : SInv L m n0 h0 h1 l v r N' := ⟨k.G, k.gr, k.ok, k.sm, by have := k.le; omega, k.nn⟩
theorem SInv.push {L : Runs} {m n0 : Nat} {h0 h1 h2 : H} {l : List Tru} {v v' : Option Addr} {r N r' : Nat} {t : Tru} (k : SInv L m n0 h0 h1 l v r N) (hm : m ≤ n0) (ht : 0 < t.d ∧ t.Val) (n : h1.next ≤ h2.next) (fr : ∀ x, x < h1.next → (0 < l.length → x ≠ r) → h2.get x = h1.get x)
    (G' : GG r' h2 49 3 (l.length + 1) (cellsOf Tru.cells l ++ t.cells) v') (a1 : l.length = 0 → h1.next ≤ r' ∧ r' < h2.next) (a2 : 0 < l.length → r' = r) : SInv L m n0 h0 h2 (l ++ [t]) v' r' (N + 1) := by
  have hl : (l ++ [t]).length = l.length + 1 := by simp
  refine ⟨by rw [hl, cellsOf_add]; exact G', fun _ => ?_, fun x hx => ?_, fun x hr => ?_, by rw [hl]; have := k.le; omega, by have := k.nn; omega⟩
  · rcases Nat.eq_zero_or_pos l.length with e | e
    · have := a1 e; have := k.nn; omega
    · have := a2 e; have := k.gr e; omega
  · rcases List.mem_append.1 hx with h | h
    · exact k.ok x h
    · rw [List.mem_singleton.1 h]; exact ht
  · exact (fr x (by have := k.nn; omega) fun e => by have := k.gr e; omega).trans (k.sm x hr)

theorem SInv.empty {L : Runs} {m n0 : Nat} {h0 h1 : H} (hm : m ≤ n0) (sm : Same m h0 h1) (n : n0 ≤ h1.next) : SInv L m n0 h0 h1 [] none 0 0 := ⟨GG.nil, fun h => absurd h (Nat.lt_irrefl _), fun t ht => absurd ht (by simp), sm, Nat.le_refl _, n⟩
theorem getD_mem {α : Type} {l : List α} {i : Nat} {d : α} (h : i < l.length) : l.getD i d ∈ l := by
  rw [← List.getElem_eq_getD (h := h) d]; exact List.getElem_mem h
theorem kGSpanV0 {G G' : Prop} (g : G') (t : G' → G := by ((apply q_call); (focus exact byNext); (focus exact byLo); (focus ((apply fits_r; rotate_left; (focus (apply Runs.Ok.same; (focus assumption); (focus exact bySame); (focus exact Nat.le_refl _))); (focus assumption); (focus assumption); (focus exact byOm)))))) : G := t g
/-- Where corners are looked for. -/
def RefC (L : Runs) (t : Tru) : Prop := (∃ i j a b, i < L.n ∧ j < i ∧ a < 2 ∧ b < 2 ∧ crp (L.f i) (L.f j) ≠ 0 ∧ t = norm (meetR (L.f i) (L.f j) a b)) ∨ ((∀ i j, i < L.n → j < i → crp (L.f i) (L.f j) = 0) ∧ ∃ i a, i < L.n ∧ a < 2 ∧ t = nearR (L.f i) a) ∨ (L.n = 0 ∧ t = ⟨0, 0, 1⟩)

set_option maxHeartbeats 40000000 in
theorem corners_r {h : H} {L : Runs} {m : Nat} (hm : m ≤ h.next) (hL : L.Ok m h) (ln : L.n ≤ 13) (lv : L.Val) : AW Tryz.prog 45 h.next h [.slice L.b L.n L.c] (fun v h' => ∃ (l : List Tru) (w : Option Addr) (r : Nat), v = .slice w l.length 0 ∧ GG r h' 49 3 l.length (cellsOf Tru.cells l) w ∧ (0 < l.length → h.next ≤ r ∧ r < h'.next) ∧ (∀ t ∈ l, 0 < t.d ∧ t.Val ∧ L.Fits t) ∧ (∀ t, RefC L t → L.Fits t → t ∈ l) ∧ l.length ≤ 100000) := by
  obtain ⟨le, li, lr, ll⟩ := id hL
  refine fun45.call rfl (Nat.le_refl _) ?_
  unfold a45
  (focus ((try with_reducible apply wpC.to); (repeat' ((conv => whnf); first | refine byEv ?_ | (apply Fork.mk <;> (intro _; try (exfalso; omega))) | ((refine kGSpanV0 ?_); first | ((first | apply q_allD | apply q_alli | apply q_allB) <;> intro _ _ _ _ <;> try contradiction) | (apply q_allv; intro _ _ _)) | refine xGSpanC0 ?_ | refine xGSpanB1 ?_ | refine xGSpanB0 ?_ | fail)); all_goals ((conv => whnf); try with_reducible apply At.mk)))
  refine wp_loop (fun s : Nat × CSt => [(0, .slice L.b L.n L.c), (3, .slice s.2.v s.2.l.length 0), (4, .bool s.2.b), (5, .int .i64 s.1)])
    (fun s h1 => CInv L m h.next h h1 s.2 s.1 0 (52 * s.1) ∧ s.1 ≤ L.n) (fun s => L.n - s.1) (0, ⟨[], none, 0, false⟩) ⟨rfl, rfl, rfl, rfl, trivial⟩ ⟨⟨GG.nil, fun h => absurd h (Nat.lt_irrefl _), fun t ht => absurd ht (by simp), bySame, Nat.le_refl _, fun i' j' h => absurd h (Nat.not_lt_zero _), fun j' h => absurd h (Nat.not_lt_zero _), ⟨fun h => Bool.noConfusion h, fun h => by rcases h with ⟨i', j', h, -⟩ | ⟨j', h, -⟩ <;> exact absurd h (Nat.not_lt_zero _)⟩, byOm⟩, Nat.zero_le _⟩ ?_
  rintro ⟨i, s⟩ g h1 ⟨k, hi⟩ K hK
  dsimp only at k hi ⊢
  by_cases hin : i < L.n
  · (focus ((try with_reducible apply wpC.to); (repeat' ((conv => whnf); first | refine byEv ?_ | (apply Fork.mk <;> (intro _; try (exfalso; omega))) | ((refine kGSpanV0 ?_); first | ((first | apply q_allD | apply q_alli | apply q_allB) <;> intro _ _ _ _ <;> try contradiction) | (apply q_allv; intro _ _ _)) | refine xGSpanC0 ?_ | refine xGSpanB1 ?_ | refine xGSpanB0 ?_ | fail)); all_goals ((conv => whnf); try with_reducible apply At.mk)))
    refine wp_loop (fun s : Nat × CSt => [(0, .slice L.b L.n L.c), (3, .slice s.2.v s.2.l.length 0), (4, .bool s.2.b), (5, .int .i64 i), (6, .int .i64 s.1)])
      (fun s h1 => CInv L m h.next h h1 s.2 i s.1 (52 * i + 4 * s.1) ∧ s.1 ≤ i) (fun s => i - s.1) (0, s) ⟨rfl, rfl, rfl, rfl, rfl, trivial⟩ ⟨k.frame hm byQuiet, Nat.zero_le _⟩ ?_
    rintro ⟨j, s⟩ g h2 ⟨k, hj⟩ K' hK'
    dsimp only at k hj ⊢
    by_cases hji : j < i
    · have li2 := li.same k.sm lr
      unfold Run.cells at li2
      have nn := k.nn
      have lr' := lr (by omega)
      obtain ⟨pi1, pi2, -, -, -, -⟩ := lv i hin
      obtain ⟨pj1, pj2, -, -, -, -⟩ := lv j (by omega)
      have m1 := mul_bnd pi1.1 pi1.2 pj2.1 pj2.2
      have m2 := mul_bnd pi2.1 pi2.2 pj1.1 pj1.2
      (focus ((try with_reducible apply wpC.to); (repeat' ((conv => whnf); first | refine byEv ?_ | (apply Fork.mk <;> (intro _; try (exfalso; omega))) | ((refine kGSpanV0 ?_); first | ((first | apply q_allD | apply q_alli | apply q_allB) <;> intro _ _ _ _ <;> try contradiction) | (apply q_allv; intro _ _ _)) | refine xGSpanC0 ?_ | refine xGSpanB1 ?_ | refine xGSpanB0 ?_ | fail)); all_goals ((conv => whnf); try with_reducible apply At.mk)))
      · refine hK' (j + 1, s) _ _ ⟨rfl, rfl, rfl, rfl, int_of rfl (by dsimp only; omega), trivial⟩ ⟨((k.frame hm byQuiet).skip (by assumption)).mono (by dsimp only; omega), by dsimp only; omega⟩ (by dsimp only; omega)
      have hc : crp (L.f i) (L.f j) ≠ 0 := by assumption
      apply q_call
      focus (exact byNext)
      focus (exact byLo)
      focus exact ends_r (x := L.f i)
      rintro _ h3 ⟨r1, b1, rfl, g1⟩ q3 n3
      simp only [put_next, bump_next] at b1
      (focus ((try with_reducible apply wpC.to); (repeat' ((conv => whnf); first | refine byEv ?_ | (apply Fork.mk <;> (intro _; try (exfalso; omega))) | ((refine kGSpanV0 ?_); first | ((first | apply q_allD | apply q_alli | apply q_allB) <;> intro _ _ _ _ <;> try contradiction) | (apply q_allv; intro _ _ _)) | refine xGSpanC0 ?_ | refine xGSpanB1 ?_ | refine xGSpanB0 ?_ | fail)); all_goals ((conv => whnf); try with_reducible apply At.mk)))
      apply q_call
      focus (exact byNext)
      focus (exact byLo)
      focus exact ends_r (x := L.f j)
      rintro _ h4 ⟨r2, b2, rfl, g2⟩ q4 n4
      have g1' : h4.get r1 = some (.cells [.int .i64 (L.f i).lo, .int .i64 (L.f i).hi] 2) := (q4.same _ byOm).trans ((get_of fun y hy => byGet).trans g1)
      have k4 := k.frame (h2 := h4) hm byQuiet
      have s4 : 0 < s.l.length → s.r < h2.next := fun h => (k.gr h).2
      clear k
      (focus ((try with_reducible apply wpC.to); (repeat' ((conv => whnf); first | refine byEv ?_ | (apply Fork.mk <;> (intro _; try (exfalso; omega))) | ((refine kGSpanV0 ?_); first | ((first | apply q_allD | apply q_alli | apply q_allB) <;> intro _ _ _ _ <;> try contradiction) | (apply q_allv; intro _ _ _)) | refine xGSpanC0 ?_ | refine xGSpanB1 ?_ | refine xGSpanB0 ?_ | fail)); all_goals ((conv => whnf); try with_reducible apply At.mk)))
      refine wp_loop (fun s : Nat × CSt => [(0, .slice L.b L.n L.c), (3, .slice s.2.v s.2.l.length 0), (4, .bool true), (5, .int .i64 i), (6, .int .i64 j), (7, .int .i64 (crp (L.f i) (L.f j))), (8, .slice (some ⟨r1, 0, none⟩) 2 2), (9, .slice (some ⟨r2, 0, none⟩) 2 2), (10, .int .i64 s.1)])
        (fun s h1 => CInv L m h.next h h1 s.2 i j (52 * i + 4 * j + s.1) ∧ (h1.get r1 = some (.cells [.int .i64 (L.f i).lo, .int .i64 (L.f i).hi] 2) ∧ h1.get r2 = some (.cells [.int .i64 (L.f j).lo, .int .i64 (L.f j).hi] 2)) ∧ (0 < s.2.l.length → s.2.r < h2.next ∨ h4.next ≤ s.2.r) ∧ h4.next ≤ h1.next ∧ s.1 ≤ 4 ∧ ∀ k', k' < s.1 → norm (meetR (L.f i) (L.f j) (k' / 2) (k' % 2)) ∈ s.2.l) (fun s => 4 - s.1) (0, s) ⟨rfl, rfl, rfl, rfl, rfl, rfl, rfl, rfl, rfl, trivial⟩ ⟨k4.frame hm byQuiet, ⟨byGet, byGet⟩, fun h => .inl (s4 h), byOm, by omega, fun k' h => absurd h (Nat.not_lt_zero _)⟩ ?_
      rintro ⟨c, s⟩ g h5 ⟨k, ⟨g1, g2⟩, sr, n5, hc4, mem⟩ K'' hK''
      dsimp only at k sr hc4 mem ⊢
      by_cases hcn : c < 4
      · have i1 : Ints h5 ⟨r1, 0, none⟩ 2 (fun a => (L.f i).end' a) := ints_list (l := [(L.f i).lo, (L.f i).hi]) g1
        have i2 : Ints h5 ⟨r2, 0, none⟩ 2 (fun a => (L.f j).end' a) := ints_list (l := [(L.f j).lo, (L.f j).hi]) g2
        have li5 := li.same k.sm lr
        unfold Run.cells at li5
        have nn5 := k.nn
        have ix := (Run.end_of (a := c / 2) (lv i hin))
        have iy := (Run.end_of (a := c % 2) (lv j (by omega)))
        have e1 : ((c : Int) / 2).toNat = c / 2 := by omega
        have e2 : ((c : Int) % 2).toNat = c % 2 := by omega
        rw [← e1] at ix
        rw [← e2] at iy
        have p1 := mul_bnd ix.1 ix.2 pj2.1 pj2.2
        have p2 := mul_bnd iy.1 iy.2 pi2.1 pi2.2
        have p3 := mul_bnd iy.1 iy.2 pi1.1 pi1.2
        have p4 := mul_bnd ix.1 ix.2 pj1.1 pj1.2
        have ec : -800 ≤ crp (L.f i) (L.f j) ∧ crp (L.f i) (L.f j) ≤ 800 := by unfold crp; omega
        have g1' := g1
        have g2' := g2
        (focus ((try with_reducible apply wpC.to); (repeat' ((conv => whnf); first | refine byEv ?_ | (apply Fork.mk <;> (intro _; try (exfalso; omega))) | ((refine kGSpanV0 ?_); first | ((first | apply q_allD | apply q_alli | apply q_allB) <;> intro _ _ _ _ <;> try contradiction) | (apply q_allv; intro _ _ _)) | refine xGSpanC0 ?_ | refine xGSpanB1 ?_ | refine xGSpanB0 ?_ | fail)); all_goals ((conv => whnf); try with_reducible apply At.mk)))
        · have en : norm (meetR (L.f i) (L.f j) (c / 2) (c % 2)) = ⟨-((L.f i).end' ((c : Int) / 2).toNat * (L.f j).q - (L.f j).end' ((c : Int) % 2).toNat * (L.f i).q), -((L.f j).end' ((c : Int) % 2).toNat * (L.f i).p - (L.f i).end' ((c : Int) / 2).toNat * (L.f j).p), -crp (L.f i) (L.f j)⟩ := by
            rw [e1, e2]; unfold norm meetR; rw [if_pos (by assumption)]
          have tv : 0 < (⟨-((L.f i).end' ((c : Int) / 2).toNat * (L.f j).q - (L.f j).end' ((c : Int) % 2).toNat * (L.f i).q), -((L.f j).end' ((c : Int) % 2).toNat * (L.f i).p - (L.f i).end' ((c : Int) / 2).toNat * (L.f j).p), -crp (L.f i) (L.f j)⟩ : Tru).d ∧ (⟨-((L.f i).end' ((c : Int) / 2).toNat * (L.f j).q - (L.f j).end' ((c : Int) % 2).toNat * (L.f i).q), -((L.f j).end' ((c : Int) % 2).toNat * (L.f i).p - (L.f i).end' ((c : Int) / 2).toNat * (L.f j).p), -crp (L.f i) (L.f j)⟩ : Tru).Val := ⟨by dsimp only; omega, by dsimp only; omega, by dsimp only; omega, by dsimp only; omega⟩
          apply q_appGG (r := s.r) (n := s.l.length) (m := 1) (cs := cellsOf Tru.cells s.l) (nc := Tru.cells ⟨-((L.f i).end' ((c : Int) / 2).toNat * (L.f j).q - (L.f j).end' ((c : Int) % 2).toNat * (L.f i).q), -((L.f j).end' ((c : Int) % 2).toNat * (L.f i).p - (L.f i).end' ((c : Int) / 2).toNat * (L.f j).p), -crp (L.f i) (L.f j)⟩)
          case G => exact k.G.frame fun h0 => get_of fun y hy => by have := k.gr h0; (exact byGet)
          case hsv => exact rfl
          case C => exact Cells.one (by unfold Tru.cells; (exact byMem)) (by unfold far; omega) rfl rfl
          case hm => omega
          case hlo => (exact byOm)
          case hlr => exact fun h0 => by have := k.gr h0; (exact byOm)
          case hsm => have := k.le; omega
          intro v' r' row a1 a2 a3 G'
          have d1 : s.l.length = 0 → h5.next ≤ r' := fun h0 => by have := a1 h0; (exact byOm)
          have d2 : 0 < s.l.length → r' = s.r ∧ (s.r < h2.next ∨ h4.next ≤ s.r) ∧ s.r < h5.next := fun h0 => ⟨a2 h0, sr h0, (k.gr h0).2⟩
          have d3 : r' < h2.next ∨ h4.next ≤ r' := by
            rcases Nat.eq_zero_or_pos s.l.length with h0 | h0
            · have := d1 h0; exact .inr (by omega)
            · have := d2 h0; omega
          have ne1 : r' ≠ r1 := by omega
          have ne2 : r' ≠ r2 := by omega
          (focus ((try with_reducible apply wpC.to); (repeat' ((conv => whnf); first | refine byEv ?_ | (apply Fork.mk <;> (intro _; try (exfalso; omega))) | ((refine kGSpanV0 ?_); first | ((first | apply q_allD | apply q_alli | apply q_allB) <;> intro _ _ _ _ <;> try contradiction) | (apply q_allv; intro _ _ _)) | refine xGSpanC0 ?_ | refine xGSpanB1 ?_ | refine xGSpanB0 ?_ | fail)); all_goals ((conv => whnf); try with_reducible apply At.mk)))
          refine hK'' (c + 1, ⟨s.l ++ [⟨-((L.f i).end' ((c : Int) / 2).toNat * (L.f j).q - (L.f j).end' ((c : Int) % 2).toNat * (L.f i).q), -((L.f j).end' ((c : Int) % 2).toNat * (L.f i).p - (L.f i).end' ((c : Int) / 2).toNat * (L.f j).p), -crp (L.f i) (L.f j)⟩], v', r', s.b⟩) _ _ ⟨rfl, slice_len rfl (by simp), rfl, rfl, rfl, rfl, rfl, rfl, int_of rfl (by dsimp only; omega), trivial⟩ ⟨?_, ⟨byGet, byGet⟩, fun _ => d3, byOm, by dsimp only; omega, fun k' h => ?_⟩ (by dsimp only; omega)
          · exact (k.push hm tv byOm (fun r h1 h2 => get_of fun y hy => by
              have : r ≠ r' := by
                rcases Nat.eq_zero_or_pos s.l.length with h0 | h0
                · have := d1 h0; omega
                · have := d2 h0; have := h2 h0; omega
              (exact byGet)) (G'.frame fun _ => get_of fun y hy => byGet) (fun h0 => ⟨d1 h0, byOm⟩) a2).mono (by dsimp only; omega)
          · dsimp only at h ⊢
            by_cases e : k' = c
            · subst e; rw [en]; simp
            · exact List.mem_append_left _ (mem k' (by omega))
        · have en : norm (meetR (L.f i) (L.f j) (c / 2) (c % 2)) = ⟨((L.f i).end' ((c : Int) / 2).toNat * (L.f j).q - (L.f j).end' ((c : Int) % 2).toNat * (L.f i).q), ((L.f j).end' ((c : Int) % 2).toNat * (L.f i).p - (L.f i).end' ((c : Int) / 2).toNat * (L.f j).p), crp (L.f i) (L.f j)⟩ := by
            rw [e1, e2]; unfold norm meetR; rw [if_neg (by dsimp only; omega)]
          have tv : 0 < (⟨((L.f i).end' ((c : Int) / 2).toNat * (L.f j).q - (L.f j).end' ((c : Int) % 2).toNat * (L.f i).q), ((L.f j).end' ((c : Int) % 2).toNat * (L.f i).p - (L.f i).end' ((c : Int) / 2).toNat * (L.f j).p), crp (L.f i) (L.f j)⟩ : Tru).d ∧ (⟨((L.f i).end' ((c : Int) / 2).toNat * (L.f j).q - (L.f j).end' ((c : Int) % 2).toNat * (L.f i).q), ((L.f j).end' ((c : Int) % 2).toNat * (L.f i).p - (L.f i).end' ((c : Int) / 2).toNat * (L.f j).p), crp (L.f i) (L.f j)⟩ : Tru).Val := ⟨by dsimp only; omega, by dsimp only; omega, by dsimp only; omega, by dsimp only; omega⟩
          apply q_appGG (r := s.r) (n := s.l.length) (m := 1) (cs := cellsOf Tru.cells s.l) (nc := Tru.cells ⟨((L.f i).end' ((c : Int) / 2).toNat * (L.f j).q - (L.f j).end' ((c : Int) % 2).toNat * (L.f i).q), ((L.f j).end' ((c : Int) % 2).toNat * (L.f i).p - (L.f i).end' ((c : Int) / 2).toNat * (L.f j).p), crp (L.f i) (L.f j)⟩)
          case G => exact k.G.frame fun h0 => get_of fun y hy => by have := k.gr h0; (exact byGet)
          case hsv => exact rfl
          case C => exact Cells.one (by unfold Tru.cells; (exact byMem)) (by unfold far; omega) rfl rfl
          case hm => omega
          case hlo => (exact byOm)
          case hlr => exact fun h0 => by have := k.gr h0; (exact byOm)
          case hsm => have := k.le; omega
          intro v' r' row a1 a2 a3 G'
          have d1 : s.l.length = 0 → h5.next ≤ r' := fun h0 => by have := a1 h0; (exact byOm)
          have d2 : 0 < s.l.length → r' = s.r ∧ (s.r < h2.next ∨ h4.next ≤ s.r) ∧ s.r < h5.next := fun h0 => ⟨a2 h0, sr h0, (k.gr h0).2⟩
          have d3 : r' < h2.next ∨ h4.next ≤ r' := by
            rcases Nat.eq_zero_or_pos s.l.length with h0 | h0
            · have := d1 h0; exact .inr (by omega)
            · have := d2 h0; omega
          have ne1 : r' ≠ r1 := by omega
          have ne2 : r' ≠ r2 := by omega
          (focus ((try with_reducible apply wpC.to); (repeat' ((conv => whnf); first | refine byEv ?_ | (apply Fork.mk <;> (intro _; try (exfalso; omega))) | ((refine kGSpanV0 ?_); first | ((first | apply q_allD | apply q_alli | apply q_allB) <;> intro _ _ _ _ <;> try contradiction) | (apply q_allv; intro _ _ _)) | refine xGSpanC0 ?_ | refine xGSpanB1 ?_ | refine xGSpanB0 ?_ | fail)); all_goals ((conv => whnf); try with_reducible apply At.mk)))
          refine hK'' (c + 1, ⟨s.l ++ [⟨((L.f i).end' ((c : Int) / 2).toNat * (L.f j).q - (L.f j).end' ((c : Int) % 2).toNat * (L.f i).q), ((L.f j).end' ((c : Int) % 2).toNat * (L.f i).p - (L.f i).end' ((c : Int) / 2).toNat * (L.f j).p), crp (L.f i) (L.f j)⟩], v', r', s.b⟩) _ _ ⟨rfl, slice_len rfl (by simp), rfl, rfl, rfl, rfl, rfl, rfl, int_of rfl (by dsimp only; omega), trivial⟩ ⟨?_, ⟨byGet, byGet⟩, fun _ => d3, byOm, by dsimp only; omega, fun k' h => ?_⟩ (by dsimp only; omega)
          · exact (k.push hm tv byOm (fun r h1 h2 => get_of fun y hy => by
              have : r ≠ r' := by
                rcases Nat.eq_zero_or_pos s.l.length with h0 | h0
                · have := d1 h0; omega
                · have := d2 h0; have := h2 h0; omega
              (exact byGet)) (G'.frame fun _ => get_of fun y hy => byGet) (fun h0 => ⟨d1 h0, byOm⟩) a2).mono (by dsimp only; omega)
          · dsimp only at h ⊢
            by_cases e : k' = c
            · subst e; rw [en]; simp
            · exact List.mem_append_left _ (mem k' (by omega))
      · obtain rfl : c = 4 := by omega
        (focus ((try with_reducible apply wpC.to); (repeat' ((conv => whnf); first | refine byEv ?_ | (apply Fork.mk <;> (intro _; try (exfalso; omega))) | ((refine kGSpanV0 ?_); first | ((first | apply q_allD | apply q_alli | apply q_allB) <;> intro _ _ _ _ <;> try contradiction) | (apply q_allv; intro _ _ _)) | refine xGSpanC0 ?_ | refine xGSpanB1 ?_ | refine xGSpanB0 ?_ | fail)); all_goals ((conv => whnf); try with_reducible apply At.mk)))
        refine hK' (j + 1, ⟨s.l, s.v, s.r, true⟩) _ _ ⟨rfl, rfl, rfl, rfl, int_of rfl (by dsimp only; omega), trivial⟩ ⟨((k.frame hm byQuiet).done hc mem).mono (by dsimp only; omega), by dsimp only; omega⟩ (by dsimp only; omega)
    · obtain rfl : j = i := by omega
      (focus ((try with_reducible apply wpC.to); (repeat' ((conv => whnf); first | refine byEv ?_ | (apply Fork.mk <;> (intro _; try (exfalso; omega))) | ((refine kGSpanV0 ?_); first | ((first | apply q_allD | apply q_alli | apply q_allB) <;> intro _ _ _ _ <;> try contradiction) | (apply q_allv; intro _ _ _)) | refine xGSpanC0 ?_ | refine xGSpanB1 ?_ | refine xGSpanB0 ?_ | fail)); all_goals ((conv => whnf); try with_reducible apply At.mk)))
      refine hK (j + 1, s) _ _ ⟨rfl, rfl, rfl, int_of rfl (by dsimp only; omega), trivial⟩ ⟨((k.frame hm byQuiet).next).mono (by dsimp only; omega), by dsimp only; omega⟩ (by dsimp only; omega)
  · obtain rfl : i = L.n := by omega
    have flag : s.b = true ↔ ∃ i' j', i' < L.n ∧ j' < i' ∧ crp (L.f i') (L.f j') ≠ 0 := by
      rw [k.fl]
      exact ⟨fun h => h.elim id fun ⟨j', h, _⟩ => absurd h (Nat.not_lt_zero _), .inl⟩
    have meets := k.d1
    (focus ((try with_reducible apply wpC.to); (repeat' ((conv => whnf); first | refine byEv ?_ | (apply Fork.mk <;> (intro _; try (exfalso; omega))) | ((refine kGSpanV0 ?_); first | ((first | apply q_allD | apply q_alli | apply q_allB) <;> intro _ _ _ _ <;> try contradiction) | (apply q_allv; intro _ _ _)) | refine xGSpanC0 ?_ | refine xGSpanB1 ?_ | refine xGSpanB0 ?_ | fail)); all_goals ((conv => whnf); try with_reducible apply At.mk)))
    refine wp_loop (fun t : Nat × List Tru × Option Addr × Nat => [(0, .slice L.b L.n L.c), (3, .slice t.2.2.1 t.2.1.length 0), (4, .bool s.b), (14, .int .i64 t.1)])
      (fun t h1 => SInv L m h.next h h1 t.2.1 t.2.2.1 t.2.2.2 (52 * L.n + 2 * t.1) ∧ t.1 ≤ L.n ∧ (∀ x ∈ s.l, x ∈ t.2.1) ∧ (s.b = false → ∀ i', i' < t.1 → ∀ a, a < 2 → nearR (L.f i') a ∈ t.2.1)) (fun t => L.n - t.1) (0, s.l, s.v, s.r) ⟨rfl, rfl, rfl, rfl, trivial⟩ ⟨SInv.frame ⟨k.G, k.gr, k.ok, k.sm, by have := k.le; dsimp only; omega, k.nn⟩ hm byQuiet, Nat.zero_le _, fun x h => h, fun _ i' h => absurd h (Nat.not_lt_zero _)⟩ ?_
    rintro ⟨i, l, v, r⟩ g h2 ⟨k2, hi2, pre, near⟩ K' hK'
    dsimp only at k2 hi2 pre near ⊢
    by_cases hgo : i < L.n ∧ s.b = false
    · obtain ⟨hin2, hbf⟩ := hgo
      rw [hbf]
      have li2 := li.same k2.sm lr
      unfold Run.cells at li2
      have nn := k2.nn
      have lr' := lr (by omega)
      have ui := lv i hin2
      obtain ⟨pi1, pi2, -, -, -, -⟩ := ui
      (focus ((try with_reducible apply wpC.to); (repeat' ((conv => whnf); first | refine byEv ?_ | (apply Fork.mk <;> (intro _; try (exfalso; omega))) | ((refine kGSpanV0 ?_); first | ((first | apply q_allD | apply q_alli | apply q_allB) <;> intro _ _ _ _ <;> try contradiction) | (apply q_allv; intro _ _ _)) | refine xGSpanC0 ?_ | refine xGSpanB1 ?_ | refine xGSpanB0 ?_ | fail)); all_goals ((conv => whnf); try with_reducible apply At.mk)))
      apply q_call
      focus (exact byNext)
      focus (exact byLo)
      focus exact ends_r (x := L.f i)
      rintro _ h3 ⟨r1, b1, rfl, g1⟩ q3 n3
      simp only [put_next, bump_next] at b1
      have s3 : 0 < l.length → r < h2.next := fun h => (k2.gr h).2
      have k3 := k2.frame (h2 := h3) hm byQuiet
      clear k2
      (focus ((try with_reducible apply wpC.to); (repeat' ((conv => whnf); first | refine byEv ?_ | (apply Fork.mk <;> (intro _; try (exfalso; omega))) | ((refine kGSpanV0 ?_); first | ((first | apply q_allD | apply q_alli | apply q_allB) <;> intro _ _ _ _ <;> try contradiction) | (apply q_allv; intro _ _ _)) | refine xGSpanC0 ?_ | refine xGSpanB1 ?_ | refine xGSpanB0 ?_ | fail)); all_goals ((conv => whnf); try with_reducible apply At.mk)))
      refine wp_loop (fun t : Nat × List Tru × Option Addr × Nat => [(0, .slice L.b L.n L.c), (3, .slice t.2.2.1 t.2.1.length 0), (4, .bool false), (14, .int .i64 i), (15, .slice (some ⟨r1, 0, none⟩) 2 2), (16, .int .i64 t.1)])
        (fun t h1 => SInv L m h.next h h1 t.2.1 t.2.2.1 t.2.2.2 (52 * L.n + 2 * i + t.1) ∧ h1.get r1 = some (.cells [.int .i64 (L.f i).lo, .int .i64 (L.f i).hi] 2) ∧ (0 < t.2.1.length → t.2.2.2 < h2.next ∨ h3.next ≤ t.2.2.2) ∧ h3.next ≤ h1.next ∧ t.1 ≤ 2 ∧ (∀ x ∈ l, x ∈ t.2.1) ∧ ∀ a, a < t.1 → nearR (L.f i) a ∈ t.2.1) (fun t => 2 - t.1) (0, l, v, r) ⟨rfl, rfl, rfl, rfl, rfl, rfl, trivial⟩ ⟨k3.frame hm byQuiet, byGet, fun h => .inl (s3 h), byOm, by omega, fun x h => h, fun a h => absurd h (Nat.not_lt_zero _)⟩ ?_
      rintro ⟨c, l5, v5, r5⟩ g h5 ⟨k5, g5, sr, n5, hc2, pre5, near5⟩ K'' hK''
      dsimp only at k5 sr hc2 pre5 near5 ⊢
      by_cases hcn : c < 2
      · have i1 : Ints h5 ⟨r1, 0, none⟩ 2 (fun a => (L.f i).end' a) := ints_list (l := [(L.f i).lo, (L.f i).hi]) g5
        have li5 := li.same k5.sm lr
        unfold Run.cells at li5
        have nn5 := k5.nn
        have ix := Run.end_of (a := c) (lv i hin2)
        have p1 := mul_bnd pi1.1 pi1.2 ix.1 ix.2
        have p2 := mul_bnd pi2.1 pi2.2 ix.1 ix.2
        have p3 := mul_bnd pi1.1 pi1.2 pi1.1 pi1.2
        have p4 := mul_bnd pi2.1 pi2.2 pi2.1 pi2.2
        have g5' := g5
        clear g5
        have tv : 0 < (nearR (L.f i) c).d ∧ (nearR (L.f i) c).Val := by
          have hp := dt_pos (s := ⟨(L.f i).p, (L.f i).q, 0⟩) (lv i hin2).nz
          unfold dt at hp
          unfold nearR
          dsimp only at hp ⊢
          exact ⟨hp, by dsimp only; omega, by dsimp only; omega, by dsimp only; omega⟩
        (focus ((try with_reducible apply wpC.to); (repeat' ((conv => whnf); first | refine byEv ?_ | (apply Fork.mk <;> (intro _; try (exfalso; omega))) | ((refine kGSpanV0 ?_); first | ((first | apply q_allD | apply q_alli | apply q_allB) <;> intro _ _ _ _ <;> try contradiction) | (apply q_allv; intro _ _ _)) | refine xGSpanC0 ?_ | refine xGSpanB1 ?_ | refine xGSpanB0 ?_ | fail)); all_goals ((conv => whnf); try with_reducible apply At.mk)))
        apply q_appGG (r := r5) (n := l5.length) (m := 1) (cs := cellsOf Tru.cells l5) (nc := Tru.cells (nearR (L.f i) c))
        case G => exact k5.G.frame fun h0 => get_of fun y hy => by have := k5.gr h0; (exact byGet)
        case hsv => exact rfl
        case C => exact Cells.one (by unfold Tru.cells nearR; (exact byMem)) (by unfold far; omega) rfl rfl
        case hm => omega
        case hlo => (exact byOm)
        case hlr => exact fun h0 => by have := k5.gr h0; (exact byOm)
        case hsm => have := k5.le; omega
        intro v' r' row a1 a2 a3 G'
        have d1 : l5.length = 0 → h5.next ≤ r' := fun h0 => by have := a1 h0; (exact byOm)
        have d2 : 0 < l5.length → r' = r5 ∧ (r5 < h2.next ∨ h3.next ≤ r5) ∧ r5 < h5.next := fun h0 => ⟨a2 h0, sr h0, (k5.gr h0).2⟩
        have d3 : r' < h2.next ∨ h3.next ≤ r' := by
          rcases Nat.eq_zero_or_pos l5.length with h0 | h0
          · have := d1 h0; exact .inr (by omega)
          · have := d2 h0; omega
        have ne1 : r' ≠ r1 := by omega
        (focus ((try with_reducible apply wpC.to); (repeat' ((conv => whnf); first | refine byEv ?_ | (apply Fork.mk <;> (intro _; try (exfalso; omega))) | ((refine kGSpanV0 ?_); first | ((first | apply q_allD | apply q_alli | apply q_allB) <;> intro _ _ _ _ <;> try contradiction) | (apply q_allv; intro _ _ _)) | refine xGSpanC0 ?_ | refine xGSpanB1 ?_ | refine xGSpanB0 ?_ | fail)); all_goals ((conv => whnf); try with_reducible apply At.mk)))
        refine hK'' (c + 1, l5 ++ [nearR (L.f i) c], v', r') _ _ ⟨rfl, slice_len rfl (by simp), rfl, rfl, rfl, int_of rfl (by dsimp only; omega), trivial⟩ ⟨?_, byGet, fun _ => d3, byOm, by dsimp only; omega, fun x h => List.mem_append_left _ (pre5 x h), fun a h => ?_⟩ (by dsimp only; omega)
        · exact (k5.push hm tv byOm (fun r h1 h2 => get_of fun y hy => by
            have : r ≠ r' := by
              rcases Nat.eq_zero_or_pos l5.length with h0 | h0
              · have := d1 h0; omega
              · have := d2 h0; have := h2 h0; omega
            (exact byGet)) (G'.frame fun _ => get_of fun y hy => byGet) (fun h0 => ⟨d1 h0, byOm⟩) a2).mono (by dsimp only; omega)
        · dsimp only at h ⊢
          by_cases e : a = c
          · subst e; simp
          · exact List.mem_append_left _ (near5 a (by omega))
      · obtain rfl : c = 2 := by omega
        (focus ((try with_reducible apply wpC.to); (repeat' ((conv => whnf); first | refine byEv ?_ | (apply Fork.mk <;> (intro _; try (exfalso; omega))) | ((refine kGSpanV0 ?_); first | ((first | apply q_allD | apply q_alli | apply q_allB) <;> intro _ _ _ _ <;> try contradiction) | (apply q_allv; intro _ _ _)) | refine xGSpanC0 ?_ | refine xGSpanB1 ?_ | refine xGSpanB0 ?_ | fail)); all_goals ((conv => whnf); try with_reducible apply At.mk)))
        refine hK' (i + 1, l5, v5, r5) _ _ ⟨rfl, rfl, by rw [hbf]; rfl, int_of rfl (by dsimp only; omega), trivial⟩ ⟨(k5.frame hm byQuiet).mono (by dsimp only; omega), by dsimp only; omega, fun x h => pre5 x (pre x h), fun _ i' h a ha => ?_⟩ (by dsimp only; omega)
        dsimp only at h
        by_cases e : i' = i
        · subst e; exact near5 a ha
        · exact pre5 _ (near hbf i' (by omega) a ha)
    · have fin3 : s.b = true ∨ i = L.n := by
        by_cases h : i < L.n
        · cases hb : s.b
          · exact absurd ⟨h, hb⟩ hgo
          · exact .inl rfl
        · exact .inr (by omega)
      have memA : ∀ x, RefC L x → L.n ≠ 0 → x ∈ l := fun x hx hn => by
        rcases hx with ⟨i', j', a, b, h1, h2, h3, h4, h5, rfl⟩ | ⟨h1, i', a, h2, h3, rfl⟩ | ⟨h1, -⟩
        · exact pre _ (meets i' j' h1 h2 h5 a b h3 h4)
        · have hbf : s.b = false := by
            cases hb : s.b
            · rfl
            · obtain ⟨i', j', k1, k2', k3⟩ := flag.1 hb
              exact absurd (h1 i' j' k1 k2') k3
          rcases fin3 with h | h
          · rw [h] at hbf; exact Bool.noConfusion hbf
          · exact near hbf i' (by omega) a h3
        · exact absurd h1 hn
      (focus ((try with_reducible apply wpC.to); (repeat' ((conv => whnf); first | refine byEv ?_ | (apply Fork.mk <;> (intro _; try (exfalso; omega))) | ((refine kGSpanV0 ?_); first | ((first | apply q_allD | apply q_alli | apply q_allB) <;> intro _ _ _ _ <;> try contradiction) | (apply q_allv; intro _ _ _)) | refine xGSpanC0 ?_ | refine xGSpanB1 ?_ | refine xGSpanB0 ?_ | fail)); all_goals ((conv => whnf); try with_reducible apply At.mk)))
      · have hbt : s.b = true := fin3.elim id fun h => by omega
        rw [hbt]
        have hn0 : ¬ ((L.n : Nat) : Int) = 0 := by omega
        (focus ((try with_reducible apply wpC.to); (repeat' ((conv => whnf); first | refine byEv ?_ | (apply Fork.mk <;> (intro _; try (exfalso; omega))) | ((refine kGSpanV0 ?_); first | ((first | apply q_allD | apply q_alli | apply q_allB) <;> intro _ _ _ _ <;> try contradiction) | (apply q_allv; intro _ _ _)) | refine xGSpanC0 ?_ | refine xGSpanB1 ?_ | refine xGSpanB0 ?_ | fail)); all_goals ((conv => whnf); try with_reducible apply At.mk)))
        have kk2 := k2.sm
        have nn2 := k2.nn
        refine wp_loop (fun t : Nat × List Tru × Option Addr × Nat => [(0, .slice L.b L.n L.c), (3, .slice v (l).length 0), (17, .slice t.2.2.1 t.2.1.length 0), (18, .int .i64 t.1)])
          (fun t h1 => SInv L m h.next h h1 l v r (52 * L.n + 2 * L.n + 1) ∧ SInv L m h.next h h1 t.2.1 t.2.2.1 t.2.2.2 t.1 ∧ (0 < t.2.1.length → 0 < (l).length → t.2.2.2 ≠ r) ∧ t.1 ≤ (l).length ∧ (∀ x ∈ t.2.1, L.Fits x) ∧ ∀ c', c' < t.1 → L.Fits ((l).getD c' ⟨0, 0, 0⟩) → (l).getD c' ⟨0, 0, 0⟩ ∈ t.2.1) (fun t => (l).length - t.1) (0, [], none, 0) ⟨rfl, rfl, rfl, rfl, trivial⟩ ⟨(k2.frame hm byQuiet).mono (by omega), SInv.empty hm bySame byOm, fun h => absurd h (Nat.lt_irrefl _), Nat.zero_le _, fun x h => absurd h (by simp), fun c' h => absurd h (Nat.not_lt_zero _)⟩ ?_
        rintro ⟨c, l6, v6, r6⟩ g h6 ⟨ka, kb, ner, hc6, ft, cm⟩ K hK
        dsimp only at kb ner hc6 ft cm ⊢
        by_cases hcl : c < (l).length
        · obtain ⟨va, va1, va2, va3⟩ := GG.els (f := fun i => ((l).getD i ⟨0, 0, 0⟩).cells) (by have := ka.G; rw [cellsOf_rows Tru.cells _ ⟨0, 0, 0⟩] at this; exact this) (fun i => rfl)
          have va1 := va1 (by omega)
          have va3 := va3 (by omega)
          have gra := ka.gr (by omega)
          have tok := ka.ok _ (getD_mem (d := ⟨0, 0, 0⟩) hcl)
          have tbd := tok.2.bd
          have kasm := ka.sm
          have nn6 := ka.nn
          have grb := kb.gr
          have kle := ka.le
          unfold Tru.cells at va2
          clear kk2
          (focus ((try with_reducible apply wpC.to); (repeat' ((conv => whnf); first | refine byEv ?_ | (apply Fork.mk <;> (intro _; try (exfalso; omega))) | ((refine kGSpanV0 ?_); first | ((first | apply q_allD | apply q_alli | apply q_allB) <;> intro _ _ _ _ <;> try contradiction) | (apply q_allv; intro _ _ _)) | refine xGSpanC0 ?_ | refine xGSpanB1 ?_ | refine xGSpanB0 ?_ | fail)); all_goals ((conv => whnf); try with_reducible apply At.mk)))
          · have fits : L.Fits ((l).getD c ⟨0, 0, 0⟩) := by assumption
            have va2' := va2
            apply q_appGG (r := r6) (n := l6.length) (m := 1) (cs := cellsOf Tru.cells l6) (nc := Tru.cells ((l).getD c ⟨0, 0, 0⟩))
            case G => exact kb.G.frame fun h0 => get_of fun y hy => by have := kb.gr h0; (exact byGet)
            case hsv => exact rfl
            case C => exact Cells.one (by unfold Tru.cells; (exact byMem)) (by unfold far; omega) rfl rfl
            case hm => omega
            case hlo => (exact byOm)
            case hlr => exact fun h0 => by have := kb.gr h0; (exact byOm)
            case hsm => have := kb.le; have := ka.le; omega
            intro v' r' row a1 a2 a3 G'
            have d1 : l6.length = 0 → h6.next ≤ r' := fun h0 => by have := a1 h0; (exact byOm)
            have d2 : 0 < l6.length → r' = r6 ∧ r6 ≠ r ∧ r6 < h6.next := fun h0 => ⟨a2 h0, ner h0 (by omega), (kb.gr h0).2⟩
            have d3 : r' ≠ r := by
              rcases Nat.eq_zero_or_pos l6.length with h0 | h0
              · have := d1 h0; omega
              · have := d2 h0; omega
            have hmr : m ≤ r' := by
              rcases Nat.eq_zero_or_pos l6.length with h0 | h0
              · have := d1 h0; omega
              · have := d2 h0; have := kb.gr h0; omega
            (focus ((try with_reducible apply wpC.to); (repeat' ((conv => whnf); first | refine byEv ?_ | (apply Fork.mk <;> (intro _; try (exfalso; omega))) | ((refine kGSpanV0 ?_); first | ((first | apply q_allD | apply q_alli | apply q_allB) <;> intro _ _ _ _ <;> try contradiction) | (apply q_allv; intro _ _ _)) | refine xGSpanC0 ?_ | refine xGSpanB1 ?_ | refine xGSpanB0 ?_ | fail)); all_goals ((conv => whnf); try with_reducible apply At.mk)))
            refine hK (c + 1, l6 ++ [(l).getD c ⟨0, 0, 0⟩], v', r') _ _ ⟨rfl, rfl, slice_len rfl (by simp), int_of rfl (by dsimp only; omega), trivial⟩ ⟨?_, ?_, fun _ _ => d3, by dsimp only; omega, fun x h => ?_, fun c' h hf => ?_⟩ (by dsimp only; omega)
            · exact ⟨ka.G.frame fun h0 => get_of fun y hy => byGet, fun h0 => ⟨gra.1, byOm⟩, ka.ok, bySame, ka.le, byOm⟩
            · exact (kb.push hm tok byOm (fun r h1 h2 => get_of fun y hy => by
                have : r ≠ r' := by
                  rcases Nat.eq_zero_or_pos l6.length with h0 | h0
                  · have := d1 h0; omega
                  · have := d2 h0; have := h2 h0; omega
                (exact byGet)) (G'.frame fun _ => get_of fun y hy => byGet) (fun h0 => ⟨d1 h0, byOm⟩) a2)
            · rcases List.mem_append.1 h with h | h
              · exact ft x h
              · rw [List.mem_singleton.1 h]; exact fits
            · dsimp only at h ⊢
              by_cases e : c' = c
              · subst e; simp
              · exact List.mem_append_left _ (cm c' (by omega) hf)
          · have fits : ¬ L.Fits ((l).getD c ⟨0, 0, 0⟩) := by assumption
            refine hK (c + 1, l6, v6, r6) _ _ ⟨rfl, rfl, rfl, int_of rfl (by dsimp only; omega), trivial⟩ ⟨ka.frame hm byQuiet, (kb.frame hm byQuiet).mono (by dsimp only; omega), ner, by dsimp only; omega, ft, fun c' h hf => ?_⟩ (by dsimp only; omega)
            dsimp only at h
            by_cases e : c' = c
            · subst e; exact absurd hf fits
            · exact cm c' (by omega) hf
        · obtain rfl : c = (l).length := by omega
          (focus ((try with_reducible apply wpC.to); (repeat' ((conv => whnf); first | refine byEv ?_ | (apply Fork.mk <;> (intro _; try (exfalso; omega))) | ((refine kGSpanV0 ?_); first | ((first | apply q_allD | apply q_alli | apply q_allB) <;> intro _ _ _ _ <;> try contradiction) | (apply q_allv; intro _ _ _)) | refine xGSpanC0 ?_ | refine xGSpanB1 ?_ | refine xGSpanB0 ?_ | fail)); all_goals ((conv => whnf); try with_reducible apply At.mk)))
          (refine byFin ?_)
          refine ⟨l6, v6, r6, rfl, (kb.frame hm byQuiet).G, (kb.frame hm byQuiet).gr, fun x hx => ⟨(kb.ok x hx).1, (kb.ok x hx).2, ft x hx⟩, fun x hx hf => ?_, by have := kb.le; have := ka.le; omega⟩
          have hin : x ∈ l := (fun x hx => memA x hx (by omega)) x hx
          obtain ⟨ix, hix, ee⟩ := List.mem_iff_getElem.1 hin
          have eg : (l).getD ix ⟨0, 0, 0⟩ = x := by rw [← List.getElem_eq_getD (h := hix) _]; exact ee
          have := cm ix hix (by rw [eg]; exact hf)
          rw [eg] at this
          exact this
      · apply q_appGG (r := r) (n := l.length) (m := 1) (cs := cellsOf Tru.cells l) (nc := Tru.cells ⟨0, 0, 1⟩)
        case G => exact k2.G.frame fun h0 => get_of fun y hy => by have := k2.gr h0; (exact byGet)
        case hsv => exact rfl
        case C => exact Cells.one (by unfold Tru.cells; (exact byMem)) (by unfold far; omega) rfl rfl
        case hm => omega
        case hlo => have := k2.nn; (exact byOm)
        case hlr => exact fun h0 => by have := k2.gr h0; (exact byOm)
        case hsm => have := k2.le; omega
        intro vq rq row a1 a2 a3 G'
        have nn3 := k2.nn
        have d1 : l.length = 0 → h2.next ≤ rq := fun h0 => by have := a1 h0; (exact byOm)
        have k3 : SInv L m h.next h _ (l ++ [(⟨0, 0, 1⟩ : Tru)]) vq rq _ := k2.push (h2 := ((((h2.bump 8).bump 3).bump 5).put (h2.next + 13) (.cells [.int .i64 0, .int .i64 0, .int .i64 1] 49)).put rq row) hm (by exact ⟨by decide, by dsimp only; omega, by dsimp only; omega, by dsimp only; omega⟩) byOm (fun x h1 h2 => get_of fun y hy => by
          have : x ≠ rq := by
            rcases Nat.eq_zero_or_pos l.length with h0 | h0
            · have := d1 h0; omega
            · have := a2 h0; have := h2 h0; omega
          (exact byGet)) (G'.frame fun _ => get_of fun y hy => byGet) (fun h0 => ⟨d1 h0, byOm⟩) a2
        have memB : ∀ x, RefC L x → x ∈ l ++ [(⟨0, 0, 1⟩ : Tru)] := fun x hx => by
          rcases hx with ⟨i', j', a, b, h1, -⟩ | ⟨h1, i', a, h2, -⟩ | ⟨-, rfl⟩
          · omega
          · omega
          · simp
        (focus ((try with_reducible apply wpC.to); (repeat' ((conv => whnf); first | refine byEv ?_ | (apply Fork.mk <;> (intro _; try (exfalso; omega))) | ((refine kGSpanV0 ?_); first | ((first | apply q_allD | apply q_alli | apply q_allB) <;> intro _ _ _ _ <;> try contradiction) | (apply q_allv; intro _ _ _)) | refine xGSpanC0 ?_ | refine xGSpanB1 ?_ | refine xGSpanB0 ?_ | fail)); all_goals ((conv => whnf); try with_reducible apply At.mk)))
        have kk2 := k3.sm
        have nn2 := k3.nn
        refine wp_loop (fun t : Nat × List Tru × Option Addr × Nat => [(0, .slice L.b L.n L.c), (3, .slice vq ((l ++ [(⟨0, 0, 1⟩ : Tru)])).length 0), (17, .slice t.2.2.1 t.2.1.length 0), (18, .int .i64 t.1)])
          (fun t h1 => SInv L m h.next h h1 (l ++ [(⟨0, 0, 1⟩ : Tru)]) vq rq (52 * L.n + 2 * L.n + 1) ∧ SInv L m h.next h h1 t.2.1 t.2.2.1 t.2.2.2 t.1 ∧ (0 < t.2.1.length → 0 < ((l ++ [(⟨0, 0, 1⟩ : Tru)])).length → t.2.2.2 ≠ rq) ∧ t.1 ≤ ((l ++ [(⟨0, 0, 1⟩ : Tru)])).length ∧ (∀ x ∈ t.2.1, L.Fits x) ∧ ∀ c', c' < t.1 → L.Fits (((l ++ [(⟨0, 0, 1⟩ : Tru)])).getD c' ⟨0, 0, 0⟩) → ((l ++ [(⟨0, 0, 1⟩ : Tru)])).getD c' ⟨0, 0, 0⟩ ∈ t.2.1) (fun t => ((l ++ [(⟨0, 0, 1⟩ : Tru)])).length - t.1) (0, [], none, 0) ⟨rfl, slice_len rfl (by simp), rfl, rfl, trivial⟩ ⟨(k3.frame hm byQuiet).mono (by omega), SInv.empty hm bySame byOm, fun h => absurd h (Nat.lt_irrefl _), Nat.zero_le _, fun x h => absurd h (by simp), fun c' h => absurd h (Nat.not_lt_zero _)⟩ ?_
        rintro ⟨c, l6, v6, r6⟩ g h6 ⟨ka, kb, ner, hc6, ft, cm⟩ K hK
        dsimp only at kb ner hc6 ft cm ⊢
        by_cases hcl : c < ((l ++ [(⟨0, 0, 1⟩ : Tru)])).length
        · obtain ⟨va, va1, va2, va3⟩ := GG.els (f := fun i => (((l ++ [(⟨0, 0, 1⟩ : Tru)])).getD i ⟨0, 0, 0⟩).cells) (by have := ka.G; rw [cellsOf_rows Tru.cells _ ⟨0, 0, 0⟩] at this; exact this) (fun i => rfl)
          have va1 := va1 (by omega)
          have va3 := va3 (by omega)
          have gra := ka.gr (by omega)
          have tok := ka.ok _ (getD_mem (d := ⟨0, 0, 0⟩) hcl)
          have tbd := tok.2.bd
          have kasm := ka.sm
          have nn6 := ka.nn
          have grb := kb.gr
          have kle := ka.le
          unfold Tru.cells at va2
          clear kk2
          (focus ((try with_reducible apply wpC.to); (repeat' ((conv => whnf); first | refine byEv ?_ | (apply Fork.mk <;> (intro _; try (exfalso; omega))) | ((refine kGSpanV0 ?_); first | ((first | apply q_allD | apply q_alli | apply q_allB) <;> intro _ _ _ _ <;> try contradiction) | (apply q_allv; intro _ _ _)) | refine xGSpanC0 ?_ | refine xGSpanB1 ?_ | refine xGSpanB0 ?_ | fail)); all_goals ((conv => whnf); try with_reducible apply At.mk)))
          · have fits : L.Fits (((l ++ [(⟨0, 0, 1⟩ : Tru)])).getD c ⟨0, 0, 0⟩) := by assumption
            have va2' := va2
            apply q_appGG (r := r6) (n := l6.length) (m := 1) (cs := cellsOf Tru.cells l6) (nc := Tru.cells (((l ++ [(⟨0, 0, 1⟩ : Tru)])).getD c ⟨0, 0, 0⟩))
            case G => exact kb.G.frame fun h0 => get_of fun y hy => by have := kb.gr h0; (exact byGet)
            case hsv => exact rfl
            case C => exact Cells.one (by unfold Tru.cells; (exact byMem)) (by unfold far; omega) rfl rfl
            case hm => omega
            case hlo => (exact byOm)
            case hlr => exact fun h0 => by have := kb.gr h0; (exact byOm)
            case hsm => have := kb.le; have := ka.le; omega
            intro v' r' row a1 a2 a3 G'
            have d1 : l6.length = 0 → h6.next ≤ r' := fun h0 => by have := a1 h0; (exact byOm)
            have d2 : 0 < l6.length → r' = r6 ∧ r6 ≠ rq ∧ r6 < h6.next := fun h0 => ⟨a2 h0, ner h0 (by omega), (kb.gr h0).2⟩
            have d3 : r' ≠ rq := by
              rcases Nat.eq_zero_or_pos l6.length with h0 | h0
              · have := d1 h0; omega
              · have := d2 h0; omega
            have hmr : m ≤ r' := by
              rcases Nat.eq_zero_or_pos l6.length with h0 | h0
              · have := d1 h0; omega
              · have := d2 h0; have := kb.gr h0; omega
            (focus ((try with_reducible apply wpC.to); (repeat' ((conv => whnf); first | refine byEv ?_ | (apply Fork.mk <;> (intro _; try (exfalso; omega))) | ((refine kGSpanV0 ?_); first | ((first | apply q_allD | apply q_alli | apply q_allB) <;> intro _ _ _ _ <;> try contradiction) | (apply q_allv; intro _ _ _)) | refine xGSpanC0 ?_ | refine xGSpanB1 ?_ | refine xGSpanB0 ?_ | fail)); all_goals ((conv => whnf); try with_reducible apply At.mk)))
            refine hK (c + 1, l6 ++ [((l ++ [(⟨0, 0, 1⟩ : Tru)])).getD c ⟨0, 0, 0⟩], v', r') _ _ ⟨rfl, rfl, slice_len rfl (by simp), int_of rfl (by dsimp only; omega), trivial⟩ ⟨?_, ?_, fun _ _ => d3, by dsimp only; omega, fun x h => ?_, fun c' h hf => ?_⟩ (by dsimp only; omega)
            · exact ⟨ka.G.frame fun h0 => get_of fun y hy => byGet, fun h0 => ⟨gra.1, byOm⟩, ka.ok, bySame, ka.le, byOm⟩
            · exact (kb.push hm tok byOm (fun r h1 h2 => get_of fun y hy => by
                have : r ≠ r' := by
                  rcases Nat.eq_zero_or_pos l6.length with h0 | h0
                  · have := d1 h0; omega
                  · have := d2 h0; have := h2 h0; omega
                (exact byGet)) (G'.frame fun _ => get_of fun y hy => byGet) (fun h0 => ⟨d1 h0, byOm⟩) a2)
            · rcases List.mem_append.1 h with h | h
              · exact ft x h
              · rw [List.mem_singleton.1 h]; exact fits
            · dsimp only at h ⊢
              by_cases e : c' = c
              · subst e; simp
              · exact List.mem_append_left _ (cm c' (by omega) hf)
          · have fits : ¬ L.Fits (((l ++ [(⟨0, 0, 1⟩ : Tru)])).getD c ⟨0, 0, 0⟩) := by assumption
            refine hK (c + 1, l6, v6, r6) _ _ ⟨rfl, rfl, rfl, int_of rfl (by dsimp only; omega), trivial⟩ ⟨ka.frame hm byQuiet, (kb.frame hm byQuiet).mono (by dsimp only; omega), ner, by dsimp only; omega, ft, fun c' h hf => ?_⟩ (by dsimp only; omega)
            dsimp only at h
            by_cases e : c' = c
            · subst e; exact absurd hf fits
            · exact cm c' (by omega) hf
        · obtain rfl : c = ((l ++ [(⟨0, 0, 1⟩ : Tru)])).length := by omega
          (focus ((try with_reducible apply wpC.to); (repeat' ((conv => whnf); first | refine byEv ?_ | (apply Fork.mk <;> (intro _; try (exfalso; omega))) | ((refine kGSpanV0 ?_); first | ((first | apply q_allD | apply q_alli | apply q_allB) <;> intro _ _ _ _ <;> try contradiction) | (apply q_allv; intro _ _ _)) | refine xGSpanC0 ?_ | refine xGSpanB1 ?_ | refine xGSpanB0 ?_ | fail)); all_goals ((conv => whnf); try with_reducible apply At.mk)))
          (refine byFin ?_)
          refine ⟨l6, v6, r6, rfl, (kb.frame hm byQuiet).G, (kb.frame hm byQuiet).gr, fun x hx => ⟨(kb.ok x hx).1, (kb.ok x hx).2, ft x hx⟩, fun x hx hf => ?_, by have := kb.le; have := ka.le; omega⟩
          have hin : x ∈ (l ++ [(⟨0, 0, 1⟩ : Tru)]) := memB x hx
          obtain ⟨ix, hix, ee⟩ := List.mem_iff_getElem.1 hin
          have eg : ((l ++ [(⟨0, 0, 1⟩ : Tru)])).getD ix ⟨0, 0, 0⟩ = x := by rw [← List.getElem_eq_getD (h := hix) _]; exact ee
          have := cm ix hix (by rw [eg]; exact hf)
          rw [eg] at this
          exact this
      · have hn0 : L.n ≠ 0 := by omega
        have kk2 := k2.sm
        have nn2 := k2.nn
        refine wp_loop (fun t : Nat × List Tru × Option Addr × Nat => [(0, .slice L.b L.n L.c), (3, .slice v (l).length 0), (17, .slice t.2.2.1 t.2.1.length 0), (18, .int .i64 t.1)])
          (fun t h1 => SInv L m h.next h h1 l v r (52 * L.n + 2 * L.n + 1) ∧ SInv L m h.next h h1 t.2.1 t.2.2.1 t.2.2.2 t.1 ∧ (0 < t.2.1.length → 0 < (l).length → t.2.2.2 ≠ r) ∧ t.1 ≤ (l).length ∧ (∀ x ∈ t.2.1, L.Fits x) ∧ ∀ c', c' < t.1 → L.Fits ((l).getD c' ⟨0, 0, 0⟩) → (l).getD c' ⟨0, 0, 0⟩ ∈ t.2.1) (fun t => (l).length - t.1) (0, [], none, 0) ⟨rfl, rfl, rfl, rfl, trivial⟩ ⟨(k2.frame hm byQuiet).mono (by omega), SInv.empty hm bySame byOm, fun h => absurd h (Nat.lt_irrefl _), Nat.zero_le _, fun x h => absurd h (by simp), fun c' h => absurd h (Nat.not_lt_zero _)⟩ ?_
        rintro ⟨c, l6, v6, r6⟩ g h6 ⟨ka, kb, ner, hc6, ft, cm⟩ K hK
        dsimp only at kb ner hc6 ft cm ⊢
        by_cases hcl : c < (l).length
        · obtain ⟨va, va1, va2, va3⟩ := GG.els (f := fun i => ((l).getD i ⟨0, 0, 0⟩).cells) (by have := ka.G; rw [cellsOf_rows Tru.cells _ ⟨0, 0, 0⟩] at this; exact this) (fun i => rfl)
          have va1 := va1 (by omega)
          have va3 := va3 (by omega)
          have gra := ka.gr (by omega)
          have tok := ka.ok _ (getD_mem (d := ⟨0, 0, 0⟩) hcl)
          have tbd := tok.2.bd
          have kasm := ka.sm
          have nn6 := ka.nn
          have grb := kb.gr
          have kle := ka.le
          unfold Tru.cells at va2
          clear kk2
          (focus ((try with_reducible apply wpC.to); (repeat' ((conv => whnf); first | refine byEv ?_ | (apply Fork.mk <;> (intro _; try (exfalso; omega))) | ((refine kGSpanV0 ?_); first | ((first | apply q_allD | apply q_alli | apply q_allB) <;> intro _ _ _ _ <;> try contradiction) | (apply q_allv; intro _ _ _)) | refine xGSpanC0 ?_ | refine xGSpanB1 ?_ | refine xGSpanB0 ?_ | fail)); all_goals ((conv => whnf); try with_reducible apply At.mk)))
          · have fits : L.Fits ((l).getD c ⟨0, 0, 0⟩) := by assumption
            have va2' := va2
            apply q_appGG (r := r6) (n := l6.length) (m := 1) (cs := cellsOf Tru.cells l6) (nc := Tru.cells ((l).getD c ⟨0, 0, 0⟩))
            case G => exact kb.G.frame fun h0 => get_of fun y hy => by have := kb.gr h0; (exact byGet)
            case hsv => exact rfl
            case C => exact Cells.one (by unfold Tru.cells; (exact byMem)) (by unfold far; omega) rfl rfl
            case hm => omega
            case hlo => (exact byOm)
            case hlr => exact fun h0 => by have := kb.gr h0; (exact byOm)
            case hsm => have := kb.le; have := ka.le; omega
            intro v' r' row a1 a2 a3 G'
            have d1 : l6.length = 0 → h6.next ≤ r' := fun h0 => by have := a1 h0; (exact byOm)
            have d2 : 0 < l6.length → r' = r6 ∧ r6 ≠ r ∧ r6 < h6.next := fun h0 => ⟨a2 h0, ner h0 (by omega), (kb.gr h0).2⟩
            have d3 : r' ≠ r := by
              rcases Nat.eq_zero_or_pos l6.length with h0 | h0
              · have := d1 h0; omega
              · have := d2 h0; omega
            have hmr : m ≤ r' := by
              rcases Nat.eq_zero_or_pos l6.length with h0 | h0
              · have := d1 h0; omega
              · have := d2 h0; have := kb.gr h0; omega
            (focus ((try with_reducible apply wpC.to); (repeat' ((conv => whnf); first | refine byEv ?_ | (apply Fork.mk <;> (intro _; try (exfalso; omega))) | ((refine kGSpanV0 ?_); first | ((first | apply q_allD | apply q_alli | apply q_allB) <;> intro _ _ _ _ <;> try contradiction) | (apply q_allv; intro _ _ _)) | refine xGSpanC0 ?_ | refine xGSpanB1 ?_ | refine xGSpanB0 ?_ | fail)); all_goals ((conv => whnf); try with_reducible apply At.mk)))
            refine hK (c + 1, l6 ++ [(l).getD c ⟨0, 0, 0⟩], v', r') _ _ ⟨rfl, rfl, slice_len rfl (by simp), int_of rfl (by dsimp only; omega), trivial⟩ ⟨?_, ?_, fun _ _ => d3, by dsimp only; omega, fun x h => ?_, fun c' h hf => ?_⟩ (by dsimp only; omega)
            · exact ⟨ka.G.frame fun h0 => get_of fun y hy => byGet, fun h0 => ⟨gra.1, byOm⟩, ka.ok, bySame, ka.le, byOm⟩
            · exact (kb.push hm tok byOm (fun r h1 h2 => get_of fun y hy => by
                have : r ≠ r' := by
                  rcases Nat.eq_zero_or_pos l6.length with h0 | h0
                  · have := d1 h0; omega
                  · have := d2 h0; have := h2 h0; omega
                (exact byGet)) (G'.frame fun _ => get_of fun y hy => byGet) (fun h0 => ⟨d1 h0, byOm⟩) a2)
            · rcases List.mem_append.1 h with h | h
              · exact ft x h
              · rw [List.mem_singleton.1 h]; exact fits
            · dsimp only at h ⊢
              by_cases e : c' = c
              · subst e; simp
              · exact List.mem_append_left _ (cm c' (by omega) hf)
          · have fits : ¬ L.Fits ((l).getD c ⟨0, 0, 0⟩) := by assumption
            refine hK (c + 1, l6, v6, r6) _ _ ⟨rfl, rfl, rfl, int_of rfl (by dsimp only; omega), trivial⟩ ⟨ka.frame hm byQuiet, (kb.frame hm byQuiet).mono (by dsimp only; omega), ner, by dsimp only; omega, ft, fun c' h hf => ?_⟩ (by dsimp only; omega)
            dsimp only at h
            by_cases e : c' = c
            · subst e; exact absurd hf fits
            · exact cm c' (by omega) hf
        · obtain rfl : c = (l).length := by omega
          (focus ((try with_reducible apply wpC.to); (repeat' ((conv => whnf); first | refine byEv ?_ | (apply Fork.mk <;> (intro _; try (exfalso; omega))) | ((refine kGSpanV0 ?_); first | ((first | apply q_allD | apply q_alli | apply q_allB) <;> intro _ _ _ _ <;> try contradiction) | (apply q_allv; intro _ _ _)) | refine xGSpanC0 ?_ | refine xGSpanB1 ?_ | refine xGSpanB0 ?_ | fail)); all_goals ((conv => whnf); try with_reducible apply At.mk)))
          (refine byFin ?_)
          refine ⟨l6, v6, r6, rfl, (kb.frame hm byQuiet).G, (kb.frame hm byQuiet).gr, fun x hx => ⟨(kb.ok x hx).1, (kb.ok x hx).2, ft x hx⟩, fun x hx hf => ?_, by have := kb.le; have := ka.le; omega⟩
          have hin : x ∈ l := (fun x hx => memA x hx (by omega)) x hx
          obtain ⟨ix, hix, ee⟩ := List.mem_iff_getElem.1 hin
          have eg : (l).getD ix ⟨0, 0, 0⟩ = x := by rw [← List.getElem_eq_getD (h := hix) _]; exact ee
          have := cm ix hix (by rw [eg]; exact hf)
          rw [eg] at this
          exact this
end AE.Tryz
