/- Walks of span's definitions: corners. -/
import Derived.Test.YtkkndecbijgolaaSpanU
set_option linter.unusedVariables false
set_option linter.unusedSimpArgs false
set_option linter.unusedSectionVars false
namespace AE.Try
open Go AE Go.Proofs AE.Sp
set_option maxRecDepth 100000
set_option linter.unusedVariables false

def Run.end' (x : Run) (a : Nat) : Int := [x.lo, x.hi].getD a 0
def crp (x y : Run) : Int := x.p * y.q - x.q * y.p
/-- Where two lines meet. -/
def meetR (x y : Run) (a b : Nat) : Tru := ⟨x.end' a * y.q - y.end' b * x.q, y.end' b * x.p - x.end' a * y.p, crp x y⟩
def norm (t : Tru) : Tru := if t.d < 0 then ⟨-t.a, -t.b, -t.d⟩ else t
def nearR (x : Run) (a : Nat) : Tru := ⟨x.p * x.end' a, x.q * x.end' a, x.p * x.p + x.q * x.q⟩
def PDone (L : Runs) (i j : Nat) (l : List Tru) : Prop := crp (L.f i) (L.f j) ≠ 0 → ∀ a b, a < 2 → b < 2 → norm (meetR (L.f i) (L.f j) a b) ∈ l
theorem PDone.add {L : Runs} {i j : Nat} {l l' : List Tru} (k : PDone L i j l) : PDone L i j (l ++ l') := fun hc a b ha hb => List.mem_append_left _ (k hc a b ha hb)
/-- Corners so far. -/
structure CSt where
  l : List Tru
  v : Option Addr
  r : Nat
  b : Bool
structure CInv (L : Runs) (m n0 : Nat) (h0 h1 : H) (s : CSt) (i j N : Nat) : Prop where
  G : GG s.r h1 24 3 s.l.length (cellsOf Tru.cells s.l) s.v
  gr : 0 < s.l.length → n0 ≤ s.r ∧ s.r < h1.next
  ok : ∀ t ∈ s.l, 0 < t.d ∧ t.Val
  sm : Same m h0 h1
  le : s.l.length ≤ N
  d1 : ∀ i' j', i' < i → j' < i' → PDone L i' j' s.l
  d2 : ∀ j', j' < j → PDone L i j' s.l
  fl : s.b = true ↔ (∃ i' j', i' < i ∧ j' < i' ∧ crp (L.f i') (L.f j') ≠ 0) ∨ ∃ j', j' < j ∧ crp (L.f i) (L.f j') ≠ 0
  nn : n0 ≤ h1.next
theorem CInv.frame {L : Runs} {m n0 : Nat} {h0 h1 h2 : H} {s : CSt} {i j N : Nat} (k : CInv L m n0 h0 h1 s i j N) (hm : m ≤ n0) (q : Quiet h1.next h1 h2) : CInv L m n0 h0 h2 s i j N :=
  ⟨k.G.frame fun h0 => q.same _ (k.gr h0).2, fun h => by have := k.gr h; have := q.next; omega, k.ok, fun r hr => (q.same r (by have := k.nn; omega)).trans (k.sm r hr), k.le, k.d1, k.d2, k.fl, by have := q.next; have := k.nn; omega⟩
theorem CInv.mono {L : Runs} {m n0 : Nat} {h0 h1 : H} {s : CSt} {i j N N' : Nat} (k : CInv L m n0 h0 h1 s i j N) (h : N ≤ N') : CInv L m n0 h0 h1 s i j N' := ⟨k.G, k.gr, k.ok, k.sm, by have := k.le; omega, k.d1, k.d2, k.fl, k.nn⟩
theorem CInv.next {L : Runs} {m n0 : Nat} {h0 h1 : H} {s : CSt} {j N : Nat} (k : CInv L m n0 h0 h1 s j j N) : CInv L m n0 h0 h1 s (j + 1) 0 N := by
  refine ⟨k.G, k.gr, k.ok, k.sm, k.le, fun i' j' h1 h2 => ?_, fun j' h => absurd h (Nat.not_lt_zero _), ?_, k.nn⟩
  · by_cases e : i' = j
    · subst e; exact k.d2 j' h2
    · exact k.d1 i' j' (by omega) h2
  · rw [k.fl]
    constructor
    · rintro (⟨i', j', h1, h2, h3⟩ | ⟨j', h1, h2⟩)
      · exact .inl ⟨i', j', by omega, h2, h3⟩
      · exact .inl ⟨j, j', by omega, h1, h2⟩
    · rintro (⟨i', j', h1, h2, h3⟩ | ⟨j', h1, h2⟩)
      · by_cases e : i' = j
        · subst e; exact .inr ⟨j', h2, h3⟩
        · exact .inl ⟨i', j', by omega, h2, h3⟩
      · exact absurd h1 (Nat.not_lt_zero _)
theorem CInv.skip {L : Runs} {m n0 : Nat} {h0 h1 : H} {s : CSt} {i j N : Nat} (k : CInv L m n0 h0 h1 s i j N) (hc : crp (L.f i) (L.f j) = 0) : CInv L m n0 h0 h1 s i (j + 1) N := by
  refine ⟨k.G, k.gr, k.ok, k.sm, k.le, k.d1, fun j' h => ?_, ?_, k.nn⟩
  · by_cases e : j' = j
    · subst e; exact fun h => absurd hc h
    · exact k.d2 j' (by omega)
  · rw [k.fl]
    constructor
    · rintro (h | ⟨j', h1, h2⟩)
      · exact .inl h
      · exact .inr ⟨j', by omega, h2⟩
    · rintro (h | ⟨j', h1, h2⟩)
      · exact .inl h
      · by_cases e : j' = j
        · subst e; exact absurd hc h2
        · exact .inr ⟨j', by omega, h2⟩
theorem CInv.done {L : Runs} {m n0 : Nat} {h0 h1 : H} {s : CSt} {i j N : Nat} (k : CInv L m n0 h0 h1 s i j N) (hc : crp (L.f i) (L.f j) ≠ 0) (hk : ∀ k', k' < 4 → norm (meetR (L.f i) (L.f j) (k' / 2) (k' % 2)) ∈ s.l) : CInv L m n0 h0 h1 ⟨s.l, s.v, s.r, true⟩ i (j + 1) N := by
  refine ⟨k.G, k.gr, k.ok, k.sm, k.le, k.d1, fun j' h => ?_, ⟨fun _ => .inr ⟨j, by omega, hc⟩, fun _ => rfl⟩, k.nn⟩
  by_cases e : j' = j
  · subst e
    intro _ a b ha hb
    have := hk (2 * a + b) (by omega)
    rw [show (2 * a + b) / 2 = a by omega, show (2 * a + b) % 2 = b by omega] at this
    exact this
  · exact k.d2 j' (by omega)
theorem CInv.push {L : Runs} {m n0 : Nat} {h0 h1 h2 : H} {s : CSt} {i j N r' : Nat} {v' : Option Addr} {t : Tru} (k : CInv L m n0 h0 h1 s i j N) (hm : m ≤ n0) (ht : 0 < t.d ∧ t.Val) (n : h1.next ≤ h2.next) (fr : ∀ r, r < h1.next → (0 < s.l.length → r ≠ s.r) → h2.get r = h1.get r)
    (G' : GG r' h2 24 3 (s.l.length + 1) (cellsOf Tru.cells s.l ++ t.cells) v') (a1 : s.l.length = 0 → h1.next ≤ r' ∧ r' < h2.next) (a2 : 0 < s.l.length → r' = s.r) : CInv L m n0 h0 h2 ⟨s.l ++ [t], v', r', s.b⟩ i j (N + 1) := by
  have hl : (s.l ++ [t]).length = s.l.length + 1 := by simp
  refine ⟨by dsimp only; rw [hl, cellsOf_add]; exact G', fun _ => ?_, fun x hx => ?_, fun r hr => ?_, by dsimp only; rw [hl]; have := k.le; omega, fun i' j' h1 h2 => (k.d1 i' j' h1 h2).add, fun j' h => (k.d2 j' h).add, k.fl, by have := k.nn; omega⟩
  · dsimp only
    rcases Nat.eq_zero_or_pos s.l.length with e | e
    · have := a1 e; have := k.nn; omega
    · have := a2 e; have := k.gr e; omega
  · rcases List.mem_append.1 hx with h | h
    · exact k.ok x h
    · rw [List.mem_singleton.1 h]; exact ht
  · exact (fr r (by have := k.nn; omega) fun e => by have := k.gr e; omega).trans (k.sm r hr)
theorem slice_len {v : Value} {w : Option Addr} {n n' : Nat} (h : v = .slice w n 0) (e : n = n') : v = .slice w n' 0 := by rw [h, e]
/-- Corners so far, plainly. -/
structure SInv (L : Runs) (m n0 : Nat) (h0 h1 : H) (l : List Tru) (v : Option Addr) (r N : Nat) : Prop where
  G : GG r h1 24 3 l.length (cellsOf Tru.cells l) v
  gr : 0 < l.length → n0 ≤ r ∧ r < h1.next
  ok : ∀ t ∈ l, 0 < t.d ∧ t.Val
  sm : Same m h0 h1
  le : l.length ≤ N
  nn : n0 ≤ h1.next
theorem SInv.frame {L : Runs} {m n0 : Nat} {h0 h1 h2 : H} {l : List Tru} {v : Option Addr} {r N : Nat} (k : SInv L m n0 h0 h1 l v r N) (hm : m ≤ n0) (q : Quiet h1.next h1 h2) : SInv L m n0 h0 h2 l v r N :=
  ⟨k.G.frame fun h0 => q.same _ (k.gr h0).2, fun h => by have := k.gr h; have := q.next; omega, k.ok, fun r hr => (q.same r (by have := k.nn; omega)).trans (k.sm r hr), k.le, by have := q.next; have := k.nn; omega⟩
theorem SInv.mono {L : Runs} {m n0 : Nat} {h0 h1 : H} {l : List Tru} {v : Option Addr} {r N N' : Nat} (k : SInv L m n0 h0 h1 l v r N) (h : N ≤ N') : SInv L m n0 h0 h1 l v r N' := ⟨k.G, k.gr, k.ok, k.sm, by have := k.le; omega, k.nn⟩
theorem SInv.push {L : Runs} {m n0 : Nat} {h0 h1 h2 : H} {l : List Tru} {v v' : Option Addr} {r N r' : Nat} {t : Tru} (k : SInv L m n0 h0 h1 l v r N) (hm : m ≤ n0) (ht : 0 < t.d ∧ t.Val) (n : h1.next ≤ h2.next) (fr : ∀ x, x < h1.next → (0 < l.length → x ≠ r) → h2.get x = h1.get x)
    (G' : GG r' h2 24 3 (l.length + 1) (cellsOf Tru.cells l ++ t.cells) v') (a1 : l.length = 0 → h1.next ≤ r' ∧ r' < h2.next) (a2 : 0 < l.length → r' = r) : SInv L m n0 h0 h2 (l ++ [t]) v' r' (N + 1) := by
  have hl : (l ++ [t]).length = l.length + 1 := by simp
  refine ⟨by rw [hl, cellsOf_add]; exact G', fun _ => ?_, fun x hx => ?_, fun x hr => ?_, by rw [hl]; have := k.le; omega, by have := k.nn; omega⟩
  · rcases Nat.eq_zero_or_pos l.length with e | e
    · have := a1 e; have := k.nn; omega
    · have := a2 e; have := k.gr e; omega
  · rcases List.mem_append.1 hx with h | h
    · exact k.ok x h
    · rw [List.mem_singleton.1 h]; exact ht
  · exact (fr x (by have := k.nn; omega) fun e => by have := k.gr e; omega).trans (k.sm x hr)

theorem SInv.empty {L : Runs} {m n0 : Nat} {h0 h1 : H} (hm : m ≤ n0) (sm : Same m h0 h1) (n : n0 ≤ h1.next) : SInv L m n0 h0 h1 [] none 0 0 := ⟨GG.nil, fun h => absurd h (Nat.lt_irrefl _), fun t ht => absurd ht (by simp), sm, Nat.le_refl _, n⟩
theorem getD_mem {α : Type} {l : List α} {i : Nat} {d : α} (h : i < l.length) : l.getD i d ∈ l := by
  rw [← List.getElem_eq_getD (h := h) d]; exact List.getElem_mem h
/-- Where corners are looked for. -/
def RefC (L : Runs) (t : Tru) : Prop := (∃ i j a b, i < L.n ∧ j < i ∧ a < 2 ∧ b < 2 ∧ crp (L.f i) (L.f j) ≠ 0 ∧ t = norm (meetR (L.f i) (L.f j) a b)) ∨ ((∀ i j, i < L.n → j < i → crp (L.f i) (L.f j) = 0) ∧ ∃ i a, i < L.n ∧ a < 2 ∧ t = nearR (L.f i) a) ∨ (L.n = 0 ∧ t = ⟨0, 0, 1⟩)

end AE.Try
