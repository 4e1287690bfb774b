/- The plain law of agree: tables and their truths. -/
import Derived.Test.YtneenfjffejnoaaGreatAgreeSpec
set_option linter.unusedVariables false
set_option linter.unusedSimpArgs false
set_option linter.unusedSectionVars false
set_option linter.unusedVariables false
namespace AgreeS

structure Test where
 tank : Nat
 hull : Nat
 lo : Int
 hi : Int
structure Table where
 tanks : Nat
 hulls : Nat
 blo : Int
 bhi : Int
 tests : List Test

def M : Int := 1000000
structure Test.Ok (T : Table) (x : Test) : Prop where
 tank : x.tank < T.tanks
 hull : x.hull < T.hulls
 le : x.lo ≤ x.hi
 lo : -M ≤ x.lo
 hi : x.hi ≤ M
structure Table.Ok (T : Table) : Prop where
 tanks0 : 1 ≤ T.tanks
 tanks : T.tanks ≤ 6
 hulls0 : 1 ≤ T.hulls
 hulls : T.hulls ≤ 6
 le : T.blo ≤ T.bhi
 lo : -M ≤ T.blo
 hi : T.bhi ≤ M
 tests : ∀ x ∈ T.tests, x.Ok T

def Table.many (T : Table) : Nat := 1 + T.tanks + T.hulls

def put (B : Net) (f t : Nat) (m : Int) : Net := fun i j => if i = f ∧ j = t then some (match B f t with | some o => min m o | none => m) else B i j
def putTank (T : Table) (B : Net) (i : Nat) : Net := put (put B 0 (1 + i) T.bhi) (1 + i) 0 (-T.blo)
def putTest (T : Table) (B : Net) (x : Test) : Net := put (put B (1 + T.tanks + x.hull) (1 + x.tank) x.hi) (1 + x.tank) (1 + T.tanks + x.hull) (-x.lo)
def empty : Net := fun _ _ => none
def netOf (T : Table) : Net := T.tests.foldl (putTest T) ((List.range T.tanks).foldl (putTank T) empty)
def turn (B : Net) : Net := fun f t => B t f

theorem pot_put {B : Net} {f t : Nat} {m : Int} {p : Nat → Int} (hf : f < 13) (ht : t < 13) : Pot (put B f t m) p ↔ Pot B p ∧ p t ≤ p f + m := by
 constructor
 ·intro h
  refine ⟨fun i j c hi hj e => ?_, ?_⟩
  ·by_cases hij : i = f ∧ j = t
   ·obtain ⟨rfl, rfl⟩ := hij
    have := h i j (min m c) hi hj (by simp [put, e])
    omega
   ·exact h i j c hi hj (by simp [put, hij, e])
  ·cases e : B f t with
   | none => exact h f t m hf ht (by simp [put, e])
   | some o =>
     have := h f t (min m o) hf ht (by simp [put, e])
     omega
 ·rintro ⟨h, k⟩ i j c hi hj e
  simp only [put] at e
  split at e
  ·rename_i hij
   obtain ⟨rfl, rfl⟩ := hij
   split at e
   ·rename_i o ho
    simp at e
    have := h _ _ _ hi hj ho
    omega
   ·simp at e; omega
  ·exact h _ _ _ hi hj e

theorem pot_empty (p : Nat → Int) : Pot empty p := fun _ _ _ _ _ h => by simp [empty] at h

theorem pot_tanks {T : Table} {p : Nat → Int} : ∀ (l : List Nat) (B : Net), (∀ i ∈ l, i < 6) → (Pot (l.foldl (putTank T) B) p ↔ Pot B p ∧ ∀ i ∈ l, p (1 + i) ≤ p 0 + T.bhi ∧ p 0 ≤ p (1 + i) + -T.blo)
 | [], B, _ => by simp
 | i :: l, B, h => by
   have hi := h i (by simp)
   simp only [List.foldl_cons]
   rw [pot_tanks l _ fun j hj => h j (List.mem_cons_of_mem _ hj)]
   unfold putTank
   rw [pot_put (by omega) (by omega), pot_put (by omega) (by omega)]
   simp only [List.forall_mem_cons]
   constructor
   ·rintro ⟨⟨⟨a, b⟩, c⟩, d⟩; exact ⟨a, ⟨b, c⟩, d⟩
   ·rintro ⟨a, ⟨b, c⟩, d⟩; exact ⟨⟨⟨a, b⟩, c⟩, d⟩
theorem pot_tests {T : Table} (hT : T.tanks ≤ 6) {p : Nat → Int} : ∀ (l : List Test) (B : Net), (∀ x ∈ l, x.tank < 6 ∧ x.hull < 6) → (Pot (l.foldl (putTest T) B) p ↔ Pot B p ∧ ∀ x ∈ l, p (1 + x.tank) ≤ p (1 + T.tanks + x.hull) + x.hi ∧ p (1 + T.tanks + x.hull) ≤ p (1 + x.tank) + -x.lo)
 | [], B, _ => by simp
 | x :: l, B, h => by
   have hi := h x (by simp)
   simp only [List.foldl_cons]
   rw [pot_tests hT l _ fun j hj => h j (List.mem_cons_of_mem _ hj)]
   unfold putTest
   rw [pot_put (by omega) (by omega), pot_put (by omega) (by omega)]
   simp only [List.forall_mem_cons]
   constructor
   ·rintro ⟨⟨⟨a, b⟩, c⟩, d⟩; exact ⟨a, ⟨b, c⟩, d⟩
   ·rintro ⟨a, ⟨b, c⟩, d⟩; exact ⟨⟨⟨a, b⟩, c⟩, d⟩

theorem Table.Ok.lt {T : Table} (h : T.Ok) : ∀ x ∈ T.tests, x.tank < 6 ∧ x.hull < 6 := fun x hx => by
 have a := (h.tests x hx).tank; have b := (h.tests x hx).hull; have := h.tanks; have := h.hulls
 omega

theorem pot_net {T : Table} (h : T.Ok) {p : Nat → Int} : Pot (netOf T) p ↔ (∀ i, i < T.tanks → p (1 + i) ≤ p 0 + T.bhi ∧ p 0 ≤ p (1 + i) + -T.blo) ∧ ∀ x ∈ T.tests, p (1 + x.tank) ≤ p (1 + T.tanks + x.hull) + x.hi ∧ p (1 + T.tanks + x.hull) ≤ p (1 + x.tank) + -x.lo := by
 unfold netOf
 rw [pot_tests h.tanks _ _ h.lt, pot_tanks _ _ fun i hi => by have := List.mem_range.1 hi; have := h.tanks; omega]
 simp [pot_empty]

theorem pot_turn {B : Net} {p : Nat → Int} : Pot (turn B) p ↔ Pot B fun i => -p i := by
 constructor
 ·intro h f t m hf ht e
  have := h t f m ht hf e
  show -p t ≤ -p f + m
  omega
 ·intro h f t m hf ht e
  have : -p f ≤ -p t + m := h t f m ht hf e
  omega


def Lim (N : Nat) (B : Net) : Prop := ∀ f t m, B f t = some m → f < N ∧ t < N ∧ -M ≤ m ∧ m ≤ M
theorem lim_put {N : Nat} {B : Net} {f t : Nat} {m : Int} (h : Lim N B) (hf : f < N) (ht : t < N) (h1 : -M ≤ m) (h2 : m ≤ M) : Lim N (put B f t m) := by
 intro i j c e
 simp only [put] at e
 split at e
 ·rename_i hij
  obtain ⟨rfl, rfl⟩ := hij
  split at e
  ·rename_i o ho
   obtain ⟨_, _, h3, h4⟩ := h _ _ _ ho
   simp at e
   exact ⟨hf, ht, by omega, by omega⟩
  ·simp at e; subst e; exact ⟨hf, ht, h1, h2⟩
 ·exact h _ _ _ e
theorem lim_tanks {N : Nat} {T : Table} (hlo : -M ≤ T.blo) (hhi : T.bhi ≤ M) (hle : T.blo ≤ T.bhi) : ∀ (l : List Nat) (B : Net), Lim N B → (∀ i ∈ l, 1 + i < N) → Lim N (l.foldl (putTank T) B)
 | [], _, h, _ => h
 | i :: l, B, h, hl => by
   have := hl i (by simp)
   exact lim_tanks hlo hhi hle l _ (lim_put (lim_put h (by omega) this (by omega) hhi) this (by omega) (by omega) (by omega)) fun j hj => hl j (List.mem_cons_of_mem _ hj)
theorem lim_tests {N : Nat} {T : Table} : ∀ (l : List Test) (B : Net), Lim N B → (∀ x ∈ l, 1 + x.tank < N ∧ 1 + T.tanks + x.hull < N ∧ -M ≤ x.lo ∧ x.lo ≤ x.hi ∧ x.hi ≤ M) → Lim N (l.foldl (putTest T) B)
 | [], _, h, _ => h
 | x :: l, B, h, hl => by
   obtain ⟨a, b, c, d, e⟩ := hl x (by simp)
   exact lim_tests l _ (lim_put (lim_put h b a (by omega) e) a b (by omega) (by omega)) fun j hj => hl j (List.mem_cons_of_mem _ hj)
theorem lim_net {T : Table} (h : T.Ok) : Lim T.many (netOf T) := by
 unfold netOf
 refine lim_tests _ _ (lim_tanks h.lo h.hi h.le _ _ (fun _ _ _ e => by simp [empty] at e) fun i hi => ?_) fun x hx => ?_
 ·have := List.mem_range.1 hi
  simp only [Table.many]; omega
 ·have k := h.tests x hx
  have := k.tank; have := k.hull
  simp only [Table.many]
  exact ⟨by omega, by omega, k.lo, k.le, k.hi⟩
theorem lim_turn {N : Nat} {B : Net} (h : Lim N B) : Lim N (turn B) := fun f t m e => by
 obtain ⟨a, b, c⟩ := h _ _ _ e
 exact ⟨b, a, c⟩
theorem Table.Ok.many {T : Table} (h : T.Ok) : 3 ≤ T.many ∧ T.many ≤ 13 := by
 have := h.tanks0; have := h.tanks; have := h.hulls0; have := h.hulls
 simp only [Table.many]; omega

theorem way_small {N : Nat} {B : Net} (h : Lim N B) {a n v : Nat} {c : Int} (w : Way B a n v c) : -(n * M) ≤ c ∧ c ≤ n * M := by
 induction w with
 | nil => simp
 | snoc w hf ht e ih =>
   rename_i n f t c m
   obtain ⟨_, _, h1, h2⟩ := h _ _ _ e
   have : ((n + 1 : Nat) : Int) * M = n * M + M := by rw [Int.natCast_add, Int.add_mul]; omega
   omega

structure Exact (B : Net) (a : Nat) (k : Known) : Prop where
 zero : k a = some 0
 fixed : Fixed B k
 real : Real B a k
 small : ∀ v c, k v = some c → -(12 * M) ≤ c ∧ c ≤ 12 * M

theorem found_zero (B : Net) (many a : Nat) : ∃ d, (found B many a).known a = some d ∧ d ≤ 0 :=
 passes_way (.nil : Way B a 0 a 0) (start a) ⟨0, by simp [start], by omega⟩ many (by omega)

theorem found_exact {N : Nat} {B : Net} (hB : Lim N B) (hN : N ≤ 13) {a : Nat} (ha : a < N) (p : Nat → Int) (hp : Pot B p) : (found B N a).last < 0 ∧ Exact B a (found B N a).known := by
 have hok := found_ok hp (by omega) ha hN fun f t m e => ⟨(hB _ _ _ e).1, (hB _ _ _ e).2.1⟩
 have hfix := found_fixed (by omega) hok
 have hreal := found_real B N a
 obtain ⟨d, hd, hl⟩ := found_zero B N a
 have h0 := hfix.zero hreal hd hl
 subst h0
 refine ⟨hok, hd, hfix, hreal, fun v c hv => ?_⟩
 obtain ⟨n, w⟩ := hreal v c hv
 have hlt : ∀ l d, Path B a l d → ∀ u ∈ l, u < N := by
  intro l d w
  induction w with
  | one => simpa using ha
  | cons w hf ht h ih =>
    intro u hu
    rcases List.mem_cons.1 hu with rfl | hu
    ·exact (hB _ _ _ h).2.1
    ·exact ih u hu
 obtain ⟨m, d, w', hm, hdc⟩ := short hp n n v c (Nat.le_refl _) hlt w
 obtain ⟨b, hb, hbl⟩ := hfix.way w' hd
 rw [hv] at hb
 simp at hb
 obtain ⟨h1, h2⟩ := way_small hB w'
 have : (m : Int) * M ≤ 12 * M := Int.mul_le_mul_of_nonneg_right (by omega) (by simp [M])
 omega


structure Fits (T : Table) (b x : Nat → Int) : Prop where
 bias : ∀ i, i < T.tanks → T.blo ≤ b i ∧ b i ≤ T.bhi
 test : ∀ y ∈ T.tests, y.lo ≤ b y.tank + x y.hull ∧ b y.tank + x y.hull ≤ y.hi

def potOf (T : Table) (b x : Nat → Int) : Nat → Int := fun v => if v = 0 then 0 else if v ≤ T.tanks then b (v - 1) else -x (v - 1 - T.tanks)

theorem potOf_tank {T : Table} {b x : Nat → Int} {i : Nat} (h : i < T.tanks) : potOf T b x (1 + i) = b i := by
 simp only [potOf]; rw [if_neg (by omega), if_pos (by omega)]; congr 1; omega
theorem potOf_hull {T : Table} {b x : Nat → Int} {i : Nat} : potOf T b x (1 + T.tanks + i) = -x i := by
 simp only [potOf]; rw [if_neg (by omega), if_neg (by omega)]; congr 2; omega
theorem Fits.pot {T : Table} (h : T.Ok) {b x : Nat → Int} (k : Fits T b x) : Pot (netOf T) (potOf T b x) := by
 refine (pot_net h).2 ⟨fun i hi => ?_, fun y hy => ?_⟩
 ·have := k.bias i hi
  rw [potOf_tank hi]
  simp only [potOf, if_true]
  omega
 ·have := k.test y hy
  rw [potOf_tank (h.tests y hy).tank, potOf_hull]
  omega
theorem fits_of {T : Table} (h : T.Ok) {p : Nat → Int} (hp : Pot (netOf T) p) : Fits T (fun i => p (1 + i) - p 0) (fun j => p 0 - p (1 + T.tanks + j)) := by
 obtain ⟨h1, h2⟩ := (pot_net h).1 hp
 refine ⟨fun i hi => ?_, fun y hy => ?_⟩
 ·have := h1 i hi; constructor <;> omega
 ·have := h2 y hy; constructor <;> omega

def Tested (T : Table) (j : Nat) : Prop := ∃ y ∈ T.tests, y.hull = j

def Matters (T : Table) (v : Nat) : Prop := v = 0 ∨ (∃ i, i < T.tanks ∧ v = 1 + i) ∨ ∃ y ∈ T.tests, v = 1 + T.tanks + y.hull

def hts (k : Known) (v : Nat) : Int := (k v).getD 0

theorem put_some {B : Net} {f t : Nat} {m : Int} {i j : Nat} (h : (∃ c, B i j = some c) ∨ (i = f ∧ j = t)) : ∃ c, put B f t m i j = some c := by
 simp only [put]
 split
 ·exact ⟨_, rfl⟩
 ·rename_i hn
  rcases h with h | h
  ·exact h
  ·exact absurd h hn
theorem tanks_some {T : Table} : ∀ (l : List Nat) (B : Net) (i j : Nat), ((∃ c, B i j = some c) ∨ ∃ k ∈ l, (i = 0 ∧ j = 1 + k) ∨ (i = 1 + k ∧ j = 0)) → ∃ c, l.foldl (putTank T) B i j = some c
 | [], _, _, _, h => by simpa using h
 | k :: l, B, i, j, h => by
   refine tanks_some l _ i j ?_
   rcases h with h | ⟨k', hk, h⟩
   ·exact .inl (put_some (.inl (put_some (.inl h))))
   ·rcases List.mem_cons.1 hk with rfl | hk
    ·rcases h with h | h
     ·exact .inl (put_some (.inl (put_some (.inr h))))
     ·exact .inl (put_some (.inr h))
    ·exact .inr ⟨k', hk, h⟩
theorem tests_some {T : Table} : ∀ (l : List Test) (B : Net) (i j : Nat), ((∃ c, B i j = some c) ∨ ∃ y ∈ l, (i = 1 + T.tanks + y.hull ∧ j = 1 + y.tank) ∨ (i = 1 + y.tank ∧ j = 1 + T.tanks + y.hull)) → ∃ c, l.foldl (putTest T) B i j = some c
 | [], _, _, _, h => by simpa using h
 | y :: l, B, i, j, h => by
   refine tests_some l _ i j ?_
   rcases h with h | ⟨y', hk, h⟩
   ·exact .inl (put_some (.inl (put_some (.inl h))))
   ·rcases List.mem_cons.1 hk with rfl | hk
    ·rcases h with h | h
     ·exact .inl (put_some (.inl (put_some (.inr h))))
     ·exact .inl (put_some (.inr h))
    ·exact .inr ⟨y', hk, h⟩
theorem net_floor {T : Table} {i : Nat} (hi : i < T.tanks) : (∃ c, netOf T 0 (1 + i) = some c) ∧ ∃ c, netOf T (1 + i) 0 = some c :=
 ⟨tests_some _ _ _ _ (.inl (tanks_some _ _ _ _ (.inr ⟨i, List.mem_range.2 hi, .inl ⟨rfl, rfl⟩⟩))), tests_some _ _ _ _ (.inl (tanks_some _ _ _ _ (.inr ⟨i, List.mem_range.2 hi, .inr ⟨rfl, rfl⟩⟩)))⟩
theorem net_test {T : Table} {y : Test} (hy : y ∈ T.tests) : (∃ c, netOf T (1 + y.tank) (1 + T.tanks + y.hull) = some c) ∧ ∃ c, netOf T (1 + T.tanks + y.hull) (1 + y.tank) = some c :=
 ⟨tests_some _ _ _ _ (.inr ⟨y, hy, .inr ⟨rfl, rfl⟩⟩), tests_some _ _ _ _ (.inr ⟨y, hy, .inl ⟨rfl, rfl⟩⟩)⟩

theorem matters_known {T : Table} (h : T.Ok) {B : Net} (hB : B = netOf T ∨ B = turn (netOf T)) {k : Known} (hf : Fixed B k) {a : Nat} (ha : Matters T a) {d : Int} (hd : k a = some d) : ∀ v, Matters T v → ∃ c, k v = some c := by
 have hm := h.many
 have lt : ∀ v, Matters T v → v < 13 := by
  rintro v (rfl | ⟨i, hi, rfl⟩ | ⟨y, hy, rfl⟩)
  ·omega
  ·simp only [Table.many] at hm; omega
  ·have := (h.tests y hy).hull; simp only [Table.many] at hm; omega
 have go : ∀ f t, Matters T f → Matters T t → (∃ c, netOf T f t = some c) ∧ (∃ c, netOf T t f = some c) → (∃ c, k f = some c) → ∃ c, k t = some c := by
  rintro f t hf' ht ⟨⟨c, hc⟩, ⟨c', hc'⟩⟩ ⟨e, he⟩
  rcases hB with rfl | rfl
  ·obtain ⟨b, hb, -⟩ := hf.le (lt f hf') (lt t ht) hc he; exact ⟨b, hb⟩
  ·obtain ⟨b, hb, -⟩ := hf.le (lt f hf') (lt t ht) (show turn (netOf T) f t = some c' from hc') he; exact ⟨b, hb⟩
 have m0 : Matters T 0 := .inl rfl
 have mt : ∀ i, i < T.tanks → Matters T (1 + i) := fun i hi => .inr (.inl ⟨i, hi, rfl⟩)
 have mh : ∀ y ∈ T.tests, Matters T (1 + T.tanks + y.hull) := fun y hy => .inr (.inr ⟨y, hy, rfl⟩)
 have k0 : ∃ c, k 0 = some c := by
  rcases ha with rfl | ⟨i, hi, rfl⟩ | ⟨y, hy, rfl⟩
  ·exact ⟨d, hd⟩
  ·exact go _ _ (mt i hi) m0 ((net_floor hi).symm) ⟨d, hd⟩
  ·have ht := (h.tests y hy).tank
   exact go _ _ (mt _ ht) m0 ((net_floor ht).symm) (go _ _ (mh y hy) (mt _ ht) ((net_test hy).symm) ⟨d, hd⟩)
 have kt : ∀ i, i < T.tanks → ∃ c, k (1 + i) = some c := fun i hi => go _ _ m0 (mt i hi) (net_floor hi) k0
 rintro v (rfl | ⟨i, hi, rfl⟩ | ⟨y, hy, rfl⟩)
 ·exact k0
 ·exact kt i hi
 ·have ht := (h.tests y hy).tank
  exact go _ _ (mt _ ht) (mh y hy) (net_test hy) (kt _ ht)

def Among (S : Nat → Prop) (B : Net) : Prop := ∀ f t m, B f t = some m → S f ∧ S t
theorem among_put {S : Nat → Prop} {B : Net} {f t : Nat} {m : Int} (h : Among S B) (hf : S f) (ht : S t) : Among S (put B f t m) := by
 intro i j c e
 simp only [put] at e
 split at e
 ·rename_i hij
  obtain ⟨rfl, rfl⟩ := hij
  exact ⟨hf, ht⟩
 ·exact h _ _ _ e
theorem among_tanks {S : Nat → Prop} {T : Table} (h0 : S 0) : ∀ (l : List Nat) (B : Net), Among S B → (∀ i ∈ l, S (1 + i)) → Among S (l.foldl (putTank T) B)
 | [], _, h, _ => h
 | i :: l, B, h, hl => among_tanks h0 l _ (among_put (among_put h h0 (hl i (by simp))) (hl i (by simp)) h0) fun j hj => hl j (List.mem_cons_of_mem _ hj)
theorem among_tests {S : Nat → Prop} {T : Table} : ∀ (l : List Test) (B : Net), Among S B → (∀ x ∈ l, S (1 + x.tank) ∧ S (1 + T.tanks + x.hull)) → Among S (l.foldl (putTest T) B)
 | [], _, h, _ => h
 | x :: l, B, h, hl => by
   obtain ⟨a, b⟩ := hl x (by simp)
   exact among_tests l _ (among_put (among_put h b a) a b) fun j hj => hl j (List.mem_cons_of_mem _ hj)
theorem among_net {T : Table} (h : T.Ok) : Among (Matters T) (netOf T) := by
 unfold netOf
 refine among_tests _ _ (among_tanks (.inl rfl) _ _ (fun _ _ _ e => by simp [empty] at e) fun i hi => .inr (.inl ⟨i, List.mem_range.1 hi, rfl⟩)) fun x hx => ?_
 exact ⟨.inr (.inl ⟨_, (h.tests x hx).tank, rfl⟩), .inr (.inr ⟨x, hx, rfl⟩)⟩

theorem hts_pot {T : Table} (h : T.Ok) {B : Net} (hB : B = netOf T ∨ B = turn (netOf T)) {k : Known} (hf : Fixed B k) (hk : ∀ v, Matters T v → ∃ c, k v = some c) : Pot B (hts k) := by
 intro f t m hf' ht e
 have : Matters T f := by
  rcases hB with rfl | rfl
  ·exact (among_net h _ _ _ e).1
  ·exact (among_net h _ _ _ e).2
 obtain ⟨c, hc⟩ := hk f this
 obtain ⟨b, hb, hl⟩ := hf.le hf' ht e hc
 simp only [hts, hc, hb, Option.getD_some]
 exact hl


def Agrees (T : Table) : Prop := ∃ b x, Fits T b x

theorem agrees_found {T : Table} (h : T.Ok) (k : Agrees T) : (found (netOf T) T.many 0).last < 0 ∧ Exact (netOf T) 0 (found (netOf T) T.many 0).known := by
 obtain ⟨b, x, k⟩ := k
 have := h.many
 exact found_exact (lim_net h) this.2 (by omega) _ (k.pot h)
theorem found_agrees {T : Table} (h : T.Ok) (k : (found (netOf T) T.many 0).last < 0) : Agrees T := by
 have hm := h.many
 have hfix := found_fixed (by omega) k
 obtain ⟨d, hd, -⟩ := found_zero (netOf T) T.many 0
 exact ⟨_, _, fits_of h (hts_pot h (.inl rfl) hfix (matters_known h (.inl rfl) hfix (.inl rfl) hd))⟩
theorem agrees_iff {T : Table} (h : T.Ok) : (found (netOf T) T.many 0).last < 0 ↔ Agrees T := ⟨found_agrees h, fun k => (agrees_found h k).1⟩

theorem agrees_turned {T : Table} (h : T.Ok) (k : Agrees T) : (found (turn (netOf T)) T.many 0).last < 0 ∧ Exact (turn (netOf T)) 0 (found (turn (netOf T)) T.many 0).known := by
 obtain ⟨b, x, k⟩ := k
 have := h.many
 refine found_exact (lim_turn (lim_net h)) this.2 (by omega) (fun v => -potOf T b x v) (pot_turn.2 ?_)
 simpa using k.pot h
def lowB (T : Table) (i : Nat) : Int := hts (found (netOf T) T.many 0).known (1 + i)
def lowX (T : Table) (j : Nat) : Int := -hts (found (netOf T) T.many 0).known (1 + T.tanks + j)
def highB (T : Table) (i : Nat) : Int := -hts (found (turn (netOf T)) T.many 0).known (1 + i)
def highX (T : Table) (j : Nat) : Int := hts (found (turn (netOf T)) T.many 0).known (1 + T.tanks + j)

theorem Fits.congr {T : Table} (h : T.Ok) {b x b' x' : Nat → Int} (k : Fits T b x) (hb : ∀ i, i < T.tanks → b' i = b i) (hx : ∀ j, j < T.hulls → x' j = x j) : Fits T b' x' := by
 refine ⟨fun i hi => by rw [hb i hi]; exact k.bias i hi, fun y hy => ?_⟩
 rw [hb _ (h.tests y hy).tank, hx _ (h.tests y hy).hull]
 exact k.test y hy

theorem low_fits {T : Table} (h : T.Ok) (k : Agrees T) : Fits T (lowB T) (lowX T) := by
 obtain ⟨-, e⟩ := agrees_found h k
 have hp := hts_pot h (.inl rfl) e.fixed (matters_known h (.inl rfl) e.fixed (.inl rfl) e.zero)
 have h0 : hts (found (netOf T) T.many 0).known 0 = 0 := by simp [hts, e.zero]
 refine (fits_of h hp).congr h (fun i _ => ?_) fun j _ => ?_
 ·rw [h0]; simp [lowB]
 ·rw [h0]; simp [lowX]
theorem high_fits {T : Table} (h : T.Ok) (k : Agrees T) : Fits T (highB T) (highX T) := by
 obtain ⟨-, e⟩ := agrees_turned h k
 have hp := pot_turn.1 (hts_pot h (.inr rfl) e.fixed (matters_known h (.inr rfl) e.fixed (.inl rfl) e.zero))
 have h0 : hts (found (turn (netOf T)) T.many 0).known 0 = 0 := by simp [hts, e.zero]
 refine (fits_of h hp).congr h (fun i _ => ?_) fun j _ => ?_
 ·rw [h0]; simp [highB]
 ·rw [h0]; simp [highX]
theorem hts_small {B : Net} {a : Nat} {k : Known} (e : Exact B a k) (v : Nat) : -(12 * M) ≤ hts k v ∧ hts k v ≤ 12 * M := by
 unfold hts
 cases h : k v with
 | none => simp [M]
 | some c => exact e.small v c h

theorem spread_holds {T : Table} (h : T.Ok) {b x : Nat → Int} (k : Fits T b x) {j : Nat} (hj : Tested T j) : lowX T j ≤ x j ∧ x j ≤ highX T j := by
 obtain ⟨y, hy, rfl⟩ := hj
 have ha : Agrees T := ⟨b, x, k⟩
 have hmt : Matters T (1 + T.tanks + y.hull) := .inr (.inr ⟨y, hy, rfl⟩)
 constructor
 ·obtain ⟨-, e⟩ := agrees_found h ha
  obtain ⟨c, hc⟩ := matters_known h (.inl rfl) e.fixed (.inl rfl) e.zero _ hmt
  obtain ⟨n, w⟩ := e.real _ _ hc
  have := w.pot (k.pot h)
  rw [potOf_hull] at this
  simp only [lowX, hts, hc, Option.getD_some]
  simp [potOf] at this
  omega
 ·obtain ⟨-, e⟩ := agrees_turned h ha
  obtain ⟨c, hc⟩ := matters_known h (.inr rfl) e.fixed (.inl rfl) e.zero _ hmt
  obtain ⟨n, w⟩ := e.real _ _ hc
  have hp : Pot (turn (netOf T)) (fun v => -potOf T b x v) := pot_turn.2 (by simpa using k.pot h)
  have := w.pot hp
  simp only [potOf_hull] at this
  simp only [highX, hts, hc, Option.getD_some]
  simp [potOf] at this
  omega

def far (T : Table) (one two : Nat) : Int := hts (found (netOf T) T.many (1 + T.tanks + one)).known (1 + T.tanks + two)

end AgreeS
