/- Hulls in plain words: what is asked, place by place; bounds. -/
import Derived.Test.YtndkjpkadfpflaaGreatTopBx
set_option linter.unusedVariables false
set_option linter.unusedSimpArgs false
set_option linter.unusedSectionVars false
namespace AE.Box
open AE.Fair
set_option linter.unusedVariables false

theorem mul_bd {a b A B : Int} (ha : 0 ≤ a ∧ a ≤ A) (hb : 0 ≤ b ∧ b ≤ B) : 0 ≤ a * b ∧ a * b ≤ A * B :=
  ⟨Int.mul_nonneg ha.1 hb.1, Int.mul_le_mul ha.2 hb.2 hb.1 (by omega)⟩
/-- The weight of one of some. -/
def wt (i n : Nat) : Int := if i = 0 ∨ i + 1 = n then 1 else 2
theorem wt_bd (i n : Nat) : 1 ≤ wt i n ∧ wt i n ≤ 2 := by unfold wt; split <;> omega
/-- How far stations, and waterlines, are from each other, and how many there are. -/
structure Geo where
  sp : Int
  st : Int
  n : Nat
  w : Nat
structure Geo.Ok (G : Geo) : Prop where
  n1 : 2 ≤ G.n
  n2 : G.n ≤ 10
  w1 : 2 ≤ G.w
  w2 : G.w ≤ 6
  s1 : 1 ≤ G.sp ∧ G.sp ≤ 1000
  t1 : 1 ≤ G.st ∧ G.st ≤ 100
def Geo.wy (G : Geo) (i k : Nat) (y : Int) : Int := wt i G.n * wt k G.w * y
/-- What stands above, and below. -/
def Geo.a (G : Geo) (q : Nat) (i k : Nat) (y : Int) : Int :=
  if q = 0 then G.sp * i * G.wy i k y else if q = 1 then G.st * k * G.wy i k y else
    if k + 1 = G.w then 3 * G.st * G.st * k * G.wy i k y + 2 * wt i G.n * y * y * y else 3 * G.st * G.st * k * G.wy i k y
def Geo.b (G : Geo) (q : Nat) (i k : Nat) (y : Int) : Int := if q = 0 ∨ q = 1 then G.wy i k y else 3 * G.st * G.wy i k y

/-- All that is reckoned on the way is in bounds. -/
structure Geo.Steps (G : Geo) (i k : Nat) (y : Int) : Prop where
  v : 0 ≤ wt i G.n * wt k G.w ∧ wt i G.n * wt k G.w ≤ 4
  wy : 0 ≤ wt i G.n * wt k G.w * y ∧ wt i G.n * wt k G.w * y ≤ 2000
  spi : 0 ≤ G.sp * i ∧ G.sp * i ≤ 10000
  a0 : 0 ≤ G.sp * i * (wt i G.n * wt k G.w * y) ∧ G.sp * i * (wt i G.n * wt k G.w * y) ≤ 20000000
  stk : 0 ≤ G.st * k ∧ G.st * k ≤ 600
  a1 : 0 ≤ G.st * k * (wt i G.n * wt k G.w * y) ∧ G.st * k * (wt i G.n * wt k G.w * y) ≤ 1200000
  s3 : 0 ≤ 3 * G.st ∧ 3 * G.st ≤ 300
  ss : 0 ≤ 3 * G.st * G.st ∧ 3 * G.st * G.st ≤ 30000
  ssk : 0 ≤ 3 * G.st * G.st * k ∧ 3 * G.st * G.st * k ≤ 180000
  a2 : 0 ≤ 3 * G.st * G.st * k * (wt i G.n * wt k G.w * y) ∧ 3 * G.st * G.st * k * (wt i G.n * wt k G.w * y) ≤ 360000000
  c1 : 0 ≤ 2 * wt i G.n ∧ 2 * wt i G.n ≤ 4
  c2 : 0 ≤ 2 * wt i G.n * y ∧ 2 * wt i G.n * y ≤ 2000
  c3 : 0 ≤ 2 * wt i G.n * y * y ∧ 2 * wt i G.n * y * y ≤ 1000000
  c4 : 0 ≤ 2 * wt i G.n * y * y * y ∧ 2 * wt i G.n * y * y * y ≤ 500000000
  b2 : 0 ≤ 3 * G.st * (wt i G.n * wt k G.w * y) ∧ 3 * G.st * (wt i G.n * wt k G.w * y) ≤ 600000
theorem Geo.Ok.steps {G : Geo} (g : G.Ok) {i k : Nat} (hi : i < G.n) (hk : k < G.w) {y : Int} (hy : 0 ≤ y ∧ y ≤ 500) : G.Steps i k y := by
  have w1 := wt_bd i G.n
  have w2 := wt_bd k G.w
  have n2 := g.n2
  have m2 := g.w2
  have s1 := g.s1
  have t1 := g.t1
  have v := mul_bd (a := wt i G.n) (b := wt k G.w) (A := 2) (B := 2) (by omega) (by omega)
  have wy := mul_bd v hy
  have spi := mul_bd (a := G.sp) (b := i) (A := 1000) (B := 10) (by omega) (by omega)
  have a0 := mul_bd spi wy
  have stk := mul_bd (a := G.st) (b := k) (A := 100) (B := 6) (by omega) (by omega)
  have a1 := mul_bd stk wy
  have s3 : 0 ≤ 3 * G.st ∧ 3 * G.st ≤ 300 := by omega
  have ss := mul_bd (a := 3 * G.st) (b := G.st) (A := 300) (B := 100) s3 (by omega)
  have ssk := mul_bd (b := k) (B := 6) ss (by omega)
  have a2 := mul_bd ssk wy
  have c1 : 0 ≤ 2 * wt i G.n ∧ 2 * wt i G.n ≤ 4 := by omega
  have c2 := mul_bd c1 hy
  have c3 := mul_bd c2 hy
  have c4 := mul_bd c3 hy
  have b2 := mul_bd s3 wy
  constructor <;> assumption
theorem Geo.Ok.a_bd {G : Geo} (g : G.Ok) {q i k : Nat} (hi : i < G.n) (hk : k < G.w) {y : Int} (hy : 0 ≤ y ∧ y ≤ 500) : 0 ≤ G.a q i k y ∧ G.a q i k y ≤ 860000000 := by
  have s := g.steps hi hk hy
  have := s.a0
  have := s.a1
  have := s.a2
  have := s.c4
  unfold Geo.a Geo.wy
  split
  · omega
  · split
    · omega
    · split <;> omega
theorem Geo.Ok.b_bd {G : Geo} (g : G.Ok) {q i k : Nat} (hi : i < G.n) (hk : k < G.w) {y : Int} (hy : 0 ≤ y ∧ y ≤ 500) : 0 ≤ G.b q i k y ∧ G.b q i k y ≤ 600000 := by
  have s := g.steps hi hk hy
  have := s.wy
  have := s.b2
  unfold Geo.b Geo.wy
  split <;> omega
theorem Geo.Ok.b_pos {G : Geo} (g : G.Ok) {q i k : Nat} {y : Int} (hy : 0 < y) : 0 < G.b q i k y := by
  have w1 := wt_bd i G.n
  have w2 := wt_bd k G.w
  have t1 := g.t1
  have v : 0 < wt i G.n * wt k G.w := Int.mul_pos (by omega) (by omega)
  have wy := Int.mul_pos v hy
  have b := Int.mul_pos (a := 3 * G.st) (by omega) wy
  unfold Geo.b Geo.wy
  split <;> omega
theorem Geo.Ok.ab {G : Geo} (g : G.Ok) {q i k : Nat} (hi : i < G.n) (hk : k < G.w) {y : Int} (hy : 0 ≤ y ∧ y ≤ 500) : G.a q i k y ≤ 1000000 * G.b q i k y := by
  have s := g.steps hi hk hy
  have wy := s.wy
  have w1 := wt_bd i G.n
  have w2 := wt_bd k G.w
  have t1 := g.t1
  unfold Geo.a Geo.b Geo.wy
  by_cases h0 : q = 0
  · rw [if_pos h0, if_pos (.inl h0)]
    exact Int.mul_le_mul_of_nonneg_right (show G.sp * i ≤ 1000000 by have := s.spi; omega) wy.1
  by_cases h1 : q = 1
  · rw [if_neg h0, if_pos h1, if_pos (.inr h1)]
    exact Int.mul_le_mul_of_nonneg_right (show G.st * k ≤ 1000000 by have := s.stk; omega) wy.1
  rw [if_neg h0, if_neg h1, if_neg (show ¬ (q = 0 ∨ q = 1) by omega)]
  have e1 : 3 * G.st * G.st * k * (wt i G.n * wt k G.w * y) ≤ 1000 * (3 * G.st * (wt i G.n * wt k G.w * y)) := by
    have := Int.mul_le_mul_of_nonneg_right (show G.st * k ≤ 1000 by have := s.stk; omega) s.b2.1
    have e : 3 * G.st * G.st * k * (wt i G.n * wt k G.w * y) = G.st * k * (3 * G.st * (wt i G.n * wt k G.w * y)) := by ac_rfl
    rw [e]; exact this
  have b2 := s.b2
  split
  · rename_i hk1
    have ek : wt k G.w = 1 := by unfold wt; rw [if_pos (.inr hk1)]
    have e2 : 2 * wt i G.n * y * y * y ≤ 500000 * (3 * G.st * (wt i G.n * wt k G.w * y)) := by
      rw [ek, Int.mul_one]
      have yy := mul_bd hy hy
      have p0 : 0 ≤ wt i G.n * y := Int.mul_nonneg (by omega) hy.1
      have h1 : 2 * wt i G.n * y * y * y = 2 * (y * y) * (wt i G.n * y) := by ac_rfl
      have h2 := Int.mul_le_mul_of_nonneg_right (show 2 * (y * y) ≤ 500000 by omega) p0
      have h3 : wt i G.n * y ≤ 3 * G.st * (wt i G.n * y) := by
        have := Int.mul_le_mul_of_nonneg_right (show 1 ≤ 3 * G.st by omega) p0
        omega
      omega
    omega
  · omega

/-! ### places, one after the other -/

theorem pl_lt {i k n w : Nat} (hi : i < n) (hk : k < w) : i * w + k < n * w := by
  have : (i + 1) * w ≤ n * w := Nat.mul_le_mul_right w (by omega)
  rw [Nat.succ_mul] at this
  omega
theorem pl_div {i k w : Nat} (hk : k < w) : (i * w + k) / w = i := by
  rw [Nat.add_comm, Nat.add_mul_div_right _ _ (by omega), Nat.div_eq_of_lt hk, Nat.zero_add]
theorem pl_mod {i k w : Nat} (hk : k < w) : (i * w + k) % w = k := by
  rw [Nat.add_comm, Nat.add_mul_mod_self_right, Nat.mod_eq_of_lt hk]
theorem pl_of {p n w : Nat} (hp : p < n * w) : p / w < n ∧ p % w < w ∧ p / w * w + p % w = p := by
  have h0 : 0 < w := by
    rcases Nat.eq_zero_or_pos w with h | h
    · rw [h, Nat.mul_zero] at hp; omega
    · exact h
  exact ⟨Nat.div_lt_of_lt_mul (by rw [Nat.mul_comm]; exact hp), Nat.mod_lt _ h0, by rw [Nat.mul_comm]; exact Nat.div_add_mod p w⟩
/-- The sum over all places before place p. -/
def sumP (F : Nat → Nat → Int) (w p : Nat) : Int := sumF (fun p => F (p / w) (p % w)) p
theorem sumP_zero (F : Nat → Nat → Int) (w : Nat) : sumP F w 0 = 0 := rfl
theorem sumP_next (F : Nat → Nat → Int) {i k w : Nat} (hk : k < w) : sumP F w (i * w + k + 1) = sumP F w (i * w + k) + F i k := by
  unfold sumP
  rw [sumF, pl_div hk, pl_mod hk]
theorem sumP_bd {F : Nat → Nat → Int} {B : Int} {n w p : Nat} (h : ∀ i k, i < n → k < w → 0 ≤ F i k ∧ F i k ≤ B) (hp : p ≤ n * w) : 0 ≤ sumP F w p ∧ sumP F w p ≤ B * p :=
  sumF_bd fun j hj => h _ _ (pl_of (Nat.lt_of_lt_of_le hj hp)).1 (pl_of (Nat.lt_of_lt_of_le hj hp)).2.1
theorem sumP_congr {F H : Nat → Nat → Int} {n w p : Nat} (h : ∀ i k, i < n → k < w → F i k = H i k) (hp : p ≤ n * w) : sumP F w p = sumP H w p :=
  sumF_congr fun j hj => h _ _ (pl_of (Nat.lt_of_lt_of_le hj hp)).1 (pl_of (Nat.lt_of_lt_of_le hj hp)).2.1

/-- A valid hull. -/
structure Hul extends Geo where
  lo : Nat → Nat → Int
  hi : Nat → Nat → Int
structure Hul.Ok (H : Hul) : Prop extends H.toGeo.Ok where
  pl : ∀ i k, i < H.n → k < H.w → 0 ≤ H.lo i k ∧ H.lo i k ≤ H.hi i k ∧ H.hi i k ≤ 500 ∧ H.hi i k - H.lo i k ≤ 20
  some : ∃ i k, i < H.n ∧ k < H.w ∧ 0 < H.lo i k
def Hul.sys (H : Hul) (q : Nat) : Sys := ⟨H.n * H.w, fun p y => H.a q (p / H.w) (p % H.w) y, fun p y => H.b q (p / H.w) (p % H.w) y, fun p => H.lo (p / H.w) (p % H.w), fun p => H.hi (p / H.w) (p % H.w)⟩
/-- A true hull. -/
def Hul.In (H : Hul) (y : Nat → Nat → Int) : Prop := ∀ i k, i < H.n → k < H.w → H.lo i k ≤ y i k ∧ y i k ≤ H.hi i k
def flat (w : Nat) (y : Nat → Nat → Int) : Nat → Int := fun p => y (p / w) (p % w)
theorem Hul.In.valid {H : Hul} {y : Nat → Nat → Int} (h : H.In y) (q : Nat) : (H.sys q).Valid (flat H.w y) := fun p hp => h _ _ (pl_of hp).1 (pl_of hp).2.1
def Hul.num (H : Hul) (q : Nat) (y : Nat → Nat → Int) : Int := sumP (fun i k => H.a q i k (y i k)) H.w (H.n * H.w)
def Hul.den (H : Hul) (q : Nat) (y : Nat → Nat → Int) : Int := sumP (fun i k => H.b q i k (y i k)) H.w (H.n * H.w)
def Hul.vol (H : Hul) (y : Nat → Nat → Int) : Int := sumP (fun i k => H.wy i k (y i k)) H.w (H.n * H.w)
theorem Hul.Ok.nw {H : Hul} (k : H.Ok) : 4 ≤ H.n * H.w ∧ H.n * H.w ≤ 60 := ⟨Nat.mul_le_mul k.n1 k.w1, Nat.mul_le_mul k.n2 k.w2⟩
theorem Hul.Ok.yin {H : Hul} (k : H.Ok) {y : Nat → Nat → Int} (hy : H.In y) {i j : Nat} (hi : i < H.n) (hj : j < H.w) : 0 ≤ y i j ∧ y i j ≤ 500 := by
  have := k.pl i j hi hj
  have := hy i j hi hj
  omega
theorem Hul.Ok.num_bd {H : Hul} (k : H.Ok) (q : Nat) {y : Nat → Nat → Int} (hy : H.In y) {p : Nat} (hp : p ≤ H.n * H.w) : 0 ≤ sumP (fun i k => H.a q i k (y i k)) H.w p ∧ sumP (fun i k => H.a q i k (y i k)) H.w p ≤ 51600000000 := by
  have := sumP_bd (F := fun i k => H.a q i k (y i k)) (B := 860000000) (n := H.n) (w := H.w) (p := p) (fun i j hi hj => k.toOk.a_bd hi hj (k.yin hy hi hj)) hp
  have := k.nw
  omega
theorem Hul.Ok.den_bd {H : Hul} (k : H.Ok) (q : Nat) {y : Nat → Nat → Int} (hy : H.In y) {p : Nat} (hp : p ≤ H.n * H.w) : 0 ≤ sumP (fun i k => H.b q i k (y i k)) H.w p ∧ sumP (fun i k => H.b q i k (y i k)) H.w p ≤ 36000000 := by
  have := sumP_bd (F := fun i k => H.b q i k (y i k)) (B := 600000) (n := H.n) (w := H.w) (p := p) (fun i j hi hj => k.toOk.b_bd hi hj (k.yin hy hi hj)) hp
  have := k.nw
  omega
theorem Hul.Ok.vol_bd {H : Hul} (k : H.Ok) {y : Nat → Nat → Int} (hy : H.In y) {p : Nat} (hp : p ≤ H.n * H.w) : 0 ≤ sumP (fun i k => H.wy i k (y i k)) H.w p ∧ sumP (fun i k => H.wy i k (y i k)) H.w p ≤ 120000 := by
  have := sumP_bd (F := fun i k => H.wy i k (y i k)) (B := 2000) (n := H.n) (w := H.w) (p := p) (fun i j hi hj => (k.toOk.steps hi hj (k.yin hy hi hj)).wy) hp
  have := k.nw
  omega
theorem sumF_pos {F : Nat → Int} {n i : Nat} (h : ∀ j, j < n → 0 ≤ F j) (hi : i < n) (hp : 0 < F i) : 0 < sumF F n := by
  have h1 := sumF_mono (F := F) (n := n) h (i := i + 1) hi
  have h2 := (sumF_mono (F := F) (n := i) (fun j hj => h j (by omega)) (i := 0) (by omega))
  simp only [sumF] at h1 h2
  omega
theorem Hul.Ok.den_pos {H : Hul} (k : H.Ok) (q : Nat) {y : Nat → Nat → Int} (hy : H.In y) : 0 < H.den q y := by
  obtain ⟨i, j, hi, hj, h0⟩ := k.some
  have hlo := hy i j hi hj
  refine sumF_pos (i := i * H.w + j) (fun p hp => (k.toOk.b_bd (pl_of hp).1 (pl_of hp).2.1 (k.yin hy (pl_of hp).1 (pl_of hp).2.1)).1) (pl_lt hi hj) ?_
  dsimp only
  rw [pl_div hj, pl_mod hj]
  exact k.toOk.b_pos (by omega)
/-- A row of offsets, out of a row of all. -/
theorem Sys.Valid.in {H : Hul} {q : Nat} {y : Nat → Int} (h : (H.sys q).Valid y) : H.In (fun i k => y (i * H.w + k)) := fun i k hi hk => by
  have := h (i * H.w + k) (pl_lt hi hk)
  unfold Hul.sys at this
  dsimp only at this
  rw [pl_div hk, pl_mod hk] at this
  exact this
theorem Hul.num_un (H : Hul) (q : Nat) (y : Nat → Int) : (H.sys q).num y = H.num q (fun i k => y (i * H.w + k)) := by
  unfold Sys.num Hul.num sumP
  exact sumF_congr fun p hp => by dsimp only [Hul.sys]; rw [(pl_of hp).2.2]
theorem Hul.den_un (H : Hul) (q : Nat) (y : Nat → Int) : (H.sys q).den y = H.den q (fun i k => y (i * H.w + k)) := by
  unfold Sys.den Hul.den sumP
  exact sumF_congr fun p hp => by dsimp only [Hul.sys]; rw [(pl_of hp).2.2]
theorem Hul.Ok.bd {H : Hul} (k : H.Ok) (q : Nat) : (H.sys q).Bd 1000000 36000000 := by
  refine ⟨fun y hy => ?_, fun y hy => ?_⟩
  · have hi := Sys.Valid.in hy
    rw [H.num_un, H.den_un]
    refine ⟨(k.num_bd q hi (Nat.le_refl _)).1, ?_⟩
    unfold Hul.num Hul.den sumP
    rw [← sumF_mul]
    exact sumF_le fun p hp => k.toOk.ab (pl_of hp).1 (pl_of hp).2.1 (k.yin hi (pl_of hp).1 (pl_of hp).2.1)
  · have hi := Sys.Valid.in hy
    rw [H.den_un]
    exact ⟨k.den_pos q hi, (k.den_bd q hi (Nat.le_refl _)).2⟩
/-- What is asked of a true hull. -/
def Hul.val (H : Hul) (q : Nat) (y : Nat → Nat → Int) : Fr := fr (H.num q y) (H.den q y)
/-- A number that can be asked about. -/
structure Fr.Q (x : Fr) : Prop where
  n0 : 0 ≤ x.n
  n1 : x.n ≤ 100000000000
  d0 : 1 ≤ x.d
  d1 : x.d ≤ 100000000
theorem Hul.Ok.val_q {H : Hul} (k : H.Ok) (q : Nat) {y : Nat → Nat → Int} (hy : H.In y) : (H.val q y).Q := by
  have h1 := k.num_bd q hy (Nat.le_refl _)
  have h2 := k.den_bd q hy (Nat.le_refl _)
  have h3 := k.den_pos q hy
  have f := fr_of (n := H.num q y) h3
  have e := f.le_d
  obtain ⟨d0, g, hg, e1, e2⟩ := f
  unfold Hul.val
  have n0 : 0 ≤ (fr (H.num q y) (H.den q y)).n := by
    refine Int.le_of_mul_le_mul_right (a := g) ?_ hg
    rw [← e1, Int.zero_mul]; exact h1.1
  refine ⟨n0, ?_, d0, by unfold Hul.den at *; omega⟩
  have := Int.mul_le_mul_of_nonneg_left (show 1 ≤ g by omega) n0
  rw [← e1] at this
  unfold Hul.num at *
  omega
/-- What a place adds. -/
def Hul.part (H : Hul) (q : Nat) (x : Fr) (i k : Nat) (y : Int) : Int := x.d * H.a q i k y - x.n * H.b q i k y
theorem Hul.Ok.part_bd {H : Hul} (k : H.Ok) {q i j : Nat} {x : Fr} (hx : x.Q) (hi : i < H.n) (hj : j < H.w) {y : Int} (hy : 0 ≤ y ∧ y ≤ 500) :
    (0 ≤ x.d * H.a q i j y ∧ x.d * H.a q i j y ≤ 86000000000000000) ∧ (0 ≤ x.n * H.b q i j y ∧ x.n * H.b q i j y ≤ 60000000000000000) := by
  obtain ⟨a, b, c, d⟩ := hx
  have h1 := k.toOk.a_bd (q := q) hi hj hy
  have h2 := k.toOk.b_bd (q := q) hi hj hy
  exact ⟨mul_bd (A := 100000000) (B := 860000000) ⟨by omega, d⟩ h1, mul_bd (A := 100000000000) (B := 600000) ⟨a, b⟩ h2⟩
end AE.Box
