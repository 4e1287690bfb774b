/- Walks and plain laws: TopW, TopH1. -/
import Derived.Test.YtndkjpkadfpflaaGreatTopW35
import Derived.Test.YtndkjpkadfpflaaGreatTopW36
import Derived.Test.YtndkjpkadfpflaaGreatTopW37
import Derived.Test.YtndkjpkadfpflaaGreatTopW54
import Derived.Test.YtndkjpkadfpflaaGreatAEthree
import Derived.Test.YtndkjpkadfpflaaGreatJoin3
import Derived.Test.YtndkjpkadfpflaaGreatJoin6
import Derived.Test.YtndkjpkadfpflaaGreatTopF8
set_option linter.unusedVariables false
set_option linter.unusedSimpArgs false
set_option linter.unusedSectionVars false

/- Works of the layers up to 3, and up to 4. -/
namespace AE.Tryz
open Go AE Go.Proofs
set_option maxRecDepth 100000
theorem w35 {h : H} : AW Tryz.prog 35 h.next h [] (fun v h' => v = .bool true ∧ h' = h) := AE.KerD.closed_w rfl tab_ok tabD_ok kw35
theorem w36 {h : H} : AW Tryz.prog 36 h.next h [] (fun v h' => v = .bool true ∧ h' = h) := AE.KerD.closed_w rfl tab_ok tabD_ok kw36
theorem w37 {h : H} : AW Tryz.prog 37 h.next h [] (fun v h' => v = .bool true ∧ h' = h) := AE.KerD.closed_w rfl tab_ok tabD_ok kw37
theorem w54 {h : H} : AW Tryz.prog 54 h.next h [] (fun v h' => v = .bool true ∧ h' = h) := AE.KerD.closed_w rfl tab_ok tabD_ok kw54
theorem works04_w {h : H} : AW Tryz.prog 20 h.next h [] (fun v _ => v = .bool true) := by
  refine fun20.call rfl (Nat.le_refl _) ?_
  unfold a20
  (focus ((try with_reducible apply wpC.to); (repeat' ((conv => whnf); first | refine byEv ?_ | fail)); all_goals ((conv => whnf); try with_reducible apply At.mk)))
  apply q_call
  focus (exact byNext)
  focus (exact byLo)
  focus exact w35
  rintro _ _ ⟨rfl, rfl⟩ q hn
  (focus ((try with_reducible apply wpC.to); (repeat' ((conv => whnf); first | refine byEv ?_ | fail)); all_goals ((conv => whnf); try with_reducible apply At.mk)))
  apply q_call
  focus (exact byNext)
  focus (exact byLo)
  focus exact w36
  rintro _ _ ⟨rfl, rfl⟩ q hn
  (focus ((try with_reducible apply wpC.to); (repeat' ((conv => whnf); first | refine byEv ?_ | fail)); all_goals ((conv => whnf); try with_reducible apply At.mk)))
  apply q_call
  focus (exact byNext)
  focus (exact byLo)
  focus exact w37
  rintro _ _ ⟨rfl, rfl⟩ q hn
  (focus ((try with_reducible apply wpC.to); (repeat' ((conv => whnf); first | refine byEv ?_ | fail)); all_goals ((conv => whnf); try with_reducible apply At.mk)))
  apply q_call
  focus (exact byNext)
  focus (exact byLo)
  focus exact w54
  rintro _ _ ⟨rfl, rfl⟩ q hn
  (focus ((try with_reducible apply wpC.to); (repeat' ((conv => whnf); first | refine byEv ?_ | fail)); all_goals ((conv => whnf); try with_reducible apply At.mk)))
  (refine byFin ?_)
  rfl
theorem kTopW1 {G : Prop} (g : G := by ((apply works04_w))) : G := g
end AE.Tryz

/- Lines that grow, side by side; the column of a hull; what is between. -/
namespace AE.Tryz
open Go AE Go.Proofs AE.Box AE.Fair
set_option maxRecDepth 100000
set_option linter.unusedVariables false

/-! ### plain -/

theorem not_lt4 {x y : Fr} (h : y.n * x.d ≤ x.n * y.d) : ¬ lt4 x.n x.d y.n y.d := by unfold lt4; omega
/-- The volume's number. -/
theorem volume_q {T : Hull} (V : T.Valid) {Y : Nat → Nat → Int} (hY : T.hul.In Y) : (fr (T.sp * T.st * T.hul.vol Y) 2).Q ∧ FrOf (fr (T.sp * T.st * T.hul.vol Y) 2) (T.sp * T.st * T.hul.vol Y) 2 := by
  have s1 := V.s1
  have s2 := V.s2
  have vb : 0 ≤ T.hul.vol Y ∧ T.hul.vol Y ≤ 120000 := V.hul.vol_bd hY (p := T.hul.n * T.hul.w) (Nat.le_refl _)
  have p1 := mul_bd (a := T.sp) (b := T.st) (A := 1000) (B := 100) (by omega) (by omega)
  have p2 := mul_bd p1 vb
  have f := fr_of (n := T.sp * T.st * T.hul.vol Y) (d := 2) (by omega)
  have e := f.le_d
  refine ⟨?_, f⟩
  obtain ⟨d0, g, hg, e1, e2⟩ := f
  have n0 : 0 ≤ (fr (T.sp * T.st * T.hul.vol Y) 2).n := by
    refine Int.le_of_mul_le_mul_right (a := g) ?_ hg
    rw [← e1, Int.zero_mul]; exact p2.1
  have := Int.mul_le_mul_of_nonneg_left (show 1 ≤ g by omega) n0
  rw [← e1] at this
  exact ⟨n0, by omega, d0, by omega⟩
theorem over_le {T : Hull} {q : Nat} (V : T.Valid) {Y : Nat → Nat → Int} (hY : T.hul.In Y) {x : Fr} (hx : x.Q) (h : (T.hul.sys q).over x.n x.d (Box.flat (T.w 0) Y) ≤ 0) : ¬ lt4 x.n x.d (T.hul.val q Y).n (T.hul.val q Y).d := by
  refine not_lt4 ?_
  have k : FrOf (T.hul.val q Y) (T.hul.num q Y) (T.hul.den q Y) := fr_of (V.hul.den_pos q hY)
  have h1 : (T.hul.sys q).num (Box.flat (T.w 0) Y) = T.hul.num q Y := rfl
  have h2 : (T.hul.sys q).den (Box.flat (T.w 0) Y) = T.hul.den q Y := rfl
  unfold Sys.over at h
  rw [h1, h2] at h
  generalize T.hul.val q Y = v at k ⊢
  generalize T.hul.num q Y = a at k h
  generalize T.hul.den q Y = b at k h
  obtain ⟨d0, g, hg, rfl, rfl⟩ := k
  refine Int.le_of_mul_le_mul_right (a := g) ?_ hg
  have e3 : v.n * x.d * g = x.d * (v.n * g) := by ac_rfl
  have e4 : x.n * v.d * g = x.n * (v.d * g) := by ac_rfl
  rw [e3, e4]
  omega
theorem over_ge {T : Hull} {q : Nat} (V : T.Valid) {Y : Nat → Nat → Int} (hY : T.hul.In Y) {x : Fr} (hx : x.Q) (h : -1 * (T.hul.sys q).over x.n x.d (Box.flat (T.w 0) Y) ≤ 0) : ¬ lt4 (T.hul.val q Y).n (T.hul.val q Y).d x.n x.d := by
  refine not_lt4 ?_
  have k : FrOf (T.hul.val q Y) (T.hul.num q Y) (T.hul.den q Y) := fr_of (V.hul.den_pos q hY)
  have h1 : (T.hul.sys q).num (Box.flat (T.w 0) Y) = T.hul.num q Y := rfl
  have h2 : (T.hul.sys q).den (Box.flat (T.w 0) Y) = T.hul.den q Y := rfl
  unfold Sys.over at h
  rw [h1, h2] at h
  generalize T.hul.val q Y = v at k ⊢
  generalize T.hul.num q Y = a at k h
  generalize T.hul.den q Y = b at k h
  obtain ⟨d0, g, hg, rfl, rfl⟩ := k
  refine Int.le_of_mul_le_mul_right (a := g) ?_ hg
  have e3 : v.n * x.d * g = x.d * (v.n * g) := by ac_rfl
  have e4 : x.n * v.d * g = x.n * (v.d * g) := by ac_rfl
  rw [e3, e4]
  omega


/-! ### lines that grow, side by side -/

def offC (vv : Nat → Option Addr) (kk : Nat → Nat) (n : Nat) : List Value := rowsOf (fun i => [.slice (vv i) (kk i) 0]) n
/-- n lines of kk i numbers each, that are named in row R; they lie from row lo on, below N. -/
structure Off (lo N : Nat) (h : H) (R n : Nat) (kk : Nat → Nat) (rr : Nat → Nat) (vv : Nat → Option Addr) (Y : Nat → Nat → Int) : Prop where
  out : h.get R = some (.cells (offC vv kk n) 38)
  row : ∀ i, i < n → GG (rr i) h 2 1 (kk i) (iCells (Y i) (kk i)) (vv i)
  rng : ∀ i, i < n → 0 < kk i → lo ≤ rr i ∧ rr i < N
  inj : ∀ i j, i < n → j < n → 0 < kk i → 0 < kk j → rr i = rr j → i = j
  rlo : R < lo
theorem Off.frame {lo N N' : Nat} {h h' : H} {R n : Nat} {kk rr : Nat → Nat} {vv : Nat → Option Addr} {Y : Nat → Nat → Int} (k : Off lo N h R n kk rr vv Y) (hN : N ≤ N') (hR : h'.get R = h.get R) (hs : ∀ x, lo ≤ x → x < N → h'.get x = h.get x) : Off lo N' h' R n kk rr vv Y :=
  ⟨hR.trans k.out, fun i hi => (k.row i hi).frame fun h0 => hs _ (k.rng i hi h0).1 (k.rng i hi h0).2, fun i hi h0 => by have := k.rng i hi h0; omega, k.inj, k.rlo⟩
theorem Off.vals {lo N : Nat} {h : H} {R n : Nat} {kk rr : Nat → Nat} {vv : Nat → Option Addr} {Y : Nat → Nat → Int} (k : Off lo N h R n kk rr vv Y) : Vals h ⟨R, 0, none⟩ n (fun i => .slice (vv i) (kk i) 0) := fun i hi => by
  have := cut_rowsOf (g := fun i => [Value.slice (vv i) (kk i) 0]) (w := 1) (fun _ => rfl) hi [] [] (a := 0 + i) (by simp)
  exact loadN_cells (off := 0 + i) k.out (by simpa [offC] using this)
/-- Line i has a number more. -/
theorem Off.set {lo N N' : Nat} {h h' : H} {R n : Nat} {kk rr : Nat → Nat} {vv : Nat → Option Addr} {Y : Nat → Nat → Int} (k : Off lo N h R n kk rr vv Y) {i r' : Nat} {v' : Option Addr} (hi : i < n) (hN : N ≤ N') (hlo : lo ≤ N)
    (hR : h'.get R = some (.cells (splice (offC vv kk n) i [.slice v' (kk i + 1) 0]) 38)) (hs : ∀ x, lo ≤ x → x < N → (0 < kk i → x ≠ rr i) → h'.get x = h.get x) (G : GG r' h' 2 1 (kk i + 1) (iCells (Y i) (kk i + 1)) v') (hr : (0 < kk i → r' = rr i) ∧ (kk i = 0 → N ≤ r' ∧ r' < N')) :
    Off lo N' h' R n (fun j => if j = i then kk i + 1 else kk j) (fun j => if j = i then r' else rr j) (fun j => if j = i then v' else vv j) Y := by
  refine ⟨?_, fun j hj => ?_, fun j hj h0 => ?_, fun a b ha hb h1 h2 e => ?_, k.rlo⟩
  · rw [hR]
    have := splice_rowsOf (g := fun i => [Value.slice (vv i) (kk i) 0]) (w := 1) (fun _ => rfl) hi [] [] [Value.slice v' (kk i + 1) 0] rfl (a := i) (by simp)
    simp only [List.nil_append, List.append_nil] at this
    unfold offC
    rw [this]
    congr 2
    refine rowsOf_congr n fun j hj => ?_
    unfold updL
    by_cases e : j = i
    · subst e; simp
    · simp [e]
  · by_cases e : j = i
    · subst e; simp only [if_true]; exact G
    · simp only [if_neg e]
      refine (k.row j hj).frame fun h0 => hs _ (k.rng j hj h0).1 (k.rng j hj h0).2 fun hi0 e2 => e (k.inj j i hj hi h0 hi0 e2)
  · by_cases e : j = i
    · subst e
      simp only [if_true]
      rcases Nat.eq_zero_or_pos (kk j) with hk | hk
      · have := hr.2 hk; omega
      · have := hr.1 hk; have := k.rng j hi hk; omega
    · simp only [if_neg e] at h0 ⊢
      have := k.rng j hj h0; omega
  · by_cases ea : a = i
    · by_cases eb : b = i
      · omega
      · subst ea
        simp only [if_true, if_neg eb] at e h2
        have := k.rng b hb h2
        rcases Nat.eq_zero_or_pos (kk a) with hk | hk
        · have := hr.2 hk; omega
        · rw [hr.1 hk] at e; exact k.inj a b ha hb hk h2 e
    · by_cases eb : b = i
      · subst eb
        simp only [if_true, if_neg ea] at e h1
        have := k.rng a ha h1
        rcases Nat.eq_zero_or_pos (kk b) with hk | hk
        · have := hr.2 hk; omega
        · rw [hr.1 hk] at e; exact k.inj a b ha hb h1 hk e
      · simp only [if_neg ea, if_neg eb] at e h1 h2
        exact k.inj a b ha hb h1 h2 e
theorem Off.congr {lo N : Nat} {h : H} {R n : Nat} {kk kk' rr : Nat → Nat} {vv : Nat → Option Addr} {Y Y' : Nat → Nat → Int} (k : Off lo N h R n kk rr vv Y) (hk : ∀ i, i < n → kk' i = kk i) (hY : ∀ i j, i < n → j < kk i → Y i j = Y' i j) : Off lo N h R n kk' rr vv Y' := by
  refine ⟨?_, fun i hi => ?_, fun i hi h0 => ?_, fun a b ha hb h1 h2 e => ?_, k.rlo⟩
  · rw [k.out]
    congr 2
    exact rowsOf_congr n fun i hi => by rw [hk i hi]
  · have e : iCells (Y' i) (kk i) = iCells (Y i) (kk i) := by unfold iCells; exact rowsOf_congr _ fun j hj => by rw [hY i j hi hj]
    rw [hk i hi, e]; exact k.row i hi
  · rw [hk i hi] at h0; exact k.rng i hi h0
  · rw [hk a ha] at h1; rw [hk b hb] at h2; exact k.inj a b ha hb h1 h2 e
/-- One can read them. -/
theorem Off.grid {lo N : Nat} {h : H} {R n w : Nat} {rr : Nat → Nat} {vv : Nat → Option Addr} {Y : Nat → Nat → Int} (k : Off lo N h R n (fun _ => w) rr vv Y) (hw : 0 < w) (hRN : lo ≤ N) :
    ∃ ra : Nat → Addr, (⟨n, w, some ⟨R, 0, none⟩, ⟨R, 0, none⟩, n, ra, fun _ => 0, Y⟩ : Grid).Ok N h ∧ ∀ i, i < n → vv i = some (ra i) := by
  have hrl := k.rlo
  refine ⟨fun i => (vv i).getD ⟨0, 0, none⟩, ⟨fun _ => rfl, fun i hi => ?_, fun _ => by show R < N; omega, fun i hi => ?_, fun i hi => ?_⟩, fun i hi => ?_⟩
  all_goals
    have G := k.row i hi
    unfold iCells at G
    obtain ⟨a, hv, e, b⟩ := G.els (f := fun j => [.int .i64 (Y i j)]) fun _ => rfl
    have hv := hv hw
    have b := b hw
  · have := k.vals i hi
    dsimp only at this ⊢
    rw [hv] at this ⊢
    exact this
  · dsimp only
    rw [hv]
    intro j hj
    have := e j hj
    rw [Nat.mul_one] at this
    exact this
  · dsimp only
    rw [hv]
    have := k.rng i hi hw
    simp only [Option.getD_some]
    omega
  · show vv i = some ((vv i).getD ⟨0, 0, none⟩)
    rw [hv]; rfl
end AE.Tryz
