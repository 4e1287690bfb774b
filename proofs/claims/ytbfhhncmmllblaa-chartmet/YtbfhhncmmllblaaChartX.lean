/- Walks of chart: the example. -/
import Derived.Test.YtbfhhncmmllblaaChartW
set_option linter.unusedVariables false
set_option linter.unusedSimpArgs false
set_option linter.unusedSectionVars false
namespace AE.Try
open Go AE Go.Proofs
set_option maxRecDepth 100000
set_option linter.unusedVariables false

def exP0 : Nat → Int
  | 0 => 800
  | _ => 1000
def exA0 : Nat → Int
  | 0 => 0
  | 1 => 400
  | _ => 800
def exLo : Nat → Nat → Int
  | 0, 0 => 90
  | 0, 1 => 50
  | 0, _ => 10
  | _, 0 => 110
  | _, 1 => 70
  | _, _ => 20
def exHi : Nat → Nat → Int
  | 0, 0 => 100
  | 0, 1 => 60
  | 0, _ => 10
  | _, 0 => 120
  | _, 1 => 80
  | _, _ => 40
/-- The chart of the example. -/
def exT (r : Nat) : Tbl := ⟨⟨2, exP0, some ⟨r + 1, 0, none⟩, ⟨r + 1, 0, none⟩, 2⟩, ⟨3, exA0, some ⟨r + 2, 0, none⟩, ⟨r + 2, 0, none⟩, 3⟩,
  ⟨2, fun _ => 3, some ⟨r + 11, 0, none⟩, ⟨r + 11, 0, none⟩, 2, fun i => some ⟨if i = 0 then r + 6 else r + 10, 0, none⟩, fun i => ⟨if i = 0 then r + 6 else r + 10, 0, none⟩, fun _ => 3⟩, exLo, exHi⟩
structure ExRows (r : Nat) (h : H) : Prop where
  g1 : h.get (r + 1) = some (.cells [.int .i64 800, .int .i64 1000] 2)
  g2 : h.get (r + 2) = some (.cells [.int .i64 0, .int .i64 400, .int .i64 800] 2)
  g3 : h.get (r + 6) = some (.cells [.int .i64 90, .int .i64 100, .int .i64 50, .int .i64 60, .int .i64 10, .int .i64 10] 65)
  g4 : h.get (r + 10) = some (.cells [.int .i64 110, .int .i64 120, .int .i64 70, .int .i64 80, .int .i64 20, .int .i64 40] 65)
  g5 : h.get (r + 11) = some (.cells [.slice (some ⟨r + 6, 0, none⟩) 3 3, .slice (some ⟨r + 10, 0, none⟩) 3 3] 66)
theorem ExRows.keep {r : Nat} {h h' : H} (k : ExRows r h) (hs : ∀ j, r + 1 ≤ j → j < r + 12 → h'.get j = h.get j) : ExRows r h' :=
  ⟨(hs _ (by omega) (by omega)).trans k.g1, (hs _ (by omega) (by omega)).trans k.g2, (hs _ (by omega) (by omega)).trans k.g3, (hs _ (by omega) (by omega)).trans k.g4, (hs _ (by omega) (by omega)).trans k.g5⟩
theorem lt2 {i : Nat} (h : i < 2) : i = 0 ∨ i = 1 := by omega
theorem lt3 {i : Nat} (h : i < 3) : i = 0 ∨ i = 1 ∨ i = 2 := by omega
theorem ExRows.ok {r m : Nat} {h : H} (k : ExRows r h) (hm : r + 12 ≤ m) : (exT r).Ok m h := by
  refine ⟨⟨fun _ => rfl, fun i hi => ?_, fun _ => by show r + 1 < m; omega, by show 2 ≤ 9223372036854775807; omega⟩, ⟨fun _ => rfl, fun i hi => ?_, fun _ => by show r + 2 < m; omega, by show 3 ≤ 9223372036854775807; omega⟩,
    ⟨fun _ => rfl, fun i hi => ?_, fun _ => by show r + 11 < m; omega, by show 2 ≤ 9223372036854775807; omega, fun i hi hw => rfl, fun i hi j hj => ?_, fun i hi hw => ?_, fun i hi => by show 3 ≤ 9223372036854775807; omega⟩⟩
  · rcases lt2 hi with rfl | rfl
    · exact loadN_one (off := 0) k.g1 rfl
    · exact loadN_one (off := 1) k.g1 rfl
  · rcases lt3 hi with rfl | rfl | rfl
    · exact loadN_one (off := 0) k.g2 rfl
    · exact loadN_one (off := 1) k.g2 rfl
    · exact loadN_one (off := 2) k.g2 rfl
  · rcases lt2 hi with rfl | rfl
    · exact loadN_one (off := 0) k.g5 rfl
    · exact loadN_one (off := 1) k.g5 rfl
  · rcases lt2 hi with rfl | rfl
    · rcases lt3 hj with rfl | rfl | rfl
      · exact loadN_cells (off := 0) k.g3 rfl
      · exact loadN_cells (off := 2) k.g3 rfl
      · exact loadN_cells (off := 4) k.g3 rfl
    · rcases lt3 hj with rfl | rfl | rfl
      · exact loadN_cells (off := 0) k.g4 rfl
      · exact loadN_cells (off := 2) k.g4 rfl
      · exact loadN_cells (off := 4) k.g4 rfl
  · show (if i = 0 then r + 6 else r + 10) < m
    split <;> omega
theorem exT_cells (r : Nat) : (exT r).cells = [.slice (some ⟨r + 1, 0, none⟩) 2 2, .slice (some ⟨r + 2, 0, none⟩) 3 3, .slice (some ⟨r + 11, 0, none⟩) 2 2] := rfl
theorem chart_w {h : H} : AW Try.prog 47 h.next h [] (fun v h' => v = .agg ⟨(exT h.next).cells⟩ ∧ ExRows h.next h' ∧ h.next + 12 ≤ h'.next) := by
  refine fun47.call rfl (Nat.le_refl _) ?_
  unfold a47
  (focus ((try with_reducible apply wpC.to); (repeat' ((conv => whnf); first | refine byEv ?_ | fail)); all_goals (conv => whnf); all_goals (try with_reducible apply At.mk)))
  (refine byFin ?_)
  exact ⟨rfl, ⟨by (exact byGet), by (exact byGet), by (exact byGet), by (exact byGet), by (exact byGet)⟩, by (exact byOm)⟩
theorem exT_good (r : Nat) : (exT r).Good := by
  refine ⟨by show 2 ≤ 2; omega, by show 2 ≤ 8; omega, by show 2 ≤ 3; omega, by show 3 ≤ 10; omega, rfl, fun _ _ => rfl, ⟨fun i hi => ?_, fun i hi => ?_⟩, ⟨fun i hi => ?_, fun i hi => ?_⟩, fun i k hi hk => ?_, fun i k hi hk => ?_⟩
  · rcases lt2 hi with rfl | rfl <;> simp [exT, exP0]
  · have hi : i + 1 < 2 := hi
    obtain rfl : i = 0 := by omega
    exact (by decide : (800 : Int) < 1000)
  · rcases lt3 hi with rfl | rfl | rfl <;> simp [exT, exA0]
  · have hi : i + 1 < 3 := hi
    obtain rfl | rfl : i = 0 ∨ i = 1 := by omega
    · exact (by decide : (0 : Int) < 400)
    · exact (by decide : (400 : Int) < 800)
  · unfold Tbl.Bd
    rcases lt2 hi with rfl | rfl <;> rcases lt3 hk with rfl | rfl | rfl <;> simp [exT, exLo, exHi]
  · have hk : k + 1 < 3 := hk
    unfold Tbl.Fl
    obtain rfl | rfl : k = 0 ∨ k = 1 := by omega
    all_goals rcases lt2 hi with rfl | rfl <;> simp [exT, exLo, exHi]

/-- Pulls of two rows of three. -/
def mkP (a b c : Nat) (f : Nat → Nat → Int) : Pul := ⟨⟨2, fun _ => 3, some ⟨c, 0, none⟩, ⟨c, 0, none⟩, 2, fun i => some ⟨if i = 0 then a else b, 0, none⟩, fun i => ⟨if i = 0 then a else b, 0, none⟩, fun _ => 3⟩, f⟩
structure PRows (a b c : Nat) (f : Nat → Nat → Int) (h : H) : Prop where
  g1 : h.get a = some (.cells [.int .i64 (f 0 0), .int .i64 (f 0 1), .int .i64 (f 0 2)] 2)
  g2 : h.get b = some (.cells [.int .i64 (f 1 0), .int .i64 (f 1 1), .int .i64 (f 1 2)] 2)
  g3 : h.get c = some (.cells [.slice (some ⟨a, 0, none⟩) 3 3, .slice (some ⟨b, 0, none⟩) 3 3] 22)
theorem PRows.keep {a b c : Nat} {f : Nat → Nat → Int} {h h' : H} (k : PRows a b c f h) (hs : ∀ j, (j = a ∨ j = b ∨ j = c) → h'.get j = h.get j) : PRows a b c f h' :=
  ⟨(hs _ (.inl rfl)).trans k.g1, (hs _ (.inr (.inl rfl))).trans k.g2, (hs _ (.inr (.inr rfl))).trans k.g3⟩
theorem PRows.ok {a b c m : Nat} {f : Nat → Nat → Int} {h : H} (k : PRows a b c f h) (hm : a < m ∧ b < m ∧ c < m) : (mkP a b c f).Ok m h := by
  refine ⟨fun _ => rfl, fun i hi => ?_, fun _ => hm.2.2, by show 2 ≤ 9223372036854775807; omega, fun i hi hw => rfl, fun i hi j hj => ?_, fun i hi hw => ?_, fun i hi => by show 3 ≤ 9223372036854775807; omega, fun i hi hw => by show 3 < far; unfold far; omega⟩
  · rcases lt2 hi with rfl | rfl
    · exact loadN_one (off := 0) k.g3 rfl
    · exact loadN_one (off := 1) k.g3 rfl
  · rcases lt2 hi with rfl | rfl
    · rcases lt3 hj with rfl | rfl | rfl
      · exact loadN_one (off := 0) k.g1 rfl
      · exact loadN_one (off := 1) k.g1 rfl
      · exact loadN_one (off := 2) k.g1 rfl
    · rcases lt3 hj with rfl | rfl | rfl
      · exact loadN_one (off := 0) k.g2 rfl
      · exact loadN_one (off := 1) k.g2 rfl
      · exact loadN_one (off := 2) k.g2 rfl
  · show (if i = 0 then a else b) < m
    split <;> omega

/-- Are two tables of pulls the same. -/
def Pul.Same (x y : Pul) : Prop := x.M.n = y.M.n ∧ ∀ i, i < x.M.n → x.M.w i = y.M.w i ∧ ∀ k, k < x.M.w i → x.f i k = y.f i k
instance (x y : Pul) : Decidable (x.Same y) := inferInstanceAs (Decidable (x.M.n = y.M.n ∧ ∀ i, i < x.M.n → x.M.w i = y.M.w i ∧ ∀ k, k < x.M.w i → x.f i k = y.f i k))
/-! ### what the functions say of the example -/

def exQ : Nat → Nat → Int
  | 0, 0 => 90
  | 0, 1 => 50
  | 0, _ => 10
  | _, 0 => 110
  | _, 1 => 70
  | _, _ => 20
theorem ex_true (r a b c : Nat) : (exT r).True (mkP a b c exQ) := by
  refine ⟨rfl, fun _ _ => rfl, fun i k hi hk => ?_⟩
  rcases lt2 hi with rfl | rfl <;> rcases lt3 hk with rfl | rfl | rfl <;> simp [exT, mkP, exQ, exLo, exHi]
theorem ex_on (r : Nat) (p a : Int) (h : (800 ≤ p ∧ p ≤ 1000) ∧ 0 ≤ a ∧ a ≤ 800) : (exT r).On ⟨p, a⟩ := h
theorem ex_value {h : H} {r a b c m : Nat} {p k : Int} {n d : Int} (hm : m ≤ h.next) (hT : (exT r).Ok m h) (hp : (mkP a b c exQ).Ok m h) (ho : (800 ≤ p ∧ p ≤ 1000) ∧ 0 ≤ k ∧ k ≤ 800) (hv : (exT r).val ⟨p, k⟩ exQ = ⟨n, d⟩) :
    AW Try.prog 15 h.next h [.agg ⟨(exT r).cells⟩, .slice (some ⟨c, 0, none⟩) 2 2, .agg ⟨[.int .i64 p, .int .i64 k]⟩] (fun v _ => v = .tuple #[.agg ⟨[.int .i64 n, .int .i64 d]⟩, .int .i64 0]) := by
  have ht : (exT r).terr (mkP a b c exQ) = 0 := Tbl.True.err (exT_good r) (ex_true r a b c)
  have he : (exT r).verr (mkP a b c exQ) ⟨p, k⟩ = 0 := by unfold Tbl.verr; rw [if_neg (fun k => k ht), if_neg (fun k => k ho)]
  have hr : (exT r).vres (mkP a b c exQ) ⟨p, k⟩ = ⟨n, d⟩ := by unfold Tbl.vres; rw [if_pos he]; exact hv
  have := Value_w (at_ := ⟨p, k⟩) hm hT hp
  rw [hr, he] at this
  exact this
theorem ex_value_off {h : H} {r a b c m : Nat} {p k : Int} (hm : m ≤ h.next) (hT : (exT r).Ok m h) (hp : (mkP a b c exQ).Ok m h) (ho : ¬ ((800 ≤ p ∧ p ≤ 1000) ∧ 0 ≤ k ∧ k ≤ 800)) :
    AW Try.prog 15 h.next h [.agg ⟨(exT r).cells⟩, .slice (some ⟨c, 0, none⟩) 2 2, .agg ⟨[.int .i64 p, .int .i64 k]⟩] (fun v _ => v = .tuple #[.agg ⟨[.int .i64 0, .int .i64 0]⟩, .int .i64 19]) := by
  have ht : (exT r).terr (mkP a b c exQ) = 0 := Tbl.True.err (exT_good r) (ex_true r a b c)
  have he : (exT r).verr (mkP a b c exQ) ⟨p, k⟩ = 19 := by unfold Tbl.verr; rw [if_neg (fun k => k ht), if_pos (show ¬ (exT r).On ⟨p, k⟩ from ho)]
  have hr : (exT r).vres (mkP a b c exQ) ⟨p, k⟩ = ⟨0, 0⟩ := by unfold Tbl.vres; rw [if_neg (by rw [he]; decide)]
  have := Value_w (at_ := ⟨p, k⟩) hm hT hp
  rw [hr, he] at this
  exact this
theorem ex_span {h : H} {r m : Nat} {p k : Int} {n d n' d' : Int} (hm : m ≤ h.next) (hT : (exT r).Ok m h) (ho : (800 ≤ p ∧ p ≤ 1000) ∧ 0 ≤ k ∧ k ≤ 800) (h1 : (exT r).val ⟨p, k⟩ exLo = ⟨n, d⟩) (h2 : (exT r).val ⟨p, k⟩ exHi = ⟨n', d'⟩) :
    AW Try.prog 17 h.next h [.agg ⟨(exT r).cells⟩, .agg ⟨[.int .i64 p, .int .i64 k]⟩] (fun v _ => v = .tuple #[.agg ⟨[.int .i64 n, .int .i64 d, .int .i64 n', .int .i64 d']⟩, .int .i64 0]) := by
  have he : (exT r).nerr ((exT r).On ⟨p, k⟩) = 0 := (exT_good r).nerr ho
  have hr : (exT r).span ⟨p, k⟩ = (⟨n, d⟩, ⟨n', d'⟩) := by
    unfold Tbl.span
    rw [if_pos he]
    exact Prod.ext h1 h2
  have := Span_w (p := ⟨p, k⟩) hm hT
  rw [hr, he] at this
  exact this
theorem ex_more {h : H} {r m : Nat} {p k p' k' : Int} {n d n' d' : Int} (hm : m ≤ h.next) (hT : (exT r).Ok m h) (ho : (800 ≤ p ∧ p ≤ 1000) ∧ 0 ≤ k ∧ k ≤ 800) (ho' : (800 ≤ p' ∧ p' ≤ 1000) ∧ 0 ≤ k' ∧ k' ≤ 800) (h1 : (exT r).far ⟨p, k⟩ ⟨p', k'⟩ Bool.false = ⟨n, d⟩) (h2 : (exT r).far ⟨p, k⟩ ⟨p', k'⟩ Bool.true = ⟨n', d'⟩) :
    AW Try.prog 39 h.next h [.agg ⟨(exT r).cells⟩, .agg ⟨[.int .i64 p, .int .i64 k]⟩, .agg ⟨[.int .i64 p', .int .i64 k']⟩] (fun v _ => v = .tuple #[.agg ⟨[.int .i64 n, .int .i64 d, .int .i64 n', .int .i64 d']⟩, .int .i64 0]) := by
  have he : (exT r).nerr ((exT r).On ⟨p, k⟩ ∧ (exT r).On ⟨p', k'⟩) = 0 := (exT_good r).nerr ⟨ho, ho'⟩
  have hr : (exT r).mspan ⟨p, k⟩ ⟨p', k'⟩ = (⟨n, d⟩, ⟨n', d'⟩) := by
    unfold Tbl.mspan
    rw [if_pos he]
    exact Prod.ext h1 h2
  have := More_w (p := ⟨p, k⟩) (q := ⟨p', k'⟩) hm hT
  rw [hr, he] at this
  exact this
theorem ex_meet {h : H} {r a b c m : Nat} {x i s : Int} {n d : Int} (hm : m ≤ h.next) (hT : (exT r).Ok m h) (hp : (mkP a b c exQ).Ok m h) (hn : (⟨i, s⟩ : Nd).Ok) (ho : 800 ≤ x ∧ x ≤ 1000) (hv : (exT r).mres exQ x ⟨i, s⟩ = (⟨n, d⟩, Bool.true)) :
    AW Try.prog 23 h.next h [.agg ⟨(exT r).cells⟩, .slice (some ⟨c, 0, none⟩) 2 2, .int .i64 x, .agg ⟨[.int .i64 i, .int .i64 s]⟩] (fun v _ => v = .tuple #[.agg ⟨[.int .i64 n, .int .i64 d]⟩, .int .i64 0]) := by
  have ht : (exT r).terr (mkP a b c exQ) = 0 := Tbl.True.err (exT_good r) (ex_true r a b c)
  have hd : (exT r).nderr x ⟨i, s⟩ = 0 := by unfold Tbl.nderr; rw [if_neg (fun k => k hn), if_neg (fun k => k ho)]
  have hf : ¬ ∃ i, i < (exT r).P.n ∧ ¬ Desc ((mkP a b c exQ).f i) (exT r).A.n := by
    rintro ⟨i, hi, hx⟩
    refine hx fun k hk => ?_
    obtain rfl | rfl : k = 0 ∨ k = 1 := lt2 hk
    all_goals rcases lt2 hi with rfl | rfl <;> simp [mkP, exQ]
  have he : (exT r).merr (mkP a b c exQ) x ⟨i, s⟩ = 0 := by unfold Tbl.merr; rw [if_neg (fun k => k ht), if_neg (fun k => k hd), if_neg hf, if_pos (congrArg Prod.snd (show (exT r).mres (mkP a b c exQ).f x ⟨i, s⟩ = (⟨n, d⟩, Bool.true) from hv))]
  have hr : (exT r).mval (mkP a b c exQ) x ⟨i, s⟩ = ⟨n, d⟩ := by unfold Tbl.mval; rw [if_pos he]; exact congrArg Prod.fst hv
  have := Meet_w (x := x) (n := ⟨i, s⟩) hm hT hp (by have := hn.s0; have := hn.s1; omega)
  rw [hr, he] at this
  exact this
theorem ex_meets {h : H} {r m : Nat} {x i s : Int} {n d n' d' : Int} (hm : m ≤ h.next) (hT : (exT r).Ok m h) (hn : (⟨i, s⟩ : Nd).Ok) (ho : 800 ≤ x ∧ x ≤ 1000) (h1 : (exT r).mres exLo x ⟨i, s⟩ = (⟨n, d⟩, Bool.true)) (h2 : (exT r).mres exHi x ⟨i, s⟩ = (⟨n', d'⟩, Bool.true)) :
    AW Try.prog 25 h.next h [.agg ⟨(exT r).cells⟩, .int .i64 x, .agg ⟨[.int .i64 i, .int .i64 s]⟩] (fun v _ => v = .tuple #[.agg ⟨[.int .i64 n, .int .i64 d, .int .i64 n', .int .i64 d']⟩, .int .i64 0]) := by
  have hd : (exT r).nderr x ⟨i, s⟩ = 0 := by unfold Tbl.nderr; rw [if_neg (fun k => k hn), if_neg (fun k => k ho)]
  have he : (exT r).mserr x ⟨i, s⟩ = 0 := by unfold Tbl.mserr; rw [if_neg (fun k => k (exT_good r).err), if_neg (fun k => k hd), if_pos ⟨congrArg Prod.snd (show (exT r).mres (exT r).lo x ⟨i, s⟩ = (⟨n, d⟩, Bool.true) from h1), congrArg Prod.snd (show (exT r).mres (exT r).hi x ⟨i, s⟩ = (⟨n', d'⟩, Bool.true) from h2)⟩]
  have hr : (exT r).msval x ⟨i, s⟩ = (⟨n, d⟩, ⟨n', d'⟩) := by unfold Tbl.msval; rw [if_pos he]; rw [show (exT r).mres (exT r).lo x ⟨i, s⟩ = (⟨n, d⟩, Bool.true) from h1, show (exT r).mres (exT r).hi x ⟨i, s⟩ = (⟨n', d'⟩, Bool.true) from h2]
  have := Meets_w (x := x) (n := ⟨i, s⟩) hm hT (by have := hn.s0; have := hn.s1; omega)
  rw [hr, he] at this
  exact this
/-- The points of the example. -/
def exS (s : Nat) : Pts := ⟨3, fun | 0 => ⟨800, 0⟩ | 1 => ⟨1000, 0⟩ | _ => ⟨900, 0⟩, some ⟨s, 0, none⟩, ⟨s, 0, none⟩, 3⟩
theorem ex_bestL (r s : Nat) (high : Bool) : bestL (exT r) (exS s) high 3 = [1] := by
  have b0 : ¬ best1 (exT r) (exS s) high 0 := fun h => by
    have := h 1 (by show 1 < 3; omega)
    revert this
    cases high
    · rw [show (exT r).far ((exS s).f 0) ((exS s).f 1) Bool.false = ⟨-30, 1⟩ by kernel_rfl]; decide
    · rw [show (exT r).far ((exS s).f 0) ((exS s).f 1) Bool.true = ⟨-10, 1⟩ by kernel_rfl]; decide
  have b2 : ¬ best1 (exT r) (exS s) high 2 := fun h => by
    have := h 1 (by show 1 < 3; omega)
    revert this
    cases high
    · rw [show (exT r).far ((exS s).f 2) ((exS s).f 1) Bool.false = ⟨-15, 1⟩ by kernel_rfl]; decide
    · rw [show (exT r).far ((exS s).f 2) ((exS s).f 1) Bool.true = ⟨-5, 1⟩ by kernel_rfl]; decide
  have b1 : best1 (exT r) (exS s) high 1 := fun j hj => by
    rcases lt3 hj with rfl | rfl | rfl <;> cases high
    · rw [show (exT r).far ((exS s).f 1) ((exS s).f 0) Bool.false = ⟨10, 1⟩ by kernel_rfl]; decide
    · rw [show (exT r).far ((exS s).f 1) ((exS s).f 0) Bool.true = ⟨30, 1⟩ by kernel_rfl]; decide
    · rw [show (exT r).far ((exS s).f 1) ((exS s).f 1) Bool.false = ⟨0, 1⟩ by kernel_rfl]; decide
    · rw [show (exT r).far ((exS s).f 1) ((exS s).f 1) Bool.true = ⟨0, 1⟩ by kernel_rfl]; decide
    · rw [show (exT r).far ((exS s).f 1) ((exS s).f 2) Bool.false = ⟨5, 1⟩ by kernel_rfl]; decide
    · rw [show (exT r).far ((exS s).f 1) ((exS s).f 2) Bool.true = ⟨15, 1⟩ by kernel_rfl]; decide
  rw [bestL, if_neg b2, bestL, if_pos b1, bestL, if_neg b0, bestL]
  rfl
theorem ex_sure {h : H} {r s m : Nat} (hm : m ≤ h.next) (hT : (exT r).Ok m h) (hS : h.get s = some (.cells [.int .i64 800, .int .i64 0, .int .i64 1000, .int .i64 0, .int .i64 900, .int .i64 0] 28)) (hs : s < h.next) :
    AW Try.prog 27 h.next h [.agg ⟨(exT r).cells⟩, .slice (some ⟨s, 0, none⟩) 3 3] (fun v h' => ∃ A B : Arr, v = .tuple #[.slice A.b A.n A.c, .slice B.b B.n B.c, .int .i64 0] ∧ (A.n = 1 ∧ A.f 0 = 1) ∧ (B.n = 1 ∧ B.f 0 = 1) ∧ A.Ok h'.next h' ∧ B.Ok h'.next h') := by
  have he : (exT r).suErr (exS s) = 0 := by
    unfold Tbl.suErr
    rw [if_neg (fun k => k (exT_good r).err), if_neg (show ¬ ((exS s).n = 0 ∨ 12 < (exS s).n) by show ¬ (3 = 0 ∨ 12 < 3); omega), if_neg]
    intro k
    refine k fun i hi => ?_
    rcases lt3 hi with rfl | rfl | rfl
    · exact ex_on r 800 0 (by omega)
    · exact ex_on r 1000 0 (by omega)
    · exact ex_on r 900 0 (by omega)
  have h1 : ∀ high, (exT r).sure (exS s) high = [1] := fun high => by unfold Tbl.sure; rw [if_pos he]; exact ex_bestL r s high
  obtain ⟨v, h', ⟨A, B, e, nA, nB, oA, oB⟩, a⟩ := Sure_w (T := exT r) (S := exS s) (m := h.next) (Nat.le_refl _) (hT.same (Same.refl _ _) hm) ⟨fun _ => rfl, fun i hi => by
    rcases lt3 hi with rfl | rfl | rfl
    · exact loadN_cells (off := 0) hS rfl
    · exact loadN_cells (off := 2) hS rfl
    · exact loadN_cells (off := 4) hS rfl, fun _ => hs, by show 3 ≤ 9223372036854775807; omega⟩
  rw [h1] at nA nB
  rw [he] at e
  exact ⟨v, h', ⟨A, B, e, ⟨nA.n, nA.f 0 (by decide)⟩, ⟨nB.n, nB.f 0 (by decide)⟩, oA, oB⟩, a⟩
theorem ev3 (r : Nat) : (exT r).val ⟨900, 200⟩ exQ = ⟨80, 1⟩ := by kernel_rfl
theorem ev4 (r : Nat) : (exT r).val ⟨900, 200⟩ exLo = ⟨80, 1⟩ := by kernel_rfl
theorem ev5 (r : Nat) : (exT r).val ⟨900, 200⟩ exHi = ⟨90, 1⟩ := by kernel_rfl
theorem ev9 (r : Nat) : (exT r).far ⟨1000, 0⟩ ⟨900, 0⟩ Bool.false = ⟨5, 1⟩ := by kernel_rfl
theorem ev10 (r : Nat) : (exT r).far ⟨1000, 0⟩ ⟨900, 0⟩ Bool.true = ⟨15, 1⟩ := by kernel_rfl
theorem ev11 (r : Nat) : (exT r).mres exQ 800 ⟨10, 1⟩ = (⟨800, 11⟩, Bool.true) := by kernel_rfl
theorem ev12 (r : Nat) : (exT r).mres exLo 800 ⟨0, 1⟩ = (⟨900, 11⟩, Bool.true) := by kernel_rfl
theorem ev13 (r : Nat) : (exT r).mres exHi 800 ⟨0, 1⟩ = (⟨1000, 11⟩, Bool.true) := by kernel_rfl
theorem at_w {h : H} {p a : Int} : AW Try.prog 48 h.next h [.int .i64 p, .int .i64 a] (fun v h' => v = .agg ⟨[.int .i64 p, .int .i64 a]⟩) := by
  refine fun48.call rfl (Nat.le_refl _) ?_
  unfold a48
  (focus ((try with_reducible apply wpC.to); (repeat' ((conv => whnf); first | refine byEv ?_ | fail)); all_goals (conv => whnf); all_goals (try with_reducible apply At.mk)))
  (refine byFin ?_)
  rfl
theorem whole2_w {h : H} {p a : Int} : AW Try.prog 45 h.next h [.int .i64 p, .int .i64 a] (fun v h' => v = .agg ⟨[.int .i64 p, .int .i64 1, .int .i64 a, .int .i64 1]⟩) := by
  refine fun45.call rfl (Nat.le_refl _) ?_
  unfold a45
  (focus ((try with_reducible apply wpC.to); (repeat' ((conv => whnf); first | refine byEv ?_ | fail)); all_goals (conv => whnf); all_goals (try with_reducible apply At.mk)))
  (refine byFin ?_)
  rfl
theorem ints_w {h : H} {L M : Arr} {m : Nat} (hm : m ≤ h.next) (hL : L.Ok m h) (hM : M.Ok m h) : AW Try.prog 29 h.next h [.slice L.b L.n L.c, .slice M.b M.n M.c] (fun v _ => v = .bool (decide (L.n = M.n ∧ ∀ i, i < L.n → L.f i = M.f i))) := by
  obtain ⟨le, li, lr, ll⟩ := hL
  obtain ⟨me, mi, mr, ml⟩ := hM
  refine fun29.call rfl (Nat.le_refl _) ?_
  unfold a29
  (focus ((try with_reducible apply wpC.to); (repeat' ((conv => whnf); first | refine byEv ?_ | ((apply Fork.mk) <;> (intro _; try (exfalso; omega; done))) | fail)); all_goals (conv => whnf); all_goals (try with_reducible apply At.mk)))
  · (refine byFin ?_)
    exact bool_f rfl fun k => by omega
  refine wp_loop (fun s : Nat => [(0, .slice L.b L.n L.c), (1, .slice M.b M.n M.c), (5, .int .i64 s)]) (fun s h1 => Quiet h.next h h1 ∧ s ≤ L.n ∧ ∀ i, i < s → L.f i = M.f i) (fun s => L.n - s) 0 ⟨rfl, rfl, rfl, trivial⟩ ⟨by (exact byQuiet), by omega, fun i hi => by omega⟩ ?_
  rintro s g h1 ⟨q, hs, hp⟩ K hK
  have hnx := q.next
  have hme : 0 < L.n → M.b = some M.a := fun _ => me (by omega)
  (focus ((try with_reducible apply wpC.to); (repeat' ((conv => whnf); first | refine byEv ?_ | ((apply Fork.mk) <;> (intro _; try (exfalso; omega; done))) | fail)); all_goals (conv => whnf); all_goals (try with_reducible apply At.mk)))
  · (refine byFin ?_)
    exact bool_f rfl fun k => by have := k.2 s (by omega); omega
  · refine hK (s + 1) _ _ ⟨rfl, rfl, int_of rfl (by omega), trivial⟩ ⟨by (exact byQuiet), by omega, fun i hi => ?_⟩ (by omega)
    by_cases e : i = s
    · subst e; assumption
    · exact hp i (by omega)
  · (refine byFin ?_)
    exact bool_t rfl ⟨by omega, fun i hi => hp i (by omega)⟩

theorem ex_ints {h : H} {A : Arr} {m s : Nat} (hm : m ≤ h.next) (oA : A.Ok m h) (hA : A.n = 1 ∧ A.f 0 = 1) (hg : h.get s = some (.cells [.int .i64 1] 3)) (hs : s < h.next) : AW Try.prog 29 h.next h [.slice A.b A.n A.c, .slice (some ⟨s, 0, none⟩) 1 1] (fun v _ => v = .bool true) := by
  have := ints_w (h := h) (L := A) (M := ⟨1, fun _ => 1, some ⟨s, 0, none⟩, ⟨s, 0, none⟩, 1⟩) (m := h.next) (Nat.le_refl _) (oA.same (Same.refl _ _) hm) ⟨fun _ => rfl, fun i hi => by
    have hi : i < 1 := hi
    obtain rfl : i = 0 := by omega
    exact loadN_one (off := 0) hg rfl, fun _ => hs, by show 1 ≤ 9223372036854775807; omega⟩
  rw [decide_eq_true (show A.n = 1 ∧ ∀ i, i < A.n → A.f i = 1 from ⟨hA.1, fun i hi => by
    obtain rfl : i = 0 := by omega
    exact hA.2⟩)] at this
  exact this
end AE.Try
