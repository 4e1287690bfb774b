/- Clerk, walked: the line that the words of a row could be (printed by gen_rline.py). -/
import Derived.Test.YtcminnjimlopbaaGreatDoorJoin30
set_option linter.unusedVariables false
set_option linter.unusedSimpArgs false
set_option linter.unusedSectionVars false
namespace AE.Tryz
open Go AE Go.Proofs AE.Clerk
set_option maxRecDepth 100000
set_option linter.unusedVariables false

def wordsC : List Value := [.string ⟨#[98, 117, 121]⟩, .string ⟨#[100, 114, 97, 119]⟩, .string ⟨#[99, 117, 116]⟩, .string ⟨#[114, 117, 110]⟩, .string ⟨#[109, 101, 108, 116]⟩, .string ⟨#[98, 105, 108, 108]⟩, .string ⟨#[112, 97, 121]⟩, .string ⟨#[99, 108, 97, 105, 109]⟩]
def manyC : List Value := [.int .i64 1, .int .i64 3, .int .i64 1, .int .i64 3, .int .i64 1, .int .i64 2, .int .i64 2, .int .i64 2]
theorem len2 {α : Type} {l : List α} (h : l.length = 2) : ∃ a b, l = [a, b] := by
 match l, h with
 | [a, b], _ => exact ⟨a, b, rfl⟩
theorem len3 {α : Type} {l : List α} (h : l.length = 3) : ∃ a b c, l = [a, b, c] := by
 match l, h with
 | [a, b, c], _ => exact ⟨a, b, c, rfl⟩
theorem len4 {α : Type} {l : List α} (h : l.length = 4) : ∃ a b c d, l = [a, b, c, d] := by
 match l, h with
 | [a, b, c, d], _ => exact ⟨a, b, c, d, rfl⟩
set_option maxHeartbeats 8000000 in
theorem rline_w {h : H} {ps : List ByteArray} {a : Addr} {l : List Nat} {n : Nat} (hn : ps.length = n) (his : IsSplit 32 l (ps.map nats)) (hl : n ≤ 100000) (hsz : ∀ p ∈ ps, p.size ≤ 100000) (hr : a.block < h.next) (he : Els h a n 1 (fun i => [.string (ps.getD i ⟨#[]⟩)])) : AW Tryz.prog 71 h.next h [.slice (some a) n 0] (fun v _ => ∃ x ok, v = .tuple #[.agg ⟨x.cells⟩, .bool ok] ∧ LineP l ok x) := by
 refine fun71.call rfl (Nat.le_refl _) ?_
 unfold a71
 have hne : 0 < n := by
  have := his.ne
  cases ps with
  | nil => exact absurd rfl this
  | cons p ps => simp at hn; omega
 have el0 : h.loadN (aadd a (0 * 1)) 1 = some [.string (ps.getD 0 ⟨#[]⟩)] := he 0 hne
 (refine byRunS ?_)
 refine wp_loop (fun k : Nat => [(0, .slice (some a) n 0), (2, .pointer (some ⟨h.next, 0, none⟩)), (4, .slice (some ⟨h.next + 2, 0, none⟩) 8 8), (5, .slice (some ⟨h.next + 4, 0, none⟩) 8 8), (6, .int .i64 k)])
  (fun k h1 => h1.get h.next = some (.cells [.int .i64 0, .int .i64 0, .int .i64 0, .int .i64 0] 38) ∧ h1.get (h.next + 2) = some (.cells wordsC 9) ∧ h1.get (h.next + 4) = some (.cells manyC 3) ∧ Same h.next h h1 ∧ h.next + 7 ≤ h1.next ∧ k ≤ 8 ∧ ∀ q : Nat, q < k → nats (ps.getD 0 ⟨#[]⟩) = word q → n ≠ 1 + many q) (fun k => 8 - k) 0 ⟨rfl, rfl, rfl, rfl, rfl, trivial⟩ ⟨byGet, (by (exact byGet) : _ = some (ARow.cells wordsC 9)), (by (exact byGet) : _ = some (ARow.cells manyC 3)), bySame, byOm, by omega, fun q hq => absurd hq (Nat.not_lt_zero q)⟩ ?_
 rintro k g h1 ⟨g0, g2, g4, s1, n1, hk, hno⟩ K hK
 by_cases hlt : k < 8
 rotate_left
 ·obtain rfl : k = 8 := by omega
  clear hK
  (refine byRunS ?_)
  (refine byFin ?_)
  refine ⟨⟨0, 0, 0, 0⟩, false, rfl, ?_⟩
  cases ps with
  | nil => simp at hn; omega
  | cons p ps =>
    rw [List.map_cons] at his
    refine line_no his fun q hq hw hm => ?_
    have := hno q.toNat byO
    rw [show ((q.toNat : Nat) : Int) = q by omega] at this
    exact this hw (by simp at hn hm; omega)
 have skip : ∀ {k : Nat}, (nats (ps.getD 0 ⟨#[]⟩) = word k → n ≠ 1 + many k) → (∀ q : Nat, q < k → nats (ps.getD 0 ⟨#[]⟩) = word q → n ≠ 1 + many q) → ∀ q : Nat, q < k + 1 → nats (ps.getD 0 ⟨#[]⟩) = word q → n ≠ 1 + many q := fun {k} h1 h2 q hq hw => by
  by_cases hqk : q = k
  ·subst hqk; exact h1 hw
  ·exact h2 q byO hw
 unfold wordsC at g2
 unfold manyC at g4
 have hk' : k = 0 ∨ k = 1 ∨ k = 2 ∨ k = 3 ∨ k = 4 ∨ k = 5 ∨ k = 6 ∨ k = 7 := by omega
 rcases hk' with rfl | rfl | rfl | rfl | rfl | rfl | rfl | rfl
 ·by_cases hw : nats (ps.getD 0 ⟨#[]⟩) = nats ⟨#[98, 117, 121]⟩
  rotate_left
  ·(refine byRunS ?_)
   exact hK 1 _ _ ⟨rfl, rfl, rfl, rfl, rfl, trivial⟩ ⟨byGet, (by (exact byGet) : _ = some (ARow.cells wordsC 9)), (by (exact byGet) : _ = some (ARow.cells manyC 3)), bySame, byOm, by omega, skip (fun h => absurd h hw) hno⟩ byO
  by_cases hm : n = 2
  rotate_left
  ·(refine byRunS ?_)
   exact hK 1 _ _ ⟨rfl, rfl, rfl, rfl, rfl, trivial⟩ ⟨byGet, (by (exact byGet) : _ = some (ARow.cells wordsC 9)), (by (exact byGet) : _ = some (ARow.cells manyC 3)), bySame, byOm, by omega, skip (fun _ => hm) hno⟩ byO
  clear hK
  subst hm
  obtain ⟨p0, p1, rfl⟩ := len2 hn
  have e0 : h.loadN (aadd a (0 * 1)) 1 = some [.string p0] := he 0 byO
  have e1 : h.loadN (aadd a (1 * 1)) 1 = some [.string p1] := he 1 byO
  (refine byRunS ?_)
  refine wp_loop (fun q : Nat × Int × Int × Int => [(0, .slice (some a) 2 0), (2, .pointer (some ⟨h.next, 0, none⟩)), (6, .int .i64 0), (7, .pointer (some ⟨h1.next + 22, 0, none⟩)), (8, .int .i64 q.1)])
   (fun q h2 => h2.get h.next = some (.cells [.int .i64 0, .int .i64 0, .int .i64 0, .int .i64 0] 38) ∧ h2.get (h1.next + 22) = some (.cells [.int .i64 q.2.1, .int .i64 q.2.2.1, .int .i64 q.2.2.2] 162) ∧ Same h.next h h2 ∧ h1.next + 24 ≤ h2.next ∧ (1 ≤ q.1 ∧ q.1 ≤ 2) ∧ (q.1 ≤ 1 → q.2.1 = 0) ∧ (1 < q.1 → ValR (nats p1) q.2.1) ∧ (q.1 ≤ 2 → q.2.2.1 = 0) ∧ (q.1 ≤ 3 → q.2.2.2 = 0)) (fun q => 2 - q.1) (1, 0, 0, 0) ⟨rfl, rfl, rfl, rfl, rfl, trivial⟩ ⟨byGet, byGet, bySame, byOm, by simp, by simp, by simp, by simp, by simp⟩ ?_
  rintro ⟨j, za, zb, zc⟩ g' h2 ⟨f0, fB, s2, n2, ⟨hj1, hj2⟩, i0, v0, i1, i2⟩ K2 hK2
  dsimp only at fB hj1 hj2 i0 v0 i1 i2 ⊢
  by_cases hlt2 : j < 2
  ·obtain rfl : j = 1 := by omega
   (refine byRunS ?_)
   apply q_call
   focus (exact byNext)
   focus (exact byLo)
   focus exact value_w (hsz p1 (by simp))
   rintro v h4 ⟨y, rfl, hy⟩ q4 n4
   (refine byRunS ?_)
   exact hK2 (2, y, zb, zc) _ _ ⟨rfl, rfl, rfl, rfl, rfl, trivial⟩ ⟨byGet, byGet, bySame, byOm, ⟨by dsimp only; omega, by dsimp only; omega⟩, fun h => by dsimp only at h; omega, fun _ => hy, fun _ => i1 byO, fun _ => i2 byO⟩ (by dsimp only; omega)
  ·obtain rfl : j = 2 := by omega
   clear hK2
   (refine byRunS ?_)
   (refine byFin ?_)
   obtain rfl : zb = 0 := i1 byO
   obtain rfl : zc = 0 := i2 byO
   exact ⟨mkLn 0 za 0 0, true, rfl, line_1 (k := 0) his (.inl rfl) ((hw : nats p0 = _).trans (by decide)) (v0 byO)⟩
 ·by_cases hw : nats (ps.getD 0 ⟨#[]⟩) = nats ⟨#[100, 114, 97, 119]⟩
  rotate_left
  ·(refine byRunS ?_)
   exact hK 2 _ _ ⟨rfl, rfl, rfl, rfl, rfl, trivial⟩ ⟨byGet, (by (exact byGet) : _ = some (ARow.cells wordsC 9)), (by (exact byGet) : _ = some (ARow.cells manyC 3)), bySame, byOm, by omega, skip (fun h => absurd h hw) hno⟩ byO
  by_cases hm : n = 4
  rotate_left
  ·(refine byRunS ?_)
   exact hK 2 _ _ ⟨rfl, rfl, rfl, rfl, rfl, trivial⟩ ⟨byGet, (by (exact byGet) : _ = some (ARow.cells wordsC 9)), (by (exact byGet) : _ = some (ARow.cells manyC 3)), bySame, byOm, by omega, skip (fun _ => hm) hno⟩ byO
  clear hK
  subst hm
  obtain ⟨p0, p1, p2, p3, rfl⟩ := len4 hn
  have e0 : h.loadN (aadd a (0 * 1)) 1 = some [.string p0] := he 0 byO
  have e1 : h.loadN (aadd a (1 * 1)) 1 = some [.string p1] := he 1 byO
  have e2 : h.loadN (aadd a (2 * 1)) 1 = some [.string p2] := he 2 byO
  have e3 : h.loadN (aadd a (3 * 1)) 1 = some [.string p3] := he 3 byO
  (refine byRunS ?_)
  refine wp_loop (fun q : Nat × Int × Int × Int => [(0, .slice (some a) 4 0), (2, .pointer (some ⟨h.next, 0, none⟩)), (6, .int .i64 1), (7, .pointer (some ⟨h1.next + 22, 0, none⟩)), (8, .int .i64 q.1)])
   (fun q h2 => h2.get h.next = some (.cells [.int .i64 0, .int .i64 0, .int .i64 0, .int .i64 0] 38) ∧ h2.get (h1.next + 22) = some (.cells [.int .i64 q.2.1, .int .i64 q.2.2.1, .int .i64 q.2.2.2] 162) ∧ Same h.next h h2 ∧ h1.next + 24 ≤ h2.next ∧ (1 ≤ q.1 ∧ q.1 ≤ 4) ∧ (q.1 ≤ 1 → q.2.1 = 0) ∧ (1 < q.1 → ValR (nats p1) q.2.1) ∧ (q.1 ≤ 2 → q.2.2.1 = 0) ∧ (2 < q.1 → ValR (nats p2) q.2.2.1) ∧ (q.1 ≤ 3 → q.2.2.2 = 0) ∧ (3 < q.1 → ValR (nats p3) q.2.2.2)) (fun q => 4 - q.1) (1, 0, 0, 0) ⟨rfl, rfl, rfl, rfl, rfl, trivial⟩ ⟨byGet, byGet, bySame, byOm, by simp, by simp, by simp, by simp, by simp, by simp, by simp⟩ ?_
  rintro ⟨j, za, zb, zc⟩ g' h2 ⟨f0, fB, s2, n2, ⟨hj1, hj2⟩, i0, v0, i1, v1, i2, v2⟩ K2 hK2
  dsimp only at fB hj1 hj2 i0 v0 i1 v1 i2 v2 ⊢
  by_cases hlt2 : j < 4
  ·have hj' : j = 1 ∨ j = 2 ∨ j = 3 := by omega
   rcases hj' with rfl | rfl | rfl
   ·(refine byRunS ?_)
    apply q_call
    focus (exact byNext)
    focus (exact byLo)
    focus exact value_w (hsz p1 (by simp))
    rintro v h4 ⟨y, rfl, hy⟩ q4 n4
    (refine byRunS ?_)
    exact hK2 (2, y, zb, zc) _ _ ⟨rfl, rfl, rfl, rfl, rfl, trivial⟩ ⟨byGet, byGet, bySame, byOm, ⟨by dsimp only; omega, by dsimp only; omega⟩, fun h => by dsimp only at h; omega, fun _ => hy, fun _ => i1 byO, fun h => by dsimp only at h; omega, fun _ => i2 byO, fun h => by dsimp only at h; omega⟩ (by dsimp only; omega)
   ·(refine byRunS ?_)
    apply q_call
    focus (exact byNext)
    focus (exact byLo)
    focus exact value_w (hsz p2 (by simp))
    rintro v h4 ⟨y, rfl, hy⟩ q4 n4
    (refine byRunS ?_)
    exact hK2 (3, za, y, zc) _ _ ⟨rfl, rfl, rfl, rfl, rfl, trivial⟩ ⟨byGet, byGet, bySame, byOm, ⟨by dsimp only; omega, by dsimp only; omega⟩, fun h => by dsimp only at h; omega, fun _ => v0 byO, fun h => by dsimp only at h; omega, fun _ => hy, fun _ => i2 byO, fun h => by dsimp only at h; omega⟩ (by dsimp only; omega)
   ·(refine byRunS ?_)
    apply q_call
    focus (exact byNext)
    focus (exact byLo)
    focus exact value_w (hsz p3 (by simp))
    rintro v h4 ⟨y, rfl, hy⟩ q4 n4
    (refine byRunS ?_)
    exact hK2 (4, za, zb, y) _ _ ⟨rfl, rfl, rfl, rfl, rfl, trivial⟩ ⟨byGet, byGet, bySame, byOm, ⟨by dsimp only; omega, by dsimp only; omega⟩, fun h => by dsimp only at h; omega, fun _ => v0 byO, fun h => by dsimp only at h; omega, fun _ => v1 byO, fun h => by dsimp only at h; omega, fun _ => hy⟩ (by dsimp only; omega)
  ·obtain rfl : j = 4 := by omega
   clear hK2
   (refine byRunS ?_)
   (refine byFin ?_)
   exact ⟨mkLn 1 za zb zc, true, rfl, line_3 (k := 1) his (.inl rfl) ((hw : nats p0 = _).trans (by decide)) (v0 byO) (v1 byO) (v2 byO)⟩
 ·by_cases hw : nats (ps.getD 0 ⟨#[]⟩) = nats ⟨#[99, 117, 116]⟩
  rotate_left
  ·(refine byRunS ?_)
   exact hK 3 _ _ ⟨rfl, rfl, rfl, rfl, rfl, trivial⟩ ⟨byGet, (by (exact byGet) : _ = some (ARow.cells wordsC 9)), (by (exact byGet) : _ = some (ARow.cells manyC 3)), bySame, byOm, by omega, skip (fun h => absurd h hw) hno⟩ byO
  by_cases hm : n = 2
  rotate_left
  ·(refine byRunS ?_)
   exact hK 3 _ _ ⟨rfl, rfl, rfl, rfl, rfl, trivial⟩ ⟨byGet, (by (exact byGet) : _ = some (ARow.cells wordsC 9)), (by (exact byGet) : _ = some (ARow.cells manyC 3)), bySame, byOm, by omega, skip (fun _ => hm) hno⟩ byO
  clear hK
  subst hm
  obtain ⟨p0, p1, rfl⟩ := len2 hn
  have e0 : h.loadN (aadd a (0 * 1)) 1 = some [.string p0] := he 0 byO
  have e1 : h.loadN (aadd a (1 * 1)) 1 = some [.string p1] := he 1 byO
  (refine byRunS ?_)
  refine wp_loop (fun q : Nat × Int × Int × Int => [(0, .slice (some a) 2 0), (2, .pointer (some ⟨h.next, 0, none⟩)), (6, .int .i64 2), (7, .pointer (some ⟨h1.next + 22, 0, none⟩)), (8, .int .i64 q.1)])
   (fun q h2 => h2.get h.next = some (.cells [.int .i64 0, .int .i64 0, .int .i64 0, .int .i64 0] 38) ∧ h2.get (h1.next + 22) = some (.cells [.int .i64 q.2.1, .int .i64 q.2.2.1, .int .i64 q.2.2.2] 162) ∧ Same h.next h h2 ∧ h1.next + 24 ≤ h2.next ∧ (1 ≤ q.1 ∧ q.1 ≤ 2) ∧ (q.1 ≤ 1 → q.2.1 = 0) ∧ (1 < q.1 → ValR (nats p1) q.2.1) ∧ (q.1 ≤ 2 → q.2.2.1 = 0) ∧ (q.1 ≤ 3 → q.2.2.2 = 0)) (fun q => 2 - q.1) (1, 0, 0, 0) ⟨rfl, rfl, rfl, rfl, rfl, trivial⟩ ⟨byGet, byGet, bySame, byOm, by simp, by simp, by simp, by simp, by simp⟩ ?_
  rintro ⟨j, za, zb, zc⟩ g' h2 ⟨f0, fB, s2, n2, ⟨hj1, hj2⟩, i0, v0, i1, i2⟩ K2 hK2
  dsimp only at fB hj1 hj2 i0 v0 i1 i2 ⊢
  by_cases hlt2 : j < 2
  ·obtain rfl : j = 1 := by omega
   (refine byRunS ?_)
   apply q_call
   focus (exact byNext)
   focus (exact byLo)
   focus exact value_w (hsz p1 (by simp))
   rintro v h4 ⟨y, rfl, hy⟩ q4 n4
   (refine byRunS ?_)
   exact hK2 (2, y, zb, zc) _ _ ⟨rfl, rfl, rfl, rfl, rfl, trivial⟩ ⟨byGet, byGet, bySame, byOm, ⟨by dsimp only; omega, by dsimp only; omega⟩, fun h => by dsimp only at h; omega, fun _ => hy, fun _ => i1 byO, fun _ => i2 byO⟩ (by dsimp only; omega)
  ·obtain rfl : j = 2 := by omega
   clear hK2
   (refine byRunS ?_)
   (refine byFin ?_)
   obtain rfl : zb = 0 := i1 byO
   obtain rfl : zc = 0 := i2 byO
   exact ⟨mkLn 2 za 0 0, true, rfl, line_1 (k := 2) his (.inr (.inl rfl)) ((hw : nats p0 = _).trans (by decide)) (v0 byO)⟩
 ·by_cases hw : nats (ps.getD 0 ⟨#[]⟩) = nats ⟨#[114, 117, 110]⟩
  rotate_left
  ·(refine byRunS ?_)
   exact hK 4 _ _ ⟨rfl, rfl, rfl, rfl, rfl, trivial⟩ ⟨byGet, (by (exact byGet) : _ = some (ARow.cells wordsC 9)), (by (exact byGet) : _ = some (ARow.cells manyC 3)), bySame, byOm, by omega, skip (fun h => absurd h hw) hno⟩ byO
  by_cases hm : n = 4
  rotate_left
  ·(refine byRunS ?_)
   exact hK 4 _ _ ⟨rfl, rfl, rfl, rfl, rfl, trivial⟩ ⟨byGet, (by (exact byGet) : _ = some (ARow.cells wordsC 9)), (by (exact byGet) : _ = some (ARow.cells manyC 3)), bySame, byOm, by omega, skip (fun _ => hm) hno⟩ byO
  clear hK
  subst hm
  obtain ⟨p0, p1, p2, p3, rfl⟩ := len4 hn
  have e0 : h.loadN (aadd a (0 * 1)) 1 = some [.string p0] := he 0 byO
  have e1 : h.loadN (aadd a (1 * 1)) 1 = some [.string p1] := he 1 byO
  have e2 : h.loadN (aadd a (2 * 1)) 1 = some [.string p2] := he 2 byO
  have e3 : h.loadN (aadd a (3 * 1)) 1 = some [.string p3] := he 3 byO
  (refine byRunS ?_)
  refine wp_loop (fun q : Nat × Int × Int × Int => [(0, .slice (some a) 4 0), (2, .pointer (some ⟨h.next, 0, none⟩)), (6, .int .i64 3), (7, .pointer (some ⟨h1.next + 22, 0, none⟩)), (8, .int .i64 q.1)])
   (fun q h2 => h2.get h.next = some (.cells [.int .i64 0, .int .i64 0, .int .i64 0, .int .i64 0] 38) ∧ h2.get (h1.next + 22) = some (.cells [.int .i64 q.2.1, .int .i64 q.2.2.1, .int .i64 q.2.2.2] 162) ∧ Same h.next h h2 ∧ h1.next + 24 ≤ h2.next ∧ (1 ≤ q.1 ∧ q.1 ≤ 4) ∧ (q.1 ≤ 1 → q.2.1 = 0) ∧ (1 < q.1 → ValR (nats p1) q.2.1) ∧ (q.1 ≤ 2 → q.2.2.1 = 0) ∧ (2 < q.1 → ValR (nats p2) q.2.2.1) ∧ (q.1 ≤ 3 → q.2.2.2 = 0) ∧ (3 < q.1 → ValR (nats p3) q.2.2.2)) (fun q => 4 - q.1) (1, 0, 0, 0) ⟨rfl, rfl, rfl, rfl, rfl, trivial⟩ ⟨byGet, byGet, bySame, byOm, by simp, by simp, by simp, by simp, by simp, by simp, by simp⟩ ?_
  rintro ⟨j, za, zb, zc⟩ g' h2 ⟨f0, fB, s2, n2, ⟨hj1, hj2⟩, i0, v0, i1, v1, i2, v2⟩ K2 hK2
  dsimp only at fB hj1 hj2 i0 v0 i1 v1 i2 v2 ⊢
  by_cases hlt2 : j < 4
  ·have hj' : j = 1 ∨ j = 2 ∨ j = 3 := by omega
   rcases hj' with rfl | rfl | rfl
   ·(refine byRunS ?_)
    apply q_call
    focus (exact byNext)
    focus (exact byLo)
    focus exact value_w (hsz p1 (by simp))
    rintro v h4 ⟨y, rfl, hy⟩ q4 n4
    (refine byRunS ?_)
    exact hK2 (2, y, zb, zc) _ _ ⟨rfl, rfl, rfl, rfl, rfl, trivial⟩ ⟨byGet, byGet, bySame, byOm, ⟨by dsimp only; omega, by dsimp only; omega⟩, fun h => by dsimp only at h; omega, fun _ => hy, fun _ => i1 byO, fun h => by dsimp only at h; omega, fun _ => i2 byO, fun h => by dsimp only at h; omega⟩ (by dsimp only; omega)
   ·(refine byRunS ?_)
    apply q_call
    focus (exact byNext)
    focus (exact byLo)
    focus exact value_w (hsz p2 (by simp))
    rintro v h4 ⟨y, rfl, hy⟩ q4 n4
    (refine byRunS ?_)
    exact hK2 (3, za, y, zc) _ _ ⟨rfl, rfl, rfl, rfl, rfl, trivial⟩ ⟨byGet, byGet, bySame, byOm, ⟨by dsimp only; omega, by dsimp only; omega⟩, fun h => by dsimp only at h; omega, fun _ => v0 byO, fun h => by dsimp only at h; omega, fun _ => hy, fun _ => i2 byO, fun h => by dsimp only at h; omega⟩ (by dsimp only; omega)
   ·(refine byRunS ?_)
    apply q_call
    focus (exact byNext)
    focus (exact byLo)
    focus exact value_w (hsz p3 (by simp))
    rintro v h4 ⟨y, rfl, hy⟩ q4 n4
    (refine byRunS ?_)
    exact hK2 (4, za, zb, y) _ _ ⟨rfl, rfl, rfl, rfl, rfl, trivial⟩ ⟨byGet, byGet, bySame, byOm, ⟨by dsimp only; omega, by dsimp only; omega⟩, fun h => by dsimp only at h; omega, fun _ => v0 byO, fun h => by dsimp only at h; omega, fun _ => v1 byO, fun h => by dsimp only at h; omega, fun _ => hy⟩ (by dsimp only; omega)
  ·obtain rfl : j = 4 := by omega
   clear hK2
   (refine byRunS ?_)
   (refine byFin ?_)
   exact ⟨mkLn 3 za zb zc, true, rfl, line_3 (k := 3) his (.inr rfl) ((hw : nats p0 = _).trans (by decide)) (v0 byO) (v1 byO) (v2 byO)⟩
 ·by_cases hw : nats (ps.getD 0 ⟨#[]⟩) = nats ⟨#[109, 101, 108, 116]⟩
  rotate_left
  ·(refine byRunS ?_)
   exact hK 5 _ _ ⟨rfl, rfl, rfl, rfl, rfl, trivial⟩ ⟨byGet, (by (exact byGet) : _ = some (ARow.cells wordsC 9)), (by (exact byGet) : _ = some (ARow.cells manyC 3)), bySame, byOm, by omega, skip (fun h => absurd h hw) hno⟩ byO
  by_cases hm : n = 2
  rotate_left
  ·(refine byRunS ?_)
   exact hK 5 _ _ ⟨rfl, rfl, rfl, rfl, rfl, trivial⟩ ⟨byGet, (by (exact byGet) : _ = some (ARow.cells wordsC 9)), (by (exact byGet) : _ = some (ARow.cells manyC 3)), bySame, byOm, by omega, skip (fun _ => hm) hno⟩ byO
  clear hK
  subst hm
  obtain ⟨p0, p1, rfl⟩ := len2 hn
  have e0 : h.loadN (aadd a (0 * 1)) 1 = some [.string p0] := he 0 byO
  have e1 : h.loadN (aadd a (1 * 1)) 1 = some [.string p1] := he 1 byO
  (refine byRunS ?_)
  refine wp_loop (fun q : Nat × Int × Int × Int => [(0, .slice (some a) 2 0), (2, .pointer (some ⟨h.next, 0, none⟩)), (6, .int .i64 4), (7, .pointer (some ⟨h1.next + 22, 0, none⟩)), (8, .int .i64 q.1)])
   (fun q h2 => h2.get h.next = some (.cells [.int .i64 0, .int .i64 0, .int .i64 0, .int .i64 0] 38) ∧ h2.get (h1.next + 22) = some (.cells [.int .i64 q.2.1, .int .i64 q.2.2.1, .int .i64 q.2.2.2] 162) ∧ Same h.next h h2 ∧ h1.next + 24 ≤ h2.next ∧ (1 ≤ q.1 ∧ q.1 ≤ 2) ∧ (q.1 ≤ 1 → q.2.1 = 0) ∧ (1 < q.1 → ValR (nats p1) q.2.1) ∧ (q.1 ≤ 2 → q.2.2.1 = 0) ∧ (q.1 ≤ 3 → q.2.2.2 = 0)) (fun q => 2 - q.1) (1, 0, 0, 0) ⟨rfl, rfl, rfl, rfl, rfl, trivial⟩ ⟨byGet, byGet, bySame, byOm, by simp, by simp, by simp, by simp, by simp⟩ ?_
  rintro ⟨j, za, zb, zc⟩ g' h2 ⟨f0, fB, s2, n2, ⟨hj1, hj2⟩, i0, v0, i1, i2⟩ K2 hK2
  dsimp only at fB hj1 hj2 i0 v0 i1 i2 ⊢
  by_cases hlt2 : j < 2
  ·obtain rfl : j = 1 := by omega
   (refine byRunS ?_)
   apply q_call
   focus (exact byNext)
   focus (exact byLo)
   focus exact value_w (hsz p1 (by simp))
   rintro v h4 ⟨y, rfl, hy⟩ q4 n4
   (refine byRunS ?_)
   exact hK2 (2, y, zb, zc) _ _ ⟨rfl, rfl, rfl, rfl, rfl, trivial⟩ ⟨byGet, byGet, bySame, byOm, ⟨by dsimp only; omega, by dsimp only; omega⟩, fun h => by dsimp only at h; omega, fun _ => hy, fun _ => i1 byO, fun _ => i2 byO⟩ (by dsimp only; omega)
  ·obtain rfl : j = 2 := by omega
   clear hK2
   (refine byRunS ?_)
   (refine byFin ?_)
   obtain rfl : zb = 0 := i1 byO
   obtain rfl : zc = 0 := i2 byO
   exact ⟨mkLn 4 za 0 0, true, rfl, line_1 (k := 4) his (.inr (.inr rfl)) ((hw : nats p0 = _).trans (by decide)) (v0 byO)⟩
 ·by_cases hw : nats (ps.getD 0 ⟨#[]⟩) = nats ⟨#[98, 105, 108, 108]⟩
  rotate_left
  ·(refine byRunS ?_)
   exact hK 6 _ _ ⟨rfl, rfl, rfl, rfl, rfl, trivial⟩ ⟨byGet, (by (exact byGet) : _ = some (ARow.cells wordsC 9)), (by (exact byGet) : _ = some (ARow.cells manyC 3)), bySame, byOm, by omega, skip (fun h => absurd h hw) hno⟩ byO
  by_cases hm : n = 3
  rotate_left
  ·(refine byRunS ?_)
   exact hK 6 _ _ ⟨rfl, rfl, rfl, rfl, rfl, trivial⟩ ⟨byGet, (by (exact byGet) : _ = some (ARow.cells wordsC 9)), (by (exact byGet) : _ = some (ARow.cells manyC 3)), bySame, byOm, by omega, skip (fun _ => hm) hno⟩ byO
  clear hK
  subst hm
  obtain ⟨p0, p1, p2, rfl⟩ := len3 hn
  have e0 : h.loadN (aadd a (0 * 1)) 1 = some [.string p0] := he 0 byO
  have e1 : h.loadN (aadd a (1 * 1)) 1 = some [.string p1] := he 1 byO
  have e2 : h.loadN (aadd a (2 * 1)) 1 = some [.string p2] := he 2 byO
  (refine byRunS ?_)
  refine wp_loop (fun q : Nat × Int × Int × Int => [(0, .slice (some a) 3 0), (2, .pointer (some ⟨h.next, 0, none⟩)), (6, .int .i64 5), (7, .pointer (some ⟨h1.next + 22, 0, none⟩)), (8, .int .i64 q.1)])
   (fun q h2 => h2.get h.next = some (.cells [.int .i64 0, .int .i64 0, .int .i64 0, .int .i64 0] 38) ∧ h2.get (h1.next + 22) = some (.cells [.int .i64 q.2.1, .int .i64 q.2.2.1, .int .i64 q.2.2.2] 162) ∧ Same h.next h h2 ∧ h1.next + 24 ≤ h2.next ∧ (1 ≤ q.1 ∧ q.1 ≤ 3) ∧ (q.1 ≤ 1 → q.2.1 = 0) ∧ (1 < q.1 → ValR (nats p1) q.2.1) ∧ (q.1 ≤ 2 → q.2.2.1 = 0) ∧ (2 < q.1 → ValR (nats p2) q.2.2.1) ∧ (q.1 ≤ 3 → q.2.2.2 = 0)) (fun q => 3 - q.1) (1, 0, 0, 0) ⟨rfl, rfl, rfl, rfl, rfl, trivial⟩ ⟨byGet, byGet, bySame, byOm, by simp, by simp, by simp, by simp, by simp, by simp⟩ ?_
  rintro ⟨j, za, zb, zc⟩ g' h2 ⟨f0, fB, s2, n2, ⟨hj1, hj2⟩, i0, v0, i1, v1, i2⟩ K2 hK2
  dsimp only at fB hj1 hj2 i0 v0 i1 v1 i2 ⊢
  by_cases hlt2 : j < 3
  ·have hj' : j = 1 ∨ j = 2 := by omega
   rcases hj' with rfl | rfl
   ·(refine byRunS ?_)
    apply q_call
    focus (exact byNext)
    focus (exact byLo)
    focus exact value_w (hsz p1 (by simp))
    rintro v h4 ⟨y, rfl, hy⟩ q4 n4
    (refine byRunS ?_)
    exact hK2 (2, y, zb, zc) _ _ ⟨rfl, rfl, rfl, rfl, rfl, trivial⟩ ⟨byGet, byGet, bySame, byOm, ⟨by dsimp only; omega, by dsimp only; omega⟩, fun h => by dsimp only at h; omega, fun _ => hy, fun _ => i1 byO, fun h => by dsimp only at h; omega, fun _ => i2 byO⟩ (by dsimp only; omega)
   ·(refine byRunS ?_)
    apply q_call
    focus (exact byNext)
    focus (exact byLo)
    focus exact value_w (hsz p2 (by simp))
    rintro v h4 ⟨y, rfl, hy⟩ q4 n4
    (refine byRunS ?_)
    exact hK2 (3, za, y, zc) _ _ ⟨rfl, rfl, rfl, rfl, rfl, trivial⟩ ⟨byGet, byGet, bySame, byOm, ⟨by dsimp only; omega, by dsimp only; omega⟩, fun h => by dsimp only at h; omega, fun _ => v0 byO, fun h => by dsimp only at h; omega, fun _ => hy, fun _ => i2 byO⟩ (by dsimp only; omega)
  ·obtain rfl : j = 3 := by omega
   clear hK2
   (refine byRunS ?_)
   (refine byFin ?_)
   obtain rfl : zc = 0 := i2 byO
   exact ⟨mkLn 5 za zb 0, true, rfl, line_2 (k := 5) his (.inl rfl) ((hw : nats p0 = _).trans (by decide)) (v0 byO) (v1 byO)⟩
 ·by_cases hw : nats (ps.getD 0 ⟨#[]⟩) = nats ⟨#[112, 97, 121]⟩
  rotate_left
  ·(refine byRunS ?_)
   exact hK 7 _ _ ⟨rfl, rfl, rfl, rfl, rfl, trivial⟩ ⟨byGet, (by (exact byGet) : _ = some (ARow.cells wordsC 9)), (by (exact byGet) : _ = some (ARow.cells manyC 3)), bySame, byOm, by omega, skip (fun h => absurd h hw) hno⟩ byO
  by_cases hm : n = 3
  rotate_left
  ·(refine byRunS ?_)
   exact hK 7 _ _ ⟨rfl, rfl, rfl, rfl, rfl, trivial⟩ ⟨byGet, (by (exact byGet) : _ = some (ARow.cells wordsC 9)), (by (exact byGet) : _ = some (ARow.cells manyC 3)), bySame, byOm, by omega, skip (fun _ => hm) hno⟩ byO
  clear hK
  subst hm
  obtain ⟨p0, p1, p2, rfl⟩ := len3 hn
  have e0 : h.loadN (aadd a (0 * 1)) 1 = some [.string p0] := he 0 byO
  have e1 : h.loadN (aadd a (1 * 1)) 1 = some [.string p1] := he 1 byO
  have e2 : h.loadN (aadd a (2 * 1)) 1 = some [.string p2] := he 2 byO
  (refine byRunS ?_)
  refine wp_loop (fun q : Nat × Int × Int × Int => [(0, .slice (some a) 3 0), (2, .pointer (some ⟨h.next, 0, none⟩)), (6, .int .i64 6), (7, .pointer (some ⟨h1.next + 22, 0, none⟩)), (8, .int .i64 q.1)])
   (fun q h2 => h2.get h.next = some (.cells [.int .i64 0, .int .i64 0, .int .i64 0, .int .i64 0] 38) ∧ h2.get (h1.next + 22) = some (.cells [.int .i64 q.2.1, .int .i64 q.2.2.1, .int .i64 q.2.2.2] 162) ∧ Same h.next h h2 ∧ h1.next + 24 ≤ h2.next ∧ (1 ≤ q.1 ∧ q.1 ≤ 3) ∧ (q.1 ≤ 1 → q.2.1 = 0) ∧ (1 < q.1 → ValR (nats p1) q.2.1) ∧ (q.1 ≤ 2 → q.2.2.1 = 0) ∧ (2 < q.1 → ValR (nats p2) q.2.2.1) ∧ (q.1 ≤ 3 → q.2.2.2 = 0)) (fun q => 3 - q.1) (1, 0, 0, 0) ⟨rfl, rfl, rfl, rfl, rfl, trivial⟩ ⟨byGet, byGet, bySame, byOm, by simp, by simp, by simp, by simp, by simp, by simp⟩ ?_
  rintro ⟨j, za, zb, zc⟩ g' h2 ⟨f0, fB, s2, n2, ⟨hj1, hj2⟩, i0, v0, i1, v1, i2⟩ K2 hK2
  dsimp only at fB hj1 hj2 i0 v0 i1 v1 i2 ⊢
  by_cases hlt2 : j < 3
  ·have hj' : j = 1 ∨ j = 2 := by omega
   rcases hj' with rfl | rfl
   ·(refine byRunS ?_)
    apply q_call
    focus (exact byNext)
    focus (exact byLo)
    focus exact value_w (hsz p1 (by simp))
    rintro v h4 ⟨y, rfl, hy⟩ q4 n4
    (refine byRunS ?_)
    exact hK2 (2, y, zb, zc) _ _ ⟨rfl, rfl, rfl, rfl, rfl, trivial⟩ ⟨byGet, byGet, bySame, byOm, ⟨by dsimp only; omega, by dsimp only; omega⟩, fun h => by dsimp only at h; omega, fun _ => hy, fun _ => i1 byO, fun h => by dsimp only at h; omega, fun _ => i2 byO⟩ (by dsimp only; omega)
   ·(refine byRunS ?_)
    apply q_call
    focus (exact byNext)
    focus (exact byLo)
    focus exact value_w (hsz p2 (by simp))
    rintro v h4 ⟨y, rfl, hy⟩ q4 n4
    (refine byRunS ?_)
    exact hK2 (3, za, y, zc) _ _ ⟨rfl, rfl, rfl, rfl, rfl, trivial⟩ ⟨byGet, byGet, bySame, byOm, ⟨by dsimp only; omega, by dsimp only; omega⟩, fun h => by dsimp only at h; omega, fun _ => v0 byO, fun h => by dsimp only at h; omega, fun _ => hy, fun _ => i2 byO⟩ (by dsimp only; omega)
  ·obtain rfl : j = 3 := by omega
   clear hK2
   (refine byRunS ?_)
   (refine byFin ?_)
   obtain rfl : zc = 0 := i2 byO
   exact ⟨mkLn 6 za zb 0, true, rfl, line_2 (k := 6) his (.inr (.inl rfl)) ((hw : nats p0 = _).trans (by decide)) (v0 byO) (v1 byO)⟩
 ·by_cases hw : nats (ps.getD 0 ⟨#[]⟩) = nats ⟨#[99, 108, 97, 105, 109]⟩
  rotate_left
  ·(refine byRunS ?_)
   exact hK 8 _ _ ⟨rfl, rfl, rfl, rfl, rfl, trivial⟩ ⟨byGet, (by (exact byGet) : _ = some (ARow.cells wordsC 9)), (by (exact byGet) : _ = some (ARow.cells manyC 3)), bySame, byOm, by omega, skip (fun h => absurd h hw) hno⟩ byO
  by_cases hm : n = 3
  rotate_left
  ·(refine byRunS ?_)
   exact hK 8 _ _ ⟨rfl, rfl, rfl, rfl, rfl, trivial⟩ ⟨byGet, (by (exact byGet) : _ = some (ARow.cells wordsC 9)), (by (exact byGet) : _ = some (ARow.cells manyC 3)), bySame, byOm, by omega, skip (fun _ => hm) hno⟩ byO
  clear hK
  subst hm
  obtain ⟨p0, p1, p2, rfl⟩ := len3 hn
  have e0 : h.loadN (aadd a (0 * 1)) 1 = some [.string p0] := he 0 byO
  have e1 : h.loadN (aadd a (1 * 1)) 1 = some [.string p1] := he 1 byO
  have e2 : h.loadN (aadd a (2 * 1)) 1 = some [.string p2] := he 2 byO
  (refine byRunS ?_)
  refine wp_loop (fun q : Nat × Int × Int × Int => [(0, .slice (some a) 3 0), (2, .pointer (some ⟨h.next, 0, none⟩)), (6, .int .i64 7), (7, .pointer (some ⟨h1.next + 22, 0, none⟩)), (8, .int .i64 q.1)])
   (fun q h2 => h2.get h.next = some (.cells [.int .i64 0, .int .i64 0, .int .i64 0, .int .i64 0] 38) ∧ h2.get (h1.next + 22) = some (.cells [.int .i64 q.2.1, .int .i64 q.2.2.1, .int .i64 q.2.2.2] 162) ∧ Same h.next h h2 ∧ h1.next + 24 ≤ h2.next ∧ (1 ≤ q.1 ∧ q.1 ≤ 3) ∧ (q.1 ≤ 1 → q.2.1 = 0) ∧ (1 < q.1 → ValR (nats p1) q.2.1) ∧ (q.1 ≤ 2 → q.2.2.1 = 0) ∧ (2 < q.1 → ValR (nats p2) q.2.2.1) ∧ (q.1 ≤ 3 → q.2.2.2 = 0)) (fun q => 3 - q.1) (1, 0, 0, 0) ⟨rfl, rfl, rfl, rfl, rfl, trivial⟩ ⟨byGet, byGet, bySame, byOm, by simp, by simp, by simp, by simp, by simp, by simp⟩ ?_
  rintro ⟨j, za, zb, zc⟩ g' h2 ⟨f0, fB, s2, n2, ⟨hj1, hj2⟩, i0, v0, i1, v1, i2⟩ K2 hK2
  dsimp only at fB hj1 hj2 i0 v0 i1 v1 i2 ⊢
  by_cases hlt2 : j < 3
  ·have hj' : j = 1 ∨ j = 2 := by omega
   rcases hj' with rfl | rfl
   ·(refine byRunS ?_)
    apply q_call
    focus (exact byNext)
    focus (exact byLo)
    focus exact value_w (hsz p1 (by simp))
    rintro v h4 ⟨y, rfl, hy⟩ q4 n4
    (refine byRunS ?_)
    exact hK2 (2, y, zb, zc) _ _ ⟨rfl, rfl, rfl, rfl, rfl, trivial⟩ ⟨byGet, byGet, bySame, byOm, ⟨by dsimp only; omega, by dsimp only; omega⟩, fun h => by dsimp only at h; omega, fun _ => hy, fun _ => i1 byO, fun h => by dsimp only at h; omega, fun _ => i2 byO⟩ (by dsimp only; omega)
   ·(refine byRunS ?_)
    apply q_call
    focus (exact byNext)
    focus (exact byLo)
    focus exact value_w (hsz p2 (by simp))
    rintro v h4 ⟨y, rfl, hy⟩ q4 n4
    (refine byRunS ?_)
    exact hK2 (3, za, y, zc) _ _ ⟨rfl, rfl, rfl, rfl, rfl, trivial⟩ ⟨byGet, byGet, bySame, byOm, ⟨by dsimp only; omega, by dsimp only; omega⟩, fun h => by dsimp only at h; omega, fun _ => v0 byO, fun h => by dsimp only at h; omega, fun _ => hy, fun _ => i2 byO⟩ (by dsimp only; omega)
  ·obtain rfl : j = 3 := by omega
   clear hK2
   (refine byRunS ?_)
   (refine byFin ?_)
   obtain rfl : zc = 0 := i2 byO
   exact ⟨mkLn 7 za zb 0, true, rfl, line_2 (k := 7) his (.inr (.inr rfl)) ((hw : nats p0 = _).trans (by decide)) (v0 byO) (v1 byO)⟩
end AE.Tryz
