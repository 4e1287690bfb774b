/- Clerk, walked: Collect of the parts beside a line. -/
import Derived.Test.YtcminnjimlopbaaGreatDoorJoin21
set_option linter.unusedVariables false
set_option linter.unusedSimpArgs false
set_option linter.unusedSectionVars false
namespace AE.Tryz
open Go AE Go.Proofs AE.Clerk
set_option maxRecDepth 100000
set_option linter.unusedVariables false

structure ColI (nb : Nat) (h : H) (L0 : ALoop) (r1 : Nat) (l : List P3) (h1 : H) : Prop where
 x : ∃ r, GX r h1 94 3 l.length (l.flatMap partC) ∧ h1.get nb = some (.cells [.slice (addrX r l.length) l.length 0] 97) ∧ (0 < l.length → h.next + 3 ≤ r ∧ r < h1.next)
 e1 : h1.get r1 = h.get r1
 lp : h1.get h.next = some (.loop L0)
 nx : h.next < h1.next
 lt : nb < h1.next ∧ r1 < h1.next
theorem ColI.quiet {nb : Nat} {h : H} {L0 : ALoop} {r1 : Nat} {l : List P3} {h1 h4 : H} (k : ColI nb h L0 r1 l h1) (q : Quiet h1.next h1 h4) : ColI nb h L0 r1 l h4 := by
 obtain ⟨⟨r, g, x7, b⟩, e1, lp, nx, lt⟩ := k
 have hn := q.next
 exact ⟨⟨r, g.frame fun h0 => q.same _ (by have := b h0; omega), (q.same _ byO).trans x7, fun h0 => by have := b h0; omega⟩, (q.same _ byO).trans e1, (q.same _ nx).trans lp, by omega, by omega⟩
theorem appendSeq_w {h : H} {N i r1 r2 : Nat} (hN : N ≤ 60) (hi : i < N) (g1 : h.get r1 = some (.cells [.int .i64 i] 3)) (g2 : h.get r2 = some (.cells [.int .i64 N] 3)) (b1 : r1 < h.next) (b2 : r2 < h.next) :
 AW Tryz.prog 84 h.next h [.slice none 0 0, seqV r1 r2] (fun v h' => ∃ r, v = .slice (addrX r (parts 0 N i).length) (parts 0 N i).length 0 ∧ GX r h' 94 3 (parts 0 N i).length ((parts 0 N i).flatMap partC) ∧ (0 < (parts 0 N i).length → h.next ≤ r ∧ r < h'.next)) := by
 refine fun84.call rfl (Nat.le_refl _) ?_
 unfold a84 seqV
 (refine byRun ?_)
 refine wp_forget (l := [(2, .pointer (some ⟨h.next, 0, none⟩)), (6, .func (.func 82) ⟨[]⟩ ⟨[.pointer (some ⟨r1, 0, none⟩), .pointer (some ⟨r2, 0, none⟩)]⟩)]) ⟨rfl, rfl, trivial⟩ fun g' => ?_
 have x2 : (((h.bump 2).put h.next (.cells [.slice none 0 0] 97)).bump 1).get h.next = some (.cells [.slice none 0 0] 97) := by (exact byGet)
 have y1 : (((h.bump 2).put h.next (.cells [.slice none 0 0] 97)).bump 1).get r1 = some (.cells [.int .i64 i] 3) := by (exact byGet)
 have y2 : (((h.bump 2).put h.next (.cells [.slice none 0 0] 97)).bump 1).get r2 = some (.cells [.int .i64 N] 3) := by (exact byGet)
 have hnx : (((h.bump 2).put h.next (.cells [.slice none 0 0] 97)).bump 1).next = h.next + 3 := rfl
 generalize ((h.bump 2).put h.next (.cells [.slice none 0 0] 97)).bump 1 = hh at x2 y1 y2 hnx ⊢
 apply wp_range
 focus exact rfl
 focus exact hnx
 focus (exact byList)
 intro L0 hL0
 rw [← hnx]
 refine ⟨_, seq_w (L := hh.next) (N := N) (i := i) (r1 := r1) (r2 := r2) (lo := h.next) byOm byO hi byGet byGet byOm byOm (ColI h.next hh L0 r1) (fun l h1 k => k.e1.trans (Eq.symm byGo)) ?_ ?_ ?_, ?_⟩
 ·intro l h1 h4 k qq
  exact k.quiet qq
 ·intro l p h1 k hb p1 p2 p3
  simp only [put_next, bump_next] at hb
  obtain ⟨⟨r, g, x7, b⟩, e1, lp, nx, lt⟩ := k
  refine YA.call fun84.mixed (A := a84A0) (B := a84B0) (L := L0) (by rw [hL0]; exact c84A0) (by rw [hL0]; exact c84B0) lp byO nx (by rw [hL0]; exact rfl) (by rw [hL0]; exact rfl) ?_
  unfold YA a84A0 partC
  refine wp_forget (l := [(2, .pointer (some ⟨h.next, 0, none⟩)), (7, .agg ⟨[.int .i64 p.1, .int .i64 ((p.1 + p.2.1 : Nat) : Int), .bool p.2.2]⟩)]) ⟨by rw [hL0]; exact rfl, by rw [hL0]; exact rfl, trivial⟩ fun g'' => ?_
  (refine byRun ?_)
  refine ⟨rfl, L0, byGet, by rw [hL0]; exact rfl, ?_⟩
  unfold a84B0
  have hL1 : ended (busy L0) .none = L0 := by rw [hL0]; exact rfl
  (refine byRun ?_)
  apply q_appX (r := r) (n := l.length) (cs := l.flatMap partC) (nc := partC p)
  case G =>
   refine g.frame fun h0 => get_of fun y hy => ?_
   have := b h0
   (exact byGet)
  case hsv => exact rfl
  case C =>
   apply Cells.one
   focus (apply loadN_cells; (focus (exact byGet)); (focus exact rfl))
   focus (unfold far; omega)
   focus exact rfl
   focus exact rfl
  case hlo => exact fun h0 => by have := b h0; omega
  case hsm => omega
  intro r' hr0 hr1 g7
  (refine byRun ?_)
  have rb : hh.next + 3 ≤ r' ∧ r' < h1.next + 6 := by
   rcases Nat.eq_zero_or_pos l.length with h0 | h0
   ·have := hr0 h0; omega
   ·have := hr1 h0; have := b h0; omega
  refine ⟨.none, busy L0, rfl, byGet, ⟨rfl, ?_⟩, fun q hq1 hq2 => ?_⟩
  ·rw [hL1]
   refine ⟨⟨r', ?_, ?_, fun _ => ⟨rb.1, ?_⟩⟩, ?_, byGet, ?_, ?_⟩
   ·rw [List.length_append, List.flatMap_append, show [p].flatMap partC = partC p by simp]
    exact g7.frame fun _ => get_of fun y hy => by (exact byGet)
   ·rw [List.length_append]; (exact byGet)
   ·have := rb.2; (exact byOm)
   ·exact (get_of fun y hy => by (exact byGet) : _ = h1.get r1).trans e1
   ·(exact byOm)
   ·(exact byOm)
  ·simp only [put_next, bump_next] at hq1 hq2
   exact get_of fun y hy => by (exact byGet)
 ·refine ⟨⟨hh.next + 3, GX.nil, byGet, fun h => absurd h (Nat.lt_irrefl _)⟩, get_of fun y hy => byGet, byGet, byOm, byOm⟩
 ·rintro v h4 k q4
  obtain ⟨⟨r, g, x7', b⟩, e1, lp, nx, lt⟩ := k
  refine ⟨L0, lp, by rw [hL0]; exact fun h => LoopState.noConfusion h, ?_⟩
  have hp : pendE L0.pend = .normal := by rw [hL0]; rfl
  rw [hp]
  (refine byRun ?_)
  (refine byFin ?_)
  refine ⟨r, rfl, g.frame fun h0 => get_of fun y hy => ?_, fun h0 => ?_⟩
  ·have := b h0
   (exact byGet)
  ·have := b h0
   (exact byOm)
theorem collect_w {h : H} {N i r1 r2 : Nat} (hN : N ≤ 60) (hi : i < N) (g1 : h.get r1 = some (.cells [.int .i64 i] 3)) (g2 : h.get r2 = some (.cells [.int .i64 N] 3)) (b1 : r1 < h.next) (b2 : r2 < h.next) :
 AW Tryz.prog 54 h.next h [seqV r1 r2] (fun v h' => ∃ b a, v = .slice b (parts 0 N i).length 0 ∧ (0 < (parts 0 N i).length → b = some a) ∧ Els h' a (parts 0 N i).length 3 (fun k => partC ((parts 0 N i).getD k (0, 0, false))) ∧ (0 < (parts 0 N i).length → h.next ≤ a.block ∧ a.block < h'.next)) := by
 refine fun54.call rfl (Nat.le_refl _) ?_
 unfold a54
 (refine byRun ?_)
 apply q_call
 focus (exact byNext)
 focus (exact byLo)
 focus exact appendSeq_w hN hi byGet byGet byOm byOm
 rintro v h2 ⟨r, rfl, g, rb⟩ q2 n2
 simp only [put_next, bump_next] at rb
 (refine byRun ?_)
 (refine byFin ?_)
 rcases Nat.eq_zero_or_pos (parts 0 N i).length with h0 | h0
 ·exact ⟨_, ⟨0, 0, none⟩, rfl, fun h => by omega, fun i hi => by omega, fun h => by omega⟩
 ·have e1 : (parts 0 N i).flatMap partC = rowsOf (fun k => partC ((parts 0 N i).getD k (0, 0, false))) (parts 0 N i).length := cellsOf_rows partC (parts 0 N i) (0, 0, false)
  rw [e1] at g
  obtain ⟨a, h1, h2', h3⟩ := GG.els (f := fun k => partC ((parts 0 N i).getD k (0, 0, false))) (.inr ⟨h0, g.gat h0⟩) (fun _ => rfl)
  exact ⟨_, a, rfl, h1, h2', fun h => by rw [h3 h]; have := rb h; omega⟩
theorem ck1_w {h : H} {n : Int} : AW Tryz.prog 56 h.next h [.int .i64 n] (fun v _ => v = .bool (decide (¬ btw n 0 (Clerk.P - 1)))) := by
 refine fun56.call rfl (Nat.le_refl _) ?_
 unfold a56
 (refine byRun ?_)
 apply q_callv
 focus (exact byNext)
 focus (exact byLo)
 focus exact sealed_w
 intro h2 q2 n2
 by_cases hv : btw n 0 (Clerk.P - 1)
 ·rw [decide_eq_true hv]
  (refine byRun ?_)
  (refine byFin ?_); exact bool_f rfl (fun h => h hv)
 ·rw [decide_eq_false hv]
  (refine byRun ?_)
  (refine byFin ?_); exact bool_t rfl hv
theorem indexS_w {h : H} {m : Nat} {ys : List Int} {b : Option Addr} {a : Addr} {c : Nat} (hm : m ≤ h.next) (k : NumL m h ys b a c) (hl : ys.length ≤ 9223372036854775807) : AW Tryz.prog 85 h.next h [.slice b ys.length c, fnV 56] (fun v _ => ∃ z : Int, v = .int .i64 z ∧ -1 ≤ z ∧ (0 ≤ z ↔ ¬ AllS ys)) := by
 obtain ⟨e1, i1, r1⟩ := k
 refine fun85.call rfl (Nat.le_refl _) ?_
 unfold a85 fnV
 (refine byRun ?_)
 refine wp_loop (fun k : Nat => [(0, .slice b ys.length c), (1, fnV 56), (7, .int .i64 ys.length), (8, .int .i64 k)]) (fun k h1 => Same h.next h h1 ∧ h.next ≤ h1.next ∧ k ≤ ys.length ∧ ∀ p, p < k → btw (ys.getD p 0) 0 (Clerk.P - 1)) (fun k => ys.length - k) 0 ⟨rfl, rfl, rfl, rfl, trivial⟩ ⟨bySame, byOm, by omega, fun i hi => by omega⟩ ?_
 rintro k g h1 ⟨s1, hn1, hk, hall⟩ K hK
 unfold fnV
 by_cases hlt : k < ys.length
 ·(refine byRun ?_)
  apply q_callv
  focus (exact byNext)
  focus (exact byLo)
  focus exact ck1_w
  intro h2 q2 n2
  by_cases hv : btw (ys.getD k 0) 0 (Clerk.P - 1)
  ·rw [decide_eq_false (fun h => h hv)]
   (refine byRun ?_)
   exact hK (k + 1) _ _ ⟨rfl, rfl, rfl, int_of rfl byO, trivial⟩ ⟨bySame, byOm, by omega, fun i hi => by
    by_cases e : i = k
    ·subst e; exact hv
    ·exact hall i byO⟩ byO
  ·rw [decide_eq_true hv]
   (refine byRun ?_)
   (refine byFin ?_)
   exact ⟨_, rfl, by omega, ⟨fun _ h => hv (h _ (getD_mem hlt)), fun _ => by omega⟩⟩
 ·obtain rfl : k = ys.length := by omega
  clear hK
  have hA : AllS ys := fun y hy => by
   obtain ⟨p, hp, rfl⟩ := List.mem_iff_getElem.1 hy
   have := hall p hp
   rw [List.getD_eq_getElem?_getD, List.getElem?_eq_getElem hp] at this
   exact this
  (refine byRun ?_)
  (refine byFin ?_)
  exact ⟨_, rfl, by omega, ⟨fun h => by omega, fun h => absurd hA h⟩⟩
theorem containsS_w {h : H} {m : Nat} {ys : List Int} {b : Option Addr} {a : Addr} {c : Nat} (hm : m ≤ h.next) (k : NumL m h ys b a c) (hl : ys.length ≤ 9223372036854775807) : AW Tryz.prog 55 h.next h [.slice b ys.length c, fnV 56] (fun v _ => v = .bool (decide (¬ AllS ys))) := by
 refine fun55.call rfl (Nat.le_refl _) ?_
 unfold a55
 (refine byRun ?_)
 apply q_call
 focus (exact byNext)
 focus (exact byLo)
 focus exact indexS_w (show m ≤ _ from byOm) (k.same bySame (Nat.le_refl _)) hl
 rintro v h2 ⟨z, rfl, h1, h3⟩ q n
 by_cases hz : 0 ≤ z
 ·(refine byRun ?_)
  (refine byFin ?_); exact bool_t rfl (h3.1 hz)
 ·(refine byRun ?_)
  (refine byFin ?_); exact bool_f rfl (fun h => hz (h3.2 h))
end AE.Tryz
