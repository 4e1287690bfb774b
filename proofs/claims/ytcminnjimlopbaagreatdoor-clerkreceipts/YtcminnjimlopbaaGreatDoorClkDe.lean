/- Clerk, walked: the definitions' drawn. -/
import Derived.Test.YtcminnjimlopbaaGreatDoorClkDd
set_option linter.unusedVariables false
set_option linter.unusedSimpArgs false
set_option linter.unusedSectionVars false
namespace AE.Clerk
def posM : List Mdl → Int → Nat
 | [], _ => 0
 | m :: ms, n => if m.no < n then posM ms n + 1 else 0
def insM (ms : List Mdl) (m : Mdl) : List Mdl := ms.take (posM ms m.no) ++ [m] ++ ms.drop (posM ms m.no)
theorem posM_is (n : Int) : ∀ {ms : List Mdl} {q : Nat}, (∀ i x, i < q → ms[i]? = some x → x.no < n) → (q = ms.length ∨ ∃ x, ms[q]? = some x ∧ ¬ x.no < n) → q ≤ ms.length → posM ms n = q
 | [], q, _, _, h => by simp at h; subst h; rfl
 | m :: ms, 0, _, h, _ => by
   rcases h with h | ⟨x, hx, hn⟩
   ·simp at h
   ·simp at hx; subst hx
    unfold posM; rw [if_neg hn]
 | m :: ms, q + 1, h, k, hl => by
   have hm := h 0 m byO rfl
   unfold posM
   rw [if_pos hm, posM_is n (ms := ms) (q := q) (fun i x hi hx => h (i + 1) x byO (by simpa using hx)) (by
    rcases k with k | ⟨x, hx, hn⟩
    ·left; simpa using k
    ·right; exact ⟨x, by simpa using hx, hn⟩) (by simpa using hl)]
end AE.Clerk
namespace AE.Tryz
open Go AE Go.Proofs AE.Clerk
set_option maxRecDepth 100000
set_option linter.unusedVariables false

theorem cellsOf_take {α : Type} {g : α → List Value} {w : Nat} (hw : ∀ x, (g x).length = w) : ∀ (l : List α) (p : Nat), (cellsOf g l).take (p * w) = cellsOf g (l.take p)
 | [], p => by simp [cellsOf]
 | x :: l, 0 => by simp [cellsOf]
 | x :: l, p + 1 => by
   have ih := cellsOf_take hw l p
   have hx := hw x
   have e : cellsOf g (x :: l) = g x ++ cellsOf g l := by simp [cellsOf]
   have e2 : cellsOf g ((x :: l).take (p + 1)) = g x ++ cellsOf g (l.take p) := by simp [cellsOf]
   rw [e, e2, ← ih, show (p + 1) * w = (g x).length + p * w by rw [hx, Nat.succ_mul]; omega, List.take_length_add_append]
theorem cellsOf_drop {α : Type} {g : α → List Value} {w : Nat} (hw : ∀ x, (g x).length = w) : ∀ (l : List α) (p : Nat), (cellsOf g l).drop (p * w) = cellsOf g (l.drop p)
 | [], p => by simp [cellsOf]
 | x :: l, 0 => by simp [cellsOf]
 | x :: l, p + 1 => by
   have ih := cellsOf_drop hw l p
   have hx := hw x
   have e : cellsOf g (x :: l) = g x ++ cellsOf g l := by simp [cellsOf]
   rw [e, List.drop_succ_cons, ← ih, show (p + 1) * w = (g x).length + p * w by rw [hx, Nat.succ_mul]; omega, List.drop_length_add_append]
theorem Apart.above2 {ts : Ts} {a b : Opd} {l : List (Opd × Opd)} {s N : Nat} (ha : ∀ r ∈ touchV (ev ts a), N ≤ r) (hb : touchV (ev ts b) = [s]) (hlt : s < N) (hl : Apart l ts) : Apart ((a, b) :: l) ts := by
 intro p hp r hr
 rcases List.mem_cons.1 hp with rfl | hp
 ·have := ha r hr
  rw [hb]
  simp
  omega
 ·exact hl p hp r hr
theorem Apart.nil2 {ts : Ts} : Apart [] ts := fun p hp => by simp at hp
theorem GE.touch {a r sz n c N : Nat} {h : H} {e : TypeId} {cs : List Value} {b : Option Addr} (g : GE a r h e sz n cs b) (ha : N ≤ a) (hr : N ≤ r) : ∀ q ∈ touchV (.slice b n c), N ≤ q := by
 intro q hq
 rcases g with ⟨-, rfl, -⟩ | ⟨-, g⟩
 ·simp [touchV] at hq
  omega
 ·obtain ⟨g', lens, valid, rfl, -⟩ := g.is
  simp [touchV] at hq
  omega
set_option maxHeartbeats 8000000 in
theorem drawn_w {h : H} {S : SD} {m : Nat} {b1 b2 b3 b4 b5 : Option Addr} {x : Ln} (hm : m ≤ h.next) (k : SR m h S b1 b2 b3 b4 b5) (hx : 1 ≤ x.a ∧ x.a ≤ 1000000 ∧ 0 ≤ x.b ∧ x.b ≤ 1000) (hl : S.ms.length ≤ 99) :
 AW Tryz.prog 104 h.next h [.agg ⟨stC S b1 b2 b3 b4 b5⟩, .agg ⟨x.cells⟩] (fun v h' => ∃ cs, v = .agg ⟨cs⟩ ∧ StP h.next { S with ms := insM S.ms (drawn x) } h' cs) := by
 have k1 := k.m1
 have k2 := k.m2
 have s1 := k.s1
 have hmul : 0 ≤ x.a * x.b ∧ x.a * x.b ≤ 1000000000 := by
  have e1 := Int.mul_le_mul hx.2.1 hx.2.2.2 hx.2.2.1 byO
  have e2 := Int.mul_nonneg (show 0 ≤ x.a by omega) hx.2.2.1
  omega
 refine fun104.call rfl (Nat.le_refl _) ?_
 unfold a104 stC Ln.cells
 (refine byRun ?_)
 refine wp_loop (fun q : Nat => [(2, .pointer (some ⟨h.next, 0, none⟩)), (3, .pointer (some ⟨h.next + 1, 0, none⟩)), (4, .pointer (some ⟨h.next + 2, 0, none⟩)), (5, .int .i64 q)]) (fun q h1 => Same h.next h h1 ∧ h1.get h.next = some (.cells [.int .i64 S.stock, .int .i64 S.lost, .slice b1 S.ms.length 0, .slice b2 S.ms.length 0, .slice b3 S.rn.length 0, .slice b4 S.co.length 0, .slice b5 S.bk.length 0] 74) ∧ h1.get (h.next + 1) = some (.cells [.int .i64 x.k, .int .i64 x.m, .int .i64 x.a, .int .i64 x.b] 38) ∧ h1.get (h.next + 2) = some (.cells [.int .i64 0, .int .i64 0, .slice none 0 0, .slice none 0 0, .slice none 0 0, .slice none 0 0, .slice none 0 0] 74) ∧ h.next + 4 ≤ h1.next ∧ q ≤ S.ms.length ∧ ∀ i y, i < q → S.ms[i]? = some y → y.no < x.m) (fun q => S.ms.length - q) 0 ⟨rfl, rfl, rfl, rfl, trivial⟩ ⟨bySame, byGet, byGet, byGet, byOm, by omega, fun i x hi => absurd hi (Nat.not_lt_zero i)⟩ ?_
 rintro q g' h1 ⟨sm, gb, gx, g2, n1, hq, hno⟩ K hK
 by_cases hlt : q < S.ms.length ∧ ∀ y, S.ms[q]? = some y → y.no < x.m
 ·obtain ⟨hlt, hy⟩ := hlt
  obtain ⟨a, rfl, ha, hel⟩ := (k1.same (sm.mono hm) (Nat.le_refl _)).mdl byO
  obtain ⟨y, hy1⟩ : ∃ x, S.ms[q]? = some x := ⟨_, List.getElem?_eq_getElem hlt⟩
  have hy2 := hy y hy1
  have e8 := hel q y hy1
  have e0 : h1.loadN (aadd (aadd a (q * 8)) 0) 1 = some [.int .i64 y.no] := load_part e8 rfl
  (refine byRun ?_)
  exact hK (q + 1) _ _ ⟨rfl, rfl, rfl, int_of rfl byO, trivial⟩ ⟨bySame, byGet, byGet, byGet, byOm, by omega, fun i z hi hz => by
   by_cases hiq : i = q
   ·subst hiq; rw [hy1] at hz; simp only [Option.some.injEq] at hz; subst hz; exact hy2
   ·exact hno i z byO hz⟩ byO
 have hpos : posM S.ms x.m = q := posM_is x.m hno (by
  by_cases h1 : q < S.ms.length
  ·right
   refine ⟨S.ms[q], List.getElem?_eq_getElem h1, fun h2 => hlt ⟨h1, fun y hy => ?_⟩⟩
   rw [List.getElem?_eq_getElem h1] at hy
   simp only [Option.some.injEq] at hy
   subst hy; exact h2
  ·left; omega) hq
 clear hK
 by_cases hlt2 : q < S.ms.length
 ·obtain ⟨a, hb1, ha, hel⟩ := (k1.same (sm.mono hm) (Nat.le_refl _)).mdl byO
  obtain ⟨y, hy1⟩ : ∃ x, S.ms[q]? = some x := ⟨_, List.getElem?_eq_getElem hlt2⟩
  have hy2 : ¬ y.no < x.m := fun h2 => hlt ⟨hlt2, fun z hz => by rw [hy1] at hz; simp only [Option.some.injEq] at hz; subst hz; exact h2⟩
  have e8 := hel q y hy1
  have e0 : h1.loadN (aadd (aadd a (q * 8)) 0) 1 = some [.int .i64 y.no] := load_part e8 rfl
  (refine byRun ?_)
  refine Ix.mk hb1 rfl hlt2 ?_
  (refine byRun ?_)
  apply q_call
  focus (exact byNext)
  focus (exact byLo)
  focus exact copied_w (m := m) byOm (k.same (m' := m) bySame (Nat.le_refl _))
  rintro v h2 ⟨c1, c2, c3, c4, c5, a1, r1, a2, r2, a3, r3, a4, r4, a5, r5, rfl, sf⟩ q2 n2
  unfold stC
  obtain ⟨-, -, w3, w4, w5, wc, -, t3, t4, t5⟩ := sf
  have wc0 : h1.next + 22 ≤ a1 := by have := wc.1; (exact byOm)
  have hmc := cM_len S
  have sm2 : Same m h h2 := by (exact bySame)
  (refine byRun ?_)
  apply q_rdto (m := m) (n := S.ms.length) (j := q) (cs := cM S)
  case hx => exact rfl
  case r => exact k1.same (m' := m) bySame (Nat.le_refl _)
  case hj => exact rfl
  case h1 => exact hq
  intro v1 C1
  (refine byRun ?_)
  apply q_appNew (r0 := h2.next) (n := q) (nc := (cM S).take (q * 8))
  case hsv => exact rfl
  case hg => (exact byGet)
  case C => exact C1
  case hlo => omega
  case hnx => (exact byOm)
  case hsm => omega
  rintro d3 h3 g3 q3 n3 -
  have n3' : h2.next + 23 ≤ h3.next := by rw [n3]; (exact byOm)
  clear n3 C1
  (refine byRun ?_)
  apply q_appE (r0 := h2.next) (r := h2.next + 6) (n := q) (m := 1) (cs := (cM S).take (q * 8)) (nc := mC8 (drawn x))
  case G => exact g3.frame (fun _ => get_of fun y hy => byGet) (fun _ => get_of fun y hy => byGet)
  case hsv => exact rfl
  case C =>
   apply Cells.one
   focus (apply loadN_cells; (focus (exact byGet)); (focus exact rfl))
   focus (unfold far; omega)
   focus exact rfl
   focus exact rfl
  case hlo => omega
  case hnx => (exact byOm)
  case hsm => omega
  rintro e4 d4 h4 he4 g4 q4 n4 f4
  have n4' : h3.next ≤ h4.next := by rw [n4]; exact Nat.le_refl _
  clear n4 f4
  (refine byRun ?_)
  apply q_rdfrom (m := m) (n := S.ms.length) (j := q) (cs := cM S)
  case hx => exact rfl
  case r => exact k1.same (m' := m) bySame (Nat.le_refl _)
  case hj => exact rfl
  case h1 => exact hq
  case hn => omega
  case hz => omega
  intro v5 C5
  (refine byRun ?_)
  apply q_appE (r0 := h2.next) (r := e4) (n := q + 1) (m := S.ms.length - q) (cs := (cM S).take (q * 8) ++ mC8 (drawn x)) (nc := (cM S).drop (q * 8))
  case G => exact g4.frame (fun _ => get_of fun y hy => byGet) (fun _ => get_of fun y hy => byGet)
  case hsv => exact rfl
  case C => exact C5
  case hlo => omega
  case hnx => (exact byOm)
  case hsm => omega
  rintro e5 d5 h5 he5 g5 q5 n5 f5
  have n5' : h4.next ≤ h5.next := by rw [n5]; exact Nat.le_refl _
  have q5' : Quiet (h2.next + 6) h4 h5 := q5.mono byO
  have eln : q + 1 + (S.ms.length - q) = S.ms.length + 1 := by omega
  rw [eln] at g5 ⊢
  clear n5 f5 C5 q5
  (refine byRun ?_)
  have tch : ∀ y ∈ touchV (.slice d3 q 0), h2.next ≤ y := GE.touch g3 (Nat.le_refl _) byO
  have tch0 : ∀ y ∈ touchV (.slice (some ⟨h2.next, 0, none⟩) 0 0), h2.next ≤ y := fun y hy => by simp [touchV] at hy; omega
  refine Need.mk (Apart.above2 tch0 rfl (by show h.next + 1 < _; omega) (Apart.above2 tch0 rfl (by show h.next + 1 < _; omega) (Apart.above2 tch0 rfl (by show h.next < _; omega) (Apart.above2 tch rfl (by show h.next < _; omega) Apart.nil2)))) ?_
  (refine byRun ?_)
  apply q_rdto (m := m) (n := S.ms.length) (j := q) (cs := cL S)
  case hx => exact rfl
  case r => exact k2.same (m' := m) bySame (Nat.le_refl _)
  case hj => exact rfl
  case h1 => exact hq
  intro v6 C6
  (refine byRun ?_)
  apply q_appNew (r0 := h5.next) (n := q) (nc := (cL S).take (q * 1))
  case hsv => exact rfl
  case hg => (exact byGet)
  case C => exact C6
  case hlo => omega
  case hnx => (exact byOm)
  case hsm => omega
  rintro d6 h6 g6 q6 n6 -
  have n6' : h5.next + 22 ≤ h6.next := by rw [n6]; (exact byOm)
  clear n6 C6
  (refine byRun ?_)
  apply q_appE (r0 := h5.next) (r := h5.next + 5) (n := q) (m := 1) (cs := (cL S).take (q * 1)) (nc := [.int .i64 ((x.a * x.b + 999) / 1000)])
  case G => exact g6.frame (fun _ => get_of fun y hy => byGet) (fun _ => get_of fun y hy => byGet)
  case hsv => exact rfl
  case C =>
   apply Cells.one
   focus (apply loadN_cells; (focus (exact byGet)); (focus exact rfl))
   focus (unfold far; omega)
   focus exact rfl
   focus exact rfl
  case hlo => omega
  case hnx => (exact byOm)
  case hsm => omega
  rintro e7 d7 h7 he7 g7 q7 n7 f7
  have n7' : h6.next ≤ h7.next := by rw [n7]; exact Nat.le_refl _
  clear n7 f7
  (refine byRun ?_)
  apply q_rdfrom (m := m) (n := S.ms.length) (j := q) (cs := cL S)
  case hx => exact rfl
  case r => exact k2.same (m' := m) bySame (Nat.le_refl _)
  case hj => exact rfl
  case h1 => exact hq
  case hn => omega
  case hz => omega
  intro v8 C8
  (refine byRun ?_)
  apply q_appE (r0 := h5.next) (r := e7) (n := q + 1) (m := S.ms.length - q) (cs := (cL S).take (q * 1) ++ [.int .i64 ((x.a * x.b + 999) / 1000)]) (nc := (cL S).drop (q * 1))
  case G => exact g7.frame (fun _ => get_of fun y hy => byGet) (fun _ => get_of fun y hy => byGet)
  case hsv => exact rfl
  case C => exact C8
  case hlo => omega
  case hnx => (exact byOm)
  case hsm => omega
  rintro e8' d8 h8 he8 g8 q8 n8 f8
  have n8' : h7.next ≤ h8.next := by rw [n8]; exact Nat.le_refl _
  have q8' : Quiet (h5.next + 5) h7 h8 := q8.mono byO
  rw [eln] at g8 ⊢
  clear n8 f8 C8 q8
  have tch6 : ∀ y ∈ touchV (.slice d6 q 0), h5.next ≤ y := GE.touch g6 (Nat.le_refl _) byO
  have tch7 : ∀ y ∈ touchV (.slice (some ⟨h5.next, 0, none⟩) 0 0), h5.next ≤ y := fun y hy => by simp [touchV] at hy; omega
  (refine byRun ?_)
  refine Need.mk (Apart.above2 tch7 rfl (by show h.next + 1 < _; omega) (Apart.above2 tch7 rfl (by show h.next + 1 < _; omega) (Apart.above2 tch7 rfl (by show h.next < _; omega) (Apart.above2 tch6 rfl (by show h.next < _; omega) Apart.nil2)))) ?_
  (refine byRun ?_)
  (refine byFin ?_)
  have hins : insM S.ms (drawn x) = S.ms.take q ++ [drawn x] ++ S.ms.drop q := by
   unfold insM
   rw [show (drawn x).no = x.m from rfl, hpos]
  have hil : (insM S.ms (drawn x)).length = S.ms.length + 1 := by
   rw [hins]
   simp only [List.length_append, List.length_take, List.length_drop, List.length_cons, List.length_nil]
   omega
  have ecM : cM { S with ms := insM S.ms (drawn x) } = (cM S).take (q * 8) ++ mC8 (drawn x) ++ (cM S).drop (q * 8) := by
   unfold cM
   dsimp only
   rw [hins, cellsOf_take (w := 8) (fun _ => rfl), cellsOf_drop (w := 8) (fun _ => rfl)]
   simp [cellsOf]
  have ecL : cL { S with ms := insM S.ms (drawn x) } = (cL S).take (q * 1) ++ [.int .i64 ((x.a * x.b + 999) / 1000)] ++ (cL S).drop (q * 1) := by
   unfold cL cI
   dsimp only
   rw [hins, Nat.mul_one]
   simp [drawn, List.map_take, List.map_drop]
  rw [← ecM] at g5
  rw [← ecL] at g8
  rw [← hil] at g5 g8 ⊢
  refine ⟨_, rfl, d5, d8, c3, c4, c5, h2.next, e5, h5.next, e8', a3, r3, a4, r4, a5, r5, rfl, ⟨?_, ?_, ?_, ?_, ?_, byOm, by dsimp only; rw [hil]; omega, t3, t4, t5⟩⟩
  ·exact g5.frame (fun _ => byGo) (fun _ => byGo)
  ·exact g8.frame (fun _ => byGo) (fun _ => byGo)
  ·exact w3.frame (fun _ => byGo) (fun _ => byGo)
  ·exact w4.frame (fun _ => byGo) (fun _ => byGo)
  ·exact w5.frame (fun _ => byGo) (fun _ => byGo)
 ·(refine byRun ?_)
  apply q_call
  focus (exact byNext)
  focus (exact byLo)
  focus exact copied_w (m := m) byOm (k.same (m' := m) bySame (Nat.le_refl _))
  rintro v h2 ⟨c1, c2, c3, c4, c5, a1, r1, a2, r2, a3, r3, a4, r4, a5, r5, rfl, sf⟩ q2 n2
  unfold stC
  obtain ⟨-, -, w3, w4, w5, wc, -, t3, t4, t5⟩ := sf
  have wc0 : h1.next + 22 ≤ a1 := by have := wc.1; (exact byOm)
  have hmc := cM_len S
  have sm2 : Same m h h2 := by (exact bySame)
  (refine byRun ?_)
  apply q_rdto (m := m) (n := S.ms.length) (j := q) (cs := cM S)
  case hx => exact rfl
  case r => exact k1.same (m' := m) bySame (Nat.le_refl _)
  case hj => exact rfl
  case h1 => exact hq
  intro v1 C1
  (refine byRun ?_)
  apply q_appNew (r0 := h2.next) (n := q) (nc := (cM S).take (q * 8))
  case hsv => exact rfl
  case hg => (exact byGet)
  case C => exact C1
  case hlo => omega
  case hnx => (exact byOm)
  case hsm => omega
  rintro d3 h3 g3 q3 n3 -
  have n3' : h2.next + 23 ≤ h3.next := by rw [n3]; (exact byOm)
  clear n3 C1
  (refine byRun ?_)
  apply q_appE (r0 := h2.next) (r := h2.next + 6) (n := q) (m := 1) (cs := (cM S).take (q * 8)) (nc := mC8 (drawn x))
  case G => exact g3.frame (fun _ => get_of fun y hy => byGet) (fun _ => get_of fun y hy => byGet)
  case hsv => exact rfl
  case C =>
   apply Cells.one
   focus (apply loadN_cells; (focus (exact byGet)); (focus exact rfl))
   focus (unfold far; omega)
   focus exact rfl
   focus exact rfl
  case hlo => omega
  case hnx => (exact byOm)
  case hsm => omega
  rintro e4 d4 h4 he4 g4 q4 n4 f4
  have n4' : h3.next ≤ h4.next := by rw [n4]; exact Nat.le_refl _
  clear n4 f4
  (refine byRun ?_)
  apply q_rdfrom (m := m) (n := S.ms.length) (j := q) (cs := cM S)
  case hx => exact rfl
  case r => exact k1.same (m' := m) bySame (Nat.le_refl _)
  case hj => exact rfl
  case h1 => exact hq
  case hn => omega
  case hz => omega
  intro v5 C5
  (refine byRun ?_)
  apply q_appE (r0 := h2.next) (r := e4) (n := q + 1) (m := S.ms.length - q) (cs := (cM S).take (q * 8) ++ mC8 (drawn x)) (nc := (cM S).drop (q * 8))
  case G => exact g4.frame (fun _ => get_of fun y hy => byGet) (fun _ => get_of fun y hy => byGet)
  case hsv => exact rfl
  case C => exact C5
  case hlo => omega
  case hnx => (exact byOm)
  case hsm => omega
  rintro e5 d5 h5 he5 g5 q5 n5 f5
  have n5' : h4.next ≤ h5.next := by rw [n5]; exact Nat.le_refl _
  have q5' : Quiet (h2.next + 6) h4 h5 := q5.mono byO
  have eln : q + 1 + (S.ms.length - q) = S.ms.length + 1 := by omega
  rw [eln] at g5 ⊢
  clear n5 f5 C5 q5
  (refine byRun ?_)
  have tch : ∀ y ∈ touchV (.slice d3 q 0), h2.next ≤ y := GE.touch g3 (Nat.le_refl _) byO
  have tch0 : ∀ y ∈ touchV (.slice (some ⟨h2.next, 0, none⟩) 0 0), h2.next ≤ y := fun y hy => by simp [touchV] at hy; omega
  refine Need.mk (Apart.above2 tch0 rfl (by show h.next + 1 < _; omega) (Apart.above2 tch0 rfl (by show h.next + 1 < _; omega) (Apart.above2 tch0 rfl (by show h.next < _; omega) (Apart.above2 tch rfl (by show h.next < _; omega) Apart.nil2)))) ?_
  (refine byRun ?_)
  apply q_rdto (m := m) (n := S.ms.length) (j := q) (cs := cL S)
  case hx => exact rfl
  case r => exact k2.same (m' := m) bySame (Nat.le_refl _)
  case hj => exact rfl
  case h1 => exact hq
  intro v6 C6
  (refine byRun ?_)
  apply q_appNew (r0 := h5.next) (n := q) (nc := (cL S).take (q * 1))
  case hsv => exact rfl
  case hg => (exact byGet)
  case C => exact C6
  case hlo => omega
  case hnx => (exact byOm)
  case hsm => omega
  rintro d6 h6 g6 q6 n6 -
  have n6' : h5.next + 22 ≤ h6.next := by rw [n6]; (exact byOm)
  clear n6 C6
  (refine byRun ?_)
  apply q_appE (r0 := h5.next) (r := h5.next + 5) (n := q) (m := 1) (cs := (cL S).take (q * 1)) (nc := [.int .i64 ((x.a * x.b + 999) / 1000)])
  case G => exact g6.frame (fun _ => get_of fun y hy => byGet) (fun _ => get_of fun y hy => byGet)
  case hsv => exact rfl
  case C =>
   apply Cells.one
   focus (apply loadN_cells; (focus (exact byGet)); (focus exact rfl))
   focus (unfold far; omega)
   focus exact rfl
   focus exact rfl
  case hlo => omega
  case hnx => (exact byOm)
  case hsm => omega
  rintro e7 d7 h7 he7 g7 q7 n7 f7
  have n7' : h6.next ≤ h7.next := by rw [n7]; exact Nat.le_refl _
  clear n7 f7
  (refine byRun ?_)
  apply q_rdfrom (m := m) (n := S.ms.length) (j := q) (cs := cL S)
  case hx => exact rfl
  case r => exact k2.same (m' := m) bySame (Nat.le_refl _)
  case hj => exact rfl
  case h1 => exact hq
  case hn => omega
  case hz => omega
  intro v8 C8
  (refine byRun ?_)
  apply q_appE (r0 := h5.next) (r := e7) (n := q + 1) (m := S.ms.length - q) (cs := (cL S).take (q * 1) ++ [.int .i64 ((x.a * x.b + 999) / 1000)]) (nc := (cL S).drop (q * 1))
  case G => exact g7.frame (fun _ => get_of fun y hy => byGet) (fun _ => get_of fun y hy => byGet)
  case hsv => exact rfl
  case C => exact C8
  case hlo => omega
  case hnx => (exact byOm)
  case hsm => omega
  rintro e8' d8 h8 he8 g8 q8 n8 f8
  have n8' : h7.next ≤ h8.next := by rw [n8]; exact Nat.le_refl _
  have q8' : Quiet (h5.next + 5) h7 h8 := q8.mono byO
  rw [eln] at g8 ⊢
  clear n8 f8 C8 q8
  have tch6 : ∀ y ∈ touchV (.slice d6 q 0), h5.next ≤ y := GE.touch g6 (Nat.le_refl _) byO
  have tch7 : ∀ y ∈ touchV (.slice (some ⟨h5.next, 0, none⟩) 0 0), h5.next ≤ y := fun y hy => by simp [touchV] at hy; omega
  (refine byRun ?_)
  refine Need.mk (Apart.above2 tch7 rfl (by show h.next + 1 < _; omega) (Apart.above2 tch7 rfl (by show h.next + 1 < _; omega) (Apart.above2 tch7 rfl (by show h.next < _; omega) (Apart.above2 tch6 rfl (by show h.next < _; omega) Apart.nil2)))) ?_
  (refine byRun ?_)
  (refine byFin ?_)
  have hins : insM S.ms (drawn x) = S.ms.take q ++ [drawn x] ++ S.ms.drop q := by
   unfold insM
   rw [show (drawn x).no = x.m from rfl, hpos]
  have hil : (insM S.ms (drawn x)).length = S.ms.length + 1 := by
   rw [hins]
   simp only [List.length_append, List.length_take, List.length_drop, List.length_cons, List.length_nil]
   omega
  have ecM : cM { S with ms := insM S.ms (drawn x) } = (cM S).take (q * 8) ++ mC8 (drawn x) ++ (cM S).drop (q * 8) := by
   unfold cM
   dsimp only
   rw [hins, cellsOf_take (w := 8) (fun _ => rfl), cellsOf_drop (w := 8) (fun _ => rfl)]
   simp [cellsOf]
  have ecL : cL { S with ms := insM S.ms (drawn x) } = (cL S).take (q * 1) ++ [.int .i64 ((x.a * x.b + 999) / 1000)] ++ (cL S).drop (q * 1) := by
   unfold cL cI
   dsimp only
   rw [hins, Nat.mul_one]
   simp [drawn, List.map_take, List.map_drop]
  rw [← ecM] at g5
  rw [← ecL] at g8
  rw [← hil] at g5 g8 ⊢
  refine ⟨_, rfl, d5, d8, c3, c4, c5, h2.next, e5, h5.next, e8', a3, r3, a4, r4, a5, r5, rfl, ⟨?_, ?_, ?_, ?_, ?_, byOm, by dsimp only; rw [hil]; omega, t3, t4, t5⟩⟩
  ·exact g5.frame (fun _ => byGo) (fun _ => byGo)
  ·exact g8.frame (fun _ => byGo) (fun _ => byGo)
  ·exact w3.frame (fun _ => byGo) (fun _ => byGo)
  ·exact w4.frame (fun _ => byGo) (fun _ => byGo)
  ·exact w5.frame (fun _ => byGo) (fun _ => byGo)
end AE.Tryz
