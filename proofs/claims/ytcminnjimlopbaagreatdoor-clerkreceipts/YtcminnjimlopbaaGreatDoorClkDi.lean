/- Clerk: the whole book by the definitions. -/
import Derived.Test.YtcminnjimlopbaaGreatDoorJoin43
import Derived.Test.YtcminnjimlopbaaGreatDoorClkDf
set_option linter.unusedVariables false
set_option linter.unusedSimpArgs false
set_option linter.unusedSectionVars false
namespace AE.Clerk
def SD.zero : SD := ⟨0, 0, [], [], [], []⟩
def runD (f : Nat → Ln) : Nat → SD
 | 0 => .zero
 | n + 1 => (doD (f n) f n (runD f n)).1
end AE.Clerk
namespace AE.Tryz
open Go AE Go.Proofs AE.Clerk
set_option maxRecDepth 100000
set_option linter.unusedVariables false

theorem run_rel {f : Nat → Ln} : ∀ {n : Nat}, n ≤ 60 → (∀ i, i < n → (f i).Valid 1099511627776) → SRel f n (after f n) (runD f n)
 | 0, _, _ => ⟨rfl, rfl, by simp [runD, SD.zero, after, St.zero, sortM], rfl, rfl, rfl, fun r hr => by simp [after, St.zero] at hr, fun j hj => absurd hj (Nat.not_lt_zero j)⟩
 | n + 1, h, hv => (do_rel (run_rel byO fun i hi => hv i byO) (after_ok byO fun i hi => hv i byO) (hv n byO) (after_ok (n := n + 1) byO hv)).1
theorem run_err {f : Nat → Ln} {n : Nat} (h : n < 60) (hv : ∀ i, i ≤ n → (f i).Valid 1099511627776) : (doD (f n) f n (runD f n)).2 = errAt f n :=
 (do_rel (run_rel byO fun i hi => hv i byO) (after_ok byO fun i hi => hv i byO) (hv n byO) (after_ok (n := n + 1) byO fun i hi => hv i byO)).2
theorem rel_pre {f : Nat → Ln} {t : Nat} {s : St} {S : SD} (k : SRel f t s S) (ok : s.Ok t) (ht : t ≤ 60) : S.ms.length ≤ t ∧ (0 ≤ S.stock ∧ S.stock ≤ 100000000) ∧ (0 ≤ S.lost ∧ S.lost ≤ 100000000) ∧ (∀ y ∈ S.ms, y.Ok t) ∧ (∀ j, 0 ≤ S.co.getD j 0 ∧ S.co.getD j 0 ≤ 1000000) := by
 have h1 := ok.stock
 have h2 := ok.lost
 have h3 := ok.ml
 refine ⟨by rw [k.ms, sortM_len]; exact h3, by rw [k.stock]; omega, by rw [k.lost]; omega, fun y hy => ?_, fun j => ?_⟩
 ·rw [k.ms] at hy
  exact ok.ms y ((sortM_perm _).mem_iff.1 hy)
 ·by_cases hj : j < t
  ·by_cases hr : ∃ r ∈ s.rs, r.at_ = j
   ·obtain ⟨r, hr, rfl⟩ := hr
    rw [some_getD (k.run1 r hr).2.1]
    have := ok.rs r hr
    omega
   ·rw [some_getD (k.run0 j hj fun r hr' e => hr ⟨r, hr', e⟩).2.1]
    omega
  ·rw [List.getD_eq_getElem?_getD, List.getElem?_eq_none (by rw [k.co]; omega)]
   simp
theorem outC_snoc (f : Nat → Ln) (q : Nat) : outC f (q + 1) (q + 1) = outC f q q ++ [.int .i64 (errAt f q)] := by
 unfold outC
 rw [List.range_succ, List.map_append]
 congr 1
 ·refine List.map_congr_left fun i hi => ?_
  have := List.mem_range.1 hi
  rw [if_pos byO, if_pos this]
 ·simp
def StQ (lo hi : Nat) (h : H) (S : SD) (cs : List Value) : Prop := (S = .zero ∧ cs = stC .zero none none none none none) ∨ ∃ c1 c2 c3 c4 c5 a1 r1 a2 r2 a3 r3 a4 r4 a5 r5, cs = stC S c1 c2 c3 c4 c5 ∧ SG lo hi h S c1 c2 c3 c4 c5 a1 r1 a2 r2 a3 r3 a4 r4 a5 r5
theorem StQ.frame {lo hi : Nat} {h h' : H} {S : SD} {cs : List Value} (k : StQ lo hi h S cs) (hs : ∀ q, lo ≤ q → q < hi → h'.get q = h.get q) : StQ lo hi h' S cs := by
 rcases k with k | ⟨c1, c2, c3, c4, c5, a1, r1, a2, r2, a3, r3, a4, r4, a5, r5, e, k⟩
 ·exact .inl k
 ·exact .inr ⟨c1, c2, c3, c4, c5, a1, r1, a2, r2, a3, r3, a4, r4, a5, r5, e, k.frame hs⟩
theorem StQ.mono {lo hi lo' hi' : Nat} {h : H} {S : SD} {cs : List Value} (k : StQ lo hi h S cs) (h1 : lo' ≤ lo) (h2 : hi ≤ hi') : StQ lo' hi' h S cs := by
 rcases k with k | ⟨c1, c2, c3, c4, c5, a1, r1, a2, r2, a3, r3, a4, r4, a5, r5, e, k⟩
 ·exact .inl k
 ·exact .inr ⟨c1, c2, c3, c4, c5, a1, r1, a2, r2, a3, r3, a4, r4, a5, r5, e, k.mono h1 h2⟩
theorem StQ.rd {lo hi m : Nat} {h : H} {S : SD} {cs : List Value} (k : StQ lo hi h S cs) (hm : hi ≤ m) : ∃ c1 c2 c3 c4 c5, cs = stC S c1 c2 c3 c4 c5 ∧ SR m h S c1 c2 c3 c4 c5 := by
 rcases k with ⟨rfl, rfl⟩ | ⟨c1, c2, c3, c4, c5, a1, r1, a2, r2, a3, r3, a4, r4, a5, r5, e, k⟩
 ·have hz : ∀ sz, RdS m h sz 0 [] none := fun sz => ⟨by simp, rfl, fun h => absurd h (Nat.lt_irrefl 0), fun _ => .inl rfl⟩
  exact ⟨none, none, none, none, none, rfl, hz 8, hz 1, hz 1, hz 1, hz 1, Nat.zero_le _, Nat.zero_le _, Nat.zero_le _, Nat.zero_le _⟩
 ·exact ⟨c1, c2, c3, c4, c5, e, k.rd hm⟩
theorem touch_slX {r q s : Nat} (h : s ∈ touchV (.slice (addrX r q) q 0)) : 0 < q ∧ s = r := by
 have hf : ¬ far ≤ 0 := by unfold far; omega
 cases q with
 | zero => simp [addrX, touchV] at h
 | succ q => simp [addrX, touchV, hf] at h; exact ⟨Nat.succ_pos _, h⟩
theorem Apart.slX {ts : Ts} {a b : Opd} {l : List (Opd × Opd)} {s r q : Nat} (ha : touchV (ev ts a) = [s]) (hb : ev ts b = .slice (addrX r q) q 0) (hne : 0 < q → r ≠ s) (hl : Apart l ts) : Apart ((a, b) :: l) ts := by
 intro p hp x hx
 rcases List.mem_cons.1 hp with rfl | hp
 ·rw [ha] at hx
  simp at hx
  subst hx
  rw [hb]
  intro h
  obtain ⟨h1, h2⟩ := touch_slX h
  exact hne h1 h2.symm
 ·exact hl p hp x hx
theorem Run_w {h : H} {B : Bk} {m : Nat} (hm : m ≤ h.next) (hB : B.Ok m h) (hg : Good B.n B.f) : AW Tryz.prog 41 h.next h [.slice B.b B.n B.c] (fun v h' => ∃ cs r, v = .tuple #[.agg ⟨cs⟩, .slice (addrX r B.n) B.n 0] ∧ StQ h.next h'.next h' (runD B.f B.n) cs ∧ GX r h' 25 1 B.n (outC B.f B.n B.n) ∧ (0 < B.n → h.next ≤ r ∧ r < h'.next)) := by
 obtain ⟨n60, hv⟩ := hg
 refine fun41.call rfl (Nat.le_refl _) ?_
 unfold a41
 have l1 := hB.l
 (refine byRun ?_)
 refine wp_loop (fun q : Nat × Nat => [(0, .slice B.b B.n B.c), (2, .pointer (some ⟨h.next, 0, none⟩)), (4, .pointer (some ⟨h.next + 2, 0, none⟩)), (5, .slice (addrX q.2 q.1) q.1 0), (6, .int .i64 q.1)])
  (fun q h1 => Same h.next h h1 ∧ h.next + 5 ≤ h1.next ∧ q.1 ≤ B.n ∧ h1.get h.next = some (.cells [.int .i64 0, .int .i64 0, .slice none 0 0, .slice none 0 0, .slice none 0 0, .slice none 0 0, .slice none 0 0] 74) ∧ (∃ cs, h1.get (h.next + 2) = some (.cells cs 74) ∧ StQ (h.next + 5) h1.next h1 (runD B.f q.1) cs) ∧ GX q.2 h1 25 1 q.1 (outC B.f q.1 q.1) ∧ (0 < q.1 → h.next + 5 ≤ q.2 ∧ q.2 < h1.next)) (fun q => B.n - q.1) (0, 0) ⟨rfl, rfl, rfl, rfl, rfl, trivial⟩ ⟨bySame, byOm, by simp, byGet, ⟨_, byGet, .inl ⟨rfl, rfl⟩⟩, GX.nil, fun h => absurd h (Nat.lt_irrefl 0)⟩ ?_
 rintro ⟨q, r⟩ g' h1 ⟨s1, n1, hq, x0, ⟨cs, x2, sq⟩, gx, gr⟩ K hK
 dsimp only at hq sq gx gr ⊢
 obtain ⟨c1, c2, c3, c4, c5, rfl, sr⟩ := sq.rd (Nat.le_refl _)
 have B1 := hB.same (m' := h1.next) (s1.mono hm) byO
 by_cases hlt : q < B.n
 ·have hrel := run_rel (f := B.f) (n := q) byO fun i hi => hv i byO
  have hok := after_ok (f := B.f) (n := q) byO fun i hi => hv i byO
  have herr := run_err (f := B.f) (n := q) byO fun i hi => hv i byO
  obtain ⟨p1, p2, p3, p4, p5⟩ := rel_pre hrel hok byO
  have e3 := hrel.rn
  have e4 := hrel.co
  have e5 := hrel.bk
  have x2' := x2
  unfold stC at x2'
  (refine byRun ?_)
  apply q_call
  focus (exact byNext)
  focus (exact byLo)
  focus exact Do_w (m := h1.next) (S := runD B.f q) (B := B) (t := q) byOm (sr.same (m' := h1.next) bySame (Nat.le_refl _)) (B1.same (m' := h1.next) bySame (Nat.le_refl _)) hlt n60 e3 e4 e5 p1 p2 p3 p4 p5 (hv q hlt)
  rintro v h2 ⟨cs2, rfl, d1, d2, d3, d4, d5, o1, u1, o2, u2, o3, u3, o4, u4, o5, u5, rfl, sg⟩ q2 n2
  rw [herr]
  have gx2 := gx.frame (h' := h2) fun h0 => get_of fun y hy => by have := gr h0; (exact byGet)
  have s2 : Same h.next h h2 := by (exact bySame)
  have x02 : h2.get h.next = some (.cells [.int .i64 0, .int .i64 0, .slice none 0 0, .slice none 0 0, .slice none 0 0, .slice none 0 0, .slice none 0 0] 74) := by (exact byGet)
  have x22 : h2.get (h.next + 2) = some (.cells [.int .i64 (runD B.f q).stock, .int .i64 (runD B.f q).lost, .slice c1 (runD B.f q).ms.length 0, .slice c2 (runD B.f q).ms.length 0, .slice c3 (runD B.f q).rn.length 0, .slice c4 (runD B.f q).co.length 0, .slice c5 (runD B.f q).bk.length 0] 74) := by (exact byGet)
  have n12 : h1.next + 12 ≤ h2.next := by (exact byOm)
  have sg2 : SG (h1.next + 12) h2.next h2 (runD B.f (q + 1)) d1 d2 d3 d4 d5 o1 u1 o2 u2 o3 u3 o4 u4 o5 u5 := sg.mono byOm (Nat.le_refl _)
  have eS : (doD (B.f q) B.f q (runD B.f q)).1 = runD B.f (q + 1) := rfl
  rw [eS]
  generalize hS' : runD B.f (q + 1) = S' at sg2 ⊢
  clear sg sr sq gx s1 x0 x2 x2' q2 B1 hrel hok p4 p5
  unfold stC
  (refine byRun ?_)
  apply q_appX (r := r) (n := q) (cs := outC B.f q q) (nc := [.int .i64 (errAt B.f q)])
  case G => exact gx2.frame fun h0 => get_of fun y hy => by have := gr h0; (exact byGet)
  case hsv => exact rfl
  case C =>
   apply Cells.one
   focus (apply loadN_cells; (focus (exact byGet)); (focus exact rfl))
   focus (unfold far; omega)
   focus exact rfl
   focus exact rfl
  case hlo => exact fun h0 => by have := gr h0; omega
  case hsm => omega
  intro r' hr0 hr1 g8
  have rb : h.next + 5 ≤ r' ∧ r' < h2.next + 5 ∧ (0 < q → r' < h1.next) ∧ (q = 0 → r' = h2.next + 4) := by
   rcases Nat.eq_zero_or_pos q with h0 | h0
   ·have := hr0 h0; omega
   ·have := hr1 h0; have := gr h0; omega
  (refine byRun ?_)
  refine Need.mk (Apart.slX rfl rfl (fun h0 => by have := gr h0; show r ≠ h1.next + 11; omega) Apart.nil2) ?_
  (refine byRun ?_)
  refine hK (q + 1, r') _ _ ⟨rfl, rfl, rfl, rfl, int_of rfl (by dsimp only; omega), trivial⟩ ⟨bySame, byOm, by dsimp only; omega, byGet, ⟨_, byGet, ?_⟩, ?_, fun _ => ?_⟩ (by dsimp only; omega)
  ·dsimp only
   rw [hS']
   refine .inr ⟨d1, d2, d3, d4, d5, o1, u1, o2, u2, o3, u3, o4, u4, o5, u5, rfl, ?_⟩
   exact (sg2.frame fun q h1 h2 => get_of fun y hy => byGet).mono byO byOm
  ·dsimp only
   rw [outC_snoc]
   exact g8.frame fun _ => get_of fun y hy => by (exact byGet)
  ·dsimp only
   refine ⟨rb.1, ?_⟩
   (exact byOm)
 obtain rfl : q = B.n := by omega
 clear hK
 unfold stC at x2
 (refine byRun ?_)
 (refine byFin ?_)
 exact ⟨_, r, rfl, (sq.frame fun q h1 h2 => get_of fun y hy => byGet).mono byO byOm, gx.frame fun h0 => get_of fun y hy => by have := gr h0; (exact byGet), fun h0 => by have := gr h0; exact ⟨by omega, byOm⟩⟩
end AE.Tryz
