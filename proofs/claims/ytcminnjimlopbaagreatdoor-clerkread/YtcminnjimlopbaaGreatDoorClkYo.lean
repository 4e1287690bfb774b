/- Clerk, walked: the law On. -/
import Derived.Test.YtcminnjimlopbaaGreatDoorClkWk
import Derived.Test.YtcminnjimlopbaaGreatDoorClkOn
set_option linter.unusedVariables false
set_option linter.unusedSimpArgs false
set_option linter.unusedSectionVars false
namespace AE.Tryz
open Go AE Go.Proofs AE.Clerk
set_option maxRecDepth 100000
set_option linter.unusedVariables false

def EmptyIn (b : Option Addr) (c : Nat) : Prop := (b = none ∧ c = 0) ∨ ∃ a, b = some a ∧ (c = far ∨ (a.spot = none ∧ c < far))
theorem q_bkto {lo nid : Nat} {ts : Ts} {h : H} {k : Value → H → Prop} {B : Bk} {m j : Nat} {x hi' : Opd} {k1 : IntKind} (hx : ev ts x = .slice B.b B.n B.c) {zi : Int} (hi0 : ev ts hi' = .int k1 zi) (hij : zi = (j : Int)) (hB : B.Ok m h) (hz : B.n = 0 → EmptyIn B.b B.c) (hj : j ≤ B.n)
 (hr : ∀ b' c', Bk.Ok ⟨j, B.f, b', B.a, c'⟩ m h → k (.slice b' j c') h) : OpE Tryz.prog lo nid ts h (.slsl 4 x none (some hi') none) k := by
 have hi : ev ts hi' = .int k1 (j : Int) := by rw [hi0, hij]
 rcases Nat.eq_zero_or_pos B.n with h0 | h0
 ·obtain rfl : j = 0 := by omega
  have ok0 : ∀ b' c', Bk.Ok ⟨0, B.f, b', B.a, c'⟩ m h := fun b' c' => ⟨fun h => absurd h (Nat.lt_irrefl 0), fun i hi => absurd hi (Nat.not_lt_zero i), fun h => absurd h (Nat.lt_irrefl 0), Nat.zero_le _, fun h => absurd h (Nat.lt_irrefl 0)⟩
  have n1 : natOf? (ev ts hi') = some 0 := by rw [hi]; simp [natOf?]
  rw [h0] at hx
  rcases hz h0 with ⟨e1, e2⟩ | ⟨a, e1, e2 | ⟨e2, e3⟩⟩
  ·rw [e1, e2] at hx
   refine OpE.mk (v := .slice none 0 0) (h' := h) ?_ (hr _ _ (ok0 _ _))
   simp [aop, keep, slsl, slNil, hx, evO, optNat, n1]
  ·rw [e1, e2] at hx
   refine OpE.mk (v := .slice (some a) 0 far) (h' := h) ?_ (hr _ _ (ok0 _ _))
   simp [aop, keep, slsl, slFar, hx, evO, optNat, n1]
  ·rw [e1] at hx
   refine OpE.mk (v := .slice (some a) 0 (enc1 (B.c - 0))) (h' := h) ?_ (hr _ _ (ok0 _ _))
   have hf : ¬ far ≤ B.c := by omega
   obtain ⟨ab, ao, asp⟩ := a
   simp only at e2
   subst e2
   simp [aop, keep, slsl, slKnown, slAddr, hx, evO, optNat, n1, hf, enc1, aadd]
 ·rw [hB.e h0] at hx
  exact q_gto hx hi (hB.g h0) h0 hj fun c' hc' => hr _ _ ⟨fun _ => rfl, fun i hi => hB.i i (Nat.lt_of_lt_of_le hi hj), fun _ => hB.r h0, Nat.le_trans hj hB.l, fun _ => hc'⟩
theorem ns_to {m j : Nat} {h : H} {n r : Nat} {f : Nat → Int} (k : Ns.Ok ⟨n, f, some ⟨r, 0, none⟩, ⟨r, 0, none⟩, n⟩ m h) (hj : j ≤ n) (c : Nat) : Ns.Ok ⟨j, f, some ⟨r, 0, none⟩, ⟨r, 0, none⟩, c⟩ m h :=
 ⟨fun _ => rfl, fun i hi => k.i i (Nat.lt_of_lt_of_le hi hj), fun h0 => k.r (Nat.lt_of_lt_of_le h0 hj), Nat.le_trans hj k.l⟩
theorem q_rowto {lo nid : Nat} {ts : Ts} {h : H} {k : Value → H → Prop} {n r j : Nat} {x hi' : Opd} {k1 : IntKind} (hx : ev ts x = .slice (some ⟨r, 0, none⟩) n n) (hi : ev ts hi' = .int k1 (j : Int)) (hj : j ≤ n) (hn : n ≤ 1000)
 (hr : k (.slice (some ⟨r, 0, none⟩) j n) h) : OpE Tryz.prog lo nid ts h (.slsl 1 x none (some hi') none) k := by
 have n1 : natOf? (ev ts hi') = some j := by rw [hi]; simp [natOf?]
 refine OpE.mk (v := .slice (some ⟨r, 0, none⟩) j n) (h' := h) ?_ hr
 have hf : ¬ far ≤ n := by unfold far; omega
 have hf2 : n < far := by unfold far; omega
 simp [aop, keep, slsl, slKnown, slAddr, hx, evO, optNat, n1, hf, enc1, aadd, hj, hf2]
theorem good_le {f : Nat → Ln} {n j : Nat} (hg : Good n f) (hj : j ≤ n) : Good j f := ⟨by have := hg.1; omega, fun i hi => hg.2 i byO⟩
def clB (f : Nat → Ln) : Nat → Bool
 | 0 => false
 | q + 1 => clB f q || decide ((f q).k = 7)
theorem clB_no {f : Nat → Ln} : ∀ {q : Nat}, clB f q = false → ∀ i, i < q → (f i).k ≠ 7
 | 0, _, i, hi => by omega
 | q + 1, h, i, hi => by
   simp only [clB, Bool.or_eq_false_iff, decide_eq_false_iff_not] at h
   by_cases e : i = q
   ·subst e; exact h.2
   ·exact clB_no h.1 i byO
theorem boolOf {v : Value} {b b' : Bool} (h : v = .bool b) (e : b = b') : v = .bool b' := by rw [h, e]
theorem Ns.Ok.get' {T : Ns} {m m' : Nat} {h h' : H} (k : T.Ok m h) (s : h'.get T.a.block = h.get T.a.block) (hm : T.a.block < m') : T.Ok m' h' :=
 ⟨k.e, fun i hi => by
  have := k.i i hi
  unfold H.loadN at this ⊢
  rw [show (aadd T.a i).block = T.a.block from rfl] at this ⊢
  rw [s]
  exact this, fun _ => hm, k.l⟩
theorem sameState_wn {h : H} {m c c' n : Nat} {st lo : Int} {l : List Mdl} {b b' : Option Addr} (en : n = l.length) (hm : m ≤ h.next) (k : Rd0 m h n (cellsOf mC8 l) b) (k' : Rd0 m h n (cellsOf mC8 l) b') (hl : n ≤ 1000) :
 AW Tryz.prog 20 h.next h [.agg ⟨[.int .i64 st, .int .i64 lo, .slice b n c]⟩, .agg ⟨[.int .i64 st, .int .i64 lo, .slice b' n c']⟩] (fun v _ => v = .bool true) := by
 subst en
 exact sameState_w hm k k' hl
set_option maxHeartbeats 8000000 in
theorem on_w {h : H} {B : Bk} {m : Nat} {mz : Int} (hm : m ≤ h.next) (hB : B.Ok m h) (hz : B.n = 0 → EmptyIn B.b B.c) (hmz : 0 ≤ mz ∧ mz < 256) : AW Tryz.prog 9 h.next h [.slice B.b B.n B.c, .int .u8 mz] (fun v _ => v = .bool true) := by
 refine fun9.call rfl (Nat.le_refl _) ?_
 unfold a9
 (refine byRun ?_)
 apply q_callv
 focus (exact byNext)
 focus (exact byLo)
 focus exact right_w (m := m) byOm (hB.same (m' := m) bySame (Nat.le_refl _))
 intro h1 q1 n1
 by_cases hg : Good B.n B.f
 rotate_left
 ·rw [decide_eq_false hg]
  (refine byRun ?_)
  apply q_callv
  focus (exact byNext)
  focus (exact byLo)
  focus exact works_w
  intro h2 q2 n2
  (refine byRun ?_)
  (refine byFin ?_)
  rfl
 rw [decide_eq_true hg]
 have h60 := hg.1
 (refine byRun ?_)
 apply q_call
 focus (exact byNext)
 focus (exact byLo)
 focus exact Replay_w (m := m) byOm (hB.same (m' := m) bySame (Nat.le_refl _))
 rintro v h2 hv q2 n2
 obtain ⟨re, rfl, ge, re1, re2⟩ := (show ∃ re : Nat, v = .tuple #[.slice (some ⟨re, 0, none⟩) B.n B.n, .int .i64 0] ∧ h2.get re = some (.cells (outC B.f B.n B.n) 25) ∧ _ ≤ re ∧ re < h2.next from hv.elim (fun h => absurd hg h.1) (·.2))
 clear hv
 have Ne := outC_ns (m := h2.next) ge re2 byO
 obtain ⟨j, hj, hjn⟩ : ∃ j : Nat, mz % ((B.n : Int) + 1) = j ∧ j ≤ B.n := ⟨(mz % ((B.n : Int) + 1)).toNat, by
  have := Int.emod_nonneg mz (show (B.n : Int) + 1 ≠ 0 by omega)
  omega, by
  have := Int.emod_lt_of_pos mz (show 0 < (B.n : Int) + 1 by omega)
  have := Int.emod_nonneg mz (show (B.n : Int) + 1 ≠ 0 by omega)
  omega⟩
 have hgj := good_le hg hjn
 have okj := after_ok (f := B.f) (n := j) byO hgj.2
 (refine byRun ?_)
 rw [hj]
 apply q_bkto (B := B) (m := m) (j := j)
 focus exact rfl
 focus exact rfl
 focus rfl
 focus exact hB.same (m' := m) bySame (Nat.le_refl _)
 focus exact hz
 focus exact hjn
 intro b' c' hBj
 have Bj := hBj.same (m' := m) (Same.refl _ _) (Nat.le_refl _)
 (refine byRun ?_)
 apply q_call
 focus (exact byNext)
 focus (exact byLo)
 focus exact Replay_w (B := ⟨j, B.f, b', B.a, c'⟩) (m := m) byOm (hBj.same (m' := m) bySame (Nat.le_refl _))
 rintro v h3 hv q3 n3
 obtain ⟨rj, rfl, gj, rj1, rj2⟩ := (show ∃ rj : Nat, v = .tuple #[.slice (some ⟨rj, 0, none⟩) j j, .int .i64 0] ∧ h3.get rj = some (.cells (outC B.f j j) 25) ∧ _ ≤ rj ∧ rj < h3.next from hv.elim (fun h => absurd hgj h.1) (·.2))
 clear hv
 have Nj := outC_ns (m := h3.next) gj rj2 byO
 (refine byRun ?_)
 apply q_rowto (r := re) (n := B.n) (j := j)
 focus exact rfl
 focus exact rfl
 focus exact hjn
 focus omega
 (refine byRun ?_)
 apply q_callv
 focus (exact byNext)
 focus (exact byLo)
 focus exact errnos_w (B := ⟨j, errAt B.f, some ⟨rj, 0, none⟩, ⟨rj, 0, none⟩, j⟩) (C := ⟨j, errAt B.f, some ⟨re, 0, none⟩, ⟨re, 0, none⟩, B.n⟩) (m := h3.next) byOm (Nj.same (m' := h3.next) bySame (Nat.le_refl _)) ((ns_to Ne hjn _).same (m' := h3.next) bySame byOm)
 intro h4 q4 n4
 rw [decide_eq_true (p := (j = j ∧ SameI j (errAt B.f) (errAt B.f))) ⟨rfl, fun i _ => rfl⟩]
 (refine byRun ?_)
 apply q_bkto (B := B) (m := m) (j := j)
 focus exact rfl
 focus exact rfl
 focus rfl
 focus exact hB.same (m' := m) bySame (Nat.le_refl _)
 focus exact hz
 focus exact hjn
 intro b2 c2 hBj2
 (refine byRun ?_)
 apply q_call
 focus (exact byNext)
 focus (exact byLo)
 focus exact State_w (B := ⟨j, B.f, b2, B.a, c2⟩) (m := m) byOm (hBj2.same (m' := m) bySame (Nat.le_refl _))
 rintro v h5 hv q5 n5
 unfold StaR at hv
 dsimp only at hv
 obtain ⟨rs, rfl, gs, bs1⟩ := (show ∃ rs : Nat, v = .tuple #[.agg ⟨[.int .i64 (after B.f j).stock, .int .i64 (after B.f j).lost, .slice (addrX rs (after B.f j).ms.length) (after B.f j).ms.length 0]⟩, .int .i64 0] ∧ GX rs h5 61 8 (after B.f j).ms.length (cellsOf mC8 (sortM (after B.f j).ms)) ∧ (0 < (after B.f j).ms.length → _ ≤ rs ∧ rs < h5.next) from hv.elim (fun h => absurd hgj h.1) (·.2))
 clear hv
 have hml := okj.ml
 have bs2 : 0 < (after B.f j).ms.length → h4.next + 8 ≤ rs ∧ rs < h5.next := fun h0 => by have := bs1 h0; simp only [put_next, bump_next] at this; omega
 clear bs1
 generalize hS : after B.f j = S at gs bs2 hml okj ⊢
 (refine byRun ?_)
 refine wp_loop (fun q : Nat => [(0, .slice B.b B.n B.c), (5, .slice (some ⟨re, 0, none⟩) B.n B.n), (7, .int .i64 j), (9, .pointer (some ⟨h4.next + 7, 0, none⟩)), (10, .int .i64 0), (11, .bool (clB B.f q)), (12, .int .i64 q)])
  (fun q h6 => Same m h h6 ∧ (∀ r, r < h5.next → r ≠ h4.next + 7 → h6.get r = h5.get r) ∧ h5.next ≤ h6.next ∧ q ≤ j ∧ h6.get (h4.next + 7) = some (.cells [.int .i64 S.stock, .int .i64 S.lost, .slice (addrX rs S.ms.length) S.ms.length 0] 30)) (fun q => j - q) 0 ⟨rfl, rfl, rfl, rfl, rfl, rfl, rfl, trivial⟩ ⟨bySame, fun r h1 h2 => get_of fun y hy => byGet, byOm, by omega, byGet⟩ ?_
 rintro q g h6 ⟨s6, fr, n6, hq, x9⟩ K hK
 by_cases hlt : q < j
 ·have ik := hB.i.same s6 (fun h => by have := hB.r h; omega) q byO
  have le := hB.e
  have l0 : h6.loadN (aadd (aadd B.a (q * 4)) 0) 1 = some [.int .i64 (B.f q).k] := load_part ik rfl
  have lr := hB.r byO
  have hst : clB B.f (q + 1) = (clB B.f q || decide ((B.f q).k = 7)) := rfl
  generalize clB B.f q = cb at hst ⊢
  cases cb with
  | true =>
    (refine byRun ?_)
    exact hK (q + 1) _ _ ⟨rfl, rfl, rfl, rfl, rfl, boolOf rfl (by rw [hst]; rfl), int_of rfl byO, trivial⟩ ⟨bySame, fun r h1 h2 => (get_of fun y hy => byGet).trans (fr r h1 h2), byOm, by omega, byGet⟩ byO
  | false =>
    by_cases c7 : (B.f q).k = 7
    ·rw [decide_eq_true c7] at hst
     (refine byRun ?_)
     exact hK (q + 1) _ _ ⟨rfl, rfl, rfl, rfl, rfl, boolOf rfl (by rw [hst]; rfl), int_of rfl byO, trivial⟩ ⟨bySame, fun r h1 h2 => (get_of fun y hy => byGet).trans (fr r h1 h2), byOm, by omega, byGet⟩ byO
    ·rw [decide_eq_false c7] at hst
     (refine byRun ?_)
     exact hK (q + 1) _ _ ⟨rfl, rfl, rfl, rfl, rfl, boolOf rfl (by rw [hst]; rfl), int_of rfl byO, trivial⟩ ⟨bySame, fun r h1 h2 => (get_of fun y hy => byGet).trans (fr r h1 h2), byOm, by omega, byGet⟩ byO
 obtain rfl : q = j := by omega
 clear hK
 have ieq : 0 < q → h6.loadN (aadd ⟨re, 0, none⟩ ((q - 1) * 1)) 1 = some [.int .i64 (errAt B.f (q - 1))] := fun h0 => by
  have := (Ne.same (m' := h2.next) (h' := h6) (fun r hr => (fr r byO byO).trans byGo) (Nat.le_refl _)).i (q - 1) (by dsimp only; omega)
  rw [Nat.mul_one]; exact this
 by_cases h0 : 0 < q
 rotate_left
 ·skip
  cases hcb : clB B.f q with
  | true =>
    (refine byRun ?_)
    apply q_callv
    focus (exact byNext)
    focus (exact byLo)
    focus exact works_w
    intro hw qw nw
    (refine byRun ?_)
    (refine byFin ?_)
    rfl
  | false =>
    (refine byRun ?_)
    refine wp_loop (fun z : Nat × Nat => [(0, .slice B.b B.n B.c), (5, .slice (some ⟨re, 0, none⟩) B.n B.n), (7, .int .i64 q), (9, .pointer (some ⟨h4.next + 7, 0, none⟩)), (15, .slice (addrX z.2 (goods B.f z.1).length) (goods B.f z.1).length 0), (16, .int .i64 z.1)])
     (fun z ha => Same m h ha ∧ (∀ r, r < h5.next → r ≠ h4.next + 7 → ha.get r = h5.get r) ∧ h6.next ≤ ha.next ∧ z.1 ≤ q ∧ ha.get (h4.next + 7) = some (.cells [.int .i64 S.stock, .int .i64 S.lost, .slice (addrX rs S.ms.length) S.ms.length 0] 30) ∧ GX z.2 ha 38 4 (goods B.f z.1).length (cellsOf Ln.cells (goods B.f z.1)) ∧ (0 < (goods B.f z.1).length → h6.next ≤ z.2 ∧ z.2 < ha.next)) (fun z => q - z.1) (0, 0) ⟨rfl, rfl, rfl, rfl, rfl, rfl, trivial⟩ ⟨bySame, fun r h1 h2 => (get_of fun y hy => byGet).trans (fr r h1 h2), byOm, by simp, byGet, GX.nil, fun h => absurd h (Nat.lt_irrefl 0)⟩ ?_
    rintro ⟨i, r⟩ gA ha ⟨sa, fra, na, hi, x9a, gx, gr⟩ K hK
    dsimp only at hi gx gr ⊢
    have hgl := goods_len B.f i
    by_cases hlt : i < q
    ·exfalso; omega
    obtain rfl : i = q := by omega
    clear hK
    obtain ⟨st1, st2⟩ := goods_rel (f := B.f) (n := i) hgj.2 (clB_no hcb)
    have gg := goods_good (f := B.f) (n := i) hgj.2
    generalize hGG : goods B.f i = G at gx gr hgl st1 st2 gg ⊢
    rw [hS] at st1
    obtain ⟨e1, e2, e3, -⟩ := st1
    have hgG : Good G.length (gF G) := ⟨by omega, gg⟩
    have gx' : GX r ha 38 4 G.length (rowsOf (fun i => (gF G i).cells) G.length) := by
     have := cellsOf_rows Ln.cells G ⟨0, 0, 0, 0⟩
     rw [this] at gx
     exact gx
    obtain ⟨aG, BG⟩ := gx_bk (m := ha.next) gx' byO (fun h0 => (gr h0).2)
    (refine byRun ?_)
    apply q_call
    focus (exact byNext)
    focus (exact byLo)
    focus exact Replay_w (B := ⟨G.length, gF G, addrX r G.length, aG, 0⟩) (m := ha.next) byOm (BG.same (m' := ha.next) bySame (Nat.le_refl _))
    rintro v hb hv qb nb
    obtain ⟨rg, rfl, gg2, rg1, rg2⟩ := (show ∃ rg : Nat, v = .tuple #[.slice (some ⟨rg, 0, none⟩) G.length G.length, .int .i64 0] ∧ hb.get rg = some (.cells (outC (gF G) G.length G.length) 25) ∧ _ ≤ rg ∧ rg < hb.next from hv.elim (fun h => absurd hgG h.1) (·.2))
    clear hv
    have Ng := outC_ns (m := hb.next) gg2 rg2 byO
    have rg3 : ha.next ≤ rg := by (exact byOm)
    have n45 : h4.next + 8 ≤ h5.next := by (exact byOm)
    (refine byRun ?_)
    apply q_call
    focus (exact byNext)
    focus (exact byLo)
    focus exact State_w (B := ⟨G.length, gF G, addrX r G.length, aG, 0⟩) (m := ha.next) byOm (BG.same (m' := ha.next) bySame (Nat.le_refl _))
    rintro v hc hv qc nc
    unfold StaR at hv
    dsimp only at hv
    rw [e1, e2, e3] at hv
    obtain ⟨rt, rfl, gt, bt⟩ := (show ∃ rt : Nat, v = .tuple #[.agg ⟨[.int .i64 S.stock, .int .i64 S.lost, .slice (addrX rt S.ms.length) S.ms.length 0]⟩, .int .i64 0] ∧ GX rt hc 61 8 S.ms.length (cellsOf mC8 (sortM S.ms)) ∧ (0 < S.ms.length → _ ≤ rt ∧ rt < hc.next) from hv.elim (fun h => absurd hgG h.1) (·.2))
    clear hv
    have bt2 : 0 < S.ms.length → hb.next + 6 ≤ rt ∧ rt < hc.next := fun h0 => by have := bt h0; simp only [put_next, bump_next] at this; omega
    clear bt
    (refine byRun ?_)
    refine wp_loop (fun z : Nat => [(9, .pointer (some ⟨h4.next + 7, 0, none⟩)), (17, .slice (some ⟨rg, 0, none⟩) G.length G.length), (19, .pointer (some ⟨hb.next + 5, 0, none⟩)), (21, .int .i64 z)])
     (fun z hd => (∀ r, r < h5.next → r ≠ h4.next + 7 → hd.get r = h5.get r) ∧ (∀ r, hb.next + 6 ≤ r → r < hc.next → hd.get r = hc.get r) ∧ (∀ r, r < hb.next → r ≠ h4.next + 7 → hd.get r = hb.get r) ∧ hc.next ≤ hd.next ∧ z ≤ G.length ∧ hd.get (h4.next + 7) = some (.cells [.int .i64 S.stock, .int .i64 S.lost, .slice (addrX rs S.ms.length) S.ms.length 0] 30) ∧ hd.get (hb.next + 5) = some (.cells [.int .i64 S.stock, .int .i64 S.lost, .slice (addrX rt S.ms.length) S.ms.length 0] 30)) (fun z => G.length - z) 0 ⟨rfl, rfl, rfl, rfl, trivial⟩ ⟨fun r h1 h2 => (get_of fun y hy => byGet).trans (fra r h1 h2), fun r h1 h2 => get_of fun y hy => byGet, fun r h1 h2 => get_of fun y hy => byGet, byOm, by omega, byGet, byGet⟩ ?_
    rintro z gD hd ⟨f1, f2, f3, nd, hz', x9d, x19d⟩ K hK
    by_cases hlt : z < G.length
    ·exfalso; omega
    obtain rfl : z = G.length := by omega
    clear hK
    have gsd := gx_rd (m := hd.next) (gs.frame (h' := hd) fun h0 => f1 rs (by have := bs2 h0; omega) (by have := bs2 h0; omega)) (cM8_one _) (fun h0 => by have := bs2 h0; omega) byO
    have gtd := gx_rd (m := hd.next) (gt.frame (h' := hd) fun h0 => f2 rt (by have := bt2 h0; omega) (by have := bt2 h0; omega)) (cM8_one _) (fun h0 => by have := bt2 h0; omega) byO
    (refine byRun ?_)
    apply q_callv
    focus (exact byNext)
    focus (exact byLo)
    focus exact sameState_wn (l := sortM S.ms) (sortM_len S.ms).symm (m := hd.next) byOm (gsd.rd0.same (m' := hd.next) bySame (Nat.le_refl _)) (gtd.rd0.same (m' := hd.next) bySame (Nat.le_refl _)) byO
    intro he1 qe ne
    (refine byRun ?_)
    apply q_callv
    focus (exact byNext)
    focus (exact byLo)
    focus exact works_w
    intro hf1 qf nf
    (refine byRun ?_)
    (refine byFin ?_)
    rfl
 have ie := ieq h0
 by_cases he0 : errAt B.f (q - 1) = 0
 ·rw [he0] at ie
  cases hcb : clB B.f q with
  | true =>
    (refine byRun ?_)
    apply q_callv
    focus (exact byNext)
    focus (exact byLo)
    focus exact works_w
    intro hw qw nw
    (refine byRun ?_)
    (refine byFin ?_)
    rfl
  | false =>
    (refine byRun ?_)
    refine wp_loop (fun z : Nat × Nat => [(0, .slice B.b B.n B.c), (5, .slice (some ⟨re, 0, none⟩) B.n B.n), (7, .int .i64 q), (9, .pointer (some ⟨h4.next + 7, 0, none⟩)), (15, .slice (addrX z.2 (goods B.f z.1).length) (goods B.f z.1).length 0), (16, .int .i64 z.1)])
     (fun z ha => Same m h ha ∧ (∀ r, r < h5.next → r ≠ h4.next + 7 → ha.get r = h5.get r) ∧ h6.next ≤ ha.next ∧ z.1 ≤ q ∧ ha.get (h4.next + 7) = some (.cells [.int .i64 S.stock, .int .i64 S.lost, .slice (addrX rs S.ms.length) S.ms.length 0] 30) ∧ GX z.2 ha 38 4 (goods B.f z.1).length (cellsOf Ln.cells (goods B.f z.1)) ∧ (0 < (goods B.f z.1).length → h6.next ≤ z.2 ∧ z.2 < ha.next)) (fun z => q - z.1) (0, 0) ⟨rfl, rfl, rfl, rfl, rfl, rfl, trivial⟩ ⟨bySame, fun r h1 h2 => (get_of fun y hy => byGet).trans (fr r h1 h2), byOm, by simp, byGet, GX.nil, fun h => absurd h (Nat.lt_irrefl 0)⟩ ?_
    rintro ⟨i, r⟩ gA ha ⟨sa, fra, na, hi, x9a, gx, gr⟩ K hK
    dsimp only at hi gx gr ⊢
    have hgl := goods_len B.f i
    by_cases hlt : i < q
    ·have ie := (Ne.same (m' := h2.next) (h' := ha) (fun r hr => (fra r byO byO).trans byGo) (Nat.le_refl _)).i i (by dsimp only; omega)
     have ie : ha.loadN (aadd ⟨re, 0, none⟩ (i * 1)) 1 = some [.int .i64 (errAt B.f i)] := by rw [Nat.mul_one]; exact ie
     have ik := hB.i.same sa (fun h => by have := hB.r h; omega) i byO
     unfold Ln.cells at ik
     have le := hB.e
     have lr := hB.r byO
     have hgs : goods B.f (i + 1) = if errAt B.f i = 0 then goods B.f i ++ [B.f i] else goods B.f i := rfl
     by_cases he : errAt B.f i = 0
     ·rw [if_pos he] at hgs
      rw [he] at ie
      (refine byRun ?_)
      apply q_appX (r := r) (n := (goods B.f i).length) (cs := cellsOf Ln.cells (goods B.f i)) (nc := (B.f i).cells)
      case G => exact gx.frame fun h0 => get_of fun y hy => by have := gr h0; (exact byGet)
      case hsv => exact rfl
      case C =>
       apply Cells.one
       focus (apply loadN_cells; (focus (exact byGet)); (focus exact rfl))
       focus (unfold far; omega)
       focus exact rfl
       focus exact rfl
      case hlo => exact fun h0 => by have := gr h0; omega
      case hsm => omega
      intro r' hr0 hr1 g8
      have rb : h6.next ≤ r' ∧ r' < ha.next + 40 := by
       rcases Nat.eq_zero_or_pos (goods B.f i).length with h0 | h0
       ·have := hr0 h0; omega
       ·have := hr1 h0; have := gr h0; omega
      have rn : (goods B.f i).length = 0 → ha.next ≤ r' := fun h0 => by have := hr0 h0; omega
      have rp : 0 < (goods B.f i).length → r' < ha.next := fun h0 => by have := hr1 h0; have := gr h0; omega
      (refine byRun ?_)
      have hl1 : (goods B.f i ++ [B.f i]).length = (goods B.f i).length + 1 := by simp
      refine hK (i + 1, r') _ _ ⟨rfl, rfl, rfl, rfl, by dsimp only; rw [hgs, hl1]; rfl, int_of rfl (by dsimp only; omega), trivial⟩ ⟨bySame, fun r h1 h2 => (get_of fun y hy => byGet).trans (fra r h1 h2), byOm, by dsimp only; omega, byGet, ?_, fun _ => ?_⟩ (by dsimp only; omega)
      ·dsimp only
       rw [hgs, hl1, show cellsOf Ln.cells (goods B.f i ++ [B.f i]) = cellsOf Ln.cells (goods B.f i) ++ (B.f i).cells by simp [cellsOf]]
       exact g8.frame fun _ => get_of fun y hy => by (exact byGet)
      ·dsimp only
       refine ⟨rb.1, ?_⟩
       rcases Nat.eq_zero_or_pos (goods B.f i).length with h0 | h0
       ·have := hr0 h0; (exact byOm)
       ·have := rp h0; (exact byOm)
     ·rw [if_neg he] at hgs
      generalize errAt B.f i = ez at ie he
      (refine byRun ?_)
      refine hK (i + 1, r) _ _ ⟨rfl, rfl, rfl, rfl, by dsimp only; rw [hgs]; rfl, int_of rfl (by dsimp only; omega), trivial⟩ ⟨bySame, fun r h1 h2 => (get_of fun y hy => byGet).trans (fra r h1 h2), byOm, by dsimp only; omega, byGet, ?_, fun h0 => ?_⟩ (by dsimp only; omega)
      ·dsimp only
       rw [hgs]
       exact gx.frame fun h0 => get_of fun y hy => by have := gr h0; (exact byGet)
      ·dsimp only at h0 ⊢
       rw [hgs] at h0
       have := gr h0
       exact ⟨this.1, byOm⟩
    obtain rfl : i = q := by omega
    clear hK
    obtain ⟨st1, st2⟩ := goods_rel (f := B.f) (n := i) hgj.2 (clB_no hcb)
    have gg := goods_good (f := B.f) (n := i) hgj.2
    generalize hGG : goods B.f i = G at gx gr hgl st1 st2 gg ⊢
    rw [hS] at st1
    obtain ⟨e1, e2, e3, -⟩ := st1
    have hgG : Good G.length (gF G) := ⟨by omega, gg⟩
    have gx' : GX r ha 38 4 G.length (rowsOf (fun i => (gF G i).cells) G.length) := by
     have := cellsOf_rows Ln.cells G ⟨0, 0, 0, 0⟩
     rw [this] at gx
     exact gx
    obtain ⟨aG, BG⟩ := gx_bk (m := ha.next) gx' byO (fun h0 => (gr h0).2)
    (refine byRun ?_)
    apply q_call
    focus (exact byNext)
    focus (exact byLo)
    focus exact Replay_w (B := ⟨G.length, gF G, addrX r G.length, aG, 0⟩) (m := ha.next) byOm (BG.same (m' := ha.next) bySame (Nat.le_refl _))
    rintro v hb hv qb nb
    obtain ⟨rg, rfl, gg2, rg1, rg2⟩ := (show ∃ rg : Nat, v = .tuple #[.slice (some ⟨rg, 0, none⟩) G.length G.length, .int .i64 0] ∧ hb.get rg = some (.cells (outC (gF G) G.length G.length) 25) ∧ _ ≤ rg ∧ rg < hb.next from hv.elim (fun h => absurd hgG h.1) (·.2))
    clear hv
    have Ng := outC_ns (m := hb.next) gg2 rg2 byO
    have rg3 : ha.next ≤ rg := by (exact byOm)
    have n45 : h4.next + 8 ≤ h5.next := by (exact byOm)
    (refine byRun ?_)
    apply q_call
    focus (exact byNext)
    focus (exact byLo)
    focus exact State_w (B := ⟨G.length, gF G, addrX r G.length, aG, 0⟩) (m := ha.next) byOm (BG.same (m' := ha.next) bySame (Nat.le_refl _))
    rintro v hc hv qc nc
    unfold StaR at hv
    dsimp only at hv
    rw [e1, e2, e3] at hv
    obtain ⟨rt, rfl, gt, bt⟩ := (show ∃ rt : Nat, v = .tuple #[.agg ⟨[.int .i64 S.stock, .int .i64 S.lost, .slice (addrX rt S.ms.length) S.ms.length 0]⟩, .int .i64 0] ∧ GX rt hc 61 8 S.ms.length (cellsOf mC8 (sortM S.ms)) ∧ (0 < S.ms.length → _ ≤ rt ∧ rt < hc.next) from hv.elim (fun h => absurd hgG h.1) (·.2))
    clear hv
    have bt2 : 0 < S.ms.length → hb.next + 6 ≤ rt ∧ rt < hc.next := fun h0 => by have := bt h0; simp only [put_next, bump_next] at this; omega
    clear bt
    (refine byRun ?_)
    refine wp_loop (fun z : Nat => [(9, .pointer (some ⟨h4.next + 7, 0, none⟩)), (17, .slice (some ⟨rg, 0, none⟩) G.length G.length), (19, .pointer (some ⟨hb.next + 5, 0, none⟩)), (21, .int .i64 z)])
     (fun z hd => (∀ r, r < h5.next → r ≠ h4.next + 7 → hd.get r = h5.get r) ∧ (∀ r, hb.next + 6 ≤ r → r < hc.next → hd.get r = hc.get r) ∧ (∀ r, r < hb.next → r ≠ h4.next + 7 → hd.get r = hb.get r) ∧ hc.next ≤ hd.next ∧ z ≤ G.length ∧ hd.get (h4.next + 7) = some (.cells [.int .i64 S.stock, .int .i64 S.lost, .slice (addrX rs S.ms.length) S.ms.length 0] 30) ∧ hd.get (hb.next + 5) = some (.cells [.int .i64 S.stock, .int .i64 S.lost, .slice (addrX rt S.ms.length) S.ms.length 0] 30)) (fun z => G.length - z) 0 ⟨rfl, rfl, rfl, rfl, trivial⟩ ⟨fun r h1 h2 => (get_of fun y hy => byGet).trans (fra r h1 h2), fun r h1 h2 => get_of fun y hy => byGet, fun r h1 h2 => get_of fun y hy => byGet, byOm, by omega, byGet, byGet⟩ ?_
    rintro z gD hd ⟨f1, f2, f3, nd, hz', x9d, x19d⟩ K hK
    by_cases hlt : z < G.length
    ·have iz := (Ng.get' (m' := hd.next) (h' := hd) (f3 rg rg2 byO) (show rg < hd.next by omega)).i z hlt
     dsimp only at iz
     rw [st2 z hlt] at iz
     have iz : hd.loadN (aadd ⟨rg, 0, none⟩ (z * 1)) 1 = some [.int .i64 0] := by rw [Nat.mul_one]; exact iz
     (refine byRun ?_)
     exact hK (z + 1) _ _ ⟨rfl, rfl, rfl, int_of rfl byO, trivial⟩ ⟨fun r h1 h2 => (get_of fun y hy => byGet).trans (f1 r h1 h2), fun r h1 h2 => (get_of fun y hy => byGet).trans (f2 r h1 h2), fun r h1 h2 => (get_of fun y hy => byGet).trans (f3 r h1 h2), byOm, by omega, byGet, byGet⟩ byO
    obtain rfl : z = G.length := by omega
    clear hK
    have gsd := gx_rd (m := hd.next) (gs.frame (h' := hd) fun h0 => f1 rs (by have := bs2 h0; omega) (by have := bs2 h0; omega)) (cM8_one _) (fun h0 => by have := bs2 h0; omega) byO
    have gtd := gx_rd (m := hd.next) (gt.frame (h' := hd) fun h0 => f2 rt (by have := bt2 h0; omega) (by have := bt2 h0; omega)) (cM8_one _) (fun h0 => by have := bt2 h0; omega) byO
    (refine byRun ?_)
    apply q_callv
    focus (exact byNext)
    focus (exact byLo)
    focus exact sameState_wn (l := sortM S.ms) (sortM_len S.ms).symm (m := hd.next) byOm (gsd.rd0.same (m' := hd.next) bySame (Nat.le_refl _)) (gtd.rd0.same (m' := hd.next) bySame (Nat.le_refl _)) byO
    intro he1 qe ne
    (refine byRun ?_)
    apply q_callv
    focus (exact byNext)
    focus (exact byLo)
    focus exact works_w
    intro hf1 qf nf
    (refine byRun ?_)
    (refine byFin ?_)
    rfl
 ·have hSp : after B.f (q - 1) = S := by
   rw [← hS]
   have := after_refused he0
   rw [show q - 1 + 1 = q by omega] at this
   exact this.symm
  generalize errAt B.f (q - 1) = ez at ie he0
  (refine byRun ?_)
  apply q_bkto (B := B) (m := m) (j := q - 1)
  focus exact rfl
  focus exact rfl
  focus omega
  focus exact hB.same (m' := m) bySame (Nat.le_refl _)
  focus exact hz
  focus omega
  intro b3 c3 hBj3
  (refine byRun ?_)
  apply q_call
  focus (exact byNext)
  focus (exact byLo)
  focus exact State_w (B := ⟨q - 1, B.f, b3, B.a, c3⟩) (m := m) byOm (hBj3.same (m' := m) bySame (Nat.le_refl _))
  rintro v h7 hv q7 n7
  unfold StaR at hv
  dsimp only at hv
  rw [hSp] at hv
  obtain ⟨ru, rfl, gu, bu⟩ := (show ∃ ru : Nat, v = .tuple #[.agg ⟨[.int .i64 S.stock, .int .i64 S.lost, .slice (addrX ru S.ms.length) S.ms.length 0]⟩, .int .i64 0] ∧ GX ru h7 61 8 S.ms.length (cellsOf mC8 (sortM S.ms)) ∧ (0 < S.ms.length → _ ≤ ru ∧ ru < h7.next) from hv.elim (fun h => absurd (good_le hgj (Nat.sub_le q 1)) h.1) (·.2))
  clear hv
  have bu2 : 0 < S.ms.length → h6.next + 24 ≤ ru ∧ ru < h7.next := fun h0 => by have := bu h0; simp only [put_next, bump_next] at this; omega
  clear bu
  have x97 : h7.get (h4.next + 7) = some (.cells [.int .i64 S.stock, .int .i64 S.lost, .slice (addrX rs S.ms.length) S.ms.length 0] 30) := by (exact byGet)
  have gs7 := gs.frame (h' := h7) fun h0 => by have := bs2 h0; exact (get_of fun y hy => byGet).trans (fr rs byO byO)
  (refine byRun ?_)
  apply q_callv
  focus (exact byNext)
  focus (exact byLo)
  focus exact sameState_wn (l := sortM S.ms) (sortM_len S.ms).symm (m := h7.next) byOm (gx_rd (gs7.frame fun h0 => get_of fun y hy => by have := bs2 h0; (exact byGet)) (cM8_one _) (fun h0 => by have := bs2 h0; omega) byO).rd0 (gx_rd (gu.frame fun h0 => get_of fun y hy => by have := bu2 h0; (exact byGet)) (cM8_one _) (fun h0 => (bu2 h0).2) byO).rd0 byO
  intro h8 q8 n8
  have x98 : h8.get (h4.next + 7) = some (.cells [.int .i64 S.stock, .int .i64 S.lost, .slice (addrX rs S.ms.length) S.ms.length 0] 30) := by (exact byGet)
  have fr8 : ∀ r, r < h5.next → r ≠ h4.next + 7 → h8.get r = h5.get r := fun r h1 h2 => (get_of fun y hy => byGet).trans (fr r h1 h2)
  have s8 : Same m h h8 := by (exact bySame)
  have n58 : h5.next ≤ h8.next := by (exact byOm)
  clear fr s6 x9 gs7 x97 gu bu2 hBj3 q7 q8
  have fr := fr8
  cases hcb : clB B.f q with
  | true =>
    (refine byRun ?_)
    apply q_callv
    focus (exact byNext)
    focus (exact byLo)
    focus exact works_w
    intro hw qw nw
    (refine byRun ?_)
    (refine byFin ?_)
    rfl
  | false =>
    (refine byRun ?_)
    refine wp_loop (fun z : Nat × Nat => [(0, .slice B.b B.n B.c), (5, .slice (some ⟨re, 0, none⟩) B.n B.n), (7, .int .i64 q), (9, .pointer (some ⟨h4.next + 7, 0, none⟩)), (15, .slice (addrX z.2 (goods B.f z.1).length) (goods B.f z.1).length 0), (16, .int .i64 z.1)])
     (fun z ha => Same m h ha ∧ (∀ r, r < h5.next → r ≠ h4.next + 7 → ha.get r = h5.get r) ∧ h8.next ≤ ha.next ∧ z.1 ≤ q ∧ ha.get (h4.next + 7) = some (.cells [.int .i64 S.stock, .int .i64 S.lost, .slice (addrX rs S.ms.length) S.ms.length 0] 30) ∧ GX z.2 ha 38 4 (goods B.f z.1).length (cellsOf Ln.cells (goods B.f z.1)) ∧ (0 < (goods B.f z.1).length → h8.next ≤ z.2 ∧ z.2 < ha.next)) (fun z => q - z.1) (0, 0) ⟨rfl, rfl, rfl, rfl, rfl, rfl, trivial⟩ ⟨bySame, fun r h1 h2 => (get_of fun y hy => byGet).trans (fr r h1 h2), byOm, by simp, byGet, GX.nil, fun h => absurd h (Nat.lt_irrefl 0)⟩ ?_
    rintro ⟨i, r⟩ gA ha ⟨sa, fra, na, hi, x9a, gx, gr⟩ K hK
    dsimp only at hi gx gr ⊢
    have hgl := goods_len B.f i
    by_cases hlt : i < q
    ·have ie := (Ne.same (m' := h2.next) (h' := ha) (fun r hr => (fra r byO byO).trans byGo) (Nat.le_refl _)).i i (by dsimp only; omega)
     have ie : ha.loadN (aadd ⟨re, 0, none⟩ (i * 1)) 1 = some [.int .i64 (errAt B.f i)] := by rw [Nat.mul_one]; exact ie
     have ik := hB.i.same sa (fun h => by have := hB.r h; omega) i byO
     unfold Ln.cells at ik
     have le := hB.e
     have lr := hB.r byO
     have hgs : goods B.f (i + 1) = if errAt B.f i = 0 then goods B.f i ++ [B.f i] else goods B.f i := rfl
     by_cases he : errAt B.f i = 0
     ·rw [if_pos he] at hgs
      rw [he] at ie
      (refine byRun ?_)
      apply q_appX (r := r) (n := (goods B.f i).length) (cs := cellsOf Ln.cells (goods B.f i)) (nc := (B.f i).cells)
      case G => exact gx.frame fun h0 => get_of fun y hy => by have := gr h0; (exact byGet)
      case hsv => exact rfl
      case C =>
       apply Cells.one
       focus (apply loadN_cells; (focus (exact byGet)); (focus exact rfl))
       focus (unfold far; omega)
       focus exact rfl
       focus exact rfl
      case hlo => exact fun h0 => by have := gr h0; omega
      case hsm => omega
      intro r' hr0 hr1 g8
      have rb : h8.next ≤ r' ∧ r' < ha.next + 40 := by
       rcases Nat.eq_zero_or_pos (goods B.f i).length with h0 | h0
       ·have := hr0 h0; omega
       ·have := hr1 h0; have := gr h0; omega
      have rn : (goods B.f i).length = 0 → ha.next ≤ r' := fun h0 => by have := hr0 h0; omega
      have rp : 0 < (goods B.f i).length → r' < ha.next := fun h0 => by have := hr1 h0; have := gr h0; omega
      (refine byRun ?_)
      have hl1 : (goods B.f i ++ [B.f i]).length = (goods B.f i).length + 1 := by simp
      refine hK (i + 1, r') _ _ ⟨rfl, rfl, rfl, rfl, by dsimp only; rw [hgs, hl1]; rfl, int_of rfl (by dsimp only; omega), trivial⟩ ⟨bySame, fun r h1 h2 => (get_of fun y hy => byGet).trans (fra r h1 h2), byOm, by dsimp only; omega, byGet, ?_, fun _ => ?_⟩ (by dsimp only; omega)
      ·dsimp only
       rw [hgs, hl1, show cellsOf Ln.cells (goods B.f i ++ [B.f i]) = cellsOf Ln.cells (goods B.f i) ++ (B.f i).cells by simp [cellsOf]]
       exact g8.frame fun _ => get_of fun y hy => by (exact byGet)
      ·dsimp only
       refine ⟨rb.1, ?_⟩
       rcases Nat.eq_zero_or_pos (goods B.f i).length with h0 | h0
       ·have := hr0 h0; (exact byOm)
       ·have := rp h0; (exact byOm)
     ·rw [if_neg he] at hgs
      generalize errAt B.f i = ez at ie he
      (refine byRun ?_)
      refine hK (i + 1, r) _ _ ⟨rfl, rfl, rfl, rfl, by dsimp only; rw [hgs]; rfl, int_of rfl (by dsimp only; omega), trivial⟩ ⟨bySame, fun r h1 h2 => (get_of fun y hy => byGet).trans (fra r h1 h2), byOm, by dsimp only; omega, byGet, ?_, fun h0 => ?_⟩ (by dsimp only; omega)
      ·dsimp only
       rw [hgs]
       exact gx.frame fun h0 => get_of fun y hy => by have := gr h0; (exact byGet)
      ·dsimp only at h0 ⊢
       rw [hgs] at h0
       have := gr h0
       exact ⟨this.1, byOm⟩
    obtain rfl : i = q := by omega
    clear hK
    obtain ⟨st1, st2⟩ := goods_rel (f := B.f) (n := i) hgj.2 (clB_no hcb)
    have gg := goods_good (f := B.f) (n := i) hgj.2
    generalize hGG : goods B.f i = G at gx gr hgl st1 st2 gg ⊢
    rw [hS] at st1
    obtain ⟨e1, e2, e3, -⟩ := st1
    have hgG : Good G.length (gF G) := ⟨by omega, gg⟩
    have gx' : GX r ha 38 4 G.length (rowsOf (fun i => (gF G i).cells) G.length) := by
     have := cellsOf_rows Ln.cells G ⟨0, 0, 0, 0⟩
     rw [this] at gx
     exact gx
    obtain ⟨aG, BG⟩ := gx_bk (m := ha.next) gx' byO (fun h0 => (gr h0).2)
    (refine byRun ?_)
    apply q_call
    focus (exact byNext)
    focus (exact byLo)
    focus exact Replay_w (B := ⟨G.length, gF G, addrX r G.length, aG, 0⟩) (m := ha.next) byOm (BG.same (m' := ha.next) bySame (Nat.le_refl _))
    rintro v hb hv qb nb
    obtain ⟨rg, rfl, gg2, rg1, rg2⟩ := (show ∃ rg : Nat, v = .tuple #[.slice (some ⟨rg, 0, none⟩) G.length G.length, .int .i64 0] ∧ hb.get rg = some (.cells (outC (gF G) G.length G.length) 25) ∧ _ ≤ rg ∧ rg < hb.next from hv.elim (fun h => absurd hgG h.1) (·.2))
    clear hv
    have Ng := outC_ns (m := hb.next) gg2 rg2 byO
    have rg3 : ha.next ≤ rg := by (exact byOm)
    have n45 : h4.next + 8 ≤ h5.next := by (exact byOm)
    (refine byRun ?_)
    apply q_call
    focus (exact byNext)
    focus (exact byLo)
    focus exact State_w (B := ⟨G.length, gF G, addrX r G.length, aG, 0⟩) (m := ha.next) byOm (BG.same (m' := ha.next) bySame (Nat.le_refl _))
    rintro v hc hv qc nc
    unfold StaR at hv
    dsimp only at hv
    rw [e1, e2, e3] at hv
    obtain ⟨rt, rfl, gt, bt⟩ := (show ∃ rt : Nat, v = .tuple #[.agg ⟨[.int .i64 S.stock, .int .i64 S.lost, .slice (addrX rt S.ms.length) S.ms.length 0]⟩, .int .i64 0] ∧ GX rt hc 61 8 S.ms.length (cellsOf mC8 (sortM S.ms)) ∧ (0 < S.ms.length → _ ≤ rt ∧ rt < hc.next) from hv.elim (fun h => absurd hgG h.1) (·.2))
    clear hv
    have bt2 : 0 < S.ms.length → hb.next + 6 ≤ rt ∧ rt < hc.next := fun h0 => by have := bt h0; simp only [put_next, bump_next] at this; omega
    clear bt
    (refine byRun ?_)
    refine wp_loop (fun z : Nat => [(9, .pointer (some ⟨h4.next + 7, 0, none⟩)), (17, .slice (some ⟨rg, 0, none⟩) G.length G.length), (19, .pointer (some ⟨hb.next + 5, 0, none⟩)), (21, .int .i64 z)])
     (fun z hd => (∀ r, r < h5.next → r ≠ h4.next + 7 → hd.get r = h5.get r) ∧ (∀ r, hb.next + 6 ≤ r → r < hc.next → hd.get r = hc.get r) ∧ (∀ r, r < hb.next → r ≠ h4.next + 7 → hd.get r = hb.get r) ∧ hc.next ≤ hd.next ∧ z ≤ G.length ∧ hd.get (h4.next + 7) = some (.cells [.int .i64 S.stock, .int .i64 S.lost, .slice (addrX rs S.ms.length) S.ms.length 0] 30) ∧ hd.get (hb.next + 5) = some (.cells [.int .i64 S.stock, .int .i64 S.lost, .slice (addrX rt S.ms.length) S.ms.length 0] 30)) (fun z => G.length - z) 0 ⟨rfl, rfl, rfl, rfl, trivial⟩ ⟨fun r h1 h2 => (get_of fun y hy => byGet).trans (fra r h1 h2), fun r h1 h2 => get_of fun y hy => byGet, fun r h1 h2 => get_of fun y hy => byGet, byOm, by omega, byGet, byGet⟩ ?_
    rintro z gD hd ⟨f1, f2, f3, nd, hz', x9d, x19d⟩ K hK
    by_cases hlt : z < G.length
    ·have iz := (Ng.get' (m' := hd.next) (h' := hd) (f3 rg rg2 byO) (show rg < hd.next by omega)).i z hlt
     dsimp only at iz
     rw [st2 z hlt] at iz
     have iz : hd.loadN (aadd ⟨rg, 0, none⟩ (z * 1)) 1 = some [.int .i64 0] := by rw [Nat.mul_one]; exact iz
     (refine byRun ?_)
     exact hK (z + 1) _ _ ⟨rfl, rfl, rfl, int_of rfl byO, trivial⟩ ⟨fun r h1 h2 => (get_of fun y hy => byGet).trans (f1 r h1 h2), fun r h1 h2 => (get_of fun y hy => byGet).trans (f2 r h1 h2), fun r h1 h2 => (get_of fun y hy => byGet).trans (f3 r h1 h2), byOm, by omega, byGet, byGet⟩ byO
    obtain rfl : z = G.length := by omega
    clear hK
    have gsd := gx_rd (m := hd.next) (gs.frame (h' := hd) fun h0 => f1 rs (by have := bs2 h0; omega) (by have := bs2 h0; omega)) (cM8_one _) (fun h0 => by have := bs2 h0; omega) byO
    have gtd := gx_rd (m := hd.next) (gt.frame (h' := hd) fun h0 => f2 rt (by have := bt2 h0; omega) (by have := bt2 h0; omega)) (cM8_one _) (fun h0 => by have := bt2 h0; omega) byO
    (refine byRun ?_)
    apply q_callv
    focus (exact byNext)
    focus (exact byLo)
    focus exact sameState_wn (l := sortM S.ms) (sortM_len S.ms).symm (m := hd.next) byOm (gsd.rd0.same (m' := hd.next) bySame (Nat.le_refl _)) (gtd.rd0.same (m' := hd.next) bySame (Nat.le_refl _)) byO
    intro he1 qe ne
    (refine byRun ?_)
    apply q_callv
    focus (exact byNext)
    focus (exact byLo)
    focus exact works_w
    intro hf1 qf nf
    (refine byRun ?_)
    (refine byFin ?_)
    rfl
end AE.Tryz
