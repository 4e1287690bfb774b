/- Walks of fair: what is paid from all states on is found. -/
import Derived.Test.YtndkjpkadfpflaaGreatTopF4
set_option linter.unusedVariables false
set_option linter.unusedSimpArgs false
set_option linter.unusedSectionVars false
namespace AE.Tryz
open Go AE Go.Proofs AE.Fair
set_option maxRecDepth 100000
set_option linter.unusedVariables false

theorem seq_w {h : H} {d i : Nat} : AW Tryz.prog 154 h.next h [.pointer (some ⟨d, 0, none⟩), .int .i64 i] (fun v h' => ∃ rd ri, v = .func (.func 178) ⟨[]⟩ ⟨[.pointer (some ⟨rd, 0, none⟩), .pointer (some ⟨ri, 0, none⟩)]⟩ ∧ h.next ≤ rd ∧ rd < h'.next ∧ h.next ≤ ri ∧ ri < h'.next ∧
    h'.get rd = some (.cells [.pointer (some ⟨d, 0, none⟩)] 87) ∧ h'.get ri = some (.cells [.int .i64 i] 3)) := by
  refine fun154.call rfl (Nat.le_refl _) ?_
  unfold a154
  (focus ((try with_reducible apply wpC.to); (repeat' ((conv => whnf); first | refine byEv ?_ | fail)); all_goals ((conv => whnf); try with_reducible apply At.mk)))
  (refine byFin ?_)
  exact ⟨_, _, rfl, byOm, byOm, byOm, byOm, byGet, byGet⟩

def ix (i a b s : Nat) : Nat := i * 75 + a * 15 + b * 3 + s
def dpS (S : Spots) (i a b s : Nat) : Int := dp S.t S.lo S.w (S.r.n - 1 - i) i a b s
/-- What is paid from the states of all spots behind i on is known. -/
def Behind (S : Spots) (F : Nat → Int) (i : Nat) : Prop := ∀ j a b s, i < j → j < S.r.n → a < S.w (j - 1) → b < S.w j → s < 3 → F (ix j a b s) = dpS S j a b s
/-- And from those of spot i, up to one of them. -/
def UpTo (S : Spots) (F : Nat → Int) (i a b s : Nat) : Prop := ∀ a' b' s', a' < S.w (i - 1) → b' < S.w i → s' < 3 → (a' < a ∨ a' = a ∧ (b' < b ∨ b' = b ∧ s' < s)) → F (ix i a' b' s') = dpS S i a' b' s'
theorem via_dp {S : Spots} {F : Nat → Int} {i a b s : Nat} (fit : S.Fit) (B : Behind S F i) (h1 : 1 ≤ i) (hi : i + 1 < S.r.n) (hb : b < S.w i) (hs : s < 3) : (leastN (via S F i a b s) (S.w (i + 1) - 1)).2 = dpS S i a b s ∧ (leastN (via S F i a b s) (S.w (i + 1) - 1)).1 = pickC S.t S.lo S.w (S.r.n - 2 - i) i a b s := by
  have hw := fit.good.w1 (i + 1) hi
  have e : leastN (via S F i a b s) (S.w (i + 1) - 1) = leastN (fun c => pay S.t s (dif S.lo i a b c) + dp S.t S.lo S.w (S.r.n - 2 - i) (i + 1) b c (sgn s (dif S.lo i a b c))) (S.w (i + 1) - 1) := leastN_congr _ fun c hc => by
    have h3 := sgn_bd (s := (s : Int)) (d := dif S.lo i a b c) (by omega) (by omega)
    have := B (i + 1) b c (sgn s (dif S.lo i a b c)).toNat (by omega) hi (by simpa using hb) (by omega) (by omega)
    unfold ix dpS at this
    unfold via
    rw [this, show S.r.n - 1 - (i + 1) = S.r.n - 2 - i by omega, Int.toNat_of_nonneg h3.1]
  rw [e]
  refine ⟨?_, rfl⟩
  unfold dpS
  rw [show S.r.n - 1 - i = S.r.n - 2 - i + 1 by omega]
  rfl

theorem upd_behind {S : Spots} {F : Nat → Int} {i a b s : Nat} {v : Int} (fit : S.Fit) (h1 : 1 ≤ i) (hi : i < S.r.n) (ha : a < 5) (hb : b < 5) (hs : s < 3) (B : Behind S F i) : Behind S (updN F (ix i a b s) v) i := fun j a' b' s' hj hjn ha' hb' hs' => by
  have w1 := fit.good.w1 (j - 1) (by omega)
  have w2 := fit.good.w1 j hjn
  rw [← B j a' b' s' hj hjn ha' hb' hs']
  unfold updN ix
  rw [if_neg (by omega)]
theorem upd_upTo {S : Spots} {F : Nat → Int} {i a b s : Nat} (fit : S.Fit) (h1 : 1 ≤ i) (hi : i < S.r.n) (ha : a < S.w (i - 1)) (hb : b < S.w i) (hs : s < 3) (U : UpTo S F i a b s) : UpTo S (updN F (ix i a b s) (dpS S i a b s)) i a b (s + 1) := fun a' b' s' ha' hb' hs' hl => by
  have w1 := fit.good.w1 (i - 1) (by omega)
  have w2 := fit.good.w1 i hi
  by_cases e : a' = a ∧ b' = b ∧ s' = s
  · obtain ⟨rfl, rfl, rfl⟩ := e
    unfold updN
    rw [if_pos rfl]
  · rw [← U a' b' s' ha' hb' hs' (by omega)]
    unfold updN ix
    rw [if_neg (by omega)]

theorem Drawn.quiet {h h' : H} {m d l lo : Nat} {S : Spots} {F : Nat → Int} (k : Drawn h m d l S F) (q : Quiet lo h h') (hm : m ≤ lo) (hd : d < lo) (hl : l < lo) : Drawn h' m d l S F :=
  ⟨k.fit, k.sr.same (fun x hx => q.same x (by omega)) (Nat.le_refl _), (q.same _ hd).trans k.gd, (q.same _ hl).trans k.gl, by have := k.dn; have := q.next; omega, by have := k.ln; have := q.next; omega, k.bd⟩
theorem fis_eq {l l' : List Value} (h : l = l') : Is l l' := h ▸ Is.rfl
theorem Drawn.set {h : H} {m d l k : Nat} {v : Int} {S : Spots} {F : Nat → Int} (D : Drawn h m d l S F) (hm : m ≤ l) (hd : d ≠ l) (hv : 0 ≤ v ∧ v ≤ 200000000) : Drawn (h.put l (.cells (iCells (updN F k v) (S.r.n * 75)) 245)) m d l S (updN F k v) :=
  ⟨D.fit, D.sr.same (fun x hx => by simp [H.put]; omega) (Nat.le_refl _), by simp [H.put, hd, D.gd], by simp [H.put], D.dn, D.ln, fun j hj => by
    unfold updN
    split
    · exact hv
    · exact D.bd j hj⟩
theorem Drawn.bump {h : H} {m d l : Nat} {S : Spots} {F : Nat → Int} (k : Drawn h m d l S F) (n : Nat) : Drawn (h.bump n) m d l S F :=
  ⟨k.fit, k.sr.same (fun _ _ => rfl) (Nat.le_refl _), k.gd, k.gl, by have := k.dn; simp [bump_next]; omega, by have := k.ln; simp [bump_next]; omega, k.bd⟩
theorem Drawn.put {h : H} {m d l r : Nat} {row : ARow} {S : Spots} {F : Nat → Int} (k : Drawn h m d l S F) (hm : m ≤ r) (hd : d ≠ r) (hl : l ≠ r) : Drawn (h.put r row) m d l S F :=
  ⟨k.fit, k.sr.same (fun x hx => by simp [H.put]; omega) (Nat.le_refl _), by simp [H.put, hd, k.gd], by simp [H.put, hl, k.gl], k.dn, k.ln, k.bd⟩
/-- Where the walk backwards over the spots is. -/
structure FS where
  i : Int
  r : Nat
set_option maxHeartbeats 2000000 in
theorem fill_w {h : H} {lo m d l : Nat} {S : Spots} (hlo : lo ≤ h.next) (hll : lo ≤ l) (hml : m ≤ l) (hl : l < h.next) (hd : d < h.next) (hdl : d ≠ l) (D : Drawn h m d l S (fun _ => 0)) :
    AW Tryz.prog 98 lo h [.pointer (some ⟨d, 0, none⟩)] (fun _ h' => ∃ F, Drawn h' m d l S F ∧ Behind S F 0 ∧ ∀ r, r < h.next → r ≠ l → h'.get r = h.get r) := by
  have fit := D.fit
  have hr := D.sr
  have hd' := D.gd
  have n1 := fit.good.n1
  have n2 := fit.good.n2
  have hl' := D.gl
  unfold drow at hd'
  refine fun98.call rfl hlo ?_
  unfold a98
  (focus ((try with_reducible apply wpC.to); (repeat' ((conv => whnf); first | refine byEv ?_ | (apply Fork.mk <;> (intro _; try (exfalso; omega))) | refine xTopF20 ?_ | fail)); all_goals ((conv => whnf); try with_reducible apply At.mk)))
  refine wp_loop (fun x : FS => [(1, .pointer (some ⟨h.next, 0, none⟩)), (2, .pointer (some ⟨x.r, 0, none⟩))])
    (fun x h1 => h.next + 1 ≤ h1.next ∧ h.next ≤ x.r ∧ x.r ≠ h.next ∧ x.r < h1.next ∧ x.i ≤ S.r.n - 2 ∧ -1 ≤ x.i ∧ h1.get (h.next) = some (.cells [.pointer (some ⟨d, 0, none⟩)] 87) ∧ h1.get x.r = some (.cells [.int .i64 x.i] 3) ∧
      (∃ F, Drawn h1 m d l S F ∧ Behind S F x.i.toNat) ∧ ∀ r, r < h.next → r ≠ l → h1.get r = h.get r) (fun x => x.i.toNat) ⟨S.r.n - 2, h.next + 8⟩ ⟨rfl, rfl, trivial⟩ ?_ ?_
  · have D' := ((((D.bump 1).put (r := h.next) (row := .cells [.pointer (some ⟨d, 0, none⟩)] 87) (by omega) (by omega) (by omega)).bump 9).put (r := h.next + 8) (row := .cells [.int .i64 0] 3) (by omega) (by omega) (by omega)).put (r := h.next + 8) (row := .cells [.int .i64 (S.r.n - 2)] 3) (by omega) (by omega) (by omega)
    refine ⟨byOm, by dsimp only; omega, by dsimp only; omega, by dsimp only; (exact byOm), by dsimp only; omega, by dsimp only; omega, byGet, by dsimp only; (exact byGet), ⟨_, D', fun j a b s hj hjn ha hb hs => ?_⟩, fun r hr hrl => get_of fun y hy => byGet⟩
    dsimp only at hj
    have e : j = S.r.n - 1 := by omega
    subst e
    unfold dpS
    rw [Nat.sub_self]
    rfl
  rintro ⟨z, r2⟩ g1 h1 ⟨hn1, hr1, hr2, hr3, hz1, hz2, g2, g3, ⟨F, D1, B1⟩, old⟩ K hK
  dsimp only at hr1 hr2 hr3 hz1 hz2 g3 B1
  dsimp only
  by_cases hz : 0 < z
  · obtain ⟨i, rfl⟩ : ∃ i : Nat, z = i := ⟨z.toNat, by omega⟩
    have di := D1.gd
    have hi : 1 ≤ i ∧ i + 1 < S.r.n := by omega
    rw [Int.toNat_natCast] at B1
    (focus ((try with_reducible apply wpC.to); (repeat' ((conv => whnf); first | refine byEv ?_ | (apply Fork.mk <;> (intro _; try (exfalso; omega))) | refine xTopF20 ?_ | fail)); all_goals ((conv => whnf); try with_reducible apply At.mk)))
    apply q_call
    focus (exact byNext)
    focus (exact byLo)
    focus exact seq_w
    rintro _ h2 ⟨rd, ri, rfl, e1, e2, e3, e4, e5, e6⟩ q2 hn2
    have hn2' : h1.next + 5 ≤ h2.next := by (exact byOm)
    have e1' : h1.next ≤ rd := by (exact byOm)
    have e3' : h1.next ≤ ri := by (exact byOm)
    have hm1 : m ≤ h1.next := by omega
    have D2 : Drawn h2 m d l S F := (D1.bump 5).quiet q2 byOm byOm byOm
    have g2' : h2.get h.next = some (.cells [.pointer (some ⟨d, 0, none⟩)] 87) := (q2.same _ byOm).trans byGet
    have g3' : h2.get r2 = some (.cells [.int .i64 i] 3) := (q2.same _ byOm).trans byGet
    have old' : ∀ r, r < h.next → r ≠ l → h2.get r = h.get r := fun r hr hrl => (q2.same _ byOm).trans ((get_of fun y hy => byGet).trans (old r hr hrl))
    clear g2 g3 old di D1
    (focus ((try with_reducible apply wpC.to); (repeat' ((conv => whnf); first | refine byEv ?_ | (apply Fork.mk <;> (intro _; try (exfalso; omega))) | refine xTopF20 ?_ | fail)); all_goals ((conv => whnf); try with_reducible apply At.mk)))
    refine wp_forget (l := [(1, .pointer (some ⟨h.next, 0, none⟩)), (2, .pointer (some ⟨r2, 0, none⟩)), (19, .func (.func 178) ⟨[]⟩ ⟨[.pointer (some ⟨rd, 0, none⟩), .pointer (some ⟨ri, 0, none⟩)]⟩)]) ⟨rfl, rfl, rfl, trivial⟩ fun g' => ?_
    apply wp_range
    focus exact rfl
    focus (exact byNext)
    focus (exact byList)
    intro L0 hL0
    refine ⟨_, states_w (l := l) (d := d) (m := m) (rd := rd) (ri := ri) (S := S) (i := i) byOm fit hi.1 (by omega) byOm byOm byOm byOm
      (fun a b s h3 => (∃ F, Drawn h3 m d l S F ∧ Behind S F i ∧ UpTo S F i a b s) ∧ h3.get rd = some (.cells [.pointer (some ⟨d, 0, none⟩)] 87) ∧ h3.get ri = some (.cells [.int .i64 i] 3) ∧ h3.get h.next = some (.cells [.pointer (some ⟨d, 0, none⟩)] 87) ∧ h3.get r2 = some (.cells [.int .i64 i] 3) ∧
        h3.get h2.next = some (.loop L0) ∧ h2.next < h3.next ∧ ∀ r, r < h.next → r ≠ l → h3.get r = h.get r) ?_ ?_ ?_ ?_ ?_ ?_, ?_⟩
    · rintro a b s h3 ⟨⟨F, D3, -, -⟩, k1, k2, -⟩
      exact ⟨D3.sr, D3.gd, k1, k2⟩
    · rintro a b s h3 h4 ⟨⟨F, D3, B3, U3⟩, k1, k2, k3, k4, k5, k6, k7⟩ q
      have := q.next
      exact ⟨⟨F, D3.quiet q (by omega) D3.dn D3.ln, B3, U3⟩, (q.same _ (by omega)).trans k1, (q.same _ (by omega)).trans k2, (q.same _ (by omega)).trans k3, (q.same _ (by omega)).trans k4, (q.same _ (by omega)).trans k5, by omega, fun r hr hrl => (q.same _ (by omega)).trans (k7 r hr hrl)⟩
    · rintro a b h3 ⟨⟨F, D3, B3, U3⟩, k⟩
      exact ⟨⟨F, D3, B3, fun a' b' s' ha' hb' hs' hl' => U3 a' b' s' ha' hb' hs' (by omega)⟩, k⟩
    · rintro a h3 ⟨⟨F, D3, B3, U3⟩, k⟩
      exact ⟨⟨F, D3, B3, fun a' b' s' ha' hb' hs' hl' => U3 a' b' s' ha' hb' hs' (by omega)⟩, k⟩
    · rintro a b s h3 ha hb hs ⟨⟨F, D3, B3, U3⟩, k1, k2, k3, k4, k5, k6, k7⟩ hle
      have w1 := fit.good.w1 (i - 1) (by omega)
      have w2 := fit.good.w1 i (by omega)
      refine YA.call fun98.mixed (A := a98A0) (B := a98B0) (L := L0) (by rw [hL0]; exact c98A0) (by rw [hL0]; exact c98B0) k5 (by omega) (by omega) (by rw [hL0]; exact rfl) (by rw [hL0]; exact rfl) ?_
      unfold YA a98A0
      refine wp_forget (l := [(1, .pointer (some ⟨h.next, 0, none⟩)), (2, .pointer (some ⟨r2, 0, none⟩)), (20, .agg ⟨stC i a b s⟩)]) ⟨by rw [hL0]; exact rfl, by rw [hL0]; exact rfl, by rw [hL0]; exact rfl, trivial⟩ fun g'' => ?_
      unfold stC
      (focus ((try with_reducible apply wpC.to); (repeat' ((conv => whnf); first | refine byEv ?_ | (apply Fork.mk <;> (intro _; try (exfalso; omega))) | refine xTopF20 ?_ | fail)); all_goals ((conv => whnf); try with_reducible apply At.mk)))
      refine ⟨rfl, L0, byGet, by rw [hL0]; exact rfl, ?_⟩
      unfold a98B0
      have hL1 : ended (busy L0) .none = L0 := by rw [hL0]; exact rfl
      (focus ((try with_reducible apply wpC.to); (repeat' ((conv => whnf); first | refine byEv ?_ | (apply Fork.mk <;> (intro _; try (exfalso; omega))) | refine xTopF20 ?_ | fail)); all_goals ((conv => whnf); try with_reducible apply At.mk)))
      have D4 := ((((D3.bump 2).put (r := h3.next) (row := .cells [.int .i64 0, .int .i64 0, .int .i64 0, .int .i64 0] 165) (by omega) (by omega) (by omega)).put (r := h3.next) (row := .cells (stC i a b s) 165) (by omega) (by omega) (by omega)).put (r := h2.next) (row := .loop (busy L0)) (by omega) (by omega) (by omega)).bump 8
      have vd := via_dp (a := a) fit B3 hi.1 hi.2 hb hs
      apply q_call
      focus (exact byNext)
      focus (exact byLo)
      focus exact go1_w (m := m) byOm D4 hi.1 hi.2 (by omega) (by omega) (by omega) (by omega)
      intro v h5 hv q5 hn5
      rw [vd.1] at hv
      subst hv
      have D5 : Drawn h5 m d l S F := D4.quiet q5 byOm byOm byOm
      have hn5' : h3.next + 10 ≤ h5.next := by (exact byOm)
      have p0 : h5.get h3.next = some (.cells (stC i a b s) 165) := (q5.same _ byOm).trans (by unfold stC; (exact byGet))
      have p1 : h5.get rd = some (.cells [.pointer (some ⟨d, 0, none⟩)] 87) := (q5.same _ byOm).trans byGet
      have p2 : h5.get ri = some (.cells [.int .i64 i] 3) := (q5.same _ byOm).trans byGet
      have p3 : h5.get h.next = some (.cells [.pointer (some ⟨d, 0, none⟩)] 87) := (q5.same _ byOm).trans byGet
      have p4 : h5.get r2 = some (.cells [.int .i64 i] 3) := (q5.same _ byOm).trans byGet
      have p5 : h5.get h2.next = some (.loop (busy L0)) := (q5.same _ byOm).trans byGet
      have p7 : ∀ r, r < h.next → r ≠ l → h5.get r = h.get r := fun r hr hrl => (q5.same _ byOm).trans ((get_of fun y hy => byGet).trans (k7 r hr hrl))
      have gd5 := D5.gd
      have gl5 := D5.gl
      unfold drow at gd5
      unfold stC at p0
      have hlt : ix i a b s < S.r.n * 75 := by unfold ix; omega
      have hbd := fit.good.dp_bd (S.r.n - 1 - i) i a b s hi.1 (by omega) ha hb
      clear D4 D3 k1 k2 k3 k4 k5 k7
      (focus ((try with_reducible apply wpC.to); (repeat' ((conv => whnf); first | refine byEv ?_ | (apply Fork.mk <;> (intro _; try (exfalso; omega))) | refine xTopF20 ?_ | fail)); all_goals ((conv => whnf); try with_reducible apply At.mk)))
      refine Sto.mk (r := l) (off := 0 + i * 75 + a * 15 + b * 3 + s * 1) (c' := iCells (updN F (ix i a b s) (dpS S i a b s)) (S.r.n * 75)) rfl hll gl5 rfl rfl (Nat.ble_eq_true_of_le (by rw [iCells_len]; unfold ix at hlt; omega)) (fis_eq (iCells_set F _ hlt (by unfold ix; omega))) ?_
      (focus ((try with_reducible apply wpC.to); (repeat' ((conv => whnf); first | refine byEv ?_ | (apply Fork.mk <;> (intro _; try (exfalso; omega))) | refine xTopF20 ?_ | fail)); all_goals ((conv => whnf); try with_reducible apply At.mk)))
      refine ⟨.none, _, rfl, byGet, rfl, ?_⟩
      rw [hL1]
      have D6 := ((D5.bump 18).set (k := ix i a b s) (v := dpS S i a b s) hml hdl (by unfold dpS; omega)).put (r := h2.next) (row := .loop L0) (by omega) (by omega) (by omega)
      exact ⟨⟨_, D6, upd_behind fit hi.1 (by omega) (by omega) (by omega) hs B3, upd_upTo fit hi.1 (by omega) ha hb hs U3⟩, byGet, byGet, byGet, byGet, byGet, byOm, fun r hr hrl => (get_of fun y hy => byGet).trans (p7 r hr hrl)⟩
    · have D2' := (D2.bump 1).put (r := h2.next) (row := .loop L0) (by omega) (by omega) (by omega)
      exact ⟨⟨F, D2', B1, fun a' b' s' _ _ _ hl' => by omega⟩, byGet, byGet, byGet, byGet, byGet, byOm, fun r hr hrl => (get_of fun y hy => byGet).trans (old' r hr hrl)⟩
    · rintro v h4 ⟨⟨F4, D4, B4, U4⟩, k1, k2, k3, k4, k5, k6, k7⟩ q4
      refine ⟨_, k5, by rw [hL0]; simp [loop0], ?_⟩
      rw [hL0]
      simp only [loop0, pendE]
      (focus ((try with_reducible apply wpC.to); (repeat' ((conv => whnf); first | refine byEv ?_ | (apply Fork.mk <;> (intro _; try (exfalso; omega))) | refine xTopF20 ?_ | fail)); all_goals ((conv => whnf); try with_reducible apply At.mk)))
      have D5 := (((((D4.put (r := h2.next) (row := .gone) (by omega) (by omega) (by omega)).bump 1).bump 2).put (r := h4.next + 1) (row := .cells [.int .i64 0] 3) (by omega) (by omega) (by omega)).put (r := h4.next + 1) (row := .cells [.int .i64 i] 3) (by omega) (by omega) (by omega)).bump 3
      have D6 := D5.put (r := h4.next + 1) (row := .cells [.int .i64 (i - 1)] 3) (by omega) (by omega) (by omega)
      refine hK ⟨(i : Int) - 1, h4.next + 1⟩ _ _ ⟨rfl, rfl, trivial⟩ ⟨byOm, by dsimp only; omega, by dsimp only; omega, by dsimp only; (exact byOm), by dsimp only; omega, by dsimp only; omega, byGet, by dsimp only; (exact byGet), ⟨F4, D6, fun j a b s hj hjn ha hb hs => ?_⟩, fun r hr hrl => (get_of fun y hy => byGet).trans (k7 r hr hrl)⟩ (by dsimp only; omega)
      dsimp only at hj
      rcases Nat.lt_or_ge i j with hij | hij
      · exact B4 j a b s hij hjn ha hb hs
      · obtain rfl : j = i := by omega
        exact U4 a b s ha hb hs (by omega)
  · (focus ((try with_reducible apply wpC.to); (repeat' ((conv => whnf); first | refine byEv ?_ | (apply Fork.mk <;> (intro _; try (exfalso; omega))) | refine xTopF20 ?_ | fail)); all_goals ((conv => whnf); try with_reducible apply At.mk)))
    (refine byFin ?_)
    refine ⟨F, D1.bump 2, fun j a b s hj hjn ha hb hs => B1 j a b s (by omega) hjn ha hb hs, fun r hr hrl => old r hr hrl⟩
end AE.Tryz
