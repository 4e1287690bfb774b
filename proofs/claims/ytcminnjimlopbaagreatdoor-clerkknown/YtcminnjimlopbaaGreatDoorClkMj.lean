/- Clerk, walked: replay. -/
import Derived.Test.YtcminnjimlopbaaGreatDoorClkMi
import Derived.Test.YtcminnjimlopbaaGreatDoorAEthree
set_option linter.unusedVariables false
set_option linter.unusedSimpArgs false
set_option linter.unusedSectionVars false
namespace AE.Tryz
open Go AE Go.Proofs AE.Clerk
set_option maxRecDepth 100000
set_option linter.unusedVariables false

def outC (f : Nat → Ln) (n q : Nat) : List Value := (List.range n).map fun i => .int .i64 (if i < q then errAt f i else 0)
theorem outC_zero (f : Nat → Ln) (n : Nat) : reps [.int .i64 0] n = outC f n 0 := by
  have : ∀ n, reps [Value.int .i64 0] n = List.replicate n (.int .i64 0) := fun n => by
    induction n with
    | zero => rfl
    | succ n ih => simp [reps, ih, List.replicate_succ]
  rw [this]
  unfold outC
  apply List.ext_getElem
  · simp
  · intro i h1 h2
    simp
theorem outC_len (f : Nat → Ln) (n q : Nat) : (outC f n q).length = n := by simp [outC]
theorem outC_set (f : Nat → Ln) {n q : Nat} (h : q < n) : splice (outC f n q) (q * 1) [.int .i64 (errAt f q)] = outC f n (q + 1) := by
  unfold splice
  apply List.ext_getElem?
  intro i
  unfold outC
  rw [Nat.mul_one]
  rw [List.getElem?_append, List.getElem?_append]
  simp only [List.length_take, List.length_append, List.length_map, List.length_range, List.length_cons, List.length_nil]
  by_cases h1 : i < q
  · rw [if_pos (by omega), if_pos (by omega), List.getElem?_take, if_pos h1]
    simp only [List.getElem?_map]
    rw [List.getElem?_range (by omega)]
    simp only [Option.map_some]
    rw [if_pos h1, if_pos (by omega)]
  · by_cases h2 : i = q
    · subst h2
      rw [if_pos (by omega), if_neg (by omega), show i - min i n = 0 by omega]
      simp only [List.getElem?_cons_zero, List.getElem?_map]
      rw [List.getElem?_range (by omega)]
      simp
    · rw [if_neg (by omega), List.getElem?_drop]
      simp only [List.getElem?_map]
      rw [show q + 1 + (i - (min q n + (0 + 1))) = i by omega]
      by_cases h3 : i < n
      · rw [List.getElem?_range h3]
        simp only [Option.map_some]
        rw [if_neg (by omega), if_neg (by omega)]
      · rw [List.getElem?_eq_none (by simp; omega)]
        rfl
theorem outC_same (f : Nat → Ln) {n q : Nat} (h : errAt f q = 0) : outC f n q = outC f n (q + 1) := by
  unfold outC
  refine List.map_congr_left fun i hi => ?_
  by_cases h1 : i < q
  · rw [if_pos h1, if_pos (by omega)]
  · by_cases h2 : i = q
    · subst h2; rw [if_neg h1, if_pos (by omega), h]
    · rw [if_neg h1, if_neg (by omega)]
def RepR (h : H) (n : Nat) (f : Nat → Ln) (v : Value) (h' : H) : Prop :=
  (¬ Good n f ∧ v = .tuple #[.pointer none, .slice none 0 0, .int .i64 (bookErr n f)]) ∨
  (Good n f ∧ ∃ (L : LP) (ps : Nat → Nat) (r : Nat), v = .tuple #[ptrV L.g, .slice (some ⟨r, 0, none⟩) n n, .int .i64 0] ∧ Lg L h' ps (after f n) ∧ h.next ≤ L.g1 ∧ h'.get r = some (.cells (outC f n n) 25) ∧ h.next ≤ r ∧ r < h'.next)
theorem is_eq {a b : List Value} (h : a = b) : Is a b := by subst h; exact Is.rfl
theorem Lg.fr {L : LP} {h h' : H} {ps : Nat → Nat} {s : St} (k : Lg L h ps s) (hs : ∀ q, q < h.next → (L.g1 ≤ q ∧ q ≤ L.g) ∨ L.B ≤ q → h'.get q = h.get q) (hn : h.next ≤ h'.next) : Lg L h' ps s := by
  have o := k.ord
  exact ⟨(hs _ (by omega) (by omega)).trans k.g, (hs _ (by omega) (by omega)).trans k.m, (hs _ (by omega) (by omega)).trans k.c, (hs _ (by omega) (by omega)).trans k.o, fun i m hi => by
    have := k.pb i (List.getElem?_eq_some_iff.1 hi).1
    exact (hs _ this.2 (.inr this.1)).trans (k.p i m hi), fun i hi => by have := k.pb i hi; omega, k.pn, by omega⟩
theorem q_tiface {P : Program} {lo nid : Nat} {ts : Ts} {h : H} {k : Value → H → Prop} {t : TypeId} {x : Opd} {v : Value} (hx : ev ts x = v) (hw : xTiface P t v = some v) (hk : k v h) : OpE P lo nid ts h (.tiface t x) k :=
  OpE.mk (v := v) (by simp only [aop, keep, hx, hw, Option.map_some]) hk
theorem ti173 (v : Value) : xTiface Tryz.prog 128 (.iface 173 v) = some (.iface 173 v) := by kernel_rfl
theorem ti171 (v : Value) : xTiface Tryz.prog 128 (.iface 171 v) = some (.iface 171 v) := by kernel_rfl
theorem why_late_w {h : H} {e : Int} : AW Tryz.prog 176 h.next h [.agg ⟨[.int .i64 e]⟩] (fun v _ => v = .int .i64 e) := by
  refine fun176.call rfl (Nat.le_refl _) ?_
  unfold a176
  (refine byRun ?_)
  (refine byFin ?_)
  rfl
theorem why_short_w {h : H} {e : Int} : AW Tryz.prog 177 h.next h [.agg ⟨[.int .i64 e]⟩] (fun v _ => v = .int .i64 10) := by
  refine fun177.call rfl (Nat.le_refl _) ?_
  unfold a177
  (refine byRun ?_)
  (refine byFin ?_)
  rfl
theorem q_meth {lo nb : Nat} {h : H} {k : Value → H → Prop} {fv : Value} {t : TypeId} {g : FuncId} {v : Value} {R : Value → H → Prop} (ef : fv = .func (.method "tumblehome/clerk.why") ⟨[.iface t v]⟩ ⟨[]⟩) (en : h.next = nb) (hlo : lo ≤ nb) (hm : methG Tryz.prog t "tumblehome/clerk.why" = some g) (hc : AW Tryz.prog g h.next h [v] R)
    (hr : ∀ v h', R v h' → Quiet nb h h' → nb ≤ h'.next → k v h') : CallV Tryz.prog fv lo false h [] k := by
  subst ef
  subst en
  obtain ⟨r, h', hr0, a⟩ := hc
  have hq := a.quiet
  exact .mk (AF.method hm (a.mono hlo)) (hr r h' hr0 hq hq.next)
theorem replay_w {h : H} {B : Bk} {m : Nat} (hm : m ≤ h.next) (hB : B.Ok m h) : AW Tryz.prog 40 h.next h [.slice B.b B.n B.c] (fun v h' => RepR h B.n B.f v h') := by
  have l1 := hB.l
  refine fun40.call rfl (Nat.le_refl _) ?_
  unfold a40
  (focus ((try with_reducible apply wpC.to); (repeat' ((conv => whnf); first | refine byEv ?_ | (apply Fork.mk <;> (intro _; try (exfalso; omega))) | refine xClkG0 ?_ | ((apply q_cmpk); (focus exact rfl); (focus exact rfl); (focus exact rfl); (focus exact rfl); (all_goals (intro hb; first | (replace hb := of_decide_eq_true hb) | (replace hb := of_decide_eq_false hb))); (all_goals (try (exfalso; omega; done))); (all_goals (revert hb; intros))) | refine xAEStrN3 ?_ | ((apply q_streq); (focus exact rfl); (focus exact rfl); (focus exact rfl); (focus exact rfl); (all_goals (intro hb; first | (replace hb := of_decide_eq_true hb) | (replace hb := of_decide_eq_false hb))); (all_goals (try contradiction)); (all_goals (revert hb; intros))) | refine xAEStrN1 ?_ | refine xAEStrN0 ?_ | fail)); all_goals ((conv => whnf); try with_reducible apply At.mk)))
  apply q_callv
  focus (exact byNext)
  focus (exact byLo)
  focus exact checkBook_w (m := m) byOm (hB.same (m' := m) bySame (Nat.le_refl _))
  intro h2 q2 n2
  by_cases hg : Good B.n B.f
  rotate_left
  · have hne : bookErr B.n B.f ≠ 0 := fun h => hg (bookErr_ok.1 h)
    generalize he : bookErr B.n B.f = e at hne
    (focus ((try with_reducible apply wpC.to); (repeat' ((conv => whnf); first | refine byEv ?_ | (apply Fork.mk <;> (intro _; try (exfalso; omega))) | refine xClkG0 ?_ | ((apply q_cmpk); (focus exact rfl); (focus exact rfl); (focus exact rfl); (focus exact rfl); (all_goals (intro hb; first | (replace hb := of_decide_eq_true hb) | (replace hb := of_decide_eq_false hb))); (all_goals (try (exfalso; omega; done))); (all_goals (revert hb; intros))) | refine xAEStrN3 ?_ | ((apply q_streq); (focus exact rfl); (focus exact rfl); (focus exact rfl); (focus exact rfl); (all_goals (intro hb; first | (replace hb := of_decide_eq_true hb) | (replace hb := of_decide_eq_false hb))); (all_goals (try contradiction)); (all_goals (revert hb; intros))) | refine xAEStrN1 ?_ | refine xAEStrN0 ?_ | fail)); all_goals ((conv => whnf); try with_reducible apply At.mk)))
    (refine byFin ?_)
    exact .inl ⟨hg, by rw [he]⟩
  rw [bookErr_ok.2 hg]
  have n60 := hg.1
  have sm2 : Same m h h2 := by (exact bySame)
  have b2 := hB.same sm2 (Nat.le_refl _)
  have om : m ≤ h2.next := by (exact byOm)
  (focus ((try with_reducible apply wpC.to); (repeat' ((conv => whnf); first | refine byEv ?_ | (apply Fork.mk <;> (intro _; try (exfalso; omega))) | refine xClkG0 ?_ | ((apply q_cmpk); (focus exact rfl); (focus exact rfl); (focus exact rfl); (focus exact rfl); (all_goals (intro hb; first | (replace hb := of_decide_eq_true hb) | (replace hb := of_decide_eq_false hb))); (all_goals (try (exfalso; omega; done))); (all_goals (revert hb; intros))) | refine xAEStrN3 ?_ | ((apply q_streq); (focus exact rfl); (focus exact rfl); (focus exact rfl); (focus exact rfl); (all_goals (intro hb; first | (replace hb := of_decide_eq_true hb) | (replace hb := of_decide_eq_false hb))); (all_goals (try contradiction)); (all_goals (revert hb; intros))) | refine xAEStrN1 ?_ | refine xAEStrN0 ?_ | fail)); all_goals ((conv => whnf); try with_reducible apply At.mk)))
  apply OpE.mk rfl
  (focus ((try with_reducible apply wpC.to); (repeat' ((conv => whnf); first | refine byEv ?_ | (apply Fork.mk <;> (intro _; try (exfalso; omega))) | refine xClkG0 ?_ | ((apply q_cmpk); (focus exact rfl); (focus exact rfl); (focus exact rfl); (focus exact rfl); (all_goals (intro hb; first | (replace hb := of_decide_eq_true hb) | (replace hb := of_decide_eq_false hb))); (all_goals (try (exfalso; omega; done))); (all_goals (revert hb; intros))) | refine xAEStrN3 ?_ | ((apply q_streq); (focus exact rfl); (focus exact rfl); (focus exact rfl); (focus exact rfl); (all_goals (intro hb; first | (replace hb := of_decide_eq_true hb) | (replace hb := of_decide_eq_false hb))); (all_goals (try contradiction)); (all_goals (revert hb; intros))) | refine xAEStrN1 ?_ | refine xAEStrN0 ?_ | fail)); all_goals ((conv => whnf); try with_reducible apply At.mk)))
  apply OpE.mk rfl
  (focus ((try with_reducible apply wpC.to); (repeat' ((conv => whnf); first | refine byEv ?_ | (apply Fork.mk <;> (intro _; try (exfalso; omega))) | refine xClkG0 ?_ | ((apply q_cmpk); (focus exact rfl); (focus exact rfl); (focus exact rfl); (focus exact rfl); (all_goals (intro hb; first | (replace hb := of_decide_eq_true hb) | (replace hb := of_decide_eq_false hb))); (all_goals (try (exfalso; omega; done))); (all_goals (revert hb; intros))) | refine xAEStrN3 ?_ | ((apply q_streq); (focus exact rfl); (focus exact rfl); (focus exact rfl); (focus exact rfl); (all_goals (intro hb; first | (replace hb := of_decide_eq_true hb) | (replace hb := of_decide_eq_false hb))); (all_goals (try contradiction)); (all_goals (revert hb; intros))) | refine xAEStrN1 ?_ | refine xAEStrN0 ?_ | fail)); all_goals ((conv => whnf); try with_reducible apply At.mk)))
  apply OpE.mk rfl
  (focus ((try with_reducible apply wpC.to); (repeat' ((conv => whnf); first | refine byEv ?_ | (apply Fork.mk <;> (intro _; try (exfalso; omega))) | refine xClkG0 ?_ | ((apply q_cmpk); (focus exact rfl); (focus exact rfl); (focus exact rfl); (focus exact rfl); (all_goals (intro hb; first | (replace hb := of_decide_eq_true hb) | (replace hb := of_decide_eq_false hb))); (all_goals (try (exfalso; omega; done))); (all_goals (revert hb; intros))) | refine xAEStrN3 ?_ | ((apply q_streq); (focus exact rfl); (focus exact rfl); (focus exact rfl); (focus exact rfl); (all_goals (intro hb; first | (replace hb := of_decide_eq_true hb) | (replace hb := of_decide_eq_false hb))); (all_goals (try contradiction)); (all_goals (revert hb; intros))) | refine xAEStrN1 ?_ | refine xAEStrN0 ?_ | fail)); all_goals ((conv => whnf); try with_reducible apply At.mk)))
  apply q_mkslice (a := B.n) (b := B.n)
  case hl => exact rfl
  case hc => exact rfl
  case hle => exact Nat.le_refl _
  case hsm => omega
  rw [outC_zero B.f]
  (focus ((try with_reducible apply wpC.to); (repeat' ((conv => whnf); first | refine byEv ?_ | (apply Fork.mk <;> (intro _; try (exfalso; omega))) | refine xClkG0 ?_ | ((apply q_cmpk); (focus exact rfl); (focus exact rfl); (focus exact rfl); (focus exact rfl); (all_goals (intro hb; first | (replace hb := of_decide_eq_true hb) | (replace hb := of_decide_eq_false hb))); (all_goals (try (exfalso; omega; done))); (all_goals (revert hb; intros))) | refine xAEStrN3 ?_ | ((apply q_streq); (focus exact rfl); (focus exact rfl); (focus exact rfl); (focus exact rfl); (all_goals (intro hb; first | (replace hb := of_decide_eq_true hb) | (replace hb := of_decide_eq_false hb))); (all_goals (try contradiction)); (all_goals (revert hb; intros))) | refine xAEStrN1 ?_ | refine xAEStrN0 ?_ | fail)); all_goals ((conv => whnf); try with_reducible apply At.mk)))
  obtain ⟨L, hL⟩ : ∃ L : LP, L = ⟨h2.next + 2, h2.next + 3, h2.next + 4, h2.next + 6, h2.next + 12⟩ := ⟨_, rfl⟩
  have eL1 : L.g1 = h2.next + 2 := by rw [hL]
  have eL4 : L.g = h2.next + 6 := by rw [hL]
  have eLB : L.B = h2.next + 12 := by rw [hL]
  refine wp_loop (fun q : Nat => [(6, ptrV L.g), (7, .slice (some ⟨h2.next + 10, 0, none⟩) B.n B.n), (26, .slice B.b B.n B.c), (27, .int .i64 B.n), (28, .int .i64 q)]) (fun q h1 => (∃ ps, Lg L h1 ps (after B.f q)) ∧ h1.get (h2.next + 10) = some (.cells (outC B.f B.n q) 25) ∧ Same h2.next h2 h1 ∧ h2.next + 12 ≤ h1.next ∧ q ≤ B.n) (fun q => B.n - q) 0 ⟨by rw [eL4]; rfl, rfl, rfl, rfl, rfl, trivial⟩ ⟨⟨fun _ => 0, ?_⟩, byGet, bySame, byOm, by omega⟩ ?_
  · subst hL
    refine ⟨?_, ?_, ?_, ?_, fun i m hm => ?_, fun i hi => ?_, fun i j hi => ?_, ⟨by dsimp only; omega, by dsimp only; omega, by dsimp only; omega, by dsimp only; omega, by dsimp only; (exact byOm)⟩⟩
    · dsimp only [after, St.zero]
      (exact byGet)
    · show _ = some (ARow.map [] 0)
      dsimp only
      (exact byGet)
    · show _ = some (ARow.map [] 0)
      dsimp only
      (exact byGet)
    · show _ = some (ARow.map [] 0)
      dsimp only
      (exact byGet)
    · simp [after, St.zero] at hm
    · simp [after, St.zero] at hi
    · simp [after, St.zero] at hi
  rintro q g' h1 ⟨⟨ps, k⟩, go, s1, n1, hq⟩ K hK
  have o := k.ord
  by_cases hlt : q < B.n
  · have hv := hg.2 q hlt
    have b3 := b2.same (s1.mono om) (Nat.le_refl _)
    have i3 := b3.i
    have e3 := b3.e
    have r3 := b3.r
    have hok := after_ok (f := B.f) (n := q) (by omega) fun i hi => hg.2 i (by omega)
    have eafter : after B.f (q + 1) = (Clerk.step (B.f q) q (after B.f q)).1 := rfl
    have eerr : errAt B.f q = (Clerk.step (B.f q) q (after B.f q)).2 := rfl
    unfold Ln.cells at i3
    unfold ptrV
    (focus ((try with_reducible apply wpC.to); (repeat' ((conv => whnf); first | refine byEv ?_ | (apply Fork.mk <;> (intro _; try (exfalso; omega))) | refine xClkG0 ?_ | ((apply q_cmpk); (focus exact rfl); (focus exact rfl); (focus exact rfl); (focus exact rfl); (all_goals (intro hb; first | (replace hb := of_decide_eq_true hb) | (replace hb := of_decide_eq_false hb))); (all_goals (try (exfalso; omega; done))); (all_goals (revert hb; intros))) | refine xAEStrN3 ?_ | ((apply q_streq); (focus exact rfl); (focus exact rfl); (focus exact rfl); (focus exact rfl); (all_goals (intro hb; first | (replace hb := of_decide_eq_true hb) | (replace hb := of_decide_eq_false hb))); (all_goals (try contradiction)); (all_goals (revert hb; intros))) | refine xAEStrN1 ?_ | refine xAEStrN0 ?_ | fail)); all_goals ((conv => whnf); try with_reducible apply At.mk)))
    apply q_callw
    focus exact do_w (x := B.f q) (t := q) (k.same (fun q hq => get_of fun y hy => byGet) byOm) (by omega) hok (by omega) hv
    rintro v h4 ⟨⟨ps4, k4⟩, rp, fr4, n4⟩ q4
    have n5 : h1.next + 11 ≤ h4.next := by have := q4.next; (exact byOm)
    have go4 : h4.get (h2.next + 10) = some (.cells (outC B.f B.n q) 25) := ((fr4 _ (by omega) (by omega)).trans (get_of fun y hy => byGet)).trans go
    have s4 : Same h2.next h2 h4 := fun i hi => ((fr4 i (by omega) (by omega)).trans (get_of fun y hy => byGet)).trans (s1 i hi)
    rw [← eafter] at k4
    rw [← eerr] at rp
    clear q4 fr4 n4
    rcases rp with ⟨e0, rfl⟩ | ⟨e5, rfl⟩ | ⟨e10, z, rfl⟩ | ⟨x0, x5, x10, xb1, xb2, rfl⟩
    · (focus ((try with_reducible apply wpC.to); (repeat' ((conv => whnf); first | refine byEv ?_ | (apply Fork.mk <;> (intro _; try (exfalso; omega))) | refine xClkG0 ?_ | ((apply q_cmpk); (focus exact rfl); (focus exact rfl); (focus exact rfl); (focus exact rfl); (all_goals (intro hb; first | (replace hb := of_decide_eq_true hb) | (replace hb := of_decide_eq_false hb))); (all_goals (try (exfalso; omega; done))); (all_goals (revert hb; intros))) | refine xAEStrN3 ?_ | ((apply q_streq); (focus exact rfl); (focus exact rfl); (focus exact rfl); (focus exact rfl); (all_goals (intro hb; first | (replace hb := of_decide_eq_true hb) | (replace hb := of_decide_eq_false hb))); (all_goals (try contradiction)); (all_goals (revert hb; intros))) | refine xAEStrN1 ?_ | refine xAEStrN0 ?_ | fail)); all_goals ((conv => whnf); try with_reducible apply At.mk)))
      exact hK (q + 1) _ _ ⟨rfl, rfl, rfl, rfl, int_of rfl (by omega), trivial⟩ ⟨⟨_, k4.same (fun q hq => get_of fun y hy => byGet) byOm⟩, by rw [← outC_same B.f e0]; (exact byGet), bySame, byOm, by omega⟩ (by omega)
    · (focus ((try with_reducible apply wpC.to); (repeat' ((conv => whnf); first | refine byEv ?_ | (apply Fork.mk <;> (intro _; try (exfalso; omega))) | refine xClkG0 ?_ | ((apply q_cmpk); (focus exact rfl); (focus exact rfl); (focus exact rfl); (focus exact rfl); (all_goals (intro hb; first | (replace hb := of_decide_eq_true hb) | (replace hb := of_decide_eq_false hb))); (all_goals (try (exfalso; omega; done))); (all_goals (revert hb; intros))) | refine xAEStrN3 ?_ | ((apply q_streq); (focus exact rfl); (focus exact rfl); (focus exact rfl); (focus exact rfl); (all_goals (intro hb; first | (replace hb := of_decide_eq_true hb) | (replace hb := of_decide_eq_false hb))); (all_goals (try contradiction)); (all_goals (revert hb; intros))) | refine xAEStrN1 ?_ | refine xAEStrN0 ?_ | fail)); all_goals ((conv => whnf); try with_reducible apply At.mk)))
      refine Sto.mk (r := h2.next + 10) (off := 0 + q * 1) (c' := outC B.f B.n (q + 1)) rfl (by omega) byGet rfl rfl (Nat.ble_eq_true_of_le (by rw [outC_len]; omega)) (is_eq (by rw [Nat.zero_add, ← e5]; exact outC_set B.f hlt)) ?_
      (focus ((try with_reducible apply wpC.to); (repeat' ((conv => whnf); first | refine byEv ?_ | (apply Fork.mk <;> (intro _; try (exfalso; omega))) | refine xClkG0 ?_ | ((apply q_cmpk); (focus exact rfl); (focus exact rfl); (focus exact rfl); (focus exact rfl); (all_goals (intro hb; first | (replace hb := of_decide_eq_true hb) | (replace hb := of_decide_eq_false hb))); (all_goals (try (exfalso; omega; done))); (all_goals (revert hb; intros))) | refine xAEStrN3 ?_ | ((apply q_streq); (focus exact rfl); (focus exact rfl); (focus exact rfl); (focus exact rfl); (all_goals (intro hb; first | (replace hb := of_decide_eq_true hb) | (replace hb := of_decide_eq_false hb))); (all_goals (try contradiction)); (all_goals (revert hb; intros))) | refine xAEStrN1 ?_ | refine xAEStrN0 ?_ | fail)); all_goals ((conv => whnf); try with_reducible apply At.mk)))
      exact hK (q + 1) _ _ ⟨rfl, rfl, rfl, rfl, int_of rfl (by omega), trivial⟩ ⟨⟨_, k4.fr (fun q hq h0 => get_of fun y hy => byGet) byOm⟩, byGet, bySame, byOm, by omega⟩ (by omega)
    · (focus ((try with_reducible apply wpC.to); (repeat' ((conv => whnf); first | refine byEv ?_ | (apply Fork.mk <;> (intro _; try (exfalso; omega))) | refine xClkG0 ?_ | ((apply q_cmpk); (focus exact rfl); (focus exact rfl); (focus exact rfl); (focus exact rfl); (all_goals (intro hb; first | (replace hb := of_decide_eq_true hb) | (replace hb := of_decide_eq_false hb))); (all_goals (try (exfalso; omega; done))); (all_goals (revert hb; intros))) | refine xAEStrN3 ?_ | ((apply q_streq); (focus exact rfl); (focus exact rfl); (focus exact rfl); (focus exact rfl); (all_goals (intro hb; first | (replace hb := of_decide_eq_true hb) | (replace hb := of_decide_eq_false hb))); (all_goals (try contradiction)); (all_goals (revert hb; intros))) | refine xAEStrN1 ?_ | refine xAEStrN0 ?_ | fail)); all_goals ((conv => whnf); try with_reducible apply At.mk)))
      apply q_tiface rfl (ti173 _)
      (focus ((try with_reducible apply wpC.to); (repeat' ((conv => whnf); first | refine byEv ?_ | (apply Fork.mk <;> (intro _; try (exfalso; omega))) | refine xClkG0 ?_ | ((apply q_cmpk); (focus exact rfl); (focus exact rfl); (focus exact rfl); (focus exact rfl); (all_goals (intro hb; first | (replace hb := of_decide_eq_true hb) | (replace hb := of_decide_eq_false hb))); (all_goals (try (exfalso; omega; done))); (all_goals (revert hb; intros))) | refine xAEStrN3 ?_ | ((apply q_streq); (focus exact rfl); (focus exact rfl); (focus exact rfl); (focus exact rfl); (all_goals (intro hb; first | (replace hb := of_decide_eq_true hb) | (replace hb := of_decide_eq_false hb))); (all_goals (try contradiction)); (all_goals (revert hb; intros))) | refine xAEStrN1 ?_ | refine xAEStrN0 ?_ | fail)); all_goals ((conv => whnf); try with_reducible apply At.mk)))
      apply q_meth
      focus exact rfl
      focus (exact byNext)
      focus (exact byLo)
      focus kernel_rfl
      focus exact why_short_w
      rintro v h5 rfl q5 n5
      (focus ((try with_reducible apply wpC.to); (repeat' ((conv => whnf); first | refine byEv ?_ | (apply Fork.mk <;> (intro _; try (exfalso; omega))) | refine xClkG0 ?_ | ((apply q_cmpk); (focus exact rfl); (focus exact rfl); (focus exact rfl); (focus exact rfl); (all_goals (intro hb; first | (replace hb := of_decide_eq_true hb) | (replace hb := of_decide_eq_false hb))); (all_goals (try (exfalso; omega; done))); (all_goals (revert hb; intros))) | refine xAEStrN3 ?_ | ((apply q_streq); (focus exact rfl); (focus exact rfl); (focus exact rfl); (focus exact rfl); (all_goals (intro hb; first | (replace hb := of_decide_eq_true hb) | (replace hb := of_decide_eq_false hb))); (all_goals (try contradiction)); (all_goals (revert hb; intros))) | refine xAEStrN1 ?_ | refine xAEStrN0 ?_ | fail)); all_goals ((conv => whnf); try with_reducible apply At.mk)))
      refine Sto.mk (r := h2.next + 10) (off := 0 + q * 1) (c' := outC B.f B.n (q + 1)) rfl (by omega) byGet rfl rfl (Nat.ble_eq_true_of_le (by rw [outC_len]; omega)) (is_eq (by rw [Nat.zero_add]; rw [← e10]; exact outC_set B.f hlt)) ?_
      (focus ((try with_reducible apply wpC.to); (repeat' ((conv => whnf); first | refine byEv ?_ | (apply Fork.mk <;> (intro _; try (exfalso; omega))) | refine xClkG0 ?_ | ((apply q_cmpk); (focus exact rfl); (focus exact rfl); (focus exact rfl); (focus exact rfl); (all_goals (intro hb; first | (replace hb := of_decide_eq_true hb) | (replace hb := of_decide_eq_false hb))); (all_goals (try (exfalso; omega; done))); (all_goals (revert hb; intros))) | refine xAEStrN3 ?_ | ((apply q_streq); (focus exact rfl); (focus exact rfl); (focus exact rfl); (focus exact rfl); (all_goals (intro hb; first | (replace hb := of_decide_eq_true hb) | (replace hb := of_decide_eq_false hb))); (all_goals (try contradiction)); (all_goals (revert hb; intros))) | refine xAEStrN1 ?_ | refine xAEStrN0 ?_ | fail)); all_goals ((conv => whnf); try with_reducible apply At.mk)))
      exact hK (q + 1) _ _ ⟨rfl, rfl, rfl, rfl, int_of rfl (by omega), trivial⟩ ⟨⟨_, k4.fr (fun q hq h0 => get_of fun y hy => byGet) byOm⟩, byGet, bySame, byOm, by omega⟩ (by omega)
    · (focus ((try with_reducible apply wpC.to); (repeat' ((conv => whnf); first | refine byEv ?_ | (apply Fork.mk <;> (intro _; try (exfalso; omega))) | refine xClkG0 ?_ | ((apply q_cmpk); (focus exact rfl); (focus exact rfl); (focus exact rfl); (focus exact rfl); (all_goals (intro hb; first | (replace hb := of_decide_eq_true hb) | (replace hb := of_decide_eq_false hb))); (all_goals (try (exfalso; omega; done))); (all_goals (revert hb; intros))) | refine xAEStrN3 ?_ | ((apply q_streq); (focus exact rfl); (focus exact rfl); (focus exact rfl); (focus exact rfl); (all_goals (intro hb; first | (replace hb := of_decide_eq_true hb) | (replace hb := of_decide_eq_false hb))); (all_goals (try contradiction)); (all_goals (revert hb; intros))) | refine xAEStrN1 ?_ | refine xAEStrN0 ?_ | fail)); all_goals ((conv => whnf); try with_reducible apply At.mk)))
      apply q_tiface rfl (ti171 _)
      (focus ((try with_reducible apply wpC.to); (repeat' ((conv => whnf); first | refine byEv ?_ | (apply Fork.mk <;> (intro _; try (exfalso; omega))) | refine xClkG0 ?_ | ((apply q_cmpk); (focus exact rfl); (focus exact rfl); (focus exact rfl); (focus exact rfl); (all_goals (intro hb; first | (replace hb := of_decide_eq_true hb) | (replace hb := of_decide_eq_false hb))); (all_goals (try (exfalso; omega; done))); (all_goals (revert hb; intros))) | refine xAEStrN3 ?_ | ((apply q_streq); (focus exact rfl); (focus exact rfl); (focus exact rfl); (focus exact rfl); (all_goals (intro hb; first | (replace hb := of_decide_eq_true hb) | (replace hb := of_decide_eq_false hb))); (all_goals (try contradiction)); (all_goals (revert hb; intros))) | refine xAEStrN1 ?_ | refine xAEStrN0 ?_ | fail)); all_goals ((conv => whnf); try with_reducible apply At.mk)))
      apply q_meth
      focus exact rfl
      focus (exact byNext)
      focus (exact byLo)
      focus kernel_rfl
      focus exact why_late_w
      rintro v h5 rfl q5 n5
      (focus ((try with_reducible apply wpC.to); (repeat' ((conv => whnf); first | refine byEv ?_ | (apply Fork.mk <;> (intro _; try (exfalso; omega))) | refine xClkG0 ?_ | ((apply q_cmpk); (focus exact rfl); (focus exact rfl); (focus exact rfl); (focus exact rfl); (all_goals (intro hb; first | (replace hb := of_decide_eq_true hb) | (replace hb := of_decide_eq_false hb))); (all_goals (try (exfalso; omega; done))); (all_goals (revert hb; intros))) | refine xAEStrN3 ?_ | ((apply q_streq); (focus exact rfl); (focus exact rfl); (focus exact rfl); (focus exact rfl); (all_goals (intro hb; first | (replace hb := of_decide_eq_true hb) | (replace hb := of_decide_eq_false hb))); (all_goals (try contradiction)); (all_goals (revert hb; intros))) | refine xAEStrN1 ?_ | refine xAEStrN0 ?_ | fail)); all_goals ((conv => whnf); try with_reducible apply At.mk)))
      refine Sto.mk (r := h2.next + 10) (off := 0 + q * 1) (c' := outC B.f B.n (q + 1)) rfl (by omega) byGet rfl rfl (Nat.ble_eq_true_of_le (by rw [outC_len]; omega)) (is_eq (by rw [Nat.zero_add]; exact outC_set B.f hlt)) ?_
      (focus ((try with_reducible apply wpC.to); (repeat' ((conv => whnf); first | refine byEv ?_ | (apply Fork.mk <;> (intro _; try (exfalso; omega))) | refine xClkG0 ?_ | ((apply q_cmpk); (focus exact rfl); (focus exact rfl); (focus exact rfl); (focus exact rfl); (all_goals (intro hb; first | (replace hb := of_decide_eq_true hb) | (replace hb := of_decide_eq_false hb))); (all_goals (try (exfalso; omega; done))); (all_goals (revert hb; intros))) | refine xAEStrN3 ?_ | ((apply q_streq); (focus exact rfl); (focus exact rfl); (focus exact rfl); (focus exact rfl); (all_goals (intro hb; first | (replace hb := of_decide_eq_true hb) | (replace hb := of_decide_eq_false hb))); (all_goals (try contradiction)); (all_goals (revert hb; intros))) | refine xAEStrN1 ?_ | refine xAEStrN0 ?_ | fail)); all_goals ((conv => whnf); try with_reducible apply At.mk)))
      exact hK (q + 1) _ _ ⟨rfl, rfl, rfl, rfl, int_of rfl (by omega), trivial⟩ ⟨⟨_, k4.fr (fun q hq h0 => get_of fun y hy => byGet) byOm⟩, byGet, bySame, byOm, by omega⟩ (by omega)
  obtain rfl : q = B.n := by omega
  clear hK
  (focus ((try with_reducible apply wpC.to); (repeat' ((conv => whnf); first | refine byEv ?_ | (apply Fork.mk <;> (intro _; try (exfalso; omega))) | refine xClkG0 ?_ | ((apply q_cmpk); (focus exact rfl); (focus exact rfl); (focus exact rfl); (focus exact rfl); (all_goals (intro hb; first | (replace hb := of_decide_eq_true hb) | (replace hb := of_decide_eq_false hb))); (all_goals (try (exfalso; omega; done))); (all_goals (revert hb; intros))) | refine xAEStrN3 ?_ | ((apply q_streq); (focus exact rfl); (focus exact rfl); (focus exact rfl); (focus exact rfl); (all_goals (intro hb; first | (replace hb := of_decide_eq_true hb) | (replace hb := of_decide_eq_false hb))); (all_goals (try contradiction)); (all_goals (revert hb; intros))) | refine xAEStrN1 ?_ | refine xAEStrN0 ?_ | fail)); all_goals ((conv => whnf); try with_reducible apply At.mk)))
  (refine byFin ?_)
  exact .inr ⟨hg, L, ps, h2.next + 10, rfl, k.fr (fun q hq h0 => get_of fun y hy => byGet) byOm, by omega, byGet, by omega, byOm⟩
end AE.Tryz
