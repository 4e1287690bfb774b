/- Walks and plain laws: ClkH, ClkI. -/
import Derived.Test.YtcminnjimlopbaaGreatDoorJoin31
set_option linter.unusedVariables false
set_option linter.unusedSimpArgs false
set_option linter.unusedSectionVars false

/- Clerk, walked: Text; the seal of a book. -/
namespace AE.Tryz
open Go AE Go.Proofs AE.Clerk
set_option maxRecDepth 100000
set_option linter.unusedVariables false

def textR (x : Ln) : Value := if x.Valid 1099511627776 then .tuple #[.string (bs x.text), .int .i64 0] else .tuple #[.string ⟨#[]⟩, .int .i64 2]
theorem text_api {h : H} {x : Ln} : AW Tryz.prog 21 h.next h [.agg ⟨x.cells⟩] (fun v _ => v = textR x) := by
  refine fun21.call rfl (Nat.le_refl _) ?_
  unfold a21 Ln.cells textR
  by_cases hv : x.Valid 1099511627776
  · rw [if_pos hv]
    (focus ((try with_reducible apply wpC.to); (repeat' ((conv => whnf); first | refine byEv ?_ | ((apply q_call); (focus exact byNext); (focus exact byLo); (focus (exact kClkE1)); first | ((apply q_allB) <;> (intro z_b _ _ _; first | exact Bool.noConfusion z_b | replace z_b := of_decide_eq_true z_b | replace z_b := of_decide_eq_false z_b | skip) <;> ((try (unfold btw at z_b)); first | contradiction | (revert z_b; intros))) | ((apply q_alli) <;> intro _ _ _ _ <;> try contradiction) | (apply q_allv; intro _ _ _)) | fail)); all_goals ((conv => whnf); try with_reducible apply At.mk)))
    apply q_callv
    focus (exact byNext)
    focus (exact byLo)
    focus exact text_w hv
    intro h2 q n
    (focus ((try with_reducible apply wpC.to); (repeat' ((conv => whnf); first | refine byEv ?_ | ((apply q_call); (focus exact byNext); (focus exact byLo); (focus (exact kClkE1)); first | ((apply q_allB) <;> (intro z_b _ _ _; first | exact Bool.noConfusion z_b | replace z_b := of_decide_eq_true z_b | replace z_b := of_decide_eq_false z_b | skip) <;> ((try (unfold btw at z_b)); first | contradiction | (revert z_b; intros))) | ((apply q_alli) <;> intro _ _ _ _ <;> try contradiction) | (apply q_allv; intro _ _ _)) | fail)); all_goals ((conv => whnf); try with_reducible apply At.mk)))
    (refine byFin ?_); rfl
  · rw [if_neg hv]
    (focus ((try with_reducible apply wpC.to); (repeat' ((conv => whnf); first | refine byEv ?_ | ((apply q_call); (focus exact byNext); (focus exact byLo); (focus (exact kClkE1)); first | ((apply q_allB) <;> (intro z_b _ _ _; first | exact Bool.noConfusion z_b | replace z_b := of_decide_eq_true z_b | replace z_b := of_decide_eq_false z_b | skip) <;> ((try (unfold btw at z_b)); first | contradiction | (revert z_b; intros))) | ((apply q_alli) <;> intro _ _ _ _ <;> try contradiction) | (apply q_allv; intro _ _ _)) | fail)); all_goals ((conv => whnf); try with_reducible apply At.mk)))
    (refine byFin ?_); rfl
structure Part (m : Nat) (h : H) (f : Nat → Ln) (a0 n : Nat) (b : Option Addr) (a : Addr) (c : Nat) : Prop where
  e : 0 < n → b = some a
  i : Els h a n 4 (fun k => (f (a0 + k)).cells)
  r : 0 < n → a.block < m
  g : 0 < n → SlG a n c
  l : n ≤ 60
  v : ∀ i, i < n → (f (a0 + i)).Valid 1099511627776
theorem Part.same {m m' : Nat} {h h' : H} {f : Nat → Ln} {a0 n : Nat} {b : Option Addr} {a : Addr} {c : Nat} (k : Part m h f a0 n b a c) (s : Same m h h') (hm : m ≤ m') : Part m' h' f a0 n b a c :=
  ⟨k.e, k.i.same s k.r, fun h => by have := k.r h; omega, k.g, k.l, k.v⟩
theorem Part.sub {m : Nat} {h : H} {f : Nat → Ln} {a0 n : Nat} {b : Option Addr} {a : Addr} {c : Nat} (k : Part m h f a0 n b a c) {i n' c' : Nat} (hi : i + n' ≤ n) (hg : 0 < n' → SlG (aadd a (i * 4)) n' c') : Part m h f (a0 + i) n' (some (aadd a (i * 4))) (aadd a (i * 4)) c' := by
  refine ⟨fun _ => rfl, fun j hj => ?_, fun hp => k.r (by omega), hg, by have := k.l; omega, fun j hj => ?_⟩
  · have := k.i (i + j) (by omega)
    have ea : aadd (aadd a (i * 4)) (j * 4) = aadd a ((i + j) * 4) := by simp only [aadd]; congr 1; omega
    rw [ea]
    show _ = some (f (a0 + i + j)).cells
    rw [Nat.add_assoc]
    exact this
  · have := k.v (i + j) (by omega)
    rwa [Nat.add_assoc]
theorem Part.to {m : Nat} {h : H} {f : Nat → Ln} {a0 n : Nat} {b : Option Addr} {a : Addr} {c : Nat} (k : Part m h f a0 n b a c) {n' c' : Nat} (hi : n' ≤ n) (hg : 0 < n' → SlG a n' c') : Part m h f a0 n' (some a) a c' :=
  ⟨fun _ => rfl, fun j hj => k.i j (by omega), fun hp => k.r (by omega), hg, by have := k.l; omega, fun j hj => k.v j (by omega)⟩
theorem nats_text (x : Ln) : nats (bs x.text) = x.text := nats_bs (text_lt x)
theorem text_len {x : Ln} (hv : x.Valid 1099511627776) : x.text.length ≤ 10000000000000 := by
  have hm : 0 ≤ x.m ∧ x.m ≤ 1099511627776 := by unfold Ln.Valid btw at hv; omega
  have ha : 0 ≤ x.a ∧ x.a ≤ 1000000000 := by unfold Ln.Valid btw at hv; omega
  have hb : 0 ≤ x.b ∧ x.b ≤ 1000000 := by unfold Ln.Valid btw at hv; omega
  have hm2 := sep_len x.m hm.2
  have ha2 := sep_len x.a (by omega)
  have hb2 := sep_len x.b (by omega)
  have hw : (word x.k).length ≤ 5 := by unfold word; repeat' split
                                        all_goals simp
  unfold Ln.text Ln.nums
  split
  · simp; omega
  split
  · simp; omega
  split
  · simp; omega
  · simp; omega
theorem root_w : ∀ (n : Nat) {h : H} {m : Nat} {f : Nat → Ln} {a0 : Nat} {b : Option Addr} {a : Addr} {c : Nat}, m ≤ h.next → Part m h f a0 n b a c → AW Tryz.prog 49 h.next h [.slice b n c] (fun v _ => v = .int .i64 (root f a0 n)) := by
  intro n
  induction n using Nat.strongRecOn with
  | ind n ih =>
    intro h m f a0 b a c hm k
    have l1 := k.l
    refine fun49.call rfl (Nat.le_refl _) ?_
    unfold a49
    by_cases h0 : n = 0
    · subst h0
      (refine byRun ?_)
      (refine byFin ?_); rw [root_nil]
    by_cases h1 : n = 1
    · subst h1
      have hv := k.v 0 (by omega)
      have i1 := k.i
      have e1 := k.e
      have r1 := k.r
      (refine byRun ?_)
      apply q_callv
      focus (exact byNext)
      focus (exact byLo)
      focus exact text_w hv
      intro h2 q n
      (refine byRun ?_)
      apply q_callv
      focus (exact byNext)
      focus (exact byLo)
      focus exact leaf_w (by rw [bs_len]; have := text_len hv; omega)
      intro h3 q3 n3
      (refine byRun ?_)
      (refine byFin ?_)
      rw [nats_text, root_one]; rfl
    have hh := half_bd (n := n) (by omega)
    have e1 := k.e (by omega)
    subst e1
    (refine byRun ?_)
    apply q_callv
    focus (exact byNext)
    focus (exact byLo)
    focus exact half_w (by omega)
    intro h2 q n2
    (refine byRun ?_)
    refine q_gmax rfl rfl rfl (k.g (by omega)) (by omega) ?_
    intro c1 g1
    (refine byRun ?_)
    apply q_callv
    focus (exact byNext)
    focus (exact byLo)
    focus exact ih (half n) (by omega) (show m ≤ _ from byOm) ((k.to (by omega) fun _ => g1).same bySame (Nat.le_refl _))
    intro h3 q3 n3
    (refine byRun ?_)
    refine q_gfrom rfl rfl (k.g (by omega)) (by omega) ?_
    intro c2 g2
    (refine byRun ?_)
    apply q_callv
    focus (exact byNext)
    focus (exact byLo)
    focus exact ih (n - half n) (by omega) (show m ≤ _ from byOm) ((k.sub (by omega) fun _ => g2).same bySame (Nat.le_refl _))
    intro h4 q4 n4
    (refine byRun ?_)
    apply q_callv
    focus (exact byNext)
    focus (exact byLo)
    focus exact node_w (root_bd _ _ _) (root_bd _ _ _)
    intro h5 q5 n5
    (refine byRun ?_)
    (refine byFin ?_)
    rw [root_two f a0 (show 2 ≤ n by omega)]
end AE.Tryz

/- Clerk, walked: the seal of a book by the definitions; Root. -/
namespace AE.Tryz
open Go AE Go.Proofs AE.Clerk
set_option maxRecDepth 100000
set_option linter.unusedVariables false

theorem Bk.Ok.part {B : Bk} {m : Nat} {h : H} (k : B.Ok m h) (g : Good B.n B.f) : Part m h B.f 0 B.n B.b B.a B.c :=
  ⟨k.e, fun i hi => by
    show _ = some (B.f (0 + i)).cells
    rw [Nat.zero_add]; exact k.i i hi, k.r, k.g, g.1, fun i hi => by rw [Nat.zero_add]; exact g.2 i hi⟩
def rootR (n : Nat) (f : Nat → Ln) : Value := .tuple #[.int .i64 (if Good n f then root f 0 n else 0), .int .i64 (bookErr n f)]
theorem root_api {h : H} {B : Bk} {m : Nat} (hm : m ≤ h.next) (hB : B.Ok m h) : AW Tryz.prog 23 h.next h [.slice B.b B.n B.c] (fun v _ => v = rootR B.n B.f) := by
  refine fun23.call rfl (Nat.le_refl _) ?_
  unfold a23 rootR
  (refine byRun ?_)
  apply q_callv
  focus (exact byNext)
  focus (exact byLo)
  focus exact checkBook_w (m := m) byOm (hB.same (m' := m) bySame (Nat.le_refl _))
  intro h2 q n
  by_cases hg : Good B.n B.f
  · rw [bookErr_ok.2 hg, if_pos hg]
    (refine byRun ?_)
    apply q_callv
    focus (exact byNext)
    focus (exact byLo)
    focus exact root_w B.n (show m ≤ _ from byOm) ((hB.part hg).same bySame (Nat.le_refl _))
    intro h3 q3 n3
    (refine byRun ?_)
    (refine byFin ?_); rfl
  · have hne : bookErr B.n B.f ≠ 0 := fun h => hg (bookErr_ok.1 h)
    rw [if_neg hg]
    generalize bookErr B.n B.f = e at hne ⊢
    (refine byRun ?_)
    (refine byFin ?_); rfl
end AE.Tryz
