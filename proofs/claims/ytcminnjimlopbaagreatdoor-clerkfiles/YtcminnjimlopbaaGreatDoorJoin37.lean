/- Walks and plain laws: ClkH, ClkI, ClkJ, ClkK. -/
import Derived.Test.YtcminnjimlopbaaGreatDoorJoin32
set_option linter.unusedVariables false
set_option linter.unusedSimpArgs false
set_option linter.unusedSectionVars false

/- Clerk, walked: Text; the seal of a book. -/
namespace AE.Tryz
open Go AE Go.Proofs AE.Clerk
set_option maxRecDepth 100000
set_option linter.unusedVariables false

def textR (x : Ln) : Value := if x.Valid 1099511627776 then .tuple #[.string (bs x.text), .int .i64 0] else .tuple #[.string ⟨#[]⟩, .int .i64 2]
theorem text_api {h : H} {x : Ln} : AW Tryz.prog 21 h.next h [.agg ⟨x.cells⟩] (fun v _ => v = textR x) := by
 refine fun21.call rfl (Nat.le_refl _) ?_
 unfold a21 Ln.cells textR
 by_cases hv : x.Valid 1099511627776
 ·rw [if_pos hv]
  (focus ((try with_reducible apply wpC.to); (repeat' ((conv => whnf); first | refine byEv ?_ | ((apply q_call); (focus exact byNext); (focus exact byLo); (focus (exact kClkE1)); first | ((apply q_allB) <;> (intro z_b _ _ _; first | exact Bool.noConfusion z_b | replace z_b := of_decide_eq_true z_b | replace z_b := of_decide_eq_false z_b | skip) <;> ((try (unfold btw at z_b)); first | contradiction | (revert z_b; intros))) | ((apply q_alli) <;> intro _ _ _ _ <;> try contradiction) | (apply q_allv; intro _ _ _)) | fail)); all_goals ((conv => whnf); try with_reducible apply At.mk)))
  apply q_callv
  focus (exact byNext)
  focus (exact byLo)
  focus exact text_w hv
  intro h2 q n
  (refine byRun ?_)
  (refine byFin ?_); rfl
 ·rw [if_neg hv]
  (focus ((try with_reducible apply wpC.to); (repeat' ((conv => whnf); first | refine byEv ?_ | ((apply q_call); (focus exact byNext); (focus exact byLo); (focus (exact kClkE1)); first | ((apply q_allB) <;> (intro z_b _ _ _; first | exact Bool.noConfusion z_b | replace z_b := of_decide_eq_true z_b | replace z_b := of_decide_eq_false z_b | skip) <;> ((try (unfold btw at z_b)); first | contradiction | (revert z_b; intros))) | ((apply q_alli) <;> intro _ _ _ _ <;> try contradiction) | (apply q_allv; intro _ _ _)) | fail)); all_goals ((conv => whnf); try with_reducible apply At.mk)))
  (refine byFin ?_); rfl
theorem rtext_api {h : H} {x : Ln} : AW Tryz.prog 22 h.next h [.agg ⟨x.cells⟩] (fun v _ => v = textR x) := by
 refine fun22.call rfl (Nat.le_refl _) ?_
 unfold a22 Ln.cells textR
 by_cases hv : x.Valid 1099511627776
 ·rw [if_pos hv]
  (focus ((try with_reducible apply wpC.to); (repeat' ((conv => whnf); first | refine byEv ?_ | ((apply q_call); (focus exact byNext); (focus exact byLo); (focus (exact kClkE0)); first | ((apply q_allB) <;> (intro z_b _ _ _; first | exact Bool.noConfusion z_b | replace z_b := of_decide_eq_true z_b | replace z_b := of_decide_eq_false z_b | skip) <;> ((try (unfold btw at z_b)); first | contradiction | (revert z_b; intros))) | ((apply q_alli) <;> intro _ _ _ _ <;> try contradiction) | (apply q_allv; intro _ _ _)) | fail)); all_goals ((conv => whnf); try with_reducible apply At.mk)))
  apply q_callv
  focus (exact byNext)
  focus (exact byLo)
  focus exact rtext_w hv
  intro h2 q n
  (refine byRun ?_)
  (refine byFin ?_); rfl
 ·rw [if_neg hv]
  (focus ((try with_reducible apply wpC.to); (repeat' ((conv => whnf); first | refine byEv ?_ | ((apply q_call); (focus exact byNext); (focus exact byLo); (focus (exact kClkE0)); first | ((apply q_allB) <;> (intro z_b _ _ _; first | exact Bool.noConfusion z_b | replace z_b := of_decide_eq_true z_b | replace z_b := of_decide_eq_false z_b | skip) <;> ((try (unfold btw at z_b)); first | contradiction | (revert z_b; intros))) | ((apply q_alli) <;> intro _ _ _ _ <;> try contradiction) | (apply q_allv; intro _ _ _)) | fail)); all_goals ((conv => whnf); try with_reducible apply At.mk)))
  (refine byFin ?_); rfl
structure Part (m : Nat) (h : H) (f : Nat → Ln) (a0 n : Nat) (b : Option Addr) (a : Addr) (c : Nat) : Prop where
 e : 0 < n → b = some a
 i : Els h a n 4 (fun k => (f (a0 + k)).cells)
 r : 0 < n → a.block < m
 g : 0 < n → SlG a n c
 l : n ≤ 60
 v : ∀ i, i < n → (f (a0 + i)).Valid 1099511627776
theorem Part.same {m m' : Nat} {h h' : H} {f : Nat → Ln} {a0 n : Nat} {b : Option Addr} {a : Addr} {c : Nat} (k : Part m h f a0 n b a c) (s : Same m h h') (hm : m ≤ m') : Part m' h' f a0 n b a c :=
 ⟨k.e, k.i.same s k.r, fun h => by have := k.r h; omega, k.g, k.l, k.v⟩
theorem Part.sub {m : Nat} {h : H} {f : Nat → Ln} {a0 n : Nat} {b : Option Addr} {a : Addr} {c : Nat} (k : Part m h f a0 n b a c) {i n' c' : Nat} (hi : i + n' ≤ n) (hg : 0 < n' → SlG (aadd a (i * 4)) n' c') : Part m h f (a0 + i) n' (some (aadd a (i * 4))) (aadd a (i * 4)) c' := by
 refine ⟨fun _ => rfl, fun j hj => ?_, fun hp => k.r byO, hg, by have := k.l; omega, fun j hj => ?_⟩
 ·have := k.i (i + j) byO
  have ea : aadd (aadd a (i * 4)) (j * 4) = aadd a ((i + j) * 4) := by simp only [aadd]; congr 1; omega
  rw [ea]
  show _ = some (f (a0 + i + j)).cells
  rw [Nat.add_assoc]
  exact this
 ·have := k.v (i + j) byO
  rwa [Nat.add_assoc]
theorem Part.to {m : Nat} {h : H} {f : Nat → Ln} {a0 n : Nat} {b : Option Addr} {a : Addr} {c : Nat} (k : Part m h f a0 n b a c) {n' c' : Nat} (hi : n' ≤ n) (hg : 0 < n' → SlG a n' c') : Part m h f a0 n' (some a) a c' :=
 ⟨fun _ => rfl, fun j hj => k.i j byO, fun hp => k.r byO, hg, by have := k.l; omega, fun j hj => k.v j byO⟩
theorem nats_text (x : Ln) : nats (bs x.text) = x.text := nats_bs (text_lt x)
theorem text_len {x : Ln} (hv : x.Valid 1099511627776) : x.text.length ≤ 10000000000000 := by
 have hm : 0 ≤ x.m ∧ x.m ≤ 1099511627776 := by unfold Ln.Valid btw at hv; omega
 have ha : 0 ≤ x.a ∧ x.a ≤ 1000000000 := by unfold Ln.Valid btw at hv; omega
 have hb : 0 ≤ x.b ∧ x.b ≤ 1000000 := by unfold Ln.Valid btw at hv; omega
 have hm2 := sep_len x.m hm.2
 have ha2 := sep_len x.a byO
 have hb2 := sep_len x.b byO
 have hw : (word x.k).length ≤ 5 := by unfold word; repeat' split
                                       all_goals simp
 unfold Ln.text Ln.nums
 split
 ·simp; omega
 split
 ·simp; omega
 split
 ·simp; omega
 ·simp; omega
theorem root_w : ∀ (n : Nat) {h : H} {m : Nat} {f : Nat → Ln} {a0 : Nat} {b : Option Addr} {a : Addr} {c : Nat}, m ≤ h.next → Part m h f a0 n b a c → AW Tryz.prog 49 h.next h [.slice b n c] (fun v _ => v = .int .i64 (root f a0 n)) := by
 intro n
 induction n using Nat.strongRecOn with
 | ind n ih =>
   intro h m f a0 b a c hm k
   have l1 := k.l
   refine fun49.call rfl (Nat.le_refl _) ?_
   unfold a49
   by_cases h0 : n = 0
   ·subst h0
    (refine byRun ?_)
    (refine byFin ?_); rw [root_nil]
   by_cases h1 : n = 1
   ·subst h1
    have hv := k.v 0 byO
    have i1 := k.i
    have e1 := k.e
    have r1 := k.r
    (refine byRun ?_)
    apply q_callv
    focus (exact byNext)
    focus (exact byLo)
    focus exact text_w hv
    intro h2 q n
    (refine byRun ?_)
    apply q_callv
    focus (exact byNext)
    focus (exact byLo)
    focus exact leaf_w (by rw [bs_len]; have := text_len hv; omega)
    intro h3 q3 n3
    (refine byRun ?_)
    (refine byFin ?_)
    rw [nats_text, root_one]; rfl
   have hh := half_bd (n := n) byO
   have e1 := k.e byO
   subst e1
   (refine byRun ?_)
   apply q_callv
   focus (exact byNext)
   focus (exact byLo)
   focus exact half_w byO
   intro h2 q n2
   (refine byRun ?_)
   refine q_gmax rfl rfl rfl (k.g byO) byO ?_
   intro c1 g1
   (refine byRun ?_)
   apply q_callv
   focus (exact byNext)
   focus (exact byLo)
   focus exact ih (half n) byO (show m ≤ _ from byOm) ((k.to byO fun _ => g1).same bySame (Nat.le_refl _))
   intro h3 q3 n3
   (refine byRun ?_)
   refine q_gfrom rfl rfl (k.g byO) byO ?_
   intro c2 g2
   (refine byRun ?_)
   apply q_callv
   focus (exact byNext)
   focus (exact byLo)
   focus exact ih (n - half n) byO (show m ≤ _ from byOm) ((k.sub byO fun _ => g2).same bySame (Nat.le_refl _))
   intro h4 q4 n4
   (refine byRun ?_)
   apply q_callv
   focus (exact byNext)
   focus (exact byLo)
   focus exact node_w (root_bd _ _ _) (root_bd _ _ _)
   intro h5 q5 n5
   (refine byRun ?_)
   (refine byFin ?_)
   rw [root_two f a0 (show 2 ≤ n by omega)]
end AE.Tryz

/- Clerk, walked: the seal of a book by the definitions; Root. -/
namespace AE.Tryz
open Go AE Go.Proofs AE.Clerk
set_option maxRecDepth 100000
set_option linter.unusedVariables false

theorem rroot_w : ∀ (n : Nat) {h : H} {m : Nat} {f : Nat → Ln} {a0 : Nat} {b : Option Addr} {a : Addr} {c : Nat}, m ≤ h.next → Part m h f a0 n b a c → AW Tryz.prog 50 h.next h [.slice b n c] (fun v _ => v = .int .i64 (root f a0 n)) := by
 intro n
 induction n using Nat.strongRecOn with
 | ind n ih =>
   intro h m f a0 b a c hm k
   have l1 := k.l
   refine fun50.call rfl (Nat.le_refl _) ?_
   unfold a50
   by_cases h0 : n = 0
   ·subst h0
    (refine byRun ?_)
    (refine byFin ?_); rw [root_nil]
   by_cases h1 : n = 1
   ·subst h1
    have hv := k.v 0 byO
    have i1 := k.i
    have e1 := k.e
    have r1 := k.r
    (refine byRun ?_)
    apply q_callv
    focus (exact byNext)
    focus (exact byLo)
    focus exact rtext_w hv
    intro h2 q n
    (refine byRun ?_)
    apply q_callv
    focus (exact byNext)
    focus (exact byLo)
    focus exact rleaf_w (by rw [bs_len]; have := text_len hv; omega)
    intro h3 q3 n3
    (refine byRun ?_)
    (refine byFin ?_)
    rw [nats_text, root_one]; rfl
   have hh := half_bd (n := n) byO
   have e1 := k.e byO
   subst e1
   (refine byRun ?_)
   apply q_callv
   focus (exact byNext)
   focus (exact byLo)
   focus exact rhalf_w byO
   intro h2 q n2
   (refine byRun ?_)
   refine q_gto rfl rfl (k.g byO) byO byO ?_
   intro c1 g1
   (refine byRun ?_)
   apply q_callv
   focus (exact byNext)
   focus (exact byLo)
   focus exact ih (half n) byO (show m ≤ _ from byOm) ((k.to byO fun _ => g1).same bySame (Nat.le_refl _))
   intro h3 q3 n3
   (refine byRun ?_)
   refine q_gfrom rfl rfl (k.g byO) byO ?_
   intro c2 g2
   (refine byRun ?_)
   apply q_callv
   focus (exact byNext)
   focus (exact byLo)
   focus exact ih (n - half n) byO (show m ≤ _ from byOm) ((k.sub byO fun _ => g2).same bySame (Nat.le_refl _))
   intro h4 q4 n4
   (refine byRun ?_)
   apply q_callv
   focus (exact byNext)
   focus (exact byLo)
   focus exact rnode_w (root_bd _ _ _) (root_bd _ _ _)
   intro h5 q5 n5
   (refine byRun ?_)
   (refine byFin ?_)
   rw [root_two f a0 (show 2 ≤ n by omega)]
theorem Bk.Ok.part {B : Bk} {m : Nat} {h : H} (k : B.Ok m h) (g : Good B.n B.f) : Part m h B.f 0 B.n B.b B.a B.c :=
 ⟨k.e, fun i hi => by
  show _ = some (B.f (0 + i)).cells
  rw [Nat.zero_add]; exact k.i i hi, k.r, k.g, g.1, fun i hi => by rw [Nat.zero_add]; exact g.2 i hi⟩
def rootR (n : Nat) (f : Nat → Ln) : Value := .tuple #[.int .i64 (if Good n f then root f 0 n else 0), .int .i64 (bookErr n f)]
theorem root_api {h : H} {B : Bk} {m : Nat} (hm : m ≤ h.next) (hB : B.Ok m h) : AW Tryz.prog 23 h.next h [.slice B.b B.n B.c] (fun v _ => v = rootR B.n B.f) := by
 refine fun23.call rfl (Nat.le_refl _) ?_
 unfold a23 rootR
 (refine byRun ?_)
 apply q_callv
 focus (exact byNext)
 focus (exact byLo)
 focus exact checkBook_w (m := m) byOm (hB.same (m' := m) bySame (Nat.le_refl _))
 intro h2 q n
 by_cases hg : Good B.n B.f
 ·rw [bookErr_ok.2 hg, if_pos hg]
  (refine byRun ?_)
  apply q_callv
  focus (exact byNext)
  focus (exact byLo)
  focus exact root_w B.n (show m ≤ _ from byOm) ((hB.part hg).same bySame (Nat.le_refl _))
  intro h3 q3 n3
  (refine byRun ?_)
  (refine byFin ?_); rfl
 ·have hne : bookErr B.n B.f ≠ 0 := fun h => hg (bookErr_ok.1 h)
  rw [if_neg hg]
  generalize bookErr B.n B.f = e at hne ⊢
  (refine byRun ?_)
  (refine byFin ?_); rfl
theorem rroot_api {h : H} {B : Bk} {m : Nat} (hm : m ≤ h.next) (hB : B.Ok m h) : AW Tryz.prog 24 h.next h [.slice B.b B.n B.c] (fun v _ => v = rootR B.n B.f) := by
 refine fun24.call rfl (Nat.le_refl _) ?_
 unfold a24 rootR
 (refine byRun ?_)
 apply q_callv
 focus (exact byNext)
 focus (exact byLo)
 focus exact rcheckBook_w (m := m) byOm (hB.same (m' := m) bySame (Nat.le_refl _))
 intro h2 q n
 by_cases hg : Good B.n B.f
 ·rw [bookErr_ok.2 hg, if_pos hg]
  (refine byRun ?_)
  apply q_callv
  focus (exact byNext)
  focus (exact byLo)
  focus exact rroot_w B.n (show m ≤ _ from byOm) ((hB.part hg).same bySame (Nat.le_refl _))
  intro h3 q3 n3
  (refine byRun ?_)
  (refine byFin ?_); rfl
 ·have hne : bookErr B.n B.f ≠ 0 := fun h => hg (bookErr_ok.1 h)
  rw [if_neg hg]
  have hne' := hne
  generalize he : bookErr B.n B.f = e at hne ⊢
  (refine byRun ?_)
  apply q_callv
  focus (exact byNext)
  focus (exact byLo)
  focus exact rcheckBook_w (m := m) byOm (hB.same (m' := m) bySame (Nat.le_refl _))
  intro h3 q3 n3
  rw [he]
  (refine byRun ?_)
  (refine byFin ?_); rfl
end AE.Tryz

/- Clerk, walked: the parts beside a line, yielded. -/
namespace AE.Tryz
open Go AE Go.Proofs AE.Clerk
set_option maxRecDepth 100000
set_option linter.unusedVariables false

def partC (p : Nat × Nat × Bool) : List Value := [.int .i64 p.1, .int .i64 ((p.1 + p.2.1 : Nat) : Int), .bool p.2.2]
def climbV (r2 r3 r4 : Nat) : Value := .func (.func 83) ⟨[]⟩ ⟨[.pointer (some ⟨r2, 0, none⟩), .pointer (some ⟨r3, 0, none⟩), .pointer (some ⟨r4, 0, none⟩)]⟩
structure Cells3 (h : H) (i : Nat) (yv : Value) (r2 r3 r4 : Nat) : Prop where
 g2 : h.get r2 = some (.cells [.int .i64 i] 3)
 g3 : h.get r3 = some (.cells [climbV r2 r3 r4] 142)
 g4 : h.get r4 = some (.cells [yv] 141)
abbrev P3 := Nat × Nat × Bool
theorem parts_len : ∀ {n a i : Nat}, 1 ≤ n → (parts a n i).length + 1 ≤ n := by
 intro n
 induction n using Nat.strongRecOn with
 | ind n ih =>
   intro a i h
   by_cases h1 : n = 1
   ·subst h1; rw [parts_one]; simp
   have hh := half_bd (n := n) byO
   by_cases hi : i < half n
   ·rw [parts_left byO hi, List.length_append]
    have := ih (half n) hh.2 (a := a) (i := i) hh.1
    simp; omega
   ·rw [parts_right byO byO, List.length_append]
    have := ih (n - half n) byO (a := a + half n) (i := i - half n) byO
    simp; omega
theorem climb_w {lo base N i r2 r3 r4 : Nat} {yv : Value} (hN : N ≤ 1000000) (Inv : List P3 → H → Prop) (hI : ∀ l h1, Inv l h1 → Cells3 h1 i yv r2 r3 r4) (hst : ∀ l h1 h2, Inv l h1 → Quiet h1.next h1 h2 → Inv l h2)
 (hy : ∀ l (p : P3) h1, Inv l h1 → base ≤ h1.next → 1 ≤ p.2.1 → p.1 + p.2.1 ≤ N → l.length < N → ∃ v h2, (v = .bool true ∧ Inv (l ++ [p]) h2) ∧ ACall Tryz.prog yv lo h1 [.agg ⟨partC p⟩] v h2) :
 ∀ (n : Nat) {a j : Nat} {l0 : List P3} {h : H}, j < n → a + n ≤ N → l0.length + n ≤ N → i = a + j → Inv l0 h → lo ≤ h.next → base ≤ h.next →
  AW Tryz.prog 83 lo h [.int .i64 a, .int .i64 ((a + n : Nat) : Int), .pointer (some ⟨r2, 0, none⟩), .pointer (some ⟨r3, 0, none⟩), .pointer (some ⟨r4, 0, none⟩)] (fun v h' => v = .bool true ∧ Inv (l0 ++ parts a n j) h') := by
 intro n
 induction n using Nat.strongRecOn with
 | ind n ih =>
   intro a j l0 h hj haN hlen hi i0 hlo hbase
   have hst2 : ∀ h2, Quiet h.next h h2 → Inv l0 h2 := fun h2 q => hst _ _ _ i0 q
   refine fun83.call rfl hlo ?_
   unfold a83
   by_cases h1 : n = 1
   ·subst h1
    (refine byRun ?_)
    (refine byFin ?_)
    exact ⟨rfl, by rw [parts_one, List.append_nil]; exact hst _ _ _ i0 byQuiet⟩
   have hh := half_bd (n := n) byO
   (refine byRun ?_)
   have e0 : ((a + n : Nat) : Int) - a = (n : Nat) := by omega
   rw [e0]
   apply q_callv
   focus (exact byNext)
   focus (exact byLo)
   focus exact half_w byO
   intro h2 q2 n2
   have i2 := hst2 h2 byQuiet
   obtain ⟨g2, g3, g4⟩ := hI _ _ i2
   unfold climbV at g3
   by_cases hl : j < half n
   ·(refine byRun ?_)
    apply q_callw
    focus exact ih (half n) hh.2 (a := a) (j := j) (l0 := l0) hl byO byO hi (hst _ h2 _ i2 byQuiet) byOm byOm
    rintro v h3 ⟨rfl, i3⟩ q3
    have n3 := q3.next
    simp only [put_next, bump_next] at n3
    obtain ⟨g2', g3', g4'⟩ := hI _ _ i3
    (refine byRun ?_)
    have y := hy _ (a + half n, n - half n, false) h3 i3 byO (by dsimp only; omega) (by dsimp only; omega) (by have := parts_len (a := a) (i := j) (show 1 ≤ half n by omega); rw [List.length_append]; omega)
    have e2 : a + half n + (n - half n) = a + n := by omega
    unfold partC at y
    dsimp only at y
    rw [e2] at y
    apply q_calla
    focus exact y
    rintro v h4 ⟨rfl, i4⟩ q4
    (refine byRun ?_)
    (refine byFin ?_)
    refine ⟨rfl, ?_⟩
    rw [parts_left byO hl, ← List.append_assoc]
    exact i4
   ·have ih2 := fun hI2 => ih (n - half n) byO (a := a + half n) (j := j - half n) (l0 := l0) (h := (h2.bump 3).bump 12) byO byO byO byO hI2 byOm byOm
    have e2 : a + half n + (n - half n) = a + n := by omega
    rw [e2] at ih2
    (refine byRun ?_)
    apply q_callw
    focus exact ih2 (hst _ h2 _ i2 byQuiet)
    rintro v h3 ⟨rfl, i3⟩ q3
    have n3 := q3.next
    simp only [put_next, bump_next] at n3
    obtain ⟨g2', g3', g4'⟩ := hI _ _ i3
    (refine byRun ?_)
    apply q_calla
    focus exact hy _ (a, half n, true) h3 i3 byO (by dsimp only; omega) (by dsimp only; omega) (by have := parts_len (a := a + half n) (i := j - half n) (show 1 ≤ n - half n by omega); rw [List.length_append]; omega)
    rintro v h4 ⟨rfl, i4⟩ q4
    (refine byRun ?_)
    (refine byFin ?_)
    refine ⟨rfl, ?_⟩
    rw [parts_right byO byO, ← List.append_assoc]
    exact i4
end AE.Tryz

/- Clerk, walked: beside. -/
namespace AE.Tryz
open Go AE Go.Proofs AE.Clerk
set_option maxRecDepth 100000
set_option linter.unusedVariables false

def seqV (r1 r2 : Nat) : Value := .func (.func 82) ⟨[]⟩ ⟨[.pointer (some ⟨r1, 0, none⟩), .pointer (some ⟨r2, 0, none⟩)]⟩
theorem beside_w {h : H} {i n : Nat} : AW Tryz.prog 51 h.next h [.int .i64 i, .int .i64 n] (fun v h' => ∃ r1 r2, v = seqV r1 r2 ∧ (h.next ≤ r1 ∧ r1 < h'.next) ∧ (h.next ≤ r2 ∧ r2 < h'.next) ∧ h'.get r1 = some (.cells [.int .i64 i] 3) ∧ h'.get r2 = some (.cells [.int .i64 n] 3)) := by
 refine fun51.call rfl (Nat.le_refl _) ?_
 unfold a51
 (refine byRun ?_)
 (refine byFin ?_)
 exact ⟨h.next, h.next + 1, rfl, ⟨by omega, byOm⟩, ⟨by omega, byOm⟩, byGet, byGet⟩
def yieldV (L : Nat) : Value := .func (.yield L) ⟨[]⟩ ⟨[]⟩
theorem seq_w {h : H} {lo N i r1 r2 L : Nat} (hlo : lo ≤ h.next) (hN : N ≤ 1000000) (hi : i < N) (g1 : h.get r1 = some (.cells [.int .i64 i] 3)) (g2 : h.get r2 = some (.cells [.int .i64 N] 3)) (b1 : r1 < h.next) (b2 : r2 < h.next)
 (Inv : List P3 → H → Prop) (hI : ∀ l h1, Inv l h1 → h1.get r1 = h.get r1) (hst : ∀ l h1 h2, Inv l h1 → Quiet h1.next h1 h2 → Inv l h2)
 (hy : ∀ l (p : P3) h1, Inv l h1 → h.next + 2 ≤ h1.next → 1 ≤ p.2.1 → p.1 + p.2.1 ≤ N → l.length < N → ∃ v h2, ((v = .bool true ∧ Inv (l ++ [p]) h2) ∧ ∀ r, h.next ≤ r → r < h.next + 2 → h2.get r = h1.get r) ∧ ACall Tryz.prog (yieldV L) lo h1 [.agg ⟨partC p⟩] v h2) (h0 : Inv [] h) :
 AW Tryz.prog 82 lo h [yieldV L, .pointer (some ⟨r1, 0, none⟩), .pointer (some ⟨r2, 0, none⟩)] (fun _ h' => Inv (parts 0 N i) h') := by
 refine fun82.call rfl hlo ?_
 unfold a82 yieldV
 (refine byRun ?_)
 have y3 : (((((((h.bump 1).put h.next (.cells [yieldV L] 141)).bump 1).put (h.next + 1) (.cells [.nilFunc] 142)).bump 2).put (h.next + 1) (.cells [climbV r1 (h.next + 1) h.next] 142)).bump 3).get h.next = some (.cells [yieldV L] 141) := by (exact byGet)
 have y4 : (((((((h.bump 1).put h.next (.cells [yieldV L] 141)).bump 1).put (h.next + 1) (.cells [.nilFunc] 142)).bump 2).put (h.next + 1) (.cells [climbV r1 (h.next + 1) h.next] 142)).bump 3).get (h.next + 1) = some (.cells [climbV r1 (h.next + 1) h.next] 142) := by (exact byGet)
 have c := climb_w (lo := lo) (base := h.next + 2) (N := N) (i := i) (r2 := r1) (r3 := h.next + 1) (r4 := h.next) (yv := yieldV L) hN
  (fun l h1 => Inv l h1 ∧ h1.get h.next = some (.cells [yieldV L] 141) ∧ h1.get (h.next + 1) = some (.cells [climbV r1 (h.next + 1) h.next] 142) ∧ h.next + 2 ≤ h1.next)
  (fun l h1 k => ⟨(hI _ _ k.1).trans g1, k.2.2.1, k.2.1⟩) (fun l h1 h2 k q => ⟨hst _ _ _ k.1 q, (q.same _ byO).trans k.2.1, (q.same _ byO).trans k.2.2.1, by have := q.next; omega⟩)
  (fun l p h1 k hb p1 p2 p3 => by
   obtain ⟨v, h2, ⟨⟨e, i2⟩, fr⟩, a⟩ := hy l p h1 k.1 byO p1 p2 p3
   exact ⟨v, h2, ⟨e, i2, (fr _ byO byO).trans k.2.1, (fr _ byO byO).trans k.2.2.1, by have := a.quiet.next; omega⟩, a⟩)
  N (a := 0) (j := i) (l0 := []) hi byO (by simp) byO ⟨hst _ _ _ h0 byQuiet, y3, y4, byOm⟩ byOm byOm
 rw [Nat.zero_add] at c
 apply q_callw
 focus exact c
 rintro v h3 ⟨rfl, i3⟩ q3
 (refine byRun ?_)
 (refine byFin ?_)
 exact hst _ _ _ i3.1 byQuiet
end AE.Tryz
