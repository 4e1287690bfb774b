/- Walks and plain laws: ClkR, ClerkSpec3, ClerkSpec4. -/
import Derived.Test.YtcminnjimlopbaaGreatDoorClkQ
import Derived.Test.YtcminnjimlopbaaGreatDoorJoin38
set_option linter.unusedVariables false
set_option linter.unusedSimpArgs false
set_option linter.unusedSectionVars false

/- Clerk, walked: CheckReceipt. -/
namespace AE.Tryz
open Go AE Go.Proofs AE.Clerk
set_option maxRecDepth 100000
set_option linter.unusedVariables false

theorem climb_take {z : Int} {ps : List P3} {ys : List Int} {k : Nat} (h1 : k < ps.length) (hl : ys.length = ps.length) : climbP z (ps.take (k + 1)) (ys.take (k + 1)) = if (ps.getD k (0, 0, false)).2.2 then node (ys.getD k 0) (climbP z (ps.take k) (ys.take k)) else node (climbP z (ps.take k) (ys.take k)) (ys.getD k 0) := by
 rw [List.take_add_one, List.take_add_one, List.getElem?_eq_getElem h1, List.getElem?_eq_getElem (show k < ys.length by omega)]
 simp only [Option.toList_some]
 rw [climbP_snoc (by rw [List.length_take, List.length_take]; omega)]
 simp [List.getD_eq_getElem?_getD, List.getElem?_eq_getElem h1, List.getElem?_eq_getElem (show k < ys.length by omega)]
theorem kClkR0 {G : Prop} (g : G := by (exact sealed_w)) : G := g
set_option maxHeartbeats 1000000 in
theorem checkReceipt_w {h : H} {m : Nat} {sl : Int} {x : Ln} {i n : Int} {ys : List Int} {b : Option Addr} {a : Addr} {c : Nat} (hm : m ≤ h.next) (hi : -9223372036854775808 ≤ i ∧ i ≤ 9223372036854775807) (hn : -9223372036854775808 ≤ n ∧ n ≤ 9223372036854775807) (hys : ys.length ≤ 9223372036854775807) (k : NumL m h ys b a c) :
 AW Tryz.prog 28 h.next h [.int .i64 sl, .agg ⟨x.cells⟩, .agg ⟨[.int .i64 i, .int .i64 n, .slice b ys.length c]⟩] (fun v _ => v = .int .i64 (ckErr sl x i n ys)) := by
 refine fun28.call rfl (Nat.le_refl _) ?_
 unfold a28 ckErr Ln.cells
 by_cases hv : x.Valid 1099511627776
 rotate_left
 ·(focus ((try with_reducible apply wpC.to); (repeat' ((conv => whnf); first | refine byEv ?_ | (apply Fork.mk <;> (intro _; try (exfalso; omega))) | ((apply q_call); (focus exact byNext); (focus exact byLo); (focus (first | exact kClkE1 | exact kClkR0)); first | ((apply q_allB) <;> (intro z_b _ _ _; first | exact Bool.noConfusion z_b | replace z_b := of_decide_eq_true z_b | replace z_b := of_decide_eq_false z_b | skip) <;> ((try (unfold btw at z_b)); first | contradiction | (revert z_b; intros))) | ((apply q_alli) <;> intro _ _ _ _ <;> try contradiction) | (apply q_allv; intro _ _ _)) | fail)); all_goals ((conv => whnf); try with_reducible apply At.mk)))
  (refine byFin ?_)
  rw [if_pos (.inl hv)]
 by_cases hs : btw sl 0 (Clerk.P - 1)
 rotate_left
 ·rw [if_pos (.inr hs)]
  (focus ((try with_reducible apply wpC.to); (repeat' ((conv => whnf); first | refine byEv ?_ | (apply Fork.mk <;> (intro _; try (exfalso; omega))) | ((apply q_call); (focus exact byNext); (focus exact byLo); (focus (first | exact kClkE1 | exact kClkR0)); first | ((apply q_allB) <;> (intro z_b _ _ _; first | exact Bool.noConfusion z_b | replace z_b := of_decide_eq_true z_b | replace z_b := of_decide_eq_false z_b | skip) <;> ((try (unfold btw at z_b)); first | contradiction | (revert z_b; intros))) | ((apply q_alli) <;> intro _ _ _ _ <;> try contradiction) | (apply q_allv; intro _ _ _)) | fail)); all_goals ((conv => whnf); try with_reducible apply At.mk)))
  (refine byFin ?_)
  rfl
 rw [if_neg (by rintro (h | h); exact h hv; exact h hs)]
 by_cases hn2 : n < 1 ∨ 60 < n
 ·rw [if_pos hn2]
  (focus ((try with_reducible apply wpC.to); (repeat' ((conv => whnf); first | refine byEv ?_ | (apply Fork.mk <;> (intro _; try (exfalso; omega))) | ((apply q_call); (focus exact byNext); (focus exact byLo); (focus (first | exact kClkE1 | exact kClkR0)); first | ((apply q_allB) <;> (intro z_b _ _ _; first | exact Bool.noConfusion z_b | replace z_b := of_decide_eq_true z_b | replace z_b := of_decide_eq_false z_b | skip) <;> ((try (unfold btw at z_b)); first | contradiction | (revert z_b; intros))) | ((apply q_alli) <;> intro _ _ _ _ <;> try contradiction) | (apply q_allv; intro _ _ _)) | fail)); all_goals ((conv => whnf); try with_reducible apply At.mk)))
  all_goals ((refine byFin ?_); rfl)
 rw [if_neg hn2]
 by_cases hi2 : i < 0 ∨ n ≤ i
 ·rw [if_pos hi2]
  (focus ((try with_reducible apply wpC.to); (repeat' ((conv => whnf); first | refine byEv ?_ | (apply Fork.mk <;> (intro _; try (exfalso; omega))) | ((apply q_call); (focus exact byNext); (focus exact byLo); (focus (first | exact kClkE1 | exact kClkR0)); first | ((apply q_allB) <;> (intro z_b _ _ _; first | exact Bool.noConfusion z_b | replace z_b := of_decide_eq_true z_b | replace z_b := of_decide_eq_false z_b | skip) <;> ((try (unfold btw at z_b)); first | contradiction | (revert z_b; intros))) | ((apply q_alli) <;> intro _ _ _ _ <;> try contradiction) | (apply q_allv; intro _ _ _)) | fail)); all_goals ((conv => whnf); try with_reducible apply At.mk)))
  all_goals ((refine byFin ?_); rfl)
 rw [if_neg hi2]
 obtain ⟨nn, rfl⟩ : ∃ nn : Nat, n = nn := ⟨n.toNat, by omega⟩
 obtain ⟨j, rfl⟩ : ∃ j : Nat, i = j := ⟨i.toNat, by omega⟩
 simp only [Int.toNat_natCast]
 (focus ((try with_reducible apply wpC.to); (repeat' ((conv => whnf); first | refine byEv ?_ | (apply Fork.mk <;> (intro _; try (exfalso; omega))) | ((apply q_call); (focus exact byNext); (focus exact byLo); (focus (first | exact kClkE1 | exact kClkR0)); first | ((apply q_allB) <;> (intro z_b _ _ _; first | exact Bool.noConfusion z_b | replace z_b := of_decide_eq_true z_b | replace z_b := of_decide_eq_false z_b | skip) <;> ((try (unfold btw at z_b)); first | contradiction | (revert z_b; intros))) | ((apply q_alli) <;> intro _ _ _ _ <;> try contradiction) | (apply q_allv; intro _ _ _)) | fail)); all_goals ((conv => whnf); try with_reducible apply At.mk)))
 apply q_call
 focus (exact byNext)
 focus (exact byLo)
 focus exact beside_w
 rintro v h3 ⟨r1, r2, rfl, b1, b2, g1, g2⟩ q3 n3
 simp only [bump_next] at b1 b2
 unfold seqV
 (refine byRun ?_)
 apply q_call
 focus (exact byNext)
 focus (exact byLo)
 focus exact collect_w (N := nn) (i := j) byO byO byGet byGet byOm byOm
 rintro v h4 ⟨pb, pa, rfl, pe, pi, pr⟩ q4 n4
 have pl := parts_len (n := nn) (a := 0) (i := j) byO
 by_cases hl : ys.length = (parts 0 nn j).length
 rotate_left
 ·rw [if_pos hl]
  (refine byRun ?_)
  (refine byFin ?_)
  rfl
 rw [if_neg (fun h => h hl)]
 (refine byRun ?_)
 apply q_callv
 focus (exact byNext)
 focus (exact byLo)
 focus exact containsS_w (show m ≤ _ from byOm) (k.same bySame (Nat.le_refl _)) hys
 intro h5 q5 n5
 by_cases hA : AllS ys
 rotate_left
 ·rw [if_pos hA, decide_eq_true hA]
  (refine byRun ?_)
  (refine byFin ?_)
  rfl
 rw [if_neg (fun h => h hA), decide_eq_false (fun h => h hA)]
 have hyb : ∀ y ∈ ys, 0 ≤ y ∧ y < Clerk.P := fun y hy => by
  have := hA y hy
  unfold btw at this
  omega
 (refine byRun ?_)
 apply q_callv
 focus (exact byNext)
 focus (exact byLo)
 focus exact text_w hv
 intro h6 q6 n6
 (refine byRun ?_)
 apply q_callv
 focus (exact byNext)
 focus (exact byLo)
 focus exact leaf_w (by rw [bs_len]; have := text_len hv; omega)
 intro h7 q7 n7
 rw [nats_text]
 have y2 : h7.get (h.next + 1) = some (.cells [.int .i64 j, .int .i64 nn, .slice b ys.length c] 45) := by (exact byGet)
 have sm7 : Same m h h7 := by (exact bySame)
 have k7 := k.same sm7 (Nat.le_refl _)
 have e7 : Els h7 pa (parts 0 nn j).length 3 (fun k => partC ((parts 0 nn j).getD k (0, 0, false))) := pi.same (m := h4.next) bySame fun h => (pr h).2
 have o4 : h4.next ≤ h7.next := by (exact byOm)
 have o1 : h.next + 1 < h7.next := by (exact byOm)
 have om : m ≤ h7.next := by (exact byOm)
 unfold partC at e7
 (refine byRun ?_)
 refine wp_loop (fun q : Nat => [(0, .int .i64 sl), (5, .pointer (some ⟨h.next + 1, 0, none⟩)), (8, .int .i64 (climbP (leaf x.text) ((parts 0 nn j).take q) (ys.take q))), (60, .slice pb (parts 0 nn j).length 0), (61, .int .i64 (parts 0 nn j).length), (62, .int .i64 q)]) (fun q h1 => Same h7.next h7 h1 ∧ h7.next ≤ h1.next ∧ q ≤ (parts 0 nn j).length) (fun q => (parts 0 nn j).length - q) 0 ⟨rfl, rfl, rfl, rfl, rfl, rfl, trivial⟩ ⟨bySame, byOm, by omega⟩ ?_
 rintro q g' h1 ⟨s1, n1, hq⟩ K hK
 by_cases hlt : q < (parts 0 nn j).length
 ·have e8 := e7.same s1 fun h => by have := pr h; omega
  have k8 := k7.same (s1.mono om) (Nat.le_refl _)
  have k1 := k8.i
  have ke := k.e
  have kr := k.r
  have y8 := (s1 _ o1).trans y2
  have pr' := pr byO
  have hyq := hyb _ (getD_mem (show q < ys.length by omega))
  have cb := climb_bd (ps := (parts 0 nn j).take q) (ys := ys.take q) (leaf_bd x.text)
  have hst := climb_take (z := leaf x.text) hlt hl
  have e9 := e8 q hlt
  dsimp only at e9
  cases hb : ((parts 0 nn j).getD q (0, 0, false)).2.2 with
  | true =>
    rw [hb] at e9 hst
    (refine byRun ?_)
    apply q_callv
    focus (exact byNext)
    focus (exact byLo)
    focus exact node_w hyq cb
    intro h8 q8 n8
    (refine byRun ?_)
    exact hK (q + 1) _ _ ⟨rfl, rfl, int_of rfl hst.symm, rfl, rfl, int_of rfl byO, trivial⟩ ⟨bySame, byOm, by omega⟩ byO
  | false =>
    rw [hb] at e9 hst
    (refine byRun ?_)
    apply q_callv
    focus (exact byNext)
    focus (exact byLo)
    focus exact node_w cb hyq
    intro h8 q8 n8
    (refine byRun ?_)
    exact hK (q + 1) _ _ ⟨rfl, rfl, int_of rfl hst.symm, rfl, rfl, int_of rfl byO, trivial⟩ ⟨bySame, byOm, by omega⟩ byO
 obtain rfl : q = (parts 0 nn j).length := by omega
 clear hK
 rw [List.take_length, List.take_of_length_le (show ys.length ≤ _ by omega)]
 by_cases hz : climbP (leaf x.text) (parts 0 nn j) ys = sl
 ·rw [if_neg (fun h => h hz), hz]
  (refine byRun ?_)
  (refine byFin ?_)
  rfl
 ·rw [if_pos hz]
  generalize climbP (leaf x.text) (parts 0 nn j) ys = zz at hz
  (refine byRun ?_)
  (refine byFin ?_)
  rfl
end AE.Tryz

/- The clerk's book replayed, in plain words. -/
namespace AE.Clerk

structure Mdl where
 no : Int
 stage : Int
 wax : Int
 runs : Int
 opn : Int
 billed : Int
 claimed : Int
 paid : Int
 loss : Int
deriving DecidableEq
structure Rn where
 at_ : Nat
 no : Int
 cost : Int
 back : Bool
deriving DecidableEq
structure St where
 stock : Int
 lost : Int
 ms : List Mdl
 rs : List Rn
deriving DecidableEq
def St.zero : St := ⟨0, 0, [], []⟩
def St.find (s : St) (n : Int) : Option Nat := s.ms.findIdx? fun m => decide (m.no = n)
def St.run (s : St) (n : Int) : Option Nat := s.rs.findIdx? fun r => decide ((r.at_ : Int) = n)
def drawn (x : Ln) : Mdl := ⟨x.m, 0, x.a, 0, 0, 0, 0, 0, (x.a * x.b + 999) / 1000⟩
def billR (n a : Int) (r : Rn) : Rn := if r.no = n ∧ r.cost = 0 then { r with cost := a } else r
def act (x : Ln) (at_ : Nat) (s : St) (i : Nat) (m : Mdl) : St × Int :=
 if x.k = 2 then
  if m.stage ≠ 0 then (s, 9) else if s.stock - m.wax - m.loss < 0 then (s, 10) else
  (⟨s.stock - (m.wax + m.loss), s.lost + m.loss, s.ms.set i { m with stage := 1 }, s.rs⟩, 0)
 else if x.k = 3 then
  if m.stage ≠ 1 then (s, 9) else (⟨s.stock, s.lost, s.ms.set i { m with runs := m.runs + 1, opn := m.opn + 1 }, s.rs ++ [⟨at_, x.m, 0, false⟩]⟩, 0)
 else if x.k = 4 then
  if m.stage ≠ 1 then (s, 9) else (⟨s.stock + m.wax, s.lost, s.ms.set i { m with stage := 2 }, s.rs⟩, 0)
 else if x.k = 5 then
  if m.opn = 0 then (s, 16) else (⟨s.stock, s.lost, s.ms.set i { m with billed := m.billed + m.opn * x.a, opn := 0 }, s.rs.map (billR x.m x.a)⟩, 0)
 else if x.k = 6 then
  if x.a > m.billed - m.claimed - m.paid then (s, 4) else (⟨s.stock, s.lost, s.ms.set i { m with paid := m.paid + x.a }, s.rs⟩, 0)
 else match s.run x.a with
  | none => (s, 23)
  | some j => match s.rs[j]? with
    | none => (s, 23)
    | some r => if r.cost = 0 ∨ r.back = true ∨ r.no ≠ x.m then (s, 23) else
      (⟨s.stock, s.lost, s.ms.set i { m with claimed := m.claimed + r.cost }, s.rs.set j { r with back := true }⟩, 0)
def step (x : Ln) (at_ : Nat) (s : St) : St × Int :=
 if x.k = 0 then (⟨s.stock + x.a, s.lost, s.ms, s.rs⟩, 0) else
 match s.find x.m with
 | none => if x.k = 1 then (⟨s.stock, s.lost, s.ms ++ [drawn x], s.rs⟩, 0) else (s, 5)
 | some i => match s.ms[i]? with
   | none => (s, 5)
   | some m => if x.k = 1 then (s, 11) else act x at_ s i m
def after (f : Nat → Ln) : Nat → St
 | 0 => .zero
 | n + 1 => (step (f n) n (after f n)).1
def errAt (f : Nat → Ln) (n : Nat) : Int := (step (f n) n (after f n)).2
theorem find_some {s : St} {n : Int} {i : Nat} (h : s.find n = some i) : ∃ m, s.ms[i]? = some m ∧ m.no = n := by
 unfold St.find at h
 rw [List.findIdx?_eq_some_iff_getElem] at h
 obtain ⟨hi, h1, -⟩ := h
 exact ⟨s.ms[i], by simp [hi], by simpa using h1⟩
end AE.Clerk

/- The clerk's file, in plain words. -/
namespace AE.Clerk

theorem dec_len_pow : ∀ {k n : Nat}, 1 ≤ k → n < 10 ^ k → (dec n).length ≤ k
 | 0, n, h, _ => by omega
 | 1, n, _, h => by rw [dec_lt byO]; simp
 | k + 2, n, _, h => by
   rcases Nat.lt_or_ge n 10 with h1 | h1
   ·rw [dec_lt h1]; simp
   ·rw [dec_ge h1, List.length_append]
    have e : 10 ^ (k + 2) = 10 ^ (k + 1) * 10 := Nat.pow_succ ..
    have := dec_len_pow (k := k + 1) (n := n / 10) byO byO
    simp
    omega
theorem sep_len14 {n : Int} (h : n ≤ 1099511627776) : (sep n).length ≤ 14 := by
 have h10 : (10 : Nat) ^ 13 = 10000000000000 := by decide
 have := dec_len_pow (k := 13) (n := n.toNat) byO byO
 simp only [sep, List.length_cons]
 omega
theorem text_len47 {x : Ln} (hv : x.Valid 1099511627776) : x.text.length ≤ 47 := by
 have hm : x.m ≤ 1099511627776 := by unfold Ln.Valid btw at hv; omega
 have ha : x.a ≤ 1099511627776 := by unfold Ln.Valid btw at hv; omega
 have hb : x.b ≤ 1099511627776 := by unfold Ln.Valid btw at hv; omega
 have hm2 := sep_len14 hm
 have ha2 := sep_len14 ha
 have hb2 := sep_len14 hb
 have hw : (word x.k).length ≤ 5 := by
  unfold word
  repeat' split
  all_goals simp
 unfold Ln.text Ln.nums
 split
 ·simp; omega
 split
 ·simp; omega
 split
 ·simp; omega
 ·simp; omega
def rowsN (f : Nat → Ln) : Nat → List Nat
 | 0 => []
 | n + 1 => rowsN f n ++ (f n).text ++ [10]
def sealW : List Nat := [115, 101, 97, 108]
def file (f : Nat → Ln) (n : Nat) : List Nat := rowsN f n ++ sealW ++ sep (root f 0 n) ++ [10]
theorem rowsN_len {f : Nat → Ln} : ∀ {n : Nat}, (∀ i, i < n → (f i).Valid 1099511627776) → (rowsN f n).length ≤ 48 * n
 | 0, _ => by simp [rowsN]
 | n + 1, h => by
   have h1 := rowsN_len (n := n) fun i hi => h i byO
   have h2 := text_len47 (h n byO)
   simp only [rowsN, List.length_append, List.length_cons, List.length_nil]
   omega
theorem rowsN_lt {f : Nat → Ln} : ∀ {n : Nat}, ∀ c ∈ rowsN f n, c < 256
 | 0, c, h => by simp [rowsN] at h
 | n + 1, c, h => by
   simp only [rowsN, List.mem_append, List.mem_singleton] at h
   rcases h with (h | h) | h
   ·exact rowsN_lt c h
   ·exact text_lt _ c h
   ·omega
theorem sep_lt {n : Int} : ∀ c ∈ sep n, c < 256 := fun c h => by rcases sep_byte c h with h | h <;> omega
theorem file_lt {f : Nat → Ln} {n : Nat} : ∀ c ∈ file f n, c < 256 := fun c h => by
 simp only [file, List.mem_append, List.mem_singleton] at h
 rcases h with ((h | h) | h) | h
 ·exact rowsN_lt c h
 ·simp [sealW] at h; omega
 ·exact sep_lt c h
 ·omega
theorem root_le (f : Nat → Ln) (a n : Nat) : root f a n ≤ 1099511627776 := by
 have := (root_bd f a n).2
 unfold P at this
 omega
theorem file_len {f : Nat → Ln} {n : Nat} (h : ∀ i, i < n → (f i).Valid 1099511627776) : (file f n).length ≤ 48 * n + 19 := by
 have h1 := rowsN_len h
 have h2 := sep_len14 (root_le f 0 n)
 simp only [file, List.length_append, List.length_cons, List.length_nil, sealW]
 omega
end AE.Clerk
