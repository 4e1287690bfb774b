/- Walks and plain laws: ClkX2, ClkD, ClkE, ClkF, ClkG. -/
import Derived.Test.YtcminnjimlopbaaGreatDoorJoin31
import Derived.Test.YtcminnjimlopbaaGreatDoorAEthree
set_option linter.unusedVariables false
set_option linter.unusedSimpArgs false
set_option linter.unusedSectionVars false

/- Clerk: Split and Join as calls of the evaluator. -/
namespace AE.Tryz
open Go AE Go.Proofs AE.Clerk Go.RowKit
set_option maxRecDepth 100000
set_option linter.unusedVariables false

theorem below_alloc0 (w : World) (o : Obj) : Below w.heap.size w (w.alloc o) := (Below.refl w.heap.size w).alloc (Nat.le_refl _) o
theorem split_w {h : H} {s : ByteArray} {c : UInt8} (hs : s.size ≤ 4294967280) : AW Tryz.prog 66 h.next h [.string s, .string ⟨#[c]⟩] (fun v h' => ∃ ps : List ByteArray, IsSplit c.toNat (nats s) (ps.map nats) ∧ v = .slice (some ⟨h.next, 0, none⟩) ps.length ps.length ∧ h' = (h.bump 1).put h.next (.cells (ps.map Value.string) 9)) := by
 have h1 : 1 ≤ (⟨#[c]⟩ : ByteArray).size := by simp [ByteArray.size]
 have hlen : (Lib.splitB ⟨#[c]⟩ 0 (Lib.countB s ⟨#[c]⟩) s).length = Lib.countB s ⟨#[c]⟩ + 1 := Lib.splitB_all ⟨#[c]⟩ h1 0 _ s rfl
 have hle := Lib.countB_le ⟨#[c]⟩ h1 s.size s (Nat.le_refl _)
 have his := splitB_is c _ s rfl
 refine ⟨_, _, ⟨Lib.splitB ⟨#[c]⟩ 0 (Lib.countB s ⟨#[c]⟩) s, his, rfl, rfl⟩, AF.of_belowNew (enters_of Tryz.func66 (by kernel_rfl) rfl) (flat_strs _) (Nat.le_refl _) (by rw [hlen]; unfold far; omega) (Nat.le_refl _) fun I w k i => ?_⟩
 refine (Tryz.split_one s c w byO).mono ?_
 rintro e w' ⟨rfl, rfl⟩
 rw [hlen]
 exact ⟨w.heap.size, Nat.le_refl _, AE.heap_alloc w _, below_alloc0 w _, rfl⟩
theorem join_map (sep : List UInt8) : ∀ xs : List (List UInt8), (Lib.join xs sep).map (·.toNat) = joinN (sep.map (·.toNat)) (xs.map fun x => x.map (·.toNat))
 | [] => rfl
 | x :: r => by
   rw [Lib.join_cons]
   simp only [joinN, List.map_cons, List.map_append, Lib.joinTail]
   congr 1
   rw [List.map_flatten, List.map_map, List.map_map]
   congr 1
   refine List.map_congr_left fun y _ => ?_
   simp
theorem join_w {h : H} {xs : List ByteArray} {sep : ByteArray} {a : Addr} {c n : Nat} (en : n = xs.length) (h2 : 2 ≤ xs.length) (hN : xs.length ≤ 1000000) (hc : c < far) (hl : h.loadN a n = some (xs.map Value.string)) (hlen : (joinN (nats sep) (xs.map nats)).length ≤ 140737488355328) :
 AW Tryz.prog 64 h.next h [.slice (some a) n c, .string sep] (fun v h' => v = .string (bs (joinN (nats sep) (xs.map nats))) ∧ h' = h) := by
 subst en
 have ej : (Lib.join (xs.map (·.data.toList)) sep.data.toList).map (·.toNat) = joinN (nats sep) (xs.map nats) := by
  rw [join_map, List.map_map]
  rfl
 refine ⟨_, h, ⟨rfl, rfl⟩, AF.of_below (enters_of Tryz.func64 (by kernel_rfl) rfl) rfl fun I W k i => ?_⟩
 simp only [InL] at i
 obtain ⟨bk, o, cp, e, h1, h3, h4⟩ := slice_cells k hc i.1 hl (flat_strs xs)
 simp only [renL, e]
 refine (Tryz.strings_Join_many bk o cp xs sep W (fun j z hj => h4 j _ (by simp [hj])) h3 h2 byO h1 (by rw [← ej, List.length_map] at hlen; exact hlen)).mono ?_
 rintro e w' ⟨rfl, b⟩
 refine ⟨?_, b⟩
 rw [← ej]
 congr 2
 exact (bs_nats _).symm
end AE.Tryz

/- Clerk, walked: the text of a line. -/
namespace AE.Tryz
open Go AE Go.Proofs AE.Clerk
set_option maxRecDepth 100000
set_option linter.unusedVariables false

theorem line_w3 {h : H} {w : ByteArray} {zs : List Int} {a : Addr} {r o n c : Nat} {cs : List Value} {e : TypeId} (hb : ∀ z ∈ zs, 0 ≤ z ∧ z ≤ 9223372036854775807) (ha : a = ⟨r, o, none⟩) (hg : h.get r = some (.cells cs e)) (hw : w.size ≤ 1000) (hn : zs.length ≤ 3) (en : n = zs.length) (hc : c < far) (hl : cut cs o n = some (zs.map (Value.int .i64))) :
 AW Tryz.prog 63 h.next h [.string w, .slice (some a) n c] (fun v h' => v = .string (bs (lineN (nats w) zs)) ∧ h' = h) := by
 subst ha
 exact line_w hw hn en hc (by simp only [H.loadN, hg, Option.bind_some, loadRow]; exact hl) hb
theorem text_line {x : Ln} {w : ByteArray} (hw : nats w = word x.k) : bs (lineN (nats w) x.nums) = bs x.text := by rw [hw]; rfl
set_option maxHeartbeats 4000000 in
theorem text_w {h : H} {x : Ln} (hv : x.Valid 1099511627776) : AW Tryz.prog 47 h.next h [.agg ⟨x.cells⟩] (fun v _ => v = .string (bs x.text)) := by
 have hk : x.k = 0 ∨ x.k = 1 ∨ x.k = 2 ∨ x.k = 3 ∨ x.k = 4 ∨ x.k = 5 ∨ x.k = 6 ∨ x.k = 7 := by unfold Ln.Valid at hv; omega
 have hb : ∀ z ∈ x.nums, 0 ≤ z ∧ z ≤ 9223372036854775807 := fun z hz => by
  unfold Ln.Valid btw at hv
  unfold Ln.nums at hz
  split at hz <;> (try split at hz) <;> (try split at hz) <;> simp at hz <;> omega
 have ht : ∀ w : ByteArray, nats w = word x.k → bs (lineN (nats w) x.nums) = bs x.text := fun w hw => text_line hw
 clear hv
 refine fun47.call rfl (Nat.le_refl _) ?_
 obtain ⟨k, m, a, b⟩ := x
 unfold a47 Ln.cells
 dsimp only at hk ht ⊢
 rcases hk with rfl | rfl | rfl | rfl | rfl | rfl | rfl | rfl
 all_goals (focus ((try with_reducible apply wpC.to); (repeat' ((conv => whnf); first | refine byEv ?_ | (apply Fork.mk <;> (intro _; try (exfalso; omega))) | ((apply q_call); (focus exact byNext); (focus exact byLo); (focus (exact kClkC0)); first | ((apply q_allB) <;> (intro z_b _ _ _; first | exact Bool.noConfusion z_b | replace z_b := of_decide_eq_true z_b | replace z_b := of_decide_eq_false z_b | skip) <;> ((try (unfold btw at z_b)); first | contradiction | (revert z_b; intros))) | ((apply q_alli) <;> intro _ _ _ _ <;> try contradiction) | (apply q_allv; intro _ _ _)) | fail)); all_goals ((conv => whnf); try with_reducible apply At.mk)))
 all_goals (
  apply q_call
  focus (exact byNext)
  focus (exact byLo)
  focus
   apply line_w3
   focus exact hb
   focus exact rfl
   focus (exact byGet)
   focus decide
   focus exact Nat.le_of_ble_eq_true rfl
   focus exact rfl
   focus (unfold far; decide)
   focus exact rfl
  rintro v h2 ⟨rfl, rfl⟩ q n
  rw [ht _ rfl]
  (refine byRun ?_)
  (refine byFin ?_)
  rfl)
end AE.Tryz

/- Clerk, walked: which lines are a book. -/
namespace AE.Tryz
open Go AE Go.Proofs AE.Clerk
set_option maxRecDepth 100000
set_option linter.unusedVariables false

structure Bk where
 n : Nat
 f : Nat → Ln
 b : Option Addr
 a : Addr
 c : Nat
def Bk.val (B : Bk) : Value := .slice B.b B.n B.c
structure Bk.Ok (B : Bk) (m : Nat) (h : H) : Prop where
 e : 0 < B.n → B.b = some B.a
 i : Els h B.a B.n 4 (fun k => (B.f k).cells)
 r : 0 < B.n → B.a.block < m
 l : B.n ≤ 9223372036854775807
 g : 0 < B.n → SlG B.a B.n B.c
theorem Bk.Ok.same {T : Bk} {m m' : Nat} {h h' : H} (k : T.Ok m h) (s : Same m h h') (hm : m ≤ m') : T.Ok m' h' :=
 ⟨k.e, k.i.same s k.r, fun h => by have := k.r h; omega, k.l, k.g⟩
def AllV (n : Nat) (f : Nat → Ln) : Prop := ∀ i, i < n → (f i).Valid 1099511627776
instance (n : Nat) (f : Nat → Ln) : Decidable (AllV n f) := by unfold AllV; infer_instance
def bookErr (n : Nat) (f : Nat → Ln) : Int := if 60 < n then 6 else if AllV n f then 0 else 2
theorem kClkE0 {G : Prop} (g : G := by (exact rvalid_w)) : G := g
theorem kClkE1 {G : Prop} (g : G := by (exact valid_w)) : G := g
theorem check1_w {h : H} {x : Ln} : AW Tryz.prog 44 h.next h [.agg ⟨x.cells⟩] (fun v _ => v = .bool (decide (¬ x.Valid 1099511627776))) := by
 refine fun44.call rfl (Nat.le_refl _) ?_
 unfold a44 Ln.cells
 by_cases hv : x.Valid 1099511627776
 ·(focus ((try with_reducible apply wpC.to); (repeat' ((conv => whnf); first | refine byEv ?_ | ((apply q_call); (focus exact byNext); (focus exact byLo); (focus (exact kClkE1)); first | ((apply q_allB) <;> (intro z_b _ _ _; first | exact Bool.noConfusion z_b | replace z_b := of_decide_eq_true z_b | replace z_b := of_decide_eq_false z_b | skip) <;> ((try (unfold btw at z_b)); first | contradiction | (revert z_b; intros))) | ((apply q_alli) <;> intro _ _ _ _ <;> try contradiction) | (apply q_allv; intro _ _ _)) | fail)); all_goals ((conv => whnf); try with_reducible apply At.mk)))
  (refine byFin ?_); exact bool_f rfl (by simpa using hv)
 ·(focus ((try with_reducible apply wpC.to); (repeat' ((conv => whnf); first | refine byEv ?_ | ((apply q_call); (focus exact byNext); (focus exact byLo); (focus (exact kClkE1)); first | ((apply q_allB) <;> (intro z_b _ _ _; first | exact Bool.noConfusion z_b | replace z_b := of_decide_eq_true z_b | replace z_b := of_decide_eq_false z_b | skip) <;> ((try (unfold btw at z_b)); first | contradiction | (revert z_b; intros))) | ((apply q_alli) <;> intro _ _ _ _ <;> try contradiction) | (apply q_allv; intro _ _ _)) | fail)); all_goals ((conv => whnf); try with_reducible apply At.mk)))
  (refine byFin ?_); exact bool_t rfl hv
theorem kClkE2 {G : Prop} (g : G := by (exact check1_w)) : G := g
theorem index_w {h : H} {B : Bk} {m : Nat} (hm : m ≤ h.next) (hB : B.Ok m h) : AW Tryz.prog 77 h.next h [.slice B.b B.n B.c, fnV 44] (fun v _ => ∃ z : Int, v = .int .i64 z ∧ -1 ≤ z ∧ (0 ≤ z ↔ ¬ AllV B.n B.f)) := by
 obtain ⟨e1, i1, r1, l1, -⟩ := hB
 refine fun77.call rfl (Nat.le_refl _) ?_
 unfold a77 fnV
 (refine byRun ?_)
 refine wp_loop (fun k : Nat => [(0, .slice B.b B.n B.c), (1, fnV 44), (7, .int .i64 B.n), (8, .int .i64 k)]) (fun k h1 => Same h.next h h1 ∧ h.next ≤ h1.next ∧ k ≤ B.n ∧ AllV k B.f) (fun k => B.n - k) 0 ⟨rfl, rfl, rfl, rfl, trivial⟩ ⟨bySame, byOm, by omega, fun i hi => by omega⟩ ?_
 rintro k g h1 ⟨s1, hn1, hk, hall⟩ K hK
 unfold fnV
 by_cases hlt : k < B.n
 ·by_cases hv : (B.f k).Valid 1099511627776
  ·(focus ((try with_reducible apply wpC.to); (repeat' ((conv => whnf); first | refine byEv ?_ | (apply Fork.mk <;> (intro _; try (exfalso; omega))) | ((apply q_call); (focus exact byNext); (focus exact byLo); (focus (first | exact kClkE2 | exact kClkB0)); first | ((apply q_allB) <;> (intro z_b _ _ _; first | exact Bool.noConfusion z_b | replace z_b := of_decide_eq_true z_b | replace z_b := of_decide_eq_false z_b | skip) <;> ((try (unfold btw at z_b)); first | contradiction | (revert z_b; intros))) | ((apply q_alli) <;> intro _ _ _ _ <;> try contradiction) | (apply q_allv; intro _ _ _)) | fail)); all_goals ((conv => whnf); try with_reducible apply At.mk)))
   exact hK (k + 1) _ _ ⟨rfl, rfl, rfl, int_of rfl byO, trivial⟩ ⟨bySame, byOm, by omega, fun i hi => by
    by_cases e : i = k
    ·subst e; exact hv
    ·exact hall i byO⟩ byO
  ·(focus ((try with_reducible apply wpC.to); (repeat' ((conv => whnf); first | refine byEv ?_ | (apply Fork.mk <;> (intro _; try (exfalso; omega))) | ((apply q_call); (focus exact byNext); (focus exact byLo); (focus (first | exact kClkE2 | exact kClkB0)); first | ((apply q_allB) <;> (intro z_b _ _ _; first | exact Bool.noConfusion z_b | replace z_b := of_decide_eq_true z_b | replace z_b := of_decide_eq_false z_b | skip) <;> ((try (unfold btw at z_b)); first | contradiction | (revert z_b; intros))) | ((apply q_alli) <;> intro _ _ _ _ <;> try contradiction) | (apply q_allv; intro _ _ _)) | fail)); all_goals ((conv => whnf); try with_reducible apply At.mk)))
   (refine byFin ?_)
   exact ⟨_, rfl, by omega, ⟨fun _ h => hv (h k hlt), fun _ => by omega⟩⟩
 ·obtain rfl : k = B.n := by omega
  clear hK
  (refine byRun ?_)
  (refine byFin ?_)
  exact ⟨_, rfl, by omega, ⟨fun h => by omega, fun h => absurd hall h⟩⟩
end AE.Tryz

/- Clerk, walked: CheckBook. -/
namespace AE.Tryz
open Go AE Go.Proofs AE.Clerk
set_option maxRecDepth 100000
set_option linter.unusedVariables false

theorem contains_w {h : H} {B : Bk} {m : Nat} (hm : m ≤ h.next) (hB : B.Ok m h) : AW Tryz.prog 43 h.next h [.slice B.b B.n B.c, fnV 44] (fun v _ => v = .bool (decide (¬ AllV B.n B.f))) := by
 refine fun43.call rfl (Nat.le_refl _) ?_
 unfold a43
 (refine byRun ?_)
 apply q_call
 focus (exact byNext)
 focus (exact byLo)
 focus exact index_w (m := m) byOm (hB.same (m' := m) bySame (Nat.le_refl _))
 rintro v h2 ⟨z, rfl, h1, h3⟩ q n
 by_cases hz : 0 ≤ z
 ·(refine byRun ?_)
  (refine byFin ?_); exact bool_t rfl (h3.1 hz)
 ·(refine byRun ?_)
  (refine byFin ?_); exact bool_f rfl (fun h => hz (h3.2 h))
theorem checkBook_w {h : H} {B : Bk} {m : Nat} (hm : m ≤ h.next) (hB : B.Ok m h) : AW Tryz.prog 17 h.next h [.slice B.b B.n B.c] (fun v _ => v = .int .i64 (bookErr B.n B.f)) := by
 refine fun17.call rfl (Nat.le_refl _) ?_
 unfold a17 bookErr
 have l1 := hB.l
 by_cases hn : 60 < B.n
 ·(refine byRun ?_)
  (refine byFin ?_); rw [if_pos hn]
 rw [if_neg hn]
 (refine byRun ?_)
 apply q_callv
 focus (exact byNext)
 focus (exact byLo)
 focus exact contains_w (m := m) byOm (hB.same (m' := m) bySame (Nat.le_refl _))
 intro h2 q n
 by_cases ha : AllV B.n B.f
 ·rw [decide_eq_false (fun h => h ha)]
  (refine byRun ?_)
  (refine byFin ?_); rw [if_pos ha]
 ·rw [decide_eq_true ha]
  (refine byRun ?_)
  (refine byFin ?_); rw [if_neg ha]
theorem rcheckBook_w {h : H} {B : Bk} {m : Nat} (hm : m ≤ h.next) (hB : B.Ok m h) : AW Tryz.prog 18 h.next h [.slice B.b B.n B.c] (fun v _ => v = .int .i64 (bookErr B.n B.f)) := by
 obtain ⟨e1, i1, r1, l1, -⟩ := hB
 refine fun18.call rfl (Nat.le_refl _) ?_
 unfold a18 bookErr
 by_cases hn : 60 < B.n
 ·(refine byRun ?_)
  (refine byFin ?_); rw [if_pos hn]
 rw [if_neg hn]
 (refine byRun ?_)
 refine wp_loop (fun k : Nat => [(0, .slice B.b B.n B.c), (3, .int .i64 k)]) (fun k h1 => Same h.next h h1 ∧ h.next ≤ h1.next ∧ k ≤ B.n ∧ AllV k B.f) (fun k => B.n - k) 0 ⟨rfl, rfl, trivial⟩ ⟨bySame, byOm, by omega, fun i hi => by omega⟩ ?_
 rintro k g h1 ⟨s1, hn1, hk, hall⟩ K hK
 by_cases hlt : k < B.n
 ·by_cases hv : (B.f k).Valid 1099511627776
  ·(focus ((try with_reducible apply wpC.to); (repeat' ((conv => whnf); first | refine byEv ?_ | (apply Fork.mk <;> (intro _; try (exfalso; omega))) | ((apply q_call); (focus exact byNext); (focus exact byLo); (focus (exact kClkE0)); first | ((apply q_allB) <;> (intro z_b _ _ _; first | exact Bool.noConfusion z_b | replace z_b := of_decide_eq_true z_b | replace z_b := of_decide_eq_false z_b | skip) <;> ((try (unfold btw at z_b)); first | contradiction | (revert z_b; intros))) | ((apply q_alli) <;> intro _ _ _ _ <;> try contradiction) | (apply q_allv; intro _ _ _)) | fail)); all_goals ((conv => whnf); try with_reducible apply At.mk)))
   exact hK (k + 1) _ _ ⟨rfl, int_of rfl byO, trivial⟩ ⟨bySame, byOm, by omega, fun i hi => by
    by_cases e : i = k
    ·subst e; exact hv
    ·exact hall i byO⟩ byO
  ·(focus ((try with_reducible apply wpC.to); (repeat' ((conv => whnf); first | refine byEv ?_ | (apply Fork.mk <;> (intro _; try (exfalso; omega))) | ((apply q_call); (focus exact byNext); (focus exact byLo); (focus (exact kClkE0)); first | ((apply q_allB) <;> (intro z_b _ _ _; first | exact Bool.noConfusion z_b | replace z_b := of_decide_eq_true z_b | replace z_b := of_decide_eq_false z_b | skip) <;> ((try (unfold btw at z_b)); first | contradiction | (revert z_b; intros))) | ((apply q_alli) <;> intro _ _ _ _ <;> try contradiction) | (apply q_allv; intro _ _ _)) | fail)); all_goals ((conv => whnf); try with_reducible apply At.mk)))
   (refine byFin ?_)
   rw [if_neg (fun h => hv (h k hlt))]
 ·obtain rfl : k = B.n := by omega
  clear hK
  (refine byRun ?_)
  (refine byFin ?_)
  rw [if_pos hall]
def Good (n : Nat) (f : Nat → Ln) : Prop := n ≤ 60 ∧ AllV n f
instance (n : Nat) (f : Nat → Ln) : Decidable (Good n f) := by unfold Good; infer_instance
theorem bookErr_ok {n : Nat} {f : Nat → Ln} : bookErr n f = 0 ↔ Good n f := by
 unfold bookErr Good
 split
 ·constructor <;> intro h <;> omega
 ·split
  ·rename_i h1 h2; exact ⟨fun _ => ⟨by omega, h2⟩, fun _ => rfl⟩
  ·rename_i h1 h2; exact ⟨fun h => by omega, fun h => absurd h.2 h2⟩
end AE.Tryz

/- Clerk, walked: the text of a line by the definitions; Text. -/
namespace AE
open Go
section
variable {P : Program} {ts : Ts} {o : Oper} {lo nid : Nat} {h : H} {k : Value → H → Prop}
theorem lit_bs (l : List UInt8) : (⟨⟨l⟩⟩ : ByteArray) = bs (l.map (·.toNat)) := by simp [bs, Function.comp_def]
theorem q_catB {t c : TypeId} {x y : Operand} {a b : ByteArray} {la lb : List Nat} (ho : o.op = .binOp .add t x y c) (hx : evR ts x = .string a) (hy : evR ts y = .string b) (ea : a = bs la) (eb : b = bs lb) (hl : la.length + lb.length ≤ 9223372036854775807) (hk : k (.string (bs (la ++ lb))) h) : OpE P lo nid ts h (.pure o) k := by
 subst ea eb
 refine OpE.pure _ (xPure_cat ho hx hy (by rw [bs_len, bs_len]; exact hl)) ?_
 rw [← bs_append]; exact hk
end
end AE
namespace AE.Tryz
open Go AE Go.Proofs AE.Clerk
set_option maxRecDepth 100000
set_option linter.unusedVariables false

theorem dec_len_le (n : Nat) : (dec n).length ≤ n + 1 := by
 induction n using Nat.strongRecOn with
 | ind n ih =>
   rcases Nat.lt_or_ge n 10 with h | h
   ·rw [dec_lt h]; simp
   ·rw [dec_ge h]
    have := ih (n / 10) byO
    simp only [List.length_append, List.length_cons, List.length_nil]
    omega
theorem sep_len (n : Int) (h : n ≤ 1099511627776) : (sep n).length ≤ 1099511627778 := by
 have := dec_len_le n.toNat
 simp only [sep, List.length_cons]
 omega
theorem formatInt_v {h : H} {n : Int} (h0 : 0 ≤ n) (h1 : n ≤ 9223372036854775807) : AW Tryz.prog 88 h.next h [.int .i64 n, .int .i64 10] (fun v _ => v = .string (bs (dec n.toNat))) := by
 obtain ⟨v, h', ⟨e, -⟩, a⟩ := formatInt_w (h := h) h0 h1
 exact ⟨v, h', e, a⟩
theorem kClkG0 {G : Prop} (g : G := by (exact formatInt_v byO byO)) : G := g
theorem xClkG0 {G G' : Prop} (g : G') (t : G' → G := by (((with_reducible apply q_catB); (focus exact rfl); (focus exact rfl); (focus exact rfl); (focus first | exact rfl | exact lit_bs _); (focus first | exact rfl | exact lit_bs _); (focus ((try simp only [List.length_append, List.length_map, List.length_cons, List.length_nil, bs_len]); omega))))) : G := t g
theorem digits_w {h : H} {n : Int} (h0 : 0 ≤ n) (h1 : n ≤ 1099511627776) : AW Tryz.prog 65 h.next h [.int .i64 n] (fun v _ => v = .string (bs (sep n))) := by
 have := dec_len_le n.toNat
 refine fun65.call rfl (Nat.le_refl _) ?_
 unfold a65
 (focus ((try with_reducible apply wpC.to); (repeat' ((conv => whnf); first | refine byEv ?_ | ((apply q_call); (focus exact byNext); (focus exact byLo); (focus (exact kClkG0)); first | ((apply q_allB) <;> (intro z_b _ _ _; first | exact Bool.noConfusion z_b | replace z_b := of_decide_eq_true z_b | replace z_b := of_decide_eq_false z_b | skip) <;> ((try (unfold btw at z_b)); first | contradiction | (revert z_b; intros))) | ((apply q_alli) <;> intro _ _ _ _ <;> try contradiction) | (apply q_allv; intro _ _ _)) | refine xClkG0 ?_ | ((apply q_cmpk); (focus exact rfl); (focus exact rfl); (focus exact rfl); (focus exact rfl); (all_goals (intro hb; first | (replace hb := of_decide_eq_true hb) | (replace hb := of_decide_eq_false hb))); (all_goals (try (exfalso; omega; done))); (all_goals (revert hb; intros))) | refine xAEStrN3 ?_ | ((apply q_streq); (focus exact rfl); (focus exact rfl); (focus exact rfl); (focus exact rfl); (all_goals (intro hb; first | (replace hb := of_decide_eq_true hb) | (replace hb := of_decide_eq_false hb))); (all_goals (try contradiction)); (all_goals (revert hb; intros))) | refine xAEStrN1 ?_ | refine xAEStrN0 ?_ | fail)); all_goals ((conv => whnf); try with_reducible apply At.mk)))
 (refine byFin ?_)
 rfl
theorem kClkG4 {G : Prop} (g : G := by (exact digits_w byO byO)) : G := g
set_option maxHeartbeats 4000000 in
theorem rtext_w {h : H} {x : Ln} (hv : x.Valid 1099511627776) : AW Tryz.prog 48 h.next h [.agg ⟨x.cells⟩] (fun v _ => v = .string (bs x.text)) := by
 have hk : x.k = 0 ∨ x.k = 1 ∨ x.k = 2 ∨ x.k = 3 ∨ x.k = 4 ∨ x.k = 5 ∨ x.k = 6 ∨ x.k = 7 := by unfold Ln.Valid at hv; omega
 have hm : 0 ≤ x.m ∧ x.m ≤ 1099511627776 := by unfold Ln.Valid btw at hv; omega
 have ha : 0 ≤ x.a ∧ x.a ≤ 1000000000 := by unfold Ln.Valid btw at hv; omega
 have hb : 0 ≤ x.b ∧ x.b ≤ 1000000 := by unfold Ln.Valid btw at hv; omega
 clear hv
 refine fun48.call rfl (Nat.le_refl _) ?_
 obtain ⟨k, m, a, b⟩ := x
 unfold a48 Ln.cells
 dsimp only at hk hm ha hb ⊢
 have hm2 := sep_len m hm.2
 have ha2 := sep_len a byO
 have hb2 := sep_len b byO
 rcases hk with rfl | rfl | rfl | rfl | rfl | rfl | rfl | rfl
 all_goals (focus ((try with_reducible apply wpC.to); (repeat' ((conv => whnf); first | refine byEv ?_ | (apply Fork.mk <;> (intro _; try (exfalso; omega))) | ((apply q_call); (focus exact byNext); (focus exact byLo); (focus (exact kClkG4)); first | ((apply q_allB) <;> (intro z_b _ _ _; first | exact Bool.noConfusion z_b | replace z_b := of_decide_eq_true z_b | replace z_b := of_decide_eq_false z_b | skip) <;> ((try (unfold btw at z_b)); first | contradiction | (revert z_b; intros))) | ((apply q_alli) <;> intro _ _ _ _ <;> try contradiction) | (apply q_allv; intro _ _ _)) | refine xClkG0 ?_ | ((apply q_cmpk); (focus exact rfl); (focus exact rfl); (focus exact rfl); (focus exact rfl); (all_goals (intro hb; first | (replace hb := of_decide_eq_true hb) | (replace hb := of_decide_eq_false hb))); (all_goals (try (exfalso; omega; done))); (all_goals (revert hb; intros))) | refine xAEStrN3 ?_ | ((apply q_streq); (focus exact rfl); (focus exact rfl); (focus exact rfl); (focus exact rfl); (all_goals (intro hb; first | (replace hb := of_decide_eq_true hb) | (replace hb := of_decide_eq_false hb))); (all_goals (try contradiction)); (all_goals (revert hb; intros))) | refine xAEStrN1 ?_ | refine xAEStrN0 ?_ | fail)); all_goals ((conv => whnf); try with_reducible apply At.mk)))
 all_goals (
  (refine byFin ?_)
  simp [Ln.text, Ln.nums, word, List.append_assoc])
end AE.Tryz
