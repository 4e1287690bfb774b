/- Walks and plain laws: ClkLa, ClkKeys, ClkRf. -/
import Derived.Test.YtcminnjimlopbaaGreatDoorJoin10
import Derived.Test.YtcminnjimlopbaaGreatDoorJoin27
import Derived.Test.YtcminnjimlopbaaGreatDoorClkLays
import Derived.Shelf.SlIterI.Nil
import Derived.Shelf.SortM.Plain
import Derived.Shelf.SortM.SortNone
import Derived.Ground.GgzProg
import Derived.Ground.SlgmProg
import Derived.Test.YtcminnjimlopbaaGreatDoorJoin31
set_option linter.unusedVariables false
set_option linter.unusedSimpArgs false
set_option linter.unusedSectionVars false

/- Clerk, walked: the laws' own comparisons (same, errnos, longs, near), Line, Book. -/
namespace AE.Tryz
open Go AE Go.Proofs AE.Clerk
set_option maxRecDepth 100000
set_option linter.unusedVariables false

theorem q_lnneq {lo nid : Nat} {ts : Ts} {h : H} {k : Value → H → Prop} {o : Oper} {x y : Operand} {c : TypeId} {a b : Ln} (ho : o.op = .binOp .neq 38 x y c) (hx : evR ts x = .agg ⟨a.cells⟩) (hy : evR ts y = .agg ⟨b.cells⟩) (hk : k (.bool (!(decide (a = b)))) h) : OpE Tryz.prog lo nid ts h (.pure o) k :=
 OpE.pure _ (xPure_neq ho hx hy rfl rfl (by kernel_rfl) (ln_eq a b)) hk
def SameB (n : Nat) (f g : Nat → Ln) : Prop := ∀ i, i < n → f i = g i
instance (n : Nat) (f g : Nat → Ln) : Decidable (SameB n f g) := by unfold SameB; infer_instance
theorem same_w {h : H} {B C : Bk} {m : Nat} (hm : m ≤ h.next) (hB : B.Ok m h) (hC : C.Ok m h) : AW Tryz.prog 34 h.next h [.slice B.b B.n B.c, .slice C.b C.n C.c] (fun v _ => v = .bool (decide (B.n = C.n ∧ SameB B.n B.f C.f))) := by
 obtain ⟨e1, i1, r1, l1, -⟩ := hB
 obtain ⟨e2, i2, r2, l2, -⟩ := hC
 refine fun34.call rfl (Nat.le_refl _) ?_
 unfold a34
 by_cases hn : B.n = C.n
 rotate_left
 ·(refine byRunP ?_)
  (refine byFin ?_); exact bool_f rfl (fun h => hn h.1)
 (refine byRunP ?_)
 refine wp_loop (fun k : Nat => [(0, .slice B.b B.n B.c), (1, .slice C.b C.n C.c), (5, .int .i64 k)]) (fun k h1 => Same h.next h h1 ∧ h.next ≤ h1.next ∧ k ≤ B.n ∧ SameB k B.f C.f) (fun k => B.n - k) 0 ⟨rfl, rfl, rfl, trivial⟩ ⟨bySame, byOm, by omega, fun i hi => by omega⟩ ?_
 rintro k g h1 ⟨s1, hn1, hk, hall⟩ K hK
 by_cases hlt : k < B.n
 ·(refine byRunP ?_)
  apply q_lnneq (a := B.f k) (b := C.f k) rfl
  focus exact rfl
  focus exact rfl
  by_cases hv : B.f k = C.f k
  ·rw [decide_eq_true hv]
   (refine byRunP ?_)
   exact hK (k + 1) _ _ ⟨rfl, rfl, int_of rfl byO, trivial⟩ ⟨bySame, byOm, by omega, fun i hi => by
    by_cases e : i = k
    ·subst e; exact hv
    ·exact hall i byO⟩ byO
  ·rw [decide_eq_false hv]
   (refine byRunP ?_)
   (refine byFin ?_); exact bool_f rfl (fun h => hv (h.2 k hlt))
 ·obtain rfl : k = B.n := by omega
  clear hK
  (refine byRunP ?_)
  (refine byFin ?_); exact bool_t rfl ⟨hn, hall⟩
structure Ns where
 n : Nat
 f : Nat → Int
 b : Option Addr
 a : Addr
 c : Nat
structure Ns.Ok (B : Ns) (m : Nat) (h : H) : Prop where
 e : 0 < B.n → B.b = some B.a
 i : Ints h B.a B.n B.f
 r : 0 < B.n → B.a.block < m
 l : B.n ≤ 9223372036854775807
theorem Ns.Ok.same {T : Ns} {m m' : Nat} {h h' : H} (k : T.Ok m h) (s : Same m h h') (hm : m ≤ m') : T.Ok m' h' :=
 ⟨k.e, k.i.same s k.r, fun h => by have := k.r h; omega, k.l⟩
def SameI (n : Nat) (f g : Nat → Int) : Prop := ∀ i, i < n → f i = g i
instance (n : Nat) (f g : Nat → Int) : Decidable (SameI n f g) := by unfold SameI; infer_instance
theorem longs_w {h : H} {B C : Ns} {m : Nat} (hm : m ≤ h.next) (hB : B.Ok m h) (hC : C.Ok m h) : AW Tryz.prog 27 h.next h [.slice B.b B.n B.c, .slice C.b C.n C.c] (fun v _ => v = .bool (decide (B.n = C.n ∧ SameI B.n B.f C.f))) := by
 obtain ⟨e1, i1, r1, l1⟩ := hB
 obtain ⟨e2, i2, r2, l2⟩ := hC
 refine fun27.call rfl (Nat.le_refl _) ?_
 unfold a27
 by_cases hn : B.n = C.n
 rotate_left
 ·(refine byRun ?_)
  (refine byFin ?_); exact bool_f rfl (fun h => hn h.1)
 (refine byRun ?_)
 refine wp_loop (fun k : Nat => [(0, .slice B.b B.n B.c), (1, .slice C.b C.n C.c), (5, .int .i64 k)]) (fun k h1 => Same h.next h h1 ∧ h.next ≤ h1.next ∧ k ≤ B.n ∧ SameI k B.f C.f) (fun k => B.n - k) 0 ⟨rfl, rfl, rfl, trivial⟩ ⟨bySame, byOm, by omega, fun i hi => by omega⟩ ?_
 rintro k g h1 ⟨s1, hn1, hk, hall⟩ K hK
 by_cases hlt : k < B.n
 ·by_cases hv : B.f k = C.f k
  ·(refine byRun ?_)
   exact hK (k + 1) _ _ ⟨rfl, rfl, int_of rfl byO, trivial⟩ ⟨bySame, byOm, by omega, fun i hi => by
    by_cases e : i = k
    ·subst e; exact hv
    ·exact hall i byO⟩ byO
  ·(refine byRun ?_)
   (refine byFin ?_); exact bool_f rfl (fun h => hv (h.2 k hlt))
 ·obtain rfl : k = B.n := by omega
  clear hK
  (refine byRun ?_)
  (refine byFin ?_); exact bool_t rfl ⟨hn, hall⟩
theorem ln_w {h : H} {x : Ln} : AW Tryz.prog 39 h.next h [.int .i64 x.k, .int .i64 x.m, .int .i64 x.a, .int .i64 x.b] (fun v _ => v = .agg ⟨x.cells⟩) := by
 refine fun39.call rfl (Nat.le_refl _) ?_
 unfold a39
 (refine byRun ?_)
 (refine byFin ?_)
 rfl
def bookL : List Ln := [⟨0, 0, 1000, 0⟩, ⟨1, 7, 600, 50⟩, ⟨2, 7, 0, 0⟩, ⟨3, 7, 1500, 32⟩, ⟨5, 7, 100, 0⟩, ⟨6, 7, 60, 0⟩, ⟨7, 7, 3, 0⟩, ⟨3, 7, 1600, 40⟩, ⟨4, 7, 0, 0⟩, ⟨3, 7, 1700, 50⟩, ⟨1, 7, 5, 5⟩, ⟨2, 8, 0, 0⟩]
def bookF (i : Nat) : Ln := bookL.getD i ⟨0, 0, 0, 0⟩
theorem kClkLa0 {G : Prop} (g : G := by (exact ln_w (x := ⟨_, _, _, _⟩))) : G := g
theorem book_w {h : H} : AW Tryz.prog 38 h.next h [] (fun v h' => ∃ r, v = .slice (some ⟨r, 0, none⟩) 12 12 ∧ h'.get r = some (.cells (bookL.flatMap Ln.cells) 38) ∧ h.next ≤ r ∧ r < h'.next) := by
 refine fun38.call rfl (Nat.le_refl _) ?_
 unfold a38
 (focus ((try with_reducible apply wpC.to); (repeat' ((conv => whnf); first | refine byEv ?_ | ((apply q_call); (focus exact byNext); (focus exact byLo); (focus (exact kClkLa0)); first | ((apply q_allB) <;> (intro z_b _ _ _; first | exact Bool.noConfusion z_b | replace z_b := of_decide_eq_true z_b | replace z_b := of_decide_eq_false z_b | skip) <;> ((try (unfold btw at z_b)); first | contradiction | (revert z_b; intros))) | ((apply q_alli) <;> intro _ _ _ _ <;> try contradiction) | (apply q_allv; intro _ _ _)) | fail)); all_goals ((conv => whnf); try with_reducible apply At.mk)))
 (refine byFin ?_)
 exact ⟨_, rfl, byGet, by omega, byOm⟩
end AE.Tryz

/- Clerk: slices.Sorted(maps.Keys(m)) at int64 keys, in the world. -/
namespace Go.Proofs
open Go.RowKit Go.Maps Go.Sort Go.Shelf
theorem Tryz.sortsA (m : Nat) : AnyZI.SortsIn Tryz.prog Tryz.sortedA_ren Fence.wide m :=
 ⟨fun blk off cap ss W hH hblk hsz => callsIn_wide.2 (AnyM.slices_Sort_int Tryz.sortA blk off cap ss W hH hblk hsz),
  fun p cap W => callsIn_wide.2 (AnyM.slices_Sort_int_none Tryz.sortA p cap W)⟩
def anyR : Value → Option (DataW Nat × List MemPlace) := fun _ => some (.nil, [])
theorem Tryz.sortedD (w : World) (bm b nn : Nat) (D0 : DataW Nat) (hbm : bm < w.heap.size) (hcell : w.cell? ⟨bm, 0, none⟩ = some (.map (some b))) (hown : w.ownsMap Tryz.prog 2 anyR b nn D0) (hmax : Maps.size D0 ≤ maxLen) (hbytes : Maps.size D0 * 8 ≤ 140737488355328) :
 Calls Tryz.prog 75 #[.func (.func 107) #[] #[.pointer (some ⟨bm, 0, none⟩)]] w fun e w' => ∃ (v : Value) (ss : List Int), e = .returned v ∧ ss.Perm (intKeys D0) ∧
  w'.ownsRow w.heap.size 2 1 v ss.length ((ss.mergeSort (fun x y => decide (x ≤ y))).map encZ) ∧ (v = .slice none 0 0 ↔ ss = []) ∧ Below w.heap.size w w' := by
 refine (callsIn_wide (n := 5)).1 ?_
 have hseq : SeqGives Fence.wide 2 Tryz.prog 107 #[.pointer (some ⟨bm, 0, none⟩)] encZ (fun ss => ss.Perm (intKeys D0)) (Maps.size D0) w :=
  AnyZI.keys_gives (ρ := Tryz.keysA_ren) { Tryz.keysA with } Fence.wide _ trivial rfl byO bm b nn D0 w hbm hcell hown
 have cS := AnyZI.sorted_in Tryz.sortedA Fence.wide 5 trivial trivial trivial trivial rfl byO (Tryz.sortsA _) (enters_of Tryz.func106 (by kernel_rfl) rfl) 107 #[.pointer (some ⟨bm, 0, none⟩)] trivial (enters_of Tryz.func107 (by kernel_rfl) rfl) _ _ hmax hbytes w hseq
 exact cS
end Go.Proofs

/- Clerk: what Read made is a book; the file of the rows. -/
namespace AE.Tryz
open Go AE Go.Proofs AE.Clerk
set_option maxRecDepth 100000
set_option linter.unusedVariables false

def IsFile (l : List Nat) (f : Nat → Ln) (n z : Nat) : Prop := Good n f ∧ (z : Int) < Clerk.P ∧ l = fileZ f n z
theorem gx_bk {h : H} {r m n : Nat} {f : Nat → Ln} (g : GX r h 38 4 n (rowsOf (fun i => (f i).cells) n)) (hn : n ≤ 100) (hr : 0 < n → r < m) : ∃ a, Bk.Ok ⟨n, f, addrX r n, a, 0⟩ m h := by
 rcases Nat.eq_zero_or_pos n with h0 | h0
 ·subst h0
  exact ⟨⟨0, 0, none⟩, fun h => absurd h (Nat.lt_irrefl 0), fun i hi => absurd hi (Nat.not_lt_zero i), fun h => absurd h (Nat.lt_irrefl 0), Nat.zero_le _, fun h => absurd h (Nat.lt_irrefl 0)⟩
 ·obtain ⟨a, h1, h2, h3⟩ := GG.els (f := fun i => (f i).cells) (.inr ⟨h0, g.gat h0⟩) (fun _ => rfl)
  refine ⟨a, fun _ => h1 h0, h2, fun _ => by rw [h3 h0]; exact hr h0, by dsimp only; omega, fun _ => .inr (.inl ⟨?_, rfl, by unfold far; dsimp only; omega⟩)⟩
  have := h1 h0
  cases n with
  | zero => omega
  | succ n =>
    simp only [addrX, Option.some.injEq] at this
    rw [← this]
    exact ⟨_, rfl⟩
theorem parts_of {ps : List ByteArray} {n : Nat} {f : Nat → Ln} (en : ps.length = n + 2) (h0 : nats (ps.getD (ps.length - 1) ⟨#[]⟩) = []) (hrow : ∀ i, i < n → RowLn (nats (ps.getD i ⟨#[]⟩)) (f i)) :
 ps.map nats = ((List.range n).map fun i => (f i).text) ++ [nats (ps.getD n ⟨#[]⟩), []] := by
 apply List.ext_getElem
 ·simp [en]
 intro i h1 h2
 have hi : i < n + 2 := by simp at h1; omega
 have eg : (ps.map nats)[i] = nats (ps.getD i ⟨#[]⟩) := by
  rw [List.getElem_map, List.getD_eq_getElem?_getD, List.getElem?_eq_getElem byO]
  rfl
 rw [eg]
 rcases Nat.lt_or_ge i n with h3 | h3
 ·rw [List.getElem_append_left (by simpa using h3)]
  simp only [List.getElem_map, List.getElem_range]
  exact (hrow i h3).2
 ·rw [List.getElem_append_right (by simpa using h3)]
  simp only [List.length_map, List.length_range]
  obtain rfl | rfl : i = n ∨ i = n + 1 := by omega
  ·simp
  ·rw [en] at h0
   simp only [Nat.add_sub_cancel_left]
   exact h0
theorem file_of {l : List Nat} {ps : List ByteArray} {n z : Nat} {f : Nat → Ln} (his : IsSplit 10 l (ps.map nats)) (en : ps.length = n + 2) (h0 : nats (ps.getD (ps.length - 1) ⟨#[]⟩) = []) (hrow : ∀ i, i < n → RowLn (nats (ps.getD i ⟨#[]⟩)) (f i)) (hz : nats (ps.getD n ⟨#[]⟩) = sealW ++ sep z) : l = fileZ f n z := by
 rw [parts_of en h0 hrow, hz] at his
 rw [← his.join]
 exact file_split.join
theorem file_un {l : List Nat} {ps : List ByteArray} {n : Nat} (his : IsSplit 10 l (ps.map nats)) (en : ps.length = n + 2) {f' : Nat → Ln} {n' z' : Nat} (hf : IsFile l f' n' z') :
 n' = n ∧ (∀ i, i < n → RowLn (nats (ps.getD i ⟨#[]⟩)) (f' i)) ∧ nats (ps.getD n ⟨#[]⟩) = sealW ++ sep z' := by
 obtain ⟨hg, hz, rfl⟩ := hf
 have e := his.uniq file_split
 have en' : n' = n := by
  have := congrArg List.length e
  simp at this
  omega
 subst en'
 refine ⟨rfl, fun i hi => ⟨hg.2 i hi, ?_⟩, ?_⟩
 ·have e1 := congrArg (fun l => l[i]?) e
  simp only [List.getElem?_map] at e1
  rw [List.getElem?_append_left (by simp; omega), List.getElem?_map, List.getElem?_range hi, List.getElem?_eq_getElem byO] at e1
  simp only [Option.map_some, Option.some.injEq] at e1
  rw [← e1, List.getD_eq_getElem?_getD, List.getElem?_eq_getElem byO]
  rfl
 ·have e1 := congrArg (fun l => l[n']?) e
  simp only [List.getElem?_map] at e1
  rw [List.getElem?_append_right (by simp), List.getElem?_eq_getElem byO] at e1
  simp at e1
  rw [← e1, List.getD_eq_getElem?_getD, List.getElem?_eq_getElem byO]
  rfl
theorem file_len2 {l : List Nat} {ps : List ByteArray} (his : IsSplit 10 l (ps.map nats)) {f' : Nat → Ln} {n' z' : Nat} (hf : IsFile l f' n' z') : 2 ≤ ps.length ∧ ps.length ≤ 62 ∧ nats (ps.getD (ps.length - 1) ⟨#[]⟩) = [] := by
 obtain ⟨hg, hz, rfl⟩ := hf
 have e := his.uniq file_split
 have en' : ps.length = n' + 2 := by
  have := congrArg List.length e
  simpa using this
 have := hg.1
 refine ⟨by omega, by omega, ?_⟩
 have e1 := congrArg (fun l => l[n' + 1]?) e
 simp only [List.getElem?_map] at e1
 rw [List.getElem?_append_right (by simp), List.getElem?_eq_getElem byO] at e1
 simp at e1
 rw [List.getD_eq_getElem?_getD, en', show n' + 2 - 1 = n' + 1 by omega, List.getElem?_eq_getElem byO]
 exact e1
end AE.Tryz
