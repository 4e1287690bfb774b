/- Walks and plain laws: ClkSo, ClkSt2, ClkDa. -/
import Derived.Test.YtcminnjimlopbaaGreatDoorJoin20
import Derived.Test.YtcminnjimlopbaaGreatDoorAEthree
set_option linter.unusedVariables false
set_option linter.unusedSimpArgs false
set_option linter.unusedSectionVars false

/- Clerk, walked: sorted. -/
namespace AE.Clerk
def sortM (ms : List Mdl) : List Mdl := ms.mergeSort fun x y => decide (x.no ≤ y.no)
end AE.Clerk
namespace AE.Tryz
open Go AE Go.Proofs AE.Clerk
set_option maxRecDepth 100000
set_option linter.unusedVariables false

theorem sortM_perm (ms : List Mdl) : (sortM ms).Perm ms := List.mergeSort_perm _ _
theorem sortM_len (ms : List Mdl) : (sortM ms).length = ms.length := (sortM_perm ms).length_eq
theorem sortM_sorted (ms : List Mdl) : (sortM ms).Pairwise (fun x y => x.no ≤ y.no) := by
 have := List.pairwise_mergeSort (le := fun x y : Mdl => decide (x.no ≤ y.no)) (fun a b c h1 h2 => by simp only [decide_eq_true_eq] at *; omega) (fun a b => by simp only [Bool.or_eq_true, decide_eq_true_eq]; omega) ms
 exact this.imp fun h => by simpa using h
theorem sortK_map (ms : List Mdl) : sortK (ms.map Mdl.no) = (sortM ms).map Mdl.no := by
 have tr : ∀ a b c : Int, leI a b = true → leI b c = true → leI a c = true := fun a b c h1 h2 => by simp only [leI, decide_eq_true_eq] at *; exact Int.le_trans h1 h2
 have to : ∀ a b : Int, (leI a b || leI b a) = true := fun a b => by simp only [leI, Bool.or_eq_true, decide_eq_true_eq]; exact Int.le_total a b
 refine List.Perm.eq_of_pairwise (le := fun a b => a ≤ b) (fun a b _ _ h1 h2 => Int.le_antisymm h1 h2) ?_ ?_ ((List.mergeSort_perm _ _).trans ((sortM_perm ms).map Mdl.no).symm)
 ·exact (List.pairwise_mergeSort tr to (ms.map Mdl.no)).imp fun h => by simpa using h
 ·exact List.pairwise_map.2 (sortM_sorted ms)
theorem mdlAt_self {ms : List Mdl} (hn : (ms.map Mdl.no).Nodup) {m : Mdl} (hm : m ∈ ms) : ∃ i, mdlAt ms m.no = some i ∧ ms[i]? = some m := by
 induction ms with
 | nil => simp at hm
 | cons y ms ih =>
   simp only [List.map_cons, List.nodup_cons] at hn
   rw [mdlAt_cons]
   rcases List.mem_cons.1 hm with rfl | h
   ·exact ⟨0, by rw [if_pos rfl], rfl⟩
   ·obtain ⟨i, h1, h2⟩ := ih hn.2 h
    have : y.no ≠ m.no := fun e => hn.1 (List.mem_map.2 ⟨m, h, e.symm⟩)
    exact ⟨i + 1, by rw [if_neg this, h1]; rfl, by simpa using h2⟩
def atP (ps : Nat → Nat) (ms : List Mdl) (m : Mdl) : Nat := ps ((mdlAt ms m.no).getD 0)
theorem keys_w {h : H} {r : Nat} : AW Tryz.prog 76 h.next h [.map (some r)] (fun v h' => ∃ bx, v = .func (.func 107) ⟨[]⟩ ⟨[.pointer (some ⟨bx, 0, none⟩)]⟩ ∧ h'.get bx = some (.cells [.map (some r)] 77) ∧ h.next ≤ bx ∧ bx < h'.next) := by
 refine fun76.call rfl (Nat.le_refl _) ?_
 unfold a76
 (refine byRun ?_)
 (refine byFin ?_)
 exact ⟨_, rfl, byGet, by omega, byOm⟩
theorem sortedM_w {L : LP} {h : H} {ps : Nat → Nat} {s : St} {t : Nat} (k : Lg L h ps s) (ok : s.Ok t) (ht : t ≤ 60) :
 AW Tryz.prog 42 h.next h [.map (some L.g1)] (fun v h' => ∃ r, v = .slice (addrX r s.ms.length) s.ms.length 0 ∧ GX r h' 83 1 s.ms.length ((sortM s.ms).map fun m => ptrV (atP ps s.ms m)) ∧ (0 < s.ms.length → h.next ≤ r ∧ r < h'.next)) := by
 have hord := k.ord
 have hml := ok.ml
 have km : h.get L.g1 = some (.map ((modE ps s.ms 0).map (EG.ent fun k : Int => Value.int .i64 k)) s.ms.length) := k.m
 refine fun42.call rfl (Nat.le_refl _) ?_
 unfold a42
 (refine byRun ?_)
 apply q_call
 focus (exact byNext)
 focus (exact byLo)
 focus exact keys_w
 rintro v h2 ⟨bx, rfl, gb, bx1, bx2⟩ q2 n2
 (refine byRun ?_)
 have hkeys : ((modE ps s.ms 0).map EG.k) = s.ms.map Mdl.no := mod_keys
 have hlenE : (modE ps s.ms 0).length = s.ms.length := by
  have := congrArg List.length hkeys
  simpa using this
 have hbE : ∀ e ∈ modE ps s.ms 0, e.b < s.ms.length ∧ ∃ m ∈ s.ms, e.k = m.no := by
  have : ∀ (ms : List Mdl) (i : Nat), ∀ e ∈ modE ps ms i, e.b < i + ms.length ∧ ∃ m ∈ ms, e.k = m.no := fun ms => by
   induction ms with
   | nil => intro i e he; simp [modE] at he
   | cons m ms ih =>
     intro i e he
     rcases List.mem_cons.1 he with rfl | he
     ·exact ⟨by simp, m, by simp, rfl⟩
     ·obtain ⟨h1, m', h2, h3⟩ := ih (i + 1) e he
      exact ⟨by simp only [List.length_cons]; omega, m', by simp [h2], h3⟩
  intro e he
  have := this s.ms 0 e he
  rwa [Nat.zero_add] at this
 have hbn : ((modE ps s.ms 0).map EG.b).Nodup := by
  have : ∀ (ms : List Mdl) (i : Nat), ((modE ps ms i).map EG.b) = List.range' i ms.length := fun ms => by
   induction ms with
   | nil => intro i; rfl
   | cons m ms ih => intro i; simp [modE, ih (i + 1), List.range'_succ]
  rw [this]
  exact List.nodup_range'
 apply q_call
 focus (exact byNext)
 focus (exact byLo)
 focus exact sorted_w (bx := bx) (r := L.g1) (n := s.ms.length) (es := modE ps s.ms 0) byGet byGet (by rw [hkeys]; exact ok.mn) (fun e he => (hbE e he).1) hbn (fun e he => by
  obtain ⟨-, m, hm, e1⟩ := hbE e he
  have := (ok.ms m hm).no
  omega) byO
 rintro v h3 ⟨b, rfl, gg, n3, n3'⟩ q3 n3''
 rw [hkeys, hlenE, sortK_map] at gg
 rw [hlenE] at n3' ⊢
 have erow : ((sortM s.ms).map Mdl.no).map (Value.int .i64) = rowsOf (fun i => [.int .i64 (((sortM s.ms).map Mdl.no).getD i 0)]) s.ms.length := by
  have := cellsOf_rows (fun x : Int => [Value.int .i64 x]) ((sortM s.ms).map Mdl.no) 0
  rw [List.length_map, sortM_len] at this
  rw [← this]
  unfold cellsOf
  rw [List.map_eq_flatMap]
 rw [erow] at gg
 obtain ⟨ka, ka1, ka2, ka3⟩ := GG.els gg (fun _ => rfl)
 clear gg
 (refine byRun ?_)
 have hS : ∀ q, q < s.ms.length → ∃ m i, (sortM s.ms)[q]? = some m ∧ ((sortM s.ms).map Mdl.no).getD q 0 = m.no ∧ mdlAt s.ms m.no = some i ∧ s.ms[i]? = some m := fun q hq => by
  have hq' : q < (sortM s.ms).length := by rw [sortM_len]; exact hq
  obtain ⟨i, h1, h2⟩ := mdlAt_self ok.mn ((sortM_perm s.ms).mem_iff.1 (List.getElem_mem hq'))
  refine ⟨(sortM s.ms)[q], i, List.getElem?_eq_getElem hq', ?_, h1, h2⟩
  rw [List.getD_eq_getElem?_getD, List.getElem?_map, List.getElem?_eq_getElem hq']
  rfl
 have oc : 0 < s.ms.length → ka.block < h3.next := fun h0 => by have := ka3 h0; have := n3' h0; omega
 refine wp_loop (fun q : Nat × Nat => [(0, .map (some L.g1)), (3, .slice (addrX q.2 q.1) q.1 0), (8, .slice b s.ms.length 0), (9, .int .i64 s.ms.length), (10, .int .i64 q.1)]) (fun q h1 => Same h3.next h3 h1 ∧ h3.next ≤ h1.next ∧ q.1 ≤ s.ms.length ∧ GX q.2 h1 83 1 q.1 (((sortM s.ms).take q.1).map fun m => ptrV (atP ps s.ms m)) ∧ (0 < q.1 → h3.next ≤ q.2 ∧ q.2 < h1.next)) (fun q => s.ms.length - q.1) (0, 0) ⟨rfl, rfl, rfl, rfl, rfl, trivial⟩ ⟨bySame, byOm, by simp, GX.nil, fun h => absurd h (Nat.lt_irrefl 0)⟩ ?_
 rintro ⟨q, r⟩ g' h1 ⟨s1, n1, hq, gx, gr⟩ K hK
 dsimp only at hq gx gr ⊢
 by_cases hlt : q < s.ms.length
 ·obtain ⟨m, i, hm1, hm2, hm3, hm4⟩ := hS q hlt
  have kel := (ka2.same s1 oc).at hlt
  try dsimp only at kel
  rw [hm2] at kel
  have eb := ka1 byO
  subst eb
  have km1 : h1.get L.g1 = some (.map ((modE ps s.ms 0).map (EG.ent fun k : Int => Value.int .i64 k)) s.ms.length) := (s1 _ byO).trans byGet
  have hget := mod_get (ps := ps) (n := m.no) (ms := s.ms) (i := 0)
  rw [hm3, Option.map_some, Nat.zero_add] at hget
  have hat : atP ps s.ms m = ps i := by unfold atP; rw [hm3]; rfl
  (refine byRun ?_)
  apply q_look (r := L.g1) (es := modE ps s.ms 0) (c := s.ms.length) (k := m.no) (KeyT.i64 Tryz.underlying2)
  focus exact rfl
  focus exact rfl
  focus (exact byGet)
  rw [hget]
  simp only [Option.getD_some]
  (refine byRun ?_)
  apply q_appX (r := r) (n := q) (cs := ((sortM s.ms).take q).map fun m => ptrV (atP ps s.ms m)) (nc := [ptrV (ps i)])
  case G => exact gx.frame fun h0 => get_of fun y hy => by have := gr h0; (exact byGet)
  case hsv => exact rfl
  case C =>
   apply Cells.one
   focus (apply loadN_cells; (focus (exact byGet)); (focus exact rfl))
   focus (unfold far; omega)
   focus exact rfl
   focus exact rfl
  case hlo => exact fun h0 => by have := gr h0; omega
  case hsm => omega
  intro r' hr0 hr1 g8
  have rb : h3.next ≤ r' := by
   rcases Nat.eq_zero_or_pos q with h0 | h0
   ·have := hr0 h0; omega
   ·have := hr1 h0; have := gr h0; omega
  (refine byRun ?_)
  refine hK (q + 1, r') _ _ ⟨rfl, rfl, rfl, rfl, int_of rfl (by dsimp only; omega), trivial⟩ ⟨bySame, byOm, by dsimp only; omega, ?_, fun _ => ⟨rb, ?_⟩⟩ (by dsimp only; omega)
  ·dsimp only
   rw [List.take_add_one, hm1, Option.toList_some, List.map_append, List.map_cons, List.map_nil, hat]
   exact g8.frame fun _ => get_of fun y hy => by (exact byGet)
  ·dsimp only
   rcases Nat.eq_zero_or_pos q with h0 | h0
   ·have := hr0 h0; (exact byOm)
   ·have := hr1 h0; have := gr h0; (exact byOm)
 obtain rfl : q = s.ms.length := by omega
 clear hK
 (refine byRun ?_)
 (refine byFin ?_)
 rw [List.take_of_length_le (by rw [sortM_len]; exact Nat.le_refl _)] at gx
 exact ⟨r, rfl, gx.frame fun _ => get_of fun y hy => byGet, fun h0 => by have := gr h0; exact ⟨by omega, byOm⟩⟩
end AE.Tryz

/- Clerk, walked: Replay, State. -/
namespace AE.Tryz
open Go AE Go.Proofs AE.Clerk
set_option maxRecDepth 100000
set_option linter.unusedVariables false

def RplR (h : H) (n : Nat) (f : Nat → Ln) (v : Value) (h' : H) : Prop :=
 (¬ Good n f ∧ v = .tuple #[.slice none 0 0, .int .i64 (bookErr n f)]) ∨
 (Good n f ∧ ∃ (r : Nat), v = .tuple #[.slice (some ⟨r, 0, none⟩) n n, .int .i64 0] ∧ h'.get r = some (.cells (outC f n n) 25) ∧ h.next ≤ r ∧ r < h'.next)
theorem Replay_w {h : H} {B : Bk} {m : Nat} (hm : m ≤ h.next) (hB : B.Ok m h) : AW Tryz.prog 13 h.next h [.slice B.b B.n B.c] (fun v h' => RplR h B.n B.f v h') := by
 refine fun13.call rfl (Nat.le_refl _) ?_
 unfold a13
 (refine byRun ?_)
 apply q_call
 focus (exact byNext)
 focus (exact byLo)
 focus exact replay_w (m := m) byOm (hB.same (m' := m) bySame (Nat.le_refl _))
 rintro v h2 (⟨hg, rfl⟩ | ⟨hg, L, ps, r, rfl, k, k1, g, r1, r2⟩) q2 n2
 ·(refine byRun ?_)
  (refine byFin ?_)
  exact .inl ⟨hg, rfl⟩
 ·(refine byRun ?_)
  (refine byFin ?_)
  exact .inr ⟨hg, r, rfl, byGet, byOm, byOm⟩
def mC8 (m : Mdl) : List Value := [.int .i64 m.no, .int .i64 m.stage, .int .i64 m.wax, .int .i64 m.runs, .int .i64 m.opn, .int .i64 m.billed, .int .i64 m.claimed, .int .i64 m.paid]
def StaR (h : H) (n : Nat) (f : Nat → Ln) (v : Value) (h' : H) : Prop :=
 (¬ Good n f ∧ v = .tuple #[.agg ⟨[.int .i64 0, .int .i64 0, .slice none 0 0]⟩, .int .i64 (bookErr n f)]) ∨
 (Good n f ∧ ∃ r, v = .tuple #[.agg ⟨[.int .i64 (after f n).stock, .int .i64 (after f n).lost, .slice (addrX r (after f n).ms.length) (after f n).ms.length 0]⟩, .int .i64 0] ∧ GX r h' 61 8 (after f n).ms.length (cellsOf mC8 (sortM (after f n).ms)) ∧ (0 < (after f n).ms.length → h.next ≤ r ∧ r < h'.next))
theorem State_w {h : H} {B : Bk} {m : Nat} (hm : m ≤ h.next) (hB : B.Ok m h) : AW Tryz.prog 15 h.next h [.slice B.b B.n B.c] (fun v h' => StaR h B.n B.f v h') := by
 refine fun15.call rfl (Nat.le_refl _) ?_
 unfold a15
 (refine byRun ?_)
 apply q_call
 focus (exact byNext)
 focus (exact byLo)
 focus exact replay_w (m := m) byOm (hB.same (m' := m) bySame (Nat.le_refl _))
 rintro v h2 (⟨hg, rfl⟩ | ⟨hg, L, ps, r, rfl, k, k1, -, -, -⟩) q2 n2
 ·have hne : bookErr B.n B.f ≠ 0 := fun h => hg (bookErr_ok.1 h)
  generalize he : bookErr B.n B.f = e at hne
  (refine byRun ?_)
  (refine byFin ?_)
  exact .inl ⟨hg, by rw [he]⟩
 have ok := after_ok (f := B.f) (n := B.n) (by have := hg.1; omega) hg.2
 have n60 := hg.1
 unfold StaR
 generalize after B.f B.n = s at *
 have hord := k.ord
 have kg := k.g
 unfold ptrV
 (refine byRun ?_)
 apply q_call
 focus (exact byNext)
 focus (exact byLo)
 focus exact sortedM_w (k.same (fun q hq => get_of fun y hy => byGet) byOm) ok n60
 rintro v h3 ⟨r3, rfl, gx3, gb3⟩ q3 n3
 (refine byRun ?_)
 have hml := ok.ml
 have hl := sortM_len s.ms
 have erow : ((sortM s.ms).map fun m => ptrV (atP ps s.ms m)) = rowsOf (fun i => [((sortM s.ms).map fun m => ptrV (atP ps s.ms m)).getD i .nilFunc]) s.ms.length := by
  have := cellsOf_rows (fun x : Value => [x]) ((sortM s.ms).map fun m => ptrV (atP ps s.ms m)) .nilFunc
  rw [List.length_map, hl] at this
  rw [← this]
  unfold cellsOf
  rw [List.flatMap_singleton']
 rw [erow] at gx3
 obtain ⟨ka, ka1, ka2, ka3⟩ := GG.els (gx_gg gx3) (fun _ => rfl)
 clear erow gx3
 have gb3' : 0 < s.ms.length → h2.next + 20 ≤ r3 ∧ r3 < h3.next := fun h0 => by
  have := gb3 h0
  refine ⟨?_, this.2⟩
  have h1 := this.1
  (exact byOm)
 have hS : ∀ q, q < s.ms.length → ∃ m i, (sortM s.ms)[q]? = some m ∧ ((sortM s.ms).map fun m => ptrV (atP ps s.ms m)).getD q .nilFunc = .pointer (some ⟨ps i, 0, none⟩) ∧ s.ms[i]? = some m := fun q hq => by
  have hq' : q < (sortM s.ms).length := by rw [hl]; exact hq
  obtain ⟨i, h1, h2⟩ := mdlAt_self ok.mn ((sortM_perm s.ms).mem_iff.1 (List.getElem_mem hq'))
  refine ⟨(sortM s.ms)[q], i, List.getElem?_eq_getElem hq', ?_, h2⟩
  rw [List.getD_eq_getElem?_getD, List.getElem?_map, List.getElem?_eq_getElem hq']
  simp only [Option.map_some, Option.getD_some, atP, h1]
  rfl
 have oc : 0 < s.ms.length → ka.block < h3.next := fun h0 => by have := ka3 h0; have := gb3' h0; omega
 refine wp_loop (fun q : Nat × Nat => [(2, .pointer (some ⟨h.next, 0, none⟩)), (7, .pointer (some ⟨h2.next + 11, 0, none⟩)), (33, .slice (addrX r3 s.ms.length) s.ms.length 0), (34, .int .i64 s.ms.length), (35, .int .i64 q.1)]) (fun q h1 => h1.get h.next = some (.cells [.int .i64 0, .int .i64 0, .slice none 0 0] 30) ∧ h1.get (h2.next + 11) = some (.cells [.int .i64 s.stock, .int .i64 s.lost, .slice (addrX q.2 q.1) q.1 0] 30) ∧ (∀ i, i < h3.next → i ≠ h2.next + 11 → h1.get i = h3.get i) ∧ h3.next ≤ h1.next ∧ q.1 ≤ s.ms.length ∧ GX q.2 h1 61 8 q.1 (cellsOf mC8 ((sortM s.ms).take q.1)) ∧ (0 < q.1 → h3.next ≤ q.2 ∧ q.2 < h1.next)) (fun q => s.ms.length - q.1) (0, 0) ⟨rfl, rfl, rfl, rfl, rfl, trivial⟩ ⟨byGet, byGet, fun i h1 h2 => rfl, Nat.le_refl _, by simp, GX.nil, fun h => absurd h (Nat.lt_irrefl 0)⟩ ?_
 rintro ⟨q, r⟩ g' h1 ⟨x0, x7, fr, n1, hq, gx, gr⟩ K hK
 dsimp only at x7 hq gx gr ⊢
 have k1 := k.same (h' := h3) (fun q hq => get_of fun y hy => byGet) byOm
 by_cases hlt : q < s.ms.length
 ·obtain ⟨m, i, hm1, hm2, hm3⟩ := hS q hlt
  have hpb := k.pb i (List.getElem?_eq_some_iff.1 hm3).1
  have hp := k1.p i m hm3
  have gbq := gb3' byO
  have kel : h1.loadN (aadd ka (q * 1)) 1 = some [.pointer (some ⟨ps i, 0, none⟩)] := by
   rw [← hm2]
   rw [H.loadN, fr _ (by have := oc byO; exact this) (by have := ka3 byO; show ka.block ≠ _; omega)]
   exact ka2 q hlt
  have eb := ka1 byO
  have hp1 : h1.get (ps i) = some (.cells (mCells m) 85) := (fr _ byO byO).trans hp
  unfold mCells at hp1
  rw [eb]
  (refine byRun ?_)
  apply q_appX (r := r) (n := q) (cs := cellsOf mC8 ((sortM s.ms).take q)) (nc := mC8 m)
  case G => exact gx.frame fun h0 => get_of fun y hy => by have := gr h0; (exact byGet)
  case hsv => exact rfl
  case C =>
   apply Cells.one
   focus (apply loadN_cells; (focus (exact byGet)); (focus exact rfl))
   focus (unfold far; omega)
   focus exact rfl
   focus exact rfl
  case hlo => exact fun h0 => by have := gr h0; omega
  case hsm => omega
  intro r' hr0 hr1 g8
  have rb : h3.next ≤ r' := by
   rcases Nat.eq_zero_or_pos q with h0 | h0
   ·have := hr0 h0; omega
   ·have := hr1 h0; have := gr h0; omega
  (refine byRun ?_)
  refine hK (q + 1, r') _ _ ⟨rfl, rfl, by rw [eb]; rfl, rfl, int_of rfl (by dsimp only; omega), trivial⟩ ⟨byGet, byGet, fun i h1 h2 => (get_of fun y hy => byGet).trans (fr i h1 h2), byOm, by dsimp only; omega, ?_, fun _ => ⟨rb, ?_⟩⟩ (by dsimp only; omega)
  ·dsimp only
   rw [List.take_add_one, hm1, Option.toList_some, cellsOf_add]
   exact g8.frame fun _ => get_of fun y hy => by (exact byGet)
  ·dsimp only
   rcases Nat.eq_zero_or_pos q with h0 | h0
   ·have := hr0 h0; (exact byOm)
   ·have := hr1 h0; have := gr h0; (exact byOm)
 obtain rfl : q = s.ms.length := by omega
 clear hK
 (refine byRun ?_)
 (refine byFin ?_)
 rw [List.take_of_length_le (by rw [hl]; exact Nat.le_refl _)] at gx
 exact .inr ⟨hg, r, rfl, gx.frame fun _ => get_of fun y hy => byGet, fun h0 => by have := gr h0; exact ⟨by omega, byOm⟩⟩
end AE.Tryz

/- Clerk: slices copied into new rows. -/
namespace AE
open Go
section
variable {P : Program} {lo nid : Nat} {ts : Ts} {h : H} {k : Value → H → Prop}
end
end AE
