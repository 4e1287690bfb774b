/- Walks of the laws of spans: SpanFew. -/
import Derived.Test.YtkkndecbijgolaaJoin1
set_option linter.unusedVariables false
set_option linter.unusedSimpArgs false
set_option linter.unusedSectionVars false
namespace AE.Try
open Go AE Go.Proofs AE.Sp
set_option maxRecDepth 100000
set_option linter.unusedVariables false

/-! ### three of them, plainly -/
theorem clean_sub {S S' : Nat → Sd} {n n' : Nat} (h : ∀ e, e < n' → ∃ e0, e0 < n ∧ S' e = S e0) (c : Clean S n) : Clean S' n' := by
  refine ⟨fun i hi => ?_, fun i j hi hj => ?_, fun i j k hi hj hk => ?_⟩
  · obtain ⟨e, he, ee⟩ := h i hi
    rw [ee]; exact c.nz e he
  · obtain ⟨e, he, ee⟩ := h i hi
    obtain ⟨f, hf, ef⟩ := h j hj
    rw [ee, ef]; exact c.two e f he hf
  · obtain ⟨e, he, ee⟩ := h i hi
    obtain ⟨f, hf, ef⟩ := h j hj
    obtain ⟨g, hg, eg⟩ := h k hk
    rw [ee, ef, eg]; exact c.three e f g he hf hg
def triF (f : Nat → Run) (i k m : Nat) : Nat → Run
  | 0 => f i
  | 1 => f k
  | _ => f m
def tri (L : Runs) (r i k m : Nat) : Runs := ⟨3, triF L.f i k m, some ⟨r, 0, none⟩, ⟨r, 0, none⟩, 3⟩
def TriCl (L : Runs) (i k m : Nat) : Prop := Clean (sides (triF L.f i k m)) (2 * 3)
theorem side_tri {f : Nat → Run} {i k m s : Nat} (e : Nat) : sides (triF f i k m) (2 * s + e % 2) = sdAt (triF f i k m s) (e % 2) := by
  rw [sides_at]
  congr 1
  · congr 1; omega
  · omega
theorem cover2 {n u v : Nat} (h3 : 3 ≤ n) (hu : u < n) (hv : v < u) : ∃ i k m, (i < n ∧ k < i ∧ m < k) ∧ (u = i ∨ u = k ∨ u = m) ∧ (v = i ∨ v = k ∨ v = m) := by
  by_cases h : 0 < v
  · exact ⟨u, v, 0, by omega, by omega, by omega⟩
  · by_cases h1 : 1 < u
    · exact ⟨u, 1, 0, by omega, by omega, by omega⟩
    · exact ⟨2, 1, 0, by omega, by omega, by omega⟩
theorem cover {n a b c : Nat} (h3 : 3 ≤ n) (ha : a < n) (hb : b < n) (hc : c < n) : ∃ i k m, (i < n ∧ k < i ∧ m < k) ∧ (a = i ∨ a = k ∨ a = m) ∧ (b = i ∨ b = k ∨ b = m) ∧ (c = i ∨ c = k ∨ c = m) := by
  have two : ∀ u v, u < n → v < u → (a = u ∨ a = v) → (b = u ∨ b = v) → (c = u ∨ c = v) → ∃ i k m, (i < n ∧ k < i ∧ m < k) ∧ (a = i ∨ a = k ∨ a = m) ∧ (b = i ∨ b = k ∨ b = m) ∧ (c = i ∨ c = k ∨ c = m) := fun u v hu hv x y z => by
    obtain ⟨i, k, m, h1, h2, h4⟩ := cover2 h3 hu hv
    exact ⟨i, k, m, h1, by omega, by omega, by omega⟩
  by_cases e1 : a = b
  · by_cases e2 : a = c
    · by_cases h : 0 < a
      · exact two a 0 ha h (by omega) (by omega) (by omega)
      · exact two 1 0 (by omega) (by omega) (by omega) (by omega) (by omega)
    · rcases Nat.lt_or_gt_of_ne e2 with h | h
      · exact two c a hc h (by omega) (by omega) (by omega)
      · exact two a c ha h (by omega) (by omega) (by omega)
  · by_cases e2 : c = a ∨ c = b
    · rcases Nat.lt_or_gt_of_ne e1 with h | h
      · exact two b a hb h (by omega) (by omega) (by omega)
      · exact two a b ha h (by omega) (by omega) (by omega)
    · have e3 : c ≠ a := by omega
      have e4 : c ≠ b := by omega
      rcases Nat.lt_or_gt_of_ne e1 with h | h <;> rcases Nat.lt_or_gt_of_ne e3 with h' | h' <;> rcases Nat.lt_or_gt_of_ne e4 with h'' | h''
      · exact ⟨b, a, c, by omega, by omega, by omega, by omega⟩
      · omega
      · exact ⟨b, c, a, by omega, by omega, by omega, by omega⟩
      · exact ⟨c, b, a, by omega, by omega, by omega, by omega⟩
      · exact ⟨a, b, c, by omega, by omega, by omega, by omega⟩
      · exact ⟨a, c, b, by omega, by omega, by omega, by omega⟩
      · omega
      · exact ⟨c, a, b, by omega, by omega, by omega, by omega⟩
theorem tri_of {f : Nat → Run} {i k m e : Nat} (h : e / 2 = i ∨ e / 2 = k ∨ e / 2 = m) : ∃ e', e' < 6 ∧ sides (triF f i k m) e' = sides f e := by
  rw [sides_at f e]
  rcases h with h | h | h
  · exact ⟨2 * 0 + e % 2, by omega, (side_tri e).trans (by rw [h]; rfl)⟩
  · exact ⟨2 * 1 + e % 2, by omega, (side_tri e).trans (by rw [h]; rfl)⟩
  · exact ⟨2 * 2 + e % 2, by omega, (side_tri e).trans (by rw [h]; rfl)⟩
/-- Runs contradict each other just if three of them do. -/
theorem helly {L : Runs} (lv : L.Val) (h3 : 3 ≤ L.n) : L.Cl ↔ ∀ i k m, i < L.n → k < i → m < k → TriCl L i k m := by
  constructor
  · intro c i k m hi hk hm
    refine clean_sub (fun e he => ?_) c
    have hs : e / 2 < 3 := by omega
    have e1 : sides (triF L.f i k m) e = sdAt (triF L.f i k m (e / 2)) (e % 2) := sides_at _ _
    rw [e1]
    have at' : ∀ a, a < L.n → sides L.f (2 * a + e % 2) = sdAt (L.f a) (e % 2) := fun a _ => by
      rw [sides_at]
      congr 1
      · congr 1; omega
      · omega
    match e / 2, hs with
    | 0, _ => exact ⟨2 * i + e % 2, by omega, (at' i hi).symm⟩
    | 1, _ => exact ⟨2 * k + e % 2, by omega, (at' k (by omega)).symm⟩
    | 2, _ => exact ⟨2 * m + e % 2, by omega, (at' m (by omega)).symm⟩
  · intro h
    have nz := nz_sides lv
    refine ⟨nz, fun i j hi hj => ?_, fun i j k hi hj hk => ?_⟩
    · obtain ⟨x, y, z, ⟨h1, h2, h4⟩, c1, c2, -⟩ := cover h3 (show i / 2 < L.n by omega) (show j / 2 < L.n by omega) (show j / 2 < L.n by omega)
      have c := h x y z h1 h2 h4
      obtain ⟨i', hi', ei⟩ := tri_of (f := L.f) c1
      obtain ⟨j', hj', ej⟩ := tri_of (f := L.f) c2
      have := c.two i' j' hi' hj'
      rw [ei, ej] at this
      exact this
    · obtain ⟨x, y, z, ⟨h1, h2, h4⟩, c1, c2, c4⟩ := cover h3 (show i / 2 < L.n by omega) (show j / 2 < L.n by omega) (show k / 2 < L.n by omega)
      have c := h x y z h1 h2 h4
      obtain ⟨i', hi', ei⟩ := tri_of (f := L.f) c1
      obtain ⟨j', hj', ej⟩ := tri_of (f := L.f) c2
      obtain ⟨k', hk', ek⟩ := tri_of (f := L.f) c4
      have := c.three i' j' k' hi' hj' hk'
      rw [ei, ej, ek] at this
      exact this
theorem tri_val {L : Runs} (lv : L.Val) {r i k m : Nat} (hi : i < L.n) (hk : k < i) (hm : m < k) : (tri L r i k m).Val := fun j hj => by
  have hj : j < 3 := hj
  match j, hj with
  | 0, _ => exact lv i hi
  | 1, _ => exact lv k (by omega)
  | 2, _ => exact lv m (by omega)
theorem tri_ok {L : Runs} {r i k m b : Nat} {h : H} (hg : h.get r = some (.cells ((L.f i).cells ++ (L.f k).cells ++ (L.f m).cells) 56)) (hr : r < b) : (tri L r i k m).Ok b h := by
  refine ⟨fun _ => rfl, fun j hj => ?_, fun _ => hr, by show 3 ≤ _; omega⟩
  have hj : j < 3 := hj
  match j, hj with
  | 0, _ => exact loadN_cells hg rfl
  | 1, _ => exact loadN_cells hg rfl
  | 2, _ => exact loadN_cells hg rfl
/-- What holds while three are looked for. -/
def Tri3 (L : Runs) (i k m : Nat) (b : Bool) : Prop := (b = true → ∃ i k m, i < L.n ∧ k < i ∧ m < k ∧ ¬ TriCl L i k m) ∧ (b = false → ∀ i' k' m', i' < L.n → k' < i' → m' < k' → (i' < i ∨ (i' = i ∧ (k' < k ∨ (k' = k ∧ m' < m)))) → TriCl L i' k' m')
theorem Tri3.step {L : Runs} {i k m : Nat} {b : Bool} (t : Tri3 L i k m b) (c : TriCl L i k m) : Tri3 L i k (m + 1) b := by
  refine ⟨t.1, fun hb i' k' m' hi hk hm h => ?_⟩
  by_cases e : i' = i ∧ k' = k ∧ m' = m
  · obtain ⟨rfl, rfl, rfl⟩ := e; exact c
  · exact t.2 hb i' k' m' hi hk hm (by omega)
theorem Tri3.bad {L : Runs} {i k m : Nat} (hi : i < L.n) (hk : k < i) (hm : m < k) (c : ¬ TriCl L i k m) : Tri3 L i k (m + 1) Bool.true := ⟨fun _ => ⟨i, k, m, hi, hk, hm, c⟩, fun h => nomatch h⟩
theorem Tri3.to {L : Runs} {i k m i' k' m' : Nat} {b : Bool} (t : Tri3 L i k m b) (h : ∀ a b c, b < a → c < b → (a < i' ∨ (a = i' ∧ (b < k' ∨ (b = k' ∧ c < m')))) → (a < i ∨ (a = i ∧ (b < k ∨ (b = k ∧ c < m))))) : Tri3 L i' k' m' b :=
  ⟨t.1, fun hb a b' c ha hb' hc hh => t.2 hb a b' c ha hb' hc (h a b' c hb' hc hh)⟩

open Classical in
set_option maxHeartbeats 16000000 in
theorem few_law {h : H} {L : Runs} {m : Nat} (hm : m ≤ h.next) (hL : L.Ok m h) : AW Try.prog 10 h.next h [.slice L.b L.n L.c] (fun v _ => v = .bool true) := by
  obtain ⟨le, li, lr, ll⟩ := id hL
  refine fun10.call rfl (Nat.le_refl _) ?_
  unfold a10
  by_cases e2 : L.err2 0 0 ≠ 0
  · (focus ((try with_reducible apply wpC.to); (repeat' ((conv => whnf); first | refine byEv ?_ | ((apply Fork.mk) <;> (intro _; try (exfalso; omega; done))) | ((first | refine kSpanZu2 ?_ | refine kSpanZu0 ?_); first | ((first | apply q_allD | apply q_alli | apply q_allB) <;> (intro _ _ _ _; try contradiction)) | ((apply q_allv); intro _ _ _)) | refine xSpanB1 ?_ | fail)); all_goals (conv => whnf); all_goals (try with_reducible apply At.mk)))
    (refine byFin ?_)
    rfl
  have e2 : L.err2 0 0 = 0 := by omega
  obtain ⟨e1, fac⟩ := Runs.err2_0 e2
  obtain ⟨ln, lv⟩ := L.err_0 e1
  have lerr : L.lerr 0 0 = if L.Cl then 0 else 20 := by
    split
    · exact Runs.lerr_ok e2 (by assumption) (.inl ⟨rfl, rfl⟩)
    · exact Runs.lerr_20 e2 (by assumption)
  (focus ((try with_reducible apply wpC.to); (repeat' ((conv => whnf); first | refine byEv ?_ | ((apply Fork.mk) <;> (intro _; try (exfalso; omega; done))) | ((first | refine kSpanZu2 ?_ | refine kSpanZu0 ?_); first | ((first | apply q_allD | apply q_alli | apply q_allB) <;> (intro _ _ _ _; try contradiction)) | ((apply q_allv); intro _ _ _)) | refine xSpanB1 ?_ | fail)); all_goals (conv => whnf); all_goals (try with_reducible apply At.mk)))
  apply q_call
  focus (exact byNext)
  focus (exact byLo)
  focus exact truth_w (L := L) (m := m) byOm (hL.same bySame (Nat.le_refl _))
  rintro _ h2 ⟨x, rfl, x1, x2⟩ q2 n2
  unfold Tru.cells
  by_cases n3 : L.n < 3
  · rw [lerr]
    split <;> ((focus ((try with_reducible apply wpC.to); (repeat' ((conv => whnf); first | refine byEv ?_ | ((apply Fork.mk) <;> (intro _; try (exfalso; omega; done))) | ((first | refine kSpanZu2 ?_ | refine kSpanZu0 ?_); first | ((first | apply q_allD | apply q_alli | apply q_allB) <;> (intro _ _ _ _; try contradiction)) | ((apply q_allv); intro _ _ _)) | refine xSpanB1 ?_ | fail)); all_goals (conv => whnf); all_goals (try with_reducible apply At.mk))); (refine byFin ?_); rfl)
  have n3 : 3 ≤ L.n := by omega
  have e0 : ∃ e : Int, L.lerr 0 0 = e ∧ (e = 0 ∧ L.Cl ∨ e = 20 ∧ ¬ L.Cl) := by
    by_cases c : L.Cl
    · exact ⟨0, by rw [lerr, if_pos c], .inl ⟨rfl, c⟩⟩
    · exact ⟨20, by rw [lerr, if_neg c], .inr ⟨rfl, c⟩⟩
  obtain ⟨e, le0, he⟩ := e0
  rw [le0]
  have he' : e = 0 ∨ e = 20 := by omega
  clear x1 x2 lerr le0
  have tl : ∀ {r i k j : Nat}, i < L.n → k < i → j < k → (tri L r i k j).err2 0 0 = 0 := fun hi hk hj => Runs.err2_of (Runs.err_ok (by show 3 ≤ 12; decide) (tri_val lv hi hk hj)) fac
  rcases he with ⟨rfl, cl⟩ | ⟨rfl, cl⟩
  all_goals
    (focus ((try with_reducible apply wpC.to); (repeat' ((conv => whnf); first | refine byEv ?_ | ((apply Fork.mk) <;> (intro _; try (exfalso; omega; done))) | ((first | refine kSpanZu2 ?_ | refine kSpanZu0 ?_); first | ((first | apply q_allD | apply q_alli | apply q_allB) <;> (intro _ _ _ _; try contradiction)) | ((apply q_allv); intro _ _ _)) | refine xSpanB1 ?_ | fail)); all_goals (conv => whnf); all_goals (try with_reducible apply At.mk)))
    refine wp_loop (fun s : Nat × Bool => [(0, .slice L.b L.n L.c), (4, .int .i64 _), (5, .bool s.2), (6, .int .i64 s.1)])
      (fun s h1 => Same m h h1 ∧ h.next ≤ h1.next ∧ s.1 ≤ L.n ∧ Tri3 L s.1 0 0 s.2) (fun s => L.n - s.1) (0, Bool.false) ⟨rfl, rfl, rfl, rfl, trivial⟩ ⟨bySame, byOm, Nat.zero_le _, (fun h => nomatch h), fun _ i k j hi hk hj h => by omega⟩ ?_
    rintro ⟨i, b⟩ g h3 ⟨sm, n4, hi, t3⟩ K hK
    dsimp only at hi t3 ⊢
    by_cases hin : i < L.n
    · (focus ((try with_reducible apply wpC.to); (repeat' ((conv => whnf); first | refine byEv ?_ | ((apply Fork.mk) <;> (intro _; try (exfalso; omega; done))) | ((first | refine kSpanZu2 ?_ | refine kSpanZu0 ?_); first | ((first | apply q_allD | apply q_alli | apply q_allB) <;> (intro _ _ _ _; try contradiction)) | ((apply q_allv); intro _ _ _)) | refine xSpanB1 ?_ | fail)); all_goals (conv => whnf); all_goals (try with_reducible apply At.mk)))
      refine wp_loop (fun s : Nat × Bool => [(0, .slice L.b L.n L.c), (4, .int .i64 _), (5, .bool s.2), (6, .int .i64 i), (7, .int .i64 s.1)])
        (fun s h1 => Same m h h1 ∧ h.next ≤ h1.next ∧ s.1 ≤ i ∧ Tri3 L i s.1 0 s.2) (fun s => i - s.1) (0, b) ⟨rfl, rfl, rfl, rfl, rfl, trivial⟩ ⟨bySame, byOm, Nat.zero_le _, t3⟩ ?_
      clear t3 sm n4
      rintro ⟨k, b⟩ g h4 ⟨sm, n4, hk, t3⟩ K2 hK2
      dsimp only at hk t3 ⊢
      by_cases hki : k < i
      · (focus ((try with_reducible apply wpC.to); (repeat' ((conv => whnf); first | refine byEv ?_ | ((apply Fork.mk) <;> (intro _; try (exfalso; omega; done))) | ((first | refine kSpanZu2 ?_ | refine kSpanZu0 ?_); first | ((first | apply q_allD | apply q_alli | apply q_allB) <;> (intro _ _ _ _; try contradiction)) | ((apply q_allv); intro _ _ _)) | refine xSpanB1 ?_ | fail)); all_goals (conv => whnf); all_goals (try with_reducible apply At.mk)))
        refine wp_loop (fun s : Nat × Bool => [(0, .slice L.b L.n L.c), (4, .int .i64 _), (5, .bool s.2), (6, .int .i64 i), (7, .int .i64 k), (8, .int .i64 s.1)])
          (fun s h1 => Same m h h1 ∧ h.next ≤ h1.next ∧ s.1 ≤ k ∧ Tri3 L i k s.1 s.2) (fun s => k - s.1) (0, b) ⟨rfl, rfl, rfl, rfl, rfl, rfl, trivial⟩ ⟨bySame, byOm, Nat.zero_le _, t3⟩ ?_
        clear t3 sm n4
        rintro ⟨j, b⟩ g h5 ⟨sm, n5, hj, t3⟩ K3 hK3
        dsimp only at hj t3 ⊢
        by_cases hjk : j < k
        · have li5 := li.same sm lr
          have lr' := lr (by omega)
          unfold Run.cells at li5
          (focus ((try with_reducible apply wpC.to); (repeat' ((conv => whnf); first | refine byEv ?_ | ((apply Fork.mk) <;> (intro _; try (exfalso; omega; done))) | ((first | refine kSpanZu2 ?_ | refine kSpanZu0 ?_); first | ((first | apply q_allD | apply q_alli | apply q_allB) <;> (intro _ _ _ _; try contradiction)) | ((apply q_allv); intro _ _ _)) | refine xSpanB1 ?_ | fail)); all_goals (conv => whnf); all_goals (try with_reducible apply At.mk)))
          apply q_call
          focus (exact byNext)
          focus (exact byLo)
          focus exact truth_w (L := tri L (h5.next + 15) i k j) (m := h5.next + 16) byOm (tri_ok (by unfold Run.cells; (exact byGet)) (by omega))
          rintro _ h6 ⟨t, rfl, -, -⟩ q6 n6
          unfold Tru.cells
          by_cases c : TriCl L i k j
          · have el : (tri L (h5.next + 15) i k j).lerr 0 0 = 0 := Runs.lerr_ok (tl hin hki hjk) c (.inl ⟨rfl, rfl⟩)
            rw [el]
            have ts := t3.step c
            cases b
            all_goals
              (focus ((try with_reducible apply wpC.to); (repeat' ((conv => whnf); first | refine byEv ?_ | ((apply Fork.mk) <;> (intro _; try (exfalso; omega; done))) | ((first | refine kSpanZu2 ?_ | refine kSpanZu0 ?_); first | ((first | apply q_allD | apply q_alli | apply q_allB) <;> (intro _ _ _ _; try contradiction)) | ((apply q_allv); intro _ _ _)) | refine xSpanB1 ?_ | fail)); all_goals (conv => whnf); all_goals (try with_reducible apply At.mk)))
              exact hK3 (j + 1, _) _ _ ⟨rfl, rfl, rfl, rfl, rfl, int_of rfl (by dsimp only; omega), trivial⟩ ⟨bySame, byOm, by dsimp only; omega, ts⟩ (by dsimp only; omega)
          · have el : (tri L (h5.next + 15) i k j).lerr 0 0 = 20 := Runs.lerr_20 (tl hin hki hjk) c
            rw [el]
            cases b
            all_goals
              (focus ((try with_reducible apply wpC.to); (repeat' ((conv => whnf); first | refine byEv ?_ | ((apply Fork.mk) <;> (intro _; try (exfalso; omega; done))) | ((first | refine kSpanZu2 ?_ | refine kSpanZu0 ?_); first | ((first | apply q_allD | apply q_alli | apply q_allB) <;> (intro _ _ _ _; try contradiction)) | ((apply q_allv); intro _ _ _)) | refine xSpanB1 ?_ | fail)); all_goals (conv => whnf); all_goals (try with_reducible apply At.mk)))
              exact hK3 (j + 1, Bool.true) _ _ ⟨rfl, rfl, rfl, rfl, rfl, int_of rfl (by dsimp only; omega), trivial⟩ ⟨bySame, byOm, by dsimp only; omega, Tri3.bad hin hki hjk c⟩ (by dsimp only; omega)
        · obtain rfl : j = k := by omega
          (focus ((try with_reducible apply wpC.to); (repeat' ((conv => whnf); first | refine byEv ?_ | ((apply Fork.mk) <;> (intro _; try (exfalso; omega; done))) | ((first | refine kSpanZu2 ?_ | refine kSpanZu0 ?_); first | ((first | apply q_allD | apply q_alli | apply q_allB) <;> (intro _ _ _ _; try contradiction)) | ((apply q_allv); intro _ _ _)) | refine xSpanB1 ?_ | fail)); all_goals (conv => whnf); all_goals (try with_reducible apply At.mk)))
          exact hK2 (j + 1, b) _ _ ⟨rfl, rfl, rfl, rfl, int_of rfl (by dsimp only; omega), trivial⟩ ⟨bySame, byOm, by dsimp only; omega, t3.to fun a b c h1 h2 h => by omega⟩ (by dsimp only; omega)
      · obtain rfl : k = i := by omega
        (focus ((try with_reducible apply wpC.to); (repeat' ((conv => whnf); first | refine byEv ?_ | ((apply Fork.mk) <;> (intro _; try (exfalso; omega; done))) | ((first | refine kSpanZu2 ?_ | refine kSpanZu0 ?_); first | ((first | apply q_allD | apply q_alli | apply q_allB) <;> (intro _ _ _ _; try contradiction)) | ((apply q_allv); intro _ _ _)) | refine xSpanB1 ?_ | fail)); all_goals (conv => whnf); all_goals (try with_reducible apply At.mk)))
        exact hK (k + 1, b) _ _ ⟨rfl, rfl, rfl, int_of rfl (by dsimp only; omega), trivial⟩ ⟨bySame, byOm, by dsimp only; omega, t3.to fun a b c h1 h2 h => by omega⟩ (by dsimp only; omega)
    · obtain rfl : i = L.n := by omega
      have hb : (b = Bool.true) ↔ ¬ L.Cl := by
        constructor
        · intro h c
          obtain ⟨i, k, j, h1, h2, h4, h5⟩ := t3.1 h
          exact h5 ((helly lv n3).1 c i k j h1 h2 h4)
        · intro h
          cases b
          · exact absurd ((helly lv n3).2 fun i k j h1 h2 h4 => t3.2 rfl i k j h1 h2 h4 (.inl h1)) h
          · rfl
      cases b
      all_goals first
        | exact absurd cl (hb.1 rfl)
        | exact absurd (hb.2 cl) Bool.false_ne_true
        | ((focus ((try with_reducible apply wpC.to); (repeat' ((conv => whnf); first | refine byEv ?_ | ((apply Fork.mk) <;> (intro _; try (exfalso; omega; done))) | ((first | refine kSpanZu2 ?_ | refine kSpanZu0 ?_); first | ((first | apply q_allD | apply q_alli | apply q_allB) <;> (intro _ _ _ _; try contradiction)) | ((apply q_allv); intro _ _ _)) | refine xSpanB1 ?_ | fail)); all_goals (conv => whnf); all_goals (try with_reducible apply At.mk)))
           (refine byFin ?_)
           rfl)
end AE.Try
