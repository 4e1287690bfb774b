/- Walks of span: all groups, one after another. -/
import Derived.Test.YtkkndecbijgolaaSpanH
set_option linter.unusedVariables false
set_option linter.unusedSimpArgs false
set_option linter.unusedSectionVars false
namespace AE.Try
open Go AE Go.Proofs AE.Sp
set_option maxRecDepth 100000
set_option linter.unusedVariables false

/-- A group of one, two or (if there may be three) three sides. -/
def Grp (n : Nat) (mo : Int) (g : List Nat) : Prop := (∃ a, a < n ∧ g = [a]) ∨ (∃ a b, a < b ∧ b < n ∧ g = [a, b]) ∨ (mo = 3 ∧ ∃ a b c, a < b ∧ b < c ∧ c < n ∧ g = [a, b, c])
def grpCells (g : List Nat) : List Value := g.map fun a : Nat => Value.int .i64 (a : Int)
def Done2 (n : Nat) (mo : Int) (l : List (List Nat)) (a b : Nat) : Prop := [a] ∈ l ∧ ∀ b', a < b' → b' < b → [a, b'] ∈ l ∧ (mo = 3 → ∀ c', b' < c' → c' < n → [a, b', c'] ∈ l)
def Done1 (n : Nat) (mo : Int) (l : List (List Nat)) (a : Nat) : Prop := ∀ a', a' < a → Done2 n mo l a' n
theorem Done2.add {n a b : Nat} {mo : Int} {l : List (List Nat)} {g : List Nat} (k : Done2 n mo l a b) : Done2 n mo (l ++ [g]) a b := ⟨List.mem_append_left _ k.1, fun b' h1 h2 => ⟨List.mem_append_left _ (k.2 b' h1 h2).1, fun hm c' h3 h4 => List.mem_append_left _ ((k.2 b' h1 h2).2 hm c' h3 h4)⟩⟩
theorem Done1.add {n a : Nat} {mo : Int} {l : List (List Nat)} {g : List Nat} (k : Done1 n mo l a) : Done1 n mo (l ++ [g]) a := fun a' h => (k a' h).add
theorem mem_last {l : List (List Nat)} {g : List Nat} : g ∈ l ++ [g] := by simp
theorem Done1.all {n : Nat} {mo : Int} {l : List (List Nat)} (k : Done1 n mo l n) {g : List Nat} (h : Grp n mo g) : g ∈ l := by
  rcases h with ⟨a, ha, rfl⟩ | ⟨a, b, h1, h2, rfl⟩ | ⟨hm, a, b, c, h1, h2, h3, rfl⟩
  · exact (k a ha).1
  · exact ((k a (by omega)).2 b h1 h2).1
  · exact ((k a (by omega)).2 b h1 (by omega)).2 hm c h2 h3

set_option maxHeartbeats 4000000 in
theorem groups_w {h : H} {T : Tab} {m lo r1 r2 : Nat} {mo : Int} {yv : Value} (hmo : mo = 2 ∨ mo = 3) (hlo : lo ≤ h.next) (hT : T.Ok m h) (hm : m ≤ h.next) (g1 : h.get r1 = some (.cells [.pointer (some ⟨T.r, 0, none⟩)] 84)) (b1 : r1 < h.next)
    (Inv : List (List Nat) → H → Prop) (Fin : H → Prop) (hI : ∀ l h1, Inv l h1 → h1.get r2 = some (.cells [.int .i64 mo] 3)) (hst : ∀ l h1 h2, Inv l h1 → Quiet h1.next h1 h2 → Inv l h2) (hfin : ∀ h1 h2, Fin h1 → Quiet h1.next h1 h2 → Fin h2)
    (hy : ∀ l g q h1, Grp (2 * T.n) mo g → l.length ≤ 30000 → Inv l h1 → lo ≤ h1.next → h1.get q = some (.cells (grpCells g) 3) → h.next ≤ q → q < h1.next → ∃ v h2, ((v = .bool true ∧ Inv (l ++ [g]) h2) ∨ (v = .bool false ∧ Fin h2)) ∧ ACall Try.prog yv lo h1 [.slice (some ⟨q, 0, none⟩) g.length g.length] v h2)
    (h0 : Inv [] h) (b2 : r2 < h.next) :
    AW Try.prog 90 lo h [yv, .pointer (some ⟨r1, 0, none⟩), .pointer (some ⟨r2, 0, none⟩)] (fun _ h' => (∃ l, (∀ g, Grp (2 * T.n) mo g → g ∈ l) ∧ l.length ≤ 30000 ∧ Inv l h') ∨ Fin h') := by
  obtain ⟨tg, trr, -, -, -, -, -, -, tle, -⟩ := hT
  refine fun90.call rfl hlo ?_
  unfold a90
  (focus ((try with_reducible apply wpC.to); (repeat' ((conv => whnf); first | refine byEv ?_ | (apply Fork.mk <;> (intro _; try (exfalso; omega))) | ((refine kSpanH1 ?_); first | ((first | apply q_allD | apply q_alli | apply q_allB) <;> intro _ _ _ _ <;> try contradiction) | (apply q_allv; intro _ _ _)) | fail)); all_goals ((conv => whnf); try with_reducible apply At.mk)))
  refine wp_loop (fun s : Nat × List (List Nat) => [(0, yv), (2, .pointer (some ⟨r2, 0, none⟩)), (4, .int .i64 ((2 * T.n : Nat) : Int)), (13, .int .i64 ((2 * T.n : Nat) : Int)), (14, .int .i64 s.1)]) (fun s h1 => Inv s.2 h1 ∧ h.next ≤ h1.next ∧ s.1 ≤ 2 * T.n ∧ Done1 (2 * T.n) mo s.2 s.1 ∧ s.2.length ≤ 1000 * s.1) (fun s => 2 * T.n - s.1) (0, []) ⟨rfl, rfl, rfl, rfl, rfl, trivial⟩ ⟨hst _ _ _ h0 byQuiet, byOm, by omega, fun a' h => absurd h (Nat.not_lt_zero _), by simp⟩ ?_
  rintro ⟨a, l⟩ g h1 ⟨hi, n1, hs, dn, ll⟩ K hK
  dsimp only at hi hs dn ll ⊢
  have gmo := hI _ _ hi
  by_cases han : a < 2 * T.n
  · (focus ((try with_reducible apply wpC.to); (repeat' ((conv => whnf); first | refine byEv ?_ | (apply Fork.mk <;> (intro _; try (exfalso; omega))) | ((refine kSpanH1 ?_); first | ((first | apply q_allD | apply q_alli | apply q_allB) <;> intro _ _ _ _ <;> try contradiction) | (apply q_allv; intro _ _ _)) | fail)); all_goals ((conv => whnf); try with_reducible apply At.mk)))
    apply q_calla
    focus exact acall_mono (hy l [a] _ _ (.inl ⟨a, han, rfl⟩) (by omega) (hst _ h1 _ hi byQuiet) byOm (by show _ = some (ARow.cells [Value.int .i64 (a : Int)] 3); (exact byGet)) (by omega) byOm) byOm
    rintro v h2 (⟨rfl, hi2⟩ | ⟨rfl, hf2⟩) q2
    rotate_left
    · (focus ((try with_reducible apply wpC.to); (repeat' ((conv => whnf); first | refine byEv ?_ | (apply Fork.mk <;> (intro _; try (exfalso; omega))) | ((refine kSpanH1 ?_); first | ((first | apply q_allD | apply q_alli | apply q_allB) <;> intro _ _ _ _ <;> try contradiction) | (apply q_allv; intro _ _ _)) | fail)); all_goals ((conv => whnf); try with_reducible apply At.mk)))
      (refine byFin ?_)
      exact .inr (hfin _ _ hf2 byQuiet)
    have n2 := q2.next
    simp only [put_next, bump_next] at n2
    (focus ((try with_reducible apply wpC.to); (repeat' ((conv => whnf); first | refine byEv ?_ | (apply Fork.mk <;> (intro _; try (exfalso; omega))) | ((refine kSpanH1 ?_); first | ((first | apply q_allD | apply q_alli | apply q_allB) <;> intro _ _ _ _ <;> try contradiction) | (apply q_allv; intro _ _ _)) | fail)); all_goals ((conv => whnf); try with_reducible apply At.mk)))
    refine wp_loop (fun s : Nat × List (List Nat) => [(0, yv), (2, .pointer (some ⟨r2, 0, none⟩)), (4, .int .i64 ((2 * T.n : Nat) : Int)), (5, .int .i64 a), (6, .int .i64 s.1), (13, .int .i64 ((2 * T.n : Nat) : Int)), (14, .int .i64 a)]) (fun s h1 => Inv s.2 h1 ∧ h.next ≤ h1.next ∧ (a < s.1 ∧ s.1 ≤ 2 * T.n) ∧ Done1 (2 * T.n) mo s.2 a ∧ Done2 (2 * T.n) mo s.2 a s.1 ∧ s.2.length ≤ 1000 * a + 1 + 30 * (s.1 - a - 1)) (fun s => 2 * T.n - s.1) (a + 1, l ++ [[a]]) ⟨rfl, rfl, rfl, rfl, int_of rfl (by dsimp only; omega), rfl, rfl, trivial⟩ ⟨hst _ _ _ hi2 byQuiet, byOm, by omega, dn.add, ⟨mem_last, fun b' h1 h2 => by dsimp only at h2; omega⟩, by simp; omega⟩ ?_
    rintro ⟨b, l⟩ g' h3 ⟨hi, n3, hs', dn, dn2, ll2⟩ K' hK'
    dsimp only at hi hs' dn dn2 ll2 ⊢
    have gmo := hI _ _ hi
    by_cases hbn : b < 2 * T.n
    · (focus ((try with_reducible apply wpC.to); (repeat' ((conv => whnf); first | refine byEv ?_ | (apply Fork.mk <;> (intro _; try (exfalso; omega))) | ((refine kSpanH1 ?_); first | ((first | apply q_allD | apply q_alli | apply q_allB) <;> intro _ _ _ _ <;> try contradiction) | (apply q_allv; intro _ _ _)) | fail)); all_goals ((conv => whnf); try with_reducible apply At.mk)))
      apply q_calla
      focus exact acall_mono (hy l [a, b] _ _ (.inr (.inl ⟨a, b, hs'.1, hbn, rfl⟩)) (by omega) (hst _ h3 _ hi byQuiet) byOm (by show _ = some (ARow.cells [Value.int .i64 (a : Int), Value.int .i64 (b : Int)] 3); (exact byGet)) (by omega) byOm) byOm
      rintro v h4 (⟨rfl, hi4⟩ | ⟨rfl, hf4⟩) q4
      rotate_left
      · (focus ((try with_reducible apply wpC.to); (repeat' ((conv => whnf); first | refine byEv ?_ | (apply Fork.mk <;> (intro _; try (exfalso; omega))) | ((refine kSpanH1 ?_); first | ((first | apply q_allD | apply q_alli | apply q_allB) <;> intro _ _ _ _ <;> try contradiction) | (apply q_allv; intro _ _ _)) | fail)); all_goals ((conv => whnf); try with_reducible apply At.mk)))
        (refine byFin ?_)
        exact .inr (hfin _ _ hf4 byQuiet)
      have n4 := q4.next
      simp only [put_next, bump_next] at n4
      (focus ((try with_reducible apply wpC.to); (repeat' ((conv => whnf); first | refine byEv ?_ | (apply Fork.mk <;> (intro _; try (exfalso; omega))) | ((refine kSpanH1 ?_); first | ((first | apply q_allD | apply q_alli | apply q_allB) <;> intro _ _ _ _ <;> try contradiction) | (apply q_allv; intro _ _ _)) | fail)); all_goals ((conv => whnf); try with_reducible apply At.mk)))
      refine wp_loop (fun s : Nat × List (List Nat) => [(0, yv), (2, .pointer (some ⟨r2, 0, none⟩)), (4, .int .i64 ((2 * T.n : Nat) : Int)), (5, .int .i64 a), (6, .int .i64 b), (7, .int .i64 s.1), (13, .int .i64 ((2 * T.n : Nat) : Int)), (14, .int .i64 a)]) (fun s h1 => Inv s.2 h1 ∧ h.next ≤ h1.next ∧ (b < s.1 ∧ s.1 ≤ 2 * T.n) ∧ Done1 (2 * T.n) mo s.2 a ∧ Done2 (2 * T.n) mo s.2 a b ∧ [a, b] ∈ s.2 ∧ (mo = 3 → ∀ c', b < c' → c' < s.1 → [a, b, c'] ∈ s.2) ∧ s.2.length ≤ 1000 * a + 1 + 30 * (b - a - 1) + (s.1 - b)) (fun s => 2 * T.n - s.1) (b + 1, l ++ [[a, b]]) ⟨rfl, rfl, rfl, rfl, rfl, int_of rfl (by dsimp only; omega), rfl, rfl, trivial⟩ ⟨hst _ _ _ hi4 byQuiet, byOm, by omega, dn.add, dn2.add, mem_last, fun _ b' h1 h2 => by dsimp only at h2; omega, by simp; omega⟩ ?_
      rintro ⟨c, l⟩ g'' h5 ⟨hi, n5, hs'', dn, dn2, dn3, dn4, ll3⟩ K'' hK''
      dsimp only at hi hs'' dn dn2 dn3 dn4 ll3 ⊢
      have gmo := hI _ _ hi
      have fin2 : (mo = 3 → c = 2 * T.n) → Done2 (2 * T.n) mo l a (b + 1) := fun hc => ⟨dn2.1, fun b' h1 h2 => by
        by_cases e : b' = b
        · subst e; exact ⟨dn3, fun hm3 c' h3 h4 => dn4 hm3 c' h3 (by have := hc hm3; omega)⟩
        · exact dn2.2 b' h1 (by omega)⟩
      by_cases hcn : c < 2 * T.n ∧ mo = 3
      · (focus ((try with_reducible apply wpC.to); (repeat' ((conv => whnf); first | refine byEv ?_ | (apply Fork.mk <;> (intro _; try (exfalso; omega))) | ((refine kSpanH1 ?_); first | ((first | apply q_allD | apply q_alli | apply q_allB) <;> intro _ _ _ _ <;> try contradiction) | (apply q_allv; intro _ _ _)) | fail)); all_goals ((conv => whnf); try with_reducible apply At.mk)))
        apply q_calla
        focus exact acall_mono (hy l [a, b, c] _ _ (.inr (.inr ⟨hcn.2, a, b, c, hs'.1, hs''.1, hcn.1, rfl⟩)) (by omega) (hst _ h5 _ hi byQuiet) byOm (by show _ = some (ARow.cells [Value.int .i64 (a : Int), Value.int .i64 (b : Int), Value.int .i64 (c : Int)] 3); (exact byGet)) (by omega) byOm) byOm
        rintro v h6 (⟨rfl, hi6⟩ | ⟨rfl, hf6⟩) q6
        rotate_left
        · (focus ((try with_reducible apply wpC.to); (repeat' ((conv => whnf); first | refine byEv ?_ | (apply Fork.mk <;> (intro _; try (exfalso; omega))) | ((refine kSpanH1 ?_); first | ((first | apply q_allD | apply q_alli | apply q_allB) <;> intro _ _ _ _ <;> try contradiction) | (apply q_allv; intro _ _ _)) | fail)); all_goals ((conv => whnf); try with_reducible apply At.mk)))
          (refine byFin ?_)
          exact .inr (hfin _ _ hf6 byQuiet)
        have n6 := q6.next
        simp only [put_next, bump_next] at n6
        (focus ((try with_reducible apply wpC.to); (repeat' ((conv => whnf); first | refine byEv ?_ | (apply Fork.mk <;> (intro _; try (exfalso; omega))) | ((refine kSpanH1 ?_); first | ((first | apply q_allD | apply q_alli | apply q_allB) <;> intro _ _ _ _ <;> try contradiction) | (apply q_allv; intro _ _ _)) | fail)); all_goals ((conv => whnf); try with_reducible apply At.mk)))
        refine hK'' (c + 1, l ++ [[a, b, c]]) _ _ ⟨rfl, rfl, rfl, rfl, rfl, int_of rfl (by dsimp only; omega), rfl, rfl, trivial⟩ ⟨hst _ _ _ hi6 byQuiet, byOm, by dsimp only; omega, dn.add, dn2.add, List.mem_append_left _ dn3, fun hm3 c' h1 h2 => ?_, by simp; omega⟩ (by dsimp only; omega)
        dsimp only at h2
        by_cases e : c' = c
        · subst e; exact mem_last
        · exact List.mem_append_left _ (dn4 hm3 c' h1 (by omega))
      · (focus ((try with_reducible apply wpC.to); (repeat' ((conv => whnf); first | refine byEv ?_ | (apply Fork.mk <;> (intro _; try (exfalso; omega))) | ((refine kSpanH1 ?_); first | ((first | apply q_allD | apply q_alli | apply q_allB) <;> intro _ _ _ _ <;> try contradiction) | (apply q_allv; intro _ _ _)) | fail)); all_goals ((conv => whnf); try with_reducible apply At.mk)))
        all_goals exact hK' (b + 1, l) _ _ ⟨rfl, rfl, rfl, rfl, int_of rfl (by dsimp only; omega), rfl, rfl, trivial⟩ ⟨hst _ _ _ hi byQuiet, byOm, by dsimp only; omega, dn, fin2 fun hm3 => by omega, by dsimp only; omega⟩ (by dsimp only; omega)
    · obtain rfl : b = 2 * T.n := by omega
      (focus ((try with_reducible apply wpC.to); (repeat' ((conv => whnf); first | refine byEv ?_ | (apply Fork.mk <;> (intro _; try (exfalso; omega))) | ((refine kSpanH1 ?_); first | ((first | apply q_allD | apply q_alli | apply q_allB) <;> intro _ _ _ _ <;> try contradiction) | (apply q_allv; intro _ _ _)) | fail)); all_goals ((conv => whnf); try with_reducible apply At.mk)))
      refine hK (a + 1, l) _ _ ⟨rfl, rfl, rfl, rfl, int_of rfl (by dsimp only; omega), trivial⟩ ⟨hst _ _ _ hi byQuiet, byOm, by dsimp only; omega, fun a' h => ?_, by dsimp only; omega⟩ (by dsimp only; omega)
      dsimp only at h
      by_cases e : a' = a
      · subst e; exact dn2
      · exact dn a' (by omega)
  · obtain rfl : a = 2 * T.n := by omega
    (focus ((try with_reducible apply wpC.to); (repeat' ((conv => whnf); first | refine byEv ?_ | (apply Fork.mk <;> (intro _; try (exfalso; omega))) | ((refine kSpanH1 ?_); first | ((first | apply q_allD | apply q_alli | apply q_allB) <;> intro _ _ _ _ <;> try contradiction) | (apply q_allv; intro _ _ _)) | fail)); all_goals ((conv => whnf); try with_reducible apply At.mk)))
    (refine byFin ?_)
    exact .inl ⟨l, fun g hg => dn.all hg, by omega, hst _ _ _ hi byQuiet⟩
end AE.Try
