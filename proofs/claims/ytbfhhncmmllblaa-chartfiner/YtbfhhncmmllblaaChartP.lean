/- Walks of chart: by how much at most, or at least, a point pulls more than another one. -/
import Derived.Test.YtbfhhncmmllblaaChartO
set_option linter.unusedVariables false
set_option linter.unusedSimpArgs false
set_option linter.unusedSectionVars false
namespace AE.Try
open Go AE Go.Proofs
set_option maxRecDepth 100000
set_option linter.unusedVariables false

theorem wp_next {P : Program} {lo : Nat} {Q : Exit → Ts → H → Prop} {ts : Ts} {h : H} {x : Opd} {a b r m since c0 clock : Nat} {seen : List Nat} {es : List MapEntry} (e1 : ev ts x = .pointer (some ⟨r, 0, none⟩)) (hlo : lo ≤ r) (hrm : r ≠ m) (hg : h.get r = some (.iter m since seen c0)) (hgm : h.get m = some (.map es clock)) (hold : ∀ e ∈ es, e.born < since) (hsc : since ≤ c0)
    (h0 : (∀ e ∈ es, e.born ∈ seen) → Q .normal (putT (putT ts a (.tuple ⟨[.bool false]⟩)) b (.bool false)) h)
    (h1 : ∀ e ∈ es, e.born ∉ seen → Q .normal (putT (putT ts a (.tuple ⟨[.bool true, e.key, e.val]⟩)) b (.bool true)) (h.put r (.iter m since (seen ++ [e.born]) clock))) : wpA P lo (.next x a b) Q ts h := by
  refine ⟨r, m, since, seen, c0, es, clock, e1, hlo, hrm, hg, hgm, hold, hsc, fun hz => ?_, fun e he hn => ?_⟩
  · have := h0 hz
    rw [putT_eq, putT_eq] at this
    exact this
  · have := h1 e he hn
    rw [putT_eq, putT_eq] at this
    exact this
theorem finD1 {P : Program} {ts : Ts} {h h' : H} {r : ResultVar} {x v : Value} {e : Exit} (he : e = .normal ∨ e = .ret) (e1 : ares1 P h' ts r = some x) (hx : x = v) (hs : ∀ j, j < h.next → h'.get j = h.get j) : (e = .normal ∨ e = .ret) ∧ ares P h' ts [r] = some v ∧ ∀ j, j < h.next → h'.get j = h.get j :=
  ⟨he, by simp only [ares, e1, hx], hs⟩

def Tbl.endv (T : Tbl) (high : Bool) (w : Int) (i k : Nat) : Int := if high = decide (0 < w) then T.hi i k else T.lo i k
theorem kChartP0 {G : Prop} (g : G := by ((apply hi_w; rotate_left; (focus (apply Tbl.Ok.same; (focus assumption); (focus exact bySame); (focus exact Nat.le_refl _))); (focus assumption); (focus assumption); (focus exact rfl); (focus exact rfl); (focus exact byOm)))) : G := g
theorem kChartP1 {G : Prop} (g : G := by ((apply lo_w; rotate_left; (focus (apply Tbl.Ok.same; (focus assumption); (focus exact bySame); (focus exact Nat.le_refl _))); (focus assumption); (focus assumption); (focus exact rfl); (focus exact rfl); (focus exact byOm)))) : G := g
theorem end_w {h : H} {T : Tbl} {m i k : Nat} {w : Int} {high : Bool} (hm : m ≤ h.next) (hT : T.Ok m h) (hi : i < T.R.n) (hk : k < T.R.w i) : AW Try.prog 86 h.next h [.agg ⟨T.cells⟩, .agg ⟨[.int .i64 i, .int .i64 k]⟩, .int .i64 w, .bool high] (fun v _ => v = .int .i64 (T.endv high w i k)) := by
  refine fun86.call rfl (Nat.le_refl _) ?_
  unfold a86 Tbl.cells
  unfold Tbl.endv
  cases high <;> (focus ((try with_reducible apply wpC.to); (repeat' ((conv => whnf); first | refine byEv ?_ | ((apply Fork.mk) <;> (intro _; try (exfalso; omega; done))) | ((apply q_call); (focus exact byNext); (focus exact byLo); (focus (first | exact kChartP1 | exact kChartP0)); first | ((apply q_allB) <;> (intro z_b _ _ _; first | exact Bool.noConfusion z_b | replace z_b := of_decide_eq_true z_b | replace z_b := of_decide_eq_false z_b | skip) <;> (first | contradiction | (revert z_b; intros))) | ((apply q_alli) <;> (intro _ _ _ _; try contradiction)) | ((apply q_allv); intro _ _ _)) | fail)); all_goals (conv => whnf); all_goals (try with_reducible apply At.mk)))
  · (refine byFin ?_)
    rw [decide_eq_true (by omega), if_neg (by decide)]
  · (refine byFin ?_)
    rw [decide_eq_false (by omega), if_pos rfl]
  · (refine byFin ?_)
    rw [decide_eq_true (by omega), if_pos rfl]
  · (refine byFin ?_)
    rw [decide_eq_false (by omega), if_neg (by decide)]

/-! ### the sum, in whatever order -/

theorem filter_less {α : Type} (p q : α → Bool) (hpq : ∀ x, q x = true → p x = true) (e : α) (hp : p e = true) (hq : q e = false) : ∀ (l : List α), e ∈ l → (l.filter q).length < (l.filter p).length
  | x :: l, he => by
    have hle : (l.filter q).length ≤ (l.filter p).length := by
      clear he
      induction l with
      | nil => simp
      | cons y l ih =>
        simp only [List.filter_cons]
        by_cases hy : q y = true
        · simp [hy, hpq y hy, ih]
        · by_cases hy' : p y = true <;> simp [hy, hy'] <;> omega
    rcases List.mem_cons.1 he with rfl | h
    · simp [hp, hq]
      omega
    · have ih := filter_less p q hpq e hp hq l h
      simp only [List.filter_cons]
      by_cases hy : q x = true
      · simp [hy, hpq x hy, ih]
      · by_cases hy' : p x = true <;> simp [hy, hy'] <;> omega


/-- The sum over the entries that have come. -/
def ss (f : PE → Int) (l : List PE) (seen : List Nat) : Int := ls (fun e => if e.b ∈ seen then f e else 0) l
theorem ss_nil (f : PE → Int) (l : List PE) : ss f l [] = 0 := by
  unfold ss
  induction l with
  | nil => rfl
  | cons e l ih => simp only [ls, List.not_mem_nil, if_false] at ih ⊢; omega
theorem ss_all (f : PE → Int) (l : List PE) (seen : List Nat) (h : ∀ e ∈ l, e.b ∈ seen) : ss f l seen = ls f l := ls_congr l fun e he => if_pos (h e he)
theorem ss_more (f : PE → Int) {e : PE} {seen : List Nat} (hs : e.b ∉ seen) : ∀ l : List PE, (l.map PE.b).Nodup → e ∈ l → ss f l (seen ++ [e.b]) = ss f l seen + f e
  | x :: l, hn, he => by
    obtain ⟨h1, h2⟩ := List.nodup_cons.1 hn
    unfold ss
    simp only [ls]
    rcases List.mem_cons.1 he with rfl | h
    · have : ls (fun y => if y.b ∈ seen ++ [e.b] then f y else 0) l = ls (fun y => if y.b ∈ seen then f y else 0) l := by
        refine ls_congr l fun y hy => ?_
        have hne : y.b ≠ e.b := fun h => h1 (List.mem_map.2 ⟨y, hy, h⟩)
        simp [hne]
      rw [this, if_pos (by simp), if_neg hs]
      omega
    · have ih := ss_more f hs l h2 h
      unfold ss at ih
      have hne : x.b ≠ e.b := fun h' => h1 (List.mem_map.2 ⟨e, h, h'.symm⟩)
      rw [ih]
      simp [hne]
      omega
theorem ss_abs {f g : PE → Int} {l : List PE} {seen : List Nat} (h : ∀ e ∈ l, -g e ≤ f e ∧ f e ≤ g e) : -ls g l ≤ ss f l seen ∧ ss f l seen ≤ ls g l := by
  constructor
  · rw [← ls_neg]
    refine ls_le l fun e he => ?_
    have := h e he
    split <;> omega
  · refine ls_le l fun e he => ?_
    have := h e he
    split <;> omega
theorem ls_mem {g : PE → Int} : ∀ {l : List PE} {e : PE}, (∀ e ∈ l, 0 ≤ g e) → e ∈ l → g e ≤ ls g l
  | x :: l, e, h, he => by
    have h0 := h x List.mem_cons_self
    have hl : 0 ≤ ls g l := by
      have := ls_le (f := fun _ => 0) (g := g) l (fun e he => h e (List.mem_cons_of_mem _ he))
      have hz : ls (fun _ => 0) l = 0 := by
        clear this h he
        induction l with
        | nil => rfl
        | cons y l ih => simp only [ls, ih]; rfl
      omega
    simp only [ls]
    rcases List.mem_cons.1 he with rfl | h'
    · omega
    · have := ls_mem (fun e he => h e (List.mem_cons_of_mem _ he)) h'
      omega
/-- How many have not come. -/
def us (l : List PE) (seen : List Nat) : Nat := (l.filter fun e => !decide (e.b ∈ seen)).length
theorem us_less {e : PE} {seen : List Nat} (hs : e.b ∉ seen) {l : List PE} (he : e ∈ l) : us l (seen ++ [e.b]) < us l seen := by
  unfold us
  exact filter_less _ _ (fun x hx => by simp at hx ⊢; exact hx.1) e (by simp [hs]) (by simp) l he
end AE.Try
