/- Walks of the laws of charts: which offer is the best. -/
import Derived.Test.YtbfhhncmmllblaaChartZg
set_option linter.unusedVariables false
set_option linter.unusedSimpArgs false
set_option linter.unusedSectionVars false
namespace AE.Try
open Go AE Go.Proofs
set_option maxRecDepth 100000
set_option linter.unusedVariables false

/-- Pairs of numbers, below 2^16. -/
structure Tws where
  n : Nat
  x : Nat → Int
  y : Nat → Int
  b : Option Addr
  a : Addr
  c : Nat
structure Tws.Ok (S : Tws) (m : Nat) (h : H) : Prop where
  e : 0 < S.n → S.b = some S.a
  i : Els h S.a S.n 2 (fun i => [.int .u16 (S.x i), .int .u16 (S.y i)])
  r : 0 < S.n → S.a.block < m
  l : S.n ≤ 9223372036854775807
  p : ∀ i, i < S.n → (0 ≤ S.x i ∧ S.x i < 65536) ∧ 0 ≤ S.y i ∧ S.y i < 65536
theorem Tws.Ok.same {S : Tws} {m m' : Nat} {h h' : H} (k : S.Ok m h) (s : Same m h h') (hm : m ≤ m') : S.Ok m' h' :=
  ⟨k.e, k.i.same s k.r, fun h => by have := k.r h; omega, k.l, k.p⟩

theorem far_nn {T : Tbl} {p q : Pt} (ar : Around T p) (ar' : Around T q) (b : Bool) : 0 ≤ (T.far p q b).n ↔ 0 ≤ T.dif p q (T.ev p q b) (T.ev p q b) := by
  rw [far_eq b ar ar']
  obtain ⟨h0, g, hg, e, -⟩ := fr_of (n := T.dif p q (T.ev p q b) (T.ev p q b)) (whole2_pos ar ar').1
  generalize fr (T.dif p q (T.ev p q b) (T.ev p q b)) (T.whole p * T.whole q) = x at *
  rw [e]
  constructor
  · exact fun h => Int.mul_nonneg h (by omega)
  · exact fun h => Int.nonneg_of_mul_nonneg_left h hg
/-- What pulls surely as much pulls as much, in a true chart. -/
theorem val_best {T : Tbl} {p q : Pt} (g : T.Good) (ar : Around T p) (ar' : Around T q) {f : Nat → Nat → Int} (hf : ∀ i k, i < T.P.n → k < T.A.n → T.lo i k ≤ f i k ∧ f i k ≤ T.hi i k) (h : 0 ≤ (T.far p q Bool.false).n) : (T.val q f).n * (T.val p f).d ≤ (T.val p f).n * (T.val q f).d := by
  have h1 := (far_nn ar ar' Bool.false).1 h
  have h2 := dif_lo g ar ar' hf
  refine (val_of ar' f).le (val_of ar f) ?_
  unfold Tbl.dif at h1 h2
  omega
theorem best_can {T : Tbl} {S : Pts} (g : T.Good) (hon : ∀ i, i < S.n → T.On (S.f i)) {i : Nat} (hi : i < S.n) (h : best1 T S Bool.false i) : best1 T S Bool.true i := fun j hj => by
  have ar := g.around (hon i hi)
  have ar' := g.around (hon j hj)
  have h1 := (far_nn ar ar' Bool.false).1 (h j hj)
  refine (far_nn ar ar' Bool.true).2 ?_
  have evr : ∀ i' k', i' < T.P.n → k' < T.A.n → T.lo i' k' ≤ T.ev (S.f i) (S.f j) Bool.false i' k' ∧ T.ev (S.f i) (S.f j) Bool.false i' k' ≤ T.hi i' k' := fun i' k' hi hk => by
    have := g.bd i' k' hi hk
    unfold Tbl.Bd at this
    unfold Tbl.ev Tbl.endv
    split
    · omega
    · split <;> omega
  have := dif_hi g ar ar' evr
  omega
theorem sure_ok {h : H} {T : Tbl} {S : Pts} {m : Nat} (hm : m ≤ h.next) (hT : T.Ok m h) (hS : S.Ok m h) (g : T.Good) (hn : 0 < S.n ∧ S.n ≤ 12) (hon : ∀ i, i < S.n → T.On (S.f i)) : AW Try.prog 27 h.next h [.agg ⟨T.cells⟩, .slice S.b S.n S.c] (fun v h' => ∃ A B : Arr, v = .tuple #[.slice A.b A.n A.c, .slice B.b B.n B.c, .int .i64 0] ∧ (∀ i : Nat, i < S.n → ((∃ j, j < A.n ∧ A.f j = i) ↔ best1 T S Bool.false i)) ∧ (∀ i : Nat, i < S.n → ((∃ j, j < B.n ∧ B.f j = i) ↔ best1 T S Bool.true i)) ∧ A.Ok h'.next h' ∧ B.Ok h'.next h' ∧ A.n ≤ 12 ∧ B.n ≤ 12) := by
  have e0 : T.suErr S = 0 := by
    unfold Tbl.suErr
    rw [if_neg (fun k => k g.err), if_neg (by omega), if_neg (fun k => k hon)]
  obtain ⟨v, h', ⟨A, B, rfl, nA, nB, oA, oB⟩, a⟩ := Sure_w hm hT hS
  rw [e0] at a
  have su : ∀ b, T.sure S b = bestL T S b S.n := fun b => by unfold Tbl.sure; rw [if_pos e0]
  rw [su] at nA nB
  have key : ∀ {b : Bool} {A : Arr}, NL (bestL T S b S.n) A → ∀ i : Nat, i < S.n → ((∃ j, j < A.n ∧ A.f j = i) ↔ best1 T S b i) := fun {b} {A} nA i hi => by
    have hm := mem_bestL (T := T) (S := S) (high := b) (i := i) S.n
    constructor
    · rintro ⟨j, hj, e⟩
      have hl : j < (bestL T S b S.n).length := by have := nA.n; omega
      have := nA.f j hl
      have e2 : (bestL T S b S.n).getD j 0 = i := by omega
      have : i ∈ bestL T S b S.n := by
        rw [← e2, List.getD_eq_getElem?_getD, List.getElem?_eq_getElem hl]
        exact List.getElem_mem hl
      exact (hm.1 this).2
    · intro hb
      obtain ⟨j, hl, e⟩ := List.mem_iff_getElem.1 (hm.2 ⟨hi, hb⟩)
      refine ⟨j, by have := nA.n; omega, ?_⟩
      rw [nA.f j hl, List.getD_eq_getElem?_getD, List.getElem?_eq_getElem hl, Option.getD_some, e]
  have l1 := bestL_len T S Bool.false S.n
  have l2 := bestL_len T S Bool.true S.n
  exact ⟨_, h', ⟨A, B, rfl, key nA, key nB, oA, oB, by have := nA.n; omega, by have := nB.n; omega⟩, a⟩
end AE.Try
