/- Maps from places to numbers, in the evaluator. -/
import Derived.Test.YtbfhhncmmllblaaChartL
import Derived.Test.YtbfhhncmmllblaaAEthree
import Derived.KernelRfl
set_option linter.unusedVariables false
set_option linter.unusedSimpArgs false
set_option linter.unusedSectionVars false
namespace AE.Try
open Go AE Go.Proofs
set_option linter.unusedVariables false
set_option maxRecDepth 100000

def keyV (a b : Int) : Value := .agg ⟨[.int .i64 a, .int .i64 b]⟩
theorem eqPlace (a b x y : Int) : pureRun Try.prog (Op.equal 88 (keyV a b) (keyV x y)) = some (a == x && b == y) :=
  eqRange (u := 3) (f0 := (Try.prog.fieldsOf 88)[0]!) (f1 := (Try.prog.fieldsOf 88)[1]!) (by kernel_rfl) (of_decide_eq_true (by kernel_rfl)) (of_decide_eq_true (by kernel_rfl)) (by kernel_rfl) (by kernel_rfl) Try.underlying3 9998 a b x y (by kernel_rfl) (fun _ _ => by kernel_rfl) (fun _ _ => by kernel_rfl)
theorem keyOk (f : Bool) (a b : Int) : (pureRun Try.prog (Instr.checkKey f 10000 88 (keyV a b))).isSome = true := by kernel_rfl
theorem under88 : ∃ fs, Try.prog.underlying 88 = some (.struct fs) := ⟨_, rfl⟩

def pent (e : PE) : MapEntry := ⟨keyV e.i e.k, .int .i64 e.v, e.b⟩
def pents (l : List PE) : List MapEntry := l.map pent

theorem ask_pents (i k : Nat) : ∀ (l : List PE) (j : Nat), pureRun Try.prog (Instr.findAsking 88 (keyV i k) (bare (pents l)) j) = some ((l.findIdx? (isKey i k)).map fun p => (p + j, undef))
  | [], j => rfl
  | e :: l, j => by
    have ih := ask_pents i k l (j + 1)
    have hk : (bare (pents (e :: l))) = ⟨keyV e.i e.k, undef, e.b⟩ :: bare (pents l) := rfl
    rw [hk]
    simp only [Instr.findAsking, pureRun_bind, eqPlace, Option.bind_some]
    have hb : (((i : Int) == (e.i : Int)) && ((k : Int) == (e.k : Int))) = isKey i k e := by
      unfold isKey
      rw [Bool.eq_iff_iff]
      simp only [Bool.and_eq_true, beq_iff_eq]
      omega
    rw [hb, List.findIdx?_cons]
    cases isKey i k e with
    | true => simp [pureRun, Pure.pure]
    | false =>
      simp only [Bool.false_eq_true, if_false]
      rw [ih]
      cases l.findIdx? (isKey i k) with
      | none => rfl
      | some p => simp; omega
theorem afind_pents (f : Bool) (i k : Nat) (l : List PE) : afind Try.prog f 88 (keyV i k) (pents l) = some (l.findIdx? (isKey i k)) := by
  obtain ⟨fs, hu⟩ := under88
  have hfl : keysFlat (pents l) = true := by
    unfold keysFlat pents
    rw [List.all_map, List.all_eq_true]
    intro e _
    rfl
  have hfind : pureRun Try.prog (Instr.findKey 88 (keyV i k) (bare (pents l))) = some ((l.findIdx? (isKey i k)).map fun p => (p, undef)) := by
    unfold Instr.findKey
    simp only [pureRun_bind, pureRun_under hu, Option.bind_some]
    cases l with
    | nil => rfl
    | cons e l =>
      have : Instr.findNow (.struct fs) (keyV i k) (bare (pents (e :: l))) 0 = none := rfl
      rw [this]
      have := ask_pents i k (e :: l) 0
      simpa using this
  unfold afind
  rw [if_pos ⟨rfl, hfl, keyOk f i k⟩, hfind]
  cases l.findIdx? (isKey i k) <;> rfl

section
variable {lo nid r : Nat} {ts : Ts} {h : H} {m x s y : Opd} {l : List PE} {c i k : Nat}

theorem pents_get (l : List PE) (j : Nat) : (pents l)[j]? = (l[j]?).map pent := by simp [pents]
theorem lookup_p (hm : ev ts m = .map (some r)) (hx : ev ts x = keyV i k) (hg : h.get r = some (.map (pents l) c)) : aop Try.prog lo nid ts h (.lookup 88 (.int .i64 0) false m x) = some (.int .i64 (pget l i k), h) := by
  simp only [aop, hm, hx, xLookup, hg, afind_pents, Option.bind_some, keep]
  unfold pget
  cases hj : l.findIdx? (isKey i k) with
  | none => rfl
  | some j =>
    obtain ⟨e, he, -, -⟩ := find_some hj
    simp [luOut, pents_get, he, pent]
def pmid (l : List PE) (i k c : Nat) : List PE := match l.findIdx? (isKey i k) with
  | some _ => l
  | none => l ++ [⟨i, k, 0, c⟩]
def pstamp (l : List PE) (i k c : Nat) : Nat := match l.findIdx? (isKey i k) with
  | some j => ((l[j]?).map PE.b).getD 0
  | none => c
theorem mapent_p (hm : ev ts m = .map (some r)) (hx : ev ts x = keyV i k) (hg : h.get r = some (.map (pents l) c)) (hlo : lo ≤ r) : aop Try.prog lo nid ts h (.mapent 88 (.int .i64 0) m x) = some (.tuple #[.int .i64 (pget l i k), .int .i64 (pstamp l i k c)], h.put r (.map (pents (pmid l i k c)) (pclk l i k c))) := by
  simp only [aop, hm, hx, xMapent, if_pos hlo, hg, afind_pents, Option.bind_some]
  unfold pget pstamp pmid pclk
  cases hj : l.findIdx? (isKey i k) with
  | none =>
    have hs : selfEq Try.prog 88 (keyV i k) = true := by
      unfold selfEq
      rw [eqPlace]
      simp [strSelf, keyV]
    simp only [meOut, hs, if_true]
    simp [pents, pent]
  | some j =>
    obtain ⟨e, he, hk, -⟩ := find_some hj
    simp only [PE.key, Prod.mk.injEq] at hk
    have hb : (eqV (pent e).key (keyV i k) && Instr.sameBits 10000 (pent e).key (keyV i k)) = true := by
      simp [pent, keyV, hk.1, hk.2, eqV, eqL, Instr.sameBits]
    simp only [meOut, pents_get, he, Option.map_some, Option.bind_some, if_pos hb]
    rfl
theorem findIdx_b {l : List PE} (hn : (l.map PE.b).Nodup) {j : Nat} {e : PE} (he : l[j]? = some e) : (pents l).findIdx? (fun x => (x.born : Int) == (e.b : Int)) = some j := by
  obtain ⟨hj, hje⟩ := List.getElem?_eq_some_iff.1 he
  refine List.findIdx?_eq_some_iff_getElem.2 ⟨by simpa [pents] using hj, by simp [pents, pent, hje], fun a ha => ?_⟩
  simp only [pents, List.getElem_map, pent, beq_iff_eq]
  have hal : a < l.length := by omega
  intro h
  have h : l[a].b = e.b := by omega
  have e1 : (l.map PE.b)[a]? = some e.b := by simp [hal, h]
  have e2 : (l.map PE.b)[j]? = some e.b := by simp [he]
  have := (List.getElem?_inj (i := a) (j := j) (by simpa using hal) hn).1 (by rw [e1, e2])
  omega
theorem entst_p {z : Int} (R : ∃ F, Rep l c F) (hm : ev ts m = .map (some r)) (hs : ev ts s = .int .i64 (pstamp l i k c)) (hy : ev ts y = .int .i64 z) (hg : h.get r = some (.map (pents (pmid l i k c)) (pclk l i k c))) (hlo : lo ≤ r) : aop Try.prog lo nid ts h (.entst m s y) = some (undef, h.put r (.map (pents (pput l i k z c)) (pclk l i k c))) := by
  obtain ⟨F, R⟩ := R
  simp only [aop, hm, hs, hy, xEntst, if_pos hlo, hg]
  unfold pstamp pmid pput pclk
  cases hj : l.findIdx? (isKey i k) with
  | some j =>
    obtain ⟨e, he, hk, -⟩ := find_some hj
    simp only [PE.key, Prod.mk.injEq] at hk
    obtain ⟨hi, hk⟩ := hk
    simp only [he, Option.map_some, Option.getD_some, findIdx_b R.nb he, esOut, pents_get]
    simp [pents, pent, hi, hk]
  | none =>
    have hbnd : ((l ++ [(⟨i, k, 0, c⟩ : PE)]).map PE.b).Nodup := by
      rw [List.map_append, List.nodup_append]
      refine ⟨R.nb, by simp, fun a ha b hb hab => ?_⟩
      simp only [List.map_cons, List.map_nil, List.mem_singleton] at hb
      obtain ⟨y, hy, rfl⟩ := List.mem_map.1 ha
      subst hb
      have := R.lt y hy
      omega
    have hget : (l ++ [(⟨i, k, 0, c⟩ : PE)])[l.length]? = some ⟨i, k, 0, c⟩ := by simp
    simp only [findIdx_b hbnd hget, esOut, pents_get, hget, Option.map_some]
    simp [pents, pent]
theorem delete_p (hm : ev ts m = .map (some r)) (hx : ev ts x = keyV i k) (hg : h.get r = some (.map (pents l) c)) (hlo : lo ≤ r) (hf : l.findIdx? (isKey i k) ≠ none) : aop Try.prog lo nid ts h (.delete 88 m x) = some (.tuple #[], h.put r (.map (pents (pdel l i k)) c)) := by
  cases hj : l.findIdx? (isKey i k) with
  | none => exact absurd hj hf
  | some j =>
    simp only [aop, hm, hx, xDelete, if_pos hlo, hg, afind_pents, Option.map_some, pdel, hj]
    simp [pents, map_eraseIdx]
end
end AE.Try
