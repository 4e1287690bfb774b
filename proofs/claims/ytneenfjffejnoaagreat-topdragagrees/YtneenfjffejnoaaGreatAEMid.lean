/- A region that draws its order, with places that all that stands ahead of them is done before, and all behind them after: between two of them any order, or a call that may come to many ends. -/
import Derived.Test.YtneenfjffejnoaaGreatAEtwo
import Derived.Test.YtneenfjffejnoaaGreatAEthree
set_option linter.unusedVariables false
set_option linter.unusedSimpArgs false
set_option linter.unusedSectionVars false
namespace AE
open Go Go.RowKit
set_option linter.unusedVariables false

def dummy (o : Oper) : Oper := { o with op := match o.dst with | some d => .move (.tmp d) | none => .move (.const (.bool true)), guard := none }
def behind (ops : Array Oper) (b : Nat) : Array Oper := ops.mapIdx fun i o => if i < b then dummy o else o
theorem behind_get (ops : Array Oper) (b i : Nat) : (behind ops b)[i]? = (ops[i]?).map fun o => if i < b then dummy o else o := by simp [behind]
theorem dummy_op {P : Program} {n : Nat} {O : Array Oper} {o : Oper} {x : AOper} (h : cOper P n O (dummy o) = some x) : x.guard = none ∧ x.dst = o.dst ∧ ∃ y, x.ins = .op (.mv y) ∧ ∀ d, o.dst = some d → y = .t d := by
 obtain ⟨dst, op, ty, pos, af, g⟩ := o
 cases dst with
 | none =>
   have h : (if insKnown (.op (.mv (.c (.bool true)))) && dstOk n none then some (⟨none, none, .op (.mv (.c (.bool true)))⟩ : AOper) else none) = some x := h
   split at h
   ·simp only [Option.some.injEq] at h
    subst h
    exact ⟨rfl, rfl, _, rfl, by simp⟩
   ·simp at h
 | some d =>
   have h : (if insKnown (.op (.mv (.t d))) && dstOk n (some d) then some (⟨some d, none, .op (.mv (.t d))⟩ : AOper) else none) = some x := h
   split at h
   ·simp only [Option.some.injEq] at h
    subst h
    exact ⟨rfl, rfl, _, rfl, by simp⟩
   ·simp at h
def barrier (ops : Array Oper) (p : Nat) : Bool :=
 let ms := masks ops ops.size
 (List.range ops.size).all fun j => decide (j < p) || (List.range p).all fun i => ord ms i j
theorem barrier_spec {ops : Array Oper} {p : Nat} (h : barrier ops p = true) : ∀ i j, i < p → p ≤ j → j < ops.size → ord (masks ops ops.size) i j = true := by
 intro i j h1 h2 h3
 have := List.all_eq_true.1 h j (by simpa using h3)
 simp only [Bool.or_eq_true, decide_eq_true_eq] at this
 rcases this with h | h
 ·omega
 ·exact List.all_eq_true.1 h i (by simpa using h1)

section
variable {P : Program} {ro : Option Nat} {n lo b c : Nat} {ops : Array Oper}

theorem ready_of (hlt : ∀ k e, e ∈ bef ops k → e < k) {L : Nat → Prop} (hL : Down ops L) {i j : Nat} (hj : j < ops.size) (hb : ∀ e ∈ bef ops j, L e) (ho : ord (masks ops ops.size) i j = true) : L i := by
 unfold ord at ho
 rw [masks_get ops _ _ hj] at ho
 exact (masks_down hL hlt j hb i ho).1

theorem any_seg {base : Nat} {O : Array Oper} {xs : List AOper} {ap : List (Opd × Opd)} {S : Nat → Ts × H} {U : Nat → Option (Nat × ARow)} (hlt : ∀ k e, e ∈ bef ops k → e < k) (hcs : c ≤ ops.size)
 (hbar : ∀ i j, i < c → c ≤ j → j < ops.size → ord (masks ops ops.size) i j = true) (hx : cOpers P n O O.toList = some xs) (hsz1 : O.size = c) (hsub : ∀ i, i < c → b ≤ i → O[i]? = ops[i]?)
 (hsub2 : ∀ i, i < c → (O[i]?).map (fun o => (o.dst, o.after)) = (ops[i]?).map fun o => (o.dst, o.after)) (D : DOk O xs ap) (T : Text P lo base xs S U) {I0 : Inj} {w0 : World} {a0 : Act}
 (hap : ∀ p ∈ ap, ∀ r ∈ touchV (ev (S xs.length).1 p.1), r ∉ touchV (ev (S xs.length).1 p.2)) {Q : Exit → Act → World → Prop} {fuel2 : Nat}
 (hQ : ∀ J w1 a1, Inv n lo base O xs S U I0 w0 a0 (fun j => j < xs.length) J w1 a1 → ∀ arr : Array Bool, arr.size = ops.size → (∀ j, listed arr j ↔ j < c) → wpAnyIn (WR ro) 0 P .any ops Q fuel2 arr a1 w1) :
 ∀ (fuel : Nat) (arr : Array Bool) (I : Inj) (w : World) (a : Act), arr.size = ops.size → (∀ j, listed arr j → j < c) → (∀ j, j < b → j < c → listed arr j) → left c arr = fuel → Inv n lo base O xs S U I0 w0 a0 (listed arr) I w a → wpAnyIn (WR ro) 0 P .any ops Q (fuel + fuel2) arr a w := by
 obtain ⟨hlen0, hget⟩ := cOpers_get hx
 have hlen : xs.length = c := by rw [hlen0, ← hsz1]; simp
 have hbef : ∀ i, i < c → bef O i = bef ops i := fun i hi => by
  have h := hsub2 i hi
  unfold bef
  cases h1 : O[i]? <;> cases h2 : ops[i]? <;> rw [h1, h2] at h <;> simp at h ⊢
  rw [h.2]
 have hall : ∀ (arr : Array Bool), left c arr = 0 → ∀ j, j < c → listed arr j := by
  intro arr hz j hj
  unfold left at hz
  rw [List.length_eq_zero_iff, List.filter_eq_nil_iff] at hz
  have := hz j (by simpa using hj)
  unfold listed
  simpa using this
 intro fuel
 induction fuel with
 | zero =>
   intro arr I w a hsz hl1 hl2 hl V
   rw [Nat.zero_add]
   have hL : listed arr = fun j => j < xs.length := by
    funext j
    exact propext ⟨fun h => by have := hl1 j h; omega, fun h => hall arr hl j byO⟩
   rw [hL] at V
   exact hQ I w a V arr hsz fun j => ⟨hl1 j, fun h => hall arr hl j h⟩
 | succ fuel ih =>
   intro arr I w a hsz hl1 hl2 hl V
   rw [show fuel + 1 + fuel2 = fuel + fuel2 + 1 by omega]
   have hdown : Down ops (listed arr) := fun i hi e he => by
    have h1 := hl1 i hi
    exact V.down i hi e (by rw [hbef i h1]; exact he)
   have hex : ∃ j, j < c ∧ ¬ listed arr j := by
    by_cases h : ∃ j, j < c ∧ ¬ listed arr j
    ·exact h
    ·exfalso
     have : left c arr = 0 := by
      unfold left
      rw [List.length_eq_zero_iff, List.filter_eq_nil_iff]
      intro j hj
      rcases listed_dec arr j with k | k
      ·unfold listed at k; simp only [k]; simp
      ·exact absurd ⟨j, by simpa using hj, k⟩ h
     omega
   have hmin : ∀ j, j < c → ¬ listed arr j → ∃ j', j' < c ∧ j' ∈ Region.ready .any ops arr := by
    intro j
    induction j using Nat.strongRecOn with
    | _ j ihj =>
      intro hj hn
      by_cases hb : ∀ e ∈ bef ops j, listed arr e
      ·exact ⟨j, hj, (ready_bef hsz).2 ⟨by omega, hn, hb⟩⟩
      ·have hb : ∃ e, e ∈ bef ops j ∧ ¬ listed arr e := by
        refine Classical.byContradiction fun h => hb fun e he => ?_
        rcases listed_dec arr e with k | k
        ·exact k
        ·exact absurd ⟨e, he, k⟩ h
       obtain ⟨e, he, hne⟩ := hb
       have hlte := hlt j e he
       exact ihj e hlte byO hne
   refine ⟨fun hr => ?_, fun j hj => ?_⟩
   ·obtain ⟨j, hj, hn⟩ := hex
    obtain ⟨j', -, h⟩ := hmin j hj hn
    rw [hr] at h; simp at h
   ·obtain ⟨hj1, hj2, hj3⟩ := (ready_bef hsz).1 hj
    have hjc : j < c := by
     rcases Nat.lt_or_ge j c with h | h
     ·exact h
     ·exfalso
      obtain ⟨i, hi, hn⟩ := hex
      exact hn (ready_of hlt hdown hj1 hj3 (hbar i j hi h hj1))
    have hjb : b ≤ j := by
     rcases Nat.lt_or_ge j b with h | h
     ·exact absurd (hl2 j h hjc) hj2
     ·exact h
    obtain ⟨y, hy, -⟩ := hget j O.toList[j] (List.getElem?_eq_getElem (by simp; omega))
    have R : Rdy O xs (listed arr) j y := ⟨hy, hj2, fun e he => hj3 e (by rw [← hbef j hjc]; exact he)⟩
    have h1 := take_one (ro := ro) hx D T hap V R (K := wpAnyIn (WR ro) 0 P .any ops Q (fuel + fuel2) (arr.setIfInBounds j true)) (Q := Q) (fun J w1 a1 V' => by
     refine ih _ J w1 a1 (by simpa using hsz) (fun k hk => ?_) (fun k hk hkc => ?_) ?_ ?_
     ·rw [listed_set byO] at hk
      rcases hk with hk | rfl
      ·exact hl1 k hk
      ·exact hjc
     ·rw [listed_set byO]
      exact .inl (hl2 k hk hkc)
     ·have := left_one (m := c) (arr := arr) hjc byO (by simpa [listed] using hj2)
      omega
     ·rw [listed_set byO]
      exact V')
    unfold wpOpIn at h1 ⊢
    rw [hsub j hjc hjb] at h1
    obtain ⟨o, ho⟩ : ∃ o, ops[j]? = some o := ⟨ops[j], Array.getElem?_eq_getElem byO⟩
    rw [ho] at h1 ⊢
    have hw : Region.wanted o (yielded O a.tmps) = Region.wanted o (yielded ops a.tmps) := by
     unfold Region.wanted
     cases hg : o.guard with
     | none => rfl
     | some p =>
       obtain ⟨i, b'⟩ := p
       have ho1 : O[j]? = some o := by rw [hsub j hjc hjb, ho]
       obtain ⟨x', hx', hxo⟩ := hget j o (by rw [Array.getElem?_toList]; exact ho1)
       simp only [cOper, cGuard, hg, Option.bind_eq_some_iff, Option.map_eq_some_iff] at hxo
       obtain ⟨g, ⟨d, ⟨oi, hoi, hd⟩, -⟩, -⟩ := hxo
       have hi : i < c := by have := (Array.getElem?_eq_some_iff.1 hoi).1; omega
       have h := hsub2 i hi
       have hd2 : (O[i]?).bind (·.dst) = (ops[i]?).bind (·.dst) := by
        cases e1 : O[i]? <;> cases e2 : ops[i]? <;> rw [e1, e2] at h <;> simp at h ⊢
        exact h.1
       simp only [yielded, hd2]
    simp only [hw] at h1
    exact h1

theorem left_of {m : Nat} {arr : Array Bool} (hb : b ≤ m) (h : ∀ j, listed arr j ↔ j < b) : left m arr = m - b := by
 have key : ∀ m, left m arr = m - b := by
  intro m
  induction m with
  | zero => simp [left]
  | succ m ih =>
    have hl : left (m + 1) arr = left m arr + if arr.getD m false then 0 else 1 := by
     unfold left
     rw [List.range_succ, List.filter_append, List.length_append]
     congr 1
     simp only [List.filter_cons, List.filter_nil]
     cases arr.getD m false <;> rfl
    rw [hl, ih]
    by_cases hm : m < b
    ·have := (h m).2 hm
     unfold listed at this
     rw [this]
     simp; omega
    ·have : arr.getD m false = false := by
      have := fun k => hm ((h m).1 k)
      unfold listed at this
      simpa using this
     rw [this]
     simp; omega
 exact key m

theorem seg_any {xs : List AOper} {ap : List (Opd × Opd)} (hlt : ∀ k e, e ∈ bef ops k → e < k) (hbc : b ≤ c) (hcs : c ≤ ops.size) (hbar : ∀ i j, i < c → c ≤ j → j < ops.size → ord (masks ops ops.size) i j = true)
 (hx : cOpers P n ((behind ops b).extract 0 c) ((behind ops b).extract 0 c).toList = some xs) (hd : dOk ((behind ops b).extract 0 c) xs ap = true) {K : Ts → H → Prop} {ts : Ts} {h : H} (hlo : lo ≤ h.next)
 (hr : Run P lo true h.next 0 xs (fun ts1 h1 => Apart ap ts1 ∧ K ts1 h1) ts (h.bump xs.length)) {I : Inj} {w : World} {a : Act} {arr : Array Bool} (k : Rel I h w) (t : TsRel I n ts a.tmps) (hsz : arr.size = ops.size)
 (hl : ∀ j, listed arr j ↔ j < b) {Q : Exit → Act → World → Prop} {fuel2 : Nat}
 (hQ : ∀ ts1 h1 J w1 a1, K ts1 h1 → Quiet lo h h1 → Went I J lo h.next h1 w w1 → TsRel J n ts1 a1.tmps → a1.defers = a.defers → ∀ arr : Array Bool, arr.size = ops.size → (∀ j, listed arr j ↔ j < c) → wpAnyIn (WR ro) 0 P .any ops Q fuel2 arr a1 w1) :
 wpAnyIn (WR ro) 0 P .any ops Q (c - b + fuel2) arr a w := by
 have hO : ∀ i, i < c → ((behind ops b).extract 0 c)[i]? = (ops[i]?).map fun o => if i < b then dummy o else o := fun i hi => by
  rw [Array.getElem?_extract, ← behind_get]
  simp [behind]
  omega
 have hOs : ((behind ops b).extract 0 c).size = c := by simp [behind]; omega
 generalize hOe : (behind ops b).extract 0 c = O at *
 have hlen : xs.length = c := by rw [(cOpers_get hx).1, ← hOs]; simp
 have D := dOk_spec hd
 obtain ⟨S, U, h0, hstep, hap, hK⟩ := run_trace xs 0 ts _ (fun x hx => by obtain ⟨i, hi, e⟩ := List.getElem_of_mem hx; exact D.noSel i x (by rw [List.getElem?_eq_getElem hi, e])) hr
 have hstep' : ∀ i x, xs[i]? = some x → Step1 P lo h.next i x (S i) (U i) (S (i + 1)) := fun i x hi => by simpa using hstep i x hi
 have hroom : h.next + xs.length ≤ (S 0).2.next := by rw [h0]; exact Nat.le_refl _
 have hquiet := quiet_of hstep' hroom hlo xs.length (Nat.le_refl _)
 rw [h0] at hquiet
 have hq0 : Quiet lo h (S xs.length).2 := ⟨Nat.le_trans (Nat.le_add_right _ _) hquiet.next, hquiet.same, fun hc => hquiet.clean fun r hr => hc r (Nat.le_trans (Nat.le_add_right _ _) hr)⟩
 have T : Text P lo h.next xs S U := ⟨hstep', hroom, by rw [h0]; intro r hr; exact k.clean r (Nat.le_trans (Nat.le_add_right _ _) hr), by rw [h0]; intro j _; exact k.clean _ (Nat.le_add_right _ _), hlo⟩
 have hdum : ∀ j, j < b → S (j + 1) = S j ∧ U j = none := by
  intro j hj
  obtain ⟨o, ho⟩ : ∃ o, ops[j]? = some o := ⟨ops[j], Array.getElem?_eq_getElem byO⟩
  have hOj : O[j]? = some (dummy o) := by rw [hO j byO, ho]; simp [hj]
  obtain ⟨x, hxj, hxo⟩ := (cOpers_get hx).2 j (dummy o) (by rw [Array.getElem?_toList]; exact hOj)
  have hs := hstep' j x hxj
  have hx3 := dummy_op hxo
  obtain ⟨hx1, hx2, y, hx4, hx5⟩ := hx3
  generalize S j = s at hs
  generalize S (j + 1) = s' at hs
  generalize U j = u at hs
  cases hs with
  | skip ts h hg => rw [hx1] at hg; simp [awanted] at hg
  | op ts h ao v u hg hi hu1 hu2 =>
    rw [hx4] at hi
    simp only [AIns.op.injEq] at hi
    subst hi
    have e1 := hu2 ⟨fun _ => none, 0⟩ (fun r hr => by simp [AOp.touch] at hr)
    simp only [aop, Option.some.injEq, Prod.mk.injEq] at e1
    have hun : u = none := by
     cases u with
     | none => rfl
     | some p =>
       exfalso
       have := congrArg (fun g => H.get g p.1) e1.2
       simp [H.upd, H.put] at this
    refine ⟨?_, hun⟩
    rw [hun, ← e1.1, hx2]
    simp only [H.upd, Prod.mk.injEq, and_true]
    cases hod : o.dst with
    | none => rfl
    | some d =>
      rw [hx5 d hod]
      funext m
      simp only [aput, setV, ev]
      split
      ·rename_i hm; rw [hm]
      ·rfl
  | call ts h f args v h' hg hi hc => rw [hx4] at hi; simp at hi
 have hS : ∀ j, j ≤ b → S j = S 0 := by
  intro j
  induction j with
  | zero => intro _; rfl
  | succ j ih => intro hj; rw [(hdum j byO).1]; exact ih byO
 have hver : ∀ W : Nat → Prop, S (ver (fun j => listed arr j ∧ W j) xs.length) = S 0 := by
  intro W
  rcases ver_spec (fun j => listed arr j ∧ W j) xs.length with ⟨h1, -⟩ | ⟨j, h1, h2, h3, -⟩
  ·rw [h1]
  ·rw [h2]
   exact hS _ (by have := (hl j).1 h3.1; omega)
 have hcT : curT xs S (listed arr) = ts := by
  funext t
  unfold curT
  rw [hver, h0]
 have hcH : ∀ r, (curH xs S U (listed arr)).get r = h.get r := by
  intro r
  simp only [curH]
  rw [hver, h0]
  rfl
 have hsub2 : ∀ i, i < c → (O[i]?).map (fun o => (o.dst, o.after)) = (ops[i]?).map fun o => (o.dst, o.after) := fun i hi => by
  rw [hO i hi]
  cases ops[i]? with
  | none => rfl
  | some o =>
    simp only [Option.map_some]
    split <;> rfl
 rw [show c - b = left c arr from (left_of hbc hl).symm]
 refine any_seg (base := h.next) (I0 := I) (w0 := w) (a0 := a) hlt hcs hbar hx hOs (fun i hi hb => ?_) hsub2 D T hap (fun J w1 a1 V arr' hsz' hl' => ?_) (left c arr) arr I w a hsz (fun j hj => by have := (hl j).1 hj; omega) (fun j hj _ => (hl j).2 hj) rfl ?_
 ·have hib : ¬ i < b := by omega
  rw [hO i hi]
  simp [hib]
 ·refine hQ _ _ J w1 a1 hK hq0 ⟨⟨V.grows.le, V.grows.new⟩, V.dom, V.old, ?_, ⟨V.ext.os, V.ext.tape, V.ext.output, V.ext.size, V.ext.block⟩⟩ ?_ V.defers arr' hsz' hl'
  ·refine ⟨fun r row hr d => V.rel.rows r row ?_ d, V.rel.lt, V.rel.size, V.rel.base, V.rel.tabs, V.rel.inj, ?_⟩
   ·rw [← hr]
    exact ver_at (F := fun k => (S k).2.get r) (W := fun j => Wr xs S U j r) (T.heap (r := r)) (Nat.le_refl _) (fun j hj _ => by simp [hj])
   ·exact T.clean' (Nat.le_refl _)
  ·have : curT xs S (fun j => j < xs.length) = (S xs.length).1 := by
    funext t
    exact ver_at (F := fun k => (S k).1 t) (W := fun j => Wt xs j t) (T.tmp (t := t)) (Nat.le_refl _) (fun j hj _ => by simp [hj])
   rw [← this]
   exact V.ts
 ·refine ⟨fun j hj => by have := (hl j).1 hj; omega, fun j hj e he => (hl e).2 (by have h1 := (hl j).1 hj; have := D.lt j e he byO; omega), by rw [hcT]; exact t, ⟨fun r row hr d => k.rows r row (by rw [← hcH]; exact hr) d, fun r d => ?_, k.size, k.base, k.tabs, k.inj, fun r hr => ?_⟩, fun j hj d => ?_, fun j y hy hc _ r d => ?_, fun j r row hj hu => ?_, Grows.refl _ _, fun r d => .inl d, fun _ _ _ _ e => e, Ext.refl _ _ _, rfl⟩
  ·have h1 := k.lt r d
   have h2 := hquiet.next
   simp only [curH, H.bump] at h2 ⊢
   omega
  ·rw [hcH]
   have h2 := hquiet.next
   simp only [curH, H.bump] at hr h2
   exact k.clean r byO
  ·have := k.lt _ d
   omega
  ·have h1 := k.lt r d
   have h2 := T.room' (k := j) (Nat.le_of_lt (List.getElem?_eq_some_iff.1 hy).1)
   omega
  ·rw [(hdum j ((hl j).1 hj)).2] at hu
   cases hu

theorem call_any {x : AOper} (hlt : ∀ k e, e ∈ bef ops k → e < k) (hcs : c < ops.size) (hbar : ∀ i j, i < c → c ≤ j → j < ops.size → ord (masks ops ops.size) i j = true) (hbar1 : ∀ i j, i < c + 1 → c + 1 ≤ j → j < ops.size → ord (masks ops ops.size) i j = true)
 {xs : List AOper} (hx : cOpers P n ops ops.toList = some xs) (hxc : xs[c]? = some x) {f : Opd} {args : List Opd} (hi : x.ins = .call f args) {K : Ts → H → Prop} {ts : Ts} {h : H} (hlo : lo ≤ h.next)
 (hr : RunD P lo h.next 0 [x] K ts (h.bump 1)) {I : Inj} {w : World} {a : Act} {arr : Array Bool} (k : Rel I h w) (t : TsRel I n ts a.tmps) (hsz : arr.size = ops.size)
 (hl : ∀ j, listed arr j ↔ j < c) {Q : Exit → Act → World → Prop} {fuel2 : Nat}
 (hQ : ∀ ts1 h1 J w1 a1, K ts1 h1 → Quiet lo h h1 → Went I J lo h.next h1 w w1 → TsRel J n ts1 a1.tmps → a1.defers = a.defers → ∀ arr : Array Bool, arr.size = ops.size → (∀ j, listed arr j ↔ j < c + 1) → wpAnyIn (WR ro) 0 P .any ops Q fuel2 arr a1 w1) :
 wpAnyIn (WR ro) 0 P .any ops Q (fuel2 + 1) arr a w := by
 have hdown : Down ops (listed arr) := fun i hi e he => by
  have h1 := (hl i).1 hi
  have := hlt i e he
  exact (hl e).2 byO
 have hc : c ∈ Region.ready .any ops arr := (ready_bef hsz).2 ⟨hcs, fun h => by have := (hl c).1 h; omega, fun e he => (hl e).2 (hlt c e he)⟩
 refine ⟨fun hr => by rw [hr] at hc; simp at hc, fun j hj => ?_⟩
 obtain ⟨hj1, hj2, hj3⟩ := (ready_bef hsz).1 hj
 have hji : j = c := by
  rcases Nat.lt_trichotomy j c with h | h | h
  ·exact absurd ((hl j).2 h) hj2
  ·exact h
  ·exfalso
   have := ready_of hlt hdown hj1 hj3 (hbar1 c j byO byO hj1)
   have := (hl c).1 this
   omega
 subst hji
 have hnext : ∀ ts1 h1 J w1 a1, K ts1 h1 → Quiet lo h h1 → Went I J lo h.next h1 w w1 → TsRel J n ts1 a1.tmps → a1.defers = a.defers → wpAnyIn (WR ro) 0 P .any ops Q fuel2 (arr.setIfInBounds j true) a1 w1 := fun ts1 h1 J w1 a1 hK hq hw t' hd =>
  hQ ts1 h1 J w1 a1 hK hq hw t' hd _ (by simpa using hsz) fun i => by
   rw [listed_set byO]
   simp only [L1, hl i]
   omega
 obtain ⟨o, ho⟩ : ∃ o, ops[j]? = some o := ⟨ops[j], Array.getElem?_eq_getElem hj1⟩
 obtain ⟨x', hx', hxo⟩ := (cOpers_get hx).2 j o (by rw [Array.getElem?_toList]; exact ho)
 rw [hxc] at hx'; simp at hx'; subst hx'
 simp only [cOper, Option.bind_eq_some_iff] at hxo
 obtain ⟨gd, hgd, ins, hins, hxo⟩ := hxo
 split at hxo
 ·rename_i hok
  simp only [Bool.and_eq_true] at hok
  simp only [Option.some.injEq] at hxo
  subst hxo
  simp only at hi
  subst hi
  simp only [RunD] at hr
  have kb := k.bump 1
  have hq1 : Quiet lo h (h.bump 1) := ⟨Nat.le_add_right _ _, fun _ _ => rfl, fun hc r hr => hc r (Nat.le_trans (Nat.le_add_right _ _) hr)⟩
  unfold wpOpIn
  simp only [ho, wanted_eq t hgd]
  split at hr
  ·rename_i hw
   simp only [hw, if_true]
   obtain ⟨c', ho', hcf, hcas⟩ := comp_call hins
   obtain ⟨ef, iF⟩ := hcf I ts _ t.ev
   obtain ⟨eas, ias⟩ := cOpds_map t.ev hcas
   refine hr.run o c' ro a I w _ Q ho' ef eas kb iF ias fun v h1 J w1 hr hq hwent hin => ?_
   refine hnext _ h1 J w1 _ hr (hq1.trans hq) ⟨hwent.grows, fun r d => (hwent.dom r d).imp id (fun e => by simp only [H.bump] at e; omega), hwent.old, hwent.rel, hwent.ext⟩ ((t.le hwent.grows.le).put hin hok.2) (Act.put_defers' a o.dst (ren J v))
  ·rename_i hw
   have hw' : awanted ts gd = false := by simpa using hw
   simp only [hw', Bool.false_eq_true, if_false]
   refine ⟨fun _ _ => trivial, ?_⟩
   have hu := (ren_undef I)
   have tp := t.put (v := undef) hu.2 hok.2
   rw [hu.1] at tp
   exact hnext _ _ I w _ hr hq1 (Went.refl kb) tp (Act.put_defers' a o.dst undef)
 ·simp at hxo
end

section
variable {P : Program} {ro : Option Nat} {n lo base c : Nat} {ops ops1 : Array Oper} {xs1 : List AOper} {ap : List (Opd × Opd)} {S : Nat → Ts × H} {U : Nat → Option (Nat × ARow)}
theorem run_shiftD {K : Ts → H → Prop} {b k : Nat} : ∀ (xs : List AOper) (i : Nat) (ts : Ts) (h : H), RunD P lo (b + k) i xs K ts h → RunD P lo b (k + i) xs K ts h
 | [], _, _, _, hr => hr
 | x :: xs, i, ts, h, hr => by
   simp only [RunD] at hr ⊢
   rw [show b + (k + i) = b + k + i by omega, show k + i + 1 = k + (i + 1) by omega]
   split
   ·rename_i hw
    rw [if_pos hw] at hr
    cases hi : x.ins with
    | op ao =>
      rw [hi] at hr
      obtain ⟨v, h', ha, hr⟩ := hr
      exact ⟨v, h', ha, run_shiftD xs (i + 1) _ _ hr⟩
    | call f args =>
      rw [hi] at hr
      exact hr.mono (Nat.le_refl _) fun v h' hr => run_shiftD xs (i + 1) _ _ hr
   ·rename_i hw
    rw [if_neg hw] at hr
    exact run_shiftD xs (i + 1) _ _ hr

theorem WD.dcut {tp : Bool} {id : Nat} {xs : List AOper} {Q : Exit → Ts → H → Prop} {ts : Ts} {h : H} (hm : P.follows .mixedOrders = true) (C : Cut ops c) (hx : cOpers P n ops ops.toList = some xs) (hsz1 : ops1.size = c) (hsub : ∀ i, i < c → ops1[i]? = ops[i]?) (hx1 : cOpers P n ops1 ops1.toList = some xs1)
 (hd : dOk ops1 xs1 ap = true) (hlo : lo ≤ h.next) (hr : Run P lo true h.next 0 xs1 (fun ts1 h1 => Apart ap ts1 ∧ RunD P lo h1.next 0 (xs.drop c) (Q .normal) ts1 (h1.bump (xs.drop c).length)) ts (h.bump xs1.length)) : WD (TC tp P (.region id ops true)) n lo Q ts h := by
 have hlen1 : xs1.length = c := by rw [(cOpers_get hx1).1, ← hsz1]; simp
 have hlen : xs.length = ops.size := by rw [(cOpers_get hx).1]; simp
 have hcs := C.inn
 have D := dOk_spec hd
 obtain ⟨S, U, h0, hstep, hap, hrest⟩ := run_trace xs1 0 ts _ (fun x hx => by obtain ⟨i, hi, e⟩ := List.getElem_of_mem hx; exact D.noSel i x (by rw [List.getElem?_eq_getElem hi, e])) hr
 have hstep' : ∀ i x, xs1[i]? = some x → Step1 P lo h.next i x (S i) (U i) (S (i + 1)) := fun i x hi => by simpa using hstep i x hi
 have hroom : h.next + xs1.length ≤ (S 0).2.next := by rw [h0]; exact Nat.le_refl _
 have hquiet := quiet_of hstep' hroom hlo xs1.length (Nat.le_refl _)
 rw [h0] at hquiet
 have hq0 : Quiet lo h (S xs1.length).2 := ⟨Nat.le_trans (Nat.le_add_right _ _) hquiet.next, hquiet.same, fun hc => hquiet.clean fun r hr => hc r (Nat.le_trans (Nat.le_add_right _ _) hr)⟩
 have hnx : h.next + c ≤ (S xs1.length).2.next := by have := hquiet.next; simp only [H.bump] at this; omega
 -- the end
 obtain ⟨b, hb⟩ : ∃ b, b + c = (S xs1.length).2.next := ⟨(S xs1.length).2.next - c, by omega⟩
 rw [← hb] at hrest
 have hrest' := run_shiftD (b := b) (k := c) _ 0 _ _ hrest
 rw [Nat.add_zero] at hrest'
 have hdl : (xs.drop c).length = xs.length - c := by simp
 intro ro I w a k t _
 refine wpIn_region_any hm ?_
 have T : Text P lo h.next xs1 S U := ⟨hstep', hroom, by rw [h0]; intro r hr; exact k.clean r (Nat.le_trans (Nat.le_add_right _ _) hr), by rw [h0]; intro j _; exact k.clean _ (Nat.le_add_right _ _), hlo⟩
 have hno : ∀ j, ¬ listed (Array.replicate ops.size false) j := by
  intro j hj
  unfold listed at hj
  rw [Array.getD_eq_getD_getElem?, Array.getElem?_replicate] at hj
  split at hj <;> simp at hj
 have hcT : curT xs1 S (listed (Array.replicate ops.size false)) = ts := by
  funext t
  unfold curT
  rw [ver_none _ (fun j hj => hno j hj.1), h0]
 have hcH : ∀ r, (curH xs1 S U (listed (Array.replicate ops.size false))).get r = h.get r := by
  intro r
  simp only [curH]
  rw [ver_none _ (fun j hj => hno j hj.1), h0]
  rfl
 have kd := k.drew
 have hfuel : ops.size = c + (ops.size - c) := by omega
 have hleft : left c (Array.replicate ops.size false) = c := by
  unfold left
  rw [List.filter_eq_self.2]
  ·simp
  ·intro j _
   have := hno j
   unfold listed at this
   simpa using this
 have main := any_cut (ro := ro) C hx1 hsz1 hsub D T (I0 := I) (w0 := w.drew) (a0 := a) hap (fuel2 := ops.size - c) (Q := fun e' a' w' => ∃ ts' h' J, Q e' ts' h' ∧ Quiet lo h h' ∧ Went I J lo h.next h' w w' ∧ TsRel J n ts' a'.tmps ∧ ∃ ms, a'.defers = ms ++ a.defers ∧ Marks J w w' ms) (fun J w1 a1 V arr hsz hl => ?_) c (Array.replicate ops.size false) I w.drew a (by simp) (fun j hj => absurd hj (hno j)) hleft ?_
 ·rw [hfuel]
  rw [hfuel] at main
  simpa using main
 ·refine any_tail C (ops.size - c) c arr a1 w1 (Nat.le_refl _) byO hsz hl ?_
  have hrel : Rel J (S xs1.length).2 w1 := by
   refine ⟨fun r row hr d => V.rel.rows r row ?_ d, V.rel.lt, V.rel.size, V.rel.base, V.rel.tabs, V.rel.inj, T.clean' (Nat.le_refl _)⟩
   rw [← hr]
   exact ver_at (F := fun k => (S k).2.get r) (W := fun j => Wr xs1 S U j r) (T.heap (r := r)) (Nat.le_refl _) (fun j hj _ => by simp [hj])
  have hts : TsRel J n (S xs1.length).1 a1.tmps := by
   have : curT xs1 S (fun j => j < xs1.length) = (S xs1.length).1 := by
    funext t
    exact ver_at (F := fun k => (S k).1 t) (W := fun j => Wt xs1 j t) (T.tmp (t := t)) (Nat.le_refl _) (fun j hj _ => by simp [hj])
   rw [← this]
   exact V.ts
  have W1 : Went I J lo h.next (S xs1.length).2 w w1 := ⟨⟨V.grows.le, V.grows.new⟩, V.dom, V.old, hrel, ⟨V.ext.os, V.ext.tape, V.ext.output, V.ext.size, V.ext.block⟩⟩
  have := run_opsD hx byO (xs.length - c) c byO _ _ (by simp only [H.bump]; omega) hrest' ro J w1 a1 (hrel.bump _) hts (fun j h1 h2 d => by have := hrel.lt _ d; omega) (fun e' a' w' => ∃ ts' h' J, Q e' ts' h' ∧ Quiet lo h h' ∧ Went I J lo h.next h' w w' ∧ TsRel J n ts' a'.tmps ∧ ∃ ms, a'.defers = ms ++ a.defers ∧ Marks J w w' ms)
   (fun ts' h' J' w' a' hK hq hw t' hd => ⟨ts', h', J', hK, hq0.trans ⟨Nat.le_trans (Nat.le_add_right _ _) hq.next, hq.same, fun hc => hq.clean fun r hr => hc r (Nat.le_trans (Nat.le_add_right _ _) hr)⟩, W1.trans hw byO, t', [], by rw [hd, V.defers]; rfl, Marks.nil _ _ _⟩)
  rw [hlen] at this; exact this
 ·refine ⟨fun j hj => absurd hj (hno j), fun j hj => absurd hj (hno j), by rw [hcT]; exact t, ⟨fun r row hr d => kd.rows r row (by rw [← hcH]; exact hr) d, fun r d => ?_, kd.size, kd.base, kd.tabs, kd.inj, fun r hr => ?_⟩, fun j hj d => ?_, fun j y hy hc _ r d => ?_, fun j r row hj => absurd hj (hno j), Grows.refl _ _, fun r d => .inl d, fun _ _ _ _ e => e, Ext.refl _ _ _, rfl⟩
  ·have h1 := k.lt r d
   have h2 := hquiet.next
   simp only [curH, H.bump] at h2 ⊢
   omega
  ·rw [hcH]
   have h2 := hquiet.next
   simp only [curH, H.bump] at hr h2
   exact k.clean r byO
  ·have := k.lt _ d
   omega
  ·have h1 := k.lt r d
   have h2 := T.room' (k := j) (Nat.le_of_lt (List.getElem?_eq_some_iff.1 hy).1)
   omega

end
end AE
