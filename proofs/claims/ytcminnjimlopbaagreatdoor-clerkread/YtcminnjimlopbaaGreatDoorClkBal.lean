/- Clerk: what is bought, billed and paid is in balance; in plain words. -/
import Derived.Test.YtcminnjimlopbaaGreatDoorJoin41
set_option linter.unusedVariables false
set_option linter.unusedSimpArgs false
set_option linter.unusedSectionVars false
namespace AE.Tryz
open Go AE Go.Proofs AE.Clerk
set_option maxRecDepth 100000
set_option linter.unusedVariables false

def sumL {α : Type} (g : α → Int) : List α → Int
 | [] => 0
 | x :: l => g x + sumL g l
theorem sumL_app {α : Type} (g : α → Int) : ∀ (l m : List α), sumL g (l ++ m) = sumL g l + sumL g m
 | [], m => by simp [sumL]
 | x :: l, m => by simp only [List.cons_append, sumL, sumL_app g l m]; omega
theorem sumL_set {α : Type} (g : α → Int) : ∀ {l : List α} {i : Nat} {x : α} (y : α), l[i]? = some x → sumL g (l.set i y) = sumL g l - g x + g y
 | [], _, _, _, h => by simp at h
 | z :: l, 0, x, y, h => by
   simp at h; subst h
   simp only [List.set_cons_zero, sumL]; omega
 | z :: l, i + 1, x, y, h => by
   have := sumL_set g (l := l) (i := i) (x := x) y (by simpa using h)
   simp only [List.set_cons_succ, sumL, this]; omega
theorem sumL_perm {α : Type} (g : α → Int) {l m : List α} (h : l.Perm m) : sumL g l = sumL g m := by
 induction h with
 | nil => rfl
 | cons x _ ih => simp only [sumL, ih]
 | swap x y l => simp only [sumL]; omega
 | trans _ _ h1 h2 => rw [h1, h2]
theorem sumL_le {α : Type} {g g' : α → Int} : ∀ {l : List α}, (∀ x ∈ l, g x ≤ g' x) → sumL g l ≤ sumL g' l
 | [], _ => by simp [sumL]
 | x :: l, h => by
   have h1 := h x (by simp)
   have h2 := sumL_le fun y hy => h y (List.mem_cons_of_mem x hy)
   simp only [sumL]; omega
theorem sumL_zero {α : Type} {g : α → Int} {l : List α} (h : ∀ x ∈ l, g x = 0) : sumL g l = 0 := by
 induction l with
 | nil => rfl
 | cons x l ih => simp only [sumL, h x (by simp), ih fun y hy => h y (by simp [hy])]; rfl
def tB (f : Nat → Ln) : Nat → Int
 | 0 => 0
 | n + 1 => tB f n + (if errAt f n = 0 ∧ (f n).k = 0 then (f n).a else 0)
def tR (f : Nat → Ln) : Nat → Int
 | 0 => 0
 | n + 1 => tR f n + (if errAt f n = 0 ∧ (f n).k = 3 then 1 else 0)
def tP (f : Nat → Ln) : Nat → Int
 | 0 => 0
 | n + 1 => tP f n + (if errAt f n = 0 ∧ (f n).k = 6 then (f n).a else 0)
def bfS (x : Ln) (no e : Int) (p : Int × Int) : Int × Int := if e ≠ 0 ∨ x.m ≠ no then p else if x.k = 3 then (p.1 + 1, p.2) else if x.k = 5 then (0, p.2 + p.1 * x.a) else p
def bf (f : Nat → Ln) (no : Int) : Nat → Int × Int
 | 0 => (0, 0)
 | n + 1 => bfS (f n) no (errAt f n) (bf f no n)
def cR (no : Int) (r : Rn) : Int := if r.no = no then r.cost else 0
def kR (no : Int) (r : Rn) : Int := if r.no = no ∧ r.back = true then r.cost else 0
def oR (no : Int) (r : Rn) : Int := if r.no = no ∧ r.cost = 0 then 1 else 0
def wM (m : Mdl) : Int := if m.stage = 1 then m.wax else 0
structure MBal (rs : List Rn) (p : Int × Int) (m : Mdl) : Prop where
 o : 0 ≤ m.opn ∧ m.opn ≤ m.runs ∧ 0 ≤ m.paid ∧ m.paid ≤ m.billed
 c : m.billed = sumL (cR m.no) rs
 k : m.claimed = sumL (kR m.no) rs
 q : m.opn = sumL (oR m.no) rs
 p : p = (m.opn, m.billed)
structure Bal (f : Nat → Ln) (n : Nat) (s : St) : Prop where
 wax : s.stock + s.lost + sumL wM s.ms = tB f n
 runs : sumL Mdl.runs s.ms = tR f n
 paid : sumL Mdl.paid s.ms = tP f n
 m : ∀ m ∈ s.ms, MBal s.rs (bf f m.no n) m
 un : ∀ no, (∀ m ∈ s.ms, m.no ≠ no) → bf f no n = (0, 0)
 rs : ∀ r ∈ s.rs, 0 ≤ r.cost ∧ (r.back = true → r.cost ≠ 0) ∧ ∃ m ∈ s.ms, m.no = r.no
theorem Bal.no {f : Nat → Ln} {n : Nat} {s : St} (b : Bal f n s) (e : errAt f n ≠ 0) : Bal f (n + 1) s := by
 have h : ∀ no, bf f no (n + 1) = bf f no n := fun no => by simp only [bf, bfS]; rw [if_pos (.inl e)]
 obtain ⟨b1, b2, b3, b4, b5, b6⟩ := b
 refine ⟨?_, ?_, ?_, fun m hm => by rw [h]; exact b4 m hm, fun no hn => by rw [h]; exact b5 no hn, b6⟩
 ·simp only [tB]; rw [if_neg fun h => e h.1]; omega
 ·simp only [tR]; rw [if_neg fun h => e h.1]; omega
 ·simp only [tP]; rw [if_neg fun h => e h.1]; omega
theorem Bal.noE {f : Nat → Ln} {n : Nat} {s : St} (b : Bal f n s) (z : Int) (h : errAt f n = z) (hz : z ≠ 0) : Bal f (n + 1) s := b.no (by rw [h]; exact hz)
theorem mem_set_no {ms : List Mdl} (hn : (ms.map Mdl.no).Nodup) {i : Nat} {m m' y : Mdl} (hi : ms[i]? = some m) (hy : y ∈ ms.set i m') : y = m' ∨ (y ∈ ms ∧ y.no ≠ m.no) := by
 obtain ⟨w, hw⟩ := List.getElem?_of_mem hy
 rw [List.getElem?_set] at hw
 by_cases h : i = w
 ·subst h
  rw [if_pos rfl, if_pos (List.getElem?_eq_some_iff.1 hi).1] at hw
  exact .inl (Option.some.inj hw).symm
 ·rw [if_neg h] at hw
  refine .inr ⟨List.mem_of_getElem? hw, fun e => ?_⟩
  refine h ((List.getElem?_inj (l := ms.map Mdl.no) (by simpa using (List.getElem?_eq_some_iff.1 hi).1) hn).1 ?_)
  rw [List.getElem?_map, List.getElem?_map, hi, hw]
  simp [e]
theorem mem_set_has {ms : List Mdl} {i : Nat} {m m' : Mdl} (hi : ms[i]? = some m) (hno : m'.no = m.no) {no : Int} (h : ∃ y ∈ ms, y.no = no) : ∃ y ∈ ms.set i m', y.no = no := by
 have : no ∈ (ms.set i m').map Mdl.no := by rw [map_set_no hi hno]; obtain ⟨y, hy, e⟩ := h; exact List.mem_map.2 ⟨y, hy, e⟩
 obtain ⟨y, hy, e⟩ := List.mem_map.1 this
 exact ⟨y, hy, e⟩
theorem Bal.set {f : Nat → Ln} {n : Nat} {s : St} (b : Bal f n s) (hn : (s.ms.map Mdl.no).Nodup) {i : Nat} {m m' : Mdl} (hi : s.ms[i]? = some m) (hx : m.no = (f n).m) (e : errAt f n = 0) (hno : m'.no = m.no) {st lo : Int} {rs : List Rn}
 (hk0 : (f n).k ≠ 0) (hw : st + lo + wM m' = s.stock + s.lost + wM m) (hr : m'.runs = m.runs + if (f n).k = 3 then 1 else 0) (hp : m'.paid = m.paid + if (f n).k = 6 then (f n).a else 0)
 (hm : MBal rs (bfS (f n) m.no 0 (m.opn, m.billed)) m') (hs : ∀ no, no ≠ m.no → sumL (cR no) rs = sumL (cR no) s.rs ∧ sumL (kR no) rs = sumL (kR no) s.rs ∧ sumL (oR no) rs = sumL (oR no) s.rs)
 (hrr : ∀ r ∈ rs, 0 ≤ r.cost ∧ (r.back = true → r.cost ≠ 0) ∧ ∃ m ∈ s.ms, m.no = r.no) : Bal f (n + 1) ⟨st, lo, s.ms.set i m', rs⟩ := by
 obtain ⟨b1, b2, b3, b4, b5, b6⟩ := b
 have h : ∀ no, no ≠ m.no → bf f no (n + 1) = bf f no n := fun no hne => by simp only [bf, bfS]; rw [if_pos (.inr byO)]
 refine ⟨?_, ?_, ?_, fun y hy => ?_, fun no hnn => ?_, fun r hr => ?_⟩
 ·dsimp only
  rw [sumL_set wM m' hi]
  simp only [tB]; rw [if_neg fun h => hk0 h.2]; omega
 ·dsimp only
  rw [sumL_set Mdl.runs m' hi, hr, b2]
  simp only [tR, e, true_and]; omega
 ·dsimp only
  rw [sumL_set Mdl.paid m' hi, hp, b3]
  simp only [tP, e, true_and]; omega
 ·rcases mem_set_no hn hi hy with rfl | ⟨hy, hne⟩
  ·dsimp only
   simp only [bf]
   rw [hno, e, (b4 m (List.mem_of_getElem? hi)).p]
   exact hm
  ·dsimp only
   rw [h _ hne]
   obtain ⟨y1, y2, y3, y4, y5⟩ := b4 y hy
   obtain ⟨g1, g2, g3⟩ := hs y.no hne
   exact ⟨y1, by rw [g1]; exact y2, by rw [g2]; exact y3, by rw [g3]; exact y4, y5⟩
 ·dsimp only at hnn
  have hall : ∀ y ∈ s.ms, y.no ≠ no := fun y hy e1 => by
   obtain ⟨z, hz, ez⟩ := mem_set_has (m' := m') hi hno ⟨y, hy, e1⟩
   exact hnn z hz ez
  rw [h no fun e1 => hall m (List.mem_of_getElem? hi) e1.symm]
  exact b5 no hall
 ·obtain ⟨h1, h2, h3⟩ := hrr r hr
  exact ⟨h1, h2, mem_set_has hi hno h3⟩
theorem billR_sum {no a : Int} (ha : 1 ≤ a) {rs : List Rn} (hb : ∀ r ∈ rs, r.back = true → r.cost ≠ 0) : sumL (cR no) (rs.map (billR no a)) = sumL (cR no) rs + sumL (oR no) rs * a ∧ sumL (kR no) (rs.map (billR no a)) = sumL (kR no) rs ∧ sumL (oR no) (rs.map (billR no a)) = 0 ∧
 ∀ no', no' ≠ no → sumL (cR no') (rs.map (billR no a)) = sumL (cR no') rs ∧ sumL (kR no') (rs.map (billR no a)) = sumL (kR no') rs ∧ sumL (oR no') (rs.map (billR no a)) = sumL (oR no') rs := by
 induction rs with
 | nil => simp [sumL]
 | cons r rs ih =>
   obtain ⟨i1, i2, i3, i4⟩ := ih fun r hr => hb r (List.mem_cons_of_mem _ hr)
   have h0 := hb r (by simp)
   simp only [List.map_cons, sumL, i1, i2, i3]
   by_cases h1 : r.no = no ∧ r.cost = 0
   ·have e : billR no a r = { r with cost := a } := by unfold billR; rw [if_pos h1]
    have hbk : r.back = false := by cases h : r.back with | true => exact absurd h1.2 (h0 h) | false => rfl
    rw [e]
    refine ⟨?_, ?_, ?_, fun no' hne => ?_⟩
    ·simp only [cR, oR, h1.1, h1.2, and_self, if_true]; rw [Int.add_mul]; omega
    ·simp [kR, hbk]
    ·simp only [oR]; rw [if_neg (by simp; omega)]; rfl
    ·obtain ⟨j1, j2, j3⟩ := i4 no' hne
     rw [j1, j2, j3]
     have : r.no ≠ no' := by rw [h1.1]; exact fun e => hne e.symm
     simp [cR, kR, oR, this]
   ·have e : billR no a r = r := by unfold billR; rw [if_neg h1]
    rw [e]
    have eo : oR no r = 0 := by unfold oR; rw [if_neg h1]
    refine ⟨?_, rfl, ?_, fun no' hne => ?_⟩
    ·rw [eo, Int.zero_add]; omega
    ·rw [eo]; rfl
    ·obtain ⟨j1, j2, j3⟩ := i4 no' hne
     rw [j1, j2, j3]; exact ⟨rfl, rfl, rfl⟩
theorem act_bal {f : Nat → Ln} {n : Nat} {s : St} (b : Bal f n s) (ok : s.Ok n) (hv : (f n).Valid 1099511627776) {i : Nat} {m : Mdl} (hi : s.ms[i]? = some m) (hx : m.no = (f n).m) (hk0 : (f n).k ≠ 0) (he : errAt f n = (act (f n) n s i m).2) : Bal f (n + 1) (act (f n) n s i m).1 := by
 have hd := valid_dis hv
 have hm := List.mem_of_getElem? hi
 have mb := b.m m hm
 obtain ⟨⟨m1, m2, m3, m4⟩, m5, m6, m7, m8⟩ := mb
 have hkc : 0 ≤ m.claimed := (ok.ms m hm).claimed.1
 have same : ∀ no, no ≠ m.no → sumL (cR no) s.rs = sumL (cR no) s.rs ∧ sumL (kR no) s.rs = sumL (kR no) s.rs ∧ sumL (oR no) s.rs = sumL (oR no) s.rs := fun _ _ => ⟨rfl, rfl, rfl⟩
 have hno : ¬ ((0 : Int) ≠ 0 ∨ (f n).m ≠ m.no) := by rw [hx]; simp
 revert he
 unfold act
 by_cases c2 : (f n).k = 2
 ·rw [if_pos c2]
  by_cases h1 : m.stage ≠ 0
  ·rw [if_pos h1]; exact fun he => b.noE 9 he (by decide)
  rw [if_neg h1]
  by_cases h2 : s.stock - m.wax - m.loss < 0
  ·rw [if_pos h2]; exact fun he => b.noE 10 he (by decide)
  rw [if_neg h2]
  intro he
  refine b.set ok.mn hi hx he (by rfl) hk0 ?_ (by rw [if_neg byO]; exact (Int.add_zero _).symm) (by rw [if_neg byO]; exact (Int.add_zero _).symm) ⟨⟨m1, m2, m3, m4⟩, m5, m6, m7, ?_⟩ same b.rs
  ·unfold wM; dsimp only; rw [if_pos rfl, if_neg byO]; omega
  ·unfold bfS; rw [if_neg hno, if_neg byO, if_neg byO]
 rw [if_neg c2]
 by_cases c3 : (f n).k = 3
 ·rw [if_pos c3]
  by_cases h1 : m.stage ≠ 1
  ·rw [if_pos h1]; exact fun he => b.noE 9 he (by decide)
  rw [if_neg h1]
  intro he
  refine b.set ok.mn hi hx he (by rfl) hk0 ?_ (by rw [if_pos c3]) (by rw [if_neg byO]; exact (Int.add_zero _).symm) ⟨⟨by dsimp only; omega, by dsimp only; omega, m3, m4⟩, ?_, ?_, ?_, ?_⟩ (fun no hne => ?_) (fun r hr => ?_)
  ·unfold wM; dsimp only
  ·dsimp only; rw [sumL_app, m5]; simp [sumL, cR]
  ·dsimp only; rw [sumL_app, m6]; simp [sumL, kR]
  ·dsimp only; rw [sumL_app, m7]; simp [sumL, oR, hx]
  ·unfold bfS; rw [if_neg hno, if_pos c3]
  ·rw [sumL_app, sumL_app, sumL_app]
   have : (f n).m ≠ no := by rw [← hx]; exact fun e => hne e.symm
   simp [sumL, cR, kR, oR, this]
  ·rcases List.mem_append.1 hr with hr | hr
   ·exact b.rs r hr
   ·rw [List.mem_singleton] at hr
    subst hr
    exact ⟨Int.le_refl _, fun h => by simp at h, m, hm, hx⟩
 rw [if_neg c3]
 by_cases c4 : (f n).k = 4
 ·rw [if_pos c4]
  by_cases h1 : m.stage ≠ 1
  ·rw [if_pos h1]; exact fun he => b.noE 9 he (by decide)
  rw [if_neg h1]
  intro he
  refine b.set ok.mn hi hx he (by rfl) hk0 ?_ (by rw [if_neg byO]; exact (Int.add_zero _).symm) (by rw [if_neg byO]; exact (Int.add_zero _).symm) ⟨⟨m1, m2, m3, m4⟩, m5, m6, m7, ?_⟩ same b.rs
  ·unfold wM; dsimp only; rw [if_neg (by decide), if_pos byO]; omega
  ·unfold bfS; rw [if_neg hno, if_neg byO, if_neg byO]
 rw [if_neg c4]
 by_cases c5 : (f n).k = 5
 ·rw [if_pos c5]
  by_cases h1 : m.opn = 0
  ·rw [if_pos h1]; exact fun he => b.noE 16 he (by decide)
  rw [if_neg h1]
  intro he
  have ha := hd.2.2.2.1 c5
  obtain ⟨g1, g2, g3, g4⟩ := billR_sum (no := (f n).m) (a := (f n).a) byO (rs := s.rs) fun r hr => (b.rs r hr).2.1
  have hmul : 0 ≤ m.opn * (f n).a := Int.mul_nonneg m1 byO
  refine b.set ok.mn hi hx he (by rfl) hk0 rfl (by rw [if_neg byO]; exact (Int.add_zero _).symm) (by rw [if_neg byO]; exact (Int.add_zero _).symm) ⟨⟨Int.le_refl _, by dsimp only; omega, m3, by dsimp only; omega⟩, ?_, ?_, ?_, ?_⟩ (fun no hne => ?_) (fun r hr => ?_)
  ·dsimp only; rw [hx, g1, ← hx, ← m5, ← m7]
  ·dsimp only; rw [hx, g2, ← hx]; exact m6
  ·dsimp only; rw [hx, g3]
  ·unfold bfS; rw [if_neg hno, if_neg byO, if_pos c5]
  ·exact g4 no (by rw [← hx]; exact hne)
  ·obtain ⟨r0, hr0, rfl⟩ := List.mem_map.1 hr
   obtain ⟨q1, q2, q3⟩ := b.rs r0 hr0
   unfold billR
   split
   ·exact ⟨by dsimp only; omega, fun _ => by dsimp only; omega, q3⟩
   ·exact ⟨q1, q2, q3⟩
 rw [if_neg c5]
 by_cases c6 : (f n).k = 6
 ·rw [if_pos c6]
  by_cases h1 : (f n).a > m.billed - m.claimed - m.paid
  ·rw [if_pos h1]; exact fun he => b.noE 4 he (by decide)
  rw [if_neg h1]
  intro he
  have ha := hd.2.2.2.2.1 c6
  refine b.set ok.mn hi hx he (by rfl) hk0 rfl (by rw [if_neg byO]; exact (Int.add_zero _).symm) (by rw [if_pos c6]) ⟨⟨m1, m2, by dsimp only; omega, by dsimp only; omega⟩, m5, m6, m7, ?_⟩ same b.rs
  unfold bfS; rw [if_neg hno, if_neg byO, if_neg byO]
 rw [if_neg c6]
 cases hr : s.run (f n).a with
 | none =>
   dsimp only
   exact fun he => b.noE 23 he (by decide)
 | some q =>
   dsimp only
   obtain ⟨r, hq, hat⟩ := run_some hr
   rw [hq]
   dsimp only
   by_cases hb : r.cost = 0 ∨ r.back = true ∨ r.no ≠ (f n).m
   ·rw [if_pos hb]; exact fun he => b.noE 23 he (by decide)
   rw [if_neg hb]
   intro he
   have hb1 : r.cost ≠ 0 := fun h => hb (.inl h)
   have hb2 : r.back = false := by cases h : r.back with | true => exact absurd (.inr (.inl h)) hb | false => rfl
   have hb3 : r.no = (f n).m := Classical.byContradiction fun h => hb (.inr (.inr h))
   have hrm := List.mem_of_getElem? hq
   obtain ⟨q1, q2, q3⟩ := b.rs r hrm
   by_cases c3' : (f n).k = 3
   ·exact absurd c3' c3
   refine b.set ok.mn hi hx he (by rfl) hk0 rfl (by rw [if_neg c3]; exact (Int.add_zero _).symm) (by rw [if_neg c6]; exact (Int.add_zero _).symm) ⟨⟨m1, m2, m3, m4⟩, ?_, ?_, ?_, ?_⟩ (fun no hne => ?_) (fun r' hr' => ?_)
   ·dsimp only; rw [sumL_set _ _ hq]; simp only [cR]; omega
   ·dsimp only; rw [sumL_set _ _ hq]; simp only [kR, hb2, hx, hb3, and_true, if_true]; rw [m6]; simp only [hx]; simp
   ·dsimp only; rw [sumL_set _ _ hq]; simp only [oR]; omega
   ·unfold bfS; rw [if_neg hno, if_neg c3, if_neg c5]
   ·rw [sumL_set _ _ hq, sumL_set _ _ hq, sumL_set _ _ hq]
    have : r.no ≠ no := by rw [hb3, ← hx]; exact fun e => hne e.symm
    simp [cR, kR, oR, this]
   ·rcases List.mem_or_eq_of_mem_set hr' with hr' | rfl
    ·exact b.rs r' hr'
    ·exact ⟨q1, fun _ => hb1, q3⟩
theorem step_bal {f : Nat → Ln} {n : Nat} (b : Bal f n (after f n)) (ok : (after f n).Ok n) (hv : (f n).Valid 1099511627776) : Bal f (n + 1) (after f (n + 1)) := by
 have he : errAt f n = (Clerk.step (f n) n (after f n)).2 := rfl
 show Bal f (n + 1) (Clerk.step (f n) n (after f n)).1
 revert he
 generalize after f n = s at *
 have hd := valid_dis hv
 unfold Clerk.step
 by_cases c0 : (f n).k = 0
 ·rw [if_pos c0]
  intro he
  have e : errAt f n = 0 := he
  have hm0 : (f n).m = 0 := by unfold Ln.Valid btw at hv; omega
  have h : ∀ no, bf f no (n + 1) = bf f no n := fun no => by
   simp only [bf, bfS]
   split
   ·rfl
   ·rw [if_neg byO, if_neg byO]
  obtain ⟨b1, b2, b3, b4, b5, b6⟩ := b
  refine ⟨?_, ?_, ?_, fun m hm => by rw [h]; exact b4 m hm, fun no hn => by rw [h]; exact b5 no hn, b6⟩
  ·simp only [tB]; rw [if_pos ⟨e, c0⟩]; omega
  ·simp only [tR]; rw [if_neg byO]; omega
  ·simp only [tP]; rw [if_neg byO]; omega
 rw [if_neg c0]
 cases hf : s.find (f n).m with
 | none =>
   dsimp only
   by_cases c1 : (f n).k = 1
   ·rw [if_pos c1]
    intro he
    have e : errAt f n = 0 := he
    have h : ∀ no, bf f no (n + 1) = bf f no n := fun no => by
     simp only [bf, bfS]
     split
     ·rfl
     ·rw [if_neg byO, if_neg byO]
    have hall : ∀ m ∈ s.ms, m.no ≠ (f n).m := fun m hm => by simpa using List.findIdx?_eq_none_iff.1 hf m hm
    have hz : ∀ r ∈ s.rs, r.no ≠ (f n).m := fun r hr e1 => by
     obtain ⟨-, -, m, hm, em⟩ := b.rs r hr
     exact hall m hm byO
    obtain ⟨b1, b2, b3, b4, b5, b6⟩ := b
    refine ⟨?_, ?_, ?_, fun m hm => ?_, fun no hn => by rw [h]; exact b5 no fun m hm => hn m (List.mem_append_left _ hm), fun r hr => ?_⟩
    ·dsimp only; rw [sumL_app]; simp only [tB]; rw [if_neg byO]; simp [sumL, wM, drawn]; omega
    ·dsimp only; rw [sumL_app]; simp only [tR]; rw [if_neg byO]; simp [sumL, drawn]; omega
    ·dsimp only; rw [sumL_app]; simp only [tP]; rw [if_neg byO]; simp [sumL, drawn]; omega
    ·rw [h]
     rcases List.mem_append.1 hm with hm | hm
     ·exact b4 m hm
     ·rw [List.mem_singleton] at hm
      subst hm
      have z1 : sumL (cR (f n).m) s.rs = 0 := sumL_zero fun r hr => by unfold cR; rw [if_neg (hz r hr)]
      have z2 : sumL (kR (f n).m) s.rs = 0 := sumL_zero fun r hr => by unfold kR; rw [if_neg fun h => hz r hr h.1]
      have z3 : sumL (oR (f n).m) s.rs = 0 := sumL_zero fun r hr => by unfold oR; rw [if_neg fun h => hz r hr h.1]
      refine ⟨⟨Int.le_refl _, Int.le_refl _, Int.le_refl _, Int.le_refl _⟩, z1.symm, z2.symm, z3.symm, b5 _ hall⟩
    ·obtain ⟨q1, q2, m, hm, em⟩ := b6 r hr
     exact ⟨q1, q2, m, List.mem_append_left _ hm, em⟩
   ·rw [if_neg c1]
    exact fun he => b.noE 5 he (by decide)
 | some i =>
   obtain ⟨m, hm, hno⟩ := find_some hf
   dsimp only
   rw [hm]
   dsimp only
   by_cases c1 : (f n).k = 1
   ·rw [if_pos c1]
    exact fun he => b.noE 11 he (by decide)
   ·rw [if_neg c1]
    exact fun he => act_bal b ok hv hm hno c0 he
theorem after_bal {f : Nat → Ln} : ∀ {n : Nat}, n ≤ 60 → (∀ i, i < n → (f i).Valid 1099511627776) → Bal f n (after f n)
 | 0, _, _ => ⟨rfl, rfl, rfl, fun m hm => by simp [after, St.zero] at hm, fun _ _ => rfl, fun r hr => by simp [after, St.zero] at hr⟩
 | n + 1, h, hv => step_bal (after_bal byO fun i hi => hv i byO) (after_ok byO fun i hi => hv i byO) (hv n byO)
end AE.Tryz
