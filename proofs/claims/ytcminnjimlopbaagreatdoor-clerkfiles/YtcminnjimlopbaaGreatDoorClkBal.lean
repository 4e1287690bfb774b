/- Clerk: what is bought, billed and paid is in balance; in plain words. -/
import Derived.Test.YtcminnjimlopbaaGreatDoorClkDh
set_option linter.unusedVariables false
set_option linter.unusedSimpArgs false
set_option linter.unusedSectionVars false
namespace AE.Tryz
open Go AE Go.Proofs AE.Clerk
set_option maxRecDepth 100000
set_option linter.unusedVariables false

def sumL {α : Type} (g : α → Int) : List α → Int
 | [] => 0
 | x :: l => g x + sumL g l
theorem sumL_set {α : Type} (g : α → Int) : ∀ {l : List α} {i : Nat} {x : α} (y : α), l[i]? = some x → sumL g (l.set i y) = sumL g l - g x + g y
 | [], _, _, _, h => by simp at h
 | z :: l, 0, x, y, h => by
   simp at h; subst h
   simp only [List.set_cons_zero, sumL]; omega
 | z :: l, i + 1, x, y, h => by
   have := sumL_set g (l := l) (i := i) (x := x) y (by simpa using h)
   simp only [List.set_cons_succ, sumL, this]; omega
def tB (f : Nat → Ln) : Nat → Int
 | 0 => 0
 | n + 1 => tB f n + (if errAt f n = 0 ∧ (f n).k = 0 then (f n).a else 0)
def tR (f : Nat → Ln) : Nat → Int
 | 0 => 0
 | n + 1 => tR f n + (if errAt f n = 0 ∧ (f n).k = 3 then 1 else 0)
def tP (f : Nat → Ln) : Nat → Int
 | 0 => 0
 | n + 1 => tP f n + (if errAt f n = 0 ∧ (f n).k = 6 then (f n).a else 0)
def bfS (x : Ln) (no e : Int) (p : Int × Int) : Int × Int := if e ≠ 0 ∨ x.m ≠ no then p else if x.k = 3 then (p.1 + 1, p.2) else if x.k = 5 then (0, p.2 + p.1 * x.a) else p
def bf (f : Nat → Ln) (no : Int) : Nat → Int × Int
 | 0 => (0, 0)
 | n + 1 => bfS (f n) no (errAt f n) (bf f no n)
def cR (no : Int) (r : Rn) : Int := if r.no = no then r.cost else 0
def kR (no : Int) (r : Rn) : Int := if r.no = no ∧ r.back = true then r.cost else 0
def oR (no : Int) (r : Rn) : Int := if r.no = no ∧ r.cost = 0 then 1 else 0
def wM (m : Mdl) : Int := if m.stage = 1 then m.wax else 0
structure MBal (rs : List Rn) (p : Int × Int) (m : Mdl) : Prop where
 o : 0 ≤ m.opn ∧ m.opn ≤ m.runs ∧ 0 ≤ m.paid ∧ m.paid ≤ m.billed
 c : m.billed = sumL (cR m.no) rs
 k : m.claimed = sumL (kR m.no) rs
 q : m.opn = sumL (oR m.no) rs
 p : p = (m.opn, m.billed)
structure Bal (f : Nat → Ln) (n : Nat) (s : St) : Prop where
 wax : s.stock + s.lost + sumL wM s.ms = tB f n
 runs : sumL Mdl.runs s.ms = tR f n
 paid : sumL Mdl.paid s.ms = tP f n
 m : ∀ m ∈ s.ms, MBal s.rs (bf f m.no n) m
 un : ∀ no, (∀ m ∈ s.ms, m.no ≠ no) → bf f no n = (0, 0)
 rs : ∀ r ∈ s.rs, 0 ≤ r.cost ∧ (r.back = true → r.cost ≠ 0) ∧ ∃ m ∈ s.ms, m.no = r.no
theorem Bal.no {f : Nat → Ln} {n : Nat} {s : St} (b : Bal f n s) (e : errAt f n ≠ 0) : Bal f (n + 1) s := by
 have h : ∀ no, bf f no (n + 1) = bf f no n := fun no => by simp only [bf, bfS]; rw [if_pos (.inl e)]
 obtain ⟨b1, b2, b3, b4, b5, b6⟩ := b
 refine ⟨?_, ?_, ?_, fun m hm => by rw [h]; exact b4 m hm, fun no hn => by rw [h]; exact b5 no hn, b6⟩
 ·simp only [tB]; rw [if_neg fun h => e h.1]; omega
 ·simp only [tR]; rw [if_neg fun h => e h.1]; omega
 ·simp only [tP]; rw [if_neg fun h => e h.1]; omega
theorem mem_set_no {ms : List Mdl} (hn : (ms.map Mdl.no).Nodup) {i : Nat} {m m' y : Mdl} (hi : ms[i]? = some m) (hy : y ∈ ms.set i m') : y = m' ∨ (y ∈ ms ∧ y.no ≠ m.no) := by
 obtain ⟨w, hw⟩ := List.getElem?_of_mem hy
 rw [List.getElem?_set] at hw
 by_cases h : i = w
 ·subst h
  rw [if_pos rfl, if_pos (List.getElem?_eq_some_iff.1 hi).1] at hw
  exact .inl (Option.some.inj hw).symm
 ·rw [if_neg h] at hw
  refine .inr ⟨List.mem_of_getElem? hw, fun e => ?_⟩
  refine h ((List.getElem?_inj (l := ms.map Mdl.no) (by simpa using (List.getElem?_eq_some_iff.1 hi).1) hn).1 ?_)
  rw [List.getElem?_map, List.getElem?_map, hi, hw]
  simp [e]
theorem mem_set_has {ms : List Mdl} {i : Nat} {m m' : Mdl} (hi : ms[i]? = some m) (hno : m'.no = m.no) {no : Int} (h : ∃ y ∈ ms, y.no = no) : ∃ y ∈ ms.set i m', y.no = no := by
 have : no ∈ (ms.set i m').map Mdl.no := by rw [map_set_no hi hno]; obtain ⟨y, hy, e⟩ := h; exact List.mem_map.2 ⟨y, hy, e⟩
 obtain ⟨y, hy, e⟩ := List.mem_map.1 this
 exact ⟨y, hy, e⟩
theorem Bal.set {f : Nat → Ln} {n : Nat} {s : St} (b : Bal f n s) (hn : (s.ms.map Mdl.no).Nodup) {i : Nat} {m m' : Mdl} (hi : s.ms[i]? = some m) (hx : m.no = (f n).m) (e : errAt f n = 0) (hno : m'.no = m.no) {st lo : Int} {rs : List Rn}
 (hk0 : (f n).k ≠ 0) (hw : st + lo + wM m' = s.stock + s.lost + wM m) (hr : m'.runs = m.runs + if (f n).k = 3 then 1 else 0) (hp : m'.paid = m.paid + if (f n).k = 6 then (f n).a else 0)
 (hm : MBal rs (bfS (f n) m.no 0 (m.opn, m.billed)) m') (hs : ∀ no, no ≠ m.no → sumL (cR no) rs = sumL (cR no) s.rs ∧ sumL (kR no) rs = sumL (kR no) s.rs ∧ sumL (oR no) rs = sumL (oR no) s.rs)
 (hrr : ∀ r ∈ rs, 0 ≤ r.cost ∧ (r.back = true → r.cost ≠ 0) ∧ ∃ m ∈ s.ms, m.no = r.no) : Bal f (n + 1) ⟨st, lo, s.ms.set i m', rs⟩ := by
 obtain ⟨b1, b2, b3, b4, b5, b6⟩ := b
 have h : ∀ no, no ≠ m.no → bf f no (n + 1) = bf f no n := fun no hne => by simp only [bf, bfS]; rw [if_pos (.inr byO)]
 refine ⟨?_, ?_, ?_, fun y hy => ?_, fun no hnn => ?_, fun r hr => ?_⟩
 ·dsimp only
  rw [sumL_set wM m' hi]
  simp only [tB]; rw [if_neg fun h => hk0 h.2]; omega
 ·dsimp only
  rw [sumL_set Mdl.runs m' hi, hr, b2]
  simp only [tR, e, true_and]; omega
 ·dsimp only
  rw [sumL_set Mdl.paid m' hi, hp, b3]
  simp only [tP, e, true_and]; omega
 ·rcases mem_set_no hn hi hy with rfl | ⟨hy, hne⟩
  ·dsimp only
   simp only [bf]
   rw [hno, e, (b4 m (List.mem_of_getElem? hi)).p]
   exact hm
  ·dsimp only
   rw [h _ hne]
   obtain ⟨y1, y2, y3, y4, y5⟩ := b4 y hy
   obtain ⟨g1, g2, g3⟩ := hs y.no hne
   exact ⟨y1, by rw [g1]; exact y2, by rw [g2]; exact y3, by rw [g3]; exact y4, y5⟩
 ·dsimp only at hnn
  have hall : ∀ y ∈ s.ms, y.no ≠ no := fun y hy e1 => by
   obtain ⟨z, hz, ez⟩ := mem_set_has (m' := m') hi hno ⟨y, hy, e1⟩
   exact hnn z hz ez
  rw [h no fun e1 => hall m (List.mem_of_getElem? hi) e1.symm]
  exact b5 no hall
 ·obtain ⟨h1, h2, h3⟩ := hrr r hr
  exact ⟨h1, h2, mem_set_has hi hno h3⟩
end AE.Tryz
