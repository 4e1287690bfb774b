/- Walks and plain laws: ClkRj, ClkSt. -/
import Derived.Test.YtcminnjimlopbaaGreatDoorClkRi
import Derived.Test.YtcminnjimlopbaaGreatDoorClkRe
set_option linter.unusedVariables false
set_option linter.unusedSimpArgs false
set_option linter.unusedSectionVars false

/- Clerk, walked: Read by the definitions. -/
namespace AE.Tryz
open Go AE Go.Proofs AE.Clerk
set_option maxRecDepth 100000
set_option linter.unusedVariables false

end AE.Tryz

/- Clerk: how the ledger lies in the heap. -/
namespace AE.Clerk
structure Mdl.Ok (t : Int) (m : Mdl) : Prop where
 wax : 1 ≤ m.wax ∧ m.wax ≤ 1000000
 loss : 0 ≤ m.loss ∧ m.loss ≤ 1000001
 stage : 0 ≤ m.stage ∧ m.stage ≤ 2
 opn : 0 ≤ m.opn ∧ m.opn ≤ t
 runs : 0 ≤ m.runs ∧ m.runs ≤ t
 billed : 0 ≤ m.billed ∧ m.billed ≤ 60000000 * t
 claimed : 0 ≤ m.claimed ∧ m.claimed ≤ 1000000 * t
 paid : 0 ≤ m.paid ∧ m.paid ≤ 1000000000 * t
 no : 1 ≤ m.no ∧ m.no ≤ 1099511627776
structure St.Ok (t : Nat) (s : St) : Prop where
 stock : 0 ≤ s.stock ∧ s.stock ≤ 1000000 * t
 lost : 0 ≤ s.lost ∧ s.lost ≤ 1000001 * t
 ms : ∀ m ∈ s.ms, m.Ok t
 rs : ∀ r ∈ s.rs, r.at_ < t ∧ 0 ≤ r.cost ∧ r.cost ≤ 1000000 ∧ 1 ≤ r.no ∧ r.no ≤ 1099511627776
 mn : (s.ms.map Mdl.no).Nodup
 rn : (s.rs.map Rn.at_).Nodup
 ml : s.ms.length ≤ t
 rl : s.rs.length ≤ t
theorem Mdl.Ok.mono {t u : Int} {m : Mdl} (h : m.Ok t) (htu : t ≤ u) : m.Ok u := by
 obtain ⟨h1, h2, h3, h4, h5, h6, h7, h8, h9⟩ := h
 exact ⟨h1, h2, h3, by omega, by omega, by omega, by omega, by omega, h9⟩
theorem St.Ok.mono {t u : Nat} {s : St} (h : s.Ok t) (htu : t ≤ u) : s.Ok u := by
 obtain ⟨h1, h2, h3, h4, h5, h6, h7, h8⟩ := h
 exact ⟨by omega, by omega, fun m hm => (h3 m hm).mono byO, fun r hr => by have := h4 r hr; omega, h5, h6, by omega, by omega⟩
end AE.Clerk
namespace AE.Tryz
open Go AE Go.Proofs AE.Clerk
set_option maxRecDepth 100000
set_option linter.unusedVariables false

def ptrV (p : Nat) : Value := .pointer (some ⟨p, 0, none⟩)
def mCells (m : Mdl) : List Value := [.int .i64 m.no, .int .i64 m.stage, .int .i64 m.wax, .int .i64 m.runs, .int .i64 m.opn, .int .i64 m.billed, .int .i64 m.claimed, .int .i64 m.paid, .int .i64 m.loss]
def modE (ps : Nat → Nat) : List Mdl → Nat → List (EG Int)
 | [], _ => []
 | m :: ms, i => ⟨m.no, ptrV (ps i), i⟩ :: modE ps ms (i + 1)
def ownE : List Rn → Nat → List (EG Int)
 | [], _ => []
 | r :: rs, i => ⟨(r.at_ : Nat), .int .i64 r.no, i⟩ :: ownE rs (i + 1)
def costE : List Rn → Nat → List (EG Int)
 | [], _ => []
 | r :: rs, i => if r.back then costE rs (i + 1) else ⟨(r.at_ : Nat), .int .i64 r.cost, i⟩ :: costE rs (i + 1)
def entI (l : List (EG Int)) : List MapEntry := l.map (EG.ent fun k : Int => Value.int .i64 k)
structure LP where
 g1 : Nat
 g2 : Nat
 g3 : Nat
 g : Nat
 B : Nat
structure Lg (L : LP) (h : H) (ps : Nat → Nat) (s : St) : Prop where
 g : h.get L.g = some (.cells [.int .i64 s.stock, .int .i64 s.lost, .map (some L.g1), .map (some L.g2), .map (some L.g3)] 80)
 m : h.get L.g1 = some (.map (entI (modE ps s.ms 0)) s.ms.length)
 c : h.get L.g2 = some (.map (entI (costE s.rs 0)) s.rs.length)
 o : h.get L.g3 = some (.map (entI (ownE s.rs 0)) s.rs.length)
 p : ∀ i m, s.ms[i]? = some m → h.get (ps i) = some (.cells (mCells m) 85)
 pb : ∀ i, i < s.ms.length → L.B ≤ ps i ∧ ps i < h.next
 pn : ∀ i j, i < s.ms.length → j < s.ms.length → ps i = ps j → i = j
 ord : L.g1 < L.g2 ∧ L.g2 < L.g3 ∧ L.g3 < L.g ∧ L.g < L.B ∧ L.B ≤ h.next
def Fr (L : LP) (h h' : H) : Prop := ∀ q, q < L.B → (q < L.g1 ∨ L.g < q) → h'.get q = h.get q
theorem modE_congr {ps : Nat → Nat} : ∀ {ms ms' : List Mdl} {i : Nat}, ms.map Mdl.no = ms'.map Mdl.no → modE ps ms i = modE ps ms' i
 | [], [], _, _ => rfl
 | [], _ :: _, _, h => by simp at h
 | _ :: _, [], _, h => by simp at h
 | m :: ms, m' :: ms', i, h => by
   simp only [List.map_cons, List.cons.injEq] at h
   simp only [modE, h.1, modE_congr h.2]
theorem map_set_no {ms : List Mdl} {i : Nat} {m m' : Mdl} (hi : ms[i]? = some m) (hno : m'.no = m.no) : (ms.set i m').map Mdl.no = ms.map Mdl.no := by
 rw [List.map_set]
 apply List.ext_getElem?
 intro j
 rw [List.getElem?_set]
 by_cases hij : i = j
 ·subst hij
  obtain ⟨hi1, hi2⟩ := List.getElem?_eq_some_iff.1 hi
  simp only [List.length_map, List.getElem?_map, if_true]
  rw [if_pos hi1, hi]
  simp [hno]
 ·rw [if_neg hij]
theorem Lg.step {L : LP} {h h' : H} {ps : Nat → Nat} {s s' : St} (k : Lg L h ps s) {i : Nat} {m m' : Mdl} (hi : s.ms[i]? = some m) (hno : m'.no = m.no) (hms : s'.ms = s.ms.set i m')
 (hg : h'.get L.g = some (.cells [.int .i64 s'.stock, .int .i64 s'.lost, .map (some L.g1), .map (some L.g2), .map (some L.g3)] 80)) (h1 : h'.get L.g1 = h.get L.g1)
 (hc : h'.get L.g2 = some (.map (entI (costE s'.rs 0)) s'.rs.length)) (ho : h'.get L.g3 = some (.map (entI (ownE s'.rs 0)) s'.rs.length)) (hp : h'.get (ps i) = some (.cells (mCells m') 85))
 (hq : ∀ q, L.B ≤ q → q < h.next → q ≠ ps i → h'.get q = h.get q) (hn : h.next ≤ h'.next) : Lg L h' ps s' := by
 have hi1 : i < s.ms.length := (List.getElem?_eq_some_iff.1 hi).1
 have hl : s'.ms.length = s.ms.length := by rw [hms, List.length_set]
 refine ⟨hg, ?_, hc, ho, fun j y hy => ?_, fun j hj => ?_, fun a b ha hb => k.pn a b byO byO, ?_⟩
 ·rw [h1, k.m, hl]
  congr 3
  exact modE_congr (by rw [hms, map_set_no hi hno])
 ·rw [hms, List.getElem?_set] at hy
  by_cases hij : i = j
  ·subst hij
   rw [if_pos rfl, if_pos hi1] at hy
   simp only [Option.some.injEq] at hy
   subst hy
   exact hp
  ·rw [if_neg hij] at hy
   have hj : j < s.ms.length := (List.getElem?_eq_some_iff.1 hy).1
   have := k.pb j hj
   rw [hq _ this.1 this.2 fun e => hij (k.pn i j hi1 hj e.symm)]
   exact k.p j y hy
 ·have := k.pb j byO
  omega
 ·have := k.ord
  omega
theorem Lg.step0 {L : LP} {h h' : H} {ps : Nat → Nat} {s s' : St} (k : Lg L h ps s) (hms : s'.ms = s.ms)
 (hg : h'.get L.g = some (.cells [.int .i64 s'.stock, .int .i64 s'.lost, .map (some L.g1), .map (some L.g2), .map (some L.g3)] 80)) (h1 : h'.get L.g1 = h.get L.g1)
 (hc : h'.get L.g2 = some (.map (entI (costE s'.rs 0)) s'.rs.length)) (ho : h'.get L.g3 = some (.map (entI (ownE s'.rs 0)) s'.rs.length))
 (hq : ∀ q, L.B ≤ q → q < h.next → h'.get q = h.get q) (hn : h.next ≤ h'.next) : Lg L h' ps s' := by
 refine ⟨hg, by rw [h1, k.m, hms], hc, ho, fun j y hy => ?_, fun j hj => ?_, fun a b ha hb => k.pn a b (by rwa [hms] at ha) (by rwa [hms] at hb), ?_⟩
 ·rw [hms] at hy
  have := k.pb j (List.getElem?_eq_some_iff.1 hy).1
  rw [hq _ this.1 this.2]
  exact k.p j y hy
 ·rw [hms] at hj
  have := k.pb j hj
  omega
 ·have := k.ord
  omega
theorem Lg.same {L : LP} {h h' : H} {ps : Nat → Nat} {s : St} (k : Lg L h ps s) (hs : Same h.next h h') (hn : h.next ≤ h'.next) : Lg L h' ps s := by
 have o := k.ord
 exact ⟨(hs _ byO).trans k.g, (hs _ byO).trans k.m, (hs _ byO).trans k.c, (hs _ byO).trans k.o, fun i m hi => by
  have := k.pb i (List.getElem?_eq_some_iff.1 hi).1
  exact (hs _ this.2).trans (k.p i m hi), fun i hi => by have := k.pb i hi; omega, k.pn, by omega⟩
def RefP (e : Int) (v : Value) : Prop := (e = 0 ∧ v = .nilIface) ∨ (e = 5 ∧ v = .iface 131 (.agg ⟨[]⟩)) ∨ (e = 10 ∧ ∃ z, v = .iface 173 (.agg ⟨[.int .i64 z]⟩)) ∨ (e ≠ 0 ∧ e ≠ 5 ∧ e ≠ 10 ∧ 0 ≤ e ∧ e ≤ 100 ∧ v = .iface 171 (.agg ⟨[.int .i64 e]⟩))
def ActR (L : LP) (h : H) (s' : St) (e : Int) (v : Value) (h' : H) : Prop := (∃ ps', Lg L h' ps' s') ∧ RefP e v ∧ Fr L h h' ∧ h.next ≤ h'.next
theorem act_no {s : St} {i : Nat} {m : Mdl} (h : s.ms[i]? = some m) : m ∈ s.ms := List.mem_of_getElem? h
end AE.Tryz
