/- Walks and plain laws: ClkDg, ClkDh. -/
import Derived.Test.YtcminnjimlopbaaGreatDoorClkDe
set_option linter.unusedVariables false
set_option linter.unusedSimpArgs false
set_option linter.unusedSectionVars false

/- Clerk: bills by the definitions, step by step; one more line by the definitions. -/
namespace AE.Clerk
def billQ (f : Nat → Ln) (x : Ln) (rn co : List Int) (t : Nat) : List Int := co.mapIdx fun k c => if k < t ∧ rn[k]? = some 1 ∧ (f k).m = x.m ∧ c = 0 then x.a else c
theorem billQ_len (f : Nat → Ln) (x : Ln) (rn co : List Int) (t : Nat) : (billQ f x rn co t).length = co.length := by simp [billQ]
theorem billQ_zero (f : Nat → Ln) (x : Ln) (rn co : List Int) : billQ f x rn co 0 = co := by
 apply List.ext_getElem?
 intro i
 unfold billQ
 rw [List.getElem?_mapIdx]
 cases co[i]? <;> simp
theorem billQ_at (f : Nat → Ln) (x : Ln) (rn co : List Int) (q : Nat) : (billQ f x rn co q)[q]? = co[q]? := by
 unfold billQ
 rw [List.getElem?_mapIdx]
 cases co[q]? <;> simp
theorem billQ_step {f : Nat → Ln} {x : Ln} {rn co : List Int} {q : Nat} {c : Int} (hc : co[q]? = some c) : billQ f x rn co (q + 1) = if rn[q]? = some 1 ∧ (f q).m = x.m ∧ c = 0 then (billQ f x rn co q).set q x.a else billQ f x rn co q := by
 have hq := (List.getElem?_eq_some_iff.1 hc).1
 apply List.ext_getElem?
 intro i
 by_cases hb : rn[q]? = some 1 ∧ (f q).m = x.m ∧ c = 0
 ·rw [if_pos hb, List.getElem?_set]
  by_cases hi : q = i
  ·subst hi
   rw [if_pos rfl, billQ_len, if_pos hq]
   unfold billQ
   rw [List.getElem?_mapIdx, hc]
   simp only [Option.map_some]
   rw [if_pos ⟨by omega, hb⟩]
  ·rw [if_neg hi]
   unfold billQ
   rw [List.getElem?_mapIdx, List.getElem?_mapIdx]
   have : (i < q + 1) ↔ (i < q) := by omega
   simp only [this]
 ·rw [if_neg hb]
  unfold billQ
  rw [List.getElem?_mapIdx, List.getElem?_mapIdx]
  by_cases hi : q = i
  ·subst hi
   rw [hc]
   simp only [Option.map_some]
   rw [if_neg (fun h => hb h.2), if_neg (fun h => hb h.2)]
  ·have : (i < q + 1) ↔ (i < q) := by omega
   simp only [this]
def SD.none0 (S : SD) : SD := { S with rn := S.rn ++ [0], co := S.co ++ [0], bk := S.bk ++ [0] }
def actD (x : Ln) (f : Nat → Ln) (t : Nat) (S : SD) (i : Nat) (m : Mdl) : SD × Int :=
 if x.k = 2 then
  if m.stage ≠ 0 then (S.none0, 9) else if S.stock < m.wax + m.loss then (S.none0, 10) else
  ({ S.none0 with stock := S.stock - (m.wax + m.loss), lost := S.lost + m.loss, ms := S.ms.set i { m with stage := 1 } }, 0)
 else if x.k = 3 then
  if m.stage ≠ 1 then (S.none0, 9) else ({ S.none0 with ms := S.ms.set i { m with runs := m.runs + 1, opn := m.opn + 1 }, rn := (S.rn ++ [0]).set t 1 }, 0)
 else if x.k = 4 then
  if m.stage ≠ 1 then (S.none0, 9) else ({ S.none0 with stock := S.stock + m.wax, ms := S.ms.set i { m with stage := 2 } }, 0)
 else if x.k = 5 then
  if m.opn = 0 then (S.none0, 16) else ({ S.none0 with ms := S.ms.set i { m with billed := m.billed + m.opn * x.a, opn := 0 }, co := billQ f x (S.rn ++ [0]) (S.co ++ [0]) t }, 0)
 else if x.k = 6 then
  if x.a > m.billed - m.claimed - m.paid then (S.none0, 4) else ({ S.none0 with ms := S.ms.set i { m with paid := m.paid + x.a } }, 0)
 else
  if ¬ (x.a < t ∧ S.rn.getD x.a.toNat 0 ≠ 0 ∧ (f x.a.toNat).m = x.m ∧ S.co.getD x.a.toNat 0 ≠ 0 ∧ S.bk.getD x.a.toNat 0 ≠ 1) then (S.none0, 23) else
  ({ S.none0 with ms := S.ms.set i { m with claimed := m.claimed + S.co.getD x.a.toNat 0 }, bk := (S.bk ++ [0]).set x.a.toNat 1 }, 0)
def doD (x : Ln) (f : Nat → Ln) (t : Nat) (S : SD) : SD × Int :=
 if x.k = 0 then ({ S.none0 with stock := S.stock + x.a }, 0) else
 match S.ms.findIdx? fun m => decide (m.no = x.m) with
 | none => if x.k = 1 then ({ S.none0 with ms := insM S.ms (drawn x) }, 0) else (S.none0, 5)
 | some i => if x.k = 1 then (S.none0, 11) else match S.ms[i]? with
   | none => (S.none0, 5)
   | some m => actD x f t S i m
end AE.Clerk

/- Clerk: how all stands by the program, and by the definitions, is the same. -/
namespace AE.Tryz
open Go AE Go.Proofs AE.Clerk
set_option maxRecDepth 100000
set_option linter.unusedVariables false

theorem nodup_inj {ms : List Mdl} (hn : (ms.map Mdl.no).Nodup) {a b : Mdl} (ha : a ∈ ms) (hb : b ∈ ms) (e : a.no = b.no) : a = b := by
 induction ms with
 | nil => simp at ha
 | cons y ms ih =>
   simp only [List.map_cons, List.nodup_cons] at hn
   rcases List.mem_cons.1 ha with ha' | ha'
   ·rcases List.mem_cons.1 hb with hb' | hb'
    ·rw [ha', hb']
    ·subst ha'; exact absurd (List.mem_map.2 ⟨b, hb', e.symm⟩) hn.1
   ·rcases List.mem_cons.1 hb with hb' | hb'
    ·subst hb'; exact absurd (List.mem_map.2 ⟨a, ha', e⟩) hn.1
    ·exact ih hn.2 ha' hb'
theorem sort_un {l ms : List Mdl} (p : l.Perm ms) (h : l.Pairwise fun x y => x.no ≤ y.no) (hn : (ms.map Mdl.no).Nodup) : l = sortM ms := by
 refine List.Perm.eq_of_pairwise (le := fun a b : Mdl => a.no ≤ b.no) (fun a b ha hb h1 h2 => ?_) h (sortM_sorted ms) (p.trans (sortM_perm ms).symm)
 have ha' := p.mem_iff.1 ha
 have hb' := (sortM_perm ms).mem_iff.1 hb
 exact nodup_inj hn ha' hb' (Int.le_antisymm h1 h2)
theorem erase_perm : ∀ {l : List Mdl} {k : Nat} {m : Mdl} (m' : Mdl), l[k]? = some m → (m :: l.eraseIdx k).Perm l ∧ (m' :: l.eraseIdx k).Perm (l.set k m')
 | [], _, _, _, h => by simp at h
 | y :: l, 0, m, m', h => by
   simp at h; subst h
   exact ⟨List.Perm.refl _, List.Perm.refl _⟩
 | y :: l, k + 1, m, m', h => by
   obtain ⟨h1, h2⟩ := erase_perm (l := l) (k := k) (m := m) m' (by simpa using h)
   simp only [List.eraseIdx_cons_succ, List.set_cons_succ]
   exact ⟨(List.Perm.swap ..).trans (h1.cons y), (List.Perm.swap ..).trans (h2.cons y)⟩
theorem set_sort {ms : List Mdl} (hn : (ms.map Mdl.no).Nodup) {i j : Nat} {m m' : Mdl} (hi : ms[i]? = some m) (hj : (sortM ms)[j]? = some m) (e : m'.no = m.no) : (sortM ms).set j m' = sortM (ms.set i m') := by
 refine sort_un ?_ ?_ (by rw [map_set_no hi e]; exact hn)
 ·obtain ⟨a1, a2⟩ := erase_perm m' hi
  obtain ⟨b1, b2⟩ := erase_perm m' hj
  have : (List.eraseIdx (sortM ms) j).Perm (List.eraseIdx ms i) := List.Perm.cons_inv (b1.trans ((sortM_perm ms).trans a1.symm))
  exact b2.symm.trans ((this.cons m').trans a2)
 ·have h1 := List.pairwise_map.2 (sortM_sorted ms)
  rw [← map_set_no hj e] at h1
  exact (List.pairwise_map (f := Mdl.no) (R := fun a b => a ≤ b)).1 h1
theorem insM_cons (y : Mdl) (l : List Mdl) (m : Mdl) : insM (y :: l) m = if y.no < m.no then y :: insM l m else m :: y :: l := by
 unfold insM
 by_cases h : y.no < m.no
 ·rw [if_pos h]
  have : posM (y :: l) m.no = posM l m.no + 1 := by conv => lhs; unfold posM; rw [if_pos h]
  rw [this]; rfl
 ·rw [if_neg h]
  have : posM (y :: l) m.no = 0 := by unfold posM; rw [if_neg h]
  rw [this]; rfl
theorem insM_mem {z m : Mdl} : ∀ {l : List Mdl}, z ∈ insM l m → z = m ∨ z ∈ l
 | [], h => by simp [insM, posM] at h; exact .inl h
 | y :: l, h => by
   rw [insM_cons] at h
   split at h
   ·rcases List.mem_cons.1 h with rfl | h
    ·exact .inr (by simp)
    ·rcases insM_mem h with h | h
     ·exact .inl h
     ·exact .inr (by simp [h])
   ·rcases List.mem_cons.1 h with rfl | h
    ·exact .inl rfl
    ·exact .inr h
theorem insM_sorted {m : Mdl} : ∀ {l : List Mdl}, l.Pairwise (fun x y => x.no ≤ y.no) → (insM l m).Pairwise (fun x y => x.no ≤ y.no)
 | [], _ => by simp [insM, posM]
 | y :: l, h => by
   rw [insM_cons]
   obtain ⟨h1, h2⟩ := List.pairwise_cons.1 h
   split
   ·refine List.pairwise_cons.2 ⟨fun z hz => ?_, insM_sorted h2⟩
    rcases insM_mem hz with rfl | hz
    ·omega
    ·exact h1 z hz
   ·refine List.pairwise_cons.2 ⟨fun z hz => ?_, h⟩
    rcases List.mem_cons.1 hz with rfl | hz
    ·omega
    ·have := h1 z hz; omega
theorem ins_sort {ms : List Mdl} {m : Mdl} (hn : ((ms ++ [m]).map Mdl.no).Nodup) : insM (sortM ms) m = sortM (ms ++ [m]) := by
 refine sort_un ?_ (insM_sorted (sortM_sorted ms)) hn
 refine List.Perm.trans ?_ ((sortM_perm ms).append_right [m])
 unfold insM
 rw [List.append_assoc]
 refine (List.Perm.append_left _ List.perm_append_comm).trans ?_
 rw [← List.append_assoc, List.take_append_drop]
theorem sort_find {ms : List Mdl} (hn : (ms.map Mdl.no).Nodup) {n : Int} : (((sortM ms).findIdx? fun m => decide (m.no = n)) = none ↔ (ms.findIdx? fun m => decide (m.no = n)) = none) ∧
 ∀ i m, (ms.findIdx? fun m => decide (m.no = n)) = some i → ms[i]? = some m → ∃ j, ((sortM ms).findIdx? fun m => decide (m.no = n)) = some j ∧ (sortM ms)[j]? = some m := by
 have hp := sortM_perm ms
 refine ⟨?_, fun i m hi hm => ?_⟩
 ·rw [List.findIdx?_eq_none_iff, List.findIdx?_eq_none_iff]
  exact ⟨fun h x hx => h x (hp.mem_iff.2 hx), fun h x hx => h x (hp.mem_iff.1 hx)⟩
 ·have hno : m.no = n := by
   obtain ⟨h1, h2, -⟩ := List.findIdx?_eq_some_iff_getElem.1 hi
   have : ms[i] = m := by rw [List.getElem?_eq_getElem h1] at hm; exact Option.some.inj hm
   rw [this] at h2
   simpa using h2
  have hmem := hp.mem_iff.2 (List.mem_of_getElem? hm)
  cases hf : (sortM ms).findIdx? fun m => decide (m.no = n) with
  | none => have := List.findIdx?_eq_none_iff.1 hf m hmem; simp [hno] at this
  | some j =>
    refine ⟨j, rfl, ?_⟩
    obtain ⟨h1, h2, -⟩ := List.findIdx?_eq_some_iff_getElem.1 hf
    rw [List.getElem?_eq_getElem h1]
    congr 1
    refine nodup_inj hn (hp.mem_iff.1 (List.getElem_mem h1)) (hp.mem_iff.1 hmem) ?_
    have : (sortM ms)[j].no = n := by simpa using h2
    omega
structure SRel (f : Nat → Ln) (t : Nat) (s : St) (S : SD) : Prop where
 stock : S.stock = s.stock
 lost : S.lost = s.lost
 ms : S.ms = sortM s.ms
 rn : S.rn.length = t
 co : S.co.length = t
 bk : S.bk.length = t
 run1 : ∀ r ∈ s.rs, S.rn[r.at_]? = some 1 ∧ S.co[r.at_]? = some r.cost ∧ S.bk[r.at_]? = some (if r.back then 1 else 0) ∧ (f r.at_).m = r.no
 run0 : ∀ j, j < t → (∀ r ∈ s.rs, r.at_ ≠ j) → S.rn[j]? = some 0 ∧ S.co[j]? = some 0 ∧ S.bk[j]? = some 0
theorem snoc_get {l : List Int} {j : Nat} (h : j < l.length) (z : Int) : (l ++ [z])[j]? = l[j]? := by rw [List.getElem?_append_left h]
theorem snoc_last {l : List Int} {j : Nat} (h : j = l.length) (z : Int) : (l ++ [z])[j]? = some z := by subst h; simp
theorem SRel.none0 {f : Nat → Ln} {t : Nat} {s : St} {S : SD} (k : SRel f t s S) (ok : s.Ok t) : SRel f (t + 1) s S.none0 := by
 obtain ⟨k1, k2, k3, k4, k5, k6, k7, k8⟩ := k
 refine ⟨k1, k2, k3, by simp [SD.none0, k4], by simp [SD.none0, k5], by simp [SD.none0, k6], fun r hr => ?_, fun j hj h0 => ?_⟩
 ·have := (ok.rs r hr).1
  simp only [SD.none0]
  rw [snoc_get byO, snoc_get byO, snoc_get byO]
  exact k7 r hr
 ·simp only [SD.none0]
  by_cases hjt : j < t
  ·rw [snoc_get byO, snoc_get byO, snoc_get byO]
   exact k8 j hjt h0
  ·exact ⟨snoc_last byO _, snoc_last byO _, snoc_last byO _⟩
theorem SRel.upd {f : Nat → Ln} {t : Nat} {s s' : St} {S S' : SD} (k : SRel f t s S) (h1 : S'.stock = s'.stock) (h2 : S'.lost = s'.lost) (h3 : S'.ms = sortM s'.ms) (e1 : S'.rn = S.rn) (e2 : S'.co = S.co) (e3 : S'.bk = S.bk) (e4 : s'.rs = s.rs) : SRel f t s' S' := by
 obtain ⟨k1, k2, k3, k4, k5, k6, k7, k8⟩ := k
 exact ⟨h1, h2, h3, by rw [e1]; exact k4, by rw [e2]; exact k5, by rw [e3]; exact k6, by rw [e1, e2, e3, e4]; exact k7, by rw [e1, e2, e3, e4]; exact k8⟩
theorem some_getD {l : List Int} {j : Nat} {z : Int} (h : l[j]? = some z) : l.getD j 0 = z := by rw [List.getD_eq_getElem?_getD, h]; rfl
theorem act_rel {f : Nat → Ln} {t : Nat} {s : St} {S : SD} (k : SRel f t s S) (ok : s.Ok t) (hv : (f t).Valid 1099511627776) {i j : Nat} {m : Mdl} (hi : s.ms[i]? = some m) (hj : (sortM s.ms)[j]? = some m) (hno : m.no = (f t).m) (c1 : (f t).k ≠ 1) :
 SRel f (t + 1) (act (f t) t s i m).1 (actD (f t) f t S j m).1 ∧ (actD (f t) f t S j m).2 = (act (f t) t s i m).2 := by
 have kn := k.none0 ok
 have hd := valid_dis hv
 have hset : ∀ m' : Mdl, m'.no = m.no → S.ms.set j m' = sortM (s.ms.set i m') := fun m' e => by rw [k.ms]; exact set_sort ok.mn hi hj e
 have k1 := k.stock
 have k2 := k.lost
 have k4 := k.rn
 have k5 := k.co
 have k6 := k.bk
 unfold act actD
 by_cases c2 : (f t).k = 2
 ·rw [if_pos c2, if_pos c2]
  by_cases h1 : m.stage ≠ 0
  ·rw [if_pos h1, if_pos h1]; exact ⟨kn, rfl⟩
  rw [if_neg h1, if_neg h1]
  by_cases h2 : s.stock - m.wax - m.loss < 0
  ·rw [if_pos h2, if_pos byO]; exact ⟨kn, rfl⟩
  rw [if_neg h2, if_neg byO]
  exact ⟨kn.upd (by show S.stock - _ = _; rw [k1]) (by show S.lost + _ = _; rw [k2]) (hset _ rfl) rfl rfl rfl rfl, rfl⟩
 rw [if_neg c2, if_neg c2]
 by_cases c3 : (f t).k = 3
 ·rw [if_pos c3, if_pos c3]
  by_cases h1 : m.stage ≠ 1
  ·rw [if_pos h1, if_pos h1]; exact ⟨kn, rfl⟩
  rw [if_neg h1, if_neg h1]
  refine ⟨⟨k1, k2, hset _ rfl, by simp [k4], kn.co, kn.bk, fun r hr => ?_, fun q hq h0 => ?_⟩, rfl⟩
  ·dsimp only at hr ⊢
   rcases List.mem_append.1 hr with hr | hr
   ·have hlt := (ok.rs r hr).1
    obtain ⟨q1, q2, q3, q4⟩ := kn.run1 r hr
    refine ⟨?_, q2, q3, q4⟩
    rw [List.getElem?_set_ne byO]
    exact q1
   ·rw [List.mem_singleton] at hr
    subst hr
    refine ⟨?_, snoc_last k5.symm _, snoc_last k6.symm _, rfl⟩
    dsimp only
    rw [List.getElem?_set_self (by simp [k4])]
  ·dsimp only at h0 ⊢
   have hqt : t ≠ q := h0 ⟨t, (f t).m, 0, false⟩ (by simp)
   obtain ⟨q1, q2, q3⟩ := kn.run0 q hq fun r hr => h0 r (List.mem_append_left _ hr)
   refine ⟨?_, q2, q3⟩
   rw [List.getElem?_set_ne byO]
   exact q1
 rw [if_neg c3, if_neg c3]
 by_cases c4 : (f t).k = 4
 ·rw [if_pos c4, if_pos c4]
  by_cases h1 : m.stage ≠ 1
  ·rw [if_pos h1, if_pos h1]; exact ⟨kn, rfl⟩
  rw [if_neg h1, if_neg h1]
  exact ⟨kn.upd (by show S.stock + _ = _; rw [k1]) k2 (hset _ rfl) rfl rfl rfl rfl, rfl⟩
 rw [if_neg c4, if_neg c4]
 by_cases c5 : (f t).k = 5
 ·rw [if_pos c5, if_pos c5]
  by_cases h1 : m.opn = 0
  ·rw [if_pos h1, if_pos h1]; exact ⟨kn, rfl⟩
  rw [if_neg h1, if_neg h1]
  refine ⟨⟨k1, k2, hset _ rfl, kn.rn, by dsimp only; rw [billQ_len]; exact kn.co, kn.bk, fun r hr => ?_, fun q hq h0 => ?_⟩, rfl⟩
  ·dsimp only at hr ⊢
   obtain ⟨r0, hr0, rfl⟩ := List.mem_map.1 hr
   have hlt := (ok.rs r0 hr0).1
   obtain ⟨q1, q2, q3, q4⟩ := kn.run1 r0 hr0
   have e1 : (billR (f t).m (f t).a r0).at_ = r0.at_ := by unfold billR; split <;> rfl
   have e2 : (billR (f t).m (f t).a r0).back = r0.back := by unfold billR; split <;> rfl
   have e3 : (billR (f t).m (f t).a r0).no = r0.no := by unfold billR; split <;> rfl
   rw [e1, e2, e3]
   refine ⟨q1, ?_, q3, q4⟩
   unfold billQ
   rw [List.getElem?_mapIdx]
   simp only [SD.none0] at q1 q2
   rw [q2]
   simp only [Option.map_some]
   rw [q1, q4]
   congr 1
   unfold billR
   by_cases hb : r0.no = (f t).m ∧ r0.cost = 0
   ·rw [if_pos hb, if_pos ⟨hlt, rfl, hb.1, hb.2⟩]
   ·rw [if_neg hb, if_neg (fun h => hb h.2.2)]
  ·dsimp only at h0 ⊢
   obtain ⟨q1, q2, q3⟩ := kn.run0 q hq fun r hr => by
    have := h0 _ (List.mem_map.2 ⟨r, hr, rfl⟩)
    rwa [show (billR (f t).m (f t).a r).at_ = r.at_ by unfold billR; split <;> rfl] at this
   refine ⟨q1, ?_, q3⟩
   unfold billQ
   rw [List.getElem?_mapIdx]
   simp only [SD.none0] at q1 q2
   rw [q2]
   simp only [Option.map_some]
   rw [q1, if_neg (fun h => by have := h.2.1; simp at this)]
 rw [if_neg c5, if_neg c5]
 by_cases c6 : (f t).k = 6
 ·rw [if_pos c6, if_pos c6]
  by_cases h1 : (f t).a > m.billed - m.claimed - m.paid
  ·rw [if_pos h1, if_pos h1]; exact ⟨kn, rfl⟩
  rw [if_neg h1, if_neg h1]
  exact ⟨kn.upd k1 k2 (hset _ rfl) rfl rfl rfl rfl, rfl⟩
 rw [if_neg c6, if_neg c6]
 have hkd := kind_bd hv
 have c7 : (f t).k = 7 := by
  have : (f t).k ≠ 0 ∧ (f t).k ≠ 1 := by
   constructor
   ·intro h; have := hd.1 h; have h9 := ok.ms m (List.mem_of_getElem? hi); have := h9.no; unfold Ln.Valid btw at hv; omega
   ·exact c1
  omega
 have ha := hd.2.2.2.2.2 c7
 cases hr : s.run (f t).a with
 | none =>
   dsimp only
   rw [if_pos]
   ·exact ⟨kn, rfl⟩
   ·rintro ⟨h1, h2, -⟩
    have h0 : ∀ r ∈ s.rs, r.at_ ≠ (f t).a.toNat := fun r hr' e => by
     have := List.findIdx?_eq_none_iff.1 hr r hr'
     simp at this
     omega
    exact h2 (some_getD (k.run0 _ byO h0).1)
 | some q =>
   dsimp only
   obtain ⟨r, hq, hat⟩ := run_some hr
   rw [hq]
   dsimp only
   have hrm := List.mem_of_getElem? hq
   have hlt := (ok.rs r hrm).1
   obtain ⟨q1, q2, q3, q4⟩ := k.run1 r hrm
   have eat : (f t).a.toNat = r.at_ := by omega
   rw [eat, some_getD q1, some_getD q2, some_getD q3, q4]
   by_cases hb : r.cost = 0 ∨ r.back = true ∨ r.no ≠ (f t).m
   ·rw [if_pos hb, if_pos]
    ·exact ⟨kn, rfl⟩
    ·rintro ⟨h1, h2, h3, h4, h5⟩
     rcases hb with hb | hb | hb
     ·exact h4 hb
     ·rw [hb] at h5; exact h5 rfl
     ·exact hb h3
   ·rw [if_neg hb, if_neg]
    rotate_left
    ·have hb1 : r.cost ≠ 0 := fun h => hb (.inl h)
     have hb2 : r.back = false := by cases h : r.back with | true => exact absurd (.inr (.inl h)) hb | false => rfl
     have hb3 : r.no = (f t).m := Classical.byContradiction fun h => hb (.inr (.inr h))
     exact fun h => h ⟨by omega, by decide, hb3, hb1, by rw [hb2]; decide⟩
    have hn := ok.rn
    refine ⟨⟨k1, k2, hset _ rfl, kn.rn, kn.co, by simp [k6], fun r' hr' => ?_, fun y hy h0 => ?_⟩, rfl⟩
    ·dsimp only at hr' ⊢
     obtain ⟨w, hw⟩ := List.getElem?_of_mem hr'
     rw [List.getElem?_set] at hw
     by_cases hqw : q = w
     ·subst hqw
      rw [if_pos rfl, if_pos (List.getElem?_eq_some_iff.1 hq).1] at hw
      simp only [Option.some.injEq] at hw
      subst hw
      obtain ⟨p1, p2, p3, p4⟩ := kn.run1 r hrm
      refine ⟨p1, p2, ?_, p4⟩
      dsimp only
      rw [List.getElem?_set_self (by simp [k6]; omega)]
      rfl
     ·rw [if_neg hqw] at hw
      obtain ⟨p1, p2, p3, p4⟩ := kn.run1 r' (List.mem_of_getElem? hw)
      refine ⟨p1, p2, ?_, p4⟩
      have hne : r.at_ ≠ r'.at_ := fun e => by
       refine hqw ((List.getElem?_inj (l := s.rs.map Rn.at_) (by simpa using (List.getElem?_eq_some_iff.1 hq).1) hn).1 ?_)
       rw [List.getElem?_map, List.getElem?_map, hq, hw]
       simp [e]
      rw [List.getElem?_set_ne hne]
      exact p3
    ·dsimp only at h0 ⊢
     have hne : r.at_ ≠ y := by
      have := h0 { r with back := true } (List.mem_of_getElem? (by rw [List.getElem?_set_self (List.getElem?_eq_some_iff.1 hq).1]))
      exact this
     obtain ⟨p1, p2, p3⟩ := kn.run0 y hy fun r' hr' => by
      obtain ⟨w, hw⟩ := List.getElem?_of_mem hr'
      by_cases hqw : q = w
      ·subst hqw
       rw [hq] at hw
       simp only [Option.some.injEq] at hw
       subst hw
       exact hne
      ·exact h0 r' (List.mem_of_getElem? (by rw [List.getElem?_set_ne hqw]; exact hw))
     refine ⟨p1, p2, ?_⟩
     rw [List.getElem?_set_ne hne]
     exact p3
theorem do_rel {f : Nat → Ln} {t : Nat} {s : St} {S : SD} (k : SRel f t s S) (ok : s.Ok t) (hv : (f t).Valid 1099511627776) (okn : (Clerk.step (f t) t s).1.Ok (t + 1)) :
 SRel f (t + 1) (Clerk.step (f t) t s).1 (doD (f t) f t S).1 ∧ (doD (f t) f t S).2 = (Clerk.step (f t) t s).2 := by
 have kn := k.none0 ok
 have hsf := sort_find ok.mn (n := (f t).m)
 revert okn
 unfold Clerk.step doD
 by_cases c0 : (f t).k = 0
 ·intro okn
  rw [if_pos c0, if_pos c0]
  exact ⟨kn.upd (by show S.stock + _ = _; rw [k.stock]) k.lost k.ms rfl rfl rfl rfl, rfl⟩
 rw [if_neg c0, if_neg c0, k.ms]
 cases hf : s.find (f t).m with
 | none =>
   dsimp only
   rw [hsf.1.2 hf]
   dsimp only
   by_cases c1 : (f t).k = 1
   ·rw [if_pos c1, if_pos c1]
    intro okn
    exact ⟨kn.upd k.stock k.lost (ins_sort okn.mn) rfl rfl rfl rfl, rfl⟩
   ·rw [if_neg c1, if_neg c1]
    exact fun _ => ⟨kn, rfl⟩
 | some i =>
   obtain ⟨m, hm, hno⟩ := find_some hf
   obtain ⟨j, hj, hjm⟩ := hsf.2 i m hf hm
   dsimp only
   rw [hm, hj]
   dsimp only
   rw [hjm]
   dsimp only
   by_cases c1 : (f t).k = 1
   ·rw [if_pos c1, if_pos c1]
    exact fun _ => ⟨kn, rfl⟩
   ·rw [if_neg c1, if_neg c1]
    exact fun _ => act_rel k ok hv hm hjm hno c1
end AE.Tryz
