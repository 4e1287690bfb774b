/- Clerk: bills, in plain words. -/
import Derived.Test.YtcminnjimlopbaaGreatDoorClkMd
import Derived.Test.YtcminnjimlopbaaGreatDoorAEthree
set_option linter.unusedVariables false
set_option linter.unusedSimpArgs false
set_option linter.unusedSectionVars false
namespace AE
open Go
theorem kept_cells {N : Nat} {h : H} {r : Nat} {c : List Value} {e : TypeId} (hr : r < N) (hc : ∀ J : Inj, InL (J.below N) c) : Kept N h r (.cells c e) := by
 refine .inr (.inr fun J w k => ?_)
 obtain ⟨i, b, e1, e2, e3⟩ := k
 exact ⟨hc J, b, (Inj.below_at hr).trans e1, e2, by rw [e3, ((J.below_le N).renL c (hc J)).1]⟩
theorem kept_map {N : Nat} {h : H} {r n : Nat} {es : List MapEntry} (hr : r < N) (hc : ∀ J : Inj, ∀ e ∈ es, In (J.below N) e.key ∧ In (J.below N) e.val) : Kept N h r (.map es n) := by
 refine .inr (.inr fun J w k => ?_)
 obtain ⟨i, b, e1, e2, e3⟩ := k
 refine ⟨hc J, b, (Inj.below_at hr).trans e1, e2, ?_⟩
 rw [e3]
 congr 3
 refine List.map_congr_left fun e he => ?_
 have hb := J.below_le N
 unfold renE
 rw [((J.below_le N).ren e.key (hc J e he).1).1, ((J.below_le N).ren e.val (hc J e he).2).1]
section
variable {P : Program} {lo nid : Nat} {ts : Ts} {h : H} {K : Value → H → Prop} {kt : TypeId} {m x y : Opd} {es : List (EG Int)} {c r : Nat}
theorem q_mrange {es : List MapEntry} (hm : ev ts m = .map (some r)) (hg : h.get r = some (.map es c)) (hr : K (.pointer (some ⟨nid, 0, none⟩)) (h.put nid (.iter r c [] c))) : OpE P lo nid ts h (.mrange m) K :=
 OpE.mk (mrange3 hm hg) hr
end
end AE
namespace AE.Tryz
open Go AE Go.Proofs AE.Clerk
set_option maxRecDepth 100000
set_option linter.unusedVariables false

def rsS (no a : Int) (seen : List Nat) : List Rn → Nat → List Rn
 | [], _ => []
 | r :: rs, i => (if i ∈ seen then billR no a r else r) :: rsS no a seen rs (i + 1)
theorem billR_at (no a : Int) (r : Rn) : (billR no a r).at_ = r.at_ := by unfold billR; split <;> rfl
theorem billR_back (no a : Int) (r : Rn) : (billR no a r).back = r.back := by unfold billR; split <;> rfl
theorem billR_no (no a : Int) (r : Rn) : (billR no a r).no = r.no := by unfold billR; split <;> rfl
theorem rsS_nil (no a : Int) : ∀ (rs : List Rn) (i : Nat), rsS no a [] rs i = rs
 | [], _ => rfl
 | r :: rs, i => by simp [rsS, rsS_nil no a rs (i + 1)]
theorem rsS_len (no a : Int) (seen : List Nat) : ∀ (rs : List Rn) (i : Nat), (rsS no a seen rs i).length = rs.length
 | [], _ => rfl
 | r :: rs, i => by simp [rsS, rsS_len no a seen rs (i + 1)]
theorem rsS_at (no a : Int) (seen : List Nat) : ∀ (rs : List Rn) (i : Nat), (rsS no a seen rs i).map Rn.at_ = rs.map Rn.at_
 | [], _ => rfl
 | r :: rs, i => by
   simp only [rsS, List.map_cons, rsS_at no a seen rs (i + 1)]
   congr 1
   split
   ·exact billR_at no a r
   ·rfl
theorem own_bill (no a : Int) : ∀ (rs : List Rn) (j : Nat), ownE (rs.map (billR no a)) j = ownE rs j
 | [], _ => rfl
 | r :: rs, j => by simp only [List.map_cons, ownE, own_bill no a rs (j + 1), billR_at, billR_no]
theorem rsS_get {no a : Int} {seen : List Nat} : ∀ {rs : List Rn} {i j : Nat} {r : Rn}, rs[j]? = some r → (rsS no a seen rs i)[j]? = some (if i + j ∈ seen then billR no a r else r)
 | [], _, _, _, h => by simp at h
 | y :: rs, i, 0, r, h => by
   simp only [List.getElem?_cons_zero, Option.some.injEq] at h
   subst h
   simp [rsS]
 | y :: rs, i, j + 1, r, h => by
   simp only [rsS, List.getElem?_cons_succ]
   rw [rsS_get (i := i + 1) (show rs[j]? = some r by simpa using h), show i + 1 + j = i + (j + 1) by omega]
theorem costE_ent {e : EG Int} : ∀ {rs : List Rn} {i : Nat}, e ∈ costE rs i → ∃ j r, rs[j]? = some r ∧ r.back = false ∧ e = ⟨(r.at_ : Nat), .int .i64 r.cost, i + j⟩
 | [], i, h => by simp [costE] at h
 | y :: rs, i, h => by
   unfold costE at h
   split at h
   ·obtain ⟨j, r, h1, h2, h3⟩ := costE_ent h
    exact ⟨j + 1, r, by simpa using h1, h2, by rw [h3]; congr 1; omega⟩
   ·rename_i hb
    rcases List.mem_cons.1 h with rfl | h
    ·exact ⟨0, y, rfl, by simpa using hb, rfl⟩
    ·obtain ⟨j, r, h1, h2, h3⟩ := costE_ent h
     exact ⟨j + 1, r, by simpa using h1, h2, by rw [h3]; congr 1; omega⟩
theorem costE_in {rs : List Rn} : ∀ {i j : Nat} {r : Rn}, rs[j]? = some r → r.back = false → (⟨(r.at_ : Nat), .int .i64 r.cost, i + j⟩ : EG Int) ∈ costE rs i := by
 induction rs with
 | nil => intro i j r h; simp at h
 | cons y rs ih =>
   intro i j r h hb
   cases j with
   | zero =>
     simp only [List.getElem?_cons_zero, Option.some.injEq] at h
     subst h
     unfold costE
     rw [hb]
     simp
   | succ j =>
     have := ih (i := i + 1) (show rs[j]? = some r by simpa using h) hb
     rw [show i + 1 + j = i + (j + 1) by omega] at this
     unfold costE
     split
     ·exact this
     ·exact List.mem_cons_of_mem _ this
theorem costE_births : ∀ {rs : List Rn} {i : Nat}, ((costE rs i).map EG.b).Nodup
 | [], _ => by simp [costE]
 | y :: rs, i => by
   unfold costE
   split
   ·exact costE_births
   ·simp only [List.map_cons, List.nodup_cons]
    refine ⟨fun h => ?_, costE_births⟩
    obtain ⟨e, he, hb⟩ := List.mem_map.1 h
    obtain ⟨j, r, -, -, rfl⟩ := costE_ent he
    simp at hb
    omega
theorem runAt_self : ∀ {rs : List Rn} {j : Nat} {r : Rn}, (rs.map Rn.at_).Nodup → rs[j]? = some r → runAt rs (r.at_ : Nat) = some j
 | [], _, _, _, h => by simp at h
 | y :: rs, 0, r, hn, h => by
   simp only [List.getElem?_cons_zero, Option.some.injEq] at h
   subst h
   rw [runAt_cons, if_pos rfl]
 | y :: rs, j + 1, r, hn, h => by
   simp only [List.map_cons, List.nodup_cons] at hn
   have h' : rs[j]? = some r := by simpa using h
   have : (y.at_ : Int) ≠ (r.at_ : Nat) := fun e => hn.1 (List.mem_map.2 ⟨r, List.mem_of_getElem? h', by omega⟩)
   rw [runAt_cons, if_neg this, runAt_self hn.2 h']
   rfl
theorem rsS_more {no a : Int} {seen : List Nat} : ∀ {rs : List Rn} {i : Nat} {b : Nat}, (∀ j r, rs[j]? = some r → i + j = b → billR no a r = r) → rsS no a (seen ++ [b]) rs i = rsS no a seen rs i
 | [], _, _, _ => rfl
 | y :: rs, i, b, h => by
   have ih := rsS_more (no := no) (a := a) (seen := seen) (rs := rs) (i := i + 1) (b := b) (fun j r hr he => h (j + 1) r (by simpa using hr) byO)
   simp only [rsS, ih]
   congr 1
   by_cases hb : i = b
   ·have := h 0 y rfl byO
    rw [if_pos (by simp [hb]), this]
    split <;> rfl
   ·have : (i ∈ seen ++ [b]) ↔ i ∈ seen := by simp [hb]
    simp only [this]
theorem costE_set {no a : Int} {seen : List Nat} : ∀ {rs : List Rn} {i j : Nat} {r : Rn}, (rs.map Rn.at_).Nodup → rs[j]? = some r → r.back = false → setG (costE (rsS no a seen rs i) i) ((r.at_ : Nat) : Int) (.int .i64 (billR no a r).cost) = costE (rsS no a (seen ++ [i + j]) rs i) i
 | [], _, _, _, _, h, _ => by simp at h
 | y :: rs, i, 0, r, hn, h, hb => by
   simp only [List.getElem?_cons_zero, Option.some.injEq] at h
   subst h
   simp only [List.map_cons, List.nodup_cons] at hn
   have e1 : rsS no a (seen ++ [i + 0]) rs (i + 1) = rsS no a seen rs (i + 1) := rsS_more fun j r hr he => by omega
   have e2 : setG (costE (rsS no a seen rs (i + 1)) (i + 1)) ((y.at_ : Nat) : Int) (.int .i64 (billR no a y).cost) = costE (rsS no a seen rs (i + 1)) (i + 1) := setG_off fun e he hk => by
    obtain ⟨⟨r, hr, e3⟩, -⟩ := costE_mem he
    have : r.at_ ∈ rs.map Rn.at_ := by rw [← rsS_at no a seen rs (i + 1)]; exact List.mem_map_of_mem hr
    exact hn.1 (by rw [show y.at_ = r.at_ by omega]; exact this)
   simp only [rsS, e1]
   rw [if_pos (show i ∈ seen ++ [i + 0] by simp)]
   have b1 : (if i ∈ seen then billR no a y else y).back = false := by split <;> simp [billR_back, hb]
   have a1 : (if i ∈ seen then billR no a y else y).at_ = y.at_ := by split <;> simp [billR_at]
   simp only [costE, b1, billR_back, hb, Bool.false_eq_true, if_false, a1, billR_at]
   unfold setG at e2 ⊢
   rw [List.map_cons, e2]
   simp
 | y :: rs, i, j + 1, r, hn, h, hb => by
   have h' : rs[j]? = some r := by simpa using h
   simp only [List.map_cons, List.nodup_cons] at hn
   have ih := costE_set (no := no) (a := a) (seen := seen) (i := i + 1) hn.2 h' hb
   rw [show i + 1 + j = i + (j + 1) by omega] at ih
   have : (i ∈ seen ++ [i + (j + 1)]) ↔ i ∈ seen := by simp
   simp only [rsS, this]
   have hne : y.at_ ≠ r.at_ := fun e => hn.1 (List.mem_map.2 ⟨r, List.mem_of_getElem? h', e.symm⟩)
   have a1 : (if i ∈ seen then billR no a y else y).at_ = y.at_ := by split <;> simp [billR_at]
   generalize (if i ∈ seen then billR no a y else y) = z at a1 ⊢
   simp only [costE]
   split
   ·exact ih
   ·unfold setG at ih ⊢
    rw [List.map_cons, ih]
    congr 1
    have : ((z.at_ : Nat) : Int) ≠ ((r.at_ : Nat) : Int) := by rw [a1]; omega
    rw [if_neg (by simpa using this)]
theorem costE_all {no a : Int} {seen : List Nat} : ∀ {rs : List Rn} {i : Nat}, (∀ j r, rs[j]? = some r → r.back = false → i + j ∈ seen) → costE (rsS no a seen rs i) i = costE (rs.map (billR no a)) i
 | [], _, _ => rfl
 | y :: rs, i, h => by
   have ih := costE_all (no := no) (a := a) (seen := seen) (rs := rs) (i := i + 1) (fun j r hr hb => by
    have := h (j + 1) r (by simpa using hr) hb
    rwa [show i + 1 + j = i + (j + 1) by omega])
   simp only [rsS, List.map_cons, costE, ih]
   by_cases hb : y.back = false
   ·have hs : i ∈ seen := by have := h 0 y rfl hb; simpa using this
    simp only [if_pos hs]
   ·have hb' : y.back = true := by simpa using hb
    have b1 : (if i ∈ seen then billR no a y else y).back = true := by split <;> simp [billR_back, hb']
    rw [if_pos b1, if_pos (by rw [billR_back]; exact hb')]
end AE.Tryz
