/- Which rows an operation looks at, and which one it turns. -/
import Derived.Test.YthajcipblfchiaaAEDefs
set_option linter.unusedVariables false
set_option linter.unusedSimpArgs false
set_option linter.unusedSectionVars false
namespace AE
open Go

def H.upd (h : H) : Option (Nat × ARow) → H
  | none => h
  | some p => h.put p.1 p.2

def touchV : Value → List Nat
  | .pointer (some a) => [a.block]
  | .slice (some a) _ _ => [a.block]
  | .map (some r) => [r]
  | _ => []

/-- The rows that an operation may turn. -/
def AOp.wr (ts : Ts) : AOp → List Nat
  | .store _ a _ => touchV (ev ts a)
  | .append _ _ _ s _ => touchV (ev ts s)
  | .copy _ d _ => touchV (ev ts d)
  | .mapup _ m _ _ => touchV (ev ts m)
  | .delete _ m _ => touchV (ev ts m)
  | _ => []
/-- The rows that an operation may look at, or turn. -/
def AOp.touch (ts : Ts) : AOp → List Nat
  | .load1 a | .loadn _ a => touchV (ev ts a)
  | .store _ a _ => touchV (ev ts a)
  | .lookup _ _ _ m _ => touchV (ev ts m)
  | .lenmap x => touchV (ev ts x)
  | .append _ _ _ s x => touchV (ev ts s) ++ touchV (ev ts x)
  | .copy _ d s => touchV (ev ts d) ++ touchV (ev ts s)
  | .mapup _ m _ _ => touchV (ev ts m)
  | .delete _ m _ => touchV (ev ts m)
  | _ => []

def Loc (lo nid : Nat) (wr touch : List Nat) (h : H) (f : H → R) (v : Value) (h' : H) : Prop :=
  ∃ u, h' = h.upd u ∧ (∀ r row, u = some (r, row) → (r = nid ∨ (lo ≤ r ∧ r ∈ wr ∧ h.get r ≠ none))) ∧ ∀ g : H, (∀ r ∈ touch, h.get r ≠ none → g.get r = h.get r) → f g = some (v, g.upd u)

theorem Loc.keep {lo nid : Nat} {wr touch : List Nat} {h h' : H} {o : H → Option Value} {v : Value} (hk : keep h (o h) = some (v, h')) (ho : o h = some v → ∀ g : H, (∀ r ∈ touch, h.get r ≠ none → g.get r = h.get r) → o g = o h) : Loc lo nid wr touch h (fun g => keep g (o g)) v h' := by
  simp only [AE.keep, Option.map_eq_some_iff, Prod.mk.injEq] at hk
  obtain ⟨v', hv, rfl, rfl⟩ := hk
  refine ⟨none, rfl, by simp, fun g hg => ?_⟩
  simp [AE.keep, ho hv g hg, hv, H.upd]
theorem Loc.flat {lo nid : Nat} {wr touch : List Nat} {h h' : H} {o : Option Value} {v : Value} (hk : AE.keep h o = some (v, h')) : Loc lo nid wr touch h (fun g => AE.keep g o) v h' :=
  Loc.keep (o := fun _ => o) hk fun _ _ _ => rfl
theorem Loc.new {lo nid : Nat} {wr touch : List Nat} {h h' : H} {v v' : Value} {row : ARow} (hk : some (v', h.put nid row) = some (v, h')) : Loc lo nid wr touch h (fun g => some (v', g.put nid row)) v h' := by
  simp only [Option.some.injEq, Prod.mk.injEq] at hk
  obtain ⟨rfl, rfl⟩ := hk
  exact ⟨some (nid, row), rfl, fun r row' e => .inl (by simp at e; exact e.1.symm), fun g _ => rfl⟩

theorem loadN_local {h g : H} {a : Addr} {n : Nat} {l : List Value} (hl : h.loadN a n = some l) (e : h.get a.block ≠ none → g.get a.block = h.get a.block) : g.loadN a n = some l := by
  have : h.get a.block ≠ none := fun e' => by simp [H.loadN, e'] at hl
  rw [← hl]; simp [H.loadN, e this]
theorem storeN_local {h h' : H} {lo : Nat} {a : Addr} {vs : List Value} (hs : h.storeN lo a vs = some h') : ∃ row, lo ≤ a.block ∧ h' = h.put a.block row ∧ h.get a.block ≠ none ∧ ∀ g : H, (h.get a.block ≠ none → g.get a.block = h.get a.block) → g.storeN lo a vs = some (g.put a.block row) := by
  unfold H.storeN at hs
  split at hs
  · rename_i hc
    simp only [Option.bind_eq_some_iff, Option.map_eq_some_iff] at hs
    obtain ⟨row, hr, row', hr', rfl⟩ := hs
    refine ⟨row', hc.1, rfl, by simp [hr], fun g hg => ?_⟩
    unfold H.storeN
    rw [if_pos hc, hg (by simp [hr]), hr]
    simp [hr']
  · simp at hs

theorem acells_local {h g : H} {sz n : Nat} {v : Value} {l : List Value} (hl : acells h sz n v = some l) (e : ∀ r ∈ touchV v, h.get r ≠ none → g.get r = h.get r) : acells g sz n v = some l := by
  unfold acells at hl
  split at hl
  · exact loadN_local hl (e _ (by simp [touchV]))
  all_goals
    simp only [acells]
    exact hl

theorem apKnown_local {lo nid : Nat} {e : TypeId} {sz bytes : Nat} {a : Addr} {len cap c n : Nat} {nc : List Value} {h h' : H} {v : Value} {wr touch : List Nat} (hw : a.block ∈ wr) (ht : a.block ∈ touch)
    (ha : apKnown lo nid e sz bytes a len cap c n nc h = some (v, h')) : Loc lo nid wr touch h (fun g => apKnown lo nid e sz bytes a len cap c n nc g) v h' := by
  unfold apKnown at ha
  split at ha
  · rename_i hf
    simp only [Option.map_eq_some_iff, Prod.mk.injEq] at ha
    obtain ⟨h1, hs, rfl, rfl⟩ := ha
    obtain ⟨row, hlo, rfl, hne, hg⟩ := storeN_local hs
    refine ⟨some (a.block, row), rfl, fun r row' er => .inr (by simp at er; rw [← er.1]; exact ⟨hlo, hw, hne⟩), fun g hgg => ?_⟩
    simp only [apKnown, if_pos hf]
    rw [hg g (hgg _ ht)]; rfl
  · rename_i hf
    split at ha
    · rename_i hs
      simp only [Option.bind_eq_some_iff] at ha
      obtain ⟨oc, ho, ha⟩ := ha
      simp only [newGrow, Option.some.injEq, Prod.mk.injEq] at ha
      obtain ⟨rfl, rfl⟩ := ha
      refine ⟨some (nid, _), rfl, fun r row' er => .inl (by simp at er; exact er.1.symm), fun g hgg => ?_⟩
      simp only [apKnown]
      rw [if_neg hf, if_pos hs, loadN_local ho (hgg _ ht)]; rfl
    · simp at ha

theorem aop_local {P : Program} {lo nid : Nat} {ts : Ts} {h h' : H} {v : Value} {ao : AOp} (ha : aop P lo nid ts h ao = some (v, h')) :
    Loc lo nid (ao.wr ts) (ao.touch ts) h (fun g => aop P lo nid ts g ao) v h' := by
  cases ao
  case mv x => exact Loc.flat (o := some (ev ts x)) ha
  case mkif t x => exact Loc.flat (o := some (.iface t (ev ts x))) ha
  case mkfn fn fs cs => exact Loc.flat (o := some (.func fn ⟨fs.map (ev ts)⟩ ⟨cs.map (ev ts)⟩)) ha
  case alloc z e => exact Loc.new ha
  case box x e => exact Loc.new ha
  case mkmap => exact Loc.new ha
  case bslice z ps len e =>
    simp only [aop] at ha ⊢
    cases hf : afill ts z ps with
    | none => rw [hf] at ha; simp at ha
    | some cs => rw [hf] at ha; exact Loc.new ha
  case mkslice z b e l c =>
    simp only [aop] at ha ⊢
    unfold xMkslice at ha
    split at ha
    · rename_i l' c' hl hc
      split at ha
      · rename_i hb
        simp only [hl, hc, xMkslice, if_pos hb]
        exact Loc.new ha
      · simp at ha
    · simp at ha
  case load1 a =>
    refine Loc.keep (o := fun g => xLoad1 g (ev ts a)) ha fun hv g hg => ?_
    simp only [AOp.touch] at hg
    unfold xLoad1 at hv ⊢
    split
    · rename_i a' he
      rw [he] at hg hv
      simp only [hv]
      simp only [Option.bind_eq_some_iff] at hv
      obtain ⟨l, hl, hv⟩ := hv
      rw [loadN_local hl (hg _ (by simp [touchV])), Option.bind_some, hv]
    · rfl
  case loadn n a =>
    refine Loc.keep (o := fun g => xLoadn n g (ev ts a)) ha fun hv g hg => ?_
    simp only [AOp.touch] at hg
    unfold xLoadn at hv ⊢
    split
    · rename_i a' he
      rw [he] at hg hv
      simp only [hv]
      simp only [Option.map_eq_some_iff] at hv
      obtain ⟨l, hl, hv⟩ := hv
      rw [loadN_local hl (hg _ (by simp [touchV])), Option.map_some, hv]
    · rfl
  case store n a x =>
    simp only [aop, AOp.wr, AOp.touch] at ha ⊢
    unfold xStore at ha
    split at ha
    · rename_i a' he
      split at ha
      · rename_i hl
        simp only [Option.map_eq_some_iff, Prod.mk.injEq] at ha
        obtain ⟨h1, hs, rfl, rfl⟩ := ha
        obtain ⟨row, hlo, rfl, hne, hg⟩ := storeN_local hs
        refine ⟨some (a'.block, row), rfl, fun r row' er => .inr ?_, fun g hgg => ?_⟩
        · simp at er; rw [← er.1, he]; exact ⟨hlo, by simp [touchV], by first | exact hne | simp [hg]⟩
        · rw [he] at hgg ⊢
          simp only [xStore, if_pos hl]
          rw [hg g (hgg _ (by simp [touchV]))]; rfl
      · simp at ha
    · simp at ha
  case lookup kt z ok m k =>
    refine Loc.keep (o := fun g => xLookup P kt z ok (ev ts k) g (ev ts m)) ha fun hv g hg => ?_
    simp only [AOp.touch] at hg
    unfold xLookup at hv ⊢
    split
    · rename_i r he
      rw [he] at hg hv
      have : h.get r ≠ none := fun e => by simp [e] at hv
      rw [hg _ (by simp [touchV]) this]
    all_goals rfl
  case lenmap x =>
    refine Loc.keep (o := fun g => xLenmap g (ev ts x)) ha fun hv g hg => ?_
    simp only [AOp.touch] at hg
    unfold xLenmap at hv ⊢
    split
    · rename_i r he
      rw [he] at hg hv
      have : h.get r ≠ none := fun e => by simp [e] at hv
      rw [hg _ (by simp [touchV]) this]
    all_goals rfl
  case mapup kt m k v' =>
    simp only [aop, AOp.wr, AOp.touch, Option.map_eq_some_iff, Prod.mk.injEq] at ha ⊢
    obtain ⟨h1, ha, rfl, rfl⟩ := ha
    unfold xMapup at ha
    split at ha
    · rename_i r he
      split at ha
      · rename_i hlo
        split at ha
        · rename_i es c hg
          simp only [Option.bind_eq_some_iff] at ha
          obtain ⟨q, hq, ha⟩ := ha
          have : ∃ row, h1 = h.put r row ∧ ∀ g : H, muOut r c es (ev ts k) (ev ts v') g q = some (g.put r row) := by
            unfold muOut at ha
            split at ha
            · simp only [Option.bind_eq_some_iff] at ha
              obtain ⟨x, hx, ha⟩ := ha
              split at ha
              · rename_i hb; simp at ha; exact ⟨_, ha.symm, fun g => by simp [muOut, hx, hb]⟩
              · simp at ha
            · simp at ha; exact ⟨_, ha.symm, fun g => by simp [muOut]⟩
          obtain ⟨row, rfl, hm⟩ := this
          refine ⟨some (r, row), rfl, fun r' row' er => .inr ?_, fun g hgg => ?_⟩
          · simp at er; rw [← er.1, he]; exact ⟨hlo, by simp [touchV], by first | exact hne | simp [hg]⟩
          · rw [he] at hgg ⊢
            simp only [xMapup, if_pos hlo, hgg r (by simp [touchV]) (by simp [hg]), hg, hq, Option.bind_some, hm, Option.map_some, H.upd]
        · simp at ha
      · simp at ha
    · simp at ha
  case delete kt m k =>
    simp only [aop, AOp.wr, AOp.touch, Option.map_eq_some_iff, Prod.mk.injEq] at ha ⊢
    obtain ⟨h1, ha, rfl, rfl⟩ := ha
    unfold xDelete at ha
    split at ha
    · rename_i r he
      split at ha
      · rename_i hlo
        split at ha
        · rename_i es c hg
          simp only [Option.map_eq_some_iff] at ha
          obtain ⟨q, hq, ha⟩ := ha
          cases q with
          | none =>
            simp only at ha; subst ha
            refine ⟨none, rfl, by simp, fun g hgg => ?_⟩
            rw [he] at hgg ⊢
            simp only [xDelete, if_pos hlo, hgg r (by simp [touchV]) (by simp [hg]), hg, hq, Option.map_some, H.upd]
          | some i =>
            simp only at ha; subst ha
            refine ⟨some (r, _), rfl, fun r' row' er => .inr ?_, fun g hgg => ?_⟩
            · simp at er; rw [← er.1, he]; exact ⟨hlo, by simp [touchV], by first | exact hne | simp [hg]⟩
            · rw [he] at hgg ⊢
              simp only [xDelete, if_pos hlo, hgg r (by simp [touchV]) (by simp [hg]), hg, hq, Option.map_some, H.upd]
        · simp at ha
      · simp at ha
    · simp at ha
  case append e sz b s x =>
    simp only [aop, AOp.wr, AOp.touch] at ha ⊢
    unfold xAppend at ha
    simp only [Option.bind_eq_some_iff] at ha
    obtain ⟨n, hn, ha⟩ := ha
    split at ha
    · rename_i hn0
      split at ha
      · rename_i b0 l0 c0 he
        simp only [Option.some.injEq, Prod.mk.injEq] at ha
        obtain ⟨rfl, rfl⟩ := ha
        refine ⟨none, rfl, by simp, fun g hgg => ?_⟩
        simp only [xAppend, hn, Option.bind_some, if_pos hn0, he]
        rfl
      · simp at ha
    · rename_i hn0
      simp only [Option.bind_eq_some_iff] at ha
      obtain ⟨nc, hnc, ha⟩ := ha
      have hnc' : ∀ g : H, (∀ r ∈ touchV (ev ts s) ++ touchV (ev ts x), h.get r ≠ none → g.get r = h.get r) → acells g sz n (ev ts x) = some nc := fun g hg =>
        acells_local hnc (fun r hr => hg r (by simp [hr]))
      split at ha
      · rename_i a len cap he
        have main : Loc lo nid (touchV (ev ts s)) (touchV (ev ts s) ++ touchV (ev ts x)) h (fun g => apAddr lo nid e sz b a len cap n nc g) v h' := by
          have hm1 : a.block ∈ touchV (ev ts s) := by rw [he]; simp [touchV]
          have hm2 : a.block ∈ touchV (ev ts s) ++ touchV (ev ts x) := by simp [hm1]
          unfold apAddr at ha ⊢
          split at ha
          · exact apKnown_local hm1 hm2 ha
          · split at ha
            · rename_i hodd
              simp only [if_pos hodd]
              exact apKnown_local hm1 hm2 ha
            · rename_i g0 _ hodd
              simp only [Option.bind_eq_some_iff] at ha
              obtain ⟨row, hr, ha⟩ := ha
              unfold apRow at ha
              split at ha
              · rename_i c e' sz' lens valid
                split at ha
                · rename_i hb
                  simp only [Option.some.injEq, Prod.mk.injEq] at ha
                  obtain ⟨rfl, rfl⟩ := ha
                  refine ⟨some (a.block, _), rfl, fun r' row' er => .inr ?_, fun g hgg => ?_⟩
                  · simp at er; rw [← er.1]; exact ⟨hb.1, hm1, by simp [hr]⟩
                  · simp only [if_neg hodd, hgg _ hm2 (by simp [hr]), hr, Option.bind_some, apRow, if_pos hb, H.upd]
                · simp at ha
              · simp at ha
        obtain ⟨u, h1, h2, h3⟩ := main
        refine ⟨u, h1, h2, fun g hg => ?_⟩
        simp only [xAppend, hn, Option.bind_some, if_neg hn0, hnc' g hg, he]
        exact h3 g hg
      · rename_i he
        split at ha
        · rename_i hsm
          simp only [newGrow, Option.some.injEq, Prod.mk.injEq] at ha
          obtain ⟨rfl, rfl⟩ := ha
          refine ⟨some (nid, _), rfl, fun r row' er => .inl (by simp at er; exact er.1.symm), fun g hgg => ?_⟩
          simp only [xAppend, hn, Option.bind_some, if_neg hn0, hnc' g hgg, he, if_pos hsm, newGrow, H.upd]
        · simp at ha
      · simp at ha
  case copy sz d s =>
    simp only [aop, AOp.wr, AOp.touch] at ha ⊢
    unfold xCopy at ha
    split at ha
    · rename_i base len cap he
      simp only [Option.bind_eq_some_iff] at ha
      obtain ⟨k, hk, ha⟩ := ha
      obtain ⟨nc, hnc, ha⟩ := ha
      have hnc' : ∀ g : H, (∀ r ∈ touchV (ev ts d) ++ touchV (ev ts s), h.get r ≠ none → g.get r = h.get r) → acells g sz (if k ≤ len then k else len) (ev ts s) = some nc := fun g hg =>
        acells_local hnc (fun r hr => hg r (by simp [hr]))
      cases base with
      | none =>
        simp only [Option.some.injEq, Prod.mk.injEq] at ha
        obtain ⟨rfl, rfl⟩ := ha
        refine ⟨none, rfl, by simp, fun g hgg => ?_⟩
        simp only [xCopy, he, hk, Option.bind_some, hnc' g hgg, H.upd]
      | some a =>
        simp only [Option.map_eq_some_iff, Prod.mk.injEq] at ha
        obtain ⟨h1, hs, rfl, rfl⟩ := ha
        by_cases h0 : (if k ≤ len then k else len) = 0
        · rw [if_pos h0] at hs
          simp at hs; subst hs
          refine ⟨none, rfl, by simp, fun g hgg => ?_⟩
          simp only [xCopy, he, hk, Option.bind_some, hnc' g hgg, if_pos h0, Option.map_some, H.upd]
        · rw [if_neg h0] at hs
          obtain ⟨row, hlo, rfl, hne, hg⟩ := storeN_local hs
          refine ⟨some (a.block, row), rfl, fun r' row' er => .inr ?_, fun g hgg => ?_⟩
          · simp at er; rw [← er.1, he]; exact ⟨hlo, by simp [touchV], by first | exact hne | simp [hg]⟩
          · simp only [xCopy, he, hk, Option.bind_some, hnc' g hgg, if_neg h0]
            rw [hg g (hgg _ (by rw [he]; simp [touchV]))]; rfl
    · simp at ha
  all_goals exact Loc.flat ha

end AE
