/- Maps. -/
import Derived.Test.YthajcipblfchiaaAEAppend
set_option linter.unusedVariables false
set_option linter.unusedSimpArgs false
set_option linter.unusedSectionVars false
namespace AE
open Go Go.RowKit

section
variable {P : Program} {I : Inj} {ts : Ts} {ρ : Operand → Value}

theorem pureRun_bind' {α β : Type} (P : Program) (f : α → Sem β) : ∀ x : Sem α, pureRun P (x.bind f) = (pureRun P x).bind fun a => pureRun P (f a)
  | .pure a => rfl
  | .program k => by simp only [Sem.bind, pureRun]; exact pureRun_bind' P f (k P)
  | .load _ _ _ => rfl
  | .store _ _ _ _ => rfl
  | .new _ _ => rfl
  | .shape _ _ => rfl
  | .freeze _ _ _ => rfl
  | .frozen _ _ => rfl
  | .getObj _ _ => rfl
  | .setObj _ _ _ => rfl
  | .choose _ _ => rfl
  | .sys _ _ => rfl
  | .mark _ _ => rfl
  | .halt _ => rfl
theorem pureRun_bind {α β : Type} (P : Program) (x : Sem α) (f : α → Sem β) : pureRun P (x >>= f) = (pureRun P x).bind fun a => pureRun P (f a) := pureRun_bind' P f x

/-- What a search in entries with other values finds. -/
def found (g : MapEntry → MapEntry) (es : List MapEntry) (i : Nat) : Option (Nat × Value) → Option (Nat × Value)
  | none => none
  | some (j, _) => (es[j - i]?).map fun e => (j, (g e).val)

theorem found_succ {g : MapEntry → MapEntry} {e : MapEntry} {es : List MapEntry} {i : Nat} {r : Option (Nat × Value)} (h : ∀ p, r = some p → i + 1 ≤ p.1) : found g (e :: es) i r = found g es (i + 1) r := by
  cases r with
  | none => rfl
  | some p =>
    have := h p rfl
    simp only [found]
    rw [show p.1 - i = (p.1 - (i + 1)) + 1 by omega, List.getElem?_cons_succ]

theorem findNow_run (kd : TypeDesc) (k : Value) (f g : MapEntry → MapEntry) (hk : ∀ e, (f e).key = (g e).key) : ∀ (es : List MapEntry) (i : Nat),
    (Instr.findNow kd k (es.map f) i = none → Instr.findNow kd k (es.map g) i = none) ∧
    ∀ r, Instr.findNow kd k (es.map f) i = some r → Instr.findNow kd k (es.map g) i = some (found g es i r) ∧ (∀ p, r = some p → i ≤ p.1)
  | [], i => by simp [Instr.findNow, found]
  | e :: es, i => by
    obtain ⟨ih1, ih2⟩ := findNow_run kd k f g hk es (i + 1)
    simp only [List.map_cons, Instr.findNow, hk]
    cases Instr.sameNow kd k (g e).key with
    | none => simp
    | some b =>
      cases b with
      | true =>
        simp only [reduceCtorEq, false_implies, true_and]
        intro r hr
        simp at hr; subst hr
        simp [found]
      | false =>
        refine ⟨ih1, fun r hr => ?_⟩
        obtain ⟨h1, h2⟩ := ih2 r hr
        refine ⟨by rw [found_succ h2]; exact h1, fun p hp => by have := h2 p hp; omega⟩

theorem findAsking_run (kt : TypeId) (k : Value) (f g : MapEntry → MapEntry) (hk : ∀ e, (f e).key = (g e).key) (w : World) : ∀ (es : List MapEntry) (i : Nat) (r : Option (Nat × Value)),
    pureRun P (Instr.findAsking kt k (es.map f) i) = some r → (Instr.findAsking kt k (es.map g) i).run P w = .ok (found g es i r) w ∧ (∀ p, r = some p → i ≤ p.1)
  | [], i, r, h => by
    simp [Instr.findAsking, pureRun, Pure.pure] at h
    subst h
    simp [Instr.findAsking, found]
  | e :: es, i, r, h => by
    simp only [List.map_cons, Instr.findAsking, pureRun_bind, Option.bind_eq_some_iff] at h
    obtain ⟨b, hb, h⟩ := h
    rw [hk e] at hb
    have hrun := pureRun_run P _ _ hb w
    simp only [List.map_cons, Instr.findAsking, Sem.run_bind, hrun, Result.andThen_ok]
    cases b with
    | true =>
      simp [pureRun, Pure.pure] at h
      subst h
      simp [found]
    | false =>
      obtain ⟨h1, h2⟩ := findAsking_run kt k f g hk w es (i + 1) r (by simpa using h)
      refine ⟨?_, fun p hp => by have := h2 p hp; omega⟩
      rw [found_succ h2]
      simpa using h1

theorem findKey_run {kt : TypeId} {k : Value} {f g : MapEntry → MapEntry} (hk : ∀ e, (f e).key = (g e).key) {es : List MapEntry} {r : Option (Nat × Value)} (h : pureRun P (Instr.findKey kt k (es.map f)) = some r) (w : World) :
    (Instr.findKey kt k (es.map g)).run P w = .ok (found g es 0 r) w := by
  unfold Instr.findKey at *
  simp only [pureRun_bind, Option.bind_eq_some_iff] at h
  obtain ⟨d, hd, h⟩ := h
  have hdr := pureRun_run P _ _ hd w
  obtain ⟨n1, n2⟩ := findNow_run d k f g hk es 0
  simp only [Sem.run_bind, hdr, Result.andThen_ok]
  cases hf : Instr.findNow d k (es.map f) 0 with
  | none =>
    rw [hf] at h
    rw [n1 hf]
    exact (findAsking_run kt k f g hk w es 0 r h).1
  | some r' =>
    rw [hf] at h
    simp [pureRun, Pure.pure] at h
    subst h
    rw [(n2 r' hf).1]
    simp

/-- A key is looked for: as in the bare entries, so in the renamed ones. -/
theorem afind_run {empty : Bool} {kt : TypeId} {k : Value} {es : List MapEntry} {r : Option Nat} (h : afind P empty kt k es = some r) (w : World) :
    flat k = true ∧ (Instr.checkKey empty 10000 kt k).run P w = .ok () w ∧ (Instr.findKey kt k (es.map (renE I))).run P w = .ok (r.bind fun i => (es[i]?).map fun e => (i, ren I e.val)) w := by
  unfold afind at h
  split at h
  · rename_i hc
    obtain ⟨hk, hes, hch⟩ := hc
    refine ⟨hk, ?_, ?_⟩
    · obtain ⟨u, hu⟩ := Option.isSome_iff_exists.1 hch
      exact pureRun_run P _ _ hu w
    · simp only [Option.map_eq_some_iff] at h
      obtain ⟨q, hq, rfl⟩ := h
      have hmap : es.map (renE I) = es.map (fun e => if flat e.key then renE I e else ⟨e.key, undef, e.born⟩) := by
        apply List.map_congr_left
        intro e he
        rw [if_pos (List.all_eq_true.1 hes e he)]
      rw [hmap]
      have := findKey_run (P := P) (f := fun e => ⟨e.key, undef, e.born⟩) (g := fun e => if flat e.key then renE I e else ⟨e.key, undef, e.born⟩) (fun e => by
        by_cases hf : flat e.key = true
        · simp [hf, renE, (flat_ren I _ hf).1]
        · simp [hf]) hq w
      rw [this]
      congr 1
      cases q with
      | none => rfl
      | some p =>
        simp only [found, Nat.sub_zero, Option.map_some, Option.bind_some]
        cases he : es[p.1]? with
        | none => rfl
        | some e => simp [List.all_eq_true.1 hes e (List.mem_of_getElem? he), renE]
  · simp at h

section sims
variable {o : Oper} {t kt e : TypeId} {m kk vv : Operand} {m' k' v' : Opd} {z : Value} {lo : Nat} {ok : Bool} {h h' : H} {w : World} {v : Value}

theorem sim_lookup (hρ : Ev I ts ρ) (ho : o.op = .lookup t m kk ok) (ht : P.underlying t = some (.map kt e)) (hz : zflat P e = some z) (hm : cOpd m = some m') (hk : cOpd kk = some k') (k : Rel I h w)
    (ha : xLookup P kt z ok (ev ts k') h (ev ts m') = some v) : In I v ∧ (execOp ρ o).run P w = .ok (.value (ren I v)) w := by
  obtain ⟨e1, i1⟩ := hρ m m' hm
  obtain ⟨e2, -⟩ := hρ kk k' hk
  obtain ⟨hzr, hzf⟩ := run_zflat hz w
  obtain ⟨ez, iz⟩ := flat_ren I z hzf
  unfold xLookup at ha
  split at ha
  · rename_i r hr
    rw [hr] at e1 i1
    simp only [ren, In] at e1 i1
    split at ha
    · rename_i es c hg
      simp only [Option.bind_eq_some_iff] at ha
      obtain ⟨q, hq, ha⟩ := ha
      obtain ⟨b0, hb0⟩ := i1
      obtain ⟨ie, b, hat, hbase, hheap⟩ := k.rows _ _ hg ⟨_, _, hb0⟩
      have hblk : I.blk r = b := by simp [Inj.blk, hat]
      rw [hblk] at e1
      obtain ⟨hkf, hck, hfk⟩ := afind_run (I := I) hq w
      rw [(flat_ren I _ hkf).1] at e2
      have hget : (getObj b).run P w = .ok (.map ⟨es.map (renE I)⟩ c) w := by simp [getObj, Sem.run, hheap]
      have hemp : (⟨es.map (renE I)⟩ : Array MapEntry).isEmpty = es.isEmpty := by cases es <;> simp
      cases q with
      | none =>
        simp only [luOut, Option.some.injEq] at ha
        subst ha
        simp only [Option.bind_none] at hfk
        cases ok
        · refine ⟨by simpa using iz, ?_⟩
          simp [execOp, ho, e1, e2, Instr.lookup, run_underlying ht, hget, hemp, hck, hfk, hzr, ez]
        · refine ⟨by simp [In, InL, iz], ?_⟩
          simp [execOp, ho, e1, e2, Instr.lookup, run_underlying ht, hget, hemp, hck, hfk, hzr, ez, ren, renL]
      | some i =>
        simp only [luOut, Option.map_eq_some_iff] at ha
        obtain ⟨x, hx, rfl⟩ := ha
        simp only [Option.bind_some, hx, Option.map_some] at hfk
        have hix := (ie x (List.mem_of_getElem? hx)).2
        cases ok
        · refine ⟨by simpa using hix, ?_⟩
          simp [execOp, ho, e1, e2, Instr.lookup, run_underlying ht, hget, hemp, hck, hfk]
        · refine ⟨by simp [In, InL, hix], ?_⟩
          simp [execOp, ho, e1, e2, Instr.lookup, run_underlying ht, hget, hemp, hck, hfk, ren, renL]
    · simp at ha
  · rename_i hr
    rw [hr] at e1
    simp only [ren] at e1
    simp only [Option.bind_eq_some_iff] at ha
    obtain ⟨q, hq, ha⟩ := ha
    obtain ⟨hkf, hck, hfk⟩ := afind_run (I := I) hq w
    rw [(flat_ren I _ hkf).1] at e2
    simp only [List.map_nil] at hfk
    cases q with
    | none =>
      simp only [luOut, Option.some.injEq] at ha
      subst ha
      simp only [Option.bind_none] at hfk
      cases ok
      · refine ⟨by simpa using iz, ?_⟩
        simp [execOp, ho, e1, e2, Instr.lookup, run_underlying ht, hck, hfk, hzr, ez]
      · refine ⟨by simp [In, InL, iz], ?_⟩
        simp [execOp, ho, e1, e2, Instr.lookup, run_underlying ht, hck, hfk, hzr, ez, ren, renL]
    | some i => simp [luOut] at ha
  · simp at ha

end sims
end
end AE
