/- Walks of agree: what a hull can have, and the truths of its ends. -/
import Derived.Test.YtfdlkdjihmlbhaaAgreeJ
set_option linter.unusedVariables false
set_option linter.unusedSimpArgs false
set_option linter.unusedSectionVars false
namespace AE.Try
set_option linter.unusedSimpArgs false
open Go AE AE.Ag AgreeS Go.Proofs
set_option maxRecDepth 100000
open Classical in
/-- The error of a spread. -/
noncomputable def sErr (T : Table) (j : Nat) : Int := if Agrees T then (if Tested T j then 0 else 5) else 20
noncomputable def sLo (T : Table) (j : Nat) : Int := if sErr T j = 0 then lowX T j else 0
noncomputable def sHi (T : Table) (j : Nat) : Int := if sErr T j = 0 then highX T j else 0
open Classical in
noncomputable def bErr (T : Table) (i j : Nat) : Int := if Agrees T then (if Tested T i ∧ Tested T j then 0 else 5) else 20
noncomputable def bLo (T : Table) (i j : Nat) : Int := if bErr T i j = 0 then -AgreeS.far T j i else 0
noncomputable def bHi (T : Table) (i j : Nat) : Int := if bErr T i j = 0 then AgreeS.far T i j else 0

theorem sErr_ok {T : Table} {j : Nat} : sErr T j = 0 ↔ Agrees T ∧ Tested T j := by
  unfold sErr
  by_cases ha : Agrees T <;> by_cases ht : Tested T j <;> simp [ha, ht]
theorem bErr_ok {T : Table} {i j : Nat} : bErr T i j = 0 ↔ Agrees T ∧ Tested T i ∧ Tested T j := by
  unfold bErr
  by_cases ha : Agrees T <;> by_cases ht : Tested T i <;> by_cases hu : Tested T j <;> simp [ha, ht, hu]

/-- The answer of hulls, for one hull, and for two. -/
theorem HullsIs.one {T : Tab} {z : Int} {h : H} {v : Value} {h' : H} (k : HullsIs T 1 (fun _ => z) h v h') :
    (sErr T.toTable z.toNat ≠ 0 ∧ v = .tuple #[.pointer none, .pointer none, .int .i64 (sErr T.toTable z.toNat)]) ∨
    (sErr T.toTable z.toNat = 0 ∧ Agrees T.toTable ∧ Tested T.toTable z.toNat ∧ ∃ r hr e, v = .tuple #[.pointer (some ⟨r, 0, none⟩), .pointer (some ⟨hr, 0, none⟩), .int .i64 0] ∧ h.next ≤ r ∧ r < h'.next ∧ h'.get r = some (.cells (T.head ++ netRows (netOf T.toTable)) e) ∧
      Lies h r (AgreeS.found (netOf T.toTable) T.toTable.many 0) hr h') := by
  cases k with
  | doubt ha => exact .inl (by simp [sErr, ha])
  | unt ha hn =>
    obtain ⟨i, -, hn⟩ := hn
    exact .inl (by simp [sErr, ha, hn])
  | ok ha ht h1 h2 hg hl =>
    have ht := ht 0 (by omega)
    exact .inr ⟨sErr_ok.2 ⟨ha, ht⟩, ha, ht, _, _, _, rfl, h1, h2, hg, hl⟩
theorem HullsIs.two {T : Tab} {z w : Int} {h : H} {v : Value} {h' : H} (k : HullsIs T 2 (fun i => if i = 0 then z else w) h v h') :
    (bErr T.toTable z.toNat w.toNat ≠ 0 ∧ v = .tuple #[.pointer none, .pointer none, .int .i64 (bErr T.toTable z.toNat w.toNat)]) ∨
    (bErr T.toTable z.toNat w.toNat = 0 ∧ Agrees T.toTable ∧ Tested T.toTable z.toNat ∧ Tested T.toTable w.toNat ∧ ∃ r hr e, v = .tuple #[.pointer (some ⟨r, 0, none⟩), .pointer (some ⟨hr, 0, none⟩), .int .i64 0] ∧ h.next ≤ r ∧ r < h'.next ∧ h'.get r = some (.cells (T.head ++ netRows (netOf T.toTable)) e) ∧
      Lies h r (AgreeS.found (netOf T.toTable) T.toTable.many 0) hr h') := by
  cases k with
  | doubt ha => exact .inl (by simp [bErr, ha])
  | unt ha hn =>
    obtain ⟨i, -, hn⟩ := hn
    refine .inl ?_
    split at hn <;> simp [bErr, ha, hn]
  | ok ha ht h1 h2 hg hl =>
    have ht0 := ht 0 (by omega)
    have ht1 := ht 1 (by omega)
    simp only [if_true] at ht0
    rw [if_neg (by omega)] at ht1
    exact .inr ⟨bErr_ok.2 ⟨ha, ht0, ht1⟩, ha, ht0, ht1, _, _, _, rfl, h1, h2, hg, hl⟩

theorem low_small {T : Table} (h : T.Ok) (k : Agrees T) (v : Nat) : -(12 * AgreeS.M) ≤ hts (AgreeS.found (netOf T) T.many 0).known v ∧ hts (AgreeS.found (netOf T) T.many 0).known v ≤ 12 * AgreeS.M := hts_small (agrees_found h k).2 v
theorem high_small {T : Table} (h : T.Ok) (k : Agrees T) (v : Nat) : -(12 * AgreeS.M) ≤ hts (AgreeS.found (turn (netOf T)) T.many 0).known v ∧ hts (AgreeS.found (turn (netOf T)) T.many 0).known v ≤ 12 * AgreeS.M := hts_small (agrees_turned h k).2 v

set_option maxHeartbeats 1000000 in
theorem spread_w {h : H} {T : Tab} {m : Nat} {z : Int} (hm : m ≤ h.next) (hT : T.Ok m h) (hv : T.Valid) (hz : 0 ≤ z ∧ z < T.hulls) :
    AW Try.prog 11 h.next h [.agg ⟨T.cells⟩, .int .i64 z] (fun v _ => v = .tuple #[.agg ⟨[.int .i64 (sLo T.toTable z.toNat), .int .i64 (sHi T.toTable z.toNat)]⟩, .int .i64 (sErr T.toTable z.toNat)]) := by
  have hok := hv.ok
  have hmm := hok.many
  refine fun11.call rfl (Nat.le_refl _) ?_
  unfold a11
  (focus ((try with_reducible apply wpC.to); (repeat' ((conv => whnf); first | ((apply Start.mk); (focus exact byNext); (focus exact byLen)) | ((apply New.mk); (focus exact byNid)) | ((apply Need.mk); (focus exact byNeed)) | ((apply Fork.mk) <;> (intro _; try (exfalso; omega; done))) | ((apply Load1.mk); (focus exact byMem); (focus exact byVal)) | ((apply LoadN.mk); (focus exact byMem); (focus exact byList)) | ((apply Sto.mk); (focus exact bySto); (focus exact byLo); (focus exact byGet); (focus exact rfl); (focus exact rfl); (focus exact rfl); (focus exact byList)) | ((with_reducible apply Ix.nat); (focus exact rfl); (focus omega)) | ((with_reducible apply Ix.natp); (focus assumption); (focus omega)) | ((with_reducible apply Ix.pred); (focus first | assumption | exact fun _ => rfl); (focus omega); (focus omega)) | ((with_reducible apply Ix.lit); (focus exact byLit); (focus first | assumption | exact fun _ => rfl); (focus omega); (focus omega)) | ((with_reducible apply Ix.int); (focus exact rfl); (focus omega); (focus omega)) | ((with_reducible apply Ix.intp); (focus assumption); (focus omega); (focus omega)) | apply forceV_any | apply forceL_any)); all_goals (conv => whnf); all_goals (try with_reducible apply At.mk)))
  apply q_call
  focus (exact byNext)
  focus (exact byLo)
  focus exact hulls_w (m := m) (L := ⟨1, fun _ => z, some ⟨h.next + 5, 0, none⟩, ⟨h.next + 5, 0, none⟩, 1⟩) (by (exact byOm)) (hT.same (by (exact bySame)) (Nat.le_refl _)) hv ⟨fun _ => rfl, fun i hi => by obtain rfl : i = 0 := (by simp only at hi; omega); exact loadN_one (off := 0 + 0) (by (exact byGet)) rfl, fun _ => by simp only; (exact byOm), by simp⟩ (fun i hi => hz)
  intro v h1 k q hn
  rcases k.one with ⟨he, rfl⟩ | ⟨he, ha, ht, r, hr, e, rfl, hr1, hr2, hg, mr, e', l1, l2, l3, l4, l5, l6, l7⟩
  · (focus ((try with_reducible apply wpC.to); (repeat' ((conv => whnf); first | ((apply Start.mk); (focus exact byNext); (focus exact byLen)) | ((apply New.mk); (focus exact byNid)) | ((apply Need.mk); (focus exact byNeed)) | ((apply Fork.mk) <;> (intro _; try (exfalso; omega; done))) | ((apply Load1.mk); (focus exact byMem); (focus exact byVal)) | ((apply LoadN.mk); (focus exact byMem); (focus exact byList)) | ((apply Sto.mk); (focus exact bySto); (focus exact byLo); (focus exact byGet); (focus exact rfl); (focus exact rfl); (focus exact rfl); (focus exact byList)) | ((with_reducible apply Ix.nat); (focus exact rfl); (focus omega)) | ((with_reducible apply Ix.natp); (focus assumption); (focus omega)) | ((with_reducible apply Ix.pred); (focus first | assumption | exact fun _ => rfl); (focus omega); (focus omega)) | ((with_reducible apply Ix.lit); (focus exact byLit); (focus first | assumption | exact fun _ => rfl); (focus omega); (focus omega)) | ((with_reducible apply Ix.int); (focus exact rfl); (focus omega); (focus omega)) | ((with_reducible apply Ix.intp); (focus assumption); (focus omega); (focus omega)) | apply forceV_any | apply forceL_any)); all_goals (conv => whnf); all_goals (try with_reducible apply At.mk)))
    have h1 : sLo T.toTable z.toNat = 0 := if_neg he
    have h2 : sHi T.toTable z.toNat = 0 := if_neg he
    rw [h1, h2]
    all_goals ((first | (apply fin1; (focus first | exact .inl rfl | exact .inr rfl); focus exact byR1) | (apply fin2; (focus first | exact .inl rfl | exact .inr rfl); (focus exact byR1); (focus exact byR1)) | (apply fin3; (focus first | exact .inl rfl | exact .inr rfl); (focus exact byR1); (focus exact byR1); (focus exact byR1)) | (apply fin0; (focus first | exact .inl rfl | exact .inr rfl))); rfl)
  try simp only [put_next, bump_next] at hr1 l1 l3
  (focus ((try with_reducible apply wpC.to); (repeat' ((conv => whnf); first | ((apply Start.mk); (focus exact byNext); (focus exact byLen)) | ((apply New.mk); (focus exact byNid)) | ((apply Need.mk); (focus exact byNeed)) | ((apply Fork.mk) <;> (intro _; try (exfalso; omega; done))) | ((apply Load1.mk); (focus exact byMem); (focus exact byVal)) | ((apply LoadN.mk); (focus exact byMem); (focus exact byList)) | ((apply Sto.mk); (focus exact bySto); (focus exact byLo); (focus exact byGet); (focus exact rfl); (focus exact rfl); (focus exact rfl); (focus exact byList)) | ((with_reducible apply Ix.nat); (focus exact rfl); (focus omega)) | ((with_reducible apply Ix.natp); (focus assumption); (focus omega)) | ((with_reducible apply Ix.pred); (focus first | assumption | exact fun _ => rfl); (focus omega); (focus omega)) | ((with_reducible apply Ix.lit); (focus exact byLit); (focus first | assumption | exact fun _ => rfl); (focus omega); (focus omega)) | ((with_reducible apply Ix.int); (focus exact rfl); (focus omega); (focus omega)) | ((with_reducible apply Ix.intp); (focus assumption); (focus omega); (focus omega)) | apply forceV_any | apply forceL_any)); all_goals (conv => whnf); all_goals (try with_reducible apply At.mk)))
  apply q_call
  focus (exact byNext)
  focus (exact byLo)
  focus exact turned_w (T := T) (B := netOf T.toTable) hv (by (exact byOm)) (fun f t m hm => ⟨(lim_net hok f t m hm).1, (lim_net hok f t m hm).2.1⟩) (by (exact byGet))
  rintro _ h2 ⟨r2, e2, rfl, r21, r22, hg2⟩ q2 hn2
  try simp only [put_next, bump_next] at r21
  (focus ((try with_reducible apply wpC.to); (repeat' ((conv => whnf); first | ((apply Start.mk); (focus exact byNext); (focus exact byLen)) | ((apply New.mk); (focus exact byNid)) | ((apply Need.mk); (focus exact byNeed)) | ((apply Fork.mk) <;> (intro _; try (exfalso; omega; done))) | ((apply Load1.mk); (focus exact byMem); (focus exact byVal)) | ((apply LoadN.mk); (focus exact byMem); (focus exact byList)) | ((apply Sto.mk); (focus exact bySto); (focus exact byLo); (focus exact byGet); (focus exact rfl); (focus exact rfl); (focus exact rfl); (focus exact byList)) | ((with_reducible apply Ix.nat); (focus exact rfl); (focus omega)) | ((with_reducible apply Ix.natp); (focus assumption); (focus omega)) | ((with_reducible apply Ix.pred); (focus first | assumption | exact fun _ => rfl); (focus omega); (focus omega)) | ((with_reducible apply Ix.lit); (focus exact byLit); (focus first | assumption | exact fun _ => rfl); (focus omega); (focus omega)) | ((with_reducible apply Ix.int); (focus exact rfl); (focus omega); (focus omega)) | ((with_reducible apply Ix.intp); (focus assumption); (focus omega); (focus omega)) | apply forceV_any | apply forceL_any)); all_goals (conv => whnf); all_goals (try with_reducible apply At.mk)))
  apply q_call
  focus (exact byNext)
  focus (exact byLo)
  focus exact heights_w (B := turn (netOf T.toTable)) hv (by (exact byOm)) (lim_turn (lim_net hok)) (by (exact byGet))
  rintro _ h3 ⟨hr3, rfl, mr3, e3, m1, m2, m3, m4, m5, m6, m7⟩ q3 hn3
  try simp only [put_next, bump_next] at m1 m3
  (focus ((try with_reducible apply wpC.to); (repeat' ((conv => whnf); first | ((apply Start.mk); (focus exact byNext); (focus exact byLen)) | ((apply New.mk); (focus exact byNid)) | ((apply Need.mk); (focus exact byNeed)) | ((apply Fork.mk) <;> (intro _; try (exfalso; omega; done))) | ((apply Load1.mk); (focus exact byMem); (focus exact byVal)) | ((apply LoadN.mk); (focus exact byMem); (focus exact byList)) | ((apply Sto.mk); (focus exact bySto); (focus exact byLo); (focus exact byGet); (focus exact rfl); (focus exact rfl); (focus exact rfl); (focus exact byList)) | ((with_reducible apply Ix.nat); (focus exact rfl); (focus omega)) | ((with_reducible apply Ix.natp); (focus assumption); (focus omega)) | ((with_reducible apply Ix.pred); (focus first | assumption | exact fun _ => rfl); (focus omega); (focus omega)) | ((with_reducible apply Ix.lit); (focus exact byLit); (focus first | assumption | exact fun _ => rfl); (focus omega); (focus omega)) | ((with_reducible apply Ix.int); (focus exact rfl); (focus omega); (focus omega)) | ((with_reducible apply Ix.intp); (focus assumption); (focus omega); (focus omega)) | apply forceV_any | apply forceL_any)); all_goals (conv => whnf); all_goals (try with_reducible apply At.mk)))
  apply q_call
  focus (exact byNext)
  focus (exact byLo)
  focus exact truth_w (x := AgreeS.found (netOf T.toTable) T.toTable.many 0) (r := r) (B := netOf T.toTable) hv (low_small hok ha) (.inl rfl) (by (exact byOm)) (by (exact byOm)) (by (exact byGet)) (by (exact byGet))
  rintro _ h4 ⟨t, rfl, an, cn, af, cf, ⟨aoe, aoi, aor, aol⟩, ⟨coe, coi, cor, col⟩, ab, cb⟩ q4 hn4
  try simp only [put_next, bump_next] at ab cb
  (focus ((try with_reducible apply wpC.to); (repeat' ((conv => whnf); first | ((apply Start.mk); (focus exact byNext); (focus exact byLen)) | ((apply New.mk); (focus exact byNid)) | ((apply Need.mk); (focus exact byNeed)) | ((apply Fork.mk) <;> (intro _; try (exfalso; omega; done))) | ((apply Load1.mk); (focus exact byMem); (focus exact byVal)) | ((apply LoadN.mk); (focus exact byMem); (focus exact byList)) | ((apply Sto.mk); (focus exact bySto); (focus exact byLo); (focus exact byGet); (focus exact rfl); (focus exact rfl); (focus exact rfl); (focus exact byList)) | ((with_reducible apply Ix.nat); (focus exact rfl); (focus omega)) | ((with_reducible apply Ix.natp); (focus assumption); (focus omega)) | ((with_reducible apply Ix.pred); (focus first | assumption | exact fun _ => rfl); (focus omega); (focus omega)) | ((with_reducible apply Ix.lit); (focus exact byLit); (focus first | assumption | exact fun _ => rfl); (focus omega); (focus omega)) | ((with_reducible apply Ix.int); (focus exact rfl); (focus omega); (focus omega)) | ((with_reducible apply Ix.intp); (focus assumption); (focus omega); (focus omega)) | apply forceV_any | apply forceL_any)); all_goals (conv => whnf); all_goals (try with_reducible apply At.mk)))
  apply q_call
  focus (exact byNext)
  focus (exact byLo)
  focus exact truth_w (x := AgreeS.found (turn (netOf T.toTable)) T.toTable.many 0) (r := r2) (B := turn (netOf T.toTable)) hv (high_small hok ha) (.inr rfl) (by (exact byOm)) (by (exact byOm)) (by (exact byGet)) (by (exact byGet))
  rintro _ h5 ⟨t', rfl, an', cn', af', cf', ⟨aoe', aoi', aor', aol'⟩, ⟨coe', coi', cor', col'⟩, ab', cb'⟩ q5 hn5
  try simp only [put_next, bump_next] at ab' cb'
  (focus ((try with_reducible apply wpC.to); (repeat' ((conv => whnf); first | ((apply Start.mk); (focus exact byNext); (focus exact byLen)) | ((apply New.mk); (focus exact byNid)) | ((apply Need.mk); (focus exact byNeed)) | ((apply Fork.mk) <;> (intro _; try (exfalso; omega; done))) | ((apply Load1.mk); (focus exact byMem); (focus exact byVal)) | ((apply LoadN.mk); (focus exact byMem); (focus exact byList)) | ((apply Sto.mk); (focus exact bySto); (focus exact byLo); (focus exact byGet); (focus exact rfl); (focus exact rfl); (focus exact rfl); (focus exact byList)) | ((with_reducible apply Ix.nat); (focus exact rfl); (focus omega)) | ((with_reducible apply Ix.natp); (focus assumption); (focus omega)) | ((with_reducible apply Ix.pred); (focus first | assumption | exact fun _ => rfl); (focus omega); (focus omega)) | ((with_reducible apply Ix.lit); (focus exact byLit); (focus first | assumption | exact fun _ => rfl); (focus omega); (focus omega)) | ((with_reducible apply Ix.int); (focus exact rfl); (focus omega); (focus omega)) | ((with_reducible apply Ix.intp); (focus assumption); (focus omega); (focus omega)) | apply forceV_any | apply forceL_any)); all_goals (conv => whnf); all_goals (try with_reducible apply At.mk)))
  (first | (apply fin1; (focus first | exact .inl rfl | exact .inr rfl); focus exact byR1) | (apply fin2; (focus first | exact .inl rfl | exact .inr rfl); (focus exact byR1); (focus exact byR1)) | (apply fin3; (focus first | exact .inl rfl | exact .inr rfl); (focus exact byR1); (focus exact byR1); (focus exact byR1)) | (apply fin0; (focus first | exact .inl rfl | exact .inr rfl)))
  have e1 : sLo T.toTable z.toNat = lowX T.toTable z.toNat := if_pos he
  have e2 : sHi T.toTable z.toNat = highX T.toTable z.toNat := if_pos he
  rw [e1, e2, he, cf _ (by omega), cf' _ (by omega)]
  rw [Int.one_mul, show -(-1 * hts (AgreeS.found (turn (netOf T.toTable)) T.toTable.many 0).known (1 + T.tanks.toNat + z.toNat)) = hts (AgreeS.found (turn (netOf T.toTable)) T.toTable.many 0).known (1 + T.tanks.toNat + z.toNat) by omega]
  rfl

/-- The truth of an end. -/
noncomputable def endK (T : Table) (top : Bool) : Known := if top then (AgreeS.found (turn (netOf T)) T.many 0).known else (AgreeS.found (netOf T) T.many 0).known
def endS (top : Bool) : Int := if top then -1 else 1
def Tru.zero : Tru := ⟨⟨0, fun _ => 0, none, ⟨0, 0, none⟩, 0⟩, ⟨0, fun _ => 0, none, ⟨0, 0, none⟩, 0⟩⟩

theorem Arr.Ok.frame {A : Arr} {b m m' : Nat} {h h' : H} (k : A.Ok m h) (hb : 0 < A.n → b ≤ A.a.block) (hm : m ≤ m') (hs : ∀ r, b ≤ r → r < m → h'.get r = h.get r) : A.Ok m' h' :=
  ⟨k.e, fun i hi => by
    have := k.i i hi
    rw [← this]
    simp only [H.loadN, aadd]
    rw [hs _ (hb (by omega)) (k.r (by omega))], fun h0 => by have := k.r h0; omega, k.l⟩
theorem TruthAt.frame {T : Tab} {x : Known} {sg : Int} {m m' : Nat} {t : Tru} {h h' : H} (k : TruthAt T x sg m t h) (hm : m' ≤ m) (hn : h.next ≤ h'.next) (hs : ∀ r, m ≤ r → r < h.next → h'.get r = h.get r) : TruthAt T x sg m' t h' :=
  ⟨k.an, k.cn, k.af, k.cf, k.ao.frame (fun _ => k.ab) hn hs, k.co.frame (fun _ => k.cb) hn hs, Nat.le_trans hm k.ab, Nat.le_trans hm k.cb⟩

set_option maxHeartbeats 1000000 in
theorem attain_w {h : H} {T : Tab} {m : Nat} {z : Int} {top : Bool} (hm : m ≤ h.next) (hT : T.Ok m h) (hv : T.Valid) (hz : 0 ≤ z ∧ z < T.hulls) :
    AW Try.prog 12 h.next h [.agg ⟨T.cells⟩, .int .i64 z, .bool top] (fun v h' => ∃ t : Tru, v = .tuple #[.agg ⟨t.cells⟩, .int .i64 (sErr T.toTable z.toNat)] ∧ if sErr T.toTable z.toNat = 0 then TruthAt T (endK T.toTable top) (endS top) h.next t h' else t = Tru.zero) := by
  have hok := hv.ok
  have hmm := hok.many
  refine fun12.call rfl (Nat.le_refl _) ?_
  unfold a12
  (focus ((try with_reducible apply wpC.to); (repeat' ((conv => whnf); first | ((apply Start.mk); (focus exact byNext); (focus exact byLen)) | ((apply New.mk); (focus exact byNid)) | ((apply Need.mk); (focus exact byNeed)) | ((apply Fork.mk) <;> (intro _; try (exfalso; omega; done))) | ((apply LoadN.mk); (focus exact byMem); (focus exact byList)) | ((apply Sto.mk); (focus exact bySto); (focus exact byLo); (focus exact byGet); (focus exact rfl); (focus exact rfl); (focus exact rfl); (focus exact byList)) | ((with_reducible apply Ix.pred); (focus first | assumption | exact fun _ => rfl); (focus omega); (focus omega)) | apply forceV_any | apply forceL_any)); all_goals (conv => whnf); all_goals (try with_reducible apply At.mk)))
  apply q_call
  focus (exact byNext)
  focus (exact byLo)
  focus exact hulls_w (m := m) (L := ⟨1, fun _ => z, some ⟨h.next + 5, 0, none⟩, ⟨h.next + 5, 0, none⟩, 1⟩) (by (exact byOm)) (hT.same (by (exact bySame)) (Nat.le_refl _)) hv ⟨fun _ => rfl, fun i hi => by obtain rfl : i = 0 := (by simp only at hi; omega); exact loadN_one (off := 0 + 0) (by (exact byGet)) rfl, fun _ => by simp only; (exact byOm), by simp⟩ (fun i hi => hz)
  intro v h1 k q hn
  rcases k.one with ⟨he, rfl⟩ | ⟨he, ha, ht, r, hr, e, rfl, hr1, hr2, hg, mr, e', l1, l2, l3, l4, l5, l6, l7⟩
  · (focus ((try with_reducible apply wpC.to); (repeat' ((conv => whnf); first | ((apply Start.mk); (focus exact byNext); (focus exact byLen)) | ((apply New.mk); (focus exact byNid)) | ((apply Need.mk); (focus exact byNeed)) | ((apply Fork.mk) <;> (intro _; try (exfalso; omega; done))) | ((apply LoadN.mk); (focus exact byMem); (focus exact byList)) | ((apply Sto.mk); (focus exact bySto); (focus exact byLo); (focus exact byGet); (focus exact rfl); (focus exact rfl); (focus exact rfl); (focus exact byList)) | ((with_reducible apply Ix.pred); (focus first | assumption | exact fun _ => rfl); (focus omega); (focus omega)) | apply forceV_any | apply forceL_any)); all_goals (conv => whnf); all_goals (try with_reducible apply At.mk)))
    all_goals (first | (apply fin1; (focus first | exact .inl rfl | exact .inr rfl); focus exact byR1) | (apply fin2; (focus first | exact .inl rfl | exact .inr rfl); (focus exact byR1); (focus exact byR1)) | (apply fin3; (focus first | exact .inl rfl | exact .inr rfl); (focus exact byR1); (focus exact byR1); (focus exact byR1)) | (apply fin0; (focus first | exact .inl rfl | exact .inr rfl)))
    exact ⟨Tru.zero, rfl, by rw [if_neg he]⟩
  try simp only [put_next, bump_next] at hr1 l1 l3
  cases top with
  | false =>
    (focus ((try with_reducible apply wpC.to); (repeat' ((conv => whnf); first | ((apply Start.mk); (focus exact byNext); (focus exact byLen)) | ((apply New.mk); (focus exact byNid)) | ((apply Need.mk); (focus exact byNeed)) | ((apply Fork.mk) <;> (intro _; try (exfalso; omega; done))) | ((apply LoadN.mk); (focus exact byMem); (focus exact byList)) | ((apply Sto.mk); (focus exact bySto); (focus exact byLo); (focus exact byGet); (focus exact rfl); (focus exact rfl); (focus exact rfl); (focus exact byList)) | ((with_reducible apply Ix.pred); (focus first | assumption | exact fun _ => rfl); (focus omega); (focus omega)) | apply forceV_any | apply forceL_any)); all_goals (conv => whnf); all_goals (try with_reducible apply At.mk)))
    apply q_call
    focus (exact byNext)
    focus (exact byLo)
    focus exact truth_w (x := AgreeS.found (netOf T.toTable) T.toTable.many 0) (r := r) (B := netOf T.toTable) hv (low_small hok ha) (.inl rfl) (by (exact byOm)) (by (exact byOm)) (by (exact byGet)) (by (exact byGet))
    rintro _ h4 ⟨t, rfl, tk⟩ q4 hn4
    (focus ((try with_reducible apply wpC.to); (repeat' ((conv => whnf); first | ((apply Start.mk); (focus exact byNext); (focus exact byLen)) | ((apply New.mk); (focus exact byNid)) | ((apply Need.mk); (focus exact byNeed)) | ((apply Fork.mk) <;> (intro _; try (exfalso; omega; done))) | ((apply LoadN.mk); (focus exact byMem); (focus exact byList)) | ((apply Sto.mk); (focus exact bySto); (focus exact byLo); (focus exact byGet); (focus exact rfl); (focus exact rfl); (focus exact rfl); (focus exact byList)) | ((with_reducible apply Ix.pred); (focus first | assumption | exact fun _ => rfl); (focus omega); (focus omega)) | apply forceV_any | apply forceL_any)); all_goals (conv => whnf); all_goals (try with_reducible apply At.mk)))
    (first | (apply fin1; (focus first | exact .inl rfl | exact .inr rfl); focus exact byR1) | (apply fin2; (focus first | exact .inl rfl | exact .inr rfl); (focus exact byR1); (focus exact byR1)) | (apply fin3; (focus first | exact .inl rfl | exact .inr rfl); (focus exact byR1); (focus exact byR1); (focus exact byR1)) | (apply fin0; (focus first | exact .inl rfl | exact .inr rfl)))
    exact ⟨t, by rw [he]; rfl, by rw [if_pos he]; exact tk.frame (by (exact byOm)) (by (exact byOm)) fun j hj1 hj2 => get_of fun y hy => by simp only [put_next, bump_next] at hj1 hj2; (exact byGet)⟩
  | true =>
    (focus ((try with_reducible apply wpC.to); (repeat' ((conv => whnf); first | ((apply Start.mk); (focus exact byNext); (focus exact byLen)) | ((apply New.mk); (focus exact byNid)) | ((apply Need.mk); (focus exact byNeed)) | ((apply Fork.mk) <;> (intro _; try (exfalso; omega; done))) | ((apply LoadN.mk); (focus exact byMem); (focus exact byList)) | ((apply Sto.mk); (focus exact bySto); (focus exact byLo); (focus exact byGet); (focus exact rfl); (focus exact rfl); (focus exact rfl); (focus exact byList)) | ((with_reducible apply Ix.pred); (focus first | assumption | exact fun _ => rfl); (focus omega); (focus omega)) | apply forceV_any | apply forceL_any)); all_goals (conv => whnf); all_goals (try with_reducible apply At.mk)))
    apply q_call
    focus (exact byNext)
    focus (exact byLo)
    focus exact turned_w (T := T) (B := netOf T.toTable) hv (by (exact byOm)) (fun f t m hm => ⟨(lim_net hok f t m hm).1, (lim_net hok f t m hm).2.1⟩) (by (exact byGet))
    rintro _ h2 ⟨r2, e2, rfl, r21, r22, hg2⟩ q2 hn2
    try simp only [put_next, bump_next] at r21
    (focus ((try with_reducible apply wpC.to); (repeat' ((conv => whnf); first | ((apply Start.mk); (focus exact byNext); (focus exact byLen)) | ((apply New.mk); (focus exact byNid)) | ((apply Need.mk); (focus exact byNeed)) | ((apply Fork.mk) <;> (intro _; try (exfalso; omega; done))) | ((apply LoadN.mk); (focus exact byMem); (focus exact byList)) | ((apply Sto.mk); (focus exact bySto); (focus exact byLo); (focus exact byGet); (focus exact rfl); (focus exact rfl); (focus exact rfl); (focus exact byList)) | ((with_reducible apply Ix.pred); (focus first | assumption | exact fun _ => rfl); (focus omega); (focus omega)) | apply forceV_any | apply forceL_any)); all_goals (conv => whnf); all_goals (try with_reducible apply At.mk)))
    apply q_call
    focus (exact byNext)
    focus (exact byLo)
    focus exact heights_w (B := turn (netOf T.toTable)) hv (by (exact byOm)) (lim_turn (lim_net hok)) (by (exact byGet))
    rintro _ h3 ⟨hr3, rfl, mr3, e3, m1, m2, m3, m4, m5, m6, m7⟩ q3 hn3
    try simp only [put_next, bump_next] at m1 m3
    (focus ((try with_reducible apply wpC.to); (repeat' ((conv => whnf); first | ((apply Start.mk); (focus exact byNext); (focus exact byLen)) | ((apply New.mk); (focus exact byNid)) | ((apply Need.mk); (focus exact byNeed)) | ((apply Fork.mk) <;> (intro _; try (exfalso; omega; done))) | ((apply LoadN.mk); (focus exact byMem); (focus exact byList)) | ((apply Sto.mk); (focus exact bySto); (focus exact byLo); (focus exact byGet); (focus exact rfl); (focus exact rfl); (focus exact rfl); (focus exact byList)) | ((with_reducible apply Ix.pred); (focus first | assumption | exact fun _ => rfl); (focus omega); (focus omega)) | apply forceV_any | apply forceL_any)); all_goals (conv => whnf); all_goals (try with_reducible apply At.mk)))
    apply q_call
    focus (exact byNext)
    focus (exact byLo)
    focus exact truth_w (x := AgreeS.found (turn (netOf T.toTable)) T.toTable.many 0) (r := r2) (B := turn (netOf T.toTable)) hv (high_small hok ha) (.inr rfl) (by (exact byOm)) (by (exact byOm)) (by (exact byGet)) (by (exact byGet))
    rintro _ h5 ⟨t, rfl, tk⟩ q5 hn5
    (focus ((try with_reducible apply wpC.to); (repeat' ((conv => whnf); first | ((apply Start.mk); (focus exact byNext); (focus exact byLen)) | ((apply New.mk); (focus exact byNid)) | ((apply Need.mk); (focus exact byNeed)) | ((apply Fork.mk) <;> (intro _; try (exfalso; omega; done))) | ((apply LoadN.mk); (focus exact byMem); (focus exact byList)) | ((apply Sto.mk); (focus exact bySto); (focus exact byLo); (focus exact byGet); (focus exact rfl); (focus exact rfl); (focus exact rfl); (focus exact byList)) | ((with_reducible apply Ix.pred); (focus first | assumption | exact fun _ => rfl); (focus omega); (focus omega)) | apply forceV_any | apply forceL_any)); all_goals (conv => whnf); all_goals (try with_reducible apply At.mk)))
    (first | (apply fin1; (focus first | exact .inl rfl | exact .inr rfl); focus exact byR1) | (apply fin2; (focus first | exact .inl rfl | exact .inr rfl); (focus exact byR1); (focus exact byR1)) | (apply fin3; (focus first | exact .inl rfl | exact .inr rfl); (focus exact byR1); (focus exact byR1); (focus exact byR1)) | (apply fin0; (focus first | exact .inl rfl | exact .inr rfl)))
    exact ⟨t, by rw [he]; rfl, by rw [if_pos he]; exact tk.frame (by (exact byOm)) (by (exact byOm)) fun j hj1 hj2 => get_of fun y hy => by simp only [put_next, bump_next] at hj1 hj2; (exact byGet)⟩

set_option maxHeartbeats 1000000 in
theorem between_w {h : H} {T : Tab} {m : Nat} {z w : Int} (hm : m ≤ h.next) (hT : T.Ok m h) (hv : T.Valid) (hz : 0 ≤ z ∧ z < T.hulls) (hw : 0 ≤ w ∧ w < T.hulls) :
    AW Try.prog 13 h.next h [.agg ⟨T.cells⟩, .int .i64 z, .int .i64 w] (fun v _ => v = .tuple #[.agg ⟨[.int .i64 (bLo T.toTable z.toNat w.toNat), .int .i64 (bHi T.toTable z.toNat w.toNat)]⟩, .int .i64 (bErr T.toTable z.toNat w.toNat)]) := by
  have hok := hv.ok
  have hmm := hok.many
  refine fun13.call rfl (Nat.le_refl _) ?_
  unfold a13
  (focus ((try with_reducible apply wpC.to); (repeat' ((conv => whnf); first | ((apply Start.mk); (focus exact byNext); (focus exact byLen)) | ((apply New.mk); (focus exact byNid)) | ((apply Need.mk); (focus exact byNeed)) | ((apply Fork.mk) <;> (intro _; try (exfalso; omega; done))) | ((apply Load1.mk); (focus exact byMem); (focus exact byVal)) | ((apply LoadN.mk); (focus exact byMem); (focus exact byList)) | ((apply Sto.mk); (focus exact bySto); (focus exact byLo); (focus exact byGet); (focus exact rfl); (focus exact rfl); (focus exact rfl); (focus exact byList)) | ((with_reducible apply Ix.pred); (focus first | assumption | exact fun _ => rfl); (focus omega); (focus omega)) | apply forceV_any | apply forceL_any)); all_goals (conv => whnf); all_goals (try with_reducible apply At.mk)))
  apply q_call
  focus (exact byNext)
  focus (exact byLo)
  focus exact hulls_w (m := m) (L := ⟨2, fun i => if i = 0 then z else w, some ⟨h.next + 6, 0, none⟩, ⟨h.next + 6, 0, none⟩, 2⟩) (by (exact byOm)) (hT.same (by (exact bySame)) (Nat.le_refl _)) hv ⟨fun _ => rfl, fun i hi => by
      have : i = 0 ∨ i = 1 := by simp only at hi; omega
      rcases this with rfl | rfl
      · exact loadN_one (off := 0 + 0) (by (exact byGet)) rfl
      · exact loadN_one (off := 0 + 1) (by (exact byGet)) rfl, fun _ => by simp only; (exact byOm), by simp⟩ (fun i hi => by simp only; split <;> assumption)
  intro v h1 k q hn
  rcases k.two with ⟨he, rfl⟩ | ⟨he, ha, ht, hu, r, hr, e, rfl, hr1, hr2, hg, mr, e', l1, l2, l3, l4, l5, l6, l7⟩
  · (focus ((try with_reducible apply wpC.to); (repeat' ((conv => whnf); first | ((apply Start.mk); (focus exact byNext); (focus exact byLen)) | ((apply New.mk); (focus exact byNid)) | ((apply Need.mk); (focus exact byNeed)) | ((apply Fork.mk) <;> (intro _; try (exfalso; omega; done))) | ((apply Load1.mk); (focus exact byMem); (focus exact byVal)) | ((apply LoadN.mk); (focus exact byMem); (focus exact byList)) | ((apply Sto.mk); (focus exact bySto); (focus exact byLo); (focus exact byGet); (focus exact rfl); (focus exact rfl); (focus exact rfl); (focus exact byList)) | ((with_reducible apply Ix.pred); (focus first | assumption | exact fun _ => rfl); (focus omega); (focus omega)) | apply forceV_any | apply forceL_any)); all_goals (conv => whnf); all_goals (try with_reducible apply At.mk)))
    have h1 : bLo T.toTable z.toNat w.toNat = 0 := if_neg he
    have h2 : bHi T.toTable z.toNat w.toNat = 0 := if_neg he
    rw [h1, h2]
    all_goals ((first | (apply fin1; (focus first | exact .inl rfl | exact .inr rfl); focus exact byR1) | (apply fin2; (focus first | exact .inl rfl | exact .inr rfl); (focus exact byR1); (focus exact byR1)) | (apply fin3; (focus first | exact .inl rfl | exact .inr rfl); (focus exact byR1); (focus exact byR1); (focus exact byR1)) | (apply fin0; (focus first | exact .inl rfl | exact .inr rfl))); rfl)
  try simp only [put_next, bump_next] at hr1 l1 l3
  have hv' := hv
  obtain ⟨n24, t1, t2, h1', h2', hb', hf'⟩ := hv'
  have hN : (T.toTable.many : Int) = 1 + T.tanks + T.hulls := by simp only [Table.many, Tab.toTable]; omega
  (focus ((try with_reducible apply wpC.to); (repeat' ((conv => whnf); first | ((apply Start.mk); (focus exact byNext); (focus exact byLen)) | ((apply New.mk); (focus exact byNid)) | ((apply Need.mk); (focus exact byNeed)) | ((apply Fork.mk) <;> (intro _; try (exfalso; omega; done))) | ((apply Load1.mk); (focus exact byMem); (focus exact byVal)) | ((apply LoadN.mk); (focus exact byMem); (focus exact byList)) | ((apply Sto.mk); (focus exact bySto); (focus exact byLo); (focus exact byGet); (focus exact rfl); (focus exact rfl); (focus exact rfl); (focus exact byList)) | ((with_reducible apply Ix.pred); (focus first | assumption | exact fun _ => rfl); (focus omega); (focus omega)) | apply forceV_any | apply forceL_any)); all_goals (conv => whnf); all_goals (try with_reducible apply At.mk)))
  apply q_callv
  focus (exact byNext)
  focus (exact byLo)
  focus exact far_w (T := T) (a := 1 + T.tanks.toNat + w.toNat) (b := 1 + T.tanks.toNat + z.toNat) (B := netOf T.toTable) hv (by (exact byOm)) (lim_net hok) (by (exact byGet)) (by omega) (by omega) (by omega) (by omega)
  intro h2 q2 hn2
  have s1 : -12000000 ≤ AgreeS.far T.toTable w.toNat z.toNat ∧ AgreeS.far T.toTable w.toNat z.toNat ≤ 12000000 := by
    have := hts_small (agrees_from hok ha (a := 1 + T.toTable.tanks + w.toNat) (by simp only [Tab.toTable] at *; omega)) (1 + T.toTable.tanks + z.toNat)
    unfold AgreeS.M at this
    exact this
  have e1 : hts (AgreeS.found (netOf T.toTable) T.toTable.many (1 + T.tanks.toNat + w.toNat)).known (1 + T.tanks.toNat + z.toNat) = AgreeS.far T.toTable w.toNat z.toNat := rfl
  rw [e1]
  (focus ((try with_reducible apply wpC.to); (repeat' ((conv => whnf); first | ((apply Start.mk); (focus exact byNext); (focus exact byLen)) | ((apply New.mk); (focus exact byNid)) | ((apply Need.mk); (focus exact byNeed)) | ((apply Fork.mk) <;> (intro _; try (exfalso; omega; done))) | ((apply Load1.mk); (focus exact byMem); (focus exact byVal)) | ((apply LoadN.mk); (focus exact byMem); (focus exact byList)) | ((apply Sto.mk); (focus exact bySto); (focus exact byLo); (focus exact byGet); (focus exact rfl); (focus exact rfl); (focus exact rfl); (focus exact byList)) | ((with_reducible apply Ix.pred); (focus first | assumption | exact fun _ => rfl); (focus omega); (focus omega)) | apply forceV_any | apply forceL_any)); all_goals (conv => whnf); all_goals (try with_reducible apply At.mk)))
  apply q_callv
  focus (exact byNext)
  focus (exact byLo)
  focus exact far_w (T := T) (a := 1 + T.tanks.toNat + z.toNat) (b := 1 + T.tanks.toNat + w.toNat) (B := netOf T.toTable) hv (by (exact byOm)) (lim_net hok) (by (exact byGet)) (by omega) (by omega) (by omega) (by omega)
  intro h3 q3 hn3
  have e2 : hts (AgreeS.found (netOf T.toTable) T.toTable.many (1 + T.tanks.toNat + z.toNat)).known (1 + T.tanks.toNat + w.toNat) = AgreeS.far T.toTable z.toNat w.toNat := rfl
  rw [e2]
  (focus ((try with_reducible apply wpC.to); (repeat' ((conv => whnf); first | ((apply Start.mk); (focus exact byNext); (focus exact byLen)) | ((apply New.mk); (focus exact byNid)) | ((apply Need.mk); (focus exact byNeed)) | ((apply Fork.mk) <;> (intro _; try (exfalso; omega; done))) | ((apply Load1.mk); (focus exact byMem); (focus exact byVal)) | ((apply LoadN.mk); (focus exact byMem); (focus exact byList)) | ((apply Sto.mk); (focus exact bySto); (focus exact byLo); (focus exact byGet); (focus exact rfl); (focus exact rfl); (focus exact rfl); (focus exact byList)) | ((with_reducible apply Ix.pred); (focus first | assumption | exact fun _ => rfl); (focus omega); (focus omega)) | apply forceV_any | apply forceL_any)); all_goals (conv => whnf); all_goals (try with_reducible apply At.mk)))
  (first | (apply fin1; (focus first | exact .inl rfl | exact .inr rfl); focus exact byR1) | (apply fin2; (focus first | exact .inl rfl | exact .inr rfl); (focus exact byR1); (focus exact byR1)) | (apply fin3; (focus first | exact .inl rfl | exact .inr rfl); (focus exact byR1); (focus exact byR1); (focus exact byR1)) | (apply fin0; (focus first | exact .inl rfl | exact .inr rfl)))
  have f1 : bLo T.toTable z.toNat w.toNat = -AgreeS.far T.toTable w.toNat z.toNat := if_pos he
  have f2 : bHi T.toTable z.toNat w.toNat = AgreeS.far T.toTable z.toNat w.toNat := if_pos he
  rw [f1, f2, he]

open Classical in
noncomputable def tErr (T : Table) : Int := if Agrees T then 0 else 20
theorem tErr_ok {T : Table} : tErr T = 0 ↔ Agrees T := by
  unfold tErr
  by_cases ha : Agrees T <;> simp [ha]

set_option maxHeartbeats 1000000 in
theorem truthOf_w {h : H} {T : Tab} {m : Nat} (hm : m ≤ h.next) (hT : T.Ok m h) (hv : T.Valid) :
    AW Try.prog 18 h.next h [.agg ⟨T.cells⟩] (fun v h' => ∃ t : Tru, v = .tuple #[.agg ⟨t.cells⟩, .int .i64 (tErr T.toTable)] ∧ if tErr T.toTable = 0 then TruthAt T (endK T.toTable false) (endS false) h.next t h' else t = Tru.zero) := by
  have hok := hv.ok
  refine fun18.call rfl (Nat.le_refl _) ?_
  unfold a18
  (focus ((try with_reducible apply wpC.to); (repeat' ((conv => whnf); first | ((apply Start.mk); (focus exact byNext); (focus exact byLen)) | ((apply New.mk); (focus exact byNid)) | ((apply Fork.mk) <;> (intro _; try (exfalso; omega; done))) | ((apply LoadN.mk); (focus exact byMem); (focus exact byList)) | ((apply Sto.mk); (focus exact bySto); (focus exact byLo); (focus exact byGet); (focus exact rfl); (focus exact rfl); (focus exact rfl); (focus exact byList)) | ((with_reducible apply Ix.pred); (focus first | assumption | exact fun _ => rfl); (focus omega); (focus omega)) | apply forceV_any | apply forceL_any)); all_goals (conv => whnf); all_goals (try with_reducible apply At.mk)))
  apply q_callv
  focus (exact byNext)
  focus (exact byLo)
  focus exact checkTable_w (m := m) (by (exact byOm)) (hT.same (by (exact bySame)) (Nat.le_refl _)) hv
  intro h1 q1 hn1
  (focus ((try with_reducible apply wpC.to); (repeat' ((conv => whnf); first | ((apply Start.mk); (focus exact byNext); (focus exact byLen)) | ((apply New.mk); (focus exact byNid)) | ((apply Fork.mk) <;> (intro _; try (exfalso; omega; done))) | ((apply LoadN.mk); (focus exact byMem); (focus exact byList)) | ((apply Sto.mk); (focus exact bySto); (focus exact byLo); (focus exact byGet); (focus exact rfl); (focus exact rfl); (focus exact rfl); (focus exact byList)) | ((with_reducible apply Ix.pred); (focus first | assumption | exact fun _ => rfl); (focus omega); (focus omega)) | apply forceV_any | apply forceL_any)); all_goals (conv => whnf); all_goals (try with_reducible apply At.mk)))
  apply q_call
  focus (exact byNext)
  focus (exact byLo)
  focus exact newNet_w (m := m) (by (exact byOm)) (hT.same (by (exact bySame)) (Nat.le_refl _)) hv
  rintro _ h3 ⟨r, e, rfl, hr1, hr2, hr3⟩ q3 hn3
  try simp only [put_next, bump_next] at hr1 hr2
  (focus ((try with_reducible apply wpC.to); (repeat' ((conv => whnf); first | ((apply Start.mk); (focus exact byNext); (focus exact byLen)) | ((apply New.mk); (focus exact byNid)) | ((apply Fork.mk) <;> (intro _; try (exfalso; omega; done))) | ((apply LoadN.mk); (focus exact byMem); (focus exact byList)) | ((apply Sto.mk); (focus exact bySto); (focus exact byLo); (focus exact byGet); (focus exact rfl); (focus exact rfl); (focus exact rfl); (focus exact byList)) | ((with_reducible apply Ix.pred); (focus first | assumption | exact fun _ => rfl); (focus omega); (focus omega)) | apply forceV_any | apply forceL_any)); all_goals (conv => whnf); all_goals (try with_reducible apply At.mk)))
  apply q_call
  focus (exact byNext)
  focus (exact byLo)
  focus exact heights_w (B := netOf T.toTable) (e := e) hv (by (exact byOm)) (lim_net hok) (by (exact byGet))
  rintro _ h4 ⟨hr, rfl, mr, e', l1, l2, l3, l4, l5, l6, l7⟩ q4 hn4
  try simp only [put_next, bump_next] at l1 l3
  by_cases ha : (AgreeS.found (netOf T.toTable) T.toTable.many 0).last < 0
  rotate_left
  · rw [decide_eq_false ha]
    have he : ¬ tErr T.toTable = 0 := fun he => ha ((agrees_iff hok).2 (tErr_ok.1 he))
    (focus ((try with_reducible apply wpC.to); (repeat' ((conv => whnf); first | ((apply Start.mk); (focus exact byNext); (focus exact byLen)) | ((apply New.mk); (focus exact byNid)) | ((apply Fork.mk) <;> (intro _; try (exfalso; omega; done))) | ((apply LoadN.mk); (focus exact byMem); (focus exact byList)) | ((apply Sto.mk); (focus exact bySto); (focus exact byLo); (focus exact byGet); (focus exact rfl); (focus exact rfl); (focus exact rfl); (focus exact byList)) | ((with_reducible apply Ix.pred); (focus first | assumption | exact fun _ => rfl); (focus omega); (focus omega)) | apply forceV_any | apply forceL_any)); all_goals (conv => whnf); all_goals (try with_reducible apply At.mk)))
    (first | (apply fin1; (focus first | exact .inl rfl | exact .inr rfl); focus exact byR1) | (apply fin2; (focus first | exact .inl rfl | exact .inr rfl); (focus exact byR1); (focus exact byR1)) | (apply fin3; (focus first | exact .inl rfl | exact .inr rfl); (focus exact byR1); (focus exact byR1); (focus exact byR1)) | (apply fin0; (focus first | exact .inl rfl | exact .inr rfl)))
    exact ⟨Tru.zero, by unfold tErr at he ⊢; rw [if_neg (fun ha => he (if_pos ha))]; rfl, by rw [if_neg he]⟩
  rw [decide_eq_true ha]
  have ha := (agrees_iff hok).1 ha
  have he : tErr T.toTable = 0 := tErr_ok.2 ha
  (focus ((try with_reducible apply wpC.to); (repeat' ((conv => whnf); first | ((apply Start.mk); (focus exact byNext); (focus exact byLen)) | ((apply New.mk); (focus exact byNid)) | ((apply Fork.mk) <;> (intro _; try (exfalso; omega; done))) | ((apply LoadN.mk); (focus exact byMem); (focus exact byList)) | ((apply Sto.mk); (focus exact bySto); (focus exact byLo); (focus exact byGet); (focus exact rfl); (focus exact rfl); (focus exact rfl); (focus exact byList)) | ((with_reducible apply Ix.pred); (focus first | assumption | exact fun _ => rfl); (focus omega); (focus omega)) | apply forceV_any | apply forceL_any)); all_goals (conv => whnf); all_goals (try with_reducible apply At.mk)))
  apply q_call
  focus (exact byNext)
  focus (exact byLo)
  focus exact truth_w (x := AgreeS.found (netOf T.toTable) T.toTable.many 0) (r := r) (B := netOf T.toTable) hv (low_small hok ha) (.inl rfl) (by (exact byOm)) (by (exact byOm)) (by (exact byGet)) (by (exact byGet))
  rintro _ h5 ⟨t, rfl, tk⟩ q5 hn5
  (focus ((try with_reducible apply wpC.to); (repeat' ((conv => whnf); first | ((apply Start.mk); (focus exact byNext); (focus exact byLen)) | ((apply New.mk); (focus exact byNid)) | ((apply Fork.mk) <;> (intro _; try (exfalso; omega; done))) | ((apply LoadN.mk); (focus exact byMem); (focus exact byList)) | ((apply Sto.mk); (focus exact bySto); (focus exact byLo); (focus exact byGet); (focus exact rfl); (focus exact rfl); (focus exact rfl); (focus exact byList)) | ((with_reducible apply Ix.pred); (focus first | assumption | exact fun _ => rfl); (focus omega); (focus omega)) | apply forceV_any | apply forceL_any)); all_goals (conv => whnf); all_goals (try with_reducible apply At.mk)))
  (first | (apply fin1; (focus first | exact .inl rfl | exact .inr rfl); focus exact byR1) | (apply fin2; (focus first | exact .inl rfl | exact .inr rfl); (focus exact byR1); (focus exact byR1)) | (apply fin3; (focus first | exact .inl rfl | exact .inr rfl); (focus exact byR1); (focus exact byR1); (focus exact byR1)) | (apply fin0; (focus first | exact .inl rfl | exact .inr rfl)))
  exact ⟨t, by rw [he]; rfl, by rw [if_pos he]; exact tk.frame (by (exact byOm)) (by (exact byOm)) fun j hj1 hj2 => get_of fun y hy => by simp only [put_next, bump_next] at hj1 hj2; (exact byGet)⟩

end AE.Try
