/- Operations that touch nothing of the heap: comparisons with nil, slices, lengths. -/
import Derived.Test.YthajcipblfchiaaAELight
set_option linter.unusedVariables false
set_option linter.unusedSimpArgs false
set_option linter.unusedSectionVars false
namespace AE
open Go

section
variable {P : Program} {I : Inj} {ts : Ts} {ρ : Operand → Value}

theorem opds_tmp {o : Oper} {xs : List Operand} (ho : o.op.operands.toList = xs) (h : ∀ x ∈ xs, ∃ x', cOpd x = some x') : ∀ x ∈ o.op.operands, ∃ x', cOpd x = some x' := fun x hx => h x (by rw [← ho]; simpa using hx)

theorem run_equalIn_ptr (d : Nat) {t e : TypeId} (ht : P.underlying t = some (.pointer e)) (a b : Option Addr) (h : a.isNone = true ∨ b.isNone = true) (w : World) :
    (Op.equalIn (d + 1) t (.pointer a) (.pointer b)).run P w = .ok (a.isNone && b.isNone) w := by
  unfold Op.equalIn
  simp only [Sem.run_bind, run_underlying ht, Result.andThen_ok]
  cases a with
  | none => simp
  | some a => cases b with
    | none => simp
    | some b => simp at h
theorem run_equalIn_sl (d : Nat) {t e : TypeId} (ht : P.underlying t = some (.slice e)) (a b : Option Addr) (n1 c1 n2 c2 : Nat) (h : a.isNone = true ∨ b.isNone = true) (w : World) :
    (Op.equalIn (d + 1) t (.slice a n1 c1) (.slice b n2 c2)).run P w = .ok (a.isNone && b.isNone) w := by
  unfold Op.equalIn
  simp only [Sem.run_bind, run_underlying ht, Result.andThen_ok]
  cases a with
  | none => simp
  | some a => cases b with
    | none => simp
    | some b => simp at h
theorem run_equal_ptr {t e : TypeId} (ht : P.underlying t = some (.pointer e)) (a b : Option Addr) (h : a.isNone = true ∨ b.isNone = true) (w : World) :
    (Op.equal t (.pointer a) (.pointer b)).run P w = .ok (a.isNone && b.isNone) w := run_equalIn_ptr 9999 ht a b h w
theorem run_equal_sl {t e : TypeId} (ht : P.underlying t = some (.slice e)) (a b : Option Addr) (n1 c1 n2 c2 : Nat) (h : a.isNone = true ∨ b.isNone = true) (w : World) :
    (Op.equal t (.slice a n1 c1) (.slice b n2 c2)).run P w = .ok (a.isNone && b.isNone) w := run_equalIn_sl 9999 ht a b n1 c1 n2 c2 h w

theorem ptr_ev {x : Value} {a : Option Addr} (e : x = ren I (.pointer a)) (i : In I (.pointer a)) : ∃ a', x = .pointer a' ∧ a'.isNone = a.isNone := by
  cases a with
  | none => simp only [ren] at e; exact ⟨_, e, rfl⟩
  | some a =>
    simp only [ren, In] at e i
    obtain ⟨d, hd⟩ := renA_some i
    exact ⟨_, e, by simp [hd]⟩
theorem slice_ev {x : Value} {a : Option Addr} {n c : Nat} (e : x = ren I (.slice a n c)) (i : In I (.slice a n c)) : ∃ a' c', x = .slice a' n c' ∧ a'.isNone = a.isNone := by
  cases a with
  | none => simp only [ren] at e; exact ⟨_, _, e, rfl⟩
  | some a =>
    simp only [ren, In] at e i
    obtain ⟨d, hd⟩ := renA_some i.1
    exact ⟨_, _, e, by simp [hd]⟩

theorem lite_cmp (hρ : Ev I ts ρ) {o : Oper} {sl ne : Bool} {t t' : TypeId} {x y : Operand} {x' y' : Opd} {v : Value} (ho : o.op = .binOp (if ne then .neq else .eql) t x y t')
    (ht : if sl then ∃ e, P.underlying t = some (.slice e) else ∃ e, P.underlying t = some (.pointer e)) (hx : cOpd x = some x') (hy : cOpd y = some y') (h : xCmp P sl ne ts x' y' o = some v) : Lite P I ρ o v := by
  have hpure : xPure P ts o = some v → Lite P I ρ o v := fun hp => lite_pure hρ (by simp [ho]) (opds_tmp (xs := [x, y]) (by simp [ho, Op.operands]) (by simp [hx, hy])) hp
  obtain ⟨e1, i1⟩ := hρ x x' hx
  obtain ⟨e2, i2⟩ := hρ y y' hy
  unfold xCmp at h
  split at h
  · rename_i b hb
    simp at h; subst h
    refine ⟨by simp [In], fun w => ?_⟩
    unfold cmpNil at hb
    split at hb
    · rename_i a c hvx hvy
      rw [hvx] at e1 i1
      rw [hvy] at e2 i2
      split at hb
      · rename_i hc
        obtain ⟨rfl, hc⟩ := hc
        simp only [Bool.false_eq_true, if_false] at ht
        obtain ⟨e, ht⟩ := ht
        simp at hb; subst hb
        obtain ⟨a', e1, n1⟩ := ptr_ev e1 i1
        obtain ⟨c', e2, n2⟩ := ptr_ev e2 i2
        have hq := run_equal_ptr (P := P) ht a' c' (by rw [n1, n2]; exact hc) w
        rw [n1, n2] at hq
        cases ne <;> simp [execOp, ho, e1, e2, eqGuard, binOp, hq, ren]
      · simp at hb
    · rename_i a k1 c1 c k2 c2 hvx hvy
      rw [hvx] at e1 i1
      rw [hvy] at e2 i2
      split at hb
      · rename_i hc
        obtain ⟨rfl, hc⟩ := hc
        simp only [if_true] at ht
        obtain ⟨e, ht⟩ := ht
        simp at hb; subst hb
        obtain ⟨a', c1', e1, n1⟩ := slice_ev e1 i1
        obtain ⟨c', c2', e2, n2⟩ := slice_ev e2 i2
        have hq := run_equal_sl (P := P) ht a' c' k1 c1' k2 c2' (by rw [n1, n2]; exact hc) w
        rw [n1, n2] at hq
        cases ne <;> simp [execOp, ho, e1, e2, eqGuard, binOp, hq, ren]
      · simp at hb
    · simp at hb
  · exact hpure h

theorem lite_len (hρ : Ev I ts ρ) {o : Oper} {t e : TypeId} {x : Operand} {x' : Opd} {v : Value} (ho : o.op = .call ⟨.builtin .len, #[x], #[t]⟩)
    (ht : P.underlying t = some (.slice e)) (hx : cOpd x = some x') (h : xLen (ev ts x') = some v) : Lite P I ρ o v := by
  obtain ⟨e1, i⟩ := hρ x x' hx
  unfold xLen at h
  split at h
  · rename_i a n c ha
    simp at h; subst h
    refine ⟨by simp [In], fun w => ?_⟩
    rw [ha] at e1
    obtain ⟨a', c', e', -⟩ := slice_ev e1 (by rw [ha] at i; exact i)
    simp [execOp, ho, resolve, invoke, builtin, Builtin.len_, e', run_underlying ht, goInt, ren]
  · simp at h
theorem lite_lenstr (hρ : Ev I ts ρ) {o : Oper} {t : TypeId} {x : Operand} {x' : Opd} {v : Value} (ho : o.op = .call ⟨.builtin .len, #[x], #[t]⟩)
    (ht : P.underlying t = some .string) (hx : cOpd x = some x') (h : xLenstr (ev ts x') = some v) : Lite P I ρ o v := by
  obtain ⟨e, i⟩ := hρ x x' hx
  unfold xLenstr at h
  split at h
  · rename_i s hs
    rw [hs] at e
    simp only [ren] at e
    simp at h; subst h
    refine ⟨by simp [In], fun w => ?_⟩
    simp [execOp, ho, resolve, invoke, builtin, Builtin.len_, e, run_underlying ht, goInt, ren]
  · simp at h
theorem lite_cap (hρ : Ev I ts ρ) {o : Oper} {t e : TypeId} {x : Operand} {x' : Opd} {v : Value} (ho : o.op = .call ⟨.builtin .cap, #[x], #[t]⟩)
    (ht : P.underlying t = some (.slice e)) (hx : cOpd x = some x') (h : xCap (ev ts x') = some v) : Lite P I ρ o v := by
  obtain ⟨e1, i⟩ := hρ x x' hx
  unfold xCap at h
  split at h
  · rename_i n c ha
    simp at h; subst h
    rw [ha] at e1
    simp only [ren] at e1
    refine ⟨by simp [In], fun w => ?_⟩
    simp [execOp, ho, resolve, invoke, builtin, Builtin.cap_, e1, run_underlying ht, goInt, ren]
  · rename_i a n c ha
    rw [ha] at e1
    simp only [ren, renCap] at e1
    split at h
    · rename_i hs
      simp at h; subst h
      rw [hs] at e1
      refine ⟨by simp [In], fun w => ?_⟩
      simp [execOp, ho, resolve, invoke, builtin, Builtin.cap_, e1, run_underlying ht, goInt, ren]
    · rename_i g hs
      split at h <;> simp at h
      rename_i hc
      subst h
      rw [hs] at e1
      simp only [hc, if_true] at e1
      refine ⟨by simp [In], fun w => ?_⟩
      simp [execOp, ho, resolve, invoke, builtin, Builtin.cap_, e1, run_underlying ht, goInt, ren]
  · simp at h

/-! slices -/

theorem optNat_ren {d : Nat} {o : Option Value} {i : Nat} (h : optNat d o = some i) : (o = none ∧ i = d) ∨ ∃ v k, o = some v ∧ ren I v = .int k (i : Int) := by
  cases o with
  | none => simp [optNat] at h; exact .inl ⟨rfl, h.symm⟩
  | some v =>
    obtain ⟨k, hk⟩ := natOf_ren (I := I) (by simpa [optNat] using h)
    exact .inr ⟨v, k, rfl, hk⟩

/-- The three bounds, where they fit. -/
theorem run_bounds_ok {b : Bool} {len cap l hi m : Nat} {lo ho mo : Option Value} (hl : optNat 0 lo = some l) (hh : optNat len ho = some hi) (hm : optNat cap mo = some m) (hmh : mo.isSome → ho.isSome) (h1 : m ≤ cap) (h2 : hi ≤ m) (h3 : l ≤ hi) (w : World) :
    (Instr.sliceBounds b len cap (lo.map (ren I)) (ho.map (ren I)) (mo.map (ren I))).run P w = .ok (l, hi, m) w := by
  rcases optNat_ren (I := I) hm with ⟨rfl, rfl⟩ | ⟨vm, km, rfl, em⟩
  · rcases optNat_ren (I := I) hh with ⟨rfl, rfl⟩ | ⟨vh, kh, rfl, eh⟩ <;> rcases optNat_ren (I := I) hl with ⟨rfl, rfl⟩ | ⟨vl, kl, rfl, el⟩ <;>
      simp [Instr.sliceBounds, Instr.sliceBound, asIntOf, *] <;> (try split) <;> simp_all <;> omega
  · rcases optNat_ren (I := I) hh with ⟨rfl, rfl⟩ | ⟨vh, kh, rfl, eh⟩
    · simp at hmh
    · rcases optNat_ren (I := I) hl with ⟨rfl, rfl⟩ | ⟨vl, kl, rfl, el⟩ <;>
        simp [Instr.sliceBounds, Instr.sliceBound, asIntOf, *] <;> (try split) <;> simp_all <;> omega


theorem slAddr_ren {a b : Addr} (ha : InA I a) (hb : renA I a = some b) (l m sz : Nat) :
    InA I (slAddr a l m sz) ∧ renA I (slAddr a l m sz) = some (if m = l then b else b.add (l * sz)) := by
  unfold slAddr
  split
  · exact ⟨ha, hb⟩
  · obtain ⟨i, e⟩ := renA_aadd ha (l * sz)
    exact ⟨i, by rw [e, hb]; rfl⟩

theorem evO_ren (hρ : Ev I ts ρ) {o : Option Operand} {o' : Option Opd} (h : cOptO o = some o') : o.map ρ = (evO ts o').map (ren I) := by
  cases o with
  | none => simp [cOptO] at h; subst h; rfl
  | some x =>
    simp only [cOptO, Option.map_eq_some_iff] at h
    obtain ⟨x', hx, rfl⟩ := h
    simp [evO, (hρ x x' hx).1]
theorem evO_some {_o : Option Operand} {o' : Option Opd} : (evO ts o').isSome = o'.isSome := by cases o' <;> simp [evO]

theorem lite_slarr (hρ : Ev I ts ρ) {o : Oper} {t e : TypeId} {n sz : Nat} {x : Operand} {lo hi mx : Option Operand} {x' : Opd} {lo' hi' mx' : Option Opd} {v : Value} (ho : o.op = .slice t x lo hi mx) (ht : P.underlying t = some (.array n e))
    (hsz : sizeT P e = some sz) (hx : cOpd x = some x') (hlo : cOptO lo = some lo') (hhi : cOptO hi = some hi') (hmx : cOptO mx = some mx') (hmh : mx'.isSome → hi'.isSome)
    (h : slarr n sz (evO ts lo') (evO ts hi') (evO ts mx') (ev ts x') = some v) : Lite P I ρ o v := by
  obtain ⟨e1, i1⟩ := hρ x x' hx
  unfold slarr at h
  split at h
  · rename_i a ha
    rw [ha] at e1 i1
    simp only [ren, In] at e1 i1
    unfold slKnown at h
    split at h
    · rename_i l hi m hl hh hm
      split at h <;> simp at h
      rename_i hc
      subst h
      obtain ⟨b, hb⟩ := renA_some i1
      rw [hb] at e1
      obtain ⟨ia, ea⟩ := slAddr_ren i1 hb l m sz
      refine ⟨?_, fun w => ?_⟩
      · simp only [In]
        refine ⟨ia, ?_⟩
        have hs : (slAddr a l m sz).spot = a.spot := by unfold slAddr; split <;> rfl
        unfold InCap encAt
        rw [hs]
        cases a.spot with
        | none => simp [enc1]; omega
        | some g => simp [enc2, Nat.add_mod]; omega
      · have hb3 := run_bounds_ok (P := P) (I := I) (b := false) hl hh hm (by rw [evO_some (_o := mx), evO_some (_o := mx)]; exact hmh) hc.1 hc.2.1 hc.2.2 w
        have hs : (slAddr a l m sz).spot = a.spot := by unfold slAddr; split <;> rfl
        have hcap : renCap I (slAddr a l m sz) (encAt a.spot (m - l)) = m - l := by
          unfold renCap encAt
          rw [hs]
          cases a.spot with
          | none => simp [enc1]
          | some g => simp [enc2, Nat.add_mod]; omega
        simp only [execOp, ho, e1, Instr.sliceAt, Sem.run_bind, run_underlying ht, Result.andThen_ok, Instr.sureAddr, Sem.run_pure, evO_ren hρ hlo, evO_ren hρ hhi, evO_ren hρ hmx, hb3, run_sizeT hsz, ren, ea, hcap]
    · simp at h
  · simp at h

theorem lite_slsl (hρ : Ev I ts ρ) {o : Oper} {t e : TypeId} {sz : Nat} {x : Operand} {lo hi mx : Option Operand} {x' : Opd} {lo' hi' mx' : Option Opd} {v : Value} (ho : o.op = .slice t x lo hi mx) (ht : P.underlying t = some (.slice e))
    (hsz : sizeT P e = some sz) (hx : cOpd x = some x') (hlo : cOptO lo = some lo') (hhi : cOptO hi = some hi') (hmx : cOptO mx = some mx') (hmh : mx'.isSome → hi'.isSome)
    (h : slsl sz (evO ts lo') (evO ts hi') (evO ts mx') (ev ts x') = some v) : Lite P I ρ o v := by
  obtain ⟨e1, i1⟩ := hρ x x' hx
  have hmh' : (evO ts mx').isSome → (evO ts hi').isSome := by rw [evO_some (_o := mx), evO_some (_o := mx)]; exact hmh
  unfold slsl at h
  split at h
  · rename_i a len cap ha
    rw [ha] at e1 i1
    simp only [ren, In] at e1 i1
    obtain ⟨b, hb⟩ := renA_some i1.1
    rw [hb] at e1
    -- whatever the capacity c: bounds that fit give the slice
    have main : ∀ (l hi m c : Nat) (cap' : Nat), renCap I a cap = c → optNat 0 (evO ts lo') = some l → optNat len (evO ts hi') = some hi → optNat c (evO ts mx') = some m → m ≤ c → hi ≤ m → l ≤ hi →
        InCap I (slAddr a l m sz) (hi - l) cap' → renCap I (slAddr a l m sz) cap' = m - l → Lite P I ρ o (.slice (some (slAddr a l m sz)) (hi - l) cap') := by
      intro l hi m c cap' hcap hl hh hm h1 h2 h3 hin hrc
      obtain ⟨ia, ea⟩ := slAddr_ren i1.1 hb l m sz
      refine ⟨by simp only [In]; exact ⟨ia, hin⟩, fun w => ?_⟩
      have hb3 := run_bounds_ok (P := P) (I := I) (b := true) hl hh hm hmh' h1 h2 h3 w
      simp only [execOp, ho, e1, Instr.sliceAt, Instr.slice, Sem.run_bind, run_underlying ht, Result.andThen_ok, Sem.run_pure, evO_ren hρ hlo, evO_ren hρ hhi, evO_ren hρ hmx, hcap, hb3, run_sizeT hsz, ren, ea, hrc, Option.map_some]
      split <;> rfl
    have hspot : ∀ l m, (slAddr a l m sz).spot = a.spot := fun l m => by unfold slAddr; split <;> rfl
    have hblk : ∀ l m, (slAddr a l m sz).block = a.block := fun l m => by unfold slAddr; split <;> rfl
    split at h
    · rename_i hs
      unfold slKnown at h
      split at h
      · rename_i l hi m hl hh hm
        split at h <;> simp at h
        rename_i hc
        subst h
        refine main l hi m cap _ (by unfold renCap; rw [hs]) hl hh hm hc.1 hc.2.1 hc.2.2 ?_ ?_
        · unfold InCap; rw [hspot, hs]; simp [enc1]; omega
        · unfold renCap; rw [hspot, hs]; simp [enc1]
      · simp at h
    · rename_i g hs
      unfold slGrow at h
      have hin := i1.2
      unfold InCap at hin
      rw [hs] at hin
      split at h
      · rename_i hodd
        unfold slKnown at h
        split at h
        · rename_i l hi m hl hh hm
          split at h <;> simp at h
          rename_i hc
          subst h
          refine main l hi m (cap / 2) _ (by unfold renCap; rw [hs]; simp [hodd]) hl hh hm hc.1 hc.2.1 hc.2.2 ?_ ?_
          · unfold InCap; rw [hspot, hs]; simp [enc2, Nat.add_mod]; omega
          · unfold renCap; rw [hspot, hs]; simp [enc2, Nat.add_mod]; omega
        · simp at h
      · rename_i heven
        simp only [heven, if_false] at hin
        have hcap : renCap I a cap = I.cap a.block g - cap / 2 := by unfold renCap; rw [hs]; simp [heven]
        split at h
        · rename_i hmn
          unfold slOpen at h
          split at h
          · rename_i l hi hl hh
            split at h <;> simp at h
            rename_i hc
            subst h
            have hm : optNat (I.cap a.block g - cap / 2) (evO ts mx') = some (I.cap a.block g - cap / 2) := by rw [hmn]; rfl
            by_cases hlm : I.cap a.block g - cap / 2 = l
            · have hl0 : l = 0 := by omega
              subst hl0
              have := main 0 hi 0 (I.cap a.block g - cap / 2) (cap + 2 * 0) hcap hl hh (by rw [hm, hlm]) (by omega) (by omega) (by omega)
              simp only [slAddr, if_true] at this
              have e0 : aadd a (0 * sz) = a := by cases a; simp [aadd]
              rw [e0]
              refine this ?_ ?_
              · unfold InCap; rw [hs]; simp [heven]; omega
              · unfold renCap; rw [hs]; simp [heven]; omega
            · have := main l hi (I.cap a.block g - cap / 2) (I.cap a.block g - cap / 2) (cap + 2 * l) hcap hl hh hm (by omega) (by omega) (by omega)
              simp only [slAddr, if_neg hlm] at this
              refine this ?_ ?_
              · unfold InCap; simp only [aadd, hs]; rw [if_neg (by omega)]; omega
              · unfold renCap; simp only [aadd, hs]; rw [if_neg (by omega)]; omega
          · simp at h
        · rename_i mv hmv
          unfold slKnown at h
          split at h
          · rename_i l hi m hl hh hm
            split at h <;> simp at h
            rename_i hc
            subst h
            refine main l hi m _ _ hcap hl hh (by rw [hmv]; exact hm) (by omega) hc.2.1 hc.2.2 ?_ ?_
            · unfold InCap; rw [hspot, hs]; simp [enc2, Nat.add_mod]; omega
            · unfold renCap; rw [hspot, hs]; simp [enc2, Nat.add_mod]; omega
          · simp at h
  · rename_i ha
    rw [ha] at e1 i1
    simp only [ren] at e1
    unfold slNil at h
    split at h
    · rename_i l hi m hl hh hm
      split at h <;> simp at h
      rename_i hc
      obtain ⟨rfl, rfl, rfl⟩ := hc
      subst h
      refine ⟨by simp [In], fun w => ?_⟩
      have hb3 := run_bounds_ok (P := P) (I := I) (b := true) hl hh hm hmh' (by omega) (by omega) (by omega) w
      simp [execOp, ho, e1, Instr.sliceAt, Instr.slice, run_underlying ht, evO_ren hρ hlo, evO_ren hρ hhi, evO_ren hρ hmx, hb3, run_sizeT hsz, ren]
    · simp at h
  · simp at h

end
end AE
