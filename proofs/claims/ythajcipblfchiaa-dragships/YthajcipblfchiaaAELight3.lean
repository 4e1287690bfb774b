/- Light operations, all of them: by what the loaded operation is. -/
import Derived.Test.YthajcipblfchiaaAELight2
set_option linter.unusedVariables false
set_option linter.unusedSimpArgs false
set_option linter.unusedSectionVars false
namespace AE
open Go

section
variable {P : Program} {I : Inj} {ts : Ts} {ρ : Operand → Value}

theorem keep_some {h h' : H} {o : Option Value} {v : Value} (e : keep h o = some (v, h')) : o = some v ∧ h' = h := by
  unfold keep at e
  simp only [Option.map_eq_some_iff, Prod.mk.injEq] at e
  obtain ⟨u, hu, rfl, rfl⟩ := e
  exact ⟨hu, rfl⟩

theorem cOpds_mem : ∀ (xs : List Operand) (ys : List Opd), cOpds xs = some ys → ∀ x ∈ xs, ∃ x', cOpd x = some x'
  | [], _, _, x, hx => by simp at hx
  | y :: xs, ys, h, x, hx => by
    simp only [cOpds, Option.bind_eq_some_iff, Option.map_eq_some_iff] at h
    obtain ⟨y', hy, zs, hz, rfl⟩ := h
    rcases List.mem_cons.1 hx with rfl | hx
    · exact ⟨y', hy⟩
    · exact cOpds_mem xs zs hz x hx

theorem call1 {c : Call} {b : Builtin} {x : Operand} {t : TypeId} (hb : c.callee = .builtin b) (hx : c.args.toList = [x]) (ht : c.argTypes.toList = [t]) : c = ⟨.builtin b, #[x], #[t]⟩ := by
  obtain ⟨ce, as, ty⟩ := c
  cases as; cases ty
  simp at hb hx ht
  subst hb; subst hx; subst ht; rfl
theorem call2 {c : Call} {b : Builtin} {x y : Operand} {t u : TypeId} (hb : c.callee = .builtin b) (hx : c.args.toList = [x, y]) (ht : c.argTypes.toList = [t, u]) : c = ⟨.builtin b, #[x, y], #[t, u]⟩ := by
  obtain ⟨ce, as, ty⟩ := c
  cases as; cases ty
  simp at hb hx ht
  subst hb; subst hx; subst ht; rfl

theorem light_bin (hρ : Ev I ts ρ) {o : Oper} {op : BinOp} {t t' : TypeId} {x y : Operand} {ao : AOp} {lo nid : Nat} {h h' : H} {v : Value} (ho : o.op = .binOp op t x y t') (hc : cBin P o op t x y = some ao)
    (ha : aop P lo nid ts h ao = some (v, h')) : h' = h ∧ Lite P I ρ o v := by
  unfold cBin at hc
  simp only [Option.bind_eq_some_iff] at hc
  obtain ⟨x', hx, y', hy, hc⟩ := hc
  have hpure : ∀ {h' : H} {v : Value}, aop P lo nid ts h (.pure o) = some (v, h') → h' = h ∧ Lite P I ρ o v := fun hp => by
    obtain ⟨hz9, rfl⟩ := keep_some hp
    exact ⟨rfl, lite_pure hρ (by simp [ho]) (opds_tmp (xs := [x, y]) (by simp [ho, Op.operands]) (by simp [hx, hy])) hz9⟩
  split at hc
  · split at hc
    · rename_i i hi
      simp at hc; subst hc
      obtain ⟨hz9, rfl⟩ := keep_some ha
      exact ⟨rfl, lite_int hρ ho hi hx hy hz9⟩
    · split at hc
      · simp at hc; subst hc
        obtain ⟨hz9, rfl⟩ := keep_some ha
        exact ⟨rfl, lite_idiv hρ ho rfl hx hy hz9⟩
      · simp at hc; subst hc
        obtain ⟨hz9, rfl⟩ := keep_some ha
        exact ⟨rfl, lite_idiv hρ ho rfl hx hy hz9⟩
      · simp at hc; subst hc
        exact hpure ha
  · rename_i e ht
    split at hc <;> simp at hc <;> subst hc
    · obtain ⟨hz9, rfl⟩ := keep_some ha
      exact ⟨rfl, lite_cmp hρ (sl := false) (ne := false) (by simpa using ho) (by simp [ht]) hx hy hz9⟩
    · obtain ⟨hz9, rfl⟩ := keep_some ha
      exact ⟨rfl, lite_cmp hρ (sl := false) (ne := true) (by simpa using ho) (by simp [ht]) hx hy hz9⟩
    · exact hpure ha
  · rename_i e ht
    split at hc <;> simp at hc <;> subst hc
    · obtain ⟨hz9, rfl⟩ := keep_some ha
      exact ⟨rfl, lite_cmp hρ (sl := true) (ne := false) (by simpa using ho) (by simp [ht]) hx hy hz9⟩
    · obtain ⟨hz9, rfl⟩ := keep_some ha
      exact ⟨rfl, lite_cmp hρ (sl := true) (ne := true) (by simpa using ho) (by simp [ht]) hx hy hz9⟩
    · exact hpure ha
  · simp at hc; subst hc
    exact hpure ha

theorem light_call (hρ : Ev I ts ρ) {o : Oper} {c : Call} {ao : AOp} {lo nid : Nat} {h h' : H} {v : Value} (ho : o.op = .call c) (hc : cCall P o c = some (.op ao)) (hl : ao.light = true) (hf : ao.fresh = false)
    (ha : aop P lo nid ts h ao = some (v, h')) : h' = h ∧ Lite P I ρ o v := by
  unfold cCall at hc
  split at hc
  · simp only [Option.bind_eq_some_iff, Option.map_eq_some_iff] at hc
    obtain ⟨_, _, _, _, hc⟩ := hc
    simp at hc
  · simp at hc
  · rename_i b hb
    split at hc
    · rename_i x t hx ht
      simp only [Option.bind_eq_some_iff] at hc
      obtain ⟨x', hx', hc⟩ := hc
      have hcc := call1 hb hx ht
      split at hc <;> simp at hc <;> subst hc <;> simp [AOp.light] at hl
      · obtain ⟨hz9, rfl⟩ := keep_some ha
        exact ⟨rfl, lite_len hρ (by rw [ho, hcc]) (by assumption) hx' hz9⟩
      · obtain ⟨hz9, rfl⟩ := keep_some ha
        exact ⟨rfl, lite_lenstr hρ (by rw [ho, hcc]) (by assumption) hx' hz9⟩
      · obtain ⟨hz9, rfl⟩ := keep_some ha
        exact ⟨rfl, lite_cap hρ (by rw [ho, hcc]) (by assumption) hx' hz9⟩
    · rename_i x y t u hx ht
      simp only [Option.bind_eq_some_iff] at hc
      obtain ⟨x', hx', y', hy', hc⟩ := hc
      have hcc := call2 hb hx ht
      have hpure : ∀ {h' : H} {v : Value}, aop P lo nid ts h (.pure o) = some (v, h') → h' = h ∧ Lite P I ρ o v := fun hp => by
        obtain ⟨hz9, rfl⟩ := keep_some hp
        exact ⟨rfl, lite_pure hρ (by simp [ho]) (opds_tmp (xs := [x, y]) (by simp [ho, hcc, Op.operands, Call.operands]) (by simp [hx', hy'])) hz9⟩
      split at hc
      · split at hc
        · simp at hc
        · simp only [Option.bind_eq_some_iff] at hc
          obtain ⟨ie, _, z, _, hc⟩ := hc
          split at hc <;> simp at hc
          subst hc; simp [AOp.light] at hl
        · simp at hc
      · simp only [Option.map_eq_some_iff] at hc
        obtain ⟨s, _, hc⟩ := hc
        simp at hc; subst hc; simp [AOp.light] at hl
      · simp at hc; subst hc; simp [AOp.light] at hl
      · simp at hc; subst hc
        obtain ⟨hz9, rfl⟩ := keep_some ha
        exact ⟨rfl, lite_mnmx hρ (m := false) (by simp; rfl) (by rw [ho, hcc]) hx' hy' hz9⟩
      · simp at hc; subst hc
        obtain ⟨hz9, rfl⟩ := keep_some ha
        exact ⟨rfl, lite_mnmx hρ (m := true) (by simp; rfl) (by rw [ho, hcc]) hx' hy' hz9⟩
      · simp at hc; subst hc; exact hpure ha
      · simp at hc; subst hc; exact hpure ha
      · simp at hc
    · split at hc
      all_goals first
        | (simp at hc; done)
        | (simp only [Option.map_eq_some_iff] at hc
           obtain ⟨ys, hys, hc⟩ := hc
           simp at hc; subst hc
           obtain ⟨hz9, rfl⟩ := keep_some ha
           exact ⟨rfl, lite_pure hρ (by simp [ho]) (opds_tmp (xs := c.args.toList) (by simp [ho, Op.operands, Call.operands, hb]) (cOpds_mem _ _ hys)) hz9⟩)

theorem aop_light (hρ : Ev I ts ρ) {o : Oper} {ao : AOp} {lo nid : Nat} {h h' : H} {v : Value} (hc : comp P o = some (.op ao)) (hl : ao.light = true) (hf : ao.fresh = false)
    (ha : aop P lo nid ts h ao = some (v, h')) : h' = h ∧ Lite P I ρ o v := by
  unfold comp at hc
  cases ho : o.op <;> rw [ho] at hc <;> simp only [Option.bind_eq_some_iff, Option.map_eq_some_iff, reduceCtorEq] at hc
  case move x =>
    obtain ⟨x', hx, hc⟩ := hc
    simp at hc; subst hc
    simp [aop] at ha
    obtain ⟨rfl, rfl⟩ := ha
    exact ⟨rfl, lite_mv hρ (.inl ho) hx⟩
  case assign x =>
    obtain ⟨x', hx, hc⟩ := hc
    simp at hc; subst hc
    simp [aop] at ha
    obtain ⟨rfl, rfl⟩ := ha
    exact ⟨rfl, lite_mv hρ (.inr ho) hx⟩
  case pick c a b =>
    obtain ⟨c', hc', a', ha', b', hb', hc⟩ := hc
    simp at hc; subst hc
    obtain ⟨hz9, rfl⟩ := keep_some ha
    exact ⟨rfl, lite_pick hρ ho hc' ha' hb' hz9⟩
  case alloc => obtain ⟨_, _, hc⟩ := hc; simp at hc; subst hc; simp [AOp.fresh] at hf
  case box => obtain ⟨_, _, hc⟩ := hc; simp at hc; subst hc; simp [AOp.fresh] at hf
  case build t parts =>
    obtain ⟨z, hz, hc⟩ := hc
    split at hc
    · rename_i fields ht
      split at hc
      · rename_i hall
        simp only [Option.map_eq_some_iff] at hc
        obtain ⟨ps, hps, hc⟩ := hc
        simp at hc; subst hc
        obtain ⟨hz9, rfl⟩ := keep_some ha
        simp only [Option.map_eq_some_iff] at hz9
        obtain ⟨l, hl', rfl⟩ := hz9
        exact ⟨rfl, lite_build hρ ho hz (.inl ⟨_, ht, hall, hps⟩) hl'⟩
      · simp at hc
    · rename_i n e ht
      simp only [Option.bind_eq_some_iff, Option.map_eq_some_iff] at hc
      obtain ⟨s, hs, ps, hps, hc⟩ := hc
      simp at hc; subst hc
      obtain ⟨hz9, rfl⟩ := keep_some ha
      simp only [Option.map_eq_some_iff] at hz9
      obtain ⟨l, hl', rfl⟩ := hz9
      exact ⟨rfl, lite_build hρ ho hz (.inr ⟨_, _, _, ht, hs, hps⟩) hl'⟩
    · simp at hc
  case buildSlice t len parts =>
    split at hc
    · simp only [Option.bind_eq_some_iff] at hc
      obtain ⟨_, _, _, _, hc⟩ := hc
      split at hc
      · simp only [Option.map_eq_some_iff] at hc
        obtain ⟨_, _, hc⟩ := hc
        simp at hc; subst hc; simp [AOp.fresh] at hf
      · simp at hc
    · simp at hc
  case load t a =>
    obtain ⟨a', _, hc⟩ := hc
    split at hc
    · simp only [Option.map_eq_some_iff] at hc
      obtain ⟨_, _, hc⟩ := hc
      simp at hc; subst hc; simp [AOp.light] at hl
    · simp at hc; subst hc; simp [AOp.light] at hl
    · simp at hc
  case store t a x => obtain ⟨_, _, _, _, _, _, hc⟩ := hc; simp at hc; subst hc; simp [AOp.light] at hl
  case nilCheck x =>
    obtain ⟨x', hx, hc⟩ := hc
    simp at hc; subst hc
    obtain ⟨hz9, rfl⟩ := keep_some ha
    exact ⟨rfl, lite_nilck hρ ho hx hz9⟩
  case binOp op t x y t' =>
    obtain ⟨ao', hb, hc⟩ := hc
    simp at hc; subst hc
    exact light_bin hρ ho hb ha
  case unOp op t x =>
    obtain ⟨x', hx, hc⟩ := hc
    split at hc <;> simp at hc <;> subst hc
    · obtain ⟨hz9, rfl⟩ := keep_some ha
      exact ⟨rfl, lite_not hρ ho hx hz9⟩
    · obtain ⟨hz9, rfl⟩ := keep_some ha
      exact ⟨rfl, lite_neg hρ ho hx hz9⟩
    · obtain ⟨hz9, rfl⟩ := keep_some ha
      exact ⟨rfl, lite_pure hρ (by simp [ho]) (opds_tmp (xs := [x]) (by simp [ho, Op.operands]) (by simp [hx])) hz9⟩
  case convert s d x =>
    obtain ⟨x', hx, hc⟩ := hc
    split at hc <;> simp at hc <;> subst hc
    · obtain ⟨hz9, rfl⟩ := keep_some ha
      exact ⟨rfl, lite_conv hρ ho (by assumption) (by assumption) hx hz9⟩
    · obtain ⟨hz9, rfl⟩ := keep_some ha
      exact ⟨rfl, lite_pure hρ (by simp [ho]) (opds_tmp (xs := [x]) (by simp [ho, Op.operands]) (by simp [hx])) hz9⟩
  case makeInterface t x =>
    split at hc
    · simp at hc
    · rename_i d hd ht
      simp only [Option.map_eq_some_iff] at hc
      obtain ⟨x', hx, hc⟩ := hc
      simp at hc; subst hc
      simp [aop] at ha
      obtain ⟨rfl, rfl⟩ := ha
      exact ⟨rfl, lite_mkif hρ ho ht (fun m e => hd m e) hx⟩
    · simp at hc
  case makeFunc fn fs cs =>
    split at hc
    · rename_i hfl
      simp only [Option.bind_eq_some_iff, Option.map_eq_some_iff] at hc
      obtain ⟨f', hf', c', hc', hc⟩ := hc
      simp at hc; subst hc
      simp [aop] at ha
      obtain ⟨rfl, rfl⟩ := ha
      exact ⟨rfl, lite_mkfn hρ ho hfl hf' hc'⟩
    · simp at hc
  case makeMap t r => cases r <;> simp at hc; subst hc; simp [AOp.fresh] at hf
  case makeSlice t l c =>
    split at hc
    · simp only [Option.bind_eq_some_iff] at hc
      obtain ⟨_, _, _, _, hc⟩ := hc
      split at hc
      · simp only [Option.bind_eq_some_iff, Option.map_eq_some_iff] at hc
        obtain ⟨_, _, _, _, hc⟩ := hc
        simp at hc; subst hc; simp [AOp.fresh] at hf
      · simp at hc
    · simp at hc
  case slice t x lo' hi mx =>
    obtain ⟨x', hx, lo'', hlo, hi', hhi, mx', hmx, hc⟩ := hc
    split at hc
    · simp at hc
    · rename_i hn
      have hmh : mx'.isSome → hi'.isSome := by cases mx' <;> cases hi' <;> simp_all
      split at hc
      · rename_i n e ht
        simp only [Option.map_eq_some_iff] at hc
        obtain ⟨s, hs, hc⟩ := hc
        simp at hc; subst hc
        obtain ⟨hz9, rfl⟩ := keep_some ha
        exact ⟨rfl, lite_slarr hρ ho ht hs hx hlo hhi hmx hmh hz9⟩
      · rename_i e ht
        simp only [Option.map_eq_some_iff] at hc
        obtain ⟨s, hs, hc⟩ := hc
        simp at hc; subst hc
        obtain ⟨hz9, rfl⟩ := keep_some ha
        exact ⟨rfl, lite_slsl hρ ho ht hs hx hlo hhi hmx hmh hz9⟩
      · simp at hc; subst hc
        obtain ⟨hz9, rfl⟩ := keep_some ha
        refine ⟨rfl, lite_pure hρ (by simp [ho]) ?_ hz9⟩
        intro y hy
        simp only [ho, Op.operands, Array.mem_append, Option.mem_toArray] at hy
        have hO : ∀ {o : Option Operand} {o' : Option Opd}, cOptO o = some o' → ∀ z, o = some z → ∃ z', cOpd z = some z' := by
          intro o o' h z hz
          subst hz
          simp only [cOptO, Option.map_eq_some_iff] at h
          obtain ⟨z', hz', -⟩ := h
          exact ⟨z', hz'⟩
        rcases hy with ((hy | hy) | hy) | hy
        · simp at hy; subst hy; exact ⟨x', hx⟩
        · exact hO hlo y hy
        · exact hO hhi y hy
        · exact hO hmx y hy
      · simp at hc
  case fieldAddr s x f =>
    split at hc
    · rename_i fields hs
      simp only [Option.bind_eq_some_iff] at hc
      obtain ⟨fd, hfd, n, hn, hc⟩ := hc
      split at hc
      · simp at hc
      · rename_i hn0
        simp only [Option.map_eq_some_iff] at hc
        obtain ⟨x', hx, hc⟩ := hc
        simp at hc; subst hc
        obtain ⟨hz9, rfl⟩ := keep_some ha
        exact ⟨rfl, lite_faddr hρ ho hs hfd hn hn0 hx hz9⟩
    · simp at hc
  case field t x f =>
    split at hc
    · rename_i fields hs
      simp only [Option.bind_eq_some_iff] at hc
      obtain ⟨fd, hfd, x', hx, hc⟩ := hc
      split at hc
      · rename_i hag
        simp only [Option.map_eq_some_iff] at hc
        obtain ⟨n, hn, hc⟩ := hc
        simp at hc; subst hc
        obtain ⟨hz9, rfl⟩ := keep_some ha
        exact ⟨rfl, lite_fieldn hρ ho hs hfd hag hn hx hz9⟩
      · rename_i hag
        simp at hc; subst hc
        obtain ⟨hz9, rfl⟩ := keep_some ha
        exact ⟨rfl, lite_field1 hρ ho hs hfd hag hx hz9⟩
      · simp at hc
    · simp at hc
  case indexAddr t x i =>
    obtain ⟨x', hx, i', hi, hc⟩ := hc
    split at hc
    · rename_i n e ht
      simp only [Option.map_eq_some_iff] at hc
      obtain ⟨s, hs, hc⟩ := hc
      simp at hc; subst hc
      obtain ⟨hz9, rfl⟩ := keep_some ha
      exact ⟨rfl, lite_ixarr hρ ho ht hs hx hi hz9⟩
    · rename_i e ht
      simp only [Option.map_eq_some_iff] at hc
      obtain ⟨s, hs, hc⟩ := hc
      simp at hc; subst hc
      obtain ⟨hz9, rfl⟩ := keep_some ha
      exact ⟨rfl, lite_ixsl hρ ho ht hs hx hi hz9⟩
    · simp at hc
  case index t x i =>
    obtain ⟨x', hx, i', hi, hc⟩ := hc
    split at hc
    · rename_i n e ht
      split at hc
      · rename_i hag
        simp only [Option.map_eq_some_iff] at hc
        obtain ⟨s, hs, hc⟩ := hc
        simp at hc; subst hc
        obtain ⟨hz9, rfl⟩ := keep_some ha
        exact ⟨rfl, lite_ixvn hρ ho ht hs hag hx hi hz9⟩
      · rename_i hag
        split at hc <;> simp at hc
        rename_i hs
        subst hc
        obtain ⟨hz9, rfl⟩ := keep_some ha
        exact ⟨rfl, lite_ixv1 hρ ho ht hs hag hx hi hz9⟩
      · simp at hc
    · simp at hc; subst hc
      obtain ⟨hz9, rfl⟩ := keep_some ha
      exact ⟨rfl, lite_pure hρ (by simp [ho]) (opds_tmp (xs := [x, i]) (by simp [ho, Op.operands]) (by simp [hx, hi])) hz9⟩
    · simp at hc
  case extract x i =>
    obtain ⟨x', hx, hc⟩ := hc
    simp at hc; subst hc
    obtain ⟨hz9, rfl⟩ := keep_some ha
    exact ⟨rfl, lite_extract hρ ho hx hz9⟩
  case typeAssert x xt t ok =>
    split at hc
    · simp at hc
    · rename_i d hd ht
      simp only [Option.bind_eq_some_iff, Option.map_eq_some_iff] at hc
      obtain ⟨z, hz, x', hx, hc⟩ := hc
      simp at hc; subst hc
      obtain ⟨hz9, rfl⟩ := keep_some ha
      exact ⟨rfl, lite_tass hρ ho ht (fun m e => hd m e) hz hx hz9⟩
    · simp at hc
  case lookup t m k ok =>
    split at hc
    · simp only [Option.bind_eq_some_iff, Option.map_eq_some_iff] at hc
      obtain ⟨_, _, _, _, _, _, hc⟩ := hc
      simp at hc; subst hc; simp [AOp.light] at hl
    · simp at hc
  case mapUpdate t m k v' =>
    split at hc
    · simp only [Option.bind_eq_some_iff, Option.map_eq_some_iff] at hc
      obtain ⟨_, _, _, _, _, _, hc⟩ := hc
      simp at hc; subst hc; simp [AOp.light] at hl
    · simp at hc
  case insert t m k v' =>
    split at hc
    · simp only [Option.bind_eq_some_iff, Option.map_eq_some_iff] at hc
      obtain ⟨_, _, _, _, _, _, hc⟩ := hc
      simp at hc; subst hc; simp [AOp.light] at hl
    · simp at hc
  case call c => exact light_call hρ ho hc hl hf ha

end
end AE
