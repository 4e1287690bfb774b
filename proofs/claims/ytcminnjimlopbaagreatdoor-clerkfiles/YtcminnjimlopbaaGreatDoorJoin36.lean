/- Walks and plain laws: ClkMi, ClkMj. -/
import Derived.Test.YtcminnjimlopbaaGreatDoorJoin28
import Derived.Test.YtcminnjimlopbaaGreatDoorAEthree
set_option linter.unusedVariables false
set_option linter.unusedSimpArgs false
set_option linter.unusedSectionVars false

/- Clerk: what holds of how all stands, line by line. -/
namespace AE.Tryz
open Go AE Go.Proofs AE.Clerk
set_option maxRecDepth 100000
set_option linter.unusedVariables false

theorem St.Ok.set {t : Nat} {s : St} (ok : s.Ok t) {i : Nat} {m m' : Mdl} (hm : s.ms[i]? = some m) (hno : m'.no = m.no) (hok : m'.Ok ((t + 1 : Nat) : Int)) {st lo : Int} {rs : List Rn} (h1 : 0 ≤ st ∧ st ≤ 1000000 * ((t + 1 : Nat) : Int)) (h2 : 0 ≤ lo ∧ lo ≤ 1000001 * ((t + 1 : Nat) : Int))
 (h3 : ∀ r ∈ rs, r.at_ < t + 1 ∧ 0 ≤ r.cost ∧ r.cost ≤ 1000000 ∧ 1 ≤ r.no ∧ r.no ≤ 1099511627776) (h4 : (rs.map Rn.at_).Nodup) (h5 : rs.length ≤ t + 1) : St.Ok (t + 1) ⟨st, lo, s.ms.set i m', rs⟩ := by
 refine ⟨h1, h2, fun y hy => ?_, h3, ?_, h4, ?_, h5⟩
 ·rcases List.mem_or_eq_of_mem_set hy with hy | rfl
  ·exact (ok.ms y hy).mono byO
  ·exact hok
 ·dsimp only
  rw [map_set_no hm hno]; exact ok.mn
 ·dsimp only
  rw [List.length_set]; have := ok.ml; omega
theorem step_ok {t : Nat} {s : St} {x : Ln} (ok : s.Ok t) (ht : t ≤ 60) (hv : x.Valid 1099511627776) : (Clerk.step x t s).1.Ok (t + 1) := by
 have hd := valid_dis hv
 have hkd := kind_bd hv
 have o1 := ok.stock
 have o2 := ok.lost
 have o3 := ok.ml
 have o4 := ok.rl
 have mono := ok.mono (show t ≤ t + 1 by omega)
 unfold Clerk.step
 by_cases hk0 : x.k = 0
 ·rw [if_pos hk0]
  have := hd.1 hk0
  exact ⟨by dsimp only; omega, mono.lost, mono.ms, mono.rs, mono.mn, mono.rn, mono.ml, mono.rl⟩
 rw [if_neg hk0]
 have hxm := hd.2.1 hk0
 cases hf : s.find x.m with
 | none =>
   dsimp only
   by_cases hk1 : x.k = 1
   ·rw [if_pos hk1]
    have hb := hd.2.2.1 hk1
    have hmul : 0 ≤ x.a * x.b ∧ x.a * x.b ≤ 1000000000 := by
     have e1 := Int.mul_le_mul hb.2.1 hb.2.2.2 hb.2.2.1 byO
     have e2 := Int.mul_nonneg (show 0 ≤ x.a by omega) hb.2.2.1
     omega
    refine ⟨mono.stock, mono.lost, fun y hy => ?_, mono.rs, ?_, mono.rn, ?_, mono.rl⟩
    ·rcases List.mem_append.1 hy with hy | hy
     ·exact mono.ms y hy
     ·rw [List.mem_singleton] at hy
      subst hy
      unfold drawn
      exact ⟨by dsimp only; omega, by dsimp only; omega, by dsimp only; omega, by dsimp only; omega, by dsimp only; omega, by dsimp only; omega, by dsimp only; omega, by dsimp only; omega, by dsimp only; omega⟩
    ·dsimp only
     rw [List.map_append, List.nodup_append]
     refine ⟨ok.mn, by simp, fun a ha b hb => ?_⟩
     simp [drawn] at hb
     subst hb
     rintro rfl
     obtain ⟨m, hm, e⟩ := List.mem_map.1 ha
     have := List.findIdx?_eq_none_iff.1 hf m hm
     simp [e] at this
    ·dsimp only
     rw [List.length_append]; simp; omega
   ·rw [if_neg hk1]; exact mono
 | some i =>
   obtain ⟨m, hm, hno⟩ := find_some hf
   dsimp only
   rw [hm]
   dsimp only
   by_cases hk1 : x.k = 1
   ·rw [if_pos hk1]; exact mono
   rw [if_neg hk1]
   have mo := ok.ms m (List.mem_of_getElem? hm)
   obtain ⟨w1, w2, w3, w4, w5, w6, w7, w8, w9⟩ := mo
   unfold act
   by_cases hk2 : x.k = 2
   ·rw [if_pos hk2]
    split
    ·exact mono
    split
    ·exact mono
    ·dsimp only
     exact St.Ok.set ok hm (by rfl) (by exact ⟨w1, w2, by dsimp only; omega, by dsimp only; omega, by dsimp only; omega, by dsimp only; omega, by dsimp only; omega, by dsimp only; omega, w9⟩) byO byO mono.rs mono.rn mono.rl
   rw [if_neg hk2]
   by_cases hk3 : x.k = 3
   ·rw [if_pos hk3]
    split
    ·exact mono
    ·dsimp only
     refine St.Ok.set ok hm (by rfl) (by exact ⟨w1, w2, w3, by dsimp only; omega, by dsimp only; omega, by dsimp only; omega, by dsimp only; omega, by dsimp only; omega, w9⟩) byO byO (fun r hr => ?_) ?_ (by rw [List.length_append]; simp; omega)
     ·rcases List.mem_append.1 hr with hr | hr
      ·exact mono.rs r hr
      ·rw [List.mem_singleton] at hr
       subst hr
       dsimp only
       omega
     ·rw [List.map_append, List.nodup_append]
      refine ⟨ok.rn, by simp, fun a ha b hb => ?_⟩
      simp at hb
      subst hb
      rintro rfl
      obtain ⟨r, hr, e⟩ := List.mem_map.1 ha
      have := (ok.rs r hr).1
      omega
   rw [if_neg hk3]
   by_cases hk4 : x.k = 4
   ·rw [if_pos hk4]
    split
    ·exact mono
    ·dsimp only
     exact St.Ok.set ok hm (by rfl) (by exact ⟨w1, w2, by dsimp only; omega, by dsimp only; omega, by dsimp only; omega, by dsimp only; omega, by dsimp only; omega, by dsimp only; omega, w9⟩) byO byO mono.rs mono.rn mono.rl
   rw [if_neg hk4]
   by_cases hk5 : x.k = 5
   ·rw [if_pos hk5]
    split
    ·exact mono
    ·have hb := hd.2.2.2.1 hk5
     have hmul : 0 ≤ m.opn * x.a ∧ m.opn * x.a ≤ 60000000 := by
      have e1 := Int.mul_le_mul (show m.opn ≤ 60 by omega) hb.2 byO byO
      have e2 := Int.mul_nonneg w4.1 (show 0 ≤ x.a by omega)
      omega
     dsimp only
     refine St.Ok.set ok hm (by rfl) (by exact ⟨w1, w2, w3, by dsimp only; omega, by dsimp only; omega, by dsimp only; omega, by dsimp only; omega, by dsimp only; omega, w9⟩) byO byO (fun r hr => ?_) ?_ (by rw [List.length_map]; omega)
     ·obtain ⟨r', hr', rfl⟩ := List.mem_map.1 hr
      have := mono.rs r' hr'
      rw [billR_at, billR_no]
      refine ⟨this.1, ?_, ?_, this.2.2.2⟩
      ·unfold billR; split
       ·dsimp only; omega
       ·omega
      ·unfold billR; split
       ·dsimp only; omega
       ·omega
     ·rw [List.map_map]
      have : (Rn.at_ ∘ billR x.m x.a) = Rn.at_ := by funext r; exact billR_at _ _ r
      rw [this]; exact ok.rn
   rw [if_neg hk5]
   by_cases hk6 : x.k = 6
   ·rw [if_pos hk6]
    have hb := hd.2.2.2.2.1 hk6
    split
    ·exact mono
    ·dsimp only
     exact St.Ok.set ok hm (by rfl) (by exact ⟨w1, w2, w3, by dsimp only; omega, by dsimp only; omega, by dsimp only; omega, by dsimp only; omega, by dsimp only; omega, w9⟩) byO byO mono.rs mono.rn mono.rl
   rw [if_neg hk6]
   split
   ·exact mono
   rename_i j hj
   split
   ·exact mono
   rename_i r hr
   split
   ·exact mono
   have hrk := ok.rs r (List.mem_of_getElem? hr)
   dsimp only
   refine St.Ok.set ok hm (by rfl) (by exact ⟨w1, w2, w3, by dsimp only; omega, by dsimp only; omega, by dsimp only; omega, by dsimp only; omega, by dsimp only; omega, w9⟩) byO byO (fun y hy => ?_) ?_ (by rw [List.length_set]; omega)
   ·rcases List.mem_or_eq_of_mem_set hy with hy | rfl
    ·exact mono.rs y hy
    ·dsimp only; omega
   ·have e : (s.rs.set j { r with back := true }).map Rn.at_ = s.rs.map Rn.at_ := by
     rw [List.map_set]
     apply List.ext_getElem?
     intro q
     rw [List.getElem?_set]
     by_cases hq : j = q
     ·subst hq
      have hj2 := (List.getElem?_eq_some_iff.1 hr).1
      simp only [List.length_map, List.getElem?_map, if_true]
      rw [if_pos hj2, hr]
      rfl
     ·rw [if_neg hq]
    rw [e]; exact ok.rn
theorem zero_ok : St.Ok 0 St.zero := ⟨by decide, by decide, fun m hm => by simp [St.zero] at hm, fun r hr => by simp [St.zero] at hr, by simp [St.zero], by simp [St.zero], by simp [St.zero], by simp [St.zero]⟩
theorem after_ok {f : Nat → Ln} : ∀ {n : Nat}, n ≤ 61 → (∀ i, i < n → (f i).Valid 1099511627776) → (after f n).Ok n
 | 0, _, _ => zero_ok
 | n + 1, h, hv => step_ok (after_ok byO fun i hi => hv i byO) byO (hv n byO)
end AE.Tryz

/- Clerk, walked: replay. -/
namespace AE.Tryz
open Go AE Go.Proofs AE.Clerk
set_option maxRecDepth 100000
set_option linter.unusedVariables false

def outC (f : Nat → Ln) (n q : Nat) : List Value := (List.range n).map fun i => .int .i64 (if i < q then errAt f i else 0)
theorem outC_zero (f : Nat → Ln) (n : Nat) : reps [.int .i64 0] n = outC f n 0 := by
 have : ∀ n, reps [Value.int .i64 0] n = List.replicate n (.int .i64 0) := fun n => by
  induction n with
  | zero => rfl
  | succ n ih => simp [reps, ih, List.replicate_succ]
 rw [this]
 unfold outC
 apply List.ext_getElem
 ·simp
 ·intro i h1 h2
  simp
theorem outC_len (f : Nat → Ln) (n q : Nat) : (outC f n q).length = n := by simp [outC]
theorem outC_set (f : Nat → Ln) {n q : Nat} (h : q < n) : splice (outC f n q) (q * 1) [.int .i64 (errAt f q)] = outC f n (q + 1) := by
 unfold splice
 apply List.ext_getElem?
 intro i
 unfold outC
 rw [Nat.mul_one]
 rw [List.getElem?_append, List.getElem?_append]
 simp only [List.length_take, List.length_append, List.length_map, List.length_range, List.length_cons, List.length_nil]
 by_cases h1 : i < q
 ·rw [if_pos byO, if_pos byO, List.getElem?_take, if_pos h1]
  simp only [List.getElem?_map]
  rw [List.getElem?_range byO]
  simp only [Option.map_some]
  rw [if_pos h1, if_pos byO]
 ·by_cases h2 : i = q
  ·subst h2
   rw [if_pos byO, if_neg byO, show i - min i n = 0 by omega]
   simp only [List.getElem?_cons_zero, List.getElem?_map]
   rw [List.getElem?_range byO]
   simp
  ·rw [if_neg byO, List.getElem?_drop]
   simp only [List.getElem?_map]
   rw [show q + 1 + (i - (min q n + (0 + 1))) = i by omega]
   by_cases h3 : i < n
   ·rw [List.getElem?_range h3]
    simp only [Option.map_some]
    rw [if_neg byO, if_neg byO]
   ·rw [List.getElem?_eq_none (by simp; omega)]
    rfl
theorem outC_same (f : Nat → Ln) {n q : Nat} (h : errAt f q = 0) : outC f n q = outC f n (q + 1) := by
 unfold outC
 refine List.map_congr_left fun i hi => ?_
 by_cases h1 : i < q
 ·rw [if_pos h1, if_pos byO]
 ·by_cases h2 : i = q
  ·subst h2; rw [if_neg h1, if_pos byO, h]
  ·rw [if_neg h1, if_neg byO]
def RepR (h : H) (n : Nat) (f : Nat → Ln) (v : Value) (h' : H) : Prop :=
 (¬ Good n f ∧ v = .tuple #[.pointer none, .slice none 0 0, .int .i64 (bookErr n f)]) ∨
 (Good n f ∧ ∃ (L : LP) (ps : Nat → Nat) (r : Nat), v = .tuple #[ptrV L.g, .slice (some ⟨r, 0, none⟩) n n, .int .i64 0] ∧ Lg L h' ps (after f n) ∧ h.next ≤ L.g1 ∧ h'.get r = some (.cells (outC f n n) 25) ∧ h.next ≤ r ∧ r < h'.next)
theorem is_eq {a b : List Value} (h : a = b) : Is a b := by subst h; exact Is.rfl
theorem Lg.fr {L : LP} {h h' : H} {ps : Nat → Nat} {s : St} (k : Lg L h ps s) (hs : ∀ q, q < h.next → (L.g1 ≤ q ∧ q ≤ L.g) ∨ L.B ≤ q → h'.get q = h.get q) (hn : h.next ≤ h'.next) : Lg L h' ps s := by
 have o := k.ord
 exact ⟨(hs _ byO byO).trans k.g, (hs _ byO byO).trans k.m, (hs _ byO byO).trans k.c, (hs _ byO byO).trans k.o, fun i m hi => by
  have := k.pb i (List.getElem?_eq_some_iff.1 hi).1
  exact (hs _ this.2 (.inr this.1)).trans (k.p i m hi), fun i hi => by have := k.pb i hi; omega, k.pn, by omega⟩
theorem q_tiface {P : Program} {lo nid : Nat} {ts : Ts} {h : H} {k : Value → H → Prop} {t : TypeId} {x : Opd} {v : Value} (hx : ev ts x = v) (hw : xTiface P t v = some v) (hk : k v h) : OpE P lo nid ts h (.tiface t x) k :=
 OpE.mk (v := v) (by simp only [aop, keep, hx, hw, Option.map_some]) hk
theorem ti173 (v : Value) : xTiface Tryz.prog 128 (.iface 173 v) = some (.iface 173 v) := by kernel_rfl
theorem ti171 (v : Value) : xTiface Tryz.prog 128 (.iface 171 v) = some (.iface 171 v) := by kernel_rfl
theorem why_late_w {h : H} {e : Int} : AW Tryz.prog 176 h.next h [.agg ⟨[.int .i64 e]⟩] (fun v _ => v = .int .i64 e) := by
 refine fun176.call rfl (Nat.le_refl _) ?_
 unfold a176
 (refine byRun ?_)
 (refine byFin ?_)
 rfl
theorem why_short_w {h : H} {e : Int} : AW Tryz.prog 177 h.next h [.agg ⟨[.int .i64 e]⟩] (fun v _ => v = .int .i64 10) := by
 refine fun177.call rfl (Nat.le_refl _) ?_
 unfold a177
 (refine byRun ?_)
 (refine byFin ?_)
 rfl
theorem q_meth {lo nb : Nat} {h : H} {k : Value → H → Prop} {fv : Value} {t : TypeId} {g : FuncId} {v : Value} {R : Value → H → Prop} (ef : fv = .func (.method "tumblehome/clerk.why") ⟨[.iface t v]⟩ ⟨[]⟩) (en : h.next = nb) (hlo : lo ≤ nb) (hm : methG Tryz.prog t "tumblehome/clerk.why" = some g) (hc : AW Tryz.prog g h.next h [v] R)
 (hr : ∀ v h', R v h' → Quiet nb h h' → nb ≤ h'.next → k v h') : CallV Tryz.prog fv lo false h [] k := by
 subst ef
 subst en
 obtain ⟨r, h', hr0, a⟩ := hc
 have hq := a.quiet
 exact .mk (AF.method hm (a.mono hlo)) (hr r h' hr0 hq hq.next)
theorem replay_w {h : H} {B : Bk} {m : Nat} (hm : m ≤ h.next) (hB : B.Ok m h) : AW Tryz.prog 40 h.next h [.slice B.b B.n B.c] (fun v h' => RepR h B.n B.f v h') := by
 have l1 := hB.l
 refine fun40.call rfl (Nat.le_refl _) ?_
 unfold a40
 (refine byRunP ?_)
 apply q_callv
 focus (exact byNext)
 focus (exact byLo)
 focus exact checkBook_w (m := m) byOm (hB.same (m' := m) bySame (Nat.le_refl _))
 intro h2 q2 n2
 by_cases hg : Good B.n B.f
 rotate_left
 ·have hne : bookErr B.n B.f ≠ 0 := fun h => hg (bookErr_ok.1 h)
  generalize he : bookErr B.n B.f = e at hne
  (refine byRunP ?_)
  (refine byFin ?_)
  exact .inl ⟨hg, by rw [he]⟩
 rw [bookErr_ok.2 hg]
 have n60 := hg.1
 have sm2 : Same m h h2 := by (exact bySame)
 have b2 := hB.same sm2 (Nat.le_refl _)
 have om : m ≤ h2.next := by (exact byOm)
 (refine byRunP ?_)
 apply OpE.mk rfl
 (refine byRunP ?_)
 apply OpE.mk rfl
 (refine byRunP ?_)
 apply OpE.mk rfl
 (refine byRunP ?_)
 apply q_mkslice (a := B.n) (b := B.n)
 case hl => exact rfl
 case hc => exact rfl
 case hle => exact Nat.le_refl _
 case hsm => omega
 rw [outC_zero B.f]
 (refine byRunP ?_)
 obtain ⟨L, hL⟩ : ∃ L : LP, L = ⟨h2.next + 2, h2.next + 3, h2.next + 4, h2.next + 6, h2.next + 12⟩ := ⟨_, rfl⟩
 have eL1 : L.g1 = h2.next + 2 := by rw [hL]
 have eL4 : L.g = h2.next + 6 := by rw [hL]
 have eLB : L.B = h2.next + 12 := by rw [hL]
 refine wp_loop (fun q : Nat => [(6, ptrV L.g), (7, .slice (some ⟨h2.next + 10, 0, none⟩) B.n B.n), (26, .slice B.b B.n B.c), (27, .int .i64 B.n), (28, .int .i64 q)]) (fun q h1 => (∃ ps, Lg L h1 ps (after B.f q)) ∧ h1.get (h2.next + 10) = some (.cells (outC B.f B.n q) 25) ∧ Same h2.next h2 h1 ∧ h2.next + 12 ≤ h1.next ∧ q ≤ B.n) (fun q => B.n - q) 0 ⟨by rw [eL4]; rfl, rfl, rfl, rfl, rfl, trivial⟩ ⟨⟨fun _ => 0, ?_⟩, byGet, bySame, byOm, by omega⟩ ?_
 ·subst hL
  refine ⟨?_, ?_, ?_, ?_, fun i m hm => ?_, fun i hi => ?_, fun i j hi => ?_, ⟨by dsimp only; omega, by dsimp only; omega, by dsimp only; omega, by dsimp only; omega, by dsimp only; (exact byOm)⟩⟩
  ·dsimp only [after, St.zero]
   (exact byGet)
  ·show _ = some (ARow.map [] 0)
   dsimp only
   (exact byGet)
  ·show _ = some (ARow.map [] 0)
   dsimp only
   (exact byGet)
  ·show _ = some (ARow.map [] 0)
   dsimp only
   (exact byGet)
  ·simp [after, St.zero] at hm
  ·simp [after, St.zero] at hi
  ·simp [after, St.zero] at hi
 rintro q g' h1 ⟨⟨ps, k⟩, go, s1, n1, hq⟩ K hK
 have o := k.ord
 by_cases hlt : q < B.n
 ·have hv := hg.2 q hlt
  have b3 := b2.same (s1.mono om) (Nat.le_refl _)
  have i3 := b3.i
  have e3 := b3.e
  have r3 := b3.r
  have hok := after_ok (f := B.f) (n := q) byO fun i hi => hg.2 i byO
  have eafter : after B.f (q + 1) = (Clerk.step (B.f q) q (after B.f q)).1 := rfl
  have eerr : errAt B.f q = (Clerk.step (B.f q) q (after B.f q)).2 := rfl
  unfold Ln.cells at i3
  unfold ptrV
  (refine byRunP ?_)
  apply q_callw
  focus exact do_w (x := B.f q) (t := q) (k.same (fun q hq => get_of fun y hy => byGet) byOm) byO hok byO hv
  rintro v h4 ⟨⟨ps4, k4⟩, rp, fr4, n4⟩ q4
  have n5 : h1.next + 11 ≤ h4.next := by have := q4.next; (exact byOm)
  have go4 : h4.get (h2.next + 10) = some (.cells (outC B.f B.n q) 25) := ((fr4 _ byO byO).trans byGo).trans go
  have s4 : Same h2.next h2 h4 := fun i hi => ((fr4 i byO byO).trans byGo).trans (s1 i hi)
  rw [← eafter] at k4
  rw [← eerr] at rp
  clear q4 fr4 n4
  rcases rp with ⟨e0, rfl⟩ | ⟨e5, rfl⟩ | ⟨e10, z, rfl⟩ | ⟨x0, x5, x10, xb1, xb2, rfl⟩
  ·(refine byRunP ?_)
   exact hK (q + 1) _ _ ⟨rfl, rfl, rfl, rfl, int_of rfl byO, trivial⟩ ⟨⟨_, k4.same (fun q hq => get_of fun y hy => byGet) byOm⟩, by rw [← outC_same B.f e0]; (exact byGet), bySame, byOm, by omega⟩ byO
  ·(refine byRunP ?_)
   refine Sto.mk (r := h2.next + 10) (off := 0 + q * 1) (c' := outC B.f B.n (q + 1)) rfl byO byGet rfl rfl (Nat.ble_eq_true_of_le (by rw [outC_len]; omega)) (is_eq (by rw [Nat.zero_add, ← e5]; exact outC_set B.f hlt)) ?_
   (refine byRunP ?_)
   exact hK (q + 1) _ _ ⟨rfl, rfl, rfl, rfl, int_of rfl byO, trivial⟩ ⟨⟨_, k4.fr (fun q hq h0 => get_of fun y hy => byGet) byOm⟩, byGet, bySame, byOm, by omega⟩ byO
  ·(refine byRunP ?_)
   apply q_tiface rfl (ti173 _)
   (refine byRunP ?_)
   apply q_meth
   focus exact rfl
   focus (exact byNext)
   focus (exact byLo)
   focus kernel_rfl
   focus exact why_short_w
   rintro v h5 rfl q5 n5
   (refine byRunP ?_)
   refine Sto.mk (r := h2.next + 10) (off := 0 + q * 1) (c' := outC B.f B.n (q + 1)) rfl byO byGet rfl rfl (Nat.ble_eq_true_of_le (by rw [outC_len]; omega)) (is_eq (by rw [Nat.zero_add]; rw [← e10]; exact outC_set B.f hlt)) ?_
   (refine byRunP ?_)
   exact hK (q + 1) _ _ ⟨rfl, rfl, rfl, rfl, int_of rfl byO, trivial⟩ ⟨⟨_, k4.fr (fun q hq h0 => get_of fun y hy => byGet) byOm⟩, byGet, bySame, byOm, by omega⟩ byO
  ·(refine byRunP ?_)
   apply q_tiface rfl (ti171 _)
   (refine byRunP ?_)
   apply q_meth
   focus exact rfl
   focus (exact byNext)
   focus (exact byLo)
   focus kernel_rfl
   focus exact why_late_w
   rintro v h5 rfl q5 n5
   (refine byRunP ?_)
   refine Sto.mk (r := h2.next + 10) (off := 0 + q * 1) (c' := outC B.f B.n (q + 1)) rfl byO byGet rfl rfl (Nat.ble_eq_true_of_le (by rw [outC_len]; omega)) (is_eq (by rw [Nat.zero_add]; exact outC_set B.f hlt)) ?_
   (refine byRunP ?_)
   exact hK (q + 1) _ _ ⟨rfl, rfl, rfl, rfl, int_of rfl byO, trivial⟩ ⟨⟨_, k4.fr (fun q hq h0 => get_of fun y hy => byGet) byOm⟩, byGet, bySame, byOm, by omega⟩ byO
 obtain rfl : q = B.n := by omega
 clear hK
 (refine byRunP ?_)
 (refine byFin ?_)
 exact .inr ⟨hg, L, ps, h2.next + 10, rfl, k.fr (fun q hq h0 => get_of fun y hy => byGet) byOm, by omega, byGet, by omega, byOm⟩
end AE.Tryz
