/- Walks of span: Next. -/
import Derived.Test.YtkkndecbijgolaaSpanZg
set_option linter.unusedVariables false
set_option linter.unusedSimpArgs false
set_option linter.unusedSectionVars false
namespace AE.Try
open Go AE Go.Proofs AE.Sp
set_option maxRecDepth 100000
set_option linter.unusedVariables false

theorem Nx.e1 {L : Runs} {p q : Int} {C : Chs} (h : L.err2 p q ≠ 0) : Nx.err L p q C = L.err2 p q := by unfold Nx.err; rw [if_pos h]
theorem Nx.e2 {L : Runs} {p q : Int} {C : Chs} (h : L.err2 p q = 0) (h2 : C.err ≠ 0) : Nx.err L p q C = C.err := by unfold Nx.err; rw [if_neg (by omega), if_pos h2]
theorem Nx.e3 {L : Runs} {p q : Int} {C : Chs} (h : L.err2 p q = 0) (h2 : C.err = 0) (h3 : ¬ L.Cl) : Nx.err L p q C = 20 := by unfold Nx.err; rw [if_neg (by omega), if_neg (by omega), if_pos h3]
theorem Nx.e4 {L : Runs} {p q : Int} {C : Chs} (h : L.err2 p q = 0) (h2 : C.err = 0) (h3 : L.Cl) (h4 : ¬ ((∀ i, i < C.n → BnW L p q C i (C.w i)) ∧ ∃ o, BSt L p q C C.n (some o))) : Nx.err L p q C = 5 := by unfold Nx.err; rw [if_neg (by omega), if_neg (by omega), if_neg (fun k => k h3), if_neg h4]
theorem Nx.e5 {L : Runs} {p q : Int} {C : Chs} (h : L.err2 p q = 0) (h2 : C.err = 0) (h3 : L.Cl) (h4 : (∀ i, i < C.n → BnW L p q C i (C.w i)) ∧ ∃ o, BSt L p q C C.n (some o)) : Nx.err L p q C = 0 := by unfold Nx.err; rw [if_neg (by omega), if_neg (by omega), if_neg (fun k => k h3), if_pos h4]
theorem Chs.err_6 {C : Chs} (h : C.n < 1 ∨ 8 < C.n) : C.err = 6 := by unfold Chs.err; rw [if_pos h]
theorem Chs.err_2 {C : Chs} (h : ¬ (C.n < 1 ∨ 8 < C.n)) (h2 : ¬ ∀ i, i < C.n → C.Good i) : C.err = 2 := by unfold Chs.err; rw [if_neg h, if_neg h2]
theorem Chs.err_0 {C : Chs} (h : ¬ (C.n < 1 ∨ 8 < C.n)) (h2 : ∀ i, i < C.n → C.Good i) : C.err = 0 := by unfold Chs.err; rw [if_neg h, if_pos h2]

/-- What holds after the first i choices. -/
structure NSt (L : Runs) (p q : Int) (C : Chs) (i : Nat) (es : List (Nat × Fr)) : Prop where
  bn : ∀ j, j < i → BnW L p q C j (C.w j)
  mem : ∀ e ∈ es, e.1 < i ∧ IsW L p q C e.1 (C.w e.1) e.2
  all : ∀ j, j < i → (∃ x, (j, x) ∈ es) ∨ NoW L C j (C.w j)
  inc : (es.map Prod.fst).Pairwise (· < ·)
  len : es.length ≤ i
section
variable {L : Runs} {p q : Int} {C : Chs} {i : Nat} {es : List (Nat × Fr)} {x : Fr}
theorem NSt.nil : NSt L p q C 0 [] := ⟨fun j h => absurd h (Nat.not_lt_zero j), (fun e h => nomatch h), fun j h => absurd h (Nat.not_lt_zero j), List.Pairwise.nil, Nat.le_refl _⟩
theorem NSt.skip (k : NSt L p q C i es) (b : BnW L p q C i (C.w i)) (h : NoW L C i (C.w i)) : NSt L p q C (i + 1) es := by
  refine ⟨fun j hj => ?_, fun e he => ⟨by have := (k.mem e he).1; omega, (k.mem e he).2⟩, fun j hj => ?_, k.inc, by have := k.len; omega⟩
  · by_cases e : j = i
    · subst e; exact b
    · exact k.bn j (by omega)
  · by_cases e : j = i
    · subst e; exact .inr h
    · exact k.all j (by omega)
theorem NSt.add (k : NSt L p q C i es) (b : BnW L p q C i (C.w i)) (h : IsW L p q C i (C.w i) x) : NSt L p q C (i + 1) (es ++ [(i, x)]) := by
  refine ⟨fun j hj => ?_, fun e he => ?_, fun j hj => ?_, ?_, by have := k.len; simp; omega⟩
  · by_cases e : j = i
    · subst e; exact b
    · exact k.bn j (by omega)
  · rcases List.mem_append.1 he with he | he
    · exact ⟨by have := (k.mem e he).1; omega, (k.mem e he).2⟩
    · rw [List.mem_singleton.1 he]; exact ⟨by dsimp only; omega, h⟩
  · by_cases e : j = i
    · subst e; exact .inl ⟨x, by simp⟩
    · exact (k.all j (by omega)).imp (fun ⟨y, hy⟩ => ⟨y, List.mem_append_left _ hy⟩) id
  · rw [List.map_append, List.pairwise_append]
    refine ⟨k.inc, by simp, fun a ha c hc => ?_⟩
    obtain ⟨e, he, rfl⟩ := List.mem_map.1 ha
    simp only [List.map_cons, List.map_nil, List.mem_singleton] at hc
    subst hc
    exact (k.mem e he).1
end
/-- The entries while a choice is gone through. -/
def ext (es : List (Nat × Fr)) (i : Nat) : Option Fr → List (Nat × Fr)
  | none => es
  | some x => es ++ [(i, x)]
theorem NSt.ne {L : Runs} {p q : Int} {C : Chs} {i : Nat} {es : List (Nat × Fr)} (k : NSt L p q C i es) : ∀ e ∈ es, e.1 ≠ i := fun e he => by have := (k.mem e he).1; omega

theorem NSt.nodup {L : Runs} {p q : Int} {C : Chs} {i : Nat} {es : List (Nat × Fr)} {x : Fr} (k : NSt L p q C i es) : ((ext es i (some x)).map Prod.fst).Nodup := by
  unfold ext
  rw [List.map_append]
  refine List.Pairwise.imp (R := (· < ·)) (fun h => Nat.ne_of_lt h) ?_
  rw [List.pairwise_append]
  refine ⟨k.inc, by simp, fun a ha c hc => ?_⟩
  obtain ⟨e, he, rfl⟩ := List.mem_map.1 ha
  simp only [List.map_cons, List.map_nil, List.mem_singleton] at hc
  subst hc
  exact (k.mem e he).1

theorem inc_at {es : List (Nat × Fr)} (h : (es.map Prod.fst).Pairwise (· < ·)) {a b : Nat} (hab : a < b) (hb : b < es.length) : (entAt es a).1 < (entAt es b).1 := by
  have := List.pairwise_iff_getElem.1 h a b (by rw [List.length_map]; omega) (by rw [List.length_map]; exact hb) hab
  rw [List.getElem_map, List.getElem_map] at this
  unfold entAt
  rw [← List.getElem_eq_getD (h := by omega) _, ← List.getElem_eq_getD (h := hb) _]
  exact this
theorem NSt.best {L : Runs} {p q : Int} {C : Chs} {es : List (Nat × Fr)} {b : Nat} (ns : NSt L p q C C.n es) (ok : ∀ i, i < C.n → ∀ k, Nx.cl L C i k → k < C.w i → WideOk (Nx.wd L p q C i k)) (hb : FirstAt es (es.length - 1) b) : BSt L p q C C.n (some (entAt es b)) := by
  have hm := ns.mem _ (entAt_mem hb.1)
  show BSt L p q C C.n (some ((entAt es b).1, (entAt es b).2))
  refine ⟨hm, fun j y hj hw => ?_⟩
  rcases ns.all j hj with ⟨z, hz⟩ | hn
  · obtain rfl : z = y := (ns.mem _ hz).2.uniq hw (ok j hj)
    obtain ⟨k, hk, ek⟩ := List.mem_iff_getElem.1 hz
    have ek : entAt es k = (j, z) := by unfold entAt; rw [← List.getElem_eq_getD (h := hk) _]; exact ek
    have f := hb.2 k (by omega)
    rw [ek] at f
    have c1 := fun h => inc_at ns.inc (a := k) (b := b) h hb.1
    have c2 := fun h => inc_at ns.inc (a := b) (b := k) h hk
    rw [ek] at c1 c2
    dsimp only at f c1 c2
    refine ⟨fun h => f.1 ?_, fun h => f.2 ?_⟩
    · rcases Nat.lt_trichotomy k b with e | e | e
      · exact e
      · subst e; rw [ek] at h; exact absurd h (Nat.lt_irrefl _)
      · have := c2 e; omega
    · rcases Nat.lt_trichotomy k b with e | e | e
      · have := c1 e; omega
      · subst e; rw [ek] at h; exact absurd h (Nat.lt_irrefl _)
      · exact e
  · exact (hw.no hn).elim

open Classical in
set_option maxHeartbeats 16000000 in
theorem next_w {h : H} {L : Runs} {C : Chs} {m : Nat} {p q : Int} (hm : m ≤ h.next) (hL : L.Ok m h) (hS : SlC L.b L.a L.n L.c m h) (hC : C.Ok m h) :
    AW Try.prog 35 h.next h [.slice L.b L.n L.c, .int .i64 p, .int .i64 q, .slice C.b C.n C.c] (fun v _ => v = .tuple #[.int .i64 ((Nx.res L p q C).1 : Int), .agg ⟨(Nx.res L p q C).2.cells⟩, .int .i64 (Nx.err L p q C)]) := by
  have fin : ∀ e, Nx.err L p q C = e → e ≠ 0 → Value.tuple #[.int .i64 0, .agg ⟨[.int .i64 0, .int .i64 0]⟩, .int .i64 e] = .tuple #[.int .i64 ((Nx.res L p q C).1 : Int), .agg ⟨(Nx.res L p q C).2.cells⟩, .int .i64 (Nx.err L p q C)] := fun e h1 h2 => by
    have : Nx.err L p q C ≠ 0 := by omega
    rw [Nx.res_err this, h1]; rfl
  refine fun35.call rfl (Nat.le_refl _) ?_
  unfold a35
  (focus ((try with_reducible apply wpC.to); (repeat' ((conv => whnf); first | refine byEv ?_ | (apply Fork.mk <;> (intro _; try (exfalso; omega))) | ((refine kSpanQ0 ?_); first | ((first | apply q_allD | apply q_alli | apply q_allB) <;> intro _ _ _ _ <;> try contradiction) | (apply q_allv; intro _ _ _)) | fail)); all_goals ((conv => whnf); try with_reducible apply At.mk)))
  · have e0 : L.err2 p q ≠ 0 := by assumption
    (refine byFin ?_)
    exact fin _ (Nx.e1 e0) e0
  · have e0 : L.err2 p q = 0 := by assumption
    (refine byFin ?_)
    exact fin 6 ((Nx.e2 e0 (by rw [Chs.err_6 (by omega)]; decide)).trans (Chs.err_6 (by omega))) (by decide)
  · have e0 : L.err2 p q = 0 := by assumption
    (refine byFin ?_)
    exact fin 6 ((Nx.e2 e0 (by rw [Chs.err_6 (by omega)]; decide)).trans (Chs.err_6 (by omega))) (by decide)
  have e0 : L.err2 p q = 0 := by assumption
  obtain ⟨e1, fac⟩ := Runs.err2_0 e0
  obtain ⟨ln, lv⟩ := L.err_0 e1
  have cn : ¬ (C.n < 1 ∨ 8 < C.n) := by omega
  apply q_callB
  focus (exact byNext)
  focus (exact byLo)
  focus
    refine anyChs_w (T := C) (m := m) (p := fun i => decide ¬ C.Good i) byOm (hC.same bySame (Nat.le_refl _)) fun i k1 hi qq => ?_
    have hn := qq.next
    simp only [bump_next] at hn
    exact acall_of (noChoice_w (h := k1) (C := C) (m := m) (i := i) (by omega) (hC.same (fun r hr => (qq.same r byOm).trans ((show Same m h _ from bySame) r hr)) (Nat.le_refl _)) hi) rfl
  · intro hb h2 q2 n2
    obtain ⟨i, hi, h3⟩ := of_decide_eq_true hb
    have h3 := of_decide_eq_true h3
    have e2 : C.err = 2 := Chs.err_2 cn fun k => h3 (k i hi)
    (focus ((try with_reducible apply wpC.to); (repeat' ((conv => whnf); first | refine byEv ?_ | (apply Fork.mk <;> (intro _; try (exfalso; omega))) | ((refine kSpanQ0 ?_); first | ((first | apply q_allD | apply q_alli | apply q_allB) <;> intro _ _ _ _ <;> try contradiction) | (apply q_allv; intro _ _ _)) | fail)); all_goals ((conv => whnf); try with_reducible apply At.mk)))
    (refine byFin ?_)
    exact fin 2 ((Nx.e2 e0 (by rw [e2]; decide)).trans e2) (by decide)
  intro hb h2 q2 n2
  have := of_decide_eq_false hb
  have gs : ∀ i, i < C.n → C.Good i := fun i hi => Classical.byContradiction fun h => this ⟨i, hi, decide_eq_true h⟩
  clear hb this
  have e2 : C.err = 0 := Chs.err_0 cn gs
  (focus ((try with_reducible apply wpC.to); (repeat' ((conv => whnf); first | refine byEv ?_ | (apply Fork.mk <;> (intro _; try (exfalso; omega))) | ((refine kSpanQ0 ?_); first | ((first | apply q_allD | apply q_alli | apply q_allB) <;> intro _ _ _ _ <;> try contradiction) | (apply q_allv; intro _ _ _)) | fail)); all_goals ((conv => whnf); try with_reducible apply At.mk)))
  apply q_call
  focus (exact byNext)
  focus (exact byLo)
  focus exact newTable_w (L := L) (m := m) byOm (hL.same bySame (Nat.le_refl _)) (by omega) lv
  rintro _ h3 ⟨T, rfl, tn, tf, tok⟩ q3 n3
  have eT : T.runs.Cl ↔ L.Cl := by unfold Tab.runs Runs.Cl; rw [tn, tf]
  (focus ((try with_reducible apply wpC.to); (repeat' ((conv => whnf); first | refine byEv ?_ | (apply Fork.mk <;> (intro _; try (exfalso; omega))) | ((refine kSpanQ0 ?_); first | ((first | apply q_allD | apply q_alli | apply q_allB) <;> intro _ _ _ _ <;> try contradiction) | (apply q_allv; intro _ _ _)) | fail)); all_goals ((conv => whnf); try with_reducible apply At.mk)))
  apply q_call
  focus (exact byNext)
  focus (exact byLo)
  focus exact doubt_w (T := T) (m := h3.next) byOm (tok.same bySame (Nat.le_refl _))
  rintro _ h4 ⟨M, bv, rfl, d1, d2⟩ q4 n4
  cases bv
  rotate_left
  · obtain ⟨d3, d4⟩ := d1 rfl
    have nc : ¬ L.Cl := fun c => bad_cl (L := T.runs) tok.val d3 d4 (eT.2 c)
    have eM : (⟨M.cells⟩ : Array Value) = ⟨[.map M.r, .int .i64 M.s.u, .int .i64 M.s.v, .int .i64 M.s.w, .int .i64 M.t]⟩ := rfl
    rw [eM]
    (focus ((try with_reducible apply wpC.to); (repeat' ((conv => whnf); first | refine byEv ?_ | (apply Fork.mk <;> (intro _; try (exfalso; omega))) | ((refine kSpanQ0 ?_); first | ((first | apply q_allD | apply q_alli | apply q_allB) <;> intro _ _ _ _ <;> try contradiction) | (apply q_allv; intro _ _ _)) | fail)); all_goals ((conv => whnf); try with_reducible apply At.mk)))
    (refine byFin ?_)
    exact fin 20 (Nx.e3 e0 e2 nc) (by decide)
  obtain ⟨rfl, cl⟩ := d2 rfl
  have cl : L.Cl := eT.1 cl
  unfold Mk.none Mk.cells
  (focus ((try with_reducible apply wpC.to); (repeat' ((conv => whnf); first | refine byEv ?_ | (apply Fork.mk <;> (intro _; try (exfalso; omega))) | ((refine kSpanQ0 ?_); first | ((first | apply q_allD | apply q_alli | apply q_allB) <;> intro _ _ _ _ <;> try contradiction) | (apply q_allv; intro _ _ _)) | fail)); all_goals ((conv => whnf); try with_reducible apply At.mk)))
  refine OpE.mk (v := .map (some (h4.next + 3))) rfl ?_
  (focus ((try with_reducible apply wpC.to); (repeat' ((conv => whnf); first | refine byEv ?_ | (apply Fork.mk <;> (intro _; try (exfalso; omega))) | ((refine kSpanQ0 ?_); first | ((first | apply q_allD | apply q_alli | apply q_allB) <;> intro _ _ _ _ <;> try contradiction) | (apply q_allv; intro _ _ _)) | fail)); all_goals ((conv => whnf); try with_reducible apply At.mk)))
  refine wp_loop (fun s : Nat × List (Nat × Fr) × Option Addr × Nat => [(0, .slice L.b L.n L.c), (1, .int .i64 p), (2, .int .i64 q), (9, .pointer (some ⟨h.next + 1, 0, none⟩)), (14, .slice s.2.2.1 s.2.1.length 0), (15, .pointer (some ⟨h4.next + 4, 0, none⟩)), (62, .slice C.b C.n C.c), (63, .int .i64 C.n), (64, .int .i64 s.1)])
    (fun s h1 => h1.get (h.next + 1) = some (.cells [.int .i64 0, .int .i64 0] 38) ∧ h1.get (h4.next + 4) = some (.cells [.map (some (h4.next + 3))] 114) ∧ h1.get (h4.next + 3) = some (.map (entV (wEnt s.2.1) 0) (wEnt s.2.1).length) ∧ GE (h4.next + 1) s.2.2.2 h1 3 1 s.2.1.length (natC (s.2.1.map Prod.fst)) s.2.2.1 ∧ (0 < s.2.1.length → h4.next + 5 ≤ s.2.2.2 ∧ s.2.2.2 < h1.next) ∧ Same m h h1 ∧ h4.next + 9 ≤ h1.next ∧ s.1 ≤ C.n ∧ NSt L p q C s.1 s.2.1) (fun s => C.n - s.1) (0, [], some ⟨h4.next + 1, 0, none⟩, 0) ⟨rfl, rfl, rfl, rfl, rfl, rfl, rfl, rfl, rfl, trivial⟩
    ⟨byGet, byGet, byGet, .inl ⟨rfl, rfl, rfl, byGet⟩, fun h => absurd h (Nat.lt_irrefl 0), bySame, byOm, by dsimp only; omega, NSt.nil⟩ ?_
  rintro ⟨i, es, v, rr⟩ g h5 ⟨x9, x15, xm, ge, gr, sm5, n5, hi, ns⟩ K hK
  dsimp only at xm ge gr hi ns ⊢
  have nh4 : h.next + 1 < h4.next := by (exact byOm)
  have hC5 : C.Ok m h5 := hC.same sm5 (Nat.le_refl _)
  obtain ⟨ce, ci, cr, cl', cee, cei, cer, cel⟩ := id hC5
  by_cases hin : i < C.n
  · have cr' := cr (by omega)
    have gi := gs i hin
    have cee' := cee i hin
    have cei' := cei i hin
    have cer' := cer i hin
    unfold Chs.cells at ci
    unfold Chs.rg at cei'
    have wi := gi.1
    have ns0 := ns
    (focus ((try with_reducible apply wpC.to); (repeat' ((conv => whnf); first | refine byEv ?_ | (apply Fork.mk <;> (intro _; try (exfalso; omega))) | ((refine kSpanQ0 ?_); first | ((first | apply q_allD | apply q_alli | apply q_allB) <;> intro _ _ _ _ <;> try contradiction) | (apply q_allv; intro _ _ _)) | fail)); all_goals ((conv => whnf); try with_reducible apply At.mk)))
    refine wp_loop (fun s : Nat × Option Fr => [(0, .slice L.b L.n L.c), (1, .int .i64 p), (2, .int .i64 q), (9, .pointer (some ⟨h.next + 1, 0, none⟩)), (14, .slice v es.length 0), (15, .pointer (some ⟨h4.next + 4, 0, none⟩)), (62, .slice C.b C.n C.c), (63, .int .i64 C.n), (64, .int .i64 i), (16, .int .i64 i), (17, .pointer (some ⟨h5.next + 4, 0, none⟩)), (70, .slice (C.eb i) (C.w i) (C.ec i)), (71, .int .i64 (C.w i)), (72, .int .i64 s.1)])
      (fun s h1 => h1.get (h.next + 1) = some (.cells [.int .i64 0, .int .i64 0] 38) ∧ h1.get (h4.next + 4) = some (.cells [.map (some (h4.next + 3))] 114) ∧ h1.get (h4.next + 3) = some (.map (entV (wEnt (ext es i s.2)) 0) (wEnt (ext es i s.2)).length) ∧ h1.get (h5.next + 4) = some (.cells (C.cells i) 111) ∧ (∀ r, h4.next ≤ r → r < h5.next → r ≠ h4.next + 3 → h1.get r = h5.get r) ∧ Same m h h1 ∧ h5.next + 5 ≤ h1.next ∧ s.1 ≤ C.w i ∧ WSt L p q C i s.1 s.2 ∧ BnW L p q C i s.1) (fun s => C.w i - s.1) (0, none) ⟨rfl, rfl, rfl, rfl, rfl, rfl, rfl, rfl, rfl, rfl, rfl, rfl, rfl, rfl, trivial⟩
      ⟨byGet, byGet, byGet, by unfold Chs.cells; (exact byGet), fun r h1 h2 h3 => get_of fun y hy => byGet, bySame, byOm, by dsimp only; omega, fun k hk => absurd hk (Nat.not_lt_zero k), fun k hk => absurd hk (Nat.not_lt_zero k)⟩ ?_
    rintro ⟨k, o⟩ g6 h6 ⟨y9, y15, ym, y17, yfr, sm6, n6, hk, ws, bw⟩ K2 hK2
    dsimp only at ym hk ws bw ⊢
    have ok : ∀ j, Nx.cl L C i j → j < C.w i → Nx.bn L p q C i j → WideOk (Nx.wd L p q C i j) := fun j hj hl hb => wide_ok (L.plus_val lv (gi.2 j hl)) hj hb fac
    by_cases hkw : k < C.w i
    · have cei6 : Els h6 (C.ea i) (C.w i) 2 (fun k => [.int .i64 (C.lo i k), .int .i64 (C.hi i k)]) := by
        have := (hC.ei i hin).same sm6 (hC.er i hin)
        unfold Chs.rg at this
        exact this
      have cer6 := cer' (by omega)
      unfold Chs.cells at y17
      (focus ((try with_reducible apply wpC.to); (repeat' ((conv => whnf); first | refine byEv ?_ | (apply Fork.mk <;> (intro _; try (exfalso; omega))) | ((refine kSpanQ0 ?_); first | ((first | apply q_allD | apply q_alli | apply q_allB) <;> intro _ _ _ _ <;> try contradiction) | (apply q_allv; intro _ _ _)) | fail)); all_goals ((conv => whnf); try with_reducible apply At.mk)))
      apply q_cut3 (n := L.n) (c := L.c) (m := m) (b := L.b) (a := L.a) (f := fun i => (L.f i).cells) rfl (hS.same bySame (Nat.le_refl _)) (hL.i.same bySame hL.r) (fun _ => rfl) rfl rfl
      intro b' c' hfull
      (focus ((try with_reducible apply wpC.to); (repeat' ((conv => whnf); first | refine byEv ?_ | (apply Fork.mk <;> (intro _; try (exfalso; omega))) | ((refine kSpanQ0 ?_); first | ((first | apply q_allD | apply q_alli | apply q_allB) <;> intro _ _ _ _ <;> try contradiction) | (apply q_allv; intro _ _ _)) | fail)); all_goals ((conv => whnf); try with_reducible apply At.mk)))
      apply q_appF (n := L.n) (m := 1) (b := h6.next) (cs := rowsOf (fun i => (L.f i).cells) L.n) (nc := (C.run i k).cells)
      case hsv => exact rfl
      case G => exact hfull _ bySame
      case C => exact Cells.one (by unfold Run.cells Chs.run; (exact byMem)) (by unfold far; omega) rfl rfl
      case hm => exact Nat.one_pos
      case hb => (exact byOm)
      case hsm => omega
      intro v7 row7 G7
      (focus ((try with_reducible apply wpC.to); (repeat' ((conv => whnf); first | refine byEv ?_ | (apply Fork.mk <;> (intro _; try (exfalso; omega))) | ((refine kSpanQ0 ?_); first | ((first | apply q_allD | apply q_alli | apply q_allB) <;> intro _ _ _ _ <;> try contradiction) | (apply q_allv; intro _ _ _)) | fail)); all_goals ((conv => whnf); try with_reducible apply At.mk)))
      have hrows : rowsOf (fun i => (L.f i).cells) L.n ++ (C.run i k).cells = rowsOf (fun j => ((L.plus (C.run i k)).f j).cells) (L.n + 1) := by
        show _ = rowsOf _ L.n ++ _
        congr 1
        · exact rowsOf_congr _ fun j hj => by unfold Runs.plus; dsimp only; rw [if_pos hj]
        · unfold Runs.plus; dsimp only; rw [if_neg (Nat.lt_irrefl _)]
      rw [hrows] at G7
      obtain ⟨a7, g1, g2, g3⟩ := G7.els (fun _ => rfl)
      have g1 := g1 (by omega)
      have g3 := g3 (by omega)
      apply q_call
      focus (exact byNext)
      focus (exact byLo)
      focus exact newTable_w (L := ⟨L.n + 1, (L.plus (C.run i k)).f, v7, a7, 0⟩) (m := h6.next + 19) byOm ⟨fun _ => g1, g2, fun _ => by show a7.block < _; omega, by show L.n + 1 ≤ _; omega⟩ (by show L.n + 1 ≤ 13; omega) (L.plus_val lv (gi.2 k hkw))
      rintro _ h8 ⟨T8, rfl, tn8, tf8, tok8⟩ q8 n8
      have eR : T8.runs = L.plus (C.run i k) := by unfold Tab.runs; rw [tn8, tf8]; rfl
      clear G7 g1 g2 g3
      (focus ((try with_reducible apply wpC.to); (repeat' ((conv => whnf); first | refine byEv ?_ | (apply Fork.mk <;> (intro _; try (exfalso; omega))) | ((refine kSpanQ0 ?_); first | ((first | apply q_allD | apply q_alli | apply q_allB) <;> intro _ _ _ _ <;> try contradiction) | (apply q_allv; intro _ _ _)) | fail)); all_goals ((conv => whnf); try with_reducible apply At.mk)))
      apply q_call
      focus (exact byNext)
      focus (exact byLo)
      focus exact doubt_w (T := T8) (m := h8.next) byOm (tok8.same bySame (Nat.le_refl _))
      rintro _ h9 ⟨M9, bv9, rfl, d19, d29⟩ q9 n9
      cases bv9
      rotate_left
      · obtain ⟨d3, d4⟩ := d19 rfl
        have nc : ¬ Nx.cl L C i k := fun c => bad_cl (L := T8.runs) tok8.val d3 d4 (by rw [eR]; exact c)
        have eM : (⟨M9.cells⟩ : Array Value) = ⟨[.map M9.r, .int .i64 M9.s.u, .int .i64 M9.s.v, .int .i64 M9.s.w, .int .i64 M9.t]⟩ := rfl
        rw [eM]
        (focus ((try with_reducible apply wpC.to); (repeat' ((conv => whnf); first | refine byEv ?_ | (apply Fork.mk <;> (intro _; try (exfalso; omega))) | ((refine kSpanQ0 ?_); first | ((first | apply q_allD | apply q_alli | apply q_allB) <;> intro _ _ _ _ <;> try contradiction) | (apply q_allv; intro _ _ _)) | fail)); all_goals ((conv => whnf); try with_reducible apply At.mk)))
        exact hK2 (k + 1, o) _ _ ⟨rfl, rfl, rfl, rfl, rfl, rfl, rfl, rfl, rfl, rfl, rfl, rfl, rfl, int_of rfl (by dsimp only; omega), trivial⟩ ⟨byGet, byGet, byGet, by unfold Chs.cells; (exact byGet), fun r h1 h2 h3 => (get_of fun y hy => byGet).trans (yfr r h1 h2 h3), bySame, byOm, by dsimp only; omega, ws.skip nc, fun j hj hc => by
          by_cases e : j = k
          · subst e; exact absurd hc nc
          · exact bw j (by dsimp only at hj; omega) hc⟩ (by dsimp only; omega)
      obtain ⟨rfl, cl8⟩ := d29 rfl
      have cl8 : T8.runs.Cl := cl8
      have c8 : Nx.cl L C i k := by unfold Nx.cl; rw [← eR]; exact cl8
      unfold Mk.none Mk.cells
      (focus ((try with_reducible apply wpC.to); (repeat' ((conv => whnf); first | refine byEv ?_ | (apply Fork.mk <;> (intro _; try (exfalso; omega))) | ((refine kSpanQ0 ?_); first | ((first | apply q_allD | apply q_alli | apply q_allB) <;> intro _ _ _ _ <;> try contradiction) | (apply q_allv; intro _ _ _)) | fail)); all_goals ((conv => whnf); try with_reducible apply At.mk)))
      apply q_calli
      focus (exact byNext)
      focus (exact byLo)
      focus exact span_w (T := T8) (m := h8.next) (p := p) (q := q) byOm (tok8.same bySame (Nat.le_refl _)) fac cl8
      rotate_left
      · intro hb h10 q10 n10
        have nb : ¬ Nx.bn L p q C i k := fun b => hb (by rw [eR]; exact ⟨b, bnd_negI (L.plus_val lv (gi.2 k hkw)) b⟩)
        unfold Fr.cells
        (focus ((try with_reducible apply wpC.to); (repeat' ((conv => whnf); first | refine byEv ?_ | (apply Fork.mk <;> (intro _; try (exfalso; omega))) | ((refine kSpanQ0 ?_); first | ((first | apply q_allD | apply q_alli | apply q_allB) <;> intro _ _ _ _ <;> try contradiction) | (apply q_allv; intro _ _ _)) | fail)); all_goals ((conv => whnf); try with_reducible apply At.mk)))
        (refine byFin ?_)
        exact fin 5 (Nx.e4 e0 e2 cl fun kk => nb (kk.1 i hin k hkw c8)) (by decide)
      intro hb h10 q10 n10
      have b8 : Nx.bn L p q C i k := by have := hb.1; rw [eR] at this; exact this
      have wk := ok k c8 hkw b8
      have ew : T8.runs.wide p q = Nx.wd L p q C i k := by rw [eR]; rfl
      have bw2 : BnW L p q C i (k + 1) := fun j hj hc => by
        by_cases e : j = k
        · subst e; exact b8
        · exact bw j (by omega) hc
      rw [ew]
      have dx := wk.d
      have nx := wk.n
      have first := fun h0 : o = none => WSt.first (h0 ▸ ws) c8
      have keep := fun y (h0 : o = some y) => WSt.keep (h0 ▸ ws) (x := y)
      have more := fun y (h0 : o = some y) => WSt.more (h0 ▸ ws) (x := y) (fun j hc hj => ok j hc (by omega) (bw2 j (by omega) hc)) c8
      have oky : ∀ y, o = some y → WideOk y := fun y h0 => by subst h0; exact IsW.ok (L := L) (p := p) (q := q) (C := C) (i := i) (s := k) ws (fun j hc hj => ok j hc (by omega) (bw j hj hc))
      generalize Nx.wd L p q C i k = x at *
      cases o with
      | none =>
        have we : wEnt (ext es i (some x)) = wEnt es ++ [(i, .agg ⟨x.cells⟩)] := by unfold ext wEnt; simp
        unfold ext at ym
        unfold Fr.cells
        (focus ((try with_reducible apply wpC.to); (repeat' ((conv => whnf); first | refine byEv ?_ | (apply Fork.mk <;> (intro _; try (exfalso; omega))) | ((refine kSpanQ0 ?_); first | ((first | apply q_allD | apply q_alli | apply q_allB) <;> intro _ _ _ _ <;> try contradiction) | (apply q_allv; intro _ _ _)) | fail)); all_goals ((conv => whnf); try with_reducible apply At.mk)))
        refine OpE.mk (v := .tuple #[.agg #[.int .i64 0, .int .i64 0], .bool false]) (lookV_none (r := h4.next + 3) (l := wEnt es) (a := i) (ok := Bool.true) (c := (wEnt es).length) Try.underlying3 rfl rfl byGet (wEnt_ne ns.ne)) ?_
        (focus ((try with_reducible apply wpC.to); (repeat' ((conv => whnf); first | refine byEv ?_ | (apply Fork.mk <;> (intro _; try (exfalso; omega))) | ((refine kSpanQ0 ?_); first | ((first | apply q_allD | apply q_alli | apply q_allB) <;> intro _ _ _ _ <;> try contradiction) | (apply q_allv; intro _ _ _)) | fail)); all_goals ((conv => whnf); try with_reducible apply At.mk)))
        refine OpE.mk (mapupV_of (r := h4.next + 3) (l := wEnt es) (a := i) (b := .agg ⟨x.cells⟩) Try.underlying3 rfl rfl rfl (by omega) byGet) ?_
        rw [putV_new (wEnt_ne ns.ne), ← we]
        (focus ((try with_reducible apply wpC.to); (repeat' ((conv => whnf); first | refine byEv ?_ | (apply Fork.mk <;> (intro _; try (exfalso; omega))) | ((refine kSpanQ0 ?_); first | ((first | apply q_allD | apply q_alli | apply q_allB) <;> intro _ _ _ _ <;> try contradiction) | (apply q_allv; intro _ _ _)) | fail)); all_goals ((conv => whnf); try with_reducible apply At.mk)))
        exact hK2 (k + 1, some x) _ _ ⟨rfl, rfl, rfl, rfl, rfl, rfl, rfl, rfl, rfl, rfl, rfl, rfl, rfl, int_of rfl (by dsimp only; omega), trivial⟩ ⟨byGet, byGet, byGet, by unfold Chs.cells; (exact byGet), fun r h1 h2 h3 => (get_of fun y hy => byGet).trans (yfr r h1 h2 h3), bySame, byOm, by dsimp only; omega, first rfl, bw2⟩ (by dsimp only; omega)
      | some y =>
        have we : wEnt (ext es i (some x)) = wEnt es ++ [(i, .agg ⟨x.cells⟩)] := by unfold ext wEnt; simp
        have we' : wEnt (ext es i (some y)) = wEnt es ++ [(i, .agg ⟨y.cells⟩)] := by unfold ext wEnt; simp
        have oy := oky y rfl
        have dy := oy.d
        have ny := oy.n
        unfold Fr.cells
        (focus ((try with_reducible apply wpC.to); (repeat' ((conv => whnf); first | refine byEv ?_ | (apply Fork.mk <;> (intro _; try (exfalso; omega))) | ((refine kSpanQ0 ?_); first | ((first | apply q_allD | apply q_alli | apply q_allB) <;> intro _ _ _ _ <;> try contradiction) | (apply q_allv; intro _ _ _)) | fail)); all_goals ((conv => whnf); try with_reducible apply At.mk)))
        refine OpE.mk (v := .tuple #[.agg ⟨y.cells⟩, .bool true]) (lookV (r := h4.next + 3) (l := wEnt (ext es i (some y))) (a := i) (v := .agg ⟨y.cells⟩) (ok := Bool.true) (c := (wEnt (ext es i (some y))).length) Try.underlying3 rfl rfl byGet (by rw [we']; simp) (by rw [wEnt_keys]; exact ns.nodup)) ?_
        unfold Fr.cells
        (focus ((try with_reducible apply wpC.to); (repeat' ((conv => whnf); first | refine byEv ?_ | (apply Fork.mk <;> (intro _; try (exfalso; omega))) | ((refine kSpanQ0 ?_); first | ((first | apply q_allD | apply q_alli | apply q_allB) <;> intro _ _ _ _ <;> try contradiction) | (apply q_allv; intro _ _ _)) | fail)); all_goals ((conv => whnf); try with_reducible apply At.mk)))
        apply q_callB
        focus (exact byNext)
        focus (exact byLo)
        focus exact less_w (x := y) (y := x) (X := 256000000000) (Y := 640000) (by omega) (by omega) dy dx (by decide)
        · intro hb h12 q12 n12
          have hb := of_decide_eq_true hb
          (focus ((try with_reducible apply wpC.to); (repeat' ((conv => whnf); first | refine byEv ?_ | (apply Fork.mk <;> (intro _; try (exfalso; omega))) | ((refine kSpanQ0 ?_); first | ((first | apply q_allD | apply q_alli | apply q_allB) <;> intro _ _ _ _ <;> try contradiction) | (apply q_allv; intro _ _ _)) | fail)); all_goals ((conv => whnf); try with_reducible apply At.mk)))
          refine OpE.mk (mapupV_of (r := h4.next + 3) (l := wEnt (ext es i (some y))) (a := i) (b := .agg ⟨x.cells⟩) Try.underlying3 rfl rfl rfl (by omega) byGet) ?_
          rw [we', putV_last (wEnt_ne ns.ne), ← we]
          (focus ((try with_reducible apply wpC.to); (repeat' ((conv => whnf); first | refine byEv ?_ | (apply Fork.mk <;> (intro _; try (exfalso; omega))) | ((refine kSpanQ0 ?_); first | ((first | apply q_allD | apply q_alli | apply q_allB) <;> intro _ _ _ _ <;> try contradiction) | (apply q_allv; intro _ _ _)) | fail)); all_goals ((conv => whnf); try with_reducible apply At.mk)))
          exact hK2 (k + 1, some x) _ _ ⟨rfl, rfl, rfl, rfl, rfl, rfl, rfl, rfl, rfl, rfl, rfl, rfl, rfl, int_of rfl (by dsimp only; omega), trivial⟩ ⟨byGet, byGet, byGet, by unfold Chs.cells; (exact byGet), fun r h1 h2 h3 => (get_of fun y hy => byGet).trans (yfr r h1 h2 h3), bySame, byOm, by dsimp only; omega, more y rfl hb, bw2⟩ (by dsimp only; omega)
        · intro hb h12 q12 n12
          have hb := of_decide_eq_false hb
          (focus ((try with_reducible apply wpC.to); (repeat' ((conv => whnf); first | refine byEv ?_ | (apply Fork.mk <;> (intro _; try (exfalso; omega))) | ((refine kSpanQ0 ?_); first | ((first | apply q_allD | apply q_alli | apply q_allB) <;> intro _ _ _ _ <;> try contradiction) | (apply q_allv; intro _ _ _)) | fail)); all_goals ((conv => whnf); try with_reducible apply At.mk)))
          exact hK2 (k + 1, some y) _ _ ⟨rfl, rfl, rfl, rfl, rfl, rfl, rfl, rfl, rfl, rfl, rfl, rfl, rfl, int_of rfl (by dsimp only; omega), trivial⟩ ⟨byGet, byGet, byGet, by unfold Chs.cells; (exact byGet), fun r h1 h2 h3 => (get_of fun y hy => byGet).trans (yfr r h1 h2 h3), bySame, byOm, by dsimp only; omega, keep y rfl hb, bw2⟩ (by dsimp only; omega)
    · obtain rfl : k = C.w i := by omega
      cases o with
      | none =>
        unfold ext at ym
        (focus ((try with_reducible apply wpC.to); (repeat' ((conv => whnf); first | refine byEv ?_ | (apply Fork.mk <;> (intro _; try (exfalso; omega))) | ((refine kSpanQ0 ?_); first | ((first | apply q_allD | apply q_alli | apply q_allB) <;> intro _ _ _ _ <;> try contradiction) | (apply q_allv; intro _ _ _)) | fail)); all_goals ((conv => whnf); try with_reducible apply At.mk)))
        refine OpE.mk (v := .tuple #[.agg #[.int .i64 0, .int .i64 0], .bool false]) (lookV_none (r := h4.next + 3) (l := wEnt es) (a := i) (ok := Bool.true) (c := (wEnt es).length) Try.underlying3 rfl rfl byGet (wEnt_ne ns.ne)) ?_
        (focus ((try with_reducible apply wpC.to); (repeat' ((conv => whnf); first | refine byEv ?_ | (apply Fork.mk <;> (intro _; try (exfalso; omega))) | ((refine kSpanQ0 ?_); first | ((first | apply q_allD | apply q_alli | apply q_allB) <;> intro _ _ _ _ <;> try contradiction) | (apply q_allv; intro _ _ _)) | fail)); all_goals ((conv => whnf); try with_reducible apply At.mk)))
        exact hK (i + 1, es, v, rr) _ _ ⟨rfl, rfl, rfl, rfl, rfl, rfl, rfl, rfl, int_of rfl (by dsimp only; omega), trivial⟩ ⟨byGet, byGet, byGet, ge.frame (fun _ => (get_of fun y hy => byGet).trans (yfr (h4.next + 1) (by omega) (by omega) (by omega))) (fun h0 => (get_of fun y hy => by have := gr h0; (exact byGet)).trans (yfr rr (by have := gr h0; omega) (by have := gr h0; omega) (by have := gr h0; omega))), fun h0 => ⟨(gr h0).1, by have := gr h0; (exact byOm)⟩, bySame, byOm, by dsimp only; omega, ns.skip bw ws⟩ (by dsimp only; omega)
      | some x =>
        have we : wEnt (ext es i (some x)) = wEnt es ++ [(i, .agg ⟨x.cells⟩)] := by unfold ext wEnt; simp
        (focus ((try with_reducible apply wpC.to); (repeat' ((conv => whnf); first | refine byEv ?_ | (apply Fork.mk <;> (intro _; try (exfalso; omega))) | ((refine kSpanQ0 ?_); first | ((first | apply q_allD | apply q_alli | apply q_allB) <;> intro _ _ _ _ <;> try contradiction) | (apply q_allv; intro _ _ _)) | fail)); all_goals ((conv => whnf); try with_reducible apply At.mk)))
        refine OpE.mk (v := .tuple #[.agg ⟨x.cells⟩, .bool true]) (lookV (r := h4.next + 3) (l := wEnt (ext es i (some x))) (a := i) (v := .agg ⟨x.cells⟩) (ok := Bool.true) (c := (wEnt (ext es i (some x))).length) Try.underlying3 rfl rfl byGet (by rw [we]; simp) (by rw [wEnt_keys]; exact ns.nodup)) ?_
        unfold Fr.cells
        (focus ((try with_reducible apply wpC.to); (repeat' ((conv => whnf); first | refine byEv ?_ | (apply Fork.mk <;> (intro _; try (exfalso; omega))) | ((refine kSpanQ0 ?_); first | ((first | apply q_allD | apply q_alli | apply q_allB) <;> intro _ _ _ _ <;> try contradiction) | (apply q_allv; intro _ _ _)) | fail)); all_goals ((conv => whnf); try with_reducible apply At.mk)))
        apply q_appGE (r0 := h4.next + 1) (r := rr) (n := es.length) (cs := natC (es.map Prod.fst)) (nc := [.int .i64 (i : Int)])
        case G => exact ge.frame (fun _ => (get_of fun y hy => byGet).trans (yfr (h4.next + 1) (by omega) (by omega) (by omega))) (fun h0 => (get_of fun y hy => by have := gr h0; (exact byGet)).trans (yfr rr (by have := gr h0; omega) (by have := gr h0; omega) (by have := gr h0; omega)))
        case hsv => exact rfl
        case C => exact Cells.one byMem (by unfold far; omega) rfl rfl
        case hlo => (exact byOm)
        case hlr => exact fun h0 => ⟨by have := gr h0; omega, by have := gr h0; (exact byOm)⟩
        case hsm => have := ns.len; omega
        intro v' r' row a1 a2 a3 G'
        have d1 : h4.next + 5 ≤ r' := by
          rcases Nat.eq_zero_or_pos es.length with h0 | h0
          · have := a1 h0; omega
          · have := a2 h0; have := gr h0; omega
        have en : (es ++ [(i, x)]).length = es.length + 1 := by simp
        (focus ((try with_reducible apply wpC.to); (repeat' ((conv => whnf); first | refine byEv ?_ | (apply Fork.mk <;> (intro _; try (exfalso; omega))) | ((refine kSpanQ0 ?_); first | ((first | apply q_allD | apply q_alli | apply q_allB) <;> intro _ _ _ _ <;> try contradiction) | (apply q_allv; intro _ _ _)) | fail)); all_goals ((conv => whnf); try with_reducible apply At.mk)))
        exact hK (i + 1, es ++ [(i, x)], v', r') _ _ ⟨rfl, rfl, rfl, rfl, slice_len rfl en.symm, rfl, rfl, rfl, int_of rfl (by dsimp only; omega), trivial⟩ ⟨byGet, byGet, byGet, by
          dsimp only
          rw [en, List.map_append]
          show GE _ _ _ _ _ _ (natC (_ ++ [i])) _
          rw [← natC_add]
          exact G'.frame (fun h => absurd h (by omega)) (fun _ => get_of fun y hy => byGet), fun _ => ⟨d1, byOm⟩, bySame, byOm, by dsimp only; omega, ns.add bw ws⟩ (by dsimp only; omega)
  · obtain rfl : i = C.n := by omega
    have okk : ∀ i, i < C.n → ∀ k, Nx.cl L C i k → k < C.w i → WideOk (Nx.wd L p q C i k) := fun i hi k hc hk => wide_ok (L.plus_val lv ((gs i hi).2 k hk)) hc (ns.bn i hi k hk hc) fac
    (focus ((try with_reducible apply wpC.to); (repeat' ((conv => whnf); first | refine byEv ?_ | (apply Fork.mk <;> (intro _; try (exfalso; omega))) | ((refine kSpanQ0 ?_); first | ((first | apply q_allD | apply q_alli | apply q_allB) <;> intro _ _ _ _ <;> try contradiction) | (apply q_allv; intro _ _ _)) | fail)); all_goals ((conv => whnf); try with_reducible apply At.mk)))
    · have h0 : es.length = 0 := by omega
      (refine byFin ?_)
      refine fin 5 (Nx.e4 e0 e2 cl fun kk => ?_) (by decide)
      obtain ⟨o, ho⟩ := kk.2
      rcases ns.all o.1 ho.1.1 with ⟨x, hx⟩ | hn
      · rw [List.length_eq_zero_iff.1 h0] at hx
        exact nomatch hx
      · exact ho.1.2.no hn
    have h0 : 0 < es.length := by omega
    have G5 : GAt rr h5 3 1 es.length (natC (es.map Prod.fst)) v := by
      rcases ge with ⟨hz, -⟩ | ⟨-, G⟩
      · omega
      · exact G
    have gr5 := gr h0
    have nd : (es.map Prod.fst).Nodup := List.Pairwise.imp (R := (· < ·)) (fun h => Nat.ne_of_lt h) ns.inc
    have okE : ∀ e ∈ es, WideOk e.2 := fun e he => (ns.mem e he).2.ok (okk e.1 (ns.mem e he).1)
    apply q_call
    focus (exact byNext)
    focus (exact byLo)
    focus exact firstI_w (es := es) (v := v) (rr := rr) (r := h4.next + 4) (rm := h4.next + 3) (c := (wEnt es).length) (G5.frame (get_of fun y hy => byGet)) byOm byOm byOm byGet byGet nd okE h0 (by have := ns.len; omega)
    rintro _ h6 ⟨b, hb, rfl⟩ q6 n6
    have hbs := ns.best okk hb
    have er : Nx.err L p q C = 0 := Nx.e5 e0 e2 cl ⟨ns.bn, _, hbs⟩
    have res := Nx.res_of er hbs okk
    rw [er, res]
    have hmem := entAt_mem hb.1
    (focus ((try with_reducible apply wpC.to); (repeat' ((conv => whnf); first | refine byEv ?_ | (apply Fork.mk <;> (intro _; try (exfalso; omega))) | ((refine kSpanQ0 ?_); first | ((first | apply q_allD | apply q_alli | apply q_allB) <;> intro _ _ _ _ <;> try contradiction) | (apply q_allv; intro _ _ _)) | fail)); all_goals ((conv => whnf); try with_reducible apply At.mk)))
    refine OpE.mk (v := .agg ⟨(entAt es b).2.cells⟩) (lookV (r := h4.next + 3) (l := wEnt es) (a := (entAt es b).1) (v := .agg ⟨(entAt es b).2.cells⟩) (ok := Bool.false) (c := (wEnt es).length) Try.underlying3 rfl rfl byGet (wEnt_mem (x := (entAt es b).2) hmem) (by rw [wEnt_keys]; exact nd)) ?_
    unfold Fr.cells
    (focus ((try with_reducible apply wpC.to); (repeat' ((conv => whnf); first | refine byEv ?_ | (apply Fork.mk <;> (intro _; try (exfalso; omega))) | ((refine kSpanQ0 ?_); first | ((first | apply q_allD | apply q_alli | apply q_allB) <;> intro _ _ _ _ <;> try contradiction) | (apply q_allv; intro _ _ _)) | fail)); all_goals ((conv => whnf); try with_reducible apply At.mk)))
    (refine byFin ?_)
    rfl
end AE.Try
