/- Walks of agree: rings. -/
import Derived.Test.YtfdlkdjihmlbhaaAgreeQ
import Derived.Test.YtfdlkdjihmlbhaaAEthree
set_option linter.unusedVariables false
set_option linter.unusedSimpArgs false
set_option linter.unusedSectionVars false
namespace AE.Try
set_option linter.unusedSimpArgs false
open Go AE AE.Ag AgreeS Go.Proofs
set_option maxRecDepth 100000

theorem ext1 : Extern.findNext Try.f64 = none := by kernel_rfl
theorem ext2 : Extern.find Try.f64 = some Extern.MapsClone.clone := by kernel_rfl
theorem ext3 : Try.prog.funcs[64]? = some Try.f64 := rfl
theorem ext4 : (Try.f64.name == "runtime.NumGoroutine") = false := by kernel_rfl
theorem callClone (xs : Array Value) (w : World) : (callFunc 64 xs).run Try.prog w = ((Extern.MapsClone.clone xs).run Try.prog w).andThen fun v w' => .ok (.value v) w' := by
  unfold callFunc
  have e5 : Try.f64.body.isNone = true := rfl
  simp only [Sem.run_bind, program, Sem.run, mark]
  simp only [Result.andThen, ext3, ext4, e5, ext1, ext2, Bool.false_eq_true, if_false, if_true, Sem.run_bind, Sem.run]
  cases (Sem.run Try.prog (Extern.MapsClone.clone xs) w) <;> rfl

theorem clone_w {h : H} {r : Nat} {es : List MapEntry} {c : Nat} (hg : h.get r = some (.map es c)) : AW Try.prog 57 h.next h [.map (some r)] (fun v h' => ∃ r', v = .map (some r') ∧ h.next ≤ r' ∧ r' < h'.next ∧ h'.get r' = some (.map es c)) := by
  refine fun57.call rfl (Nat.le_refl _) ?_
  unfold a57
  (focus ((try with_reducible apply wpC.to); (repeat' ((conv => whnf); first | ((apply Start.mk); (focus exact byNext); (focus exact byLen)) | ((apply New.mk); (focus exact byNid)) | ((with_reducible apply Ix.pred); (focus first | assumption | exact fun _ => rfl); (focus omega); (focus omega)) | ((apply OpE.val); (focus exact rfl); (focus exact byVal)) | apply forceV_any | apply forceL_any)); all_goals (conv => whnf); all_goals (try with_reducible apply At.mk)))
  refine CallF.raw (clone_acall (r := r) (es := es) (c := c) callClone (by show h.next ≤ _; simp only [bump_next]; omega) (by (exact byGet))) ?_
  (focus ((try with_reducible apply wpC.to); (repeat' ((conv => whnf); first | ((apply Start.mk); (focus exact byNext); (focus exact byLen)) | ((apply New.mk); (focus exact byNid)) | ((with_reducible apply Ix.pred); (focus first | assumption | exact fun _ => rfl); (focus omega); (focus omega)) | ((apply OpE.val); (focus exact rfl); (focus exact byVal)) | apply forceV_any | apply forceL_any)); all_goals (conv => whnf); all_goals (try with_reducible apply At.mk)))
  (first | (apply fin1; (focus first | exact .inl rfl | exact .inr rfl); focus exact byR1) | (apply fin2; (focus first | exact .inl rfl | exact .inr rfl); (focus exact byR1); (focus exact byR1)) | (apply fin3; (focus first | exact .inl rfl | exact .inr rfl); (focus exact byR1); (focus exact byR1); (focus exact byR1)) | (apply fin0; (focus first | exact .inl rfl | exact .inr rfl)))
  exact ⟨_, rfl, by simp only [bump_next]; omega, by simp only [put_next, bump_next]; omega, by (exact byGet)⟩

/-- A look-up, and a delete, in a map that is written out. -/
theorem lookup_lit {lo nid r : Nat} {ts : Ts} {h : H} {kt : TypeId} {z k v : Value} {ok : Bool} {m x : Opd} {es : List MapEntry} {c : Nat} (hm : ev ts m = .map (some r)) (hx : ev ts x = k) (hg : h.get r = some (.map es c)) (hf : (afind Try.prog es.isEmpty kt k es).bind (luOut z ok es) = some v) :
    aop Try.prog lo nid ts h (.lookup kt z ok m x) = some (v, h) := by
  simp only [aop, hm, hx, xLookup, hg, hf, keep, Option.map_some]
theorem delete_lit {lo nid r : Nat} {ts : Ts} {h : H} {kt : TypeId} {k : Value} {m x : Opd} {es es' : List MapEntry} {c i : Nat} (hm : ev ts m = .map (some r)) (hx : ev ts x = k) (hlo : lo ≤ r) (hg : h.get r = some (.map es c)) (hf : afind Try.prog es.isEmpty kt k es = some (some i)) (he : es.eraseIdx i = es') :
    aop Try.prog lo nid ts h (.delete kt m x) = some (.tuple #[], h.put r (.map es' c)) := by
  simp only [aop, hm, hx, xDelete, if_pos hlo, hg, hf, Option.map_some, he]

/-- The map of the second example of the chapter, and what is left of it. -/
def ring0 : List (Nat × Nat) := [(1, 4), (2, 3), (3, 1), (4, 2), (0, 1)]
def ringE : Nat → List MapEntry
  | 0 => [⟨.int .i64 1, .int .i64 4, 0⟩, ⟨.int .i64 2, .int .i64 3, 1⟩, ⟨.int .i64 3, .int .i64 1, 2⟩, ⟨.int .i64 4, .int .i64 2, 3⟩, ⟨.int .i64 0, .int .i64 1, 4⟩]
  | 1 => [⟨.int .i64 2, .int .i64 3, 1⟩, ⟨.int .i64 3, .int .i64 1, 2⟩, ⟨.int .i64 4, .int .i64 2, 3⟩, ⟨.int .i64 0, .int .i64 1, 4⟩]
  | 2 => [⟨.int .i64 2, .int .i64 3, 1⟩, ⟨.int .i64 3, .int .i64 1, 2⟩, ⟨.int .i64 0, .int .i64 1, 4⟩]
  | 3 => [⟨.int .i64 3, .int .i64 1, 2⟩, ⟨.int .i64 0, .int .i64 1, 4⟩]
  | _ => [⟨.int .i64 0, .int .i64 1, 4⟩]
def ringAt : Nat → Int
  | 0 => 1
  | 1 => 4
  | 2 => 2
  | 3 => 3
  | _ => 1
theorem iCells_congr {f g : Nat → Int} (n : Nat) (h : ∀ i, i < n → f i = g i) : iCells f n = iCells g n := by
  unfold iCells
  exact rowsOf_congr n fun i hi => by rw [h i hi]
theorem gat_congr {r n : Nat} {h : H} {e : TypeId} {f g : Nat → Int} {v : Option Addr} (hfg : ∀ i, i < n → f i = g i) (G : GAt r h e 1 n (iCells f n) v) : GAt r h e 1 n (iCells g n) v := iCells_congr n hfg ▸ G
theorem sto_gat {r lo n sz off m : Nat} {h : H} {e : TypeId} {cs vs : List Value} {a : Addr} {k : H → Prop} (G : GAt r h e sz n cs (some a)) (hlo : lo ≤ r) (ho : vs.all Value.oneCell' = true) (hle : off + vs.length ≤ cs.length) (hm : vs.length = m)
    (hk : ∀ row, GAt r (h.put r row) e sz n (splice cs off vs) (some a) → k (h.put r row)) : Sto lo h (aadd a off) m vs k := by
  obtain ⟨a', ha, -, -, hst⟩ := G.load
  simp only [Option.some.injEq] at ha
  subst ha
  obtain ⟨row, h1, h2⟩ := hst lo off vs hlo ho hle
  exact .raw h1 hm (hk row h2)
theorem ring0_ents : ents ring0 0 = ringE 0 := rfl

set_option maxHeartbeats 1000000 in
theorem reverse_w {h : H} {lo r n : Nat} {f : Nat → Int} {v : Option Addr} (hlo : lo ≤ r) (hr : r < h.next) (hn : n ≤ 1000) (G : GAt r h 3 1 n (iCells f n) v) :
    AW Try.prog 58 lo h [.slice v n 0] (fun _ h' => GAt r h' 3 1 n (iCells (fun i => f (n - 1 - i)) n) v ∧ ∀ s, s < h.next → s ≠ r → h'.get s = h.get s) := by
  refine fun58.call rfl (by omega) ?_
  unfold a58
  obtain ⟨a, rfl, ha, -, -⟩ := G.load
  have hn0 : 0 < n := by obtain ⟨_, _, _, _, _, _, _, _, h0⟩ := G.is; exact h0
  (focus ((try with_reducible apply wpC.to); (repeat' ((conv => whnf); first | ((apply Start.mk); (focus exact byNext); (focus exact byLen)) | ((apply Need.mk); (focus exact byNeed)) | ((apply Fork.mk) <;> (intro _; try (exfalso; omega; done))) | ((apply Load1.mk); (focus exact byMem); (focus exact byVal)) | ((apply Sto.mk); (focus exact bySto); (focus exact byLo); (focus exact byGet); (focus exact rfl); (focus exact rfl); (focus exact rfl); (focus exact byList)) | ((with_reducible apply Ix.nat); (focus exact rfl); (focus omega)) | ((with_reducible apply Ix.natp); (focus assumption); (focus omega)) | ((with_reducible apply Ix.pred); (focus first | assumption | exact fun _ => rfl); (focus omega); (focus omega)) | ((with_reducible apply Ix.lit); (focus exact byLit); (focus first | assumption | exact fun _ => rfl); (focus omega); (focus omega)) | ((with_reducible apply Ix.int); (focus exact rfl); (focus omega); (focus omega)) | ((with_reducible apply Ix.intp); (focus assumption); (focus omega); (focus omega)) | apply forceV_any | apply forceL_any)); all_goals (conv => whnf); all_goals (try with_reducible apply At.mk)))
  refine wp_loop (fun s : Nat => [(0, .slice (some a) n 0), (2, .int .i64 s), (3, .int .i64 (n - 1 - s))]) (fun s h1 => GAt r h1 3 1 n (iCells (fun i => if i < s ∨ n ≤ i + s then f (n - 1 - i) else f i) n) (some a) ∧ (∀ s, s < h.next → s ≠ r → h1.get s = h.get s) ∧ h.next ≤ h1.next ∧ 2 * s ≤ n + 1) (fun s => n - s) 0
    ⟨rfl, rfl, int_of rfl (by omega), trivial⟩ ⟨?_, ?_, by (exact byOm), by omega⟩ ?_
  · refine (iCells_congr n fun i hi => ?_) ▸ G.frame rfl
    rw [if_neg (by omega)]
  · exact fun s _ _ => rfl
  rintro s g h1 ⟨G1, hsame, hn1, hs⟩ K hK
  obtain ⟨a', ha', -, hld, hst⟩ := G1.load
  simp only [Option.some.injEq] at ha'
  subst ha'
  (focus ((try with_reducible apply wpC.to); (repeat' ((conv => whnf); first | ((apply Start.mk); (focus exact byNext); (focus exact byLen)) | ((apply Need.mk); (focus exact byNeed)) | ((apply Fork.mk) <;> (intro _; try (exfalso; omega; done))) | ((apply Load1.mk); (focus exact byMem); (focus exact byVal)) | ((apply Sto.mk); (focus exact bySto); (focus exact byLo); (focus exact byGet); (focus exact rfl); (focus exact rfl); (focus exact rfl); (focus exact byList)) | ((with_reducible apply Ix.nat); (focus exact rfl); (focus omega)) | ((with_reducible apply Ix.natp); (focus assumption); (focus omega)) | ((with_reducible apply Ix.pred); (focus first | assumption | exact fun _ => rfl); (focus omega); (focus omega)) | ((with_reducible apply Ix.lit); (focus exact byLit); (focus first | assumption | exact fun _ => rfl); (focus omega); (focus omega)) | ((with_reducible apply Ix.int); (focus exact rfl); (focus omega); (focus omega)) | ((with_reducible apply Ix.intp); (focus assumption); (focus omega); (focus omega)) | apply forceV_any | apply forceL_any)); all_goals (conv => whnf); all_goals (try with_reducible apply At.mk)))
  · refine Load1.mk (hld _ 1 _ (by rw [Nat.mul_one]; exact iCells_cut (by omega))) rfl ?_
    (focus ((try with_reducible apply wpC.to); (repeat' ((conv => whnf); first | ((apply Start.mk); (focus exact byNext); (focus exact byLen)) | ((apply Need.mk); (focus exact byNeed)) | ((apply Fork.mk) <;> (intro _; try (exfalso; omega; done))) | ((apply Load1.mk); (focus exact byMem); (focus exact byVal)) | ((apply Sto.mk); (focus exact bySto); (focus exact byLo); (focus exact byGet); (focus exact rfl); (focus exact rfl); (focus exact rfl); (focus exact byList)) | ((with_reducible apply Ix.nat); (focus exact rfl); (focus omega)) | ((with_reducible apply Ix.natp); (focus assumption); (focus omega)) | ((with_reducible apply Ix.pred); (focus first | assumption | exact fun _ => rfl); (focus omega); (focus omega)) | ((with_reducible apply Ix.lit); (focus exact byLit); (focus first | assumption | exact fun _ => rfl); (focus omega); (focus omega)) | ((with_reducible apply Ix.int); (focus exact rfl); (focus omega); (focus omega)) | ((with_reducible apply Ix.intp); (focus assumption); (focus omega); (focus omega)) | apply forceV_any | apply forceL_any)); all_goals (conv => whnf); all_goals (try with_reducible apply At.mk)))
    refine Load1.mk (hld _ 1 _ (by rw [Nat.mul_one]; exact iCells_cut (by omega))) rfl ?_
    have e1 : ((n : Int) - 1 - s).toNat = n - 1 - s := by omega
    rw [if_neg (by omega), if_neg (by omega), e1]
    (focus ((try with_reducible apply wpC.to); (repeat' ((conv => whnf); first | ((apply Start.mk); (focus exact byNext); (focus exact byLen)) | ((apply Need.mk); (focus exact byNeed)) | ((apply Fork.mk) <;> (intro _; try (exfalso; omega; done))) | ((apply Load1.mk); (focus exact byMem); (focus exact byVal)) | ((apply Sto.mk); (focus exact bySto); (focus exact byLo); (focus exact byGet); (focus exact rfl); (focus exact rfl); (focus exact rfl); (focus exact byList)) | ((with_reducible apply Ix.nat); (focus exact rfl); (focus omega)) | ((with_reducible apply Ix.natp); (focus assumption); (focus omega)) | ((with_reducible apply Ix.pred); (focus first | assumption | exact fun _ => rfl); (focus omega); (focus omega)) | ((with_reducible apply Ix.lit); (focus exact byLit); (focus first | assumption | exact fun _ => rfl); (focus omega); (focus omega)) | ((with_reducible apply Ix.int); (focus exact rfl); (focus omega); (focus omega)) | ((with_reducible apply Ix.intp); (focus assumption); (focus omega); (focus omega)) | apply forceV_any | apply forceL_any)); all_goals (conv => whnf); all_goals (try with_reducible apply At.mk)))
    refine sto_gat (r := r) (G1.frame (get_of fun y hy => by (exact byGet))) hlo rfl (by rw [iCells_len]; simp; omega) rfl fun row G2 => ?_
    rw [iCells_set _ _ (i := s) (by omega) (by omega)] at G2
    (focus ((try with_reducible apply wpC.to); (repeat' ((conv => whnf); first | ((apply Start.mk); (focus exact byNext); (focus exact byLen)) | ((apply Need.mk); (focus exact byNeed)) | ((apply Fork.mk) <;> (intro _; try (exfalso; omega; done))) | ((apply Load1.mk); (focus exact byMem); (focus exact byVal)) | ((apply Sto.mk); (focus exact bySto); (focus exact byLo); (focus exact byGet); (focus exact rfl); (focus exact rfl); (focus exact rfl); (focus exact byList)) | ((with_reducible apply Ix.nat); (focus exact rfl); (focus omega)) | ((with_reducible apply Ix.natp); (focus assumption); (focus omega)) | ((with_reducible apply Ix.pred); (focus first | assumption | exact fun _ => rfl); (focus omega); (focus omega)) | ((with_reducible apply Ix.lit); (focus exact byLit); (focus first | assumption | exact fun _ => rfl); (focus omega); (focus omega)) | ((with_reducible apply Ix.int); (focus exact rfl); (focus omega); (focus omega)) | ((with_reducible apply Ix.intp); (focus assumption); (focus omega); (focus omega)) | apply forceV_any | apply forceL_any)); all_goals (conv => whnf); all_goals (try with_reducible apply At.mk)))
    rw [e1]
    refine sto_gat (r := r) (G2.frame (get_of fun y hy => by (exact byGet))) hlo rfl (by rw [iCells_len]; simp; omega) rfl fun row2 G3 => ?_
    rw [iCells_set _ _ (i := n - 1 - s) (by omega) (by omega)] at G3
    (focus ((try with_reducible apply wpC.to); (repeat' ((conv => whnf); first | ((apply Start.mk); (focus exact byNext); (focus exact byLen)) | ((apply Need.mk); (focus exact byNeed)) | ((apply Fork.mk) <;> (intro _; try (exfalso; omega; done))) | ((apply Load1.mk); (focus exact byMem); (focus exact byVal)) | ((apply Sto.mk); (focus exact bySto); (focus exact byLo); (focus exact byGet); (focus exact rfl); (focus exact rfl); (focus exact rfl); (focus exact byList)) | ((with_reducible apply Ix.nat); (focus exact rfl); (focus omega)) | ((with_reducible apply Ix.natp); (focus assumption); (focus omega)) | ((with_reducible apply Ix.pred); (focus first | assumption | exact fun _ => rfl); (focus omega); (focus omega)) | ((with_reducible apply Ix.lit); (focus exact byLit); (focus first | assumption | exact fun _ => rfl); (focus omega); (focus omega)) | ((with_reducible apply Ix.int); (focus exact rfl); (focus omega); (focus omega)) | ((with_reducible apply Ix.intp); (focus assumption); (focus omega); (focus omega)) | apply forceV_any | apply forceL_any)); all_goals (conv => whnf); all_goals (try with_reducible apply At.mk)))
    refine hK (s + 1) _ _ ⟨rfl, int_of rfl (by omega), int_of rfl (by omega), trivial⟩ ⟨gat_congr (fun i hi => ?_) (G3.frame (get_of fun y hy => by (exact byGet))), fun j hj hne => ?_, by (exact byOm), by omega⟩ (by omega)
    · simp only [updN]
      by_cases i1 : i = n - 1 - s
      · subst i1
        rw [if_pos rfl, if_pos (by omega)]
        congr 1
        omega
      · rw [if_neg i1]
        by_cases i2 : i = s
        · subst i2; rw [if_pos rfl, if_pos (by omega)]
        · rw [if_neg i2]
          by_cases i3 : i < s ∨ n ≤ i + s
          · rw [if_pos i3, if_pos (by omega)]
          · rw [if_neg i3, if_neg (by omega)]
    · rw [← hsame j hj hne]
      exact get_of fun y hy => by (exact byGet)
  · (first | (apply fin1; (focus first | exact .inl rfl | exact .inr rfl); focus exact byR1) | (apply fin2; (focus first | exact .inl rfl | exact .inr rfl); (focus exact byR1); (focus exact byR1)) | (apply fin3; (focus first | exact .inl rfl | exact .inr rfl); (focus exact byR1); (focus exact byR1); (focus exact byR1)) | (apply fin0; (focus first | exact .inl rfl | exact .inr rfl)))
    refine ⟨gat_congr (fun i hi => ?_) (G1.frame rfl), fun j hj hne => hsame j hj hne⟩
    by_cases i3 : i < s ∨ n ≤ i + s
    · rw [if_pos i3]
    · rw [if_neg i3]
      congr 1
      omega

def ringL : Nat → Nat
  | 0 => 1
  | 1 => 3
  | 2 => 2
  | 3 => 4
  | _ => 1

set_option maxHeartbeats 2000000 in
theorem ring_w {h : H} {hr r0 mr : Nat} {x : St} {e : TypeId} (hhr : hr < h.next) (hmr : mr < h.next) (hx : x.before = ring0) (hl : x.last = 1) (hg : h.get hr = some (.cells (hCells r0 mr x) e)) (hgm : h.get mr = some (.map (ents x.before 0) x.before.length)) :
    AW Try.prog 42 h.next h [.pointer (some ⟨hr, 0, none⟩)] (fun v h' => ∃ A : Arr, v = A.val ∧ A.n = 5 ∧ (∀ i, i < 5 → A.f i = (ringL i : Int)) ∧ A.Ok h'.next h') := by
  rw [hx] at hgm
  refine fun42.call rfl (Nat.le_refl _) ?_
  unfold a42
  (focus ((try with_reducible apply wpC.to); (repeat' ((conv => whnf); first | ((apply Start.mk); (focus exact byNext); (focus exact byLen)) | ((apply New.mk); (focus exact byNid)) | ((apply Need.mk); (focus exact byNeed)) | ((apply Fork.mk) <;> (intro _; try (exfalso; omega; done))) | ((apply Load1.mk); (focus exact byMem); (focus exact byVal)) | ((with_reducible apply Ix.pred); (focus first | assumption | exact fun _ => rfl); (focus omega); (focus omega)) | ((apply OpE.val); (focus exact rfl); (focus exact byVal)) | apply forceV_any | apply forceL_any)); all_goals (conv => whnf); all_goals (try with_reducible apply At.mk)))
  refine Load1.mk (h_map (by (exact byGet))) rfl ?_
  (focus ((try with_reducible apply wpC.to); (repeat' ((conv => whnf); first | ((apply Start.mk); (focus exact byNext); (focus exact byLen)) | ((apply New.mk); (focus exact byNid)) | ((apply Need.mk); (focus exact byNeed)) | ((apply Fork.mk) <;> (intro _; try (exfalso; omega; done))) | ((apply Load1.mk); (focus exact byMem); (focus exact byVal)) | ((with_reducible apply Ix.pred); (focus first | assumption | exact fun _ => rfl); (focus omega); (focus omega)) | ((apply OpE.val); (focus exact rfl); (focus exact byVal)) | apply forceV_any | apply forceL_any)); all_goals (conv => whnf); all_goals (try with_reducible apply At.mk)))
  apply q_call
  focus (exact byNext)
  focus (exact byLo)
  focus exact clone_w (es := ents ring0 0) (c := 5) (by (exact byGet))
  rintro _ h1 ⟨r', rfl, hr1, hr2, hgc⟩ q1 hn1
  try simp only [bump_next] at hr1
  (focus ((try with_reducible apply wpC.to); (repeat' ((conv => whnf); first | ((apply Start.mk); (focus exact byNext); (focus exact byLen)) | ((apply New.mk); (focus exact byNid)) | ((apply Need.mk); (focus exact byNeed)) | ((apply Fork.mk) <;> (intro _; try (exfalso; omega; done))) | ((apply Load1.mk); (focus exact byMem); (focus exact byVal)) | ((with_reducible apply Ix.pred); (focus first | assumption | exact fun _ => rfl); (focus omega); (focus omega)) | ((apply OpE.val); (focus exact rfl); (focus exact byVal)) | apply forceV_any | apply forceL_any)); all_goals (conv => whnf); all_goals (try with_reducible apply At.mk)))
  refine Load1.mk (h_last (by (exact byGet))) (congrArg (Value.int .i64) hl) ?_
  (focus ((try with_reducible apply wpC.to); (repeat' ((conv => whnf); first | ((apply Start.mk); (focus exact byNext); (focus exact byLen)) | ((apply New.mk); (focus exact byNid)) | ((apply Need.mk); (focus exact byNeed)) | ((apply Fork.mk) <;> (intro _; try (exfalso; omega; done))) | ((apply Load1.mk); (focus exact byMem); (focus exact byVal)) | ((with_reducible apply Ix.pred); (focus first | assumption | exact fun _ => rfl); (focus omega); (focus omega)) | ((apply OpE.val); (focus exact rfl); (focus exact byVal)) | apply forceV_any | apply forceL_any)); all_goals (conv => whnf); all_goals (try with_reducible apply At.mk)))
  refine wp_loop (fun s : Nat => [(0, .pointer (some ⟨hr, 0, none⟩)), (3, .map (some r')), (4, .int .i64 (ringAt s))]) (fun s h2 => Same h.next h h2 ∧ h1.next ≤ h2.next ∧ h2.get r' = some (.map (ringE s) 5) ∧ s ≤ 4) (fun s => 5 - s) 0
    ⟨rfl, rfl, rfl, trivial⟩ ⟨by (exact bySame), by (exact byOm), by (exact byGet), by omega⟩ ?_
  rintro s g h2 ⟨sm, hn2, g1, hs⟩ K hK
  have hs5 : s = 0 ∨ s = 1 ∨ s = 2 ∨ s = 3 ∨ s = 4 := by omega
  rcases hs5 with rfl | rfl | rfl | rfl | rfl
  · (focus ((try with_reducible apply wpC.to); (repeat' ((conv => whnf); first | ((apply Start.mk); (focus exact byNext); (focus exact byLen)) | ((apply New.mk); (focus exact byNid)) | ((apply Need.mk); (focus exact byNeed)) | ((apply Fork.mk) <;> (intro _; try (exfalso; omega; done))) | ((apply Load1.mk); (focus exact byMem); (focus exact byVal)) | ((with_reducible apply Ix.pred); (focus first | assumption | exact fun _ => rfl); (focus omega); (focus omega)) | ((apply OpE.val); (focus exact rfl); (focus exact byVal)) | apply forceV_any | apply forceL_any)); all_goals (conv => whnf); all_goals (try with_reducible apply At.mk)))
    refine OpE.mk (lookup_lit (r := r') (v := .tuple #[.int .i64 4, .bool true]) rfl rfl (by (exact byGet)) (by kernel_rfl)) ?_
    (focus ((try with_reducible apply wpC.to); (repeat' ((conv => whnf); first | ((apply Start.mk); (focus exact byNext); (focus exact byLen)) | ((apply New.mk); (focus exact byNid)) | ((apply Need.mk); (focus exact byNeed)) | ((apply Fork.mk) <;> (intro _; try (exfalso; omega; done))) | ((apply Load1.mk); (focus exact byMem); (focus exact byVal)) | ((with_reducible apply Ix.pred); (focus first | assumption | exact fun _ => rfl); (focus omega); (focus omega)) | ((apply OpE.val); (focus exact rfl); (focus exact byVal)) | apply forceV_any | apply forceL_any)); all_goals (conv => whnf); all_goals (try with_reducible apply At.mk)))
    refine OpE.mk (delete_lit (r := r') (i := 0) (es' := ringE 1) rfl rfl (by omega) (by (exact byGet)) (by kernel_rfl) rfl) ?_
    (focus ((try with_reducible apply wpC.to); (repeat' ((conv => whnf); first | ((apply Start.mk); (focus exact byNext); (focus exact byLen)) | ((apply New.mk); (focus exact byNid)) | ((apply Need.mk); (focus exact byNeed)) | ((apply Fork.mk) <;> (intro _; try (exfalso; omega; done))) | ((apply Load1.mk); (focus exact byMem); (focus exact byVal)) | ((with_reducible apply Ix.pred); (focus first | assumption | exact fun _ => rfl); (focus omega); (focus omega)) | ((apply OpE.val); (focus exact rfl); (focus exact byVal)) | apply forceV_any | apply forceL_any)); all_goals (conv => whnf); all_goals (try with_reducible apply At.mk)))
    exact hK 1 _ _ ⟨rfl, rfl, rfl, trivial⟩ ⟨by (exact bySame), by (exact byOm), by (exact byGet), by omega⟩ (by omega)
  · (focus ((try with_reducible apply wpC.to); (repeat' ((conv => whnf); first | ((apply Start.mk); (focus exact byNext); (focus exact byLen)) | ((apply New.mk); (focus exact byNid)) | ((apply Need.mk); (focus exact byNeed)) | ((apply Fork.mk) <;> (intro _; try (exfalso; omega; done))) | ((apply Load1.mk); (focus exact byMem); (focus exact byVal)) | ((with_reducible apply Ix.pred); (focus first | assumption | exact fun _ => rfl); (focus omega); (focus omega)) | ((apply OpE.val); (focus exact rfl); (focus exact byVal)) | apply forceV_any | apply forceL_any)); all_goals (conv => whnf); all_goals (try with_reducible apply At.mk)))
    refine OpE.mk (lookup_lit (r := r') (v := .tuple #[.int .i64 2, .bool true]) rfl rfl (by (exact byGet)) (by kernel_rfl)) ?_
    (focus ((try with_reducible apply wpC.to); (repeat' ((conv => whnf); first | ((apply Start.mk); (focus exact byNext); (focus exact byLen)) | ((apply New.mk); (focus exact byNid)) | ((apply Need.mk); (focus exact byNeed)) | ((apply Fork.mk) <;> (intro _; try (exfalso; omega; done))) | ((apply Load1.mk); (focus exact byMem); (focus exact byVal)) | ((with_reducible apply Ix.pred); (focus first | assumption | exact fun _ => rfl); (focus omega); (focus omega)) | ((apply OpE.val); (focus exact rfl); (focus exact byVal)) | apply forceV_any | apply forceL_any)); all_goals (conv => whnf); all_goals (try with_reducible apply At.mk)))
    refine OpE.mk (delete_lit (r := r') (i := 2) (es' := ringE 2) rfl rfl (by omega) (by (exact byGet)) (by kernel_rfl) rfl) ?_
    (focus ((try with_reducible apply wpC.to); (repeat' ((conv => whnf); first | ((apply Start.mk); (focus exact byNext); (focus exact byLen)) | ((apply New.mk); (focus exact byNid)) | ((apply Need.mk); (focus exact byNeed)) | ((apply Fork.mk) <;> (intro _; try (exfalso; omega; done))) | ((apply Load1.mk); (focus exact byMem); (focus exact byVal)) | ((with_reducible apply Ix.pred); (focus first | assumption | exact fun _ => rfl); (focus omega); (focus omega)) | ((apply OpE.val); (focus exact rfl); (focus exact byVal)) | apply forceV_any | apply forceL_any)); all_goals (conv => whnf); all_goals (try with_reducible apply At.mk)))
    exact hK 2 _ _ ⟨rfl, rfl, rfl, trivial⟩ ⟨by (exact bySame), by (exact byOm), by (exact byGet), by omega⟩ (by omega)
  · (focus ((try with_reducible apply wpC.to); (repeat' ((conv => whnf); first | ((apply Start.mk); (focus exact byNext); (focus exact byLen)) | ((apply New.mk); (focus exact byNid)) | ((apply Need.mk); (focus exact byNeed)) | ((apply Fork.mk) <;> (intro _; try (exfalso; omega; done))) | ((apply Load1.mk); (focus exact byMem); (focus exact byVal)) | ((with_reducible apply Ix.pred); (focus first | assumption | exact fun _ => rfl); (focus omega); (focus omega)) | ((apply OpE.val); (focus exact rfl); (focus exact byVal)) | apply forceV_any | apply forceL_any)); all_goals (conv => whnf); all_goals (try with_reducible apply At.mk)))
    refine OpE.mk (lookup_lit (r := r') (v := .tuple #[.int .i64 3, .bool true]) rfl rfl (by (exact byGet)) (by kernel_rfl)) ?_
    (focus ((try with_reducible apply wpC.to); (repeat' ((conv => whnf); first | ((apply Start.mk); (focus exact byNext); (focus exact byLen)) | ((apply New.mk); (focus exact byNid)) | ((apply Need.mk); (focus exact byNeed)) | ((apply Fork.mk) <;> (intro _; try (exfalso; omega; done))) | ((apply Load1.mk); (focus exact byMem); (focus exact byVal)) | ((with_reducible apply Ix.pred); (focus first | assumption | exact fun _ => rfl); (focus omega); (focus omega)) | ((apply OpE.val); (focus exact rfl); (focus exact byVal)) | apply forceV_any | apply forceL_any)); all_goals (conv => whnf); all_goals (try with_reducible apply At.mk)))
    refine OpE.mk (delete_lit (r := r') (i := 0) (es' := ringE 3) rfl rfl (by omega) (by (exact byGet)) (by kernel_rfl) rfl) ?_
    (focus ((try with_reducible apply wpC.to); (repeat' ((conv => whnf); first | ((apply Start.mk); (focus exact byNext); (focus exact byLen)) | ((apply New.mk); (focus exact byNid)) | ((apply Need.mk); (focus exact byNeed)) | ((apply Fork.mk) <;> (intro _; try (exfalso; omega; done))) | ((apply Load1.mk); (focus exact byMem); (focus exact byVal)) | ((with_reducible apply Ix.pred); (focus first | assumption | exact fun _ => rfl); (focus omega); (focus omega)) | ((apply OpE.val); (focus exact rfl); (focus exact byVal)) | apply forceV_any | apply forceL_any)); all_goals (conv => whnf); all_goals (try with_reducible apply At.mk)))
    exact hK 3 _ _ ⟨rfl, rfl, rfl, trivial⟩ ⟨by (exact bySame), by (exact byOm), by (exact byGet), by omega⟩ (by omega)
  · (focus ((try with_reducible apply wpC.to); (repeat' ((conv => whnf); first | ((apply Start.mk); (focus exact byNext); (focus exact byLen)) | ((apply New.mk); (focus exact byNid)) | ((apply Need.mk); (focus exact byNeed)) | ((apply Fork.mk) <;> (intro _; try (exfalso; omega; done))) | ((apply Load1.mk); (focus exact byMem); (focus exact byVal)) | ((with_reducible apply Ix.pred); (focus first | assumption | exact fun _ => rfl); (focus omega); (focus omega)) | ((apply OpE.val); (focus exact rfl); (focus exact byVal)) | apply forceV_any | apply forceL_any)); all_goals (conv => whnf); all_goals (try with_reducible apply At.mk)))
    refine OpE.mk (lookup_lit (r := r') (v := .tuple #[.int .i64 1, .bool true]) rfl rfl (by (exact byGet)) (by kernel_rfl)) ?_
    (focus ((try with_reducible apply wpC.to); (repeat' ((conv => whnf); first | ((apply Start.mk); (focus exact byNext); (focus exact byLen)) | ((apply New.mk); (focus exact byNid)) | ((apply Need.mk); (focus exact byNeed)) | ((apply Fork.mk) <;> (intro _; try (exfalso; omega; done))) | ((apply Load1.mk); (focus exact byMem); (focus exact byVal)) | ((with_reducible apply Ix.pred); (focus first | assumption | exact fun _ => rfl); (focus omega); (focus omega)) | ((apply OpE.val); (focus exact rfl); (focus exact byVal)) | apply forceV_any | apply forceL_any)); all_goals (conv => whnf); all_goals (try with_reducible apply At.mk)))
    refine OpE.mk (delete_lit (r := r') (i := 0) (es' := ringE 4) rfl rfl (by omega) (by (exact byGet)) (by kernel_rfl) rfl) ?_
    (focus ((try with_reducible apply wpC.to); (repeat' ((conv => whnf); first | ((apply Start.mk); (focus exact byNext); (focus exact byLen)) | ((apply New.mk); (focus exact byNid)) | ((apply Need.mk); (focus exact byNeed)) | ((apply Fork.mk) <;> (intro _; try (exfalso; omega; done))) | ((apply Load1.mk); (focus exact byMem); (focus exact byVal)) | ((with_reducible apply Ix.pred); (focus first | assumption | exact fun _ => rfl); (focus omega); (focus omega)) | ((apply OpE.val); (focus exact rfl); (focus exact byVal)) | apply forceV_any | apply forceL_any)); all_goals (conv => whnf); all_goals (try with_reducible apply At.mk)))
    exact hK 4 _ _ ⟨rfl, rfl, rfl, trivial⟩ ⟨by (exact bySame), by (exact byOm), by (exact byGet), by omega⟩ (by omega)
  (focus ((try with_reducible apply wpC.to); (repeat' ((conv => whnf); first | ((apply Start.mk); (focus exact byNext); (focus exact byLen)) | ((apply New.mk); (focus exact byNid)) | ((apply Need.mk); (focus exact byNeed)) | ((apply Fork.mk) <;> (intro _; try (exfalso; omega; done))) | ((apply Load1.mk); (focus exact byMem); (focus exact byVal)) | ((with_reducible apply Ix.pred); (focus first | assumption | exact fun _ => rfl); (focus omega); (focus omega)) | ((apply OpE.val); (focus exact rfl); (focus exact byVal)) | apply forceV_any | apply forceL_any)); all_goals (conv => whnf); all_goals (try with_reducible apply At.mk)))
  refine OpE.mk (lookup_lit (r := r') (v := .tuple #[.int .i64 0, .bool false]) rfl rfl (by (exact byGet)) (by kernel_rfl)) ?_
  (focus ((try with_reducible apply wpC.to); (repeat' ((conv => whnf); first | ((apply Start.mk); (focus exact byNext); (focus exact byLen)) | ((apply New.mk); (focus exact byNid)) | ((apply Need.mk); (focus exact byNeed)) | ((apply Fork.mk) <;> (intro _; try (exfalso; omega; done))) | ((apply Load1.mk); (focus exact byMem); (focus exact byVal)) | ((with_reducible apply Ix.pred); (focus first | assumption | exact fun _ => rfl); (focus omega); (focus omega)) | ((apply OpE.val); (focus exact rfl); (focus exact byVal)) | apply forceV_any | apply forceL_any)); all_goals (conv => whnf); all_goals (try with_reducible apply At.mk)))
  refine Load1.mk (h_map (by (exact byGet))) rfl ?_
  (focus ((try with_reducible apply wpC.to); (repeat' ((conv => whnf); first | ((apply Start.mk); (focus exact byNext); (focus exact byLen)) | ((apply New.mk); (focus exact byNid)) | ((apply Need.mk); (focus exact byNeed)) | ((apply Fork.mk) <;> (intro _; try (exfalso; omega; done))) | ((apply Load1.mk); (focus exact byMem); (focus exact byVal)) | ((with_reducible apply Ix.pred); (focus first | assumption | exact fun _ => rfl); (focus omega); (focus omega)) | ((apply OpE.val); (focus exact rfl); (focus exact byVal)) | apply forceV_any | apply forceL_any)); all_goals (conv => whnf); all_goals (try with_reducible apply At.mk)))
  have smh : Same h.next h h2 := sm
  have gm2 : h2.get mr = some (.map (ringE 0) 5) := by rw [← ring0_ents]; (exact byGet)
  have gh2 : h2.get hr = some (.cells (hCells r0 mr x) e) := by (exact byGet)
  refine OpE.mk (lookup_lit (r := mr) (es := ringE 0) (c := 5) (v := .int .i64 4) rfl rfl (by (exact byGet)) (by kernel_rfl)) ?_
  (focus ((try with_reducible apply wpC.to); (repeat' ((conv => whnf); first | ((apply Start.mk); (focus exact byNext); (focus exact byLen)) | ((apply New.mk); (focus exact byNid)) | ((apply Need.mk); (focus exact byNeed)) | ((apply Fork.mk) <;> (intro _; try (exfalso; omega; done))) | ((apply Load1.mk); (focus exact byMem); (focus exact byVal)) | ((with_reducible apply Ix.pred); (focus first | assumption | exact fun _ => rfl); (focus omega); (focus omega)) | ((apply OpE.val); (focus exact rfl); (focus exact byVal)) | apply forceV_any | apply forceL_any)); all_goals (conv => whnf); all_goals (try with_reducible apply At.mk)))
  refine wp_loop (fun s : Nat × Option Addr × Nat => [(0, .pointer (some ⟨hr, 0, none⟩)), (4, .int .i64 1), (7, .slice s.2.1 (s.1 + 1) s.2.2), (8, .int .i64 (ringAt (s.1 + 1)))])
    (fun s h3 => Same h2.next h2 h3 ∧ h2.next + 12 ≤ h3.next ∧ s.1 ≤ 3 ∧ ((s.1 = 0 ∧ s.2.1 = some ⟨h2.next + 11, 0, none⟩ ∧ s.2.2 = 1 ∧ h3.get (h2.next + 11) = some (.cells [.int .i64 1] 3)) ∨ (0 < s.1 ∧ s.2.2 = 0 ∧ ∃ r, GAt r h3 3 1 (s.1 + 1) (iCells ringAt (s.1 + 1)) s.2.1 ∧ h2.next ≤ r ∧ r < h3.next))) (fun s => 4 - s.1) (0, some ⟨h2.next + 11, 0, none⟩, 1)
    ⟨rfl, rfl, rfl, rfl, trivial⟩ ⟨by (exact bySame), by (exact byOm), by simp only; omega, .inl ⟨rfl, rfl, rfl, by (exact byGet)⟩⟩ ?_
  clear hK K g
  rintro ⟨s, w, c⟩ g h3 ⟨sm3, hn3, hs3, hw⟩ K hK
  simp only at hs3 hw hK
  have hs4 : s = 0 ∨ s = 1 ∨ s = 2 ∨ s = 3 := by omega
  rcases hs4 with rfl | rfl | rfl | rfl
  · rcases hw with ⟨-, rfl, rfl, hw⟩ | ⟨h0, -⟩
    rotate_left
    · omega
    dsimp only
    rw [show ringAt (0 + 1) = 4 from rfl]
    (focus ((try with_reducible apply wpC.to); (repeat' ((conv => whnf); first | ((apply Start.mk); (focus exact byNext); (focus exact byLen)) | ((apply New.mk); (focus exact byNid)) | ((apply Need.mk); (focus exact byNeed)) | ((apply Fork.mk) <;> (intro _; try (exfalso; omega; done))) | ((apply Load1.mk); (focus exact byMem); (focus exact byVal)) | ((with_reducible apply Ix.pred); (focus first | assumption | exact fun _ => rfl); (focus omega); (focus omega)) | ((apply OpE.val); (focus exact rfl); (focus exact byVal)) | apply forceV_any | apply forceL_any)); all_goals (conv => whnf); all_goals (try with_reducible apply At.mk)))
    apply q_appF (b := h3.next) (n := 1) (m := 1) (cs := [.int .i64 1]) (nc := [.int .i64 4])
    case hsv => exact rfl
    case G => exact ⟨rfl, .inr ⟨_, rfl, by unfold far; omega, .inl ⟨rfl, rfl⟩, loadN_one (off := 0) (v := .int .i64 1) (by (exact byGet)) rfl⟩⟩
    case C => exact Cells.one (by (exact byMem)) (by unfold far; omega) rfl rfl
    case hm => omega
    case hb => omega
    case hsm => omega
    intro v' row G'
    rw [show ([.int .i64 1] : List Value) ++ [.int .i64 4] = iCells ringAt 2 by unfold iCells; rfl] at G'
    obtain ⟨r5, G5, hr5, hr5'⟩ := G'.gat (by omega)
    (focus ((try with_reducible apply wpC.to); (repeat' ((conv => whnf); first | ((apply Start.mk); (focus exact byNext); (focus exact byLen)) | ((apply New.mk); (focus exact byNid)) | ((apply Need.mk); (focus exact byNeed)) | ((apply Fork.mk) <;> (intro _; try (exfalso; omega; done))) | ((apply Load1.mk); (focus exact byMem); (focus exact byVal)) | ((with_reducible apply Ix.pred); (focus first | assumption | exact fun _ => rfl); (focus omega); (focus omega)) | ((apply OpE.val); (focus exact rfl); (focus exact byVal)) | apply forceV_any | apply forceL_any)); all_goals (conv => whnf); all_goals (try with_reducible apply At.mk)))
    refine Load1.mk (h_map (by (exact byGet))) rfl ?_
    (focus ((try with_reducible apply wpC.to); (repeat' ((conv => whnf); first | ((apply Start.mk); (focus exact byNext); (focus exact byLen)) | ((apply New.mk); (focus exact byNid)) | ((apply Need.mk); (focus exact byNeed)) | ((apply Fork.mk) <;> (intro _; try (exfalso; omega; done))) | ((apply Load1.mk); (focus exact byMem); (focus exact byVal)) | ((with_reducible apply Ix.pred); (focus first | assumption | exact fun _ => rfl); (focus omega); (focus omega)) | ((apply OpE.val); (focus exact rfl); (focus exact byVal)) | apply forceV_any | apply forceL_any)); all_goals (conv => whnf); all_goals (try with_reducible apply At.mk)))
    refine OpE.mk (lookup_lit (r := mr) (es := ringE 0) (c := 5) (v := .int .i64 2) rfl rfl (by (exact byGet)) (by kernel_rfl)) ?_
    (focus ((try with_reducible apply wpC.to); (repeat' ((conv => whnf); first | ((apply Start.mk); (focus exact byNext); (focus exact byLen)) | ((apply New.mk); (focus exact byNid)) | ((apply Need.mk); (focus exact byNeed)) | ((apply Fork.mk) <;> (intro _; try (exfalso; omega; done))) | ((apply Load1.mk); (focus exact byMem); (focus exact byVal)) | ((with_reducible apply Ix.pred); (focus first | assumption | exact fun _ => rfl); (focus omega); (focus omega)) | ((apply OpE.val); (focus exact rfl); (focus exact byVal)) | apply forceV_any | apply forceL_any)); all_goals (conv => whnf); all_goals (try with_reducible apply At.mk)))
    refine hK (1, v', 0) _ _ ⟨rfl, rfl, rfl, rfl, trivial⟩ ⟨by (exact bySame), by (exact byOm), by simp only; omega, .inr ⟨by simp only; omega, rfl, ?_⟩⟩ (by simp only; omega)
    exact ⟨r5, G5.frame (get_of fun y hy => by (exact byGet)), by omega, by (exact byOm)⟩
  · rcases hw with ⟨h0, -⟩ | ⟨-, rfl, r5, G5, hr5, hr5'⟩
    · omega
    dsimp only
    rw [show ringAt (1 + 1) = 2 from rfl]
    (focus ((try with_reducible apply wpC.to); (repeat' ((conv => whnf); first | ((apply Start.mk); (focus exact byNext); (focus exact byLen)) | ((apply New.mk); (focus exact byNid)) | ((apply Need.mk); (focus exact byNeed)) | ((apply Fork.mk) <;> (intro _; try (exfalso; omega; done))) | ((apply Load1.mk); (focus exact byMem); (focus exact byVal)) | ((with_reducible apply Ix.pred); (focus first | assumption | exact fun _ => rfl); (focus omega); (focus omega)) | ((apply OpE.val); (focus exact rfl); (focus exact byVal)) | apply forceV_any | apply forceL_any)); all_goals (conv => whnf); all_goals (try with_reducible apply At.mk)))
    apply q_appA (r := r5) (n := 2) (m := 1) (cs := iCells ringAt 2) (nc := [.int .i64 2])
    case hsv => exact rfl
    case G => exact G5.frame (get_of fun y hy => by (exact byGet))
    case C => exact Cells.one (by (exact byMem)) (by unfold far; omega) rfl rfl
    case hm => omega
    case hlo => omega
    case hsm => omega
    intro v' row G'
    rw [show iCells ringAt 2 ++ [.int .i64 2] = iCells ringAt 3 from iCells_add ringAt 2] at G'
    (focus ((try with_reducible apply wpC.to); (repeat' ((conv => whnf); first | ((apply Start.mk); (focus exact byNext); (focus exact byLen)) | ((apply New.mk); (focus exact byNid)) | ((apply Need.mk); (focus exact byNeed)) | ((apply Fork.mk) <;> (intro _; try (exfalso; omega; done))) | ((apply Load1.mk); (focus exact byMem); (focus exact byVal)) | ((with_reducible apply Ix.pred); (focus first | assumption | exact fun _ => rfl); (focus omega); (focus omega)) | ((apply OpE.val); (focus exact rfl); (focus exact byVal)) | apply forceV_any | apply forceL_any)); all_goals (conv => whnf); all_goals (try with_reducible apply At.mk)))
    refine Load1.mk (h_map (by (exact byGet))) rfl ?_
    (focus ((try with_reducible apply wpC.to); (repeat' ((conv => whnf); first | ((apply Start.mk); (focus exact byNext); (focus exact byLen)) | ((apply New.mk); (focus exact byNid)) | ((apply Need.mk); (focus exact byNeed)) | ((apply Fork.mk) <;> (intro _; try (exfalso; omega; done))) | ((apply Load1.mk); (focus exact byMem); (focus exact byVal)) | ((with_reducible apply Ix.pred); (focus first | assumption | exact fun _ => rfl); (focus omega); (focus omega)) | ((apply OpE.val); (focus exact rfl); (focus exact byVal)) | apply forceV_any | apply forceL_any)); all_goals (conv => whnf); all_goals (try with_reducible apply At.mk)))
    refine OpE.mk (lookup_lit (r := mr) (es := ringE 0) (c := 5) (v := .int .i64 3) rfl rfl (by (exact byGet)) (by kernel_rfl)) ?_
    (focus ((try with_reducible apply wpC.to); (repeat' ((conv => whnf); first | ((apply Start.mk); (focus exact byNext); (focus exact byLen)) | ((apply New.mk); (focus exact byNid)) | ((apply Need.mk); (focus exact byNeed)) | ((apply Fork.mk) <;> (intro _; try (exfalso; omega; done))) | ((apply Load1.mk); (focus exact byMem); (focus exact byVal)) | ((with_reducible apply Ix.pred); (focus first | assumption | exact fun _ => rfl); (focus omega); (focus omega)) | ((apply OpE.val); (focus exact rfl); (focus exact byVal)) | apply forceV_any | apply forceL_any)); all_goals (conv => whnf); all_goals (try with_reducible apply At.mk)))
    refine hK (2, v', 0) _ _ ⟨rfl, rfl, rfl, rfl, trivial⟩ ⟨by (exact bySame), by (exact byOm), by simp only; omega, .inr ⟨by simp only; omega, rfl, ?_⟩⟩ (by simp only; omega)
    exact ⟨r5, G'.frame (get_of fun y hy => by (exact byGet)), by omega, by (exact byOm)⟩
  · rcases hw with ⟨h0, -⟩ | ⟨-, rfl, r5, G5, hr5, hr5'⟩
    · omega
    dsimp only
    rw [show ringAt (2 + 1) = 3 from rfl]
    (focus ((try with_reducible apply wpC.to); (repeat' ((conv => whnf); first | ((apply Start.mk); (focus exact byNext); (focus exact byLen)) | ((apply New.mk); (focus exact byNid)) | ((apply Need.mk); (focus exact byNeed)) | ((apply Fork.mk) <;> (intro _; try (exfalso; omega; done))) | ((apply Load1.mk); (focus exact byMem); (focus exact byVal)) | ((with_reducible apply Ix.pred); (focus first | assumption | exact fun _ => rfl); (focus omega); (focus omega)) | ((apply OpE.val); (focus exact rfl); (focus exact byVal)) | apply forceV_any | apply forceL_any)); all_goals (conv => whnf); all_goals (try with_reducible apply At.mk)))
    apply q_appA (r := r5) (n := 3) (m := 1) (cs := iCells ringAt 3) (nc := [.int .i64 3])
    case hsv => exact rfl
    case G => exact G5.frame (get_of fun y hy => by (exact byGet))
    case C => exact Cells.one (by (exact byMem)) (by unfold far; omega) rfl rfl
    case hm => omega
    case hlo => omega
    case hsm => omega
    intro v' row G'
    rw [show iCells ringAt 3 ++ [.int .i64 3] = iCells ringAt 4 from iCells_add ringAt 3] at G'
    (focus ((try with_reducible apply wpC.to); (repeat' ((conv => whnf); first | ((apply Start.mk); (focus exact byNext); (focus exact byLen)) | ((apply New.mk); (focus exact byNid)) | ((apply Need.mk); (focus exact byNeed)) | ((apply Fork.mk) <;> (intro _; try (exfalso; omega; done))) | ((apply Load1.mk); (focus exact byMem); (focus exact byVal)) | ((with_reducible apply Ix.pred); (focus first | assumption | exact fun _ => rfl); (focus omega); (focus omega)) | ((apply OpE.val); (focus exact rfl); (focus exact byVal)) | apply forceV_any | apply forceL_any)); all_goals (conv => whnf); all_goals (try with_reducible apply At.mk)))
    refine Load1.mk (h_map (by (exact byGet))) rfl ?_
    (focus ((try with_reducible apply wpC.to); (repeat' ((conv => whnf); first | ((apply Start.mk); (focus exact byNext); (focus exact byLen)) | ((apply New.mk); (focus exact byNid)) | ((apply Need.mk); (focus exact byNeed)) | ((apply Fork.mk) <;> (intro _; try (exfalso; omega; done))) | ((apply Load1.mk); (focus exact byMem); (focus exact byVal)) | ((with_reducible apply Ix.pred); (focus first | assumption | exact fun _ => rfl); (focus omega); (focus omega)) | ((apply OpE.val); (focus exact rfl); (focus exact byVal)) | apply forceV_any | apply forceL_any)); all_goals (conv => whnf); all_goals (try with_reducible apply At.mk)))
    refine OpE.mk (lookup_lit (r := mr) (es := ringE 0) (c := 5) (v := .int .i64 1) rfl rfl (by (exact byGet)) (by kernel_rfl)) ?_
    (focus ((try with_reducible apply wpC.to); (repeat' ((conv => whnf); first | ((apply Start.mk); (focus exact byNext); (focus exact byLen)) | ((apply New.mk); (focus exact byNid)) | ((apply Need.mk); (focus exact byNeed)) | ((apply Fork.mk) <;> (intro _; try (exfalso; omega; done))) | ((apply Load1.mk); (focus exact byMem); (focus exact byVal)) | ((with_reducible apply Ix.pred); (focus first | assumption | exact fun _ => rfl); (focus omega); (focus omega)) | ((apply OpE.val); (focus exact rfl); (focus exact byVal)) | apply forceV_any | apply forceL_any)); all_goals (conv => whnf); all_goals (try with_reducible apply At.mk)))
    refine hK (3, v', 0) _ _ ⟨rfl, rfl, rfl, rfl, trivial⟩ ⟨by (exact bySame), by (exact byOm), by simp only; omega, .inr ⟨by simp only; omega, rfl, ?_⟩⟩ (by simp only; omega)
    exact ⟨r5, G'.frame (get_of fun y hy => by (exact byGet)), by omega, by (exact byOm)⟩
  rcases hw with ⟨h0, -⟩ | ⟨-, rfl, r5, G5, hr5, hr5'⟩
  · omega
  dsimp only
  rw [show ringAt (3 + 1) = 1 from rfl]
  (focus ((try with_reducible apply wpC.to); (repeat' ((conv => whnf); first | ((apply Start.mk); (focus exact byNext); (focus exact byLen)) | ((apply New.mk); (focus exact byNid)) | ((apply Need.mk); (focus exact byNeed)) | ((apply Fork.mk) <;> (intro _; try (exfalso; omega; done))) | ((apply Load1.mk); (focus exact byMem); (focus exact byVal)) | ((with_reducible apply Ix.pred); (focus first | assumption | exact fun _ => rfl); (focus omega); (focus omega)) | ((apply OpE.val); (focus exact rfl); (focus exact byVal)) | apply forceV_any | apply forceL_any)); all_goals (conv => whnf); all_goals (try with_reducible apply At.mk)))
  apply q_appA (r := r5) (n := 4) (m := 1) (cs := iCells ringAt 4) (nc := [.int .i64 1])
  case hsv => exact rfl
  case G => exact G5.frame (get_of fun y hy => by (exact byGet))
  case C => exact Cells.one (by (exact byMem)) (by unfold far; omega) rfl rfl
  case hm => omega
  case hlo => omega
  case hsm => omega
  intro v' row G'
  rw [show iCells ringAt 4 ++ [.int .i64 1] = iCells ringAt 5 from iCells_add ringAt 4] at G'
  (focus ((try with_reducible apply wpC.to); (repeat' ((conv => whnf); first | ((apply Start.mk); (focus exact byNext); (focus exact byLen)) | ((apply New.mk); (focus exact byNid)) | ((apply Need.mk); (focus exact byNeed)) | ((apply Fork.mk) <;> (intro _; try (exfalso; omega; done))) | ((apply Load1.mk); (focus exact byMem); (focus exact byVal)) | ((with_reducible apply Ix.pred); (focus first | assumption | exact fun _ => rfl); (focus omega); (focus omega)) | ((apply OpE.val); (focus exact rfl); (focus exact byVal)) | apply forceV_any | apply forceL_any)); all_goals (conv => whnf); all_goals (try with_reducible apply At.mk)))
  apply q_callw
  focus exact reverse_w (r := r5) (by omega) (by (exact byOm)) (by omega) (G'.frame (get_of fun y hy => by (exact byGet)))
  rintro _ h4 ⟨G6, -⟩ q4
  have hn4 := q4.next
  (focus ((try with_reducible apply wpC.to); (repeat' ((conv => whnf); first | ((apply Start.mk); (focus exact byNext); (focus exact byLen)) | ((apply New.mk); (focus exact byNid)) | ((apply Need.mk); (focus exact byNeed)) | ((apply Fork.mk) <;> (intro _; try (exfalso; omega; done))) | ((apply Load1.mk); (focus exact byMem); (focus exact byVal)) | ((with_reducible apply Ix.pred); (focus first | assumption | exact fun _ => rfl); (focus omega); (focus omega)) | ((apply OpE.val); (focus exact rfl); (focus exact byVal)) | apply forceV_any | apply forceL_any)); all_goals (conv => whnf); all_goals (try with_reducible apply At.mk)))
  (first | (apply fin1; (focus first | exact .inl rfl | exact .inr rfl); focus exact byR1) | (apply fin2; (focus first | exact .inl rfl | exact .inr rfl); (focus exact byR1); (focus exact byR1)) | (apply fin3; (focus first | exact .inl rfl | exact .inr rfl); (focus exact byR1); (focus exact byR1); (focus exact byR1)) | (apply fin0; (focus first | exact .inl rfl | exact .inr rfl)))
  have G7 := G6.grown (b := 0) (N := h4.next) (by omega) (by (exact byOm))
  unfold iCells at G7
  obtain ⟨a, ha, hE, hb⟩ := G7.els (fun _ => rfl)
  refine ⟨⟨5, fun i => ringAt (5 - 1 - i), v', a, 0⟩, rfl, rfl, fun i hi => ?_, ⟨ha, fun i hi => ?_, fun h0 => ?_, by simp⟩⟩
  · have : i = 0 ∨ i = 1 ∨ i = 2 ∨ i = 3 ∨ i = 4 := by omega
    rcases this with rfl | rfl | rfl | rfl | rfl <;> rfl
  · have := hE i hi
    rw [Nat.mul_one] at this
    exact this
  · have := hb h0
    show a.block < h4.next + _
    omega

end AE.Try
