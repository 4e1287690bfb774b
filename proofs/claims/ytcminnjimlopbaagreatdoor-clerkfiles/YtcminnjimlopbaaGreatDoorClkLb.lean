/- Clerk, walked: the laws' own: SameState, near, billed. -/
import Derived.Test.YtcminnjimlopbaaGreatDoorJoin24
import Derived.Test.YtcminnjimlopbaaGreatDoorJoin22
import Derived.Test.YtcminnjimlopbaaGreatDoorClkBal
set_option linter.unusedVariables false
set_option linter.unusedSimpArgs false
set_option linter.unusedSectionVars false
namespace AE.Tryz
open Go AE Go.Proofs AE.Clerk
set_option maxRecDepth 100000
set_option linter.unusedVariables false

theorem m8_eqc (x : Mdl) : EqC Tryz.prog 2 61 true (mC8 x) (mC8 x) (x.no == x.no && (x.stage == x.stage && (x.wax == x.wax && (x.runs == x.runs && (x.opn == x.opn && (x.billed == x.billed && (x.claimed == x.claimed && (x.paid == x.paid && true)))))))) := by
 refine EqC.struct (fs := ?fs) ?ht ?hs ?h
 case ht => exact Tryz.underlying61
 case hs => kernel_rfl
 refine EqFs.cons (agg := false) (x := [.int .i64 x.no]) (y := [.int .i64 x.no]) (by decide) (PartOf.one rfl rfl) (PartOf.one rfl rfl) (EqC.int rfl) ?_
 refine EqFs.cons (agg := false) (x := [.int .i64 x.stage]) (y := [.int .i64 x.stage]) (by decide) (PartOf.one rfl rfl) (PartOf.one rfl rfl) (EqC.int rfl) ?_
 refine EqFs.cons (agg := false) (x := [.int .i64 x.wax]) (y := [.int .i64 x.wax]) (by decide) (PartOf.one rfl rfl) (PartOf.one rfl rfl) (EqC.int rfl) ?_
 refine EqFs.cons (agg := false) (x := [.int .i64 x.runs]) (y := [.int .i64 x.runs]) (by decide) (PartOf.one rfl rfl) (PartOf.one rfl rfl) (EqC.int rfl) ?_
 refine EqFs.cons (agg := false) (x := [.int .i64 x.opn]) (y := [.int .i64 x.opn]) (by decide) (PartOf.one rfl rfl) (PartOf.one rfl rfl) (EqC.int rfl) ?_
 refine EqFs.cons (agg := false) (x := [.int .i64 x.billed]) (y := [.int .i64 x.billed]) (by decide) (PartOf.one rfl rfl) (PartOf.one rfl rfl) (EqC.int rfl) ?_
 refine EqFs.cons (agg := false) (x := [.int .i64 x.claimed]) (y := [.int .i64 x.claimed]) (by decide) (PartOf.one rfl rfl) (PartOf.one rfl rfl) (EqC.int rfl) ?_
 exact EqFs.cons (agg := false) (x := [.int .i64 x.paid]) (y := [.int .i64 x.paid]) (by decide) (PartOf.one rfl rfl) (PartOf.one rfl rfl) (EqC.int rfl) EqFs.nil
theorem m8_eq (x : Mdl) : pureRun Tryz.prog (Op.equalIn Op.maxDepth 61 (.agg ⟨mC8 x⟩) (.agg ⟨mC8 x⟩)) = some true := by
 have := (m8_eqc x).run 2 Op.maxDepth (by decide)
 have e : (x.no == x.no && (x.stage == x.stage && (x.wax == x.wax && (x.runs == x.runs && (x.opn == x.opn && (x.billed == x.billed && (x.claimed == x.claimed && (x.paid == x.paid && true)))))))) = true := by simp
 rw [e] at this
 simpa [asVal] using this
theorem q_m8neq {lo nid : Nat} {ts : Ts} {h : H} {k : Value → H → Prop} {o : Oper} {x y : Operand} {c : TypeId} {a : Mdl} (ho : o.op = .binOp .neq 61 x y c) (hx : evR ts x = .agg ⟨mC8 a⟩) (hy : evR ts y = .agg ⟨mC8 a⟩) (hk : k (.bool false) h) : OpE Tryz.prog lo nid ts h (.pure o) k :=
 OpE.pure _ (xPure_neq ho hx hy rfl rfl (by kernel_rfl) (m8_eq a)) hk
def Rd0 (m : Nat) (h : H) (n : Nat) (cs : List Value) (b : Option Addr) : Prop := 0 < n → ∃ a, b = some a ∧ a.block < m ∧ ∀ off j l, cut cs off j = some l → h.loadN (aadd a off) j = some l
theorem RdS.rd0 {m sz n : Nat} {h : H} {cs : List Value} {b : Option Addr} (k : RdS m h sz n cs b) : Rd0 m h n cs b := fun h0 => by
 obtain ⟨a, e, hb, -, hc⟩ := k.els h0
 exact ⟨a, e, hb, hc⟩
theorem Rd0.same {m m' n : Nat} {h h' : H} {cs : List Value} {b : Option Addr} (k : Rd0 m h n cs b) (s : Same m h h') (hm : m ≤ m') : Rd0 m' h' n cs b := fun h0 => by
 obtain ⟨a, e, hb, hc⟩ := k h0
 exact ⟨a, e, by omega, fun off j l hl => (s.loadN (a := aadd a off) hb _).trans (hc off j l hl)⟩
theorem lit_rd0 {h : H} {r m n : Nat} {cs : List Value} {e : TypeId} (g : h.get r = some (.cells cs e)) (hr : r < m) : Rd0 m h n cs (some ⟨r, 0, none⟩) := fun _ => ⟨_, rfl, hr, fun off j l hl => by
 unfold H.loadN aadd
 dsimp only
 rw [g, Option.bind_some, Nat.zero_add]
 exact hl⟩
theorem sameState_w {h : H} {m c c' : Nat} {st lo : Int} {l : List Mdl} {b b' : Option Addr} (hm : m ≤ h.next) (k : Rd0 m h l.length (cellsOf mC8 l) b) (k' : Rd0 m h l.length (cellsOf mC8 l) b') (hl : l.length ≤ 1000) :
 AW Tryz.prog 20 h.next h [.agg ⟨[.int .i64 st, .int .i64 lo, .slice b l.length c]⟩, .agg ⟨[.int .i64 st, .int .i64 lo, .slice b' l.length c']⟩] (fun v _ => v = .bool true) := by
 refine fun20.call rfl (Nat.le_refl _) ?_
 unfold a20
 (refine byRunP ?_)
 refine wp_loop (fun q : Nat => [(2, .pointer (some ⟨h.next, 0, none⟩)), (3, .pointer (some ⟨h.next + 1, 0, none⟩)), (5, .int .i64 q)]) (fun q h1 => Same h.next h h1 ∧ h.next + 2 ≤ h1.next ∧ q ≤ l.length ∧ h1.get h.next = some (.cells [.int .i64 st, .int .i64 lo, .slice b l.length c] 30) ∧ h1.get (h.next + 1) = some (.cells [.int .i64 st, .int .i64 lo, .slice b' l.length c'] 30)) (fun q => l.length - q) 0 ⟨rfl, rfl, rfl, trivial⟩ ⟨bySame, byOm, by omega, byGet, byGet⟩ ?_
 rintro q g h1 ⟨s1, hn1, hq, x0, x1⟩ K hK
 by_cases hlt : q < l.length
 ·obtain ⟨a, rfl, ab, ea⟩ := (k.same (m' := m) (s1.mono hm) (Nat.le_refl _)) byO
  obtain ⟨a', rfl, ab', ea'⟩ := (k'.same (m' := m) (s1.mono hm) (Nat.le_refl _)) byO
  obtain ⟨y, hy⟩ : ∃ y, l[q]? = some y := ⟨_, List.getElem?_eq_getElem hlt⟩
  have e1 := ea _ _ _ (cut_cellsOf (g := mC8) (w := 8) (fun _ => rfl) hy)
  have e2 := ea' _ _ _ (cut_cellsOf (g := mC8) (w := 8) (fun _ => rfl) hy)
  clear ea ea'
  unfold mC8 at e1 e2
  (refine byRunP ?_)
  apply q_m8neq (a := y) rfl
  focus exact rfl
  focus exact rfl
  (refine byRunP ?_)
  exact hK (q + 1) _ _ ⟨rfl, rfl, int_of rfl byO, trivial⟩ ⟨bySame, byOm, by omega, byGet, byGet⟩ byO
 ·obtain rfl : q = l.length := by omega
  clear hK
  (refine byRunP ?_)
  (refine byFin ?_)
  rfl
end AE.Tryz
