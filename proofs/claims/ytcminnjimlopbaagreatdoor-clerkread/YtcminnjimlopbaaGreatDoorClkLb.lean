/- Clerk, walked: the laws' own: SameState, near, billed. -/
import Derived.Test.YtcminnjimlopbaaGreatDoorJoin42
import Derived.Test.YtcminnjimlopbaaGreatDoorJoin45
import Derived.Test.YtcminnjimlopbaaGreatDoorClkBal
set_option linter.unusedVariables false
set_option linter.unusedSimpArgs false
set_option linter.unusedSectionVars false
namespace AE.Tryz
open Go AE Go.Proofs AE.Clerk
set_option maxRecDepth 100000
set_option linter.unusedVariables false

theorem m8_eqc (x : Mdl) : EqC Tryz.prog 2 61 true (mC8 x) (mC8 x) (x.no == x.no && (x.stage == x.stage && (x.wax == x.wax && (x.runs == x.runs && (x.opn == x.opn && (x.billed == x.billed && (x.claimed == x.claimed && (x.paid == x.paid && true)))))))) := by
 refine EqC.struct (fs := ?fs) ?ht ?hs ?h
 case ht => exact Tryz.underlying61
 case hs => kernel_rfl
 refine EqFs.cons (agg := false) (x := [.int .i64 x.no]) (y := [.int .i64 x.no]) (by decide) (PartOf.one rfl rfl) (PartOf.one rfl rfl) (EqC.int rfl) ?_
 refine EqFs.cons (agg := false) (x := [.int .i64 x.stage]) (y := [.int .i64 x.stage]) (by decide) (PartOf.one rfl rfl) (PartOf.one rfl rfl) (EqC.int rfl) ?_
 refine EqFs.cons (agg := false) (x := [.int .i64 x.wax]) (y := [.int .i64 x.wax]) (by decide) (PartOf.one rfl rfl) (PartOf.one rfl rfl) (EqC.int rfl) ?_
 refine EqFs.cons (agg := false) (x := [.int .i64 x.runs]) (y := [.int .i64 x.runs]) (by decide) (PartOf.one rfl rfl) (PartOf.one rfl rfl) (EqC.int rfl) ?_
 refine EqFs.cons (agg := false) (x := [.int .i64 x.opn]) (y := [.int .i64 x.opn]) (by decide) (PartOf.one rfl rfl) (PartOf.one rfl rfl) (EqC.int rfl) ?_
 refine EqFs.cons (agg := false) (x := [.int .i64 x.billed]) (y := [.int .i64 x.billed]) (by decide) (PartOf.one rfl rfl) (PartOf.one rfl rfl) (EqC.int rfl) ?_
 refine EqFs.cons (agg := false) (x := [.int .i64 x.claimed]) (y := [.int .i64 x.claimed]) (by decide) (PartOf.one rfl rfl) (PartOf.one rfl rfl) (EqC.int rfl) ?_
 exact EqFs.cons (agg := false) (x := [.int .i64 x.paid]) (y := [.int .i64 x.paid]) (by decide) (PartOf.one rfl rfl) (PartOf.one rfl rfl) (EqC.int rfl) EqFs.nil
theorem m8_eq (x : Mdl) : pureRun Tryz.prog (Op.equalIn Op.maxDepth 61 (.agg ⟨mC8 x⟩) (.agg ⟨mC8 x⟩)) = some true := by
 have := (m8_eqc x).run 2 Op.maxDepth (by decide)
 have e : (x.no == x.no && (x.stage == x.stage && (x.wax == x.wax && (x.runs == x.runs && (x.opn == x.opn && (x.billed == x.billed && (x.claimed == x.claimed && (x.paid == x.paid && true)))))))) = true := by simp
 rw [e] at this
 simpa [asVal] using this
theorem q_m8neq {lo nid : Nat} {ts : Ts} {h : H} {k : Value → H → Prop} {o : Oper} {x y : Operand} {c : TypeId} {a : Mdl} (ho : o.op = .binOp .neq 61 x y c) (hx : evR ts x = .agg ⟨mC8 a⟩) (hy : evR ts y = .agg ⟨mC8 a⟩) (hk : k (.bool false) h) : OpE Tryz.prog lo nid ts h (.pure o) k :=
 OpE.pure _ (xPure_neq ho hx hy rfl rfl (by kernel_rfl) (m8_eq a)) hk
def Rd0 (m : Nat) (h : H) (n : Nat) (cs : List Value) (b : Option Addr) : Prop := 0 < n → ∃ a, b = some a ∧ a.block < m ∧ ∀ off j l, cut cs off j = some l → h.loadN (aadd a off) j = some l
theorem RdS.rd0 {m sz n : Nat} {h : H} {cs : List Value} {b : Option Addr} (k : RdS m h sz n cs b) : Rd0 m h n cs b := fun h0 => by
 obtain ⟨a, e, hb, -, hc⟩ := k.els h0
 exact ⟨a, e, hb, hc⟩
theorem Rd0.same {m m' n : Nat} {h h' : H} {cs : List Value} {b : Option Addr} (k : Rd0 m h n cs b) (s : Same m h h') (hm : m ≤ m') : Rd0 m' h' n cs b := fun h0 => by
 obtain ⟨a, e, hb, hc⟩ := k h0
 exact ⟨a, e, by omega, fun off j l hl => (s.loadN (a := aadd a off) hb _).trans (hc off j l hl)⟩
theorem lit_rd0 {h : H} {r m n : Nat} {cs : List Value} {e : TypeId} (g : h.get r = some (.cells cs e)) (hr : r < m) : Rd0 m h n cs (some ⟨r, 0, none⟩) := fun _ => ⟨_, rfl, hr, fun off j l hl => by
 unfold H.loadN aadd
 dsimp only
 rw [g, Option.bind_some, Nat.zero_add]
 exact hl⟩
theorem sameState_w {h : H} {m c c' : Nat} {st lo : Int} {l : List Mdl} {b b' : Option Addr} (hm : m ≤ h.next) (k : Rd0 m h l.length (cellsOf mC8 l) b) (k' : Rd0 m h l.length (cellsOf mC8 l) b') (hl : l.length ≤ 1000) :
 AW Tryz.prog 20 h.next h [.agg ⟨[.int .i64 st, .int .i64 lo, .slice b l.length c]⟩, .agg ⟨[.int .i64 st, .int .i64 lo, .slice b' l.length c']⟩] (fun v _ => v = .bool true) := by
 refine fun20.call rfl (Nat.le_refl _) ?_
 unfold a20
 (refine byRunP ?_)
 refine wp_loop (fun q : Nat => [(2, .pointer (some ⟨h.next, 0, none⟩)), (3, .pointer (some ⟨h.next + 1, 0, none⟩)), (5, .int .i64 q)]) (fun q h1 => Same h.next h h1 ∧ h.next + 2 ≤ h1.next ∧ q ≤ l.length ∧ h1.get h.next = some (.cells [.int .i64 st, .int .i64 lo, .slice b l.length c] 30) ∧ h1.get (h.next + 1) = some (.cells [.int .i64 st, .int .i64 lo, .slice b' l.length c'] 30)) (fun q => l.length - q) 0 ⟨rfl, rfl, rfl, trivial⟩ ⟨bySame, byOm, by omega, byGet, byGet⟩ ?_
 rintro q g h1 ⟨s1, hn1, hq, x0, x1⟩ K hK
 by_cases hlt : q < l.length
 ·obtain ⟨a, rfl, ab, ea⟩ := (k.same (m' := m) (s1.mono hm) (Nat.le_refl _)) byO
  obtain ⟨a', rfl, ab', ea'⟩ := (k'.same (m' := m) (s1.mono hm) (Nat.le_refl _)) byO
  obtain ⟨y, hy⟩ : ∃ y, l[q]? = some y := ⟨_, List.getElem?_eq_getElem hlt⟩
  have e1 := ea _ _ _ (cut_cellsOf (g := mC8) (w := 8) (fun _ => rfl) hy)
  have e2 := ea' _ _ _ (cut_cellsOf (g := mC8) (w := 8) (fun _ => rfl) hy)
  clear ea ea'
  unfold mC8 at e1 e2
  (refine byRunP ?_)
  apply q_m8neq (a := y) rfl
  focus exact rfl
  focus exact rfl
  (refine byRunP ?_)
  exact hK (q + 1) _ _ ⟨rfl, rfl, int_of rfl byO, trivial⟩ ⟨bySame, byOm, by omega, byGet, byGet⟩ byO
 ·obtain rfl : q = l.length := by omega
  clear hK
  (refine byRunP ?_)
  (refine byFin ?_)
  rfl
def difN (a b : List Nat) : Nat → Nat
 | 0 => 0
 | k + 1 => difN a b k + if a.getD k 0 = b.getD k 0 then 0 else 1
theorem difN_le (a b : List Nat) : ∀ k, difN a b k ≤ k
 | 0 => Nat.le_refl _
 | k + 1 => by
   have := difN_le a b k
   unfold difN
   split <;> omega
theorem near_w {h : H} {s t : ByteArray} (hs : s.size ≤ 100000) (ht : t.size ≤ 100000) : AW Tryz.prog 36 h.next h [.string s, .string t] (fun v _ => v = .bool (decide (s.size = t.size ∧ difN (nats s) (nats t) s.size = 1))) := by
 refine fun36.call rfl (Nat.le_refl _) ?_
 unfold a36
 by_cases hn : s.size = t.size
 rotate_left
 ·(refine byRunS ?_)
  (refine byFin ?_); exact bool_f rfl (fun h => hn h.1)
 (refine byRunS ?_)
 refine wp_loop (fun k : Nat => [(0, .string s), (1, .string t), (5, .int .i64 (difN (nats s) (nats t) k)), (6, .int .i64 k)]) (fun k h1 => k ≤ s.size) (fun k => s.size - k) 0 ⟨rfl, rfl, rfl, rfl, trivial⟩ (Nat.zero_le _) ?_
 intro k g h1 hk K hK
 have hd := difN_le (nats s) (nats t) k
 by_cases hlt : k < s.size
 ·by_cases he : (nats s).getD k 0 = (nats t).getD k 0
  ·have hstep : difN (nats s) (nats t) (k + 1) = difN (nats s) (nats t) k := by simp only [difN]; rw [if_pos he]; rfl
   (refine byRunS ?_)
   exact hK (k + 1) _ _ ⟨rfl, rfl, int_of rfl (by rw [hstep]), int_of rfl byO, trivial⟩ byO byO
  ·have hstep : difN (nats s) (nats t) (k + 1) = difN (nats s) (nats t) k + 1 := by simp only [difN]; rw [if_neg he]
   (refine byRunS ?_)
   exact hK (k + 1) _ _ ⟨rfl, rfl, int_of rfl (by rw [hstep]; omega), int_of rfl byO, trivial⟩ byO byO
 ·obtain rfl : k = s.size := by omega
  clear hK
  by_cases h1 : difN (nats s) (nats t) s.size = 1
  ·(refine byRunS ?_)
   (refine byFin ?_); exact bool_t rfl ⟨hn, h1⟩
  ·(refine byRunS ?_)
   (refine byFin ?_); exact bool_f rfl (fun h => h1 h.2)
theorem dif_one {a b : List Nat} (hl : a.length = b.length) (hd : difN a b a.length = 1) : Near a b := by
 have hex : ∀ k, k ≤ a.length → difN a b k = 1 → ∃ p, p < k ∧ a.getD p 0 ≠ b.getD p 0 ∧ ∀ i, i < k → i ≠ p → a.getD i 0 = b.getD i 0 := fun k => by
  induction k with
  | zero => intro _ h; simp [difN] at h
  | succ k ih =>
    intro hk h1
    unfold difN at h1
    by_cases he : a.getD k 0 = b.getD k 0
    ·rw [if_pos he] at h1
     obtain ⟨p, hp, hne, hall⟩ := ih byO h1
     exact ⟨p, by omega, hne, fun i hi hip => by
      by_cases hik : i = k
      ·subst hik; exact he
      ·exact hall i byO hip⟩
    ·rw [if_neg he] at h1
     refine ⟨k, by omega, he, fun i hi hik => ?_⟩
     have h0 : difN a b k = 0 := by omega
     have hz : ∀ j, j ≤ k → difN a b j = 0 → ∀ i, i < j → a.getD i 0 = b.getD i 0 := fun j => by
      induction j with
      | zero => intro _ _ i hi; omega
      | succ j ihj =>
        intro hj h0 i hi
        unfold difN at h0
        by_cases he : a.getD j 0 = b.getD j 0
        ·by_cases hij : i = j
         ·subst hij; exact he
         ·exact ihj byO byO i byO
        ·rw [if_neg he] at h0; omega
     exact hz k (Nat.le_refl _) h0 i byO
 obtain ⟨p, hp, hne, hall⟩ := hex a.length (Nat.le_refl _) hd
 have hpb : p < b.length := by omega
 refine ⟨a.take p, a[p], b[p], a.drop (p + 1), ?_, ?_, ?_⟩
 ·rw [List.getElem_cons_drop, List.take_append_drop]
 ·have e1 : a.take p = b.take p := by
   apply List.ext_getElem (by simp [hl])
   intro i h1 h2
   have hip : i < p := by simp at h1; omega
   have := hall i byO byO
   simp only [List.getElem_take]
   simpa [List.getD_eq_getElem?_getD, show i < a.length by omega, show i < b.length by omega] using this
  have e2 : a.drop (p + 1) = b.drop (p + 1) := by
   apply List.ext_getElem (by simp [hl])
   intro i h1 h2
   have hip : p + 1 + i < a.length := by simp at h1; omega
   have := hall (p + 1 + i) byO byO
   simp only [List.getElem_drop]
   simpa [List.getD_eq_getElem?_getD, hip, show p + 1 + i < b.length by omega] using this
  rw [e1, e2, List.getElem_cons_drop, List.take_append_drop]
 ·simpa [List.getD_eq_getElem?_getD, hp, hpb] using hne
theorem bf_bd {f : Nat → Ln} {no : Int} : ∀ {n : Nat}, (∀ i, i < n → (f i).Valid 1099511627776) → n ≤ 60 → 0 ≤ (bf f no n).1 ∧ (bf f no n).1 ≤ n ∧ 0 ≤ (bf f no n).2 ∧ (bf f no n).2 ≤ 60000000 * n
 | 0, _, _ => by simp [bf]
 | n + 1, hv, hn => by
   obtain ⟨i1, i2, i3, i4⟩ := bf_bd (f := f) (no := no) (n := n) (fun i hi => hv i byO) byO
   have hd := (valid_dis (hv n byO)).2.2.2.1
   simp only [bf, bfS]
   split
   ·omega
   split
   ·dsimp only; omega
   split
   ·have ha := hd (by assumption)
    have e1 := Int.mul_le_mul (show (bf f no n).1 ≤ 60 by omega) ha.2 byO byO
    have e2 := Int.mul_nonneg i1 (show 0 ≤ (f n).a by omega)
    dsimp only; omega
   ·omega
theorem billed_w {h : H} {B : Bk} {E : Ns} {m : Nat} {no : Int} (hm : m ≤ h.next) (hB : B.Ok m h) (hE : E.Ok m h) (hg : Good B.n B.f) (hn : E.n = B.n) (he : ∀ i, i < B.n → E.f i = errAt B.f i) :
 AW Tryz.prog 37 h.next h [.slice B.b B.n B.c, .slice E.b E.n E.c, .int .i64 no] (fun v _ => v = .int .i64 (bf B.f no B.n).2) := by
 obtain ⟨e1, i1, r1, l1, -⟩ := hB
 obtain ⟨e2, i2, r2, l2⟩ := hE
 obtain ⟨n60, hv⟩ := hg
 refine fun37.call rfl (Nat.le_refl _) ?_
 unfold a37
 (refine byRun ?_)
 refine wp_loop (fun k : Nat => [(0, .slice B.b B.n B.c), (1, .slice E.b E.n E.c), (2, .int .i64 no), (7, .int .i64 (bf B.f no k).1), (8, .int .i64 (bf B.f no k).2), (9, .int .i64 k)]) (fun k h1 => Same h.next h h1 ∧ h.next ≤ h1.next ∧ k ≤ B.n) (fun k => B.n - k) 0 ⟨rfl, rfl, rfl, rfl, rfl, rfl, trivial⟩ ⟨bySame, byOm, by omega⟩ ?_
 rintro k g h1 ⟨s1, hn1, hk⟩ K hK
 have hbd := bf_bd (f := B.f) (no := no) (n := k) (fun i hi => hv i byO) byO
 by_cases hlt : k < B.n
 ·have ek := he k hlt
  have hd := (valid_dis (hv k hlt)).2.2.2.1
  have hst : bf B.f no (k + 1) = bfS (B.f k) no (E.f k) (bf B.f no k) := by rw [ek]; rfl
  generalize bf B.f no k = p at *
  have hmul : (B.f k).k = 5 → 0 ≤ p.1 * (B.f k).a ∧ p.1 * (B.f k).a ≤ 60000000 := fun h => by
   have ha := hd h
   have e1 := Int.mul_le_mul (show p.1 ≤ 60 by omega) ha.2 byO byO
   have e2 := Int.mul_nonneg hbd.1 (show 0 ≤ (B.f k).a by omega)
   omega
  unfold bfS at hst
  have ik := i1.same s1 (fun h => by have := r1 h; omega) k hlt
  have le := e1 byO
  have l0 : h1.loadN (aadd (aadd B.a (k * 4)) 0) 1 = some [.int .i64 (B.f k).k] := load_part ik rfl
  have l1' : h1.loadN (aadd (aadd B.a (k * 4)) 1) 1 = some [.int .i64 (B.f k).m] := load_part ik rfl
  have l2' : h1.loadN (aadd (aadd B.a (k * 4)) 2) 1 = some [.int .i64 (B.f k).a] := load_part ik rfl
  have lr := r1 byO
  by_cases c1 : E.f k = 0
  rotate_left
  ·rw [if_pos (.inl c1)] at hst
   (refine byRun ?_)
   exact hK (k + 1) _ _ ⟨rfl, rfl, rfl, int_of rfl (by rw [hst]), int_of rfl (by rw [hst]), int_of rfl byO, trivial⟩ ⟨bySame, byOm, by omega⟩ byO
  by_cases c2 : (B.f k).m = no
  rotate_left
  ·rw [if_pos (.inr c2)] at hst
   (refine byRun ?_)
   exact hK (k + 1) _ _ ⟨rfl, rfl, rfl, int_of rfl (by rw [hst]), int_of rfl (by rw [hst]), int_of rfl byO, trivial⟩ ⟨bySame, byOm, by omega⟩ byO
  rw [if_neg (fun h => h.elim (fun h => h c1) (fun h => h c2))] at hst
  by_cases c3 : (B.f k).k = 3
  ·rw [if_pos c3] at hst
   (refine byRun ?_)
   exact hK (k + 1) _ _ ⟨rfl, rfl, rfl, int_of rfl (by rw [hst]), int_of rfl (by rw [hst]), int_of rfl byO, trivial⟩ ⟨bySame, byOm, by omega⟩ byO
  rw [if_neg c3] at hst
  by_cases c5 : (B.f k).k = 5
  ·rw [if_pos c5] at hst
   have hmul := hmul c5
   (refine byRun ?_)
   exact hK (k + 1) _ _ ⟨rfl, rfl, rfl, int_of rfl (by rw [hst]), int_of rfl (by rw [hst]), int_of rfl byO, trivial⟩ ⟨bySame, byOm, by omega⟩ byO
  ·rw [if_neg c5] at hst
   (refine byRun ?_)
   exact hK (k + 1) _ _ ⟨rfl, rfl, rfl, int_of rfl (by rw [hst]), int_of rfl (by rw [hst]), int_of rfl byO, trivial⟩ ⟨bySame, byOm, by omega⟩ byO
 ·obtain rfl : k = B.n := by omega
  clear hK
  (refine byRun ?_)
  (refine byFin ?_)
  rfl
end AE.Tryz
