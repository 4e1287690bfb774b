/- Walks and plain laws: ClkL, ClkM, ClkN. -/
import Derived.Test.YtcminnjimlopbaaGreatDoorJoin37
import Derived.Test.YtcminnjimlopbaaGreatDoorAEthree
set_option linter.unusedVariables false
set_option linter.unusedSimpArgs false
set_option linter.unusedSectionVars false

/- Clerk, walked: Receipt. -/
namespace AE.Tryz
open Go AE Go.Proofs AE.Clerk
set_option maxRecDepth 100000
set_option linter.unusedVariables false

structure NumL (m : Nat) (h : H) (l : List Int) (b : Option Addr) (a : Addr) (c : Nat) : Prop where
 e : 0 < l.length → b = some a
 i : Ints h a l.length (fun k => l.getD k 0)
 r : 0 < l.length → a.block < m
theorem NumL.same {m m' : Nat} {h h' : H} {l : List Int} {b : Option Addr} {a : Addr} {c : Nat} (k : NumL m h l b a c) (s : Same m h h') (hm : m ≤ m') : NumL m' h' l b a c :=
 ⟨k.e, k.i.same s k.r, fun h => by have := k.r h; omega⟩
def besideL (f : Nat → Ln) (n i : Nat) : List Int := (parts 0 n i).map fun p => root f p.1 p.2.1
def noRec (e : Int) : Value := .tuple #[.agg ⟨[.int .i64 0, .int .i64 0, .slice none 0 0]⟩, .int .i64 e]
theorem addrX_slg {r n : Nat} {a : Addr} (h : addrX r n = some a) (hn : n < 1000000000) : SlG a n 0 := by
 cases n with
 | zero => simp [addrX] at h
 | succ n =>
   simp only [addrX, Option.some.injEq] at h
   subst h
   exact .inr (.inl ⟨⟨_, rfl⟩, rfl, by unfold far; omega⟩)
def RecR (lo n : Nat) (f : Nat → Ln) (i : Int) (v : Value) (h' : H) : Prop :=
 if Good n f then (if 0 ≤ i ∧ i < n then ∃ b a c, v = .tuple #[.agg ⟨[.int .i64 i, .int .i64 n, .slice b (besideL f n i.toNat).length c]⟩, .int .i64 0] ∧ NumL h'.next h' (besideL f n i.toNat) b a c ∧ c < far ∧ (0 < (besideL f n i.toNat).length → lo ≤ a.block ∧ SlG a (besideL f n i.toNat).length c) else v = noRec 3) else v = noRec (bookErr n f)
def rootsC (f : Nat → Ln) (l : List P3) : List Value := l.map fun p => .int .i64 (root f p.1 p.2.1)
structure RecI (B : Bk) (j m : Nat) (h : H) (n2 : Nat) (h3 : H) (L0 : ALoop) (r1 : Nat) (l : List P3) (h1 : H) : Prop where
 x2 : h1.get h.next = some (.cells [.slice B.b B.n B.c] 22)
 x4 : h1.get (h.next + 1) = some (.cells [.int .i64 0, .int .i64 0, .slice none 0 0] 45)
 x7 : ∃ r, GX r h1 2 1 l.length (rootsC B.f l) ∧ h1.get (n2 + 14) = some (.cells [.int .i64 j, .int .i64 B.n, .slice (addrX r l.length) l.length 0] 45) ∧ (0 < l.length → h3.next + 3 ≤ r ∧ r < h1.next)
 sm : Same m h h1
 e1 : h1.get r1 = h3.get r1
 lp : h1.get h3.next = some (.loop L0)
 nx : h3.next < h1.next
 lt : h.next + 1 < h1.next ∧ n2 + 14 < h1.next ∧ r1 < h1.next ∧ m ≤ h1.next
theorem RecI.quiet {B : Bk} {j m : Nat} {h : H} {n2 : Nat} {h3 : H} {L0 : ALoop} {r1 : Nat} {l : List P3} {h1 h4 : H} (k : RecI B j m h n2 h3 L0 r1 l h1) (q : Quiet h1.next h1 h4) : RecI B j m h n2 h3 L0 r1 l h4 := by
 obtain ⟨x2, x4, ⟨r, g, x7, b⟩, sm, e1, lp, nx, lt⟩ := k
 have hn := q.next
 exact ⟨(q.same _ byO).trans x2, (q.same _ byO).trans x4, ⟨r, g.frame fun h0 => q.same _ (by have := b h0; omega), (q.same _ byO).trans x7, fun h0 => by have := b h0; omega⟩, fun r hr => (q.same _ byO).trans (sm r hr), (q.same _ byO).trans e1, (q.same _ nx).trans lp, by omega, by omega⟩
theorem gx_nums {h : H} {r : Nat} {e : TypeId} {ys : List Int} (g : GX r h e 1 ys.length (ys.map (.int .i64))) : ∃ a, (0 < ys.length → addrX r ys.length = some a) ∧ Ints h a ys.length (fun k => ys.getD k 0) ∧ (0 < ys.length → a.block = r) := by
 have e1 : ys.map (Value.int .i64) = rowsOf (fun i => [.int .i64 (ys.getD i 0)]) ys.length := by
  have := cellsOf_rows (fun x : Int => [Value.int .i64 x]) ys 0
  rw [← this]
  simp [cellsOf]
  try rw [List.map_eq_flatMap]
 rw [e1] at g
 rcases Nat.eq_zero_or_pos ys.length with h0 | h0
 ·exact ⟨⟨0, 0, none⟩, fun h => by omega, fun i hi => by omega, fun h => by omega⟩
 ·obtain ⟨a, h1, h2, h3⟩ := GG.els (f := fun i => [.int .i64 (ys.getD i 0)]) (.inr ⟨h0, g.gat h0⟩) (fun _ => rfl)
  exact ⟨a, h1, fun i hi => by have := h2 i hi; rwa [Nat.mul_one] at this, h3⟩
theorem receipt_w {h : H} {B : Bk} {m : Nat} {i : Int} (hm : m ≤ h.next) (hB : B.Ok m h) (hi : -9223372036854775808 ≤ i ∧ i ≤ 9223372036854775807) : AW Tryz.prog 25 h.next h [.slice B.b B.n B.c, .int .i64 i] (fun v h' => RecR h.next B.n B.f i v h') := by
 have l1 := hB.l
 refine fun25.call rfl (Nat.le_refl _) ?_
 unfold a25 RecR
 (refine byRun ?_)
 apply q_callv
 focus (exact byNext)
 focus (exact byLo)
 focus exact checkBook_w (m := m) byOm (hB.same (m' := m) bySame (Nat.le_refl _))
 intro h2 q2 n2
 by_cases hg : Good B.n B.f
 ·rw [bookErr_ok.2 hg]
  by_cases hin : 0 ≤ i ∧ i < B.n
  ·obtain ⟨j, rfl⟩ : ∃ j : Nat, i = j := ⟨i.toNat, by omega⟩
   (refine byRun ?_)
   apply q_call
   focus (exact byNext)
   focus (exact byLo)
   focus exact beside_w
   rintro v h3 ⟨r1, r2, rfl, b1, b2, g1, g2⟩ q3 n3
   unfold seqV
   (refine byRun ?_)
   refine wp_forget (l := [(2, .pointer (some ⟨h.next, 0, none⟩)), (4, .pointer (some ⟨h.next + 1, 0, none⟩)), (7, .pointer (some ⟨h2.next + 14, 0, none⟩)), (31, .func (.func 82) ⟨[]⟩ ⟨[.pointer (some ⟨r1, 0, none⟩), .pointer (some ⟨r2, 0, none⟩)]⟩)]) ⟨rfl, rfl, rfl, rfl, trivial⟩ fun g' => ?_
   apply wp_range
   focus exact rfl
   focus (exact byNext)
   focus (exact byList)
   intro L0 hL0
   have x2 : h3.get h.next = some (.cells [.slice B.b B.n B.c] 22) := by (exact byGet)
   have x4 : h3.get (h.next + 1) = some (.cells [.int .i64 0, .int .i64 0, .slice none 0 0] 45) := by (exact byGet)
   have x7 : h3.get (h2.next + 14) = some (.cells [.int .i64 j, .int .i64 B.n, .slice none 0 0] 45) := by (exact byGet)
   have sm3 : Same m h h3 := by (exact bySame)
   have jn : j < B.n := by omega
   simp only [put_next, bump_next] at b1 b2 n3
   refine ⟨_, seq_w (L := h3.next) (N := B.n) (i := j) (r1 := r1) (r2 := r2) (lo := h.next) byOm (by have := hg.1; omega) jn byGet byGet byOm byOm (RecI B j m h h2.next h3 L0 r1) (fun l h1 k => k.e1.trans (Eq.symm byGo)) ?_ ?_ ?_, ?_⟩
   ·intro l h1 h4 k qq
    exact k.quiet qq
   ·intro l p h1 k hb p1 p2 p3
    simp only [put_next, bump_next] at hb
    obtain ⟨x2, x4, ⟨r, g, x7, b⟩, sm, e1, lp, nx, lt⟩ := k
    have hBk := hB.same sm (Nat.le_refl _)
    have pk := hBk.part hg
    refine YA.call fun25.mixed (A := a25A0) (B := a25B0) (L := L0) (by rw [hL0]; exact c25A0) (by rw [hL0]; exact c25B0) lp byO nx (by rw [hL0]; exact rfl) (by rw [hL0]; exact rfl) ?_
    unfold YA a25A0 partC
    refine wp_forget (l := [(2, .pointer (some ⟨h.next, 0, none⟩)), (4, .pointer (some ⟨h.next + 1, 0, none⟩)), (7, .pointer (some ⟨h2.next + 14, 0, none⟩)), (32, .agg ⟨[.int .i64 p.1, .int .i64 ((p.1 + p.2.1 : Nat) : Int), .bool p.2.2]⟩)]) ⟨by rw [hL0]; exact rfl, by rw [hL0]; exact rfl, by rw [hL0]; exact rfl, by rw [hL0]; exact rfl, trivial⟩ fun g'' => ?_
    (refine byRun ?_)
    refine ⟨rfl, L0, byGet, by rw [hL0]; exact rfl, ?_⟩
    unfold a25B0
    have hL1 : ended (busy L0) .none = L0 := by rw [hL0]; exact rfl
    (refine byRun ?_)
    have eb := hB.e byO
    have e2 : p.1 + p.2.1 - p.1 = p.2.1 := by omega
    apply q_gij (a := B.a) (n := B.n) (c := B.c) (i := p.1) (j := p.1 + p.2.1)
    case hx => rw [← eb]; exact rfl
    case hl => exact rfl
    case hj => exact rfl
    case hs => exact hB.g byO
    case h0 => omega
    case h1 => omega
    case h2 => omega
    intro c5 g5
    rw [e2] at g5 ⊢
    have ps := pk.sub (i := p.1) (n' := p.2.1) (c' := c5) byO fun _ => g5
    rw [Nat.zero_add] at ps
    (refine byRun ?_)
    apply q_callv
    focus (exact byNext)
    focus (exact byLo)
    focus exact root_w p.2.1 (show m ≤ _ from byOm) (ps.same bySame (Nat.le_refl _))
    intro h5 q5 n5
    have g6 := g.frame (h' := h5) fun h0 => get_of fun y hy => by
     have := b h0
     (exact byGet)
    (refine byRun ?_)
    apply q_appX (r := r) (n := l.length) (cs := rootsC B.f l) (nc := [.int .i64 (root B.f p.1 p.2.1)])
    case G =>
     refine g6.frame fun h0 => get_of fun y hy => ?_
     have := b h0
     (exact byGet)
    case hsv => exact rfl
    case C =>
     apply Cells.one
     focus (apply loadN_cells; (focus (exact byGet)); (focus exact rfl))
     focus (unfold far; omega)
     focus exact rfl
     focus exact rfl
    case hlo => exact fun h0 => by have := b h0; omega
    case hsm => have := hg.1; omega
    intro r' hr0 hr1 g7
    (refine byRun ?_)
    have rb : h3.next + 3 ≤ r' ∧ r' < h1.next + 13 := by
     rcases Nat.eq_zero_or_pos l.length with h0 | h0
     ·have := hr0 h0; omega
     ·have := hr1 h0; have := b h0; omega
    have hn5 : h1.next + 11 ≤ h5.next := by (exact byOm)
    refine ⟨.none, busy L0, rfl, byGet, ⟨rfl, ?_⟩, fun q hq1 hq2 => ?_⟩
    ·rw [hL1]
     refine ⟨byGet, byGet, ⟨r', ?_, ?_, fun _ => ⟨rb.1, ?_⟩⟩, bySame, ?_, byGet, ?_, ?_⟩
     ·rw [List.length_append, show rootsC B.f (l ++ [p]) = rootsC B.f l ++ [.int .i64 (root B.f p.1 p.2.1)] by simp [rootsC]]
      exact g7.frame fun _ => get_of fun y hy => by (exact byGet)
     ·rw [List.length_append]; (exact byGet)
     ·have := rb.2; (exact byOm)
     ·exact (get_of fun y hy => by (exact byGet) : _ = h1.get r1).trans e1
     ·(exact byOm)
     ·(exact byOm)
    ·simp only [put_next, bump_next] at hq1 hq2
     exact get_of fun y hy => by (exact byGet)
   ·refine ⟨byGet, byGet, ⟨h3.next + 3, GX.nil, byGet, fun h => absurd h (Nat.lt_irrefl _)⟩, bySame, get_of fun y hy => byGet, byGet, ?_, ?_⟩
    ·(exact byOm)
    ·(exact byOm)
   ·rintro v h4 k q4
    obtain ⟨x2', x4', ⟨r, g, x7', b⟩, sm, e1, lp, nx, lt⟩ := k
    refine ⟨L0, lp, by rw [hL0]; exact fun h => LoopState.noConfusion h, ?_⟩
    have hp : pendE L0.pend = .normal := by rw [hL0]; rfl
    rw [hp]
    (refine byRun ?_)
    (refine byFin ?_)
    rw [if_pos hg, if_pos hin]
    have hl : (besideL B.f B.n ((j : Int)).toNat).length = (parts 0 B.n j).length := by simp [besideL]
    have he : rootsC B.f (parts 0 B.n j) = (besideL B.f B.n ((j : Int)).toNat).map (.int .i64) := by simp [besideL, rootsC]
    rw [he, ← hl] at g
    obtain ⟨a, ha1, ha2, ha3⟩ := gx_nums g
    refine ⟨addrX r (parts 0 B.n j).length, a, 0, by rw [hl], ⟨fun h => by rw [← hl]; exact ha1 h, ?_, fun h => ?_⟩, by unfold far; omega, fun h => ⟨by have h7 := b (by rw [← hl]; exact h); have h8 := ha3 h; (exact byOm), addrX_slg (ha1 h) (by rw [hl]; have := parts_len (a := 0) (n := B.n) (i := j) byO; have := hg.1; omega)⟩⟩
    ·intro q hq
     have h0 : 0 < (besideL B.f B.n ((j : Int)).toNat).length := by omega
     have hb := b (by rw [← hl]; exact h0)
     have hl2 := ha2 q hq
     have ha := ha3 h0
     unfold H.loadN at hl2 ⊢
     rw [show (((h4.put h3.next ARow.gone).bump 3).put (h.next + 1) _).get (aadd a q).block = h4.get (aadd a q).block from get_of fun y hy => by
      have : (aadd a q).block = r := ha
      rw [this] at hy ⊢
      (exact byGet)]
     exact hl2
    ·rw [ha3 h]; rw [hl] at h; have := b h; (exact byOm)
  ·have hin' : i < 0 ∨ (B.n : Int) ≤ i := by omega
   (focus ((try with_reducible apply wpC.to); (repeat' ((conv => whnf); first | refine byEv ?_ | (apply Fork.mk <;> (intro _; try (exfalso; omega))) | fail)); all_goals ((conv => whnf); try with_reducible apply At.mk)))
   all_goals ((refine byFin ?_); rw [if_pos hg, if_neg hin]; rfl)
 ·have hne : bookErr B.n B.f ≠ 0 := fun h => hg (bookErr_ok.1 h)
  generalize he : bookErr B.n B.f = e at hne
  (refine byRun ?_)
  (refine byFin ?_)
  rw [if_neg hg]; rfl
end AE.Tryz

/- Clerk, walked: Receipt by the definitions. -/
namespace AE.Tryz
open Go AE Go.Proofs AE.Clerk
set_option maxRecDepth 100000
set_option linter.unusedVariables false

def besideP (f : Nat → Ln) (a n j : Nat) : List Int := (parts a n j).map fun p => root f p.1 p.2.1
theorem besideP_len {f : Nat → Ln} {a n j : Nat} (h : 1 ≤ n) : (besideP f a n j).length + 1 ≤ n := by
 unfold besideP; rw [List.length_map]; exact parts_len h
theorem rbeside_w : ∀ (n : Nat) {h : H} {m : Nat} {f : Nat → Ln} {a0 j : Nat} {b : Option Addr} {a : Addr} {c : Nat}, m ≤ h.next → j < n → Part m h f a0 n b a c →
 AW Tryz.prog 52 h.next h [.slice b n c, .int .i64 j] (fun v h' => ∃ r, v = .slice (addrX r (besideP f a0 n j).length) (besideP f a0 n j).length 0 ∧ GX r h' 2 1 (besideP f a0 n j).length ((besideP f a0 n j).map (.int .i64)) ∧ (0 < (besideP f a0 n j).length → h.next ≤ r ∧ r < h'.next)) := by
 intro n
 induction n using Nat.strongRecOn with
 | ind n ih =>
   intro h m f a0 j b a c hm hj k
   have l1 := k.l
   refine fun52.call rfl (Nat.le_refl _) ?_
   unfold a52
   by_cases h1 : n = 1
   ·subst h1
    have e0 : besideP f a0 1 j = [] := by unfold besideP; rw [parts_one]; rfl
    rw [e0]
    (refine byRun ?_)
    (refine byFin ?_)
    exact ⟨0, rfl, GX.nil, fun h => absurd h (Nat.lt_irrefl _)⟩
   have hh := half_bd (n := n) byO
   have e1 := k.e byO
   subst e1
   (refine byRun ?_)
   apply q_callv
   focus (exact byNext)
   focus (exact byLo)
   focus exact rhalf_w byO
   intro h2 q n2
   by_cases hl : j < half n
   ·have e0 : besideP f a0 n j = besideP f a0 (half n) j ++ [root f (a0 + half n) (n - half n)] := by unfold besideP; rw [parts_left byO hl, List.map_append]; rfl
    have hlen := besideP_len (f := f) (a := a0) (j := j) (n := half n) byO
    rw [e0]
    (refine byRun ?_)
    refine q_gto rfl rfl (k.g byO) byO byO ?_
    intro c1 g1
    (refine byRun ?_)
    apply q_call
    focus (exact byNext)
    focus (exact byLo)
    focus exact ih (half n) hh.2 (show m ≤ _ from byOm) hl ((k.to byO fun _ => g1).same bySame (Nat.le_refl _))
    rintro v h3 ⟨r, rfl, g, rb⟩ q3 n3
    simp only [put_next, bump_next] at rb
    (refine byRun ?_)
    refine q_gfrom rfl rfl (k.g byO) byO ?_
    intro c2 g2
    (refine byRun ?_)
    apply q_callv
    focus (exact byNext)
    focus (exact byLo)
    focus exact rroot_w (n - half n) (show m ≤ _ from byOm) ((k.sub byO fun _ => g2).same bySame (Nat.le_refl _))
    intro h4 q4 n4
    (refine byRun ?_)
    apply q_appX (r := r) (n := (besideP f a0 (half n) j).length) (cs := (besideP f a0 (half n) j).map (.int .i64)) (nc := [.int .i64 (root f (a0 + half n) (n - half n))])
    case G =>
     refine g.frame fun h0 => get_of fun y hy => ?_
     have := rb h0
     (exact byGet)
    case hsv => exact rfl
    case C =>
     apply Cells.one
     focus (apply loadN_cells; (focus (exact byGet)); (focus exact rfl))
     focus (unfold far; omega)
     focus exact rfl
     focus exact rfl
    case hlo => exact fun h0 => by have := rb h0; omega
    case hsm => omega
    intro r' hr0 hr1 g7
    have rb' : h.next ≤ r' ∧ r' < h4.next := by
     rcases Nat.eq_zero_or_pos (besideP f a0 (half n) j).length with h0 | h0
     ·have := hr0 h0; (exact byOm)
     ·have := hr1 h0; have := rb h0; (exact byOm)
    (refine byRun ?_)
    (refine byFin ?_)
    rw [List.length_append, List.map_append]
    exact ⟨r', rfl, g7, fun _ => ⟨rb'.1, byOm⟩⟩
   ·have e0 : besideP f a0 n j = besideP f (a0 + half n) (n - half n) (j - half n) ++ [root f a0 (half n)] := by unfold besideP; rw [parts_right byO byO, List.map_append]; rfl
    have hlen := besideP_len (f := f) (a := a0 + half n) (j := j - half n) (n := n - half n) byO
    have ej : (j : Int) - (half n : Nat) = ((j - half n : Nat) : Int) := by omega
    rw [e0]
    (refine byRun ?_)
    refine q_gfrom rfl rfl (k.g byO) byO ?_
    intro c1 g1
    (refine byRun ?_)
    rw [ej]
    apply q_call
    focus (exact byNext)
    focus (exact byLo)
    focus exact ih (n - half n) byO (show m ≤ _ from byOm) byO ((k.sub byO fun _ => g1).same bySame (Nat.le_refl _))
    rintro v h3 ⟨r, rfl, g, rb⟩ q3 n3
    simp only [put_next, bump_next] at rb
    (refine byRun ?_)
    refine q_gto rfl rfl (k.g byO) byO byO ?_
    intro c2 g2
    (refine byRun ?_)
    apply q_callv
    focus (exact byNext)
    focus (exact byLo)
    focus exact rroot_w (half n) (show m ≤ _ from byOm) ((k.to byO fun _ => g2).same bySame (Nat.le_refl _))
    intro h4 q4 n4
    (refine byRun ?_)
    apply q_appX (r := r) (n := (besideP f (a0 + half n) (n - half n) (j - half n)).length) (cs := (besideP f (a0 + half n) (n - half n) (j - half n)).map (.int .i64)) (nc := [.int .i64 (root f a0 (half n))])
    case G =>
     refine g.frame fun h0 => get_of fun y hy => ?_
     have := rb h0
     (exact byGet)
    case hsv => exact rfl
    case C =>
     apply Cells.one
     focus (apply loadN_cells; (focus (exact byGet)); (focus exact rfl))
     focus (unfold far; omega)
     focus exact rfl
     focus exact rfl
    case hlo => exact fun h0 => by have := rb h0; omega
    case hsm => omega
    intro r' hr0 hr1 g7
    have rb' : h.next ≤ r' ∧ r' < h4.next := by
     rcases Nat.eq_zero_or_pos (besideP f (a0 + half n) (n - half n) (j - half n)).length with h0 | h0
     ·have := hr0 h0; (exact byOm)
     ·have := hr1 h0; have := rb h0; (exact byOm)
    (refine byRun ?_)
    (refine byFin ?_)
    rw [List.length_append, List.map_append]
    exact ⟨r', rfl, g7, fun _ => ⟨rb'.1, byOm⟩⟩
end AE.Tryz

/- Clerk, walked: Receipt by the definitions, whole. -/
namespace AE.Tryz
open Go AE Go.Proofs AE.Clerk
set_option maxRecDepth 100000
set_option linter.unusedVariables false

theorem rreceipt_w {h : H} {B : Bk} {m : Nat} {i : Int} (hm : m ≤ h.next) (hB : B.Ok m h) (hi : -9223372036854775808 ≤ i ∧ i ≤ 9223372036854775807) : AW Tryz.prog 26 h.next h [.slice B.b B.n B.c, .int .i64 i] (fun v h' => RecR h.next B.n B.f i v h') := by
 have l1 := hB.l
 refine fun26.call rfl (Nat.le_refl _) ?_
 unfold a26 RecR
 (refine byRun ?_)
 apply q_callv
 focus (exact byNext)
 focus (exact byLo)
 focus exact rcheckBook_w (m := m) byOm (hB.same (m' := m) bySame (Nat.le_refl _))
 intro h2 q2 n2
 by_cases hg : Good B.n B.f
 ·rw [bookErr_ok.2 hg]
  by_cases hin : 0 ≤ i ∧ i < B.n
  ·obtain ⟨j, rfl⟩ : ∃ j : Nat, i = j := ⟨i.toNat, by omega⟩
   have jn : j < B.n := by omega
   (refine byRun ?_)
   apply q_call
   focus (exact byNext)
   focus (exact byLo)
   focus exact rbeside_w B.n (show m ≤ _ from byOm) jn ((hB.part hg).same bySame (Nat.le_refl _))
   rintro v h3 ⟨r, rfl, g, rb⟩ q3 n3
   simp only [put_next, bump_next] at rb
   (refine byRun ?_)
   (refine byFin ?_)
   rw [if_pos hg, if_pos hin]
   obtain ⟨a, ha1, ha2, ha3⟩ := gx_nums g
   refine ⟨_, a, 0, rfl, ⟨ha1, ?_, fun h => ?_⟩, by unfold far; omega, fun h => ⟨by have h7 := rb h; have h8 := ha3 h; omega, addrX_slg (ha1 h) (by have := besideP_len (f := B.f) (a := 0) (n := B.n) (j := j) byO; have := hg.1; show (besideP B.f 0 B.n j).length < _; omega)⟩⟩
   ·intro q hq
    have h0 : 0 < (besideP B.f 0 B.n j).length := Nat.lt_of_le_of_lt (Nat.zero_le _) hq
    have hb := rb h0
    have hl2 := ha2 q hq
    have ha := ha3 h0
    show H.loadN _ _ _ = _
    unfold H.loadN at hl2 ⊢
    rw [show (h3.put h.next _).get (aadd a q).block = h3.get (aadd a q).block from get_of fun y hy => by
     have : (aadd a q).block = r := ha
     rw [this] at hy ⊢
     (exact byGet)]
    exact hl2
   ·rw [ha3 h]; have := rb h; (exact byOm)
  ·have hin' : i < 0 ∨ (B.n : Int) ≤ i := by omega
   (focus ((try with_reducible apply wpC.to); (repeat' ((conv => whnf); first | refine byEv ?_ | (apply Fork.mk <;> (intro _; try (exfalso; omega))) | fail)); all_goals ((conv => whnf); try with_reducible apply At.mk)))
   all_goals ((refine byFin ?_); rw [if_pos hg, if_neg hin]; rfl)
 ·have hne : bookErr B.n B.f ≠ 0 := fun h => hg (bookErr_ok.1 h)
  generalize he : bookErr B.n B.f = e at hne
  (refine byRun ?_)
  apply q_callv
  focus (exact byNext)
  focus (exact byLo)
  focus exact rcheckBook_w (m := m) byOm (hB.same (m' := m) bySame (Nat.le_refl _))
  intro h3 q3 n3
  rw [he]
  (refine byRun ?_)
  (refine byFin ?_)
  rw [if_neg hg]; rfl
end AE.Tryz
