/- Plain laws of span: with one run more, or a narrower one. -/
import Derived.Test.YtkkndecbijgolaaSpanYfew
set_option linter.unusedVariables false
set_option linter.unusedSimpArgs false
set_option linter.unusedSectionVars false
namespace AE.Try
open Go AE Go.Proofs AE.Sp
set_option maxRecDepth 100000
set_option linter.unusedVariables false

/-- What allows less has no smaller least value. -/
theorem LvOk.mono {L Y : Runs} {p q N D N' D' : Int} (k : LvOk L p q N D) (k' : LvOk Y p q N' D') (h : ∀ t : Tru, 0 < t.d → Y.Fits t → L.Fits t) : ¬ flt (Y.lval p q) (L.lval p q) := by
  obtain ⟨t, h1, h2, h3⟩ := k'.k.at'
  have h4 := k.k.le t (h t h3 h1) h3
  have d := k.d.1
  have d' := k'.d.1
  rw [k.e, k'.e, flt_fr d' d]
  refine Int.not_lt.2 (le_of_mul h3 ?_)
  have m := Int.mul_le_mul_of_nonneg_right h4 (show 0 ≤ D' by omega)
  have e1 : N * D' * t.d = N * t.d * D' := by ac_rfl
  have e2 : N' * D * t.d = N' * t.d * D := by ac_rfl
  have e3 : (p * t.a + q * t.b) * D * D' = (p * t.a + q * t.b) * D' * D := by ac_rfl
  rw [e1, e2, ← h2, ← e3]
  exact m
theorem lst_eq {L Y : Runs} {p q N D : Int} (k : LvOk L p q N D) (h : ∀ t : Tru, 0 < t.d → (Y.Fits t ↔ L.Fits t)) (he : Y.lerr p q = 0) : Y.lval p q = L.lval p q := by
  obtain ⟨t, h1, h2, h3⟩ := k.k.at'
  have l : Lst Y p q N D := ⟨k.d.1, ⟨t, (h t h3).2 h1, h2, h3⟩, fun s hs hd => k.k.le s ((h s hd).1 hs) hd⟩
  rw [l.val he, k.e]
theorem bnd_same {L Y : Runs} {p q : Int} (hn : L.n ≤ Y.n) (hp : ∀ i, i < L.n → (Y.f i).p = (L.f i).p ∧ (Y.f i).q = (L.f i).q) (h : BndR L p q) : BndR Y p q := by
  rcases h with h | ⟨i, j, hi, hj, hc⟩ | ⟨i, hi, e⟩
  · exact .inl h
  · refine .inr (.inl ⟨i, j, by omega, hj, ?_⟩)
    obtain ⟨a, b⟩ := hp i hi
    obtain ⟨c, d⟩ := hp j (by omega)
    unfold crp at hc ⊢
    rw [a, b, c, d]; exact hc
  · refine .inr (.inr ⟨i, by omega, ?_⟩)
    obtain ⟨a, b⟩ := hp i hi
    rw [a, b]; exact e
/-- A narrower run. -/
def Run.lo' (x : Run) (a : Int) : Run := ⟨x.p, x.q, min x.hi (x.lo + a), x.hi⟩
def Run.nar (x : Run) (a b : Int) : Run := ⟨x.p, x.q, min x.hi (x.lo + a), max (min x.hi (x.lo + a)) (x.hi - b)⟩
theorem nar_in {x : Run} (k : x.Ok) {a b : Int} (ha : 0 ≤ a) (hb : 0 ≤ b) : x.lo ≤ (x.nar a b).lo ∧ (x.nar a b).lo ≤ (x.nar a b).hi ∧ (x.nar a b).hi ≤ x.hi := by
  have := k.le
  unfold Run.nar
  dsimp only
  omega
theorem nar_ok {x : Run} (k : x.Ok) {a b : Int} (ha : 0 ≤ a) (hb : 0 ≤ b) : (x.nar a b).Ok := by
  have n := nar_in k ha hb
  obtain ⟨k1, k2, k3, k4, k5, k6⟩ := k
  exact ⟨k1, k2, k3, by omega, n.2.1, by omega⟩
theorem nar_fit {x : Run} (k : x.Ok) {a b : Int} (ha : 0 ≤ a) (hb : 0 ≤ b) {t : Tru} (hd : 0 < t.d) (h : (x.nar a b).Fit t) : x.Fit t := by
  have n := nar_in k ha hb
  obtain ⟨h1, h2⟩ := h
  have h1 : (x.nar a b).lo * t.d ≤ x.p * t.a + x.q * t.b := h1
  have h2 : x.p * t.a + x.q * t.b ≤ (x.nar a b).hi * t.d := h2
  have m1 := Int.mul_le_mul_of_nonneg_right n.1 (show 0 ≤ t.d by omega)
  have m2 := Int.mul_le_mul_of_nonneg_right n.2.2 (show 0 ≤ t.d by omega)
  exact ⟨by omega, by omega⟩
def updR (f : Nat → Run) (k : Nat) (x : Run) : Nat → Run := fun i => if i = k then x else f i
def Runs.nar (L : Runs) (k : Nat) (a b : Int) (v : Option Addr) (y : Addr) : Runs := ⟨L.n, updR L.f k ((L.f k).nar a b), v, y, 0⟩
section
variable {L : Runs} {k : Nat} {a b : Int} {v : Option Addr} {y : Addr}
theorem nar_val (lv : L.Val) (hk : k < L.n) (ha : 0 ≤ a) (hb : 0 ≤ b) : (L.nar k a b v y).Val := fun i hi => by
  show (updR L.f k _ i).Ok
  unfold updR
  split
  · exact nar_ok (lv k hk) ha hb
  · exact lv i hi
theorem nar_fits (lv : L.Val) (hk : k < L.n) (ha : 0 ≤ a) (hb : 0 ≤ b) {t : Tru} (hd : 0 < t.d) (h : (L.nar k a b v y).Fits t) : L.Fits t := fun i hi => by
  have h := h i hi
  have h : (updR L.f k ((L.f k).nar a b) i).Fit t := h
  unfold updR at h
  split at h
  · rename_i e; subst e; exact nar_fit (lv i hi) ha hb hd h
  · exact h
theorem nar_lerr (lv : L.Val) (hk : k < L.n) (ha : 0 ≤ a) (hb : 0 ≤ b) {p q : Int} (he : L.lerr p q = 0) : (L.nar k a b v y).lerr p q = 20 ∨ (L.nar k a b v y).lerr p q = 0 := by
  obtain ⟨e2, -, bd⟩ := Runs.lerr_0 he
  obtain ⟨e1, fac⟩ := Runs.err2_0 e2
  obtain ⟨ln, -⟩ := L.err_0 e1
  have v2 := nar_val (v := v) (y := y) lv hk ha hb
  have e3 : (L.nar k a b v y).err2 p q = 0 := Runs.err2_of (Runs.err_ok ln v2) fac
  have b2 : (L.nar k a b v y).Bnd p q := (bnd_iff v2).1 (bnd_same (L := L) (Nat.le_refl _) (fun i hi => by
    show (updR L.f k _ i).p = _ ∧ (updR L.f k _ i).q = _
    unfold updR
    split
    · rename_i e; subst e; exact ⟨rfl, rfl⟩
    · exact ⟨rfl, rfl⟩) ((bnd_iff lv).2 bd))
  rcases lerr_is e3 with ⟨-, e⟩ | ⟨-, nb, -⟩ | ⟨-, -, e⟩
  · exact .inl e
  · exact absurd b2 nb
  · exact .inr e
theorem rows_upd {f : Nat → Run} {n k o : Nat} {c : List Value} {x : Run} (hk : k < n) (ho : o + c.length ≤ 4) (hx : splice (f k).cells o c = x.cells) : splice (rowsOf (fun i => (f i).cells) n) (k * 4 + o) c = rowsOf (fun i => (updR f k x i).cells) n := by
  have hc : cut (rowsOf (fun i => (f i).cells) n) (k * 4) 4 = some (f k).cells := by
    have := cut_rowsOf (g := fun i => (f i).cells) (w := 4) (fun _ => rfl) hk [] [] (a := k * 4) (by simp)
    simpa using this
  rw [splice_splice hc ho]
  have := splice_rowsOf (g := fun i => (f i).cells) (w := 4) (fun _ => rfl) hk [] [] (splice (f k).cells o c) (by rw [hx]; rfl) (a := k * 4) (by simp)
  simp only [List.nil_append, List.append_nil] at this
  rw [this]
  refine rowsOf_congr n fun i hi => ?_
  unfold updL updR
  by_cases e : i = k
  · subst e; rw [if_pos rfl, if_pos rfl]; exact hx
  · rw [if_neg e, if_neg e]
end
/-! ### a run more -/
section
variable {L : Runs} {x : Run} {v : Option Addr} {a : Addr}
def Runs.more (L : Runs) (x : Run) (v : Option Addr) (a : Addr) : Runs := ⟨L.n + 1, (L.plus x).f, v, a, 0⟩
theorem more_fits {t : Tru} : (L.more x v a).Fits t ↔ L.Fits t ∧ x.Fit t := Runs.plus_fits (L := L) (x := x) (t := t)
theorem more_x (h : (L.more x v a).Val) : x.Ok := by
  have := h L.n (show L.n < L.n + 1 by omega)
  have this : (if L.n < L.n then L.f L.n else x).Ok := this
  rw [if_neg (Nat.lt_irrefl _)] at this
  exact this
theorem more_lerr (lv : L.Val) {p q : Int} (he : L.lerr p q = 0) (e3 : (L.more x v a).err2 p q = 0) : (L.more x v a).lerr p q = 20 ∨ (L.more x v a).lerr p q = 0 := by
  obtain ⟨e2, -, bd⟩ := Runs.lerr_0 he
  obtain ⟨-, v2⟩ := Runs.err_0 (Runs.err2_0 e3).1
  have b2 : (L.more x v a).Bnd p q := (bnd_iff v2).1 (bnd_same (L := L) (show L.n ≤ L.n + 1 by omega) (fun i hi => by
    show (if i < L.n then L.f i else x).p = _ ∧ (if i < L.n then L.f i else x).q = _
    rw [if_pos hi]; exact ⟨rfl, rfl⟩) ((bnd_iff lv).2 bd))
  rcases lerr_is e3 with ⟨-, e⟩ | ⟨-, nb, -⟩ | ⟨-, -, e⟩
  · exact .inl e
  · exact absurd b2 nb
  · exact .inr e
/-- The run has all that its factors can be. -/
theorem all_fit (hx : x.Ok) {N D N' D' : Int} (k : LvOk L x.p x.q N D) (k' : LvOk L (-x.p) (-x.q) N' D') (h1 : ¬ flt (L.lval x.p x.q) ⟨x.lo, 1⟩) (h2 : ¬ flt (L.lval (-x.p) (-x.q)) ⟨-x.hi, 1⟩) {t : Tru} (hd : 0 < t.d) (hf : L.Fits t) : x.Fit t := by
  have l1 := k.k.le t hf hd
  have l2 := k'.k.le t hf hd
  have d := k.d.1
  have d' := k'.d.1
  rw [k.e, ← fr_one x.lo, flt_fr d Int.one_pos] at h1
  rw [k'.e, ← fr_one (-x.hi), flt_fr d' Int.one_pos] at h2
  have e2 : -x.p * t.a + -x.q * t.b = -(x.p * t.a + x.q * t.b) := by rw [Int.neg_mul, Int.neg_mul]; omega
  rw [e2] at l2
  have h1 : x.lo * D ≤ N := by omega
  have h2 : -x.hi * D' ≤ N' := by omega
  have m1 := Int.mul_le_mul_of_nonneg_right h1 (show 0 ≤ t.d by omega)
  have m2 := Int.mul_le_mul_of_nonneg_right h2 (show 0 ≤ t.d by omega)
  refine ⟨Int.le_of_mul_le_mul_right (a := D) ?_ d, Int.le_of_mul_le_mul_right (a := D') ?_ d'⟩
  · have e : x.lo * t.d * D = x.lo * D * t.d := by ac_rfl
    omega
  · have e : x.hi * t.d * D' = -(-x.hi * D' * t.d) := by
      rw [Int.neg_mul, Int.neg_mul, Int.neg_neg]; ac_rfl
    rw [Int.neg_mul] at l2
    omega
theorem more_same (lv : L.Val) (hx : x.Ok) {p q N D : Int} (k : LvOk L p q N D) (he : L.lerr p q = 0) (e3 : (L.more x v a).err2 p q = 0) (h : ∀ t : Tru, 0 < t.d → L.Fits t → x.Fit t) : (L.more x v a).lerr p q = 0 ∧ (L.more x v a).lval p q = L.lval p q := by
  have iff : ∀ t : Tru, 0 < t.d → ((L.more x v a).Fits t ↔ L.Fits t) := fun t hd => ⟨fun f => (more_fits.1 f).1, fun f => more_fits.2 ⟨f, h t hd f⟩⟩
  obtain ⟨-, cl, -⟩ := Runs.lerr_0 he
  have e0 : (L.more x v a).lerr p q = 0 := by
    rcases more_lerr lv he e3 with e | e
    · exfalso
      obtain ⟨t, hd, hf⟩ := (cl_iff lv).1 cl
      obtain ⟨-, v2⟩ := Runs.err_0 (Runs.err2_0 e3).1
      have c2 := (cl_iff v2).2 ⟨t, hd, (iff t hd).2 hf⟩
      rcases lerr_is e3 with ⟨nc, -⟩ | ⟨-, -, e'⟩ | ⟨-, -, e'⟩
      · exact nc c2
      · rw [e] at e'; exact absurd e' (by decide)
      · rw [e] at e'; exact absurd e' (by decide)
    · exact e
  exact ⟨e0, lst_eq k iff e0⟩
theorem more_ok {b N : Nat} {h : H} (G : Grown b N h 56 4 (L.n + 1) (rowsOf (fun i => (L.f i).cells) L.n ++ x.cells) v) (hn : L.n ≤ 1000) : ∃ a, (L.more x v a).Ok N h ∧ b ≤ a.block ∧ a.block < N := by
  have hrows : rowsOf (fun i => (L.f i).cells) L.n ++ x.cells = rowsOf (fun j => ((L.plus x).f j).cells) (L.n + 1) := by
    show _ = rowsOf _ L.n ++ _
    congr 1
    · exact rowsOf_congr _ fun j hj => by unfold Runs.plus; dsimp only; rw [if_pos hj]
    · unfold Runs.plus; dsimp only; rw [if_neg (Nat.lt_irrefl _)]
  rw [hrows] at G
  obtain ⟨a, g1, g2, g3⟩ := G.els (fun _ => rfl)
  have g1 := g1 (by omega)
  have g3 := g3 (by omega)
  exact ⟨a, ⟨fun _ => g1, g2, fun _ => g3.2, by show L.n + 1 ≤ _; omega⟩, g3⟩
end
theorem nar_okh {L : Runs} {k r N : Nat} {a b : Int} {h : H} {y : Addr} (G : GAt r h 56 4 L.n (rowsOf (fun i => (updR L.f k ((L.f k).nar a b) i).cells) L.n) (some y)) (hr : r < N) (h0 : 0 < L.n) (hn : L.n ≤ 1000) : (L.nar k a b (some y) y).Ok N h := by
  obtain ⟨a', ha, hE, hb⟩ := (G.grown (b := 0) (N := N) (Nat.zero_le _) hr).els (f := fun i => (updR L.f k ((L.f k).nar a b) i).cells) (fun i => rfl)
  have ha := ha h0
  have hb := hb h0
  simp only [Option.some.injEq] at ha
  subst ha
  exact ⟨fun _ => rfl, hE, fun _ => hb.2, by show L.n ≤ _; omega⟩
theorem gat_els {r n : Nat} {h : H} {e : TypeId} {f : Nat → List Value} {a : Addr} {sz : Nat} (G : GAt r h e sz n (rowsOf f n) (some a)) (hf : ∀ i, (f i).length = sz) : Els h a n sz f := by
  obtain ⟨a', ha, -, hld, -⟩ := G.load
  simp only [Option.some.injEq] at ha
  subst ha
  refine rows_els hf ?_
  have := hld 0 (n * sz) (rowsOf f n) (by rw [← rowsOf_len hf n]; exact cut_whole _)
  simpa [aadd] using this
theorem sto_gat {r lo n sz off m : Nat} {h : H} {e : TypeId} {cs vs : List Value} {a : Addr} {k : H → Prop} (G : GAt r h e sz n cs (some a)) (hlo : lo ≤ r) (ho : vs.all Value.oneCell' = true) (hle : off + vs.length ≤ cs.length) (hm : vs.length = m)
    (hk : ∀ row, GAt r (h.put r row) e sz n (splice cs off vs) (some a) → k (h.put r row)) : Sto lo h (aadd a off) m vs k := by
  obtain ⟨a', ha, -, -, hst⟩ := G.load
  simp only [Option.some.injEq] at ha
  subst ha
  obtain ⟨row, h1, h2⟩ := hst lo off vs hlo ho hle
  exact .raw h1 hm (hk row h2)
theorem callF_gen {P : Program} {g lo : Nat} {q : Bool} {h : H} {fv : Value} {args xs : List Value} {k : Value → H → Prop} (f : ∀ hc, hc = h → CallF P g lo q hc fv args xs k) : CallF P g lo q h fv args xs k := f h rfl
end AE.Try
