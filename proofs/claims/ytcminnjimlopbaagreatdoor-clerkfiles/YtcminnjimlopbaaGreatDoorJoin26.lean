/- Walks and plain laws: ClkRb, ClkRc, ClkWa. -/
import Derived.Test.YtcminnjimlopbaaGreatDoorClkRe
import Derived.Test.YtcminnjimlopbaaGreatDoorClkNear
import Derived.Test.YtcminnjimlopbaaGreatDoorJoin21
import Derived.Test.YtcminnjimlopbaaGreatDoorClkLb
set_option linter.unusedVariables false
set_option linter.unusedSimpArgs false
set_option linter.unusedSectionVars false

/- Clerk: a file is read again as its book. -/
namespace AE.Tryz
open Go AE Go.Proofs AE.Clerk
set_option maxRecDepth 100000
set_option linter.unusedVariables false

theorem file_fileZ (f : Nat → Ln) (n : Nat) : file f n = fileZ f n (root f 0 n).toNat := by
 unfold file fileZ
 rw [Int.toNat_of_nonneg (root_bd f 0 n).1]
theorem file_is {f : Nat → Ln} {n : Nat} (hg : Good n f) : IsFile (file f n) f n (root f 0 n).toNat := by
 refine ⟨hg, ?_, file_fileZ f n⟩
 rw [Int.toNat_of_nonneg (root_bd f 0 n).1]
 exact (root_bd f 0 n).2
theorem isFile_un {l : List Nat} {f f' : Nat → Ln} {n n' z z' : Nat} (h : IsFile l f n z) (k : IsFile l f' n' z') : n = n' ∧ z = z' ∧ ∀ i, i < n → f i = f' i := by
 obtain ⟨hg, hz, e⟩ := h
 obtain ⟨kg, kz, e'⟩ := k
 have hs := (file_split (f := f) (n := n) (z := z)).uniq (e ▸ e' ▸ file_split (f := f') (n := n') (z := z'))
 have hn : n = n' := by
  have := congrArg List.length hs
  simp at this
  exact this
 subst hn
 have hrow : ∀ i, i < n → f i = f' i := fun i hi => by
  have e1 := congrArg (fun l => l[i]?) hs
  rw [List.getElem?_append_left (by simpa using hi), List.getElem?_append_left (by simpa using hi), List.getElem?_map, List.getElem?_map, List.getElem?_range hi] at e1
  simp only [Option.map_some, Option.some.injEq] at e1
  exact rowLn_inj (l := (f i).text) ⟨hg.2 i hi, rfl⟩ ⟨kg.2 i hi, e1⟩
 refine ⟨rfl, ?_, hrow⟩
 have e1 := congrArg (fun l => l[n]?) hs
 rw [List.getElem?_append_right (by simp), List.getElem?_append_right (by simp)] at e1
 simp at e1
 have h2 : sep (z : Int) = sep (z' : Int) := by simpa using e1
 unfold sep at h2
 have := dec_inj (List.cons.inj h2).2
 simpa using this
theorem readV_file {f : Nat → Ln} {n lo : Nat} {v : Value} {h' : H} (hg : Good n f) (k : ReadV (file f n) lo v h') : ∃ r, v = .tuple #[.slice (addrX r n) n 0, .int .i64 0] ∧ GX r h' 38 4 n (rowsOf (fun i => (f i).cells) n) ∧ (0 < n → lo ≤ r ∧ r < h'.next) := by
 have hl := file_len hg.2
 have h60 := hg.1
 rcases k with ⟨h1, -⟩ | ⟨-, h2, -⟩ | ⟨-, g, m, z, hf, h3⟩
 ·omega
 ·exact absurd ⟨f, n, _, file_is hg⟩ h2
 ·obtain ⟨rfl, e2, e3⟩ := isFile_un (file_is hg) hf
  have er : root g 0 n = root f 0 n := root_congr fun i _ hi => (e3 i byO).symm
  have hz : (z : Int) = root g 0 n := by
   rw [er, ← e2]; exact Int.toNat_of_nonneg (root_bd f 0 n).1
  rcases h3 with ⟨h4, -⟩ | ⟨-, r, rfl, gx, hb⟩
  ·exact absurd hz h4
  ·refine ⟨r, rfl, ?_, hb⟩
   rw [show rowsOf (fun i => (f i).cells) n = rowsOf (fun i => (g i).cells) n from rowsOf_congr n fun i hi => by rw [e3 i hi]]
   exact gx
end AE.Tryz

/- Clerk: receipts prove their lines and no others; in plain words. -/
namespace AE.Tryz
open Go AE Go.Proofs AE.Clerk
set_option maxRecDepth 100000
set_option linter.unusedVariables false

theorem btw_bd {z : Int} : btw z 0 (Clerk.P - 1) ↔ 0 ≤ z ∧ z < Clerk.P := by unfold btw; omega
theorem besideL_all {f : Nat → Ln} {n i : Nat} : AllS (besideL f n i) := fun y hy => by
 obtain ⟨p, -, rfl⟩ := List.mem_map.1 hy
 exact btw_bd.2 (root_bd ..)
theorem besideL_len {f : Nat → Ln} {n i : Nat} : (besideL f n i).length = (parts 0 n i).length := by simp [besideL]
theorem ck_last {sl : Int} {x : Ln} {n i : Nat} {ys : List Int} (hv : x.Valid 1099511627776) (hs : 0 ≤ sl ∧ sl < Clerk.P) (hn : n ≤ 60) (hi : i < n) (hl : ys.length = (parts 0 n i).length) (ha : AllS ys) :
 ckErr sl x i n ys = if climbP (leaf x.text) (parts 0 n i) ys ≠ sl then 14 else 0 := by
 unfold ckErr
 rw [if_neg (by rw [btw_bd]; rintro (h | h); exact h hv; exact h hs), if_neg byO, if_neg byO, Int.toNat_natCast, Int.toNat_natCast, if_neg byO, if_neg (fun h => h ha)]
theorem climb_self {f : Nat → Ln} {n i : Nat} (hi : i < n) : climbP (leaf (f i).text) (parts 0 n i) (besideL f n i) = root f 0 n := by
 have := climb_root f n (a := 0) hi
 rwa [Nat.zero_add] at this
theorem ck_good {f : Nat → Ln} {n i : Nat} (hg : Good n f) (hi : i < n) : ckErr (root f 0 n) (f i) i n (besideL f n i) = 0 := by
 rw [ck_last (hg.2 i hi) (root_bd ..) hg.1 hi besideL_len besideL_all, climb_self hi, if_neg (fun h => h rfl)]
end AE.Tryz

/- Clerk: the chapter's book; closed facts. -/
namespace AE.Tryz
open Go AE Go.Proofs AE.Clerk
set_option maxRecDepth 100000
set_option linter.unusedVariables false

theorem book_good : Good 12 bookF := of_decide_eq_true (by kernel_rfl)
def stB : St := ⟨970, 30, [⟨7, 2, 600, 2, 1, 100, 100, 60, 30⟩], [⟨3, 7, 100, true⟩, ⟨7, 7, 0, false⟩]⟩
theorem after_book : after bookF 12 = stB := by kernel_rfl
theorem err_book : ∀ q, q < 12 → errAt bookF q = if q = 9 then 9 else if q = 10 then 11 else if q = 11 then 5 else 0 := of_decide_eq_true (p := ∀ q, q < 12 → errAt bookF q = if q = 9 then 9 else if q = 10 then 11 else if q = 11 then 5 else 0) (by kernel_rfl)
theorem parts_book : (parts 0 12 8).length = 3 ∧ (parts 0 12 0).length = 4 ∧ (parts 0 12 11).length = 3 := by
 have h12 : half 12 = 8 := by decide
 have h8 : half 8 = 4 := by decide
 have h4 : half 4 = 2 := by decide
 have h2 : half 2 = 1 := by decide
 refine ⟨?_, ?_, ?_⟩
 ·rw [parts_right byO (by rw [h12]; decide), h12, parts_left byO (by rw [h4]; decide), h4, parts_left byO (by rw [h2]; decide), h2, parts_one]; rfl
 ·rw [parts_left byO (by rw [h12]; decide), h12, parts_left byO (by rw [h8]; decide), h8, parts_left byO (by rw [h4]; decide), h4, parts_left byO (by rw [h2]; decide), h2, parts_one]; rfl
 ·rw [parts_right byO (by rw [h12]; decide), h12, parts_right byO (by rw [h4]; decide), h4, parts_right byO (by rw [h2]; decide), h2, parts_one]; rfl
theorem text_book3 : (bookF 3).text = [114, 117, 110, 32, 55, 32, 49, 53, 48, 48, 32, 51, 50] := by
 have e : bookF 3 = ⟨3, 7, 1500, 32⟩ := rfl
 rw [e]
 have d7 : dec 7 = [55] := by rw [dec_lt byO]
 have d1500 : dec 1500 = [49, 53, 48, 48] := by rw [dec_ge byO, dec_ge byO, dec_ge byO, dec_lt byO]; rfl
 have d32 : dec 32 = [51, 50] := by rw [dec_ge byO, dec_lt byO]; rfl
 simp [Ln.text, Ln.nums, word, sep, d7, d1500, d32]
theorem bookF_cells : bookL.flatMap Ln.cells = cellsOf Ln.cells bookL := rfl
theorem sort1 (m : Mdl) : sortM [m] = [m] := by simp [sortM]
theorem book_bk {h : H} {r m : Nat} (g : h.get r = some (.cells (bookL.flatMap Ln.cells) 38)) (hr : r < m) : Bk.Ok ⟨12, bookF, some ⟨r, 0, none⟩, ⟨r, 0, none⟩, 12⟩ m h := by
 refine ⟨fun _ => rfl, fun i hi => ?_, fun _ => hr, by dsimp only; omega, fun _ => .inl ⟨rfl, Nat.le_refl _, by unfold far; dsimp only; omega⟩⟩
 dsimp only at hi ⊢
 have hb : bookL[i]? = some (bookF i) := by
  have : i < bookL.length := hi
  rw [List.getElem?_eq_getElem this]
  simp [bookF, List.getD_eq_getElem?_getD, this]
 have hc := cut_cellsOf (g := Ln.cells) (w := 4) (fun _ => rfl) hb
 rw [← bookF_cells] at hc
 show h.loadN (aadd ⟨r, 0, none⟩ (i * 4)) 4 = _
 unfold H.loadN aadd
 dsimp only
 rw [g, Option.bind_some, Nat.zero_add]
 exact hc
theorem gx_rd {h : H} {r m sz n : Nat} {e : TypeId} {cs : List Value} (g : GX r h e sz n cs) (ho : cs.all Value.oneCell' = true) (hr : 0 < n → r < m) (hn : n < 1000000) : RdS m h sz n cs (addrX r n) := by
 rcases Nat.eq_zero_or_pos n with h0 | h0
 ·subst h0
  have hc : cs = [] := List.eq_nil_of_length_eq_zero (by rw [g.len, Nat.zero_mul])
  subst hc
  exact ⟨by simp, rfl, fun h => absurd h (Nat.lt_irrefl 0), fun _ => .inl rfl⟩
 ·exact GE.rd (a := 0) (.inr ⟨h0, g.gat h0⟩) (hr h0) g.len ho hn
theorem cM8_one (l : List Mdl) : (cellsOf mC8 l).all Value.oneCell' = true := cM_one ⟨0, 0, l, [], [], []⟩
theorem NumL.get' {m m' : Nat} {h h' : H} {l : List Int} {b : Option Addr} {a : Addr} {c : Nat} (k : NumL m h l b a c) (s : 0 < l.length → h'.get a.block = h.get a.block) (hm : 0 < l.length → a.block < m') : NumL m' h' l b a c :=
 ⟨k.e, fun q hq => by
  have := k.i q hq
  unfold H.loadN at this ⊢
  rw [show (aadd a q).block = a.block from rfl] at this ⊢
  rw [s byO]
  exact this, hm⟩
theorem nilBk {h : H} {m : Nat} : Bk.Ok ⟨0, bookF, none, ⟨0, 0, none⟩, 0⟩ m h := ⟨fun h => absurd h (Nat.lt_irrefl 0), fun i hi => absurd hi (Nat.not_lt_zero i), fun h => absurd h (Nat.lt_irrefl 0), Nat.zero_le _, fun h => absurd h (Nat.lt_irrefl 0)⟩
theorem nil_good : Good 0 bookF := ⟨Nat.zero_le _, fun i hi => absurd hi (Nat.not_lt_zero i)⟩
def errL (f : Nat → Ln) (n : Nat) : List Int := (List.range n).map (errAt f)
theorem outC_errL (f : Nat → Ln) (n : Nat) : outC f n n = cI (errL f n) := by
 unfold outC cI errL
 rw [List.map_map]
 refine List.map_congr_left fun i hi => ?_
 rw [if_pos (List.mem_range.1 hi)]; rfl
theorem errL_get (f : Nat → Ln) {n i : Nat} (hi : i < n) : (errL f n)[i]? = some (errAt f i) := by
 unfold errL
 rw [List.getElem?_map, List.getElem?_range hi]; rfl
theorem outC_ns {h : H} {r m n : Nat} {f : Nat → Ln} (g : h.get r = some (.cells (outC f n n) 25)) (hr : r < m) (hn : n ≤ 100) : Ns.Ok ⟨n, errAt f, some ⟨r, 0, none⟩, ⟨r, 0, none⟩, n⟩ m h := by
 refine ⟨fun _ => rfl, fun i hi => ?_, fun _ => hr, by dsimp only; omega⟩
 dsimp only at hi ⊢
 have hc := cut_cellsOf (g := fun z : Int => [Value.int .i64 z]) (w := 1) (fun _ => rfl) (errL_get f hi)
 rw [← cI_cells, ← outC_errL] at hc
 show h.loadN (aadd ⟨r, 0, none⟩ i) 1 = _
 unfold H.loadN aadd
 dsimp only
 rw [g, Option.bind_some, Nat.zero_add]
 rw [Nat.mul_one] at hc
 exact hc
end AE.Tryz
