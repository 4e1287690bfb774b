/- Slices that are made, grown within their capacity, copied; structs compared. -/
import Derived.Test.YthajcipblfchiaaAEWp
set_option linter.unusedVariables false
set_option linter.unusedSimpArgs false
set_option linter.unusedSectionVars false
namespace AE
open Go
section
variable {P : Program} {lo nid : Nat} {ts : Ts} {h h' : H} {k : Value → H → Prop}
theorem q_mkslice {z : List Value} {bytes a b : Nat} {e : TypeId} {l c : Opd} {k1 k2 : IntKind} (hl : ev ts l = .int k1 (a : Int)) (hc : ev ts c = .int k2 (b : Int)) (hle : a ≤ b) (hsm : (b + 1) * (bytes + 1) ≤ 1099511627776)
    (hr : k (.slice (some ⟨nid, 0, none⟩) a b) (h.put (nid) (.cells (reps z b) e))) : OpE P lo nid ts h (.mkslice z bytes e l c) k :=
  OpE.mk (by
    have h1 : natOf? (ev ts l) = some a := by rw [hl]; simp [natOf?]
    have h2 : natOf? (ev ts c) = some b := by rw [hc]; simp [natOf?]
    simp only [aop, h1, h2, xMkslice]
    rw [if_pos ⟨hle, hsm⟩]) hr
theorem q_append1 {e e0 : TypeId} {sz bytes r len cap c' : Nat} {s x : Opd} {a : Addr} {c nc : List Value} (hs : ev ts s = .slice (some ⟨r, 0, none⟩) len cap) (hx : ev ts x = .slice (some a) 1 c') (ha : h.loadN a (1 * sz) = some nc)
    (hget : h.get r = some (.cells c e0)) (hlo : lo ≤ r) (hcap : len + 1 ≤ cap) (hlen : len * sz + nc.length ≤ c.length) (ho : nc.all Value.oneCell' = true)
    (hr : k (.slice (some ⟨r, 0, none⟩) (len + 1) cap) (h.put r (.cells (splice c (len * sz) nc) e0))) : OpE P lo nid ts h (.append e sz bytes s x) k :=
  OpE.mk (by
    have hst : h.storeN lo (aadd ⟨r, 0, none⟩ (len * sz)) nc = some (h.put r (.cells (splice c (len * sz) nc) e0)) := by
      unfold H.storeN
      rw [if_pos ⟨hlo, ho⟩]
      simp [aadd, hget, storeRow, hlen]
    simp [aop, xAppend, hx, hs, alenOf, acells, apAddr, apKnown, hcap]
    rw [Nat.one_mul] at ha
    rw [ha]
    simp [hst]) hr

/-- Integers as cells. -/
def intCells (f : Nat → Int) (n : Nat) : List Value := (List.range n).map fun i => Value.int .i64 (f i)
theorem intCells_length (f : Nat → Int) (n : Nat) : (intCells f n).length = n := by simp [intCells]
theorem intCells_get (f : Nat → Int) (n i : Nat) (hi : i < n) : (intCells f n)[i]? = some (.int .i64 (f i)) := by simp [intCells, hi]
theorem Ints.row {r : Nat} {e : TypeId} {f : Nat → Int} {n : Nat} (hget : h.get r = some (.cells (intCells f n) e)) : Ints h ⟨r, 0, none⟩ n f := fun i hi =>
  loadN_one (c := intCells f n) hget (by show (intCells f n)[0 + i]? = _; rw [Nat.zero_add]; exact intCells_get f n i hi)
theorem row_get {row : ARow} {off n : Nat} {s : Option Nat} {l : List Value} (hl : loadRow off n row s = some l) : l.length = n := by
  have hcut : ∀ {c : List Value}, cut c off n = some l → l.length = n := fun {c} h => by
    unfold cut at h
    split at h
    · simp at h; subst h; simp; omega
    · simp at h
  cases row <;> cases s <;> simp only [loadRow] at hl <;> first | exact hcut hl | (split at hl <;> first | exact hcut hl | simp at hl) | simp at hl
theorem cut_succ {c l : List Value} {off n : Nat} {v : Value} (h1 : cut c off n = some l) (h2 : cut c (off + n) 1 = some [v]) : cut c off (n + 1) = some (l ++ [v]) := by
  unfold cut at *
  split at h1
  · split at h2
    · rename_i a b
      simp only [Option.some.injEq] at h1 h2
      rw [if_pos (by omega), ← h1, ← h2, List.take_add]
      simp [List.drop_drop]
    · simp at h2
  · simp at h1
theorem loadRow_succ {row : ARow} {off n : Nat} {s : Option Nat} {l : List Value} {v : Value} (h1 : loadRow off n row s = some l) (h2 : loadRow (off + n) 1 row s = some [v]) : loadRow off (n + 1) row s = some (l ++ [v]) := by
  cases row <;> cases s <;> simp only [loadRow] at h1 h2 ⊢ <;> first
    | exact cut_succ h1 h2
    | (split at h1
       · split at h2
         · rename_i a b
           rw [if_pos ⟨a.1, a.2.1, by omega⟩]
           exact cut_succ h1 h2
         · simp at h2
       · simp at h1)
    | simp at h1
theorem Ints.all {a : Addr} {f : Nat → Int} {n : Nat} (hi : Ints h a n f) (h0 : 0 < n) : ∀ k, 0 < k → k ≤ n → h.loadN a k = some (intCells f k)
  | 0, hk, _ => by omega
  | 1, _, hn => by
    have := hi 0 h0
    simpa [intCells, aadd] using this
  | k + 2, _, hn => by
    have ih := hi.all h0 (k + 1) (by omega) (by omega)
    have hs := hi (k + 1) (by omega)
    unfold H.loadN at *
    cases hrow : h.get a.block with
    | none => rw [hrow] at ih; simp at ih
    | some row =>
      rw [hrow] at ih
      simp only [aadd, hrow, Option.bind_some] at ih hs ⊢
      rw [loadRow_succ ih hs]
      simp [intCells, List.range_succ]
theorem q_copyI {r n cd cs : Nat} {e : TypeId} {dd s : Opd} {b : Option Addr} {a : Addr} {c : List Value} {f : Nat → Int} (hd : ev ts dd = .slice (some ⟨r, 0, none⟩) n cd) (hs : ev ts s = .slice b n cs) (hb : 0 < n → b = some a) (hi : Ints h a n f) (hn : 0 < n)
    (hget : h.get r = some (.cells c e)) (hlen : c.length = n) (hlo : lo ≤ r) (hr : k (.int .i64 n) (h.put r (.cells (intCells f n) e))) : OpE P lo nid ts h (.copy 1 dd s) k :=
  OpE.mk (by
    obtain rfl := hb hn
    have hall := hi.all hn n hn (Nat.le_refl _)
    have hone : (intCells f n).all Value.oneCell' = true := by simp [intCells, Value.oneCell']
    have hst : h.storeN lo ⟨r, 0, none⟩ (intCells f n) = some (h.put r (.cells (intCells f n) e)) := by
      unfold H.storeN
      rw [if_pos ⟨hlo, hone⟩]
      have hsp : splice c 0 (intCells f n) = intCells f n := by
        unfold splice
        rw [intCells_length]
        simp [hlen]
      simp [hget, storeRow, intCells_length, hlen, hsp]
    have hn0 : n ≠ 0 := by omega
    simp [aop, xCopy, hd, hs, alenOf, acells, hall, hn0, hst]) hr
theorem q_copy0 {cd cs : Nat} {dd s : Opd} {b b' : Option Addr} (hd : ev ts dd = .slice b' 0 cd) (hs : ev ts s = .slice b 0 cs) (ha : b = none ∨ ∃ a, b = some a ∧ h.loadN a 0 = some [])
    (hr : k (.int .i64 (0 : Nat)) h) : OpE P lo nid ts h (.copy 1 dd s) k :=
  OpE.mk (by
    have hac : acells h 1 0 (.slice b 0 cs) = some [] := by
      rcases ha with rfl | ⟨a, rfl, hl⟩
      · rfl
      · simp [acells, hl]
    cases b' <;> simp [aop, xCopy, hd, hs, alenOf, hac]) hr
end
theorem splice_len {xs ys : List Value} {off : Nat} (h : off + ys.length ≤ xs.length) : (splice xs off ys).length = xs.length := by
  unfold splice; simp; omega
theorem splice_new {xs ys : List Value} {off n : Nat} (h : off + ys.length ≤ xs.length) (hn : ys.length = n) : ((splice xs off ys).drop off).take n = ys := by
  subst hn
  unfold splice
  have h1 : (xs.take off).length = off := by simp; omega
  rw [List.append_assoc, List.drop_append_of_le_length (by omega), List.drop_of_length_le (by omega), List.nil_append, List.take_append_of_le_length (Nat.le_refl _), List.take_length]
theorem splice_old {xs ys : List Value} {off i n : Nat} (h : off + ys.length ≤ xs.length) (hi : i + n ≤ off) : ((splice xs off ys).drop i).take n = (xs.drop i).take n := by
  unfold splice
  have h1 : (xs.take off).length = off := by simp; omega
  rw [List.append_assoc, List.drop_append_of_le_length (by omega), List.take_append_of_le_length (by rw [List.length_drop]; omega), List.drop_take, List.take_take]
  congr 1
  omega
theorem els_row {h : H} {r n sz : Nat} {c : List Value} {e : TypeId} {f : Nat → List Value} (hg : h.get r = some (.cells c e)) (hl : c.length = n * sz) (hc : ∀ j, j < n → (c.drop (j * sz)).take sz = f j) : Els h ⟨r, 0, none⟩ n sz f := fun j hj => by
  refine loadN_cells (off := 0 + j * sz) hg ?_
  unfold cut
  have : (j + 1) * sz ≤ n * sz := Nat.mul_le_mul_right _ hj
  rw [Nat.add_mul, Nat.one_mul] at this
  rw [if_pos (by omega), Nat.zero_add, hc j hj]

end AE
