/- Clerk: parts of slices that may be read; appends of any number. -/
import Derived.Test.YtcminnjimlopbaaGreatDoorJoin23
import Derived.Test.YtcminnjimlopbaaGreatDoorAEthree
set_option linter.unusedVariables false
set_option linter.unusedSimpArgs false
set_option linter.unusedSectionVars false
namespace AE.Tryz
open Go AE Go.Proofs AE.Clerk
set_option maxRecDepth 100000
set_option linter.unusedVariables false
section
variable {P : Program} {lo nid : Nat} {ts : Ts} {h : H} {k : Value → H → Prop}
theorem all_take {l : List Value} {p : Value → Bool} (h : l.all p = true) (n : Nat) : (l.take n).all p = true := by
 rw [List.all_eq_true] at h ⊢
 exact fun x hx => h x (List.mem_of_mem_take hx)
theorem all_drop {l : List Value} {p : Value → Bool} (h : l.all p = true) (n : Nat) : (l.drop n).all p = true := by
 rw [List.all_eq_true] at h ⊢
 exact fun x hx => h x (List.mem_of_mem_drop hx)
theorem q_rdto {m sz n j : Nat} {cs : List Value} {b : Option Addr} {x hi : Opd} {kd : IntKind} (hx : ev ts x = .slice b n 0) (r : RdS m h sz n cs b) (hj : ev ts hi = .int kd (j : Int)) (h1 : j ≤ n) (hr : ∀ v, Cells h sz j v (cs.take (j * sz)) → k v h) : OpE P lo nid ts h (.slsl sz x none (some hi) none) k := by
 obtain ⟨r1, r2, r3, r4⟩ := r
 rcases Nat.eq_zero_or_pos n with h0 | h0
 ·subst h0
  obtain rfl : j = 0 := by omega
  have C : ∀ b c, Cells h sz 0 (.slice b 0 c) (cs.take (0 * sz)) := fun b c => ⟨rfl, fun h => absurd h (Nat.lt_irrefl 0), by simp, by simp⟩
  have n1 : natOf? (ev ts hi) = some 0 := by rw [hj]; simp [natOf?]
  rcases r4 rfl with rfl | ⟨r0, rfl⟩
  ·refine OpE.mk (v := .slice none 0 0) (h' := h) ?_ (hr _ (C _ _))
   simp [aop, keep, slsl, slNil, hx, evO, optNat, n1]
  ·refine OpE.mk (v := .slice (some ⟨r0, 0, none⟩) 0 0) (h' := h) ?_ (hr _ (C _ _))
   have hf : ¬ far ≤ 0 := by unfold far; omega
   have hf2 : 0 < far := by unfold far; omega
   simp [aop, keep, slsl, slKnown, slAddr, hx, evO, optNat, n1, hf, hf2, enc1]
 ·obtain ⟨a, rfl, l, hb, hs⟩ := r3 h0
  refine q_gto hx hj hs h0 h1 fun c' hc' => hr _ ⟨rfl, fun h2 => ?_, by rw [List.length_take, r1]; exact Nat.min_eq_left (Nat.mul_le_mul_right _ h1), all_take r2 _⟩
  simp only [acells, if_neg (Nat.not_le.2 hc'.far)]
  have hle := Nat.mul_le_mul_right sz h1
  have hcut : cut cs 0 (j * sz) = some (cs.take (j * sz)) := by
   unfold cut
   rw [if_pos byO, List.drop_zero]
  have := load_part l hcut
  rwa [show aadd a 0 = a by simp [aadd]] at this
theorem q_rdfrom {m sz n j : Nat} {cs : List Value} {b : Option Addr} {x lo' : Opd} {kd : IntKind} (hx : ev ts x = .slice b n 0) (r : RdS m h sz n cs b) (hj : ev ts lo' = .int kd (j : Int)) (h1 : j ≤ n) (hn : n < 1000000) (hz : sz < 1000) (hr : ∀ v, Cells h sz (n - j) v (cs.drop (j * sz)) → k v h) : OpE P lo nid ts h (.slsl sz x (some lo') none none) k := by
 obtain ⟨r1, r2, r3, r4⟩ := r
 have hlen : (cs.drop (j * sz)).length = (n - j) * sz := by rw [List.length_drop, r1, Nat.sub_mul]
 rcases Nat.eq_zero_or_pos n with h0 | h0
 ·subst h0
  obtain rfl : j = 0 := by omega
  have C : ∀ b c, Cells h sz 0 (.slice b 0 c) (cs.drop (0 * sz)) := fun b c => ⟨rfl, fun h => absurd h (Nat.lt_irrefl 0), by simpa using r1, all_drop r2 _⟩
  have n1 : natOf? (ev ts lo') = some 0 := by rw [hj]; simp [natOf?]
  rcases r4 rfl with rfl | ⟨r0, rfl⟩
  ·refine OpE.mk (v := .slice none 0 0) (h' := h) ?_ (hr _ (C _ _))
   simp [aop, keep, slsl, slNil, hx, evO, optNat, n1]
  ·refine OpE.mk (v := .slice (some ⟨r0, 0, none⟩) 0 0) (h' := h) ?_ (hr _ (C _ _))
   have hf : ¬ far ≤ 0 := by unfold far; omega
   have hf2 : 0 < far := by unfold far; omega
   simp [aop, keep, slsl, slKnown, slAddr, hx, evO, optNat, n1, hf, hf2, enc1]
 ·obtain ⟨a, rfl, l, hb, hs⟩ := r3 h0
  rcases Nat.lt_or_ge j n with h2 | h2
  ·refine q_gfrom hx hj hs h2 fun c' hc' => hr _ ⟨rfl, fun h3 => ?_, hlen, all_drop r2 _⟩
   simp only [acells, if_neg (Nat.not_le.2 hc'.far)]
   have hle := Nat.mul_le_mul_right sz h1
   have hcut : cut cs (j * sz) ((n - j) * sz) = some (cs.drop (j * sz)) := by
    unfold cut
    have e : j * sz + (n - j) * sz = n * sz := by rw [← Nat.add_mul]; congr 1; omega
    rw [if_pos byO, List.take_of_length_le (by rw [hlen]; exact Nat.le_refl _)]
   exact load_part l hcut
  ·obtain rfl : j = n := by omega
   have hok : SlOk a j 0 := by
    rcases hs with ⟨-, h3, -⟩ | ⟨h3, -, -⟩ | ⟨-, h3, -⟩
    ·omega
    ·exact .inr ⟨h3, rfl⟩
    ·omega
   refine q_from hx hj hok (Nat.le_refl _) h0 hn hz fun a' c' _ => ?_
   rw [Nat.sub_self] at hlen ⊢
   exact hr _ ⟨by rw [Nat.sub_self]; rfl, fun h3 => by omega, by rw [Nat.sub_self]; exact hlen, all_drop r2 _⟩
theorem q_appE {r0 r n m bytes sz : Nat} {e : TypeId} {cs nc : List Value} {b : Option Addr} {sx x : Opd} (G : GE r0 r h e sz n cs b) (hsv : ev ts sx = .slice b n 0) (C : Cells h sz m (ev ts x) nc) (hlo : lo ≤ r ∧ r < nid) (hnx : nid < h.next) (hsm : (n + m + 1) * (bytes + 1) ≤ 1099511627776)
 (hk : ∀ r' b' h', (r' = r ∨ r' = nid) → GE r0 r' h' e sz (n + m) (cs ++ nc) b' → Quiet r h h' → h'.next = h.next → (∀ q, q ≠ r → q ≠ nid → h'.get q = h.get q) → k (.slice b' (n + m) 0) h') : OpE P lo nid ts h (.append e sz bytes sx x) k := by
 rcases Nat.eq_zero_or_pos m with h0 | h0
 ·subst h0
  have hnc : nc = [] := List.length_eq_zero_iff.1 (by rw [C.2.2.1]; simp)
  subst hnc
  exact q_app0 hsv C.1 (hk r _ _ (.inl rfl) (by rw [List.append_nil]; exact G) (Quiet.refl _ _) rfl fun _ _ _ => rfl)
 rcases G with ⟨h1, h2, h3, hg⟩ | ⟨h1, G⟩
 ·subst h1 h2 h3
  apply q_appF (n := 0) (m := m) (b := nid) (cs := []) (nc := nc) (c := 0)
  case hsv => exact hsv
  case G => exact ⟨by simp, .inr ⟨_, rfl, by unfold far; omega, .inl ⟨rfl, rfl⟩, by simp [H.loadN, hg, loadRow, cut]⟩⟩
  case C => exact C
  case hm => exact h0
  case hb => exact Nat.le_refl _
  case hsm => exact hsm
  intro v row G'
  obtain ⟨r4, G4, hr4, hr4'⟩ := G'.gat byO
  obtain rfl : r4 = nid := by omega
  exact hk _ v _ (.inr rfl) (.inr ⟨by omega, G4⟩) (Quiet.put byO hnx) rfl fun q _ h2 => by simp [H.put, h2]
 ·apply q_appA (r := r) (n := n) (m := m) (cs := cs) (nc := nc)
  case hsv => exact hsv
  case G => exact G
  case C => exact C
  case hm => exact h0
  case hlo => exact hlo.1
  case hsm => exact hsm
  intro v' row G5
  exact hk r v' _ (.inl rfl) (.inr ⟨by omega, G5⟩) (Quiet.put (Nat.le_refl _) byO) rfl fun q h2 _ => by simp [H.put, h2]
end
theorem SF.rd {lo hi : Nat} {h : H} {S : SD} {b1 b2 b3 b4 b5 : Option Addr} {a1 r1 a2 r2 a3 r3 a4 r4 a5 r5 : Nat} (k : SF lo hi h S b1 b2 b3 b4 b5 a1 r1 a2 r2 a3 r3 a4 r4 a5 r5) : SR hi h S b1 b2 b3 b4 b5 := by
 have c := k.c
 have s1 := k.s1; have s3 := k.s3; have s4 := k.s4; have s5 := k.s5
 exact ⟨GE.rd k.g1 byO (cM_len S) (cM_one S) byO, GE.rd k.g2 byO (by rw [cL_len]; omega) (cI_one _) byO, GE.rd k.g3 byO (by rw [cI_len]; omega) (cI_one _) byO, GE.rd k.g4 byO (by rw [cI_len]; omega) (cI_one _) byO, GE.rd k.g5 byO (by rw [cI_len]; omega) (cI_one _) byO, s1, s3, s4, s5⟩
structure SG (lo hi : Nat) (h : H) (S : SD) (b1 b2 b3 b4 b5 : Option Addr) (a1 r1 a2 r2 a3 r3 a4 r4 a5 r5 : Nat) : Prop where
 g1 : GE a1 r1 h 61 8 S.ms.length (cM S) b1
 g2 : GE a2 r2 h 2 1 S.ms.length (cL S) b2
 g3 : GE a3 r3 h 3 1 S.rn.length (cI S.rn) b3
 g4 : GE a4 r4 h 2 1 S.co.length (cI S.co) b4
 g5 : GE a5 r5 h 3 1 S.bk.length (cI S.bk) b5
 c : lo ≤ a1 ∧ a1 < hi ∧ lo ≤ r1 ∧ r1 < hi ∧ lo ≤ a2 ∧ a2 < hi ∧ lo ≤ r2 ∧ r2 < hi ∧ lo ≤ a3 ∧ a3 < hi ∧ lo ≤ r3 ∧ r3 < hi ∧ lo ≤ a4 ∧ a4 < hi ∧ lo ≤ r4 ∧ r4 < hi ∧ lo ≤ a5 ∧ a5 < hi ∧ lo ≤ r5 ∧ r5 < hi
 s1 : S.ms.length ≤ 100
 s3 : S.rn.length ≤ 100
 s4 : S.co.length ≤ 100
 s5 : S.bk.length ≤ 100
theorem SG.frame {lo hi : Nat} {h h' : H} {S : SD} {b1 b2 b3 b4 b5 : Option Addr} {a1 r1 a2 r2 a3 r3 a4 r4 a5 r5 : Nat} (k : SG lo hi h S b1 b2 b3 b4 b5 a1 r1 a2 r2 a3 r3 a4 r4 a5 r5) (hs : ∀ q, lo ≤ q → q < hi → h'.get q = h.get q) : SG lo hi h' S b1 b2 b3 b4 b5 a1 r1 a2 r2 a3 r3 a4 r4 a5 r5 := by
 obtain ⟨c1, c2, c3, c4, c5, c6, c7, c8, c9, c10, c11, c12, c13, c14, c15, c16, c17, c18, c19, c20⟩ := k.c
 exact ⟨k.g1.frame (fun _ => hs _ c1 c2) (fun _ => hs _ c3 c4), k.g2.frame (fun _ => hs _ c5 c6) (fun _ => hs _ c7 c8), k.g3.frame (fun _ => hs _ c9 c10) (fun _ => hs _ c11 c12), k.g4.frame (fun _ => hs _ c13 c14) (fun _ => hs _ c15 c16), k.g5.frame (fun _ => hs _ c17 c18) (fun _ => hs _ c19 c20), k.c, k.s1, k.s3, k.s4, k.s5⟩
theorem SG.rd {lo hi m : Nat} {h : H} {S : SD} {b1 b2 b3 b4 b5 : Option Addr} {a1 r1 a2 r2 a3 r3 a4 r4 a5 r5 : Nat} (k : SG lo hi h S b1 b2 b3 b4 b5 a1 r1 a2 r2 a3 r3 a4 r4 a5 r5) (hm : hi ≤ m) : SR m h S b1 b2 b3 b4 b5 := by
 have c := k.c
 have s1 := k.s1; have s3 := k.s3; have s4 := k.s4; have s5 := k.s5
 exact ⟨GE.rd k.g1 byO (cM_len S) (cM_one S) byO, GE.rd k.g2 byO (by rw [cL_len]; omega) (cI_one _) byO, GE.rd k.g3 byO (by rw [cI_len]; omega) (cI_one _) byO, GE.rd k.g4 byO (by rw [cI_len]; omega) (cI_one _) byO, GE.rd k.g5 byO (by rw [cI_len]; omega) (cI_one _) byO, s1, s3, s4, s5⟩
theorem SG.mono {lo lo' hi hi' : Nat} {h : H} {S : SD} {b1 b2 b3 b4 b5 : Option Addr} {a1 r1 a2 r2 a3 r3 a4 r4 a5 r5 : Nat} (k : SG lo hi h S b1 b2 b3 b4 b5 a1 r1 a2 r2 a3 r3 a4 r4 a5 r5) (h1 : lo' ≤ lo) (h2 : hi ≤ hi') : SG lo' hi' h S b1 b2 b3 b4 b5 a1 r1 a2 r2 a3 r3 a4 r4 a5 r5 := by
 have c := k.c
 exact ⟨k.g1, k.g2, k.g3, k.g4, k.g5, by omega, k.s1, k.s3, k.s4, k.s5⟩
theorem SG.cast {lo hi : Nat} {h : H} {S S' : SD} {b1 b2 b3 b4 b5 : Option Addr} {a1 r1 a2 r2 a3 r3 a4 r4 a5 r5 : Nat} (k : SG lo hi h S b1 b2 b3 b4 b5 a1 r1 a2 r2 a3 r3 a4 r4 a5 r5) (e1 : S'.ms = S.ms) (e3 : S'.rn = S.rn) (e4 : S'.co = S.co) (e5 : S'.bk = S.bk) : SG lo hi h S' b1 b2 b3 b4 b5 a1 r1 a2 r2 a3 r3 a4 r4 a5 r5 := by
 obtain ⟨st, lo, ms, rn, co, bk⟩ := S
 obtain ⟨st', lo', ms', rn', co', bk'⟩ := S'
 simp only at e1 e3 e4 e5
 subst e1 e3 e4 e5
 exact ⟨k.g1, k.g2, k.g3, k.g4, k.g5, k.c, k.s1, k.s3, k.s4, k.s5⟩
def StP (lo : Nat) (S : SD) (h' : H) (cs : List Value) : Prop := ∃ c1 c2 c3 c4 c5 a1 r1 a2 r2 a3 r3 a4 r4 a5 r5, cs = stC S c1 c2 c3 c4 c5 ∧ SG lo h'.next h' S c1 c2 c3 c4 c5 a1 r1 a2 r2 a3 r3 a4 r4 a5 r5
end AE.Tryz
