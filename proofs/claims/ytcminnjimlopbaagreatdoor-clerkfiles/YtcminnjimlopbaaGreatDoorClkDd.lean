/- Clerk: parts of slices that may be read; appends of any number. -/
import Derived.Test.YtcminnjimlopbaaGreatDoorJoin22
import Derived.Test.YtcminnjimlopbaaGreatDoorAEthree
set_option linter.unusedVariables false
set_option linter.unusedSimpArgs false
set_option linter.unusedSectionVars false
namespace AE.Tryz
open Go AE Go.Proofs AE.Clerk
set_option maxRecDepth 100000
set_option linter.unusedVariables false
section
variable {P : Program} {lo nid : Nat} {ts : Ts} {h : H} {k : Value → H → Prop}
end
theorem SF.rd {lo hi : Nat} {h : H} {S : SD} {b1 b2 b3 b4 b5 : Option Addr} {a1 r1 a2 r2 a3 r3 a4 r4 a5 r5 : Nat} (k : SF lo hi h S b1 b2 b3 b4 b5 a1 r1 a2 r2 a3 r3 a4 r4 a5 r5) : SR hi h S b1 b2 b3 b4 b5 := by
 have c := k.c
 have s1 := k.s1; have s3 := k.s3; have s4 := k.s4; have s5 := k.s5
 exact ⟨GE.rd k.g1 byO (cM_len S) (cM_one S) byO, GE.rd k.g2 byO (by rw [cL_len]; omega) (cI_one _) byO, GE.rd k.g3 byO (by rw [cI_len]; omega) (cI_one _) byO, GE.rd k.g4 byO (by rw [cI_len]; omega) (cI_one _) byO, GE.rd k.g5 byO (by rw [cI_len]; omega) (cI_one _) byO, s1, s3, s4, s5⟩
structure SG (lo hi : Nat) (h : H) (S : SD) (b1 b2 b3 b4 b5 : Option Addr) (a1 r1 a2 r2 a3 r3 a4 r4 a5 r5 : Nat) : Prop where
 g1 : GE a1 r1 h 61 8 S.ms.length (cM S) b1
 g2 : GE a2 r2 h 2 1 S.ms.length (cL S) b2
 g3 : GE a3 r3 h 3 1 S.rn.length (cI S.rn) b3
 g4 : GE a4 r4 h 2 1 S.co.length (cI S.co) b4
 g5 : GE a5 r5 h 3 1 S.bk.length (cI S.bk) b5
 c : lo ≤ a1 ∧ a1 < hi ∧ lo ≤ r1 ∧ r1 < hi ∧ lo ≤ a2 ∧ a2 < hi ∧ lo ≤ r2 ∧ r2 < hi ∧ lo ≤ a3 ∧ a3 < hi ∧ lo ≤ r3 ∧ r3 < hi ∧ lo ≤ a4 ∧ a4 < hi ∧ lo ≤ r4 ∧ r4 < hi ∧ lo ≤ a5 ∧ a5 < hi ∧ lo ≤ r5 ∧ r5 < hi
 s1 : S.ms.length ≤ 100
 s3 : S.rn.length ≤ 100
 s4 : S.co.length ≤ 100
 s5 : S.bk.length ≤ 100
theorem SG.frame {lo hi : Nat} {h h' : H} {S : SD} {b1 b2 b3 b4 b5 : Option Addr} {a1 r1 a2 r2 a3 r3 a4 r4 a5 r5 : Nat} (k : SG lo hi h S b1 b2 b3 b4 b5 a1 r1 a2 r2 a3 r3 a4 r4 a5 r5) (hs : ∀ q, lo ≤ q → q < hi → h'.get q = h.get q) : SG lo hi h' S b1 b2 b3 b4 b5 a1 r1 a2 r2 a3 r3 a4 r4 a5 r5 := by
 obtain ⟨c1, c2, c3, c4, c5, c6, c7, c8, c9, c10, c11, c12, c13, c14, c15, c16, c17, c18, c19, c20⟩ := k.c
 exact ⟨k.g1.frame (fun _ => hs _ c1 c2) (fun _ => hs _ c3 c4), k.g2.frame (fun _ => hs _ c5 c6) (fun _ => hs _ c7 c8), k.g3.frame (fun _ => hs _ c9 c10) (fun _ => hs _ c11 c12), k.g4.frame (fun _ => hs _ c13 c14) (fun _ => hs _ c15 c16), k.g5.frame (fun _ => hs _ c17 c18) (fun _ => hs _ c19 c20), k.c, k.s1, k.s3, k.s4, k.s5⟩
theorem SG.rd {lo hi m : Nat} {h : H} {S : SD} {b1 b2 b3 b4 b5 : Option Addr} {a1 r1 a2 r2 a3 r3 a4 r4 a5 r5 : Nat} (k : SG lo hi h S b1 b2 b3 b4 b5 a1 r1 a2 r2 a3 r3 a4 r4 a5 r5) (hm : hi ≤ m) : SR m h S b1 b2 b3 b4 b5 := by
 have c := k.c
 have s1 := k.s1; have s3 := k.s3; have s4 := k.s4; have s5 := k.s5
 exact ⟨GE.rd k.g1 byO (cM_len S) (cM_one S) byO, GE.rd k.g2 byO (by rw [cL_len]; omega) (cI_one _) byO, GE.rd k.g3 byO (by rw [cI_len]; omega) (cI_one _) byO, GE.rd k.g4 byO (by rw [cI_len]; omega) (cI_one _) byO, GE.rd k.g5 byO (by rw [cI_len]; omega) (cI_one _) byO, s1, s3, s4, s5⟩
theorem SG.mono {lo lo' hi hi' : Nat} {h : H} {S : SD} {b1 b2 b3 b4 b5 : Option Addr} {a1 r1 a2 r2 a3 r3 a4 r4 a5 r5 : Nat} (k : SG lo hi h S b1 b2 b3 b4 b5 a1 r1 a2 r2 a3 r3 a4 r4 a5 r5) (h1 : lo' ≤ lo) (h2 : hi ≤ hi') : SG lo' hi' h S b1 b2 b3 b4 b5 a1 r1 a2 r2 a3 r3 a4 r4 a5 r5 := by
 have c := k.c
 exact ⟨k.g1, k.g2, k.g3, k.g4, k.g5, by omega, k.s1, k.s3, k.s4, k.s5⟩
end AE.Tryz
