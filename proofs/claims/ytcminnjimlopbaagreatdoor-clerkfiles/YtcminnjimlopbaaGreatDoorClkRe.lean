/- Clerk, walked: Read. -/
import Derived.Test.YtcminnjimlopbaaGreatDoorJoin24
set_option linter.unusedVariables false
set_option linter.unusedSimpArgs false
set_option linter.unusedSectionVars false
namespace AE
open Go
section
variable {P : Program} {lo nid : Nat} {ts : Ts} {h : H} {K : Value → H → Prop} {κ : Type} [BEq κ] [LawfulBEq κ] {kt : TypeId} {f : κ → Value} {m x y : Opd} {es : List (EG κ)} {c r : Nat} {k : κ} {v z : Value}
theorem q_mapup (hk : KeyT P kt f) (hm : ev ts m = .map (some r)) (hx : ev ts x = f k) (hy : ev ts y = v) (hlo : lo ≤ r) (hg : h.get r = some (.map (es.map (EG.ent f)) c)) (hn : (es.map EG.k).Nodup)
 (hr : K undef (h.put r (.map ((putG es k v c).map (EG.ent f)) (cntG es k c)))) : OpE P lo nid ts h (.mapup kt m x y) K :=
 OpE.mk (by subst hy; exact mapupG hk hm hx hlo hg hn) hr
theorem q_look (hk : KeyT P kt f) (hm : ev ts m = .map (some r)) (hx : ev ts x = f k) (hg : h.get r = some (.map (es.map (EG.ent f)) c)) (hr : K ((getG es k).getD z) h) : OpE P lo nid ts h (.lookup kt z false m x) K :=
 OpE.mk (lookupG hk hm hx hg) hr
theorem q_look2 (hk : KeyT P kt f) (hm : ev ts m = .map (some r)) (hx : ev ts x = f k) (hg : h.get r = some (.map (es.map (EG.ent f)) c)) (hr : K (.tuple #[(getG es k).getD z, .bool (getG es k).isSome]) h) : OpE P lo nid ts h (.lookup kt z true m x) K :=
 OpE.mk (lookupG2 hk hm hx hg) hr
end
end AE
namespace AE.Tryz
open Go AE Go.Proofs AE.Clerk
set_option maxRecDepth 100000
set_option linter.unusedVariables false
def kindsE : List (EG ByteArray) := [⟨⟨#[98, 117, 121]⟩, .int .i64 0, 0⟩, ⟨⟨#[100, 114, 97, 119]⟩, .int .i64 1, 1⟩, ⟨⟨#[99, 117, 116]⟩, .int .i64 2, 2⟩, ⟨⟨#[114, 117, 110]⟩, .int .i64 3, 3⟩, ⟨⟨#[109, 101, 108, 116]⟩, .int .i64 4, 4⟩, ⟨⟨#[98, 105, 108, 108]⟩, .int .i64 5, 5⟩, ⟨⟨#[112, 97, 121]⟩, .int .i64 6, 6⟩, ⟨⟨#[99, 108, 97, 105, 109]⟩, .int .i64 7, 7⟩]
theorem kinds_get (w : ByteArray) : (∃ kd : Int, 0 ≤ kd ∧ kd ≤ 7 ∧ nats w = word kd ∧ getG kindsE w = some (.int .i64 kd)) ∨ (getG kindsE w = none ∧ ∀ kd : Int, 0 ≤ kd ∧ kd ≤ 7 → nats w ≠ word kd) := by
 by_cases h0 : w = ⟨#[98, 117, 121]⟩
 ·subst h0; exact .inl ⟨0, by decide, by decide, rfl, rfl⟩
 by_cases h1 : w = ⟨#[100, 114, 97, 119]⟩
 ·subst h1; exact .inl ⟨1, by decide, by decide, rfl, rfl⟩
 by_cases h2 : w = ⟨#[99, 117, 116]⟩
 ·subst h2; exact .inl ⟨2, by decide, by decide, rfl, rfl⟩
 by_cases h3 : w = ⟨#[114, 117, 110]⟩
 ·subst h3; exact .inl ⟨3, by decide, by decide, rfl, rfl⟩
 by_cases h4 : w = ⟨#[109, 101, 108, 116]⟩
 ·subst h4; exact .inl ⟨4, by decide, by decide, rfl, rfl⟩
 by_cases h5 : w = ⟨#[98, 105, 108, 108]⟩
 ·subst h5; exact .inl ⟨5, by decide, by decide, rfl, rfl⟩
 by_cases h6 : w = ⟨#[112, 97, 121]⟩
 ·subst h6; exact .inl ⟨6, by decide, by decide, rfl, rfl⟩
 by_cases h7 : w = ⟨#[99, 108, 97, 105, 109]⟩
 ·subst h7; exact .inl ⟨7, by decide, by decide, rfl, rfl⟩
 refine .inr ⟨?_, fun kd hkd e => ?_⟩
 ·have q : ∀ a b : ByteArray, b ≠ a → (a == b) = false := fun a b h => by rw [beq_eq_false_iff_ne]; exact fun e => h e.symm
  simp only [getG, kindsE, List.find?_cons, q _ _ h0, q _ _ h1, q _ _ h2, q _ _ h3, q _ _ h4, q _ _ h5, q _ _ h6, q _ _ h7, List.find?_nil, Option.map_none]
 ·have hk' : kd = 0 ∨ kd = 1 ∨ kd = 2 ∨ kd = 3 ∨ kd = 4 ∨ kd = 5 ∨ kd = 6 ∨ kd = 7 := by omega
  have e2 : w = bs (word kd) := by rw [← e, bs_nats]
  rcases hk' with rfl | rfl | rfl | rfl | rfl | rfl | rfl | rfl
  ·exact h0 e2
  ·exact h1 e2
  ·exact h2 e2
  ·exact h3 e2
  ·exact h4 e2
  ·exact h5 e2
  ·exact h6 e2
  ·exact h7 e2
def ReadV (l : List Nat) (lo : Nat) (v : Value) (h' : H) : Prop :=
 (65536 < l.length ∧ v = .tuple #[.slice none 0 0, .int .i64 7]) ∨
 (l.length ≤ 65536 ∧ (¬ ∃ f n z, IsFile l f n z) ∧ v = .tuple #[.slice none 0 0, .int .i64 8]) ∨
 (l.length ≤ 65536 ∧ ∃ f n z, IsFile l f n z ∧ ((z ≠ root f 0 n ∧ v = .tuple #[.slice none 0 0, .int .i64 14]) ∨
  (z = root f 0 n ∧ ∃ r, v = .tuple #[.slice (addrX r n) n 0, .int .i64 0] ∧ GX r h' 38 4 n (rowsOf (fun i => (f i).cells) n) ∧ (0 < n → lo ≤ r ∧ r < h'.next))))
set_option maxHeartbeats 4000000 in
theorem Read_w {h : H} {s : ByteArray} (hs : s.size ≤ 70000) : AW Tryz.prog 32 h.next h [.string s] (fun v h' => ReadV (nats s) h.next v h') := by
 refine fun32.call rfl (Nat.le_refl _) ?_
 unfold a32
 (focus ((try with_reducible apply wpC.to); (repeat' ((conv => whnf); first | ((apply q_cmpk); (focus exact rfl); (focus exact rfl); (focus exact rfl); (focus exact rfl); (all_goals (intro hb; first | (replace hb := of_decide_eq_true hb) | (replace hb := of_decide_eq_false hb))); (all_goals (try (exfalso; omega; done))); (all_goals (revert hb; intros))) | ((apply q_streq); (focus exact rfl); (focus exact rfl); (focus exact rfl); (focus exact rfl); (all_goals (intro hb; first | (replace hb := of_decide_eq_true hb) | (replace hb := of_decide_eq_false hb))); (all_goals (try contradiction)); (all_goals (revert hb; intros))) | ((apply q_ark); (focus exact rfl); (focus exact rfl); (focus exact rfl); (focus exact rfl); (focus first | exact wrap_u8 byO | exact wrap_i32 byO)) | refine byEv ?_ | (apply Fork.mk <;> (intro _; try (exfalso; omega))) | ((apply q_call); (focus exact byNext); (focus exact byLo); (focus (first | exact kClkR0 | exact kClkC0)); first | ((apply q_allB) <;> (intro z_b _ _ _; first | exact Bool.noConfusion z_b | replace z_b := of_decide_eq_true z_b | replace z_b := of_decide_eq_false z_b | skip) <;> ((try (unfold btw at z_b)); first | contradiction | (revert z_b; intros))) | ((apply q_alli) <;> intro _ _ _ _ <;> try contradiction) | (apply q_allv; intro _ _ _)) | refine xClkG0 ?_ | ((apply q_cmpk); (focus exact rfl); (focus exact rfl); (focus exact rfl); (focus exact rfl); (all_goals (intro hb; first | (replace hb := of_decide_eq_true hb) | (replace hb := of_decide_eq_false hb))); (all_goals (try (exfalso; omega; done))); (all_goals (revert hb; intros))) | refine xAEStrN3 ?_ | ((apply q_streq); (focus exact rfl); (focus exact rfl); (focus exact rfl); (focus exact rfl); (all_goals (intro hb; first | (replace hb := of_decide_eq_true hb) | (replace hb := of_decide_eq_false hb))); (all_goals (try contradiction)); (all_goals (revert hb; intros))) | refine xAEStrN1 ?_ | refine xAEStrN0 ?_ | fail)); all_goals ((conv => whnf); try with_reducible apply At.mk)))
 ·(refine byFin ?_)
  exact .inl ⟨by rw [nats_len]; omega, rfl⟩
 have hsl : s.size ≤ 65536 := by omega
 apply q_call
 focus (exact byNext)
 focus (exact byLo)
 focus exact split_v byO
 rintro v h2 ⟨ps, pr, his, rfl, gp, pr1, pr2, pl⟩ q2 n2
 simp only [bump_next] at pr1
 have hne : 0 < ps.length := by
  have := his.ne
  cases ps with
  | nil => exact absurd rfl this
  | cons p ps => simp
 have els := strs_els gp
 have epr : (⟨pr, 0, none⟩ : Addr).block = pr := rfl
 by_cases hb : 2 ≤ ps.length ∧ ps.length ≤ 62 ∧ nats (ps.getD (ps.length - 1) ⟨#[]⟩) = []
 rotate_left
 ·have hwrong : ¬ ∃ f n z, IsFile (nats s) f n z := fun ⟨f', n', z', hf⟩ => hb (file_len2 his hf)
  by_cases h1 : 2 ≤ ps.length
  ·by_cases h3 : ps.length ≤ 62
   ·have el1 : h2.loadN (aadd (⟨pr, 0, none⟩ : Addr) (((ps.length : Int) - 2 + 1).toNat * 1)) 1 = some [.string (ps.getD (ps.length - 1) ⟨#[]⟩)] := by
     rw [show ((ps.length : Int) - 2 + 1).toNat = ps.length - 1 by omega]
     exact els (ps.length - 1) byO
    have hne2 : ¬ nats (ps.getD (ps.length - 1) ⟨#[]⟩) = nats ⟨#[]⟩ := fun h => hb ⟨h1, h3, h⟩
    (refine byRunS ?_)
    (refine byFin ?_)
    exact .inr (.inl ⟨by rw [nats_len]; omega, hwrong, rfl⟩)
   ·(refine byRunS ?_)
    (refine byFin ?_)
    exact .inr (.inl ⟨by rw [nats_len]; omega, hwrong, rfl⟩)
  ·(refine byRunS ?_)
   (refine byFin ?_)
   exact .inr (.inl ⟨by rw [nats_len]; omega, hwrong, rfl⟩)
 obtain ⟨hb1, hb2, hb3⟩ := hb
 obtain ⟨n, en⟩ : ∃ n, ps.length = n + 2 := ⟨ps.length - 2, by omega⟩
 have e0 : ps.getD (ps.length - 1) ⟨#[]⟩ = ⟨#[]⟩ := by rw [← bs_nats (ps.getD (ps.length - 1) ⟨#[]⟩), hb3]; rfl
 have el1 : h2.loadN (aadd (⟨pr, 0, none⟩ : Addr) (((ps.length : Int) - 2 + 1).toNat * 1)) 1 = some [.string ⟨#[]⟩] := by
  have := els (ps.length - 1) byO
  dsimp only at this
  rw [e0] at this
  rw [show ((ps.length : Int) - 2 + 1).toNat = ps.length - 1 by omega]
  exact this
 (refine byRunS ?_)
 apply OpE.mk rfl
 (focus ((try with_reducible apply wpC.to); (repeat' ((conv => whnf); first | refine byEv ?_ | (apply Fork.mk <;> (intro _; try (exfalso; omega))) | ((apply q_call); (focus exact byNext); (focus exact byLo); (focus (first | exact kClkR0 | exact kClkC0)); first | ((apply q_allB) <;> (intro z_b _ _ _; first | exact Bool.noConfusion z_b | replace z_b := of_decide_eq_true z_b | replace z_b := of_decide_eq_false z_b | skip) <;> ((try (unfold btw at z_b)); first | contradiction | (revert z_b; intros))) | ((apply q_alli) <;> intro _ _ _ _ <;> try contradiction) | (apply q_allv; intro _ _ _)) | refine xClkG0 ?_ | ((apply q_cmpk); (focus exact rfl); (focus exact rfl); (focus exact rfl); (focus exact rfl); (all_goals (intro hb; first | (replace hb := of_decide_eq_true hb) | (replace hb := of_decide_eq_false hb))); (all_goals (try (exfalso; omega; done))); (all_goals (revert hb; intros))) | refine xAEStrN3 ?_ | ((apply q_streq); (focus exact rfl); (focus exact rfl); (focus exact rfl); (focus exact rfl); (all_goals (intro hb; first | (replace hb := of_decide_eq_true hb) | (replace hb := of_decide_eq_false hb))); (all_goals (try contradiction)); (all_goals (revert hb; intros))) | refine xAEStrN1 ?_ | refine xAEStrN0 ?_ | fail)); all_goals ((conv => whnf); try with_reducible apply At.mk)))
 rename_i h3 q3 n3
 refine wp_loop (fun q : Nat => [(0, .string s), (4, .slice (some ⟨pr, 0, none⟩) ps.length ps.length), (5, .int .i64 (n : Int)), (6, .map (some (h2.next + 18))), (44, .agg ⟨kindsC⟩), (45, .int .i64 q)]) (fun q h1 => h1.get (h2.next + 18) = some (.map ((kindsE.take q).map (EG.ent Value.string)) q) ∧ Same (h2.next + 18) h2 h1 ∧ h2.next + 22 ≤ h1.next ∧ q ≤ 8) (fun q => 8 - q) 0 ⟨rfl, rfl, int_of rfl byO, rfl, rfl, rfl, trivial⟩ ⟨(by (exact byGet) : _ = some (ARow.map [] 0)), bySame, byOm, by omega⟩ ?_
 rintro q g' h4 ⟨gm, s4, n4, hq⟩ K hK
 by_cases hlt : q < 8
 ·have hq' : q = 0 ∨ q = 1 ∨ q = 2 ∨ q = 3 ∨ q = 4 ∨ q = 5 ∨ q = 6 ∨ q = 7 := by omega
  rcases hq' with rfl | rfl | rfl | rfl | rfl | rfl | rfl | rfl
  ·(refine byRunP ?_)
   apply q_mapup (KeyT.str Tryz.underlying9) (k := (kindsE.getD 0 ⟨⟨#[]⟩, undef, 0⟩).k) (es := kindsE.take 0) (c := 0)
   focus exact rfl
   focus exact rfl
   focus exact rfl
   focus omega
   focus (exact byGet)
   focus decide
   (refine byRunP ?_)
   exact hK 1 _ _ ⟨rfl, rfl, rfl, rfl, rfl, rfl, trivial⟩ ⟨byGet, bySame, byOm, by omega⟩ byO
  ·(refine byRunP ?_)
   apply q_mapup (KeyT.str Tryz.underlying9) (k := (kindsE.getD 1 ⟨⟨#[]⟩, undef, 0⟩).k) (es := kindsE.take 1) (c := 1)
   focus exact rfl
   focus exact rfl
   focus exact rfl
   focus omega
   focus (exact byGet)
   focus decide
   (refine byRunP ?_)
   exact hK 2 _ _ ⟨rfl, rfl, rfl, rfl, rfl, rfl, trivial⟩ ⟨byGet, bySame, byOm, by omega⟩ byO
  ·(refine byRunP ?_)
   apply q_mapup (KeyT.str Tryz.underlying9) (k := (kindsE.getD 2 ⟨⟨#[]⟩, undef, 0⟩).k) (es := kindsE.take 2) (c := 2)
   focus exact rfl
   focus exact rfl
   focus exact rfl
   focus omega
   focus (exact byGet)
   focus decide
   (refine byRunP ?_)
   exact hK 3 _ _ ⟨rfl, rfl, rfl, rfl, rfl, rfl, trivial⟩ ⟨byGet, bySame, byOm, by omega⟩ byO
  ·(refine byRunP ?_)
   apply q_mapup (KeyT.str Tryz.underlying9) (k := (kindsE.getD 3 ⟨⟨#[]⟩, undef, 0⟩).k) (es := kindsE.take 3) (c := 3)
   focus exact rfl
   focus exact rfl
   focus exact rfl
   focus omega
   focus (exact byGet)
   focus decide
   (refine byRunP ?_)
   exact hK 4 _ _ ⟨rfl, rfl, rfl, rfl, rfl, rfl, trivial⟩ ⟨byGet, bySame, byOm, by omega⟩ byO
  ·(refine byRunP ?_)
   apply q_mapup (KeyT.str Tryz.underlying9) (k := (kindsE.getD 4 ⟨⟨#[]⟩, undef, 0⟩).k) (es := kindsE.take 4) (c := 4)
   focus exact rfl
   focus exact rfl
   focus exact rfl
   focus omega
   focus (exact byGet)
   focus decide
   (refine byRunP ?_)
   exact hK 5 _ _ ⟨rfl, rfl, rfl, rfl, rfl, rfl, trivial⟩ ⟨byGet, bySame, byOm, by omega⟩ byO
  ·(refine byRunP ?_)
   apply q_mapup (KeyT.str Tryz.underlying9) (k := (kindsE.getD 5 ⟨⟨#[]⟩, undef, 0⟩).k) (es := kindsE.take 5) (c := 5)
   focus exact rfl
   focus exact rfl
   focus exact rfl
   focus omega
   focus (exact byGet)
   focus decide
   (refine byRunP ?_)
   exact hK 6 _ _ ⟨rfl, rfl, rfl, rfl, rfl, rfl, trivial⟩ ⟨byGet, bySame, byOm, by omega⟩ byO
  ·(refine byRunP ?_)
   apply q_mapup (KeyT.str Tryz.underlying9) (k := (kindsE.getD 6 ⟨⟨#[]⟩, undef, 0⟩).k) (es := kindsE.take 6) (c := 6)
   focus exact rfl
   focus exact rfl
   focus exact rfl
   focus omega
   focus (exact byGet)
   focus decide
   (refine byRunP ?_)
   exact hK 7 _ _ ⟨rfl, rfl, rfl, rfl, rfl, rfl, trivial⟩ ⟨byGet, bySame, byOm, by omega⟩ byO
  ·(refine byRunP ?_)
   apply q_mapup (KeyT.str Tryz.underlying9) (k := (kindsE.getD 7 ⟨⟨#[]⟩, undef, 0⟩).k) (es := kindsE.take 7) (c := 7)
   focus exact rfl
   focus exact rfl
   focus exact rfl
   focus omega
   focus (exact byGet)
   focus decide
   (refine byRunP ?_)
   exact hK 8 _ _ ⟨rfl, rfl, rfl, rfl, rfl, rfl, trivial⟩ ⟨byGet, bySame, byOm, by omega⟩ byO
 obtain rfl : q = 8 := by omega
 clear hK
 (refine byRunP ?_)
 apply q_gto (n := ps.length) (c := ps.length) (j := n)
 case hx => exact rfl
 case hj => exact rfl
 case hs => exact .inl ⟨rfl, Nat.le_refl _, by unfold far; omega⟩
 case h0 => omega
 case h1 => omega
 intro c' hc'
 (refine byRunP ?_)
 refine wp_loop (fun q : Nat × (Nat → Ln) × Nat => [(0, .string s), (4, .slice (some ⟨pr, 0, none⟩) ps.length ps.length), (5, .int .i64 (n : Int)), (6, .map (some (h2.next + 18))), (9, .slice (addrX q.2.2 q.1) q.1 0), (10, .pointer (some ⟨h4.next + 2, 0, none⟩)), (11, .pointer (some ⟨h4.next + 4, 0, none⟩)), (12, .bool false), (57, .slice (some ⟨pr, 0, none⟩) n c'), (58, .int .i64 n), (59, .int .i64 q.1)])
  (fun q h1 => (∃ k m a b x, h1.get (h4.next + 2) = some (.cells [k, m, a, b, x] 119)) ∧ h1.get (h4.next + 4) = some (.cells [.int .i64 0, .int .i64 0, .int .i64 0, .int .i64 0] 38) ∧ h1.get (h2.next + 18) = some (.map (kindsE.map (EG.ent Value.string)) 8) ∧ Same (h2.next + 18) h2 h1 ∧ h4.next + 11 ≤ h1.next ∧ q.1 ≤ n ∧ (∀ i, i < q.1 → RowLn (nats (ps.getD i ⟨#[]⟩)) (q.2.1 i)) ∧ GX q.2.2 h1 38 4 q.1 (rowsOf (fun i => (q.2.1 i).cells) q.1) ∧ (0 < q.1 → h4.next + 11 ≤ q.2.2 ∧ q.2.2 < h1.next)) (fun q => n - q.1) (0, fun _ => ⟨0, 0, 0, 0⟩, 0) ⟨rfl, rfl, rfl, rfl, rfl, rfl, rfl, rfl, rfl, rfl, rfl, trivial⟩ ⟨⟨_, _, _, _, _, byGet⟩, byGet, byGet, bySame, byOm, by simp, fun i hi => absurd hi (Nat.not_lt_zero i), GX.nil, fun h => absurd h (Nat.lt_irrefl 0)⟩ ?_
 clear gm
 rintro ⟨j, f, r⟩ g5 h5 ⟨⟨k0, m0, a0, b0, x0, gr⟩, gn, gm, s5, n5, hj, hrow, gx, gb⟩ K hK
 dsimp only at hj hrow gx gb ⊢
 by_cases hlt2 : j < n
 ·have el : h5.loadN (aadd (⟨pr, 0, none⟩ : Addr) (j * 1)) 1 = some [.string (ps.getD j ⟨#[]⟩)] := (els.same s5 (fun _ => by dsimp only; omega)).at (m := j) byO
  have hmem : nats (ps.getD j ⟨#[]⟩) ∈ ps.map nats := by
   rw [List.getD_eq_getElem?_getD, List.getElem?_eq_getElem byO]
   exact List.mem_map_of_mem (List.getElem_mem _)
  have hpl := split_part his hmem
  rw [nats_len, nats_len] at hpl
  (refine byRunP ?_)
  apply q_callw
  focus exact read_w byO byO byOm byGet
  rintro v h6 ⟨fr, hv⟩ q6
  have n6 : h5.next + 14 ≤ h6.next := by have := q6.next; (exact byOm)
  have fr6 : ∀ q, q < h5.next → q ≠ h4.next + 2 → h6.get q = h5.get q := fun q h1 h2 => (fr q byOm h2).trans (get_of fun y hy => by (exact byGet) : _ = h5.get q)
  have gn6 := (fr6 (h4.next + 4) byO byO).trans gn
  have gm6 := (fr6 (h2.next + 18) byO byO).trans gm
  have s6 : Same (h2.next + 18) h2 h6 := fun q hq => (fr6 q byO byO).trans (s5 q hq)
  have gx6 := gx.frame (h' := h6) fun h0 => fr6 r (by have := gb h0; omega) (by have := gb h0; omega)
  clear q6
  have hwrong : (¬ ∃ x, RowLn (nats (ps.getD j ⟨#[]⟩)) x) → ¬ ∃ f n z, IsFile (nats s) f n z := fun h1 ⟨f', n', z', hf⟩ => h1 ⟨_, (file_un his en hf).2.1 j hlt2⟩
  have el9 : h6.loadN (aadd (⟨pr, 0, none⟩ : Addr) (n * 1)) 1 = some [.string (ps.getD n ⟨#[]⟩)] := (els.same s6 (fun _ => by dsimp only; omega)).at (m := n) byO
  have hmem9 : nats (ps.getD n ⟨#[]⟩) ∈ ps.map nats := by
   rw [List.getD_eq_getElem?_getD, List.getElem?_eq_getElem byO]
   exact List.mem_map_of_mem (List.getElem_mem _)
  have hpl9 := split_part his hmem9
  rw [nats_len, nats_len] at hpl9
  rcases hv with ⟨w, zs, r6, hrow6, rfl, gr6, gz, gzb⟩ | ⟨hno, rfl, x6, gr6⟩
  rotate_left
  ·replace hwrong := hwrong fun ⟨x, hx⟩ => hno (rowLn_row hx)
   (refine byRunP ?_)
   apply q_look2 (KeyT.str Tryz.underlying9) (k := ⟨#[]⟩) (es := kindsE) (c := 8)
   focus exact rfl
   focus exact rfl
   focus (exact byGet)
   (refine byRunS ?_)
   apply q_callw
   focus exact read_w byO byO byOm byGet
   rintro v h9 ⟨-, hv9⟩ q9
   rcases hv9 with ⟨w9, zs9, r9, -, rfl, -⟩ | ⟨-, rfl, -⟩
   all_goals
    (refine byRunS ?_)
    (refine byFin ?_)
    exact .inr (.inl ⟨by rw [nats_len]; omega, hwrong, rfl⟩)
  have hw : nats (bs w) = w := nats_bs fun c hc => nats_lt (ps.getD j ⟨#[]⟩) c (by
   rw [← hrow6.1.join]
   simp [joinN, hc])
  (refine byRunP ?_)
  apply q_look2 (KeyT.str Tryz.underlying9) (k := bs w) (es := kindsE) (c := 8)
  focus exact rfl
  focus exact rfl
  focus (exact byGet)
  rcases kinds_get (bs w) with ⟨kd, k1, k2, hkd, hget⟩ | ⟨hget, hkno⟩
  rotate_left
  ·replace hwrong := hwrong fun ⟨x, hx⟩ => hkno x.k (kind_bd hx.1) (hw.trans ((rowLn_as hrow6).1 hx).1)
   rw [hget]
   (refine byRunS ?_)
   apply q_callw
   focus exact read_w byO byO byOm byGet
   rintro v h9 ⟨-, hv9⟩ q9
   rcases hv9 with ⟨w9, zs9, r9, -, rfl, -⟩ | ⟨-, rfl, -⟩
   all_goals
    (refine byRunS ?_)
    (refine byFin ?_)
    exact .inr (.inl ⟨by rw [nats_len]; omega, hwrong, rfl⟩)
  rw [hget]
  rw [hw] at hkd
  (refine byRunS ?_)
  obtain ⟨zi, hzi⟩ : ∃ zi, zi = zs.map fun z : Nat => (z : Int) := ⟨_, rfl⟩
  have hzl : zi.length = zs.length := by rw [hzi, List.length_map]
  have gz2 : GX r6 h6 2 1 zi.length (zi.map (.int .i64)) := by rw [hzl, hzi, List.map_map]; exact gz
  obtain ⟨aN, ha1, ha2, ha3⟩ := gx_nums gz2
  simp only [List.cons_append, List.nil_append] at gr6
  rw [← hzl] at gr6
  have hgz : 0 < zi.length → h5.next ≤ r6 ∧ r6 < h6.next := fun h0 => by
   have := gzb byO
   refine ⟨?_, this.2⟩
   have h1 := this.1
   (exact byOm)
  have hzlen : zi.length ≤ 100000 := by
   have := split_len hrow6.1
   rw [nats_len] at this
   simp only [List.length_cons, List.length_map] at this
   omega
  have hzb : ∀ z ∈ zi, -1 ≤ z ∧ z ≤ 100000000000000 := by
   intro z hz
   rw [hzi] at hz
   obtain ⟨y, hy, rfl⟩ := List.mem_map.1 hz
   have := hrow6.2 y hy
   omega
  have hN : NumL (h6.next + 25) h6 zi (addrX r6 zi.length) aN 0 := ⟨ha1, ha2, fun h0 => by have := ha3 h0; have := hgz h0; omega⟩
  apply q_callw
  focus exact as_w (zs := zi) (bN := addrX r6 zi.length) (aN := aN) ⟨k1, k2⟩ byO byOm hzlen hzb (hN.same bySame byOm) (fun h0 => by have := ha3 h0; have := hgz h0; omega) byGet
  rintro v h7 ⟨fr7a, hv7⟩ q7
  have n7 : h6.next + 25 ≤ h7.next := by have := q7.next; (exact byOm)
  have fr7 : ∀ q, q < h6.next → q ≠ h4.next + 2 → h7.get q = h6.get q := fun q h1 h2 => (fr7a q byOm h2).trans (get_of fun y hy => by (exact byGet) : _ = h6.get q)
  have gn7 := (fr7 (h4.next + 4) byO byO).trans gn6
  have gm7 := (fr7 (h2.next + 18) byO byO).trans gm6
  have s7 : Same (h2.next + 18) h2 h7 := fun q hq => (fr7 q byO byO).trans (s6 q hq)
  have gx7 := gx6.frame (h' := h7) fun h0 => fr7 r (by have := gb h0; omega) (by have := gb h0; omega)
  have el7 : h7.loadN (aadd (⟨pr, 0, none⟩ : Addr) (n * 1)) 1 = some [.string (ps.getD n ⟨#[]⟩)] := (els.same s7 (fun _ => by dsimp only; omega)).at (m := n) byO
  clear q7 el9
  rcases hv7 with ⟨x, hx, rfl, gr7⟩ | ⟨hno, rfl, ck, cm, ca, cb, gr7⟩
  rotate_left
  ·replace hwrong := hwrong fun ⟨x, hx⟩ => hno ⟨x, by
    have := (rowLn_as hrow6).1 hx
    have ek : kd = x.k := word_inj ⟨k1, k2⟩ (kind_bd hx.1) (hkd.symm.trans this.1)
    rw [ek, hzi]; exact this.2⟩
   (refine byRunS ?_)
   apply q_callw
   focus exact read_w byO byO byOm byGet
   rintro v h9 ⟨-, hv9⟩ q9
   rcases hv9 with ⟨w9, zs9, r9, -, rfl, -⟩ | ⟨-, rfl, -⟩
   all_goals
    (refine byRunS ?_)
    (refine byFin ?_)
    exact .inr (.inl ⟨by rw [nats_len]; omega, hwrong, rfl⟩)
  have hxr : RowLn (nats (ps.getD j ⟨#[]⟩)) x := (rowLn_as hrow6).2 ⟨by rw [hx.2.1]; exact hkd, by rw [← hzi, hx.2.1]; exact hx⟩
  have hx0 : decide (x = ⟨0, 0, 0, 0⟩) = false := by
   apply decide_eq_false
   rintro rfl
   exact absurd hx.1 (by decide)
  (refine byRunS ?_)
  apply q_lneq (a := x) (b := ⟨0, 0, 0, 0⟩) rfl
  focus exact rfl
  focus exact rfl
  rw [hx0]
  (refine byRunS ?_)
  apply q_appX (r := r) (n := j) (cs := rowsOf (fun i => (f i).cells) j) (nc := x.cells)
  case G =>
   refine gx7.frame fun h0 => get_of fun y hy => ?_
   have := gb h0
   (exact byGet)
  case hsv => exact rfl
  case C =>
   apply Cells.one
   focus (apply loadN_cells; (focus (exact byGet)); (focus exact rfl))
   focus (unfold far; omega)
   focus exact rfl
   focus exact rfl
  case hlo => exact fun h0 => by have := gb h0; omega
  case hsm => omega
  intro r' hr0 hr1 g8
  have rb : h4.next + 11 ≤ r' ∧ r' < h7.next + 18 := by
   rcases Nat.eq_zero_or_pos j with h0 | h0
   ·have := hr0 h0; omega
   ·have := hr1 h0; have := gb h0; omega
  (refine byRunP ?_)
  have ecs : rowsOf (fun i => (f i).cells) j ++ x.cells = rowsOf (fun i => ((fun i => if i = j then x else f i) i).cells) (j + 1) := by
   show _ = rowsOf _ j ++ (if j = j then x else f j).cells
   rw [if_pos rfl]
   congr 1
   exact rowsOf_congr j fun i hi => by dsimp only; rw [if_neg byO]
  refine hK (j + 1, (fun i => if i = j then x else f i), r') _ _ ⟨rfl, rfl, rfl, rfl, rfl, rfl, rfl, rfl, rfl, rfl, int_of rfl (by dsimp only; omega), trivial⟩ ⟨⟨_, _, _, _, _, byGet⟩, byGet, byGet, bySame, byOm, by dsimp only; omega, fun i hi => ?_, ?_, fun _ => ⟨rb.1, byOm⟩⟩ (by dsimp only; omega)
  ·dsimp only
   by_cases hij : i = j
   ·subst hij; rw [if_pos rfl]; exact hxr
   ·rw [if_neg hij]; exact hrow i (by dsimp only at hi; omega)
  ·dsimp only at g8 ⊢
   rw [← ecs]
   exact g8.frame fun _ => get_of fun y hy => by (exact byGet)
 obtain rfl : j = n := by omega
 clear hK
 have el9 : h5.loadN (aadd (⟨pr, 0, none⟩ : Addr) (j * 1)) 1 = some [.string (ps.getD j ⟨#[]⟩)] := (els.same s5 (fun _ => by dsimp only; omega)).at (m := j) byO
 have hmem9 : nats (ps.getD j ⟨#[]⟩) ∈ ps.map nats := by
  rw [List.getD_eq_getElem?_getD, List.getElem?_eq_getElem byO]
  exact List.mem_map_of_mem (List.getElem_mem _)
 have hpl9 := split_part his hmem9
 rw [nats_len, nats_len] at hpl9
 (refine byRunS ?_)
 apply q_callw
 focus exact read_w byO byO byOm byGet
 rintro v h6 ⟨fr, hv⟩ q6
 have n6 : h5.next + 11 ≤ h6.next := by have := q6.next; (exact byOm)
 have fr6 : ∀ q, q < h5.next → q ≠ h4.next + 2 → h6.get q = h5.get q := fun q h1 h2 => (fr q byOm h2).trans (get_of fun y hy => by (exact byGet) : _ = h5.get q)
 have gx6 := gx.frame (h' := h6) fun h0 => fr6 r (by have := gb h0; omega) (by have := gb h0; omega)
 clear q6
 rcases hv with ⟨w, zs, r6, hrow6, rfl, gr6, gz, gzb⟩ | ⟨hno, rfl, x6, gr6⟩
 rotate_left
 ·have hwrong : ¬ ∃ f n z, IsFile (nats s) f n z := fun ⟨f', n', z', hf⟩ => hno ⟨sealW, [z'], by rw [(file_un his en hf).2.2]; exact seal_row (by have := hf.2.1; unfold Clerk.P at this; omega)⟩
  (refine byRunS ?_)
  (refine byFin ?_)
  exact .inr (.inl ⟨by rw [nats_len]; omega, hwrong, rfl⟩)
 have hw : nats (bs w) = w := nats_bs fun c hc => nats_lt (ps.getD j ⟨#[]⟩) c (by
  rw [← hrow6.1.join]
  simp [joinN, hc])
 have hzlen : zs.length ≤ 100000 := by
  have := split_len hrow6.1
  rw [nats_len] at this
  simp only [List.length_cons, List.length_map] at this
  omega
 have hun : ∀ f' n' z', IsFile (nats s) f' n' z' → w = sealW ∧ zs = [z'] := fun f' n' z' hf => row_inj hrow6 (by rw [(file_un his en hf).2.2]; exact seal_row (by have := hf.2.1; unfold Clerk.P at this; omega))
 by_cases hws : w = sealW
 rotate_left
 ·have hwrong : ¬ ∃ f n z, IsFile (nats s) f n z := fun ⟨f', n', z', hf⟩ => hws (hun _ _ _ hf).1
  have hne3 : ¬ nats (bs w) = nats ⟨#[115, 101, 97, 108]⟩ := fun h => hws (hw.symm.trans h)
  (refine byRunS ?_)
  (refine byFin ?_)
  exact .inr (.inl ⟨by rw [nats_len]; omega, hwrong, rfl⟩)
 subst hws
 by_cases hz1 : zs.length = 1
 rotate_left
 ·have hwrong : ¬ ∃ f n z, IsFile (nats s) f n z := fun ⟨f', n', z', hf⟩ => hz1 (by rw [(hun _ _ _ hf).2]; rfl)
  (refine byRunS ?_)
  (refine byFin ?_)
  exact .inr (.inl ⟨by rw [nats_len]; omega, hwrong, rfl⟩)
 obtain ⟨z, rfl⟩ : ∃ z, zs = [z] := List.length_eq_one_iff.1 hz1
 simp only [List.length_cons, List.length_nil, List.cons_append, List.nil_append, Nat.zero_add] at gr6 gz gzb
 obtain ⟨aN, ha1, ha2, ha3⟩ := gx_nums (ys := [(z : Int)]) gz
 have hrn := hrow6.2 z (by simp)
 have ea : addrX r6 1 = some aN := ha1 (by simp)
 rw [ea] at gr6
 have eb : aN.block = r6 := ha3 (by simp)
 have gzb2 : h5.next + 11 ≤ r6 ∧ r6 < h6.next := by
  have h1 := gzb (by simp)
  refine ⟨?_, h1.2⟩
  have := h1.1
  (exact byOm)
 have el6 : h6.loadN (aadd aN (0 * 1)) 1 = some [.int .i64 (z : Int)] := by
  have := ha2 0 (by simp)
  simpa using this
 (focus ((try with_reducible apply wpC.to); (repeat' ((conv => whnf); first | ((apply q_cmpk); (focus exact rfl); (focus exact rfl); (focus exact rfl); (focus exact rfl); (all_goals (intro hb; first | (replace hb := of_decide_eq_true hb) | (replace hb := of_decide_eq_false hb))); (all_goals (try (exfalso; omega; done))); (all_goals (revert hb; intros))) | ((apply q_streq); (focus exact rfl); (focus exact rfl); (focus exact rfl); (focus exact rfl); (all_goals (intro hb; first | (replace hb := of_decide_eq_true hb) | (replace hb := of_decide_eq_false hb))); (all_goals (try contradiction)); (all_goals (revert hb; intros))) | ((apply q_ark); (focus exact rfl); (focus exact rfl); (focus exact rfl); (focus exact rfl); (focus first | exact wrap_u8 byO | exact wrap_i32 byO)) | refine byEv ?_ | (apply Fork.mk <;> (intro _; try (exfalso; omega))) | ((apply q_call); (focus exact byNext); (focus exact byLo); (focus (first | exact kClkR0 | exact kClkC0)); first | ((apply q_allB) <;> (intro z_b _ _ _; first | exact Bool.noConfusion z_b | replace z_b := of_decide_eq_true z_b | replace z_b := of_decide_eq_false z_b | skip) <;> ((try (unfold btw at z_b)); first | contradiction | (revert z_b; intros))) | ((apply q_alli) <;> intro _ _ _ _ <;> try contradiction) | (apply q_allv; intro _ _ _)) | refine xClkG0 ?_ | ((apply q_cmpk); (focus exact rfl); (focus exact rfl); (focus exact rfl); (focus exact rfl); (all_goals (intro hb; first | (replace hb := of_decide_eq_true hb) | (replace hb := of_decide_eq_false hb))); (all_goals (try (exfalso; omega; done))); (all_goals (revert hb; intros))) | refine xAEStrN3 ?_ | ((apply q_streq); (focus exact rfl); (focus exact rfl); (focus exact rfl); (focus exact rfl); (all_goals (intro hb; first | (replace hb := of_decide_eq_true hb) | (replace hb := of_decide_eq_false hb))); (all_goals (try contradiction)); (all_goals (revert hb; intros))) | refine xAEStrN1 ?_ | refine xAEStrN0 ?_ | fail)); all_goals ((conv => whnf); try with_reducible apply At.mk)))
 rotate_left
 ·rename_i hbad
  have hwrong : ¬ ∃ f n z, IsFile (nats s) f n z := by
   rintro ⟨f', n', z', hf⟩
   have h1 := (hun _ _ _ hf).2
   simp only [List.cons.injEq, and_true] at h1
   subst h1
   have := hf.2.1
   exact hbad ⟨by omega, by omega⟩
  (refine byFin ?_)
  exact .inr (.inl ⟨by rw [nats_len]; omega, hwrong, rfl⟩)
 rename_i h7 q7 n7 hbz
 have hzp : (z : Int) < Clerk.P := by omega
 have hgood : Good j f := ⟨by omega, fun i hi => (hrow i hi).1⟩
 have hrz : nats (ps.getD j ⟨#[]⟩) = sealW ++ sep z := by
  rw [← hrow6.1.join]
  simp [joinN, sep]
 have hfile : IsFile (nats s) f j z := ⟨hgood, hzp, file_of his en hb3 hrow hrz⟩
 obtain ⟨aB, hB⟩ := gx_bk (m := h6.next) gx6 byO (fun h0 => by have := gb h0; omega)
 have hP : Part h6.next h6 f 0 j (addrX r j) aB 0 := hB.part hgood
 have sm7 : Same h6.next h6 h7 := by (exact bySame)
 apply q_callv
 focus (exact byNext)
 focus (exact byLo)
 focus exact root_w (b := addrX r j) j (show h6.next ≤ _ from byOm) (hP.same bySame (Nat.le_refl _))
 intro h8 q8 n8
 have hrb := root_bd f 0 j
 unfold Clerk.P at hrb hzp
 by_cases hzr : (z : Int) = root f 0 j
 ·(refine byRunS ?_)
  (refine byFin ?_)
  refine .inr (.inr ⟨by rw [nats_len]; omega, f, j, z, hfile, .inr ⟨hzr, r, rfl, ?_, fun h0 => ?_⟩⟩)
  ·refine gx6.frame fun h0 => get_of fun y hy => ?_
   have := gb h0
   (exact byGet)
  ·have := gb h0
   refine ⟨by omega, byOm⟩
 ·(refine byRunS ?_)
  (refine byFin ?_)
  exact .inr (.inr ⟨by rw [nats_len]; omega, f, j, z, hfile, .inl ⟨hzr, rfl⟩⟩)
end AE.Tryz
