/- A region that draws its order, as a rule. -/
import Derived.Test.YthajcipblfchiaaAEDraw
set_option linter.unusedVariables false
set_option linter.unusedSimpArgs false
set_option linter.unusedSectionVars false
namespace AE
open Go Go.RowKit

/-- The addresses of ap lie in different rows. -/
def Apart (ap : List (Opd × Opd)) (ts : Ts) : Prop := ∀ p ∈ ap, ∀ r ∈ touchV (ev ts p.1), r ∉ touchV (ev ts p.2)

theorem quiet_of {P : Program} {lo base : Nat} {xs : List AOper} {S : Nat → Ts × H} {U : Nat → Option (Nat × ARow)} (step : ∀ i x, xs[i]? = some x → Step1 P lo base i x (S i) (U i) (S (i + 1))) (room : base + xs.length ≤ (S 0).2.next) (lob : lo ≤ base) :
    ∀ k, k ≤ xs.length → Quiet lo (S 0).2 (S k).2
  | 0, _ => Quiet.refl _ _
  | k + 1, hk => by
    have ih := quiet_of step room lob k (by omega)
    have hs := step k _ (List.getElem?_eq_getElem (by omega : k < xs.length))
    exact ih.trans (hs.quiet lob (by have := ih.next; omega))

theorem ver_none (w : Nat → Prop) (h : ∀ j, ¬ w j) (m : Nat) : ver w m = 0 := by
  rcases ver_spec w m with ⟨h1, -⟩ | ⟨j, -, -, h1, -⟩
  · exact h1
  · exact absurd h1 (h j)

theorem WT.dreg {tp : Bool} {P : Program} {n lo : Nat} {id : Nat} {ops : Array Oper} {xs : List AOper} {ap : List (Opd × Opd)} {Q : Exit → Ts → H → Prop} {ts : Ts} {h : H} (hm : P.follows .mixedOrders = true) (hx : cOpers P n ops ops.toList = some xs) (hd : dOk ops xs ap = true) (hlo : lo ≤ h.next)
    (hr : Run P lo true h.next 0 xs (fun ts' h' => Apart ap ts' ∧ Q .normal ts' h') ts (h.bump xs.length)) : WT (TC tp P (.region id ops true)) n lo Q ts h := by
  have hlen : xs.length = ops.size := by rw [(cOpers_get hx).1]; simp
  obtain ⟨S, U, h0, hstep, hap, hQ⟩ := run_trace xs 0 ts _ hr
  have hstep' : ∀ i x, xs[i]? = some x → Step1 P lo h.next i x (S i) (U i) (S (i + 1)) := fun i x hi => by simpa using hstep i x hi
  have hroom : h.next + xs.length ≤ (S 0).2.next := by rw [h0]; exact Nat.le_refl _
  have hquiet := quiet_of hstep' hroom hlo xs.length (Nat.le_refl _)
  rw [h0] at hquiet
  refine ⟨.normal, _, _, hQ, ⟨Nat.le_trans (Nat.le_add_right _ _) hquiet.next, hquiet.same, fun hc => hquiet.clean fun r hr => hc r (Nat.le_trans (Nat.le_add_right _ _) hr)⟩, fun ro I w a k t _ => ?_⟩
  refine wpIn_region_any hm ?_
  have T : Text P lo h.next xs S U := ⟨hstep', hroom, by rw [h0]; intro r hr; exact k.clean r (Nat.le_trans (Nat.le_add_right _ _) hr), by rw [h0]; intro j _; exact k.clean _ (Nat.le_add_right _ _), hlo⟩
  have D := dOk_spec hd
  have hno : ∀ j, ¬ listed (Array.replicate ops.size false) j := by
    intro j hj
    unfold listed at hj
    rw [Array.getD_eq_getD_getElem?, Array.getElem?_replicate] at hj
    split at hj <;> simp at hj
  have hcT : curT xs S (listed (Array.replicate ops.size false)) = ts := by
    funext t
    unfold curT
    rw [ver_none _ (fun j hj => hno j hj.1), h0]
  have hcH : ∀ r, (curH xs S U (listed (Array.replicate ops.size false))).get r = h.get r := by
    intro r
    simp only [curH]
    rw [ver_none _ (fun j hj => hno j hj.1), h0]
    rfl
  have kd := k.drew
  refine any_orders (I0 := I) (w0 := w.drew) (a0 := a) hx D T hap (fun J w1 a1 V => ?_) ops.size _ I w.drew a (by simp [hlen]) ?_ ?_
  · refine ⟨rfl, J, ⟨⟨V.grows.le, V.grows.new⟩, V.dom, V.old, ?_, ⟨V.ext.os, V.ext.tape, V.ext.output, V.ext.size, V.ext.block⟩⟩, ?_, [], V.defers, Marks.nil _ _ _⟩
    · refine ⟨fun r row hr d => V.rel.rows r row ?_ d, V.rel.lt, V.rel.size, V.rel.base, V.rel.inj, ?_⟩
      · rw [← hr]
        exact ver_at (F := fun k => (S k).2.get r) (W := fun j => Wr xs S U j r) (T.heap (r := r)) (Nat.le_refl _) (fun j hj _ => by simp [hj])
      · exact T.clean' (Nat.le_refl _)
    · have : curT xs S (fun j => j < xs.length) = (S xs.length).1 := by
        funext t
        exact ver_at (F := fun k => (S k).1 t) (W := fun j => Wt xs j t) (T.tmp (t := t)) (Nat.le_refl _) (fun j hj _ => by simp [hj])
      rw [← this]
      exact V.ts
  · unfold left
    rw [hlen]
    exact Nat.le_trans (List.length_filter_le _ _) (by simp)
  · refine ⟨fun j hj => absurd hj (hno j), fun j hj => absurd hj (hno j), by rw [hcT]; exact t, ⟨fun r row hr d => kd.rows r row (by rw [← hcH]; exact hr) d, fun r d => ?_, kd.size, kd.base, kd.inj, fun r hr => ?_⟩, fun j hj d => ?_, fun j y hy hc _ r d => ?_, fun j r row hj => absurd hj (hno j), Grows.refl _ _, fun r d => .inl d, fun _ _ _ _ e => e, Ext.refl _ _ _, rfl⟩
    · have h1 := k.lt r d
      have h2 := hquiet.next
      simp only [curH, H.bump] at h2 ⊢
      omega
    · rw [hcH]
      have h2 := hquiet.next
      simp only [curH, H.bump] at hr h2
      exact k.clean r (by omega)
    · have := k.lt _ d
      omega
    · have h1 := k.lt r d
      have h2 := T.room' (k := j) (Nat.le_of_lt (List.getElem?_eq_some_iff.1 hy).1)
      omega

end AE
