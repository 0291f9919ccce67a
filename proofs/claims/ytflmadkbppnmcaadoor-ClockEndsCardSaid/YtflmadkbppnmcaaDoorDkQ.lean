/-
  THE CLOCK DOOR SEAT, plain laws: a hidden solution, ends of intervals, blame (own work).
-/
import Derived.Test.YtflmadkbppnmcaaDoorDkBi
set_option linter.unusedSimpArgs false
set_option linter.unusedVariables false
namespace Go.Ev.Tryd
open Go Go.Ev

/-- Errors by name and true times that fit make all bounds hold. -/
theorem feas_of {l : List Event} {ties : List Tie} (hr : Right l ties) (er : ByteArray → Int) (T : Nat → Int) (he : ∀ s, -4294967295 ≤ er s ∧ er s ≤ 4294967295) (hT : ∀ i, -4294967295 ≤ T i ∧ T i ≤ 4294967295)
    (hev : ∀ i (h : i < l.length), l[i].show' - l[i].wide' ≤ T i - er l[i].clock ∧ T i - er l[i].clock ≤ l[i].show' + l[i].wide')
    (htie : ∀ t ∈ ties, t.low ≤ T t.b.toNat - (if t.a < 0 then 0 else T t.a.toNat) ∧ T t.b.toNat - (if t.a < 0 then 0 else T t.a.toNat) ≤ t.high) : feas l ties = true := by
  have hf := fit hr
  let x : Nat → Int := fun v => if v = 0 then 0 else if v < 1 + nC l then er ((insF (clks l)).getD (v - 1) ByteArray.empty) else T (v - 1 - nC l)
  have x0 : x 0 = 0 := rfl
  have xr : ∀ v, -4294967295 ≤ x v ∧ x v ≤ 4294967295 := fun v => by
    show -4294967295 ≤ (if v = 0 then (0 : Int) else if v < 1 + nC l then er ((insF (clks l)).getD (v - 1) ByteArray.empty) else T (v - 1 - nC l)) ∧ (if v = 0 then (0 : Int) else if v < 1 + nC l then er ((insF (clks l)).getD (v - 1) ByteArray.empty) else T (v - 1 - nC l)) ≤ 4294967295
    split
    · omega
    · split
      · exact he _
      · exact hT _
  have xT : ∀ i, x (1 + nC l + i) = T i := fun i => by
    show (if 1 + nC l + i = 0 then (0 : Int) else if 1 + nC l + i < 1 + nC l then er ((insF (clks l)).getD (1 + nC l + i - 1) ByteArray.empty) else T (1 + nC l + i - 1 - nC l)) = T i
    rw [if_neg (by omega), if_neg (by omega)]
    congr 1; omega
  have xE : ∀ i (h : i < l.length), x (1 + ix l l[i]) = er l[i].clock := fun i h => by
    have h1 := ix_lt (List.getElem_mem h)
    show (if 1 + ix l l[i] = 0 then (0 : Int) else if 1 + ix l l[i] < 1 + nC l then er ((insF (clks l)).getD (1 + ix l l[i] - 1) ByteArray.empty) else T (1 + ix l l[i] - 1 - nC l)) = er l[i].clock
    rw [if_neg (by omega), if_pos (by omega), show 1 + ix l l[i] - 1 = ix l l[i] by omega, List.getD_eq_getElem?_getD, List.getElem?_eq_getElem h1]
    show er (insF (clks l))[ix l l[i]] = _
    rw [ix_at (List.getElem_mem h)]
  have xA : ∀ a : Int, -1 ≤ a → x (atV (nC l) a) = if a < 0 then 0 else T a.toNat := fun a ha => by
    unfold atV
    split
    · rfl
    · exact xT _
  have hs : Sol (bds l ties) x := by
    intro b hb
    rcases mem_bds.1 hb with hb | hb | hb
    · obtain ⟨a, ha, rfl | rfl⟩ := mem_bd0.1 hb
      · have := xr (a + 1); show x (a + 1) - x 0 ≤ 4294967295; rw [x0]; omega
      · have := xr (a + 1); show x 0 - x (a + 1) ≤ 4294967295; rw [x0]; omega
    · obtain ⟨i, hi, _, rfl | rfl⟩ := mem_bdE hb
      · have := hev i hi; show x (1 + nC l + i) - x (1 + ix l l[i]) ≤ l[i].show' + l[i].wide'; rw [xT, xE i hi]; omega
      · have := hev i hi; show x (1 + ix l l[i]) - x (1 + nC l + i) ≤ -(l[i].show' - l[i].wide'); rw [xT, xE i hi]; omega
    · obtain ⟨t, ht, rfl | rfl⟩ := mem_bdT.1 hb
      · have h1 := htie t ht
        have h2 := hr.tie t ht
        show x (atV (nC l) t.b) - x (atV (nC l) t.a) ≤ t.high
        rw [xA _ (by omega), xA _ (by omega), if_neg (show ¬ t.b < 0 by omega)]; omega
      · have h1 := htie t ht
        have h2 := hr.tie t ht
        show x (atV (nC l) t.a) - x (atV (nC l) t.b) ≤ -t.low
        rw [xA _ (by omega), xA _ (by omega), if_neg (show ¬ t.b < 0 by omega)]; omega
  unfold feas
  cases hc : closed (nV l) (bds l ties) with
  | some d => rfl
  | none => exact absurd hs (closed_none hf hc x)
/-- Without ties there is always a solution. -/
theorem feas_nil {l : List Event} (hr : Right l []) : feas l [] = true :=
  feas_of hr (fun _ => 0) (fun i => if h : i < l.length then l[i].show' else 0) (fun _ => by simp) (fun i => by
    split
    · rename_i h
      have := hr.ev _ (List.getElem_mem h); omega
    · omega) (fun i h => by
    have := hr.ev _ (List.getElem_mem h)
    simp only [h, dif_pos]; omega) (fun t ht => by simp at ht)
/-! ### The ends of an interval -/
/-! ### Blame -/
end Go.Ev.Tryd
