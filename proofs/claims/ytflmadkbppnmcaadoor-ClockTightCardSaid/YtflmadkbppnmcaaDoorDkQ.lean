/-
  THE CLOCK DOOR SEAT, plain laws: a hidden solution, ends of intervals, blame (own work).
-/
import Derived.Test.YtflmadkbppnmcaaDoorDkBi
set_option linter.unusedSimpArgs false
set_option linter.unusedVariables false
namespace Go.Ev.Tryd
open Go Go.Ev

/-- Errors by name and true times that fit make all bounds hold. -/
theorem feas_of {l : List Event} {ties : List Tie} (hr : Right l ties) (er : ByteArray → Int) (T : Nat → Int) (he : ∀ s, -4294967295 ≤ er s ∧ er s ≤ 4294967295) (hT : ∀ i, -4294967295 ≤ T i ∧ T i ≤ 4294967295)
    (hev : ∀ i (h : i < l.length), l[i].show' - l[i].wide' ≤ T i - er l[i].clock ∧ T i - er l[i].clock ≤ l[i].show' + l[i].wide')
    (htie : ∀ t ∈ ties, t.low ≤ T t.b.toNat - (if t.a < 0 then 0 else T t.a.toNat) ∧ T t.b.toNat - (if t.a < 0 then 0 else T t.a.toNat) ≤ t.high) : feas l ties = true := by
  have hf := fit hr
  let x : Nat → Int := fun v => if v = 0 then 0 else if v < 1 + nC l then er ((insF (clks l)).getD (v - 1) ByteArray.empty) else T (v - 1 - nC l)
  have x0 : x 0 = 0 := rfl
  have xr : ∀ v, -4294967295 ≤ x v ∧ x v ≤ 4294967295 := fun v => by
    show -4294967295 ≤ (if v = 0 then (0 : Int) else if v < 1 + nC l then er ((insF (clks l)).getD (v - 1) ByteArray.empty) else T (v - 1 - nC l)) ∧ (if v = 0 then (0 : Int) else if v < 1 + nC l then er ((insF (clks l)).getD (v - 1) ByteArray.empty) else T (v - 1 - nC l)) ≤ 4294967295
    split
    · omega
    · split
      · exact he _
      · exact hT _
  have xT : ∀ i, x (1 + nC l + i) = T i := fun i => by
    show (if 1 + nC l + i = 0 then (0 : Int) else if 1 + nC l + i < 1 + nC l then er ((insF (clks l)).getD (1 + nC l + i - 1) ByteArray.empty) else T (1 + nC l + i - 1 - nC l)) = T i
    rw [if_neg (by omega), if_neg (by omega)]
    congr 1; omega
  have xE : ∀ i (h : i < l.length), x (1 + ix l l[i]) = er l[i].clock := fun i h => by
    have h1 := ix_lt (List.getElem_mem h)
    show (if 1 + ix l l[i] = 0 then (0 : Int) else if 1 + ix l l[i] < 1 + nC l then er ((insF (clks l)).getD (1 + ix l l[i] - 1) ByteArray.empty) else T (1 + ix l l[i] - 1 - nC l)) = er l[i].clock
    rw [if_neg (by omega), if_pos (by omega), show 1 + ix l l[i] - 1 = ix l l[i] by omega, List.getD_eq_getElem?_getD, List.getElem?_eq_getElem h1]
    show er (insF (clks l))[ix l l[i]] = _
    rw [ix_at (List.getElem_mem h)]
  have xA : ∀ a : Int, -1 ≤ a → x (atV (nC l) a) = if a < 0 then 0 else T a.toNat := fun a ha => by
    unfold atV
    split
    · rfl
    · exact xT _
  have hs : Sol (bds l ties) x := by
    intro b hb
    rcases mem_bds.1 hb with hb | hb | hb
    · obtain ⟨a, ha, rfl | rfl⟩ := mem_bd0.1 hb
      · have := xr (a + 1); show x (a + 1) - x 0 ≤ 4294967295; rw [x0]; omega
      · have := xr (a + 1); show x 0 - x (a + 1) ≤ 4294967295; rw [x0]; omega
    · obtain ⟨i, hi, _, rfl | rfl⟩ := mem_bdE hb
      · have := hev i hi; show x (1 + nC l + i) - x (1 + ix l l[i]) ≤ l[i].show' + l[i].wide'; rw [xT, xE i hi]; omega
      · have := hev i hi; show x (1 + ix l l[i]) - x (1 + nC l + i) ≤ -(l[i].show' - l[i].wide'); rw [xT, xE i hi]; omega
    · obtain ⟨t, ht, rfl | rfl⟩ := mem_bdT.1 hb
      · have h1 := htie t ht
        have h2 := hr.tie t ht
        show x (atV (nC l) t.b) - x (atV (nC l) t.a) ≤ t.high
        rw [xA _ (by omega), xA _ (by omega), if_neg (show ¬ t.b < 0 by omega)]; omega
      · have h1 := htie t ht
        have h2 := hr.tie t ht
        show x (atV (nC l) t.a) - x (atV (nC l) t.b) ≤ -t.low
        rw [xA _ (by omega), xA _ (by omega), if_neg (show ¬ t.b < 0 by omega)]; omega
  unfold feas
  cases hc : closed (nV l) (bds l ties) with
  | some d => rfl
  | none => exact absurd hs (closed_none hf hc x)
/-- Without ties there is always a solution. -/
theorem feas_nil {l : List Event} (hr : Right l []) : feas l [] = true :=
  feas_of hr (fun _ => 0) (fun i => if h : i < l.length then l[i].show' else 0) (fun _ => by simp) (fun i => by
    split
    · rename_i h
      have := hr.ev _ (List.getElem_mem h); omega
    · omega) (fun i h => by
    have := hr.ev _ (List.getElem_mem h)
    simp only [h, dif_pos]; omega) (fun t ht => by simp at ht)
theorem feas_iff {l : List Event} {ties : List Tie} (hr : Right l ties) : feas l ties = true ↔ ∃ x, Sol (bds l ties) x := by
  have hf := fit hr
  unfold feas
  cases hc : closed (nV l) (bds l ties) with
  | some d => exact ⟨fun _ => ⟨d 0, (closed_some hf hc).row 0 hf.pos⟩, fun _ => rfl⟩
  | none => exact ⟨fun h => (by cases h), fun ⟨x, hx⟩ => absurd hx (closed_none hf hc x)⟩
/-! ### The ends of an interval -/
def fixT (k at_ : Int) : Tie := ⟨-1, k, at_, at_⟩
theorem right_fix {l : List Event} {ties : List Tie} (hr : Right l ties) (hn : ties.length < 80) {k : Nat} (hk : k < l.length) {at_ : Int} (ha : -4294967295 ≤ at_ ∧ at_ ≤ 4294967295) : Right l (ties ++ [fixT k at_]) where
  hl := hr.hl
  ht := by simp; omega
  hc := hr.hc
  ev := hr.ev
  tie t ht := by
    rcases List.mem_append.1 ht with h | h
    · exact hr.tie t h
    · simp at h; subst h
      simp only [fixT]
      omega
theorem bds_fix (l : List Event) (ties : List Tie) (k : Nat) (at_ : Int) : bds l (ties ++ [fixT k at_]) = bds l ties ++ [⟨0, 1 + nC l + k, at_⟩, ⟨1 + nC l + k, 0, -at_⟩] := by
  unfold bds
  rw [bdT_snoc, ← List.append_assoc]
  congr 1
theorem tight_fix {l : List Event} {ties : List Tie} (hr : Right l ties) (hn : ties.length < 80) {k : Nat} (hk : k < l.length) {at_ : Int} (ha : -4294967295 ≤ at_ ∧ at_ ≤ 4294967295) {d : Mat} (hc : closed (nV l) (bds l ties) = some d) :
    feas l (ties ++ [fixT k at_]) = decide (- d (1 + nC l + k) 0 ≤ at_ ∧ at_ ≤ d 0 (1 + nC l + k)) := by
  have hf := fit hr
  have c := closed_some hf hc
  have hr2 := right_fix hr hn hk ha
  have hv : 1 + nC l + k < nV l := by unfold nV; omega
  have key : feas l (ties ++ [fixT k at_]) = true ↔ (- d (1 + nC l + k) 0 ≤ at_ ∧ at_ ≤ d 0 (1 + nC l + k)) := by
    rw [feas_iff hr2, bds_fix]
    generalize 1 + nC l + k = v at *
    constructor
    · rintro ⟨x, hx⟩
      have h1 := c.most x (fun b hb => hx b (List.mem_append_left _ hb)) 0 v hf.pos hv
      have h2 := c.most x (fun b hb => hx b (List.mem_append_left _ hb)) v 0 hv hf.pos
      have h3 := hx ⟨0, v, at_⟩ (by simp)
      have h4 := hx ⟨v, 0, -at_⟩ (by simp)
      simp only at h3 h4
      omega
    · rintro ⟨h1, h2⟩
      refine ⟨fun j => min (d 0 j) (at_ + d v j), fun b hb => ?_⟩
      have h0 := c.diag 0 hf.pos
      have h5 := c.diag v hv
      rcases List.mem_append.1 hb with hb | hb
      · have r1 := c.row 0 hf.pos b hb
        have r2 := c.row v hv b hb
        show min (d 0 b.t) (at_ + d v b.t) - min (d 0 b.f) (at_ + d v b.f) ≤ b.n
        omega
      · simp at hb
        rcases hb with rfl | rfl
        · show min (d 0 v) (at_ + d v v) - min (d 0 0) (at_ + d v 0) ≤ at_
          omega
        · show min (d 0 0) (at_ + d v 0) - min (d 0 v) (at_ + d v v) ≤ -at_
          omega
  by_cases h : - d (1 + nC l + k) 0 ≤ at_ ∧ at_ ≤ d 0 (1 + nC l + k)
  · rw [key.2 h]; simp [h]
  · rw [decide_eq_false h]
    cases hfe : feas l (ties ++ [fixT k at_]) with
    | false => rfl
    | true => exact absurd (key.1 hfe) h

/-! ### Blame -/
end Go.Ev.Tryd
