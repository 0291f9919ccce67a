/-
  THE CLOCK DOOR SEAT, plain laws: a hidden solution, ends of intervals, blame (own work).
-/
import Derived.Test.YtflmadkbppnmcaaDoorDkBi
set_option linter.unusedSimpArgs false
set_option linter.unusedVariables false
namespace Go.Ev.Tryd
open Go Go.Ev

/-- Errors by name and true times that fit make all bounds hold. -/
theorem feas_of {l : List Event} {ties : List Tie} (hr : Right l ties) (er : ByteArray → Int) (T : Nat → Int) (he : ∀ s, -4294967295 ≤ er s ∧ er s ≤ 4294967295) (hT : ∀ i, -4294967295 ≤ T i ∧ T i ≤ 4294967295)
    (hev : ∀ i (h : i < l.length), l[i].show' - l[i].wide' ≤ T i - er l[i].clock ∧ T i - er l[i].clock ≤ l[i].show' + l[i].wide')
    (htie : ∀ t ∈ ties, t.low ≤ T t.b.toNat - (if t.a < 0 then 0 else T t.a.toNat) ∧ T t.b.toNat - (if t.a < 0 then 0 else T t.a.toNat) ≤ t.high) : feas l ties = true := by
  have hf := fit hr
  let x : Nat → Int := fun v => if v = 0 then 0 else if v < 1 + nC l then er ((insF (clks l)).getD (v - 1) ByteArray.empty) else T (v - 1 - nC l)
  have x0 : x 0 = 0 := rfl
  have xr : ∀ v, -4294967295 ≤ x v ∧ x v ≤ 4294967295 := fun v => by
    show -4294967295 ≤ (if v = 0 then (0 : Int) else if v < 1 + nC l then er ((insF (clks l)).getD (v - 1) ByteArray.empty) else T (v - 1 - nC l)) ∧ (if v = 0 then (0 : Int) else if v < 1 + nC l then er ((insF (clks l)).getD (v - 1) ByteArray.empty) else T (v - 1 - nC l)) ≤ 4294967295
    split
    · omega
    · split
      · exact he _
      · exact hT _
  have xT : ∀ i, x (1 + nC l + i) = T i := fun i => by
    show (if 1 + nC l + i = 0 then (0 : Int) else if 1 + nC l + i < 1 + nC l then er ((insF (clks l)).getD (1 + nC l + i - 1) ByteArray.empty) else T (1 + nC l + i - 1 - nC l)) = T i
    rw [if_neg (by omega), if_neg (by omega)]
    congr 1; omega
  have xE : ∀ i (h : i < l.length), x (1 + ix l l[i]) = er l[i].clock := fun i h => by
    have h1 := ix_lt (List.getElem_mem h)
    show (if 1 + ix l l[i] = 0 then (0 : Int) else if 1 + ix l l[i] < 1 + nC l then er ((insF (clks l)).getD (1 + ix l l[i] - 1) ByteArray.empty) else T (1 + ix l l[i] - 1 - nC l)) = er l[i].clock
    rw [if_neg (by omega), if_pos (by omega), show 1 + ix l l[i] - 1 = ix l l[i] by omega, List.getD_eq_getElem?_getD, List.getElem?_eq_getElem h1]
    show er (insF (clks l))[ix l l[i]] = _
    rw [ix_at (List.getElem_mem h)]
  have xA : ∀ a : Int, -1 ≤ a → x (atV (nC l) a) = if a < 0 then 0 else T a.toNat := fun a ha => by
    unfold atV
    split
    · rfl
    · exact xT _
  have hs : Sol (bds l ties) x := by
    intro b hb
    rcases mem_bds.1 hb with hb | hb | hb
    · obtain ⟨a, ha, rfl | rfl⟩ := mem_bd0.1 hb
      · have := xr (a + 1); show x (a + 1) - x 0 ≤ 4294967295; rw [x0]; omega
      · have := xr (a + 1); show x 0 - x (a + 1) ≤ 4294967295; rw [x0]; omega
    · obtain ⟨i, hi, _, rfl | rfl⟩ := mem_bdE hb
      · have := hev i hi; show x (1 + nC l + i) - x (1 + ix l l[i]) ≤ l[i].show' + l[i].wide'; rw [xT, xE i hi]; omega
      · have := hev i hi; show x (1 + ix l l[i]) - x (1 + nC l + i) ≤ -(l[i].show' - l[i].wide'); rw [xT, xE i hi]; omega
    · obtain ⟨t, ht, rfl | rfl⟩ := mem_bdT.1 hb
      · have h1 := htie t ht
        have h2 := hr.tie t ht
        show x (atV (nC l) t.b) - x (atV (nC l) t.a) ≤ t.high
        rw [xA _ (by omega), xA _ (by omega), if_neg (show ¬ t.b < 0 by omega)]; omega
      · have h1 := htie t ht
        have h2 := hr.tie t ht
        show x (atV (nC l) t.a) - x (atV (nC l) t.b) ≤ -t.low
        rw [xA _ (by omega), xA _ (by omega), if_neg (show ¬ t.b < 0 by omega)]; omega
  unfold feas
  cases hc : closed (nV l) (bds l ties) with
  | some d => rfl
  | none => exact absurd hs (closed_none hf hc x)
/-- Without ties there is always a solution. -/
theorem feas_nil {l : List Event} (hr : Right l []) : feas l [] = true :=
  feas_of hr (fun _ => 0) (fun i => if h : i < l.length then l[i].show' else 0) (fun _ => by simp) (fun i => by
    split
    · rename_i h
      have := hr.ev _ (List.getElem_mem h); omega
    · omega) (fun i h => by
    have := hr.ev _ (List.getElem_mem h)
    simp only [h, dif_pos]; omega) (fun t ht => by simp at ht)
theorem feas_iff {l : List Event} {ties : List Tie} (hr : Right l ties) : feas l ties = true ↔ ∃ x, Sol (bds l ties) x := by
  have hf := fit hr
  unfold feas
  cases hc : closed (nV l) (bds l ties) with
  | some d => exact ⟨fun _ => ⟨d 0, (closed_some hf hc).row 0 hf.pos⟩, fun _ => rfl⟩
  | none => exact ⟨fun h => (by cases h), fun ⟨x, hx⟩ => absurd hx (closed_none hf hc x)⟩
theorem feas_mono {l : List Event} {ties ties' : List Tie} (hr : Right l ties) (hs : ∀ t ∈ ties', t ∈ ties) (hn : ties'.length ≤ 80) (h : feas l ties = true) : feas l ties' = true := by
  obtain ⟨x, hx⟩ := (feas_iff hr).1 h
  refine (feas_iff (hr.sub hs hn)).2 ⟨x, fun b hb => hx b ?_⟩
  rcases mem_bds.1 hb with hb | hb | hb
  · exact mem_bds.2 (.inl hb)
  · exact mem_bds.2 (.inr (.inl hb))
  · obtain ⟨t, ht, hb⟩ := mem_bdT.1 hb
    exact mem_bds.2 (.inr (.inr (mem_bdT.2 ⟨t, hs t ht, hb⟩)))

/-! ### The ends of an interval -/
/-! ### Blame -/
theorem kept_infeasible {l : List Event} {ties : List Tie} (h : feas l ties = false) : ∀ p, p ≤ ties.length → feas l ((kept l ties p).map (tieAt ties)) = false
  | 0, _ => by
    have : (kept l ties 0).map (tieAt ties) = ties := by
      unfold kept
      simp only [chosen, List.nil_append, Nat.sub_zero]
      refine List.ext_getElem (by simp) fun i h1 h2 => ?_
      simp only [List.getElem_map, List.getElem_range', Nat.zero_add, Nat.one_mul]
      exact tieAt_mem h2
    rw [this]; exact h
  | p + 1, hp => by
    have ih := kept_infeasible h p (by omega)
    cases hk : keepB l ties p with
    | true => rw [(kept_yes l ties p (by omega) hk).1]; exact ih
    | false =>
      rw [(kept_no l ties p (by omega) hk).1, kept_rest l ties p (by omega)]
      exact hk
theorem chosen_infeasible {l : List Event} {ties : List Tie} (h : feas l ties = false) : feas l ((chosen l ties ties.length).map (tieAt ties)) = false := by
  have := kept_infeasible h ties.length (Nat.le_refl _)
  unfold kept at this
  simpa using this
/-- One less, and there is a solution. -/
theorem chosen_needed {l : List Event} {ties : List Tie} (hr : Right l ties) {i : Nat} (hi : i < (chosen l ties ties.length).length) : feas l (((chosen l ties ties.length).eraseIdx i).map (tieAt ties)) = true := by
  have hnd : (chosen l ties ties.length).Nodup := by rw [chosen_filter]; exact List.Sublist.nodup List.filter_sublist List.nodup_range
  have hm := List.getElem_mem hi
  generalize hq : (chosen l ties ties.length)[i] = q at hm
  have hql := chosen_lt l ties _ q hm
  have hkb : keepB l ties q = true := by
    rw [chosen_filter] at hm
    exact (List.mem_filter.1 hm).2
  have hT := hr.ht
  refine feas_mono (ties := restT ties (chosen l ties q) q) (right_map hr (fun j hj => ?_) ?_) (fun t ht => ?_) ?_ hkb
  · rcases List.mem_append.1 hj with h | h
    · have := chosen_lt l ties q j h; omega
    · have := List.mem_range'_1.1 h; omega
  · have := chosen_len l ties q
    simp; omega
  · obtain ⟨j, hj, rfl⟩ := List.mem_map.1 ht
    have hj1 : j ∈ chosen l ties ties.length := List.mem_of_mem_eraseIdx hj
    have hjq : j ≠ q := fun e => by
      subst e
      rw [← hq] at hj
      have := List.eraseIdx_eq_take_drop_succ (chosen l ties ties.length) i
      rw [this] at hj
      have hsp : chosen l ties ties.length = (chosen l ties ties.length).take i ++ (chosen l ties ties.length)[i] :: (chosen l ties ties.length).drop (i + 1) := by
        rw [← List.drop_eq_getElem_cons hi, List.take_append_drop]
      rw [hsp, List.nodup_append] at hnd
      rcases List.mem_append.1 hj with h | h
      · exact hnd.2.2 _ h _ List.mem_cons_self rfl
      · exact (List.nodup_cons.1 hnd.2.1).1 h
    have hjl := chosen_lt l ties _ j hj1
    refine List.mem_map.2 ⟨j, ?_, rfl⟩
    rcases Nat.lt_or_ge j q with h | h
    · refine List.mem_append_left _ ?_
      rw [chosen_filter] at hj1 ⊢
      exact List.mem_filter.2 ⟨List.mem_range.2 h, (List.mem_filter.1 hj1).2⟩
    · exact List.mem_append_right _ (List.mem_range'_1.2 ⟨by omega, by omega⟩)
  · have := chosen_len l ties ties.length
    rw [List.length_map]; exact Nat.le_trans (List.length_eraseIdx_le _ _) (by omega)
end Go.Ev.Tryd
