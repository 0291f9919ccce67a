/-
  REGIONS IN ANY ORDER (own work).
-/
import Derived.Test.YtnalmdnfoicokaaEv19
set_option linter.unusedSimpArgs false
set_option linter.unusedVariables false
namespace Go.Ev
open Go

/-! ### The last writer -/
def lastOf {α : Type} (wr : Nat → Bool) (val : Nat → α) (base : α) : Nat → α
  | 0 => base
  | j + 1 => if wr j then val j else lastOf wr val base j

theorem lastOf_congr {α : Type} {wr wr' : Nat → Bool} {val : Nat → α} {base : α} : ∀ {n : Nat}, (∀ j, j < n → wr j = wr' j) → lastOf wr val base n = lastOf wr' val base n
  | 0, _ => rfl
  | n + 1, h => by
    simp only [lastOf]
    rw [h n (by omega), lastOf_congr fun j hj => h j (by omega)]
theorem lastOf_cut {α : Type} {wr : Nat → Bool} {val : Nat → α} {base : α} {i : Nat} : ∀ {n : Nat}, i ≤ n → (∀ j, i ≤ j → j < n → wr j = false) → lastOf wr val base n = lastOf wr val base i
  | 0, h, _ => by rw [show i = 0 by omega]
  | n + 1, h, hf => by
    rcases Nat.lt_or_ge n i with hi | hi
    · rw [show i = n + 1 by omega]
    · simp only [lastOf]
      rw [hf n hi (by omega)]
      exact lastOf_cut hi fun j h1 h2 => hf j h1 (by omega)
theorem lastOf_at {α : Type} {wr : Nat → Bool} {val : Nat → α} {base : α} {i n : Nat} (hi : i < n) (hw : wr i = true) (hf : ∀ j, i < j → j < n → wr j = false) : lastOf wr val base n = val i := by
  rw [lastOf_cut (i := i + 1) hi fun j h1 h2 => hf j (by omega) h2]
  simp only [lastOf, hw, if_true]

/-! ### Masks -/
def wId (h : Hint) (id : Nat) : Bool := h.w.contains id || (decide (h.lb ≤ id) && decide (id < h.la))

theorem maskIds_mem {as : List (List Nat)} {i id : Nat} : ∀ (hs : List Hint) (j : Nat), id ∈ maskIds as i hs j ↔ ∃ (q : Nat) (h : Hint), hs[q]? = some h ∧ unordered as i (j + q) = true ∧ wId h id = true
  | [], j => by simp [maskIds]
  | h :: hs, j => by
    simp only [maskIds, List.mem_append]
    rw [maskIds_mem hs (j + 1)]
    have hhead : id ∈ (if unordered as i j then h.w ++ (List.range (h.la - h.lb)).map (h.lb + ·) else []) ↔ unordered as i j = true ∧ wId h id = true := by
      split
      · rename_i hu
        simp only [List.mem_append, List.mem_map, List.mem_range, wId, Bool.or_eq_true, List.contains_iff_mem, Bool.and_eq_true, decide_eq_true_eq, hu, true_and]
        constructor
        · rintro (h1 | ⟨x, h1, h2⟩)
          · exact .inl h1
          · exact .inr ⟨by omega, by omega⟩
        · rintro (h1 | ⟨h1, h2⟩)
          · exact .inl h1
          · exact .inr ⟨id - h.lb, by omega, by omega⟩
      · rename_i hu
        simp [hu]
    rw [hhead]
    constructor
    · rintro (⟨h1, h2⟩ | ⟨q, h', h1, h2, h3⟩)
      · exact ⟨0, h, by simp, by simpa using h1, h2⟩
      · exact ⟨q + 1, h', by simpa using h1, by rw [show j + (q + 1) = j + 1 + q by omega]; exact h2, h3⟩
    · rintro ⟨q, h', h1, h2, h3⟩
      cases q with
      | zero => simp at h1; subst h1; exact .inl ⟨by simpa using h2, h3⟩
      | succ q => exact .inr ⟨q, h', by simpa using h1, by rw [show j + 1 + q = j + (q + 1) by omega]; exact h2, h3⟩

theorem maskHeap_length (M : List Nat) (H : Heap) : (maskHeap M H).length = H.length := by simp [maskHeap]
theorem maskHeap_get (M : List Nat) (H : Heap) (id : Nat) : (maskHeap M H)[id]? = (H[id]?).map fun b => if M.contains id then none else b := by
  simp [maskHeap, List.getElem?_mapIdx]
theorem maskHeap_live {M : List Nat} {H : Heap} {id : Nat} {b : Blk} : (maskHeap M H)[id]? = some (some b) ↔ id ∉ M ∧ H[id]? = some (some b) := by
  rw [maskHeap_get]
  cases hH : H[id]? with
  | none => simp
  | some o =>
    by_cases hm : id ∈ M
    · simp [hm]
    · simp [hm]
theorem mergeHeap_length (M : List Nat) (H H' : Heap) : (mergeHeap M H H').length = H'.length := by simp [mergeHeap]
theorem mergeHeap_getD (M : List Nat) (H H' : Heap) (id : Nat) (hid : id < H'.length) : (mergeHeap M H H').getD id none = if M.contains id then H.getD id none else H'.getD id none := by
  rw [List.getD_eq_getElem?_getD]
  simp [mergeHeap, List.getElem?_mapIdx, hid]

theorem maskSlots_length (as : List (List Nat)) (i : Nat) : ∀ (ops : List Oper) (j : Nat) (s : List V), (maskSlots as i ops j s).length = s.length
  | [], j, s => rfl
  | o :: ops, j, s => by
    simp only [maskSlots]
    rw [maskSlots_length as i ops]
    split
    · cases o.dst <;> simp [putS]
    · rfl
theorem maskSlots_out {as : List (List Nat)} {i t : Nat} : ∀ (ops : List Oper) (j : Nat) (s : List V), (∀ (q : Nat) (o : Oper), ops[q]? = some o → unordered as i (j + q) = true → o.dst ≠ some t) → (maskSlots as i ops j s)[t]? = s[t]?
  | [], j, s, h => rfl
  | o :: ops, j, s, h => by
    simp only [maskSlots]
    rw [maskSlots_out ops (j + 1) _ fun q o' h1 h2 => h (q + 1) o' (by simpa using h1) (by rw [show j + (q + 1) = j + 1 + q by omega]; exact h2)]
    split
    · rename_i hu
      have := h 0 o (by simp) (by simpa using hu)
      cases hd : o.dst with
      | none => rfl
      | some d =>
        rw [hd] at this
        simp only [putS]
        rw [List.getElem?_set_ne (fun hx => this (by rw [hx]))]
    · rfl
theorem maskSlots_junk {as : List (List Nat)} {i t : Nat} : ∀ (ops : List Oper) (j : Nat) (s : List V), s[t]? = some .junk → (maskSlots as i ops j s)[t]? = some .junk
  | [], j, s, h => h
  | o :: ops, j, s, h => by
    simp only [maskSlots]
    refine maskSlots_junk ops (j + 1) _ ?_
    split
    · cases o.dst with
      | none => exact h
      | some d =>
        have hlt := (List.getElem?_eq_some_iff.1 h).1
        simp only [putS]
        by_cases hd : d = t
        · subst hd; simp [hlt]
        · rw [List.getElem?_set_ne hd]; exact h
    · exact h
theorem maskSlots_in {as : List (List Nat)} {i t : Nat} : ∀ (ops : List Oper) (j : Nat) (s : List V) (q : Nat) (o : Oper), ops[q]? = some o → unordered as i (j + q) = true → o.dst = some t → t < s.length → (maskSlots as i ops j s)[t]? = some .junk
  | [], j, s, q, o, h, _, _, _ => by simp at h
  | o :: ops, j, s, q, o', h, hu, hd, ht => by
    simp only [maskSlots]
    cases q with
    | zero =>
      simp only [List.getElem?_cons_zero, Option.some.injEq] at h
      subst h
      refine maskSlots_junk ops (j + 1) _ ?_
      rw [if_pos (by simpa using hu), hd]
      simp [putS, ht]
    | succ q =>
      refine maskSlots_in ops (j + 1) _ q o' (by simpa using h) (by rw [show j + 1 + q = j + (q + 1) by omega]; exact hu) hd ?_
      split
      · cases o.dst <;> simp [putS, ht]
      · exact ht

/-! ### Whom an operation comes after -/
def AncOk (all : List Oper) (as : List (List Nat)) : Prop := ∀ (j : Nat) (o : Oper), all[j]? = some o → ∀ k ∈ as.getD j [], ∃ ed ∈ o.after.toList, bindsAny ed = true ∧ (k = ed.on ∨ k ∈ as.getD ed.on [])

theorem getD_app {α : Type} (l m : List (List α)) (j : Nat) {k : α} (h : k ∈ l.getD j []) : k ∈ (l ++ m).getD j [] := by
  rw [List.getD_eq_getElem?_getD] at h ⊢
  rcases Nat.lt_or_ge j l.length with hj | hj
  · rw [List.getElem?_append_left hj]; exact h
  · rw [List.getElem?_eq_none hj] at h; simp at h

theorem anc_fold {acc : List (List Nat)} {k : Nat} : ∀ (es : List Edge) (l : List Nat), k ∈ es.foldl (fun l e => if bindsAny e then l ++ [e.on] ++ acc.getD e.on [] else l) l → k ∈ l ∨ ∃ ed ∈ es, bindsAny ed = true ∧ (k = ed.on ∨ k ∈ acc.getD ed.on [])
  | [], l, h => .inl h
  | e :: es, l, h => by
    simp only [List.foldl_cons] at h
    rcases anc_fold es _ h with h1 | ⟨ed, h1, h2⟩
    · split at h1
      · rename_i hb
        simp only [List.mem_append, List.mem_singleton] at h1
        rcases h1 with (h1 | h1) | h1
        · exact .inl h1
        · exact .inr ⟨e, by simp, hb, .inl h1⟩
        · exact .inr ⟨e, by simp, hb, .inr h1⟩
      · exact .inl h1
    · exact .inr ⟨ed, by simp [h1], h2⟩

theorem ancGo_ok {all : List Oper} : ∀ (rest : List Oper) (acc : List (List Nat)), all.drop acc.length = rest → AncOk all acc → AncOk all (ancGo rest acc)
  | [], acc, _, h => h
  | o :: rest, acc, hd, h => by
    simp only [ancGo]
    have ho : all[acc.length]? = some o := by
      have := congrArg List.head? hd
      simpa [List.head?_drop] using this
    refine ancGo_ok rest _ ?_ fun j o' hj k hk => ?_
    · have := congrArg List.tail hd
      simpa using this
    · rcases Nat.lt_trichotomy j acc.length with hlt | rfl | hgt
      · rw [List.getD_eq_getElem?_getD, List.getElem?_append_left hlt, ← List.getD_eq_getElem?_getD] at hk
        obtain ⟨ed, h1, h2, h3⟩ := h j o' hj k hk
        exact ⟨ed, h1, h2, h3.imp id (getD_app _ _ _)⟩
      · rw [ho] at hj
        cases hj
        rw [List.getD_eq_getElem?_getD, List.getElem?_append_right (Nat.le_refl _)] at hk
        simp only [Nat.sub_self, List.getElem?_cons_zero, Option.getD_some] at hk
        rcases anc_fold _ _ hk with h1 | ⟨ed, h1, h2, h3⟩
        · simp at h1
        · exact ⟨ed, h1, h2, h3.imp id (getD_app _ _ _)⟩
      · rw [List.getD_eq_getElem?_getD, List.getElem?_append_right (by omega), List.getElem?_eq_none (by simp; omega)] at hk
        simp at hk

theorem ancs_ok (all : List Oper) : AncOk all (ancs all) := ancGo_ok all [] (by simp) (fun j o _ k hk => by simp at hk)

theorem backward_spec : ∀ (ops : List Oper) (i : Nat), backward ops i = true → ∀ (q : Nat) (o : Oper), ops[q]? = some o → ∀ ed ∈ o.after.toList, bindsAny ed = true → ed.on < i + q
  | [], i, h, q, o, hq => by simp at hq
  | o :: ops, i, h, q, o', hq => by
    simp only [backward, Bool.and_eq_true] at h
    cases q with
    | zero =>
      simp only [List.getElem?_cons_zero, Option.some.injEq] at hq
      subst hq
      intro ed he hb
      have h1 := h.1
      rw [List.all_eq_true] at h1
      have := h1 ed he
      simpa [hb] using this
    | succ q =>
      intro ed he hb
      have := backward_spec ops (i + 1) h.2 q o' (by simpa using hq) ed he hb
      omega

theorem anc_lt {all : List Oper} {as : List (List Nat)} (ha : AncOk all as) (hlen : as.length ≤ all.length) (hb : backward all 0 = true) : ∀ (j k : Nat), k ∈ as.getD j [] → k < j := by
  intro j
  induction j using Nat.strongRecOn with
  | _ j ih =>
    intro k hk
    have hj : j < all.length := by
      rcases Nat.lt_or_ge j as.length with h | h
      · omega
      · rw [List.getD_eq_getElem?_getD, List.getElem?_eq_none h] at hk; simp at hk
    obtain ⟨ed, h1, h2, h3⟩ := ha j all[j] (List.getElem?_eq_getElem hj) k hk
    have := backward_spec all 0 hb j all[j] (List.getElem?_eq_getElem hj) ed h1 h2
    rcases h3 with rfl | h3
    · omega
    · have := ih ed.on (by omega) k h3
      omega
theorem ancGo_length : ∀ (rest : List Oper) (acc : List (List Nat)), (ancGo rest acc).length = acc.length + rest.length
  | [], acc => by simp [ancGo]
  | o :: rest, acc => by simp only [ancGo]; rw [ancGo_length rest]; simp; omega

theorem nodupB_spec : ∀ {l : List Nat}, nodupB l = true → l.Nodup
  | [], _ => by simp
  | x :: l, h => by
    simp only [nodupB, Bool.and_eq_true, Bool.not_eq_true', List.contains_eq_mem, decide_eq_false_iff_not] at h
    exact List.nodup_cons.2 ⟨h.1, nodupB_spec h.2⟩
theorem dsts_inj : ∀ (ops : List Oper), (dsts ops).Nodup → ∀ (i j : Nat) (a b : Oper) (t : Nat), ops[i]? = some a → ops[j]? = some b → a.dst = some t → b.dst = some t → i = j
  | [], _, i, j, a, b, t, h, _, _, _ => by simp at h
  | o :: ops, hn, i, j, a, b, t, hi, hj, ha, hb => by
    have hmem : ∀ (q : Nat) (c : Oper), ops[q]? = some c → c.dst = some t → t ∈ dsts ops := fun q c h1 h2 => List.mem_filterMap.2 ⟨c, List.mem_of_getElem? h1, h2⟩
    have hn2 : (dsts ops).Nodup := by
      unfold dsts at hn ⊢
      rw [List.filterMap_cons] at hn
      split at hn
      · exact hn
      · exact (List.nodup_cons.1 hn).2
    have hne : o.dst = some t → t ∉ dsts ops := fun hd => by
      unfold dsts at hn ⊢
      rw [List.filterMap_cons, hd] at hn
      exact (List.nodup_cons.1 hn).1
    cases i with
    | zero =>
      cases j with
      | zero => rfl
      | succ j =>
        simp only [List.getElem?_cons_zero, Option.some.injEq] at hi
        subst hi
        exact absurd (hmem j b (by simpa using hj) hb) (hne ha)
    | succ i =>
      cases j with
      | zero =>
        simp only [List.getElem?_cons_zero, Option.some.injEq] at hj
        subst hj
        exact absurd (hmem i a (by simpa using hi) ha) (hne hb)
      | succ j => rw [dsts_inj ops hn2 i j a b t (by simpa using hi) (by simpa using hj) ha hb]

/-! ### References bounded -/
def restrE (n : Nat) (e : Emb) : Emb := ⟨fun id => if id < n then e id else none, e.frz⟩
theorem restrE_at (n : Nat) (e : Emb) (id : Nat) : restrE n e id = if id < n then e id else none := rfl
mutual
theorem V.ren_id {ρ : Nat → Option Nat} : ∀ (v : V), (∀ r ∈ v.refs, ρ r = some r) → v.ren ρ = v
  | .bool _, _ => rfl
  | .int _ _, _ => rfl
  | .str _, _ => rfl
  | .nilp, _ => rfl
  | .ptr id off, h => by simp only [V.ren, V.sub]; rw [h id (by simp [V.refs])]
  | .ro _, _ => rfl
  | .nils, _ => rfl
  | .sl id off len sz, h => by simp only [V.ren, V.sub]; rw [h id (by simp [V.refs])]
  | .ros _ _, _ => rfl
  | .nilm, _ => rfl
  | .map id, h => by simp only [V.ren, V.sub]; rw [h id (by simp [V.refs])]
  | .rom _ _, _ => rfl
  | .fn f a b, h => by
    have h1 := renL_id a fun r hr => h r (by simp [V.refs, hr])
    have h2 := renL_id b fun r hr => h r (by simp [V.refs, hr])
    simp only [V.ren, V.sub]
    unfold renL at h1 h2
    rw [h1, h2]
  | .nilf, _ => rfl
  | .iface t v, h => by
    have h1 := V.ren_id v fun r hr => h r (by simpa [V.refs] using hr)
    simp only [V.ren, V.sub] at h1 ⊢
    rw [h1]
  | .nili, _ => rfl
  | .agg cs, h => by
    have h1 := renL_id cs fun r hr => h r (by simpa [V.refs] using hr)
    simp only [V.ren, V.sub]
    unfold renL at h1
    rw [h1]
  | .tup cs, h => by
    have h1 := renL_id cs fun r hr => h r (by simpa [V.refs] using hr)
    simp only [V.ren, V.sub]
    unfold renL at h1
    rw [h1]
  | .junk, _ => rfl
theorem renL_id {ρ : Nat → Option Nat} : ∀ (l : List V), (∀ r ∈ refsL l, ρ r = some r) → renL ρ l = l
  | [], _ => rfl
  | v :: l, h => by
    have h1 := V.ren_id v fun r hr => h r (by simp [refsL, hr])
    have h2 := renL_id l fun r hr => h r (by simp [refsL, hr])
    unfold renL at h2 ⊢
    unfold V.ren at h1
    simp only [subL]
    rw [h1, h2]
end
theorem Blk.ren_id {ρ : Nat → Option Nat} (k : Blk) (h : ∀ r ∈ k.refs, ρ r = some r) : k.ren ρ = k := by
  cases k with
  | cells cs ex => simp only [Blk.ren]; rw [renL_id cs h]
  | map es c =>
    simp only [Blk.ren, Blk.map.injEq, and_true]
    refine (List.map_congr_left fun x hx => ?_).trans (List.map_id es)
    obtain ⟨k, v, b⟩ := x
    have hk : ∀ r ∈ k.refs ++ v.refs, ρ r = some r := fun r hr => h r (by
      simp only [Blk.refs, List.mem_flatMap]
      exact ⟨_, hx, hr⟩)
    simp only [id]
    rw [V.ren_id k fun r hr => hk r (by simp [hr]), V.ren_id v fun r hr => hk r (by simp [hr])]
  | siter s p => rfl
end Go.Ev
