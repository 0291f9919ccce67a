/-
  RECURSIVE TYPES OPENED: a slice and a struct, where what lies deeper is known for less fuel alone (own work).
-/
import Derived.Test.YtmcakfjbefelgaaDoorEvF
set_option linter.unusedSimpArgs false
set_option linter.unusedVariables false
namespace Go.Ev
open Go Go.ChangeShapes Go.WideShapes
section
variable {P : Program} {W : World} {H : Type} {enc : TypeId × Value → H} {held : Bool} {n : Nat} {t : TypeId}

theorem Opn.mono' {P : Program} {n : Nat} {t : TypeId} {Q Q' : DataW H → List V → Prop} (h : Opn enc P W held n t Q) (hq : ∀ d vs, Q d vs → Q' d vs) : Opn enc P W held n t Q' := fun cs d ps hc => by
  obtain ⟨vs, h1, h2⟩ := h cs d ps hc
  exact ⟨vs, hq d vs h1, h2⟩
theorem opn_sliceR {α : Type} [Inhabited α] (E : Enc α) (hk : 0 < E.k) {el : TypeId} (ht : P.underlying t = some (.slice el)) (hc : P.cellsOf el = E.k) {G : α → DataW H → Prop}
    (he : ∀ m, m < n → Opn enc P W held m el (fun d vs => ∃ a, G a d ∧ vs = E.f a)) :
    Opn enc P W held n t (fun d vs => ∃ (z : Bool) (l : List α), (z = true → l = []) ∧ vs = [roV z l.length (flatE E l)] ∧ l.length ≤ 9223372036854775807 ∧ ((z = true ∧ d = .nil) ∨ (z = false ∧ ∃ D sp, d = .slice D sp ∧ D.length = l.length ∧ ∀ (i : Nat) (h : i < l.length) (h' : i < D.length), G l[i] D[i]))) := by
  intro cs d ps h
  rcases DataW.trod_slice ht h with ⟨rfl, h2⟩ | ⟨a, len, cap, elems, rest, n', hn', rfl, h2, hb, hl, hm, hlen, hel, hsp', hns⟩
  · cases h2
    exact ⟨_, ⟨true, [], fun _ => rfl, rfl, by simp, Or.inl ⟨rfl, rfl⟩⟩, RepL.cons (.nils _) (RepL.nil _ _ _), fun v hv => by rw [List.mem_singleton.1 hv]; rfl⟩
  · have hx : ∀ i (hi : i < len), ∃ cs', W.cells? 0 (a.add (i * P.cellsOf el)) (P.cellsOf el) = some cs' ∧ DataW.trod enc P W 0 (fun _ => true) held n' el cs' = some (elems[i]'(by omega)) := fun i hi => by
      have h1 := hel i hi
      rw [List.getElem?_eq_getElem (by omega)] at h1
      obtain ⟨cs', h3, h4⟩ := Option.bind_eq_some_iff.1 h1
      exact ⟨cs', h3, h4⟩
    obtain ⟨X, hX⟩ := Go.Deep.choose_lt (α := α) (p := fun i x => (∀ h : i < elems.length, G x (elems[i]).1) ∧ ∃ cs', W.cells? 0 (a.add (i * P.cellsOf el)) (P.cellsOf el) = some cs' ∧ CellsOk W W.heap.size emp (E.f x) cs') (n := len) (fun i hi => by
      obtain ⟨cs', h3, h4⟩ := hx i hi
      obtain ⟨vs, ⟨x, hG, rfl⟩, hok⟩ := he n' (by omega) cs' (elems[i]'(by omega)).1 (elems[i]'(by omega)).2 h4
      exact ⟨x, fun _ => hG, cs', h3, hok⟩)
    have hlen2 : ((List.range len).map X).length = len := by simp
    have hD : d = .slice (elems.map (·.1)) (rest.map (·.1)) := by cases h2; rfl
    refine ⟨_, ⟨false, (List.range len).map X, fun h => (by cases h), rfl, by rw [hlen2]; exact Nat.le_trans hl hm, Or.inr ⟨rfl, _, _, hD, by rw [hlen2, List.length_map, hlen], fun i h h' => ?_⟩⟩, RepL.cons ?_ (RepL.nil _ _ _), fun v hv => by rw [List.mem_singleton.1 hv]; rfl⟩
    · rw [hlen2] at h
      have := (hX i h).1 (by omega)
      simpa using this
    rw [roV_false, hlen2]
    rcases Nat.eq_zero_or_pos len with h0 | h0
    · subst h0
      rcases Nat.eq_zero_or_pos cap with h1 | h1
      · subst h1; exact .rose _ _
      · have h6' := (hsp' rfl).2 0 (by omega)
        have hr := (hsp' rfl).1
        rw [List.getElem?_eq_getElem (by omega)] at h6'
        obtain ⟨cs', h3, _⟩ := Option.bind_eq_some_iff.1 h6'
        obtain ⟨_, _, h5⟩ := World.cells?_some h3
        have h6 := h5 0 (by omega)
        obtain ⟨v, hv⟩ : ∃ v, cs'[0]? = some v := ⟨_, List.getElem?_eq_getElem (by obtain ⟨_, q, _⟩ := World.cells?_some h3; omega)⟩
        rw [hv] at h6
        have hsp := World.cell?_spot h6
        simp only [Nat.zero_mul, Nat.add_zero, Addr.add, if_true] at hsp
        obtain ⟨b, o, sp⟩ := a
        simp only at hsp
        subst hsp
        exact .ros _ 0 _ b o cap (fun _ => undef) (by omega) (fun j hj => by simp at hj) (fun j hj => by simp at hj) (fun j hj => by simp at hj)
    · have hcell : ∀ i r, i < len → r < E.k → ∃ v, W.cell? ((a.add (i * E.k)).add r) = some v ∧ one v = true ∧ ∀ (h : r < (E.f (X i)).length), Rep W W.heap.size emp ((E.f (X i))[r]) v := fun i r hi hr => by
        obtain ⟨_, cs', h3, hok⟩ := hX i hi
        rw [hc] at h3
        obtain ⟨_, h4, h5⟩ := World.cells?_some h3
        have hr' : r < cs'.length := by omega
        refine ⟨cs'[r], by rw [h5 r hr, List.getElem?_eq_getElem hr'], hok.2 _ (List.getElem_mem hr'), fun h => hok.1.2 r h hr'⟩
      obtain ⟨v0, hv0, _⟩ := hcell 0 0 h0 hk
      have hsp := World.cell?_spot hv0
      simp only [Nat.zero_mul, Addr.add, if_true] at hsp
      obtain ⟨b, o, sp⟩ := a
      simp only at hsp
      subst hsp
      have hbl : b < W.heap.size := by
        have : W.cell? ⟨b, o, none⟩ = some v0 := by simpa [Addr.add] using hv0
        exact cell_lt this
      have hfl : (flatE E ((List.range len).map X)).length = len * E.k := by rw [flatE_length, hlen2]
      have key : ∀ j, j < len * E.k → ∃ v, W.cell? ⟨b, o + j, none⟩ = some v ∧ one v = true ∧ ∀ (h : j < (flatE E ((List.range len).map X)).length), Rep W W.heap.size emp ((flatE E ((List.range len).map X))[j]) v := fun j hj => by
        have hd : j = (j / E.k) * E.k + j % E.k := by rw [Nat.mul_comm]; exact (Nat.div_add_mod _ _).symm
        have hr : j % E.k < E.k := Nat.mod_lt _ hk
        have hi : j / E.k < len := (Nat.div_lt_iff_lt_mul hk).2 hj
        obtain ⟨v, h1, h2, h3⟩ := hcell (j / E.k) (j % E.k) hi hr
        rw [addr_add, addr_add, Nat.add_assoc, ← hd] at h1
        refine ⟨v, h1, h2, fun h => ?_⟩
        have e1 := flatE_at E ((List.range len).map X) (j / E.k) (j % E.k) (by rw [hlen2]; exact hi) hr (by rw [← hd]; exact h)
        have e2 : (flatE E ((List.range len).map X))[j] = (E.f (X (j / E.k)))[j % E.k]'(by rw [E.len]; exact hr) := by
          have : (flatE E ((List.range len).map X))[j] = (flatE E ((List.range len).map X))[(j / E.k) * E.k + j % E.k]'(by rw [← hd]; exact h) := by congr 1
          rw [this, e1]
          simp
        rw [e2]
        exact h3 _
      obtain ⟨F, hF⟩ := Go.Deep.choose_lt (α := Value) (n := len * E.k) key
      refine .ros _ len _ b o cap F hl (fun j hj => ?_) (fun j hj => (hF j (by omega)).2.1) (fun j hj => (hF j (by omega)).2.2 hj)
      rw [kcell_old hbl]
      exact (hF j (by omega)).1

theorem parts_ofR {cs : List Value} {m : Nat} : ∀ (L : List Field) (Qs : List (DataW H → List V → Prop)) (o : Nat) (xs : List (DataW H × List MemPlace)), liesB P L o = true → L.length = xs.length → L.length = Qs.length → cs.length ≤ o + (L.map fun f => P.cellsOf f.type).sum →
    (∀ (i : Nat) (f : Field), L[i]? = some f → DataW.trod enc P W 0 (fun _ => true) held m f.type ((cs.drop f.offset).take (P.cellsOf f.type)) = xs[i]?) →
    (∀ (i : Nat) (f : Field) (Q : DataW H → List V → Prop), L[i]? = some f → Qs[i]? = some Q → Opn enc P W held m f.type Q) → ∃ vs, Parts Qs (xs.map (·.1)) vs ∧ CellsOk W W.heap.size emp vs (cs.drop o)
  | [], [], o, [], _, _, _, hc, _, _ => ⟨[], rfl, by rw [List.drop_of_length_le (by simpa using hc)]; exact ⟨RepL.nil _ _ _, fun v hv => by cases hv⟩⟩
  | [], _ :: _, _, _, _, _, h, _, _, _ => by simp at h
  | [], [], _, _ :: _, _, h, _, _, _, _ => by simp at h
  | _ :: _, [], _, _, _, _, h, _, _, _ => by simp at h
  | _ :: _, _ :: _, _, [], _, h, _, _, _, _ => by simp at h
  | f :: L, Q :: Qs, o, x :: xs, hl, h1, h2, hc, ht, hQ => by
    simp only [liesB, Bool.and_eq_true, beq_iff_eq] at hl
    have h0 := ht 0 f rfl
    rw [hl.1] at h0
    obtain ⟨d, ps⟩ := x
    obtain ⟨v1, hq, hok⟩ := hQ 0 f Q rfl rfl _ _ _ h0
    obtain ⟨v2, hp, hok2⟩ := parts_ofR (cs := cs) (m := m) L Qs (o + P.cellsOf f.type) xs hl.2 (by simpa using h1) (by simpa using h2) (by simp at hc; omega)
      (fun i f' hf => by have := ht (i + 1) f' (by simpa using hf); simpa using this) (fun i f' Q' hf hq' => hQ (i + 1) f' Q' (by simpa using hf) (by simpa using hq'))
    refine ⟨v1 ++ v2, ⟨v1, v2, rfl, hq, hp⟩, ?_⟩
    have e : cs.drop o = (cs.drop o).take (P.cellsOf f.type) ++ cs.drop (o + P.cellsOf f.type) := by
      rw [← List.drop_drop, List.take_append_drop]
    rw [e]
    exact hok.append hok2
theorem opn_structR {fs : Array Field} (ht : P.underlying t = some (.struct fs)) (hl : liesB P fs.toList 0 = true) (hc : P.cellsOf t = (fs.toList.map fun f => P.cellsOf f.type).sum) {Qs : List (DataW H → List V → Prop)} (hlen : fs.size = Qs.length)
    (hQ : ∀ (i : Nat) (f : Field) (Q : DataW H → List V → Prop), fs.toList[i]? = some f → Qs[i]? = some Q → ∀ m, m < n → Opn enc P W held m f.type Q) : Opn enc P W held n t (fun d vs => ∃ ds, d = .agg ds ∧ Parts Qs ds vs) := by
  intro cs d ps h
  obtain ⟨xs, m, hm, h2, hcl, hxl, hf⟩ := DataW.trod_struct ht h
  cases h2
  obtain ⟨vs, hp, hok⟩ := parts_ofR (cs := cs) (m := m) (enc := enc) (held := held) (W := W) fs.toList Qs 0 xs hl (by simpa using hxl.symm) (by simpa using hlen) (by omega) (fun i f hf' => hf i f (by simpa using hf')) (fun i f Q h1 h2 => hQ i f Q h1 h2 m (by omega))
  exact ⟨vs, ⟨_, rfl, hp⟩, by simpa using hok⟩
end
end Go.Ev
