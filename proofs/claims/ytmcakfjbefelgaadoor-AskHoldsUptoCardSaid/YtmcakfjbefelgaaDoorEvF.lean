/-
  ORACLES THAT YIELD A VALUE AND LEAVE THE CALLER's MEMORY ALONE; ARGUMENTS OPENED, TYPE BY TYPE (own work).
-/
import Derived.Test.YtmcakfjbefelgaaDoorEvD
import Derived.Lib.LaidTab
import Derived.Deep.Slices
import Derived.ChangeArms
import Derived.Test.YtmcakfjbefelgaaDoorEvC
set_option linter.unusedSimpArgs false
set_option linter.unusedVariables false
namespace Go.Ev
open Go Go.RowKit

section
variable {P : Program} {w0 : World} {B : Nat} {e : Emb} {H : Heap} {w : World} {Γ : Env}

/-- Nothing that lay before has turned: the caller goes on as it was. -/
theorem Stp.ofBelow {w' : World} (hs : HS w0 B e H w) (hb : Below w.heap.size w w') (h0 : w0.drawn ≠ 0) : Stp w0 B e H w e H w' := by
  have hget : ∀ b, b < w.heap.size → w'.heap[b]? = w.heap[b]? := fun b hlt => hb.block b hlt
  have hsz := hb.size
  refine ⟨⟨fun b hB => ?_, by have := hs.szB; omega, fun id eb he => ?_, fun id k hk => ?_, hs.inj, fun b o hz => ?_, hs.frl⟩, fun _ _ => rfl, Nat.le_refl _, fun _ b _ hb => ⟨b, hb⟩, fun id eb hi he => absurd (hs.dom id eb he).1 (by omega), fun b hlt _ => hget b hlt, hsz, hb.os, hb.tape, hb.output, fun _ _ h => h, fun _ _ h => .inl h, fun h => absurd h h0⟩
  · have := hs.szB; rw [hget b (by omega)]; exact hs.old b hB
  · have := hs.dom id eb he; omega
  · obtain ⟨eb, o, he, ho, hok⟩ := hs.live id k hk
    exact ⟨eb, o, he, by rw [hget _ (hs.dom id eb he).2.2]; exact ho, hok⟩
  · rw [hget _ (hs.frzlt hz)]; exact hs.frz b o hz

/-- A contract that yields a value: what a call comes to. -/
theorem CallAt.pure {f : Nat} {vs : List Value} {r : V} {v : Value} (hmono : Γ.mono = false) (hg : GlobOk Γ w0 B) (hs : HS w0 B e H w) (hcb : Callable P f)
    (hc : Calls P f ⟨vs⟩ w fun ed w' => ed = .returned v ∧ Below w.heap.size w w') (hr : Rep w0 B e r v) : CallAt P f vs w0 B e H w (r, H) := by
  refine Or.inl ⟨hcb, hc.mono fun ed w' hp => ?_⟩
  obtain ⟨rfl, hb⟩ := hp
  exact ⟨v, e, rfl, Stp.ofBelow hs hb (fun h => by have := hg.1 h; rw [hmono] at this; cases this), hr⟩

end

/-! ### Arguments opened -/
section
variable {H : Type} {P : Program} {W : World}

/-- Whatever is read at a type with so much fuel has a flat row of values that stands for it. -/
def Opn (enc : TypeId × Value → H) (P : Program) (W : World) (held : Bool) (n : Nat) (t : TypeId) (Q : DataW H → List V → Prop) : Prop :=
  ∀ cs d ps, DataW.trod enc P W 0 (fun _ => true) held n t cs = some (d, ps) → ∃ vs, Q d vs ∧ CellsOk W W.heap.size emp vs cs

variable {enc : TypeId × Value → H} {held : Bool} {n : Nat} {t : TypeId}

theorem trod_int {k : IntKind} (ht : P.underlying t = some (.int k)) {cs : List Value} {d : DataW H} {ps : List MemPlace} (h : DataW.trod enc P W 0 (fun _ => true) held n t cs = some (d, ps)) :
    ∃ z, (Lit.int k z).wf = true ∧ d = .lit (.int k z) ∧ cs = [.int k z] := by
  cases n with
  | zero => simp [DataW.trod] at h
  | succ n =>
    unfold DataW.trod at h
    rw [ht] at h
    generalize hT : some (TypeDesc.int k) = T at h
    split at h <;> first | (cases hT; done) | skip
    · cases hT
      split at h
      · rename_i hc
        obtain ⟨rfl, hw⟩ := hc
        cases h
        exact ⟨_, hw, rfl, rfl⟩
      · cases h
    · cases h
theorem opn_int {k : IntKind} (ht : P.underlying t = some (.int k)) : Opn enc P W held n t (fun d vs => ∃ z, (Lit.int k z).wf = true ∧ d = .lit (.int k z) ∧ vs = [.int k z]) := by
  intro cs d ps h
  obtain ⟨z, hw, rfl, rfl⟩ := trod_int ht h
  exact ⟨_, ⟨z, hw, rfl, rfl⟩, RepL.cons (.int _ _ _) (RepL.nil _ _ _), fun v hv => by rw [List.mem_singleton.1 hv]; rfl⟩
theorem trod_str (ht : P.underlying t = some .string) {cs : List Value} {d : DataW H} {ps : List MemPlace} (h : DataW.trod enc P W 0 (fun _ => true) held n t cs = some (d, ps)) :
    ∃ s : ByteArray, d = .lit (.string s.data.toList) ∧ cs = [.string s] := by
  cases n with
  | zero => simp [DataW.trod] at h
  | succ n =>
    unfold DataW.trod at h
    rw [ht] at h
    generalize hT : some TypeDesc.string = T at h
    split at h <;> first | (cases hT; done) | skip
    · split at h
      · rename_i hw; cases h; exact ⟨_, rfl, rfl⟩
      · cases h
    · cases h
theorem opn_str (ht : P.underlying t = some .string) : Opn enc P W held n t (fun d vs => ∃ s : ByteArray, d = .lit (.string s.data.toList) ∧ vs = [.str s]) := by
  intro cs d ps h
  obtain ⟨s, rfl, rfl⟩ := trod_str ht h
  exact ⟨_, ⟨s, rfl, rfl⟩, RepL.cons (.str _ _) (RepL.nil _ _ _), fun v hv => by rw [List.mem_singleton.1 hv]; rfl⟩

/-- A cell of a row of elements. -/
theorem flatE_at {α : Type} (E : Enc α) (l : List α) (i r : Nat) (hi : i < l.length) (hr : r < E.k) (h : i * E.k + r < (flatE E l).length) : (flatE E l)[i * E.k + r] = (E.f l[i])[r]'(by rw [E.len]; exact hr) := by
  have h1 := at_flatE (E := E) rfl l i hi
  have h2 : ((flatE E l).drop (i * E.k)).take E.k = E.f l[i] := h1
  have h3 : (E.f l[i])[r]? = (flatE E l)[i * E.k + r]? := by
    rw [← h2, List.getElem?_take_of_lt hr, List.getElem?_drop]
  rw [List.getElem?_eq_getElem h, List.getElem?_eq_getElem (by rw [E.len]; exact hr)] at h3
  exact (Option.some.inj h3).symm

/-- A slice opened, element by element. -/
theorem opn_slice2 {α : Type} [Inhabited α] (E : Enc α) (hk : 0 < E.k) {el : TypeId} (ht : P.underlying t = some (.slice el)) (hc : P.cellsOf el = E.k) {G : α → DataW H → Prop}
    (he : ∀ n, Opn enc P W held n el (fun d vs => ∃ a, G a d ∧ vs = E.f a)) :
    Opn enc P W held n t (fun d vs => ∃ (z : Bool) (l : List α), (z = true → l = []) ∧ vs = [roV z l.length (flatE E l)] ∧ l.length ≤ 9223372036854775807 ∧ (∀ x ∈ l, ∃ D sp y, d = .slice D sp ∧ y ∈ D ∧ G x y) ∧ (l = [] ∨ ∃ D sp, d = .slice D sp ∧ l.length ≤ D.length)) := by
  intro cs d ps h
  rcases Go.Deep.open_slice ht h with ⟨rfl, h2⟩ | ⟨a, len, cap, m, n', D, Pl, rfl, hb, hl, hm, hmm, h2, hx⟩
  · cases h2
    exact ⟨_, ⟨true, [], fun _ => rfl, rfl, by simp, by simp, Or.inl rfl⟩, RepL.cons (.nils _) (RepL.nil _ _ _), fun v hv => by rw [List.mem_singleton.1 hv]; rfl⟩
  · have hmc : len ≤ m := by rw [hmm]; split <;> omega
    obtain ⟨X, hX⟩ := Go.Deep.choose_lt (α := α) (p := fun i x => G x (D i) ∧ ∃ cs', W.cells? 0 (a.add (i * P.cellsOf el)) (P.cellsOf el) = some cs' ∧ CellsOk W W.heap.size emp (E.f x) cs') (n := len) (fun i hi => by
      obtain ⟨cs', h3, h4⟩ := hx i (by omega)
      obtain ⟨vs, ⟨x, hG, rfl⟩, hok⟩ := he n' cs' (D i) (Pl i) h4
      exact ⟨x, hG, cs', h3, hok⟩)
    have hlen : ((List.range len).map X).length = len := by simp
    have hmem : ∀ x ∈ (List.range len).map X, ∃ D' sp y, d = .slice D' sp ∧ y ∈ D' ∧ G x y := fun x hxm => by
      obtain ⟨i, hi, rfl⟩ := List.mem_map.1 hxm
      cases h2
      exact ⟨_, _, D i, rfl, List.mem_map.2 ⟨i, hi, rfl⟩, (hX i (List.mem_range.1 hi)).1⟩
    have hD : (List.range len).map X = [] ∨ ∃ D' sp, d = .slice D' sp ∧ ((List.range len).map X).length ≤ D'.length := by
      cases h2
      exact Or.inr ⟨_, _, rfl, by simp⟩
    refine ⟨_, ⟨false, (List.range len).map X, fun h => (by cases h), rfl, by rw [hlen]; exact Nat.le_trans hl hm, hmem, hD⟩, RepL.cons ?_ (RepL.nil _ _ _), fun v hv => by rw [List.mem_singleton.1 hv]; rfl⟩
    rw [roV_false, hlen]
    rcases Nat.eq_zero_or_pos len with h0 | h0
    · subst h0
      rcases Nat.eq_zero_or_pos cap with h1 | h1
      · subst h1; exact .rose _ _
      · -- the spare's first cell tells that the address names no spot
        have hmpos : 0 < m := by rw [hmm]; simp [h1]
        obtain ⟨cs', h3, _⟩ := hx 0 hmpos
        obtain ⟨_, _, h5⟩ := World.cells?_some h3
        have h6 := h5 0 (by omega)
        obtain ⟨v, hv⟩ : ∃ v, cs'[0]? = some v := ⟨_, List.getElem?_eq_getElem (by obtain ⟨_, q, _⟩ := World.cells?_some h3; omega)⟩
        rw [hv] at h6
        have hsp := World.cell?_spot h6
        simp only [Nat.zero_mul, Addr.add, if_true] at hsp
        obtain ⟨b, o, sp⟩ := a
        simp only at hsp
        subst hsp
        exact .ros _ 0 _ b o cap (fun _ => undef) (by omega) (fun j hj => by simp at hj) (fun j hj => by simp at hj) (fun j hj => by simp at hj)
    · have hcell : ∀ i r, i < len → r < E.k → ∃ v, W.cell? ((a.add (i * E.k)).add r) = some v ∧ one v = true ∧ ∀ (h : r < (E.f (X i)).length), Rep W W.heap.size emp ((E.f (X i))[r]) v := fun i r hi hr => by
        obtain ⟨_, cs', h3, hok⟩ := hX i hi
        rw [hc] at h3
        obtain ⟨_, h4, h5⟩ := World.cells?_some h3
        have hr' : r < cs'.length := by omega
        refine ⟨cs'[r], by rw [h5 r hr, List.getElem?_eq_getElem hr'], hok.2 _ (List.getElem_mem hr'), fun h => hok.1.2 r h hr'⟩
      obtain ⟨v0, hv0, _⟩ := hcell 0 0 h0 hk
      have hsp := World.cell?_spot hv0
      simp only [Nat.zero_mul, Addr.add, if_true] at hsp
      obtain ⟨b, o, sp⟩ := a
      simp only at hsp
      subst hsp
      have hbl : b < W.heap.size := by
        have : W.cell? ⟨b, o, none⟩ = some v0 := by simpa [Addr.add] using hv0
        exact cell_lt this
      have hfl : (flatE E ((List.range len).map X)).length = len * E.k := by rw [flatE_length, hlen]
      have key : ∀ j, j < len * E.k → ∃ v, W.cell? ⟨b, o + j, none⟩ = some v ∧ one v = true ∧ ∀ (h : j < (flatE E ((List.range len).map X)).length), Rep W W.heap.size emp ((flatE E ((List.range len).map X))[j]) v := fun j hj => by
        have hd : j = (j / E.k) * E.k + j % E.k := by rw [Nat.mul_comm]; exact (Nat.div_add_mod _ _).symm
        have hr : j % E.k < E.k := Nat.mod_lt _ hk
        have hi : j / E.k < len := (Nat.div_lt_iff_lt_mul hk).2 hj
        obtain ⟨v, h1, h2, h3⟩ := hcell (j / E.k) (j % E.k) hi hr
        rw [addr_add, addr_add, Nat.add_assoc, ← hd] at h1
        refine ⟨v, h1, h2, fun h => ?_⟩
        have e1 := flatE_at E ((List.range len).map X) (j / E.k) (j % E.k) (by rw [hlen]; exact hi) hr (by rw [← hd]; exact h)
        have e2 : (flatE E ((List.range len).map X))[j] = (E.f (X (j / E.k)))[j % E.k]'(by rw [E.len]; exact hr) := by
          have : (flatE E ((List.range len).map X))[j] = (flatE E ((List.range len).map X))[(j / E.k) * E.k + j % E.k]'(by rw [← hd]; exact h) := by congr 1
          rw [this, e1]
          simp
        rw [e2]
        exact h3 _
      obtain ⟨F, hF⟩ := Go.Deep.choose_lt (α := Value) (n := len * E.k) key
      refine .ros _ len _ b o cap F hl (fun j hj => ?_) (fun j hj => (hF j (by omega)).2.1) (fun j hj => (hF j (by omega)).2.2 hj)
      rw [kcell_old hbl]
      exact (hF j (by omega)).1
end
end Go.Ev

/-
  STRUCTS OPENED, FIELD BY FIELD, WHATEVER THEIR FIELDS (own work).
-/
set_option linter.unusedSimpArgs false
set_option linter.unusedVariables false
namespace Go.Ev
open Go Go.RowKit

section
variable {H : Type} {P : Program} {W : World} {enc : TypeId × Value → H} {held : Bool} {n : Nat} {t : TypeId}

/-- Fields lie one behind the other. -/
def liesB (P : Program) : List Field → Nat → Bool
  | [], _ => true
  | f :: fs, o => f.offset == o && liesB P fs (o + P.cellsOf f.type)

/-- Parts that are each read as they should be, one behind the other. -/
def Parts : List (DataW H → List V → Prop) → List (DataW H) → List V → Prop
  | [], [], vs => vs = []
  | Q :: Qs, d :: ds, vs => ∃ v1 v2, vs = v1 ++ v2 ∧ Q d v1 ∧ Parts Qs ds v2
  | _, _, _ => False

theorem parts_of {cs : List Value} {m : Nat} : ∀ (L : List Field) (Qs : List (DataW H → List V → Prop)) (o : Nat) (xs : List (DataW H × List MemPlace)), liesB P L o = true → L.length = xs.length → L.length = Qs.length → cs.length ≤ o + (L.map fun f => P.cellsOf f.type).sum →
    (∀ (i : Nat) (f : Field), L[i]? = some f → DataW.trod enc P W 0 (fun _ => true) held m f.type ((cs.drop f.offset).take (P.cellsOf f.type)) = xs[i]?) →
    (∀ (i : Nat) (f : Field) (Q : DataW H → List V → Prop), L[i]? = some f → Qs[i]? = some Q → ∀ n, Opn enc P W held n f.type Q) → ∃ vs, Parts Qs (xs.map (·.1)) vs ∧ CellsOk W W.heap.size emp vs (cs.drop o)
  | [], [], o, [], _, _, _, hc, _, _ => ⟨[], rfl, by rw [List.drop_of_length_le (by simpa using hc)]; exact ⟨RepL.nil _ _ _, fun v hv => by cases hv⟩⟩
  | [], _ :: _, _, _, _, _, h, _, _, _ => by simp at h
  | [], [], _, _ :: _, _, h, _, _, _, _ => by simp at h
  | _ :: _, [], _, _, _, _, h, _, _, _ => by simp at h
  | _ :: _, _ :: _, _, [], _, h, _, _, _, _ => by simp at h
  | f :: L, Q :: Qs, o, x :: xs, hl, h1, h2, hc, ht, hQ => by
    simp only [liesB, Bool.and_eq_true, beq_iff_eq] at hl
    have h0 := ht 0 f rfl
    rw [hl.1] at h0
    obtain ⟨d, ps⟩ := x
    obtain ⟨v1, hq, hok⟩ := hQ 0 f Q rfl rfl m _ _ _ h0
    obtain ⟨v2, hp, hok2⟩ := parts_of (cs := cs) (m := m) L Qs (o + P.cellsOf f.type) xs hl.2 (by simpa using h1) (by simpa using h2) (by simp at hc; omega)
      (fun i f' hf => by have := ht (i + 1) f' (by simpa using hf); simpa using this) (fun i f' Q' hf hq' => hQ (i + 1) f' Q' (by simpa using hf) (by simpa using hq'))
    refine ⟨v1 ++ v2, ⟨v1, v2, rfl, hq, hp⟩, ?_⟩
    have e : cs.drop o = (cs.drop o).take (P.cellsOf f.type) ++ cs.drop (o + P.cellsOf f.type) := by
      rw [← List.drop_drop, List.take_append_drop]
    rw [e]
    exact hok.append hok2

/-- A struct opened. -/
theorem opn_struct {fs : Array Field} (ht : P.underlying t = some (.struct fs)) (hl : liesB P fs.toList 0 = true) (hc : P.cellsOf t = (fs.toList.map fun f => P.cellsOf f.type).sum) {Qs : List (DataW H → List V → Prop)} (hlen : fs.size = Qs.length)
    (hQ : ∀ (i : Nat) (f : Field) (Q : DataW H → List V → Prop), fs.toList[i]? = some f → Qs[i]? = some Q → ∀ n, Opn enc P W held n f.type Q) : Opn enc P W held n t (fun d vs => ∃ ds, d = .agg ds ∧ Parts Qs ds vs) := by
  intro cs d ps h
  obtain ⟨xs, m, _, h2, hcl, hxl, hf⟩ := DataW.trod_struct ht h
  cases h2
  obtain ⟨vs, hp, hok⟩ := parts_of (cs := cs) (m := m) (enc := enc) (held := held) (W := W) fs.toList Qs 0 xs hl (by simpa using hxl.symm) (by simpa using hlen) (by omega) (fun i f hf' => hf i f (by simpa using hf')) hQ
  exact ⟨vs, ⟨_, rfl, hp⟩, by simpa using hok⟩
end
end Go.Ev
