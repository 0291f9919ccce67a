import Derived.Test.YtflmadkbppnmcaaCkG
set_option linter.unusedSimpArgs false
set_option linter.unusedVariables false
namespace Go.Ev.Try
open Go Go.Ev Go.Proofs
def ltS (a b : ByteArray) : Bool := Op.bytesLess a.toList b.toList
theorem bl_eq : ∀ (x y : List UInt8), Op.bytesLess x y = decide (x < y)
  | _, [] => by simp [Op.bytesLess]
  | [], b :: y => by simp [Op.bytesLess]
  | a :: x, b :: y => by
    rw [Op.bytesLess, bl_eq x y, Bool.eq_iff_iff]
    simp [List.cons_lt_cons_iff]
theorem ba_list (a : ByteArray) : a.toList = a.data.toList := toList_data a
theorem ltS_iff (a b : ByteArray) : ltS a b = true ↔ a.data.toList < b.data.toList := by
  unfold ltS; rw [bl_eq, ba_list, ba_list]; simp
theorem ltS_irrefl (a : ByteArray) : ltS a a = false := by
  rw [← Bool.not_eq_true, ltS_iff]; exact List.lt_irrefl _
theorem ltS_trans {a b c : ByteArray} (h : ltS a b = true) (k : ltS b c = true) : ltS a c = true := by
  rw [ltS_iff] at *; exact List.lt_trans h k
theorem ltS_asymm {a b : ByteArray} (h : ltS a b = true) : ltS b a = false := by
  rw [← Bool.not_eq_true]; intro k
  have := ltS_trans h k
  rw [ltS_irrefl] at this; cases this
theorem ltS_total {a b : ByteArray} (h : ltS a b = false) (k : ltS b a = false) : a = b := by
  rw [← Bool.not_eq_true, ltS_iff, List.not_lt] at h k
  exact ba_ext (List.le_antisymm k h)
def SS (l : List ByteArray) : Prop := l.Pairwise fun a b => ltS a b = true
theorem ss_unique : ∀ (l m : List ByteArray), SS l → SS m → (∀ x, x ∈ l ↔ x ∈ m) → l = m
  | [], [], _, _, _ => rfl
  | [], b :: m, _, _, h => by have := (h b).2 (by simp); simp at this
  | a :: l, [], _, _, h => by have := (h a).1 (by simp); simp at this
  | a :: l, b :: m, h1, h2, h => by
    obtain ⟨a1, a2⟩ := List.pairwise_cons.1 h1
    obtain ⟨b1, b2⟩ := List.pairwise_cons.1 h2
    have hab : a = b := by
      rcases List.mem_cons.1 ((h a).1 (by simp)) with e | e
      · exact e
      · rcases List.mem_cons.1 ((h b).2 (by simp)) with f | f
        · exact f.symm
        · have := ltS_trans (b1 a e) (a1 b f)
          rw [ltS_irrefl] at this; cases this
    subst hab
    rw [ss_unique l m a2 b2 fun x => ?_]
    have := h x
    simp only [List.mem_cons] at this
    constructor
    · intro hx
      rcases this.1 (.inr hx) with rfl | h'
      · have := a1 x hx; rw [ltS_irrefl] at this; cases this
      · exact h'
    · intro hx
      rcases this.2 (.inr hx) with rfl | h'
      · have := b1 x hx; rw [ltS_irrefl] at this; cases this
      · exact h'
section
variable {α : Type} [DecidableEq α]
def dstep (out : List α) (x : α) : List α := if out.getLast? = some x then out else out ++ [x]
def dedup (l : List α) : List α := l.foldl dstep []
theorem dstep_last (out : List α) (x : α) : (dstep out x).getLast? = some x := by
  unfold dstep; split
  · assumption
  · simp
theorem dedup_snoc0 (l : List α) (x : α) : dedup (l ++ [x]) = dstep (dedup l) x := by simp [dedup]
theorem dedup_last (l : List α) : (dedup l).getLast? = l.getLast? := by
  rcases List.eq_nil_or_concat l with rfl | ⟨L, x, rfl⟩
  · rfl
  · rw [List.concat_eq_append, dedup_snoc0, dstep_last]; simp
theorem dedup_snoc (l : List α) (x : α) : dedup (l ++ [x]) = if l.getLast? = some x then dedup l else dedup l ++ [x] := by
  rw [dedup_snoc0, dstep, dedup_last]
theorem dedup_succ (l : List α) (p : Nat) (h : p + 1 < l.length) : dedup (l.take (p + 2)) = if l[p + 1] = l[p] then dedup (l.take (p + 1)) else dedup (l.take (p + 1)) ++ [l[p + 1]] := by
  rw [List.take_succ_eq_append_getElem h, dedup_snoc]
  have : (l.take (p + 1)).getLast? = some l[p] := by
    rw [List.take_succ_eq_append_getElem (by omega : p < l.length), List.getLast?_append]; rfl
  rw [this]
  by_cases he : l[p + 1] = l[p]
  · rw [if_pos he, if_pos (by rw [he])]
  · rw [if_neg he, if_neg (fun h => he (Option.some.inj h).symm)]
theorem dedup_mem : ∀ (n : Nat) (l : List α), l.length = n → ∀ x, x ∈ dedup l ↔ x ∈ l
  | 0, l, h, x => by rw [List.length_eq_zero_iff.1 h]; rfl
  | n + 1, l, h, x => by
    rcases List.eq_nil_or_concat l with rfl | ⟨L, y, rfl⟩
    · simp at h
    · rw [List.concat_eq_append] at *
      have hL : L.length = n := by simpa using h
      have ih := dedup_mem n L hL x
      rw [dedup_snoc]
      split
      · rename_i hy
        rw [ih, List.mem_append]
        constructor
        · exact .inl
        · rintro (h' | h')
          · exact h'
          · rw [List.mem_singleton.1 h']; exact List.mem_of_getLast? hy
      · rw [List.mem_append, List.mem_append, ih]
end
theorem sortS_mem (l : List ByteArray) (x : ByteArray) : x ∈ sortS l ↔ x ∈ l := by
  rw [sortS_eq]
  simp only [List.mem_map, List.mem_mergeSort]
  constructor
  · rintro ⟨_, ⟨y, hy, rfl⟩, rfl⟩
    have : (⟨y.data.toList.toArray⟩ : ByteArray) = y := ba_ext (by simp)
    rw [this]; exact hy
  · intro h
    exact ⟨_, ⟨x, h, rfl⟩, ba_ext (by simp)⟩
theorem sortS_sorted (l : List ByteArray) : (sortS l).Pairwise fun a b => ltS b a = false := by
  rw [sortS_eq]
  rw [List.pairwise_map]
  have h := List.pairwise_mergeSort (le := fun x y : List UInt8 => decide (x ≤ y)) (fun a b c h1 h2 => by simp at *; exact List.le_trans h1 h2) (fun a b => by simp; exact List.le_total a b) (l.map (·.data.toList))
  refine h.imp fun {a b} hab => ?_
  rw [← Bool.not_eq_true, ltS_iff]
  simp at hab ⊢
  exact hab
theorem dedup_sorted : ∀ (n : Nat) (l : List ByteArray), l.length = n → l.Pairwise (fun a b => ltS b a = false) → SS (dedup l)
  | 0, l, h, _ => by rw [List.length_eq_zero_iff.1 h]; exact List.Pairwise.nil
  | n + 1, l, h, hp => by
    rcases List.eq_nil_or_concat l with rfl | ⟨L, y, rfl⟩
    · simp at h
    · rw [List.concat_eq_append] at *
      have hL : L.length = n := by simpa using h
      obtain ⟨p1, _, p2⟩ := List.pairwise_append.1 hp
      have ih := dedup_sorted n L hL p1
      rw [dedup_snoc]
      split
      · exact ih
      · rename_i hy
        refine List.pairwise_append.2 ⟨ih, List.pairwise_singleton _ _, fun a ha b hb => ?_⟩
        rw [List.mem_singleton.1 hb]
        have haL := (dedup_mem n L hL a).1 ha
        have hya := p2 a haL y (by simp)
        cases hay : ltS a y with
        | true => rfl
        | false =>
          exfalso
          obtain rfl := ltS_total hay hya
          apply hy
          obtain ⟨i, hi, hai⟩ := List.getElem_of_mem haL
          have hlast : L.getLast? = some L[L.length - 1] := by rw [List.getLast?_eq_getElem?]; exact List.getElem?_eq_getElem (by omega)
          rw [hlast]
          congr 1
          rcases Nat.lt_or_ge i (L.length - 1) with h1 | h1
          · have h2 := List.pairwise_iff_getElem.1 p1 i (L.length - 1) hi (by omega) h1
            have h3 := p2 L[L.length - 1] (List.getElem_mem _) a (by simp)
            rw [hai] at h2
            exact ltS_total h2 h3
          · have : i = L.length - 1 := by omega
            subst this
            exact hai
def insS (out : List ByteArray) (x : ByteArray) : List ByteArray :=
  let i := (out.takeWhile fun y => ltS y x).length
  if out[i]? = some x then out else insL out i x
theorem insS_facts (out : List ByteArray) (x : ByteArray) (h : SS out) : SS (insS out x) ∧ ∀ y, y ∈ insS out x ↔ y ∈ out ∨ y = x := by
  have hs : out = out.takeWhile (fun y => ltS y x) ++ out.dropWhile (fun y => ltS y x) := (List.takeWhile_append_dropWhile).symm
  have hA : ∀ y ∈ out.takeWhile (fun y => ltS y x), ltS y x = true := fun y hy => by
    exact List.all_eq_true.1 (List.all_takeWhile (p := fun y => ltS y x) (l := out)) y hy
  have hC : ∀ y C, out.dropWhile (fun y => ltS y x) = y :: C → ltS y x = false := fun y C hyC => by
    have := List.head_dropWhile_not (fun y => ltS y x) (l := out) (by rw [hyC]; simp)
    simp only [hyC] at this
    simpa using this
  unfold insS
  simp only
  generalize out.takeWhile (fun y => ltS y x) = A at *
  generalize out.dropWhile (fun y => ltS y x) = C at *
  subst hs
  have hg : (A ++ C)[A.length]? = C[0]? := by rw [List.getElem?_append_right (Nat.le_refl _), Nat.sub_self]
  rw [hg]
  have hi : insL (A ++ C) A.length x = A ++ x :: C := by simp [insL]
  split
  · rename_i h0
    refine ⟨h, fun y => ⟨.inl, fun hy => ?_⟩⟩
    rcases hy with hy | rfl
    · exact hy
    · exact List.mem_append_right _ (List.mem_of_getElem? h0)
  · rename_i h0
    rw [hi]
    obtain ⟨h1, h2, h3⟩ := List.pairwise_append.1 h
    refine ⟨List.pairwise_append.2 ⟨h1, List.pairwise_cons.2 ⟨fun y hy => ?_, h2⟩, fun a ha b hb => ?_⟩, fun y => by simp [or_comm, or_left_comm]⟩
    · cases C with
      | nil => cases hy
      | cons c C =>
        have hcx := hC c C rfl
        have hxc : ltS x c = true := by
          cases hh : ltS x c with
          | true => rfl
          | false => exact absurd (by rw [ltS_total hh hcx]; rfl) h0
        rcases List.mem_cons.1 hy with rfl | hy
        · exact hxc
        · exact ltS_trans hxc ((List.pairwise_cons.1 h2).1 y hy)
    · rcases List.mem_cons.1 hb with rfl | hb
      · exact hA a ha
      · exact h3 a ha b hb
def insF (l : List ByteArray) : List ByteArray := l.foldl insS []
theorem insF_facts (l : List ByteArray) : SS (insF l) ∧ ∀ y, y ∈ insF l ↔ y ∈ l := by
  have : ∀ (l out : List ByteArray), SS out → SS (l.foldl insS out) ∧ ∀ y, y ∈ l.foldl insS out ↔ y ∈ out ∨ y ∈ l := by
    intro l
    induction l with
    | nil => intro out h; exact ⟨h, fun y => by simp⟩
    | cons x l ih =>
      intro out h
      obtain ⟨h1, h2⟩ := insS_facts out x h
      obtain ⟨h3, h4⟩ := ih (insS out x) h1
      refine ⟨h3, fun y => ?_⟩
      rw [List.foldl_cons, h4, h2]
      simp [or_assoc]
  obtain ⟨h1, h2⟩ := this l [] List.Pairwise.nil
  exact ⟨h1, fun y => by rw [show insF l = l.foldl insS [] from rfl, h2]; simp⟩
theorem names_eq (l : List ByteArray) : dedup (sortS l) = insF l := by
  obtain ⟨h1, h2⟩ := insF_facts l
  refine ss_unique _ _ (dedup_sorted _ _ rfl (sortS_sorted l)) h1 fun x => ?_
  rw [dedup_mem _ _ rfl, sortS_mem, h2]
theorem insF_snoc (l : List ByteArray) (x : ByteArray) : insF (l ++ [x]) = insS (insF l) x := by simp [insF]
theorem insF_len (l : List ByteArray) : (insF l).length ≤ l.length := by
  have : ∀ (l out : List ByteArray), (l.foldl insS out).length ≤ out.length + l.length := by
    intro l
    induction l with
    | nil => intro out; simp
    | cons x l ih =>
      intro out
      have h := ih (insS out x)
      have hle : (out.takeWhile fun y => ltS y x).length ≤ out.length := (List.takeWhile_prefix _).length_le
      have : (insS out x).length ≤ out.length + 1 := by
        unfold insS; simp only; split
        · omega
        · rw [insL_length _ _ _ hle]; exact Nat.le_refl _
      simp only [List.foldl_cons, List.length_cons]
      omega
  have h := this l []
  rw [List.length_nil, Nat.zero_add] at h
  exact h
end Go.Ev.Try
