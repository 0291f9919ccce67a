/-
  THE SEAL SEAT: chains, plainly (own work).
-/
import Derived.Test.YtcpojjjdglhhcaaDoorSealI
set_option linter.unusedSimpArgs false
set_option linter.unusedVariables false
set_option maxRecDepth 100000
set_option maxHeartbeats 4000000
namespace Go.Ev.Tryd
open Go Go.Ev Go.Proofs

theorem go_len (l : List Entry) : ∀ (s : State) (i : Nat) (b : Int), (checkGo s i b l).2.2 = 0 → (checkGo s i b l).2.1 = i + l.length := by
  induction l with
  | nil => intro s i b _; simp [checkGo]
  | cons x l ih =>
    intro s i b h
    simp only [checkGo] at h ⊢
    split at h
    · rename_i hn; exact absurd h hn
    · rename_i hn
      rw [if_neg hn]
      split at h
      · simp at h
      · rename_i hs
        rw [if_neg hs, ih _ _ _ h, List.length_cons]
        omega
def lastB (b : Int) (l : List Entry) : Int := match l.getLast? with
  | none => b
  | some x => x.sum
theorem lastB_cons (b : Int) (x : Entry) (l : List Entry) : lastB b (x :: l) = lastB x.sum l := by
  unfold lastB
  rw [List.getLast?_cons]
  cases l.getLast? <;> rfl
theorem go_app (l : List Entry) : ∀ (s : State) (i : Nat) (b : Int) (m : List Entry), (checkGo s i b l).2.2 = 0 → checkGo s i b (l ++ m) = checkGo (checkGo s i b l).1 (i + l.length) (lastB b l) m := by
  induction l with
  | nil => intro s i b m _; simp [checkGo, lastB]
  | cons x l ih =>
    intro s i b m h
    rw [lastB_cons]
    simp only [checkGo, List.cons_append] at h ⊢
    split at h
    · rename_i hn; exact absurd h hn
    · rename_i hn
      rw [if_neg hn, if_neg hn]
      split at h
      · simp at h
      · rename_i hs
        rw [if_neg hs, if_neg hs, ih _ _ _ _ h, List.length_cons]
        congr 1
        omega
theorem go_pre (l : List Entry) : ∀ (s : State) (i : Nat) (b : Int) (m : List Entry), (checkGo s i b (l ++ m)).2.2 = 0 → (checkGo s i b l).2.2 = 0 := by
  induction l with
  | nil => intro s i b m _; simp [checkGo]
  | cons x l ih =>
    intro s i b m h
    simp only [checkGo, List.cons_append] at h ⊢
    split at h
    · rename_i hn; exact absurd h hn
    · rename_i hn
      rw [if_neg hn]
      split at h
      · simp at h
      · rename_i hs
        rw [if_neg hs]
        exact ih _ _ _ _ h

theorem step_sum (s : State) (f : Bool) (x : Entry) (y : Int) : step s f { x with sum := y } = step s f x := rfl
theorem sumS_sum (b : Int) (x : Entry) (y : Int) : sumS b { x with sum := y } = sumS b x := rfl

theorem go_cons (s : State) (i : Nat) (b : Int) (x : Entry) (y : Int) (l : List Entry) (h : (step s (decide (i = 0)) x).2 = 0) :
    checkGo s i b ({ x with sum := y } :: l) = if y ≠ sumS b x then (state0, i, 13) else checkGo (step s (decide (i = 0)) x).1 (i + 1) y l := by
  show (if (step s (decide (i = 0)) x).2 ≠ 0 then (state0, i, (step s (decide (i = 0)) x).2) else if y ≠ sumS b x then (state0, i, 13) else checkGo (step s (decide (i = 0)) x).1 (i + 1) y l) = _
  rw [if_neg (by rw [h]; simp)]
theorem go_head {s : State} {i : Nat} {b : Int} {x : Entry} {l : List Entry} (h : (checkGo s i b (x :: l)).2.2 = 0) : (step s (decide (i = 0)) x).2 = 0 ∧ x.sum = sumS b x := by
  simp only [checkGo] at h
  split at h
  · rename_i hn; exact absurd h hn
  · rename_i hn
    split at h
    · simp at h
    · rename_i hs
      exact ⟨Classical.not_not.1 hn, Classical.not_not.1 hs⟩

/-- A right chain. -/
def Right (l : List Entry) : Prop := okL l ∧ (check l).2.2 = 0 ∧ l.length ≤ 100

theorem Right.go {l : List Entry} (h : Right l) : check l = checkGo state0 0 0 l := by
  unfold check; rw [if_neg (by have := h.2.2; omega)]
theorem Right.len {l : List Entry} (h : Right l) : (check l).2.1 = l.length := by
  have h1 := h.2.1
  rw [h.go] at h1 ⊢
  have := go_len l _ _ _ h1
  omega
theorem Right.take {l : List Entry} (h : Right l) (k : Nat) (hk : k ≤ l.length) : Right (l.take k) := by
  have h1 := h.2.1
  have h3 := h.2.2
  have hl : (l.take k).length ≤ 100 := by rw [List.length_take]; omega
  refine ⟨fun x hx => h.1 x (List.mem_of_mem_take hx), ?_, hl⟩
  rw [h.go, ← List.take_append_drop k l] at h1
  unfold check
  rw [if_neg (by omega)]
  exact go_pre _ _ _ _ _ h1
/-- A changed sum. -/
theorem Right.bad {l : List Entry} (h : Right l) (k : Nat) (hk : k < l.length) (y : Int) (hy : y ≠ l[k].sum) (hu : u64 y) :
    okL (l.set k { l[k] with sum := y }) ∧ check (l.set k { l[k] with sum := y }) = (state0, k, 13) := by
  have h1 := h.2.1
  have h3 := h.2.2
  have e : l.set k { l[k] with sum := y } = l.take k ++ { l[k] with sum := y } :: l.drop (k + 1) := List.set_eq_take_append_cons_drop .. ▸ by rw [if_pos hk]
  have e0 : l = l.take k ++ l[k] :: l.drop (k + 1) := by rw [← List.drop_eq_getElem_cons hk, List.take_append_drop]
  constructor
  · intro x hx
    rcases List.mem_or_eq_of_mem_set hx with hx | rfl
    · exact h.1 x hx
    · exact ⟨(h.1 l[k] (List.getElem_mem hk)).1, hu⟩
  · rw [h.go, e0] at h1
    have h2 := go_pre _ _ _ _ _ h1
    rw [go_app _ _ _ _ _ h2] at h1
    unfold check
    rw [if_neg (by simp; omega), e, go_app _ _ _ _ _ h2]
    obtain ⟨g1, g2⟩ := go_head h1
    rw [go_cons _ _ _ _ _ _ g1, if_pos (by rw [← g2]; exact hy)]
    simp
    omega
/-- An entry more. -/
theorem Right.snoc {l : List Entry} (h : Right l) (x : Entry) (hx : okE x) (h99 : l.length < 100) (hs : (step (check l).1 l.isEmpty x).2 = 0) :
    Right (l ++ [{ x with sum := sumS (lastSum l) x }]) ∧ (check (l ++ [{ x with sum := sumS (lastSum l) x }])).1 = (step (check l).1 l.isEmpty x).1 := by
  have h1 := h.2.1
  have hlen : (l ++ [{ x with sum := sumS (lastSum l) x }]).length ≤ 100 := by simp; omega
  have hE : l.isEmpty = decide (0 + l.length = 0) := by cases l <;> simp
  have hg : check (l ++ [{ x with sum := sumS (lastSum l) x }]) = ((step (check l).1 l.isEmpty x).1, l.length + 1, 0) := by
    unfold check at *
    rw [if_neg (by omega)] at *
    rw [if_neg (by omega)] at *
    rw [go_app _ _ _ _ _ h1]
    rw [hE] at hs ⊢
    rw [go_cons _ _ _ _ _ _ hs]
    have : lastB 0 l = lastSum l := rfl
    rw [this, if_neg (by simp)]
    simp [checkGo]
  refine ⟨⟨fun y hy => ?_, by rw [hg], hlen⟩, by rw [hg]⟩
  rcases List.mem_append.1 hy with hy | hy
  · exact h.1 y hy
  · simp at hy
    subst hy
    exact ⟨hx, by have := hash_lt (bytesI (sumStr (lastSum l) x)); exact ⟨this.1, this.2⟩⟩
end Go.Ev.Tryd
