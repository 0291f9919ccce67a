/-
  THE LINE SEAT: insertion sort (own work).
-/
import Derived.Test.YthmpoblblgohcaaLineA
set_option linter.unusedSimpArgs false
set_option linter.unusedVariables false
set_option maxRecDepth 100000
set_option maxHeartbeats 4000000
namespace Go.Ev.Try
open Go Go.Ev Go.Proofs

def less (a b : Mark) : Bool := decide (a.low < b.low ∨ (a.low = b.low ∧ (a.high < b.high ∨ (a.high = b.high ∧ a.id < b.id))))
theorem cmpM_less (a b : Mark) : decide (cmpM a b < 0) = less a b := by
  rw [Bool.eq_iff_iff]
  unfold cmpM cmpI less
  simp only [orI3, decide_eq_true_eq]
  by_cases h1 : a.low < b.low
  · simp [h1]
  · by_cases h2 : b.low < a.low
    · simp [h1, h2]; omega
    · have h3 : a.low = b.low := by omega
      by_cases h4 : a.high < b.high
      · simp [h3, h4]
      · by_cases h5 : b.high < a.high
        · simp [h3, h4, h5]; omega
        · have h6 : a.high = b.high := by omega
          by_cases h7 : a.id < b.id
          · simp [h3, h6, h7]
          · by_cases h8 : b.id < a.id
            · simp [h3, h6, h7, h8]
            · simp [h3, h6, h7, h8]
theorem less_iff {a b : Mark} : less a b = true ↔ a.low < b.low ∨ (a.low = b.low ∧ (a.high < b.high ∨ (a.high = b.high ∧ a.id < b.id))) := by unfold less; simp
theorem less_trans {a b c : Mark} (h : less a b = true) (k : less b c = true) : less a c = true := by
  rw [less_iff] at *; omega
theorem less_irrefl (a : Mark) : less a a = false := by
  rw [← Bool.not_eq_true, less_iff]; omega
theorem less_total {a b : Mark} (h : less a b = false) (k : less b a = false) : a = b := by
  rw [← Bool.not_eq_true, less_iff] at *
  obtain ⟨a1, a2, a3⟩ := a
  obtain ⟨b1, b2, b3⟩ := b
  simp only at *
  have e1 : a2 = b2 := by omega
  have e2 : a3 = b3 := by omega
  have e3 : a1 = b1 := by omega
  rw [e1, e2, e3]

/-- x laid into a sorted list: behind those that are not greater. -/
def ins (x : Mark) : List Mark → List Mark
  | [] => [x]
  | y :: S => if less x y then x :: y :: S else y :: ins x S
def Sorted (l : List Mark) : Prop := l.Pairwise fun a b => less b a = false
theorem ins_perm (x : Mark) (S : List Mark) : (ins x S).Perm (x :: S) := by
  induction S with
  | nil => exact List.Perm.refl _
  | cons y S ih =>
    unfold ins
    split
    · exact List.Perm.refl _
    · exact (ih.cons y).trans (List.Perm.swap x y S)
theorem ins_sorted (x : Mark) (S : List Mark) (h : Sorted S) : Sorted (ins x S) := by
  induction S with
  | nil => exact List.pairwise_singleton _ _
  | cons y S ih =>
    obtain ⟨h1, h2⟩ := List.pairwise_cons.1 h
    unfold ins
    split
    · rename_i hxy
      refine List.pairwise_cons.2 ⟨fun z hz => ?_, h⟩
      rcases List.mem_cons.1 hz with rfl | hz
      · cases hq : less z x with
        | false => rfl
        | true => have := less_trans hxy hq; rw [less_irrefl] at this; cases this
      · cases hq : less z x with
        | false => rfl
        | true =>
          have := less_trans hq hxy
          rw [h1 z hz] at this; cases this
    · rename_i hxy
      refine List.pairwise_cons.2 ⟨fun z hz => ?_, ih h2⟩
      have hz' := (ins_perm x S).mem_iff.1 hz
      rcases List.mem_cons.1 hz' with rfl | hz'
      · simpa using hxy
      · exact h1 z hz'
def isort (l : List Mark) : List Mark := l.foldl (fun S x => ins x S) []

theorem set_marks (L : List Mark) (j : Nat) (m : Mark) (h : j < L.length) :
    List.take (j * 3) (flatE markE L) ++ V.int .i64 m.id :: V.int .i64 m.low :: V.int .i64 m.high :: List.drop (j * 3 + 3) (flatE markE L) = flatE markE (L.set j m) := by
  rw [← set_flatE (n := 3) markE rfl L j m h, markE_f]
  simp

/-- The cells at a place, loaded. -/
theorem at_marks (L : List Mark) (j : Nat) (h : j < L.length) : List.take 3 (List.drop (j * 3) (flatE markE L)) = [.int .i64 L[j].id, .int .i64 L[j].low, .int .i64 L[j].high] := by
  rw [at_flatE (n := 3) markE rfl L j h, markE_f]

theorem isort_sorted (l : List Mark) : Sorted (isort l) := by
  have : ∀ (l S : List Mark), Sorted S → Sorted (l.foldl (fun S x => ins x S) S) := by
    intro l
    induction l with
    | nil => intro S h; exact h
    | cons x l ih => intro S h; exact ih _ (ins_sorted x S h)
  exact this l [] List.Pairwise.nil
theorem isort_perm (l : List Mark) : (isort l).Perm l := by
  have : ∀ (l S : List Mark), (l.foldl (fun S x => ins x S) S).Perm (S ++ l) := by
    intro l
    induction l with
    | nil => intro S; simp
    | cons x l ih =>
      intro S
      refine (ih _).trans ?_
      refine ((ins_perm x S).append_right l).trans ?_
      simp only [List.cons_append]
      exact List.perm_middle.symm
  have h := this l []
  rw [List.nil_append] at h
  exact h
theorem isort_length (l : List Mark) : (isort l).length = l.length := (isort_perm l).length_eq

/-! ### Go's sort, by the shelf's contract -/
theorem ltM (a b : Mark) : Go.Proofs.ltOf cmpM a b = less a b := cmpM_less a b
theorem swoM : Go.Sort.SWO (Go.Proofs.ltOf cmpM) where
  irrefl x := by rw [ltM]; exact less_irrefl x
  trans x y z h1 h2 := by rw [ltM] at *; exact less_trans h1 h2
  ntrans x y z h1 h2 := by
    rw [ltM] at *
    rw [← Bool.not_eq_true, less_iff] at *
    omega
theorem pdqL_marks (l : List Mark) : pdqL cmpM l = isort l := by
  refine pdqL_eq swoM (fun x y h1 h2 => ?_) (isort_perm l) ?_
  · rw [ltM] at h1 h2; exact less_total h1 h2
  · have := isort_sorted l
    exact this.imp fun h => by rw [ltM]; exact h
theorem markE_inj (a b : Mark) (h : markE.f a = markE.f b) : a = b := by
  cases a; cases b
  simp [markE_f] at h
  simp [h]
theorem sort33 (l : List Mark) (hl : l.length < 4611686018427387904) {ex : Bool} {k : Nat} :
    evF Try.prog Γ (k + 1) 33 [.sl 0 0 l.length 3, .fn (.func 25) [] []] [some (.cells (flatE markE l) ex)] = some (.tup [], [some (.cells (flatE markE (isort l)) ex)]) := by
  refine evF_orc ?_
  have ho : ∀ a H, Γ.orc 33 a H = sortOrc markE cmpM 25 a H := fun a H => rfl
  rw [ho]
  have := sortOrc_eq markE (by decide) markE_inj cmpM 25 (id := 0) (off := 0) (len := l.length) (sz := 3) (H := [some (.cells (flatE markE l) ex)]) (cs := flatE markE l) (ex := ex) (l := l) rfl rfl (by rw [List.take_of_length_le]; rfl; simp) rfl hl (by simp)
  rw [pdqL_marks] at this
  rcases this with h | h
  · rw [h]
    simp [isort_length]
  · rw [isort_length] at h; exact absurd rfl h
end Go.Ev.Try
