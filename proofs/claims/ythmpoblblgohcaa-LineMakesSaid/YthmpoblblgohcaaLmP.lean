/-
  THE LINE SEAT: what makes a timeline wrong; marks sorted, each once (own work, plain).
-/
import Derived.Test.YthmpoblblgohcaaLineD
import Derived.Test.YthmpoblblgohcaaEvK
set_option linter.unusedSimpArgs false
set_option linter.unusedVariables false
set_option maxRecDepth 100000
namespace Go.Ev.Try
open Go Go.Ev Go.Proofs

/-- What is wrong with a mark behind another one. -/
def faultStep (p : Option Mark) (m : Mark) : Int :=
  if m.low < -4294967295 ∨ 4294967295 < m.high ∨ m.high < m.low then 21 else match p with | none => 0 | some q => if less q m then 0 else 11
def faultGo : Option Mark → List Mark → Int
  | _, [] => 0
  | p, m :: l => if faultStep p m = 0 then faultGo (some m) l else faultStep p m
def faultM (l : List Mark) : Int := if 400 < l.length then 2 else faultGo none l
def prevM (l : List Mark) (i : Nat) : Option Mark := (l.take i).getLast?
@[simp] theorem prevM_zero (l : List Mark) : prevM l 0 = none := by simp [prevM]
theorem prevM_succ (l : List Mark) (i : Nat) (h : i < l.length) : prevM l (i + 1) = some l[i] := by
  rw [prevM, List.take_succ_eq_append_getElem h, List.getLast?_append]; rfl
theorem faultGo_at (l : List Mark) (i : Nat) (h : i < l.length) : faultGo (prevM l i) (l.drop i) = if faultStep (prevM l i) l[i] = 0 then faultGo (prevM l (i + 1)) (l.drop (i + 1)) else faultStep (prevM l i) l[i] := by
  rw [List.drop_eq_getElem_cons h, faultGo, prevM_succ l i h]
theorem faultM_small {l : List Mark} (h : l.length ≤ 400) : faultM l = faultGo none l := if_neg (by omega)
theorem faultM_large {l : List Mark} (h : 400 < l.length) : faultM l = 2 := if_pos h
theorem faultGo_zero : ∀ (l : List Mark) (p : Option Mark), faultGo p l = 0 → (∀ m ∈ l, -4294967295 ≤ m.low ∧ m.high ≤ 4294967295 ∧ m.low ≤ m.high) ∧ (∀ (i : Nat) (h : i + 1 < l.length), less l[i] l[i + 1] = true)
  | [], _, _ => ⟨fun m h => by simp at h, fun i h => by simp at h⟩
  | m :: l, p, h => by
    rw [faultGo] at h
    split at h
    · rename_i h0
      obtain ⟨a, b⟩ := faultGo_zero l (some m) h
      refine ⟨fun x hx => ?_, fun i hi => ?_⟩
      · rcases List.mem_cons.1 hx with rfl | hx
        · unfold faultStep at h0
          split at h0
          · simp at h0
          · rename_i hn; omega
        · exact a x hx
      · cases i with
        | zero =>
          cases l with
          | nil => simp at hi
          | cons y l =>
            rw [faultGo] at h
            split at h
            · rename_i h1
              unfold faultStep at h1
              split at h1
              · simp at h1
              · simp only at h1
                split at h1
                · assumption
                · simp at h1
            · rename_i h1; exact absurd h h1
        | succ i => exact b i (by simpa using hi)
    · rename_i h0; exact absurd h h0
theorem valid_of {l : List Mark} (h : faultM l = 0) : Valid l := by
  unfold faultM at h
  split at h
  · simp at h
  · obtain ⟨a, b⟩ := faultGo_zero l none h
    exact ⟨by omega, a, b⟩
/-! ### The order of marks -/
theorem ordM : Ord.SOrd less := ⟨less_irrefl, less_trans, less_total⟩
theorem dedup_ord (l : List Mark) : dedup l = Ord.dedup l := rfl
/-- The timeline of marks by insertion. -/
def lineM (l : List Mark) : List Mark := Ord.insF less l
theorem line_eq (l : List Mark) : dedup (isort l) = lineM l := by
  rw [dedup_ord]
  refine Ord.names_eq ordM l (isort l) ?_ fun x => (isort_perm l).mem_iff
  exact isort_sorted l
theorem lineM_len (l : List Mark) : (lineM l).length ≤ l.length := Ord.insF_len l
theorem lineM_snoc (l : List Mark) (x : Mark) : lineM (l ++ [x]) = Ord.insS less (lineM l) x := Ord.insF_snoc l x
theorem lineM_mem (l : List Mark) (x : Mark) : x ∈ lineM l ↔ x ∈ l := (Ord.insF_facts ordM l).2 x
theorem cmpI_vals (a b : Int) : cmpI a b = -1 ∨ cmpI a b = 0 ∨ cmpI a b = 1 := by
  unfold cmpI; split
  · exact .inl rfl
  · split
    · exact .inr (.inr rfl)
    · exact .inr (.inl rfl)
theorem or3_vals {x y z : Int} (hx : x = -1 ∨ x = 0 ∨ x = 1) (hy : y = -1 ∨ y = 0 ∨ y = 1) (hz : z = -1 ∨ z = 0 ∨ z = 1) : orI3 [x, y, z] = -1 ∨ orI3 [x, y, z] = 0 ∨ orI3 [x, y, z] = 1 := by
  rcases hx with rfl | rfl | rfl <;> rcases hy with rfl | rfl | rfl <;> rcases hz with rfl | rfl | rfl <;> decide
theorem or3_neg {x y z : Int} (hx : x = -1 ∨ x = 0 ∨ x = 1) (hy : y = -1 ∨ y = 0 ∨ y = 1) (hz : z = -1 ∨ z = 0 ∨ z = 1) : orI3 [-x, -y, -z] = -orI3 [x, y, z] := by
  rcases hx with rfl | rfl | rfl <;> rcases hy with rfl | rfl | rfl <;> rcases hz with rfl | rfl | rfl <;> decide
theorem or3_zero {x y z : Int} (hx : x = -1 ∨ x = 0 ∨ x = 1) (hy : y = -1 ∨ y = 0 ∨ y = 1) (hz : z = -1 ∨ z = 0 ∨ z = 1) : orI3 [x, y, z] = 0 ↔ x = 0 ∧ y = 0 ∧ z = 0 := by
  rcases hx with rfl | rfl | rfl <;> rcases hy with rfl | rfl | rfl <;> rcases hz with rfl | rfl | rfl <;> decide
theorem cmpM_vals (a b : Mark) : cmpM a b = -1 ∨ cmpM a b = 0 ∨ cmpM a b = 1 := or3_vals (cmpI_vals _ _) (cmpI_vals _ _) (cmpI_vals _ _)
theorem cmpM_neg (a b : Mark) : cmpM a b = -1 ↔ less a b = true := by
  rw [← cmpM_less, decide_eq_true_iff]
  rcases cmpM_vals a b with h | h | h <;> omega
theorem cmpI_flip (a b : Int) : cmpI a b = -cmpI b a := by
  unfold cmpI; split <;> split <;> omega
theorem cmpI_zero (a b : Int) : cmpI a b = 0 ↔ a = b := by
  unfold cmpI; split
  · constructor <;> intro <;> omega
  · split <;> constructor <;> intro <;> omega
theorem cmpM_flip (a b : Mark) : cmpM a b = -cmpM b a := by
  unfold cmpM
  rw [cmpI_flip a.low, cmpI_flip a.high, cmpI_flip a.id]
  exact or3_neg (cmpI_vals _ _) (cmpI_vals _ _) (cmpI_vals _ _)
theorem cmpM_zero (a b : Mark) : cmpM a b = 0 ↔ a = b := by
  unfold cmpM
  rw [or3_zero (cmpI_vals _ _) (cmpI_vals _ _) (cmpI_vals _ _), cmpI_zero, cmpI_zero, cmpI_zero]
  obtain ⟨a1, a2, a3⟩ := a
  obtain ⟨b1, b2, b3⟩ := b
  simp only [Mark.mk.injEq]
  constructor
  · rintro ⟨h1, h2, h3⟩; exact ⟨h3, h1, h2⟩
  · rintro ⟨h1, h2, h3⟩; exact ⟨h2, h3, h1⟩
end Go.Ev.Try
