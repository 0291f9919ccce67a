/-
  PLAIN: the pieces between spaces (own work; no program in sight).
-/
import Derived.Test.YtmcakfjbefelgaaDoorAhG
import Derived.Lib.Bytealg
import Derived.Lib.IndexBytes
set_option linter.unusedSimpArgs false
set_option linter.unusedVariables false
namespace Go.Ev.Tryd.Hd
open Go Go.Ev Go.Proofs

def ofL (l : List UInt8) : ByteArray := ⟨l.toArray⟩
@[simp] theorem ofL_toList (l : List UInt8) : (ofL l).data.toList = l := by simp [ofL]
@[simp] theorem ofL_size (l : List UInt8) : (ofL l).size = l.length := by simp [ofL, ByteArray.size]
theorem ofL_data (s : ByteArray) : ofL s.data.toList = s := by simp [ofL]
theorem ext_toList {a b : ByteArray} (h : a.data.toList = b.data.toList) : a = b := by rw [← ofL_data a, ← ofL_data b, h]

def pieces : List UInt8 → List (List UInt8)
  | [] => [[]]
  | b :: l => if b = 32 then [] :: pieces l else match pieces l with
    | [] => [[b]]
    | p :: r => (b :: p) :: r
theorem pieces_ne (l : List UInt8) : pieces l ≠ [] := by
  cases l with
  | nil => simp [pieces]
  | cons b l => unfold pieces; split <;> (try split) <;> simp
theorem pieces_length (l : List UInt8) : (pieces l).length = Lib.countByte l 32 + 1 := by
  induction l with
  | nil => rfl
  | cons b l ih =>
    unfold pieces Lib.countByte
    rw [List.count_cons]
    by_cases h : b = 32
    · subst h
      simp [ih, Lib.countByte]
    · rw [if_neg h]
      have hb : (b == 32) = false := by simpa using h
      rw [hb]
      have hn := pieces_ne l
      unfold Lib.countByte at ih
      cases hp : pieces l with
      | nil => exact absurd hp hn
      | cons p r => rw [hp] at ih; simpa using ih
/-- The first space. -/
theorem pieces_step (l : List UInt8) : (Lib.indexByte l 32 = -1 ∧ pieces l = [l]) ∨ ∃ m : Nat, Lib.indexByte l 32 = m ∧ m < l.length ∧ pieces l = l.take m :: pieces (l.drop (m + 1)) := by
  induction l with
  | nil => exact .inl ⟨rfl, rfl⟩
  | cons b l ih =>
    have hp : pieces (b :: l) = if b = 32 then [] :: pieces l else match pieces l with
      | [] => [[b]]
      | p :: r => (b :: p) :: r := rfl
    unfold Lib.indexByte
    rw [hp]
    by_cases h : b = 32
    · subst h
      exact .inr ⟨0, rfl, by simp, by simp⟩
    · have hb : (b == 32) = false := by simpa using h
      rw [hb, if_neg h]
      rcases ih with ⟨h1, h2⟩ | ⟨m, h1, h2, h3⟩
      · left
        rw [h1, h2]
        exact ⟨rfl, rfl⟩
      · right
        refine ⟨m + 1, ?_, by simpa using h2, ?_⟩
        · rw [h1]
          have : ((m : Int) == -1) = false := by simp
          rw [this]
          simp
        · rw [h3]
          simp
def pcs (s : ByteArray) : List ByteArray := (pieces s.data.toList).map ofL
theorem pcs_length (s : ByteArray) : (pcs s).length = Lib.countByte s.data.toList 32 + 1 := by simp [pcs, pieces_length]
theorem pcs_step (s : ByteArray) : (Lib.indexByte s.data.toList 32 = -1 ∧ pcs s = [s]) ∨ ∃ m : Nat, Lib.indexByte s.data.toList 32 = m ∧ m < s.size ∧ pcs s = s.extract 0 m :: pcs (s.extract (m + 1) s.size) := by
  rcases pieces_step s.data.toList with ⟨h1, h2⟩ | ⟨m, h1, h2, h3⟩
  · exact .inl ⟨h1, by rw [pcs, h2]; simp [ofL_data]⟩
  · have hs : s.data.toList.length = s.size := rfl
    refine .inr ⟨m, h1, by omega, ?_⟩
    rw [pcs, h3]
    simp only [List.map_cons, List.cons.injEq]
    refine ⟨ext_toList ?_, ?_⟩
    · rw [ofL_toList]; simp [ByteArray.data_extract]
    · rw [pcs]
      congr 2
      simp [ByteArray.data_extract]
      rw [List.take_of_length_le]
      rw [List.length_drop]
      exact Nat.le_refl _
def words (s : ByteArray) : List ByteArray := (pcs s).filter (fun w => !decide (w = ByteArray.empty))
end Go.Ev.Tryd.Hd
