/-
  THE LINE SEAT: chosen, Maybe, Surely (own work).
-/
import Derived.Test.YthmpoblblgohcaaLineH
import Derived.Test.YthmpoblblgohcaaLineC1
set_option linter.unusedSimpArgs false
set_option linter.unusedVariables false
set_option maxRecDepth 100000
set_option maxHeartbeats 4000000
namespace Go.Ev.Try
open Go Go.Ev Go.Proofs

def maybeP (to frm : Int) (m : Mark) : Bool := decide (m.low ≤ to) && decide (frm ≤ m.high) && decide (frm ≤ to)
def surelyP (frm to : Int) (m : Mark) : Bool := decide (frm ≤ m.low) && decide (m.high ≤ to)

theorem maybe1_ok (m : Mark) (u v : Int) {k : Nat} :
    evF Try.prog Γ (k + 1) 38 [.agg [.int .i64 m.id, .int .i64 m.low, .int .i64 m.high], .ro [.int .i64 u], .ro [.int .i64 v]] [] = some (.bool (maybeP u v m), []) := by
  rw [b38 (fun _ _ => rfl) _ _ (by simp)]
  by_cases h1 : m.low ≤ u
  · by_cases h2 : v ≤ m.high
    · by_cases h3 : v ≤ u
      · simp -implicitDefEqProofs [maybeP, h1, h2, h3]
      · simp -implicitDefEqProofs [maybeP, h1, h2, h3]
    · simp -implicitDefEqProofs [maybeP, h1, h2]
  · simp -implicitDefEqProofs [maybeP, h1]
theorem surely1_ok (m : Mark) (u v : Int) {k : Nat} :
    evF Try.prog Γ (k + 1) 39 [.agg [.int .i64 m.id, .int .i64 m.low, .int .i64 m.high], .ro [.int .i64 u], .ro [.int .i64 v]] [] = some (.bool (surelyP u v m), []) := by
  rw [b39 (fun _ _ => rfl) _ _ (by simp)]
  by_cases h1 : u ≤ m.low
  · by_cases h2 : m.high ≤ v
    · simp -implicitDefEqProofs [surelyP, h1, h2]
    · simp -implicitDefEqProofs [surelyP, h1, h2]
  · simp -implicitDefEqProofs [surelyP, h1]

theorem filter_snoc (p : Mark → Bool) (l : List Mark) (i : Nat) (h : i < l.length) : (l.take (i + 1)).filter p = (l.take i).filter p ++ (if p l[i] then [l[i]] else []) := by
  rw [List.take_succ_eq_append_getElem h, List.filter_append]
  cases hp : p l[i] <;> simp [hp]

theorem chosen_ok (g : Nat) (p : Mark → Bool) (u v : Int) (hg : g = 38 ∧ p = maybeP u v ∨ g = 39 ∧ p = surelyP u v) (l : List Mark) (z : Bool) (hV : Valid l) {k : Nat} (hk : 3000 < k) :
    evF Try.prog Γ (k + 1) 37 [roV z l.length (flatE markE l), .fn (.func g) [] [.ro [.int .i64 u], .ro [.int .i64 v]]] [] = some (.tup [ownV true 0 0 (l.filter p).length 3, .int .i64 0], [ownB true (l.filter p).length (flatE markE (l.filter p))]) := by
  obtain ⟨k, rfl⟩ : ∃ j, k = j + 1 := ⟨k - 1, by omega⟩
  have hl := hV.len
  have c1 := check_good l z hV (k := k) (by omega)
  have c2 : ∀ m, evF Try.prog Γ (k + 1) g [.agg [.int .i64 m.id, .int .i64 m.low, .int .i64 m.high], .ro [.int .i64 u], .ro [.int .i64 v]] [] = some (.bool (p m), []) := by
    rcases hg with ⟨rfl, rfl⟩ | ⟨rfl, rfl⟩
    · exact fun m => maybe1_ok m u v
    · exact fun m => surely1_ok m u v
  have hw : ([28, 33, 34, 43, 46, 47, 49, 51, 54, 56, 57, 58, 59, 60, 62, 63, 64, 65, 68, 69, 70, 71, 72, 74, 77, 78, 79, 81, 82].contains g) = false := by
    rcases hg with ⟨rfl, _⟩ | ⟨rfl, _⟩ <;> rfl
  have hw2 : Γ.plain g = true := by rw [Γ_plain, hw]; rfl
  clear hg
  rw [b37 (fun _ _ => rfl) _ _ (by simp)]
  simp -implicitDefEqProofs [c1]
  clear c1
  generalize hx : evLoopC _ _ _ _ _ _ _ _ _ _ = R
  apply loop_gen hx (fun a : Nat × List Mark => (mkL 30 .junk [(1, .fn (.func g) [] [.ro [.int .i64 u], .ro [.int .i64 v]]), (7, ownV true 2 0 a.2.length 3), (15, roV z l.length (flatE markE l)), (16, .int .i64 l.length), (17, .int .i64 a.1)],
      [none, none, ownB true a.2.length (flatE markE a.2), none]))
    (fun a => a.1 ≤ l.length ∧ a.2 = (l.take a.1).filter p) (fun a => l.length - a.1) (0, [])
  case hI => simp
  case hq => simp only; omega
  case ht => simp -implicitDefEqProofs [liveOf]
  case round =>
    rintro ⟨i, O⟩ ⟨hi, hO⟩ _
    clear hx
    simp only at hi hO
    have lO : O.length ≤ l.length := by
      rw [hO]
      have := List.length_filter_le p (l.take i)
      rw [List.length_take] at this
      omega
    by_cases hlt : i < l.length
    · have hlt2 : (i : Int) < l.length := by omega
      have e2 : addI .i64 (i : Int) 1 = (i : Int) + 1 := addI_i64 (by omega) (by omega)
      have hm := at_marks l i hlt
      have hs := filter_snoc p l i hlt
      rw [← hO] at hs
      generalize l[i] = x at *
      have c3 := c2 x
      cases hp : p x with
      | false =>
        rw [hp] at c3 hs
        simp -implicitDefEqProofs [hlt2, hm, markE_f, e2, c3, hw2, Γ_plain]
        refine rnd_next (i + 1, O) ⟨hlt, by simp only; rw [hs]; simp⟩ (by simp only; omega) ?_
        cases O <;> simp -implicitDefEqProofs [liveOf]
      | true =>
        rw [hp] at c3 hs
        cases hO0 : O.length with
        | zero =>
          have hnil : O = [] := List.length_eq_zero_iff.1 hO0
          subst hnil
          simp -implicitDefEqProofs [hlt2, hm, markE_f, e2, c3, hw2]
          refine rnd_next (i + 1, [x]) ⟨hlt, by simp only; rw [hs]; rfl⟩ (by simp only; omega) (by simp -implicitDefEqProofs [liveOf, markE_f])
        | succ c =>
          have hb : (c + 1 + 1) * 24 ≤ 140737488355328 := by omega
          simp -implicitDefEqProofs [hlt2, hm, markE_f, e2, c3, hw2, hO0, hb]
          refine rnd_next (i + 1, O ++ [x]) ⟨hlt, by simp only; rw [hs]; simp⟩ (by simp only; omega) (by simp -implicitDefEqProofs [liveOf, hO0, markE_f])
    · have hi' : i = l.length := by omega
      subst hi'
      rw [List.take_length] at hO
      rw [← hO]
      cases hO0 : O.length with
      | zero => simp -implicitDefEqProofs [hO0, List.length_eq_zero_iff.1 hO0]
      | succ c => simp -implicitDefEqProofs [hO0]

theorem maybe_ok (l : List Mark) (z : Bool) (frm to : Int) (hV : Valid l) {k : Nat} (hk : 3001 < k) :
    evF Try.prog Γ (k + 1) 14 [roV z l.length (flatE markE l), .int .i64 frm, .int .i64 to] [] = some (.tup [ownV true 0 0 (l.filter (maybeP to frm)).length 3, .int .i64 0], [ownB true (l.filter (maybeP to frm)).length (flatE markE (l.filter (maybeP to frm)))]) := by
  obtain ⟨k, rfl⟩ : ∃ j, k = j + 1 := ⟨k - 1, by omega⟩
  have c := chosen_ok 38 (maybeP to frm) to frm (.inl ⟨rfl, rfl⟩) l z hV (k := k) (by omega)
  rw [b14 (fun _ _ => rfl) _ _ (by simp)]
  generalize l.filter (maybeP to frm) = O at *
  cases hO : O.length with
  | zero =>
    have hnil : O = [] := List.length_eq_zero_iff.1 hO
    subst hnil
    simp at c
    simp -implicitDefEqProofs [c]
  | succ n =>
    rw [hO] at c
    simp only [ownV_succ, ownB_succ] at c
    simp -implicitDefEqProofs [c]
theorem surely_ok (l : List Mark) (z : Bool) (frm to : Int) (hV : Valid l) {k : Nat} (hk : 3001 < k) :
    evF Try.prog Γ (k + 1) 15 [roV z l.length (flatE markE l), .int .i64 frm, .int .i64 to] [] = some (.tup [ownV true 0 0 (l.filter (surelyP frm to)).length 3, .int .i64 0], [ownB true (l.filter (surelyP frm to)).length (flatE markE (l.filter (surelyP frm to)))]) := by
  obtain ⟨k, rfl⟩ : ∃ j, k = j + 1 := ⟨k - 1, by omega⟩
  have c := chosen_ok 39 (surelyP frm to) frm to (.inr ⟨rfl, rfl⟩) l z hV (k := k) (by omega)
  rw [b15 (fun _ _ => rfl) _ _ (by simp)]
  generalize l.filter (surelyP frm to) = O at *
  cases hO : O.length with
  | zero =>
    have hnil : O = [] := List.length_eq_zero_iff.1 hO
    subst hnil
    simp at c
    simp -implicitDefEqProofs [c]
  | succ n =>
    rw [hO] at c
    simp only [ownV_succ, ownB_succ] at c
    simp -implicitDefEqProofs [c]
end Go.Ev.Try
