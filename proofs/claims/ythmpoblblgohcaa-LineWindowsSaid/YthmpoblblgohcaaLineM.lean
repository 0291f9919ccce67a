/-
  THE LINE SEAT: IndexFunc, Index, ContainsFunc, Contains of marks (own work).
-/
import Derived.Test.YthmpoblblgohcaaLineL
import Derived.Test.YthmpoblblgohcaaLineC2
set_option linter.unusedSimpArgs false
set_option linter.unusedVariables false
set_option maxRecDepth 100000
set_option maxHeartbeats 4000000
namespace Go.Ev.Try
open Go Go.Ev Go.Proofs

def touchP (c x : Mark) : Bool := decide (c.low ≤ x.high) && decide (x.low ≤ c.high)
theorem touch_ok (c x : Mark) {k : Nat} :
    evF Try.prog Γ (k + 1) 29 [.agg [.int .i64 x.id, .int .i64 x.low, .int .i64 x.high], .ro [.int .i64 c.id, .int .i64 c.low, .int .i64 c.high]] [] = some (.bool (touchP c x), []) := by
  rw [b29 (fun _ _ => rfl) _ _ (by simp)]
  by_cases h1 : c.low ≤ x.high
  · by_cases h2 : x.low ≤ c.high
    · simp -implicitDefEqProofs [touchP, h1, h2]
    · simp -implicitDefEqProofs [touchP, h1, h2]
  · simp -implicitDefEqProofs [touchP, h1]

def findI (p : Mark → Bool) (l : List Mark) : Int := match l.findIdx? p with | some i => i | none => -1
theorem findI_nonneg (p : Mark → Bool) (l : List Mark) : decide (0 ≤ findI p l) = l.any p := by
  unfold findI
  cases h : l.findIdx? p with
  | some i =>
    rw [List.findIdx?_eq_some_iff_getElem] at h
    obtain ⟨hi, hp, _⟩ := h
    have : l.any p = true := List.any_eq_true.2 ⟨l[i], List.getElem_mem hi, hp⟩
    rw [this]; simp
  | none =>
    rw [List.findIdx?_eq_none_iff] at h
    have : l.any p = false := by rw [List.any_eq_false]; intro x hx; rw [h x hx]; simp
    rw [this]; rfl

theorem index40_ok (g : Nat) (cs : List V) (p : Mark → Bool) (hw : ([28, 33, 34, 43, 46, 47, 49, 51, 54, 56, 57, 58, 59, 60, 62, 63, 64, 65, 68, 69, 70, 71, 72, 74, 77, 78, 79, 81, 82].contains g) = false)
    (l : List Mark) (z : Bool) (hl : l.length ≤ 1000) {k : Nat} (hk : 1000 < k)
    (c2 : ∀ m : Mark, evF Try.prog Γ k g [.agg [.int .i64 m.id, .int .i64 m.low, .int .i64 m.high], .ro cs] [] = some (.bool (p m), [])) :
    evF Try.prog Γ (k + 1) 40 [roV z l.length (flatE markE l), .fn (.func g) [] [.ro cs]] [] = some (.int .i64 (findI p l), []) := by
  have hw2 : Γ.plain g = true := by rw [Γ_plain, hw]; rfl
  rw [b40 (fun _ _ => rfl) _ _ (by simp)]
  simp -implicitDefEqProofs
  generalize hx : evLoopC _ _ _ _ _ _ _ _ _ _ = R
  apply loop_gen hx (fun i : Nat => (mkL 19 .junk [(0, roV z l.length (flatE markE l)), (1, .fn (.func g) [] [.ro cs]), (7, .int .i64 l.length), (8, .int .i64 i)], [none, none]))
    (fun i => i ≤ l.length ∧ ∀ (j : Nat) (h : j < l.length), j < i → p l[j] = false) (fun i => l.length - i) 0
  case hI => exact ⟨by omega, fun j _ h => by omega⟩
  case hq => omega
  case ht => simp -implicitDefEqProofs [liveOf]
  case round =>
    rintro i ⟨hi, hn⟩ _
    clear hx
    by_cases hlt : i < l.length
    · have e2 : addI .i64 (i : Int) 1 = (i : Int) + 1 := addI_i64 (by omega) (by omega)
      have hm := at_marks l i hlt
      have c3 := c2 l[i]
      cases hp : p l[i] with
      | true =>
        have hf : findI p l = i := by
          have : l.findIdx? p = some i := by
            rw [List.findIdx?_eq_some_iff_getElem]
            exact ⟨hlt, hp, fun j hj => by rw [hn j (by omega) hj]; simp⟩
          rw [findI, this]
        rw [hp] at c3
        generalize l[i] = x at *
        simp -implicitDefEqProofs [hlt, hm, markE_f, e2, c3, hw2, hf]
      | false =>
        have hn2 : ∀ (j : Nat) (h : j < l.length), j < i + 1 → p l[j] = false := fun j h hj => by
          rcases Nat.lt_or_ge j i with h1 | h1
          · exact hn j h h1
          · have : j = i := by omega
            subst this; exact hp
        rw [hp] at c3
        generalize l[i] = x at *
        simp -implicitDefEqProofs [hlt, hm, markE_f, e2, c3, hw2]
        exact rnd_next (i + 1) ⟨hlt, hn2⟩ (by omega) (by simp -implicitDefEqProofs [liveOf])
    · have hi' : i = l.length := by omega
      subst hi'
      have hf : findI p l = -1 := by
        have : l.findIdx? p = none := by
          rw [List.findIdx?_eq_none_iff]
          intro x hx
          obtain ⟨j, hj, rfl⟩ := List.mem_iff_getElem.1 hx
          exact hn j hj hj
        rw [findI, this]
      simp -implicitDefEqProofs [hf]

theorem any_ok (g : Nat) (cs : List V) (p : Mark → Bool) (hw : ([28, 33, 34, 43, 46, 47, 49, 51, 54, 56, 57, 58, 59, 60, 62, 63, 64, 65, 68, 69, 70, 71, 72, 74, 77, 78, 79, 81, 82].contains g) = false)
    (l : List Mark) (z : Bool) (hl : l.length ≤ 1000) {k : Nat} (hk : 1000 < k)
    (c2 : ∀ m : Mark, evF Try.prog Γ k g [.agg [.int .i64 m.id, .int .i64 m.low, .int .i64 m.high], .ro cs] [] = some (.bool (p m), [])) :
    evF Try.prog Γ (k + 2) 18 [roV z l.length (flatE markE l), .fn (.func g) [] [.ro cs]] [] = some (.bool (l.any p), []) := by
  have c := index40_ok g cs p hw l z hl hk c2
  have hf := findI_nonneg p l
  rw [b18 (fun _ _ => rfl) _ _ (by simp)]
  simp -implicitDefEqProofs [c, hf]

theorem index41_ok (x : Mark) (l : List Mark) (z : Bool) (hl : l.length ≤ 1000) {k : Nat} (hk : 1000 < k) :
    evF Try.prog Γ (k + 1) 41 [roV z l.length (flatE markE l), .agg [.int .i64 x.id, .int .i64 x.low, .int .i64 x.high]] [] = some (.int .i64 (findI (fun m => decide (x = m)) l), []) := by
  rw [b41 (fun _ _ => rfl) _ _ (by simp)]
  simp -implicitDefEqProofs
  generalize hx : evLoopC _ _ _ _ _ _ _ _ _ _ = R
  apply loop_gen hx (fun i : Nat => (mkL 19 .junk [(0, roV z l.length (flatE markE l)), (3, .ptr 1 0), (7, .int .i64 l.length), (8, .int .i64 i)], [none, some (.cells [.int .i64 x.id, .int .i64 x.low, .int .i64 x.high] true)]))
    (fun i => i ≤ l.length ∧ ∀ (j : Nat) (h : j < l.length), j < i → ¬ x = l[j]) (fun i => l.length - i) 0
  case hI => exact ⟨by omega, fun j _ h => by omega⟩
  case hq => omega
  case ht => simp -implicitDefEqProofs [liveOf]
  case round =>
    rintro i ⟨hi, hn⟩ _
    clear hx
    by_cases hlt : i < l.length
    · have e2 : addI .i64 (i : Int) 1 = (i : Int) + 1 := addI_i64 (by omega) (by omega)
      have hm := at_marks l i hlt
      by_cases hp : x = l[i]
      · have hf : findI (fun m => decide (x = m)) l = i := by
          have : l.findIdx? (fun m => decide (x = m)) = some i := by
            rw [List.findIdx?_eq_some_iff_getElem]
            exact ⟨hlt, by simpa using hp, fun j hj => by simpa using hn j (by omega) hj⟩
          rw [findI, this]
        generalize l[i] = y at *
        simp -implicitDefEqProofs [hlt, hm, markE_f, e2, eq_mark, hp, hf]
        try rw [← hp, hf]
      · have hn2 : ∀ (j : Nat) (h : j < l.length), j < i + 1 → ¬ x = l[j] := fun j h hj => by
          rcases Nat.lt_or_ge j i with h1 | h1
          · exact hn j h h1
          · have : j = i := by omega
            subst this; exact hp
        generalize l[i] = y at *
        simp -implicitDefEqProofs [hlt, hm, markE_f, e2, eq_mark, hp]
        exact rnd_next (i + 1) ⟨hlt, hn2⟩ (by omega) (by simp -implicitDefEqProofs [liveOf])
    · have hi' : i = l.length := by omega
      subst hi'
      have hf : findI (fun m => decide (x = m)) l = -1 := by
        have : l.findIdx? (fun m => decide (x = m)) = none := by
          rw [List.findIdx?_eq_none_iff]
          intro y hy
          obtain ⟨j, hj, rfl⟩ := List.mem_iff_getElem.1 hy
          simpa using hn j hj hj
        rw [findI, this]
      simp -implicitDefEqProofs [hf]
theorem contains_ok (x : Mark) (l : List Mark) (z : Bool) (hl : l.length ≤ 1000) {k : Nat} (hk : 1001 < k) :
    evF Try.prog Γ (k + 1) 20 [roV z l.length (flatE markE l), .agg [.int .i64 x.id, .int .i64 x.low, .int .i64 x.high]] [] = some (.bool (decide (x ∈ l)), []) := by
  obtain ⟨k, rfl⟩ : ∃ j, k = j + 1 := ⟨k - 1, by omega⟩
  have c := index41_ok x l z hl (k := k) (by omega)
  have hf := findI_nonneg (fun m => decide (x = m)) l
  have hf2 : l.any (fun m => decide (x = m)) = decide (x ∈ l) := by
    rw [Bool.eq_iff_iff, List.any_eq_true]; simp
  rw [hf2] at hf
  rw [b20 (fun _ _ => rfl) _ _ (by simp)]
  simp -implicitDefEqProofs [c, hf]
end Go.Ev.Try
