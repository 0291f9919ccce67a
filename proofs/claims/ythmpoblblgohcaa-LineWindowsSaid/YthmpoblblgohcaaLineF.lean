/-
  THE LINE SEAT: IndexFunc, Tracks (own work).
-/
import Derived.Test.YthmpoblblgohcaaLineE
set_option linter.unusedSimpArgs false
set_option linter.unusedVariables false
set_option maxRecDepth 100000
set_option maxHeartbeats 4000000
namespace Go.Ev.Try
open Go Go.Ev Go.Proofs

/-- The first track that is free. -/
def free (E : List Int) (x : Int) : Option Nat := E.findIdx? (fun e => decide (e < x))
def freeI (E : List Int) (x : Int) : Int := match free E x with | some i => i | none => -1

theorem closure_ok (m : Mark) (x : Int) {k : Nat} :
    evF Try.prog Γ (k + 1) 36 [.int .i64 x, .ro [.int .i64 m.id, .int .i64 m.low, .int .i64 m.high]] [] = some (.bool (decide (x < m.low)), []) := by
  rw [b36 (fun _ _ => rfl) _ _ (by simp)]
  simp -implicitDefEqProofs

theorem index_ok (E : List Int) (m : Mark) (z : Bool) (hE : E.length ≤ 400) {k : Nat} (hk : 1000 < k) :
    evF Try.prog Γ (k + 1) 35 [roV z E.length (flatE (intE .i64) E), .fn (.func 36) [] [.ro [.int .i64 m.id, .int .i64 m.low, .int .i64 m.high]]] [] = some (.int .i64 (freeI E m.low), []) := by
  obtain ⟨k, rfl⟩ : ∃ j, k = j + 1 := ⟨k - 1, by omega⟩
  have c := fun x => closure_ok m x (k := k)
  rw [b35 (fun _ _ => rfl) _ _ (by simp)]
  simp -implicitDefEqProofs
  generalize hx : evLoopC _ _ _ _ _ _ _ _ _ _ = R
  apply loop_gen hx (fun i : Nat => (mkL 19 .junk [(0, roV z E.length (flatE (intE .i64) E)), (1, .fn (.func 36) [] [.ro [.int .i64 m.id, .int .i64 m.low, .int .i64 m.high]]), (7, .int .i64 E.length), (8, .int .i64 i)], [none, none]))
    (fun i => i ≤ E.length ∧ ∀ (j : Nat) (h : j < E.length), j < i → ¬ E[j] < m.low) (fun i => E.length - i) 0
  case hI => exact ⟨by omega, fun j _ h => by omega⟩
  case hq => omega
  case ht => simp -implicitDefEqProofs [liveOf]
  case round =>
    rintro i ⟨hi, hn⟩ _
    clear hx
    by_cases hlt : i < E.length
    · have e2 : addI .i64 (i : Int) 1 = (i : Int) + 1 := addI_i64 (by omega) (by omega)
      by_cases hp : E[i] < m.low
      · have hf : freeI E m.low = i := by
          have : free E m.low = some i := by
            rw [free, List.findIdx?_eq_some_iff_getElem]
            exact ⟨hlt, by simpa using hp, fun j hj => by simpa using hn j (by omega) hj⟩
          rw [freeI, this]
        simp -implicitDefEqProofs [hlt, e2, c, hp, hf]
      · simp -implicitDefEqProofs [hlt, e2, c, hp]
        refine rnd_next (i + 1) ⟨hlt, fun j h hj => ?_⟩ (by omega) (by simp -implicitDefEqProofs [liveOf])
        rcases Nat.lt_or_ge j i with h1 | h1
        · have := hn j h h1; omega
        · have : j = i := by omega
          subst this; omega
    · have hi' : i = E.length := by omega
      subst hi'
      have hf : freeI E m.low = -1 := by
        have : free E m.low = none := by
          rw [free, List.findIdx?_eq_none_iff]
          intro x hx
          obtain ⟨j, hj, rfl⟩ := List.mem_iff_getElem.1 hx
          simpa using hn j hj hj
        rw [freeI, this]
      simp -implicitDefEqProofs [hf]

theorem free_some {E : List Int} {x : Int} {i : Nat} (h : free E x = some i) : i < E.length := by
  rw [free, List.findIdx?_eq_some_iff_getElem] at h
  exact h.1

/-- One mark laid into a track: the tracks' numbers so far and the tracks' ends. -/
def lay (s : List Int × List Int) (m : Mark) : List Int × List Int :=
  match free s.2 m.low with
  | some i => (s.1 ++ [(i : Int)], s.2.set i m.high)
  | none => (s.1 ++ [(s.2.length : Int)], s.2 ++ [m.high])
def tracks (l : List Mark) : List Int × List Int := l.foldl lay ([], [])
theorem tracks_snoc (l : List Mark) (i : Nat) (h : i < l.length) : tracks (l.take (i + 1)) = lay (tracks (l.take i)) l[i] := by
  rw [List.take_succ_eq_append_getElem h, tracks, List.foldl_append]; rfl
theorem lay_length1 (s : List Int × List Int) (m : Mark) : (lay s m).1.length = s.1.length + 1 := by
  unfold lay; split <;> simp
theorem lay_length2 (s : List Int × List Int) (m : Mark) : (lay s m).2.length ≤ s.2.length + 1 := by
  unfold lay; split <;> simp
theorem foldl_lay1 (l : List Mark) : ∀ s, (l.foldl lay s).1.length = s.1.length + l.length := by
  induction l with
  | nil => intro s; rfl
  | cons m l ih => intro s; rw [List.foldl_cons, ih, lay_length1, List.length_cons]; omega
theorem foldl_lay2 (l : List Mark) : ∀ s, (l.foldl lay s).2.length ≤ s.2.length + l.length := by
  induction l with
  | nil => intro s; exact Nat.le_refl _
  | cons m l ih => intro s; have := ih (lay s m); have := lay_length2 s m; rw [List.foldl_cons, List.length_cons]; omega
theorem tracks_length1 (l : List Mark) : (tracks l).1.length = l.length := by rw [tracks, foldl_lay1]; simp
theorem tracks_length2 (l : List Mark) : (tracks l).2.length ≤ l.length := by have := foldl_lay2 l ([], []); rw [tracks]; simpa using this

theorem tracks_ok (l : List Mark) (z : Bool) (hV : Valid l) (h11 : l.length ≤ 100) {k : Nat} (hk : 3000 < k) :
    evF Try.prog Γ (k + 1) 10 [roV z l.length (flatE markE l)] [] = some (.tup [ownV true 0 0 l.length 1, .int .i64 0], [ownB true l.length (flatE (intE .i64) (tracks l).1)]) := by
  obtain ⟨k, rfl⟩ : ∃ j, k = j + 1 := ⟨k - 1, by omega⟩
  have c1 := check_good l z hV (k := k) (by omega)
  have c2 := fun E m z h => index_ok E m z h (k := k) (by omega)
  rw [b10 (fun _ _ => rfl) _ _ (by simp)]
  simp -implicitDefEqProofs [c1]
  generalize hx : evLoopC _ _ _ _ _ _ _ _ _ _ = R
  apply loop_gen hx (fun a : Nat × List Int × List Int => (mkL 42 .junk [(5, ownV true 0 0 a.2.1.length 1), (6, ownV true 1 0 a.2.2.length 1), (15, roV z l.length (flatE markE l)), (16, .int .i64 l.length), (17, .int .i64 a.1)],
      [ownB true a.2.1.length (flatE (intE .i64) a.2.1), ownB true a.2.2.length (flatE (intE .i64) a.2.2), none]))
    (fun a => a.1 ≤ l.length ∧ a.2.1 = (tracks (l.take a.1)).1 ∧ a.2.2 = (tracks (l.take a.1)).2) (fun a => l.length - a.1) (0, [], [])
  case hI => simp [tracks]
  case hq => simp only; omega
  case ht => simp -implicitDefEqProofs [liveOf]
  case round =>
    rintro ⟨i, O, E⟩ ⟨hi, hO, hE⟩ _
    clear hx
    simp only at hi hO hE
    have lO : O.length = (l.take i).length := by rw [hO, tracks_length1]
    have lE : E.length ≤ (l.take i).length := by rw [hE]; exact tracks_length2 _
    rw [List.length_take] at lO lE
    by_cases hlt : i < l.length
    · have e2 : addI .i64 (i : Int) 1 = (i : Int) + 1 := addI_i64 (by omega) (by omega)
      have lO' : O.length = i := by omega
      have lE' : E.length ≤ i := by omega
      have hs := tracks_snoc l i hlt
      have c := c2 E l[i] true (by omega)
      have hm := at_marks l i hlt
      generalize l[i] = x at *
      have hs' : lay (O, E) x = tracks (l.take (i + 1)) := by rw [hs, hO, hE]
      cases hfr : free E x.low with
      | some j =>
        have hj := free_some hfr
        rw [freeI, hfr] at c
        simp only at c
        obtain ⟨d, hd⟩ : ∃ d, E.length = d + 1 := ⟨E.length - 1, by omega⟩
        obtain ⟨e, he⟩ : ∃ e, O.length = e + 1 := ⟨O.length - 1, by omega⟩
        have t2 : List.take (d + 1) (flatE (intE .i64) E) = flatE (intE .i64) E := by rw [List.take_of_length_le]; simp [hd]
        have j1 : ¬ (j : Int) < 0 := by omega
        have hset := set_ints (k := .i64) (b := x.high) hj
        have j2 : (j : Int) < (d : Int) + 1 := by omega
        have j3 : j ≤ d := by omega
        have hb : (e + 1 + 1) * 8 ≤ 140737488355328 := by omega
        rw [hd] at c
        simp only [roV_succ] at c
        rw [lay, hfr] at hs'
        simp only at hs'
        simp -implicitDefEqProofs [hlt, e2, markE_f, hm, hd, he, t2, c, j1, j2, j3, hb, hj, hset]
        refine rnd_next (i + 1, O ++ [(j : Int)], E.set j x.high) ⟨hlt, by rw [← hs'], by rw [← hs']⟩ (by simp only; omega) (by simp -implicitDefEqProofs [liveOf, hd, he, j3])
      | none =>
        rw [freeI, hfr] at c
        simp only at c
        rw [lay, hfr] at hs'
        simp only at hs'
        have hb1 : (E.length + 1) * 8 ≤ 140737488355328 := by omega
        have hb2 : (O.length + 1) * 8 ≤ 140737488355328 := by omega
        cases hE0 : E.length with
        | zero =>
          have hnil : E = [] := List.length_eq_zero_iff.1 hE0
          subst hnil
          simp at c
          cases hO0 : O.length with
          | zero =>
            have hnil : O = [] := List.length_eq_zero_iff.1 hO0
            subst hnil
            simp -implicitDefEqProofs [hlt, e2, markE_f, hm, c]
            refine rnd_next (i + 1, [0], [x.high]) ⟨hlt, by rw [← hs']; rfl, by rw [← hs']; rfl⟩ (by simp only; omega) (by simp -implicitDefEqProofs [liveOf])
          | succ e =>
            rw [hO0] at hb2
            simp -implicitDefEqProofs [hlt, e2, markE_f, hm, c, hO0, hb2]
            refine rnd_next (i + 1, O ++ [0], [x.high]) ⟨hlt, by rw [← hs']; rfl, by rw [← hs']; rfl⟩ (by simp only; omega) (by simp -implicitDefEqProofs [liveOf, hO0])
        | succ d =>
          obtain ⟨e, he⟩ : ∃ e, O.length = e + 1 := ⟨O.length - 1, by omega⟩
          have t2 : List.take (d + 1) (flatE (intE .i64) E) = flatE (intE .i64) E := by rw [List.take_of_length_le]; simp [hE0]
          rw [hE0] at c hb1
          rw [he] at hb2
          simp only [roV_succ] at c
          have d1 : (0 : Int) ≤ (d : Int) + 1 := by omega
          have d2 : (d : Int) < (d : Int) + 1 := by omega
          have hdr : List.drop (d + 1 + 1) (flatE (intE .i64) E ++ [V.int .i64 0]) = [] := List.drop_eq_nil_of_le (by simp [hE0])
          simp -implicitDefEqProofs [hlt, e2, markE_f, hm, hE0, he, t2, c, hb1, hb2, d1, d2, hdr]
          refine rnd_next (i + 1, O ++ [(E.length : Int)], E ++ [x.high]) ⟨hlt, by rw [← hs'], by rw [← hs']⟩ (by simp only; omega) (by simp -implicitDefEqProofs [liveOf, hE0, he])
    · have hi' : i = l.length := by omega
      subst hi'
      rw [List.take_length] at hO
      have lO2 : O.length = l.length := by omega
      rw [← hO, ← lO2]
      cases hO0 : O.length with
      | zero => simp -implicitDefEqProofs [hO0, lO2 ▸ hO0]
      | succ e => simp -implicitDefEqProofs [hO0, lO2 ▸ hO0]
end Go.Ev.Try
