/-
  THE REDACT SEAT: what is made of raw numbers: spans, an image (own work).
-/
import Derived.Test.YtnalmdnfoicokaaRdA
set_option linter.unusedSimpArgs false
set_option linter.unusedVariables false
set_option maxRecDepth 100000
set_option maxHeartbeats 4000000
namespace Go.Ev.Try
open Go Go.Ev Go.Proofs

/-- Spans within a size. -/
def Within (size : Nat) (S : List Span) : Prop := ∀ s ∈ S, 0 ≤ s.off ∧ 0 ≤ s.len ∧ s.off + s.len ≤ size
def SpansPost (size most : Nat) (r : Option (V × Heap)) : Prop := ∃ S : List Span, r = some (ownV true 0 0 S.length 2, [ownB true S.length (flatE spanE S)]) ∧ S.length ≤ most ∧ Within size S

theorem spans_ok (l : List Int) (z : Bool) (size most : Nat) (hs : size ≤ 65536) (hm : most ≤ 100) (hm0 : 0 < most) {k : Nat} (hk : 200 < k) :
    SpansPost size most (evF Try.prog Γ (k + 1) 9 [roV z l.length (flatE (intE .i64) l), .int .i64 size, .int .i64 most] []) := by
  obtain ⟨k, rfl⟩ : ∃ j, k = j + 2 := ⟨k - 2, by omega⟩
  rw [b9 (fun _ _ => rfl) _ _ (by simp)]
  have c := fun l z n h1 h2 => next_ok l z n h1 h2 (k := k)
  have e1 : ¬ 100 < most := by omega
  have e2 : ¬ (100 : Int) < most := by omega
  have e3 : addI .i64 (most : Int) 1 = most + 1 := addI_i64 (by omega) (by omega)
  have e4 : addI .i64 (size : Int) 1 = size + 1 := addI_i64 (by omega) (by omega)
  have c0 := c l z (most + 1) (by omega) (by omega)
  have q0 := nextN_lt l (most + 1) (by omega)
  obtain ⟨N, hN⟩ : ∃ N : Nat, nextN l (most + 1) = N := ⟨(nextN l (most + 1)).toNat, by omega⟩
  rw [hN] at c0 q0
  simp -implicitDefEqProofs [e1, e2, hm0, e3, c0]
  generalize hx : evLoopC _ _ _ _ _ _ _ _ _ _ = R
  apply loop_gen hx (fun a : Nat × Bool × List Int × List Span => (mkL 39 .junk [(1, .int .i64 size), (7, .ptr 0 0), (8, ownV true 1 0 a.2.2.2.length 2), (18, .int .i64 N), (19, .int .i64 a.1)],
      [some (.cells [roV a.2.1 a.2.2.1.length (flatE (intE .i64) a.2.2.1)] true), ownB true a.2.2.2.length (flatE spanE a.2.2.2), none]))
    (fun a => a.1 ≤ N ∧ a.2.2.2.length = a.1 ∧ Within size a.2.2.2) (fun a => N - a.1) (0, (z && l.isEmpty), l.tail, [])
  case hI => simp [Within]
  case hq => simp only; omega
  case ht => simp -implicitDefEqProofs [liveOf, coldOf]
  case round =>
    rintro ⟨i, y, t, S⟩ ⟨hi, hS, hW⟩ _
    clear hx
    simp only at hi hS hW
    by_cases hlt : i < N
    · have hlt2 : (i : Int) < N := by omega
      have e5 : addI .i64 (i : Int) 1 = (i : Int) + 1 := addI_i64 (by omega) (by omega)
      have c1 := c t y (size + 1) (by omega) (by omega)
      have q1 := nextN_lt t (size + 1) (by omega)
      generalize nextN t (size + 1) = off at *
      have e6 : subI .i64 (size : Int) off = size - off := subI_i64 (by omega) (by omega)
      obtain ⟨M, hM, hM1, hM2⟩ : ∃ M : Int, (if (40 : Int) < size - off then 40 else size - off) = M ∧ 0 ≤ M ∧ M ≤ size - off := by split <;> exact ⟨_, rfl, by omega, by omega⟩
      have e7 : addI .i64 M 1 = M + 1 := addI_i64 (by omega) (by omega)
      have c2 := c t.tail (y && t.isEmpty) (M + 1) (by omega) (by omega)
      have q2 := nextN_lt t.tail (M + 1) (by omega)
      simp only [List.length_tail] at c2
      generalize nextN t.tail (M + 1) = len at *
      have hb : (i + 1) * 16 ≤ 140737488355328 := by omega
      have hW' : Within size (S ++ [⟨off, len⟩]) := fun s hs => by
        rcases List.mem_append.1 hs with h | h
        · exact hW s h
        · rw [List.mem_singleton.1 h]; exact ⟨by simp only; omega, by simp only; omega, by simp only; omega⟩
      cases i with
      | zero =>
        have hnil : S = [] := List.length_eq_zero_iff.1 hS
        subst hnil
        have hlt3 : (0 : Int) < N := by omega
        simp at e5
        simp -implicitDefEqProofs [hlt, hlt3, e4, e5, c1, e6, hM, e7, c2]
        refine rnd_next (1, (y && t.isEmpty && t.tail.isEmpty), t.tail.tail, [⟨off, len⟩]) ⟨hlt, rfl, hW'⟩ (by simp only; omega) ?_
        simp -implicitDefEqProofs [liveOf, coldOf, spanE_f]
      | succ i =>
        simp at hlt2
        simp at e5
        simp -implicitDefEqProofs [hlt, hlt2, e4, e5, c1, e6, hM, e7, c2, hS, hb]
        refine rnd_next (i + 1 + 1, (y && t.isEmpty && t.tail.isEmpty), t.tail.tail, S ++ [⟨off, len⟩]) ⟨hlt, by simp [hS], hW'⟩ (by simp only; omega) ?_
        simp -implicitDefEqProofs [liveOf, coldOf, spanE_f, hS]
    · have hi' : i = N := by omega
      subst hi'
      cases i with
      | zero =>
        have hnil : S = [] := List.length_eq_zero_iff.1 hS
        subst hnil
        simp -implicitDefEqProofs
        exact ⟨[], rfl, by simp, hW⟩
      | succ i =>
        simp -implicitDefEqProofs [hS]
        exact ⟨S, by simp [hS], by omega, hW⟩

/-! ### data -/
/-- A block made as a whole, none if there is nothing. -/
def exB (bs : List Int) : Option Blk := if bs = [] then none else some (.cells (flatE (intE .u8) bs) true)
def DataPost (r : Option (V × Heap)) : Prop := ∃ (bs l : List Int) (z : Bool), r = some (ownV true 2 0 bs.length 1, [some (.cells [roV z l.length (flatE (intE .i64) l)] true), none, exB bs]) ∧ bs.length ≤ 40

theorem data_ok (l : List Int) (z : Bool) {k : Nat} (hk : 200 < k) :
    DataPost (evF Try.prog Γ (k + 1) 57 [.ptr 0 0, .int .i64 40] [some (.cells [roV z l.length (flatE (intE .i64) l)] true)]) := by
  obtain ⟨k, rfl⟩ : ∃ j, k = j + 2 := ⟨k - 2, by omega⟩
  rw [b57 (fun _ _ => rfl) _ _ (by simp)]
  have c := fun l z n h1 h2 => next_ok l z n h1 h2 (k := k)
  have e1 : addI .i64 40 1 = 41 := addI_i64 (by omega) (by omega)
  have c0 := c l z 41 (by omega) (by omega)
  have q0 := nextN_lt l 41 (by omega)
  obtain ⟨N, hN⟩ : ∃ N : Nat, nextN l 41 = N := ⟨(nextN l 41).toNat, by omega⟩
  rw [hN] at c0 q0
  simp only [List.length_tail] at c0
  simp -implicitDefEqProofs [e1, c0]
  generalize hx : evLoopC _ _ _ _ _ _ _ _ _ _ = R
  apply loop_gen hx (fun a : Bool × List Int × List Int => (mkL 41 .junk [(0, .ptr 0 0), (5, ownV true 3 0 a.2.2.length 1), (6, .int .i64 N)],
      [some (.cells [roV a.1 a.2.1.length (flatE (intE .i64) a.2.1)] true), none, none, ownB true a.2.2.length (flatE (intE .u8) a.2.2)]))
    (fun a => a.2.2.length ≤ N + 9 ∧ (a.2.2 ≠ [] → 0 < N)) (fun a => N + 9 - a.2.2.length) ((z && l.isEmpty), l.tail, [])
  case hI => simp
  case hq => simp only [List.length_nil]; omega
  case ht => simp -implicitDefEqProofs [liveOf, coldOf]
  case round =>
    rintro ⟨y, t, O⟩ ⟨hO, hO1⟩ _
    clear hx
    simp only at hO hO1
    by_cases hlt : O.length < N
    · have hlt2 : (O.length : Int) < N := by omega
      have c1 := c t y 256 (by omega) (by omega)
      have c2 := c t.tail (y && t.isEmpty) 3 (by omega) (by omega)
      have q2 := nextN_lt t.tail 3 (by omega)
      simp only [List.length_tail] at c1 c2
      generalize nextN t 256 = x1 at *
      generalize nextN t.tail 3 = x2 at *
      by_cases hx2 : 0 < x2
      · have c3 := c t.tail.tail (y && t.isEmpty && t.tail.isEmpty) 5 (by omega) (by omega)
        have q3 := nextN_lt t.tail.tail 5 (by omega)
        have c4 := c t.tail.tail.tail (y && t.isEmpty && t.tail.isEmpty && t.tail.tail.isEmpty) 9 (by omega) (by omega)
        have q4 := nextN_lt t.tail.tail.tail 9 (by omega)
        simp only [List.length_tail] at c3 c4
        generalize nextN t.tail.tail 5 = x3 at *
        obtain ⟨C, hC⟩ : ∃ C : Nat, nextN t.tail.tail.tail 9 = C := ⟨(nextN t.tail.tail.tail 9).toNat, by omega⟩
        rw [hC] at c4 q4
        have e4 : addI .i64 1 (C : Int) = (C : Int) + 1 := by rw [addI_i64 (by omega) (by omega)]; omega
        have hx3 : x3.toNat < 5 := by omega
        cases hO0 : O.length with
        | zero =>
          have hnil : O = [] := List.length_eq_zero_iff.1 hO0
          subst hnil
          have hlt0 : (0 : Int) < N := by simpa using hlt2
          simp at hlt
          simp -implicitDefEqProofs [hlt, hlt0, c1, c2, c3, c4, hx2, e4, q3.1, hx3, convertV]
          generalize hx : evLoopC _ _ _ _ _ _ _ _ _ _ = R
          apply loop_gen hx (fun a : Nat × List Int => (mkL 41 .junk [(0, .ptr 0 0), (5, ownV true 3 0 a.2.length 1), (6, .int .i64 N), (7, .int .u8 (byteAt { data := #[97, 98, 99, 32, 0] } x3)), (29, .int .i64 ((C : Int) + 1)), (30, .int .i64 a.1)],
              [some (.cells [roV (y && t.isEmpty && t.tail.isEmpty && t.tail.tail.isEmpty && t.tail.tail.tail.isEmpty) (t.tail.tail.tail.tail).length (flatE (intE .i64) (t.tail.tail.tail.tail))] true), none, none, ownB true a.2.length (flatE (intE .u8) a.2)]))
            (fun a => a.1 ≤ C + 1 ∧ a.2.length = a.1) (fun a => C + 1 - a.1) (0, [])
          case hI => simp
          case hq => simp only; omega
          case ht => simp -implicitDefEqProofs [liveOf, coldOf]
          case round =>
            rintro ⟨j, Q⟩ ⟨hj, hQ⟩ _
            clear hx
            simp only at hj hQ
            have e5 : addI .i64 (j : Int) 1 = (j : Int) + 1 := addI_i64 (by omega) (by omega)
            cases hQ0 : Q.length with
            | zero =>
              have hnil : Q = [] := List.length_eq_zero_iff.1 hQ0
              subst hnil
              have hj0 : j = 0 := by omega
              subst hj0
              have hlt3 : (0 : Int) < (C : Int) + 1 := by omega
              simp at e5
              simp -implicitDefEqProofs [hlt3, e5]
              refine rnd_next (1, [byteAt { data := #[97, 98, 99, 32, 0] } x3]) ⟨by simp only; omega, rfl⟩ (by simp only; omega) (by simp -implicitDefEqProofs [liveOf, coldOf])
            | succ q =>
              by_cases hlj : j < C + 1
              · have hlj2 : (j : Int) < (C : Int) + 1 := by omega
                have hb : q + 1 + 1 ≤ 140737488355328 := by omega
                simp -implicitDefEqProofs [hlj, hlj2, e5, hQ0, hb]
                refine rnd_next (j + 1, Q ++ [byteAt { data := #[97, 98, 99, 32, 0] } x3]) ⟨hlj, by simp only [List.length_append, List.length_singleton]; omega⟩ (by simp only; omega) (by simp -implicitDefEqProofs [liveOf, coldOf, hQ0])
              · have hlj2 : ¬ (j : Int) < (C : Int) + 1 := by omega
                simp -implicitDefEqProofs [hlj, hlj2, hQ0]
                refine rnd_next (y && t.isEmpty && t.tail.isEmpty && t.tail.tail.isEmpty && t.tail.tail.tail.isEmpty, t.tail.tail.tail.tail, Q) (by simp only; omega) (by simp only; omega) (by simp -implicitDefEqProofs [liveOf, coldOf, hQ0])
        | succ o =>
          have hlt0 : (o : Int) + 1 < N := by omega
          simp -implicitDefEqProofs [hlt, hlt0, hO0, c1, c2, c3, c4, hx2, e4, q3.1, hx3, convertV]
          generalize hx : evLoopC _ _ _ _ _ _ _ _ _ _ = R
          apply loop_gen hx (fun a : Nat × List Int => (mkL 41 .junk [(0, .ptr 0 0), (5, ownV true 3 0 a.2.length 1), (6, .int .i64 N), (7, .int .u8 (byteAt { data := #[97, 98, 99, 32, 0] } x3)), (29, .int .i64 ((C : Int) + 1)), (30, .int .i64 a.1)],
              [some (.cells [roV (y && t.isEmpty && t.tail.isEmpty && t.tail.tail.isEmpty && t.tail.tail.tail.isEmpty) (t.tail.tail.tail.tail).length (flatE (intE .i64) (t.tail.tail.tail.tail))] true), none, none, ownB true a.2.length (flatE (intE .u8) a.2)]))
            (fun a => a.1 ≤ C + 1 ∧ a.2.length = O.length + a.1) (fun a => C + 1 - a.1) (0, O)
          case hI => simp
          case hq => simp only; omega
          case ht => simp -implicitDefEqProofs [liveOf, coldOf, hO0]
          case round =>
            rintro ⟨j, Q⟩ ⟨hj, hQ⟩ _
            clear hx
            simp only at hj hQ
            have e5 : addI .i64 (j : Int) 1 = (j : Int) + 1 := addI_i64 (by omega) (by omega)
            cases hQ0 : Q.length with
            | zero =>
              have hnil : Q = [] := List.length_eq_zero_iff.1 hQ0
              subst hnil
              have hj0 : j = 0 := by omega
              subst hj0
              have hlt3 : (0 : Int) < (C : Int) + 1 := by omega
              simp at e5
              simp -implicitDefEqProofs [hlt3, e5]
              refine rnd_next (1, [byteAt { data := #[97, 98, 99, 32, 0] } x3]) ⟨by simp only; omega, by simp at hQ; omega⟩ (by simp only; omega) (by simp -implicitDefEqProofs [liveOf, coldOf])
            | succ q =>
              by_cases hlj : j < C + 1
              · have hlj2 : (j : Int) < (C : Int) + 1 := by omega
                have hb : q + 1 + 1 ≤ 140737488355328 := by omega
                simp -implicitDefEqProofs [hlj, hlj2, e5, hQ0, hb]
                refine rnd_next (j + 1, Q ++ [byteAt { data := #[97, 98, 99, 32, 0] } x3]) ⟨hlj, by simp only [List.length_append, List.length_singleton]; omega⟩ (by simp only; omega) (by simp -implicitDefEqProofs [liveOf, coldOf, hQ0])
              · have hlj2 : ¬ (j : Int) < (C : Int) + 1 := by omega
                simp -implicitDefEqProofs [hlj, hlj2, hQ0]
                refine rnd_next (y && t.isEmpty && t.tail.isEmpty && t.tail.tail.isEmpty && t.tail.tail.tail.isEmpty, t.tail.tail.tail.tail, Q) ⟨by simp only; omega, fun _ => by omega⟩ (by simp only; omega) (by simp -implicitDefEqProofs [liveOf, coldOf, hQ0])
      · have c4 := c t.tail.tail (y && t.isEmpty && t.tail.isEmpty) 9 (by omega) (by omega)
        have q4 := nextN_lt t.tail.tail 9 (by omega)
        simp only [List.length_tail] at c4
        obtain ⟨C, hC⟩ : ∃ C : Nat, nextN t.tail.tail 9 = C := ⟨(nextN t.tail.tail 9).toNat, by omega⟩
        rw [hC] at c4 q4
        have e4 : addI .i64 1 (C : Int) = (C : Int) + 1 := by rw [addI_i64 (by omega) (by omega)]; omega
        cases hO0 : O.length with
        | zero =>
          have hnil : O = [] := List.length_eq_zero_iff.1 hO0
          subst hnil
          have hlt0 : (0 : Int) < N := by simpa using hlt2
          simp at hlt
          simp -implicitDefEqProofs [hlt, hlt0, c1, c2, c4, hx2, e4, convertV]
          generalize hx : evLoopC _ _ _ _ _ _ _ _ _ _ = R
          apply loop_gen hx (fun a : Nat × List Int => (mkL 41 .junk [(0, .ptr 0 0), (5, ownV true 3 0 a.2.length 1), (6, .int .i64 N), (7, .int .u8 (IntKind.u8.wrap x1)), (29, .int .i64 ((C : Int) + 1)), (30, .int .i64 a.1)],
              [some (.cells [roV (y && t.isEmpty && t.tail.isEmpty && t.tail.tail.isEmpty) (t.tail.tail.tail).length (flatE (intE .i64) (t.tail.tail.tail))] true), none, none, ownB true a.2.length (flatE (intE .u8) a.2)]))
            (fun a => a.1 ≤ C + 1 ∧ a.2.length = a.1) (fun a => C + 1 - a.1) (0, [])
          case hI => simp
          case hq => simp only; omega
          case ht => simp -implicitDefEqProofs [liveOf, coldOf]
          case round =>
            rintro ⟨j, Q⟩ ⟨hj, hQ⟩ _
            clear hx
            simp only at hj hQ
            have e5 : addI .i64 (j : Int) 1 = (j : Int) + 1 := addI_i64 (by omega) (by omega)
            cases hQ0 : Q.length with
            | zero =>
              have hnil : Q = [] := List.length_eq_zero_iff.1 hQ0
              subst hnil
              have hj0 : j = 0 := by omega
              subst hj0
              have hlt3 : (0 : Int) < (C : Int) + 1 := by omega
              simp at e5
              simp -implicitDefEqProofs [hlt3, e5]
              refine rnd_next (1, [IntKind.u8.wrap x1]) ⟨by simp only; omega, rfl⟩ (by simp only; omega) (by simp -implicitDefEqProofs [liveOf, coldOf])
            | succ q =>
              by_cases hlj : j < C + 1
              · have hlj2 : (j : Int) < (C : Int) + 1 := by omega
                have hb : q + 1 + 1 ≤ 140737488355328 := by omega
                simp -implicitDefEqProofs [hlj, hlj2, e5, hQ0, hb]
                refine rnd_next (j + 1, Q ++ [IntKind.u8.wrap x1]) ⟨hlj, by simp only [List.length_append, List.length_singleton]; omega⟩ (by simp only; omega) (by simp -implicitDefEqProofs [liveOf, coldOf, hQ0])
              · have hlj2 : ¬ (j : Int) < (C : Int) + 1 := by omega
                simp -implicitDefEqProofs [hlj, hlj2, hQ0]
                refine rnd_next (y && t.isEmpty && t.tail.isEmpty && t.tail.tail.isEmpty, t.tail.tail.tail, Q) (by simp only; omega) (by simp only; omega) (by simp -implicitDefEqProofs [liveOf, coldOf, hQ0])
        | succ o =>
          have hlt0 : (o : Int) + 1 < N := by omega
          simp -implicitDefEqProofs [hlt, hlt0, hO0, c1, c2, c4, hx2, e4, convertV]
          generalize hx : evLoopC _ _ _ _ _ _ _ _ _ _ = R
          apply loop_gen hx (fun a : Nat × List Int => (mkL 41 .junk [(0, .ptr 0 0), (5, ownV true 3 0 a.2.length 1), (6, .int .i64 N), (7, .int .u8 (IntKind.u8.wrap x1)), (29, .int .i64 ((C : Int) + 1)), (30, .int .i64 a.1)],
              [some (.cells [roV (y && t.isEmpty && t.tail.isEmpty && t.tail.tail.isEmpty) (t.tail.tail.tail).length (flatE (intE .i64) (t.tail.tail.tail))] true), none, none, ownB true a.2.length (flatE (intE .u8) a.2)]))
            (fun a => a.1 ≤ C + 1 ∧ a.2.length = O.length + a.1) (fun a => C + 1 - a.1) (0, O)
          case hI => simp
          case hq => simp only; omega
          case ht => simp -implicitDefEqProofs [liveOf, coldOf, hO0]
          case round =>
            rintro ⟨j, Q⟩ ⟨hj, hQ⟩ _
            clear hx
            simp only at hj hQ
            have e5 : addI .i64 (j : Int) 1 = (j : Int) + 1 := addI_i64 (by omega) (by omega)
            cases hQ0 : Q.length with
            | zero =>
              have hnil : Q = [] := List.length_eq_zero_iff.1 hQ0
              subst hnil
              have hj0 : j = 0 := by omega
              subst hj0
              have hlt3 : (0 : Int) < (C : Int) + 1 := by omega
              simp at e5
              simp -implicitDefEqProofs [hlt3, e5]
              refine rnd_next (1, [IntKind.u8.wrap x1]) ⟨by simp only; omega, by simp at hQ; omega⟩ (by simp only; omega) (by simp -implicitDefEqProofs [liveOf, coldOf])
            | succ q =>
              by_cases hlj : j < C + 1
              · have hlj2 : (j : Int) < (C : Int) + 1 := by omega
                have hb : q + 1 + 1 ≤ 140737488355328 := by omega
                simp -implicitDefEqProofs [hlj, hlj2, e5, hQ0, hb]
                refine rnd_next (j + 1, Q ++ [IntKind.u8.wrap x1]) ⟨hlj, by simp only [List.length_append, List.length_singleton]; omega⟩ (by simp only; omega) (by simp -implicitDefEqProofs [liveOf, coldOf, hQ0])
              · have hlj2 : ¬ (j : Int) < (C : Int) + 1 := by omega
                simp -implicitDefEqProofs [hlj, hlj2, hQ0]
                refine rnd_next (y && t.isEmpty && t.tail.isEmpty && t.tail.tail.isEmpty, t.tail.tail.tail, Q) ⟨by simp only; omega, fun _ => by omega⟩ (by simp only; omega) (by simp -implicitDefEqProofs [liveOf, coldOf, hQ0])
    · cases hO0 : O.length with
      | zero =>
        have hnil : O = [] := List.length_eq_zero_iff.1 hO0
        subst hnil
        have hN0 : N = 0 := by simpa using hlt
        subst hN0
        simp -implicitDefEqProofs
        exact ⟨[], t, y, rfl, by simp⟩
      | succ o =>
        have hpos : 0 < N := hO1 (fun h => by rw [h] at hO0; cases hO0)
        obtain ⟨N, rfl⟩ : ∃ M, N = M + 1 := ⟨N - 1, by omega⟩
        have hlt0 : ¬ (o : Int) + 1 < (N : Int) + 1 := by omega
        have hNo : (N : Int) + 1 ≤ (o : Int) + 1 := by omega
        have hNo2 : N + 1 ≤ o + 1 := by omega
        have hNo3 : N ≤ o := by omega
        have hnn : (0 : Int) ≤ (N : Int) + 1 := by omega
        have htn : ((N : Int) + 1).toNat = N + 1 := by omega
        have t1 : List.take (N + 1) (flatE (intE .u8) O) = flatE (intE .u8) (O.take (N + 1)) := take_flatE1 (intE .u8) rfl O (N + 1)
        have hl : (O.take (N + 1)).length = N + 1 := by simp; omega
        have hne : O.take (N + 1) ≠ [] := fun h => by rw [h] at hl; cases hl
        simp -implicitDefEqProofs [hlt, hlt0, hO0, hNo, hNo2, hNo3, hnn, htn, t1]
        exact ⟨O.take (N + 1), t, y, by rw [hl, exB, if_neg hne]; simp, by omega⟩
end Go.Ev.Try
