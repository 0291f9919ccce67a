/-
  THE REDACT SEAT: an image (own work).
-/
import Derived.Test.YtnalmdnfoicokaaRdF
set_option linter.unusedSimpArgs false
set_option linter.unusedVariables false
set_option maxRecDepth 100000
set_option maxHeartbeats 4000000
namespace Go.Ev.Try
open Go Go.Ev Go.Proofs

def zeros (n : Nat) : List Int := List.replicate n 0
theorem zerosV_bytes (n : Nat) : zerosV [V.int .u8 0] n = flatE (intE .u8) (zeros n) := by
  induction n with
  | zero => rfl
  | succ n ih => rw [zerosV, ih, show zeros (n + 1) = 0 :: zeros n from rfl, flatE_cons]; rfl
@[simp] theorem zeros_length (n : Nat) : (zeros n).length = n := by simp [zeros]

def ImgPost (r : Option (V × Heap)) : Prop := ∃ (bs l : List Int) (z : Bool) (m : Nat), r = some (.sl 2 0 bs.length 1, [some (.cells [roV z l.length (flatE (intE .i64) l)] true), none, some (.cells (flatE (intE .u8) bs) true)]) ∧ bs.length = 64 * m ∧ 1 ≤ m ∧ m ≤ 12

theorem img_ok (l : List Int) (z : Bool) {k : Nat} (hk : 1000 < k) :
    ImgPost (evF Try.prog Γ (k + 1) 36 [.ptr 0 0, .int .i64 12] [some (.cells [roV z l.length (flatE (intE .i64) l)] true)]) := by
  obtain ⟨k, rfl⟩ : ∃ j, k = j + 2 := ⟨k - 2, by omega⟩
  rw [b36 (fun _ _ => rfl) _ _ (by simp)]
  have c := fun l z n h1 h2 => next_ok l z n h1 h2 (k := k)
  have c0 := c l z 12 (by omega) (by omega)
  have q0 := nextN_lt l 12 (by omega)
  obtain ⟨N, hN⟩ : ∃ N : Nat, nextN l 12 = N := ⟨(nextN l 12).toNat, by omega⟩
  rw [hN] at c0 q0
  simp only [List.length_tail] at c0
  have e1 : addI .i64 1 (N : Int) = (N : Int) + 1 := by rw [addI_i64 (by omega) (by omega)]; omega
  have e2 : mulI .i64 ((N : Int) + 1) 64 = ((64 * (N + 1) : Nat) : Int) := by rw [mulI_i64 (by omega) (by omega)]; omega
  have h1 : 64 * (N + 1) ≤ 140737488355328 := by omega
  have hz := zerosV_bytes (64 * (N + 1))
  have hM1 : 64 * (N + 1) ≤ 768 := by omega
  have hM : ∃ m, 64 * (N + 1) = 64 * m ∧ 1 ≤ m ∧ m ≤ 12 := ⟨N + 1, rfl, by omega, by omega⟩
  generalize 64 * (N + 1) = M at *
  have h2 : (M : Int) ≤ 140737488355328 := by omega
  have h3 : (0 : Int) ≤ M := by omega
  simp -implicitDefEqProofs [c0, e1, e2, h1, h2, h3, hz]
  generalize hx : evLoopC _ _ _ _ _ _ _ _ _ _ = R
  apply loop_gen hx (fun a : Bool × List Int × List Int × Nat => (mkL 43 .junk [(0, .ptr 0 0), (5, .int .i64 M), (6, .sl 3 0 M 1), (7, .int .i64 a.2.2.2)],
      [some (.cells [roV a.1 a.2.1.length (flatE (intE .i64) a.2.1)] true), none, none, some (.cells (flatE (intE .u8) a.2.2.1) true)]))
    (fun a => a.2.2.1.length = M ∧ a.2.2.2 ≤ M + 71) (fun a => M + 71 - a.2.2.2) ((z && l.isEmpty), l.tail, zeros M, 0)
  case hI => simp
  case hq => simp only; omega
  case ht => simp -implicitDefEqProofs [liveOf, coldOf]
  case round =>
    rintro ⟨y, t, O, i⟩ ⟨hO, hi⟩ _
    clear hx
    simp only at hO hi
    by_cases hlt : i < M
    · cases t with
      | nil =>
        cases y with
        | true =>
          simp -implicitDefEqProofs [hlt, roV]
          exact ⟨O, [], true, _, by rw [hO, roV]; rfl, by rw [hO]; exact hM.choose_spec.1, hM.choose_spec.2⟩
        | false =>
          simp -implicitDefEqProofs [hlt, roV]
          exact ⟨O, [], false, _, by rw [hO, roV]; rfl, by rw [hO]; exact hM.choose_spec.1, hM.choose_spec.2⟩
      | cons t0 t =>
        obtain ⟨d, l2, y2, hd, hdl⟩ := data_ok (t0 :: t) y (k := k + 1) (by omega)
        have c2 := c l2 y2 30 (by omega) (by omega)
        have q2 := nextN_lt l2 30 (by omega)
        obtain ⟨C, hC⟩ : ∃ C : Nat, nextN l2 30 = C := ⟨(nextN l2 30).toNat, by omega⟩
        rw [hC] at c2 q2
        simp only [List.length_tail] at c2
        simp at hd
        have hpos : (0 : Int) < (t.length : Int) + 1 := by omega
        have hle : (i : Int) ≤ M := by omega
        have hle2 : i ≤ M := by omega
        have hle3 : i ≤ O.length := by omega
        cases hd0 : d.length with
        | zero =>
          have hnil : d = [] := List.length_eq_zero_iff.1 hd0
          subst hnil
          simp [exB] at hd
          have e5 : addI .i64 0 (C : Int) = (C : Int) := by rw [addI_i64 (by omega) (by omega)]; omega
          have e6 : addI .i64 (C : Int) 1 = (C : Int) + 1 := addI_i64 (by omega) (by omega)
          have e7 : addI .i64 (i : Int) ((C : Int) + 1) = ((i + (C + 1) : Nat) : Int) := by rw [addI_i64 (by omega) (by omega)]; omega
          simp -implicitDefEqProofs [hlt, hpos, hd, c2, hle, hle2, hle3, e5, e6, e7]
          refine rnd_next (y2 && l2.isEmpty, l2.tail, O, i + (C + 1)) ⟨hO, by simp only; omega⟩ (by simp only; omega) (by simp -implicitDefEqProofs [liveOf, coldOf])
        | succ e =>
          have hne : d ≠ [] := fun h => by rw [h] at hd0; cases hd0
          rw [hd0, exB, if_neg hne] at hd
          simp at hd
          have e5 : addI .i64 ((e : Int) + 1) (C : Int) = (e : Int) + 1 + C := by rw [addI_i64 (by omega) (by omega)]
          have e6 : addI .i64 ((e : Int) + 1 + C) 1 = (e : Int) + 1 + C + 1 := addI_i64 (by omega) (by omega)
          have e7 : addI .i64 (i : Int) ((e : Int) + 1 + C + 1) = ((i + (e + 1 + C + 1) : Nat) : Int) := by rw [addI_i64 (by omega) (by omega)]; omega
          have hm : i + min (e + 1) (M - i) ≤ O.length := by omega
          have w : List.take i (flatE (intE .u8) O) ++ (List.take (min (e + 1) (M - i)) (List.take (e + 1) (flatE (intE .u8) d)) ++ List.drop (i + min (e + 1) (M - i)) (flatE (intE .u8) O)) =
              flatE (intE .u8) (O.take i ++ ((d.take (e + 1)).take (min (e + 1) (M - i)) ++ O.drop (i + min (e + 1) (M - i)))) := by
            rw [flatE_append, flatE_append, take_flatE1 (intE .u8) rfl, take_flatE1 (intE .u8) rfl, take_flatE1 (intE .u8) rfl, drop_flatE1 (intE .u8) rfl]
          have hwl : (O.take i ++ ((d.take (e + 1)).take (min (e + 1) (M - i)) ++ O.drop (i + min (e + 1) (M - i)))).length = M := by simp; omega
          generalize O.take i ++ ((d.take (e + 1)).take (min (e + 1) (M - i)) ++ O.drop (i + min (e + 1) (M - i))) = O2 at *
          simp -implicitDefEqProofs [hlt, hpos, hd, c2, hle, hle2, hle3, hd0, hm, w, e5, e6, e7]
          refine rnd_next (y2 && l2.isEmpty, l2.tail, O2, i + (e + 1 + C + 1)) ⟨hwl, by simp only; omega⟩ (by simp only; omega) (by simp -implicitDefEqProofs [liveOf, coldOf])
    · have hlt2 : ¬ (i : Int) < M := by omega
      simp -implicitDefEqProofs [hlt, hlt2]
      exact ⟨O, t, y, _, by rw [hO], by rw [hO]; exact hM.choose_spec.1, hM.choose_spec.2⟩

/-- An image: its bytes, one to twelve blocks. -/
theorem image_ok (l : List Int) (z : Bool) {k : Nat} (hk : 2000 < k) :
    ∃ (bs : List Int) (m : Nat), bs.length = 64 * m ∧ 1 ≤ m ∧ m ≤ 12 ∧ evF Try.prog Γ (k + 1) 7 [roV z l.length (flatE (intE .i64) l)] [] = some (.sl 0 0 bs.length 1, [some (.cells (flatE (intE .u8) bs) true)]) := by
  obtain ⟨k, rfl⟩ : ∃ j, k = j + 1 := ⟨k - 1, by omega⟩
  obtain ⟨bs, l2, z2, m, h, h1, h2, h3⟩ := img_ok l z (k := k) (by omega)
  refine ⟨bs, m, h1, h2, h3, ?_⟩
  rw [b7 (fun _ _ => rfl) _ _ (by simp)]
  simp -implicitDefEqProofs [h]
end Go.Ev.Try
