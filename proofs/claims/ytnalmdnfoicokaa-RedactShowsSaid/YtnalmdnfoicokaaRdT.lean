/-
  THE REDACT SEAT: slices.Concat of two lists of spans (own work, printed by wip/tools/gen_cat.py).
-/
import Derived.Test.YtnalmdnfoicokaaRdE
import Derived.Test.YtnalmdnfoicokaaRdC3
set_option linter.unusedSimpArgs false
set_option linter.unusedVariables false
set_option maxRecDepth 100000
set_option maxHeartbeats 8000000
namespace Go.Ev.Try
open Go Go.Ev Go.Proofs

def zspans (n : Nat) : List Span := List.replicate n ⟨0, 0⟩
@[simp] theorem zspans_length (n : Nat) : (zspans n).length = n := by simp [zspans]
theorem zerosV_spans (n : Nat) : zerosV [V.int .i64 0, V.int .i64 0] n = flatE spanE (zspans n) := by
  induction n with
  | zero => rfl
  | succ n ih => rw [zerosV, ih, show zspans (n + 1) = ⟨0, 0⟩ :: zspans n from rfl, flatE_cons]; rfl
theorem zspans_drop (n i : Nat) : (zspans n).drop i = zspans (n - i) := by simp [zspans]
theorem grow51 (t : Nat) (h0 : 0 < t) (h : t ≤ 1000000) {k : Nat} : evF Try.prog Γ (k + 1) 51 [.nils, .int .i64 t] [] = some (.sl 0 0 0 2, [some (.cells (flatE spanE (zspans t)) false)]) := by
  have e1 : subI .i64 0 0 = 0 := subI_i64 (by omega) (by omega)
  have e2 : subI .i64 (t : Int) 0 = t := by rw [subI_i64 (by omega) (by omega)]; omega
  have h1 : ¬ (t : Int) < 0 := by omega
  have h2 : (0 : Int) < t := by omega
  have h3 : ¬ 140737488355328 < t * 16 := by omega
  have h4 : ¬ t = 0 := by omega
  rw [b51 (fun _ _ => rfl) _ _ (by simp)]
  simp -implicitDefEqProofs [e1, e2, h1, h2, h0, h3, h4, zerosV_spans]
theorem grow51_0 {k : Nat} : evF Try.prog Γ (k + 1) 51 [.nils, .int .i64 0] [] = some (.nils, [none]) := by
  have e1 : subI .i64 0 0 = 0 := subI_i64 (by omega) (by omega)
  rw [b51 (fun _ _ => rfl) _ _ (by simp)]
  simp -implicitDefEqProofs [e1]

theorem cat_nn (za zb : Bool) {k : Nat} (hk : 20 < k) : evF Try.prog Γ (k + 1) 25 [.ros 2 [roV za 0 (flatE spanE []), roV zb 0 (flatE spanE [])]] [] = some (.nils, [none]) := by
  obtain ⟨k, rfl⟩ : ∃ j, k = j + 1 := ⟨k - 1, by omega⟩
  have cg := grow51_0 (k := k)
  rw [b25 (fun _ _ => rfl) _ _ (by simp)]
  simp -implicitDefEqProofs
  generalize hx : evLoopC _ _ _ _ _ _ _ _ _ _ = R
  apply loop_gen hx (fun i : Nat => (mkL 36 .junk [(0, .ros 2 [roV za 0 [], roV zb 0 []]), (3, .int .i64 (match i with | 0 => 0 | 1 => 0 | _ => 0)), (9, .ros 2 [roV za 0 [], roV zb 0 []]), (10, .int .i64 2), (11, .int .i64 i)], [none, none])) (fun i => i ≤ 2) (fun i => 2 - i) 0
  case hI => simp
  case hq => omega
  case ht => simp -implicitDefEqProofs [liveOf, coldOf]
  case round =>
    rintro i hi _
    clear hx
    rcases (by omega : i = 0 ∨ i = 1 ∨ i = 2) with rfl | rfl | rfl
    · have e1 : addI .i64 0 (0 : Int) = 0 := by rw [addI_i64 (by omega) (by omega)]; omega
      have e2 : addI .i64 0 1 = 1 := addI_i64 (by omega) (by omega)
      have e3 : ¬ ((0 : Int) < 0) := by omega
      simp -implicitDefEqProofs [e1, e2, e3]
      exact rnd_next 1 (by omega) (by omega) (by simp -implicitDefEqProofs [liveOf, coldOf])
    · have e1 : addI .i64 0 (0 : Int) = 0 := by rw [addI_i64 (by omega) (by omega)]; omega
      have e2 : addI .i64 1 1 = 2 := addI_i64 (by omega) (by omega)
      have e3 : ¬ ((0 : Int) < 0) := by omega
      simp -implicitDefEqProofs [e1, e2, e3]
      exact rnd_next 2 (by omega) (by omega) (by simp -implicitDefEqProofs [liveOf, coldOf])
    · simp -implicitDefEqProofs [cg]
      generalize hx : evLoopC _ _ _ _ _ _ _ _ _ _ = R
      apply loop_gen hx (fun i : Nat => (mkL 36 .junk [(6, .nils), (25, .ros 2 [roV za 0 [], roV zb 0 []]), (26, .int .i64 2), (27, .int .i64 i)], [none, none])) (fun i => i ≤ 2) (fun i => 2 - i) 0
      case hI => simp
      case hq => omega
      case ht => simp -implicitDefEqProofs [liveOf, coldOf]
      case round =>
        rintro i hi _
        clear hx
        rcases (by omega : i = 0 ∨ i = 1 ∨ i = 2) with rfl | rfl | rfl
        · have e2 : addI .i64 0 1 = 1 := addI_i64 (by omega) (by omega)
          simp -implicitDefEqProofs [e2, appendS, writeCells]
          exact rnd_next 1 (by omega) (by omega) (by simp -implicitDefEqProofs [liveOf, coldOf])
        · have e2 : addI .i64 1 1 = 2 := addI_i64 (by omega) (by omega)
          simp -implicitDefEqProofs [e2, appendS, writeCells]
          exact rnd_next 2 (by omega) (by omega) (by simp -implicitDefEqProofs [liveOf, coldOf])
        · simp -implicitDefEqProofs

theorem cat_an (a : List Span) (ha : 0 < a.length) (hal : a.length ≤ 100000) (za zb : Bool) {k : Nat} (hk : 20 < k) : evF Try.prog Γ (k + 1) 25 [.ros 2 [roV za a.length (flatE spanE a), roV zb 0 (flatE spanE [])]] [] = some (.sl 0 0 (a.length) 2, [some (.cells (flatE spanE (a)) false)]) := by
  obtain ⟨k, rfl⟩ : ∃ j, k = j + 1 := ⟨k - 1, by omega⟩
  have cg := grow51 (a.length) (by omega) (by omega) (k := k)
  try simp only [Int.natCast_add] at cg
  have hra : ∀ z cs, roV z a.length cs = .ros a.length cs := fun z cs => roV_pos ha
  rw [b25 (fun _ _ => rfl) _ _ (by simp)]
  simp -implicitDefEqProofs [hra]
  generalize hx : evLoopC _ _ _ _ _ _ _ _ _ _ = R
  apply loop_gen hx (fun i : Nat => (mkL 36 .junk [(0, .ros 2 [.ros a.length (flatE spanE a), roV zb 0 []]), (3, .int .i64 (match i with | 0 => 0 | 1 => (a.length : Int) | _ => (a.length : Int))), (9, .ros 2 [.ros a.length (flatE spanE a), roV zb 0 []]), (10, .int .i64 2), (11, .int .i64 i)], [none, none])) (fun i => i ≤ 2) (fun i => 2 - i) 0
  case hI => simp
  case hq => omega
  case ht => simp -implicitDefEqProofs [liveOf, coldOf, hra]
  case round =>
    rintro i hi _
    clear hx
    rcases (by omega : i = 0 ∨ i = 1 ∨ i = 2) with rfl | rfl | rfl
    · have e1 : addI .i64 0 (a.length : Int) = a.length := by rw [addI_i64 (by omega) (by omega)]; omega
      have e2 : addI .i64 0 1 = 1 := addI_i64 (by omega) (by omega)
      have e3 : ¬ ((a.length : Int) < 0) := by omega
      simp -implicitDefEqProofs [e1, e2, e3, hra]
      exact rnd_next 1 (by omega) (by omega) (by simp -implicitDefEqProofs [liveOf, coldOf, hra])
    · have e1 : addI .i64 (a.length : Int) (0 : Int) = (a.length : Int) := by rw [addI_i64 (by omega) (by omega)]; omega
      have e2 : addI .i64 1 1 = 2 := addI_i64 (by omega) (by omega)
      have e3 : ¬ ((a.length : Int) < 0) := by omega
      simp -implicitDefEqProofs [e1, e2, e3, hra]
      exact rnd_next 2 (by omega) (by omega) (by simp -implicitDefEqProofs [liveOf, coldOf, hra])
    · simp -implicitDefEqProofs [cg, hra]
      generalize hx : evLoopC _ _ _ _ _ _ _ _ _ _ = R
      apply loop_gen hx (fun i : Nat => (mkL 36 .junk [(6, .sl 0 0 (match i with | 0 => 0 | 1 => a.length | _ => a.length) 2), (25, .ros 2 [.ros a.length (flatE spanE a), roV zb 0 []]), (26, .int .i64 2), (27, .int .i64 i)], [some (.cells (flatE spanE (match i with | 0 => zspans (a.length) | 1 => a | _ => a)) false), none])) (fun i => i ≤ 2) (fun i => 2 - i) 0
      case hI => simp
      case hq => omega
      case ht => simp -implicitDefEqProofs [liveOf, coldOf, hra]
      case round =>
        rintro i hi _
        clear hx
        have ta : List.take (a.length * 2) (flatE spanE a) = flatE spanE a := by rw [List.take_of_length_le]; simp
        have na : ¬ a.length = 0 := by omega
        have ma : ¬ a = [] := fun h => by rw [h] at ha; simp at ha
        rcases (by omega : i = 0 ∨ i = 1 ∨ i = 2) with rfl | rfl | rfl
        · have e2 : addI .i64 0 1 = 1 := addI_i64 (by omega) (by omega)
          have d1 : List.drop (a.length * 2) (flatE spanE (zspans a.length)) = [] := by rw [List.drop_of_length_le]; simp
          simp -implicitDefEqProofs [e2, appendS, writeCells, hra, ta, na, ma, d1]
          exact rnd_next 1 (by omega) (by omega) (by simp -implicitDefEqProofs [liveOf, coldOf, hra])
        · have e2 : addI .i64 1 1 = 2 := addI_i64 (by omega) (by omega)
          simp -implicitDefEqProofs [e2, appendS, writeCells, hra, ta, na, ma]
          exact rnd_next 2 (by omega) (by omega) (by simp -implicitDefEqProofs [liveOf, coldOf, hra])
        · simp -implicitDefEqProofs [hra]

theorem cat_nb (b : List Span) (hb : 0 < b.length) (hbl : b.length ≤ 100000) (za zb : Bool) {k : Nat} (hk : 20 < k) : evF Try.prog Γ (k + 1) 25 [.ros 2 [roV za 0 (flatE spanE []), roV zb b.length (flatE spanE b)]] [] = some (.sl 0 0 (b.length) 2, [some (.cells (flatE spanE (b)) false)]) := by
  obtain ⟨k, rfl⟩ : ∃ j, k = j + 1 := ⟨k - 1, by omega⟩
  have cg := grow51 (b.length) (by omega) (by omega) (k := k)
  try simp only [Int.natCast_add] at cg
  have hrb : ∀ z cs, roV z b.length cs = .ros b.length cs := fun z cs => roV_pos hb
  rw [b25 (fun _ _ => rfl) _ _ (by simp)]
  simp -implicitDefEqProofs [hrb]
  generalize hx : evLoopC _ _ _ _ _ _ _ _ _ _ = R
  apply loop_gen hx (fun i : Nat => (mkL 36 .junk [(0, .ros 2 [roV za 0 [], .ros b.length (flatE spanE b)]), (3, .int .i64 (match i with | 0 => 0 | 1 => 0 | _ => (b.length : Int))), (9, .ros 2 [roV za 0 [], .ros b.length (flatE spanE b)]), (10, .int .i64 2), (11, .int .i64 i)], [none, none])) (fun i => i ≤ 2) (fun i => 2 - i) 0
  case hI => simp
  case hq => omega
  case ht => simp -implicitDefEqProofs [liveOf, coldOf, hrb]
  case round =>
    rintro i hi _
    clear hx
    rcases (by omega : i = 0 ∨ i = 1 ∨ i = 2) with rfl | rfl | rfl
    · have e1 : addI .i64 0 (0 : Int) = 0 := by rw [addI_i64 (by omega) (by omega)]; omega
      have e2 : addI .i64 0 1 = 1 := addI_i64 (by omega) (by omega)
      have e3 : ¬ ((0 : Int) < 0) := by omega
      simp -implicitDefEqProofs [e1, e2, e3, hrb]
      exact rnd_next 1 (by omega) (by omega) (by simp -implicitDefEqProofs [liveOf, coldOf, hrb])
    · have e1 : addI .i64 0 (b.length : Int) = (b.length : Int) := by rw [addI_i64 (by omega) (by omega)]; omega
      have e2 : addI .i64 1 1 = 2 := addI_i64 (by omega) (by omega)
      have e3 : ¬ ((b.length : Int) < 0) := by omega
      simp -implicitDefEqProofs [e1, e2, e3, hrb]
      exact rnd_next 2 (by omega) (by omega) (by simp -implicitDefEqProofs [liveOf, coldOf, hrb])
    · simp -implicitDefEqProofs [cg, hrb]
      generalize hx : evLoopC _ _ _ _ _ _ _ _ _ _ = R
      apply loop_gen hx (fun i : Nat => (mkL 36 .junk [(6, .sl 0 0 (match i with | 0 => 0 | 1 => 0 | _ => b.length) 2), (25, .ros 2 [roV za 0 [], .ros b.length (flatE spanE b)]), (26, .int .i64 2), (27, .int .i64 i)], [some (.cells (flatE spanE (match i with | 0 => zspans (b.length) | 1 => zspans (b.length) | _ => b)) false), none])) (fun i => i ≤ 2) (fun i => 2 - i) 0
      case hI => simp
      case hq => omega
      case ht => simp -implicitDefEqProofs [liveOf, coldOf, hrb]
      case round =>
        rintro i hi _
        clear hx
        have tb : List.take (b.length * 2) (flatE spanE b) = flatE spanE b := by rw [List.take_of_length_le]; simp
        have nb : ¬ b.length = 0 := by omega
        have mb : ¬ b = [] := fun h => by rw [h] at hb; simp at hb
        rcases (by omega : i = 0 ∨ i = 1 ∨ i = 2) with rfl | rfl | rfl
        · have e2 : addI .i64 0 1 = 1 := addI_i64 (by omega) (by omega)
          simp -implicitDefEqProofs [e2, appendS, writeCells, hrb, tb, nb, mb]
          exact rnd_next 1 (by omega) (by omega) (by simp -implicitDefEqProofs [liveOf, coldOf, hrb])
        · have e2 : addI .i64 1 1 = 2 := addI_i64 (by omega) (by omega)
          have d1 : List.drop (b.length * 2) (flatE spanE (zspans b.length)) = [] := by rw [List.drop_of_length_le]; simp
          simp -implicitDefEqProofs [e2, appendS, writeCells, hrb, tb, nb, mb, d1]
          exact rnd_next 2 (by omega) (by omega) (by simp -implicitDefEqProofs [liveOf, coldOf, hrb])
        · simp -implicitDefEqProofs [hrb]

theorem cat_ab (a : List Span) (ha : 0 < a.length) (hal : a.length ≤ 100000) (b : List Span) (hb : 0 < b.length) (hbl : b.length ≤ 100000) (za zb : Bool) {k : Nat} (hk : 20 < k) : evF Try.prog Γ (k + 1) 25 [.ros 2 [roV za a.length (flatE spanE a), roV zb b.length (flatE spanE b)]] [] = some (.sl 0 0 (a.length + b.length) 2, [some (.cells (flatE spanE (a ++ b)) false)]) := by
  obtain ⟨k, rfl⟩ : ∃ j, k = j + 1 := ⟨k - 1, by omega⟩
  have cg := grow51 (a.length + b.length) (by omega) (by omega) (k := k)
  try simp only [Int.natCast_add] at cg
  have hra : ∀ z cs, roV z a.length cs = .ros a.length cs := fun z cs => roV_pos ha
  have hrb : ∀ z cs, roV z b.length cs = .ros b.length cs := fun z cs => roV_pos hb
  rw [b25 (fun _ _ => rfl) _ _ (by simp)]
  simp -implicitDefEqProofs [hra, hrb]
  generalize hx : evLoopC _ _ _ _ _ _ _ _ _ _ = R
  apply loop_gen hx (fun i : Nat => (mkL 36 .junk [(0, .ros 2 [.ros a.length (flatE spanE a), .ros b.length (flatE spanE b)]), (3, .int .i64 (match i with | 0 => 0 | 1 => (a.length : Int) | _ => (a.length : Int) + (b.length : Int))), (9, .ros 2 [.ros a.length (flatE spanE a), .ros b.length (flatE spanE b)]), (10, .int .i64 2), (11, .int .i64 i)], [none, none])) (fun i => i ≤ 2) (fun i => 2 - i) 0
  case hI => simp
  case hq => omega
  case ht => simp -implicitDefEqProofs [liveOf, coldOf, hra, hrb]
  case round =>
    rintro i hi _
    clear hx
    rcases (by omega : i = 0 ∨ i = 1 ∨ i = 2) with rfl | rfl | rfl
    · have e1 : addI .i64 0 (a.length : Int) = a.length := by rw [addI_i64 (by omega) (by omega)]; omega
      have e2 : addI .i64 0 1 = 1 := addI_i64 (by omega) (by omega)
      have e3 : ¬ ((a.length : Int) < 0) := by omega
      simp -implicitDefEqProofs [e1, e2, e3, hra, hrb]
      exact rnd_next 1 (by omega) (by omega) (by simp -implicitDefEqProofs [liveOf, coldOf, hra, hrb])
    · have e1 : addI .i64 (a.length : Int) (b.length : Int) = (a.length : Int) + (b.length : Int) := by rw [addI_i64 (by omega) (by omega)]
      have e2 : addI .i64 1 1 = 2 := addI_i64 (by omega) (by omega)
      have e3 : ¬ ((a.length : Int) + (b.length : Int) < 0) := by omega
      simp -implicitDefEqProofs [e1, e2, e3, hra, hrb]
      exact rnd_next 2 (by omega) (by omega) (by simp -implicitDefEqProofs [liveOf, coldOf, hra, hrb])
    · simp -implicitDefEqProofs [cg, hra, hrb]
      generalize hx : evLoopC _ _ _ _ _ _ _ _ _ _ = R
      apply loop_gen hx (fun i : Nat => (mkL 36 .junk [(6, .sl 0 0 (match i with | 0 => 0 | 1 => a.length | _ => a.length + b.length) 2), (25, .ros 2 [.ros a.length (flatE spanE a), .ros b.length (flatE spanE b)]), (26, .int .i64 2), (27, .int .i64 i)], [some (.cells (flatE spanE (match i with | 0 => zspans (a.length + b.length) | 1 => a ++ zspans b.length | _ => a ++ b)) false), none])) (fun i => i ≤ 2) (fun i => 2 - i) 0
      case hI => simp
      case hq => omega
      case ht => simp -implicitDefEqProofs [liveOf, coldOf, hra, hrb]
      case round =>
        rintro i hi _
        clear hx
        have ta : List.take (a.length * 2) (flatE spanE a) = flatE spanE a := by rw [List.take_of_length_le]; simp
        have na : ¬ a.length = 0 := by omega
        have ma : ¬ a = [] := fun h => by rw [h] at ha; simp at ha
        have tb : List.take (b.length * 2) (flatE spanE b) = flatE spanE b := by rw [List.take_of_length_le]; simp
        have nb : ¬ b.length = 0 := by omega
        have mb : ¬ b = [] := fun h => by rw [h] at hb; simp at hb
        rcases (by omega : i = 0 ∨ i = 1 ∨ i = 2) with rfl | rfl | rfl
        · have e2 : addI .i64 0 1 = 1 := addI_i64 (by omega) (by omega)
          have d1 : List.drop (a.length * 2) (flatE spanE (zspans (a.length + b.length))) = flatE spanE (zspans b.length) := by rw [drop_flatE' (n := 2) spanE rfl, zspans_drop]; congr 2; omega
          have f1 : a.length * 2 ≤ (a.length + b.length) * 2 := by omega
          simp -implicitDefEqProofs [e2, appendS, writeCells, hra, hrb, ta, na, ma, tb, nb, mb, d1, f1]
          exact rnd_next 1 (by omega) (by omega) (by simp -implicitDefEqProofs [liveOf, coldOf, hra, hrb])
        · have e2 : addI .i64 1 1 = 2 := addI_i64 (by omega) (by omega)
          have d0 : List.take (a.length * 2) (flatE spanE a ++ flatE spanE (zspans b.length)) = flatE spanE a := by rw [List.take_append_of_le_length (by simp), List.take_of_length_le (by simp)]
          have d1 : List.drop (a.length * 2 + b.length * 2) (flatE spanE a ++ flatE spanE (zspans b.length)) = [] := by rw [List.drop_of_length_le]; simp
          have f1 : (a.length + b.length) * 2 ≤ a.length * 2 + b.length * 2 := by omega
          simp -implicitDefEqProofs [e2, appendS, writeCells, hra, hrb, ta, na, ma, tb, nb, mb, d1, d0, f1]
          exact rnd_next 2 (by omega) (by omega) (by simp -implicitDefEqProofs [liveOf, coldOf, hra, hrb])
        · simp -implicitDefEqProofs [hra, hrb]

end Go.Ev.Try
