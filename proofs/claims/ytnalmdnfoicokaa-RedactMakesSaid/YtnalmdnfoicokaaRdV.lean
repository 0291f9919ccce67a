/-
  THE REDACT SEAT: slices.Concat of the levels, sum.Root (own work).
-/
import Derived.Test.YtnalmdnfoicokaaRdU
set_option linter.unusedSimpArgs false
set_option linter.unusedVariables false
set_option maxRecDepth 100000
set_option maxHeartbeats 8000000
namespace Go.Ev.Try
open Go Go.Ev Go.Proofs

theorem zerosV_u64 (n : Nat) : zerosV [V.int .u64 0] n = flatE (intE .u64) (zeros n) := by
  induction n with
  | zero => rfl
  | succ n ih => rw [zerosV, ih, show zeros (n + 1) = 0 :: zeros n from rfl, flatE_cons]; rfl
theorem zeros_drop (n i : Nat) : (zeros n).drop i = zeros (n - i) := by simp [zeros]
theorem grow63 (t : Nat) (h0 : 0 < t) (h : t ≤ 2000000) {k : Nat} : evF Try.prog Γ (k + 1) 63 [.nils, .int .i64 t] [] = some (.sl 0 0 0 1, [some (.cells (flatE (intE .u64) (zeros t)) false)]) := by
  have e1 : subI .i64 0 0 = 0 := subI_i64 (by omega) (by omega)
  have e2 : subI .i64 (t : Int) 0 = t := by rw [subI_i64 (by omega) (by omega)]; omega
  have h1 : ¬ (t : Int) < 0 := by omega
  have h2 : (0 : Int) < t := by omega
  have h3 : ¬ 140737488355328 < t * 8 := by omega
  have h4 : ¬ t = 0 := by omega
  rw [b63 (fun _ _ => rfl) _ _ (by simp)]
  simp -implicitDefEqProofs [e1, e2, h1, h2, h0, h3, h4, zerosV_u64]
theorem at_rosE (L : List (List Int)) (j : Nat) (h : j < L.length) : List.take 1 (List.drop j (flatE rosE L)) = [.ros L[j].length (flatE (intE .u64) L[j])] := by
  rw [at_flatE1 rosE rfl L j h, rosE_f]
/-- The first lists, one after the other. -/
def preL (Ls : List (List Int)) (i : Nat) : List Int := (Ls.take i).flatten
theorem flat_take (Ls : List (List Int)) (i : Nat) (h : i < Ls.length) : preL Ls (i + 1) = preL Ls i ++ Ls[i] := by
  unfold preL
  rw [List.take_succ_eq_append_getElem h, List.flatten_append, List.flatten_cons, List.flatten_nil, List.append_nil]
theorem flat_take_le (Ls : List (List Int)) (i : Nat) : (preL Ls i).length ≤ Ls.flatten.length := by
  have : Ls.flatten = (Ls.take i).flatten ++ (Ls.drop i).flatten := by rw [← List.flatten_append, List.take_append_drop]
  unfold preL
  rw [this, List.length_append]; omega
@[simp] theorem preL_zero (Ls : List (List Int)) : preL Ls 0 = [] := rfl
theorem preL_all (Ls : List (List Int)) : preL Ls Ls.length = Ls.flatten := by unfold preL; rw [List.take_length]
theorem concat59 (Ls : List (List Int)) (h1 : ∀ L ∈ Ls, 1 ≤ L.length) (hT0 : 0 < Ls.flatten.length) (hT : Ls.flatten.length ≤ 2000000) (hl : Ls.length ≤ 2000) {k : Nat} (hk : 3000 < k) :
    evF Try.prog Γ (k + 1) 59 [.ros Ls.length (flatE rosE Ls)] [] = some (.sl 0 0 Ls.flatten.length 1, [some (.cells (flatE (intE .u64) Ls.flatten) false)]) := by
  obtain ⟨k, rfl⟩ : ∃ j, k = j + 1 := ⟨k - 1, by omega⟩
  have cg := grow63 Ls.flatten.length hT0 hT (k := k)
  generalize hTd : Ls.flatten.length = T at *
  rw [b59 (fun _ _ => rfl) _ _ (by simp)]
  simp -implicitDefEqProofs
  generalize hx : evLoopC _ _ _ _ _ _ _ _ _ _ = R
  apply loop_gen hx (fun i : Nat => (mkL 36 .junk [(0, .ros Ls.length (flatE rosE Ls)), (3, .int .i64 ((preL Ls i).length : Nat)), (9, .ros Ls.length (flatE rosE Ls)), (10, .int .i64 Ls.length), (11, .int .i64 i)], [none, none])) (fun i => i ≤ Ls.length) (fun i => Ls.length - i) 0
  case hI => simp
  case hq => omega
  case ht => simp -implicitDefEqProofs [liveOf, coldOf]
  case round =>
    rintro i hi _
    clear hx
    have hle := flat_take_le Ls i
    by_cases hlt : i < Ls.length
    · have hlt2 : (i : Int) < (Ls.length : Int) := by omega
      have e2 : addI .i64 (i : Int) 1 = (i : Int) + 1 := addI_i64 (by omega) (by omega)
      have ms := at_rosE Ls i hlt
      have hf := flat_take Ls i hlt
      have hle2 := flat_take_le Ls (i + 1)
      rw [hf, List.length_append] at hle2
      have e3 : addI .i64 ((preL Ls i).length : Int) (Ls[i].length : Int) = (((preL Ls (i + 1)).length : Nat) : Int) := by rw [hf, List.length_append, addI_i64 (by omega) (by omega)]; omega
      have e4 : ¬ (((preL Ls (i + 1)).length : Nat) : Int) < 0 := by omega
      generalize (preL Ls i).length = A at *
      generalize hBd : (preL Ls (i + 1)).length = B at *
      generalize Ls[i] = L at *
      simp -implicitDefEqProofs [hlt, hlt2, e2, e3, e4, ms]
      exact rnd_next (i + 1) hlt (by omega) (by simp -implicitDefEqProofs [liveOf, coldOf, hBd])
    · have hi' : i = Ls.length := by omega
      subst hi'
      have hlt2 : ¬ (Ls.length : Int) < (Ls.length : Int) := by omega
      rw [preL_all, hTd]
      simp -implicitDefEqProofs [hlt, hlt2, cg]
      generalize hx : evLoopC _ _ _ _ _ _ _ _ _ _ = R
      apply loop_gen hx (fun i : Nat => (mkL 36 .junk [(6, .sl 0 0 (preL Ls i).length 1), (25, .ros Ls.length (flatE rosE Ls)), (26, .int .i64 Ls.length), (27, .int .i64 i)], [some (.cells (flatE (intE .u64) ((preL Ls i) ++ zeros (T - (preL Ls i).length))) false), none])) (fun i => i ≤ Ls.length) (fun i => Ls.length - i) 0
      case hI => simp
      case hq => omega
      case ht => simp -implicitDefEqProofs [liveOf, coldOf]
      case round =>
        rintro i hi _
        clear hx
        by_cases hlt : i < Ls.length
        · have hlt2 : (i : Int) < (Ls.length : Int) := by omega
          have e2 : addI .i64 (i : Int) 1 = (i : Int) + 1 := addI_i64 (by omega) (by omega)
          have ms := at_rosE Ls i hlt
          have hf := flat_take Ls i hlt
          have hle2 := flat_take_le Ls (i + 1)
          have h1i := h1 _ (List.getElem_mem hlt)
          rw [hf, List.length_append] at hle2
          have hz : T - (preL Ls i).length - Ls[i].length = T - ((preL Ls i).length + Ls[i].length) := by omega
          have hln : (preL Ls (i + 1)).length = (preL Ls i).length + Ls[i].length := by rw [hf, List.length_append]
          generalize Ls[i] = L at *
          generalize hMd : preL Ls (i + 1) = M' at *
          generalize (preL Ls i) = M at *
          have tL : List.take L.length (flatE (intE .u64) L) = flatE (intE .u64) L := by rw [List.take_of_length_le]; simp
          have n0 : ¬ L.length = 0 := by omega
          have nn : ¬ L = [] := fun h => by rw [h] at n0; simp at n0
          have f1 : M.length + L.length ≤ M.length + (T - M.length) := by omega
          have d0 : List.take M.length (flatE (intE .u64) M ++ flatE (intE .u64) (zeros (T - M.length))) = flatE (intE .u64) M := by rw [List.take_append_of_le_length (by simp), List.take_of_length_le (by simp)]
          have d1 : List.drop (M.length + L.length) (flatE (intE .u64) M ++ flatE (intE .u64) (zeros (T - M.length))) = flatE (intE .u64) (zeros (T - M.length - L.length)) := by
            rw [List.drop_append, List.drop_of_length_le (by simp), List.nil_append]
            simp only [flatE_length, intE_k, Nat.mul_one]
            rw [Nat.add_sub_cancel_left, drop_flatE1 (intE .u64) rfl, zeros_drop]
          simp -implicitDefEqProofs [hlt, hlt2, e2, ms, tL, n0, nn, f1, d0, d1, appendS, writeCells]
          exact rnd_next (i + 1) hlt (by omega) (by simp -implicitDefEqProofs [liveOf, coldOf, hMd, hf, hz])
        · have hi' : i = Ls.length := by omega
          subst hi'
          have hlt2 : ¬ (Ls.length : Int) < (Ls.length : Int) := by omega
          have hz0 : zeros 0 = [] := rfl
          rw [preL_all, hTd]
          simp -implicitDefEqProofs [hlt, hlt2, hTd, hz0]

theorem sumRoot_ok (bs : List Int) (z : Bool) (hn : bs.length ≤ 65536) {k : Nat} (hk : 5000 < k) :
    evF Try.prog Γ (k + 1) 19 [roV z bs.length (flatE (intE .u8) bs)] [] = some (.int .u64 (rootL (hashesOf bs)), []) := by
  obtain ⟨k, rfl⟩ : ∃ j, k = j + 2 := ⟨k - 2, by omega⟩
  obtain ⟨Ls, ex, h1, h2, h3, hl⟩ := levels_ok bs z hn (k := k) (by omega)
  generalize rootL (hashesOf bs) = r at *
  have hfl : (Ls ++ [[r]]).flatten = Ls.flatten ++ [r] := by simp
  have hfn : Ls.flatten.length ≤ 1000000 := by rw [List.length_flatten]; exact h3
  have hcc := concat59 (Ls ++ [[r]]) (fun L hL => by
    rcases List.mem_append.1 hL with h | h
    · exact h2 L h
    · rw [List.mem_singleton.1 h]; simp) (by rw [hfl]; simp) (by rw [hfl]; simp; omega) (by simp; omega) (k := k) (by omega)
  rw [hfl] at hcc
  simp only [List.length_append, List.length_singleton, flatE_append, flatE_cons, flatE_nil, rosE_f, intE_f, List.append_nil, List.singleton_append] at hcc
  have t1 : List.take (Ls.length + 1) (flatE rosE Ls ++ [V.sl 1 0 1 1]) = flatE rosE Ls ++ [V.sl 1 0 1 1] := by rw [List.take_of_length_le]; simp
  have ct : evF Try.prog Γ (k + 2) 50 [roV z bs.length (flatE (intE .u8) bs)] [] = some (.sl 0 0 (Ls.flatten.length + 1) 1, [some (.cells (flatE (intE .u64) Ls.flatten ++ [.int .u64 r]) false)]) := by
    rw [b50 (fun _ _ => rfl) _ _ (by simp)]
    simp -implicitDefEqProofs [hl, t1, hcc]
  have e1 : subI .i64 ((Ls.flatten.length : Int) + 1) 1 = (Ls.flatten.length : Int) := by rw [subI_i64 (by omega) (by omega)]; omega
  generalize Ls.flatten = F at *
  have hF : (F.length : Int) < (F.length : Int) + 1 := by omega
  have hd : List.drop F.length (flatE (intE .u64) F ++ [V.int .u64 r]) = [V.int .u64 r] := by rw [List.drop_append_of_le_length (by simp), List.drop_of_length_le (by simp)]; rfl
  rw [b19 (fun _ _ => rfl) _ _ (by simp)]
  simp -implicitDefEqProofs [ct, e1, hF, hd]
end Go.Ev.Try
