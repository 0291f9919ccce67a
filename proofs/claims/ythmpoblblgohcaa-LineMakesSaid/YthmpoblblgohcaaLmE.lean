/-
  THE LINE SEAT: Of and Merge for all marks (own work).
-/
import Derived.Test.YthmpoblblgohcaaLmD
import Derived.Test.YthmpoblblgohcaaLineS
set_option linter.unusedSimpArgs false
set_option linter.unusedVariables false
set_option maxRecDepth 100000
set_option maxHeartbeats 4000000
namespace Go.Ev.Try
open Go Go.Ev Go.Proofs

theorem clone_e {k : Nat} : evF Try.prog Γ (k + 1) 32 [.ros 0 []] [] = some (.sl 0 0 0 3, [some (.cells [] true)]) := by
  rw [b32 (fun _ _ => rfl) _ _ (by simp)]
  simp -implicitDefEqProofs
theorem clone_n {k : Nat} : evF Try.prog Γ (k + 1) 32 [.nils] [] = some (.nils, [none]) := by
  rw [b32 (fun _ _ => rfl) _ _ (by simp)]
  simp -implicitDefEqProofs
theorem compact_e {k : Nat} : evF Try.prog Γ (k + 1) 34 [.sl 0 0 0 3] [some (.cells [] true)] = some (.sl 0 0 0 3, [some (.cells [] true), none]) := by
  rw [b34 (fun _ _ => rfl) _ _ (by simp)]
  simp -implicitDefEqProofs
/-- Of, nothing there. -/
theorem of_nil {k : Nat} (hk : 2010 < k) : evF Try.prog Γ (k + 1) 8 [.nils] [] = some (.tup [.nils, .int .i64 0], [none]) := by
  obtain ⟨k, rfl⟩ : ∃ j, k = j + 1 := ⟨k - 1, by omega⟩
  have c1 := clone_n (k := k)
  have c2 := sort_nil (k := k) (by omega)
  have c3 := compact_nil (k := k) (by omega)
  have c4 := check_any [] true (k := k) (by omega)
  have hf : faultM [] = 0 := rfl
  rw [hf] at c4
  rw [b8 (fun _ _ => rfl) _ _ (by simp)]
  simp [roV] at c4
  simp -implicitDefEqProofs [c1, c2, c3, c4]
theorem of_empty {k : Nat} (hk : 2010 < k) : evF Try.prog Γ (k + 1) 8 [.ros 0 []] [] = some (.tup [.sl 0 0 0 3, .int .i64 0], [some (.cells [] true)]) := by
  obtain ⟨k, rfl⟩ : ∃ j, k = j + 1 := ⟨k - 1, by omega⟩
  have c1 := clone_e (k := k)
  have c2 := sort33 [] (by decide) (ex := true) (k := k)
  have c3 := compact_e (k := k)
  have c4 := check_any [] false (k := k) (by omega)
  have hf : faultM [] = 0 := rfl
  rw [hf] at c4
  rw [b8 (fun _ _ => rfl) _ _ (by simp)]
  simp [roV, isort] at c2 c4
  simp -implicitDefEqProofs [c1, c2, c3, c4]
/-- Of, some marks. -/
theorem of_some (l : List Mark) (z : Bool) (hl : l.length ≤ 5864062014805) {k : Nat} (hk : l.length + 2010 < k) (hne : l.length ≠ 0) (e : Int) (he : e = faultM (lineM l)) :
    evF Try.prog Γ (k + 1) 8 [roV z l.length (flatE markE l)] [] = if e = 0 then some (.tup [.sl 0 0 (lineM l).length 3, .int .i64 0], [some (.cells (flatE markE (lineM l ++ List.replicate (l.length - (lineM l).length) mark0)) false)]) else some (.tup [.nils, .int .i64 e], [none]) := by
  obtain ⟨k, rfl⟩ : ∃ j, k = j + 1 := ⟨k - 1, by omega⟩
  have c1 := clone_ok l (by omega) (k := k)
  have c4 := check_any (dedup (isort l)) false (k := k) (by omega)
  have hlen := isort_length l
  rw [b8 (fun _ _ => rfl) _ _ (by simp)]
  obtain ⟨n, hn⟩ : ∃ n, l.length = n + 1 := ⟨l.length - 1, by omega⟩
  have c2 := sort33 l (by omega) (ex := false) (k := k)
  have c3 := compact_any (isort l) (by omega) (k := k) (by omega)
  have h2 : ∀ M : List Mark, List.take ((dedup (isort l)).length * 3) (flatE markE (dedup (isort l)) ++ flatE markE M) = flatE markE (dedup (isort l)) := fun M => by rw [List.take_append_of_le_length (by simp), List.take_of_length_le (by simp)]
  rw [hlen] at c3
  rw [line_eq] at c3 c4 h2
  rw [← he] at c4
  rw [hn] at c1 c2 c3
  rw [hn]
  simp only [roV_succ, ownV_succ, ownB_succ, roV_false] at c1 c4
  generalize hS : isort l = S at *
  generalize lineM l = D at *
  simp -implicitDefEqProofs [flatE_append] at c3
  by_cases h0 : e = 0
  · subst h0
    simp -implicitDefEqProofs [c1, c2, c3, c4, h2]
  · simp -implicitDefEqProofs [c1, c2, c3, c4, h2, h0]
/-- Of, as it is called from Merge. -/
def ofLen (l : List Mark) : Nat := if faultM (lineM l) = 0 then (lineM l).length else 0
theorem of_all (l : List Mark) (hl : l.length ≤ 5864062014805) {k : Nat} (hk : l.length + 2010 < k) :
    evF Try.prog Γ (k + 1) 8 [roV true l.length (flatE markE l)] [] = some (.tup [ownV true 0 0 (ofLen l) 3, .int .i64 (faultM (lineM l))], [ownB true (ofLen l) (flatE markE (lineM l ++ List.replicate (l.length - (lineM l).length) mark0))]) := by
  by_cases hne : l.length = 0
  · obtain rfl : l = [] := List.length_eq_zero_iff.1 hne
    have hL : lineM [] = [] := rfl
    have hf : faultM [] = 0 := rfl
    have h := of_nil (k := k) (by omega)
    simpa [ofLen, hL, hf] using h
  · rw [of_some l true hl hk hne _ rfl]
    unfold ofLen
    by_cases h0 : faultM (lineM l) = 0
    · rw [if_pos h0, if_pos h0]
      have hpos : 0 < (lineM l).length := by
        have : l[0]'(by omega) ∈ lineM l := (lineM_mem l _).2 (List.getElem_mem _)
        exact List.length_pos_of_mem this
      obtain ⟨c, hc⟩ : ∃ c, (lineM l).length = c + 1 := ⟨(lineM l).length - 1, by omega⟩
      rw [hc, h0]
      simp
    · rw [if_neg h0, if_neg h0]
      simp
def allFine (l : List (Bool × List Mark)) : Prop := ∀ x ∈ l, faultM x.2 = 0
/-- The first fault of several lists. -/
def firstFault : List (Bool × List Mark) → Int
  | [] => 0
  | x :: l => if faultM x.2 = 0 then firstFault l else faultM x.2
theorem merge_any (Ls : List (Bool × List Mark)) (hn : Ls.length ≤ 100) (d : Nat) (e : Int) (Z : List Mark) {k : Nat} (hk : 3000 < k)
    (c8 : firstFault Ls = 0 → evF Try.prog Γ k 8 [roV true (allOf Ls).length (flatE markE (allOf Ls))] [] = some (.tup [ownV true 0 0 d 3, .int .i64 e], [ownB true d (flatE markE Z)])) :
    evF Try.prog Γ (k + 1) 16 [.ros Ls.length (listsV Ls)] [] = if firstFault Ls = 0 then some (.tup [ownV true 0 0 d 3, .int .i64 e], [ownB true d (flatE markE Z)]) else some (.tup [.nils, .int .i64 (firstFault Ls)], [none]) := by
  obtain ⟨k, rfl⟩ : ∃ j, k = j + 1 := ⟨k - 1, by omega⟩
  rw [b16 (fun _ _ => rfl) _ _ (by simp)]
  simp -implicitDefEqProofs
  generalize hx : evLoopC _ _ _ _ _ _ _ _ _ _ = R
  apply loop_gen hx (fun a : Nat × List Mark => (mkL 33 .junk [(0, .ros Ls.length (listsV Ls)), (4, ownV true 1 0 a.2.length 3), (8, .ros Ls.length (listsV Ls)), (9, .int .i64 Ls.length), (10, .int .i64 a.1)], [none, ownB true a.2.length (flatE markE a.2), none]))
    (fun a => a.1 ≤ Ls.length ∧ a.2 = allOf (Ls.take a.1) ∧ allFine (Ls.take a.1) ∧ firstFault (Ls.drop a.1) = firstFault Ls) (fun a => Ls.length - a.1) (0, [])
  case hI => exact ⟨Nat.zero_le _, rfl, fun x hx => by simp at hx, rfl⟩
  case hq => simp only; omega
  case ht => simp -implicitDefEqProofs [liveOf]
  case round =>
    rintro ⟨i, O⟩ ⟨hi, hO, hV, hF⟩ _
    clear hx
    simp only at hi hO hV hF
    have hOl : O.length ≤ i * 400 := by
      rw [hO]
      have := allOf_len (Ls.take i) fun x hx => (valid_of (hV x hx)).len
      rw [List.length_take] at this
      have h2 := Nat.mul_le_mul_right 400 (Nat.min_le_left i Ls.length)
      omega
    by_cases hlt : i < Ls.length
    · have hlt2 : (i : Int) < Ls.length := by omega
      have e2 : addI .i64 (i : Int) 1 = (i : Int) + 1 := addI_i64 (by omega) (by omega)
      have hm := listsV_at Ls i hlt
      have hs := allOf_succ Ls i hlt
      have hF2 := hF
      rw [List.drop_eq_getElem_cons hlt, firstFault] at hF2
      have hV2 : faultM Ls[i].2 = 0 → allFine (Ls.take (i + 1)) := fun h0 x hx => by
        rw [List.take_succ_eq_append_getElem hlt] at hx
        rcases List.mem_append.1 hx with hx | hx
        · exact hV x hx
        · rw [List.mem_singleton.1 hx]; exact h0
      rw [← hO] at hs
      generalize Ls[i] = x at *
      obtain ⟨z, l⟩ := x
      simp only at hm hs hF2 hV2
      have cc := check_any l z (k := k) (by omega)
      by_cases h0 : faultM l = 0
      case neg =>
        rw [if_neg h0] at hF2
        have hF3 : ¬ firstFault Ls = 0 := by rw [← hF2]; exact h0
        generalize faultM l = e at *
        cases hl0 : l.length with
        | zero =>
          have hnil : l = [] := List.length_eq_zero_iff.1 hl0
          subst hnil
          simp at cc
          cases hO0 : O.length with
          | zero => simp -implicitDefEqProofs [hlt, hlt2, hm, cc, h0, ← hF2]
          | succ c => simp -implicitDefEqProofs [hlt, hlt2, hm, cc, h0, ← hF2]
        | succ b =>
          rw [hl0] at cc hm
          simp only [roV_succ] at cc hm
          cases hO0 : O.length with
          | zero => simp -implicitDefEqProofs [hlt, hlt2, hm, cc, h0, ← hF2]
          | succ c => simp -implicitDefEqProofs [hlt, hlt2, hm, cc, h0, ← hF2]
      case pos =>
      rw [if_pos h0] at hF2
      have hV3 := hV2 h0
      have hVi := valid_of h0
      rw [h0] at cc
      have hll := hVi.len
      clear hV2
      have e3 : mulI .i64 (Ls.length : Int) 400 = Ls.length * 400 := by rw [mulI_eq]; exact wrap_i64 (by omega) (by omega)
      have hgt : ¬ (Ls.length : Int) * 400 < ((O.length + l.length : Nat) : Int) := by omega
      have t1 : List.take (l.length * 3) (flatE markE l) = flatE markE l := by rw [List.take_of_length_le]; simp
      cases hl0 : l.length with
      | zero =>
        have hnil : l = [] := List.length_eq_zero_iff.1 hl0
        subst hnil
        simp at hs
        have hgt0 : ¬ (Ls.length : Int) * 400 < (O.length : Int) := by simp at hgt; omega
        cases hO0 : O.length with
        | zero =>
          have hnilO : O = [] := List.length_eq_zero_iff.1 hO0
          subst hnilO
          have hgt1 : ¬ (Ls.length : Int) * 400 < 0 := by omega
          simp at cc
          simp -implicitDefEqProofs [hlt, hlt2, hm, e2, e3, cc, hgt1]
          refine rnd_next (i + 1, []) ⟨hlt, by simp only; rw [hs], hV3, hF2⟩ (by simp only; omega) (by simp -implicitDefEqProofs [liveOf])
        | succ c =>
          simp at cc
          have hgt2 : ¬ (Ls.length : Int) * 400 < (c : Int) + 1 := by omega
          simp -implicitDefEqProofs [hlt, hlt2, hm, e2, e3, cc, hgt2, hO0]
          refine rnd_next (i + 1, O) ⟨hlt, by simp only; rw [hs], hV3, hF2⟩ (by simp only; omega) (by simp -implicitDefEqProofs [liveOf, hO0])
      | succ b =>
        rw [hl0] at cc hm t1
        simp only [roV_succ] at cc hm
        cases hO0 : O.length with
        | zero =>
          have hnilO : O = [] := List.length_eq_zero_iff.1 hO0
          subst hnilO
          rw [hl0] at hgt
          have hgt1 : ¬ (Ls.length : Int) * 400 < (b : Int) + 1 := by simp at hgt; omega
          have hb : (b + 1) * 24 ≤ 140737488355328 := by omega
          simp -implicitDefEqProofs [hlt, hlt2, hm, e2, e3, cc, hgt1, t1, hb, hl0]
          refine rnd_next (i + 1, l) ⟨hlt, by simp only; rw [hs]; simp, hV3, hF2⟩ (by simp only; omega) (by simp -implicitDefEqProofs [liveOf, hl0])
        | succ c =>
          rw [hl0, hO0] at hgt
          have hgt1 : ¬ (Ls.length : Int) * 400 < (c : Int) + 1 + ((b : Int) + 1) := by omega
          have hb : (c + 1 + (b + 1)) * 24 ≤ 140737488355328 := by omega
          have op : ownV true 1 0 (c + 1 + (b + 1)) 3 = .sl 1 0 (c + 1 + (b + 1)) 3 := ownV_pos (by omega)
          have ob : ∀ cs, ownB true (c + 1 + (b + 1)) cs = some (.cells cs false) := fun cs => ownB_pos (by omega)
          simp -implicitDefEqProofs [hlt, hlt2, hm, e2, e3, cc, hgt1, t1, hb, hl0, hO0]
          refine rnd_next (i + 1, O ++ l) ⟨hlt, by simp only; rw [hs], hV3, hF2⟩ (by simp only; omega) (by simp -implicitDefEqProofs [liveOf, hl0, hO0, op, ob])
    · have hi' : i = Ls.length := by omega
      subst hi'
      rw [List.take_length] at hO
      rw [List.drop_length] at hF
      have hF3 : firstFault Ls = 0 := hF.symm
      have c8 := c8 hF3
      subst hO
      generalize allOf Ls = A at *
      cases hA0 : A.length with
      | zero =>
        have hnil : A = [] := List.length_eq_zero_iff.1 hA0
        subst hnil
        simp at c8
        cases d with
        | zero => simp -implicitDefEqProofs [c8, hF3]
        | succ d => simp -implicitDefEqProofs [c8, hF3]
      | succ c =>
        rw [hA0] at c8
        have t2 : List.take ((c + 1) * 3) (flatE markE A) = flatE markE A := by rw [List.take_of_length_le]; simp [hA0]
        simp at c8
        cases d with
        | zero => simp -implicitDefEqProofs [c8, t2, hF3]
        | succ d => simp -implicitDefEqProofs [c8, t2, hF3]
end Go.Ev.Try
