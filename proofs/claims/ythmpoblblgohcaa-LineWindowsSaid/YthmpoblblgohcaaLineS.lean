/-
  THE LINE SEAT: Merge, Equal of marks, LineWindows' closure (own work).
-/
import Derived.Test.YthmpoblblgohcaaLineM
set_option linter.unusedSimpArgs false
set_option linter.unusedVariables false
set_option maxRecDepth 100000
set_option maxHeartbeats 4000000
namespace Go.Ev.Try
open Go Go.Ev Go.Proofs

theorem equal_ok (a b : List Mark) (za zb : Bool) (hl : a.length ≤ 1000000) {k : Nat} (hk : a.length < k) :
    evF Try.prog Γ (k + 1) 17 [roV za a.length (flatE markE a), roV zb b.length (flatE markE b)] [] = some (.bool (decide (a = b)), []) := by
  rw [b17 (fun _ _ => rfl) _ _ (by simp)]
  by_cases hne : a.length = b.length
  · simp -implicitDefEqProofs [hne]
    generalize hx : evLoopC _ _ _ _ _ _ _ _ _ _ = R
    apply loop_gen hx (fun i : Nat => (mkL 26 .junk [(0, roV za b.length (flatE markE a)), (1, roV zb b.length (flatE markE b)), (12, .int .i64 b.length), (13, .int .i64 i)], [none, none]))
      (fun i => i ≤ b.length ∧ a.take i = b.take i) (fun i => b.length - i) 0
    case hI => simp
    case hq => omega
    case ht => simp -implicitDefEqProofs [liveOf]
    case round =>
      rintro i ⟨hi, he⟩ _
      clear hx
      by_cases hlt : i < b.length
      · have hltA : i < a.length := by omega
        have hlt2 : (i : Int) < b.length := by omega
        have e2 : addI .i64 (i : Int) 1 = (i : Int) + 1 := addI_i64 (by omega) (by omega)
        have ma := at_marks a i hltA
        have mb := at_marks b i hlt
        have ta := List.take_succ_eq_append_getElem hltA
        have tb := List.take_succ_eq_append_getElem hlt
        by_cases hab : a[i] = b[i]
        · simp -implicitDefEqProofs [hlt, hlt2, e2, ma, mb, ne_mark, hab]
          exact rnd_next (i + 1) ⟨hlt, by rw [ta, tb, he, hab]⟩ (by omega) (by simp -implicitDefEqProofs [liveOf])
        · have hF : ¬ a = b := fun h => hab (by subst h; rfl)
          simp -implicitDefEqProofs [hlt, hlt2, e2, ma, mb, ne_mark, hab, hF]
      · have hi' : i = b.length := by omega
        subst hi'
        rw [List.take_length, List.take_of_length_le (by omega)] at he
        simp -implicitDefEqProofs [he]
  · have hF : ¬ a = b := fun h => hne (by rw [h])
    have hne2 : ¬ (a.length : Int) = b.length := by omega
    simp -implicitDefEqProofs [hne, hne2, hF]

/-- LineWindows' closure: is it not there? -/
theorem out_ok (m : Mark) (l : List Mark) (z : Bool) (hl : l.length ≤ 1000) {k : Nat} (hk : 1002 < k) :
    evF Try.prog Γ (k + 1) 19 [.agg [.int .i64 m.id, .int .i64 m.low, .int .i64 m.high], .ro [roV z l.length (flatE markE l)]] [] = some (.bool (!decide (m ∈ l)), []) := by
  obtain ⟨k, rfl⟩ : ∃ j, k = j + 1 := ⟨k - 1, by omega⟩
  have c := contains_ok m l z hl (k := k) (by omega)
  rw [b19 (fun _ _ => rfl) _ _ (by simp)]
  simp -implicitDefEqProofs [c]

def listsV (Ls : List (Bool × List Mark)) : List V := Ls.map fun x => roV x.1 x.2.length (flatE markE x.2)
theorem listsV_at (Ls : List (Bool × List Mark)) (i : Nat) (h : i < Ls.length) : List.take 1 (List.drop i (listsV Ls)) = [roV Ls[i].1 Ls[i].2.length (flatE markE Ls[i].2)] := by
  have hl : i < (Ls.map fun x => roV x.1 x.2.length (flatE markE x.2)).length := by simpa using h
  unfold listsV
  rw [List.drop_eq_getElem_cons hl, List.getElem_map]
  rfl
theorem listsV_len (Ls : List (Bool × List Mark)) : (listsV Ls).length = Ls.length := by simp [listsV]
def allOf (Ls : List (Bool × List Mark)) : List Mark := Ls.flatMap (·.2)
theorem allOf_succ (Ls : List (Bool × List Mark)) (i : Nat) (h : i < Ls.length) : allOf (Ls.take (i + 1)) = allOf (Ls.take i) ++ Ls[i].2 := by
  unfold allOf; rw [List.take_succ_eq_append_getElem h, List.flatMap_append, List.flatMap_singleton]
theorem allOf_len (Ls : List (Bool × List Mark)) (h : ∀ x ∈ Ls, x.2.length ≤ 400) : (allOf Ls).length ≤ Ls.length * 400 := by
  induction Ls with
  | nil => simp [allOf]
  | cons x Ls ih =>
    have h1 := h x (by simp)
    have h2 := ih fun y hy => h y (by simp [hy])
    simp only [allOf, List.flatMap_cons, List.length_append, List.length_cons] at h2 ⊢
    omega

theorem merge_ok (Ls : List (Bool × List Mark)) (hV : ∀ x ∈ Ls, Valid x.2) (hn : Ls.length ≤ 100) (d : Nat) (e : Int) (Z : List Mark) {k : Nat} (hk : 3000 < k)
    (c8 : evF Try.prog Γ k 8 [roV true (allOf Ls).length (flatE markE (allOf Ls))] [] = some (.tup [ownV true 0 0 d 3, .int .i64 e], [ownB true d (flatE markE Z)])) :
    evF Try.prog Γ (k + 1) 16 [.ros Ls.length (listsV Ls)] [] = some (.tup [ownV true 0 0 d 3, .int .i64 e], [ownB true d (flatE markE Z)]) := by
  obtain ⟨k, rfl⟩ : ∃ j, k = j + 1 := ⟨k - 1, by omega⟩
  rw [b16 (fun _ _ => rfl) _ _ (by simp)]
  simp -implicitDefEqProofs
  generalize hx : evLoopC _ _ _ _ _ _ _ _ _ _ = R
  apply loop_gen hx (fun a : Nat × List Mark => (mkL 33 .junk [(0, .ros Ls.length (listsV Ls)), (4, ownV true 1 0 a.2.length 3), (8, .ros Ls.length (listsV Ls)), (9, .int .i64 Ls.length), (10, .int .i64 a.1)], [none, ownB true a.2.length (flatE markE a.2), none]))
    (fun a => a.1 ≤ Ls.length ∧ a.2 = allOf (Ls.take a.1)) (fun a => Ls.length - a.1) (0, [])
  case hI => simp [allOf]
  case hq => simp only; omega
  case ht => simp -implicitDefEqProofs [liveOf]
  case round =>
    rintro ⟨i, O⟩ ⟨hi, hO⟩ _
    clear hx
    simp only at hi hO
    have hOl : O.length ≤ i * 400 := by
      rw [hO]
      have := allOf_len (Ls.take i) fun x hx => (hV x (List.mem_of_mem_take hx)).len
      rw [List.length_take] at this
      have h2 := Nat.mul_le_mul_right 400 (Nat.min_le_left i Ls.length)
      omega
    by_cases hlt : i < Ls.length
    · have hlt2 : (i : Int) < Ls.length := by omega
      have e2 : addI .i64 (i : Int) 1 = (i : Int) + 1 := addI_i64 (by omega) (by omega)
      have hm := listsV_at Ls i hlt
      have hs := allOf_succ Ls i hlt
      rw [← hO] at hs
      have hVi := hV Ls[i] (List.getElem_mem hlt)
      generalize Ls[i] = x at *
      obtain ⟨z, l⟩ := x
      simp only at hm hs hVi
      have cc := check_good l z hVi (k := k) (by omega)
      have hll := hVi.len
      have e3 : mulI .i64 (Ls.length : Int) 400 = Ls.length * 400 := by rw [mulI_eq]; exact wrap_i64 (by omega) (by omega)
      have hgt : ¬ (Ls.length : Int) * 400 < ((O.length + l.length : Nat) : Int) := by omega
      have t1 : List.take (l.length * 3) (flatE markE l) = flatE markE l := by rw [List.take_of_length_le]; simp
      cases hl0 : l.length with
      | zero =>
        have hnil : l = [] := List.length_eq_zero_iff.1 hl0
        subst hnil
        simp at hs
        have hgt0 : ¬ (Ls.length : Int) * 400 < (O.length : Int) := by simp at hgt; omega
        cases hO0 : O.length with
        | zero =>
          have hnilO : O = [] := List.length_eq_zero_iff.1 hO0
          subst hnilO
          have hgt1 : ¬ (Ls.length : Int) * 400 < 0 := by omega
          simp at cc
          simp -implicitDefEqProofs [hlt, hlt2, hm, e2, e3, cc, hgt1]
          refine rnd_next (i + 1, []) ⟨hlt, by simp only; rw [hs]⟩ (by simp only; omega) (by simp -implicitDefEqProofs [liveOf])
        | succ c =>
          simp at cc
          have hgt2 : ¬ (Ls.length : Int) * 400 < (c : Int) + 1 := by omega
          simp -implicitDefEqProofs [hlt, hlt2, hm, e2, e3, cc, hgt2, hO0]
          refine rnd_next (i + 1, O) ⟨hlt, by simp only; rw [hs]⟩ (by simp only; omega) (by simp -implicitDefEqProofs [liveOf, hO0])
      | succ b =>
        rw [hl0] at cc hm t1
        simp only [roV_succ] at cc hm
        cases hO0 : O.length with
        | zero =>
          have hnilO : O = [] := List.length_eq_zero_iff.1 hO0
          subst hnilO
          rw [hl0] at hgt
          have hgt1 : ¬ (Ls.length : Int) * 400 < (b : Int) + 1 := by simp at hgt; omega
          have hb : (b + 1) * 24 ≤ 140737488355328 := by omega
          simp -implicitDefEqProofs [hlt, hlt2, hm, e2, e3, cc, hgt1, t1, hb, hl0]
          refine rnd_next (i + 1, l) ⟨hlt, by simp only; rw [hs]; simp⟩ (by simp only; omega) (by simp -implicitDefEqProofs [liveOf, hl0])
        | succ c =>
          rw [hl0, hO0] at hgt
          have hgt1 : ¬ (Ls.length : Int) * 400 < (c : Int) + 1 + ((b : Int) + 1) := by omega
          have hb : (c + 1 + (b + 1)) * 24 ≤ 140737488355328 := by omega
          have op : ownV true 1 0 (c + 1 + (b + 1)) 3 = .sl 1 0 (c + 1 + (b + 1)) 3 := ownV_pos (by omega)
          have ob : ∀ cs, ownB true (c + 1 + (b + 1)) cs = some (.cells cs false) := fun cs => ownB_pos (by omega)
          simp -implicitDefEqProofs [hlt, hlt2, hm, e2, e3, cc, hgt1, t1, hb, hl0, hO0]
          refine rnd_next (i + 1, O ++ l) ⟨hlt, by simp only; rw [hs]⟩ (by simp only; omega) (by simp -implicitDefEqProofs [liveOf, hl0, hO0, op, ob])
    · have hi' : i = Ls.length := by omega
      subst hi'
      rw [List.take_length] at hO
      subst hO
      generalize allOf Ls = A at *
      cases hA0 : A.length with
      | zero =>
        have hnil : A = [] := List.length_eq_zero_iff.1 hA0
        subst hnil
        simp at c8
        cases d with
        | zero => simp -implicitDefEqProofs [c8]
        | succ d => simp -implicitDefEqProofs [c8]
      | succ c =>
        rw [hA0] at c8
        have t2 : List.take ((c + 1) * 3) (flatE markE A) = flatE markE A := by rw [List.take_of_length_le]; simp [hA0]
        simp at c8
        cases d with
        | zero => simp -implicitDefEqProofs [c8, t2]
        | succ d => simp -implicitDefEqProofs [c8, t2]
end Go.Ev.Try
