/-
  THE LINE SEAT: Merge, Equal of marks, LineWindows' closure (own work).
-/
import Derived.Test.YthmpoblblgohcaaLineM
set_option linter.unusedSimpArgs false
set_option linter.unusedVariables false
set_option maxRecDepth 100000
set_option maxHeartbeats 4000000
namespace Go.Ev.Try
open Go Go.Ev Go.Proofs

theorem equal_ok (a b : List Mark) (za zb : Bool) (hl : a.length ≤ 5864062014805) {k : Nat} (hk : a.length < k) :
    evF Try.prog Γ (k + 1) 17 [roV za a.length (flatE markE a), roV zb b.length (flatE markE b)] [] = some (.bool (decide (a = b)), []) := by
  rw [b17 (fun _ _ => rfl) _ _ (by simp)]
  by_cases hne : a.length = b.length
  · simp -implicitDefEqProofs [hne]
    generalize hx : evLoopC _ _ _ _ _ _ _ _ _ _ = R
    apply loop_gen hx (fun i : Nat => (mkL 26 .junk [(0, roV za b.length (flatE markE a)), (1, roV zb b.length (flatE markE b)), (12, .int .i64 b.length), (13, .int .i64 i)], [none, none]))
      (fun i => i ≤ b.length ∧ a.take i = b.take i) (fun i => b.length - i) 0
    case hI => simp
    case hq => omega
    case ht => simp -implicitDefEqProofs [liveOf]
    case round =>
      rintro i ⟨hi, he⟩ _
      clear hx
      by_cases hlt : i < b.length
      · have hltA : i < a.length := by omega
        have hlt2 : (i : Int) < b.length := by omega
        have e2 : addI .i64 (i : Int) 1 = (i : Int) + 1 := addI_i64 (by omega) (by omega)
        have ma := at_marks a i hltA
        have mb := at_marks b i hlt
        have ta := List.take_succ_eq_append_getElem hltA
        have tb := List.take_succ_eq_append_getElem hlt
        by_cases hab : a[i] = b[i]
        · simp -implicitDefEqProofs [hlt, hlt2, e2, ma, mb, ne_mark, hab]
          exact rnd_next (i + 1) ⟨hlt, by rw [ta, tb, he, hab]⟩ (by omega) (by simp -implicitDefEqProofs [liveOf])
        · have hF : ¬ a = b := fun h => hab (by subst h; rfl)
          simp -implicitDefEqProofs [hlt, hlt2, e2, ma, mb, ne_mark, hab, hF]
      · have hi' : i = b.length := by omega
        subst hi'
        rw [List.take_length, List.take_of_length_le (by omega)] at he
        simp -implicitDefEqProofs [he]
  · have hF : ¬ a = b := fun h => hne (by rw [h])
    have hne2 : ¬ (a.length : Int) = b.length := by omega
    simp -implicitDefEqProofs [hne, hne2, hF]

def listsV (Ls : List (Bool × List Mark)) : List V := Ls.map fun x => roV x.1 x.2.length (flatE markE x.2)
theorem listsV_at (Ls : List (Bool × List Mark)) (i : Nat) (h : i < Ls.length) : List.take 1 (List.drop i (listsV Ls)) = [roV Ls[i].1 Ls[i].2.length (flatE markE Ls[i].2)] := by
  have hl : i < (Ls.map fun x => roV x.1 x.2.length (flatE markE x.2)).length := by simpa using h
  unfold listsV
  rw [List.drop_eq_getElem_cons hl, List.getElem_map]
  rfl
def allOf (Ls : List (Bool × List Mark)) : List Mark := Ls.flatMap (·.2)
theorem allOf_succ (Ls : List (Bool × List Mark)) (i : Nat) (h : i < Ls.length) : allOf (Ls.take (i + 1)) = allOf (Ls.take i) ++ Ls[i].2 := by
  unfold allOf; rw [List.take_succ_eq_append_getElem h, List.flatMap_append, List.flatMap_singleton]
theorem allOf_len (Ls : List (Bool × List Mark)) (h : ∀ x ∈ Ls, x.2.length ≤ 400) : (allOf Ls).length ≤ Ls.length * 400 := by
  induction Ls with
  | nil => simp [allOf]
  | cons x Ls ih =>
    have h1 := h x (by simp)
    have h2 := ih fun y hy => h y (by simp [hy])
    simp only [allOf, List.flatMap_cons, List.length_append, List.length_cons] at h2 ⊢
    omega

end Go.Ev.Try
