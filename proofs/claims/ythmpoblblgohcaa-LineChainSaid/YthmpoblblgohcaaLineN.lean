/-
  THE LINE SEAT: the stable sort by ends (own work; after LineB).
-/
import Derived.Test.YthmpoblblgohcaaLineM
set_option linter.unusedSimpArgs false
set_option linter.unusedVariables false
set_option maxRecDepth 100000
set_option maxHeartbeats 4000000
namespace Go.Ev.Try
open Go Go.Ev Go.Proofs
namespace ByEnd

def less (a b : Mark) : Bool := decide (a.high < b.high)
theorem less_iff {a b : Mark} : less a b = true ↔ a.high < b.high := by unfold less; simp
theorem cmpE_less (a b : Mark) : decide (cmpI a.high b.high < 0) = less a b := by
  rw [Bool.eq_iff_iff]
  unfold cmpI less
  simp only [decide_eq_true_eq]
  by_cases h1 : a.high < b.high
  · simp [h1]
  · by_cases h2 : b.high < a.high
    · simp [h1, h2]
    · simp [h1, h2]
theorem less_trans {a b c : Mark} (h : less a b = true) (k : less b c = true) : less a c = true := by
  rw [less_iff] at *; omega
theorem less_irrefl (a : Mark) : less a a = false := by
  rw [← Bool.not_eq_true, less_iff]; omega
theorem cmpE_ok (a b : Mark) {k : Nat} (hk : 102 < k) : evF Try.prog Γ (k + 1) 48 [.agg (markE.f a), .agg (markE.f b)] [] = some (.int .i64 (cmpI a.high b.high), []) := by
  obtain ⟨k, rfl⟩ : ∃ j, k = j + 2 := ⟨k - 2, by omega⟩
  have c := fun a b => cmp_ok a b (k := k)
  rw [b48 (fun _ _ => rfl) _ _ (by simp)]
  simp -implicitDefEqProofs [markE_f, c]

/-- x laid into a sorted list: behind those that are not greater. -/
def ins (x : Mark) : List Mark → List Mark
  | [] => [x]
  | y :: S => if less x y then x :: y :: S else y :: ins x S
def Sorted (l : List Mark) : Prop := l.Pairwise fun a b => less b a = false
theorem ins_len (x : Mark) (S : List Mark) : (ins x S).length = S.length + 1 := by
  induction S with
  | nil => rfl
  | cons y S ih => unfold ins; split <;> simp [ih]
theorem ins_perm (x : Mark) (S : List Mark) : (ins x S).Perm (x :: S) := by
  induction S with
  | nil => exact List.Perm.refl _
  | cons y S ih =>
    unfold ins
    split
    · exact List.Perm.refl _
    · exact (ih.cons y).trans (List.Perm.swap x y S)
theorem ins_sorted (x : Mark) (S : List Mark) (h : Sorted S) : Sorted (ins x S) := by
  induction S with
  | nil => exact List.pairwise_singleton _ _
  | cons y S ih =>
    obtain ⟨h1, h2⟩ := List.pairwise_cons.1 h
    unfold ins
    split
    · rename_i hxy
      refine List.pairwise_cons.2 ⟨fun z hz => ?_, h⟩
      rcases List.mem_cons.1 hz with rfl | hz
      · cases hq : less z x with
        | false => rfl
        | true => have := less_trans hxy hq; rw [less_irrefl] at this; cases this
      · cases hq : less z x with
        | false => rfl
        | true =>
          have := less_trans hq hxy
          rw [h1 z hz] at this; cases this
    · rename_i hxy
      refine List.pairwise_cons.2 ⟨fun z hz => ?_, ih h2⟩
      have hz' := (ins_perm x S).mem_iff.1 hz
      rcases List.mem_cons.1 hz' with rfl | hz'
      · simpa using hxy
      · exact h1 z hz'
theorem ins_app (x : Mark) (A B : List Mark) (hA : ∀ a ∈ A, less x a = false) : ins x (A ++ B) = A ++ ins x B := by
  induction A with
  | nil => rfl
  | cons a A ih =>
    have := hA a (by simp)
    simp only [List.cons_append, ins, this, Bool.false_eq_true, if_false, List.cons.injEq, true_and]
    exact ih fun b hb => hA b (by simp [hb])
def isort (l : List Mark) : List Mark := l.foldl (fun S x => ins x S) []

theorem isort_snoc (l : List Mark) (x : Mark) : isort (l ++ [x]) = ins x (isort l) := by simp [isort]
theorem isort_sorted (l : List Mark) : Sorted (isort l) := by
  have : ∀ (l S : List Mark), Sorted S → Sorted (l.foldl (fun S x => ins x S) S) := by
    intro l
    induction l with
    | nil => intro S h; exact h
    | cons x l ih => intro S h; exact ih _ (ins_sorted x S h)
  exact this l [] List.Pairwise.nil
theorem isort_perm (l : List Mark) : (isort l).Perm l := by
  have : ∀ (l S : List Mark), (l.foldl (fun S x => ins x S) S).Perm (S ++ l) := by
    intro l
    induction l with
    | nil => intro S; simp
    | cons x l ih =>
      intro S
      refine (ih _).trans ?_
      refine ((ins_perm x S).append_right l).trans ?_
      simp only [List.cons_append]
      exact List.perm_middle.symm
  have h := this l []
  rw [List.nil_append] at h
  exact h
theorem isort_length (l : List Mark) : (isort l).length = l.length := (isort_perm l).length_eq

theorem ins_end {S A B : List Mark} {x y : Mark} (hS : Sorted S) (hSA : S = (A ++ [y]) ++ B) (h : less x y = false) (hB : ins x B = x :: B) : ins x S = (A ++ [y]) ++ x :: B := by
  subst hSA
  rw [ins_app, hB]
  intro a ha
  rcases List.mem_append.1 ha with ha | ha
  · have h2 := (List.pairwise_append.1 (List.pairwise_append.1 hS).1).2.2 a ha y (by simp)
    rw [← Bool.not_eq_true, less_iff] at *
    omega
  · simp at ha; subst ha; exact h

theorem sort58 (l : List Mark) (hn : l.length ≤ 1000) {k : Nat} (hk : 2000 < k) :
    evF Try.prog Γ (k + 1) 58 [.sl 0 0 l.length 3, .int .i64 0, .int .i64 l.length, .fn (.func 48) [] []] [some (.cells (flatE markE l) false)] = some (.tup [], [some (.cells (flatE markE (isort l)) false)]) := by
  obtain ⟨k, rfl⟩ : ∃ j, k = j + 1 := ⟨k - 1, by omega⟩
  have c := fun a b => cmpE_ok a b (k := k) (by omega)
  simp only [markE_f] at c
  have e0 : addI .i64 0 1 = 1 := addI_i64 (by omega) (by omega)
  rw [b58 (fun _ _ => rfl) _ _ (by simp)]
  simp -implicitDefEqProofs [e0]
  generalize hx : evLoopC _ _ _ _ _ _ _ _ _ _ = R
  apply loop_gen hx (fun a : Nat × List Mark => (mkL 53 .junk [(0, .sl 0 0 l.length 3), (1, .int .i64 0), (2, .int .i64 l.length), (3, .fn (.func 48) [] []), (8, .int .i64 a.1)], [some (.cells (flatE markE a.2) false), none]))
    (fun a => 1 ≤ a.1 ∧ (a.1 ≤ l.length ∨ a.1 = 1) ∧ a.2 = isort (l.take a.1) ++ l.drop a.1) (fun a => l.length - a.1) (1, l)
  case hI =>
    refine ⟨by simp, by simp, ?_⟩
    cases l with
    | nil => rfl
    | cons x l => rfl
  case hq => simp only; omega
  case ht => simp -implicitDefEqProofs [liveOf]
  case round =>
    rintro ⟨i, L⟩ ⟨h1, h2, hL⟩ _
    simp only at h1 h2 hL
    clear hx
    by_cases hlt : i < l.length
    · have hlt2 : (i : Int) < l.length := by omega
      have e2 : addI .i64 (i : Int) 1 = (i : Int) + 1 := addI_i64 (by omega) (by omega)
      rw [List.drop_eq_getElem_cons hlt] at hL
      have hsn : isort (l.take (i + 1)) = ins l[i] (isort (l.take i)) := by
        rw [List.take_succ_eq_append_getElem hlt, isort_snoc]
      have hS := isort_sorted (l.take i)
      have hSl : (isort (l.take i)).length = i := by rw [isort_length, List.length_take]; omega
      have hdl : (l.drop (i + 1)).length = l.length - (i + 1) := by simp
      simp -implicitDefEqProofs [hlt2]
      generalize isort (l.take i) = S at *
      generalize l[i] = x at *
      generalize hC : l.drop (i + 1) = C at *
      generalize hy : evLoopC _ _ _ _ _ _ _ _ _ _ = R2
      apply loop_gen hy (fun a : Nat × List Mark => (mkL 53 .junk [(0, .sl 0 0 l.length 3), (1, .int .i64 0), (2, .int .i64 l.length), (3, .fn (.func 48) [] []), (8, .int .i64 i), (9, .int .i64 a.1)], [some (.cells (flatE markE a.2) false), none]))
        (fun a => ∃ A B, a.1 = A.length ∧ S = A ++ B ∧ a.2 = A ++ x :: B ++ C ∧ ins x B = x :: B) (fun a => a.1) (i, L)
      case hI => exact ⟨S, [], hSl.symm, by simp, by simp [hL], rfl⟩
      case hq => simp only; omega
      case ht => simp -implicitDefEqProofs [liveOf]
      case round =>
        rintro ⟨j, M⟩ ⟨A, B, hj, hSA, hM, hB⟩ _
        simp only at hj hSA hM
        clear hy
        have hML : M.length = l.length := by
          rw [hM]; simp [hdl]
          have : S.length = A.length + B.length := by rw [hSA]; simp
          omega
        rcases List.eq_nil_or_concat A with rfl | ⟨A', y, rfl⟩
        · simp at hj
          subst hj
          simp -implicitDefEqProofs [e2]
          refine rnd_next (i + 1, M) ⟨by simp, .inl hlt, ?_⟩ (by simp only; omega) (by simp -implicitDefEqProofs [liveOf])
          simp only
          rw [hsn, hC, hM, hSA, List.nil_append, List.nil_append, hB]
        · have hjp : j = A'.length + 1 := by rw [hj]; simp
          subst hjp
          rw [List.concat_eq_append] at hSA hM
          have hMe : M = A' ++ y :: x :: (B ++ C) := by rw [hM]; simp
          generalize hp : A'.length = p at *
          have hlen : M.length = p + 2 + (B ++ C).length := by rw [hMe]; simp [hp]; omega
          have hp0 : p < M.length := by omega
          have hp1 : p + 1 < M.length := by omega
          have gy : M[p] = y := by simp only [hMe]; rw [List.getElem_append_right (by omega)]; simp [hp]
          have gx : M[p + 1] = x := by simp only [hMe]; rw [List.getElem_append_right (by omega)]; simp [hp]
          have my := at_marks M p hp0
          have mx := at_marks M (p + 1) hp1
          rw [gy] at my
          rw [gx] at mx
          have b1 : (p : Int) + 1 < l.length := by omega
          have b2 : (p : Int) < l.length := by omega
          have b3 : 3 ≤ M.length * 3 - (p + 1) * 3 := by omega
          have b4 : 3 ≤ M.length * 3 - p * 3 := by omega
          have e3 : subI .i64 ((p : Int) + 1) 1 = (p : Int) := by rw [subI_i64 (by omega) (by omega)]; omega
          have e4 : (0 : Int) < (p : Int) + 1 := by omega
          have e5 : (0 : Int) ≤ (p : Int) + 1 := by omega
          have b5 : (p + 1) * 3 + 3 ≤ M.length * 3 := by omega
          have b6 : p * 3 + 3 ≤ M.length * 3 := by omega
          have s1 := set_marks M (p + 1) y hp1
          have s2 := set_marks (M.set (p + 1) y) p x (by simpa using hp0)
          have hcm := cmpE_less x y
          cases hxy : less x y with
          | true =>
            rw [hxy] at hcm
            have hcm' : cmpI x.high y.high < 0 := of_decide_eq_true hcm
            simp -implicitDefEqProofs [e2, e3, e4, e5, b1, b2, b3, b4, b5, b6, my, mx, c, hcm', s1, s2]
            refine rnd_next (p, (M.set (p + 1) y).set p x) ⟨A', hp.symm, y :: B, by rw [hSA]; simp, ?_, ?_⟩ (by simp) (by simp -implicitDefEqProofs [liveOf])
            · simp only
              rw [hMe, List.set_append_right _ _ (by omega), List.set_append_right _ _ (by omega), hp, Nat.add_sub_cancel_left, Nat.sub_self]
              rfl
            · unfold ins
              rw [if_pos hxy]
          | false =>
            rw [hxy] at hcm
            have hcm' : ¬ cmpI x.high y.high < 0 := of_decide_eq_false hcm
            simp -implicitDefEqProofs [e2, e3, e4, e5, b1, b2, b3, b4, my, mx, c, hcm']
            refine rnd_next (i + 1, M) ⟨by simp, .inl hlt, ?_⟩ (by simp only; omega) (by simp -implicitDefEqProofs [liveOf])
            simp only
            rw [hsn, hC, hM, ins_end hS hSA hxy hB]
    · have hi : i = l.length ∨ l.length ≤ i := by omega
      have hlt2 : ¬ (i : Int) < l.length := by omega
      rw [List.take_of_length_le (by omega), List.drop_of_length_le (by omega), List.append_nil] at hL
      subst hL
      simp -implicitDefEqProofs [hlt2]

theorem stable_ok (l : List Mark) (hn : l.length ≤ 19) {k : Nat} (hk : 2010 < k) :
    evF Try.prog Γ (k + 1) 47 [.sl 0 0 l.length 3, .fn (.func 48) [] []] [some (.cells (flatE markE l) false)] = some (.tup [], [some (.cells (flatE markE (isort l)) false)]) := by
  obtain ⟨k, rfl⟩ : ∃ j, k = j + 2 := ⟨k - 2, by omega⟩
  have c := sort58 l (by omega) (k := k) (by omega)
  have h20 : ¬ (20 : Int) ≤ l.length := by omega
  have h20' : ¬ (20 : Int) < l.length := by omega
  have c56 : evF Try.prog Γ (k + 2) 56 [.sl 0 0 l.length 3, .int .i64 l.length, .fn (.func 48) [] []] [some (.cells (flatE markE l) false)] = some (.tup [], [some (.cells (flatE markE (isort l)) false)]) := by
    rw [b56 (fun _ _ => rfl) _ _ (by simp)]
    simp -implicitDefEqProofs
    generalize hx : evLoopC _ _ _ _ _ _ _ _ _ _ = R
    apply loop_gen hx (fun _ : Nat => (mkL 63 .junk [(0, .sl 0 0 l.length 3), (1, .int .i64 l.length), (2, .fn (.func 48) [] []), (6, .int .i64 20), (7, .int .i64 0), (8, .int .i64 20)], [some (.cells (flatE markE l) false), none])) (fun _ => True) (fun _ => 0) 0
    case hI => trivial
    case hq => omega
    case ht => simp -implicitDefEqProofs [liveOf]
    case round =>
      intro i _ _
      clear hx
      simp -implicitDefEqProofs [h20, c]
      generalize hy : evLoopC _ _ _ _ _ _ _ _ _ _ = R2
      apply loop_gen hy (fun _ : Nat => (mkL 63 .junk [(0, .sl 0 0 l.length 3), (1, .int .i64 l.length), (2, .fn (.func 48) [] []), (6, .int .i64 20)], [some (.cells (flatE markE (isort l)) false), none])) (fun _ => True) (fun _ => 0) 0
      case hI => trivial
      case hq => omega
      case ht => simp -implicitDefEqProofs [liveOf]
      case round =>
        intro i _ _
        clear hy
        simp -implicitDefEqProofs [h20']
  rw [b47 (fun _ _ => rfl) _ _ (by simp)]
  simp -implicitDefEqProofs [c56]
end ByEnd
end Go.Ev.Try
