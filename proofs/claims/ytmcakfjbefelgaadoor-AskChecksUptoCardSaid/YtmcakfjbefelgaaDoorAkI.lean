/-
  THE ASK SEAT: cond, condNodes (own work).
-/
import Derived.Test.YtmcakfjbefelgaaDoorAkF
set_option linter.unusedSimpArgs false
set_option linter.unusedVariables false
set_option maxRecDepth 100000
set_option maxHeartbeats 4000000
namespace Go.Ev.Tryd
open Go Go.Ev Go.Proofs

mutual
/-- The first error of a condition, a node before its kids. -/
def condF : Cond → Int
  | .mk o s l h z ks => if formC (.mk o s l h z ks) = 0 then condFs ks else formC (.mk o s l h z ks)
def condFs : List Cond → Int
  | [] => 0
  | c :: l => if condF c = 0 then condFs l else condF c
end
theorem condF_eq (c : Cond) : condF c = if formC c = 0 then condFs c.kids else formC c := by cases c; rfl
mutual
/-- The nodes of a condition, each before its kids. -/
def nodesC : Cond → List Cond
  | .mk o s l h z ks => .mk o s l h z ks :: nodesCs ks
def nodesCs : List Cond → List Cond
  | [] => []
  | c :: l => nodesC c ++ nodesCs l
end
theorem nodesC_eq (c : Cond) : nodesC c = c :: nodesCs c.kids := by cases c; rfl
theorem nodesCs_snoc (l : List Cond) (c : Cond) : nodesCs (l ++ [c]) = nodesCs l ++ nodesC c := by
  induction l with
  | nil => simp [nodesCs]
  | cons x l ih => simp only [List.cons_append, nodesCs, ih, List.append_assoc]
/-- The first error of a list of nodes. -/
def firstF : List Cond → Int
  | [] => 0
  | c :: l => if formC c = 0 then firstF l else formC c
theorem firstF_pos {c : Cond} {l : List Cond} (h : formC c = 0) : firstF (c :: l) = firstF l := if_pos h
theorem firstF_neg {c : Cond} {l : List Cond} (h : ¬ formC c = 0) : firstF (c :: l) = formC c := if_neg h
theorem firstF_append (a b : List Cond) : firstF (a ++ b) = if firstF a = 0 then firstF b else firstF a := by
  induction a with
  | nil => rfl
  | cons c a ih =>
    rw [List.cons_append]
    by_cases h : formC c = 0
    · rw [firstF_pos h, firstF_pos h, ih]
    · rw [firstF_neg h, firstF_neg h, if_neg h]
theorem both_nodes : ∀ (n : Nat), (∀ c, wt c ≤ n → (nodesC c).length = sizeC c ∧ firstF (nodesC c) = condF c ∧ ∀ x ∈ nodesC c, wt x ≤ wt c) ∧ (∀ l, wts l ≤ n → (nodesCs l).length = sizeCs l ∧ firstF (nodesCs l) = condFs l ∧ ∀ x ∈ nodesCs l, wt x ≤ wts l) := by
  intro n
  induction n with
  | zero =>
    refine ⟨fun c h => ?_, fun l h => ?_⟩
    · have := wt_eq c; omega
    · cases l with
      | nil => exact ⟨rfl, rfl, fun x hx => by cases hx⟩
      | cons c l => simp only [wts] at h; omega
  | succ n ih =>
    have hc : ∀ c, wt c ≤ n + 1 → (nodesC c).length = sizeC c ∧ firstF (nodesC c) = condF c ∧ ∀ x ∈ nodesC c, wt x ≤ wt c := fun c h => by
      have h1 := wt_eq c
      obtain ⟨a, b, d⟩ := ih.2 c.kids (by omega)
      rw [nodesC_eq, sizeC_eq, condF_eq]
      refine ⟨by simp [a]; omega, by simp only [firstF, b], fun x hx => ?_⟩
      rcases List.mem_cons.1 hx with rfl | hx
      · exact Nat.le_refl _
      · have := d x hx; omega
    refine ⟨hc, fun l h => ?_⟩
    cases l with
    | nil => exact ⟨rfl, rfl, fun x hx => by cases hx⟩
    | cons c l =>
      simp only [wts] at h
      obtain ⟨a, b, d⟩ := ih.1 c (by omega)
      obtain ⟨a2, b2, d2⟩ := ih.2 l (by omega)
      refine ⟨by simp [nodesCs, sizeCs, a, a2], by rw [nodesCs, firstF_append, b, b2, condFs], fun x hx => ?_⟩
      rw [nodesCs, List.mem_append] at hx
      simp only [wts]
      rcases hx with hx | hx
      · have := d x hx; omega
      · have := d2 x hx; omega
theorem nodesC_len (c : Cond) : (nodesC c).length = sizeC c := ((both_nodes (wt c)).1 c (Nat.le_refl _)).1
theorem nodesCs_len (l : List Cond) : (nodesCs l).length = sizeCs l := ((both_nodes (wts l)).2 l (Nat.le_refl _)).1
theorem nodesCs_first (l : List Cond) : firstF (nodesCs l) = condFs l := ((both_nodes (wts l)).2 l (Nat.le_refl _)).2.1
theorem nodesCs_wt (l : List Cond) : ∀ x ∈ nodesCs l, wt x ≤ wts l := ((both_nodes (wts l)).2 l (Nat.le_refl _)).2.2

theorem cond_ok : ∀ (N : Nat) (c : Cond), wt c ≤ N → N ≤ 1152921504606846976 → ∀ {k : Nat}, wt c + 300 < k → evF Tryd.prog Γ (k + 1) 26 [.agg (condE.f c)] [] = some (.int .i64 (condF c), []) := by
  intro N
  induction N with
  | zero => intro c h; have := wt_eq c; omega
  | succ N ih =>
    intro c hc hN k hk
    have hkl := kids_wt c
    have hce := condF_eq c
    have ih2 : ∀ (i : Nat) (h : i < c.kids.length), evF Tryd.prog Γ k 26 [.agg (condE.f c.kids[i])] [] = some (.int .i64 (condF c.kids[i]), []) := fun i h => by
      have h1 := kid_wt (List.getElem_mem h)
      obtain ⟨k, rfl⟩ : ∃ j, k = j + 1 := ⟨k - 1, by omega⟩
      exact ih _ (by omega) (by omega) (by omega)
    have c1 : evF Tryd.prog Γ k 53 [.agg (condE.f c)] [] = some (.int .i64 (formC c), []) := by
      obtain ⟨k, rfl⟩ : ∃ j, k = j + 1 := ⟨k - 1, by omega⟩
      exact form_ok c (by omega)
    rw [hce]
    rw [b26 (fun _ _ => rfl) _ _ (by simp)]
    have hf := condE_f c
    generalize c.kids = K at *
    rw [hf] at c1 ⊢
    generalize formC c = fc at *
    clear hf hce ih
    by_cases h0 : fc = 0
    case neg => simp -implicitDefEqProofs [c1, h0]
    subst h0
    simp -implicitDefEqProofs [c1]
    generalize hx : evLoopC _ _ _ _ _ _ _ _ _ _ = R
    apply loop_gen hx (fun i : Nat => (mkL 25 .junk [(13, roV c.z K.length (flatE condE K)), (14, .int .i64 K.length), (15, .int .i64 i)], [none]))
      (fun i => i ≤ K.length ∧ condFs (K.drop i) = condFs K) (fun i => K.length - i) 0
    case hI => exact ⟨Nat.zero_le _, rfl⟩
    case hq => omega
    case ht => simp -implicitDefEqProofs [liveOf]
    case round =>
      rintro i ⟨hi, hF⟩ _
      clear hx
      by_cases hlt : i < K.length
      · have hlt2 : (i : Int) < K.length := by omega
        have e2 : addI .i64 (i : Int) 1 = (i : Int) + 1 := addI_i64 (by omega) (by omega)
        have hat := at_cond' K i hlt
        rw [List.drop_eq_getElem_cons hlt, condFs] at hF
        have h5 : 5 ≤ K.length * 5 - i * 5 := by omega
        have c2 := ih2 i hlt
        rw [condE_f] at hat c2
        generalize K[i] = x at *
        generalize condF x = fx at *
        by_cases hx0 : fx = 0
        · rw [if_pos hx0] at hF
          simp -implicitDefEqProofs [hlt, hlt2, e2, hat, h5, c2, hx0]
          exact rnd_next (i + 1) ⟨hlt, hF⟩ (by omega) (by simp -implicitDefEqProofs [liveOf])
        · rw [if_neg hx0] at hF
          simp -implicitDefEqProofs [hlt, hlt2, e2, hat, h5, c2, hx0, ← hF]
      · obtain rfl : i = K.length := by omega
        rw [List.drop_length] at hF
        have hz : condFs K = 0 := hF.symm
        simp -implicitDefEqProofs [hz]
end Go.Ev.Tryd
