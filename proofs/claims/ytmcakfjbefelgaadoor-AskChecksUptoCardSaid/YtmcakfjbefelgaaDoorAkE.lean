/-
  THE ASK SEAT: Size, and what conditions weigh (own work).
-/
import Derived.Test.YtmcakfjbefelgaaDoorAkD
set_option linter.unusedSimpArgs false
set_option linter.unusedVariables false
set_option maxRecDepth 100000
set_option maxHeartbeats 4000000
namespace Go.Ev.Tryd
open Go Go.Ev Go.Proofs

mutual
/-- The number of nodes. -/
def sizeC : Cond → Nat
  | .mk _ _ _ _ _ ks => 1 + sizeCs ks
def sizeCs : List Cond → Nat
  | [] => 0
  | c :: l => sizeC c + sizeCs l
end
mutual
/-- Letters and nodes together: what the walks need. -/
def wt : Cond → Nat
  | .mk _ s _ _ _ ks => 1 + s.size + wts ks
def wts : List Cond → Nat
  | [] => 0
  | c :: l => 1 + wt c + wts l
end
theorem sizeC_eq (c : Cond) : sizeC c = 1 + sizeCs c.kids := by cases c; rfl
theorem wt_eq (c : Cond) : wt c = 1 + c.s.size + wts c.kids := by cases c; rfl
theorem wts_len (l : List Cond) : l.length ≤ wts l := by
  induction l with
  | nil => simp
  | cons c l ih => simp only [wts, List.length_cons]; omega
theorem wts_mem {c : Cond} {l : List Cond} (h : c ∈ l) : wt c < wts l := by
  induction l with
  | nil => cases h
  | cons x l ih =>
    simp only [wts]
    rcases List.mem_cons.1 h with rfl | h
    · omega
    · have := ih h; omega
theorem kid_wt {c x : Cond} (h : x ∈ c.kids) : wt x < wt c := by
  have := wts_mem h
  rw [wt_eq c]; omega
theorem kids_wt (c : Cond) : c.kids.length < wt c := by
  have := wts_len c.kids
  rw [wt_eq c]; omega
theorem sizeCs_wts (l : List Cond) : sizeCs l ≤ wts l := by
  have key : ∀ (n : Nat), (∀ c, wt c ≤ n → sizeC c ≤ wt c) ∧ (∀ l, wts l ≤ n → sizeCs l ≤ wts l) := by
    intro n
    induction n with
    | zero =>
      refine ⟨fun c h => ?_, fun l h => ?_⟩
      · have := wt_eq c; omega
      · cases l with
        | nil => exact Nat.le_refl _
        | cons c l => simp only [wts] at h; omega
    | succ n ih =>
      have hc : ∀ c, wt c ≤ n + 1 → sizeC c ≤ wt c := fun c h => by
        have h1 := wt_eq c
        have := ih.2 c.kids (by omega)
        rw [sizeC_eq]; omega
      refine ⟨hc, fun l h => ?_⟩
      cases l with
      | nil => exact Nat.le_refl _
      | cons c l =>
        simp only [wts, sizeCs] at h ⊢
        have h1 := ih.1 c (by omega)
        have h2 := ih.2 l (by omega)
        omega
  exact (key (wts l)).2 l (Nat.le_refl _)
theorem sizeC_wt (c : Cond) : sizeC c ≤ wt c := by
  have := sizeCs_wts c.kids
  rw [sizeC_eq, wt_eq]; omega
theorem sizeCs_snoc (l : List Cond) (c : Cond) : sizeCs (l ++ [c]) = sizeCs l + sizeC c := by
  induction l with
  | nil => simp [sizeCs]
  | cons x l ih => simp only [List.cons_append, sizeCs, ih]; omega
theorem sizeCs_take_le (l : List Cond) (i : Nat) : sizeCs (l.take i) ≤ sizeCs l := by
  induction l generalizing i with
  | nil => simp
  | cons x l ih =>
    cases i with
    | zero => simp [sizeCs]
    | succ i => simp only [List.take_succ_cons, sizeCs]; have := ih i; omega
theorem at_cond' (l : List Cond) (i : Nat) (h : i < l.length) : List.take 5 (List.drop (i * 5) (flatE condE l)) = condE.f l[i] := at_flatE condE rfl l i h

theorem size_ok : ∀ (N : Nat) (c : Cond), wt c ≤ N → N ≤ 1152921504606846976 → ∀ {k : Nat}, wt c + 20 < k → evF Tryd.prog Γ (k + 1) 8 [.agg (condE.f c)] [] = some (.int .i64 (sizeC c), []) := by
  intro N
  induction N with
  | zero => intro c h; have := wt_eq c; omega
  | succ N ih =>
    intro c hc hN k hk
    have hkl := kids_wt c
    have hsz := sizeC_wt c
    have hse := sizeC_eq c
    rw [hse] at hsz
    have ih2 : ∀ (i : Nat) (h : i < c.kids.length), evF Tryd.prog Γ k 8 [.agg (condE.f c.kids[i])] [] = some (.int .i64 (sizeC c.kids[i]), []) := fun i h => by
      have h1 := kid_wt (List.getElem_mem h)
      obtain ⟨k, rfl⟩ : ∃ j, k = j + 1 := ⟨k - 1, by omega⟩
      exact ih _ (by omega) (by omega) (by omega)
    rw [hse]
    rw [b8 (fun _ _ => rfl) _ _ (by simp)]
    have hf := condE_f c
    generalize c.kids = K at *
    rw [hf]
    clear hf hse ih
    simp -implicitDefEqProofs
    generalize hx : evLoopC _ _ _ _ _ _ _ _ _ _ = R
    apply loop_gen hx (fun i : Nat => (mkL 19 .junk [(3, .int .i64 ((1 + sizeCs (K.take i) : Nat) : Int)), (7, roV c.z K.length (flatE condE K)), (8, .int .i64 K.length), (9, .int .i64 i)], [none]))
      (fun i => i ≤ K.length) (fun i => K.length - i) 0
    case hI => exact Nat.zero_le _
    case hq => omega
    case ht => simp -implicitDefEqProofs [liveOf, sizeCs]
    case round =>
      rintro i hi _
      have hi : i ≤ K.length := hi
      clear hx
      by_cases hlt : i < K.length
      · have hlt2 : (i : Int) < K.length := by omega
        have e2 : addI .i64 (i : Int) 1 = (i : Int) + 1 := addI_i64 (by omega) (by omega)
        have hat := at_cond' K i hlt
        have hs : sizeCs (K.take (i + 1)) = sizeCs (K.take i) + sizeC K[i] := by rw [List.take_succ_eq_append_getElem hlt, sizeCs_snoc]
        have hle := sizeCs_take_le K (i + 1)
        have h5 : 5 ≤ K.length * 5 - i * 5 := by omega
        have c1 := ih2 i hlt
        have e3 : addI .i64 ((1 + sizeCs (K.take i) : Nat) : Int) (sizeC K[i] : Int) = ((1 + sizeCs (K.take (i + 1)) : Nat) : Int) := by rw [addI_i64 (by omega) (by omega)]; omega
        generalize hS1 : sizeCs (K.take (i + 1)) = S1 at *
        generalize sizeCs (K.take i) = S0 at *
        generalize sizeC K[i] = sz at *
        rw [condE_f] at hat c1
        generalize K[i] = x at *
        push_cast at e3
        simp -implicitDefEqProofs [hlt, hlt2, e2, hat, h5, c1, e3]
        exact rnd_next (i + 1) hlt (by omega) (by simp -implicitDefEqProofs [liveOf, hS1])
      · obtain rfl : i = K.length := by omega
        simp -implicitDefEqProofs
end Go.Ev.Tryd
