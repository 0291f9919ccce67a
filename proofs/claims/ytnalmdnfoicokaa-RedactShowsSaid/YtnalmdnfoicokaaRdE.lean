/-
  THE REDACT SEAT: span.Meet: is there a common byte? (own work)
-/
import Derived.Test.YtnalmdnfoicokaaRdD
set_option linter.unusedSimpArgs false
set_option linter.unusedVariables false
set_option maxRecDepth 100000
set_option maxHeartbeats 4000000
namespace Go.Ev.Try
open Go Go.Ev Go.Proofs

def common (a b : List Span) : Prop := ∃ x, covered a x ∧ covered b x
theorem sep_drop {l : List Span} (h : Sep l) (i : Nat) (hi : i < l.length) : ∀ s ∈ l.drop (i + 1), l[i].e < s.off := fun s hs => by
  obtain ⟨j, hj, rfl⟩ := List.mem_iff_getElem.1 hs
  rw [List.getElem_drop]
  rw [List.length_drop] at hj
  exact List.pairwise_iff_getElem.1 h.2 i (i + 1 + j) hi (by omega) (by omega)
theorem covered_drop (l : List Span) (i : Nat) (hi : i < l.length) (x : Int) : covered (l.drop i) x ↔ (l[i].good ∧ l[i].off ≤ x ∧ x < l[i].e) ∨ covered (l.drop (i + 1)) x := by
  rw [List.drop_eq_getElem_cons hi]
  show covered ([l[i]] ++ l.drop (i + 1)) x ↔ _
  rw [covered_append, covered_one]
theorem common_here {A B : List Span} {i j : Nat} (hi : i < A.length) (hj : j < B.length) (hA : A[i].good) (hB : B[j].good) {F E : Int} (hF : A[i].off ≤ F ∧ B[j].off ≤ F) (hE : E ≤ A[i].e ∧ E ≤ B[j].e) (h : F < E) : common A B :=
  ⟨F, ⟨A[i], List.getElem_mem hi, hA, hF.1, by omega⟩, ⟨B[j], List.getElem_mem hj, hB, hF.2, by omega⟩⟩
theorem common_left {A B : List Span} (hA : Sep A) (hB : Sep B) {i j : Nat} (hi : i < A.length) (hj : j < B.length) (hd : A[i].e ≤ B[j].off ∨ B[j].e ≤ A[i].off ) (he : A[i].e < B[j].e) : common (A.drop i) (B.drop j) ↔ common (A.drop (i + 1)) (B.drop j) := by
  unfold common
  constructor
  · rintro ⟨x, h1, h2⟩
    rcases (covered_drop A i hi x).1 h1 with ⟨g, h3, h4⟩ | h1
    · exfalso
      rcases (covered_drop B j hj x).1 h2 with ⟨g', h5, h6⟩ | ⟨s, hs, _, h5, h6⟩
      · omega
      · have := sep_drop hB j hj s hs; omega
    · exact ⟨x, h1, h2⟩
  · rintro ⟨x, h1, h2⟩
    exact ⟨x, (covered_drop A i hi x).2 (.inr h1), h2⟩
theorem common_right {A B : List Span} (hA : Sep A) (hB : Sep B) {i j : Nat} (hi : i < A.length) (hj : j < B.length) (hd : A[i].e ≤ B[j].off ∨ B[j].e ≤ A[i].off ) (he : ¬ A[i].e < B[j].e) : common (A.drop i) (B.drop j) ↔ common (A.drop i) (B.drop (j + 1)) := by
  unfold common
  constructor
  · rintro ⟨x, h1, h2⟩
    rcases (covered_drop B j hj x).1 h2 with ⟨g', h5, h6⟩ | h2
    · exfalso
      rcases (covered_drop A i hi x).1 h1 with ⟨g, h3, h4⟩ | ⟨s, hs, _, h3, h4⟩
      · omega
      · have := sep_drop hA i hi s hs; omega
    · exact ⟨x, h1, h2⟩
  · rintro ⟨x, h1, h2⟩
    exact ⟨x, h1, (covered_drop B j hj x).2 (.inr h2)⟩
theorem common_end {A B : List Span} {i j : Nat} (h : A.length ≤ i ∨ B.length ≤ j) : ¬ common (A.drop i) (B.drop j) := by
  rintro ⟨x, ⟨s, hs, _⟩, ⟨t, ht, _⟩⟩
  rcases h with h | h
  · rw [List.drop_of_length_le h] at hs; cases hs
  · rw [List.drop_of_length_le h] at ht; cases ht
theorem common_norm (a b : List Span) : common (normL a) (normL b) ↔ common a b := by
  unfold common
  simp only [(norm_facts _).2.2]

/-- What Meet gives. -/
def MeetPost (a b : List Span) (r : Option (V × Heap)) : Prop := ∃ O : List Span, r = some (ownV true 0 0 O.length 2, [ownB true O.length (flatE spanE O)]) ∧ (O ≠ [] ↔ common a b)

theorem meet_ok (a b : List Span) (za zb : Bool) (hla : a.length ≤ 100000) (hlb : b.length ≤ 100000) {k : Nat} (hk : a.length + b.length + 20 < k) :
    MeetPost a b (evF Try.prog Γ (k + 1) 28 [roV za a.length (flatE spanE a), roV zb b.length (flatE spanE b)] []) := by
  obtain ⟨k, rfl⟩ : ∃ j, k = j + 2 := ⟨k - 2, by omega⟩
  have ca := norm_ok a za hla (k := k + 1) (by omega)
  have cb := norm_ok b zb hlb (k := k + 1) (by omega)
  obtain ⟨sA, lA, _⟩ := norm_facts a
  obtain ⟨sB, lB, _⟩ := norm_facts b
  have hcn := common_norm a b
  generalize normL a = A at *
  generalize normL b = B at *
  rw [b28 (fun _ _ => rfl) _ _ (by simp)]
  cases hA : A.length with
  | zero =>
    have hnil : A = [] := List.length_eq_zero_iff.1 hA
    subst hnil
    have hno : ¬ common a b := by rw [← hcn]; rintro ⟨x, ⟨s, hs, _⟩, _⟩; cases hs
    simp at ca
    cases hB : B.length with
    | zero =>
      have hnil : B = [] := List.length_eq_zero_iff.1 hB
      subst hnil
      simp at cb
      simp -implicitDefEqProofs [ca, cb]
      generalize hx : evLoopC _ _ _ _ _ _ _ _ _ _ = R
      apply loop_gen hx (fun i : Nat => (mkL 73 .junk [(0, .nils), (1, .nils), (5, .nils), (6, .int .i64 0), (7, .int .i64 0)], [none, none, none])) (fun _ => True) (fun _ => 0) 0
      case hI => trivial
      case hq => omega
      case ht => simp -implicitDefEqProofs [liveOf, coldOf]
      case round =>
        rintro i _ _
        clear hx
        simp -implicitDefEqProofs
        exact ⟨[], rfl, by simp [hno]⟩
    | succ m =>
      rw [hB] at cb
      simp at cb
      simp -implicitDefEqProofs [ca, cb]
      generalize hx : evLoopC _ _ _ _ _ _ _ _ _ _ = R
      apply loop_gen hx (fun i : Nat => (mkL 73 .junk [(0, .nils), (1, .sl 1 0 (m + 1) 2), (5, .nils), (6, .int .i64 0), (7, .int .i64 0)], [none, some (.cells (flatE spanE B) false), none])) (fun _ => True) (fun _ => 0) 0
      case hI => trivial
      case hq => omega
      case ht => simp -implicitDefEqProofs [liveOf, coldOf]
      case round =>
        rintro i _ _
        clear hx
        simp -implicitDefEqProofs
        exact ⟨[], rfl, by simp [hno]⟩
  | succ n =>
    rw [hA] at ca
    simp at ca
    cases hB : B.length with
    | zero =>
      have hnil : B = [] := List.length_eq_zero_iff.1 hB
      subst hnil
      have hno : ¬ common a b := by rw [← hcn]; rintro ⟨x, _, ⟨s, hs, _⟩⟩; cases hs
      simp at cb
      have hpos : (0 : Int) < (n : Int) + 1 := by omega
      simp -implicitDefEqProofs [ca, cb]
      generalize hx : evLoopC _ _ _ _ _ _ _ _ _ _ = R
      apply loop_gen hx (fun i : Nat => (mkL 73 .junk [(0, .sl 0 0 (n + 1) 2), (1, .nils), (5, .nils), (6, .int .i64 0), (7, .int .i64 0)], [some (.cells (flatE spanE A) false), none, none])) (fun _ => True) (fun _ => 0) 0
      case hI => trivial
      case hq => omega
      case ht => simp -implicitDefEqProofs [liveOf, coldOf]
      case round =>
        rintro i _ _
        clear hx
        simp -implicitDefEqProofs [hpos]
        exact ⟨[], rfl, by simp [hno]⟩
    | succ m =>
      rw [hB] at cb
      simp at cb
      simp -implicitDefEqProofs [ca, cb]
      generalize hx : evLoopC _ _ _ _ _ _ _ _ _ _ = R
      apply loop_gen hx (fun a : Nat × Nat × List Span => (mkL 73 .junk [(0, .sl 0 0 (n + 1) 2), (1, .sl 1 0 (m + 1) 2), (5, ownV true 2 0 a.2.2.length 2), (6, .int .i64 a.1), (7, .int .i64 a.2.1)], [some (.cells (flatE spanE A) false), some (.cells (flatE spanE B) false), ownB true a.2.2.length (flatE spanE a.2.2)]))
        (fun s => s.1 ≤ n + 1 ∧ s.2.1 ≤ m + 1 ∧ s.2.2.length ≤ s.1 + s.2.1 ∧ ((s.2.2 ≠ [] ∨ common (A.drop s.1) (B.drop s.2.1)) ↔ common a b)) (fun s => (n + 1 - s.1) + (m + 1 - s.2.1)) (0, 0, [])
      case hI => simp [hcn]
      case hq => simp only; omega
      case ht => simp -implicitDefEqProofs [liveOf, coldOf]
      case round =>
        rintro ⟨i, j, O⟩ ⟨hi, hj, hOl, hinv⟩ _
        clear hx
        simp only at hi hj hOl hinv
        by_cases hlt : i < n + 1
        · have hltA : i < A.length := by omega
          have hlt2 : (i : Int) < (n : Int) + 1 := by omega
          by_cases hlj : j < m + 1
          · have hltB : j < B.length := by omega
            have hlj2 : (j : Int) < (m : Int) + 1 := by omega
            have e2 : addI .i64 (i : Int) 1 = (i : Int) + 1 := addI_i64 (by omega) (by omega)
            have e3 : addI .i64 (j : Int) 1 = (j : Int) + 1 := addI_i64 (by omega) (by omega)
            have ma := drop_spans A i hltA
            have mb := drop_spans B j hltB
            have h3 : 2 ≤ A.length * 2 - i * 2 := by omega
            have h4 : 2 ≤ B.length * 2 - j * 2 := by omega
            have hgA := sA.1 _ (List.getElem_mem hltA)
            have hgB := sB.1 _ (List.getElem_mem hltB)
            have hhere := @common_here A B i j hltA hltB hgA hgB
            have hleft := common_left sA sB hltA hltB
            have hright := common_right sA sB hltA hltB
            have hcab : common A B → common a b := hcn.1
            generalize A[i] = s at *
            generalize B[j] = t at *
            have cs := end_ok s hgA.1 (k := k + 1)
            have ct := end_ok t hgB.1 (k := k + 1)
            obtain ⟨⟨g1, g2, g3, g4⟩, g5⟩ := hgA
            obtain ⟨⟨k1, k2, k3, k4⟩, k5⟩ := hgB
            have hF : s.off ≤ (if s.off < t.off then t.off else s.off) ∧ t.off ≤ (if s.off < t.off then t.off else s.off) ∧ ((if s.off < t.off then t.off else s.off) = s.off ∨ (if s.off < t.off then t.off else s.off) = t.off) := by split <;> omega
            have hE : (if t.off + t.len < s.off + s.len then t.off + t.len else s.off + s.len) ≤ s.e ∧ (if t.off + t.len < s.off + s.len then t.off + t.len else s.off + s.len) ≤ t.e ∧ ((if t.off + t.len < s.off + s.len then t.off + t.len else s.off + s.len) = s.e ∨ (if t.off + t.len < s.off + s.len then t.off + t.len else s.off + s.len) = t.e) := by unfold Span.e; split <;> omega
            generalize hFd : (if s.off < t.off then t.off else s.off) = F at *
            generalize hEd : (if t.off + t.len < s.off + s.len then t.off + t.len else s.off + s.len) = E at *
            by_cases hfe : F < E
            · have hcom : common a b := hcab (hhere ⟨hF.1, hF.2.1⟩ ⟨hE.1, hE.2.1⟩ hfe)
              have e4 : subI .i64 E F = E - F := by unfold Span.e at hE; exact subI_i64 (by omega) (by omega)
              cases hO : O.length with
              | zero =>
                have hnil : O = [] := List.length_eq_zero_iff.1 hO
                subst hnil
                by_cases hse : s.off + s.len < t.off + t.len
                · simp -implicitDefEqProofs [hlt, hlt2, hlj, hlj2, e2, e3, ma, mb, h3, h4, cs, ct, hFd, hEd, hfe, e4, hse]
                  refine rnd_next (i + 1, j, [⟨F, E - F⟩]) ⟨hlt, hj, by simp; omega, by simp [hcom]⟩ (by simp only; omega) (by simp -implicitDefEqProofs [liveOf, coldOf, spanE_f])
                · simp -implicitDefEqProofs [hlt, hlt2, hlj, hlj2, e2, e3, ma, mb, h3, h4, cs, ct, hFd, hEd, hfe, e4, hse]
                  refine rnd_next (i, j + 1, [⟨F, E - F⟩]) ⟨hi, hlj, by simp; omega, by simp [hcom]⟩ (by simp only; omega) (by simp -implicitDefEqProofs [liveOf, coldOf, spanE_f])
              | succ c =>
                have hb : (c + 1 + 1) * 16 ≤ 140737488355328 := by omega
                by_cases hse : s.off + s.len < t.off + t.len
                · simp -implicitDefEqProofs [hlt, hlt2, hlj, hlj2, e2, e3, ma, mb, h3, h4, cs, ct, hFd, hEd, hfe, e4, hse, hO, hb]
                  refine rnd_next (i + 1, j, O ++ [⟨F, E - F⟩]) ⟨hlt, hj, by simp; omega, by simp [hcom]⟩ (by simp only; omega) (by simp -implicitDefEqProofs [liveOf, coldOf, spanE_f, hO])
                · simp -implicitDefEqProofs [hlt, hlt2, hlj, hlj2, e2, e3, ma, mb, h3, h4, cs, ct, hFd, hEd, hfe, e4, hse, hO, hb]
                  refine rnd_next (i, j + 1, O ++ [⟨F, E - F⟩]) ⟨hi, hlj, by simp; omega, by simp [hcom]⟩ (by simp only; omega) (by simp -implicitDefEqProofs [liveOf, coldOf, spanE_f, hO])
            · have hdis : s.e ≤ t.off ∨ t.e ≤ s.off := by unfold Span.e at *; omega
              have hl := hleft hdis
              have hr := hright hdis
              unfold Span.e at hl hr
              by_cases hse : s.off + s.len < t.off + t.len
              · have hx := hl hse
                rw [hx] at hinv
                cases hO : O.length with
                | zero =>
                  have hnil : O = [] := List.length_eq_zero_iff.1 hO
                  subst hnil
                  simp -implicitDefEqProofs [hlt, hlt2, hlj, hlj2, e2, e3, ma, mb, h3, h4, cs, ct, hFd, hEd, hfe, hse]
                  refine rnd_next (i + 1, j, []) ⟨hlt, hj, by simp, hinv⟩ (by simp only; omega) (by simp -implicitDefEqProofs [liveOf, coldOf])
                | succ c =>
                  simp -implicitDefEqProofs [hlt, hlt2, hlj, hlj2, e2, e3, ma, mb, h3, h4, cs, ct, hFd, hEd, hfe, hse, hO]
                  refine rnd_next (i + 1, j, O) ⟨hlt, hj, by simp only; omega, hinv⟩ (by simp only; omega) (by simp -implicitDefEqProofs [liveOf, coldOf, hO])
              · have hx := hr hse
                rw [hx] at hinv
                cases hO : O.length with
                | zero =>
                  have hnil : O = [] := List.length_eq_zero_iff.1 hO
                  subst hnil
                  simp -implicitDefEqProofs [hlt, hlt2, hlj, hlj2, e2, e3, ma, mb, h3, h4, cs, ct, hFd, hEd, hfe, hse]
                  refine rnd_next (i, j + 1, []) ⟨hi, hlj, by simp, hinv⟩ (by simp only; omega) (by simp -implicitDefEqProofs [liveOf, coldOf])
                | succ c =>
                  simp -implicitDefEqProofs [hlt, hlt2, hlj, hlj2, e2, e3, ma, mb, h3, h4, cs, ct, hFd, hEd, hfe, hse, hO]
                  refine rnd_next (i, j + 1, O) ⟨hi, hlj, by simp only; omega, hinv⟩ (by simp only; omega) (by simp -implicitDefEqProofs [liveOf, coldOf, hO])
          · have hno := common_end (A := A) (B := B) (i := i) (j := j) (.inr (by omega))
            have hlj2 : ¬ (j : Int) < (m : Int) + 1 := by omega
            simp only [hno, or_false] at hinv
            cases hO : O.length with
            | zero =>
              have hnil : O = [] := List.length_eq_zero_iff.1 hO
              subst hnil
              simp -implicitDefEqProofs [hlt, hlt2, hlj, hlj2]
              exact ⟨[], rfl, hinv⟩
            | succ c =>
              simp -implicitDefEqProofs [hlt, hlt2, hlj, hlj2, hO]
              exact ⟨O, by simp [hO], hinv⟩
        · have hno := common_end (A := A) (B := B) (i := i) (j := j) (.inl (by omega))
          have hlt2 : ¬ (i : Int) < (n : Int) + 1 := by omega
          simp only [hno, or_false] at hinv
          cases hO : O.length with
          | zero =>
            have hnil : O = [] := List.length_eq_zero_iff.1 hO
            subst hnil
            simp -implicitDefEqProofs [hlt, hlt2]
            exact ⟨[], rfl, hinv⟩
          | succ c =>
            simp -implicitDefEqProofs [hlt, hlt2, hO]
            exact ⟨O, by simp [hO], hinv⟩
end Go.Ev.Try
