/-
  THE LINE SEAT: the law LineTracks, its walk (own work).
-/
import Derived.Test.YthmpoblblgohcaaLineJ
set_option linter.unusedSimpArgs false
set_option linter.unusedVariables false
set_option maxRecDepth 100000
set_option maxHeartbeats 4000000
namespace Go.Ev.Try
open Go Go.Ev Go.Proofs

theorem tz3 : tzero Try.prog 3 = some (.int .i64 0) := by kernel_rfl

theorem law3_ok (l : List Int) (z : Bool) {k : Nat} (hk : 4000 < k) :
    evF Try.prog Γ (k + 1) 3 [roV z l.length (flatE (intE .i64) l)] [] = some (.bool true, []) := by
  obtain ⟨k, rfl⟩ : ∃ j, k = j + 1 := ⟨k - 1, by omega⟩
  obtain ⟨ms, hM, h11, c1⟩ := marks_ok l z (k := k) (by omega)
  have hV := hM.valid (by omega)
  have c2 := of_ok ms (by omega) hV (k := k) (by omega)
  have hlen := isort_length ms
  have hsort := isort_sorted ms
  have hw : ∀ m ∈ isort ms, m.low ≤ m.high := fun m h => (hV.range m h).2.2
  have c3 := tracks_ok (isort ms) true hV (by omega) (k := k) (by omega)
  have c4 := crowd_ok (isort ms) true hV (k := k) (by omega)
  have c5 := lined_ok (k := k) (by omega)
  rw [b3 (fun _ _ => rfl) _ _ (by simp)]
  generalize isort ms = S at *
  cases hn : ms.length with
  | zero =>
    have hS : S = [] := List.length_eq_zero_iff.1 (by omega)
    subst hS
    rw [hn] at c1 c2
    rw [show (crowd ([] : List Mark)) = (0, 0) from rfl] at c4
    rw [show (tracks ([] : List Mark)) = ([], []) from rfl] at c3
    simp at c1 c2 c3 c4
    simp -implicitDefEqProofs [c1, c2, c3, c4, c5]
    generalize hx : evLoopC _ _ _ _ _ _ _ _ _ _ = R
    apply loop_gen hx (fun _ : Nat => (mkL 127 .junk [(3, .nils), (5, .nils), (7, .int .i64 0), (8, .int .i64 0), (10, .map 2), (11, .int .i64 0), (55, .nils), (56, .int .i64 0), (57, .int .i64 0)],
        [none, none, some (.map [] 0), none])) (fun _ => True) (fun _ => 0) 0
    case hI => trivial
    case hq => omega
    case ht => simp -implicitDefEqProofs [liveOf]
    case round =>
      intro i _ _
      clear hx c1 c2 c3 c4 c5
      simp -implicitDefEqProofs [lenV]
  | succ n =>
    rw [hn] at c1 c2 hlen
    rw [hlen] at c3 c4
    have t1 : List.take ((n + 1) * 3) (flatE markE S) = flatE markE S := by rw [List.take_of_length_le]; simp [hlen]
    have t2 : List.take ((n + 1) * 3) (flatE markE ms) = flatE markE ms := by rw [List.take_of_length_le]; simp [hn]
    simp only [roV_succ, ownV_succ, ownB_succ] at c1 c2 c3 c4
    have hO := tracks_length1 S
    have htr := track_at S
    have hle := tracks_le S hw hsort
    have heq := tracks_eq S hw hsort
    have hov := crowd_over S (fun h => by rw [h] at hlen; simp at hlen) hw
    generalize hOe : (tracks S).1 = O at *
    generalize (crowd S).1 = b at *
    generalize (crowd S).2 = w at *
    simp -implicitDefEqProofs [c1, c2, c3, c4, c5, t1, t2]
    generalize hx : evLoopC _ _ _ _ _ _ _ _ _ _ = R
    apply loop_gen hx (fun a : Nat × List Int × Nat => (mkL 127 .junk [(3, .sl 0 0 (n + 1) 3), (5, .sl 1 0 (n + 1) 1), (7, .int .i64 b), (8, .int .i64 w), (10, .map 2), (11, .int .i64 a.2.2), (55, .sl 0 0 (n + 1) 3), (56, .int .i64 (n + 1 : Nat)), (57, .int .i64 a.1)],
        [some (.cells (flatE markE S) false), some (.cells (flatE (intE .i64) O) false), some (.map (ents 0 a.2.1) a.2.1.length), none]))
      (fun a => a.1 ≤ n + 1 ∧ a.2.1 = (tracks (S.take a.1)).2 ∧ a.2.2 = over (S.take a.1) w) (fun a => n + 1 - a.1) (0, [], 0)
    case hI => simp [tracks, over]
    case hq => simp only; omega
    case ht => simp -implicitDefEqProofs [liveOf, ents]
    case round =>
      rintro ⟨i, E, o⟩ ⟨hi, hE, ho⟩ _
      clear hx c1 c2 c3 c4 c5
      simp only at hi hE ho
      have hol := over_le (S.take i) w
      rw [List.length_take] at hol
      by_cases hlt : i < n + 1
      · have hltO : i < n + 1 := hlt
        have hltS : i < S.length := by omega
        have hlt2 : (i : Int) < (n : Int) + 1 := by omega
        have hiN : i ≤ n := by omega
        have e2 : addI .i64 (i : Int) 1 = (i : Int) + 1 := addI_i64 (by omega) (by omega)
        have e3 : addI .i64 (o : Int) 1 = (o : Int) + 1 := addI_i64 (by omega) (by omega)
        obtain ⟨t, hiO, hOt, hcase⟩ := htr i hltS
        have hle2 := hle (S.take (i + 1)) (S.drop (i + 1)) (List.take_append_drop _ _).symm
        have hm := at_marks S i hltS
        have hd : List.drop i (flatE (intE .i64) O) = V.int .i64 t :: flatE (intE .i64) (O.drop (i + 1)) := by
          rw [drop_flatE1 (intE .i64) rfl, List.drop_eq_getElem_cons hiO, hOt]; rfl
        have hos := over_snoc S w i hltS
        rw [← hE] at hcase
        rw [← ho] at hos
        generalize hEs : (tracks (S.take (i + 1))).2 = E' at *
        generalize S[i] = m at *
        have hmap : (∃ hj : t < E.length, E[t] < m.low ∧ E' = E.set t m.high) ∨ (t = E.length ∧ E' = E ++ [m.high]) := hcase
        have htb : ¬ (b : Int) ≤ t := by
          rcases hmap with ⟨hj, _, h⟩ | ⟨hj, h⟩ <;> rw [h] at hle2 <;> simp at hle2 <;> omega
        have ht0 : ¬ (t : Int) < 0 := by omega
        have h3 : 3 ≤ S.length * 3 - i * 3 := by omega
        rcases hmap with ⟨hj, hlow, hE'⟩ | ⟨hj, hE'⟩
        · have f1 := find_at E hj
          have s1 := ents_set E m.high hj
          have hlow' : ¬ m.low ≤ E[t] := by omega
          have hEl : (E.set t m.high).length = E.length := by simp
          rw [hE'] at hEs
          by_cases hov1 : m.low ≤ w
          · by_cases hov2 : w ≤ m.high
            · simp -implicitDefEqProofs [tz3, lookupV, mapUpdateV, keyKind, findAny, pickV, hlt2, hiN, hm, hd, f1, s1, h3, htb, ht0, e2, e3, markE_f, hlow', hov1, hov2]
              refine rnd_next (i + 1, E.set t m.high, o + 1) ⟨by simp only; omega, by simp only; rw [hEs], ?_⟩ (by simp only; omega) (by simp -implicitDefEqProofs [liveOf, markE_f]; exact ents_map _ (fun _ _ _ => rfl) _ _)
              simp only
              rw [hos, if_pos ⟨hov1, hov2⟩]
            · simp -implicitDefEqProofs [tz3, lookupV, mapUpdateV, keyKind, findAny, pickV, hlt2, hiN, hm, hd, f1, s1, h3, htb, ht0, e2, e3, markE_f, hlow', hov1, hov2]
              refine rnd_next (i + 1, E.set t m.high, o) ⟨by simp only; omega, by simp only; rw [hEs], ?_⟩ (by simp only; omega) (by simp -implicitDefEqProofs [liveOf, markE_f]; exact ents_map _ (fun _ _ _ => rfl) _ _)
              simp only
              rw [hos, if_neg (fun h => hov2 h.2)]; simp
          · simp -implicitDefEqProofs [tz3, lookupV, mapUpdateV, keyKind, findAny, pickV, hlt2, hiN, hm, hd, f1, s1, h3, htb, ht0, e2, e3, markE_f, hlow', hov1]
            refine rnd_next (i + 1, E.set t m.high, o) ⟨by simp only; omega, by simp only; rw [hEs], ?_⟩ (by simp only; omega) (by simp -implicitDefEqProofs [liveOf, markE_f]; exact ents_map _ (fun _ _ _ => rfl) _ _)
            simp only
            rw [hos, if_neg (fun h => hov1 h.1)]; simp
        · subst hj
          have f1 := find_end E
          have s1 := ents_snoc E m.high
          rw [hE'] at hEs
          by_cases hov1 : m.low ≤ w
          · by_cases hov2 : w ≤ m.high
            · simp -implicitDefEqProofs [tz3, lookupV, mapUpdateV, keyKind, findAny, pickV, hlt2, hiN, hm, hd, f1, s1, h3, htb, ht0, e2, e3, markE_f, hov1, hov2]
              refine rnd_next (i + 1, E ++ [m.high], o + 1) ⟨by simp only; omega, by simp only; rw [hEs], ?_⟩ (by simp only; omega) (by simp -implicitDefEqProofs [liveOf, markE_f]; exact ents_map _ (fun _ _ _ => rfl) _ _)
              simp only
              rw [hos, if_pos ⟨hov1, hov2⟩]
            · simp -implicitDefEqProofs [tz3, lookupV, mapUpdateV, keyKind, findAny, pickV, hlt2, hiN, hm, hd, f1, s1, h3, htb, ht0, e2, e3, markE_f, hov1, hov2]
              refine rnd_next (i + 1, E ++ [m.high], o) ⟨by simp only; omega, by simp only; rw [hEs], ?_⟩ (by simp only; omega) (by simp -implicitDefEqProofs [liveOf, markE_f]; exact ents_map _ (fun _ _ _ => rfl) _ _)
              simp only
              rw [hos, if_neg (fun h => hov2 h.2)]; simp
          · simp -implicitDefEqProofs [tz3, lookupV, mapUpdateV, keyKind, findAny, pickV, hlt2, hiN, hm, hd, f1, s1, h3, htb, ht0, e2, e3, markE_f, hov1]
            refine rnd_next (i + 1, E ++ [m.high], o) ⟨by simp only; omega, by simp only; rw [hEs], ?_⟩ (by simp only; omega) (by simp -implicitDefEqProofs [liveOf, markE_f]; exact ents_map _ (fun _ _ _ => rfl) _ _)
            simp only
            rw [hos, if_neg (fun h => hov1 h.1)]; simp
      · have hi' : i = n + 1 := by omega
        subst hi'
        have hlt2 : ¬ (((n + 1 : Nat) : Int) < (n : Int) + 1) := by omega
        rw [List.take_of_length_le (by omega)] at hE ho
        have r1 : E.length = b := by rw [hE]; exact heq
        have r2 : o = b := by rw [ho]; exact hov.symm
        simp -implicitDefEqProofs [lenV, r1, r2]
end Go.Ev.Try
