/-
  THE SEAL SEAT: Holders; the chains that Chain makes (own work).
-/
import Derived.Test.YtcpojjjdglhhcaaDoorSealH
set_option linter.unusedSimpArgs false
set_option linter.unusedVariables false
set_option maxRecDepth 100000
set_option maxHeartbeats 4000000
namespace Go.Ev.Tryd
open Go Go.Ev Go.Proofs

def held (x : Entry) : List ByteArray := if x.kind = 0 then [x.who] else if x.kind = 1 then [x.to] else []
def holders (l : List Entry) : List ByteArray := l.flatMap held
theorem holders_snoc (l : List Entry) (i : Nat) (h : i < l.length) : holders (l.take (i + 1)) = holders (l.take i) ++ held l[i] := by
  rw [List.take_succ_eq_append_getElem h]
  unfold holders
  rw [List.flatMap_append]
  simp
theorem held_length (x : Entry) : (held x).length ≤ 1 := by
  unfold held
  split
  · simp
  · split <;> simp
theorem holders_length (l : List Entry) : (holders l).length ≤ l.length := by
  induction l with
  | nil => simp [holders]
  | cons x l ih =>
    have := held_length x
    unfold holders at *
    rw [List.flatMap_cons, List.length_append, List.length_cons]
    omega

theorem holders_ok (l : List Entry) (z : Bool) (hl : okL l) (h0 : (check l).2.2 = 0) (h100 : l.length ≤ 100) {k : Nat} (hk : 700 ≤ k) :
    evF Tryd.prog Γ (k + 1) 9 [roV z l.length (flatE entryE l)] [] = some (.tup [ownV true 0 0 (holders l).length 1, .int .i64 0], [ownB true (holders l).length (flatE strE (holders l))]) := by
  obtain ⟨k, rfl⟩ : ∃ j, k = j + 1 := ⟨k - 1, by omega⟩
  have c1 := check_ok l z hl (k := k) (by omega)
  rw [b9 (fun _ _ => rfl) _ _ (by simp)]
  generalize check l = T at *
  obtain ⟨st, n, e⟩ := T
  simp only at h0
  subst h0
  simp only [stateE_f] at c1
  simp -implicitDefEqProofs [c1]
  generalize hx : evLoopC _ _ _ _ _ _ _ _ _ _ = R
  apply loop_gen hx (fun a : Nat × List ByteArray => (mkL 43 .junk [(2, .nils), (3, .int .i64 0), (7, ownV true 1 0 a.2.length 1), (19, roV z l.length (flatE entryE l)), (20, .int .i64 l.length), (21, .int .i64 a.1)],
      [none, ownB true a.2.length (flatE strE a.2), none]))
    (fun a => a.1 ≤ l.length ∧ a.2 = holders (l.take a.1)) (fun a => l.length - a.1) (0, [])
  case hI => simp [holders]
  case hq => simp only; omega
  case ht => simp -implicitDefEqProofs [liveOf]
  case round =>
    rintro ⟨i, A⟩ ⟨hi, hA⟩ _
    simp only at hi hA
    clear hx
    by_cases hlt : i < l.length
    · have e2 : addI .i64 (i : Int) 1 = (i : Int) + 1 := addI_i64 (by omega) (by omega)
      have hs := holders_snoc l i hlt
      have hlen := holders_length (l.take i)
      have hlen2 : (l.take i).length ≤ l.length := by rw [List.length_take]; omega
      have hb : (A.length + 1) * 16 ≤ 140737488355328 := by rw [hA]; omega
      rw [← hA] at hs
      have fin : ∀ B, A ++ held l[i] = B → ((i + 1, B) : Nat × List ByteArray).1 ≤ l.length ∧ ((i + 1, B) : Nat × List ByteArray).2 = holders (l.take (i + 1, B).1) := fun B h => ⟨hlt, by rw [← h]; exact hs.symm⟩
      clear hA hs hlen
      by_cases h1 : l[i].kind = 0
      · cases A with
        | nil =>
          simp -implicitDefEqProofs [hlt, e2, entryE_f, h1]
          exact rnd_next (i + 1, [l[i].who]) (fin _ (by simp [held, h1])) (by simp only; omega) (by simp -implicitDefEqProofs [liveOf])
        | cons a A =>
          simp at hb
          simp -implicitDefEqProofs [hlt, e2, entryE_f, h1, hb]
          exact rnd_next (i + 1, a :: A ++ [l[i].who]) (fin _ (by simp [held, h1])) (by simp only; omega) (by simp -implicitDefEqProofs [liveOf])
      · by_cases h2 : l[i].kind = 1
        · cases A with
          | nil =>
            simp -implicitDefEqProofs [hlt, e2, entryE_f, h2]
            exact rnd_next (i + 1, [l[i].to]) (fin _ (by simp [held, h2])) (by simp only; omega) (by simp -implicitDefEqProofs [liveOf])
          | cons a A =>
            simp at hb
            simp -implicitDefEqProofs [hlt, e2, entryE_f, h2, hb]
            exact rnd_next (i + 1, a :: A ++ [l[i].to]) (fin _ (by simp [held, h2])) (by simp only; omega) (by simp -implicitDefEqProofs [liveOf])
        · simp -implicitDefEqProofs [hlt, e2, entryE_f, h1, h2]
          refine rnd_next (i + 1, A) (fin _ (by simp [held, h1, h2])) (by simp only; omega) ?_
          cases A <;> simp -implicitDefEqProofs [liveOf]
    · have hi' : i = l.length := by omega
      subst hi'
      rw [List.take_length] at hA
      subst hA
      simp -implicitDefEqProofs
      generalize holders l = A
      cases A <;> simp -implicitDefEqProofs
end Go.Ev.Tryd
