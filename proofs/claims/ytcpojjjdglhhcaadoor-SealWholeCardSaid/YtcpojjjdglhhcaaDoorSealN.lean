/-
  THE SEAL SEAT: Whole; SealWhole (own work).
-/
import Derived.Test.YtcpojjjdglhhcaaDoorSealM
import Derived.Test.YtcpojjjdglhhcaaDoorSealC2
set_option linter.unusedSimpArgs false
set_option linter.unusedVariables false
set_option maxRecDepth 100000
set_option maxHeartbeats 4000000
namespace Go.Ev.Tryd
open Go Go.Ev Go.Proofs

def otherRoot (r : Int) (x : Entry) : Bool := decide (x.kind = 3) && !decide (x.root = r)

theorem closure_ok (x : Entry) (l : List Entry) (hl : 0 < l.length) {k : Nat} :
    evF Tryd.prog Γ (k + 1) 25 [.agg (entryE.f x), .ro [.ros l.length (flatE entryE l)]] [] = some (.bool (otherRoot l[0].root x), []) := by
  rw [b25 (fun _ _ => rfl) _ _ (by simp)]
  have hd : List.drop 4 (List.take 6 (flatE entryE l)) = [.int .u64 l[0].root, .int .u64 l[0].sum] := by
    have := at_flatE (n := 6) entryE rfl l 0 hl
    rw [Nat.zero_mul, List.drop_zero] at this
    rw [this]
    rfl
  by_cases h1 : x.kind = 3
  · by_cases h2 : x.root = l[0].root
    · simp -implicitDefEqProofs [entryE_f, otherRoot, h1, h2, hd, hl]
    · simp -implicitDefEqProofs [entryE_f, otherRoot, h1, h2, hd, hl]
  · simp -implicitDefEqProofs [entryE_f, otherRoot, h1]

/-- The first place at which p holds; -1. -/
def idxF (p : Entry → Bool) : Nat → List Entry → Int
  | _, [] => -1
  | i, x :: l => if p x then i else idxF p (i + 1) l
theorem idxF_pos (p : Entry → Bool) : ∀ (l : List Entry) (i : Nat), decide (0 ≤ idxF p i l) = l.any p
  | [], i => by simp [idxF]
  | x :: l, i => by
    simp only [idxF, List.any_cons]
    by_cases h : p x = true
    · simp [h]
    · simp [h, idxF_pos p l (i + 1)]

theorem index_ok (l : List Entry) (p : Entry → Bool) (g : Nat) (c : V) (hg : Γ.plain g = true) (hc : c = .ro [.ros l.length (flatE entryE l)]) {k : Nat} (hk : 1000 < k) (hl : l.length ≤ 1000)
    (hp : ∀ x ∈ l, evF Tryd.prog Γ k g [.agg (entryE.f x), c] [] = some (.bool (p x), [])) :
    evF Tryd.prog Γ (k + 1) 32 [.ros l.length (flatE entryE l), .fn (.func g) [] [c]] [] = some (.int .i64 (idxF p 0 l), []) := by
  rw [b32 (fun _ _ => rfl) _ _ (by simp)]
  subst hc
  have hg2 : g = 22 ∨ g = 41 ∨ g = 35 ∨ g = 36 ∨ g = 37 ∨ g = 44 ∨ g = 45 → False := by
    intro h
    rw [Γ_plain] at hg
    rcases h with h | h | h | h | h | h | h <;> subst h <;> simp at hg
  simp -implicitDefEqProofs
  generalize hx : evLoopC _ _ _ _ _ _ _ _ _ _ = R
  apply loop_gen hx (fun i : Nat => (mkL 19 .junk [(0, .ros l.length (flatE entryE l)), (1, .fn (.func g) [] [.ro [.ros l.length (flatE entryE l)]]), (7, .int .i64 l.length), (8, .int .i64 i)], [none, none]))
    (fun i => i ≤ l.length ∧ idxF p i (l.drop i) = idxF p 0 l) (fun i => l.length - i) 0
  case hI => exact ⟨by simp, by simp⟩
  case hq => omega
  case ht => simp -implicitDefEqProofs [liveOf]
  case round =>
    rintro i ⟨hi, hA⟩ _
    clear hx
    by_cases hlt : i < l.length
    · have e2 : addI .i64 (i : Int) 1 = (i : Int) + 1 := addI_i64 (by omega) (by omega)
      have hpi := hp l[i] (List.getElem_mem hlt)
      rw [List.drop_eq_getElem_cons hlt] at hA
      simp only [idxF] at hA
      cases hb : p l[i] with
      | true =>
        rw [hb, if_pos rfl] at hA
        rw [hb] at hpi
        simp -implicitDefEqProofs [hlt, e2, hpi, hg, ← hA]
      | false =>
        rw [hb, if_neg (by simp)] at hA
        rw [hb] at hpi
        simp -implicitDefEqProofs [hlt, e2, hpi, hg]
        exact rnd_next (i + 1) ⟨hlt, hA⟩ (by omega) (by simp -implicitDefEqProofs [liveOf])
    · have hi' : i = l.length := by omega
      subst hi'
      rw [List.drop_length] at hA
      simp -implicitDefEqProofs [← hA, idxF]

theorem whole_ok (l : List Entry) (hR : Right l) (hl : 0 < l.length) {k : Nat} (hk : 1100 < k) :
    evF Tryd.prog Γ (k + 1) 13 [.ros l.length (flatE entryE l)] [] = some (.tup [.bool (!l.any (otherRoot l[0].root)), .int .i64 0], []) := by
  obtain ⟨k, rfl⟩ : ∃ j, k = j + 4 := ⟨k - 4, by omega⟩
  have c1 := check_ok l false hR.1 (k := k + 3) (by omega)
  have c2 := index_ok l (otherRoot l[0].root) 25 _ rfl rfl (k := k + 2) (by omega) (by have := hR.2.2; omega) (fun x _ => closure_ok x l hl)
  have h0 := hR.2.1
  have hpos := idxF_pos (otherRoot l[0].root) l 0
  have c3 : evF Tryd.prog Γ (k + 4) 24 [.ros l.length (flatE entryE l), .fn (.func 25) [] [.ro [.ros l.length (flatE entryE l)]]] [] = some (.bool (l.any (otherRoot l[0].root)), []) := by
    rw [b24 (k := k + 3) (fun _ _ => rfl) _ _ (by simp)]
    simp -implicitDefEqProofs [c2, hpos]
  rw [b13 (fun _ _ => rfl) _ _ (by simp)]
  generalize check l = T at *
  obtain ⟨st, n, e⟩ := T
  simp only at h0
  subst h0
  simp only [roV_false, stateE_f] at c1
  simp -implicitDefEqProofs [c1, c3]
end Go.Ev.Tryd
