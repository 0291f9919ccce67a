/-
  THE REDACT SEAT: small functions (own work).
-/
import Derived.Test.YtnalmdnfoicokaaRdC0
import Derived.Laws.BitsLemmas
import Derived.Laws.Bits64
set_option linter.unusedSimpArgs false
set_option linter.unusedVariables false
set_option maxRecDepth 100000
set_option maxHeartbeats 4000000
namespace Go.Ev.Try
open Go Go.Ev Go.Proofs

theorem wrap_i64 {z : Int} (h1 : -9223372036854775808 ≤ z) (h2 : z ≤ 9223372036854775807) : IntKind.i64.wrap z = z := by
  rw [IntKind.wrap_i64]; omega
theorem addI_i64 {a b : Int} (h1 : -9223372036854775808 ≤ a + b) (h2 : a + b ≤ 9223372036854775807) : addI .i64 a b = a + b := by
  rw [addI_eq]; exact wrap_i64 h1 h2
theorem subI_i64 {a b : Int} (h1 : -9223372036854775808 ≤ a - b) (h2 : a - b ≤ 9223372036854775807) : subI .i64 a b = a - b := by
  rw [subI_eq]; exact wrap_i64 h1 h2
theorem mulI_i64 {a b : Int} (h1 : -9223372036854775808 ≤ a * b) (h2 : a * b ≤ 9223372036854775807) : mulI .i64 a b = a * b := by
  rw [mulI_eq]; exact wrap_i64 h1 h2
theorem below_ok (x n : Int) (hn : 0 < n) (hm : n ≤ 4611686018427387904) {k : Nat} : evF Try.prog Γ (k + 1) 26 [.int .i64 x, .int .i64 n] [] = some (.int .i64 (x % n), []) := by
  have h0 : ¬ n = 0 := by omega
  have hlt : x.tmod n < n := Int.tmod_lt_of_pos x hn
  have hgt : -n < x.tmod n := Int.lt_tmod_of_pos x hn
  have e := @Int.emod_eq_tmod x n
  have p0 := Int.emod_nonneg x h0
  have p1 := Int.emod_lt_of_pos x hn
  rw [b26 (fun _ _ => rfl) _ _ (by simp)]
  by_cases hx : x.tmod n < 0
  · have he : addI .i64 (x.tmod n) n = x % n := by
      rw [addI_i64 (by omega) (by omega)]
      split at e <;> omega
    simp -implicitDefEqProofs [hx, h0, he]
  · have he : x.tmod n = x % n := by
      split at e <;> omega
    have hx' : ¬ x % n < 0 := by omega
    simp -implicitDefEqProofs [hx', h0, he]

/-- The number and what is left. -/
def nextN (l : List Int) (n : Int) : Int := match l with | [] => 0 | x :: _ => x % n
@[simp] theorem nextN_nil (n : Int) : nextN [] n = 0 := rfl
@[simp] theorem nextN_cons (x : Int) (l : List Int) (n : Int) : nextN (x :: l) n = x % n := rfl
theorem next_ok (l : List Int) (z : Bool) (n : Int) (hn : 0 < n) (hm : n ≤ 4611686018427387904) {k : Nat} :
    evF Try.prog Γ (k + 2) 41 [.ptr 0 0, .int .i64 n] [some (.cells [roV z l.length (flatE (intE .i64) l)] true)] = some (.int .i64 (nextN l n), [some (.cells [roV (z && l.isEmpty) l.tail.length (flatE (intE .i64) l.tail)] true), none]) := by
  have hk := fun x => below_ok x n hn hm (k := k)
  have h1 : ¬ (n < 1) := by omega
  cases l with
  | nil =>
    rw [b41 (fun _ _ => rfl) _ _ (by simp)]
    cases z <;> simp -implicitDefEqProofs [roV]
  | cons x l =>
    have h0 : ¬ ((l.length : Int) + 1 = 0) := by omega
    have h2 : (0 : Int) < l.length + 1 := by omega
    rw [b41 (fun _ _ => rfl) _ _ (by simp)]
    simp -implicitDefEqProofs [h0, h1, h2, hk]
/-! ### sum.Hash -/
noncomputable def hashH (h b : Int) : Int := xorI .u64 (mulI .u64 (xorI .u64 h (IntKind.u64.wrap b)) 1099511628211) (shrI .u64 (mulI .u64 (xorI .u64 h (IntKind.u64.wrap b)) 1099511628211) 29)
noncomputable def hashGo (h : Int) (l : List Int) : Int := l.foldl hashH h
noncomputable def hash (l : List Int) : Int := hashGo 11400714819323198485 l
theorem hash_ok (bs : List Int) (z : Bool) (hlen : bs.length < 9223372036854775807) {k : Nat} (hk : bs.length < k) :
    evF Try.prog Γ (k + 1) 40 [roV z bs.length (flatE (intE .u8) bs)] [] = some (.int .u64 (hash bs), []) := by
  rw [b40 (fun _ _ => rfl) _ _ (by simp)]
  simp -implicitDefEqProofs
  generalize hx : evLoopC _ _ _ _ _ _ _ _ _ _ = R
  apply loop_gen hx (fun a : Nat × Int => (mkL 23 .junk [(3, .int .u64 a.2), (6, roV z bs.length (flatE (intE .u8) bs)), (7, .int .i64 bs.length), (8, .int .i64 a.1)], [none]))
    (fun a => a.1 ≤ bs.length ∧ hashGo a.2 (bs.drop a.1) = hash bs) (fun a => bs.length - a.1) (0, 11400714819323198485)
  case hI => exact ⟨by simp, rfl⟩
  case hq => simpa using hk
  case ht => simp -implicitDefEqProofs [liveOf, coldOf]
  case round =>
    rintro ⟨i, h⟩ ⟨hi, hg⟩ _
    by_cases hlt : i < bs.length
    · have e2 : addI .i64 (i : Int) 1 = (i : Int) + 1 := addI_i64 (by simp only at hi; omega) (by omega)
      simp -implicitDefEqProofs [hlt, e2, convertV]
      refine rnd_next (i + 1, hashH h bs[i]) ⟨hlt, ?_⟩ (by simp only; omega) ?_
      · rw [← hg]
        simp only [hashGo]
        rw [List.drop_eq_getElem_cons hlt]
        rfl
      · simp -implicitDefEqProofs [liveOf, coldOf, hashH]
    · have hi' : i = bs.length := by simp only at hi; omega
      subst hi'
      simp [hashGo] at hg
      simp -implicitDefEqProofs [hg]

/-! ### Blocks and places -/
def blocksN (n : Nat) : Nat := max 1 ((n + 63) / 64)
theorem blocks_ok (n : Nat) (hn : n ≤ 1000000) {k : Nat} : evF Try.prog Γ (k + 1) 38 [.int .i64 n] [] = some (.int .i64 (blocksN n), []) := by
  have e1 : addI .i64 (n : Int) 64 = n + 64 := addI_i64 (by omega) (by omega)
  have e2 : subI .i64 ((n : Int) + 64) 1 = n + 63 := by rw [subI_i64 (by omega) (by omega)]; omega
  have e3 : quoI .i64 ((n : Int) + 63) 64 = ((n + 63) / 64 : Nat) := by
    rw [quoI_eq, Int.tdiv_eq_ediv_of_nonneg (by omega), wrap_i64 (by omega) (by omega)]; omega
  have e4 : (if (1 : Int) < ((n : Int) + 63) / 64 then ((n : Int) + 63) / 64 else 1) = (blocksN n : Nat) := by
    unfold blocksN; split <;> omega
  rw [b38 (fun _ _ => rfl) _ _ (by simp)]
  simp -implicitDefEqProofs [e1, e2, e3, e4]
def placeL (n i : Nat) : Int := min 64 ((n : Int) - i * 64)
theorem place_ok (n i : Nat) (hn : n ≤ 1000000) (hi : i ≤ 1000000) {k : Nat} : evF Try.prog Γ (k + 1) 39 [.int .i64 n, .int .i64 i] [] = some (.agg [.int .i64 ((i : Int) * 64), .int .i64 (placeL n i)], []) := by
  have e1 : mulI .i64 (i : Int) 64 = i * 64 := mulI_i64 (by omega) (by omega)
  have e2 : subI .i64 (n : Int) (i * 64) = n - i * 64 := subI_i64 (by omega) (by omega)
  have e4 : (if (n : Int) - i * 64 < 64 then (n : Int) - i * 64 else 64) = placeL n i := by
    unfold placeL; split <;> omega
  rw [b39 (fun _ _ => rfl) _ _ (by simp)]
  simp -implicitDefEqProofs [e1, e2, e4]

/-! ### Spans -/
theorem check_ok (s : Span) {k : Nat} : evF Try.prog Γ (k + 1) 37 [.agg [.int .i64 s.off, .int .i64 s.len]] [] = some (.int .i64 (if s.ok then 0 else 4), []) := by
  obtain ⟨o, l⟩ := s
  rw [b37 (fun _ _ => rfl) _ _ (by simp)]
  by_cases h1 : o < 0
  · have : ¬ (Span.mk o l).ok := by unfold Span.ok; simp only; omega
    simp -implicitDefEqProofs [h1, this]
  · by_cases h2 : l < 0
    · have : ¬ (Span.mk o l).ok := by unfold Span.ok; simp only; omega
      simp -implicitDefEqProofs [h1, h2, this]
    · by_cases h3 : 65536 < l
      · have : ¬ (Span.mk o l).ok := by unfold Span.ok; simp only; omega
        simp -implicitDefEqProofs [h1, h2, h3, this]
      · have e : subI .i64 65536 l = 65536 - l := subI_i64 (by omega) (by omega)
        by_cases h4 : 65536 - l < o
        · have : ¬ (Span.mk o l).ok := by unfold Span.ok; simp only; omega
          simp -implicitDefEqProofs [h1, h2, h3, h4, e, this]
        · have : (Span.mk o l).ok := by unfold Span.ok; simp only; omega
          simp -implicitDefEqProofs [h1, h2, h3, h4, e, this]
theorem end_ok (s : Span) (h : s.ok) {k : Nat} : evF Try.prog Γ (k + 1) 52 [.agg [.int .i64 s.off, .int .i64 s.len]] [] = some (.int .i64 (s.off + s.len), []) := by
  obtain ⟨h1, h2, h3, h4⟩ := h
  have e : addI .i64 s.off s.len = s.off + s.len := addI_i64 (by omega) (by omega)
  rw [b52 (fun _ _ => rfl) _ _ (by simp)]
  simp -implicitDefEqProofs [e]
theorem good_ok (s : Span) {k : Nat} : evF Try.prog Γ (k + 2) 53 [.agg [.int .i64 s.off, .int .i64 s.len]] [] = some (.bool (decide s.good), []) := by
  have c := check_ok s (k := k)
  rw [b53 (fun _ _ => rfl) _ _ (by simp)]
  by_cases h : s.ok
  · rw [if_pos h] at c
    have : decide s.good = decide (0 < s.len) := by unfold Span.good; simp [h]
    simp -implicitDefEqProofs [c, this]
  · rw [if_neg h] at c
    have : ¬ s.good := fun h' => h h'.1
    simp -implicitDefEqProofs [c, this]
section
variable {o : Nat → List V → Heap → Option (V × Heap)} (ho : ∀ f a H, f ≠ 54 → o f a H = none)
attribute [local simp] Γo_plain Γo_live Γo_cold
include ho
theorem cmpG_ok0 (a b : GSpan) {k : Nat} : evF Try.prog (Γo o) (k + 1) 55 [.agg (goodE.f a), .agg (goodE.f b)] [] = some (.int .i64 (cmpG a b), []) := by
  obtain ⟨a, ha, ha'⟩ := a
  obtain ⟨b, hb, hb'⟩ := b
  obtain ⟨h1, h2, h3, h4⟩ := ha
  obtain ⟨g1, g2, g3, g4⟩ := hb
  have e : subI .i64 a.off b.off = a.off - b.off := subI_i64 (by omega) (by omega)
  rw [b55 (fun _ _ => ho _ _ _ (by decide)) _ _ (by simp)]
  simp -implicitDefEqProofs [goodE, cmpG, e]
end
/-! ### bytes.Clone -/
theorem clone_ok (bs : List Int) (z : Bool) (hlen : bs.length ≤ 1000000) {k : Nat} :
    evF Try.prog Γ (k + 1) 13 [roV z bs.length (flatE (intE .u8) bs)] [] = some (if z && bs.isEmpty then .nils else .sl 0 0 bs.length 1, [if z && bs.isEmpty then none else some (.cells (flatE (intE .u8) bs) (bs.isEmpty))]) := by
  rw [b13 (fun _ _ => rfl) _ _ (by simp)]
  cases bs with
  | nil => cases z <;> simp -implicitDefEqProofs
  | cons b bs =>
    have hb : bs.length + 1 ≤ 140737488355328 := by simp at hlen; omega
    simp -implicitDefEqProofs [hb]
end Go.Ev.Try
