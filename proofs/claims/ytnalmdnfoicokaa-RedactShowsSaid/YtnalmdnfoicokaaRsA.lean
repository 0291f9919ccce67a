/-
  THE REDACT SEAT: Clone, IndexFunc, DeleteFunc at spans that lie within (own work).
-/
import Derived.Test.YtnalmdnfoicokaaRmA
import Derived.Test.YtnalmdnfoicokaaRsC0
set_option linter.unusedSimpArgs false
set_option linter.unusedVariables false
set_option maxRecDepth 100000
set_option maxHeartbeats 1000000
namespace Go.Ev.Try
open Go Go.Ev Go.Proofs

theorem clo30 (s : Span) (zb : Bool) (bs : List Int) (hb : bs.length ≤ 9223372036854775807) {k : Nat} : evF Try.prog Γ (k + 2) 30 [.agg [.int .i64 s.off, .int .i64 s.len], .ro [roV zb bs.length (flatE (intE .u8) bs)]] [] = some (.bool (insideB s bs.length), []) := by
  have c := inside_ok s bs.length (by omega) (by omega) (k := k)
  rw [b30 (fun _ _ => rfl) _ _ (by simp)]
  simp -implicitDefEqProofs [c]
theorem clo33 (g : Nat) (hg : g = 33 ∨ g = 34) (s : Span) (zb : Bool) (bs : List Int) (hb : bs.length ≤ 9223372036854775807) {k : Nat} : evF Try.prog Γ (k + 3) g [.agg [.int .i64 s.off, .int .i64 s.len], .ro [.fn (.func 30) [] [.ro [roV zb bs.length (flatE (intE .u8) bs)]]]] [] = some (.bool (!insideB s bs.length), []) := by
  have c := clo30 s zb bs hb (k := k)
  rcases hg with rfl | rfl
  · rw [b33 (fun _ _ => rfl) _ _ (by simp)]
    simp -implicitDefEqProofs [c]
  · rw [b34 (fun _ _ => rfl) _ _ (by simp)]
    simp -implicitDefEqProofs [c]

/-! ### Clone -/
theorem clone32 (l : List Span) (z : Bool) (hl : l.length ≤ 8796093022208) {k : Nat} : evF Try.prog Γ (k + 1) 32 [.ros l.length (flatE spanE l)] [] = some (.sl 0 0 l.length 2, [some (.cells (flatE spanE l) l.isEmpty)]) := by
  rw [b32 (fun _ _ => rfl) _ _ (by simp)]
  cases hl0 : l.length with
  | zero =>
    have hnil : l = [] := List.length_eq_zero_iff.1 hl0
    subst hnil
    simp -implicitDefEqProofs
  | succ n =>
    have he : l.isEmpty = false := by cases l with | nil => simp at hl0 | cons _ _ => rfl
    have hb : (n + 1) * 16 ≤ 140737488355328 := by omega
    have ht : List.take ((n + 1) * 2) (flatE spanE l) = flatE spanE l := by rw [List.take_of_length_le]; simp [hl0]
    simp -implicitDefEqProofs [he, hb, ht, hl0]
theorem clone32n {k : Nat} : evF Try.prog Γ (k + 1) 32 [.nils] [] = some (.nils, [none]) := by
  rw [b32 (fun _ _ => rfl) _ _ (by simp)]
  simp -implicitDefEqProofs

/-! ### IndexFunc -/
def IdxPost (l : List Span) (n : Int) (r : Option (V × Heap)) : Prop :=
  (r = some (.int .i64 (-1), []) ∧ ∀ s ∈ l, insideB s n = true) ∨
  ∃ (i : Nat) (h : i < l.length), r = some (.int .i64 i, []) ∧ (∀ s ∈ l.take i, insideB s n = true) ∧ insideB l[i] n = false
theorem index56 (g : Nat) (hg : g = 33 ∨ g = 34) (l : List Span) (z : Bool) (hl : l.length ≤ 8796093022208) (zb : Bool) (bs : List Int) (hb : bs.length ≤ 9223372036854775807) {k : Nat} (hk : l.length + 5 < k) :
    IdxPost l bs.length (evF Try.prog Γ (k + 1) 56 [roV z l.length (flatE spanE l), .fn (.func g) [] [.ro [.fn (.func 30) [] [.ro [roV zb bs.length (flatE (intE .u8) bs)]]]]] []) := by
  obtain ⟨k, rfl⟩ : ∃ j, k = j + 3 := ⟨k - 3, by omega⟩
  have hpg : Γ.plain g = true := by rcases hg with rfl | rfl <;> rfl
  rw [b56 (fun _ _ => rfl) _ _ (by simp)]
  simp -implicitDefEqProofs
  generalize hx : evLoopC _ _ _ _ _ _ _ _ _ _ = R
  apply loop_gen hx (fun i : Nat => (mkL 19 .junk [(0, roV z l.length (flatE spanE l)), (1, .fn (.func g) [] [.ro [.fn (.func 30) [] [.ro [roV zb bs.length (flatE (intE .u8) bs)]]]]), (7, .int .i64 l.length), (8, .int .i64 i)], [none, none]))
    (fun i => i ≤ l.length ∧ ∀ s ∈ l.take i, insideB s bs.length = true) (fun i => l.length - i) 0
  case hI => simp
  case hq => omega
  case ht => simp -implicitDefEqProofs [liveOf, coldOf]
  case round =>
    rintro i ⟨hi, hI⟩ _
    clear hx
    by_cases hlt : i < l.length
    · have hlt2 : (i : Int) < (l.length : Int) := by omega
      have e2 : addI .i64 (i : Int) 1 = (i : Int) + 1 := addI_i64 (by omega) (by omega)
      have ms := at_spans l i hlt
      have h3 : 2 ≤ l.length * 2 - i * 2 := by omega
      have c := clo33 g hg l[i] zb bs hb (k := k)
      have hnext : insideB l[i] bs.length = true → ∀ s ∈ l.take (i + 1), insideB s bs.length = true := fun h s hs => by
        rw [List.take_succ_eq_append_getElem hlt] at hs
        rcases List.mem_append.1 hs with hs | hs
        · exact hI s hs
        · rw [List.mem_singleton.1 hs]; exact h
      cases hin : insideB l[i] bs.length with
      | true =>
        rw [hin] at c
        generalize l[i] = s at *
        simp -implicitDefEqProofs [hlt, hlt2, e2, ms, h3, hpg, c]
        exact rnd_next (i + 1) ⟨hlt, hnext hin⟩ (by omega) (by simp -implicitDefEqProofs [liveOf, coldOf])
      | false =>
        rw [hin] at c
        have hp : ∀ r, r = some (V.int .i64 (i : Int), ([] : Heap)) → IdxPost l bs.length r := fun r h => Or.inr ⟨i, hlt, h, hI, hin⟩
        clear hin hnext
        generalize l[i] = s at *
        simp -implicitDefEqProofs [hlt, hlt2, e2, ms, h3, hpg, c]
        exact hp _ rfl
    · have hi' : i = l.length := by omega
      subst hi'
      have hlt2 : ¬ (l.length : Int) < (l.length : Int) := by omega
      rw [List.take_length] at hI
      simp -implicitDefEqProofs [hlt, hlt2]
      exact Or.inl ⟨rfl, hI⟩

/-! ### DeleteFunc -/
def keepL (l : List Span) (n : Int) : List Span := l.filter fun s => insideB s n
theorem keepL_snoc (l : List Span) (s : Span) (n : Int) : keepL (l ++ [s]) n = keepL l n ++ (if insideB s n = true then [s] else []) := by
  unfold keepL
  rw [List.filter_append, List.filter_cons, List.filter_nil]
def restL (l : List Span) (n : Int) : List Span := List.replicate (l.length - (keepL l n).length) ⟨0, 0⟩
theorem zeros_spans (n : Nat) : zerosV [V.int .i64 0, V.int .i64 0] n = flatE spanE (List.replicate n ⟨0, 0⟩) := by
  induction n with
  | zero => rfl
  | succ n ih => rw [List.replicate_succ]; show _ ++ zerosV _ n = _; rw [ih]; rfl
theorem delete31 (g : Nat) (hg : g = 33 ∨ g = 34) (l : List Span) (ex : Bool) (hl : l.length ≤ 8796093022208) (zb : Bool) (bs : List Int) (hb : bs.length ≤ 9223372036854775807) {k : Nat} (hk : l.length + 10 < k) :
    evF Try.prog Γ (k + 1) 31 [.sl 0 0 l.length 2, .fn (.func g) [] [.ptr 1 0]] [some (.cells (flatE spanE l) ex), some (.cells [.fn (.func 30) [] [.ptr 2 0]] true), some (.cells [roV zb bs.length (flatE (intE .u8) bs)] true)] =
      some (.sl 0 0 (keepL l bs.length).length 2, [some (.cells (flatE spanE (keepL l bs.length ++ restL l bs.length)) ex), some (.cells [.fn (.func 30) [] [.ptr 2 0]] true), some (.cells [roV zb bs.length (flatE (intE .u8) bs)] true), none, none, none]) := by
  obtain ⟨k, rfl⟩ : ∃ j, k = j + 4 := ⟨k - 4, by omega⟩
  have hpg : Γ.plain g = true := by rcases hg with rfl | rfl <;> rfl
  have hgw : ¬g = 8 ∧ ¬g = 10 ∧ ¬g = 15 ∧ ¬g = 24 ∧ ¬g = 31 ∧ ¬g = 36 ∧ ¬g = 41 ∧ ¬g = 45 ∧ ¬g = 54 ∧ ¬g = 57 ∧ ¬g = 60 ∧ ¬g = 65 := by omega
  have tl : List.take (l.length * 2) (flatE spanE l) = flatE spanE l := by rw [List.take_of_length_le (by simp)]
  have ci := index56 g hg l false hl zb bs hb (k := k + 3) (by omega)
  rcases ci with ⟨ci, hall⟩ | ⟨i0, hi0, ci, hpre, hin0⟩
  · have hk0 : keepL l bs.length = l := List.filter_eq_self.2 hall
    have hr0 : restL l bs.length = [] := by unfold restL; rw [hk0, Nat.sub_self]; rfl
    rw [hk0, hr0, List.append_nil]
    rw [b31 (fun _ _ => rfl) _ _ (by simp)]
    simp at ci
    cases ex <;> simp -implicitDefEqProofs [ci, tl]
  · simp at ci
    rw [b31 (fun _ _ => rfl) _ _ (by simp)]
    have e0 : addI .i64 (i0 : Int) 1 = (i0 : Int) + 1 := addI_i64 (by omega) (by omega)
    have hm1 : ¬ (i0 : Int) = -1 := by omega
    simp -implicitDefEqProofs [ci, tl, e0, hm1]
    generalize hx : evLoopC _ _ _ _ _ _ _ _ _ _ = R
    apply loop_gen hx (fun a : List Span × Nat × Nat => (mkL 42 .junk [(0, .sl 0 0 l.length 2), (1, .fn (.func g) [] [.ptr 1 0]), (5, .int .i64 a.2.1), (6, .int .i64 a.2.2)],
        [some (.cells (flatE spanE a.1) ex), some (.cells [.fn (.func 30) [] [.ptr 2 0]] true), some (.cells [roV zb bs.length (flatE (intE .u8) bs)] true), none, none, none, none]))
      (fun a => a.1.length = l.length ∧ a.2.1 < a.2.2 ∧ a.2.2 ≤ l.length ∧ a.1.take a.2.1 = keepL (l.take a.2.2) bs.length ∧ a.1.drop a.2.2 = l.drop a.2.2) (fun a => l.length - a.2.2) (l, i0, i0 + 1)
    case hI =>
      refine ⟨rfl, by simp only; omega, by simp only; omega, ?_, rfl⟩
      simp only
      rw [List.take_succ_eq_append_getElem hi0, keepL_snoc, if_neg (by rw [hin0]; simp), List.append_nil]
      exact (List.filter_eq_self.2 hpre).symm
    case hq => simp only; omega
    case ht => cases ex <;> simp -implicitDefEqProofs [liveOf, coldOf]
    case round =>
      rintro ⟨L, i, j⟩ ⟨hL, hij, hjl, htk, hdr⟩ _
      clear hx
      simp only at hL hij hjl htk hdr
      have tL : List.take (l.length * 2) (flatE spanE L) = flatE spanE L := by rw [List.take_of_length_le (by simp [hL])]
      by_cases hlt : j < l.length
      · have hlt2 : (j : Int) < (l.length : Int) := by omega
        have e2 : addI .i64 (j : Int) 1 = (j : Int) + 1 := addI_i64 (by omega) (by omega)
        have e3 : addI .i64 (i : Int) 1 = (i : Int) + 1 := addI_i64 (by omega) (by omega)
        have ms := at_spans L j (by omega)
        have hLj : L[j]'(by omega) = l[j] := by
          have h1 : L[j]? = l[j]? := by
            have := congrArg (fun x => x[0]?) hdr
            simpa using this
          rw [List.getElem?_eq_getElem (by omega), List.getElem?_eq_getElem hlt] at h1
          exact Option.some.inj h1
        rw [hLj] at ms
        have hts : keepL (l.take (j + 1)) bs.length = keepL (l.take j) bs.length ++ (if insideB l[j] bs.length = true then [l[j]] else []) := by
          rw [List.take_succ_eq_append_getElem hlt, keepL_snoc]
        have hds : L.drop (j + 1) = l.drop (j + 1) := by rw [← List.drop_drop, hdr, List.drop_drop]
        have c := clo33 g hg l[j] zb bs hb (k := k + 1)
        have h3 : 2 ≤ l.length * 2 - j * 2 := by omega
        have hil : i < l.length := by omega
        have hi2 : i * 2 + 2 ≤ l.length * 2 := by omega
        cases hin : insideB l[j] bs.length with
        | true =>
          rw [hin] at c hts
          rw [if_pos rfl] at hts
          generalize l[j] = s at *
          have tkL : List.take (i * 2) (flatE spanE L) = flatE spanE (L.take i) := take_flatE' (n := 2) spanE rfl L i
          have drL : List.drop (i * 2 + 2) (flatE spanE L) = flatE spanE (L.drop (i + 1)) := by rw [show i * 2 + 2 = (i + 1) * 2 by omega]; exact drop_flatE' (n := 2) spanE rfl L (i + 1)
          simp -implicitDefEqProofs [hlt, hlt2, e2, e3, ms, h3, hgw, c, hL, hil, hi2]
          have hLi : (L.take i).length = i := by rw [List.length_take]; omega
          refine rnd_next (L.take i ++ s :: L.drop (i + 1), i + 1, j + 1) ⟨?_, ?_, ?_, ?_, ?_⟩ ?_ ?_
          · simp only [List.length_append, List.length_cons, List.length_drop, hLi]; omega
          · simp only; omega
          · exact hlt
          · simp only
            rw [hts, ← htk, List.take_append, List.take_of_length_le (by omega), hLi, Nat.add_sub_cancel_left]
            rfl
          · simp only
            rw [← hds, List.drop_append, List.drop_of_length_le (by omega), hLi, List.nil_append, show j + 1 - i = (j - i) + 1 by omega, List.drop_succ_cons, List.drop_drop, show i + 1 + (j - i) = j + 1 by omega]
          · simp only; omega
          · cases ex <;> simp -implicitDefEqProofs [liveOf, coldOf, tkL, drL, spanE_f]
        | false =>
          rw [hin] at c hts
          rw [if_neg (by simp), List.append_nil] at hts
          generalize l[j] = s at *
          simp -implicitDefEqProofs [hlt, hlt2, e2, e3, ms, h3, hgw, c, hL, hil, hi2]
          exact rnd_next (L, i, j + 1) ⟨hL, by simp only; omega, hlt, by simp only; rw [htk, hts], hds⟩ (by simp only; omega) (by cases ex <;> simp -implicitDefEqProofs [liveOf, coldOf])
      · have hj' : j = l.length := by omega
        subst hj'
        have hlt2 : ¬ (l.length : Int) < (l.length : Int) := by omega
        rw [List.take_length] at htk
        have hil : i ≤ l.length := by omega
        have hil0 : ¬ l.length - i = 0 := by omega
        have hi2 : i * 2 + (l.length - i) * 2 ≤ l.length * 2 := by omega
        have hkl : (keepL l bs.length).length = i := by rw [← htk, List.length_take]; omega
        have tkK : List.take (i * 2) (flatE spanE L) = flatE spanE (keepL l bs.length) := by rw [← htk]; exact take_flatE' (n := 2) spanE rfl L i
        have drE : List.drop (i * 2 + (l.length - i) * 2) (flatE spanE L) = [] := List.drop_of_length_le (by simp; omega)
        have hrl : restL l bs.length = List.replicate (l.length - i) ⟨0, 0⟩ := by unfold restL; rw [hkl]
        rw [hrl]
        cases ex <;> simp -implicitDefEqProofs [hlt, hlt2, tL, hL, hil, hil0, hi2, zeros_spans, hkl, tkK, drE]
theorem delete31n (g : Nat) (hg : g = 33 ∨ g = 34) (zb : Bool) (bs : List Int) (hb : bs.length ≤ 9223372036854775807) {k : Nat} (hk : 20 < k) :
    evF Try.prog Γ (k + 1) 31 [.nils, .fn (.func g) [] [.ptr 0 0]] [some (.cells [.fn (.func 30) [] [.ptr 1 0]] true), some (.cells [roV zb bs.length (flatE (intE .u8) bs)] true)] =
      some (.nils, [some (.cells [.fn (.func 30) [] [.ptr 1 0]] true), some (.cells [roV zb bs.length (flatE (intE .u8) bs)] true), none, none, none]) := by
  obtain ⟨k, rfl⟩ : ∃ j, k = j + 4 := ⟨k - 4, by omega⟩
  have hpg : Γ.plain g = true := by rcases hg with rfl | rfl <;> rfl
  have hgw : ¬g = 8 ∧ ¬g = 10 ∧ ¬g = 15 ∧ ¬g = 24 ∧ ¬g = 31 ∧ ¬g = 36 ∧ ¬g = 41 ∧ ¬g = 45 ∧ ¬g = 54 ∧ ¬g = 57 ∧ ¬g = 60 ∧ ¬g = 65 := by omega
  have ci := index56 g hg [] true (by simp) zb bs hb (k := k + 3) (by simp only [List.length_nil]; omega)
  rcases ci with ⟨ci, hall⟩ | ⟨i0, hi0, ci, hpre, hin0⟩
  · simp at ci
    rw [b31 (fun _ _ => rfl) _ _ (by simp)]
    simp -implicitDefEqProofs [ci]
  · simp at hi0
end Go.Ev.Try
