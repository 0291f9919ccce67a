import Derived.Test.YtflmadkbppnmcaaCkC6
import Derived.Laws.BitsLemmas
import Derived.Laws.Bits64
import Derived.Test.YtflmadkbppnmcaaCkC7
import Derived.Test.YtflmadkbppnmcaaEvK
set_option linter.unusedSimpArgs false
set_option linter.unusedVariables false
set_option maxHeartbeats 4000000
set_option maxRecDepth 100000
namespace Go.Ev.Try.Ln
open Go Go.Ev Go.Proofs
theorem Γo_plain (o) (f : Nat) : (Γo o).plain f = !(wide.contains f) := rfl
theorem Γo_live (o) (f r : Nat) : (Γo o).live f r = liveOf f r := rfl
theorem Γo_cold (o) (f r : Nat) : (Γo o).cold f r = false := rfl
theorem Γo_keep (o) (f r : Nat) : (Γo o).keep f r = (f == 53 || f == 54) := rfl
section
variable {o : Nat → List V → Heap → Option (V × Heap)} (ho : ∀ f a H, f ∉ [33, 31, 58, 47, 51, 63] → o f a H = none)
attribute [local simp] wide Γo_plain Γo_live Γo_cold Γo_keep
include ho
theorem nan_ok0 (a : Int) {k : Nat} : evF Try.prog (Γo o) (k + 1) 81 [.int .i64 a] [] = some (.bool false, []) := by
  rw [b81 (fun _ _ => ho _ _ _ (by decide)) _ _ (by simp)]
  simp -implicitDefEqProofs
theorem cmp_ok0 (a b : Int) {k : Nat} : evF Try.prog (Γo o) (k + 2) 62 [.int .i64 a, .int .i64 b] [] = some (.int .i64 (cmpI a b), []) := by
  have c1 := nan_ok0 ho a (k := k)
  have c2 := nan_ok0 ho b (k := k)
  rw [b62 (fun _ _ => ho _ _ _ (by decide)) _ _ (by simp)]
  by_cases h1 : a < b
  · simp -implicitDefEqProofs [c1, c2, h1, cmpI]
  · by_cases h2 : b < a
    · simp -implicitDefEqProofs [c1, c2, h1, h2, cmpI]
    · simp -implicitDefEqProofs [c1, c2, h1, h2, cmpI]
theorem or_ok0 (l : List Int) (hl : l.length ≤ 100) {k : Nat} (hk : 100 < k) : evF Try.prog (Γo o) (k + 1) 80 [.ros l.length (flatE (intE .i64) l)] [] = some (.int .i64 (orI3 l), []) := by
  rw [b80 (fun _ _ => ho _ _ _ (by decide)) _ _ (by simp)]
  simp -implicitDefEqProofs
  generalize hx : evLoopC _ _ _ _ _ _ _ _ _ _ = R
  apply loop_gen hx (fun i : Nat => (mkL 18 .junk [(3, .int .i64 0), (6, .ros l.length (flatE (intE .i64) l)), (7, .int .i64 l.length), (8, .int .i64 i)], [none]))
    (fun i => i ≤ l.length ∧ orI3 (l.drop i) = orI3 l) (fun i => l.length - i) 0
  case hI => exact ⟨by simp, rfl⟩
  case hq => omega
  case ht => simp -implicitDefEqProofs [liveOf]
  case round =>
    rintro i ⟨hi, hA⟩ _
    clear hx
    by_cases hlt : i < l.length
    · have e2 : addI .i64 (i : Int) 1 = (i : Int) + 1 := addI_i64 (by omega) (by omega)
      rw [List.drop_eq_getElem_cons hlt] at hA
      simp only [orI3] at hA
      by_cases h0 : l[i] = 0
      · rw [if_pos h0] at hA
        simp -implicitDefEqProofs [hlt, e2, h0]
        exact rnd_next (i + 1) ⟨hlt, hA⟩ (by omega) (by simp -implicitDefEqProofs [liveOf])
      · rw [if_neg h0] at hA
        simp -implicitDefEqProofs [hlt, e2, h0, ← hA]
    · have hi' : i = l.length := by omega
      subst hi'
      rw [List.drop_length] at hA
      simp -implicitDefEqProofs [← hA, orI3]
theorem cmpM_ok0 (a b : Mark) {k : Nat} (hk : 102 < k) : evF Try.prog (Γo o) (k + 1) 59 [.agg (markE.f a), .agg (markE.f b)] [] = some (.int .i64 (cmpM a b), []) := by
  obtain ⟨k, rfl⟩ : ∃ j, k = j + 2 := ⟨k - 2, by omega⟩
  have c := fun a b => cmp_ok0 ho a b (k := k)
  have c2 := or_ok0 ho [cmpI a.low b.low, cmpI a.high b.high, cmpI a.id b.id] (by simp) (k := k + 1) (by omega)
  rw [b59 (fun _ _ => ho _ _ _ (by decide)) _ _ (by simp)]
  simp at c2
  simp -implicitDefEqProofs [c, c2, markE_f, cmpM]
end
theorem clockOrc_none (f : Nat) (a : List V) (H : Heap) (h : f ∉ [33, 31, 58, 47, 51, 63]) : clockOrc f a H = none := by
  simp only [List.mem_cons, List.not_mem_nil, or_false, not_or] at h
  unfold clockOrc baseOrc
  rw [if_neg h.1, if_neg h.2.1, if_neg h.2.2.1, if_neg h.2.2.2.1, if_neg h.2.2.2.2.1, if_neg h.2.2.2.2.2]
theorem nan_ok (a : Int) {k : Nat} : evF Try.prog Γ (k + 1) 81 [.int .i64 a] [] = some (.bool false, []) := nan_ok0 clockOrc_none a
theorem cmp_ok (a b : Int) {k : Nat} : evF Try.prog Γ (k + 2) 62 [.int .i64 a, .int .i64 b] [] = some (.int .i64 (cmpI a b), []) := cmp_ok0 clockOrc_none a b
theorem cmpM_ok (a b : Mark) {k : Nat} (hk : 102 < k) : evF Try.prog Γ (k + 1) 59 [.agg (markE.f a), .agg (markE.f b)] [] = some (.int .i64 (cmpM a b), []) := cmpM_ok0 clockOrc_none a b hk
end Go.Ev.Try.Ln
namespace Go.Ev.Try.Ln
open Go Go.Ev Go.Proofs
def less (a b : Mark) : Bool := decide (a.low < b.low ∨ (a.low = b.low ∧ (a.high < b.high ∨ (a.high = b.high ∧ a.id < b.id))))
theorem cmpM_less (a b : Mark) : decide (cmpM a b < 0) = less a b := by
  rw [Bool.eq_iff_iff]
  unfold cmpM cmpI less
  simp only [orI3, decide_eq_true_eq]
  by_cases h1 : a.low < b.low
  · simp [h1]
  · by_cases h2 : b.low < a.low
    · simp [h1, h2]; omega
    · have h3 : a.low = b.low := by omega
      by_cases h4 : a.high < b.high
      · simp [h3, h4]
      · by_cases h5 : b.high < a.high
        · simp [h3, h4, h5]; omega
        · have h6 : a.high = b.high := by omega
          by_cases h7 : a.id < b.id
          · simp [h3, h6, h7]
          · by_cases h8 : b.id < a.id
            · simp [h3, h6, h7, h8]
            · simp [h3, h6, h7, h8]
theorem less_iff {a b : Mark} : less a b = true ↔ a.low < b.low ∨ (a.low = b.low ∧ (a.high < b.high ∨ (a.high = b.high ∧ a.id < b.id))) := by unfold less; simp
theorem less_trans {a b c : Mark} (h : less a b = true) (k : less b c = true) : less a c = true := by
  rw [less_iff] at *; omega
theorem less_irrefl (a : Mark) : less a a = false := by
  rw [← Bool.not_eq_true, less_iff]; omega
theorem less_total {a b : Mark} (h : less a b = false) (k : less b a = false) : a = b := by
  rw [← Bool.not_eq_true, less_iff] at *
  obtain ⟨a1, a2, a3⟩ := a
  obtain ⟨b1, b2, b3⟩ := b
  simp only at *
  have e1 : a2 = b2 := by omega
  have e2 : a3 = b3 := by omega
  have e3 : a1 = b1 := by omega
  rw [e1, e2, e3]
def ins (x : Mark) : List Mark → List Mark
  | [] => [x]
  | y :: S => if less x y then x :: y :: S else y :: ins x S
def Sorted (l : List Mark) : Prop := l.Pairwise fun a b => less b a = false
theorem ins_perm (x : Mark) (S : List Mark) : (ins x S).Perm (x :: S) := by
  induction S with
  | nil => exact List.Perm.refl _
  | cons y S ih =>
    unfold ins
    split
    · exact List.Perm.refl _
    · exact (ih.cons y).trans (List.Perm.swap x y S)
theorem ins_sorted (x : Mark) (S : List Mark) (h : Sorted S) : Sorted (ins x S) := by
  induction S with
  | nil => exact List.pairwise_singleton _ _
  | cons y S ih =>
    obtain ⟨h1, h2⟩ := List.pairwise_cons.1 h
    unfold ins
    split
    · rename_i hxy
      refine List.pairwise_cons.2 ⟨fun z hz => ?_, h⟩
      rcases List.mem_cons.1 hz with rfl | hz
      · cases hq : less z x with
        | false => rfl
        | true => have := less_trans hxy hq; rw [less_irrefl] at this; cases this
      · cases hq : less z x with
        | false => rfl
        | true =>
          have := less_trans hq hxy
          rw [h1 z hz] at this; cases this
    · rename_i hxy
      refine List.pairwise_cons.2 ⟨fun z hz => ?_, ih h2⟩
      have hz' := (ins_perm x S).mem_iff.1 hz
      rcases List.mem_cons.1 hz' with rfl | hz'
      · simpa using hxy
      · exact h1 z hz'
def isort (l : List Mark) : List Mark := l.foldl (fun S x => ins x S) []
theorem set_marks (L : List Mark) (j : Nat) (m : Mark) (h : j < L.length) :
    List.take (j * 3) (flatE markE L) ++ V.int .i64 m.id :: V.int .i64 m.low :: V.int .i64 m.high :: List.drop (j * 3 + 3) (flatE markE L) = flatE markE (L.set j m) := by
  rw [← set_flatE (n := 3) markE rfl L j m h, markE_f]
  simp
theorem at_marks (L : List Mark) (j : Nat) (h : j < L.length) : List.take 3 (List.drop (j * 3) (flatE markE L)) = [.int .i64 L[j].id, .int .i64 L[j].low, .int .i64 L[j].high] := by
  rw [at_flatE (n := 3) markE rfl L j h, markE_f]
theorem isort_sorted (l : List Mark) : Sorted (isort l) := by
  have : ∀ (l S : List Mark), Sorted S → Sorted (l.foldl (fun S x => ins x S) S) := by
    intro l
    induction l with
    | nil => intro S h; exact h
    | cons x l ih => intro S h; exact ih _ (ins_sorted x S h)
  exact this l [] List.Pairwise.nil
theorem isort_perm (l : List Mark) : (isort l).Perm l := by
  have : ∀ (l S : List Mark), (l.foldl (fun S x => ins x S) S).Perm (S ++ l) := by
    intro l
    induction l with
    | nil => intro S; simp
    | cons x l ih =>
      intro S
      refine (ih _).trans ?_
      refine ((ins_perm x S).append_right l).trans ?_
      simp only [List.cons_append]
      exact List.perm_middle.symm
  have h := this l []
  rw [List.nil_append] at h
  exact h
theorem isort_length (l : List Mark) : (isort l).length = l.length := (isort_perm l).length_eq
theorem ltM (a b : Mark) : Go.Proofs.ltOf cmpM a b = less a b := cmpM_less a b
theorem swoM : Go.Sort.SWO (Go.Proofs.ltOf cmpM) where
  irrefl x := by rw [ltM]; exact less_irrefl x
  trans x y z h1 h2 := by rw [ltM] at *; exact less_trans h1 h2
  ntrans x y z h1 h2 := by
    rw [ltM] at *
    rw [← Bool.not_eq_true, less_iff] at *
    omega
theorem pdqL_marks (l : List Mark) : pdqL cmpM l = isort l := by
  refine pdqL_eq swoM (fun x y h1 h2 => ?_) (isort_perm l) ?_
  · rw [ltM] at h1 h2; exact less_total h1 h2
  · have := isort_sorted l
    exact this.imp fun h => by rw [ltM]; exact h
theorem markE_inj (a b : Mark) (h : markE.f a = markE.f b) : a = b := by
  cases a; cases b
  simp [markE_f] at h
  simp [h]
theorem sort33 (l : List Mark) (hl : l.length < 4611686018427387904) {ex : Bool} {k : Nat} :
    evF Try.prog Γ (k + 1) 58 [.sl 0 0 l.length 3, .fn (.func 59) [] []] [some (.cells (flatE markE l) ex)] = some (.tup [], [some (.cells (flatE markE (isort l)) ex)]) := by
  refine evF_orc ?_
  have ho : ∀ a H, Γ.orc 58 a H = sortOrc markE cmpM 59 a H := fun a H => rfl
  rw [ho]
  have := sortOrc_eq markE (by decide) markE_inj cmpM 59 (id := 0) (off := 0) (len := l.length) (sz := 3) (H := [some (.cells (flatE markE l) ex)]) (cs := flatE markE l) (ex := ex) (l := l) rfl rfl (by rw [List.take_of_length_le]; rfl; simp) rfl hl (by simp)
  rw [pdqL_marks] at this
  rcases this with h | h
  · rw [h]
    simp [isort_length]
  · rw [isort_length] at h; exact absurd rfl h
end Go.Ev.Try.Ln
namespace Go.Ev.Try.Ln
open Go Go.Ev Go.Proofs
theorem guard35 : Try.prog.eqGuardType Try.prog.depth 60 = false := by kernel_rfl
theorem stood35 : Try.prog.stoodInHeld 60 = false := by kernel_rfl
theorem eqI_int (k : IntKind) (a b : Int) : eqI (.int k a) (.int k b) = some (decide (a = b)) := by
  show (if k = k then some (a == b) else none) = _
  rw [if_pos rfl]; by_cases h : a = b <;> simp [h]
theorem eqv_mark (a b : Mark) : eqV Try.prog 10000 60 (.agg [.int .i64 a.id, .int .i64 a.low, .int .i64 a.high]) (.agg [.int .i64 b.id, .int .i64 b.low, .int .i64 b.high]) = some (decide (a = b)) := by
  obtain ⟨a1, a2, a3⟩ := a
  obtain ⟨b1, b2, b3⟩ := b
  rw [show (10000 : Nat) = 9998 + 1 + 1 from rfl]
  by_cases h1 : a1 = b1 <;> by_cases h2 : a2 = b2 <;> by_cases h3 : a3 = b3 <;>
    simp [eqV, eqFields, aggOf, partV, stood35, eqI_int, h1, h2, h3]
theorem eq_mark (a b : Mark) : evBin Try.prog .eql 60 (.agg [.int .i64 a.id, .int .i64 a.low, .int .i64 a.high]) (.agg [.int .i64 b.id, .int .i64 b.low, .int .i64 b.high]) = some (.bool (decide (a = b))) := by
  simp only [evBin, noNumV, aggOf, guard35, Option.isNone_some, Bool.false_or, Bool.not_false, Bool.and_self, if_true, eqv_mark, Option.map_some]
theorem ne_mark (a b : Mark) : evBin Try.prog .neq 60 (.agg [.int .i64 a.id, .int .i64 a.low, .int .i64 a.high]) (.agg [.int .i64 b.id, .int .i64 b.low, .int .i64 b.high]) = some (.bool (!decide (a = b))) := by
  simp only [evBin, noNumV, aggOf, guard35, Option.isNone_some, Bool.false_or, Bool.not_false, Bool.and_self, if_true, eqv_mark, Option.map_some]
def dstep (out : List Mark) (x : Mark) : List Mark := if out.getLast? = some x then out else out ++ [x]
def dedup (l : List Mark) : List Mark := l.foldl dstep []
theorem dstep_last (out : List Mark) (x : Mark) : (dstep out x).getLast? = some x := by
  unfold dstep; split
  · assumption
  · simp
theorem dedup_snoc0 (l : List Mark) (x : Mark) : dedup (l ++ [x]) = dstep (dedup l) x := by simp [dedup]
theorem dedup_last (l : List Mark) : (dedup l).getLast? = l.getLast? := by
  rcases List.eq_nil_or_concat l with rfl | ⟨L, x, rfl⟩
  · rfl
  · rw [List.concat_eq_append, dedup_snoc0, dstep_last]; simp
theorem dedup_snoc (l : List Mark) (x : Mark) : dedup (l ++ [x]) = if l.getLast? = some x then dedup l else dedup l ++ [x] := by
  rw [dedup_snoc0, dstep, dedup_last]
theorem dedup_succ (l : List Mark) (p : Nat) (h : p + 1 < l.length) : dedup (l.take (p + 2)) = if l[p + 1] = l[p] then dedup (l.take (p + 1)) else dedup (l.take (p + 1)) ++ [l[p + 1]] := by
  rw [List.take_succ_eq_append_getElem h, dedup_snoc]
  have : (l.take (p + 1)).getLast? = some l[p] := by
    rw [List.take_succ_eq_append_getElem (by omega : p < l.length), List.getLast?_append]; rfl
  rw [this]
  by_cases he : l[p + 1] = l[p]
  · rw [if_pos he, if_pos (by rw [he])]
  · rw [if_neg he, if_neg (fun h => he (Option.some.inj h).symm)]
def mark0 : Mark := ⟨0, 0, 0⟩
theorem zeros_marks (n : Nat) : zerosV [.int .i64 0, .int .i64 0, .int .i64 0] n = flatE markE (List.replicate n mark0) := by
  induction n with
  | zero => rfl
  | succ n ih => simp only [zerosV, ih, List.replicate_succ, flatE_cons, markE_f, mark0]
theorem compact_any (l : List Mark) (hn : l.length ≤ 5864062014805) {k : Nat} (hk : l.length < k) :
    evF Try.prog Γ (k + 1) 60 [.sl 0 0 l.length 3] [some (.cells (flatE markE l) false)] = some (.sl 0 0 (dedup l).length 3, [some (.cells (flatE markE (dedup l ++ List.replicate (l.length - (dedup l).length) mark0)) false), none]) := by
  have hz := zeros_marks
  rw [b60 (fun _ _ => rfl) _ _ (by simp)]
  by_cases h2 : (l.length : Int) < 2
  · have hd : dedup l = l := by
      cases l with
      | nil => rfl
      | cons x l => cases l with
        | nil => rfl
        | cons y l => simp at h2; omega
    simp -implicitDefEqProofs [h2, hd]
  · simp -implicitDefEqProofs [h2]
    generalize hx : evLoopC _ _ _ _ _ _ _ _ _ _ = R
    apply loop_gen hx (fun i : Nat => (mkL 61 .junk [(0, .sl 0 0 l.length 3), (3, .int .i64 i)], [some (.cells (flatE markE l) false), none])) (fun i => 1 ≤ i ∧ i ≤ l.length ∧ dedup (l.take i) = l.take i) (fun i => l.length - i) 1
    case hI =>
      refine ⟨by omega, by omega, ?_⟩
      cases l with
      | nil => rfl
      | cons x l => rfl
    case hq => omega
    case ht => simp -implicitDefEqProofs [liveOf]
    case round =>
      rintro i ⟨h1, hi, hdd⟩ _
      clear hx
      by_cases hlt : i < l.length
      · obtain ⟨p, rfl⟩ : ∃ p, i = p + 1 := ⟨i - 1, by omega⟩
        have e2 : addI .i64 ((p : Int) + 1) 1 = (p : Int) + 1 + 1 := addI_i64 (by omega) (by omega)
        have e3 : subI .i64 ((p : Int) + 1) 1 = (p : Int) := by rw [subI_i64 (by omega) (by omega)]; omega
        have hds := dedup_succ l p hlt
        have my := at_marks l p (by omega)
        have mx := at_marks l (p + 1) hlt
        have b1 : (p : Int) + 1 < l.length := by omega
        have b2 : (p : Int) < l.length := by omega
        have b3 : 3 ≤ l.length * 3 - (p + 1) * 3 := by omega
        have b4 : 3 ≤ l.length * 3 - p * 3 := by omega
        have e5 : (0 : Int) ≤ (p : Int) + 1 := by omega
        have b5 : p + 1 ≤ l.length := by omega
        have b6 : (p : Int) + 1 ≤ l.length := by omega
        by_cases hne : l[p + 1] = l[p]
        · rw [if_pos hne, hdd] at hds
          simp -implicitDefEqProofs [e2, e3, e5, b1, b2, b3, b4, b5, b6, my, mx, eq_mark, hne]
          have hi0 : (dedup (l.take (p + 2))).length = p + 1 := by rw [hds, List.length_take]; omega
          generalize hy : evLoopC _ _ _ _ _ _ _ _ _ _ = R2
          apply loop_gen hy (fun a : Nat × Nat × List Mark => (mkL 61 .junk [(0, .sl 0 0 l.length 3), (3, .int .i64 a.2.1), (4, .sl 0 ((p + 1) * 3) (l.length - (p + 1)) 3), (5, .int .i64 (a.1 + 1 : Nat))], [some (.cells (flatE markE a.2.2) false), none, none]))
            (fun a => p + 1 + (a.1 + 1) ≤ l.length ∧ a.2.1 = (dedup (l.take (p + 1 + (a.1 + 1)))).length ∧ a.2.1 ≤ p + 1 + a.1 ∧ a.2.2.length = l.length ∧ a.2.2.take a.2.1 = dedup (l.take (p + 1 + (a.1 + 1))) ∧ a.2.2.drop (p + 1 + a.1) = l.drop (p + 1 + a.1)) (fun a => l.length - a.1) (0, p + 1, l)
          case hI =>
            refine ⟨by simp only; omega, hi0.symm, by simp, rfl, ?_, rfl⟩
            simp only
            rw [show p + 1 + (0 + 1) = p + 2 by omega, hds]
          case hq => simp only; omega
          case ht => simp -implicitDefEqProofs [liveOf]
          case round =>
            rintro ⟨q, i, M⟩ ⟨hq, hi, hle, hML, hMt, hMd⟩ _
            clear hy
            simp only at hq hi hle hML hMt hMd
            by_cases hlt2 : p + 1 + (q + 1) < l.length
            · have g1 : (q : Int) + 1 < ((l.length - (p + 1) : Nat) : Int) := by omega
              have g2 : (q : Int) < ((l.length - (p + 1) : Nat) : Int) := by omega
              have g1' : q + 1 < l.length - (p + 1) := by omega
              have g2' : q < l.length - (p + 1) := by omega
              have g3 : (0 : Int) ≤ (q : Int) + 1 := by omega
              have e6 : subI .i64 ((q : Int) + 1) 1 = (q : Int) := by rw [subI_i64 (by omega) (by omega)]; omega
              have e7 : addI .i64 ((q : Int) + 1) 1 = (q : Int) + 1 + 1 := addI_i64 (by omega) (by omega)
              have e8 : addI .i64 (i : Int) 1 = (i : Int) + 1 := addI_i64 (by omega) (by omega)
              have hr0 : M[p + 1 + q]'(by omega) = l[p + 1 + q] := by
                have h := congrArg (·[0]?) hMd
                simp only [List.getElem?_drop, Nat.add_zero] at h
                rw [List.getElem?_eq_getElem (by omega), List.getElem?_eq_getElem (by omega)] at h
                exact Option.some.inj h
              have hr1 : M[p + 1 + q + 1]'(by omega) = l[p + 1 + q + 1] := by
                have h := congrArg (·[1]?) hMd
                simp only [List.getElem?_drop] at h
                rw [List.getElem?_eq_getElem (by omega), List.getElem?_eq_getElem (by omega)] at h
                exact Option.some.inj h
              have m0 := at_marks M (p + 1 + q) (by omega)
              have m1 := at_marks M (p + 1 + q + 1) (by omega)
              rw [hr0, show (p + 1 + q) * 3 = (p + 1) * 3 + q * 3 by omega] at m0
              rw [hr1, show (p + 1 + q + 1) * 3 = (p + 1) * 3 + (q + 1) * 3 by omega] at m1
              have b6 : 3 ≤ M.length * 3 - ((p + 1) * 3 + (q + 1) * 3) := by omega
              have b7 : 3 ≤ M.length * 3 - ((p + 1) * 3 + q * 3) := by omega
              have hds2 := dedup_succ l (p + 1 + q) (by omega)
              have hiM : i < M.length := by omega
              have b8 : i * 3 + 3 ≤ M.length * 3 := by omega
              have b9 : (i : Int) < l.length := by omega
              have b10 : i < l.length := by omega
              have hset := set_marks M i l[p + 1 + q + 1] hiM
              have hMd2 : M.drop (p + 1 + (q + 1)) = l.drop (p + 1 + (q + 1)) := by
                have h := congrArg (List.drop 1) hMd
                rw [List.drop_drop, List.drop_drop] at h
                exact h
              generalize hX : l[p + 1 + q + 1] = x at *
              generalize l[p + 1 + q] = y at *
              by_cases hxy : x = y
              · rw [if_pos hxy, show p + 1 + q + 2 = p + 1 + (q + 1 + 1) by omega, show p + 1 + q + 1 = p + 1 + (q + 1) by omega] at hds2
                simp -implicitDefEqProofs [g1, g2, g1', g2', g3, e6, e7, m0, m1, b6, b7, ne_mark, hxy]
                exact rnd_next (q + 1, i, M) ⟨by simp only; omega, by simp only; rw [hds2]; exact hi, by simp only; omega, hML, by simp only; rw [hds2]; exact hMt, hMd2⟩ (by simp only; omega) (by simp -implicitDefEqProofs [liveOf])
              · rw [if_neg hxy, show p + 1 + q + 2 = p + 1 + (q + 1 + 1) by omega, show p + 1 + q + 1 = p + 1 + (q + 1) by omega] at hds2
                simp -implicitDefEqProofs [g1, g2, g1', g2', g3, e6, e7, e8, m0, m1, b6, b7, b8, b9, b10, ne_mark, hxy, hset]
                refine rnd_next (q + 1, i + 1, M.set i x) ⟨by simp only; omega, by simp only; rw [hds2]; simp [hi], by simp only; omega, by simpa using hML, ?_, ?_⟩ (by simp only; omega) (by simp -implicitDefEqProofs [liveOf])
                · simp only
                  rw [hds2, ← hMt, List.take_succ_eq_append_getElem (by simpa using hiM), List.getElem_set_self, List.take_set_of_le (Nat.le_refl _)]
                · simp only
                  rw [List.drop_set_of_lt (by omega)]
                  exact hMd2
            · have hq' : p + 1 + (q + 1) = l.length := by omega
              rw [hq', List.take_length] at hi hMt
              have g1 : ¬ (q : Int) + 1 < ((l.length - (p + 1) : Nat) : Int) := by omega
              have b1 : i ≤ l.length := by omega
              have b2 : (i : Int) ≤ l.length := by omega
              have w1 : List.take (i * 3) (flatE markE M) ++ (flatE markE (List.replicate (l.length - i) mark0) ++ List.drop (i * 3 + (l.length - i) * 3) (flatE markE M)) = flatE markE (dedup l) ++ flatE markE (List.replicate (l.length - i) mark0) := by
                rw [take_flatE' (n := 3) markE rfl, hMt, List.drop_of_length_le (by simp; omega), List.append_nil]
              by_cases hz0 : l.length - i = 0
              · simp -implicitDefEqProofs [g1, b1, b2, hz0]
                refine ⟨hi, ?_⟩
                rw [← hi, hz0, ← hMt, List.take_of_length_le (by omega)]
                simp
              · simp -implicitDefEqProofs [g1, b1, b2, hz0, hz, w1]
                exact ⟨by omega, hi, by rw [← hi]⟩
        · rw [if_neg hne, hdd] at hds
          simp -implicitDefEqProofs [e2, e3, e5, b1, b2, b3, b4, my, mx, eq_mark, hne]
          refine rnd_next (p + 1 + 1) ⟨by omega, by omega, ?_⟩ (by omega) (by simp -implicitDefEqProofs [liveOf])
          rw [hds, ← List.take_succ_eq_append_getElem hlt]
      · have hi' : i = l.length := by omega
        subst hi'
        rw [List.take_length] at hdd
        simp -implicitDefEqProofs [hdd]
end Go.Ev.Try.Ln
namespace Go.Ev.Try.Ln
open Go Go.Ev Go.Proofs
theorem tkM (l : List Mark) : List.take (l.length * 3) (flatE markE l) = flatE markE l := by rw [List.take_of_length_le]; simp
theorem dpM (l : List Mark) : List.drop (l.length * 3) (flatE markE l) = [] := by rw [List.drop_of_length_le]; simp
theorem dpM1 (l : List Mark) (n : Nat) : List.drop (l.length * 3 + n) (flatE markE l) = [] := by rw [List.drop_of_length_le]; simp
theorem tkM1 (l : List Mark) (n : Nat) : List.take (l.length * 3 + n) (flatE markE l) = flatE markE l := by rw [List.take_of_length_le]; simp
theorem junkL_drop (q n : Nat) : List.drop n (junkL q) = junkL (q - n) := by simp [junkL]
theorem ins_end_grow (l : List Mark) (x : Mark) (hb : (l.length + 1) * 24 ≤ 140737488355328) {k : Nat} :
    evF Try.prog Γb (k + 1) 47 [.sl 0 0 l.length 3, .int .i64 l.length, .sl 1 0 1 3] [some (.cells (flatE markE l) true), some (.cells (markE.f x) true)] = some (.sl 2 0 (l.length + 1) 3, [some (.cells (flatE markE l) true), some (.cells (markE.f x) true), some (.cells (flatE markE l ++ markE.f x) false)]) := by
  have tl := tkM l
  rw [b47 (fun _ _ => rfl) _ _ (by simp)]
  simp -implicitDefEqProofs [hb, tl, markE_f]
theorem ins_end_room (l : List Mark) (x : Mark) (q : Nat) (hJ : 1 ≤ q) (hb : (l.length + 1) * 24 ≤ 140737488355328) {k : Nat} :
    evF Try.prog Γb (k + 1) 47 [.sl 0 0 l.length 3, .int .i64 l.length, .sl 1 0 1 3] [some (.cells (flatE markE l ++ junkL (q * 3)) true), some (.cells (markE.f x) true)] = some (.sl 0 0 (l.length + 1) 3, [some (.cells (flatE markE l ++ (markE.f x ++ junkL (q * 3 - 3))) true), some (.cells (markE.f x) true), none]) := by
  have tl := tkM l
  have hap : appendS [some (.cells (flatE markE l ++ junkL (q * 3)) true), some (.cells (markE.f x) true)] 3 24 (.sl 0 0 l.length 3) 1 (markE.f x) = some (.sl 0 0 (l.length + 1) 3, [some (.cells (flatE markE l ++ (markE.f x ++ junkL (q * 3 - 3))) true), some (.cells (markE.f x) true)]) := by
    rw [appendS_room rfl (by omega) (by simp; omega)]
    have h0 : List.drop (l.length * 3 + 3) (flatE markE l) = [] := dpM1 l 3
    have h1 : l.length * 3 + 3 ≤ l.length * 3 + q * 3 := by omega
    have h2 : l.length * 3 + 3 - l.length * 3 = 3 := by omega
    simp [writeCells, List.take_append, List.drop_append, tl, h0, h1, h2, junkL_drop, markE_f]
  rw [b47 (fun _ _ => rfl) _ _ (by simp)]
  simp -implicitDefEqProofs [hb, hap, markE_f] at hap ⊢
  simp -implicitDefEqProofs [hb, hap]
theorem ins_shift (A C : List Mark) (hC : 1 ≤ C.length) (x : Mark) (q : Nat) (hJ : 1 ≤ q) (hb : (A.length + C.length + 1) * 24 ≤ 140737488355328) {k : Nat} :
    evF Try.prog Γb (k + 2) 47 [.sl 0 0 (A.length + C.length) 3, .int .i64 A.length, .sl 1 0 1 3] [some (.cells (flatE markE A ++ (flatE markE C ++ junkL (q * 3))) true), some (.cells (markE.f x) true)] =
      some (.sl 0 0 (A.length + C.length + 1) 3, [some (.cells (flatE markE A ++ (markE.f x ++ (flatE markE C ++ junkL (q * 3 - 3)))) true), some (.cells (markE.f x) true), none]) := by
  have hne : ¬ (A.length : Int) = (A.length : Int) + C.length := by omega
  have hc0 : ¬ C.length = 0 := by omega
  have hc1 : ¬ C = [] := fun h => by rw [h] at hC; simp at hC
  have hq : ¬ (A.length : Int) + C.length + (q : Int) < (A.length : Int) + C.length + 1 := by omega
  have hq1 : ¬ (q : Int) < 1 := by omega
  have hq3 : A.length + C.length + 1 ≤ A.length + (C.length + q) := by omega
  have hq4 : A.length + 1 + C.length ≤ A.length + (C.length + q) := by omega
  have hq' : ¬ (A.length : Int) + ((C.length : Int) + (q : Int)) < (A.length : Int) + C.length + 1 := by omega
  have hq2 : C.length + 1 ≤ C.length + q := by omega
  have e1 : addI .i64 ((A.length : Int) + C.length) 1 = (A.length : Int) + C.length + 1 := addI_i64 (by omega) (by omega)
  have e2 : addI .i64 (A.length : Int) 1 = (A.length : Int) + 1 := addI_i64 (by omega) (by omega)
  have hp : (0 : Int) ≤ (A.length : Int) + C.length + 1 := by omega
  have hp2 : (0 : Int) ≤ (A.length : Int) + 1 := by omega
  have hp3 : (0 : Int) ≤ (A.length : Int) + C.length := by omega
  have ht : ((A.length : Int) + (C.length : Int) + 1).toNat = A.length + C.length + 1 := by omega
  have hs1 : A.length + C.length + 1 - (A.length + 1) = C.length := by omega
  have hs2 : A.length + C.length + 1 - A.length = C.length + 1 := by omega
  have hs3 : A.length ≤ A.length + C.length + 1 := by omega
  have hs4 : A.length + 1 ≤ A.length + C.length + 1 := by omega
  have hnl : ¬ A.length + C.length + 1 ≤ A.length + C.length := by omega
  have horc : Γb.orc 63 [.sl 0 0 1 3, .sl 1 ((A.length + 1) * 3) C.length 3] [some (.cells (markE.f x) true), some (.cells (flatE markE A ++ (flatE markE C ++ junkL (q * 3))) true)] = some (.bool false, [some (.cells (markE.f x) true), some (.cells (flatE markE A ++ (flatE markE C ++ junkL (q * 3))) true)]) := by
    simp [Γb, Γo, baseOrc, overlapsOrc]
    omega
  have co := evF_orc (P := Try.prog) (k := k) horc
  have i2 : A.length + 1 + C.length ≤ A.length + C.length + 1 := by omega
  have i1 : (A.length + 1 + C.length) * 3 - A.length * 3 = C.length * 3 + 3 := by omega
  have tA := tkM A
  have dA := dpM A
  have dA1 := dpM1 A
  have v1 : ((A.length : Int) * 3 + ((C.length : Int) * 3 + (q : Int) * 3)) / 3 = (A.length : Int) + C.length + q := by omega
  have v2 : (A.length * 3 + (C.length * 3 + q * 3)) / 3 = A.length + C.length + q := by omega
  have v3 : A.length + C.length + 1 ≤ A.length + C.length + q := by omega
  have v4 : A.length + 1 + C.length ≤ A.length + C.length + q := by omega
  have hsb : sliceBeyond [some (.cells (flatE markE A ++ (flatE markE C ++ junkL (q * 3))) true), some (.cells (markE.f x) true)] 0 0 0 (A.length + C.length + 1) 3 3 = some (.sl 0 0 (A.length + C.length + 1) 3) := by
    rw [sliceBeyond_in (cs := flatE markE A ++ (flatE markE C ++ junkL (q * 3))) rfl (by omega) (by omega) (by simp; omega)]
    simp
  have a1 : (A.length + 1) * 3 - A.length * 3 = 3 := by omega
  have a2 : (A.length + 1) * 3 + C.length * 3 - A.length * 3 = C.length * 3 + 3 := by omega
  have a3 : (A.length + 1) * 3 + C.length * 3 ≤ A.length * 3 + (C.length * 3 + q * 3) := by omega
  have a4 : List.drop ((A.length + 1) * 3 + C.length * 3) (flatE markE A) = [] := by rw [List.drop_of_length_le]; simp; omega
  have a5 : List.take 3 (markE.f x) = markE.f x := List.take_of_length_le (by simp)
  have a6 : C.length * 3 + 3 - C.length * 3 = 3 := by omega
  have a8 : (C.length + 1) * 3 ≤ C.length * 3 + q * 3 := by omega
  have a9 : List.take ((C.length + 1) * 3) (flatE markE C) = flatE markE C := by rw [List.take_of_length_le]; simp; omega
  have a10 : min ((C.length + 1) * 3 - C.length * 3) (q * 3) = 3 := by omega
  have a11 : min (C.length + 1) C.length = C.length := by omega
  have a12 : min (C.length * 3) (C.length * 3 + 3) = C.length * 3 := by omega
  have a13 : 3 - C.length * 3 = 0 := by omega
  have a14 : min 3 (C.length * 3) = 3 := by omega
  have a7 : List.drop (C.length * 3 + 3) (markE.f x) = [] := List.drop_of_length_le (by simp)
  have dA2 : List.drop ((A.length + 1 + C.length) * 3) (flatE markE A) = [] := by rw [List.drop_of_length_le]; simp; omega
  have tA2 : List.take ((A.length + 1) * 3) (flatE markE A) = flatE markE A := by rw [List.take_of_length_le]; simp; omega
  have tC := tkM C
  have dC := dpM C
  have dC1 := dpM1 C
  have tC1 := tkM1 C
  rw [b47 (fun _ _ => rfl) _ _ (by simp)]
  simp -implicitDefEqProofs [hb, hJ, hC, hc0, hc1, hne, e1, e2, hq, hq1, hq2, hp, hp2, hp3, ht, hs1, hs2, hs3, hs4, hnl, co, List.take_append, List.drop_append, tA, tA2, dA, dA1, dA2, i1, dC, tC, tC1, dC1, junkL_drop, hq', hq3, hq4, v1, v2, v3, v4, hsb, a1, a2, a3, a4, a5, a6, a7, a8, a9, a10, a11, a12, a13, a14]
theorem ins_grow (A C : List Mark) (hC : 1 ≤ C.length) (x : Mark) (hb : (A.length + C.length + 1) * 24 ≤ 140737488355328) {k : Nat} :
    evF Try.prog Γb (k + 2) 47 [.sl 0 0 (A.length + C.length) 3, .int .i64 A.length, .sl 1 0 1 3] [some (.cells (flatE markE A ++ flatE markE C) true), some (.cells (markE.f x) true)] =
      some (.sl 2 0 (A.length + C.length + 1) 3, [some (.cells (flatE markE A ++ flatE markE C) true), some (.cells (markE.f x) true), some (.cells (flatE markE A ++ (markE.f x ++ flatE markE C)) false)]) := by
  have hne : ¬ (A.length : Int) = (A.length : Int) + C.length := by omega
  have hc0 : ¬ C.length = 0 := by omega
  have hc1 : ¬ C = [] := fun h => by rw [h] at hC; simp at hC
  have hq : (A.length : Int) + C.length < (A.length : Int) + C.length + 1 := by omega
  have e1 : addI .i64 ((A.length : Int) + C.length) 1 = (A.length : Int) + C.length + 1 := addI_i64 (by omega) (by omega)
  have e2 : addI .i64 (A.length : Int) 1 = (A.length : Int) + 1 := addI_i64 (by omega) (by omega)
  have e3 : subI .i64 ((A.length : Int) + C.length + 1) (A.length : Int) = ((C.length + 1 : Nat) : Int) := by rw [subI_i64 (by omega) (by omega)]; omega
  have hp2 : (0 : Int) ≤ (A.length : Int) + 1 := by omega
  have hp4 : (0 : Int) ≤ (C.length : Int) + 1 := by omega
  have hp5 : ¬ (C.length : Int) + 1 < 0 := by omega
  have ht : ((C.length : Int) + 1).toNat = C.length + 1 := by omega
  have hs0 : A.length + (C.length + 1) = A.length + C.length + 1 := by omega
  have hs1 : A.length + C.length + 1 - (A.length + 1) = C.length := by omega
  have hs2 : A.length + C.length + 1 - A.length = C.length + 1 := by omega
  have hs3 : A.length ≤ A.length + C.length + 1 := by omega
  have hs4 : A.length + 1 ≤ A.length + C.length + 1 := by omega
  have hz : zerosV [V.int .i64 0, .int .i64 0, .int .i64 0] (C.length + 1) = .int .i64 0 :: .int .i64 0 :: .int .i64 0 :: flatE markE (List.replicate C.length mark0) := by
    rw [zeros_marks]; rfl
  have hz0 := zeros_marks C.length
  have i2 : A.length + 1 + C.length ≤ A.length + C.length + 1 := by omega
  have i1 : (A.length + 1 + C.length) * 3 - A.length * 3 = C.length * 3 + 3 := by omega
  have tA := tkM A
  have dA := dpM A
  have dA1 := dpM1 A
  have v1 : ((A.length : Int) * 3 + (C.length : Int) * 3) / 3 = (A.length : Int) + C.length := by omega
  have v2 : (A.length * 3 + C.length * 3) / 3 = A.length + C.length := by omega
  have a1 : (A.length + 1) * 3 - A.length * 3 = 3 := by omega
  have a2 : (A.length + 1) * 3 + C.length * 3 - A.length * 3 = C.length * 3 + 3 := by omega
  have a3 : (A.length + 1) * 3 + C.length * 3 ≤ A.length * 3 + (3 + C.length * 3) := by omega
  have a4 : List.drop ((A.length + 1) * 3 + C.length * 3) (flatE markE A) = [] := by rw [List.drop_of_length_le]; simp; omega
  have a5 : List.take 3 (markE.f x) = markE.f x := List.take_of_length_le (by simp)
  have a6 : A.length * 3 + C.length * 3 < (A.length + C.length + 1) * 3 := by omega
  have a7 : List.drop (C.length * 3 + 3) (markE.f x) = [] := List.drop_of_length_le (by simp)
  have dA2 : List.drop ((A.length + 1 + C.length) * 3) (flatE markE A) = [] := by rw [List.drop_of_length_le]; simp; omega
  have tA2 : List.take ((A.length + 1) * 3) (flatE markE A) = flatE markE A := by rw [List.take_of_length_le]; simp; omega
  have tC := tkM C
  have dZ : List.drop (C.length * 3) (flatE markE (List.replicate C.length mark0)) = [] := by rw [List.drop_of_length_le]; simp
  rw [b47 (fun _ _ => rfl) _ _ (by simp)]
  simp -implicitDefEqProofs [hb, hC, hc0, hc1, hne, e1, e2, hq, e3, hp2, hp4, hp5, ht, hs0, hs1, hs2, hs3, hs4, hz, hz0, List.take_append, List.drop_append, tA, tA2, dA, dA1, dA2, i1, dZ, tC, i2, v1, v2, a1, a2, a3, a4, a5, a6, a7]
theorem ins_nil (x : Mark) {k : Nat} :
    evF Try.prog Γb (k + 1) 47 [.nils, .int .i64 0, .sl 0 0 1 3] [some (.cells (markE.f x) true)] = some (.sl 1 0 1 3, [some (.cells (markE.f x) true), some (.cells (markE.f x) false)]) := by
  rw [b47 (fun _ _ => rfl) _ _ (by simp)]
  simp -implicitDefEqProofs [markE_f]
theorem insWalk43 : InsWalk markE Try.prog Γb 47 24 9 := by
  refine ⟨fun x => ⟨1, 1, _, [], false, ins_nil x, by simp, by simp⟩, ?_⟩
  intro l x i q hi hb
  simp only [markE_k]
  rcases Nat.lt_or_ge i l.length with hlt | hge
  · obtain ⟨A, C, rfl, rfl, hC⟩ : ∃ A C, l = A ++ C ∧ i = A.length ∧ 1 ≤ C.length := ⟨l.take i, l.drop i, (List.take_append_drop _ _).symm, by simp; omega, by simp; omega⟩
    have e : insL (A ++ C) A.length x = A ++ x :: C := by simp [insL]
    rw [List.length_append] at hb
    have e2 : flatE markE (insL (A ++ C) A.length x) = flatE markE A ++ (markE.f x ++ flatE markE C) := by rw [e]; simp [markE_f]
    rcases Nat.eq_zero_or_pos q with rfl | hq
    · refine ⟨2, 2, [some (.cells (flatE markE A ++ flatE markE C) true), some (.cells (markE.f x) true), some (.cells (flatE markE A ++ (markE.f x ++ flatE markE C)) false)], [], false, ?_, ?_, by simp⟩
      · have := ins_grow A C hC x hb (k := 0)
        simpa [junkL, flatE_append] using this
      · rw [e2]; simp
    · refine ⟨2, 0, [some (.cells (flatE markE A ++ (markE.f x ++ (flatE markE C ++ junkL (q * 3 - 3)))) true), some (.cells (markE.f x) true), none], junkL (q * 3 - 3), true, ?_, ?_, by simp⟩
      · have := ins_shift A C hC x q hq hb (k := 0)
        simpa [flatE_append] using this
      · rw [e2]; simp
  · obtain rfl : i = l.length := by omega
    have e : insL l l.length x = l ++ [x] := by simp [insL]
    have e2 : flatE markE (insL l l.length x) = flatE markE l ++ markE.f x := by rw [e]; simp [flatE_append, markE_f]
    rcases Nat.eq_zero_or_pos q with rfl | hq
    · refine ⟨1, 2, [some (.cells (flatE markE l) true), some (.cells (markE.f x) true), some (.cells (flatE markE l ++ markE.f x) false)], [], false, ?_, ?_, by simp⟩
      · have := ins_end_grow l x hb (k := 0)
        simpa [junkL] using this
      · rw [e2]; simp
    · refine ⟨1, 0, [some (.cells (flatE markE l ++ (markE.f x ++ junkL (q * 3 - 3))) true), some (.cells (markE.f x) true), none], junkL (q * 3 - 3), true, ?_, ?_, by simp⟩
      · have := ins_end_room l x q hq hb (k := 0)
        simpa using this
      · rw [e2]; simp
end Go.Ev.Try.Ln
namespace Go.Ev.Try.Ln
open Go Go.Ev Go.Proofs
theorem clone_ok (l : List Mark) (hl : l.length ≤ 5864062014805) {k : Nat} :
    evF Try.prog Γ (k + 1) 57 [roV true l.length (flatE markE l)] [] = some (ownV true 0 0 l.length 3, [ownB true l.length (flatE markE l)]) := by
  rw [b57 (fun _ _ => rfl) _ _ (by simp)]
  cases hn : l.length with
  | zero => simp -implicitDefEqProofs
  | succ n =>
    have h1 : (n + 1) * 24 ≤ 140737488355328 := by omega
    have h2 : List.take ((n + 1) * 3) (flatE markE l) = flatE markE l := by rw [List.take_of_length_le]; simp [hn]
    simp -implicitDefEqProofs [hn, h1, h2]
structure Valid (l : List Mark) : Prop where
  len : l.length ≤ 400
  range : ∀ m ∈ l, -4294967295 ≤ m.low ∧ m.high ≤ 4294967295 ∧ m.low ≤ m.high
  asc : ∀ (i : Nat) (h : i + 1 < l.length), less l[i] l[i + 1] = true
theorem sort_nil {k : Nat} (hk : 100 < k) : evF Try.prog Γ (k + 1) 58 [.nils, .fn (.func 59) [] []] [] = some (.tup [], []) := by
  have h : evF Try.prog Γ 20 58 [.nils, .fn (.func 59) [] []] [] = some (.tup [], []) := by kernel_rfl
  exact evF_mono (by omega) _ _ _ _ h
theorem compact_nil {k : Nat} (hk : 100 < k) : evF Try.prog Γ (k + 1) 60 [.nils] [] = some (.nils, [none]) := by
  have h : evF Try.prog Γ 20 60 [.nils] [] = some (.nils, [none]) := by kernel_rfl
  exact evF_mono (by omega) _ _ _ _ h
end Go.Ev.Try.Ln
namespace Go.Ev.Try.Ln
open Go Go.Ev Go.Proofs
def faultStep (p : Option Mark) (m : Mark) : Int :=
  if m.low < -4294967295 ∨ 4294967295 < m.high ∨ m.high < m.low then 21 else match p with | none => 0 | some q => if less q m then 0 else 11
def faultGo : Option Mark → List Mark → Int
  | _, [] => 0
  | p, m :: l => if faultStep p m = 0 then faultGo (some m) l else faultStep p m
def faultM (l : List Mark) : Int := if 400 < l.length then 2 else faultGo none l
def prevM (l : List Mark) (i : Nat) : Option Mark := (l.take i).getLast?
@[simp] theorem prevM_zero (l : List Mark) : prevM l 0 = none := by simp [prevM]
theorem prevM_succ (l : List Mark) (i : Nat) (h : i < l.length) : prevM l (i + 1) = some l[i] := by
  rw [prevM, List.take_succ_eq_append_getElem h, List.getLast?_append]; rfl
theorem faultGo_at (l : List Mark) (i : Nat) (h : i < l.length) : faultGo (prevM l i) (l.drop i) = if faultStep (prevM l i) l[i] = 0 then faultGo (prevM l (i + 1)) (l.drop (i + 1)) else faultStep (prevM l i) l[i] := by
  rw [List.drop_eq_getElem_cons h, faultGo, prevM_succ l i h]
theorem faultM_small {l : List Mark} (h : l.length ≤ 400) : faultM l = faultGo none l := if_neg (by omega)
theorem faultM_large {l : List Mark} (h : 400 < l.length) : faultM l = 2 := if_pos h
theorem faultGo_valid : ∀ (l : List Mark) (p : Option Mark), (∀ m ∈ l, -4294967295 ≤ m.low ∧ m.high ≤ 4294967295 ∧ m.low ≤ m.high) → (∀ (i : Nat) (h : i + 1 < l.length), less l[i] l[i + 1] = true) → (∀ q, p = some q → ∀ h : 0 < l.length, less q l[0] = true) → faultGo p l = 0
  | [], _, _, _, _ => rfl
  | m :: l, p, a, b, c => by
    have h0 : faultStep p m = 0 := by
      have := a m (by simp)
      unfold faultStep
      rw [if_neg (by omega)]
      cases p with
      | none => rfl
      | some q => simp only; have hh := c q rfl (by simp); exact if_pos hh
    rw [faultGo, if_pos h0]
    refine faultGo_valid l (some m) (fun x hx => a x (by simp [hx])) (fun i h => by have := b (i + 1) (by simpa using h); simpa using this) fun q hq h => ?_
    cases hq
    have := b 0 (by simpa using h)
    simpa using this
theorem fault_valid {l : List Mark} (h : Valid l) : faultM l = 0 := by
  rw [faultM_small h.len]
  exact faultGo_valid l none h.range h.asc fun q hq => by cases hq
theorem ordM : Ord.SOrd less := ⟨less_irrefl, less_trans, less_total⟩
theorem dedup_ord (l : List Mark) : dedup l = Ord.dedup l := rfl
def lineM (l : List Mark) : List Mark := Ord.insF less l
theorem line_eq (l : List Mark) : dedup (isort l) = lineM l := by
  rw [dedup_ord]
  refine Ord.names_eq ordM l (isort l) ?_ fun x => (isort_perm l).mem_iff
  exact isort_sorted l
theorem lineM_len (l : List Mark) : (lineM l).length ≤ l.length := Ord.insF_len l
theorem lineM_snoc (l : List Mark) (x : Mark) : lineM (l ++ [x]) = Ord.insS less (lineM l) x := Ord.insF_snoc l x
theorem lineM_ss (l : List Mark) : Ord.SS less (lineM l) := (Ord.insF_facts ordM l).1
theorem lineM_mem (l : List Mark) (x : Mark) : x ∈ lineM l ↔ x ∈ l := (Ord.insF_facts ordM l).2 x
theorem cmpI_vals (a b : Int) : cmpI a b = -1 ∨ cmpI a b = 0 ∨ cmpI a b = 1 := by
  unfold cmpI; split
  · exact .inl rfl
  · split
    · exact .inr (.inr rfl)
    · exact .inr (.inl rfl)
theorem or3_vals {x y z : Int} (hx : x = -1 ∨ x = 0 ∨ x = 1) (hy : y = -1 ∨ y = 0 ∨ y = 1) (hz : z = -1 ∨ z = 0 ∨ z = 1) : orI3 [x, y, z] = -1 ∨ orI3 [x, y, z] = 0 ∨ orI3 [x, y, z] = 1 := by
  rcases hx with rfl | rfl | rfl <;> rcases hy with rfl | rfl | rfl <;> rcases hz with rfl | rfl | rfl <;> decide
theorem cmpM_vals (a b : Mark) : cmpM a b = -1 ∨ cmpM a b = 0 ∨ cmpM a b = 1 := or3_vals (cmpI_vals _ _) (cmpI_vals _ _) (cmpI_vals _ _)
theorem cmpM_neg (a b : Mark) : cmpM a b = -1 ↔ less a b = true := by
  rw [← cmpM_less, decide_eq_true_iff]
  rcases cmpM_vals a b with h | h | h <;> omega
theorem cmpI_zero (a b : Int) : cmpI a b = 0 ↔ a = b := by
  unfold cmpI; split
  · constructor <;> intro <;> omega
  · split <;> constructor <;> intro <;> omega
end Go.Ev.Try.Ln
namespace Go.Ev.Try.Ln
open Go Go.Ev Go.Proofs
theorem bld76 (x y : Int) : buildV Try.prog 44 [(0, V.int .i64 x), (1, V.int .i64 y)] = some (.agg [.int .i64 x, .int .i64 y]) := by kernel_rfl
def alike (a b : Mark) (i : Nat) : Prop := i ≤ 3 ∧ (0 < i → a.low = b.low) ∧ (1 < i → a.high = b.high) ∧ (2 < i → a.id = b.id)
theorem markLess_ok (a b : Mark) {k : Nat} (hk : 20 < k) : evF Try.prog Γ (k + 1) 46 [.agg (markE.f a), .agg (markE.f b)] [] = some (.int .i64 (cmpM a b), []) := by
  obtain ⟨k, rfl⟩ : ∃ j, k = j + 2 := ⟨k - 2, by omega⟩
  have c := fun a b => cmp_ok a b (k := k)
  have e1 : addI .i64 0 1 = 1 := addI_i64 (by omega) (by omega)
  have e2 : addI .i64 1 1 = 2 := addI_i64 (by omega) (by omega)
  have e3 : addI .i64 2 1 = 3 := addI_i64 (by omega) (by omega)
  rw [b46 (fun _ _ => rfl) _ _ (by simp)]
  simp -implicitDefEqProofs [markE_f, bld76]
  generalize hx : evLoopC _ _ _ _ _ _ _ _ _ _ = R
  apply loop_gen hx (fun i : Nat => (mkL 39 .junk [(22, .sl 0 0 3 2), (23, .int .i64 3), (24, .int .i64 i)], [some (.cells [.int .i64 a.low, .int .i64 b.low, .int .i64 a.high, .int .i64 b.high, .int .i64 a.id, .int .i64 b.id] true)]))
    (alike a b) (fun i => 3 - i) 0
  case hI => exact ⟨by omega, fun h => by omega, fun h => by omega, fun h => by omega⟩
  case hq => omega
  case ht => simp -implicitDefEqProofs [liveOf]
  case round =>
    rintro i ⟨hi, h0, h1, h2⟩ _
    clear hx
    have : i = 0 ∨ i = 1 ∨ i = 2 ∨ i = 3 := by omega
    rcases this with rfl | rfl | rfl | rfl
    · by_cases hl : a.low = b.low
      · simp -implicitDefEqProofs [hl, e1]
        exact rnd_next 1 ⟨by omega, fun _ => hl, fun h => by omega, fun h => by omega⟩ (by omega) (by simp -implicitDefEqProofs [liveOf, hl])
      · have hz : ¬ cmpI a.low b.low = 0 := mt (cmpI_zero _ _).1 hl
        simp -implicitDefEqProofs [hl, c, cmpM, orI3, hz]
    · have hl := h0 (by omega)
      by_cases hh : a.high = b.high
      · simp -implicitDefEqProofs [hh, e2]
        exact rnd_next 2 ⟨by omega, fun _ => hl, fun _ => hh, fun h => by omega⟩ (by omega) (by simp -implicitDefEqProofs [liveOf, hh])
      · have hz : ¬ cmpI a.high b.high = 0 := mt (cmpI_zero _ _).1 hh
        have hz0 : cmpI a.low b.low = 0 := (cmpI_zero _ _).2 hl
        simp -implicitDefEqProofs [hh, c, cmpM, orI3, hz, hz0]
    · have hl := h0 (by omega)
      have hh := h1 (by omega)
      by_cases hd : a.id = b.id
      · simp -implicitDefEqProofs [hd, e3]
        exact rnd_next 3 ⟨by omega, fun _ => hl, fun _ => hh, fun _ => hd⟩ (by omega) (by simp -implicitDefEqProofs [liveOf, hd])
      · have hz : ¬ cmpI a.id b.id = 0 := mt (cmpI_zero _ _).1 hd
        have hz0 : cmpI a.low b.low = 0 := (cmpI_zero _ _).2 hl
        have hz1 : cmpI a.high b.high = 0 := (cmpI_zero _ _).2 hh
        simp -implicitDefEqProofs [hd, c, cmpM, orI3, hz, hz0, hz1]
    · have hl := (cmpI_zero _ _).2 (h0 (by omega))
      have hh := (cmpI_zero _ _).2 (h1 (by omega))
      have hd := (cmpI_zero _ _).2 (h2 (by omega))
      simp -implicitDefEqProofs [cmpM, orI3, hl, hh, hd]
theorem check_any (l : List Mark) (z : Bool) {k : Nat} (hk : 1000 < k) :
    evF Try.prog Γ (k + 1) 61 [roV z l.length (flatE markE l)] [] = some (.int .i64 (faultM l), []) := by
  obtain ⟨k, rfl⟩ : ∃ j, k = j + 1 := ⟨k - 1, by omega⟩
  have c := fun a b => cmpM_ok a b (k := k) (by omega)
  simp only [markE_f] at c
  rw [b61 (fun _ _ => rfl) _ _ (by simp)]
  by_cases hl : 400 < l.length
  · have h400 : (400 : Int) < l.length := by omega
    simp -implicitDefEqProofs [h400, faultM_large hl]
  have h400 : ¬ (400 : Int) < l.length := by omega
  rw [faultM_small (by omega)]
  simp -implicitDefEqProofs [h400]
  generalize hx : evLoopC _ _ _ _ _ _ _ _ _ _ = R
  apply loop_gen hx (fun i : Nat => (mkL 43 .junk [(0, roV z l.length (flatE markE l)), (8, roV z l.length (flatE markE l)), (9, .int .i64 l.length), (10, .int .i64 i)], [none, none])) (fun i => i ≤ l.length ∧ faultGo (prevM l i) (l.drop i) = faultGo none l) (fun i => l.length - i) 0
  case hI => simp
  case hq => omega
  case ht => simp -implicitDefEqProofs [liveOf]
  case round =>
    rintro i ⟨hi, hG⟩ _
    clear hx
    by_cases hlt : i < l.length
    · have e2 : addI .i64 (i : Int) 1 = (i : Int) + 1 := addI_i64 (by omega) (by omega)
      have hA := faultGo_at l i hlt
      rw [hG] at hA
      by_cases q1 : l[i].low < -4294967295
      · have hf : faultStep (prevM l i) l[i] = 21 := if_pos (.inl q1)
        rw [hf] at hA
        have mx := at_marks l i hlt
        have b0 : (i : Int) < l.length := by omega
        generalize l[i] = x at *
        simp -implicitDefEqProofs [hlt, b0, mx, e2, markE_f, q1, hA]
      by_cases q2 : 4294967295 < l[i].high
      · have hf : faultStep (prevM l i) l[i] = 21 := if_pos (.inr (.inl q2))
        rw [hf] at hA
        have mx := at_marks l i hlt
        have b0 : (i : Int) < l.length := by omega
        generalize l[i] = x at *
        simp -implicitDefEqProofs [hlt, b0, mx, e2, markE_f, q1, q2, hA]
      by_cases q3 : l[i].high < l[i].low
      · have hf : faultStep (prevM l i) l[i] = 21 := if_pos (.inr (.inr q3))
        rw [hf] at hA
        have mx := at_marks l i hlt
        have b0 : (i : Int) < l.length := by omega
        generalize l[i] = x at *
        simp -implicitDefEqProofs [hlt, b0, mx, e2, markE_f, q1, q2, q3, hA]
      have hf : faultStep (prevM l i) l[i] = match prevM l i with | none => 0 | some q => if less q l[i] then 0 else 11 := if_neg (by omega)
      cases i with
      | zero =>
        rw [prevM_zero] at hf hA
        simp only at hf
        rw [hf, if_pos rfl] at hA
        have b0 : (0 : Int) < l.length := by omega
        have b0' : 0 < l.length := hlt
        have b1 : ¬ l.length = 0 := by omega
        have m0 : List.take 3 (flatE markE l) = [.int .i64 l[0].id, .int .i64 l[0].low, .int .i64 l[0].high] := by
          have h := at_marks l 0 hlt
          rw [Nat.zero_mul, List.drop_zero] at h
          exact h
        have e9 : addI .i64 0 1 = 1 := addI_i64 (by omega) (by omega)
        simp -implicitDefEqProofs [hlt, b0, b0', b1, m0, e2, e9, markE_f, q1, q2, q3]
        exact rnd_next 1 ⟨by omega, hA.symm⟩ (by omega) (by simp -implicitDefEqProofs [liveOf])
      | succ p =>
        have hp : p < l.length := by omega
        rw [prevM_succ l p hp] at hf hA
        simp only at hf
        have e3 : subI .i64 ((p : Int) + 1) 1 = (p : Int) := by rw [subI_i64 (by omega) (by omega)]; omega
        have e4 : addI .i64 ((p : Int) + 1) 1 = (p : Int) + 1 + 1 := addI_i64 (by omega) (by omega)
        have e5 : (0 : Int) < (p : Int) + 1 := by omega
        have e6 : (0 : Int) ≤ (p : Int) + 1 := by omega
        have b1 : (p : Int) + 1 < l.length := by omega
        have b2 : (p : Int) < l.length := by omega
        have my := at_marks l p hp
        have mx := at_marks l (p + 1) hlt
        cases hlss : less l[p] l[p + 1] with
        | true =>
          rw [hf, hlss, if_pos rfl, if_pos rfl] at hA
          rw [← cmpM_less] at hlss
          have hc : ¬ 0 ≤ cmpM l[p] l[p + 1] := by have := of_decide_eq_true hlss; omega
          simp -implicitDefEqProofs [hlt, hp, e3, e4, e5, e6, b1, b2, my, mx, markE_f, q1, q2, q3, c, hc]
          exact rnd_next (p + 1 + 1) ⟨by omega, hA.symm⟩ (by omega) (by simp -implicitDefEqProofs [liveOf])
        | false =>
          rw [hf, hlss, if_neg (by simp), if_neg (by simp)] at hA
          rw [← cmpM_less] at hlss
          have hc : 0 ≤ cmpM l[p] l[p + 1] := by have := of_decide_eq_false hlss; omega
          simp -implicitDefEqProofs [hlt, hp, e3, e4, e5, e6, b1, b2, my, mx, markE_f, q1, q2, q3, c, hc, hA]
    · have hi' : i = l.length := by omega
      subst hi'
      rw [List.drop_length] at hG
      simp -implicitDefEqProofs [← hG, faultGo]
theorem fault_any (l : List Mark) (z : Bool) {k : Nat} (hk : 1000 < k) :
    evF Try.prog Γ (k + 1) 48 [roV z l.length (flatE markE l)] [] = some (.int .i64 (faultM l), []) := by
  obtain ⟨k, rfl⟩ : ∃ j, k = j + 1 := ⟨k - 1, by omega⟩
  have c := fun a b => markLess_ok a b (k := k) (by omega)
  simp only [markE_f] at c
  rw [b48 (fun _ _ => rfl) _ _ (by simp)]
  by_cases hl : 400 < l.length
  · have h400 : (400 : Int) < l.length := by omega
    simp -implicitDefEqProofs [h400, faultM_large hl]
  have h400 : ¬ (400 : Int) < l.length := by omega
  rw [faultM_small (by omega)]
  simp -implicitDefEqProofs [h400]
  generalize hx : evLoopC _ _ _ _ _ _ _ _ _ _ = R
  apply loop_gen hx (fun i : Nat => (mkL 43 .junk [(0, roV z l.length (flatE markE l)), (8, roV z l.length (flatE markE l)), (9, .int .i64 l.length), (10, .int .i64 i)], [none, none])) (fun i => i ≤ l.length ∧ faultGo (prevM l i) (l.drop i) = faultGo none l) (fun i => l.length - i) 0
  case hI => simp
  case hq => omega
  case ht => simp -implicitDefEqProofs [liveOf]
  case round =>
    rintro i ⟨hi, hG⟩ _
    clear hx
    by_cases hlt : i < l.length
    · have e2 : addI .i64 (i : Int) 1 = (i : Int) + 1 := addI_i64 (by omega) (by omega)
      have hA := faultGo_at l i hlt
      rw [hG] at hA
      by_cases q1 : l[i].low < -4294967295
      · have hf : faultStep (prevM l i) l[i] = 21 := if_pos (.inl q1)
        rw [hf] at hA
        have mx := at_marks l i hlt
        have b0 : (i : Int) < l.length := by omega
        generalize l[i] = x at *
        simp -implicitDefEqProofs [hlt, b0, mx, e2, markE_f, q1, hA]
      by_cases q2 : 4294967295 < l[i].high
      · have hf : faultStep (prevM l i) l[i] = 21 := if_pos (.inr (.inl q2))
        rw [hf] at hA
        have mx := at_marks l i hlt
        have b0 : (i : Int) < l.length := by omega
        have q2' : 4294967296 ≤ l[i].high := by omega
        generalize l[i] = x at *
        simp -implicitDefEqProofs [hlt, b0, mx, e2, markE_f, q1, q2', hA]
      have q2' : ¬ 4294967296 ≤ l[i].high := by omega
      by_cases q3 : l[i].high < l[i].low
      · have hf : faultStep (prevM l i) l[i] = 21 := if_pos (.inr (.inr q3))
        rw [hf] at hA
        have mx := at_marks l i hlt
        have b0 : (i : Int) < l.length := by omega
        generalize l[i] = x at *
        simp -implicitDefEqProofs [hlt, b0, mx, e2, markE_f, q1, q2', q3, hA]
      have hf : faultStep (prevM l i) l[i] = match prevM l i with | none => 0 | some q => if less q l[i] then 0 else 11 := if_neg (by omega)
      cases i with
      | zero =>
        rw [prevM_zero] at hf hA
        simp only at hf
        rw [hf, if_pos rfl] at hA
        have b0 : (0 : Int) < l.length := by omega
        have b0' : 0 < l.length := hlt
        have b1 : ¬ l.length = 0 := by omega
        have m0 : List.take 3 (flatE markE l) = [.int .i64 l[0].id, .int .i64 l[0].low, .int .i64 l[0].high] := by
          have h := at_marks l 0 hlt
          rw [Nat.zero_mul, List.drop_zero] at h
          exact h
        have e9 : addI .i64 0 1 = 1 := addI_i64 (by omega) (by omega)
        simp -implicitDefEqProofs [hlt, b0, b0', b1, m0, e2, e9, markE_f, q1, q2', q3]
        exact rnd_next 1 ⟨by omega, hA.symm⟩ (by omega) (by simp -implicitDefEqProofs [liveOf])
      | succ p =>
        have hp : p < l.length := by omega
        rw [prevM_succ l p hp] at hf hA
        simp only at hf
        have e3 : subI .i64 ((p : Int) + 1) 1 = (p : Int) := by rw [subI_i64 (by omega) (by omega)]; omega
        have e4 : addI .i64 ((p : Int) + 1) 1 = (p : Int) + 1 + 1 := addI_i64 (by omega) (by omega)
        have e5 : (0 : Int) < (p : Int) + 1 := by omega
        have e6 : (0 : Int) ≤ (p : Int) + 1 := by omega
        have b1 : (p : Int) + 1 < l.length := by omega
        have b2 : (p : Int) < l.length := by omega
        have my := at_marks l p hp
        have mx := at_marks l (p + 1) hlt
        have hcn := cmpM_neg l[p] l[p + 1]
        cases hlss : less l[p] l[p + 1] with
        | true =>
          rw [hf, hlss, if_pos rfl, if_pos rfl] at hA
          have hc : cmpM l[p] l[p + 1] = -1 := hcn.2 hlss
          simp -implicitDefEqProofs [hlt, hp, e3, e4, e5, e6, b1, b2, my, mx, markE_f, q1, q2', q3, c, hc]
          exact rnd_next (p + 1 + 1) ⟨by omega, hA.symm⟩ (by omega) (by simp -implicitDefEqProofs [liveOf])
        | false =>
          rw [hf, hlss, if_neg (by simp), if_neg (by simp)] at hA
          have hc : ¬ cmpM l[p] l[p + 1] = -1 := fun h => by rw [hcn, hlss] at h; cases h
          simp -implicitDefEqProofs [hlt, hp, e3, e4, e5, e6, b1, b2, my, mx, markE_f, q1, q2', q3, c, hc, hA]
    · have hi' : i = l.length := by omega
      subst hi'
      rw [List.drop_length] at hG
      simp -implicitDefEqProofs [← hG, faultGo]
end Go.Ev.Try.Ln
namespace Go.Ev.Try.Ln
open Go Go.Ev Go.Proofs
theorem insert43 (L : List Mark) (x : Mark) (i : Nat) (hi : i ≤ L.length) (hb : (L.length + 1) * 24 ≤ 140737488355328) {k : Nat} :
    evF Try.prog Γ (k + 1) 47 [.sl 0 0 L.length 3, .int .i64 i, .sl 1 0 1 3] [some (.cells (flatE markE L) false), some (.cells (markE.f x) true)] = some (.sl 9 0 (L.length + 1) 3, List.replicate 9 none ++ [some (.cells (flatE markE (insL L i x)) false)]) := by
  refine evF_orc ?_
  have ho : ∀ a H, Γ.orc 47 a H = insOrc markE 24 9 a H := fun a H => by simp [Γ, Γo, clockOrc]
  rw [ho]
  exact insOrc_eq markE (by decide) markE_inj 24 9 L x i hi hb
theorem insert43n (x : Mark) {k : Nat} : evF Try.prog Γ (k + 1) 47 [.nils, .int .i64 0, .sl 0 0 1 3] [some (.cells (markE.f x) true)] = some (.sl 9 0 1 3, List.replicate 9 none ++ [some (.cells (markE.f x) false)]) := by
  refine evF_orc ?_
  have ho : ∀ a H, Γ.orc 47 a H = insOrc markE 24 9 a H := fun a H => by simp [Γ, Γo, clockOrc]
  rw [ho]
  exact insOrc_nil markE 24 9 x
theorem lined0_ok (l : List Mark) (z : Bool) (hl : l.length ≤ 5864062014805) {k : Nat} (hk : l.length + 1010 < k) (e : Int) (he : e = faultM (lineM l)) :
    evF Try.prog Γ (k + 1) 28 [roV z l.length (flatE markE l)] [] = if e = 0 then some (.tup [ownV true 0 0 (lineM l).length 3, .int .i64 0], [ownB true (lineM l).length (flatE markE (lineM l))]) else some (.tup [.nils, .int .i64 e], [none]) := by
  obtain ⟨k, rfl⟩ : ∃ j, k = j + 2 := ⟨k - 2, by omega⟩
  rw [b28 (fun _ _ => rfl) _ _ (by simp)]
  simp -implicitDefEqProofs
  generalize hx : evLoopC _ _ _ _ _ _ _ _ _ _ = R
  apply loop_gen hx (fun i : Nat => (mkL 54 .junk [(4, ownV true 0 0 (lineM (l.take i)).length 3), (9, roV z l.length (flatE markE l)), (10, .int .i64 l.length), (11, .int .i64 i)], [ownB true (lineM (l.take i)).length (flatE markE (lineM (l.take i))), none]))
    (fun i => i ≤ l.length) (fun i => l.length - i) 0
  case hI => simp
  case hq => omega
  case ht => simp -implicitDefEqProofs [liveOf, lineM, Ord.insF]
  case round =>
    rintro i hi _
    clear hx
    by_cases hlt : i < l.length
    · have hlt2 : (i : Int) < l.length := by omega
      have ms := at_marks l i hlt
      have h3 : 3 ≤ l.length * 3 - i * 3 := by omega
      have hs : lineM (l.take (i + 1)) = Ord.insS less (lineM (l.take i)) l[i] := by
        rw [List.take_succ_eq_append_getElem hlt, lineM_snoc]
      have hlen : (lineM (l.take i)).length ≤ i := Nat.le_trans (lineM_len _) (by simp; omega)
      have e2 : addI .i64 (i : Int) 1 = (i : Int) + 1 := addI_i64 (by omega) (by omega)
      generalize l[i] = x at *
      generalize lineM (l.take i) = O at *
      cases hO : O.length with
      | zero =>
        have hnil : O = [] := List.length_eq_zero_iff.1 hO
        subst hnil
        have ci := insert43n x (k := k + 1)
        have hins : Ord.insS less [] x = [x] := rfl
        simp only [markE_f] at ci
        simp -implicitDefEqProofs [hlt, hlt2, ms, h3]
        generalize hy : evLoopC _ _ _ _ _ _ _ _ _ _ = R2
        apply loop_gen hy (fun j : Nat => (mkL 54 .junk [(4, .nils), (6, .ptr 1 0), (7, .int .i64 0), (9, roV z l.length (flatE markE l)), (10, .int .i64 l.length), (11, .int .i64 i)], [none, some (.cells (markE.f x) true), none])) (fun _ => True) (fun _ => 0) 0
        case hI => trivial
        case hq => omega
        case ht => simp -implicitDefEqProofs [liveOf, markE_f]
        case round =>
          rintro j _ _
          clear hy
          simp -implicitDefEqProofs [markE_f, ci, e2]
          exact rnd_next (i + 1) hlt (by omega) (by simp -implicitDefEqProofs [liveOf, hs, hins, markE_f])
      | succ c =>
        simp -implicitDefEqProofs [hlt, hlt2, ms, h3]
        generalize hy : evLoopC _ _ _ _ _ _ _ _ _ _ = R2
        apply loop_gen hy (fun j : Nat => (mkL 54 .junk [(4, .sl 0 0 (c + 1) 3), (6, .ptr 1 0), (7, .int .i64 j), (9, roV z l.length (flatE markE l)), (10, .int .i64 l.length), (11, .int .i64 i)], [some (.cells (flatE markE O) false), some (.cells (markE.f x) true), none]))
          (fun j => j ≤ c + 1 ∧ ∀ t (ht : t < j) (ht' : t < O.length), less O[t] x = true) (fun j => c + 1 - j) 0
        case hI => exact ⟨by omega, fun t ht => by omega⟩
        case hq => omega
        case ht => simp -implicitDefEqProofs [liveOf, markE_f]
        case round =>
          rintro j ⟨hj, hall⟩ _
          clear hy
          by_cases hjl : j < c + 1
          · have hjO : j < O.length := by omega
            have g1 : (j : Int) < (c : Int) + 1 := by omega
            have m0 := at_marks O j hjO
            have e3 : addI .i64 (j : Int) 1 = (j : Int) + 1 := addI_i64 (by omega) (by omega)
            have htw := Ord.take_while_len (lt := less) O x j (by omega) (fun t ht => hall t ht (by omega))
            have hg : O[j]? = some O[j] := List.getElem?_eq_getElem hjO
            have hnx : less O[j] x = true → ∀ t (ht : t < j + 1) (ht' : t < O.length), less O[t] x = true := fun h t ht ht' => by
              rcases Nat.lt_or_ge t j with h' | h'
              · exact hall t h' ht'
              · obtain rfl : t = j := by omega
                exact h
            have hfin : less O[j] x = false → Ord.insS less O x = if O[j] = x then O else insL O j x := fun h => by
              unfold Ord.insS
              simp only
              rw [htw (fun _ => h), hg]
              simp only [Option.some.injEq]
            have hne : ¬ (j : Int) = (c : Int) + 1 := by omega
            have h33 : 3 ≤ O.length * 3 - j * 3 := by omega
            have hin := insL_length O j x (by omega)
            have ci := insert43 O x j (by omega) (by omega) (k := k + 1)
            have cm := markLess_ok O[j] x (k := k + 1) (by omega)
            rw [hO] at ci hin
            simp only [markE_f] at ci cm
            have hcl := cmpM_less O[j] x
            generalize O[j] = y at *
            cases hlts : less y x with
            | true =>
              rw [hlts] at hcl
              have hc : cmpM y x < 0 := of_decide_eq_true hcl
              simp -implicitDefEqProofs [markE_f, g1, hjl, h33, m0, e3, cm, hc]
              exact rnd_next (j + 1) ⟨hjl, hnx hlts⟩ (by omega) (by simp -implicitDefEqProofs [liveOf, markE_f])
            | false =>
              rw [hlts] at hcl
              have hc : ¬ cmpM y x < 0 := of_decide_eq_false hcl
              have hf := hfin hlts
              by_cases hyx : y = x
              · rw [if_pos hyx] at hf
                subst hyx
                simp -implicitDefEqProofs [markE_f, g1, hjl, h33, m0, e2, cm, hc, hne, ne_mark]
                exact rnd_next (i + 1) hlt (by omega) (by simp -implicitDefEqProofs [liveOf, hs, hf, hO])
              · rw [if_neg hyx] at hf
                simp -implicitDefEqProofs [markE_f, g1, hjl, h33, m0, e2, cm, hc, hyx, hne, ci, ne_mark]
                exact rnd_next (i + 1) hlt (by omega) (by simp -implicitDefEqProofs [liveOf, hs, hf, hin])
          · have hjc : j = c + 1 := by omega
            subst hjc
            have g1 : ¬ ((c : Int) + 1 < (c : Int) + 1) := by omega
            have htw := Ord.take_while_len (lt := less) O x (c + 1) (by omega) (fun t ht => hall t ht (by omega)) (fun ht => by omega)
            have hg : O[c + 1]? = none := List.getElem?_eq_none (by omega)
            have hf : Ord.insS less O x = insL O (c + 1) x := by
              unfold Ord.insS
              simp only
              rw [htw, hg]
              simp
            have hin := insL_length O (c + 1) x (by omega)
            have ci := insert43 O x (c + 1) (by omega) (by omega) (k := k + 1)
            rw [hO] at ci hin
            simp [markE_f] at ci
            simp -implicitDefEqProofs [markE_f, g1, e2, ci]
            exact rnd_next (i + 1) hlt (by omega) (by simp -implicitDefEqProofs [liveOf, hs, hf, hin])
    · have hi' : i = l.length := by omega
      subst hi'
      have hlt2 : ¬ (l.length : Int) < (l.length : Int) := by omega
      rw [List.take_length]
      have cf := fault_any (lineM l) true (k := k + 1) (by omega)
      rw [← he] at cf
      generalize lineM l = O at *
      cases hO : O.length with
      | zero =>
        rw [hO] at cf
        have hnil : O = [] := List.length_eq_zero_iff.1 hO
        subst hnil
        simp at cf
        by_cases h0 : e = 0
        · simp -implicitDefEqProofs [cf, h0]
        · simp -implicitDefEqProofs [cf, h0]
      | succ c =>
        rw [hO] at cf
        simp at cf
        have tk : List.take ((c + 1) * 3) (flatE markE O) = flatE markE O := by rw [List.take_of_length_le]; simp [hO]
        by_cases h0 : e = 0
        · simp -implicitDefEqProofs [cf, h0, tk]
        · simp -implicitDefEqProofs [cf, h0, tk]
end Go.Ev.Try.Ln
namespace Go.Ev.Try.Ln
open Go Go.Ev Go.Proofs
theorem equal_ok (a b : List Mark) (za zb : Bool) (hl : a.length ≤ 5864062014805) {k : Nat} (hk : a.length < k) :
    evF Try.prog Γ (k + 1) 30 [roV za a.length (flatE markE a), roV zb b.length (flatE markE b)] [] = some (.bool (decide (a = b)), []) := by
  rw [b30 (fun _ _ => rfl) _ _ (by simp)]
  by_cases hne : a.length = b.length
  · simp -implicitDefEqProofs [hne]
    generalize hx : evLoopC _ _ _ _ _ _ _ _ _ _ = R
    apply loop_gen hx (fun i : Nat => (mkL 26 .junk [(0, roV za b.length (flatE markE a)), (1, roV zb b.length (flatE markE b)), (12, .int .i64 b.length), (13, .int .i64 i)], [none, none]))
      (fun i => i ≤ b.length ∧ a.take i = b.take i) (fun i => b.length - i) 0
    case hI => simp
    case hq => omega
    case ht => simp -implicitDefEqProofs [liveOf]
    case round =>
      rintro i ⟨hi, he⟩ _
      clear hx
      by_cases hlt : i < b.length
      · have hltA : i < a.length := by omega
        have hlt2 : (i : Int) < b.length := by omega
        have e2 : addI .i64 (i : Int) 1 = (i : Int) + 1 := addI_i64 (by omega) (by omega)
        have ma := at_marks a i hltA
        have mb := at_marks b i hlt
        have ta := List.take_succ_eq_append_getElem hltA
        have tb := List.take_succ_eq_append_getElem hlt
        by_cases hab : a[i] = b[i]
        · simp -implicitDefEqProofs [hlt, hlt2, e2, ma, mb, ne_mark, hab]
          exact rnd_next (i + 1) ⟨hlt, by rw [ta, tb, he, hab]⟩ (by omega) (by simp -implicitDefEqProofs [liveOf])
        · have hF : ¬ a = b := fun h => hab (by subst h; rfl)
          simp -implicitDefEqProofs [hlt, hlt2, e2, ma, mb, ne_mark, hab, hF]
      · have hi' : i = b.length := by omega
        subst hi'
        rw [List.take_length, List.take_of_length_le (by omega)] at he
        simp -implicitDefEqProofs [he]
  · have hF : ¬ a = b := fun h => hne (by rw [h])
    have hne2 : ¬ (a.length : Int) = b.length := by omega
    simp -implicitDefEqProofs [hne, hne2, hF]
end Go.Ev.Try.Ln
namespace Go.Ev.Try.Ln
open Go Go.Ev Go.Proofs
theorem clone_n {k : Nat} : evF Try.prog Γ (k + 1) 57 [.nils] [] = some (.nils, [none]) := by
  rw [b57 (fun _ _ => rfl) _ _ (by simp)]
  simp -implicitDefEqProofs
theorem of_nil {k : Nat} (hk : 2010 < k) : evF Try.prog Γ (k + 1) 45 [.nils] [] = some (.tup [.nils, .int .i64 0], [none]) := by
  obtain ⟨k, rfl⟩ : ∃ j, k = j + 1 := ⟨k - 1, by omega⟩
  have c1 := clone_n (k := k)
  have c2 := sort_nil (k := k) (by omega)
  have c3 := compact_nil (k := k) (by omega)
  have c4 := check_any [] true (k := k) (by omega)
  have hf : faultM [] = 0 := rfl
  rw [hf] at c4
  rw [b45 (fun _ _ => rfl) _ _ (by simp)]
  simp [roV] at c4
  simp -implicitDefEqProofs [c1, c2, c3, c4]
theorem of_some (l : List Mark) (z : Bool) (hl : l.length ≤ 5864062014805) {k : Nat} (hk : l.length + 2010 < k) (hne : l.length ≠ 0) (e : Int) (he : e = faultM (lineM l)) :
    evF Try.prog Γ (k + 1) 45 [roV z l.length (flatE markE l)] [] = if e = 0 then some (.tup [.sl 0 0 (lineM l).length 3, .int .i64 0], [some (.cells (flatE markE (lineM l ++ List.replicate (l.length - (lineM l).length) mark0)) false)]) else some (.tup [.nils, .int .i64 e], [none]) := by
  obtain ⟨k, rfl⟩ : ∃ j, k = j + 1 := ⟨k - 1, by omega⟩
  have c1 := clone_ok l (by omega) (k := k)
  have c4 := check_any (dedup (isort l)) false (k := k) (by omega)
  have hlen := isort_length l
  rw [b45 (fun _ _ => rfl) _ _ (by simp)]
  obtain ⟨n, hn⟩ : ∃ n, l.length = n + 1 := ⟨l.length - 1, by omega⟩
  have c2 := sort33 l (by omega) (ex := false) (k := k)
  have c3 := compact_any (isort l) (by omega) (k := k) (by omega)
  have h2 : ∀ M : List Mark, List.take ((dedup (isort l)).length * 3) (flatE markE (dedup (isort l)) ++ flatE markE M) = flatE markE (dedup (isort l)) := fun M => by rw [List.take_append_of_le_length (by simp), List.take_of_length_le (by simp)]
  rw [hlen] at c3
  rw [line_eq] at c3 c4 h2
  rw [← he] at c4
  rw [hn] at c1 c2 c3
  rw [hn]
  simp only [roV_succ, ownV_succ, ownB_succ, roV_false] at c1 c4
  generalize hS : isort l = S at *
  generalize lineM l = D at *
  simp -implicitDefEqProofs [flatE_append] at c3
  by_cases h0 : e = 0
  · subst h0
    simp -implicitDefEqProofs [c1, c2, c3, c4, h2]
  · simp -implicitDefEqProofs [c1, c2, c3, c4, h2, h0]
end Go.Ev.Try.Ln
