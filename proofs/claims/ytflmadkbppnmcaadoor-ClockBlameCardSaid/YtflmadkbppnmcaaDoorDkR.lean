/-
  THE CLOCK DOOR SEAT: made events are right; the fact 'timed' (own work).
-/
import Derived.Test.YtflmadkbppnmcaaDoorDkK
import Derived.Test.YtflmadkbppnmcaaDoorDkC5
import Derived.Test.YtflmadkbppnmcaaDoorDkZ
import Derived.KernelRfl
set_option linter.unusedSimpArgs false
set_option linter.unusedVariables false
set_option maxRecDepth 100000
set_option maxHeartbeats 1000000
namespace Go.Ev.Tryd
open Go Go.Ev Go.Proofs

theorem firstNZ_all : ∀ {l : List Int}, (∀ x ∈ l, x = 0) → firstNZ l = 0
  | [], _ => rfl
  | a :: l, h => by
    rw [firstNZ, if_pos (h a (by simp))]
    exact firstNZ_all fun x hx => h x (by simp [hx])
theorem named_clk {q : Nat} (h : q < 4) : named (clk q) = true := by
  have : q = 0 ∨ q = 1 ∨ q = 2 ∨ q = 3 := by omega
  rcases this with h | h | h | h <;> subst h <;> decide
theorem ltS_irr (a : ByteArray) : ltS a a = false := by
  unfold ltS; rw [bl_eq]; simp
theorem SS.nodup {l : List ByteArray} (h : SS l) : l.Nodup := by
  rw [List.nodup_iff_pairwise_ne]
  exact h.imp fun {a b} hab e => by subst e; rw [ltS_irr] at hab; cases hab
theorem Made.few {even : Bool} {E T : List Int} {es : List Event} {ts : List Tie} (h : Made even E T es ts) : (insF (clks es)).length ≤ 8 := by
  have hn := (insF_facts (clks es)).1.nodup
  have hs : insF (clks es) ⊆ clks es := fun x hx => ((insF_facts (clks es)).2 x).1 hx
  have := List.Nodup.length_le_of_subset hn hs
  have := h.hn
  rw [clks_length] at *
  omega
theorem Made.fault {even : Bool} {E T : List Int} {es : List Event} {ts : List Tie} (h : Made even E T es ts) : faultC es ts = 0 := by
  have h1 := h.few
  have h2 := h.hn
  have h3 := h.hm
  unfold faultC
  rw [if_neg (by omega)]
  refine firstNZ_all fun x hx => ?_
  rcases List.mem_append.1 hx with hx | hx
  · obtain ⟨e, he, rfl⟩ := List.mem_map.1 hx
    obtain ⟨i, hi, rfl⟩ := List.mem_iff_getElem.1 he
    obtain ⟨g1, g2, q, hq, hc, w1, w2, s1, s2⟩ := h.ev i hi
    have hE : -30 ≤ E.getD q 0 ∧ E.getD q 0 ≤ 30 := by
      have hl : q < E.length := by rw [h.hE]; exact hq
      rw [List.getD_eq_getElem?_getD, List.getElem?_eq_getElem hl]
      exact h.hEr _ (List.getElem_mem hl)
    unfold evFault
    rw [hc, named_clk hq, if_neg (by simp), if_neg (by omega)]
  · obtain ⟨t, ht, rfl⟩ := List.mem_map.1 hx
    obtain ⟨g1, g2, g3, g4, g5, g6, g7, g8, _⟩ := h.tie t ht
    have := h.hT
    unfold tieFault
    rw [if_neg (by omega), if_neg g5, if_neg (by omega)]
theorem Made.right {even : Bool} {E T : List Int} {es : List Event} {ts : List Tie} (h : Made even E T es ts) : Right es ts := right_of h.fault
/-- Where the first number is even, the hidden errors and times are a solution. -/
theorem Made.feas {E T : List Int} {es : List Event} {ts : List Tie} (h : Made true E T es ts) : feas es ts = true := by
  have hEq : ∀ q : Nat, -30 ≤ E.getD q 0 ∧ E.getD q 0 ≤ 30 := fun q => by
    rcases Nat.lt_or_ge q E.length with hl | hl
    · rw [List.getD_eq_getElem?_getD, List.getElem?_eq_getElem hl]
      exact h.hEr _ (List.getElem_mem hl)
    · rw [List.getD_eq_getElem?_getD, List.getElem?_eq_none hl]; simp
  have hTq : ∀ q : Nat, 0 ≤ T.getD q 0 ∧ T.getD q 0 ≤ 499 := fun q => by
    rcases Nat.lt_or_ge q es.length with hl | hl
    · have := h.ev q hl; exact ⟨by have := this.1; omega, this.2.1⟩
    · rw [List.getD_eq_getElem?_getD, List.getElem?_eq_none (by rw [h.hT]; exact hl)]; simp
  refine feas_of h.right (fun s => if s = clk (0 : Nat) then E.getD 0 0 else if s = clk (1 : Nat) then E.getD 1 0 else if s = clk (2 : Nat) then E.getD 2 0 else E.getD 3 0) (fun i => T.getD i 0) (fun s => ?_) (fun i => ?_) (fun i hi => ?_) (fun t ht => ?_)
  · have a := hEq 0; have b := hEq 1; have c := hEq 2; have d := hEq 3
    split
    · omega
    · split
      · omega
      · split <;> omega
  · have := hTq i; omega
  · obtain ⟨g1, g2, q, hq, hc, w1, w2, s1, s2⟩ := h.ev i hi
    have n10 : clk (1 : Nat) ≠ clk (0 : Nat) := by decide
    have n20 : clk (2 : Nat) ≠ clk (0 : Nat) := by decide
    have n21 : clk (2 : Nat) ≠ clk (1 : Nat) := by decide
    have n30 : clk (3 : Nat) ≠ clk (0 : Nat) := by decide
    have n31 : clk (3 : Nat) ≠ clk (1 : Nat) := by decide
    have n32 : clk (3 : Nat) ≠ clk (2 : Nat) := by decide
    have : (if es[i].clock = clk (0 : Nat) then E.getD 0 0 else if es[i].clock = clk (1 : Nat) then E.getD 1 0 else if es[i].clock = clk (2 : Nat) then E.getD 2 0 else E.getD 3 0) = E.getD q 0 := by
      rw [hc]
      have : q = 0 ∨ q = 1 ∨ q = 2 ∨ q = 3 := by omega
      rcases this with rfl | rfl | rfl | rfl
      · rw [if_pos rfl]
      · rw [if_neg n10, if_pos rfl]
      · rw [if_neg n20, if_neg n21, if_pos rfl]
      · rw [if_neg n30, if_neg n31, if_neg n32]
    rw [this]
    omega
  · exact (h.tie t ht).2.2.2.2.2.2.2.2 rfl

/-! ### timed -/
theorem timed_ans : answer [⟨⟨#[97]⟩, 5, 0⟩] [⟨-1, 0, 10, 12⟩] (fun d => ivs d (1 + nC [⟨⟨#[97]⟩, 5, 0⟩]) [(⟨⟨#[97]⟩, 5, 0⟩ : Event)].length) = ([(10, 12)], 0) := by kernel_rfl
theorem guard33 : Tryd.prog.eqGuardType Tryd.prog.depth 33 = false := by kernel_rfl
theorem eqI_int (k : IntKind) (a b : Int) : eqI (.int k a) (.int k b) = some (decide (a = b)) := by
  show (if k = k then some (a == b) else none) = _
  rw [if_pos rfl]; by_cases h : a = b <;> simp [h]
theorem eqv33 (a b c d : Int) : eqV Tryd.prog 10000 33 (.agg [.int .i64 a, .int .i64 b]) (.agg [.int .i64 c, .int .i64 d]) = some (decide (a = c ∧ b = d)) := by
  rw [show (10000 : Nat) = 9998 + 1 + 1 from rfl]
  by_cases h1 : a = c <;> by_cases h2 : b = d <;> simp [eqV, eqElems, aggOf, partV, eqI_int, h1, h2]
theorem eq33 (a b c d : Int) : evBin Tryd.prog .eql 33 (.agg [.int .i64 a, .int .i64 b]) (.agg [.int .i64 c, .int .i64 d]) = some (.bool (decide (a = c ∧ b = d))) := by
  simp only [evBin, noNumV, aggOf, guard33, Option.isNone_some, Bool.false_or, Bool.not_false, Bool.and_self, if_true, eqv33, Option.map_some]
theorem timedG (call : CallF) (n : Nat) (x y : Int) (hx : x = 10) (hy : y = 12) (A B : List V) (hA : A = [V.str ⟨#[97]⟩, V.int IntKind.i64 5, V.int IntKind.i64 0]) (hB : B = [V.int IntKind.i64 (-1), V.int IntKind.i64 0, V.int IntKind.i64 10, V.int IntKind.i64 12])
    (c : call 8 [.ros 1 A, .ros 1 B] [] = some (.tup [.sl 0 0 1 2, .int .i64 0], [some (.cells [.int .i64 x, .int .i64 y] false)])) :
    bodyEnd Tryd.prog [.tmp 0] 0 (evCode Tryd.prog Γ call n 9 0 (cAt [] B9) (mkL 25 V.undef (enumV 0 [])) []) = some (.bool true, []) := by
  rw [hA, hB] at c
  simp -implicitDefEqProofs [c, bldP, eq33, hx, hy]
theorem timed_ok {k : Nat} (hk : 500 < k) : evF Tryd.prog Γ (k + 1) 9 [] [] = some (.bool true, []) := by
  have c := solve_ok [⟨⟨#[97]⟩, 5, 0⟩] [⟨-1, 0, 10, 12⟩] false false (by simp) (by simp) (k := k - 1) (by simp; omega)
  rw [timed_ans] at c
  rw [show k - 1 + 1 = k by omega] at c
  simp [ansV, eventE_f, tieE_f, pairE_f, roV] at c
  exact (b9 (fun _ _ => rfl) _ _ (by simp)).trans (timedG _ _ 10 12 rfl rfl _ _ rfl rfl c)
end Go.Ev.Tryd
