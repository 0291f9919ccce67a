/-
  THE ASK SEAT: Size, and what conditions weigh (own work).
-/
import Derived.Test.YtmcakfjbefelgaaDoorAkD
set_option linter.unusedSimpArgs false
set_option linter.unusedVariables false
set_option maxRecDepth 100000
set_option maxHeartbeats 4000000
namespace Go.Ev.Tryd
open Go Go.Ev Go.Proofs

mutual
/-- Letters and nodes together: what the walks need. -/
def wt : Cond → Nat
  | .mk _ s _ _ _ ks => 1 + s.size + wts ks
def wts : List Cond → Nat
  | [] => 0
  | c :: l => 1 + wt c + wts l
end
theorem wt_eq (c : Cond) : wt c = 1 + c.s.size + wts c.kids := by cases c; rfl
theorem wts_len (l : List Cond) : l.length ≤ wts l := by
  induction l with
  | nil => simp
  | cons c l ih => simp only [wts, List.length_cons]; omega
theorem wts_mem {c : Cond} {l : List Cond} (h : c ∈ l) : wt c < wts l := by
  induction l with
  | nil => cases h
  | cons x l ih =>
    simp only [wts]
    rcases List.mem_cons.1 h with rfl | h
    · omega
    · have := ih h; omega
theorem kid_wt {c x : Cond} (h : x ∈ c.kids) : wt x < wt c := by
  have := wts_mem h
  rw [wt_eq c]; omega
theorem kids_wt (c : Cond) : c.kids.length < wt c := by
  have := wts_len c.kids
  rw [wt_eq c]; omega
end Go.Ev.Tryd
