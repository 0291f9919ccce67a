/-
  A VIEW OF AN OWN BLOCK UP TO ITS CAPACITY; slices.overlaps AND slices.Insert AS ORACLES (own work).
-/
import Derived.Test.YtmcakfjbefelgaaDoorEvE
import Derived.Lib.Overlaps
import Derived.Laws.Externs
set_option linter.unusedSimpArgs false
set_option linter.unusedVariables false
namespace Go.Ev
open Go

/-! ### Sums within bounds -/
theorem wrap_i64 {z : Int} (h1 : -9223372036854775808 ≤ z) (h2 : z ≤ 9223372036854775807) : IntKind.i64.wrap z = z := by
  rw [IntKind.wrap_i64]; omega
theorem addI_i64 {a b : Int} (h1 : -9223372036854775808 ≤ a + b) (h2 : a + b ≤ 9223372036854775807) : addI .i64 a b = a + b := by
  rw [addI_eq]; exact wrap_i64 h1 h2
theorem subI_i64 {a b : Int} (h1 : -9223372036854775808 ≤ a - b) (h2 : a - b ≤ 9223372036854775807) : subI .i64 a b = a - b := by
  rw [subI_eq]; exact wrap_i64 h1 h2
/-- Cells of which nothing is known. -/
def junkL (q : Nat) : List V := List.replicate q V.junk
@[simp] theorem junkL_length (q : Nat) : (junkL q).length = q := List.length_replicate
theorem junkL_succ (q : Nat) : junkL (q + 1) = V.junk :: junkL q := rfl
@[simp] theorem junkL_drop (q n : Nat) : List.drop n (junkL q) = junkL (q - n) := List.drop_replicate
@[simp] theorem junkL_take (q n : Nat) : List.take n (junkL q) = junkL (min n q) := List.take_replicate
@[simp] theorem refs_junkL : ∀ q : Nat, refsL (junkL q) = []
  | 0 => rfl
  | q + 1 => by rw [junkL_succ]; simp [refsL, V.refs, refs_junkL q]
@[simp] theorem leaves_junkL : ∀ q : Nat, leavesL (junkL q) = []
  | 0 => rfl
  | q + 1 => by rw [junkL_succ]; simp [leavesL, V.leaves, leaves_junkL q]
@[simp] theorem own_junkL : ∀ q : Nat, ownL (junkL q) = true
  | 0 => rfl
  | q + 1 => by rw [junkL_succ]; simp [ownL, V.own, own_junkL q]
@[simp] theorem sub_junkL {hp : Nat → Nat → V} {hs : Nat → Nat → Nat → Nat → V} {hm : Nat → V} : ∀ q : Nat, subL hp hs hm (junkL q) = junkL q
  | 0 => rfl
  | q + 1 => by rw [junkL_succ]; simp [subL, V.sub, sub_junkL q]
@[simp] theorem snap_junkL {d : Nat} {H : Heap} : ∀ q : Nat, (junkL q).map (snap d H) = junkL q
  | 0 => rfl
  | q + 1 => by
    rw [junkL_succ, List.map_cons, snap_junkL q]
    congr 1
    cases d <;> simp [snap, V.sub]
/-- append where there is room within what is told. -/
@[simp] theorem appendS_room {H : Heap} {n b id off len k : Nat} {cs vs : List V} {ex : Bool} (hH : H[id]? = some (some (.cells cs ex))) (hk : k ≠ 0) (hr : off + (len + k) * n ≤ cs.length) :
    appendS H n b (.sl id off len n) k vs = (writeCells H id (off + len * n) vs).map fun H' => (.sl id off (len + k) n, H') := by
  simp [appendS, hH, hk, hr]

section
variable {P : Program} {w0 : World} {B : Nat} {e : Emb} {H : Heap} {w : World} {Γ : Env}

/-! ### slices.overlaps: two own blocks -/
/-! ### slices.Insert of one element -/
open Classical in
end
end Go.Ev
