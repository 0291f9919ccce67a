/-
  No cell of these rows narrows 'for every input' (looked for: loops, veiled, ifaces, maps, wideKeys, modest, calm, conditions, laid).
  DERIVED. THE GIVEN ROWS OF THIS SEAT. 5 by the template 'for every input the law returns true; each argument reads behind the call as it read before'; 0 by the template 'total and deterministic' (their statements: YtflmadkbppnmcaaTotals.lean).
  GIVEN WITH THE SEED: the statements are not yours to turn. If you find one false, say at which input.
  Laid BY PROGRAM, IN A SANDBOX (cutbox-rows.mjs): the forced cells as the released guide's own fill.sh prints them over the translation 29590689ec218bcd… (all of the seat's roots in one cut). By AI agents, Wed Nov 11 2026. No macro, syntax, notation, axiom, sorry.
-/
import Derived.Test.YtflmadkbppnmcaaChecked
import GoSem.Claim
import GoSem.ClaimJoined
import GoSem.ClaimMapViews
import Derived.JoinedTies
import Derived.KernelRfl
namespace Go.Proofs.Ytflmadkbppnmcaa
/- THE CELL 'sum', in the pinned program and in every row, IS THE sha256 OF THE DUMP (.gsa) THAT YtflmadkbppnmcaaProg.lean LOADS. Nothing in Lean hashes anything: it is a label: what it is worth is what the hold of that sum in a sandbox is worth. -/
noncomputable def Try.pinned : Pinned := { name := "ytflmadkbppnmcaa", sum := "29590689ec218bcd3d7ff0770c953474aa4d3cde5153766fc0f5efcbf2c0df4a", checked := Try.checked }
namespace Rows
def none {H : Type} : Left H := { results := [], args := [] }

/-- 'wracklaw4.ClockChecks': WHATEVER THE INPUT: true; the input reads as it did. -/
def clockChecksSpec : ChangeSpec := { name := "clockChecks", fn := fun _ => fun
  | [d1, d2] => { results := [.lit (.bool true)], args := [d1, d2] }
  | _ => none }
def clockChecksRow : OpenClaim := { program := "ytflmadkbppnmcaa", sum := "29590689ec218bcd3d7ff0770c953474aa4d3cde5153766fc0f5efcbf2c0df4a", func := "wrackline/wracklaw4.ClockChecks", spec := "clockChecks", inPlace := ["slices.overlaps[string]"], unfollowed := true, recurses := true, apart := false }
def ClockChecksSaid : Prop := clockChecksRow.holds Try.pinned (OpenSpec.ofChange clockChecksSpec)

/-- ITS FALSE NEIGHBOUR: 'it returns false'. Refute it at one input. -/
def clockChecksWrong : ChangeSpec := { name := "clockChecks", fn := fun _ => fun
  | [d1, d2] => { results := [.lit (.bool false)], args := [d1, d2] }
  | _ => none }
def ClockChecksWrongFalsely : Prop := clockChecksRow.holds Try.pinned (OpenSpec.ofChange clockChecksWrong)

/-- 'wracklaw4.ClockWhys': WHATEVER THE INPUT: true; the input reads as it did. -/
def clockWhysSpec : ChangeSpec := { name := "clockWhys", fn := fun _ => fun
  | [d1, d2] => { results := [.lit (.bool true)], args := [d1, d2] }
  | _ => none }
def clockWhysRow : OpenClaim := { program := "ytflmadkbppnmcaa", sum := "29590689ec218bcd3d7ff0770c953474aa4d3cde5153766fc0f5efcbf2c0df4a", func := "wrackline/wracklaw4.ClockWhys", spec := "clockWhys", inPlace := ["slices.overlaps[string]"], unfollowed := true, recurses := true, apart := false }
def ClockWhysSaid : Prop := clockWhysRow.holds Try.pinned (OpenSpec.ofChange clockWhysSpec)

/-- ITS FALSE NEIGHBOUR: 'it returns false'. Refute it at one input. -/
def clockWhysWrong : ChangeSpec := { name := "clockWhys", fn := fun _ => fun
  | [d1, d2] => { results := [.lit (.bool false)], args := [d1, d2] }
  | _ => none }
def ClockWhysWrongFalsely : Prop := clockWhysRow.holds Try.pinned (OpenSpec.ofChange clockWhysWrong)

/-- 'wracklaw4.ClockSolves': WHATEVER THE INPUT: true; the input reads as it did. -/
def clockSolvesSpec : ChangeSpec := { name := "clockSolves", fn := fun _ => fun
  | [d1, d2] => { results := [.lit (.bool true)], args := [d1, d2] }
  | _ => none }
def clockSolvesRow : OpenClaim := { program := "ytflmadkbppnmcaa", sum := "29590689ec218bcd3d7ff0770c953474aa4d3cde5153766fc0f5efcbf2c0df4a", func := "wrackline/wracklaw4.ClockSolves", spec := "clockSolves", inPlace := ["slices.overlaps[string]"], unfollowed := true, recurses := true, apart := false }
def ClockSolvesSaid : Prop := clockSolvesRow.holds Try.pinned (OpenSpec.ofChange clockSolvesSpec)

/-- ITS FALSE NEIGHBOUR: 'it returns false'. Refute it at one input. -/
def clockSolvesWrong : ChangeSpec := { name := "clockSolves", fn := fun _ => fun
  | [d1, d2] => { results := [.lit (.bool false)], args := [d1, d2] }
  | _ => none }
def ClockSolvesWrongFalsely : Prop := clockSolvesRow.holds Try.pinned (OpenSpec.ofChange clockSolvesWrong)

/-- 'wracklaw4.ClockHolds': WHATEVER THE INPUT: true; the input reads as it did. -/
def clockHoldsSpec : ChangeSpec := { name := "clockHolds", fn := fun _ => fun
  | [d1, d2, d3, d4, d5, d6] => { results := [.lit (.bool true)], args := [d1, d2, d3, d4, d5, d6] }
  | _ => none }
def clockHoldsRow : OpenClaim := { program := "ytflmadkbppnmcaa", sum := "29590689ec218bcd3d7ff0770c953474aa4d3cde5153766fc0f5efcbf2c0df4a", func := "wrackline/wracklaw4.ClockHolds", spec := "clockHolds", inPlace := ["slices.overlaps[string]"], unfollowed := true, recurses := true, apart := false }
def ClockHoldsSaid : Prop := clockHoldsRow.holds Try.pinned (OpenSpec.ofChange clockHoldsSpec)

/-- ITS FALSE NEIGHBOUR: 'it returns false'. Refute it at one input. -/
def clockHoldsWrong : ChangeSpec := { name := "clockHolds", fn := fun _ => fun
  | [d1, d2, d3, d4, d5, d6] => { results := [.lit (.bool false)], args := [d1, d2, d3, d4, d5, d6] }
  | _ => none }
def ClockHoldsWrongFalsely : Prop := clockHoldsRow.holds Try.pinned (OpenSpec.ofChange clockHoldsWrong)

/-- 'wracklaw4.LineEvents': WHATEVER THE INPUT: true; the input reads as it did. -/
def lineEventsSpec : ChangeSpec := { name := "lineEvents", fn := fun _ => fun
  | [d1, d2] => { results := [.lit (.bool true)], args := [d1, d2] }
  | _ => none }
def lineEventsRow : OpenClaim := { program := "ytflmadkbppnmcaa", sum := "29590689ec218bcd3d7ff0770c953474aa4d3cde5153766fc0f5efcbf2c0df4a", func := "wrackline/wracklaw4.LineEvents", spec := "lineEvents", inPlace := ["slices.overlaps[string]", "slices.overlaps[wrackline/line.Mark]"], unfollowed := true, recurses := true, apart := false }
def LineEventsSaid : Prop := lineEventsRow.holds Try.pinned (OpenSpec.ofChange lineEventsSpec)

/-- ITS FALSE NEIGHBOUR: 'it returns false'. Refute it at one input. -/
def lineEventsWrong : ChangeSpec := { name := "lineEvents", fn := fun _ => fun
  | [d1, d2] => { results := [.lit (.bool false)], args := [d1, d2] }
  | _ => none }
def LineEventsWrongFalsely : Prop := lineEventsRow.holds Try.pinned (OpenSpec.ofChange lineEventsWrong)

/- THE SECOND FORM. 'bulk': how many values and letters a reading holds, each counted each time it is reached (what is shared counts as often as it is met; a slice's spare places count too). A statement '..UptoSaid' is the law's where the arguments, and the package variables that the reading takes, are together of bulk at most 1048576: NARROWER than '..Said'. Prove '..Said' where nothing that the law and all that it calls make is longer than what came in: it says more and counts as full. Else prove '..UptoSaid'. A law counts once. -/
mutual
def uptoBulk {H : Type} : DataW H → Nat
  | .lit (.string bytes) => bytes.length + 1
  | .lit _ => 1
  | .nil => 1
  | .ptr d => uptoBulk d + 1
  | .slice elems spare => uptoBulkAll elems + uptoBulkAll spare + 1
  | .agg parts => uptoBulkAll parts + 1
  | .iface _ d => uptoBulk d + 1
  | .map entries => uptoBulkEntries entries + 1
  | .held _ => 1
def uptoBulkAll {H : Type} : List (DataW H) → Nat
  | [] => 0
  | d :: r => uptoBulk d + uptoBulkAll r
def uptoBulkEntries {H : Type} : List (Lit × DataW H) → Nat
  | [] => 0
  | x :: r => uptoBulkEntry x + uptoBulkEntries r
def uptoBulkEntry {H : Type} : Lit × DataW H → Nat
  | (.string bytes, d) => bytes.length + uptoBulk d + 1
  | (_, d) => uptoBulk d + 1
 end
def uptoSmall : (H : Type) → List (DataW H) → Bool := fun _ ds => decide (uptoBulkAll ds ≤ 1048576)
def OpenSpec.upto (s : _root_.Go.ChangeSpec) : _root_.Go.OpenSpec := { _root_.Go.OpenSpec.ofChange s with cond := some uptoSmall }

/-- 'wracklaw4.ClockChecks', WHERE WHAT IT READS IS OF BULK AT MOST 1048576: true; the input reads as it did. -/
def clockChecksUptoRow : OpenClaim := { program := "ytflmadkbppnmcaa", sum := "29590689ec218bcd3d7ff0770c953474aa4d3cde5153766fc0f5efcbf2c0df4a", func := "wrackline/wracklaw4.ClockChecks", spec := "clockChecks", inPlace := ["slices.overlaps[string]"], unfollowed := true, recurses := true, apart := false, narrowed := true }
def ClockChecksUptoSaid : Prop := clockChecksUptoRow.holds Try.pinned (OpenSpec.upto clockChecksSpec)

/-- 'wracklaw4.ClockWhys', WHERE WHAT IT READS IS OF BULK AT MOST 1048576: true; the input reads as it did. -/
def clockWhysUptoRow : OpenClaim := { program := "ytflmadkbppnmcaa", sum := "29590689ec218bcd3d7ff0770c953474aa4d3cde5153766fc0f5efcbf2c0df4a", func := "wrackline/wracklaw4.ClockWhys", spec := "clockWhys", inPlace := ["slices.overlaps[string]"], unfollowed := true, recurses := true, apart := false, narrowed := true }
def ClockWhysUptoSaid : Prop := clockWhysUptoRow.holds Try.pinned (OpenSpec.upto clockWhysSpec)

/-- 'wracklaw4.ClockSolves', WHERE WHAT IT READS IS OF BULK AT MOST 1048576: true; the input reads as it did. -/
def clockSolvesUptoRow : OpenClaim := { program := "ytflmadkbppnmcaa", sum := "29590689ec218bcd3d7ff0770c953474aa4d3cde5153766fc0f5efcbf2c0df4a", func := "wrackline/wracklaw4.ClockSolves", spec := "clockSolves", inPlace := ["slices.overlaps[string]"], unfollowed := true, recurses := true, apart := false, narrowed := true }
def ClockSolvesUptoSaid : Prop := clockSolvesUptoRow.holds Try.pinned (OpenSpec.upto clockSolvesSpec)

/-- 'wracklaw4.ClockHolds', WHERE WHAT IT READS IS OF BULK AT MOST 1048576: true; the input reads as it did. -/
def clockHoldsUptoRow : OpenClaim := { program := "ytflmadkbppnmcaa", sum := "29590689ec218bcd3d7ff0770c953474aa4d3cde5153766fc0f5efcbf2c0df4a", func := "wrackline/wracklaw4.ClockHolds", spec := "clockHolds", inPlace := ["slices.overlaps[string]"], unfollowed := true, recurses := true, apart := false, narrowed := true }
def ClockHoldsUptoSaid : Prop := clockHoldsUptoRow.holds Try.pinned (OpenSpec.upto clockHoldsSpec)

/-- 'wracklaw4.LineEvents', WHERE WHAT IT READS IS OF BULK AT MOST 1048576: true; the input reads as it did. -/
def lineEventsUptoRow : OpenClaim := { program := "ytflmadkbppnmcaa", sum := "29590689ec218bcd3d7ff0770c953474aa4d3cde5153766fc0f5efcbf2c0df4a", func := "wrackline/wracklaw4.LineEvents", spec := "lineEvents", inPlace := ["slices.overlaps[string]", "slices.overlaps[wrackline/line.Mark]"], unfollowed := true, recurses := true, apart := false, narrowed := true }
def LineEventsUptoSaid : Prop := lineEventsUptoRow.holds Try.pinned (OpenSpec.upto lineEventsSpec)

end Rows
end Go.Proofs.Ytflmadkbppnmcaa
