/-
  No cell of these rows narrows 'for every input' (looked for: loops, veiled, ifaces, maps, wideKeys, modest, calm, conditions, laid).
  DERIVED. THE GIVEN ROWS OF THIS SEAT. 5 by the template 'for every input the law returns true; each argument reads behind the call as it read before'; 0 by the template 'total and deterministic' (their statements: YthmpoblblgohcaaTotals.lean).
  GIVEN WITH THE SEED: the statements are not yours to turn. If you find one false, say at which input.
  Laid BY PROGRAM, IN A SANDBOX (cutbox-rows.mjs): the forced cells as the released guide's own fill.sh prints them over the translation 41d3ed316dd82182… (all of the seat's roots in one cut). By AI agents, Wed Nov 11 2026. No macro, syntax, notation, axiom, sorry.
-/
import Derived.Test.YthmpoblblgohcaaChecked
import GoSem.Claim
import GoSem.ClaimJoined
import GoSem.ClaimMapViews
import Derived.JoinedTies
import Derived.KernelRfl
namespace Go.Proofs.Ythmpoblblgohcaa
/- THE CELL 'sum', in the pinned program and in every row, IS THE sha256 OF THE DUMP (.gsa) THAT YthmpoblblgohcaaProg.lean LOADS. Nothing in Lean hashes anything: it is a label: what it is worth is what the hold of that sum in a sandbox is worth. -/
noncomputable def Try.pinned : Pinned := { name := "ythmpoblblgohcaa", sum := "41d3ed316dd821826b794f590d1b52c031583541fa7f3a6c027fcb8120e66833", checked := Try.checked }
namespace Rows
def none {H : Type} : Left H := { results := [], args := [] }

/-- 'wrackkeep4.LineTracks': WHATEVER THE INPUT: true; the input reads as it did. -/
def lineTracksSpec : ChangeSpec := { name := "lineTracks", fn := fun _ => fun
  | [d] => { results := [.lit (.bool true)], args := [d] }
  | _ => none }
def lineTracksRow : OpenClaim := { program := "ythmpoblblgohcaa", sum := "41d3ed316dd821826b794f590d1b52c031583541fa7f3a6c027fcb8120e66833", func := "wrackline/wrackkeep4.LineTracks", spec := "lineTracks", unfollowed := true, recurses := true, apart := false }
def LineTracksSaid : Prop := lineTracksRow.holds Try.pinned (OpenSpec.ofChange lineTracksSpec)

/-- ITS FALSE NEIGHBOUR: 'it returns false'. Refute it at one input. -/
def lineTracksWrong : ChangeSpec := { name := "lineTracks", fn := fun _ => fun
  | [d] => { results := [.lit (.bool false)], args := [d] }
  | _ => none }
def LineTracksWrongFalsely : Prop := lineTracksRow.holds Try.pinned (OpenSpec.ofChange lineTracksWrong)

/-- 'wrackkeep4.LineWindows': WHATEVER THE INPUT: true; the input reads as it did. -/
def lineWindowsSpec : ChangeSpec := { name := "lineWindows", fn := fun _ => fun
  | [d1, d2, d3] => { results := [.lit (.bool true)], args := [d1, d2, d3] }
  | _ => none }
def lineWindowsRow : OpenClaim := { program := "ythmpoblblgohcaa", sum := "41d3ed316dd821826b794f590d1b52c031583541fa7f3a6c027fcb8120e66833", func := "wrackline/wrackkeep4.LineWindows", spec := "lineWindows", unfollowed := true, recurses := true, apart := false }
def LineWindowsSaid : Prop := lineWindowsRow.holds Try.pinned (OpenSpec.ofChange lineWindowsSpec)

/-- ITS FALSE NEIGHBOUR: 'it returns false'. Refute it at one input. -/
def lineWindowsWrong : ChangeSpec := { name := "lineWindows", fn := fun _ => fun
  | [d1, d2, d3] => { results := [.lit (.bool false)], args := [d1, d2, d3] }
  | _ => none }
def LineWindowsWrongFalsely : Prop := lineWindowsRow.holds Try.pinned (OpenSpec.ofChange lineWindowsWrong)

/-- 'wracklaw4.LineMakes': WHATEVER THE INPUT: true; the input reads as it did. -/
def lineMakesSpec : ChangeSpec := { name := "lineMakes", fn := fun _ => fun
  | [d1, d2] => { results := [.lit (.bool true)], args := [d1, d2] }
  | _ => none }
def lineMakesRow : OpenClaim := { program := "ythmpoblblgohcaa", sum := "41d3ed316dd821826b794f590d1b52c031583541fa7f3a6c027fcb8120e66833", func := "wrackline/wracklaw4.LineMakes", spec := "lineMakes", inPlace := ["slices.overlaps[wrackline/line.Mark]"], unfollowed := true, recurses := true, apart := false }
def LineMakesSaid : Prop := lineMakesRow.holds Try.pinned (OpenSpec.ofChange lineMakesSpec)

/-- ITS FALSE NEIGHBOUR: 'it returns false'. Refute it at one input. -/
def lineMakesWrong : ChangeSpec := { name := "lineMakes", fn := fun _ => fun
  | [d1, d2] => { results := [.lit (.bool false)], args := [d1, d2] }
  | _ => none }
def LineMakesWrongFalsely : Prop := lineMakesRow.holds Try.pinned (OpenSpec.ofChange lineMakesWrong)

/-- 'wrackkeep4.LineChain': WHATEVER THE INPUT: true; the input reads as it did. -/
def lineChainSpec : ChangeSpec := { name := "lineChain", fn := fun _ => fun
  | [d1, d2] => { results := [.lit (.bool true)], args := [d1, d2] }
  | _ => none }
def lineChainRow : OpenClaim := { program := "ythmpoblblgohcaa", sum := "41d3ed316dd821826b794f590d1b52c031583541fa7f3a6c027fcb8120e66833", func := "wrackline/wrackkeep4.LineChain", spec := "lineChain", unfollowed := true, recurses := true, apart := false }
def LineChainSaid : Prop := lineChainRow.holds Try.pinned (OpenSpec.ofChange lineChainSpec)

/-- ITS FALSE NEIGHBOUR: 'it returns false'. Refute it at one input. -/
def lineChainWrong : ChangeSpec := { name := "lineChain", fn := fun _ => fun
  | [d1, d2] => { results := [.lit (.bool false)], args := [d1, d2] }
  | _ => none }
def LineChainWrongFalsely : Prop := lineChainRow.holds Try.pinned (OpenSpec.ofChange lineChainWrong)

/-- 'wracklaw4.LineAsks': WHATEVER THE INPUT: true; the input reads as it did. -/
def lineAsksSpec : ChangeSpec := { name := "lineAsks", fn := fun _ => fun
  | [d1, d2, d3] => { results := [.lit (.bool true)], args := [d1, d2, d3] }
  | _ => none }
def lineAsksRow : OpenClaim := { program := "ythmpoblblgohcaa", sum := "41d3ed316dd821826b794f590d1b52c031583541fa7f3a6c027fcb8120e66833", func := "wrackline/wracklaw4.LineAsks", spec := "lineAsks", unfollowed := true, recurses := true, apart := false }
def LineAsksSaid : Prop := lineAsksRow.holds Try.pinned (OpenSpec.ofChange lineAsksSpec)

/-- ITS FALSE NEIGHBOUR: 'it returns false'. Refute it at one input. -/
def lineAsksWrong : ChangeSpec := { name := "lineAsks", fn := fun _ => fun
  | [d1, d2, d3] => { results := [.lit (.bool false)], args := [d1, d2, d3] }
  | _ => none }
def LineAsksWrongFalsely : Prop := lineAsksRow.holds Try.pinned (OpenSpec.ofChange lineAsksWrong)

/- THE SECOND FORM. 'bulk': how many values and letters a reading holds, each counted each time it is reached (what is shared counts as often as it is met; a slice's spare places count too). A statement '..UptoSaid' is the law's where the arguments, and the package variables that the reading takes, are together of bulk at most 1048576: NARROWER than '..Said'. Prove '..Said' where nothing that the law and all that it calls make is longer than what came in: it says more and counts as full. Else prove '..UptoSaid'. A law counts once. -/
mutual
def uptoBulk {H : Type} : DataW H → Nat
  | .lit (.string bytes) => bytes.length + 1
  | .lit _ => 1
  | .nil => 1
  | .ptr d => uptoBulk d + 1
  | .slice elems spare => uptoBulkAll elems + uptoBulkAll spare + 1
  | .agg parts => uptoBulkAll parts + 1
  | .iface _ d => uptoBulk d + 1
  | .map entries => uptoBulkEntries entries + 1
  | .held _ => 1
def uptoBulkAll {H : Type} : List (DataW H) → Nat
  | [] => 0
  | d :: r => uptoBulk d + uptoBulkAll r
def uptoBulkEntries {H : Type} : List (Lit × DataW H) → Nat
  | [] => 0
  | x :: r => uptoBulkEntry x + uptoBulkEntries r
def uptoBulkEntry {H : Type} : Lit × DataW H → Nat
  | (.string bytes, d) => bytes.length + uptoBulk d + 1
  | (_, d) => uptoBulk d + 1
 end
def uptoSmall : (H : Type) → List (DataW H) → Bool := fun _ ds => decide (uptoBulkAll ds ≤ 1048576)
def OpenSpec.upto (s : _root_.Go.ChangeSpec) : _root_.Go.OpenSpec := { _root_.Go.OpenSpec.ofChange s with cond := some uptoSmall }

/-- 'wrackkeep4.LineTracks', WHERE WHAT IT READS IS OF BULK AT MOST 1048576: true; the input reads as it did. -/
def lineTracksUptoRow : OpenClaim := { program := "ythmpoblblgohcaa", sum := "41d3ed316dd821826b794f590d1b52c031583541fa7f3a6c027fcb8120e66833", func := "wrackline/wrackkeep4.LineTracks", spec := "lineTracks", unfollowed := true, recurses := true, apart := false, narrowed := true }
def LineTracksUptoSaid : Prop := lineTracksUptoRow.holds Try.pinned (OpenSpec.upto lineTracksSpec)

/-- 'wrackkeep4.LineWindows', WHERE WHAT IT READS IS OF BULK AT MOST 1048576: true; the input reads as it did. -/
def lineWindowsUptoRow : OpenClaim := { program := "ythmpoblblgohcaa", sum := "41d3ed316dd821826b794f590d1b52c031583541fa7f3a6c027fcb8120e66833", func := "wrackline/wrackkeep4.LineWindows", spec := "lineWindows", unfollowed := true, recurses := true, apart := false, narrowed := true }
def LineWindowsUptoSaid : Prop := lineWindowsUptoRow.holds Try.pinned (OpenSpec.upto lineWindowsSpec)

/-- 'wracklaw4.LineMakes', WHERE WHAT IT READS IS OF BULK AT MOST 1048576: true; the input reads as it did. -/
def lineMakesUptoRow : OpenClaim := { program := "ythmpoblblgohcaa", sum := "41d3ed316dd821826b794f590d1b52c031583541fa7f3a6c027fcb8120e66833", func := "wrackline/wracklaw4.LineMakes", spec := "lineMakes", inPlace := ["slices.overlaps[wrackline/line.Mark]"], unfollowed := true, recurses := true, apart := false, narrowed := true }
def LineMakesUptoSaid : Prop := lineMakesUptoRow.holds Try.pinned (OpenSpec.upto lineMakesSpec)

/-- 'wrackkeep4.LineChain', WHERE WHAT IT READS IS OF BULK AT MOST 1048576: true; the input reads as it did. -/
def lineChainUptoRow : OpenClaim := { program := "ythmpoblblgohcaa", sum := "41d3ed316dd821826b794f590d1b52c031583541fa7f3a6c027fcb8120e66833", func := "wrackline/wrackkeep4.LineChain", spec := "lineChain", unfollowed := true, recurses := true, apart := false, narrowed := true }
def LineChainUptoSaid : Prop := lineChainUptoRow.holds Try.pinned (OpenSpec.upto lineChainSpec)

/-- 'wracklaw4.LineAsks', WHERE WHAT IT READS IS OF BULK AT MOST 1048576: true; the input reads as it did. -/
def lineAsksUptoRow : OpenClaim := { program := "ythmpoblblgohcaa", sum := "41d3ed316dd821826b794f590d1b52c031583541fa7f3a6c027fcb8120e66833", func := "wrackline/wracklaw4.LineAsks", spec := "lineAsks", unfollowed := true, recurses := true, apart := false, narrowed := true }
def LineAsksUptoSaid : Prop := lineAsksUptoRow.holds Try.pinned (OpenSpec.upto lineAsksSpec)

end Rows
end Go.Proofs.Ythmpoblblgohcaa
