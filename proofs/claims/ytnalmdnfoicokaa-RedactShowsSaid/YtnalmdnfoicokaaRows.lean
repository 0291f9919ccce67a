/-
  No cell of these rows narrows 'for every input' (looked for: loops, veiled, ifaces, maps, wideKeys, modest, calm, conditions, laid).
  DERIVED. THE GIVEN ROWS OF THIS SEAT. 4 by the template 'for every input the law returns true; each argument reads behind the call as it read before'; 0 by the template 'total and deterministic' (their statements: YtnalmdnfoicokaaTotals.lean).
  GIVEN WITH THE SEED: the statements are not yours to turn. If you find one false, say at which input.
  Laid BY PROGRAM, IN A SANDBOX (cutbox-rows.mjs): the forced cells as the released guide's own fill.sh prints them over the translation 98bbcc5578150e1a… (all of the seat's roots in one cut). By AI agents, Wed Nov 11 2026. No macro, syntax, notation, axiom, sorry.
-/
import Derived.Test.YtnalmdnfoicokaaChecked
import GoSem.Claim
import GoSem.ClaimJoined
import GoSem.ClaimMapViews
import Derived.JoinedTies
import Derived.KernelRfl
namespace Go.Proofs.Ytnalmdnfoicokaa
/- THE CELL 'sum', in the pinned program and in every row, IS THE sha256 OF THE DUMP (.gsa) THAT YtnalmdnfoicokaaProg.lean LOADS. Nothing in Lean hashes anything: it is a label: what it is worth is what the hold of that sum in a sandbox is worth. -/
noncomputable def Try.pinned : Pinned := { name := "ytnalmdnfoicokaa", sum := "98bbcc5578150e1ab8bb0ed3e432a270645079e46e46bb838423ac98fc09953c", checked := Try.checked }
namespace Rows
def none {H : Type} : Left H := { results := [], args := [] }

/-- 'wrackkeep4.RedactJoins': WHATEVER THE INPUT: true; the input reads as it did. -/
def redactJoinsSpec : ChangeSpec := { name := "redactJoins", fn := fun _ => fun
  | [d1, d2, d3] => { results := [.lit (.bool true)], args := [d1, d2, d3] }
  | _ => none }
def redactJoinsRow : OpenClaim := { program := "ytnalmdnfoicokaa", sum := "98bbcc5578150e1ab8bb0ed3e432a270645079e46e46bb838423ac98fc09953c", func := "wrackline/wrackkeep4.RedactJoins", spec := "redactJoins", unfollowed := true, recurses := true, apart := false }
def RedactJoinsSaid : Prop := redactJoinsRow.holds Try.pinned (OpenSpec.ofChange redactJoinsSpec)

/-- ITS FALSE NEIGHBOUR: 'it returns false'. Refute it at one input. -/
def redactJoinsWrong : ChangeSpec := { name := "redactJoins", fn := fun _ => fun
  | [d1, d2, d3] => { results := [.lit (.bool false)], args := [d1, d2, d3] }
  | _ => none }
def RedactJoinsWrongFalsely : Prop := redactJoinsRow.holds Try.pinned (OpenSpec.ofChange redactJoinsWrong)

/-- 'wracklaw4.RedactMakes': WHATEVER THE INPUT: true; the input reads as it did. -/
def redactMakesSpec : ChangeSpec := { name := "redactMakes", fn := fun _ => fun
  | [d1, d2, d3, d4] => { results := [.lit (.bool true)], args := [d1, d2, d3, d4] }
  | _ => none }
def redactMakesRow : OpenClaim := { program := "ytnalmdnfoicokaa", sum := "98bbcc5578150e1ab8bb0ed3e432a270645079e46e46bb838423ac98fc09953c", func := "wrackline/wracklaw4.RedactMakes", spec := "redactMakes", unfollowed := true, recurses := true, apart := false }
def RedactMakesSaid : Prop := redactMakesRow.holds Try.pinned (OpenSpec.ofChange redactMakesSpec)

/-- ITS FALSE NEIGHBOUR: 'it returns false'. Refute it at one input. -/
def redactMakesWrong : ChangeSpec := { name := "redactMakes", fn := fun _ => fun
  | [d1, d2, d3, d4] => { results := [.lit (.bool false)], args := [d1, d2, d3, d4] }
  | _ => none }
def RedactMakesWrongFalsely : Prop := redactMakesRow.holds Try.pinned (OpenSpec.ofChange redactMakesWrong)

/-- 'wrackkeep4.RedactRoots': WHATEVER THE INPUT: true; the input reads as it did. -/
def redactRootsSpec : ChangeSpec := { name := "redactRoots", fn := fun _ => fun
  | [d1, d2, d3, d4] => { results := [.lit (.bool true)], args := [d1, d2, d3, d4] }
  | _ => none }
def redactRootsRow : OpenClaim := { program := "ytnalmdnfoicokaa", sum := "98bbcc5578150e1ab8bb0ed3e432a270645079e46e46bb838423ac98fc09953c", func := "wrackline/wrackkeep4.RedactRoots", spec := "redactRoots", unfollowed := true, recurses := true, apart := false }
def RedactRootsSaid : Prop := redactRootsRow.holds Try.pinned (OpenSpec.ofChange redactRootsSpec)

/-- ITS FALSE NEIGHBOUR: 'it returns false'. Refute it at one input. -/
def redactRootsWrong : ChangeSpec := { name := "redactRoots", fn := fun _ => fun
  | [d1, d2, d3, d4] => { results := [.lit (.bool false)], args := [d1, d2, d3, d4] }
  | _ => none }
def RedactRootsWrongFalsely : Prop := redactRootsRow.holds Try.pinned (OpenSpec.ofChange redactRootsWrong)

/-- 'wracklaw4.RedactShows': WHATEVER THE INPUT: true; the input reads as it did. -/
def redactShowsSpec : ChangeSpec := { name := "redactShows", fn := fun _ => fun
  | [d1, d2, d3, d4] => { results := [.lit (.bool true)], args := [d1, d2, d3, d4] }
  | _ => none }
def redactShowsRow : OpenClaim := { program := "ytnalmdnfoicokaa", sum := "98bbcc5578150e1ab8bb0ed3e432a270645079e46e46bb838423ac98fc09953c", func := "wrackline/wracklaw4.RedactShows", spec := "redactShows", unfollowed := true, recurses := true, apart := false }
def RedactShowsSaid : Prop := redactShowsRow.holds Try.pinned (OpenSpec.ofChange redactShowsSpec)

/-- ITS FALSE NEIGHBOUR: 'it returns false'. Refute it at one input. -/
def redactShowsWrong : ChangeSpec := { name := "redactShows", fn := fun _ => fun
  | [d1, d2, d3, d4] => { results := [.lit (.bool false)], args := [d1, d2, d3, d4] }
  | _ => none }
def RedactShowsWrongFalsely : Prop := redactShowsRow.holds Try.pinned (OpenSpec.ofChange redactShowsWrong)

/- THE SECOND FORM. 'bulk': how many values and letters a reading holds, each counted each time it is reached (what is shared counts as often as it is met; a slice's spare places count too). A statement '..UptoSaid' is the law's where the arguments, and the package variables that the reading takes, are together of bulk at most 1048576: NARROWER than '..Said'. Prove '..Said' where nothing that the law and all that it calls make is longer than what came in: it says more and counts as full. Else prove '..UptoSaid'. A law counts once. -/
mutual
def uptoBulk {H : Type} : DataW H → Nat
  | .lit (.string bytes) => bytes.length + 1
  | .lit _ => 1
  | .nil => 1
  | .ptr d => uptoBulk d + 1
  | .slice elems spare => uptoBulkAll elems + uptoBulkAll spare + 1
  | .agg parts => uptoBulkAll parts + 1
  | .iface _ d => uptoBulk d + 1
  | .map entries => uptoBulkEntries entries + 1
  | .held _ => 1
def uptoBulkAll {H : Type} : List (DataW H) → Nat
  | [] => 0
  | d :: r => uptoBulk d + uptoBulkAll r
def uptoBulkEntries {H : Type} : List (Lit × DataW H) → Nat
  | [] => 0
  | x :: r => uptoBulkEntry x + uptoBulkEntries r
def uptoBulkEntry {H : Type} : Lit × DataW H → Nat
  | (.string bytes, d) => bytes.length + uptoBulk d + 1
  | (_, d) => uptoBulk d + 1
 end
def uptoSmall : (H : Type) → List (DataW H) → Bool := fun _ ds => decide (uptoBulkAll ds ≤ 1048576)
def OpenSpec.upto (s : _root_.Go.ChangeSpec) : _root_.Go.OpenSpec := { _root_.Go.OpenSpec.ofChange s with cond := some uptoSmall }

/-- 'wrackkeep4.RedactJoins', WHERE WHAT IT READS IS OF BULK AT MOST 1048576: true; the input reads as it did. -/
def redactJoinsUptoRow : OpenClaim := { program := "ytnalmdnfoicokaa", sum := "98bbcc5578150e1ab8bb0ed3e432a270645079e46e46bb838423ac98fc09953c", func := "wrackline/wrackkeep4.RedactJoins", spec := "redactJoins", unfollowed := true, recurses := true, apart := false, narrowed := true }
def RedactJoinsUptoSaid : Prop := redactJoinsUptoRow.holds Try.pinned (OpenSpec.upto redactJoinsSpec)

/-- 'wracklaw4.RedactMakes', WHERE WHAT IT READS IS OF BULK AT MOST 1048576: true; the input reads as it did. -/
def redactMakesUptoRow : OpenClaim := { program := "ytnalmdnfoicokaa", sum := "98bbcc5578150e1ab8bb0ed3e432a270645079e46e46bb838423ac98fc09953c", func := "wrackline/wracklaw4.RedactMakes", spec := "redactMakes", unfollowed := true, recurses := true, apart := false, narrowed := true }
def RedactMakesUptoSaid : Prop := redactMakesUptoRow.holds Try.pinned (OpenSpec.upto redactMakesSpec)

/-- 'wrackkeep4.RedactRoots', WHERE WHAT IT READS IS OF BULK AT MOST 1048576: true; the input reads as it did. -/
def redactRootsUptoRow : OpenClaim := { program := "ytnalmdnfoicokaa", sum := "98bbcc5578150e1ab8bb0ed3e432a270645079e46e46bb838423ac98fc09953c", func := "wrackline/wrackkeep4.RedactRoots", spec := "redactRoots", unfollowed := true, recurses := true, apart := false, narrowed := true }
def RedactRootsUptoSaid : Prop := redactRootsUptoRow.holds Try.pinned (OpenSpec.upto redactRootsSpec)

/-- 'wracklaw4.RedactShows', WHERE WHAT IT READS IS OF BULK AT MOST 1048576: true; the input reads as it did. -/
def redactShowsUptoRow : OpenClaim := { program := "ytnalmdnfoicokaa", sum := "98bbcc5578150e1ab8bb0ed3e432a270645079e46e46bb838423ac98fc09953c", func := "wrackline/wracklaw4.RedactShows", spec := "redactShows", unfollowed := true, recurses := true, apart := false, narrowed := true }
def RedactShowsUptoSaid : Prop := redactShowsUptoRow.holds Try.pinned (OpenSpec.upto redactShowsSpec)

end Rows
end Go.Proofs.Ytnalmdnfoicokaa
