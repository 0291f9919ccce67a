/-
  DERIVED. GIVEN WITH THE SEED: THE CARDS: each row of YtflmadkbppnmcaaDoorRows.lean that lists a variable, with what it lists TIED to the program's text (the seventh form; the later family's looks); each row that meets fmt, with fmt's text TOLD by the authors' own Lean function (tested against real Go, not proved from fmt's source: count such statements apart). THE CARD IS WHAT COUNTS. Prove the row's statement (the work); the ties are given (YtflmadkbppnmcaaDoorTie.lean); close each card by the builder's one call (the guide's Derived/Test/ToyasCard.lean, 'card_holds'). Laid BY PROGRAM, IN A SANDBOX (cutbox-door.mjs). By AI agents, Wed Nov 11 2026. No macro, syntax, notation, axiom, sorry.
-/
import Derived.Test.YtflmadkbppnmcaaDoorRows
import GoSem.ClaimSeven
namespace Go.Proofs.YtflmadkbppnmcaaDoor
namespace Rows

/-- THE TIED CARD OF 'wrackkeep4.ClockTight'. -/
def clockTightCard : Claim7 := { stood := { row := clockTightRow, standIns := [], harness := (true, "fa7b9966fb3e98a25e81296f2779e6749b14ee5dfc976bcd2383fd392295e5f9"), looks := false }, kinds := [], alts := [], laidByText := true, laidKinds := [.data, .data, .data], laidTests := true, laidLooks := .later }
def ClockTightCardSaid : Prop := Claim7.holds Tryd.pinned (.plain (OpenSpec.ofChange clockTightSpec)) clockTightCard

/-- THE TIED CARD OF 'wrackkeep4.ClockOrder'. -/
def clockOrderCard : Claim7 := { stood := { row := clockOrderRow, standIns := [], harness := (true, "fa7b9966fb3e98a25e81296f2779e6749b14ee5dfc976bcd2383fd392295e5f9"), looks := false }, kinds := [], alts := [], laidByText := true, laidKinds := [.data, .data, .data], laidTests := true, laidLooks := .later }
def ClockOrderCardSaid : Prop := Claim7.holds Tryd.pinned (.plain (OpenSpec.ofChange clockOrderSpec)) clockOrderCard

/-- THE TIED CARD OF 'wrackkeep4.ClockBlame'. -/
def clockBlameCard : Claim7 := { stood := { row := clockBlameRow, standIns := [], harness := (true, "fa7b9966fb3e98a25e81296f2779e6749b14ee5dfc976bcd2383fd392295e5f9"), looks := false }, kinds := [], alts := [], laidByText := true, laidKinds := [.data, .data, .data], laidTests := true, laidLooks := .later }
def ClockBlameCardSaid : Prop := Claim7.holds Tryd.pinned (.plain (OpenSpec.ofChange clockBlameSpec)) clockBlameCard

/-- THE TIED CARD OF 'wrackkeep4.ClockEnds'. -/
def clockEndsCard : Claim7 := { stood := { row := clockEndsRow, standIns := [], harness := (true, "fa7b9966fb3e98a25e81296f2779e6749b14ee5dfc976bcd2383fd392295e5f9"), looks := false }, kinds := [], alts := [], laidByText := true, laidKinds := [.data, .data, .data], laidTests := true, laidLooks := .later }
def ClockEndsCardSaid : Prop := Claim7.holds Tryd.pinned (.plain (OpenSpec.ofChange clockEndsSpec)) clockEndsCard

/-- THE SECOND FORM's CARD OF 'wrackkeep4.ClockTight'. -/
def clockTightUptoCard : Claim7 := { stood := { row := clockTightUptoRow, standIns := [], harness := (true, "fa7b9966fb3e98a25e81296f2779e6749b14ee5dfc976bcd2383fd392295e5f9"), looks := false }, kinds := [], alts := [], laidByText := true, laidKinds := [.data, .data, .data], laidTests := true, laidLooks := .later }
def ClockTightUptoCardSaid : Prop := Claim7.holds Tryd.pinned (.plain (OpenSpec.upto clockTightSpec)) clockTightUptoCard

/-- THE SECOND FORM's CARD OF 'wrackkeep4.ClockOrder'. -/
def clockOrderUptoCard : Claim7 := { stood := { row := clockOrderUptoRow, standIns := [], harness := (true, "fa7b9966fb3e98a25e81296f2779e6749b14ee5dfc976bcd2383fd392295e5f9"), looks := false }, kinds := [], alts := [], laidByText := true, laidKinds := [.data, .data, .data], laidTests := true, laidLooks := .later }
def ClockOrderUptoCardSaid : Prop := Claim7.holds Tryd.pinned (.plain (OpenSpec.upto clockOrderSpec)) clockOrderUptoCard

/-- THE SECOND FORM's CARD OF 'wrackkeep4.ClockBlame'. -/
def clockBlameUptoCard : Claim7 := { stood := { row := clockBlameUptoRow, standIns := [], harness := (true, "fa7b9966fb3e98a25e81296f2779e6749b14ee5dfc976bcd2383fd392295e5f9"), looks := false }, kinds := [], alts := [], laidByText := true, laidKinds := [.data, .data, .data], laidTests := true, laidLooks := .later }
def ClockBlameUptoCardSaid : Prop := Claim7.holds Tryd.pinned (.plain (OpenSpec.upto clockBlameSpec)) clockBlameUptoCard

/-- THE SECOND FORM's CARD OF 'wrackkeep4.ClockEnds'. -/
def clockEndsUptoCard : Claim7 := { stood := { row := clockEndsUptoRow, standIns := [], harness := (true, "fa7b9966fb3e98a25e81296f2779e6749b14ee5dfc976bcd2383fd392295e5f9"), looks := false }, kinds := [], alts := [], laidByText := true, laidKinds := [.data, .data, .data], laidTests := true, laidLooks := .later }
def ClockEndsUptoCardSaid : Prop := Claim7.holds Tryd.pinned (.plain (OpenSpec.upto clockEndsSpec)) clockEndsUptoCard
end Rows
end Go.Proofs.YtflmadkbppnmcaaDoor
