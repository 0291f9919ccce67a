/-
  DERIVED. GIVEN WITH THE SEED: THE CARDS: each row of YtmcakfjbefelgaaDoorRows.lean that lists a variable, with what it lists TIED to the program's text (the seventh form; the later family's looks); each row that meets fmt, with fmt's text TOLD by the authors' own Lean function (tested against real Go, not proved from fmt's source: count such statements apart). THE CARD IS WHAT COUNTS. Prove the row's statement (the work); the ties are given (YtmcakfjbefelgaaDoorTie.lean); close each card by the builder's one call (the guide's Derived/Test/ToyasCard.lean, 'card_holds'). Laid BY PROGRAM, IN A SANDBOX (cutbox-door.mjs). By AI agents, Wed Nov 11 2026. No macro, syntax, notation, axiom, sorry.
-/
import Derived.Test.YtmcakfjbefelgaaDoorRows
import GoSem.ClaimSeven
namespace Go.Proofs.YtmcakfjbefelgaaDoor
namespace Rows

/-- THE TIED CARD OF 'wracklaw4.AskChecks'. -/
def askChecksCard : Claim7 := { stood := { row := askChecksRow, standIns := [], harness := (true, "6a56149ee59f0e0ffef84675efe9302800f822cccb5c32c9e98b89fe5abcae9f"), looks := false }, kinds := [], alts := [], laidByText := true, laidKinds := [.data, .pinned], laidTests := true, laidLooks := .later }
def AskChecksCardSaid : Prop := Claim7.holds Tryd.pinned (.plain (OpenSpec.ofChange askChecksSpec)) askChecksCard

/-- THE TIED CARD OF 'wracklaw4.AskHolds'. -/
def askHoldsCard : Claim7 := { stood := { row := askHoldsRow, standIns := [], harness := (true, "6a56149ee59f0e0ffef84675efe9302800f822cccb5c32c9e98b89fe5abcae9f"), looks := false }, kinds := [], alts := [], laidByText := true, laidKinds := [.data, .pinned], laidTests := true, laidLooks := .later }
def AskHoldsCardSaid : Prop := Claim7.holds Tryd.pinned (.plain (OpenSpec.ofChange askHoldsSpec)) askHoldsCard

/-- THE TIED CARD OF 'wracklaw4.AskRuns'. -/
def askRunsCard : Claim7 := { stood := { row := askRunsRow, standIns := [], harness := (true, "6a56149ee59f0e0ffef84675efe9302800f822cccb5c32c9e98b89fe5abcae9f"), looks := false }, kinds := [], alts := [], laidByText := true, laidKinds := [.data, .pinned], laidTests := true, laidLooks := .later }
def AskRunsCardSaid : Prop := Claim7.holds Tryd.pinned (.plain (OpenSpec.ofChange askRunsSpec)) askRunsCard

/-- THE TIED CARD OF 'wrackkeep4.AskLinks'. -/
def askLinksCard : Claim7 := { stood := { row := askLinksRow, standIns := [], harness := (true, "6a56149ee59f0e0ffef84675efe9302800f822cccb5c32c9e98b89fe5abcae9f"), looks := false }, kinds := [], alts := [], laidByText := true, laidKinds := [.data, .data, .data, .data, .pinned], laidTests := true, laidLooks := .later }
def AskLinksCardSaid : Prop := Claim7.holds Tryd.pinned (.plain (OpenSpec.ofChange askLinksSpec)) askLinksCard

/-- THE TIED CARD OF 'wrackkeep4.AskFirst'. -/
def askFirstCard : Claim7 := { stood := { row := askFirstRow, standIns := [], harness := (true, "6a56149ee59f0e0ffef84675efe9302800f822cccb5c32c9e98b89fe5abcae9f"), looks := false }, kinds := [], alts := [], laidByText := true, laidKinds := [.data, .data, .data, .data, .pinned], laidTests := true, laidLooks := .later }
def AskFirstCardSaid : Prop := Claim7.holds Tryd.pinned (.plain (OpenSpec.ofChange askFirstSpec)) askFirstCard

/-- THE SECOND FORM's CARD OF 'wracklaw4.AskChecks'. -/
def askChecksUptoCard : Claim7 := { stood := { row := askChecksUptoRow, standIns := [], harness := (true, "6a56149ee59f0e0ffef84675efe9302800f822cccb5c32c9e98b89fe5abcae9f"), looks := false }, kinds := [], alts := [], laidByText := true, laidKinds := [.data, .pinned], laidTests := true, laidLooks := .later }
def AskChecksUptoCardSaid : Prop := Claim7.holds Tryd.pinned (.plain (OpenSpec.upto askChecksSpec)) askChecksUptoCard

/-- THE SECOND FORM's CARD OF 'wracklaw4.AskHolds'. -/
def askHoldsUptoCard : Claim7 := { stood := { row := askHoldsUptoRow, standIns := [], harness := (true, "6a56149ee59f0e0ffef84675efe9302800f822cccb5c32c9e98b89fe5abcae9f"), looks := false }, kinds := [], alts := [], laidByText := true, laidKinds := [.data, .pinned], laidTests := true, laidLooks := .later }
def AskHoldsUptoCardSaid : Prop := Claim7.holds Tryd.pinned (.plain (OpenSpec.upto askHoldsSpec)) askHoldsUptoCard

/-- THE SECOND FORM's CARD OF 'wracklaw4.AskRuns'. -/
def askRunsUptoCard : Claim7 := { stood := { row := askRunsUptoRow, standIns := [], harness := (true, "6a56149ee59f0e0ffef84675efe9302800f822cccb5c32c9e98b89fe5abcae9f"), looks := false }, kinds := [], alts := [], laidByText := true, laidKinds := [.data, .pinned], laidTests := true, laidLooks := .later }
def AskRunsUptoCardSaid : Prop := Claim7.holds Tryd.pinned (.plain (OpenSpec.upto askRunsSpec)) askRunsUptoCard

/-- THE SECOND FORM's CARD OF 'wrackkeep4.AskLinks'. -/
def askLinksUptoCard : Claim7 := { stood := { row := askLinksUptoRow, standIns := [], harness := (true, "6a56149ee59f0e0ffef84675efe9302800f822cccb5c32c9e98b89fe5abcae9f"), looks := false }, kinds := [], alts := [], laidByText := true, laidKinds := [.data, .data, .data, .data, .pinned], laidTests := true, laidLooks := .later }
def AskLinksUptoCardSaid : Prop := Claim7.holds Tryd.pinned (.plain (OpenSpec.upto askLinksSpec)) askLinksUptoCard

/-- THE SECOND FORM's CARD OF 'wrackkeep4.AskFirst'. -/
def askFirstUptoCard : Claim7 := { stood := { row := askFirstUptoRow, standIns := [], harness := (true, "6a56149ee59f0e0ffef84675efe9302800f822cccb5c32c9e98b89fe5abcae9f"), looks := false }, kinds := [], alts := [], laidByText := true, laidKinds := [.data, .data, .data, .data, .pinned], laidTests := true, laidLooks := .later }
def AskFirstUptoCardSaid : Prop := Claim7.holds Tryd.pinned (.plain (OpenSpec.upto askFirstSpec)) askFirstUptoCard
end Rows
end Go.Proofs.YtmcakfjbefelgaaDoor
