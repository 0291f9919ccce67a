/-
  DERIVED. GIVEN WITH THE SEED: THE CARDS: each row of YtcpojjjdglhhcaaDoorRows.lean that lists a variable, with what it lists TIED to the program's text (the seventh form; the later family's looks); each row that meets fmt, with fmt's text TOLD by the authors' own Lean function (tested against real Go, not proved from fmt's source: count such statements apart). THE CARD IS WHAT COUNTS. Prove the row's statement (the work); the ties are given (YtcpojjjdglhhcaaDoorTie.lean); close each card by the builder's one call (the guide's Derived/Test/ToyasCard.lean, 'card_holds'). Laid BY PROGRAM, IN A SANDBOX (cutbox-door.mjs). By AI agents, Wed Nov 11 2026. No macro, syntax, notation, axiom, sorry.
-/
import Derived.Test.YtcpojjjdglhhcaaDoorRows
import GoSem.ClaimSeven
namespace Go.Proofs.YtcpojjjdglhhcaaDoor
namespace Rows

/-- THE TIED CARD OF 'wrackkeep4.SealChain'. -/
def sealChainCard : Claim7 := { stood := { row := sealChainRow, standIns := [], harness := (true, "e6661fc1bd0ebc063ca55b2e869ca8663da26053b85a15980d64f52cf701d523"), looks := false }, kinds := [], alts := [], laidByText := true, laidKinds := [.data, .data, .data], laidTests := true, laidLooks := .later }
def SealChainCardSaid : Prop := Claim7.holds Tryd.pinned (.plain (OpenSpec.ofChange sealChainSpec)) sealChainCard

/-- THE TIED CARD OF 'wrackkeep4.SealWhole'. -/
def sealWholeCard : Claim7 := { stood := { row := sealWholeRow, standIns := [], harness := (true, "e6661fc1bd0ebc063ca55b2e869ca8663da26053b85a15980d64f52cf701d523"), looks := false }, kinds := [], alts := [], laidByText := true, laidKinds := [.data, .data, .data], laidTests := true, laidLooks := .later }
def SealWholeCardSaid : Prop := Claim7.holds Tryd.pinned (.plain (OpenSpec.ofChange sealWholeSpec)) sealWholeCard

/-- THE TIED CARD OF 'wracklaw4.SealChecks'. -/
def sealChecksCard : Claim7 := { stood := { row := sealChecksRow, standIns := [], harness := (true, "e6661fc1bd0ebc063ca55b2e869ca8663da26053b85a15980d64f52cf701d523"), looks := false }, kinds := [], alts := [], laidByText := true, laidKinds := [.data, .data, .data], laidTests := true, laidLooks := .later }
def SealChecksCardSaid : Prop := Claim7.holds Tryd.pinned (.plain (OpenSpec.ofChange sealChecksSpec)) sealChecksCard

/-- THE TIED CARD OF 'wracklaw4.SealAppends'. -/
def sealAppendsCard : Claim7 := { stood := { row := sealAppendsRow, standIns := [], harness := (true, "e6661fc1bd0ebc063ca55b2e869ca8663da26053b85a15980d64f52cf701d523"), looks := false }, kinds := [], alts := [], laidByText := true, laidKinds := [.data, .data, .data], laidTests := true, laidLooks := .later }
def SealAppendsCardSaid : Prop := Claim7.holds Tryd.pinned (.plain (OpenSpec.ofChange sealAppendsSpec)) sealAppendsCard

/-- THE SECOND FORM's CARD OF 'wrackkeep4.SealChain'. -/
def sealChainUptoCard : Claim7 := { stood := { row := sealChainUptoRow, standIns := [], harness := (true, "e6661fc1bd0ebc063ca55b2e869ca8663da26053b85a15980d64f52cf701d523"), looks := false }, kinds := [], alts := [], laidByText := true, laidKinds := [.data, .data, .data], laidTests := true, laidLooks := .later }
def SealChainUptoCardSaid : Prop := Claim7.holds Tryd.pinned (.plain (OpenSpec.upto sealChainSpec)) sealChainUptoCard

/-- THE SECOND FORM's CARD OF 'wrackkeep4.SealWhole'. -/
def sealWholeUptoCard : Claim7 := { stood := { row := sealWholeUptoRow, standIns := [], harness := (true, "e6661fc1bd0ebc063ca55b2e869ca8663da26053b85a15980d64f52cf701d523"), looks := false }, kinds := [], alts := [], laidByText := true, laidKinds := [.data, .data, .data], laidTests := true, laidLooks := .later }
def SealWholeUptoCardSaid : Prop := Claim7.holds Tryd.pinned (.plain (OpenSpec.upto sealWholeSpec)) sealWholeUptoCard

/-- THE SECOND FORM's CARD OF 'wracklaw4.SealChecks'. -/
def sealChecksUptoCard : Claim7 := { stood := { row := sealChecksUptoRow, standIns := [], harness := (true, "e6661fc1bd0ebc063ca55b2e869ca8663da26053b85a15980d64f52cf701d523"), looks := false }, kinds := [], alts := [], laidByText := true, laidKinds := [.data, .data, .data], laidTests := true, laidLooks := .later }
def SealChecksUptoCardSaid : Prop := Claim7.holds Tryd.pinned (.plain (OpenSpec.upto sealChecksSpec)) sealChecksUptoCard

/-- THE SECOND FORM's CARD OF 'wracklaw4.SealAppends'. -/
def sealAppendsUptoCard : Claim7 := { stood := { row := sealAppendsUptoRow, standIns := [], harness := (true, "e6661fc1bd0ebc063ca55b2e869ca8663da26053b85a15980d64f52cf701d523"), looks := false }, kinds := [], alts := [], laidByText := true, laidKinds := [.data, .data, .data], laidTests := true, laidLooks := .later }
def SealAppendsUptoCardSaid : Prop := Claim7.holds Tryd.pinned (.plain (OpenSpec.upto sealAppendsSpec)) sealAppendsUptoCard
end Rows
end Go.Proofs.YtcpojjjdglhhcaaDoor
