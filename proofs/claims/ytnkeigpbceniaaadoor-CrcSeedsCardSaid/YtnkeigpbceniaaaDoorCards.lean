/-
  DERIVED. GIVEN WITH THE SEED: THE CARDS: each row of YtnkeigpbceniaaaDoorRows.lean that lists a variable, with what it lists TIED to the program's text (the seventh form; the later family's looks); each row that meets fmt, with fmt's text TOLD by the authors' own Lean function (tested against real Go, not proved from fmt's source: count such statements apart). THE CARD IS WHAT COUNTS. Prove the row's statement (the work); the ties are given (YtnkeigpbceniaaaDoorTie.lean); close each card by the builder's one call (the guide's Derived/Test/ToyasCard.lean, 'card_holds'). Laid BY PROGRAM, IN A SANDBOX (cutbox-door.mjs). By AI agents, Wed Nov 11 2026. No macro, syntax, notation, axiom, sorry.
-/
import Derived.Test.YtnkeigpbceniaaaDoorRows
import GoSem.ClaimSeven
namespace Go.Proofs.YtnkeigpbceniaaaDoor
namespace Rows

/-- THE TIED CARD OF 'leaseholdlaw1.CrcSays'. -/
def crcSaysCard : Claim7 := { stood := { row := crcSaysRow, standIns := [], harness := (true, "45cad29be48ba4004c71c98f25e9991aa7383a6bae897885d7286e1c1de0d912"), looks := true }, kinds := [], alts := [], laidByText := true, laidKinds := [.sentinel, .sentinel, .sentinel, .sentinel, .sentinel, .sentinel, .sentinel, .sentinel, .sentinel, .sentinel, .sentinel, .sentinel, .sentinel, .sentinel, .sentinel, .sentinel], laidTests := true, laidLooks := .later }
def CrcSaysCardSaid : Prop := Claim7.holds Tryd.pinned (.plain (OpenSpec.ofChange crcSaysSpec)) crcSaysCard

/-- THE TIED CARD OF 'leaseholdlaw1.CrcFinds'. -/
def crcFindsCard : Claim7 := { stood := { row := crcFindsRow, standIns := [], harness := (true, "45cad29be48ba4004c71c98f25e9991aa7383a6bae897885d7286e1c1de0d912"), looks := true }, kinds := [], alts := [], laidByText := true, laidKinds := [.sentinel, .sentinel], laidTests := true, laidLooks := .later }
def CrcFindsCardSaid : Prop := Claim7.holds Tryd.pinned (.plain (OpenSpec.ofChange crcFindsSpec)) crcFindsCard

/-- THE TIED CARD OF 'leaseholdlaw1.CrcSeeds'. -/
def crcSeedsCard : Claim7 := { stood := { row := crcSeedsRow, standIns := [], harness := (true, "45cad29be48ba4004c71c98f25e9991aa7383a6bae897885d7286e1c1de0d912"), looks := true }, kinds := [], alts := [], laidByText := true, laidKinds := [.sentinel, .sentinel], laidTests := true, laidLooks := .later }
def CrcSeedsCardSaid : Prop := Claim7.holds Tryd.pinned (.plain (OpenSpec.ofChange crcSeedsSpec)) crcSeedsCard

/-- THE SECOND FORM's CARD OF 'leaseholdlaw1.CrcSays'. -/
def crcSaysUptoCard : Claim7 := { stood := { row := crcSaysUptoRow, standIns := [], harness := (true, "45cad29be48ba4004c71c98f25e9991aa7383a6bae897885d7286e1c1de0d912"), looks := true }, kinds := [], alts := [], laidByText := true, laidKinds := [.sentinel, .sentinel, .sentinel, .sentinel, .sentinel, .sentinel, .sentinel, .sentinel, .sentinel, .sentinel, .sentinel, .sentinel, .sentinel, .sentinel, .sentinel, .sentinel], laidTests := true, laidLooks := .later }
def CrcSaysUptoCardSaid : Prop := Claim7.holds Tryd.pinned (.plain (OpenSpec.upto crcSaysSpec)) crcSaysUptoCard

/-- THE SECOND FORM's CARD OF 'leaseholdlaw1.CrcFinds'. -/
def crcFindsUptoCard : Claim7 := { stood := { row := crcFindsUptoRow, standIns := [], harness := (true, "45cad29be48ba4004c71c98f25e9991aa7383a6bae897885d7286e1c1de0d912"), looks := true }, kinds := [], alts := [], laidByText := true, laidKinds := [.sentinel, .sentinel], laidTests := true, laidLooks := .later }
def CrcFindsUptoCardSaid : Prop := Claim7.holds Tryd.pinned (.plain (OpenSpec.upto crcFindsSpec)) crcFindsUptoCard

/-- THE SECOND FORM's CARD OF 'leaseholdlaw1.CrcSeeds'. -/
def crcSeedsUptoCard : Claim7 := { stood := { row := crcSeedsUptoRow, standIns := [], harness := (true, "45cad29be48ba4004c71c98f25e9991aa7383a6bae897885d7286e1c1de0d912"), looks := true }, kinds := [], alts := [], laidByText := true, laidKinds := [.sentinel, .sentinel], laidTests := true, laidLooks := .later }
def CrcSeedsUptoCardSaid : Prop := Claim7.holds Tryd.pinned (.plain (OpenSpec.upto crcSeedsSpec)) crcSeedsUptoCard
end Rows
end Go.Proofs.YtnkeigpbceniaaaDoor
