/-
  DERIVED. GIVEN WITH THE SEED: THE CARDS: each row of YtfpoldogcopmpaaGreatDoorRows.lean that lists a variable, with what it lists TIED to the program's text (the seventh form; the later family's looks); each row that meets fmt, with fmt's text TOLD by the authors' own Lean function (tested against real Go, not proved from fmt's source: count such statements apart). THE CARD IS WHAT COUNTS. Prove the row's statement (the work); the ties are given (YtfpoldogcopmpaaGreatDoorTie.lean); close each card by the builder's one call (the guide's Derived/Test/ToyasCard.lean, 'card_holds'). Laid BY PROGRAM, IN A SANDBOX (cutbox-door.mjs). By AI agents, Wed Nov 11 2026. No macro, syntax, notation, axiom, sorry.
-/
import Derived.Test.YtfpoldogcopmpaaGreatDoorRows
import GoSem.ClaimSeven
namespace Go.Proofs.YtfpoldogcopmpaaGreatDoor
namespace Rows

/-- THE TIED CARD OF 'cressetlaw15.RecordRaw'. -/
def recordRawCard : Claim7 := { stood := { row := recordRawRow, standIns := [], harness := (true, "70699909f57b972802f43d814474f162f3718ec501fc066a29fb0f6290f37f50"), looks := false }, kinds := [], alts := [], laidByText := true, laidKinds := [.data, .pinned], laidTests := true, laidLooks := .later }
def RecordRawCardSaid : Prop := Claim7.holds Tryz.pinned (.plain (OpenSpec.ofChange recordRawSpec)) recordRawCard

/-- THE TIED CARD OF 'cressetlaw15.RecordSeals'. -/
def recordSealsCard : Claim7 := { stood := { row := recordSealsRow, standIns := [], harness := (true, "70699909f57b972802f43d814474f162f3718ec501fc066a29fb0f6290f37f50"), looks := false }, kinds := [], alts := [], laidByText := true, laidKinds := [.data, .pinned], laidTests := true, laidLooks := .later }
def RecordSealsCardSaid : Prop := Claim7.holds Tryz.pinned (.plain (OpenSpec.ofChange recordSealsSpec)) recordSealsCard

/-- THE SECOND FORM's CARD OF 'cressetlaw15.RecordRaw'. -/
def recordRawUptoCard : Claim7 := { stood := { row := recordRawUptoRow, standIns := [], harness := (true, "70699909f57b972802f43d814474f162f3718ec501fc066a29fb0f6290f37f50"), looks := false }, kinds := [], alts := [], laidByText := true, laidKinds := [.data, .pinned], laidTests := true, laidLooks := .later }
def RecordRawUptoCardSaid : Prop := Claim7.holds Tryz.pinned (.plain (OpenSpec.upto recordRawSpec)) recordRawUptoCard

/-- THE SECOND FORM's CARD OF 'cressetlaw15.RecordSeals'. -/
def recordSealsUptoCard : Claim7 := { stood := { row := recordSealsUptoRow, standIns := [], harness := (true, "70699909f57b972802f43d814474f162f3718ec501fc066a29fb0f6290f37f50"), looks := false }, kinds := [], alts := [], laidByText := true, laidKinds := [.data, .pinned], laidTests := true, laidLooks := .later }
def RecordSealsUptoCardSaid : Prop := Claim7.holds Tryz.pinned (.plain (OpenSpec.upto recordSealsSpec)) recordSealsUptoCard
end Rows
end Go.Proofs.YtfpoldogcopmpaaGreatDoor
