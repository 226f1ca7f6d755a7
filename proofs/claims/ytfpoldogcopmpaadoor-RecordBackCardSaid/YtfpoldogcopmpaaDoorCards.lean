/-
  DERIVED. GIVEN WITH THE SEED: THE CARDS: each row of YtfpoldogcopmpaaDoorRows.lean that lists a variable, with what it lists TIED to the program's text (the seventh form; the later family's looks); each row that meets fmt, with fmt's text TOLD by the authors' own Lean function (tested against real Go, not proved from fmt's source: count such statements apart). THE CARD IS WHAT COUNTS. Prove the row's statement (the work); the ties are given (YtfpoldogcopmpaaDoorTie.lean); close each card by the builder's one call (the guide's Derived/Test/ToyasCard.lean, 'card_holds'). Laid BY PROGRAM, IN A SANDBOX (cutbox-door.mjs). By AI agents, Wed Nov 11 2026. No macro, syntax, notation, axiom, sorry.
-/
import Derived.Test.YtfpoldogcopmpaaDoorRows
import GoSem.ClaimSeven
namespace Go.Proofs.YtfpoldogcopmpaaDoor
namespace Rows

/-- THE TIED CARD OF 'cressetlaw15.RecordNil'. -/
def recordNilCard : Claim7 := { stood := { row := recordNilRow, standIns := [], harness := (true, "31ff084707325babfc099b7c7b06771bbbda9efb305689e024da1a1c61618a94"), looks := false }, kinds := [], alts := [], laidByText := true, laidKinds := [.data, .pinned], laidTests := true, laidLooks := .later }
def RecordNilCardSaid : Prop := Claim7.holds Tryd.pinned (.plain (OpenSpec.ofChange recordNilSpec)) recordNilCard

/-- THE TIED CARD OF 'cressetlaw15.RecordBack'. -/
def recordBackCard : Claim7 := { stood := { row := recordBackRow, standIns := [], harness := (true, "31ff084707325babfc099b7c7b06771bbbda9efb305689e024da1a1c61618a94"), looks := false }, kinds := [], alts := [], laidByText := true, laidKinds := [.data, .pinned], laidTests := true, laidLooks := .later }
def RecordBackCardSaid : Prop := Claim7.holds Tryd.pinned (.plain (OpenSpec.ofChange recordBackSpec)) recordBackCard

/-- THE SECOND FORM's CARD OF 'cressetlaw15.RecordNil'. -/
def recordNilUptoCard : Claim7 := { stood := { row := recordNilUptoRow, standIns := [], harness := (true, "31ff084707325babfc099b7c7b06771bbbda9efb305689e024da1a1c61618a94"), looks := false }, kinds := [], alts := [], laidByText := true, laidKinds := [.data, .pinned], laidTests := true, laidLooks := .later }
def RecordNilUptoCardSaid : Prop := Claim7.holds Tryd.pinned (.plain (OpenSpec.upto recordNilSpec)) recordNilUptoCard

/-- THE SECOND FORM's CARD OF 'cressetlaw15.RecordBack'. -/
def recordBackUptoCard : Claim7 := { stood := { row := recordBackUptoRow, standIns := [], harness := (true, "31ff084707325babfc099b7c7b06771bbbda9efb305689e024da1a1c61618a94"), looks := false }, kinds := [], alts := [], laidByText := true, laidKinds := [.data, .pinned], laidTests := true, laidLooks := .later }
def RecordBackUptoCardSaid : Prop := Claim7.holds Tryd.pinned (.plain (OpenSpec.upto recordBackSpec)) recordBackUptoCard
end Rows
end Go.Proofs.YtfpoldogcopmpaaDoor
