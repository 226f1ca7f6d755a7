/-
  DERIVED. GIVEN WITH THE SEED: THE CARDS: each row of YtcmhdfbeepanlaaDoorRows.lean that lists a variable, with what it lists TIED to the program's text (the seventh form; the later family's looks); each row that meets fmt, with fmt's text TOLD by the authors' own Lean function (tested against real Go, not proved from fmt's source: count such statements apart). THE CARD IS WHAT COUNTS. Prove the row's statement (the work); the ties are given (YtcmhdfbeepanlaaDoorTie.lean); close each card by the builder's one call (the guide's Derived/Test/ToyasCard.lean, 'card_holds'). Laid BY PROGRAM, IN A SANDBOX (cutbox-door.mjs). By AI agents, Wed Nov 11 2026. No macro, syntax, notation, axiom, sorry.
-/
import Derived.Test.YtcmhdfbeepanlaaDoorRows
import GoSem.ClaimSeven
namespace Go.Proofs.YtcmhdfbeepanlaaDoor
namespace Rows

/-- THE TIED CARD OF 'cressetlaw21.OctetsFrames'. -/
def octetsFramesCard : Claim7 := { stood := { row := octetsFramesRow, standIns := [], harness := (true, "b95243ea451eab3f0d7049ee9ee403a0177c5a9c56ad3114dc5c11ecbcd9b06a"), looks := true }, kinds := [], alts := [], laidByText := true, laidKinds := [.data, .data, .data, .data, .sentinel, .sentinel, .pinned], laidTests := true, laidLooks := .later }
def OctetsFramesCardSaid : Prop := Claim7.holds Tryd.pinned (.plain (OpenSpec.ofChange octetsFramesSpec)) octetsFramesCard

/-- THE TIED CARD OF 'cressetlaw21.OctetsReads'. -/
def octetsReadsCard : Claim7 := { stood := { row := octetsReadsRow, standIns := [], harness := (true, "b95243ea451eab3f0d7049ee9ee403a0177c5a9c56ad3114dc5c11ecbcd9b06a"), looks := true }, kinds := [], alts := [], laidByText := true, laidKinds := [.data, .data, .data, .data, .sentinel, .sentinel, .pinned], laidTests := true, laidLooks := .later }
def OctetsReadsCardSaid : Prop := Claim7.holds Tryd.pinned (.plain (OpenSpec.ofChange octetsReadsSpec)) octetsReadsCard

/-- THE TIED CARD OF 'cressetlaw21.OctetsCut'. -/
def octetsCutCard : Claim7 := { stood := { row := octetsCutRow, standIns := [], harness := (true, "b95243ea451eab3f0d7049ee9ee403a0177c5a9c56ad3114dc5c11ecbcd9b06a"), looks := true }, kinds := [], alts := [], laidByText := true, laidKinds := [.data, .data, .data, .data, .sentinel, .sentinel, .pinned], laidTests := true, laidLooks := .later }
def OctetsCutCardSaid : Prop := Claim7.holds Tryd.pinned (.plain (OpenSpec.ofChange octetsCutSpec)) octetsCutCard

/-- THE TIED CARD OF 'cressetlaw21.OctetsNil'. -/
def octetsNilCard : Claim7 := { stood := { row := octetsNilRow, standIns := [], harness := (true, "b95243ea451eab3f0d7049ee9ee403a0177c5a9c56ad3114dc5c11ecbcd9b06a"), looks := true }, kinds := [], alts := [], laidByText := true, laidKinds := [.data, .data, .data, .data, .sentinel, .sentinel, .pinned], laidTests := true, laidLooks := .later }
def OctetsNilCardSaid : Prop := Claim7.holds Tryd.pinned (.plain (OpenSpec.ofChange octetsNilSpec)) octetsNilCard

/-- THE TIED CARD OF 'cressetlaw21.OctetsOne'. -/
def octetsOneCard : Claim7 := { stood := { row := octetsOneRow, standIns := [], harness := (true, "b95243ea451eab3f0d7049ee9ee403a0177c5a9c56ad3114dc5c11ecbcd9b06a"), looks := true }, kinds := [], alts := [], laidByText := true, laidKinds := [.data, .data, .data, .data, .sentinel, .sentinel, .pinned], laidTests := true, laidLooks := .later }
def OctetsOneCardSaid : Prop := Claim7.holds Tryd.pinned (.plain (OpenSpec.ofChange octetsOneSpec)) octetsOneCard

/-- THE SECOND FORM's CARD OF 'cressetlaw21.OctetsFrames'. -/
def octetsFramesUptoCard : Claim7 := { stood := { row := octetsFramesUptoRow, standIns := [], harness := (true, "b95243ea451eab3f0d7049ee9ee403a0177c5a9c56ad3114dc5c11ecbcd9b06a"), looks := true }, kinds := [], alts := [], laidByText := true, laidKinds := [.data, .data, .data, .data, .sentinel, .sentinel, .pinned], laidTests := true, laidLooks := .later }
def OctetsFramesUptoCardSaid : Prop := Claim7.holds Tryd.pinned (.plain (OpenSpec.upto octetsFramesSpec)) octetsFramesUptoCard

/-- THE SECOND FORM's CARD OF 'cressetlaw21.OctetsReads'. -/
def octetsReadsUptoCard : Claim7 := { stood := { row := octetsReadsUptoRow, standIns := [], harness := (true, "b95243ea451eab3f0d7049ee9ee403a0177c5a9c56ad3114dc5c11ecbcd9b06a"), looks := true }, kinds := [], alts := [], laidByText := true, laidKinds := [.data, .data, .data, .data, .sentinel, .sentinel, .pinned], laidTests := true, laidLooks := .later }
def OctetsReadsUptoCardSaid : Prop := Claim7.holds Tryd.pinned (.plain (OpenSpec.upto octetsReadsSpec)) octetsReadsUptoCard

/-- THE SECOND FORM's CARD OF 'cressetlaw21.OctetsCut'. -/
def octetsCutUptoCard : Claim7 := { stood := { row := octetsCutUptoRow, standIns := [], harness := (true, "b95243ea451eab3f0d7049ee9ee403a0177c5a9c56ad3114dc5c11ecbcd9b06a"), looks := true }, kinds := [], alts := [], laidByText := true, laidKinds := [.data, .data, .data, .data, .sentinel, .sentinel, .pinned], laidTests := true, laidLooks := .later }
def OctetsCutUptoCardSaid : Prop := Claim7.holds Tryd.pinned (.plain (OpenSpec.upto octetsCutSpec)) octetsCutUptoCard

/-- THE SECOND FORM's CARD OF 'cressetlaw21.OctetsNil'. -/
def octetsNilUptoCard : Claim7 := { stood := { row := octetsNilUptoRow, standIns := [], harness := (true, "b95243ea451eab3f0d7049ee9ee403a0177c5a9c56ad3114dc5c11ecbcd9b06a"), looks := true }, kinds := [], alts := [], laidByText := true, laidKinds := [.data, .data, .data, .data, .sentinel, .sentinel, .pinned], laidTests := true, laidLooks := .later }
def OctetsNilUptoCardSaid : Prop := Claim7.holds Tryd.pinned (.plain (OpenSpec.upto octetsNilSpec)) octetsNilUptoCard

/-- THE SECOND FORM's CARD OF 'cressetlaw21.OctetsOne'. -/
def octetsOneUptoCard : Claim7 := { stood := { row := octetsOneUptoRow, standIns := [], harness := (true, "b95243ea451eab3f0d7049ee9ee403a0177c5a9c56ad3114dc5c11ecbcd9b06a"), looks := true }, kinds := [], alts := [], laidByText := true, laidKinds := [.data, .data, .data, .data, .sentinel, .sentinel, .pinned], laidTests := true, laidLooks := .later }
def OctetsOneUptoCardSaid : Prop := Claim7.holds Tryd.pinned (.plain (OpenSpec.upto octetsOneSpec)) octetsOneUptoCard
end Rows
end Go.Proofs.YtcmhdfbeepanlaaDoor
