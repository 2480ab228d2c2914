/-
  DERIVED. GIVEN WITH THE SEED: THE CARDS: each row of YtbkbcpnpbfnmgaaDoorRows.lean that lists a variable, with what it lists TIED to the program's text (the seventh form; the later family's looks); each row that meets fmt, with fmt's text TOLD by the authors' own Lean function (tested against real Go, not proved from fmt's source: count such statements apart). THE CARD IS WHAT COUNTS. Prove the row's statement (the work); the ties are given (YtbkbcpnpbfnmgaaDoorTie.lean); close each card by the builder's one call (the guide's Derived/Test/ToyasCard.lean, 'card_holds'). Laid BY PROGRAM, IN A SANDBOX (cutbox-door.mjs). By AI agents, Wed Nov 11 2026. No macro, syntax, notation, axiom, sorry.
-/
import Derived.Test.YtbkbcpnpbfnmgaaDoorRows
import GoSem.ClaimSeven
namespace Go.Proofs.YtbkbcpnpbfnmgaaDoor
namespace Rows

/-- THE TIED CARD OF 'seedbedlaw15.ClockFull'. -/
def clockFullCard : Claim7 := { stood := { row := clockFullRow, standIns := [], harness := (true, "7e7b4d603735398c0d70de93721bc8e856627d5266e9a4170d16db4446423f3f"), looks := true }, kinds := [], alts := [], laidByText := true, laidKinds := [.data], laidTests := true, laidLooks := .later }
def ClockFullCardSaid : Prop := Claim7.holds Tryd.pinned (.plain (OpenSpec.ofChange clockFullSpec)) clockFullCard

/-- THE TIED CARD OF 'seedbedlaw15.ClockLoops'. -/
def clockLoopsCard : Claim7 := { stood := { row := clockLoopsRow, standIns := [], harness := (true, "7e7b4d603735398c0d70de93721bc8e856627d5266e9a4170d16db4446423f3f"), looks := true }, kinds := [], alts := [], laidByText := true, laidKinds := [.data], laidTests := true, laidLooks := .later }
def ClockLoopsCardSaid : Prop := Claim7.holds Tryd.pinned (.plain (OpenSpec.ofChange clockLoopsSpec)) clockLoopsCard

/-- THE TIED CARD OF 'seedbedlaw15.ClockFires'. -/
def clockFiresCard : Claim7 := { stood := { row := clockFiresRow, standIns := [], harness := (true, "7e7b4d603735398c0d70de93721bc8e856627d5266e9a4170d16db4446423f3f"), looks := true }, kinds := [], alts := [], laidByText := true, laidKinds := [.data], laidTests := true, laidLooks := .later }
def ClockFiresCardSaid : Prop := Claim7.holds Tryd.pinned (.plain (OpenSpec.ofChange clockFiresSpec)) clockFiresCard

/-- THE TIED CARD OF 'seedbedlaw15.ClockNobody'. -/
def clockNobodyCard : Claim7 := { stood := { row := clockNobodyRow, standIns := [], harness := (true, "7e7b4d603735398c0d70de93721bc8e856627d5266e9a4170d16db4446423f3f"), looks := true }, kinds := [], alts := [], laidByText := true, laidKinds := [.data], laidTests := true, laidLooks := .later }
def ClockNobodyCardSaid : Prop := Claim7.holds Tryd.pinned (.plain (OpenSpec.ofChange clockNobodySpec)) clockNobodyCard

/-- THE TIED CARD OF 'seedbedlaw15.ClockPlays'. -/
def clockPlaysCard : Claim7 := { stood := { row := clockPlaysRow, standIns := [], harness := (true, "7e7b4d603735398c0d70de93721bc8e856627d5266e9a4170d16db4446423f3f"), looks := true }, kinds := [], alts := [], laidByText := true, laidKinds := [.data], laidTests := true, laidLooks := .later }
def ClockPlaysCardSaid : Prop := Claim7.holds Tryd.pinned (.plain (OpenSpec.ofChange clockPlaysSpec)) clockPlaysCard

/-- THE TIED CARD OF 'seedbedlaw15.ClockUndone'. -/
def clockUndoneCard : Claim7 := { stood := { row := clockUndoneRow, standIns := [], harness := (true, "7e7b4d603735398c0d70de93721bc8e856627d5266e9a4170d16db4446423f3f"), looks := true }, kinds := [], alts := [], laidByText := true, laidKinds := [.data], laidTests := true, laidLooks := .later }
def ClockUndoneCardSaid : Prop := Claim7.holds Tryd.pinned (.plain (OpenSpec.ofChange clockUndoneSpec)) clockUndoneCard

/-- THE TIED CARD OF 'seedbedlaw15.ClockCopies'. -/
def clockCopiesCard : Claim7 := { stood := { row := clockCopiesRow, standIns := [], harness := (true, "7e7b4d603735398c0d70de93721bc8e856627d5266e9a4170d16db4446423f3f"), looks := true }, kinds := [], alts := [], laidByText := true, laidKinds := [.data], laidTests := true, laidLooks := .later }
def ClockCopiesCardSaid : Prop := Claim7.holds Tryd.pinned (.plain (OpenSpec.ofChange clockCopiesSpec)) clockCopiesCard

/-- THE TIED CARD OF 'seedbedlaw15.ClockParts'. -/
def clockPartsCard : Claim7 := { stood := { row := clockPartsRow, standIns := [], harness := (true, "7e7b4d603735398c0d70de93721bc8e856627d5266e9a4170d16db4446423f3f"), looks := true }, kinds := [], alts := [], laidByText := true, laidKinds := [.data], laidTests := true, laidLooks := .later }
def ClockPartsCardSaid : Prop := Claim7.holds Tryd.pinned (.plain (OpenSpec.ofChange clockPartsSpec)) clockPartsCard

/-- THE SECOND FORM's CARD OF 'seedbedlaw15.ClockFull'. -/
def clockFullUptoCard : Claim7 := { stood := { row := clockFullUptoRow, standIns := [], harness := (true, "7e7b4d603735398c0d70de93721bc8e856627d5266e9a4170d16db4446423f3f"), looks := true }, kinds := [], alts := [], laidByText := true, laidKinds := [.data], laidTests := true, laidLooks := .later }
def ClockFullUptoCardSaid : Prop := Claim7.holds Tryd.pinned (.plain (OpenSpec.upto clockFullSpec)) clockFullUptoCard

/-- THE SECOND FORM's CARD OF 'seedbedlaw15.ClockLoops'. -/
def clockLoopsUptoCard : Claim7 := { stood := { row := clockLoopsUptoRow, standIns := [], harness := (true, "7e7b4d603735398c0d70de93721bc8e856627d5266e9a4170d16db4446423f3f"), looks := true }, kinds := [], alts := [], laidByText := true, laidKinds := [.data], laidTests := true, laidLooks := .later }
def ClockLoopsUptoCardSaid : Prop := Claim7.holds Tryd.pinned (.plain (OpenSpec.upto clockLoopsSpec)) clockLoopsUptoCard

/-- THE SECOND FORM's CARD OF 'seedbedlaw15.ClockFires'. -/
def clockFiresUptoCard : Claim7 := { stood := { row := clockFiresUptoRow, standIns := [], harness := (true, "7e7b4d603735398c0d70de93721bc8e856627d5266e9a4170d16db4446423f3f"), looks := true }, kinds := [], alts := [], laidByText := true, laidKinds := [.data], laidTests := true, laidLooks := .later }
def ClockFiresUptoCardSaid : Prop := Claim7.holds Tryd.pinned (.plain (OpenSpec.upto clockFiresSpec)) clockFiresUptoCard

/-- THE SECOND FORM's CARD OF 'seedbedlaw15.ClockNobody'. -/
def clockNobodyUptoCard : Claim7 := { stood := { row := clockNobodyUptoRow, standIns := [], harness := (true, "7e7b4d603735398c0d70de93721bc8e856627d5266e9a4170d16db4446423f3f"), looks := true }, kinds := [], alts := [], laidByText := true, laidKinds := [.data], laidTests := true, laidLooks := .later }
def ClockNobodyUptoCardSaid : Prop := Claim7.holds Tryd.pinned (.plain (OpenSpec.upto clockNobodySpec)) clockNobodyUptoCard

/-- THE SECOND FORM's CARD OF 'seedbedlaw15.ClockPlays'. -/
def clockPlaysUptoCard : Claim7 := { stood := { row := clockPlaysUptoRow, standIns := [], harness := (true, "7e7b4d603735398c0d70de93721bc8e856627d5266e9a4170d16db4446423f3f"), looks := true }, kinds := [], alts := [], laidByText := true, laidKinds := [.data], laidTests := true, laidLooks := .later }
def ClockPlaysUptoCardSaid : Prop := Claim7.holds Tryd.pinned (.plain (OpenSpec.upto clockPlaysSpec)) clockPlaysUptoCard

/-- THE SECOND FORM's CARD OF 'seedbedlaw15.ClockUndone'. -/
def clockUndoneUptoCard : Claim7 := { stood := { row := clockUndoneUptoRow, standIns := [], harness := (true, "7e7b4d603735398c0d70de93721bc8e856627d5266e9a4170d16db4446423f3f"), looks := true }, kinds := [], alts := [], laidByText := true, laidKinds := [.data], laidTests := true, laidLooks := .later }
def ClockUndoneUptoCardSaid : Prop := Claim7.holds Tryd.pinned (.plain (OpenSpec.upto clockUndoneSpec)) clockUndoneUptoCard

/-- THE SECOND FORM's CARD OF 'seedbedlaw15.ClockCopies'. -/
def clockCopiesUptoCard : Claim7 := { stood := { row := clockCopiesUptoRow, standIns := [], harness := (true, "7e7b4d603735398c0d70de93721bc8e856627d5266e9a4170d16db4446423f3f"), looks := true }, kinds := [], alts := [], laidByText := true, laidKinds := [.data], laidTests := true, laidLooks := .later }
def ClockCopiesUptoCardSaid : Prop := Claim7.holds Tryd.pinned (.plain (OpenSpec.upto clockCopiesSpec)) clockCopiesUptoCard

/-- THE SECOND FORM's CARD OF 'seedbedlaw15.ClockParts'. -/
def clockPartsUptoCard : Claim7 := { stood := { row := clockPartsUptoRow, standIns := [], harness := (true, "7e7b4d603735398c0d70de93721bc8e856627d5266e9a4170d16db4446423f3f"), looks := true }, kinds := [], alts := [], laidByText := true, laidKinds := [.data], laidTests := true, laidLooks := .later }
def ClockPartsUptoCardSaid : Prop := Claim7.holds Tryd.pinned (.plain (OpenSpec.upto clockPartsSpec)) clockPartsUptoCard
end Rows
end Go.Proofs.YtbkbcpnpbfnmgaaDoor
