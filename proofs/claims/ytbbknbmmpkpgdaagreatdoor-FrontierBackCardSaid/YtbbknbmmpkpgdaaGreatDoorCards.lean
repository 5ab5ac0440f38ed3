/-
  DERIVED. GIVEN WITH THE SEED: THE CARDS: each row of YtbbknbmmpkpgdaaGreatDoorRows.lean that lists a variable, with what it lists TIED to the program's text (the seventh form; the later family's looks); each row that meets fmt, with fmt's text TOLD by the authors' own Lean function (tested against real Go, not proved from fmt's source: count such statements apart). THE CARD IS WHAT COUNTS. Prove the row's statement (the work); the ties are given (YtbbknbmmpkpgdaaGreatDoorTie.lean); close each card by the builder's one call (the guide's Derived/Test/ToyasCard.lean, 'card_holds'). Laid BY PROGRAM, IN A SANDBOX (cutbox-door.mjs). By AI agents, Wed Nov 11 2026. No macro, syntax, notation, axiom, sorry.
-/
import Derived.Test.YtbbknbmmpkpgdaaGreatDoorRows
import GoSem.ClaimSeven
namespace Go.Proofs.YtbbknbmmpkpgdaaGreatDoor
namespace Rows

/-- THE TIED CARD OF 'assizelaw17.FrontierKnown'. -/
def frontierKnownCard : Claim7 := { stood := { row := frontierKnownRow, standIns := [], harness := (true, "ca08f84773d20cc487dfe3dd41c6aee18f659338a90aa0164b9d7da6ecb317d5"), looks := true }, kinds := [], alts := [], laidByText := true, laidKinds := [.data, .data, .data], laidTests := true, laidLooks := .later }
def FrontierKnownCardSaid : Prop := Claim7.holds Tryz.pinned (.plain (OpenSpec.ofChange frontierKnownSpec)) frontierKnownCard

/-- THE TIED CARD OF 'assizelaw17.FrontierBack'. -/
def frontierBackCard : Claim7 := { stood := { row := frontierBackRow, standIns := [], harness := (true, "ca08f84773d20cc487dfe3dd41c6aee18f659338a90aa0164b9d7da6ecb317d5"), looks := true }, kinds := [], alts := [], laidByText := true, laidKinds := [.data, .data, .data], laidTests := true, laidLooks := .later }
def FrontierBackCardSaid : Prop := Claim7.holds Tryz.pinned (.plain (OpenSpec.ofChange frontierBackSpec)) frontierBackCard

/-- THE TIED CARD OF 'assizelaw18.WitnessKnown'. -/
def witnessKnownCard : Claim7 := { stood := { row := witnessKnownRow, standIns := [], harness := (true, "ca08f84773d20cc487dfe3dd41c6aee18f659338a90aa0164b9d7da6ecb317d5"), looks := true }, kinds := [], alts := [], laidByText := true, laidKinds := [.data, .data, .data], laidTests := true, laidLooks := .later }
def WitnessKnownCardSaid : Prop := Claim7.holds Tryz.pinned (.plain (OpenSpec.ofChange witnessKnownSpec)) witnessKnownCard

/-- THE TIED CARD OF 'assizelaw23.JobKnown'. -/
def jobKnownCard : Claim7 := { stood := { row := jobKnownRow, standIns := [], harness := (true, "ca08f84773d20cc487dfe3dd41c6aee18f659338a90aa0164b9d7da6ecb317d5"), looks := true }, kinds := [], alts := [], laidByText := true, laidKinds := [.data, .data, .data], laidTests := true, laidLooks := .later }
def JobKnownCardSaid : Prop := Claim7.holds Tryz.pinned (.plain (OpenSpec.ofChange jobKnownSpec)) jobKnownCard

/-- THE TIED CARD OF 'assizelaw23.JobNone'. -/
def jobNoneCard : Claim7 := { stood := { row := jobNoneRow, standIns := [], harness := (true, "ca08f84773d20cc487dfe3dd41c6aee18f659338a90aa0164b9d7da6ecb317d5"), looks := true }, kinds := [], alts := [], laidByText := true, laidKinds := [.data, .data, .data], laidTests := true, laidLooks := .later }
def JobNoneCardSaid : Prop := Claim7.holds Tryz.pinned (.plain (OpenSpec.ofChange jobNoneSpec)) jobNoneCard

/-- THE SECOND FORM's CARD OF 'assizelaw17.FrontierKnown'. -/
def frontierKnownUptoCard : Claim7 := { stood := { row := frontierKnownUptoRow, standIns := [], harness := (true, "ca08f84773d20cc487dfe3dd41c6aee18f659338a90aa0164b9d7da6ecb317d5"), looks := true }, kinds := [], alts := [], laidByText := true, laidKinds := [.data, .data, .data], laidTests := true, laidLooks := .later }
def FrontierKnownUptoCardSaid : Prop := Claim7.holds Tryz.pinned (.plain (OpenSpec.upto frontierKnownSpec)) frontierKnownUptoCard

/-- THE SECOND FORM's CARD OF 'assizelaw17.FrontierBack'. -/
def frontierBackUptoCard : Claim7 := { stood := { row := frontierBackUptoRow, standIns := [], harness := (true, "ca08f84773d20cc487dfe3dd41c6aee18f659338a90aa0164b9d7da6ecb317d5"), looks := true }, kinds := [], alts := [], laidByText := true, laidKinds := [.data, .data, .data], laidTests := true, laidLooks := .later }
def FrontierBackUptoCardSaid : Prop := Claim7.holds Tryz.pinned (.plain (OpenSpec.upto frontierBackSpec)) frontierBackUptoCard

/-- THE SECOND FORM's CARD OF 'assizelaw18.WitnessKnown'. -/
def witnessKnownUptoCard : Claim7 := { stood := { row := witnessKnownUptoRow, standIns := [], harness := (true, "ca08f84773d20cc487dfe3dd41c6aee18f659338a90aa0164b9d7da6ecb317d5"), looks := true }, kinds := [], alts := [], laidByText := true, laidKinds := [.data, .data, .data], laidTests := true, laidLooks := .later }
def WitnessKnownUptoCardSaid : Prop := Claim7.holds Tryz.pinned (.plain (OpenSpec.upto witnessKnownSpec)) witnessKnownUptoCard

/-- THE SECOND FORM's CARD OF 'assizelaw23.JobKnown'. -/
def jobKnownUptoCard : Claim7 := { stood := { row := jobKnownUptoRow, standIns := [], harness := (true, "ca08f84773d20cc487dfe3dd41c6aee18f659338a90aa0164b9d7da6ecb317d5"), looks := true }, kinds := [], alts := [], laidByText := true, laidKinds := [.data, .data, .data], laidTests := true, laidLooks := .later }
def JobKnownUptoCardSaid : Prop := Claim7.holds Tryz.pinned (.plain (OpenSpec.upto jobKnownSpec)) jobKnownUptoCard

/-- THE SECOND FORM's CARD OF 'assizelaw23.JobNone'. -/
def jobNoneUptoCard : Claim7 := { stood := { row := jobNoneUptoRow, standIns := [], harness := (true, "ca08f84773d20cc487dfe3dd41c6aee18f659338a90aa0164b9d7da6ecb317d5"), looks := true }, kinds := [], alts := [], laidByText := true, laidKinds := [.data, .data, .data], laidTests := true, laidLooks := .later }
def JobNoneUptoCardSaid : Prop := Claim7.holds Tryz.pinned (.plain (OpenSpec.upto jobNoneSpec)) jobNoneUptoCard
end Rows
end Go.Proofs.YtbbknbmmpkpgdaaGreatDoor
