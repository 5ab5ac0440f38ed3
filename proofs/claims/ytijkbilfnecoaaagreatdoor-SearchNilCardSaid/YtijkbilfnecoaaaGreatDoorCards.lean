/-
  DERIVED. GIVEN WITH THE SEED: THE CARDS: each row of YtijkbilfnecoaaaGreatDoorRows.lean that lists a variable, with what it lists TIED to the program's text (the seventh form; the later family's looks); each row that meets fmt, with fmt's text TOLD by the authors' own Lean function (tested against real Go, not proved from fmt's source: count such statements apart). THE CARD IS WHAT COUNTS. Prove the row's statement (the work); the ties are given (YtijkbilfnecoaaaGreatDoorTie.lean); close each card by the builder's one call (the guide's Derived/Test/ToyasCard.lean, 'card_holds'). Laid BY PROGRAM, IN A SANDBOX (cutbox-door.mjs). By AI agents, Wed Nov 11 2026. No macro, syntax, notation, axiom, sorry.
-/
import Derived.Test.YtijkbilfnecoaaaGreatDoorRows
import GoSem.ClaimSeven
namespace Go.Proofs.YtijkbilfnecoaaaGreatDoor
namespace Rows

/-- THE TIED CARD OF 'assizelaw11.VmKnown'. -/
def vmKnownCard : Claim7 := { stood := { row := vmKnownRow, standIns := [], harness := (true, "a83516b7a2a03eb06f0be6fc1cf1e78781632e41053a08f942b5bb9865d19c08"), looks := true }, kinds := [], alts := [], laidByText := true, laidKinds := [.data, .data, .data], laidTests := true, laidLooks := .later }
def VmKnownCardSaid : Prop := Claim7.holds Tryz.pinned (.plain (OpenSpec.ofChange vmKnownSpec)) vmKnownCard

/-- THE TIED CARD OF 'assizelaw12.DepKnown'. -/
def depKnownCard : Claim7 := { stood := { row := depKnownRow, standIns := [], harness := (true, "a83516b7a2a03eb06f0be6fc1cf1e78781632e41053a08f942b5bb9865d19c08"), looks := true }, kinds := [], alts := [], laidByText := true, laidKinds := [.data, .data, .data], laidTests := true, laidLooks := .later }
def DepKnownCardSaid : Prop := Claim7.holds Tryz.pinned (.plain (OpenSpec.ofChange depKnownSpec)) depKnownCard

/-- THE TIED CARD OF 'assizelaw11.VmPieces'. -/
def vmPiecesCard : Claim7 := { stood := { row := vmPiecesRow, standIns := [], harness := (true, "a83516b7a2a03eb06f0be6fc1cf1e78781632e41053a08f942b5bb9865d19c08"), looks := true }, kinds := [], alts := [], laidByText := true, laidKinds := [.data, .data, .data], laidTests := true, laidLooks := .later }
def VmPiecesCardSaid : Prop := Claim7.holds Tryz.pinned (.plain (OpenSpec.ofChange vmPiecesSpec)) vmPiecesCard

/-- THE TIED CARD OF 'assizelaw11.VmBox'. -/
def vmBoxCard : Claim7 := { stood := { row := vmBoxRow, standIns := [], harness := (true, "a83516b7a2a03eb06f0be6fc1cf1e78781632e41053a08f942b5bb9865d19c08"), looks := true }, kinds := [], alts := [], laidByText := true, laidKinds := [.data, .data, .data], laidTests := true, laidLooks := .later }
def VmBoxCardSaid : Prop := Claim7.holds Tryz.pinned (.plain (OpenSpec.ofChange vmBoxSpec)) vmBoxCard

/-- THE TIED CARD OF 'assizelaw12.DepSwaps'. -/
def depSwapsCard : Claim7 := { stood := { row := depSwapsRow, standIns := [], harness := (true, "a83516b7a2a03eb06f0be6fc1cf1e78781632e41053a08f942b5bb9865d19c08"), looks := true }, kinds := [], alts := [], laidByText := true, laidKinds := [.data, .data, .data], laidTests := true, laidLooks := .later }
def DepSwapsCardSaid : Prop := Claim7.holds Tryz.pinned (.plain (OpenSpec.ofChange depSwapsSpec)) depSwapsCard

/-- THE TIED CARD OF 'assizelaw11.VmNil'. -/
def vmNilCard : Claim7 := { stood := { row := vmNilRow, standIns := [], harness := (true, "a83516b7a2a03eb06f0be6fc1cf1e78781632e41053a08f942b5bb9865d19c08"), looks := true }, kinds := [], alts := [], laidByText := true, laidKinds := [.data, .data, .data], laidTests := true, laidLooks := .later }
def VmNilCardSaid : Prop := Claim7.holds Tryz.pinned (.plain (OpenSpec.ofChange vmNilSpec)) vmNilCard

/-- THE TIED CARD OF 'assizelaw16.SearchKnown'. -/
def searchKnownCard : Claim7 := { stood := { row := searchKnownRow, standIns := [], harness := (true, "a83516b7a2a03eb06f0be6fc1cf1e78781632e41053a08f942b5bb9865d19c08"), looks := true }, kinds := [], alts := [], laidByText := true, laidKinds := [.data, .data, .data], laidTests := true, laidLooks := .later }
def SearchKnownCardSaid : Prop := Claim7.holds Tryz.pinned (.plain (OpenSpec.ofChange searchKnownSpec)) searchKnownCard

/-- THE TIED CARD OF 'assizetop.TopAlone'. -/
def topAloneCard : Claim7 := { stood := { row := topAloneRow, standIns := [], harness := (true, "a83516b7a2a03eb06f0be6fc1cf1e78781632e41053a08f942b5bb9865d19c08"), looks := true }, kinds := [], alts := [], laidByText := true, laidKinds := [.data, .data, .data], laidTests := true, laidLooks := .later }
def TopAloneCardSaid : Prop := Claim7.holds Tryz.pinned (.plain (OpenSpec.ofChange topAloneSpec)) topAloneCard

/-- THE TIED CARD OF 'assizelaw16.SearchSpends'. -/
def searchSpendsCard : Claim7 := { stood := { row := searchSpendsRow, standIns := [], harness := (true, "a83516b7a2a03eb06f0be6fc1cf1e78781632e41053a08f942b5bb9865d19c08"), looks := true }, kinds := [], alts := [], laidByText := true, laidKinds := [.data, .data, .data], laidTests := true, laidLooks := .later }
def SearchSpendsCardSaid : Prop := Claim7.holds Tryz.pinned (.plain (OpenSpec.ofChange searchSpendsSpec)) searchSpendsCard

/-- THE TIED CARD OF 'assizelaw16.SearchScript'. -/
def searchScriptCard : Claim7 := { stood := { row := searchScriptRow, standIns := [], harness := (true, "a83516b7a2a03eb06f0be6fc1cf1e78781632e41053a08f942b5bb9865d19c08"), looks := true }, kinds := [], alts := [], laidByText := true, laidKinds := [.data, .data, .data], laidTests := true, laidLooks := .later }
def SearchScriptCardSaid : Prop := Claim7.holds Tryz.pinned (.plain (OpenSpec.ofChange searchScriptSpec)) searchScriptCard

/-- THE TIED CARD OF 'assizetop.TopWritten'. -/
def topWrittenCard : Claim7 := { stood := { row := topWrittenRow, standIns := [], harness := (true, "a83516b7a2a03eb06f0be6fc1cf1e78781632e41053a08f942b5bb9865d19c08"), looks := true }, kinds := [], alts := [], laidByText := true, laidKinds := [.data, .data, .data], laidTests := true, laidLooks := .later }
def TopWrittenCardSaid : Prop := Claim7.holds Tryz.pinned (.plain (OpenSpec.ofChange topWrittenSpec)) topWrittenCard

/-- THE TIED CARD OF 'assizelaw16.SearchNil'. -/
def searchNilCard : Claim7 := { stood := { row := searchNilRow, standIns := [], harness := (true, "a83516b7a2a03eb06f0be6fc1cf1e78781632e41053a08f942b5bb9865d19c08"), looks := true }, kinds := [], alts := [], laidByText := true, laidKinds := [.data, .data, .data], laidTests := true, laidLooks := .later }
def SearchNilCardSaid : Prop := Claim7.holds Tryz.pinned (.plain (OpenSpec.ofChange searchNilSpec)) searchNilCard

/-- THE SECOND FORM's CARD OF 'assizelaw11.VmKnown'. -/
def vmKnownUptoCard : Claim7 := { stood := { row := vmKnownUptoRow, standIns := [], harness := (true, "a83516b7a2a03eb06f0be6fc1cf1e78781632e41053a08f942b5bb9865d19c08"), looks := true }, kinds := [], alts := [], laidByText := true, laidKinds := [.data, .data, .data], laidTests := true, laidLooks := .later }
def VmKnownUptoCardSaid : Prop := Claim7.holds Tryz.pinned (.plain (OpenSpec.upto vmKnownSpec)) vmKnownUptoCard

/-- THE SECOND FORM's CARD OF 'assizelaw12.DepKnown'. -/
def depKnownUptoCard : Claim7 := { stood := { row := depKnownUptoRow, standIns := [], harness := (true, "a83516b7a2a03eb06f0be6fc1cf1e78781632e41053a08f942b5bb9865d19c08"), looks := true }, kinds := [], alts := [], laidByText := true, laidKinds := [.data, .data, .data], laidTests := true, laidLooks := .later }
def DepKnownUptoCardSaid : Prop := Claim7.holds Tryz.pinned (.plain (OpenSpec.upto depKnownSpec)) depKnownUptoCard

/-- THE SECOND FORM's CARD OF 'assizelaw11.VmPieces'. -/
def vmPiecesUptoCard : Claim7 := { stood := { row := vmPiecesUptoRow, standIns := [], harness := (true, "a83516b7a2a03eb06f0be6fc1cf1e78781632e41053a08f942b5bb9865d19c08"), looks := true }, kinds := [], alts := [], laidByText := true, laidKinds := [.data, .data, .data], laidTests := true, laidLooks := .later }
def VmPiecesUptoCardSaid : Prop := Claim7.holds Tryz.pinned (.plain (OpenSpec.upto vmPiecesSpec)) vmPiecesUptoCard

/-- THE SECOND FORM's CARD OF 'assizelaw11.VmBox'. -/
def vmBoxUptoCard : Claim7 := { stood := { row := vmBoxUptoRow, standIns := [], harness := (true, "a83516b7a2a03eb06f0be6fc1cf1e78781632e41053a08f942b5bb9865d19c08"), looks := true }, kinds := [], alts := [], laidByText := true, laidKinds := [.data, .data, .data], laidTests := true, laidLooks := .later }
def VmBoxUptoCardSaid : Prop := Claim7.holds Tryz.pinned (.plain (OpenSpec.upto vmBoxSpec)) vmBoxUptoCard

/-- THE SECOND FORM's CARD OF 'assizelaw12.DepSwaps'. -/
def depSwapsUptoCard : Claim7 := { stood := { row := depSwapsUptoRow, standIns := [], harness := (true, "a83516b7a2a03eb06f0be6fc1cf1e78781632e41053a08f942b5bb9865d19c08"), looks := true }, kinds := [], alts := [], laidByText := true, laidKinds := [.data, .data, .data], laidTests := true, laidLooks := .later }
def DepSwapsUptoCardSaid : Prop := Claim7.holds Tryz.pinned (.plain (OpenSpec.upto depSwapsSpec)) depSwapsUptoCard

/-- THE SECOND FORM's CARD OF 'assizelaw11.VmNil'. -/
def vmNilUptoCard : Claim7 := { stood := { row := vmNilUptoRow, standIns := [], harness := (true, "a83516b7a2a03eb06f0be6fc1cf1e78781632e41053a08f942b5bb9865d19c08"), looks := true }, kinds := [], alts := [], laidByText := true, laidKinds := [.data, .data, .data], laidTests := true, laidLooks := .later }
def VmNilUptoCardSaid : Prop := Claim7.holds Tryz.pinned (.plain (OpenSpec.upto vmNilSpec)) vmNilUptoCard

/-- THE SECOND FORM's CARD OF 'assizelaw16.SearchKnown'. -/
def searchKnownUptoCard : Claim7 := { stood := { row := searchKnownUptoRow, standIns := [], harness := (true, "a83516b7a2a03eb06f0be6fc1cf1e78781632e41053a08f942b5bb9865d19c08"), looks := true }, kinds := [], alts := [], laidByText := true, laidKinds := [.data, .data, .data], laidTests := true, laidLooks := .later }
def SearchKnownUptoCardSaid : Prop := Claim7.holds Tryz.pinned (.plain (OpenSpec.upto searchKnownSpec)) searchKnownUptoCard

/-- THE SECOND FORM's CARD OF 'assizetop.TopAlone'. -/
def topAloneUptoCard : Claim7 := { stood := { row := topAloneUptoRow, standIns := [], harness := (true, "a83516b7a2a03eb06f0be6fc1cf1e78781632e41053a08f942b5bb9865d19c08"), looks := true }, kinds := [], alts := [], laidByText := true, laidKinds := [.data, .data, .data], laidTests := true, laidLooks := .later }
def TopAloneUptoCardSaid : Prop := Claim7.holds Tryz.pinned (.plain (OpenSpec.upto topAloneSpec)) topAloneUptoCard

/-- THE SECOND FORM's CARD OF 'assizelaw16.SearchSpends'. -/
def searchSpendsUptoCard : Claim7 := { stood := { row := searchSpendsUptoRow, standIns := [], harness := (true, "a83516b7a2a03eb06f0be6fc1cf1e78781632e41053a08f942b5bb9865d19c08"), looks := true }, kinds := [], alts := [], laidByText := true, laidKinds := [.data, .data, .data], laidTests := true, laidLooks := .later }
def SearchSpendsUptoCardSaid : Prop := Claim7.holds Tryz.pinned (.plain (OpenSpec.upto searchSpendsSpec)) searchSpendsUptoCard

/-- THE SECOND FORM's CARD OF 'assizelaw16.SearchScript'. -/
def searchScriptUptoCard : Claim7 := { stood := { row := searchScriptUptoRow, standIns := [], harness := (true, "a83516b7a2a03eb06f0be6fc1cf1e78781632e41053a08f942b5bb9865d19c08"), looks := true }, kinds := [], alts := [], laidByText := true, laidKinds := [.data, .data, .data], laidTests := true, laidLooks := .later }
def SearchScriptUptoCardSaid : Prop := Claim7.holds Tryz.pinned (.plain (OpenSpec.upto searchScriptSpec)) searchScriptUptoCard

/-- THE SECOND FORM's CARD OF 'assizetop.TopWritten'. -/
def topWrittenUptoCard : Claim7 := { stood := { row := topWrittenUptoRow, standIns := [], harness := (true, "a83516b7a2a03eb06f0be6fc1cf1e78781632e41053a08f942b5bb9865d19c08"), looks := true }, kinds := [], alts := [], laidByText := true, laidKinds := [.data, .data, .data], laidTests := true, laidLooks := .later }
def TopWrittenUptoCardSaid : Prop := Claim7.holds Tryz.pinned (.plain (OpenSpec.upto topWrittenSpec)) topWrittenUptoCard

/-- THE SECOND FORM's CARD OF 'assizelaw16.SearchNil'. -/
def searchNilUptoCard : Claim7 := { stood := { row := searchNilUptoRow, standIns := [], harness := (true, "a83516b7a2a03eb06f0be6fc1cf1e78781632e41053a08f942b5bb9865d19c08"), looks := true }, kinds := [], alts := [], laidByText := true, laidKinds := [.data, .data, .data], laidTests := true, laidLooks := .later }
def SearchNilUptoCardSaid : Prop := Claim7.holds Tryz.pinned (.plain (OpenSpec.upto searchNilSpec)) searchNilUptoCard
end Rows
end Go.Proofs.YtijkbilfnecoaaaGreatDoor
