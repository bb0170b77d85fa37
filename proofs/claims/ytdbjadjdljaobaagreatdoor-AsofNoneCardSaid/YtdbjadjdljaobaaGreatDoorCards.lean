/-
  DERIVED. GIVEN WITH THE SEED: THE CARDS: each row of YtdbjadjdljaobaaGreatDoorRows.lean that lists a variable, with what it lists TIED to the program's text (the seventh form; the later family's looks); each row that meets fmt, with fmt's text TOLD by the authors' own Lean function (tested against real Go, not proved from fmt's source: count such statements apart). THE CARD IS WHAT COUNTS. Prove the row's statement (the work); the ties are given (YtdbjadjdljaobaaGreatDoorTie.lean); close each card by the builder's one call (the guide's Derived/Test/ToyasCard.lean, 'card_holds'). Laid BY PROGRAM, IN A SANDBOX (cutbox-door.mjs). By AI agents, Wed Nov 11 2026. No macro, syntax, notation, axiom, sorry.
-/
import Derived.Test.YtdbjadjdljaobaaGreatDoorRows
import GoSem.ClaimSeven
namespace Go.Proofs.YtdbjadjdljaobaaGreatDoor
namespace Rows

/-- THE TIED CARD OF 'yanklinelaw20.AsofNone'. -/
def asofNoneCard : Claim7 := { stood := { row := asofNoneRow, standIns := [], harness := (true, "af41561d153e32570a00c1e1a77a7d2e2a8529761a43ba6d381df423f6c64ca7"), looks := true }, kinds := [], alts := [], laidByText := true, laidKinds := [.data, .data, .data, .data, .handle, .sentinel, .sentinel, .pinned], laidTests := true, laidLooks := .later }
def AsofNoneCardSaid : Prop := Claim7.holds Tryz.pinned (.plain (OpenSpec.ofChange asofNoneSpec)) asofNoneCard

/-- THE TIED CARD OF 'yanklinelaw22.ResolveNone'. -/
def resolveNoneCard : Claim7 := { stood := { row := resolveNoneRow, standIns := [], harness := (true, "af41561d153e32570a00c1e1a77a7d2e2a8529761a43ba6d381df423f6c64ca7"), looks := true }, kinds := [], alts := [], laidByText := true, laidKinds := [.data, .data, .data, .data, .handle, .sentinel, .sentinel, .pinned], laidTests := true, laidLooks := .later }
def ResolveNoneCardSaid : Prop := Claim7.holds Tryz.pinned (.plain (OpenSpec.ofChange resolveNoneSpec)) resolveNoneCard

/-- THE TIED CARD OF 'yanklinelaw10.FoldNil'. -/
def foldNilCard : Claim7 := { stood := { row := foldNilRow, standIns := [], harness := (true, "af41561d153e32570a00c1e1a77a7d2e2a8529761a43ba6d381df423f6c64ca7"), looks := true }, kinds := [], alts := [], laidByText := true, laidKinds := [.data, .data, .data, .data, .handle, .sentinel, .sentinel, .pinned], laidTests := true, laidLooks := .later }
def FoldNilCardSaid : Prop := Claim7.holds Tryz.pinned (.plain (OpenSpec.ofChange foldNilSpec)) foldNilCard

/-- THE TIED CARD OF 'yanklinelaw21.NeedLong'. -/
def needLongCard : Claim7 := { stood := { row := needLongRow, standIns := [], harness := (true, "af41561d153e32570a00c1e1a77a7d2e2a8529761a43ba6d381df423f6c64ca7"), looks := true }, kinds := [], alts := [], laidByText := true, laidKinds := [.data, .data, .data, .data, .handle, .sentinel, .sentinel, .pinned], laidTests := true, laidLooks := .later }
def NeedLongCardSaid : Prop := Claim7.holds Tryz.pinned (.plain (OpenSpec.ofChange needLongSpec)) needLongCard

/-- THE SECOND FORM's CARD OF 'yanklinelaw20.AsofNone'. -/
def asofNoneUptoCard : Claim7 := { stood := { row := asofNoneUptoRow, standIns := [], harness := (true, "af41561d153e32570a00c1e1a77a7d2e2a8529761a43ba6d381df423f6c64ca7"), looks := true }, kinds := [], alts := [], laidByText := true, laidKinds := [.data, .data, .data, .data, .handle, .sentinel, .sentinel, .pinned], laidTests := true, laidLooks := .later }
def AsofNoneUptoCardSaid : Prop := Claim7.holds Tryz.pinned (.plain (OpenSpec.upto asofNoneSpec)) asofNoneUptoCard

/-- THE SECOND FORM's CARD OF 'yanklinelaw22.ResolveNone'. -/
def resolveNoneUptoCard : Claim7 := { stood := { row := resolveNoneUptoRow, standIns := [], harness := (true, "af41561d153e32570a00c1e1a77a7d2e2a8529761a43ba6d381df423f6c64ca7"), looks := true }, kinds := [], alts := [], laidByText := true, laidKinds := [.data, .data, .data, .data, .handle, .sentinel, .sentinel, .pinned], laidTests := true, laidLooks := .later }
def ResolveNoneUptoCardSaid : Prop := Claim7.holds Tryz.pinned (.plain (OpenSpec.upto resolveNoneSpec)) resolveNoneUptoCard

/-- THE SECOND FORM's CARD OF 'yanklinelaw10.FoldNil'. -/
def foldNilUptoCard : Claim7 := { stood := { row := foldNilUptoRow, standIns := [], harness := (true, "af41561d153e32570a00c1e1a77a7d2e2a8529761a43ba6d381df423f6c64ca7"), looks := true }, kinds := [], alts := [], laidByText := true, laidKinds := [.data, .data, .data, .data, .handle, .sentinel, .sentinel, .pinned], laidTests := true, laidLooks := .later }
def FoldNilUptoCardSaid : Prop := Claim7.holds Tryz.pinned (.plain (OpenSpec.upto foldNilSpec)) foldNilUptoCard

/-- THE SECOND FORM's CARD OF 'yanklinelaw21.NeedLong'. -/
def needLongUptoCard : Claim7 := { stood := { row := needLongUptoRow, standIns := [], harness := (true, "af41561d153e32570a00c1e1a77a7d2e2a8529761a43ba6d381df423f6c64ca7"), looks := true }, kinds := [], alts := [], laidByText := true, laidKinds := [.data, .data, .data, .data, .handle, .sentinel, .sentinel, .pinned], laidTests := true, laidLooks := .later }
def NeedLongUptoCardSaid : Prop := Claim7.holds Tryz.pinned (.plain (OpenSpec.upto needLongSpec)) needLongUptoCard
end Rows
end Go.Proofs.YtdbjadjdljaobaaGreatDoor
