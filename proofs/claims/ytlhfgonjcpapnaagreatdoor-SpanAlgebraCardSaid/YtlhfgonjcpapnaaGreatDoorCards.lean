/-
  DERIVED. GIVEN WITH THE SEED: THE CARDS: each row of YtlhfgonjcpapnaaGreatDoorRows.lean that lists a variable, with what it lists TIED to the program's text (the seventh form; the later family's looks); each row that meets fmt, with fmt's text TOLD by the authors' own Lean function (tested against real Go, not proved from fmt's source: count such statements apart). THE CARD IS WHAT COUNTS. Prove the row's statement (the work); the ties are given (YtlhfgonjcpapnaaGreatDoorTie.lean); close each card by the builder's one call (the guide's Derived/Test/ToyasCard.lean, 'card_holds'). Laid BY PROGRAM, IN A SANDBOX (cutbox-door.mjs). By AI agents, Wed Nov 11 2026. No macro, syntax, notation, axiom, sorry.
-/
import Derived.Test.YtlhfgonjcpapnaaGreatDoorRows
import GoSem.ClaimSeven
namespace Go.Proofs.YtlhfgonjcpapnaaGreatDoor
namespace Rows

/-- THE TIED CARD OF 'yanklinelaw08.SpanTexts'. -/
def spanTextsCard : Claim7 := { stood := { row := spanTextsRow, standIns := [], harness := (true, "5982c17abcafd0e80ae6453129739d5136a0271e1423a54bdc460b7f5f606cca"), looks := true }, kinds := [], alts := [], laidByText := true, laidKinds := [.data, .data, .data, .data, .sentinel, .sentinel, .pinned], laidTests := true, laidLooks := .later }
def SpanTextsCardSaid : Prop := Claim7.holds Tryz.pinned (.plain (OpenSpec.ofChange spanTextsSpec)) spanTextsCard

/-- THE TIED CARD OF 'yanklinelaw08.SpanPicks'. -/
def spanPicksCard : Claim7 := { stood := { row := spanPicksRow, standIns := [], harness := (true, "5982c17abcafd0e80ae6453129739d5136a0271e1423a54bdc460b7f5f606cca"), looks := true }, kinds := [], alts := [], laidByText := true, laidKinds := [.data, .data, .data, .data, .sentinel, .sentinel, .pinned], laidTests := true, laidLooks := .later }
def SpanPicksCardSaid : Prop := Claim7.holds Tryz.pinned (.plain (OpenSpec.ofChange spanPicksSpec)) spanPicksCard

/-- THE TIED CARD OF 'yanklinelaw08.SpanReads'. -/
def spanReadsCard : Claim7 := { stood := { row := spanReadsRow, standIns := [], harness := (true, "5982c17abcafd0e80ae6453129739d5136a0271e1423a54bdc460b7f5f606cca"), looks := true }, kinds := [], alts := [], laidByText := true, laidKinds := [.data, .data, .data, .data, .sentinel, .sentinel, .pinned], laidTests := true, laidLooks := .later }
def SpanReadsCardSaid : Prop := Claim7.holds Tryz.pinned (.plain (OpenSpec.ofChange spanReadsSpec)) spanReadsCard

/-- THE TIED CARD OF 'yanklinelaw08.SpanBack'. -/
def spanBackCard : Claim7 := { stood := { row := spanBackRow, standIns := [], harness := (true, "5982c17abcafd0e80ae6453129739d5136a0271e1423a54bdc460b7f5f606cca"), looks := true }, kinds := [], alts := [], laidByText := true, laidKinds := [.data, .data, .data, .data, .sentinel, .sentinel, .pinned], laidTests := true, laidLooks := .later }
def SpanBackCardSaid : Prop := Claim7.holds Tryz.pinned (.plain (OpenSpec.ofChange spanBackSpec)) spanBackCard

/-- THE TIED CARD OF 'yanklinelaw08.SpanHas'. -/
def spanHasCard : Claim7 := { stood := { row := spanHasRow, standIns := [], harness := (true, "5982c17abcafd0e80ae6453129739d5136a0271e1423a54bdc460b7f5f606cca"), looks := true }, kinds := [], alts := [], laidByText := true, laidKinds := [.data, .data, .data, .data, .sentinel, .sentinel, .pinned], laidTests := true, laidLooks := .later }
def SpanHasCardSaid : Prop := Claim7.holds Tryz.pinned (.plain (OpenSpec.ofChange spanHasSpec)) spanHasCard

/-- THE TIED CARD OF 'yanklinelaw08.SpanSets'. -/
def spanSetsCard : Claim7 := { stood := { row := spanSetsRow, standIns := [], harness := (true, "5982c17abcafd0e80ae6453129739d5136a0271e1423a54bdc460b7f5f606cca"), looks := true }, kinds := [], alts := [], laidByText := true, laidKinds := [.data, .data, .data, .data, .sentinel, .sentinel, .pinned], laidTests := true, laidLooks := .later }
def SpanSetsCardSaid : Prop := Claim7.holds Tryz.pinned (.plain (OpenSpec.ofChange spanSetsSpec)) spanSetsCard

/-- THE TIED CARD OF 'yanklinelaw08.SpanAlgebra'. -/
def spanAlgebraCard : Claim7 := { stood := { row := spanAlgebraRow, standIns := [], harness := (true, "5982c17abcafd0e80ae6453129739d5136a0271e1423a54bdc460b7f5f606cca"), looks := true }, kinds := [], alts := [], laidByText := true, laidKinds := [.data, .data, .data, .data, .sentinel, .sentinel, .pinned], laidTests := true, laidLooks := .later }
def SpanAlgebraCardSaid : Prop := Claim7.holds Tryz.pinned (.plain (OpenSpec.ofChange spanAlgebraSpec)) spanAlgebraCard

/-- THE SECOND FORM's CARD OF 'yanklinelaw08.SpanTexts'. -/
def spanTextsUptoCard : Claim7 := { stood := { row := spanTextsUptoRow, standIns := [], harness := (true, "5982c17abcafd0e80ae6453129739d5136a0271e1423a54bdc460b7f5f606cca"), looks := true }, kinds := [], alts := [], laidByText := true, laidKinds := [.data, .data, .data, .data, .sentinel, .sentinel, .pinned], laidTests := true, laidLooks := .later }
def SpanTextsUptoCardSaid : Prop := Claim7.holds Tryz.pinned (.plain (OpenSpec.upto spanTextsSpec)) spanTextsUptoCard

/-- THE SECOND FORM's CARD OF 'yanklinelaw08.SpanPicks'. -/
def spanPicksUptoCard : Claim7 := { stood := { row := spanPicksUptoRow, standIns := [], harness := (true, "5982c17abcafd0e80ae6453129739d5136a0271e1423a54bdc460b7f5f606cca"), looks := true }, kinds := [], alts := [], laidByText := true, laidKinds := [.data, .data, .data, .data, .sentinel, .sentinel, .pinned], laidTests := true, laidLooks := .later }
def SpanPicksUptoCardSaid : Prop := Claim7.holds Tryz.pinned (.plain (OpenSpec.upto spanPicksSpec)) spanPicksUptoCard

/-- THE SECOND FORM's CARD OF 'yanklinelaw08.SpanReads'. -/
def spanReadsUptoCard : Claim7 := { stood := { row := spanReadsUptoRow, standIns := [], harness := (true, "5982c17abcafd0e80ae6453129739d5136a0271e1423a54bdc460b7f5f606cca"), looks := true }, kinds := [], alts := [], laidByText := true, laidKinds := [.data, .data, .data, .data, .sentinel, .sentinel, .pinned], laidTests := true, laidLooks := .later }
def SpanReadsUptoCardSaid : Prop := Claim7.holds Tryz.pinned (.plain (OpenSpec.upto spanReadsSpec)) spanReadsUptoCard

/-- THE SECOND FORM's CARD OF 'yanklinelaw08.SpanBack'. -/
def spanBackUptoCard : Claim7 := { stood := { row := spanBackUptoRow, standIns := [], harness := (true, "5982c17abcafd0e80ae6453129739d5136a0271e1423a54bdc460b7f5f606cca"), looks := true }, kinds := [], alts := [], laidByText := true, laidKinds := [.data, .data, .data, .data, .sentinel, .sentinel, .pinned], laidTests := true, laidLooks := .later }
def SpanBackUptoCardSaid : Prop := Claim7.holds Tryz.pinned (.plain (OpenSpec.upto spanBackSpec)) spanBackUptoCard

/-- THE SECOND FORM's CARD OF 'yanklinelaw08.SpanHas'. -/
def spanHasUptoCard : Claim7 := { stood := { row := spanHasUptoRow, standIns := [], harness := (true, "5982c17abcafd0e80ae6453129739d5136a0271e1423a54bdc460b7f5f606cca"), looks := true }, kinds := [], alts := [], laidByText := true, laidKinds := [.data, .data, .data, .data, .sentinel, .sentinel, .pinned], laidTests := true, laidLooks := .later }
def SpanHasUptoCardSaid : Prop := Claim7.holds Tryz.pinned (.plain (OpenSpec.upto spanHasSpec)) spanHasUptoCard

/-- THE SECOND FORM's CARD OF 'yanklinelaw08.SpanSets'. -/
def spanSetsUptoCard : Claim7 := { stood := { row := spanSetsUptoRow, standIns := [], harness := (true, "5982c17abcafd0e80ae6453129739d5136a0271e1423a54bdc460b7f5f606cca"), looks := true }, kinds := [], alts := [], laidByText := true, laidKinds := [.data, .data, .data, .data, .sentinel, .sentinel, .pinned], laidTests := true, laidLooks := .later }
def SpanSetsUptoCardSaid : Prop := Claim7.holds Tryz.pinned (.plain (OpenSpec.upto spanSetsSpec)) spanSetsUptoCard

/-- THE SECOND FORM's CARD OF 'yanklinelaw08.SpanAlgebra'. -/
def spanAlgebraUptoCard : Claim7 := { stood := { row := spanAlgebraUptoRow, standIns := [], harness := (true, "5982c17abcafd0e80ae6453129739d5136a0271e1423a54bdc460b7f5f606cca"), looks := true }, kinds := [], alts := [], laidByText := true, laidKinds := [.data, .data, .data, .data, .sentinel, .sentinel, .pinned], laidTests := true, laidLooks := .later }
def SpanAlgebraUptoCardSaid : Prop := Claim7.holds Tryz.pinned (.plain (OpenSpec.upto spanAlgebraSpec)) spanAlgebraUptoCard
end Rows
end Go.Proofs.YtlhfgonjcpapnaaGreatDoor
