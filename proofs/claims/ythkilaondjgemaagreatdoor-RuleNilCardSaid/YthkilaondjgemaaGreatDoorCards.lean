/-
  DERIVED. GIVEN WITH THE SEED: THE CARDS: each row of YthkilaondjgemaaGreatDoorRows.lean that lists a variable, with what it lists TIED to the program's text (the seventh form; the later family's looks); each row that meets fmt, with fmt's text TOLD by the authors' own Lean function (tested against real Go, not proved from fmt's source: count such statements apart). THE CARD IS WHAT COUNTS. Prove the row's statement (the work); the ties are given (YthkilaondjgemaaGreatDoorTie.lean); close each card by the builder's one call (the guide's Derived/Test/ToyasCard.lean, 'card_holds'). Laid BY PROGRAM, IN A SANDBOX (cutbox-door.mjs). By AI agents, Wed Nov 11 2026. No macro, syntax, notation, axiom, sorry.
-/
import Derived.Test.YthkilaondjgemaaGreatDoorRows
import GoSem.ClaimSeven
namespace Go.Proofs.YthkilaondjgemaaGreatDoor
namespace Rows

/-- THE TIED CARD OF 'yanklinelaw10.FoldNil'. -/
def foldNilCard : Claim7 := { stood := { row := foldNilRow, standIns := [], harness := (true, "c2a0f5ed42741bcac87c6df8873dd1f5f925eed1d9be6dd4f6073d90ddd8f6d1"), looks := true }, kinds := [], alts := [], laidByText := true, laidKinds := [.data, .data, .data, .data, .handle, .sentinel, .sentinel, .pinned], laidTests := true, laidLooks := .later }
def FoldNilCardSaid : Prop := Claim7.holds Tryz.pinned (.plain (OpenSpec.ofChange foldNilSpec)) foldNilCard

/-- THE TIED CARD OF 'yanklinelaw13.TokenNil'. -/
def tokenNilCard : Claim7 := { stood := { row := tokenNilRow, standIns := [], harness := (true, "c2a0f5ed42741bcac87c6df8873dd1f5f925eed1d9be6dd4f6073d90ddd8f6d1"), looks := true }, kinds := [], alts := [], laidByText := true, laidKinds := [.data, .data, .data, .data, .handle, .sentinel, .sentinel, .pinned], laidTests := true, laidLooks := .later }
def TokenNilCardSaid : Prop := Claim7.holds Tryz.pinned (.plain (OpenSpec.ofChange tokenNilSpec)) tokenNilCard

/-- THE TIED CARD OF 'yanklinelaw15.RuleNil'. -/
def ruleNilCard : Claim7 := { stood := { row := ruleNilRow, standIns := [], harness := (true, "c2a0f5ed42741bcac87c6df8873dd1f5f925eed1d9be6dd4f6073d90ddd8f6d1"), looks := true }, kinds := [], alts := [], laidByText := true, laidKinds := [.data, .data, .data, .data, .handle, .sentinel, .sentinel, .pinned], laidTests := true, laidLooks := .later }
def RuleNilCardSaid : Prop := Claim7.holds Tryz.pinned (.plain (OpenSpec.ofChange ruleNilSpec)) ruleNilCard

/-- THE TIED CARD OF 'yanklinelaw16.PageNil'. -/
def pageNilCard : Claim7 := { stood := { row := pageNilRow, standIns := [], harness := (true, "c2a0f5ed42741bcac87c6df8873dd1f5f925eed1d9be6dd4f6073d90ddd8f6d1"), looks := true }, kinds := [], alts := [], laidByText := true, laidKinds := [.data, .data, .data, .data, .handle, .sentinel, .sentinel, .pinned], laidTests := true, laidLooks := .later }
def PageNilCardSaid : Prop := Claim7.holds Tryz.pinned (.plain (OpenSpec.ofChange pageNilSpec)) pageNilCard

/-- THE SECOND FORM's CARD OF 'yanklinelaw10.FoldNil'. -/
def foldNilUptoCard : Claim7 := { stood := { row := foldNilUptoRow, standIns := [], harness := (true, "c2a0f5ed42741bcac87c6df8873dd1f5f925eed1d9be6dd4f6073d90ddd8f6d1"), looks := true }, kinds := [], alts := [], laidByText := true, laidKinds := [.data, .data, .data, .data, .handle, .sentinel, .sentinel, .pinned], laidTests := true, laidLooks := .later }
def FoldNilUptoCardSaid : Prop := Claim7.holds Tryz.pinned (.plain (OpenSpec.upto foldNilSpec)) foldNilUptoCard

/-- THE SECOND FORM's CARD OF 'yanklinelaw13.TokenNil'. -/
def tokenNilUptoCard : Claim7 := { stood := { row := tokenNilUptoRow, standIns := [], harness := (true, "c2a0f5ed42741bcac87c6df8873dd1f5f925eed1d9be6dd4f6073d90ddd8f6d1"), looks := true }, kinds := [], alts := [], laidByText := true, laidKinds := [.data, .data, .data, .data, .handle, .sentinel, .sentinel, .pinned], laidTests := true, laidLooks := .later }
def TokenNilUptoCardSaid : Prop := Claim7.holds Tryz.pinned (.plain (OpenSpec.upto tokenNilSpec)) tokenNilUptoCard

/-- THE SECOND FORM's CARD OF 'yanklinelaw15.RuleNil'. -/
def ruleNilUptoCard : Claim7 := { stood := { row := ruleNilUptoRow, standIns := [], harness := (true, "c2a0f5ed42741bcac87c6df8873dd1f5f925eed1d9be6dd4f6073d90ddd8f6d1"), looks := true }, kinds := [], alts := [], laidByText := true, laidKinds := [.data, .data, .data, .data, .handle, .sentinel, .sentinel, .pinned], laidTests := true, laidLooks := .later }
def RuleNilUptoCardSaid : Prop := Claim7.holds Tryz.pinned (.plain (OpenSpec.upto ruleNilSpec)) ruleNilUptoCard

/-- THE SECOND FORM's CARD OF 'yanklinelaw16.PageNil'. -/
def pageNilUptoCard : Claim7 := { stood := { row := pageNilUptoRow, standIns := [], harness := (true, "c2a0f5ed42741bcac87c6df8873dd1f5f925eed1d9be6dd4f6073d90ddd8f6d1"), looks := true }, kinds := [], alts := [], laidByText := true, laidKinds := [.data, .data, .data, .data, .handle, .sentinel, .sentinel, .pinned], laidTests := true, laidLooks := .later }
def PageNilUptoCardSaid : Prop := Claim7.holds Tryz.pinned (.plain (OpenSpec.upto pageNilSpec)) pageNilUptoCard
end Rows
end Go.Proofs.YthkilaondjgemaaGreatDoor
