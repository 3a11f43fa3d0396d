/-
  DERIVED. GIVEN WITH THE SEED: THE CARDS: each row of YtkphecmdilefgaaDoorRows.lean that lists a variable, with what it lists TIED to the program's text (the seventh form; the later family's looks); each row that meets fmt, with fmt's text TOLD by the authors' own Lean function (tested against real Go, not proved from fmt's source: count such statements apart). THE CARD IS WHAT COUNTS. Prove the row's statement (the work); the ties are given (YtkphecmdilefgaaDoorTie.lean); close each card by the builder's one call (the guide's Derived/Test/ToyasCard.lean, 'card_holds'). Laid BY PROGRAM, IN A SANDBOX (cutbox-door.mjs). By AI agents, Wed Nov 11 2026. No macro, syntax, notation, axiom, sorry.
-/
import Derived.Test.YtkphecmdilefgaaDoorRows
import GoSem.ClaimSeven
namespace Go.Proofs.YtkphecmdilefgaaDoor
namespace Rows

/-- THE TIED CARD OF 'inkhornlaw18.SingleDecodes'. -/
def singleDecodesCard : Claim7 := { stood := { row := singleDecodesRow, standIns := [], harness := (true, "9c0a5c9c1a4c6e06b878f9f5f2bf0487e66eafcf4ea658b9b26e57d0bd84b7bb"), looks := false }, kinds := [], alts := [], laidByText := true, laidKinds := [.data, .pinned], laidTests := true, laidLooks := .later }
def SingleDecodesCardSaid : Prop := Claim7.holds Tryd.pinned (.plain (OpenSpec.ofChange singleDecodesSpec)) singleDecodesCard

/-- THE TIED CARD OF 'inkhornlaw18.SingleEach'. -/
def singleEachCard : Claim7 := { stood := { row := singleEachRow, standIns := [], harness := (true, "9c0a5c9c1a4c6e06b878f9f5f2bf0487e66eafcf4ea658b9b26e57d0bd84b7bb"), looks := false }, kinds := [], alts := [], laidByText := true, laidKinds := [.data, .pinned], laidTests := true, laidLooks := .later }
def SingleEachCardSaid : Prop := Claim7.holds Tryd.pinned (.plain (OpenSpec.ofChange singleEachSpec)) singleEachCard

/-- THE TIED CARD OF 'inkhornlaw18.SingleTables'. -/
def singleTablesCard : Claim7 := { stood := { row := singleTablesRow, standIns := [], harness := (true, "9c0a5c9c1a4c6e06b878f9f5f2bf0487e66eafcf4ea658b9b26e57d0bd84b7bb"), looks := false }, kinds := [], alts := [], laidByText := true, laidKinds := [.data, .pinned], laidTests := true, laidLooks := .later }
def SingleTablesCardSaid : Prop := Claim7.holds Tryd.pinned (.plain (OpenSpec.ofChange singleTablesSpec)) singleTablesCard

/-- THE SECOND FORM's CARD OF 'inkhornlaw18.SingleDecodes'. -/
def singleDecodesUptoCard : Claim7 := { stood := { row := singleDecodesUptoRow, standIns := [], harness := (true, "9c0a5c9c1a4c6e06b878f9f5f2bf0487e66eafcf4ea658b9b26e57d0bd84b7bb"), looks := false }, kinds := [], alts := [], laidByText := true, laidKinds := [.data, .pinned], laidTests := true, laidLooks := .later }
def SingleDecodesUptoCardSaid : Prop := Claim7.holds Tryd.pinned (.plain (OpenSpec.upto singleDecodesSpec)) singleDecodesUptoCard

/-- THE SECOND FORM's CARD OF 'inkhornlaw18.SingleEach'. -/
def singleEachUptoCard : Claim7 := { stood := { row := singleEachUptoRow, standIns := [], harness := (true, "9c0a5c9c1a4c6e06b878f9f5f2bf0487e66eafcf4ea658b9b26e57d0bd84b7bb"), looks := false }, kinds := [], alts := [], laidByText := true, laidKinds := [.data, .pinned], laidTests := true, laidLooks := .later }
def SingleEachUptoCardSaid : Prop := Claim7.holds Tryd.pinned (.plain (OpenSpec.upto singleEachSpec)) singleEachUptoCard

/-- THE SECOND FORM's CARD OF 'inkhornlaw18.SingleTables'. -/
def singleTablesUptoCard : Claim7 := { stood := { row := singleTablesUptoRow, standIns := [], harness := (true, "9c0a5c9c1a4c6e06b878f9f5f2bf0487e66eafcf4ea658b9b26e57d0bd84b7bb"), looks := false }, kinds := [], alts := [], laidByText := true, laidKinds := [.data, .pinned], laidTests := true, laidLooks := .later }
def SingleTablesUptoCardSaid : Prop := Claim7.holds Tryd.pinned (.plain (OpenSpec.upto singleTablesSpec)) singleTablesUptoCard
end Rows
end Go.Proofs.YtkphecmdilefgaaDoor
