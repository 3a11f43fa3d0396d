/-
  DERIVED. GIVEN WITH THE SEED: THE CARDS: each row of YtopaoejapnakiaaGreatDoorRows.lean that lists a variable, with what it lists TIED to the program's text (the seventh form; the later family's looks); each row that meets fmt, with fmt's text TOLD by the authors' own Lean function (tested against real Go, not proved from fmt's source: count such statements apart). THE CARD IS WHAT COUNTS. Prove the row's statement (the work); the ties are given (YtopaoejapnakiaaGreatDoorTie.lean); close each card by the builder's one call (the guide's Derived/Test/ToyasCard.lean, 'card_holds'). Laid BY PROGRAM, IN A SANDBOX (cutbox-door.mjs). By AI agents, Wed Nov 11 2026. No macro, syntax, notation, axiom, sorry.
-/
import Derived.Test.YtopaoejapnakiaaGreatDoorRows
import GoSem.ClaimSeven
namespace Go.Proofs.YtopaoejapnakiaaGreatDoor
namespace Rows

/-- THE TIED CARD OF 'inkhornlaw13.MapfileReads'. -/
def mapfileReadsCard : Claim7 := { stood := { row := mapfileReadsRow, standIns := [], harness := (true, "5ee15dd064a0cb91967a8f3465b5ae978dc56f18ef65e5f6a8a11407be137679"), looks := true }, kinds := [], alts := [], laidByText := true, laidKinds := [.data, .data, .data, .data, .sentinel, .sentinel, .pinned, .pinned], laidTests := true, laidLooks := .later }
def MapfileReadsCardSaid : Prop := Claim7.holds Tryz.pinned (.plain (OpenSpec.ofChange mapfileReadsSpec)) mapfileReadsCard

/-- THE TIED CARD OF 'inkhornlaw13.MapfileJoins'. -/
def mapfileJoinsCard : Claim7 := { stood := { row := mapfileJoinsRow, standIns := [], harness := (true, "5ee15dd064a0cb91967a8f3465b5ae978dc56f18ef65e5f6a8a11407be137679"), looks := true }, kinds := [], alts := [], laidByText := true, laidKinds := [.data, .data, .data, .data, .sentinel, .sentinel, .pinned, .pinned], laidTests := true, laidLooks := .later }
def MapfileJoinsCardSaid : Prop := Claim7.holds Tryz.pinned (.plain (OpenSpec.ofChange mapfileJoinsSpec)) mapfileJoinsCard

/-- THE TIED CARD OF 'inkhornlaw13.MapfileFirst'. -/
def mapfileFirstCard : Claim7 := { stood := { row := mapfileFirstRow, standIns := [], harness := (true, "5ee15dd064a0cb91967a8f3465b5ae978dc56f18ef65e5f6a8a11407be137679"), looks := true }, kinds := [], alts := [], laidByText := true, laidKinds := [.data, .data, .data, .data, .sentinel, .sentinel, .pinned, .pinned], laidTests := true, laidLooks := .later }
def MapfileFirstCardSaid : Prop := Claim7.holds Tryz.pinned (.plain (OpenSpec.ofChange mapfileFirstSpec)) mapfileFirstCard

/-- THE TIED CARD OF 'inkhornlaw13.MapfilePicks'. -/
def mapfilePicksCard : Claim7 := { stood := { row := mapfilePicksRow, standIns := [], harness := (true, "5ee15dd064a0cb91967a8f3465b5ae978dc56f18ef65e5f6a8a11407be137679"), looks := true }, kinds := [], alts := [], laidByText := true, laidKinds := [.data, .data, .data, .data, .sentinel, .sentinel, .pinned, .pinned], laidTests := true, laidLooks := .later }
def MapfilePicksCardSaid : Prop := Claim7.holds Tryz.pinned (.plain (OpenSpec.ofChange mapfilePicksSpec)) mapfilePicksCard

/-- THE TIED CARD OF 'inkhornlaw13.MapfileBack'. -/
def mapfileBackCard : Claim7 := { stood := { row := mapfileBackRow, standIns := [], harness := (true, "5ee15dd064a0cb91967a8f3465b5ae978dc56f18ef65e5f6a8a11407be137679"), looks := true }, kinds := [], alts := [], laidByText := true, laidKinds := [.data, .data, .data, .data, .sentinel, .sentinel, .pinned, .pinned], laidTests := true, laidLooks := .later }
def MapfileBackCardSaid : Prop := Claim7.holds Tryz.pinned (.plain (OpenSpec.ofChange mapfileBackSpec)) mapfileBackCard

/-- THE TIED CARD OF 'inkhornlaw13.MapfileHex'. -/
def mapfileHexCard : Claim7 := { stood := { row := mapfileHexRow, standIns := [], harness := (true, "5ee15dd064a0cb91967a8f3465b5ae978dc56f18ef65e5f6a8a11407be137679"), looks := true }, kinds := [], alts := [], laidByText := true, laidKinds := [.data, .data, .data, .data, .sentinel, .sentinel, .pinned, .pinned], laidTests := true, laidLooks := .later }
def MapfileHexCardSaid : Prop := Claim7.holds Tryz.pinned (.plain (OpenSpec.ofChange mapfileHexSpec)) mapfileHexCard

/-- THE TIED CARD OF 'inkhornlaw13.MapfilePrints'. -/
def mapfilePrintsCard : Claim7 := { stood := { row := mapfilePrintsRow, standIns := [], harness := (true, "5ee15dd064a0cb91967a8f3465b5ae978dc56f18ef65e5f6a8a11407be137679"), looks := true }, kinds := [], alts := [], laidByText := true, laidKinds := [.data, .data, .data, .data, .sentinel, .sentinel, .pinned, .pinned], laidTests := true, laidLooks := .later }
def MapfilePrintsCardSaid : Prop := Claim7.holds Tryz.pinned (.plain (OpenSpec.ofChange mapfilePrintsSpec)) mapfilePrintsCard

/-- THE SECOND FORM's CARD OF 'inkhornlaw13.MapfileReads'. -/
def mapfileReadsUptoCard : Claim7 := { stood := { row := mapfileReadsUptoRow, standIns := [], harness := (true, "5ee15dd064a0cb91967a8f3465b5ae978dc56f18ef65e5f6a8a11407be137679"), looks := true }, kinds := [], alts := [], laidByText := true, laidKinds := [.data, .data, .data, .data, .sentinel, .sentinel, .pinned, .pinned], laidTests := true, laidLooks := .later }
def MapfileReadsUptoCardSaid : Prop := Claim7.holds Tryz.pinned (.plain (OpenSpec.upto mapfileReadsSpec)) mapfileReadsUptoCard

/-- THE SECOND FORM's CARD OF 'inkhornlaw13.MapfileJoins'. -/
def mapfileJoinsUptoCard : Claim7 := { stood := { row := mapfileJoinsUptoRow, standIns := [], harness := (true, "5ee15dd064a0cb91967a8f3465b5ae978dc56f18ef65e5f6a8a11407be137679"), looks := true }, kinds := [], alts := [], laidByText := true, laidKinds := [.data, .data, .data, .data, .sentinel, .sentinel, .pinned, .pinned], laidTests := true, laidLooks := .later }
def MapfileJoinsUptoCardSaid : Prop := Claim7.holds Tryz.pinned (.plain (OpenSpec.upto mapfileJoinsSpec)) mapfileJoinsUptoCard

/-- THE SECOND FORM's CARD OF 'inkhornlaw13.MapfileFirst'. -/
def mapfileFirstUptoCard : Claim7 := { stood := { row := mapfileFirstUptoRow, standIns := [], harness := (true, "5ee15dd064a0cb91967a8f3465b5ae978dc56f18ef65e5f6a8a11407be137679"), looks := true }, kinds := [], alts := [], laidByText := true, laidKinds := [.data, .data, .data, .data, .sentinel, .sentinel, .pinned, .pinned], laidTests := true, laidLooks := .later }
def MapfileFirstUptoCardSaid : Prop := Claim7.holds Tryz.pinned (.plain (OpenSpec.upto mapfileFirstSpec)) mapfileFirstUptoCard

/-- THE SECOND FORM's CARD OF 'inkhornlaw13.MapfilePicks'. -/
def mapfilePicksUptoCard : Claim7 := { stood := { row := mapfilePicksUptoRow, standIns := [], harness := (true, "5ee15dd064a0cb91967a8f3465b5ae978dc56f18ef65e5f6a8a11407be137679"), looks := true }, kinds := [], alts := [], laidByText := true, laidKinds := [.data, .data, .data, .data, .sentinel, .sentinel, .pinned, .pinned], laidTests := true, laidLooks := .later }
def MapfilePicksUptoCardSaid : Prop := Claim7.holds Tryz.pinned (.plain (OpenSpec.upto mapfilePicksSpec)) mapfilePicksUptoCard

/-- THE SECOND FORM's CARD OF 'inkhornlaw13.MapfileBack'. -/
def mapfileBackUptoCard : Claim7 := { stood := { row := mapfileBackUptoRow, standIns := [], harness := (true, "5ee15dd064a0cb91967a8f3465b5ae978dc56f18ef65e5f6a8a11407be137679"), looks := true }, kinds := [], alts := [], laidByText := true, laidKinds := [.data, .data, .data, .data, .sentinel, .sentinel, .pinned, .pinned], laidTests := true, laidLooks := .later }
def MapfileBackUptoCardSaid : Prop := Claim7.holds Tryz.pinned (.plain (OpenSpec.upto mapfileBackSpec)) mapfileBackUptoCard

/-- THE SECOND FORM's CARD OF 'inkhornlaw13.MapfileHex'. -/
def mapfileHexUptoCard : Claim7 := { stood := { row := mapfileHexUptoRow, standIns := [], harness := (true, "5ee15dd064a0cb91967a8f3465b5ae978dc56f18ef65e5f6a8a11407be137679"), looks := true }, kinds := [], alts := [], laidByText := true, laidKinds := [.data, .data, .data, .data, .sentinel, .sentinel, .pinned, .pinned], laidTests := true, laidLooks := .later }
def MapfileHexUptoCardSaid : Prop := Claim7.holds Tryz.pinned (.plain (OpenSpec.upto mapfileHexSpec)) mapfileHexUptoCard

/-- THE SECOND FORM's CARD OF 'inkhornlaw13.MapfilePrints'. -/
def mapfilePrintsUptoCard : Claim7 := { stood := { row := mapfilePrintsUptoRow, standIns := [], harness := (true, "5ee15dd064a0cb91967a8f3465b5ae978dc56f18ef65e5f6a8a11407be137679"), looks := true }, kinds := [], alts := [], laidByText := true, laidKinds := [.data, .data, .data, .data, .sentinel, .sentinel, .pinned, .pinned], laidTests := true, laidLooks := .later }
def MapfilePrintsUptoCardSaid : Prop := Claim7.holds Tryz.pinned (.plain (OpenSpec.upto mapfilePrintsSpec)) mapfilePrintsUptoCard
end Rows
end Go.Proofs.YtopaoejapnakiaaGreatDoor
