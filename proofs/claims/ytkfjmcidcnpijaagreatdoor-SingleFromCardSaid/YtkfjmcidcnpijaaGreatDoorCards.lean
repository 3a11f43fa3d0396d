/-
  DERIVED. GIVEN WITH THE SEED: THE CARDS: each row of YtkfjmcidcnpijaaGreatDoorRows.lean that lists a variable, with what it lists TIED to the program's text (the seventh form; the later family's looks); each row that meets fmt, with fmt's text TOLD by the authors' own Lean function (tested against real Go, not proved from fmt's source: count such statements apart). THE CARD IS WHAT COUNTS. Prove the row's statement (the work); the ties are given (YtkfjmcidcnpijaaGreatDoorTie.lean); close each card by the builder's one call (the guide's Derived/Test/ToyasCard.lean, 'card_holds'). Laid BY PROGRAM, IN A SANDBOX (cutbox-door.mjs). By AI agents, Wed Nov 11 2026. No macro, syntax, notation, axiom, sorry.
-/
import Derived.Test.YtkfjmcidcnpijaaGreatDoorRows
import GoSem.ClaimSeven
namespace Go.Proofs.YtkfjmcidcnpijaaGreatDoor
namespace Rows

/-- THE TIED CARD OF 'inkhornlaw18.SingleNil'. -/
def singleNilCard : Claim7 := { stood := { row := singleNilRow, standIns := [], harness := (true, "6f025dd9b889cab84d81cdf37c1814e6f8438d6822b1635bcb857721b8bd3248"), looks := false }, kinds := [], alts := [], laidByText := true, laidKinds := [.data, .pinned, .pinned], laidTests := true, laidLooks := .later }
def SingleNilCardSaid : Prop := Claim7.holds Tryz.pinned (.plain (OpenSpec.ofChange singleNilSpec)) singleNilCard

/-- THE TIED CARD OF 'inkhornlaw18.SingleFrom'. -/
def singleFromCard : Claim7 := { stood := { row := singleFromRow, standIns := [], harness := (true, "6f025dd9b889cab84d81cdf37c1814e6f8438d6822b1635bcb857721b8bd3248"), looks := false }, kinds := [], alts := [], laidByText := true, laidKinds := [.data, .data, .data, .data, .pinned, .pinned], laidTests := true, laidLooks := .later }
def SingleFromCardSaid : Prop := Claim7.holds Tryz.pinned (.plain (OpenSpec.ofChange singleFromSpec)) singleFromCard

/-- THE SECOND FORM's CARD OF 'inkhornlaw18.SingleNil'. -/
def singleNilUptoCard : Claim7 := { stood := { row := singleNilUptoRow, standIns := [], harness := (true, "6f025dd9b889cab84d81cdf37c1814e6f8438d6822b1635bcb857721b8bd3248"), looks := false }, kinds := [], alts := [], laidByText := true, laidKinds := [.data, .pinned, .pinned], laidTests := true, laidLooks := .later }
def SingleNilUptoCardSaid : Prop := Claim7.holds Tryz.pinned (.plain (OpenSpec.upto singleNilSpec)) singleNilUptoCard

/-- THE SECOND FORM's CARD OF 'inkhornlaw18.SingleFrom'. -/
def singleFromUptoCard : Claim7 := { stood := { row := singleFromUptoRow, standIns := [], harness := (true, "6f025dd9b889cab84d81cdf37c1814e6f8438d6822b1635bcb857721b8bd3248"), looks := false }, kinds := [], alts := [], laidByText := true, laidKinds := [.data, .data, .data, .data, .pinned, .pinned], laidTests := true, laidLooks := .later }
def SingleFromUptoCardSaid : Prop := Claim7.holds Tryz.pinned (.plain (OpenSpec.upto singleFromSpec)) singleFromUptoCard
end Rows
end Go.Proofs.YtkfjmcidcnpijaaGreatDoor
