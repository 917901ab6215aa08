/-
  DERIVED. GIVEN WITH THE SEED: THE CARDS: each row of YtohpjmomiphaeaaGreatDoorRows.lean that lists a variable, with what it lists TIED to the program's text (the seventh form; the later family's looks); each row that meets fmt, with fmt's text TOLD by the authors' own Lean function (tested against real Go, not proved from fmt's source: count such statements apart). THE CARD IS WHAT COUNTS. Prove the row's statement (the work); the ties are given (YtohpjmomiphaeaaGreatDoorTie.lean); close each card by the builder's one call (the guide's Derived/Test/ToyasCard.lean, 'card_holds'). Laid BY PROGRAM, IN A SANDBOX (cutbox-door.mjs). By AI agents, Wed Nov 11 2026. No macro, syntax, notation, axiom, sorry.
-/
import Derived.Test.YtohpjmomiphaeaaGreatDoorRows
import GoSem.ClaimSeven
namespace Go.Proofs.YtohpjmomiphaeaaGreatDoor
namespace Rows

/-- THE TIED CARD OF 'blazonlaw29.LinearNil'. -/
def linearNilCard : Claim7 := { stood := { row := linearNilRow, standIns := [], harness := (true, "757d4b69a7dfe9a6d894dffc4b70576925f8be3dae65fb8b07b37c6f2afbf0a2"), looks := true }, kinds := [], alts := [], laidByText := true, laidKinds := [.pinned, .data, .sentinel, .sentinel, .data, .data, .data, .handle], laidTests := true, laidLooks := .later }
def LinearNilCardSaid : Prop := Claim7.holds Tryz.pinned (.plain (OpenSpec.ofChange linearNilSpec)) linearNilCard

/-- THE SECOND FORM's CARD OF 'blazonlaw29.LinearNil'. -/
def linearNilUptoCard : Claim7 := { stood := { row := linearNilUptoRow, standIns := [], harness := (true, "757d4b69a7dfe9a6d894dffc4b70576925f8be3dae65fb8b07b37c6f2afbf0a2"), looks := true }, kinds := [], alts := [], laidByText := true, laidKinds := [.pinned, .data, .sentinel, .sentinel, .data, .data, .data, .handle], laidTests := true, laidLooks := .later }
def LinearNilUptoCardSaid : Prop := Claim7.holds Tryz.pinned (.plain (OpenSpec.upto linearNilSpec)) linearNilUptoCard
end Rows
end Go.Proofs.YtohpjmomiphaeaaGreatDoor
