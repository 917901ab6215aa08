/-
  DERIVED. GIVEN WITH THE SEED: THE CARDS: each row of YtlokfanniffkoaaGreatDoorRows.lean that lists a variable, with what it lists TIED to the program's text (the seventh form; the later family's looks); each row that meets fmt, with fmt's text TOLD by the authors' own Lean function (tested against real Go, not proved from fmt's source: count such statements apart). THE CARD IS WHAT COUNTS. Prove the row's statement (the work); the ties are given (YtlokfanniffkoaaGreatDoorTie.lean); close each card by the builder's one call (the guide's Derived/Test/ToyasCard.lean, 'card_holds'). Laid BY PROGRAM, IN A SANDBOX (cutbox-door.mjs). By AI agents, Wed Nov 11 2026. No macro, syntax, notation, axiom, sorry.
-/
import Derived.Test.YtlokfanniffkoaaGreatDoorRows
import GoSem.ClaimSeven
namespace Go.Proofs.YtlokfanniffkoaaGreatDoor
namespace Rows

/-- THE TIED CARD OF 'blazonlaw14.ElementsNil'. -/
def elementsNilCard : Claim7 := { stood := { row := elementsNilRow, standIns := [], harness := (true, "d0a05b9b90c856c52f4b1d95dea904f05b0646f9cc2f6ed59b89374ba9743d6d"), looks := true }, kinds := [], alts := [], laidByText := true, laidKinds := [.data, .data, .data, .data, .handle, .sentinel, .sentinel, .pinned], laidTests := true, laidLooks := .later }
def ElementsNilCardSaid : Prop := Claim7.holds Tryz.pinned (.plain (OpenSpec.ofChange elementsNilSpec)) elementsNilCard

/-- THE SECOND FORM's CARD OF 'blazonlaw14.ElementsNil'. -/
def elementsNilUptoCard : Claim7 := { stood := { row := elementsNilUptoRow, standIns := [], harness := (true, "d0a05b9b90c856c52f4b1d95dea904f05b0646f9cc2f6ed59b89374ba9743d6d"), looks := true }, kinds := [], alts := [], laidByText := true, laidKinds := [.data, .data, .data, .data, .handle, .sentinel, .sentinel, .pinned], laidTests := true, laidLooks := .later }
def ElementsNilUptoCardSaid : Prop := Claim7.holds Tryz.pinned (.plain (OpenSpec.upto elementsNilSpec)) elementsNilUptoCard
end Rows
end Go.Proofs.YtlokfanniffkoaaGreatDoor
