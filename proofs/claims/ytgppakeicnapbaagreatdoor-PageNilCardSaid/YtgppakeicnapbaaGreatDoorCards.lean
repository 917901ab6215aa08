/-
  DERIVED. GIVEN WITH THE SEED: THE CARDS: each row of YtgppakeicnapbaaGreatDoorRows.lean that lists a variable, with what it lists TIED to the program's text (the seventh form; the later family's looks); each row that meets fmt, with fmt's text TOLD by the authors' own Lean function (tested against real Go, not proved from fmt's source: count such statements apart). THE CARD IS WHAT COUNTS. Prove the row's statement (the work); the ties are given (YtgppakeicnapbaaGreatDoorTie.lean); close each card by the builder's one call (the guide's Derived/Test/ToyasCard.lean, 'card_holds'). Laid BY PROGRAM, IN A SANDBOX (cutbox-door.mjs). By AI agents, Wed Nov 11 2026. No macro, syntax, notation, axiom, sorry.
-/
import Derived.Test.YtgppakeicnapbaaGreatDoorRows
import GoSem.ClaimSeven
namespace Go.Proofs.YtgppakeicnapbaaGreatDoor
namespace Rows

/-- THE TIED CARD OF 'blazonlaw21.PageNil'. -/
def pageNilCard : Claim7 := { stood := { row := pageNilRow, standIns := [], harness := (true, "41440004cb784b628781c96cc811eb93d491be8f2e0fb7fe934f19dd35159206"), looks := true }, kinds := [], alts := [], laidByText := true, laidKinds := [.data, .data, .data, .data, .handle, .sentinel, .sentinel, .pinned], laidTests := true, laidLooks := .later }
def PageNilCardSaid : Prop := Claim7.holds Tryz.pinned (.plain (OpenSpec.ofChange pageNilSpec)) pageNilCard

/-- THE SECOND FORM's CARD OF 'blazonlaw21.PageNil'. -/
def pageNilUptoCard : Claim7 := { stood := { row := pageNilUptoRow, standIns := [], harness := (true, "41440004cb784b628781c96cc811eb93d491be8f2e0fb7fe934f19dd35159206"), looks := true }, kinds := [], alts := [], laidByText := true, laidKinds := [.data, .data, .data, .data, .handle, .sentinel, .sentinel, .pinned], laidTests := true, laidLooks := .later }
def PageNilUptoCardSaid : Prop := Claim7.holds Tryz.pinned (.plain (OpenSpec.upto pageNilSpec)) pageNilUptoCard
end Rows
end Go.Proofs.YtgppakeicnapbaaGreatDoor
