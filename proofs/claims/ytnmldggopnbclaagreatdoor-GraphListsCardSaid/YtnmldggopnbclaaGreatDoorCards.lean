/-
  DERIVED. GIVEN WITH THE SEED: THE CARDS: each row of YtnmldggopnbclaaGreatDoorRows.lean that lists a variable, with what it lists TIED to the program's text (the seventh form; the later family's looks); each row that meets fmt, with fmt's text TOLD by the authors' own Lean function (tested against real Go, not proved from fmt's source: count such statements apart). THE CARD IS WHAT COUNTS. Prove the row's statement (the work); the ties are given (YtnmldggopnbclaaGreatDoorTie.lean); close each card by the builder's one call (the guide's Derived/Test/ToyasCard.lean, 'card_holds'). Laid BY PROGRAM, IN A SANDBOX (cutbox-door.mjs). By AI agents, Wed Nov 11 2026. No macro, syntax, notation, axiom, sorry.
-/
import Derived.Test.YtnmldggopnbclaaGreatDoorRows
import GoSem.ClaimSeven
namespace Go.Proofs.YtnmldggopnbclaaGreatDoor
namespace Rows

/-- THE TIED CARD OF 'manystrandlaw05.GraphLists'. -/
def graphListsCard : Claim7 := { stood := { row := graphListsRow, standIns := [], harness := (true, "71dddf1618f9d51bcc4b14012d6ecd860d40a7e1144efafd011b7d76bd66c752"), looks := true }, kinds := [], alts := [], laidByText := true, laidKinds := [.data, .data, .data, .data, .sentinel, .sentinel, .pinned, .pinned, .pinned, .pinned, .pinned, .pinned], laidTests := true, laidLooks := .later }
def GraphListsCardSaid : Prop := Claim7.holds Tryz.pinned (.plain (OpenSpec.ofChange graphListsSpec)) graphListsCard

/-- THE SECOND FORM's CARD OF 'manystrandlaw05.GraphLists'. -/
def graphListsUptoCard : Claim7 := { stood := { row := graphListsUptoRow, standIns := [], harness := (true, "71dddf1618f9d51bcc4b14012d6ecd860d40a7e1144efafd011b7d76bd66c752"), looks := true }, kinds := [], alts := [], laidByText := true, laidKinds := [.data, .data, .data, .data, .sentinel, .sentinel, .pinned, .pinned, .pinned, .pinned, .pinned, .pinned], laidTests := true, laidLooks := .later }
def GraphListsUptoCardSaid : Prop := Claim7.holds Tryz.pinned (.plain (OpenSpec.upto graphListsSpec)) graphListsUptoCard
end Rows
end Go.Proofs.YtnmldggopnbclaaGreatDoor
