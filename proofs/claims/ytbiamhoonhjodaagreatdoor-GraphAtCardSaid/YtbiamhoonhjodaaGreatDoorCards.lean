/-
  DERIVED. GIVEN WITH THE SEED: THE CARDS: each row of YtbiamhoonhjodaaGreatDoorRows.lean that lists a variable, with what it lists TIED to the program's text (the seventh form; the later family's looks); each row that meets fmt, with fmt's text TOLD by the authors' own Lean function (tested against real Go, not proved from fmt's source: count such statements apart). THE CARD IS WHAT COUNTS. Prove the row's statement (the work); the ties are given (YtbiamhoonhjodaaGreatDoorTie.lean); close each card by the builder's one call (the guide's Derived/Test/ToyasCard.lean, 'card_holds'). Laid BY PROGRAM, IN A SANDBOX (cutbox-door.mjs). By AI agents, Wed Nov 11 2026. No macro, syntax, notation, axiom, sorry.
-/
import Derived.Test.YtbiamhoonhjodaaGreatDoorRows
import GoSem.ClaimSeven
namespace Go.Proofs.YtbiamhoonhjodaaGreatDoor
namespace Rows

/-- THE TIED CARD OF 'manystrandlaw05.GraphAt'. -/
def graphAtCard : Claim7 := { stood := { row := graphAtRow, standIns := [], harness := (true, "a838b401f129d2f15c44e29ce4edcbfea724ffbf41af21f796ca8a4b7c003211"), looks := true }, kinds := [], alts := [], laidByText := true, laidKinds := [.data, .data, .data, .data, .sentinel, .sentinel, .pinned, .pinned, .pinned, .pinned, .pinned, .pinned], laidTests := true, laidLooks := .later }
def GraphAtCardSaid : Prop := Claim7.holds Tryz.pinned (.plain (OpenSpec.ofChange graphAtSpec)) graphAtCard

/-- THE SECOND FORM's CARD OF 'manystrandlaw05.GraphAt'. -/
def graphAtUptoCard : Claim7 := { stood := { row := graphAtUptoRow, standIns := [], harness := (true, "a838b401f129d2f15c44e29ce4edcbfea724ffbf41af21f796ca8a4b7c003211"), looks := true }, kinds := [], alts := [], laidByText := true, laidKinds := [.data, .data, .data, .data, .sentinel, .sentinel, .pinned, .pinned, .pinned, .pinned, .pinned, .pinned], laidTests := true, laidLooks := .later }
def GraphAtUptoCardSaid : Prop := Claim7.holds Tryz.pinned (.plain (OpenSpec.upto graphAtSpec)) graphAtUptoCard
end Rows
end Go.Proofs.YtbiamhoonhjodaaGreatDoor
