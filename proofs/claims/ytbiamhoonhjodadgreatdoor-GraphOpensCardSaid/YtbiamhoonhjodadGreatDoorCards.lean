/-
  DERIVED. GIVEN WITH THE SEED: THE CARDS: each row of YtbiamhoonhjodadGreatDoorRows.lean that lists a variable, with what it lists TIED to the program's text (the seventh form; the later family's looks); each row that meets fmt, with fmt's text TOLD by the authors' own Lean function (tested against real Go, not proved from fmt's source: count such statements apart). THE CARD IS WHAT COUNTS. Prove the row's statement (the work); the ties are given (YtbiamhoonhjodadGreatDoorTie.lean); close each card by the builder's one call (the guide's Derived/Test/ToyasCard.lean, 'card_holds'). Laid BY PROGRAM, IN A SANDBOX (cutbox-door.mjs). By AI agents, Wed Nov 11 2026. No macro, syntax, notation, axiom, sorry.
-/
import Derived.Test.YtbiamhoonhjodadGreatDoorRows
import GoSem.ClaimSeven
namespace Go.Proofs.YtbiamhoonhjodadGreatDoor
namespace Rows

/-- THE TIED CARD OF 'manystrandlaw05.GraphOpens'. -/
def graphOpensCard : Claim7 := { stood := { row := graphOpensRow, standIns := [], harness := (true, "e63214dbee2ab94510065246f67e4af208ebd239b31c4be8cbc3f754603680ec"), looks := true }, kinds := [], alts := [], laidByText := true, laidKinds := [.data, .data, .data, .data, .sentinel, .sentinel, .pinned, .pinned, .pinned, .pinned, .pinned, .pinned], laidTests := true, laidLooks := .later }
def GraphOpensCardSaid : Prop := Claim7.holds Tryz.pinned (.plain (OpenSpec.ofChange graphOpensSpec)) graphOpensCard

/-- THE SECOND FORM's CARD OF 'manystrandlaw05.GraphOpens'. -/
def graphOpensUptoCard : Claim7 := { stood := { row := graphOpensUptoRow, standIns := [], harness := (true, "e63214dbee2ab94510065246f67e4af208ebd239b31c4be8cbc3f754603680ec"), looks := true }, kinds := [], alts := [], laidByText := true, laidKinds := [.data, .data, .data, .data, .sentinel, .sentinel, .pinned, .pinned, .pinned, .pinned, .pinned, .pinned], laidTests := true, laidLooks := .later }
def GraphOpensUptoCardSaid : Prop := Claim7.holds Tryz.pinned (.plain (OpenSpec.upto graphOpensSpec)) graphOpensUptoCard
end Rows
end Go.Proofs.YtbiamhoonhjodadGreatDoor
