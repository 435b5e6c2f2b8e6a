/-
  DERIVED. GIVEN WITH THE SEED: THE CARDS: each row of YtbiamhoonhjodacGreatDoorRows.lean that lists a variable, with what it lists TIED to the program's text (the seventh form; the later family's looks); each row that meets fmt, with fmt's text TOLD by the authors' own Lean function (tested against real Go, not proved from fmt's source: count such statements apart). THE CARD IS WHAT COUNTS. Prove the row's statement (the work); the ties are given (YtbiamhoonhjodacGreatDoorTie.lean); close each card by the builder's one call (the guide's Derived/Test/ToyasCard.lean, 'card_holds'). Laid BY PROGRAM, IN A SANDBOX (cutbox-door.mjs). By AI agents, Wed Nov 11 2026. No macro, syntax, notation, axiom, sorry.
-/
import Derived.Test.YtbiamhoonhjodacGreatDoorRows
import GoSem.ClaimSeven
namespace Go.Proofs.YtbiamhoonhjodacGreatDoor
namespace Rows

/-- THE TIED CARD OF 'manystrandlaw05.GraphEqual'. -/
def graphEqualCard : Claim7 := { stood := { row := graphEqualRow, standIns := [], harness := (true, "a345f4bc284574f14bb40d30493b22c2e1be2addccd65c4698a23ab11259307f"), looks := true }, kinds := [], alts := [], laidByText := true, laidKinds := [.data, .data, .data, .data, .sentinel, .sentinel, .pinned, .pinned, .pinned, .pinned, .pinned, .pinned], laidTests := true, laidLooks := .later }
def GraphEqualCardSaid : Prop := Claim7.holds Tryz.pinned (.plain (OpenSpec.ofChange graphEqualSpec)) graphEqualCard

/-- THE SECOND FORM's CARD OF 'manystrandlaw05.GraphEqual'. -/
def graphEqualUptoCard : Claim7 := { stood := { row := graphEqualUptoRow, standIns := [], harness := (true, "a345f4bc284574f14bb40d30493b22c2e1be2addccd65c4698a23ab11259307f"), looks := true }, kinds := [], alts := [], laidByText := true, laidKinds := [.data, .data, .data, .data, .sentinel, .sentinel, .pinned, .pinned, .pinned, .pinned, .pinned, .pinned], laidTests := true, laidLooks := .later }
def GraphEqualUptoCardSaid : Prop := Claim7.holds Tryz.pinned (.plain (OpenSpec.upto graphEqualSpec)) graphEqualUptoCard
end Rows
end Go.Proofs.YtbiamhoonhjodacGreatDoor
