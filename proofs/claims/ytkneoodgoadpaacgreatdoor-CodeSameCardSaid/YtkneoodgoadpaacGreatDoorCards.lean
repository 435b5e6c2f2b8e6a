/-
  DERIVED. GIVEN WITH THE SEED: THE CARDS: each row of YtkneoodgoadpaacGreatDoorRows.lean that lists a variable, with what it lists TIED to the program's text (the seventh form; the later family's looks); each row that meets fmt, with fmt's text TOLD by the authors' own Lean function (tested against real Go, not proved from fmt's source: count such statements apart). THE CARD IS WHAT COUNTS. Prove the row's statement (the work); the ties are given (YtkneoodgoadpaacGreatDoorTie.lean); close each card by the builder's one call (the guide's Derived/Test/ToyasCard.lean, 'card_holds'). Laid BY PROGRAM, IN A SANDBOX (cutbox-door.mjs). By AI agents, Wed Nov 11 2026. No macro, syntax, notation, axiom, sorry.
-/
import Derived.Test.YtkneoodgoadpaacGreatDoorRows
import GoSem.ClaimSeven
namespace Go.Proofs.YtkneoodgoadpaacGreatDoor
namespace Rows

/-- THE TIED CARD OF 'manystrandlaw18.CodeSame'. -/
def codeSameCard : Claim7 := { stood := { row := codeSameRow, standIns := [], harness := (true, "dc189478f6ae9be18f3347d4bbdab242589fb84cd6d320ca5edabbeca6246745"), looks := true }, kinds := [], alts := [], laidByText := true, laidKinds := [.data, .data, .data], laidTests := true, laidLooks := .later }
def CodeSameCardSaid : Prop := Claim7.holds Tryz.pinned (.plain (OpenSpec.ofChange codeSameSpec)) codeSameCard

/-- THE SECOND FORM's CARD OF 'manystrandlaw18.CodeSame'. -/
def codeSameUptoCard : Claim7 := { stood := { row := codeSameUptoRow, standIns := [], harness := (true, "dc189478f6ae9be18f3347d4bbdab242589fb84cd6d320ca5edabbeca6246745"), looks := true }, kinds := [], alts := [], laidByText := true, laidKinds := [.data, .data, .data], laidTests := true, laidLooks := .later }
def CodeSameUptoCardSaid : Prop := Claim7.holds Tryz.pinned (.plain (OpenSpec.upto codeSameSpec)) codeSameUptoCard
end Rows
end Go.Proofs.YtkneoodgoadpaacGreatDoor
