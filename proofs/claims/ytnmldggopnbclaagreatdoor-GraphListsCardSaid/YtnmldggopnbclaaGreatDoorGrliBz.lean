/- A part of the proof: plain forms of functions and laws about them. -/
import Derived.Test.YtnmldggopnbclaaGreatDoorGrliBy
namespace Go.Proofs.YtnmldggopnbclaaGreatDoor
open Go Go.V Go.Proofs
open Go.RowKit (Below)
theorem awakeK {w0 w : World} (x : Ext w0 w) : Calls Tryz.prog 5 #[] w fun e w2 => ∃ p, e = .returned (.bool p) ∧ (p = true ∧ Ext w0 w2) := by
 refine (awake_calls w).mono ?_
 rintro e w2 ⟨rfl, h⟩
 exact ⟨_, rfl, rfl, x.trans h⟩
end Go.Proofs.YtnmldggopnbclaaGreatDoor
