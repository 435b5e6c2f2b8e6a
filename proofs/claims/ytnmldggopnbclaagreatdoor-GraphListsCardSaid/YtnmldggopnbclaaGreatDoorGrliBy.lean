/- A part of the proof: plain forms of functions and laws about them. -/
import Derived.Test.YtnmldggopnbclaaGreatDoorGrliBx
namespace Go.Proofs.YtnmldggopnbclaaGreatDoor
open Go Go.V Go.Proofs
open Go.RowKit (Below)
theorem awake_ev : okB (callN Tryz.prog etab efns knP 100000 200 false 5 [] emptyM) = true := by kernel_rfl
theorem awake_calls (w : World) : Calls Tryz.prog 5 #[] w fun en w' => en = .returned (.bool true) ∧ Below w.heap.size w w' :=
 true_of_okB (callE := fun _ => callN Tryz.prog etab efns knP 100000 200 false) (fun _ => (callN_ok etabOk emixed efnsOk knC_ok knD_ok 100000 200).1) (fun _ => awake_ev) (fun _ => .nil) w
end Go.Proofs.YtnmldggopnbclaaGreatDoor
