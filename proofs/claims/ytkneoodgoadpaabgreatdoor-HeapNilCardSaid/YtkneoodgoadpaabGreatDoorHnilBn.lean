/- A part of the proof: plain forms of functions and laws about them. -/
import Derived.Test.YtkneoodgoadpaabGreatDoorHnilBm
namespace Go.Proofs.YtkneoodgoadpaabGreatDoor
open Go Go.V Go.Proofs
open Go.RowKit (Below)
theorem heapNil_ev (a : Int) : okB (callK Tryz.prog etab efns knH 100000 200 false 3 [.int .i64 a] emptyM) = true := by kernel_rfl
theorem heapNil_calls (a : Int) (w : World) : Calls Tryz.prog 3 #[.int .i64 a] w fun en w' => en = .returned (.bool true) ∧ Below w.heap.size w w' :=
  true_of_okB (callE := fun _ => callK Tryz.prog etab efns knH 100000 200 false) (fun _ => (callK_ok etabOk emixed efnsOk knH_ok 100000 200 false).1) (fun _ => heapNil_ev a) (fun _ => .cons (.int _ _) .nil) w
end Go.Proofs.YtkneoodgoadpaabGreatDoor
