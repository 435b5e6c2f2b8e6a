/- A part of the proof: plain forms of functions and laws about them. -/
import Derived.Test.YtcjnppjcfkefjaaGreatTnilBl
namespace Go.Proofs.YtcjnppjcfkefjaaGreat
open Go Go.V Go.Proofs
open Go.RowKit (Below)
theorem treeNil_ev (a b : Int) : okB (callF Tryz.prog etab efns 100000 200 false 3 [.int .i64 a, .int .i64 b] emptyM) = true := by kernel_rfl
theorem treeNil_calls (a b : Int) (w : World) : Calls Tryz.prog 3 #[.int .i64 a, .int .i64 b] w fun en w' => en = .returned (.bool true) ∧ Below w.heap.size w w' :=
  true_of_okB (callE := fun _ => callF Tryz.prog etab efns 100000 200 false) (fun _ => (callF_ok etabOk emixed efnsOk 100000 200 false).1) (fun _ => treeNil_ev a b) (fun _ => .cons (.int _ _) (.cons (.int _ _) .nil)) w
end Go.Proofs.YtcjnppjcfkefjaaGreat
