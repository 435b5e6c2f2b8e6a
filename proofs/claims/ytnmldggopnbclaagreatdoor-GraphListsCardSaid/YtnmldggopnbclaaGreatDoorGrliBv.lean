/- A part of the proof: plain forms of functions and laws about them. -/
import Derived.Test.YtnmldggopnbclaaGreatDoorGrliBu
namespace Go.V
open Go.RowKit (Below)
def okB : Option (Value × AMem) → Bool
 | some (.bool true, _) => true
 | _ => false
def emptyM : AMem := ⟨[], 0, 0, []⟩
theorem Mem.empty (w : World) : Mem w ⟨fun _ => 0, fun _ => 0, fun _ => 0, fun _ => False, fun _ => False⟩ emptyM w :=
 ⟨Below.refl _ _, fun _ h => h.elim, fun _ h => h.elim, fun _ _ h => (by cases h), fun _ _ h => (by cases h), fun _ _ _ _ h => (by cases h)⟩
theorem true_of_okB {P : Program} {callE : World → FuncId → List Value → AMem → Option (Value × AMem)} (hc : ∀ w, CallOk P w (callE w)) {f : FuncId} {us vs : List Value} (h : ∀ w, okB (callE w f us emptyM) = true) (r : ∀ ρ, LR ρ us vs) (w : World) :
  Calls P f vs.toArray w fun en w' => en = .returned (.bool true) ∧ Below w.heap.size w w' := by
 have h := h w
 unfold okB at h
 split at h
 ·rename_i m' he
  refine Calls.mono ((hc w f us emptyM _ m' he).2 _ vs w (r _) (Mem.empty w)) ?_
  rintro en w' ⟨ρ', v, ev, rv, rfl⟩
  cases rv
  exact ⟨rfl, ev.mem.x⟩
 ·cases h
end Go.V
