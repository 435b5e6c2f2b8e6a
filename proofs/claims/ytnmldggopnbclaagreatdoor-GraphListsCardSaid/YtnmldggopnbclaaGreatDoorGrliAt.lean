/- A part of the proof: plain forms of functions and laws about them. -/
import Derived.Test.YtnmldggopnbclaaGreatDoorGrliAs
import Derived.ArgAppend
namespace Go.V
open Go.RowKit (Below)
theorem MapSt.heap {K V : Type} [DecidableEq K] {enc : K → Value} {encV : V → Value} {z : V} {w w' : World} {r : Nat} {f : K → V} {a : K} {st : Nat} (h : MapSt enc encV z w r f a st) (k : w'.heap[r]? = w.heap[r]?) : MapSt enc encV z w' r f a st := by
 obtain ⟨m, bs, c, i, h1, h2, h3⟩ := h
 exact ⟨m, bs, c, i, h1.heap k, h2, h3⟩
theorem MapSt.lt {K V : Type} [DecidableEq K] {enc : K → Value} {encV : V → Value} {z : V} {w : World} {r : Nat} {f : K → V} {a : K} {st : Nat} (h : MapSt enc encV z w r f a st) : r < w.heap.size := by
 obtain ⟨m, bs, c, i, ⟨⟨es, he, _⟩, _⟩, _⟩ := h
 exact (Array.getElem?_eq_some_iff.1 he).1
section
variable {ρ : Type} {own own' : OwnM ρ} {r r2 : ρ} {w w' : World} {e : TypeId} {s : SL} {xs : List Int}
end
end Go.V
