/- A part of the proof: plain forms of functions and laws about them. -/
import Derived.Test.YtnmldggopnbclaaGreatDoorGrliBf
namespace Go.Proofs.YtnmldggopnbclaaGreatDoor
open Go Go.V Go.Proofs Go.V.Gr
open Go.RowKit (Below)
def IC (w : World) (a : Option Addr) (l c : Nat) (xs : List Int) : Prop := Ints w a l xs ∧ l ≤ c
section
variable {w w' : World} {a : Option Addr} {l c : Nat} {xs : List Int}
theorem IC.ext (h : IC w a l c xs) (x : Ext w w') : IC w' a l c xs := ⟨Rows.ext RInt.mono h.1 x, h.2⟩
theorem IC.len (h : IC w a l c xs) : l = xs.length := h.1.1
theorem IC.at_ (h : IC w a l c xs) (x : Ext w w') {i : Nat} (hi : i < xs.length) : ∃ b, a = some b ∧ w'.cell? (b.add (((i : Nat) : Int).toNat * 1)) = some (.int .i64 xs[i]) := by
 obtain ⟨b, o, ha, h0⟩ := (Rows.ext RInt.mono h.1 x).get hi
 exact ⟨_, ha, by rw [Int.toNat_natCast, add_mk]; exact h0⟩
theorem IC.take (h : IC w a l c xs) {k : Nat} (hk : k ≤ l) : IC w a k c (xs.take k) := by
 obtain ⟨⟨h1, h2⟩, h3⟩ := h
 refine ⟨⟨by rw [List.length_take]; omega, ?_⟩, by omega⟩
 rcases h2 with rfl | ⟨b, o, ha, hx⟩
 ·left; simp
 ·right
  exact ⟨b, o, ha, fun i x hi => by
   have hl := (List.getElem?_eq_some_iff.1 hi).1
   rw [List.length_take] at hl
   rw [List.getElem?_take_of_lt (by omega)] at hi
   exact hx i x hi⟩
theorem IC.drop (h : IC w a l c xs) {k : Nat} (hk : k ≤ l) : IC w (if c = k then a else a.map (·.add (k * 1))) (l - k) (c - k) (xs.drop k) := by
 obtain ⟨⟨h1, h2⟩, h3⟩ := h
 refine ⟨⟨by rw [List.length_drop]; omega, ?_⟩, by omega⟩
 by_cases hkl : k = l
 ·left; exact List.drop_eq_nil_of_le (by omega)
 rw [if_neg (by omega)]
 rcases h2 with rfl | ⟨b, o, ha, hx⟩
 ·left; simp
 ·right
  refine ⟨b, o + k, by rw [ha]; simp [add_mk], fun i x hi => ?_⟩
  rw [List.getElem?_drop] at hi
  have := hx (k + i) x hi
  rw [show o + k + i * 1 = o + (k + i) * 1 by omega]; exact this
theorem IC.tail {x : Int} (h : IC w a l c (x :: xs)) : IC w (if c = (1 : Int).toNat then a else a.map (·.add ((1 : Int).toNat * 1))) (l - (1 : Int).toNat) (c - (1 : Int).toNat) xs := by
 have := h.len; rw [List.length_cons] at this
 exact h.drop (k := 1) (by omega)
theorem IC.head {x : Int} (h : IC w a l c (x :: xs)) (k : Ext w w') : (0 < l) ∧ ((1 : Int).toNat ≤ l ∧ l ≤ c) ∧ ∃ b, a = some b ∧ w'.cell? (b.add ((0 : Int).toNat * 1)) = some (.int .i64 x) := by
 have hl := h.len; rw [List.length_cons] at hl
 obtain ⟨b, e1, e2⟩ := h.at_ k (i := 0) (by simp)
 exact ⟨by omega, ⟨by simp; omega, h.2⟩, b, e1, e2⟩
end
end Go.Proofs.YtnmldggopnbclaaGreatDoor
