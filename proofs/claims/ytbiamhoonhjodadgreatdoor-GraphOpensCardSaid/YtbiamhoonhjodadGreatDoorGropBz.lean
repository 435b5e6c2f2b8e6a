/- A part of the proof: plain forms of functions and laws about them. -/
import Derived.Test.YtbiamhoonhjodadGreatDoorGropBy
namespace Go.Proofs.YtbiamhoonhjodadGreatDoor
open Go Go.V Go.Proofs Go.V.Gr
open Go.RowKit (Below)
theorem reach_lt : reachBytes ≤ 140737488355328 := by decide
theorem listv2 {cs : List Value} (h : cs.length = 2) : ∃ v0 v1, cs = [v0, v1] := by
 match cs, h with
 | [v0, v1], _ => exact ⟨v0, v1, rfl⟩
theorem listv5 {cs : List Value} (h : cs.length = 5) : ∃ v0 v1 v2 v3 v4, cs = [v0, v1, v2, v3, v4] := by
 match cs, h with
 | [v0, v1, v2, v3, v4], _ => exact ⟨v0, v1, v2, v3, v4, rfl⟩
def RNdZ (w : World) (f : Cells) (x : Nd) : Prop := RNd w f x ∧ x.fs.length ≤ 1000000000000000 ∧ x.ks.length ≤ 1000000000000000
section
variable {H : Type} {enc : TypeId × Value → H} {w : World}
theorem rd_ft (f : Nat → Option Value) (cs : List Value) (hl : cs.length = 2) (hf : ∀ j, j < 2 → f j = cs[j]?) (h : Rz enc Tryz.prog w 37 cs) : ∃ x, RFt w f x := by
 obtain ⟨v0, v1, rfl⟩ := listv2 hl
 have f0 : Rz enc Tryz.prog w 3 [v0] := Rz.fld Tryz.underlying37 h 0 rfl (n := 1) (by kernel_rfl)
 have f1 : Rz enc Tryz.prog w 9 [v1] := Rz.fld Tryz.underlying37 h 1 rfl (n := 1) (by kernel_rfl)
 obtain ⟨n, e1, _⟩ := f0.int Tryz.underlying3
 obtain ⟨s, e0, hs⟩ := f1.string Tryz.underlying9
 cases e0; cases e1
 exact ⟨(n, s), hf 0 (by omega), hf 1 (by omega), hs⟩
theorem rd_int (f : Nat → Option Value) (cs : List Value) (hl : cs.length = 1) (hf : ∀ j, j < 1 → f j = cs[j]?) (h : Rz enc Tryz.prog w 3 cs) : ∃ x, RInt w f x := by
 obtain ⟨n, rfl, _⟩ := h.int Tryz.underlying3
 exact ⟨n, hf 0 (by omega)⟩
theorem rd_nd (f : Nat → Option Value) (cs : List Value) (hl : cs.length = 5) (hf : ∀ j, j < 5 → f j = cs[j]?) (h : Rz enc Tryz.prog w 30 cs) : ∃ x, RNdZ w f x := by
 obtain ⟨v0, v1, v2, v3, v4, rfl⟩ := listv5 hl
 have f0 : Rz enc Tryz.prog w 9 [v0] := Rz.fld Tryz.underlying30 h 0 rfl (n := 1) (by kernel_rfl)
 have f1 : Rz enc Tryz.prog w 3 [v1] := Rz.fld Tryz.underlying30 h 1 rfl (n := 1) (by kernel_rfl)
 have f2 : Rz enc Tryz.prog w 9 [v2] := Rz.fld Tryz.underlying30 h 2 rfl (n := 1) (by kernel_rfl)
 have f3 : Rz enc Tryz.prog w 27 [v3] := Rz.fld Tryz.underlying30 h 3 rfl (n := 1) (by kernel_rfl)
 have f4 : Rz enc Tryz.prog w 28 [v4] := Rz.fld Tryz.underlying30 h 4 rfl (n := 1) (by kernel_rfl)
 obtain ⟨s0, e0, m0⟩ := f0.string Tryz.underlying9
 obtain ⟨n1, e1, m1⟩ := f1.int Tryz.underlying3
 obtain ⟨s2, e2, m2⟩ := f2.string Tryz.underlying9
 obtain ⟨a3, l3, c3, x3, e3, r3, k3, z3, _⟩ := f3.slice (e := 37) Tryz.underlying27 (sz := 2) (by kernel_rfl) (by omega) rd_ft
 obtain ⟨a4, l4, c4, x4, e4, r4, k4, z4, _⟩ := f4.slice (e := 3) Tryz.underlying28 (sz := 1) (by kernel_rfl) (by omega) rd_int
 cases e0; cases e1; cases e2; cases e3; cases e4
 have b3 : Tryz.prog.bytesOf 37 = 24 := by kernel_rfl
 have b4 : Tryz.prog.bytesOf 3 = 8 := by kernel_rfl
 rw [b3] at z3; rw [b4] at z4
 have hr := reach_lt
 have e3 := r3.1; have e4 := r4.1
 exact ⟨⟨s0, n1, s2, x3, x4⟩, ⟨hf 0 (by omega), hf 1 (by omega), hf 2 (by omega), m0, m2, ⟨a3, l3, c3, hf 3 (by omega), r3, k3⟩, ⟨a4, l4, c4, hf 4 (by omega), r4, k4⟩, m1⟩, by show x3.length ≤ _; omega, by show x4.length ≤ _; omega⟩
theorem rd_graph {cs : List Value} (h : Rz enc Tryz.prog w 24 cs) : ∃ r a l c xs, cs = [.int .i64 r, .slice a l c] ∧ RNds w a l xs ∧ Szd xs := by
 have hl : cs.length = 2 := by rw [Rz.len Tryz.underlying24 h]; kernel_rfl
 obtain ⟨v0, v1, rfl⟩ := listv2 hl
 have f0 : Rz enc Tryz.prog w 3 [v0] := Rz.fld Tryz.underlying24 h 0 rfl (n := 1) (by kernel_rfl)
 have f1 : Rz enc Tryz.prog w 22 [v1] := Rz.fld Tryz.underlying24 h 1 rfl (n := 1) (by kernel_rfl)
 obtain ⟨n0, e0, _⟩ := f0.int Tryz.underlying3
 obtain ⟨a, l, c, xs, e1, r1, k1, _⟩ := f1.slice (e := 30) Tryz.underlying22 (sz := 5) (by kernel_rfl) (by omega) rd_nd
 cases e0; cases e1
 refine ⟨n0, a, l, c, xs, rfl, ⟨⟨r1.1, r1.2.imp id fun ⟨b, o, e, h⟩ => ⟨b, o, e, fun i x hx => (h i x hx).1⟩⟩, k1⟩, fun x hx => ?_⟩
 rcases r1.2 with rfl | ⟨b, o, e, h⟩
 ·cases hx
 ·obtain ⟨i, hi⟩ := List.getElem?_of_mem hx
  exact (h i x hi).2
end
end Go.Proofs.YtbiamhoonhjodadGreatDoor
