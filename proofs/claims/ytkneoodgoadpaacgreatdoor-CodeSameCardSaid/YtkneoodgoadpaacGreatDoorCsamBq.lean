/- A part of the proof: plain forms of functions and laws about them. -/
import Derived.Test.YtkneoodgoadpaacGreatDoorCsamBp
import Derived.SizedLaws
namespace Go.Proofs.YtkneoodgoadpaacGreatDoor
open Go Go.V Go.Proofs
open Go.RowKit (Below)
theorem list1 {cs : List Value} (h : cs.length = 1) : ∃ v0, cs = [v0] := by
  match cs, h with
  | [v0], _ => exact ⟨v0, rfl⟩
theorem list2 {cs : List Value} (h : cs.length = 2) : ∃ v0 v1, cs = [v0, v1] := by
  match cs, h with
  | [v0, v1], _ => exact ⟨v0, v1, rfl⟩
theorem list4 {cs : List Value} (h : cs.length = 4) : ∃ v0 v1 v2 v3, cs = [v0, v1, v2, v3] := by
  match cs, h with
  | [v0, v1, v2, v3], _ => exact ⟨v0, v1, v2, v3, rfl⟩
theorem list11 {cs : List Value} (h : cs.length = 11) : ∃ v0 v1 v2 v3 v4 v5 v6 v7 v8 v9 v10, cs = [v0, v1, v2, v3, v4, v5, v6, v7, v8, v9, v10] := by
  match cs, h with
  | [v0, v1, v2, v3, v4, v5, v6, v7, v8, v9, v10], _ => exact ⟨v0, v1, v2, v3, v4, v5, v6, v7, v8, v9, v10, rfl⟩
section
variable {H : Type} {enc : TypeId × Value → H} {w : World}
theorem Rd.fld {P : Program} {t : TypeId} {fs : Array Field} {cs : List Value} (ht : P.underlying t = some (.struct fs)) (h : Rd enc P w t cs) (i : Nat) {f : Field} (hf : fs[i]? = some f) {n : Nat} (hn : P.cellsOf f.type = n) : Rd enc P w f.type ((cs.drop f.offset).take n) := by
  have := (Rd.struct ht h).2 i f hf
  rw [hn] at this; exact this
theorem vReg {cs : List Value} (hl : cs.length = 2) (h : Rd enc Tryz.prog w 32 cs) : ∃ s n, cs = [.string s, .int .i64 n] := by
  obtain ⟨v0, v1, rfl⟩ := list2 hl
  have f0 : Rd enc Tryz.prog w 9 [v0] := Rd.fld Tryz.underlying32 h 0 rfl (n := 1) (by kernel_rfl)
  have f1 : Rd enc Tryz.prog w 3 [v1] := Rd.fld Tryz.underlying32 h 1 rfl (n := 1) (by kernel_rfl)
  obtain ⟨s, e0, _⟩ := f0.string Tryz.underlying9
  obtain ⟨n, e1, _⟩ := f1.int Tryz.underlying3
  cases e0; cases e1
  exact ⟨s, n, rfl⟩
theorem vFt {cs : List Value} (hl : cs.length = 2) (h : Rd enc Tryz.prog w 39 cs) : ∃ n s, cs = [.int .i64 n, .string s] := by
  obtain ⟨v0, v1, rfl⟩ := list2 hl
  have f0 : Rd enc Tryz.prog w 3 [v0] := Rd.fld Tryz.underlying39 h 0 rfl (n := 1) (by kernel_rfl)
  have f1 : Rd enc Tryz.prog w 9 [v1] := Rd.fld Tryz.underlying39 h 1 rfl (n := 1) (by kernel_rfl)
  obtain ⟨n, e1, _⟩ := f0.int Tryz.underlying3
  obtain ⟨s, e0, _⟩ := f1.string Tryz.underlying9
  cases e0; cases e1
  exact ⟨n, s, rfl⟩
theorem rd_reg (f : Nat → Option Value) (cs : List Value) (hl : cs.length = 2) (hf : ∀ j, j < 2 → f j = cs[j]?) (h : Rd enc Tryz.prog w 32 cs) : ∃ x, RRg w f x := by
  obtain ⟨s, n, rfl⟩ := vReg hl h
  exact ⟨(s, n), hf 0 (by omega), hf 1 (by omega)⟩
theorem rd_ft (f : Nat → Option Value) (cs : List Value) (hl : cs.length = 2) (hf : ∀ j, j < 2 → f j = cs[j]?) (h : Rd enc Tryz.prog w 39 cs) : ∃ x, RFt w f x := by
  obtain ⟨s, n, rfl⟩ := vFt hl h
  exact ⟨(s, n), hf 0 (by omega), hf 1 (by omega)⟩
theorem rd_int (f : Nat → Option Value) (cs : List Value) (hl : cs.length = 1) (hf : ∀ j, j < 1 → f j = cs[j]?) (h : Rd enc Tryz.prog w 3 cs) : ∃ x, RInt w f x := by
  obtain ⟨n, rfl, _⟩ := h.int Tryz.underlying3
  exact ⟨n, hf 0 (by omega)⟩
theorem rd_ins (f : Nat → Option Value) (cs : List Value) (hl : cs.length = 11) (hf : ∀ j, j < 11 → f j = cs[j]?) (h : Rd enc Tryz.prog w 37 cs) : ∃ x, RIns w f x := by
  obtain ⟨v0, v1, v2, v3, v4, v5, v6, v7, v8, v9, v10, rfl⟩ := list11 hl
  have f0 : Rd enc Tryz.prog w 9 [v0] := Rd.fld Tryz.underlying37 h 0 rfl (n := 1) (by kernel_rfl)
  have f1 : Rd enc Tryz.prog w 9 [v1] := Rd.fld Tryz.underlying37 h 1 rfl (n := 1) (by kernel_rfl)
  have f2 : Rd enc Tryz.prog w 32 [v2, v3] := Rd.fld Tryz.underlying37 h 2 rfl (n := 2) (by kernel_rfl)
  have f3 : Rd enc Tryz.prog w 32 [v4, v5] := Rd.fld Tryz.underlying37 h 3 rfl (n := 2) (by kernel_rfl)
  have f4 : Rd enc Tryz.prog w 3 [v6] := Rd.fld Tryz.underlying37 h 4 rfl (n := 1) (by kernel_rfl)
  have f5 : Rd enc Tryz.prog w 3 [v7] := Rd.fld Tryz.underlying37 h 5 rfl (n := 1) (by kernel_rfl)
  have f6 : Rd enc Tryz.prog w 33 [v8] := Rd.fld Tryz.underlying37 h 6 rfl (n := 1) (by kernel_rfl)
  have f7 : Rd enc Tryz.prog w 34 [v9] := Rd.fld Tryz.underlying37 h 7 rfl (n := 1) (by kernel_rfl)
  have f8 : Rd enc Tryz.prog w 35 [v10] := Rd.fld Tryz.underlying37 h 8 rfl (n := 1) (by kernel_rfl)
  obtain ⟨s0, e0, _⟩ := f0.string Tryz.underlying9
  obtain ⟨s1, e1, _⟩ := f1.string Tryz.underlying9
  obtain ⟨s2, n2, e2⟩ := vReg rfl f2
  obtain ⟨s3, n3, e3⟩ := vReg rfl f3
  obtain ⟨n4, e4, _⟩ := f4.int Tryz.underlying3
  obtain ⟨n5, e5, _⟩ := f5.int Tryz.underlying3
  obtain ⟨a6, l6, c6, x6, e6, r6, m6⟩ := f6.slice (e := 32) Tryz.underlying33 (sz := 2) (by kernel_rfl) (by omega) rd_reg
  obtain ⟨a7, l7, c7, x7, e7, r7, m7⟩ := f7.slice (e := 39) Tryz.underlying34 (sz := 2) (by kernel_rfl) (by omega) rd_ft
  obtain ⟨a8, l8, c8, x8, e8, r8, m8⟩ := f8.slice (e := 3) Tryz.underlying35 (sz := 1) (by kernel_rfl) (by omega) rd_int
  cases e0; cases e1; cases e2; cases e3; cases e4; cases e5; cases e6; cases e7; cases e8
  exact ⟨⟨s0, s1, (s2, n2), (s3, n3), n4, n5, x6, x7, x8⟩, hf 0 (by omega), hf 1 (by omega), hf 2 (by omega), hf 3 (by omega), hf 4 (by omega), hf 5 (by omega), hf 6 (by omega), hf 7 (by omega), ⟨a6, l6, c6, hf 8 (by omega), r6, m6⟩, ⟨a7, l7, c7, hf 9 (by omega), r7, m7⟩, ⟨a8, l8, c8, hf 10 (by omega), r8, m8⟩⟩
theorem rd_proc (f : Nat → Option Value) (cs : List Value) (hl : cs.length = 4) (hf : ∀ j, j < 4 → f j = cs[j]?) (h : Rd enc Tryz.prog w 30 cs) : ∃ x, RPr w f x := by
  obtain ⟨v0, v1, v2, v3, rfl⟩ := list4 hl
  have f0 : Rd enc Tryz.prog w 3 [v0] := Rd.fld Tryz.underlying30 h 0 rfl (n := 1) (by kernel_rfl)
  have f1 : Rd enc Tryz.prog w 3 [v1] := Rd.fld Tryz.underlying30 h 1 rfl (n := 1) (by kernel_rfl)
  have f2 : Rd enc Tryz.prog w 3 [v2] := Rd.fld Tryz.underlying30 h 2 rfl (n := 1) (by kernel_rfl)
  have f3 : Rd enc Tryz.prog w 28 [v3] := Rd.fld Tryz.underlying30 h 3 rfl (n := 1) (by kernel_rfl)
  obtain ⟨n0, e0, _⟩ := f0.int Tryz.underlying3
  obtain ⟨n1, e1, _⟩ := f1.int Tryz.underlying3
  obtain ⟨n2, e2, _⟩ := f2.int Tryz.underlying3
  obtain ⟨a6, l6, c6, x6, e6, r6, m6⟩ := f3.slice (e := 37) Tryz.underlying28 (sz := 11) (by kernel_rfl) (by omega) rd_ins
  cases e0; cases e1; cases e2; cases e6
  exact ⟨⟨n0, n1, n2, x6⟩, hf 0 (by omega), hf 1 (by omega), hf 2 (by omega), ⟨a6, l6, c6, hf 3 (by omega), r6, m6⟩⟩
theorem rd_procs {cs : List Value} (h : Rd enc Tryz.prog w 22 cs) : ∃ a l c xs, cs = [.slice a l c] ∧ RL 4 RPr w a l xs := by
  obtain ⟨a, l, c, x, e, r⟩ := h.slice (e := 30) Tryz.underlying22 (sz := 4) (by kernel_rfl) (by omega) rd_proc
  exact ⟨a, l, c, x, e, r⟩
theorem rd_code {cs : List Value} (h : Rd enc Tryz.prog w 24 cs) : ∃ a l c xs, cs = [.slice a l c] ∧ RL 4 RPr w a l xs := by
  have hl : cs.length = 1 := by rw [(Rd.struct Tryz.underlying24 h).1]; kernel_rfl
  obtain ⟨v0, rfl⟩ := list1 hl
  exact rd_procs (cs := [v0]) (Rd.fld Tryz.underlying24 h 0 rfl (n := 1) (by kernel_rfl))
end
end Go.Proofs.YtkneoodgoadpaacGreatDoor
