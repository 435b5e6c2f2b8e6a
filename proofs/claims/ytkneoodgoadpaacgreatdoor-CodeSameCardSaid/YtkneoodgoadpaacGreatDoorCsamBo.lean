/- A part of the proof: plain forms of functions and laws about them. -/
import Derived.Test.YtkneoodgoadpaacGreatDoorCsamBn
namespace Go.Proofs.YtkneoodgoadpaacGreatDoor
open Go Go.V Go.Proofs
open Go.RowKit (Below)
/-! slices.Equal[[]manystrand/api.Reg,manystrand/api.Reg] -/
def N15 (a1 : Option Addr) (l1 : Nat) (_c1 : Nat) (a2 : Option Addr) (l2 : Nat) (_c2 : Nat) (K : Bool → World → Prop) (w : World) : Prop :=
 BoolK (((l1 : Nat) : Int) != (l2 : Nat))
 (K false w)
 (∃ (I3 : Int → World → Prop) (μ4 : Int → World → Nat),
 (I3 0 w ∧ True) ∧
 ∀ (w5 : World) (x6 : Int), I3 x6 w5 →
 BoolK (decide ((x6 : Int) < (l1 : Nat)))
 (DrewK w5 fun w7 =>
 (0 ≤ (x6 : Int) ∧ (x6 : Int) < (l1 : Nat)) ∧
 AddrK a1 fun b8 =>
 ∃ (s9 : ByteArray), w7.cell? ((b8.add ((x6 : Int).toNat * 2)).add 0) = some (.string s9) ∧
 (∃ (x10 : Int), w7.cell? ((b8.add ((x6 : Int).toNat * 2)).add 1) = some (.int .i64 x10) ∧
 ((0 ≤ (x6 : Int) ∧ (x6 : Int) < (l2 : Nat)) ∧
 AddrK a2 fun b11 =>
 ∃ (s12 : ByteArray), w7.cell? ((b11.add ((x6 : Int).toNat * 2)).add 0) = some (.string s12) ∧
 (∃ (x13 : Int), w7.cell? ((b11.add ((x6 : Int).toNat * 2)).add 1) = some (.int .i64 x13) ∧
 (BoolK (!(((s9 : ByteArray) == s12) && (((x10 : Int) == x13) && (true))))
 (K false w7)
 (I3 (IntKind.wrap .i64 (x6 + 1)) w7 ∧ μ4 (IntKind.wrap .i64 (x6 + 1)) w7 < μ4 x6 w5))))))
 (K true w5))
def ann15 : Ann := (.two .nil (.two (.two .nil (.two (.two .nil .nil) .nil)) (.two (.two .nil (.one (.loop [(13, (.one (.int .i64)))] [0, 1, 12] (.two .nil (.two (.two .nil .nil) (.two (.one (.two .nil (.two (.any 9 (.take 0 (.take 1 (.take 2 (.take 3 (.take 4 (.take 5 (.take 6 (.take 7 (.take 8 .done)))))))))) (.two (.two .nil .nil) .nil)))) .nil)))))) (.two .nil .nil))))
noncomputable def code15 : Code := match Tryz.f15.body with | some c => c | none => .skip
theorem wp15 (a1 : Option Addr) (l1 : Nat) (c1 : Nat) (a2 : Option Addr) (l2 : Nat) (c2 : Nat) (K : Bool → World → Prop) (w : World) : WP Tryz.prog tab code15 ann15 (fnQ tab Tryz.f15.results.toList [(.one .bool)] K) (argE 0 [(.slice a1 l1 c1), (.slice a2 l2 c2)]) w = N15 a1 l1 c1 a2 l2 c2 K w := by kernel_rfl
theorem calls15 (a1 : Option Addr) (l1 : Nat) (c1 : Nat) (a2 : Option Addr) (l2 : Nat) (c2 : Nat) (K : Bool → World → Prop) (w : World) (h : N15 a1 l1 c1 a2 l2 c2 K w) : Calls Tryz.prog 15 #[(.slice a1 l1 c1), (.slice a2 l2 c2)] w fun en w' => ∃ (p14 : Bool), en = .returned (.bool p14) ∧ K p14 w' :=
 have e : (fun en w' => ExShs [(.one .bool)] fun vs => en = .returned (tupled vs) ∧ ap [(.one .bool)] K vs fun p => p w') = (fun (en : Ending) (w' : World) => ∃ (p14 : Bool), en = .returned (.bool p14) ∧ K p14 w') := by kernel_rfl
 e ▸ fn_sound tabOk mixed Tryz.func15 (by kernel_rfl : Tryz.f15.body = some code15) ann15 [(.slice a1 l1 c1), (.slice a2 l2 c2)] [(.one .bool)] K w (by kernel_rfl) ((wp15 a1 l1 c1 a2 l2 c2 K w).symm ▸ h)
end Go.Proofs.YtkneoodgoadpaacGreatDoor

namespace Go.Proofs.YtkneoodgoadpaacGreatDoor
open Go Go.V Go.Proofs
open Go.RowKit (Below)
/-! slices.Equal[[]manystrand/api.Feat,manystrand/api.Feat] -/
def N16 (a1 : Option Addr) (l1 : Nat) (_c1 : Nat) (a2 : Option Addr) (l2 : Nat) (_c2 : Nat) (K : Bool → World → Prop) (w : World) : Prop :=
 BoolK (((l1 : Nat) : Int) != (l2 : Nat))
 (K false w)
 (∃ (I3 : Int → World → Prop) (μ4 : Int → World → Nat),
 (I3 0 w ∧ True) ∧
 ∀ (w5 : World) (x6 : Int), I3 x6 w5 →
 BoolK (decide ((x6 : Int) < (l1 : Nat)))
 (DrewK w5 fun w7 =>
 (0 ≤ (x6 : Int) ∧ (x6 : Int) < (l1 : Nat)) ∧
 AddrK a1 fun b8 =>
 ∃ (x9 : Int), w7.cell? ((b8.add ((x6 : Int).toNat * 2)).add 0) = some (.int .i64 x9) ∧
 (∃ (s10 : ByteArray), w7.cell? ((b8.add ((x6 : Int).toNat * 2)).add 1) = some (.string s10) ∧
 ((0 ≤ (x6 : Int) ∧ (x6 : Int) < (l2 : Nat)) ∧
 AddrK a2 fun b11 =>
 ∃ (x12 : Int), w7.cell? ((b11.add ((x6 : Int).toNat * 2)).add 0) = some (.int .i64 x12) ∧
 (∃ (s13 : ByteArray), w7.cell? ((b11.add ((x6 : Int).toNat * 2)).add 1) = some (.string s13) ∧
 (BoolK (!(((x9 : Int) == x12) && (((s10 : ByteArray) == s13) && (true))))
 (K false w7)
 (I3 (IntKind.wrap .i64 (x6 + 1)) w7 ∧ μ4 (IntKind.wrap .i64 (x6 + 1)) w7 < μ4 x6 w5))))))
 (K true w5))
def ann16 : Ann := (.two .nil (.two (.two .nil (.two (.two .nil .nil) .nil)) (.two (.two .nil (.one (.loop [(13, (.one (.int .i64)))] [0, 1, 12] (.two .nil (.two (.two .nil .nil) (.two (.one (.two .nil (.two (.any 9 (.take 0 (.take 1 (.take 2 (.take 3 (.take 4 (.take 5 (.take 6 (.take 7 (.take 8 .done)))))))))) (.two (.two .nil .nil) .nil)))) .nil)))))) (.two .nil .nil))))
noncomputable def code16 : Code := match Tryz.f16.body with | some c => c | none => .skip
theorem wp16 (a1 : Option Addr) (l1 : Nat) (c1 : Nat) (a2 : Option Addr) (l2 : Nat) (c2 : Nat) (K : Bool → World → Prop) (w : World) : WP Tryz.prog tab code16 ann16 (fnQ tab Tryz.f16.results.toList [(.one .bool)] K) (argE 0 [(.slice a1 l1 c1), (.slice a2 l2 c2)]) w = N16 a1 l1 c1 a2 l2 c2 K w := by kernel_rfl
theorem calls16 (a1 : Option Addr) (l1 : Nat) (c1 : Nat) (a2 : Option Addr) (l2 : Nat) (c2 : Nat) (K : Bool → World → Prop) (w : World) (h : N16 a1 l1 c1 a2 l2 c2 K w) : Calls Tryz.prog 16 #[(.slice a1 l1 c1), (.slice a2 l2 c2)] w fun en w' => ∃ (p14 : Bool), en = .returned (.bool p14) ∧ K p14 w' :=
 have e : (fun en w' => ExShs [(.one .bool)] fun vs => en = .returned (tupled vs) ∧ ap [(.one .bool)] K vs fun p => p w') = (fun (en : Ending) (w' : World) => ∃ (p14 : Bool), en = .returned (.bool p14) ∧ K p14 w') := by kernel_rfl
 e ▸ fn_sound tabOk mixed Tryz.func16 (by kernel_rfl : Tryz.f16.body = some code16) ann16 [(.slice a1 l1 c1), (.slice a2 l2 c2)] [(.one .bool)] K w (by kernel_rfl) ((wp16 a1 l1 c1 a2 l2 c2 K w).symm ▸ h)
end Go.Proofs.YtkneoodgoadpaacGreatDoor

namespace Go.Proofs.YtkneoodgoadpaacGreatDoor
open Go Go.V Go.Proofs
open Go.RowKit (Below)
/-! slices.Equal[[]int,int] -/
def N17 (a1 : Option Addr) (l1 : Nat) (_c1 : Nat) (a2 : Option Addr) (l2 : Nat) (_c2 : Nat) (K : Bool → World → Prop) (w : World) : Prop :=
 BoolK (((l1 : Nat) : Int) != (l2 : Nat))
 (K false w)
 (∃ (I3 : Int → World → Prop) (μ4 : Int → World → Nat),
 (I3 0 w ∧ True) ∧
 ∀ (w5 : World) (x6 : Int), I3 x6 w5 →
 BoolK (decide ((x6 : Int) < (l1 : Nat)))
 (DrewK w5 fun w7 =>
 (0 ≤ (x6 : Int) ∧ (x6 : Int) < (l1 : Nat)) ∧
 AddrK a1 fun b8 =>
 ∃ (x9 : Int), w7.cell? (b8.add ((x6 : Int).toNat * 1)) = some (.int .i64 x9) ∧
 ((0 ≤ (x6 : Int) ∧ (x6 : Int) < (l2 : Nat)) ∧
 AddrK a2 fun b10 =>
 ∃ (x11 : Int), w7.cell? (b10.add ((x6 : Int).toNat * 1)) = some (.int .i64 x11) ∧
 (BoolK ((x9 : Int) != x11)
 (K false w7)
 (I3 (IntKind.wrap .i64 (x6 + 1)) w7 ∧ μ4 (IntKind.wrap .i64 (x6 + 1)) w7 < μ4 x6 w5))))
 (K true w5))
def ann17 : Ann := (.two .nil (.two (.two .nil (.two (.two .nil .nil) .nil)) (.two (.two .nil (.one (.loop [(13, (.one (.int .i64)))] [0, 1, 12] (.two .nil (.two (.two .nil .nil) (.two (.one (.two .nil (.two (.any 9 (.take 0 (.take 1 (.take 2 (.take 3 (.take 4 (.take 5 (.take 6 (.take 7 (.take 8 .done)))))))))) (.two (.two .nil .nil) .nil)))) .nil)))))) (.two .nil .nil))))
noncomputable def code17 : Code := match Tryz.f17.body with | some c => c | none => .skip
theorem wp17 (a1 : Option Addr) (l1 : Nat) (c1 : Nat) (a2 : Option Addr) (l2 : Nat) (c2 : Nat) (K : Bool → World → Prop) (w : World) : WP Tryz.prog tab code17 ann17 (fnQ tab Tryz.f17.results.toList [(.one .bool)] K) (argE 0 [(.slice a1 l1 c1), (.slice a2 l2 c2)]) w = N17 a1 l1 c1 a2 l2 c2 K w := by kernel_rfl
theorem calls17 (a1 : Option Addr) (l1 : Nat) (c1 : Nat) (a2 : Option Addr) (l2 : Nat) (c2 : Nat) (K : Bool → World → Prop) (w : World) (h : N17 a1 l1 c1 a2 l2 c2 K w) : Calls Tryz.prog 17 #[(.slice a1 l1 c1), (.slice a2 l2 c2)] w fun en w' => ∃ (p12 : Bool), en = .returned (.bool p12) ∧ K p12 w' :=
 have e : (fun en w' => ExShs [(.one .bool)] fun vs => en = .returned (tupled vs) ∧ ap [(.one .bool)] K vs fun p => p w') = (fun (en : Ending) (w' : World) => ∃ (p12 : Bool), en = .returned (.bool p12) ∧ K p12 w') := by kernel_rfl
 e ▸ fn_sound tabOk mixed Tryz.func17 (by kernel_rfl : Tryz.f17.body = some code17) ann17 [(.slice a1 l1 c1), (.slice a2 l2 c2)] [(.one .bool)] K w (by kernel_rfl) ((wp17 a1 l1 c1 a2 l2 c2 K w).symm ▸ h)
end Go.Proofs.YtkneoodgoadpaacGreatDoor

namespace Go.Proofs.YtkneoodgoadpaacGreatDoor
open Go Go.V Go.Proofs
open Go.RowKit (Below)
/-! manystrand/manystrandref18.SameRegs -/
def N27 (a1 : Option Addr) (l1 : Nat) (_c1 : Nat) (a2 : Option Addr) (l2 : Nat) (_c2 : Nat) (K : Bool → World → Prop) (w : World) : Prop :=
 BoolK (((l1 : Nat) : Int) != (l2 : Nat))
 (K false w)
 (∃ (I3 : Int → World → Prop) (μ4 : Int → World → Nat),
 (I3 0 w ∧ True) ∧
 ∀ (w5 : World) (x6 : Int), I3 x6 w5 →
 BoolK (decide ((x6 : Int) < (l1 : Nat)))
 (DrewK w5 fun w7 =>
 (0 ≤ (x6 : Int) ∧ (x6 : Int) < (l1 : Nat)) ∧
 AddrK a1 fun b8 =>
 ∃ (s9 : ByteArray), w7.cell? ((b8.add ((x6 : Int).toNat * 2)).add 0) = some (.string s9) ∧
 (∃ (x10 : Int), w7.cell? ((b8.add ((x6 : Int).toNat * 2)).add 1) = some (.int .i64 x10) ∧
 ((0 ≤ (x6 : Int) ∧ (x6 : Int) < (l2 : Nat)) ∧
 AddrK a2 fun b11 =>
 ∃ (s12 : ByteArray), w7.cell? ((b11.add ((x6 : Int).toNat * 2)).add 0) = some (.string s12) ∧
 (∃ (x13 : Int), w7.cell? ((b11.add ((x6 : Int).toNat * 2)).add 1) = some (.int .i64 x13) ∧
 (BoolK (!(((s9 : ByteArray) == s12) && (((x10 : Int) == x13) && (true))))
 (K false w7)
 (I3 (IntKind.wrap .i64 (x6 + 1)) w7 ∧ μ4 (IntKind.wrap .i64 (x6 + 1)) w7 < μ4 x6 w5))))))
 (K true w5))
def ann27 : Ann := (.two .nil (.two (.two .nil (.two (.two .nil .nil) .nil)) (.two (.two .nil (.one (.loop [(5, (.one (.int .i64)))] [0, 1] (.two (.two .nil (.two .nil .nil)) (.two (.one (.two (.any 9 (.take 0 (.take 1 (.take 2 (.take 3 (.take 4 (.take 5 (.take 6 (.take 7 (.take 8 .done)))))))))) (.two (.two .nil .nil) .nil))) .nil))))) (.two .nil .nil))))
noncomputable def code27 : Code := match Tryz.f27.body with | some c => c | none => .skip
theorem wp27 (a1 : Option Addr) (l1 : Nat) (c1 : Nat) (a2 : Option Addr) (l2 : Nat) (c2 : Nat) (K : Bool → World → Prop) (w : World) : WP Tryz.prog tab code27 ann27 (fnQ tab Tryz.f27.results.toList [(.one .bool)] K) (argE 0 [(.slice a1 l1 c1), (.slice a2 l2 c2)]) w = N27 a1 l1 c1 a2 l2 c2 K w := by kernel_rfl
theorem calls27 (a1 : Option Addr) (l1 : Nat) (c1 : Nat) (a2 : Option Addr) (l2 : Nat) (c2 : Nat) (K : Bool → World → Prop) (w : World) (h : N27 a1 l1 c1 a2 l2 c2 K w) : Calls Tryz.prog 27 #[(.slice a1 l1 c1), (.slice a2 l2 c2)] w fun en w' => ∃ (p14 : Bool), en = .returned (.bool p14) ∧ K p14 w' :=
 have e : (fun en w' => ExShs [(.one .bool)] fun vs => en = .returned (tupled vs) ∧ ap [(.one .bool)] K vs fun p => p w') = (fun (en : Ending) (w' : World) => ∃ (p14 : Bool), en = .returned (.bool p14) ∧ K p14 w') := by kernel_rfl
 e ▸ fn_sound tabOk mixed Tryz.func27 (by kernel_rfl : Tryz.f27.body = some code27) ann27 [(.slice a1 l1 c1), (.slice a2 l2 c2)] [(.one .bool)] K w (by kernel_rfl) ((wp27 a1 l1 c1 a2 l2 c2 K w).symm ▸ h)
end Go.Proofs.YtkneoodgoadpaacGreatDoor

namespace Go.Proofs.YtkneoodgoadpaacGreatDoor
open Go Go.V Go.Proofs
open Go.RowKit (Below)
/-! manystrand/manystrandref11.SameFeats -/
def N28 (a1 : Option Addr) (l1 : Nat) (_c1 : Nat) (a2 : Option Addr) (l2 : Nat) (_c2 : Nat) (K : Bool → World → Prop) (w : World) : Prop :=
 BoolK (((l1 : Nat) : Int) != (l2 : Nat))
 (K false w)
 (∃ (I3 : Int → World → Prop) (μ4 : Int → World → Nat),
 (I3 0 w ∧ True) ∧
 ∀ (w5 : World) (x6 : Int), I3 x6 w5 →
 BoolK (decide ((x6 : Int) < (l1 : Nat)))
 (DrewK w5 fun w7 =>
 (0 ≤ (x6 : Int) ∧ (x6 : Int) < (l1 : Nat)) ∧
 AddrK a1 fun b8 =>
 ∃ (x9 : Int), w7.cell? ((b8.add ((x6 : Int).toNat * 2)).add 0) = some (.int .i64 x9) ∧
 (∃ (s10 : ByteArray), w7.cell? ((b8.add ((x6 : Int).toNat * 2)).add 1) = some (.string s10) ∧
 ((0 ≤ (x6 : Int) ∧ (x6 : Int) < (l2 : Nat)) ∧
 AddrK a2 fun b11 =>
 ∃ (x12 : Int), w7.cell? ((b11.add ((x6 : Int).toNat * 2)).add 0) = some (.int .i64 x12) ∧
 (∃ (s13 : ByteArray), w7.cell? ((b11.add ((x6 : Int).toNat * 2)).add 1) = some (.string s13) ∧
 (BoolK (!(((x9 : Int) == x12) && (((s10 : ByteArray) == s13) && (true))))
 (K false w7)
 (I3 (IntKind.wrap .i64 (x6 + 1)) w7 ∧ μ4 (IntKind.wrap .i64 (x6 + 1)) w7 < μ4 x6 w5))))))
 (K true w5))
def ann28 : Ann := (.two .nil (.two (.two .nil (.two (.two .nil .nil) .nil)) (.two (.two .nil (.one (.loop [(5, (.one (.int .i64)))] [0, 1] (.two (.two .nil (.two .nil .nil)) (.two (.one (.two (.any 9 (.take 0 (.take 1 (.take 2 (.take 3 (.take 4 (.take 5 (.take 6 (.take 7 (.take 8 .done)))))))))) (.two (.two .nil .nil) .nil))) .nil))))) (.two .nil .nil))))
noncomputable def code28 : Code := match Tryz.f28.body with | some c => c | none => .skip
theorem wp28 (a1 : Option Addr) (l1 : Nat) (c1 : Nat) (a2 : Option Addr) (l2 : Nat) (c2 : Nat) (K : Bool → World → Prop) (w : World) : WP Tryz.prog tab code28 ann28 (fnQ tab Tryz.f28.results.toList [(.one .bool)] K) (argE 0 [(.slice a1 l1 c1), (.slice a2 l2 c2)]) w = N28 a1 l1 c1 a2 l2 c2 K w := by kernel_rfl
theorem calls28 (a1 : Option Addr) (l1 : Nat) (c1 : Nat) (a2 : Option Addr) (l2 : Nat) (c2 : Nat) (K : Bool → World → Prop) (w : World) (h : N28 a1 l1 c1 a2 l2 c2 K w) : Calls Tryz.prog 28 #[(.slice a1 l1 c1), (.slice a2 l2 c2)] w fun en w' => ∃ (p14 : Bool), en = .returned (.bool p14) ∧ K p14 w' :=
 have e : (fun en w' => ExShs [(.one .bool)] fun vs => en = .returned (tupled vs) ∧ ap [(.one .bool)] K vs fun p => p w') = (fun (en : Ending) (w' : World) => ∃ (p14 : Bool), en = .returned (.bool p14) ∧ K p14 w') := by kernel_rfl
 e ▸ fn_sound tabOk mixed Tryz.func28 (by kernel_rfl : Tryz.f28.body = some code28) ann28 [(.slice a1 l1 c1), (.slice a2 l2 c2)] [(.one .bool)] K w (by kernel_rfl) ((wp28 a1 l1 c1 a2 l2 c2 K w).symm ▸ h)
end Go.Proofs.YtkneoodgoadpaacGreatDoor

namespace Go.Proofs.YtkneoodgoadpaacGreatDoor
open Go Go.V Go.Proofs
open Go.RowKit (Below)
/-! manystrand/manystrandref11.SameInts -/
def N29 (a1 : Option Addr) (l1 : Nat) (_c1 : Nat) (a2 : Option Addr) (l2 : Nat) (_c2 : Nat) (K : Bool → World → Prop) (w : World) : Prop :=
 BoolK (((l1 : Nat) : Int) != (l2 : Nat))
 (K false w)
 (∃ (I3 : Int → World → Prop) (μ4 : Int → World → Nat),
 (I3 0 w ∧ True) ∧
 ∀ (w5 : World) (x6 : Int), I3 x6 w5 →
 BoolK (decide ((x6 : Int) < (l1 : Nat)))
 (DrewK w5 fun w7 =>
 (0 ≤ (x6 : Int) ∧ (x6 : Int) < (l1 : Nat)) ∧
 AddrK a1 fun b8 =>
 ∃ (x9 : Int), w7.cell? (b8.add ((x6 : Int).toNat * 1)) = some (.int .i64 x9) ∧
 ((0 ≤ (x6 : Int) ∧ (x6 : Int) < (l2 : Nat)) ∧
 AddrK a2 fun b10 =>
 ∃ (x11 : Int), w7.cell? (b10.add ((x6 : Int).toNat * 1)) = some (.int .i64 x11) ∧
 (BoolK ((x9 : Int) != x11)
 (K false w7)
 (I3 (IntKind.wrap .i64 (x6 + 1)) w7 ∧ μ4 (IntKind.wrap .i64 (x6 + 1)) w7 < μ4 x6 w5))))
 (K true w5))
def ann29 : Ann := (.two .nil (.two (.two .nil (.two (.two .nil .nil) .nil)) (.two (.two .nil (.one (.loop [(5, (.one (.int .i64)))] [0, 1] (.two (.two .nil (.two .nil .nil)) (.two (.one (.two (.any 9 (.take 0 (.take 1 (.take 2 (.take 3 (.take 4 (.take 5 (.take 6 (.take 7 (.take 8 .done)))))))))) (.two (.two .nil .nil) .nil))) .nil))))) (.two .nil .nil))))
noncomputable def code29 : Code := match Tryz.f29.body with | some c => c | none => .skip
theorem wp29 (a1 : Option Addr) (l1 : Nat) (c1 : Nat) (a2 : Option Addr) (l2 : Nat) (c2 : Nat) (K : Bool → World → Prop) (w : World) : WP Tryz.prog tab code29 ann29 (fnQ tab Tryz.f29.results.toList [(.one .bool)] K) (argE 0 [(.slice a1 l1 c1), (.slice a2 l2 c2)]) w = N29 a1 l1 c1 a2 l2 c2 K w := by kernel_rfl
theorem calls29 (a1 : Option Addr) (l1 : Nat) (c1 : Nat) (a2 : Option Addr) (l2 : Nat) (c2 : Nat) (K : Bool → World → Prop) (w : World) (h : N29 a1 l1 c1 a2 l2 c2 K w) : Calls Tryz.prog 29 #[(.slice a1 l1 c1), (.slice a2 l2 c2)] w fun en w' => ∃ (p12 : Bool), en = .returned (.bool p12) ∧ K p12 w' :=
 have e : (fun en w' => ExShs [(.one .bool)] fun vs => en = .returned (tupled vs) ∧ ap [(.one .bool)] K vs fun p => p w') = (fun (en : Ending) (w' : World) => ∃ (p12 : Bool), en = .returned (.bool p12) ∧ K p12 w') := by kernel_rfl
 e ▸ fn_sound tabOk mixed Tryz.func29 (by kernel_rfl : Tryz.f29.body = some code29) ann29 [(.slice a1 l1 c1), (.slice a2 l2 c2)] [(.one .bool)] K w (by kernel_rfl) ((wp29 a1 l1 c1 a2 l2 c2 K w).symm ▸ h)
end Go.Proofs.YtkneoodgoadpaacGreatDoor

namespace Go.Proofs.YtkneoodgoadpaacGreatDoor
open Go Go.V Go.Proofs
open Go.RowKit (Below)
theorem adK {a : Option Addr} {b : Addr} (h : a = some b) {F : Addr → Prop} (k : F b) : AddrK a F := by subst h; exact k
theorem ba_iff {s t : ByteArray} : (s == t) = true ↔ s = t := by
  rw [← bytesEq_beq]
  exact ⟨fun h => (bytesEq_ext h).symm, fun h => by rw [h, bytesEq_iff]⟩
theorem tl_iff {s t : ByteArray} : (s.toList == t.toList) = true ↔ s = t := by
  rw [toList_beq, bytesEq_beq]; exact ba_iff
def RL {α : Type} (sz : Nat) (R : World → Cells → α → Prop) (w : World) (a : Option Addr) (l : Nat) (xs : List α) : Prop := Go.V.Rows sz R w a l xs ∧ l ≤ maxLen
abbrev Rg := ByteArray × Int
abbrev Ft := Int × ByteArray
def RRg (_ : World) (f : Cells) (x : Rg) : Prop := f 0 = some (.string x.1) ∧ f 1 = some (.int .i64 x.2)
def RFt (_ : World) (f : Cells) (x : Ft) : Prop := f 0 = some (.int .i64 x.1) ∧ f 1 = some (.string x.2)
theorem RRg.mono : Mono RRg := fun _ _ _ _ _ _ h k => ⟨h _ _ k.1, h _ _ k.2⟩
theorem RFt.mono : Mono RFt := fun _ _ _ _ _ _ h k => ⟨h _ _ k.1, h _ _ k.2⟩
theorem RL.ext {α : Type} {sz : Nat} {R : World → Cells → α → Prop} (hR : Mono R) {w w' : World} {a : Option Addr} {l : Nat} {xs : List α} (h : RL sz R w a l xs) (k : Ext w w') : RL sz R w' a l xs := ⟨h.1.ext hR k, h.2⟩
theorem eq_of_all {α : Type} {xs ys : List α} {l : Nat} (h1 : l = xs.length) (h2 : l = ys.length) (h : ∀ j, j < l → xs[j]? = ys[j]?) : xs = ys := by
  apply List.ext_getElem?
  intro j
  rcases Nat.lt_or_ge j l with hj | hj
  · exact h j hj
  · rw [List.getElem?_eq_none (by omega), List.getElem?_eq_none (by omega)]
def Cmp {α : Type} (xs ys : α) (w : World) (p : Bool) (w' : World) : Prop := (p = true ↔ xs = ys) ∧ Ext w w'
theorem Cmp.no {α : Type} {xs ys : α} {w w' : World} (h : xs ≠ ys) (x : Ext w w') : Cmp xs ys w false w' := ⟨⟨fun e => (by cases e), fun e => absurd e h⟩, x⟩
theorem Cmp.yes {α : Type} {xs ys : α} {w w' : World} (h : xs = ys) (x : Ext w w') : Cmp xs ys w true w' := ⟨⟨fun _ => h, fun _ => rfl⟩, x⟩
theorem c17 (w : World) {a1 a2 : Option Addr} {l1 l2 : Nat} (c1 c2 : Nat) {xs ys : List Int} (h1 : RL 1 RInt w a1 l1 xs) (h2 : RL 1 RInt w a2 l2 ys) :
    Calls Tryz.prog 17 #[.slice a1 l1 c1, .slice a2 l2 c2] w fun en w' => ∃ p, en = .returned (.bool p) ∧ Cmp xs ys w p w' := by
  refine calls17 _ _ _ _ _ _ (fun p w' => Cmp xs ys w p w') w ?_
  refine BoolK.mk (fun t => Cmp.no (fun e => ?_) (Ext.refl _)) (fun t => ?_)
  · have := h1.1.1; have := h2.1.1
    subst e
    simp at t; omega
  have e : l1 = l2 := by simp at t; omega
  subst e
  have hm := h1.2
  simp only [maxLen] at hm
  refine ⟨fun i w' => 0 ≤ i ∧ i ≤ l1 ∧ Ext w w' ∧ ∀ j, j < i.toNat → xs[j]? = ys[j]?, fun i _ => l1 - i.toNat, ⟨⟨Int.le_refl 0, by omega, Ext.refl _, fun j hj => by simp at hj⟩, trivial⟩, ?_⟩
  rintro w5 i ⟨i0, i1, x5, hall⟩
  refine BoolK.mk (fun t => ?_) (fun t => ?_)
  · have t := of_decide_eq_true t
    refine DrewK.mk fun w7 x7 => ?_
    have x := x5.trans x7
    obtain ⟨b1, o1, e1, hy1⟩ := (h1.1.ext RInt.mono x).get (i := i.toNat) (by rw [← h1.1.1]; omega)
    obtain ⟨b2, o2, e2, hy2⟩ := (h2.1.ext RInt.mono x).get (i := i.toNat) (by rw [← h2.1.1]; omega)
    refine ⟨⟨i0, t⟩, adK e1 ⟨_, by rw [add_mk]; exact hy1, ⟨i0, t⟩, adK e2 ⟨_, by rw [add_mk]; exact hy2, ?_⟩⟩⟩
    refine BoolK.mk (fun q => Cmp.no (fun e => ?_) x) (fun q => ?_)
    · subst e
      simp at q
    · have hq : xs[i.toNat]? = ys[i.toNat]? := by
        rw [List.getElem?_eq_getElem (by rw [← h1.1.1]; omega), List.getElem?_eq_getElem (by rw [← h2.1.1]; omega)]
        simpa using q
      rw [wrap_id] <;> first | omega | (refine ⟨⟨by omega, by omega, x, fun j hj => ?_⟩, by show l1 - (i + 1).toNat < l1 - i.toNat; omega⟩)
      rcases Nat.lt_or_ge j i.toNat with hj2 | hj2
      · exact hall j hj2
      · have : j = i.toNat := by omega
        rw [this]; exact hq
  · have t := of_decide_eq_false t
    exact Cmp.yes (eq_of_all h1.1.1 h2.1.1 fun j hj => hall j (by omega)) x5
theorem c29 (w : World) {a1 a2 : Option Addr} {l1 l2 : Nat} (c1 c2 : Nat) {xs ys : List Int} (h1 : RL 1 RInt w a1 l1 xs) (h2 : RL 1 RInt w a2 l2 ys) :
    Calls Tryz.prog 29 #[.slice a1 l1 c1, .slice a2 l2 c2] w fun en w' => ∃ p, en = .returned (.bool p) ∧ Cmp xs ys w p w' := by
  refine calls29 _ _ _ _ _ _ (fun p w' => Cmp xs ys w p w') w ?_
  refine BoolK.mk (fun t => Cmp.no (fun e => ?_) (Ext.refl _)) (fun t => ?_)
  · have := h1.1.1; have := h2.1.1
    subst e
    simp at t; omega
  have e : l1 = l2 := by simp at t; omega
  subst e
  have hm := h1.2
  simp only [maxLen] at hm
  refine ⟨fun i w' => 0 ≤ i ∧ i ≤ l1 ∧ Ext w w' ∧ ∀ j, j < i.toNat → xs[j]? = ys[j]?, fun i _ => l1 - i.toNat, ⟨⟨Int.le_refl 0, by omega, Ext.refl _, fun j hj => by simp at hj⟩, trivial⟩, ?_⟩
  rintro w5 i ⟨i0, i1, x5, hall⟩
  refine BoolK.mk (fun t => ?_) (fun t => ?_)
  · have t := of_decide_eq_true t
    refine DrewK.mk fun w7 x7 => ?_
    have x := x5.trans x7
    obtain ⟨b1, o1, e1, hy1⟩ := (h1.1.ext RInt.mono x).get (i := i.toNat) (by rw [← h1.1.1]; omega)
    obtain ⟨b2, o2, e2, hy2⟩ := (h2.1.ext RInt.mono x).get (i := i.toNat) (by rw [← h2.1.1]; omega)
    refine ⟨⟨i0, t⟩, adK e1 ⟨_, by rw [add_mk]; exact hy1, ⟨i0, t⟩, adK e2 ⟨_, by rw [add_mk]; exact hy2, ?_⟩⟩⟩
    refine BoolK.mk (fun q => Cmp.no (fun e => ?_) x) (fun q => ?_)
    · subst e
      simp at q
    · have hq : xs[i.toNat]? = ys[i.toNat]? := by
        rw [List.getElem?_eq_getElem (by rw [← h1.1.1]; omega), List.getElem?_eq_getElem (by rw [← h2.1.1]; omega)]
        simpa using q
      rw [wrap_id] <;> first | omega | (refine ⟨⟨by omega, by omega, x, fun j hj => ?_⟩, by show l1 - (i + 1).toNat < l1 - i.toNat; omega⟩)
      rcases Nat.lt_or_ge j i.toNat with hj2 | hj2
      · exact hall j hj2
      · have : j = i.toNat := by omega
        rw [this]; exact hq
  · have t := of_decide_eq_false t
    exact Cmp.yes (eq_of_all h1.1.1 h2.1.1 fun j hj => hall j (by omega)) x5
theorem c15 (w : World) {a1 a2 : Option Addr} {l1 l2 : Nat} (c1 c2 : Nat) {xs ys : List Rg} (h1 : RL 2 RRg w a1 l1 xs) (h2 : RL 2 RRg w a2 l2 ys) :
    Calls Tryz.prog 15 #[.slice a1 l1 c1, .slice a2 l2 c2] w fun en w' => ∃ p, en = .returned (.bool p) ∧ Cmp xs ys w p w' := by
  refine calls15 _ _ _ _ _ _ (fun p w' => Cmp xs ys w p w') w ?_
  refine BoolK.mk (fun t => Cmp.no (fun e => ?_) (Ext.refl _)) (fun t => ?_)
  · have := h1.1.1; have := h2.1.1
    subst e
    simp at t; omega
  have e : l1 = l2 := by simp at t; omega
  subst e
  have hm := h1.2
  simp only [maxLen] at hm
  refine ⟨fun i w' => 0 ≤ i ∧ i ≤ l1 ∧ Ext w w' ∧ ∀ j, j < i.toNat → xs[j]? = ys[j]?, fun i _ => l1 - i.toNat, ⟨⟨Int.le_refl 0, by omega, Ext.refl _, fun j hj => by simp at hj⟩, trivial⟩, ?_⟩
  rintro w5 i ⟨i0, i1, x5, hall⟩
  refine BoolK.mk (fun t => ?_) (fun t => ?_)
  · have t := of_decide_eq_true t
    refine DrewK.mk fun w7 x7 => ?_
    have x := x5.trans x7
    obtain ⟨b1, o1, e1, hy1⟩ := (h1.1.ext RRg.mono x).get (i := i.toNat) (by rw [← h1.1.1]; omega)
    obtain ⟨b2, o2, e2, hy2⟩ := (h2.1.ext RRg.mono x).get (i := i.toNat) (by rw [← h2.1.1]; omega)
    refine ⟨⟨i0, t⟩, adK e1 ⟨_, by rw [add_mk, add_mk]; exact hy1.1, _, by rw [add_mk, add_mk]; exact hy1.2, ⟨i0, t⟩, adK e2 ⟨_, by rw [add_mk, add_mk]; exact hy2.1, _, by rw [add_mk, add_mk]; exact hy2.2, ?_⟩⟩⟩
    refine BoolK.mk (fun q => Cmp.no (fun e => ?_) x) (fun q => ?_)
    · subst e
      rw [Bool.not_eq_true', ← Bool.not_eq_true] at q
      exact q (by simp only [Bool.and_eq_true, ba_iff, beq_self_eq_true, and_self])
    · have hq : xs[i.toNat]? = ys[i.toNat]? := by
        rw [List.getElem?_eq_getElem (by rw [← h1.1.1]; omega), List.getElem?_eq_getElem (by rw [← h2.1.1]; omega)]
        rw [Bool.not_eq_false'] at q
        simp only [Bool.and_eq_true, ba_iff, beq_iff_eq, and_true] at q
        simp only [Option.some.injEq]
        exact Prod.ext q.1 q.2
      rw [wrap_id] <;> first | omega | (refine ⟨⟨by omega, by omega, x, fun j hj => ?_⟩, by show l1 - (i + 1).toNat < l1 - i.toNat; omega⟩)
      rcases Nat.lt_or_ge j i.toNat with hj2 | hj2
      · exact hall j hj2
      · have : j = i.toNat := by omega
        rw [this]; exact hq
  · have t := of_decide_eq_false t
    exact Cmp.yes (eq_of_all h1.1.1 h2.1.1 fun j hj => hall j (by omega)) x5
theorem c27 (w : World) {a1 a2 : Option Addr} {l1 l2 : Nat} (c1 c2 : Nat) {xs ys : List Rg} (h1 : RL 2 RRg w a1 l1 xs) (h2 : RL 2 RRg w a2 l2 ys) :
    Calls Tryz.prog 27 #[.slice a1 l1 c1, .slice a2 l2 c2] w fun en w' => ∃ p, en = .returned (.bool p) ∧ Cmp xs ys w p w' := by
  refine calls27 _ _ _ _ _ _ (fun p w' => Cmp xs ys w p w') w ?_
  refine BoolK.mk (fun t => Cmp.no (fun e => ?_) (Ext.refl _)) (fun t => ?_)
  · have := h1.1.1; have := h2.1.1
    subst e
    simp at t; omega
  have e : l1 = l2 := by simp at t; omega
  subst e
  have hm := h1.2
  simp only [maxLen] at hm
  refine ⟨fun i w' => 0 ≤ i ∧ i ≤ l1 ∧ Ext w w' ∧ ∀ j, j < i.toNat → xs[j]? = ys[j]?, fun i _ => l1 - i.toNat, ⟨⟨Int.le_refl 0, by omega, Ext.refl _, fun j hj => by simp at hj⟩, trivial⟩, ?_⟩
  rintro w5 i ⟨i0, i1, x5, hall⟩
  refine BoolK.mk (fun t => ?_) (fun t => ?_)
  · have t := of_decide_eq_true t
    refine DrewK.mk fun w7 x7 => ?_
    have x := x5.trans x7
    obtain ⟨b1, o1, e1, hy1⟩ := (h1.1.ext RRg.mono x).get (i := i.toNat) (by rw [← h1.1.1]; omega)
    obtain ⟨b2, o2, e2, hy2⟩ := (h2.1.ext RRg.mono x).get (i := i.toNat) (by rw [← h2.1.1]; omega)
    refine ⟨⟨i0, t⟩, adK e1 ⟨_, by rw [add_mk, add_mk]; exact hy1.1, _, by rw [add_mk, add_mk]; exact hy1.2, ⟨i0, t⟩, adK e2 ⟨_, by rw [add_mk, add_mk]; exact hy2.1, _, by rw [add_mk, add_mk]; exact hy2.2, ?_⟩⟩⟩
    refine BoolK.mk (fun q => Cmp.no (fun e => ?_) x) (fun q => ?_)
    · subst e
      rw [Bool.not_eq_true', ← Bool.not_eq_true] at q
      exact q (by simp only [Bool.and_eq_true, ba_iff, beq_self_eq_true, and_self])
    · have hq : xs[i.toNat]? = ys[i.toNat]? := by
        rw [List.getElem?_eq_getElem (by rw [← h1.1.1]; omega), List.getElem?_eq_getElem (by rw [← h2.1.1]; omega)]
        rw [Bool.not_eq_false'] at q
        simp only [Bool.and_eq_true, ba_iff, beq_iff_eq, and_true] at q
        simp only [Option.some.injEq]
        exact Prod.ext q.1 q.2
      rw [wrap_id] <;> first | omega | (refine ⟨⟨by omega, by omega, x, fun j hj => ?_⟩, by show l1 - (i + 1).toNat < l1 - i.toNat; omega⟩)
      rcases Nat.lt_or_ge j i.toNat with hj2 | hj2
      · exact hall j hj2
      · have : j = i.toNat := by omega
        rw [this]; exact hq
  · have t := of_decide_eq_false t
    exact Cmp.yes (eq_of_all h1.1.1 h2.1.1 fun j hj => hall j (by omega)) x5
theorem c16 (w : World) {a1 a2 : Option Addr} {l1 l2 : Nat} (c1 c2 : Nat) {xs ys : List Ft} (h1 : RL 2 RFt w a1 l1 xs) (h2 : RL 2 RFt w a2 l2 ys) :
    Calls Tryz.prog 16 #[.slice a1 l1 c1, .slice a2 l2 c2] w fun en w' => ∃ p, en = .returned (.bool p) ∧ Cmp xs ys w p w' := by
  refine calls16 _ _ _ _ _ _ (fun p w' => Cmp xs ys w p w') w ?_
  refine BoolK.mk (fun t => Cmp.no (fun e => ?_) (Ext.refl _)) (fun t => ?_)
  · have := h1.1.1; have := h2.1.1
    subst e
    simp at t; omega
  have e : l1 = l2 := by simp at t; omega
  subst e
  have hm := h1.2
  simp only [maxLen] at hm
  refine ⟨fun i w' => 0 ≤ i ∧ i ≤ l1 ∧ Ext w w' ∧ ∀ j, j < i.toNat → xs[j]? = ys[j]?, fun i _ => l1 - i.toNat, ⟨⟨Int.le_refl 0, by omega, Ext.refl _, fun j hj => by simp at hj⟩, trivial⟩, ?_⟩
  rintro w5 i ⟨i0, i1, x5, hall⟩
  refine BoolK.mk (fun t => ?_) (fun t => ?_)
  · have t := of_decide_eq_true t
    refine DrewK.mk fun w7 x7 => ?_
    have x := x5.trans x7
    obtain ⟨b1, o1, e1, hy1⟩ := (h1.1.ext RFt.mono x).get (i := i.toNat) (by rw [← h1.1.1]; omega)
    obtain ⟨b2, o2, e2, hy2⟩ := (h2.1.ext RFt.mono x).get (i := i.toNat) (by rw [← h2.1.1]; omega)
    refine ⟨⟨i0, t⟩, adK e1 ⟨_, by rw [add_mk, add_mk]; exact hy1.1, _, by rw [add_mk, add_mk]; exact hy1.2, ⟨i0, t⟩, adK e2 ⟨_, by rw [add_mk, add_mk]; exact hy2.1, _, by rw [add_mk, add_mk]; exact hy2.2, ?_⟩⟩⟩
    refine BoolK.mk (fun q => Cmp.no (fun e => ?_) x) (fun q => ?_)
    · subst e
      rw [Bool.not_eq_true', ← Bool.not_eq_true] at q
      exact q (by simp only [Bool.and_eq_true, ba_iff, beq_self_eq_true, and_self])
    · have hq : xs[i.toNat]? = ys[i.toNat]? := by
        rw [List.getElem?_eq_getElem (by rw [← h1.1.1]; omega), List.getElem?_eq_getElem (by rw [← h2.1.1]; omega)]
        rw [Bool.not_eq_false'] at q
        simp only [Bool.and_eq_true, ba_iff, beq_iff_eq, and_true] at q
        simp only [Option.some.injEq]
        exact Prod.ext q.1 q.2
      rw [wrap_id] <;> first | omega | (refine ⟨⟨by omega, by omega, x, fun j hj => ?_⟩, by show l1 - (i + 1).toNat < l1 - i.toNat; omega⟩)
      rcases Nat.lt_or_ge j i.toNat with hj2 | hj2
      · exact hall j hj2
      · have : j = i.toNat := by omega
        rw [this]; exact hq
  · have t := of_decide_eq_false t
    exact Cmp.yes (eq_of_all h1.1.1 h2.1.1 fun j hj => hall j (by omega)) x5
theorem c28 (w : World) {a1 a2 : Option Addr} {l1 l2 : Nat} (c1 c2 : Nat) {xs ys : List Ft} (h1 : RL 2 RFt w a1 l1 xs) (h2 : RL 2 RFt w a2 l2 ys) :
    Calls Tryz.prog 28 #[.slice a1 l1 c1, .slice a2 l2 c2] w fun en w' => ∃ p, en = .returned (.bool p) ∧ Cmp xs ys w p w' := by
  refine calls28 _ _ _ _ _ _ (fun p w' => Cmp xs ys w p w') w ?_
  refine BoolK.mk (fun t => Cmp.no (fun e => ?_) (Ext.refl _)) (fun t => ?_)
  · have := h1.1.1; have := h2.1.1
    subst e
    simp at t; omega
  have e : l1 = l2 := by simp at t; omega
  subst e
  have hm := h1.2
  simp only [maxLen] at hm
  refine ⟨fun i w' => 0 ≤ i ∧ i ≤ l1 ∧ Ext w w' ∧ ∀ j, j < i.toNat → xs[j]? = ys[j]?, fun i _ => l1 - i.toNat, ⟨⟨Int.le_refl 0, by omega, Ext.refl _, fun j hj => by simp at hj⟩, trivial⟩, ?_⟩
  rintro w5 i ⟨i0, i1, x5, hall⟩
  refine BoolK.mk (fun t => ?_) (fun t => ?_)
  · have t := of_decide_eq_true t
    refine DrewK.mk fun w7 x7 => ?_
    have x := x5.trans x7
    obtain ⟨b1, o1, e1, hy1⟩ := (h1.1.ext RFt.mono x).get (i := i.toNat) (by rw [← h1.1.1]; omega)
    obtain ⟨b2, o2, e2, hy2⟩ := (h2.1.ext RFt.mono x).get (i := i.toNat) (by rw [← h2.1.1]; omega)
    refine ⟨⟨i0, t⟩, adK e1 ⟨_, by rw [add_mk, add_mk]; exact hy1.1, _, by rw [add_mk, add_mk]; exact hy1.2, ⟨i0, t⟩, adK e2 ⟨_, by rw [add_mk, add_mk]; exact hy2.1, _, by rw [add_mk, add_mk]; exact hy2.2, ?_⟩⟩⟩
    refine BoolK.mk (fun q => Cmp.no (fun e => ?_) x) (fun q => ?_)
    · subst e
      rw [Bool.not_eq_true', ← Bool.not_eq_true] at q
      exact q (by simp only [Bool.and_eq_true, ba_iff, beq_self_eq_true, and_self])
    · have hq : xs[i.toNat]? = ys[i.toNat]? := by
        rw [List.getElem?_eq_getElem (by rw [← h1.1.1]; omega), List.getElem?_eq_getElem (by rw [← h2.1.1]; omega)]
        rw [Bool.not_eq_false'] at q
        simp only [Bool.and_eq_true, ba_iff, beq_iff_eq, and_true] at q
        simp only [Option.some.injEq]
        exact Prod.ext q.1 q.2
      rw [wrap_id] <;> first | omega | (refine ⟨⟨by omega, by omega, x, fun j hj => ?_⟩, by show l1 - (i + 1).toNat < l1 - i.toNat; omega⟩)
      rcases Nat.lt_or_ge j i.toNat with hj2 | hj2
      · exact hall j hj2
      · have : j = i.toNat := by omega
        rw [this]; exact hq
  · have t := of_decide_eq_false t
    exact Cmp.yes (eq_of_all h1.1.1 h2.1.1 fun j hj => hall j (by omega)) x5
end Go.Proofs.YtkneoodgoadpaacGreatDoor

namespace Go.Proofs.YtkneoodgoadpaacGreatDoor
open Go Go.V Go.Proofs
open Go.RowKit (Below)
/-! manystrand/code.Same$1$1 -/
def N14 (s1 : ByteArray) (s2 : ByteArray) (s3 : ByteArray) (x4 : Int) (s5 : ByteArray) (x6 : Int) (x7 : Int) (x8 : Int) (a9 : Option Addr) (l9 : Nat) (c9 : Nat) (a10 : Option Addr) (l10 : Nat) (c10 : Nat) (a11 : Option Addr) (l11 : Nat) (c11 : Nat) (s12 : ByteArray) (s13 : ByteArray) (s14 : ByteArray) (x15 : Int) (s16 : ByteArray) (x17 : Int) (x18 : Int) (x19 : Int) (a20 : Option Addr) (l20 : Nat) (c20 : Nat) (a21 : Option Addr) (l21 : Nat) (c21 : Nat) (a22 : Option Addr) (l22 : Nat) (c22 : Nat) (K : Bool → World → Prop) (w : World) : Prop :=
 AllocK w (#[(.string s1), (.string s2), (.string s3), (.int .i64 x4), (.string s5), (.int .i64 x6), (.int .i64 x7), (.int .i64 x8), (.slice a9 l9 c9), (.slice a10 l10 c10), (.slice a11 l11 c11)]) 37 fun b23 w24 =>
 AllocK w24 (#[(.string s12), (.string s13), (.string s14), (.int .i64 x15), (.string s16), (.int .i64 x17), (.int .i64 x18), (.int .i64 x19), (.slice a20 l20 c20), (.slice a21 l21 c21), (.slice a22 l22 c22)]) 37 fun b25 w26 =>
 ∃ (s27 : ByteArray), w26.cell? b23 = some (.string s27) ∧
 (∃ (s28 : ByteArray), w26.cell? b25 = some (.string s28) ∧
 (BoolK ((s27 : ByteArray).toList == (s28 : ByteArray).toList)
 (∃ (s29 : ByteArray), w26.cell? (b23.add 1) = some (.string s29) ∧
 (∃ (s30 : ByteArray), w26.cell? (b25.add 1) = some (.string s30) ∧
 (BoolK ((s29 : ByteArray).toList == (s30 : ByteArray).toList)
 (∃ (s31 : ByteArray), w26.cell? ((b23.add 2).add 0) = some (.string s31) ∧
 (∃ (x32 : Int), w26.cell? ((b23.add 2).add 1) = some (.int .i64 x32) ∧
 (∃ (s33 : ByteArray), w26.cell? ((b25.add 2).add 0) = some (.string s33) ∧
 (∃ (x34 : Int), w26.cell? ((b25.add 2).add 1) = some (.int .i64 x34) ∧
 (BoolK (((s31 : ByteArray) == s33) && (((x32 : Int) == x34) && (true)))
 (∃ (s35 : ByteArray), w26.cell? ((b23.add 4).add 0) = some (.string s35) ∧
 (∃ (x36 : Int), w26.cell? ((b23.add 4).add 1) = some (.int .i64 x36) ∧
 (∃ (s37 : ByteArray), w26.cell? ((b25.add 4).add 0) = some (.string s37) ∧
 (∃ (x38 : Int), w26.cell? ((b25.add 4).add 1) = some (.int .i64 x38) ∧
 (BoolK (((s35 : ByteArray) == s37) && (((x36 : Int) == x38) && (true)))
 (∃ (x39 : Int), w26.cell? (b23.add 6) = some (.int .i64 x39) ∧
 (∃ (x40 : Int), w26.cell? (b25.add 6) = some (.int .i64 x40) ∧
 (BoolK ((x39 : Int) == x40)
 (∃ (x41 : Int), w26.cell? (b23.add 7) = some (.int .i64 x41) ∧
 (∃ (x42 : Int), w26.cell? (b25.add 7) = some (.int .i64 x42) ∧
 (BoolK ((x41 : Int) == x42)
 (∃ (a43 : Option Addr) (l43 : Nat) (c43 : Nat), w26.cell? (b23.add 8) = some (.slice a43 l43 c43) ∧
 (∃ (a44 : Option Addr) (l44 : Nat) (c44 : Nat), w26.cell? (b25.add 8) = some (.slice a44 l44 c44) ∧
 (Calls Tryz.prog 15 #[(.slice a43 l43 c43), (.slice a44 l44 c44)] w26 fun e47 w46 =>
 ∃ (p45 : Bool), e47 = .returned (.bool p45) ∧
 (BoolK p45
 (∃ (a48 : Option Addr) (l48 : Nat) (c48 : Nat), w46.cell? (b23.add 9) = some (.slice a48 l48 c48) ∧
 (∃ (a49 : Option Addr) (l49 : Nat) (c49 : Nat), w46.cell? (b25.add 9) = some (.slice a49 l49 c49) ∧
 (Calls Tryz.prog 16 #[(.slice a48 l48 c48), (.slice a49 l49 c49)] w46 fun e52 w51 =>
 ∃ (p50 : Bool), e52 = .returned (.bool p50) ∧
 (BoolK p50
 (∃ (a53 : Option Addr) (l53 : Nat) (c53 : Nat), w51.cell? (b23.add 10) = some (.slice a53 l53 c53) ∧
 (∃ (a54 : Option Addr) (l54 : Nat) (c54 : Nat), w51.cell? (b25.add 10) = some (.slice a54 l54 c54) ∧
 (Calls Tryz.prog 17 #[(.slice a53 l53 c53), (.slice a54 l54 c54)] w51 fun e57 w56 =>
 ∃ (p55 : Bool), e57 = .returned (.bool p55) ∧
 (K p55 w56))))
 (K false w51)))))
 (K false w46)))))
 (K false w26))))
 (K false w26))))
 (K false w26))))))
 (K false w26))))))
 (K false w26))))
 (K false w26)))
def ann14 : Ann := (.two .nil (.two .nil .nil))
noncomputable def code14 : Code := match Tryz.f14.body with | some c => c | none => .skip
theorem wp14 (s1 : ByteArray) (s2 : ByteArray) (s3 : ByteArray) (x4 : Int) (s5 : ByteArray) (x6 : Int) (x7 : Int) (x8 : Int) (a9 : Option Addr) (l9 : Nat) (c9 : Nat) (a10 : Option Addr) (l10 : Nat) (c10 : Nat) (a11 : Option Addr) (l11 : Nat) (c11 : Nat) (s12 : ByteArray) (s13 : ByteArray) (s14 : ByteArray) (x15 : Int) (s16 : ByteArray) (x17 : Int) (x18 : Int) (x19 : Int) (a20 : Option Addr) (l20 : Nat) (c20 : Nat) (a21 : Option Addr) (l21 : Nat) (c21 : Nat) (a22 : Option Addr) (l22 : Nat) (c22 : Nat) (K : Bool → World → Prop) (w : World) : WP Tryz.prog tab code14 ann14 (fnQ tab Tryz.f14.results.toList [(.one .bool)] K) (argE 0 [(.agg #[(.string s1), (.string s2), (.string s3), (.int .i64 x4), (.string s5), (.int .i64 x6), (.int .i64 x7), (.int .i64 x8), (.slice a9 l9 c9), (.slice a10 l10 c10), (.slice a11 l11 c11)]), (.agg #[(.string s12), (.string s13), (.string s14), (.int .i64 x15), (.string s16), (.int .i64 x17), (.int .i64 x18), (.int .i64 x19), (.slice a20 l20 c20), (.slice a21 l21 c21), (.slice a22 l22 c22)])]) w = N14 s1 s2 s3 x4 s5 x6 x7 x8 a9 l9 c9 a10 l10 c10 a11 l11 c11 s12 s13 s14 x15 s16 x17 x18 x19 a20 l20 c20 a21 l21 c21 a22 l22 c22 K w := by kernel_rfl
theorem calls14 (s1 : ByteArray) (s2 : ByteArray) (s3 : ByteArray) (x4 : Int) (s5 : ByteArray) (x6 : Int) (x7 : Int) (x8 : Int) (a9 : Option Addr) (l9 : Nat) (c9 : Nat) (a10 : Option Addr) (l10 : Nat) (c10 : Nat) (a11 : Option Addr) (l11 : Nat) (c11 : Nat) (s12 : ByteArray) (s13 : ByteArray) (s14 : ByteArray) (x15 : Int) (s16 : ByteArray) (x17 : Int) (x18 : Int) (x19 : Int) (a20 : Option Addr) (l20 : Nat) (c20 : Nat) (a21 : Option Addr) (l21 : Nat) (c21 : Nat) (a22 : Option Addr) (l22 : Nat) (c22 : Nat) (K : Bool → World → Prop) (w : World) (h : N14 s1 s2 s3 x4 s5 x6 x7 x8 a9 l9 c9 a10 l10 c10 a11 l11 c11 s12 s13 s14 x15 s16 x17 x18 x19 a20 l20 c20 a21 l21 c21 a22 l22 c22 K w) : Calls Tryz.prog 14 #[(.agg #[(.string s1), (.string s2), (.string s3), (.int .i64 x4), (.string s5), (.int .i64 x6), (.int .i64 x7), (.int .i64 x8), (.slice a9 l9 c9), (.slice a10 l10 c10), (.slice a11 l11 c11)]), (.agg #[(.string s12), (.string s13), (.string s14), (.int .i64 x15), (.string s16), (.int .i64 x17), (.int .i64 x18), (.int .i64 x19), (.slice a20 l20 c20), (.slice a21 l21 c21), (.slice a22 l22 c22)])] w fun en w' => ∃ (p58 : Bool), en = .returned (.bool p58) ∧ K p58 w' :=
 have e : (fun en w' => ExShs [(.one .bool)] fun vs => en = .returned (tupled vs) ∧ ap [(.one .bool)] K vs fun p => p w') = (fun (en : Ending) (w' : World) => ∃ (p58 : Bool), en = .returned (.bool p58) ∧ K p58 w') := by kernel_rfl
 e ▸ fn_sound tabOk mixed Tryz.func14 (by kernel_rfl : Tryz.f14.body = some code14) ann14 [(.agg #[(.string s1), (.string s2), (.string s3), (.int .i64 x4), (.string s5), (.int .i64 x6), (.int .i64 x7), (.int .i64 x8), (.slice a9 l9 c9), (.slice a10 l10 c10), (.slice a11 l11 c11)]), (.agg #[(.string s12), (.string s13), (.string s14), (.int .i64 x15), (.string s16), (.int .i64 x17), (.int .i64 x18), (.int .i64 x19), (.slice a20 l20 c20), (.slice a21 l21 c21), (.slice a22 l22 c22)])] [(.one .bool)] K w (by kernel_rfl) ((wp14 s1 s2 s3 x4 s5 x6 x7 x8 a9 l9 c9 a10 l10 c10 a11 l11 c11 s12 s13 s14 x15 s16 x17 x18 x19 a20 l20 c20 a21 l21 c21 a22 l22 c22 K w).symm ▸ h)
end Go.Proofs.YtkneoodgoadpaacGreatDoor

namespace Go.Proofs.YtkneoodgoadpaacGreatDoor
open Go Go.V Go.Proofs
open Go.RowKit (Below)
/-! manystrand/manystrandref18.sameIns -/
def N18 (s1 : ByteArray) (s2 : ByteArray) (s3 : ByteArray) (x4 : Int) (s5 : ByteArray) (x6 : Int) (x7 : Int) (x8 : Int) (a9 : Option Addr) (l9 : Nat) (c9 : Nat) (a10 : Option Addr) (l10 : Nat) (c10 : Nat) (a11 : Option Addr) (l11 : Nat) (c11 : Nat) (s12 : ByteArray) (s13 : ByteArray) (s14 : ByteArray) (x15 : Int) (s16 : ByteArray) (x17 : Int) (x18 : Int) (x19 : Int) (a20 : Option Addr) (l20 : Nat) (c20 : Nat) (a21 : Option Addr) (l21 : Nat) (c21 : Nat) (a22 : Option Addr) (l22 : Nat) (c22 : Nat) (K : Bool → World → Prop) (w : World) : Prop :=
 AllocK w (#[(.string s1), (.string s2), (.string s3), (.int .i64 x4), (.string s5), (.int .i64 x6), (.int .i64 x7), (.int .i64 x8), (.slice a9 l9 c9), (.slice a10 l10 c10), (.slice a11 l11 c11)]) 37 fun b23 w24 =>
 AllocK w24 (#[(.string s12), (.string s13), (.string s14), (.int .i64 x15), (.string s16), (.int .i64 x17), (.int .i64 x18), (.int .i64 x19), (.slice a20 l20 c20), (.slice a21 l21 c21), (.slice a22 l22 c22)]) 37 fun b25 w26 =>
 ∃ (s27 : ByteArray), w26.cell? b23 = some (.string s27) ∧
 (∃ (s28 : ByteArray), w26.cell? b25 = some (.string s28) ∧
 (BoolK ((s27 : ByteArray).toList == (s28 : ByteArray).toList)
 (∃ (s29 : ByteArray), w26.cell? (b23.add 1) = some (.string s29) ∧
 (∃ (s30 : ByteArray), w26.cell? (b25.add 1) = some (.string s30) ∧
 (BoolK ((s29 : ByteArray).toList == (s30 : ByteArray).toList)
 (∃ (s31 : ByteArray), w26.cell? ((b23.add 2).add 0) = some (.string s31) ∧
 (∃ (x32 : Int), w26.cell? ((b23.add 2).add 1) = some (.int .i64 x32) ∧
 (∃ (s33 : ByteArray), w26.cell? ((b25.add 2).add 0) = some (.string s33) ∧
 (∃ (x34 : Int), w26.cell? ((b25.add 2).add 1) = some (.int .i64 x34) ∧
 (BoolK (((s31 : ByteArray) == s33) && (((x32 : Int) == x34) && (true)))
 (∃ (s35 : ByteArray), w26.cell? ((b23.add 4).add 0) = some (.string s35) ∧
 (∃ (x36 : Int), w26.cell? ((b23.add 4).add 1) = some (.int .i64 x36) ∧
 (∃ (s37 : ByteArray), w26.cell? ((b25.add 4).add 0) = some (.string s37) ∧
 (∃ (x38 : Int), w26.cell? ((b25.add 4).add 1) = some (.int .i64 x38) ∧
 (BoolK (((s35 : ByteArray) == s37) && (((x36 : Int) == x38) && (true)))
 (∃ (x39 : Int), w26.cell? (b23.add 6) = some (.int .i64 x39) ∧
 (∃ (x40 : Int), w26.cell? (b25.add 6) = some (.int .i64 x40) ∧
 (BoolK ((x39 : Int) == x40)
 (∃ (x41 : Int), w26.cell? (b23.add 7) = some (.int .i64 x41) ∧
 (∃ (x42 : Int), w26.cell? (b25.add 7) = some (.int .i64 x42) ∧
 (BoolK ((x41 : Int) == x42)
 (∃ (a43 : Option Addr) (l43 : Nat) (c43 : Nat), w26.cell? (b23.add 8) = some (.slice a43 l43 c43) ∧
 (∃ (a44 : Option Addr) (l44 : Nat) (c44 : Nat), w26.cell? (b25.add 8) = some (.slice a44 l44 c44) ∧
 (Calls Tryz.prog 27 #[(.slice a43 l43 c43), (.slice a44 l44 c44)] w26 fun e47 w46 =>
 ∃ (p45 : Bool), e47 = .returned (.bool p45) ∧
 (BoolK p45
 (∃ (a48 : Option Addr) (l48 : Nat) (c48 : Nat), w46.cell? (b23.add 9) = some (.slice a48 l48 c48) ∧
 (∃ (a49 : Option Addr) (l49 : Nat) (c49 : Nat), w46.cell? (b25.add 9) = some (.slice a49 l49 c49) ∧
 (Calls Tryz.prog 28 #[(.slice a48 l48 c48), (.slice a49 l49 c49)] w46 fun e52 w51 =>
 ∃ (p50 : Bool), e52 = .returned (.bool p50) ∧
 (BoolK p50
 (∃ (a53 : Option Addr) (l53 : Nat) (c53 : Nat), w51.cell? (b23.add 10) = some (.slice a53 l53 c53) ∧
 (∃ (a54 : Option Addr) (l54 : Nat) (c54 : Nat), w51.cell? (b25.add 10) = some (.slice a54 l54 c54) ∧
 (Calls Tryz.prog 29 #[(.slice a53 l53 c53), (.slice a54 l54 c54)] w51 fun e57 w56 =>
 ∃ (p55 : Bool), e57 = .returned (.bool p55) ∧
 (K p55 w56))))
 (K false w51)))))
 (K false w46)))))
 (K false w26))))
 (K false w26))))
 (K false w26))))))
 (K false w26))))))
 (K false w26))))
 (K false w26)))
def ann18 : Ann := (.two .nil (.two .nil .nil))
noncomputable def code18 : Code := match Tryz.f18.body with | some c => c | none => .skip
theorem wp18 (s1 : ByteArray) (s2 : ByteArray) (s3 : ByteArray) (x4 : Int) (s5 : ByteArray) (x6 : Int) (x7 : Int) (x8 : Int) (a9 : Option Addr) (l9 : Nat) (c9 : Nat) (a10 : Option Addr) (l10 : Nat) (c10 : Nat) (a11 : Option Addr) (l11 : Nat) (c11 : Nat) (s12 : ByteArray) (s13 : ByteArray) (s14 : ByteArray) (x15 : Int) (s16 : ByteArray) (x17 : Int) (x18 : Int) (x19 : Int) (a20 : Option Addr) (l20 : Nat) (c20 : Nat) (a21 : Option Addr) (l21 : Nat) (c21 : Nat) (a22 : Option Addr) (l22 : Nat) (c22 : Nat) (K : Bool → World → Prop) (w : World) : WP Tryz.prog tab code18 ann18 (fnQ tab Tryz.f18.results.toList [(.one .bool)] K) (argE 0 [(.agg #[(.string s1), (.string s2), (.string s3), (.int .i64 x4), (.string s5), (.int .i64 x6), (.int .i64 x7), (.int .i64 x8), (.slice a9 l9 c9), (.slice a10 l10 c10), (.slice a11 l11 c11)]), (.agg #[(.string s12), (.string s13), (.string s14), (.int .i64 x15), (.string s16), (.int .i64 x17), (.int .i64 x18), (.int .i64 x19), (.slice a20 l20 c20), (.slice a21 l21 c21), (.slice a22 l22 c22)])]) w = N18 s1 s2 s3 x4 s5 x6 x7 x8 a9 l9 c9 a10 l10 c10 a11 l11 c11 s12 s13 s14 x15 s16 x17 x18 x19 a20 l20 c20 a21 l21 c21 a22 l22 c22 K w := by kernel_rfl
theorem calls18 (s1 : ByteArray) (s2 : ByteArray) (s3 : ByteArray) (x4 : Int) (s5 : ByteArray) (x6 : Int) (x7 : Int) (x8 : Int) (a9 : Option Addr) (l9 : Nat) (c9 : Nat) (a10 : Option Addr) (l10 : Nat) (c10 : Nat) (a11 : Option Addr) (l11 : Nat) (c11 : Nat) (s12 : ByteArray) (s13 : ByteArray) (s14 : ByteArray) (x15 : Int) (s16 : ByteArray) (x17 : Int) (x18 : Int) (x19 : Int) (a20 : Option Addr) (l20 : Nat) (c20 : Nat) (a21 : Option Addr) (l21 : Nat) (c21 : Nat) (a22 : Option Addr) (l22 : Nat) (c22 : Nat) (K : Bool → World → Prop) (w : World) (h : N18 s1 s2 s3 x4 s5 x6 x7 x8 a9 l9 c9 a10 l10 c10 a11 l11 c11 s12 s13 s14 x15 s16 x17 x18 x19 a20 l20 c20 a21 l21 c21 a22 l22 c22 K w) : Calls Tryz.prog 18 #[(.agg #[(.string s1), (.string s2), (.string s3), (.int .i64 x4), (.string s5), (.int .i64 x6), (.int .i64 x7), (.int .i64 x8), (.slice a9 l9 c9), (.slice a10 l10 c10), (.slice a11 l11 c11)]), (.agg #[(.string s12), (.string s13), (.string s14), (.int .i64 x15), (.string s16), (.int .i64 x17), (.int .i64 x18), (.int .i64 x19), (.slice a20 l20 c20), (.slice a21 l21 c21), (.slice a22 l22 c22)])] w fun en w' => ∃ (p58 : Bool), en = .returned (.bool p58) ∧ K p58 w' :=
 have e : (fun en w' => ExShs [(.one .bool)] fun vs => en = .returned (tupled vs) ∧ ap [(.one .bool)] K vs fun p => p w') = (fun (en : Ending) (w' : World) => ∃ (p58 : Bool), en = .returned (.bool p58) ∧ K p58 w') := by kernel_rfl
 e ▸ fn_sound tabOk mixed Tryz.func18 (by kernel_rfl : Tryz.f18.body = some code18) ann18 [(.agg #[(.string s1), (.string s2), (.string s3), (.int .i64 x4), (.string s5), (.int .i64 x6), (.int .i64 x7), (.int .i64 x8), (.slice a9 l9 c9), (.slice a10 l10 c10), (.slice a11 l11 c11)]), (.agg #[(.string s12), (.string s13), (.string s14), (.int .i64 x15), (.string s16), (.int .i64 x17), (.int .i64 x18), (.int .i64 x19), (.slice a20 l20 c20), (.slice a21 l21 c21), (.slice a22 l22 c22)])] [(.one .bool)] K w (by kernel_rfl) ((wp18 s1 s2 s3 x4 s5 x6 x7 x8 a9 l9 c9 a10 l10 c10 a11 l11 c11 s12 s13 s14 x15 s16 x17 x18 x19 a20 l20 c20 a21 l21 c21 a22 l22 c22 K w).symm ▸ h)
end Go.Proofs.YtkneoodgoadpaacGreatDoor

namespace Go.Proofs.YtkneoodgoadpaacGreatDoor
open Go Go.V Go.Proofs
open Go.RowKit (Below)
/-! slices.EqualFunc[[]manystrand/api.Ins,[]manystrand/api.Ins,manystrand/api.Ins,manystrand/api.Ins] -/
def N13 (a1 : Option Addr) (l1 : Nat) (_c1 : Nat) (a2 : Option Addr) (l2 : Nat) (_c2 : Nat) (g3 : FuncId) (k4 : Array Value) (K : Bool → World → Prop) (w : World) : Prop :=
 BoolK (((l1 : Nat) : Int) != (l2 : Nat))
 (K false w)
 (∃ (I5 : Int → World → Prop) (μ6 : Int → World → Nat),
 (I5 0 w ∧ True) ∧
 ∀ (w7 : World) (x8 : Int), I5 x8 w7 →
 BoolK (decide ((x8 : Int) < (l1 : Nat)))
 ((0 ≤ (x8 : Int) ∧ (x8 : Int) < (l1 : Nat)) ∧
 AddrK a1 fun b9 =>
 ∃ (s10 : ByteArray), w7.cell? ((b9.add ((x8 : Int).toNat * 11)).add 0) = some (.string s10) ∧
 (∃ (s11 : ByteArray), w7.cell? ((b9.add ((x8 : Int).toNat * 11)).add 1) = some (.string s11) ∧
 (∃ (s12 : ByteArray), w7.cell? ((b9.add ((x8 : Int).toNat * 11)).add 2) = some (.string s12) ∧
 (∃ (x13 : Int), w7.cell? ((b9.add ((x8 : Int).toNat * 11)).add 3) = some (.int .i64 x13) ∧
 (∃ (s14 : ByteArray), w7.cell? ((b9.add ((x8 : Int).toNat * 11)).add 4) = some (.string s14) ∧
 (∃ (x15 : Int), w7.cell? ((b9.add ((x8 : Int).toNat * 11)).add 5) = some (.int .i64 x15) ∧
 (∃ (x16 : Int), w7.cell? ((b9.add ((x8 : Int).toNat * 11)).add 6) = some (.int .i64 x16) ∧
 (∃ (x17 : Int), w7.cell? ((b9.add ((x8 : Int).toNat * 11)).add 7) = some (.int .i64 x17) ∧
 (∃ (a18 : Option Addr) (l18 : Nat) (c18 : Nat), w7.cell? ((b9.add ((x8 : Int).toNat * 11)).add 8) = some (.slice a18 l18 c18) ∧
 (∃ (a19 : Option Addr) (l19 : Nat) (c19 : Nat), w7.cell? ((b9.add ((x8 : Int).toNat * 11)).add 9) = some (.slice a19 l19 c19) ∧
 (∃ (a20 : Option Addr) (l20 : Nat) (c20 : Nat), w7.cell? ((b9.add ((x8 : Int).toNat * 11)).add 10) = some (.slice a20 l20 c20) ∧
 (AllocK w7 (#[.string ⟨#[]⟩, .string ⟨#[]⟩, .string ⟨#[]⟩, .int .i64 0, .string ⟨#[]⟩, .int .i64 0, .int .i64 0, .int .i64 0, .slice none 0 0, .slice none 0 0, .slice none 0 0]) 37 fun b21 w22 =>
 SetK w22 (b21.add 0) (.string s10) fun w23 =>
 SetK w23 (b21.add 1) (.string s11) fun w24 =>
 SetK w24 (b21.add 2) (.string s12) fun w25 =>
 SetK w25 (b21.add 3) (.int .i64 x13) fun w26 =>
 SetK w26 (b21.add 4) (.string s14) fun w27 =>
 SetK w27 (b21.add 5) (.int .i64 x15) fun w28 =>
 SetK w28 (b21.add 6) (.int .i64 x16) fun w29 =>
 SetK w29 (b21.add 7) (.int .i64 x17) fun w30 =>
 SetK w30 (b21.add 8) (.slice a18 l18 c18) fun w31 =>
 SetK w31 (b21.add 9) (.slice a19 l19 c19) fun w32 =>
 SetK w32 (b21.add 10) (.slice a20 l20 c20) fun w33 =>
 (0 ≤ (x8 : Int) ∧ (x8 : Int) < (l2 : Nat)) ∧
 AddrK a2 fun b34 =>
 ∃ (s35 : ByteArray), w33.cell? ((b34.add ((x8 : Int).toNat * 11)).add 0) = some (.string s35) ∧
 (∃ (s36 : ByteArray), w33.cell? ((b34.add ((x8 : Int).toNat * 11)).add 1) = some (.string s36) ∧
 (∃ (s37 : ByteArray), w33.cell? ((b34.add ((x8 : Int).toNat * 11)).add 2) = some (.string s37) ∧
 (∃ (x38 : Int), w33.cell? ((b34.add ((x8 : Int).toNat * 11)).add 3) = some (.int .i64 x38) ∧
 (∃ (s39 : ByteArray), w33.cell? ((b34.add ((x8 : Int).toNat * 11)).add 4) = some (.string s39) ∧
 (∃ (x40 : Int), w33.cell? ((b34.add ((x8 : Int).toNat * 11)).add 5) = some (.int .i64 x40) ∧
 (∃ (x41 : Int), w33.cell? ((b34.add ((x8 : Int).toNat * 11)).add 6) = some (.int .i64 x41) ∧
 (∃ (x42 : Int), w33.cell? ((b34.add ((x8 : Int).toNat * 11)).add 7) = some (.int .i64 x42) ∧
 (∃ (a43 : Option Addr) (l43 : Nat) (c43 : Nat), w33.cell? ((b34.add ((x8 : Int).toNat * 11)).add 8) = some (.slice a43 l43 c43) ∧
 (∃ (a44 : Option Addr) (l44 : Nat) (c44 : Nat), w33.cell? ((b34.add ((x8 : Int).toNat * 11)).add 9) = some (.slice a44 l44 c44) ∧
 (∃ (a45 : Option Addr) (l45 : Nat) (c45 : Nat), w33.cell? ((b34.add ((x8 : Int).toNat * 11)).add 10) = some (.slice a45 l45 c45) ∧
 (AllocK w33 (#[.string ⟨#[]⟩, .string ⟨#[]⟩, .string ⟨#[]⟩, .int .i64 0, .string ⟨#[]⟩, .int .i64 0, .int .i64 0, .int .i64 0, .slice none 0 0, .slice none 0 0, .slice none 0 0]) 37 fun b46 w47 =>
 SetK w47 (b46.add 0) (.string s35) fun w48 =>
 SetK w48 (b46.add 1) (.string s36) fun w49 =>
 SetK w49 (b46.add 2) (.string s37) fun w50 =>
 SetK w50 (b46.add 3) (.int .i64 x38) fun w51 =>
 SetK w51 (b46.add 4) (.string s39) fun w52 =>
 SetK w52 (b46.add 5) (.int .i64 x40) fun w53 =>
 SetK w53 (b46.add 6) (.int .i64 x41) fun w54 =>
 SetK w54 (b46.add 7) (.int .i64 x42) fun w55 =>
 SetK w55 (b46.add 8) (.slice a43 l43 c43) fun w56 =>
 SetK w56 (b46.add 9) (.slice a44 l44 c44) fun w57 =>
 SetK w57 (b46.add 10) (.slice a45 l45 c45) fun w58 =>
 ∃ (s59 : ByteArray), w58.cell? (b21.add 0) = some (.string s59) ∧
 (∃ (s60 : ByteArray), w58.cell? (b21.add 1) = some (.string s60) ∧
 (∃ (s61 : ByteArray), w58.cell? (b21.add 2) = some (.string s61) ∧
 (∃ (x62 : Int), w58.cell? (b21.add 3) = some (.int .i64 x62) ∧
 (∃ (s63 : ByteArray), w58.cell? (b21.add 4) = some (.string s63) ∧
 (∃ (x64 : Int), w58.cell? (b21.add 5) = some (.int .i64 x64) ∧
 (∃ (x65 : Int), w58.cell? (b21.add 6) = some (.int .i64 x65) ∧
 (∃ (x66 : Int), w58.cell? (b21.add 7) = some (.int .i64 x66) ∧
 (∃ (a67 : Option Addr) (l67 : Nat) (c67 : Nat), w58.cell? (b21.add 8) = some (.slice a67 l67 c67) ∧
 (∃ (a68 : Option Addr) (l68 : Nat) (c68 : Nat), w58.cell? (b21.add 9) = some (.slice a68 l68 c68) ∧
 (∃ (a69 : Option Addr) (l69 : Nat) (c69 : Nat), w58.cell? (b21.add 10) = some (.slice a69 l69 c69) ∧
 (∃ (s70 : ByteArray), w58.cell? (b46.add 0) = some (.string s70) ∧
 (∃ (s71 : ByteArray), w58.cell? (b46.add 1) = some (.string s71) ∧
 (∃ (s72 : ByteArray), w58.cell? (b46.add 2) = some (.string s72) ∧
 (∃ (x73 : Int), w58.cell? (b46.add 3) = some (.int .i64 x73) ∧
 (∃ (s74 : ByteArray), w58.cell? (b46.add 4) = some (.string s74) ∧
 (∃ (x75 : Int), w58.cell? (b46.add 5) = some (.int .i64 x75) ∧
 (∃ (x76 : Int), w58.cell? (b46.add 6) = some (.int .i64 x76) ∧
 (∃ (x77 : Int), w58.cell? (b46.add 7) = some (.int .i64 x77) ∧
 (∃ (a78 : Option Addr) (l78 : Nat) (c78 : Nat), w58.cell? (b46.add 8) = some (.slice a78 l78 c78) ∧
 (∃ (a79 : Option Addr) (l79 : Nat) (c79 : Nat), w58.cell? (b46.add 9) = some (.slice a79 l79 c79) ∧
 (∃ (a80 : Option Addr) (l80 : Nat) (c80 : Nat), w58.cell? (b46.add 10) = some (.slice a80 l80 c80) ∧
 (Enters Tryz.prog g3 ∧
 (Calls Tryz.prog g3 (callArgs [] [(.agg #[(.string s59), (.string s60), (.string s61), (.int .i64 x62), (.string s63), (.int .i64 x64), (.int .i64 x65), (.int .i64 x66), (.slice a67 l67 c67), (.slice a68 l68 c68), (.slice a69 l69 c69)]), (.agg #[(.string s70), (.string s71), (.string s72), (.int .i64 x73), (.string s74), (.int .i64 x75), (.int .i64 x76), (.int .i64 x77), (.slice a78 l78 c78), (.slice a79 l79 c79), (.slice a80 l80 c80)])] k4.toList) w58 fun e83 w82 =>
 ∃ (p81 : Bool), e83 = .returned (.bool p81) ∧
 (BoolK (!p81)
 (K false w82)
 (I5 (IntKind.wrap .i64 (x8 + 1)) w82 ∧ μ6 (IntKind.wrap .i64 (x8 + 1)) w82 < μ6 x8 w7))))))))))))))))))))))))))))))))))))))))))))))))
 (K true w7))
def ann13 : Ann := (.two .nil (.two (.two .nil (.two (.two .nil .nil) .nil)) (.two (.two .nil (.one (.loop [(17, (.one (.int .i64)))] [1, 2, 15, 16] (.two .nil (.two (.two .nil .nil) (.two (.one (.two .nil (.two .nil (.two .nil (.two (.two .nil .nil) .nil))))) .nil)))))) (.two .nil .nil))))
noncomputable def code13 : Code := match Tryz.f13.body with | some c => c | none => .skip
theorem wp13 (a1 : Option Addr) (l1 : Nat) (c1 : Nat) (a2 : Option Addr) (l2 : Nat) (c2 : Nat) (g3 : FuncId) (k4 : Array Value) (K : Bool → World → Prop) (w : World) : WP Tryz.prog tab code13 ann13 (fnQ tab Tryz.f13.results.toList [(.one .bool)] K) (argE 0 [(.slice a1 l1 c1), (.slice a2 l2 c2), (.func (.func g3) #[] k4)]) w = N13 a1 l1 c1 a2 l2 c2 g3 k4 K w := by kernel_rfl
theorem calls13 (a1 : Option Addr) (l1 : Nat) (c1 : Nat) (a2 : Option Addr) (l2 : Nat) (c2 : Nat) (g3 : FuncId) (k4 : Array Value) (K : Bool → World → Prop) (w : World) (h : N13 a1 l1 c1 a2 l2 c2 g3 k4 K w) : Calls Tryz.prog 13 #[(.slice a1 l1 c1), (.slice a2 l2 c2), (.func (.func g3) #[] k4)] w fun en w' => ∃ (p84 : Bool), en = .returned (.bool p84) ∧ K p84 w' :=
 have e : (fun en w' => ExShs [(.one .bool)] fun vs => en = .returned (tupled vs) ∧ ap [(.one .bool)] K vs fun p => p w') = (fun (en : Ending) (w' : World) => ∃ (p84 : Bool), en = .returned (.bool p84) ∧ K p84 w') := by kernel_rfl
 e ▸ fn_sound tabOk mixed Tryz.func13 (by kernel_rfl : Tryz.f13.body = some code13) ann13 [(.slice a1 l1 c1), (.slice a2 l2 c2), (.func (.func g3) #[] k4)] [(.one .bool)] K w (by kernel_rfl) ((wp13 a1 l1 c1 a2 l2 c2 g3 k4 K w).symm ▸ h)
end Go.Proofs.YtkneoodgoadpaacGreatDoor

namespace Go.Proofs.YtkneoodgoadpaacGreatDoor
open Go Go.V Go.Proofs
open Go.RowKit (Below)
/-! manystrand/code.Same$1 -/
def N12 (x1 : Int) (x2 : Int) (x3 : Int) (a4 : Option Addr) (l4 : Nat) (c4 : Nat) (x5 : Int) (x6 : Int) (x7 : Int) (a8 : Option Addr) (l8 : Nat) (c8 : Nat) (K : Bool → World → Prop) (w : World) : Prop :=
 AllocK w (#[(.int .i64 x1), (.int .i64 x2), (.int .i64 x3), (.slice a4 l4 c4)]) 30 fun b9 w10 =>
 AllocK w10 (#[(.int .i64 x5), (.int .i64 x6), (.int .i64 x7), (.slice a8 l8 c8)]) 30 fun b11 w12 =>
 ∃ (x13 : Int), w12.cell? b9 = some (.int .i64 x13) ∧
 (∃ (x14 : Int), w12.cell? b11 = some (.int .i64 x14) ∧
 (BoolK ((x13 : Int) == x14)
 (∃ (x15 : Int), w12.cell? (b9.add 1) = some (.int .i64 x15) ∧
 (∃ (x16 : Int), w12.cell? (b11.add 1) = some (.int .i64 x16) ∧
 (BoolK ((x15 : Int) == x16)
 (∃ (x17 : Int), w12.cell? (b9.add 2) = some (.int .i64 x17) ∧
 (∃ (x18 : Int), w12.cell? (b11.add 2) = some (.int .i64 x18) ∧
 (BoolK ((x17 : Int) == x18)
 (∃ (a19 : Option Addr) (l19 : Nat) (c19 : Nat), w12.cell? (b9.add 3) = some (.slice a19 l19 c19) ∧
 (∃ (a20 : Option Addr) (l20 : Nat) (c20 : Nat), w12.cell? (b11.add 3) = some (.slice a20 l20 c20) ∧
 (Calls Tryz.prog 13 #[(.slice a19 l19 c19), (.slice a20 l20 c20), (.func (.func 14) #[] #[])] w12 fun e23 w22 =>
 ∃ (p21 : Bool), e23 = .returned (.bool p21) ∧
 (K p21 w22))))
 (K false w12))))
 (K false w12))))
 (K false w12)))
def ann12 : Ann := (.two .nil (.two .nil .nil))
noncomputable def code12 : Code := match Tryz.f12.body with | some c => c | none => .skip
theorem wp12 (x1 : Int) (x2 : Int) (x3 : Int) (a4 : Option Addr) (l4 : Nat) (c4 : Nat) (x5 : Int) (x6 : Int) (x7 : Int) (a8 : Option Addr) (l8 : Nat) (c8 : Nat) (K : Bool → World → Prop) (w : World) : WP Tryz.prog tab code12 ann12 (fnQ tab Tryz.f12.results.toList [(.one .bool)] K) (argE 0 [(.agg #[(.int .i64 x1), (.int .i64 x2), (.int .i64 x3), (.slice a4 l4 c4)]), (.agg #[(.int .i64 x5), (.int .i64 x6), (.int .i64 x7), (.slice a8 l8 c8)])]) w = N12 x1 x2 x3 a4 l4 c4 x5 x6 x7 a8 l8 c8 K w := by kernel_rfl
theorem calls12 (x1 : Int) (x2 : Int) (x3 : Int) (a4 : Option Addr) (l4 : Nat) (c4 : Nat) (x5 : Int) (x6 : Int) (x7 : Int) (a8 : Option Addr) (l8 : Nat) (c8 : Nat) (K : Bool → World → Prop) (w : World) (h : N12 x1 x2 x3 a4 l4 c4 x5 x6 x7 a8 l8 c8 K w) : Calls Tryz.prog 12 #[(.agg #[(.int .i64 x1), (.int .i64 x2), (.int .i64 x3), (.slice a4 l4 c4)]), (.agg #[(.int .i64 x5), (.int .i64 x6), (.int .i64 x7), (.slice a8 l8 c8)])] w fun en w' => ∃ (p24 : Bool), en = .returned (.bool p24) ∧ K p24 w' :=
 have e : (fun en w' => ExShs [(.one .bool)] fun vs => en = .returned (tupled vs) ∧ ap [(.one .bool)] K vs fun p => p w') = (fun (en : Ending) (w' : World) => ∃ (p24 : Bool), en = .returned (.bool p24) ∧ K p24 w') := by kernel_rfl
 e ▸ fn_sound tabOk mixed Tryz.func12 (by kernel_rfl : Tryz.f12.body = some code12) ann12 [(.agg #[(.int .i64 x1), (.int .i64 x2), (.int .i64 x3), (.slice a4 l4 c4)]), (.agg #[(.int .i64 x5), (.int .i64 x6), (.int .i64 x7), (.slice a8 l8 c8)])] [(.one .bool)] K w (by kernel_rfl) ((wp12 x1 x2 x3 a4 l4 c4 x5 x6 x7 a8 l8 c8 K w).symm ▸ h)
end Go.Proofs.YtkneoodgoadpaacGreatDoor

namespace Go.Proofs.YtkneoodgoadpaacGreatDoor
open Go Go.V Go.Proofs
open Go.RowKit (Below)
/-! slices.EqualFunc[[]manystrand/api.Proc,[]manystrand/api.Proc,manystrand/api.Proc,manystrand/api.Proc] -/
def N11 (a1 : Option Addr) (l1 : Nat) (_c1 : Nat) (a2 : Option Addr) (l2 : Nat) (_c2 : Nat) (g3 : FuncId) (k4 : Array Value) (K : Bool → World → Prop) (w : World) : Prop :=
 BoolK (((l1 : Nat) : Int) != (l2 : Nat))
 (K false w)
 (∃ (I5 : Int → World → Prop) (μ6 : Int → World → Nat),
 (I5 0 w ∧ True) ∧
 ∀ (w7 : World) (x8 : Int), I5 x8 w7 →
 BoolK (decide ((x8 : Int) < (l1 : Nat)))
 ((0 ≤ (x8 : Int) ∧ (x8 : Int) < (l1 : Nat)) ∧
 AddrK a1 fun b9 =>
 ∃ (x10 : Int), w7.cell? ((b9.add ((x8 : Int).toNat * 4)).add 0) = some (.int .i64 x10) ∧
 (∃ (x11 : Int), w7.cell? ((b9.add ((x8 : Int).toNat * 4)).add 1) = some (.int .i64 x11) ∧
 (∃ (x12 : Int), w7.cell? ((b9.add ((x8 : Int).toNat * 4)).add 2) = some (.int .i64 x12) ∧
 (∃ (a13 : Option Addr) (l13 : Nat) (c13 : Nat), w7.cell? ((b9.add ((x8 : Int).toNat * 4)).add 3) = some (.slice a13 l13 c13) ∧
 (AllocK w7 (#[.int .i64 0, .int .i64 0, .int .i64 0, .slice none 0 0]) 30 fun b14 w15 =>
 SetK w15 (b14.add 0) (.int .i64 x10) fun w16 =>
 SetK w16 (b14.add 1) (.int .i64 x11) fun w17 =>
 SetK w17 (b14.add 2) (.int .i64 x12) fun w18 =>
 SetK w18 (b14.add 3) (.slice a13 l13 c13) fun w19 =>
 (0 ≤ (x8 : Int) ∧ (x8 : Int) < (l2 : Nat)) ∧
 AddrK a2 fun b20 =>
 ∃ (x21 : Int), w19.cell? ((b20.add ((x8 : Int).toNat * 4)).add 0) = some (.int .i64 x21) ∧
 (∃ (x22 : Int), w19.cell? ((b20.add ((x8 : Int).toNat * 4)).add 1) = some (.int .i64 x22) ∧
 (∃ (x23 : Int), w19.cell? ((b20.add ((x8 : Int).toNat * 4)).add 2) = some (.int .i64 x23) ∧
 (∃ (a24 : Option Addr) (l24 : Nat) (c24 : Nat), w19.cell? ((b20.add ((x8 : Int).toNat * 4)).add 3) = some (.slice a24 l24 c24) ∧
 (AllocK w19 (#[.int .i64 0, .int .i64 0, .int .i64 0, .slice none 0 0]) 30 fun b25 w26 =>
 SetK w26 (b25.add 0) (.int .i64 x21) fun w27 =>
 SetK w27 (b25.add 1) (.int .i64 x22) fun w28 =>
 SetK w28 (b25.add 2) (.int .i64 x23) fun w29 =>
 SetK w29 (b25.add 3) (.slice a24 l24 c24) fun w30 =>
 ∃ (x31 : Int), w30.cell? (b14.add 0) = some (.int .i64 x31) ∧
 (∃ (x32 : Int), w30.cell? (b14.add 1) = some (.int .i64 x32) ∧
 (∃ (x33 : Int), w30.cell? (b14.add 2) = some (.int .i64 x33) ∧
 (∃ (a34 : Option Addr) (l34 : Nat) (c34 : Nat), w30.cell? (b14.add 3) = some (.slice a34 l34 c34) ∧
 (∃ (x35 : Int), w30.cell? (b25.add 0) = some (.int .i64 x35) ∧
 (∃ (x36 : Int), w30.cell? (b25.add 1) = some (.int .i64 x36) ∧
 (∃ (x37 : Int), w30.cell? (b25.add 2) = some (.int .i64 x37) ∧
 (∃ (a38 : Option Addr) (l38 : Nat) (c38 : Nat), w30.cell? (b25.add 3) = some (.slice a38 l38 c38) ∧
 (Enters Tryz.prog g3 ∧
 (Calls Tryz.prog g3 (callArgs [] [(.agg #[(.int .i64 x31), (.int .i64 x32), (.int .i64 x33), (.slice a34 l34 c34)]), (.agg #[(.int .i64 x35), (.int .i64 x36), (.int .i64 x37), (.slice a38 l38 c38)])] k4.toList) w30 fun e41 w40 =>
 ∃ (p39 : Bool), e41 = .returned (.bool p39) ∧
 (BoolK (!p39)
 (K false w40)
 (I5 (IntKind.wrap .i64 (x8 + 1)) w40 ∧ μ6 (IntKind.wrap .i64 (x8 + 1)) w40 < μ6 x8 w7))))))))))))))))))))
 (K true w7))
def ann11 : Ann := (.two .nil (.two (.two .nil (.two (.two .nil .nil) .nil)) (.two (.two .nil (.one (.loop [(17, (.one (.int .i64)))] [1, 2, 15, 16] (.two .nil (.two (.two .nil .nil) (.two (.one (.two .nil (.two .nil (.two .nil (.two (.two .nil .nil) .nil))))) .nil)))))) (.two .nil .nil))))
noncomputable def code11 : Code := match Tryz.f11.body with | some c => c | none => .skip
theorem wp11 (a1 : Option Addr) (l1 : Nat) (c1 : Nat) (a2 : Option Addr) (l2 : Nat) (c2 : Nat) (g3 : FuncId) (k4 : Array Value) (K : Bool → World → Prop) (w : World) : WP Tryz.prog tab code11 ann11 (fnQ tab Tryz.f11.results.toList [(.one .bool)] K) (argE 0 [(.slice a1 l1 c1), (.slice a2 l2 c2), (.func (.func g3) #[] k4)]) w = N11 a1 l1 c1 a2 l2 c2 g3 k4 K w := by kernel_rfl
theorem calls11 (a1 : Option Addr) (l1 : Nat) (c1 : Nat) (a2 : Option Addr) (l2 : Nat) (c2 : Nat) (g3 : FuncId) (k4 : Array Value) (K : Bool → World → Prop) (w : World) (h : N11 a1 l1 c1 a2 l2 c2 g3 k4 K w) : Calls Tryz.prog 11 #[(.slice a1 l1 c1), (.slice a2 l2 c2), (.func (.func g3) #[] k4)] w fun en w' => ∃ (p42 : Bool), en = .returned (.bool p42) ∧ K p42 w' :=
 have e : (fun en w' => ExShs [(.one .bool)] fun vs => en = .returned (tupled vs) ∧ ap [(.one .bool)] K vs fun p => p w') = (fun (en : Ending) (w' : World) => ∃ (p42 : Bool), en = .returned (.bool p42) ∧ K p42 w') := by kernel_rfl
 e ▸ fn_sound tabOk mixed Tryz.func11 (by kernel_rfl : Tryz.f11.body = some code11) ann11 [(.slice a1 l1 c1), (.slice a2 l2 c2), (.func (.func g3) #[] k4)] [(.one .bool)] K w (by kernel_rfl) ((wp11 a1 l1 c1 a2 l2 c2 g3 k4 K w).symm ▸ h)
end Go.Proofs.YtkneoodgoadpaacGreatDoor

namespace Go.Proofs.YtkneoodgoadpaacGreatDoor
open Go Go.V Go.Proofs
open Go.RowKit (Below)
/-! manystrand/code.Same -/
def N6 (a1 : Option Addr) (l1 : Nat) (c1 : Nat) (a2 : Option Addr) (l2 : Nat) (c2 : Nat) (K : Bool → World → Prop) (w : World) : Prop :=
 AllocK w (#[(.slice a1 l1 c1)]) 24 fun b3 w4 =>
 AllocK w4 (#[(.slice a2 l2 c2)]) 24 fun b5 w6 =>
 ∃ (a7 : Option Addr) (l7 : Nat) (c7 : Nat), w6.cell? b3 = some (.slice a7 l7 c7) ∧
 (∃ (a8 : Option Addr) (l8 : Nat) (c8 : Nat), w6.cell? b5 = some (.slice a8 l8 c8) ∧
 (Calls Tryz.prog 11 #[(.slice a7 l7 c7), (.slice a8 l8 c8), (.func (.func 12) #[] #[])] w6 fun e11 w10 =>
 ∃ (p9 : Bool), e11 = .returned (.bool p9) ∧
 (K p9 w10)))
def ann6 : Ann := (.two .nil (.two .nil .nil))
noncomputable def code6 : Code := match Tryz.f6.body with | some c => c | none => .skip
theorem wp6 (a1 : Option Addr) (l1 : Nat) (c1 : Nat) (a2 : Option Addr) (l2 : Nat) (c2 : Nat) (K : Bool → World → Prop) (w : World) : WP Tryz.prog tab code6 ann6 (fnQ tab Tryz.f6.results.toList [(.one .bool)] K) (argE 0 [(.agg #[(.slice a1 l1 c1)]), (.agg #[(.slice a2 l2 c2)])]) w = N6 a1 l1 c1 a2 l2 c2 K w := by kernel_rfl
theorem calls6 (a1 : Option Addr) (l1 : Nat) (c1 : Nat) (a2 : Option Addr) (l2 : Nat) (c2 : Nat) (K : Bool → World → Prop) (w : World) (h : N6 a1 l1 c1 a2 l2 c2 K w) : Calls Tryz.prog 6 #[(.agg #[(.slice a1 l1 c1)]), (.agg #[(.slice a2 l2 c2)])] w fun en w' => ∃ (p12 : Bool), en = .returned (.bool p12) ∧ K p12 w' :=
 have e : (fun en w' => ExShs [(.one .bool)] fun vs => en = .returned (tupled vs) ∧ ap [(.one .bool)] K vs fun p => p w') = (fun (en : Ending) (w' : World) => ∃ (p12 : Bool), en = .returned (.bool p12) ∧ K p12 w') := by kernel_rfl
 e ▸ fn_sound tabOk mixed Tryz.func6 (by kernel_rfl : Tryz.f6.body = some code6) ann6 [(.agg #[(.slice a1 l1 c1)]), (.agg #[(.slice a2 l2 c2)])] [(.one .bool)] K w (by kernel_rfl) ((wp6 a1 l1 c1 a2 l2 c2 K w).symm ▸ h)
end Go.Proofs.YtkneoodgoadpaacGreatDoor

namespace Go.Proofs.YtkneoodgoadpaacGreatDoor
open Go Go.V Go.Proofs
open Go.RowKit (Below)
theorem fill_ok {b t : Nat} {w : World} {F : World → Prop} (hb : w.heap.size ≤ b) : ∀ (vs : List Value) (i : Nat) (cur : Array Value) (w1 : World), Blk w1 b cur t → i + vs.length ≤ cur.size → Ext w w1 → (∀ w', Blk w' b (putL cur i vs) t → Ext w w' → F w') → StCs vs w1 ⟨b, 0, none⟩ i F
  | [], i, cur, w1, h, _, x, k => k w1 h x
  | v :: vs, i, cur, w1, h, hl, x, k => by
    show SetK w1 ((⟨b, 0, none⟩ : Addr).add i) v _
    rw [add_mk, Nat.zero_add]
    simp only [List.length_cons] at hl
    exact SetK.mk h (by omega) fun w2 h2 bu => fill_ok hb vs (i + 1) _ w2 h2 (by simp; omega) (bu.below x hb) k
theorem local_fill {w : World} {zs : List Value} {t : Nat} (vs : List Value) (hl : vs.length = zs.length) {F : Addr → World → Prop}
    (h : ∀ (b : Nat) (w' : World), Blk w' b vs.toArray t → Ext w w' → F ⟨b, 0, none⟩ w') : AllocK w zs.toArray t fun p w1 => StCs vs w1 p 0 fun w2 => F p w2 := by
  refine AllocK.mk fun b w1 hb h1 hx => ?_
  refine fill_ok (w := w) (by omega) vs 0 _ w1 h1 (by simp [hl]) hx fun w' hB x' => h b w' ?_ x'
  have : putL zs.toArray 0 vs = vs.toArray := by
    apply Array.ext_getElem?
    intro j
    rw [putL_get _ _ _ (by simp [hl])]
    split
    · simp
    · rename_i hj
      rw [Array.getElem?_eq_none (by simp; omega), Array.getElem?_eq_none (by simp; omega)]
  rw [← this]; exact hB
structure InsD where
  dO : ByteArray
  nm : ByteArray
  A : Rg
  B : Rg
  n : Int
  t : Int
  rs : List Rg
  fs : List Ft
  ts : List Int
theorem insEq : ∀ {X Y : InsD}, X.dO = Y.dO → X.nm = Y.nm → X.A = Y.A → X.B = Y.B → X.n = Y.n → X.t = Y.t → X.rs = Y.rs → X.fs = Y.fs → X.ts = Y.ts → X = Y
  | ⟨_, _, _, _, _, _, _, _, _⟩, ⟨_, _, _, _, _, _, _, _, _⟩, rfl, rfl, rfl, rfl, rfl, rfl, rfl, rfl, rfl => rfl
structure ProcD where
  p : Int
  l : Int
  c : Int
  ins : List InsD
def RIns (w : World) (f : Cells) (x : InsD) : Prop :=
  f 0 = some (.string x.dO) ∧ f 1 = some (.string x.nm) ∧ f 2 = some (.string x.A.1) ∧ f 3 = some (.int .i64 x.A.2) ∧ f 4 = some (.string x.B.1) ∧ f 5 = some (.int .i64 x.B.2) ∧ f 6 = some (.int .i64 x.n) ∧ f 7 = some (.int .i64 x.t) ∧
  (∃ a l c, f 8 = some (.slice a l c) ∧ RL 2 RRg w a l x.rs) ∧ (∃ a l c, f 9 = some (.slice a l c) ∧ RL 2 RFt w a l x.fs) ∧ (∃ a l c, f 10 = some (.slice a l c) ∧ RL 1 RInt w a l x.ts)
theorem RIns.mono : Mono RIns := fun w w' f g x hw k h => by
  obtain ⟨h0, h1, h2, h3, h4, h5, h6, h7, ⟨a, l, c, h8, r8⟩, ⟨a', l', c', h9, r9⟩, ⟨a2, l2, c2, h10, r10⟩⟩ := h
  exact ⟨k _ _ h0, k _ _ h1, k _ _ h2, k _ _ h3, k _ _ h4, k _ _ h5, k _ _ h6, k _ _ h7, ⟨a, l, c, k _ _ h8, r8.ext RRg.mono hw⟩, ⟨a', l', c', k _ _ h9, r9.ext RFt.mono hw⟩, ⟨a2, l2, c2, k _ _ h10, r10.ext RInt.mono hw⟩⟩
def RPr (w : World) (f : Cells) (x : ProcD) : Prop := f 0 = some (.int .i64 x.p) ∧ f 1 = some (.int .i64 x.l) ∧ f 2 = some (.int .i64 x.c) ∧ ∃ a l c, f 3 = some (.slice a l c) ∧ RL 11 RIns w a l x.ins
theorem RPr.mono : Mono RPr := fun w w' f g x hw k h => by
  obtain ⟨h0, h1, h2, ⟨a, l, c, h3, r3⟩⟩ := h
  exact ⟨k _ _ h0, k _ _ h1, k _ _ h2, ⟨a, l, c, k _ _ h3, r3.ext RIns.mono hw⟩⟩
theorem strF {s : ByteArray} (h : (s.toList == s.toList) = false) : False := by simp at h
theorem agF {s : ByteArray} {x : Int} (h : ((s == s) && ((x == x) && true)) = false) : False := by
  rw [← Bool.not_eq_true] at h
  exact h (by simp only [Bool.and_eq_true, ba_iff, beq_self_eq_true, and_self])
theorem agT {a b : Rg} (h : ((a.1 == b.1) && ((a.2 == b.2) && true)) = true) : a = b := by
  simp only [Bool.and_eq_true, ba_iff, beq_iff_eq, and_true] at h
  exact Prod.ext h.1 h.2
theorem c14 (w : World) (X Y : InsD) {a9 a10 a11 a20 a21 a22 : Option Addr} {l9 l10 l11 l20 l21 l22 : Nat} (c9 c10 c11 c20 c21 c22 : Nat) (hX : RL 2 RRg w a9 l9 X.rs ∧ RL 2 RFt w a10 l10 X.fs ∧ RL 1 RInt w a11 l11 X.ts) (hY : RL 2 RRg w a20 l20 Y.rs ∧ RL 2 RFt w a21 l21 Y.fs ∧ RL 1 RInt w a22 l22 Y.ts) :
    Calls Tryz.prog 14 #[.agg #[.string X.dO, .string X.nm, .string X.A.1, .int .i64 X.A.2, .string X.B.1, .int .i64 X.B.2, .int .i64 X.n, .int .i64 X.t, .slice a9 l9 c9, .slice a10 l10 c10, .slice a11 l11 c11],
      .agg #[.string Y.dO, .string Y.nm, .string Y.A.1, .int .i64 Y.A.2, .string Y.B.1, .int .i64 Y.B.2, .int .i64 Y.n, .int .i64 Y.t, .slice a20 l20 c20, .slice a21 l21 c21, .slice a22 l22 c22]] w fun en w' => ∃ p, en = .returned (.bool p) ∧ Cmp X Y w p w' := by
  refine calls14 _ _ _ _ _ _ _ _ _ _ _ _ _ _ _ _ _ _ _ _ _ _ _ _ _ _ _ _ _ _ _ _ _ _ (fun p w' => Cmp X Y w p w') w ?_
  refine AllocK.mk fun b23 w24 hb hB x24 => ?_
  refine AllocK.mk fun b25 w26 hb' hB' x26 => ?_
  have hA := hB.ext x26
  have x := x24.trans x26
  refine ⟨X.dO, by rw [hA.cell]; rfl, Y.dO, by rw [hB'.cell]; rfl, BoolK.mk (fun t1 => ?_) (fun t1 => Cmp.no (fun e => by subst e; exact strF t1) x)⟩
  have t1 := tl_iff.1 t1
  refine ⟨X.nm, by rw [add_mk, hA.cell]; rfl, Y.nm, by rw [add_mk, hB'.cell]; rfl, BoolK.mk (fun t2 => ?_) (fun t2 => Cmp.no (fun e => by subst e; exact strF t2) x)⟩
  have t2 := tl_iff.1 t2
  refine ⟨X.A.1, by rw [add_mk, add_mk, hA.cell]; rfl, X.A.2, by rw [add_mk, add_mk, hA.cell]; rfl, Y.A.1, by rw [add_mk, add_mk, hB'.cell]; rfl, Y.A.2, by rw [add_mk, add_mk, hB'.cell]; rfl, BoolK.mk (fun t3 => ?_) (fun t3 => Cmp.no (fun e => by subst e; exact agF t3) x)⟩
  have t3 := agT t3
  refine ⟨X.B.1, by rw [add_mk, add_mk, hA.cell]; rfl, X.B.2, by rw [add_mk, add_mk, hA.cell]; rfl, Y.B.1, by rw [add_mk, add_mk, hB'.cell]; rfl, Y.B.2, by rw [add_mk, add_mk, hB'.cell]; rfl, BoolK.mk (fun t4 => ?_) (fun t4 => Cmp.no (fun e => by subst e; exact agF t4) x)⟩
  have t4 := agT t4
  refine ⟨X.n, by rw [add_mk, hA.cell]; rfl, Y.n, by rw [add_mk, hB'.cell]; rfl, BoolK.mk (fun t5 => ?_) (fun t5 => Cmp.no (fun e => by subst e; simp at t5) x)⟩
  have t5 : X.n = Y.n := by simpa using t5
  refine ⟨X.t, by rw [add_mk, hA.cell]; rfl, Y.t, by rw [add_mk, hB'.cell]; rfl, BoolK.mk (fun t6 => ?_) (fun t6 => Cmp.no (fun e => by subst e; simp at t6) x)⟩
  have t6 : X.t = Y.t := by simpa using t6
  refine ⟨a9, l9, c9, by rw [add_mk, hA.cell]; rfl, a20, l20, c20, by rw [add_mk, hB'.cell]; rfl, ?_⟩
  refine (c15 w26 c9 c20 (hX.1.ext RRg.mono x) (hY.1.ext RRg.mono x)).mono ?_
  rintro en w46 ⟨p, rfl, hp, x46⟩
  have y := x.trans x46
  refine ⟨p, rfl, BoolK.mk (fun t7 => ?_) (fun t7 => Cmp.no (fun e => by subst e; rw [hp.2 rfl] at t7; cases t7) y)⟩
  have t7 := hp.1 t7
  refine ⟨a10, l10, c10, by rw [add_mk, (hA.ext x46).cell]; rfl, a21, l21, c21, by rw [add_mk, (hB'.ext x46).cell]; rfl, ?_⟩
  refine (c16 w46 c10 c21 (hX.2.1.ext RFt.mono y) (hY.2.1.ext RFt.mono y)).mono ?_
  rintro en w51 ⟨p2, rfl, hp2, x51⟩
  have z := y.trans x51
  refine ⟨p2, rfl, BoolK.mk (fun t8 => ?_) (fun t8 => Cmp.no (fun e => by subst e; rw [hp2.2 rfl] at t8; cases t8) z)⟩
  have t8 := hp2.1 t8
  refine ⟨a11, l11, c11, by rw [add_mk, ((hA.ext x46).ext x51).cell]; rfl, a22, l22, c22, by rw [add_mk, ((hB'.ext x46).ext x51).cell]; rfl, ?_⟩
  refine (c17 w51 c11 c22 (hX.2.2.ext RInt.mono z) (hY.2.2.ext RInt.mono z)).mono ?_
  rintro en w56 ⟨p3, rfl, hp3, x56⟩
  refine ⟨p3, rfl, ⟨fun e => ?_, fun e => hp3.2 (by rw [e])⟩, z.trans x56⟩
  have t9 := hp3.1 e
  exact insEq t1 t2 t3 t4 t5 t6 t7 t8 t9
theorem c18 (w : World) (X Y : InsD) {a9 a10 a11 a20 a21 a22 : Option Addr} {l9 l10 l11 l20 l21 l22 : Nat} (c9 c10 c11 c20 c21 c22 : Nat) (hX : RL 2 RRg w a9 l9 X.rs ∧ RL 2 RFt w a10 l10 X.fs ∧ RL 1 RInt w a11 l11 X.ts) (hY : RL 2 RRg w a20 l20 Y.rs ∧ RL 2 RFt w a21 l21 Y.fs ∧ RL 1 RInt w a22 l22 Y.ts) :
    Calls Tryz.prog 18 #[.agg #[.string X.dO, .string X.nm, .string X.A.1, .int .i64 X.A.2, .string X.B.1, .int .i64 X.B.2, .int .i64 X.n, .int .i64 X.t, .slice a9 l9 c9, .slice a10 l10 c10, .slice a11 l11 c11],
      .agg #[.string Y.dO, .string Y.nm, .string Y.A.1, .int .i64 Y.A.2, .string Y.B.1, .int .i64 Y.B.2, .int .i64 Y.n, .int .i64 Y.t, .slice a20 l20 c20, .slice a21 l21 c21, .slice a22 l22 c22]] w fun en w' => ∃ p, en = .returned (.bool p) ∧ Cmp X Y w p w' := by
  refine calls18 _ _ _ _ _ _ _ _ _ _ _ _ _ _ _ _ _ _ _ _ _ _ _ _ _ _ _ _ _ _ _ _ _ _ (fun p w' => Cmp X Y w p w') w ?_
  refine AllocK.mk fun b23 w24 hb hB x24 => ?_
  refine AllocK.mk fun b25 w26 hb' hB' x26 => ?_
  have hA := hB.ext x26
  have x := x24.trans x26
  refine ⟨X.dO, by rw [hA.cell]; rfl, Y.dO, by rw [hB'.cell]; rfl, BoolK.mk (fun t1 => ?_) (fun t1 => Cmp.no (fun e => by subst e; exact strF t1) x)⟩
  have t1 := tl_iff.1 t1
  refine ⟨X.nm, by rw [add_mk, hA.cell]; rfl, Y.nm, by rw [add_mk, hB'.cell]; rfl, BoolK.mk (fun t2 => ?_) (fun t2 => Cmp.no (fun e => by subst e; exact strF t2) x)⟩
  have t2 := tl_iff.1 t2
  refine ⟨X.A.1, by rw [add_mk, add_mk, hA.cell]; rfl, X.A.2, by rw [add_mk, add_mk, hA.cell]; rfl, Y.A.1, by rw [add_mk, add_mk, hB'.cell]; rfl, Y.A.2, by rw [add_mk, add_mk, hB'.cell]; rfl, BoolK.mk (fun t3 => ?_) (fun t3 => Cmp.no (fun e => by subst e; exact agF t3) x)⟩
  have t3 := agT t3
  refine ⟨X.B.1, by rw [add_mk, add_mk, hA.cell]; rfl, X.B.2, by rw [add_mk, add_mk, hA.cell]; rfl, Y.B.1, by rw [add_mk, add_mk, hB'.cell]; rfl, Y.B.2, by rw [add_mk, add_mk, hB'.cell]; rfl, BoolK.mk (fun t4 => ?_) (fun t4 => Cmp.no (fun e => by subst e; exact agF t4) x)⟩
  have t4 := agT t4
  refine ⟨X.n, by rw [add_mk, hA.cell]; rfl, Y.n, by rw [add_mk, hB'.cell]; rfl, BoolK.mk (fun t5 => ?_) (fun t5 => Cmp.no (fun e => by subst e; simp at t5) x)⟩
  have t5 : X.n = Y.n := by simpa using t5
  refine ⟨X.t, by rw [add_mk, hA.cell]; rfl, Y.t, by rw [add_mk, hB'.cell]; rfl, BoolK.mk (fun t6 => ?_) (fun t6 => Cmp.no (fun e => by subst e; simp at t6) x)⟩
  have t6 : X.t = Y.t := by simpa using t6
  refine ⟨a9, l9, c9, by rw [add_mk, hA.cell]; rfl, a20, l20, c20, by rw [add_mk, hB'.cell]; rfl, ?_⟩
  refine (c27 w26 c9 c20 (hX.1.ext RRg.mono x) (hY.1.ext RRg.mono x)).mono ?_
  rintro en w46 ⟨p, rfl, hp, x46⟩
  have y := x.trans x46
  refine ⟨p, rfl, BoolK.mk (fun t7 => ?_) (fun t7 => Cmp.no (fun e => by subst e; rw [hp.2 rfl] at t7; cases t7) y)⟩
  have t7 := hp.1 t7
  refine ⟨a10, l10, c10, by rw [add_mk, (hA.ext x46).cell]; rfl, a21, l21, c21, by rw [add_mk, (hB'.ext x46).cell]; rfl, ?_⟩
  refine (c28 w46 c10 c21 (hX.2.1.ext RFt.mono y) (hY.2.1.ext RFt.mono y)).mono ?_
  rintro en w51 ⟨p2, rfl, hp2, x51⟩
  have z := y.trans x51
  refine ⟨p2, rfl, BoolK.mk (fun t8 => ?_) (fun t8 => Cmp.no (fun e => by subst e; rw [hp2.2 rfl] at t8; cases t8) z)⟩
  have t8 := hp2.1 t8
  refine ⟨a11, l11, c11, by rw [add_mk, ((hA.ext x46).ext x51).cell]; rfl, a22, l22, c22, by rw [add_mk, ((hB'.ext x46).ext x51).cell]; rfl, ?_⟩
  refine (c29 w51 c11 c22 (hX.2.2.ext RInt.mono z) (hY.2.2.ext RInt.mono z)).mono ?_
  rintro en w56 ⟨p3, rfl, hp3, x56⟩
  refine ⟨p3, rfl, ⟨fun e => ?_, fun e => hp3.2 (by rw [e])⟩, z.trans x56⟩
  have t9 := hp3.1 e
  exact insEq t1 t2 t3 t4 t5 t6 t7 t8 t9
end Go.Proofs.YtkneoodgoadpaacGreatDoor

namespace Go.Proofs.YtkneoodgoadpaacGreatDoor
open Go Go.V Go.Proofs
open Go.RowKit (Below)
theorem c13 (w : World) {a1 a2 : Option Addr} {l1 l2 : Nat} (c1 c2 : Nat) {xs ys : List InsD} (h1 : RL 11 RIns w a1 l1 xs) (h2 : RL 11 RIns w a2 l2 ys) :
    Calls Tryz.prog 13 #[.slice a1 l1 c1, .slice a2 l2 c2, .func (.func 14) #[] #[]] w fun en w' => ∃ p, en = .returned (.bool p) ∧ Cmp xs ys w p w' := by
  refine calls13 _ _ _ _ _ _ _ _ (fun p w' => Cmp xs ys w p w') w ?_
  refine BoolK.mk (fun t => Cmp.no (fun e => ?_) (Ext.refl _)) (fun t => ?_)
  · have := h1.1.1; have := h2.1.1
    subst e
    simp at t; omega
  have e : l1 = l2 := by simp at t; omega
  subst e
  have hm := h1.2
  simp only [maxLen] at hm
  refine ⟨fun i w' => 0 ≤ i ∧ i ≤ l1 ∧ Ext w w' ∧ ∀ j, j < i.toNat → xs[j]? = ys[j]?, fun i _ => l1 - i.toNat, ⟨⟨Int.le_refl 0, by omega, Ext.refl _, fun j hj => by simp at hj⟩, trivial⟩, ?_⟩
  rintro w5 i ⟨i0, i1, x5, hall⟩
  refine BoolK.mk (fun t => ?_) (fun t => ?_)
  · have t := of_decide_eq_true t
    have hj1 : i.toNat < xs.length := by rw [← h1.1.1]; omega
    have hj2 : i.toNat < ys.length := by rw [← h2.1.1]; omega
    obtain ⟨b1, o1, e1, hy1⟩ := (h1.1.ext RIns.mono x5).get hj1
    generalize hX : xs[i.toNat] = X at hy1
    obtain ⟨p0x, p1x, p2x, p3x, p4x, p5x, p6x, p7x, ⟨a8x, l8x, k8x, p8x, r8x⟩, ⟨a9x, l9x, k9x, p9x, r9x⟩, ⟨a10x, l10x, k10x, p10x, r10x⟩⟩ := hy1
    refine ⟨⟨i0, t⟩, adK e1 ⟨_, (by rw [add_mk, add_mk]; exact p0x), _, (by rw [add_mk, add_mk]; exact p1x), _, (by rw [add_mk, add_mk]; exact p2x), _, (by rw [add_mk, add_mk]; exact p3x), _, (by rw [add_mk, add_mk]; exact p4x), _, (by rw [add_mk, add_mk]; exact p5x), _, (by rw [add_mk, add_mk]; exact p6x), _, (by rw [add_mk, add_mk]; exact p7x), a8x, l8x, k8x, (by rw [add_mk, add_mk]; exact p8x), a9x, l9x, k9x, (by rw [add_mk, add_mk]; exact p9x), a10x, l10x, k10x, (by rw [add_mk, add_mk]; exact p10x), ?_⟩⟩
    refine local_fill [.string X.dO, .string X.nm, .string X.A.1, .int .i64 X.A.2, .string X.B.1, .int .i64 X.B.2, .int .i64 X.n, .int .i64 X.t, .slice a8x l8x k8x, .slice a9x l9x k9x, .slice a10x l10x k10x] (by rfl) fun b w6 hA x6 => ?_
    have y6 := x5.trans x6
    obtain ⟨b2, o2, e2, hy2⟩ := (h2.1.ext RIns.mono y6).get hj2
    generalize hY : ys[i.toNat] = Y at hy2
    obtain ⟨p0y, p1y, p2y, p3y, p4y, p5y, p6y, p7y, ⟨a8y, l8y, k8y, p8y, r8y⟩, ⟨a9y, l9y, k9y, p9y, r9y⟩, ⟨a10y, l10y, k10y, p10y, r10y⟩⟩ := hy2
    refine ⟨⟨i0, t⟩, adK e2 ⟨_, (by rw [add_mk, add_mk]; exact p0y), _, (by rw [add_mk, add_mk]; exact p1y), _, (by rw [add_mk, add_mk]; exact p2y), _, (by rw [add_mk, add_mk]; exact p3y), _, (by rw [add_mk, add_mk]; exact p4y), _, (by rw [add_mk, add_mk]; exact p5y), _, (by rw [add_mk, add_mk]; exact p6y), _, (by rw [add_mk, add_mk]; exact p7y), a8y, l8y, k8y, (by rw [add_mk, add_mk]; exact p8y), a9y, l9y, k9y, (by rw [add_mk, add_mk]; exact p9y), a10y, l10y, k10y, (by rw [add_mk, add_mk]; exact p10y), ?_⟩⟩
    refine local_fill [.string Y.dO, .string Y.nm, .string Y.A.1, .int .i64 Y.A.2, .string Y.B.1, .int .i64 Y.B.2, .int .i64 Y.n, .int .i64 Y.t, .slice a8y l8y k8y, .slice a9y l9y k9y, .slice a10y l10y k10y] (by rfl) fun b' w7 hB x7 => ?_
    have y7 := y6.trans x7
    have hA := hA.ext x7
    refine ⟨X.dO, (by rw [add_mk, hA.cell]; rfl), X.nm, (by rw [add_mk, hA.cell]; rfl), X.A.1, (by rw [add_mk, hA.cell]; rfl), X.A.2, (by rw [add_mk, hA.cell]; rfl), X.B.1, (by rw [add_mk, hA.cell]; rfl), X.B.2, (by rw [add_mk, hA.cell]; rfl), X.n, (by rw [add_mk, hA.cell]; rfl), X.t, (by rw [add_mk, hA.cell]; rfl), a8x, l8x, k8x, (by rw [add_mk, hA.cell]; rfl), a9x, l9x, k9x, (by rw [add_mk, hA.cell]; rfl), a10x, l10x, k10x, (by rw [add_mk, hA.cell]; rfl), Y.dO, (by rw [add_mk, hB.cell]; rfl), Y.nm, (by rw [add_mk, hB.cell]; rfl), Y.A.1, (by rw [add_mk, hB.cell]; rfl), Y.A.2, (by rw [add_mk, hB.cell]; rfl), Y.B.1, (by rw [add_mk, hB.cell]; rfl), Y.B.2, (by rw [add_mk, hB.cell]; rfl), Y.n, (by rw [add_mk, hB.cell]; rfl), Y.t, (by rw [add_mk, hB.cell]; rfl), a8y, l8y, k8y, (by rw [add_mk, hB.cell]; rfl), a9y, l9y, k9y, (by rw [add_mk, hB.cell]; rfl), a10y, l10y, k10y, (by rw [add_mk, hB.cell]; rfl), Tryz.call14, ?_⟩
    refine (c14 w7 X Y k8x k9x k10x k8y k9y k10y ⟨r8x.ext RRg.mono (x6.trans x7), r9x.ext RFt.mono (x6.trans x7), r10x.ext RInt.mono (x6.trans x7)⟩ ⟨r8y.ext RRg.mono x7, r9y.ext RFt.mono x7, r10y.ext RInt.mono x7⟩).mono ?_
    rintro en w8 ⟨p, rfl, hp, x8⟩
    have z := y7.trans x8
    refine ⟨p, rfl, BoolK.mk (fun q => Cmp.no (fun e => ?_) z) (fun q => ?_)⟩
    · rw [hp.2 (by rw [← hX, ← hY]; simp only [e])] at q; cases q
    · have hq : xs[i.toNat]? = ys[i.toNat]? := by
        rw [List.getElem?_eq_getElem hj1, List.getElem?_eq_getElem hj2, hX, hY, hp.1 (by simpa using q)]
      rw [wrap_id] <;> first | omega | (refine ⟨⟨by omega, by omega, z, fun j hj => ?_⟩, by show l1 - (i + 1).toNat < l1 - i.toNat; omega⟩)
      rcases Nat.lt_or_ge j i.toNat with hj2 | hj2
      · exact hall j hj2
      · have : j = i.toNat := by omega
        rw [this]; exact hq
  · have t := of_decide_eq_false t
    exact Cmp.yes (eq_of_all h1.1.1 h2.1.1 fun j hj => hall j (by omega)) x5
theorem prEq : ∀ {X Y : ProcD}, X.p = Y.p → X.l = Y.l → X.c = Y.c → X.ins = Y.ins → X = Y
  | ⟨_, _, _, _⟩, ⟨_, _, _, _⟩, rfl, rfl, rfl, rfl => rfl
theorem c12 (w : World) (X Y : ProcD) {a1 a2 : Option Addr} {l1 l2 : Nat} (c1 c2 : Nat) (hX : RL 11 RIns w a1 l1 X.ins) (hY : RL 11 RIns w a2 l2 Y.ins) :
    Calls Tryz.prog 12 #[.agg #[.int .i64 X.p, .int .i64 X.l, .int .i64 X.c, .slice a1 l1 c1], .agg #[.int .i64 Y.p, .int .i64 Y.l, .int .i64 Y.c, .slice a2 l2 c2]] w fun en w' => ∃ p, en = .returned (.bool p) ∧ Cmp X Y w p w' := by
  refine calls12 _ _ _ _ _ _ _ _ _ _ _ _ (fun p w' => Cmp X Y w p w') w ?_
  refine AllocK.mk fun b23 w24 hb hB x24 => ?_
  refine AllocK.mk fun b25 w26 hb' hB' x26 => ?_
  have hA := hB.ext x26
  have x := x24.trans x26
  refine ⟨X.p, by rw [hA.cell]; rfl, Y.p, by rw [hB'.cell]; rfl, BoolK.mk (fun t1 => ?_) (fun t1 => Cmp.no (fun e => by subst e; simp at t1) x)⟩
  refine ⟨X.l, by rw [add_mk, hA.cell]; rfl, Y.l, by rw [add_mk, hB'.cell]; rfl, BoolK.mk (fun t2 => ?_) (fun t2 => Cmp.no (fun e => by subst e; simp at t2) x)⟩
  refine ⟨X.c, by rw [add_mk, hA.cell]; rfl, Y.c, by rw [add_mk, hB'.cell]; rfl, BoolK.mk (fun t3 => ?_) (fun t3 => Cmp.no (fun e => by subst e; simp at t3) x)⟩
  refine ⟨a1, l1, c1, by rw [add_mk, hA.cell]; rfl, a2, l2, c2, by rw [add_mk, hB'.cell]; rfl, ?_⟩
  refine (c13 w26 c1 c2 (hX.ext RIns.mono x) (hY.ext RIns.mono x)).mono ?_
  rintro en w46 ⟨p, rfl, hp, x46⟩
  refine ⟨p, rfl, ⟨fun e => prEq (by simpa using t1) (by simpa using t2) (by simpa using t3) (hp.1 e), fun e => hp.2 (by rw [e])⟩, x.trans x46⟩
theorem c11 (w : World) {a1 a2 : Option Addr} {l1 l2 : Nat} (c1 c2 : Nat) {xs ys : List ProcD} (h1 : RL 4 RPr w a1 l1 xs) (h2 : RL 4 RPr w a2 l2 ys) :
    Calls Tryz.prog 11 #[.slice a1 l1 c1, .slice a2 l2 c2, .func (.func 12) #[] #[]] w fun en w' => ∃ p, en = .returned (.bool p) ∧ Cmp xs ys w p w' := by
  refine calls11 _ _ _ _ _ _ _ _ (fun p w' => Cmp xs ys w p w') w ?_
  refine BoolK.mk (fun t => Cmp.no (fun e => ?_) (Ext.refl _)) (fun t => ?_)
  · have := h1.1.1; have := h2.1.1
    subst e
    simp at t; omega
  have e : l1 = l2 := by simp at t; omega
  subst e
  have hm := h1.2
  simp only [maxLen] at hm
  refine ⟨fun i w' => 0 ≤ i ∧ i ≤ l1 ∧ Ext w w' ∧ ∀ j, j < i.toNat → xs[j]? = ys[j]?, fun i _ => l1 - i.toNat, ⟨⟨Int.le_refl 0, by omega, Ext.refl _, fun j hj => by simp at hj⟩, trivial⟩, ?_⟩
  rintro w5 i ⟨i0, i1, x5, hall⟩
  refine BoolK.mk (fun t => ?_) (fun t => ?_)
  · have t := of_decide_eq_true t
    have hj1 : i.toNat < xs.length := by rw [← h1.1.1]; omega
    have hj2 : i.toNat < ys.length := by rw [← h2.1.1]; omega
    obtain ⟨b1, o1, e1, hy1⟩ := (h1.1.ext RPr.mono x5).get hj1
    generalize hX : xs[i.toNat] = X at hy1
    obtain ⟨p0x, p1x, p2x, ⟨a3x, l3x, k3x, p3x, r3x⟩⟩ := hy1
    refine ⟨⟨i0, t⟩, adK e1 ⟨_, (by rw [add_mk, add_mk]; exact p0x), _, (by rw [add_mk, add_mk]; exact p1x), _, (by rw [add_mk, add_mk]; exact p2x), a3x, l3x, k3x, (by rw [add_mk, add_mk]; exact p3x), ?_⟩⟩
    refine local_fill [.int .i64 X.p, .int .i64 X.l, .int .i64 X.c, .slice a3x l3x k3x] (by rfl) fun b w6 hA x6 => ?_
    have y6 := x5.trans x6
    obtain ⟨b2, o2, e2, hy2⟩ := (h2.1.ext RPr.mono y6).get hj2
    generalize hY : ys[i.toNat] = Y at hy2
    obtain ⟨p0y, p1y, p2y, ⟨a3y, l3y, k3y, p3y, r3y⟩⟩ := hy2
    refine ⟨⟨i0, t⟩, adK e2 ⟨_, (by rw [add_mk, add_mk]; exact p0y), _, (by rw [add_mk, add_mk]; exact p1y), _, (by rw [add_mk, add_mk]; exact p2y), a3y, l3y, k3y, (by rw [add_mk, add_mk]; exact p3y), ?_⟩⟩
    refine local_fill [.int .i64 Y.p, .int .i64 Y.l, .int .i64 Y.c, .slice a3y l3y k3y] (by rfl) fun b' w7 hB x7 => ?_
    have y7 := y6.trans x7
    have hA := hA.ext x7
    refine ⟨X.p, (by rw [add_mk, hA.cell]; rfl), X.l, (by rw [add_mk, hA.cell]; rfl), X.c, (by rw [add_mk, hA.cell]; rfl), a3x, l3x, k3x, (by rw [add_mk, hA.cell]; rfl), Y.p, (by rw [add_mk, hB.cell]; rfl), Y.l, (by rw [add_mk, hB.cell]; rfl), Y.c, (by rw [add_mk, hB.cell]; rfl), a3y, l3y, k3y, (by rw [add_mk, hB.cell]; rfl), Tryz.call12, ?_⟩
    refine (c12 w7 X Y k3x k3y (r3x.ext RIns.mono (x6.trans x7)) (r3y.ext RIns.mono x7)).mono ?_
    rintro en w8 ⟨p, rfl, hp, x8⟩
    have z := y7.trans x8
    refine ⟨p, rfl, BoolK.mk (fun q => Cmp.no (fun e => ?_) z) (fun q => ?_)⟩
    · rw [hp.2 (by rw [← hX, ← hY]; simp only [e])] at q; cases q
    · have hq : xs[i.toNat]? = ys[i.toNat]? := by
        rw [List.getElem?_eq_getElem hj1, List.getElem?_eq_getElem hj2, hX, hY, hp.1 (by simpa using q)]
      rw [wrap_id] <;> first | omega | (refine ⟨⟨by omega, by omega, z, fun j hj => ?_⟩, by show l1 - (i + 1).toNat < l1 - i.toNat; omega⟩)
      rcases Nat.lt_or_ge j i.toNat with hj2 | hj2
      · exact hall j hj2
      · have : j = i.toNat := by omega
        rw [this]; exact hq
  · have t := of_decide_eq_false t
    exact Cmp.yes (eq_of_all h1.1.1 h2.1.1 fun j hj => hall j (by omega)) x5
theorem c6 (w : World) {a1 a2 : Option Addr} {l1 l2 : Nat} (c1 c2 : Nat) {xs ys : List ProcD} (h1 : RL 4 RPr w a1 l1 xs) (h2 : RL 4 RPr w a2 l2 ys) :
    Calls Tryz.prog 6 #[.agg #[.slice a1 l1 c1], .agg #[.slice a2 l2 c2]] w fun en w' => ∃ p, en = .returned (.bool p) ∧ Cmp xs ys w p w' := by
  refine calls6 _ _ _ _ _ _ (fun p w' => Cmp xs ys w p w') w ?_
  refine AllocK.mk fun b23 w24 hb hB x24 => ?_
  refine AllocK.mk fun b25 w26 hb' hB' x26 => ?_
  have hA := hB.ext x26
  have x := x24.trans x26
  refine ⟨a1, l1, c1, by rw [hA.cell]; rfl, a2, l2, c2, by rw [hB'.cell]; rfl, ?_⟩
  refine (c11 w26 c1 c2 (h1.ext RPr.mono x) (h2.ext RPr.mono x)).mono ?_
  rintro en w46 ⟨p, rfl, hp, x46⟩
  exact ⟨p, rfl, hp, x.trans x46⟩
end Go.Proofs.YtkneoodgoadpaacGreatDoor

namespace Go.Proofs.YtkneoodgoadpaacGreatDoor
open Go Go.V Go.Proofs
open Go.RowKit (Below)
/-! manystrand/manystrandref18.Same -/
def N7 (a1 : Option Addr) (l1 : Nat) (c1 : Nat) (a2 : Option Addr) (l2 : Nat) (c2 : Nat) (K : Bool → World → Prop) (w : World) : Prop :=
 AllocK w (#[(.slice a1 l1 c1)]) 24 fun b3 w4 =>
 AllocK w4 (#[(.slice a2 l2 c2)]) 24 fun b5 w6 =>
 ∃ (a7 : Option Addr) (l7 : Nat) (c7 : Nat), w6.cell? b3 = some (.slice a7 l7 c7) ∧
 (∃ (a8 : Option Addr) (l8 : Nat) (c8 : Nat), w6.cell? b5 = some (.slice a8 l8 c8) ∧
 (BoolK (((l7 : Nat) : Int) != (l8 : Nat))
 (K false w6)
 (∃ (I9 : Int → World → Prop) (μ10 : Int → World → Nat),
 (I9 0 w6 ∧ True) ∧
 ∀ (w11 : World) (x12 : Int), I9 x12 w11 →
 ∃ (a13 : Option Addr) (l13 : Nat) (c13 : Nat), w11.cell? b3 = some (.slice a13 l13 c13) ∧
 (BoolK (decide ((x12 : Int) < (l13 : Nat)))
 (∃ (J14 : Option Addr → Option Addr → World → Prop),
 (∀ (w15 : World) (o16 : Option Addr) (o17 : Option Addr), J14 o16 o17 w15 →
 AddrK o16 fun b18 =>
 ∃ (x19 : Int), w15.cell? b18 = some (.int .i64 x19) ∧
 (AddrK o17 fun b20 =>
 ∃ (x21 : Int), w15.cell? b20 = some (.int .i64 x21) ∧
 (BoolK ((x19 : Int) != x21)
 (K false w15)
 (AddrK o16 fun b22 =>
 ∃ (x23 : Int), w15.cell? (b22.add 1) = some (.int .i64 x23) ∧
 (AddrK o17 fun b24 =>
 ∃ (x25 : Int), w15.cell? (b24.add 1) = some (.int .i64 x25) ∧
 (BoolK ((x23 : Int) != x25)
 (K false w15)
 (AddrK o16 fun b26 =>
 ∃ (x27 : Int), w15.cell? (b26.add 2) = some (.int .i64 x27) ∧
 (AddrK o17 fun b28 =>
 ∃ (x29 : Int), w15.cell? (b28.add 2) = some (.int .i64 x29) ∧
 (BoolK ((x27 : Int) != x29)
 (K false w15)
 (AddrK o16 fun b30 =>
 ∃ (a31 : Option Addr) (l31 : Nat) (c31 : Nat), w15.cell? (b30.add 3) = some (.slice a31 l31 c31) ∧
 (AddrK o17 fun b32 =>
 ∃ (a33 : Option Addr) (l33 : Nat) (c33 : Nat), w15.cell? (b32.add 3) = some (.slice a33 l33 c33) ∧
 (BoolK (((l31 : Nat) : Int) != (l33 : Nat))
 (K false w15)
 (∃ (I34 : Int → World → Prop) (μ35 : Int → World → Nat),
 (I34 0 w15 ∧ True) ∧
 ∀ (w36 : World) (x37 : Int), I34 x37 w36 →
 AddrK o16 fun b38 =>
 ∃ (a39 : Option Addr) (l39 : Nat) (c39 : Nat), w36.cell? (b38.add 3) = some (.slice a39 l39 c39) ∧
 (BoolK (decide ((x37 : Int) < (l39 : Nat)))
 (DrewK w36 fun w40 =>
 AddrK o16 fun b41 =>
 ∃ (a42 : Option Addr) (l42 : Nat) (c42 : Nat), w40.cell? (b41.add 3) = some (.slice a42 l42 c42) ∧
 ((0 ≤ (x37 : Int) ∧ (x37 : Int) < (l42 : Nat)) ∧
 AddrK a42 fun b43 =>
 ∃ (s44 : ByteArray), w40.cell? ((b43.add ((x37 : Int).toNat * 11)).add 0) = some (.string s44) ∧
 (∃ (s45 : ByteArray), w40.cell? ((b43.add ((x37 : Int).toNat * 11)).add 1) = some (.string s45) ∧
 (∃ (s46 : ByteArray), w40.cell? ((b43.add ((x37 : Int).toNat * 11)).add 2) = some (.string s46) ∧
 (∃ (x47 : Int), w40.cell? ((b43.add ((x37 : Int).toNat * 11)).add 3) = some (.int .i64 x47) ∧
 (∃ (s48 : ByteArray), w40.cell? ((b43.add ((x37 : Int).toNat * 11)).add 4) = some (.string s48) ∧
 (∃ (x49 : Int), w40.cell? ((b43.add ((x37 : Int).toNat * 11)).add 5) = some (.int .i64 x49) ∧
 (∃ (x50 : Int), w40.cell? ((b43.add ((x37 : Int).toNat * 11)).add 6) = some (.int .i64 x50) ∧
 (∃ (x51 : Int), w40.cell? ((b43.add ((x37 : Int).toNat * 11)).add 7) = some (.int .i64 x51) ∧
 (∃ (a52 : Option Addr) (l52 : Nat) (c52 : Nat), w40.cell? ((b43.add ((x37 : Int).toNat * 11)).add 8) = some (.slice a52 l52 c52) ∧
 (∃ (a53 : Option Addr) (l53 : Nat) (c53 : Nat), w40.cell? ((b43.add ((x37 : Int).toNat * 11)).add 9) = some (.slice a53 l53 c53) ∧
 (∃ (a54 : Option Addr) (l54 : Nat) (c54 : Nat), w40.cell? ((b43.add ((x37 : Int).toNat * 11)).add 10) = some (.slice a54 l54 c54) ∧
 (AddrK o17 fun b55 =>
 ∃ (a56 : Option Addr) (l56 : Nat) (c56 : Nat), w40.cell? (b55.add 3) = some (.slice a56 l56 c56) ∧
 ((0 ≤ (x37 : Int) ∧ (x37 : Int) < (l56 : Nat)) ∧
 AddrK a56 fun b57 =>
 ∃ (s58 : ByteArray), w40.cell? ((b57.add ((x37 : Int).toNat * 11)).add 0) = some (.string s58) ∧
 (∃ (s59 : ByteArray), w40.cell? ((b57.add ((x37 : Int).toNat * 11)).add 1) = some (.string s59) ∧
 (∃ (s60 : ByteArray), w40.cell? ((b57.add ((x37 : Int).toNat * 11)).add 2) = some (.string s60) ∧
 (∃ (x61 : Int), w40.cell? ((b57.add ((x37 : Int).toNat * 11)).add 3) = some (.int .i64 x61) ∧
 (∃ (s62 : ByteArray), w40.cell? ((b57.add ((x37 : Int).toNat * 11)).add 4) = some (.string s62) ∧
 (∃ (x63 : Int), w40.cell? ((b57.add ((x37 : Int).toNat * 11)).add 5) = some (.int .i64 x63) ∧
 (∃ (x64 : Int), w40.cell? ((b57.add ((x37 : Int).toNat * 11)).add 6) = some (.int .i64 x64) ∧
 (∃ (x65 : Int), w40.cell? ((b57.add ((x37 : Int).toNat * 11)).add 7) = some (.int .i64 x65) ∧
 (∃ (a66 : Option Addr) (l66 : Nat) (c66 : Nat), w40.cell? ((b57.add ((x37 : Int).toNat * 11)).add 8) = some (.slice a66 l66 c66) ∧
 (∃ (a67 : Option Addr) (l67 : Nat) (c67 : Nat), w40.cell? ((b57.add ((x37 : Int).toNat * 11)).add 9) = some (.slice a67 l67 c67) ∧
 (∃ (a68 : Option Addr) (l68 : Nat) (c68 : Nat), w40.cell? ((b57.add ((x37 : Int).toNat * 11)).add 10) = some (.slice a68 l68 c68) ∧
 (Calls Tryz.prog 18 #[(.agg #[(.string s44), (.string s45), (.string s46), (.int .i64 x47), (.string s48), (.int .i64 x49), (.int .i64 x50), (.int .i64 x51), (.slice a52 l52 c52), (.slice a53 l53 c53), (.slice a54 l54 c54)]), (.agg #[(.string s58), (.string s59), (.string s60), (.int .i64 x61), (.string s62), (.int .i64 x63), (.int .i64 x64), (.int .i64 x65), (.slice a66 l66 c66), (.slice a67 l67 c67), (.slice a68 l68 c68)])] w40 fun e71 w70 =>
 ∃ (p69 : Bool), e71 = .returned (.bool p69) ∧
 (BoolK (!p69)
 (K false w70)
 (I34 (IntKind.wrap .i64 (x37 + 1)) w70 ∧ μ35 (IntKind.wrap .i64 (x37 + 1)) w70 < μ35 x37 w36)))))))))))))))))))))))))))
 (I9 (IntKind.wrap .i64 (x12 + 1)) w36 ∧ μ10 (IntKind.wrap .i64 (x12 + 1)) w36 < μ10 x12 w11))))))))))))))) ∧
 (DrewK w11 fun w72 =>
 ∃ (a73 : Option Addr) (l73 : Nat) (c73 : Nat), w72.cell? b3 = some (.slice a73 l73 c73) ∧
 ((0 ≤ (x12 : Int) ∧ (x12 : Int) < (l73 : Nat)) ∧
 AddrK a73 fun b74 =>
 ∃ (x75 : Int), w72.cell? ((b74.add ((x12 : Int).toNat * 4)).add 0) = some (.int .i64 x75) ∧
 (∃ (x76 : Int), w72.cell? ((b74.add ((x12 : Int).toNat * 4)).add 1) = some (.int .i64 x76) ∧
 (∃ (x77 : Int), w72.cell? ((b74.add ((x12 : Int).toNat * 4)).add 2) = some (.int .i64 x77) ∧
 (∃ (a78 : Option Addr) (l78 : Nat) (c78 : Nat), w72.cell? ((b74.add ((x12 : Int).toNat * 4)).add 3) = some (.slice a78 l78 c78) ∧
 (∃ (a79 : Option Addr) (l79 : Nat) (c79 : Nat), w72.cell? b5 = some (.slice a79 l79 c79) ∧
 ((0 ≤ (x12 : Int) ∧ (x12 : Int) < (l79 : Nat)) ∧
 AddrK a79 fun b80 =>
 ∃ (x81 : Int), w72.cell? ((b80.add ((x12 : Int).toNat * 4)).add 0) = some (.int .i64 x81) ∧
 (∃ (x82 : Int), w72.cell? ((b80.add ((x12 : Int).toNat * 4)).add 1) = some (.int .i64 x82) ∧
 (∃ (x83 : Int), w72.cell? ((b80.add ((x12 : Int).toNat * 4)).add 2) = some (.int .i64 x83) ∧
 (∃ (a84 : Option Addr) (l84 : Nat) (c84 : Nat), w72.cell? ((b80.add ((x12 : Int).toNat * 4)).add 3) = some (.slice a84 l84 c84) ∧
 ((AllocK w72 (#[.int .i64 0, .int .i64 0, .int .i64 0, .slice none 0 0]) 30 fun b85 w86 =>
 Cel w72 w86 ∧
 (AllocK w86 (#[.int .i64 0, .int .i64 0, .int .i64 0, .slice none 0 0]) 30 fun b87 w88 =>
 Cel w72 w88 ∧
 (SetK w88 (b85.add 0) (.int .i64 x75) fun w89 =>
 SetK w89 (b85.add 1) (.int .i64 x76) fun w90 =>
 SetK w90 (b85.add 2) (.int .i64 x77) fun w91 =>
 SetK w91 (b85.add 3) (.slice a78 l78 c78) fun w92 =>
 Cel w72 w92 ∧
 (SetK w92 (b87.add 0) (.int .i64 x81) fun w93 =>
 SetK w93 (b87.add 1) (.int .i64 x82) fun w94 =>
 SetK w94 (b87.add 2) (.int .i64 x83) fun w95 =>
 SetK w95 (b87.add 3) (.slice a84 l84 c84) fun w96 =>
 Cel w72 w96 ∧
 (J14 (some b85) (some b87) w96))))) ∧
 (AllocK w72 (#[.int .i64 0, .int .i64 0, .int .i64 0, .slice none 0 0]) 30 fun b97 w98 =>
 Cel w72 w98 ∧
 (AllocK w98 (#[.int .i64 0, .int .i64 0, .int .i64 0, .slice none 0 0]) 30 fun b99 w100 =>
 Cel w72 w100 ∧
 (SetK w100 (b99.add 0) (.int .i64 x75) fun w101 =>
 SetK w101 (b99.add 1) (.int .i64 x76) fun w102 =>
 SetK w102 (b99.add 2) (.int .i64 x77) fun w103 =>
 SetK w103 (b99.add 3) (.slice a78 l78 c78) fun w104 =>
 Cel w72 w104 ∧
 (SetK w104 (b97.add 0) (.int .i64 x81) fun w105 =>
 SetK w105 (b97.add 1) (.int .i64 x82) fun w106 =>
 SetK w106 (b97.add 2) (.int .i64 x83) fun w107 =>
 SetK w107 (b97.add 3) (.slice a84 l84 c84) fun w108 =>
 Cel w72 w108 ∧
 (J14 (some b99) (some b97) w108)))))))))))))))))
 (K true w11)))))
def ann7 : Ann := (.two .nil (.two (.two .nil (.two (.two .nil .nil) .nil)) (.two (.two .nil (.one (.loop [(5, (.one (.int .i64)))] [2, 3] (.two (.two .nil (.two .nil .nil)) (.two (.one (.cut [(6, (.one .ptr)), (7, (.one .ptr))] [2, 3, 5] (.any 14 (.take 0 (.take 1 (.take 2 (.take 3 (.take 4 (.take 5 (.take 6 (.take 7 (.take 8 (.take 9 (.both 10 (.one 11 (.one 12 (.one 13 .done))) (.one 11 (.one 10 (.one 12 (.one 13 .done)))))))))))))))) (.two (.two .nil (.two (.two .nil .nil) .nil)) (.two .nil (.one (.loop [(8, (.one (.int .i64)))] [2, 3, 5, 6, 7] (.two (.two .nil (.two .nil .nil)) (.two (.one (.two (.any 10 (.take 0 (.take 1 (.take 2 (.take 3 (.take 4 (.take 5 (.take 6 (.take 7 (.take 8 (.take 9 .done))))))))))) (.two (.two .nil .nil) .nil))) .nil)))))))) .nil))))) (.two .nil .nil))))
noncomputable def code7 : Code := match Tryz.f7.body with | some c => c | none => .skip
theorem wp7 (a1 : Option Addr) (l1 : Nat) (c1 : Nat) (a2 : Option Addr) (l2 : Nat) (c2 : Nat) (K : Bool → World → Prop) (w : World) : WP Tryz.prog tab code7 ann7 (fnQ tab Tryz.f7.results.toList [(.one .bool)] K) (argE 0 [(.agg #[(.slice a1 l1 c1)]), (.agg #[(.slice a2 l2 c2)])]) w = N7 a1 l1 c1 a2 l2 c2 K w := by kernel_rfl
theorem calls7 (a1 : Option Addr) (l1 : Nat) (c1 : Nat) (a2 : Option Addr) (l2 : Nat) (c2 : Nat) (K : Bool → World → Prop) (w : World) (h : N7 a1 l1 c1 a2 l2 c2 K w) : Calls Tryz.prog 7 #[(.agg #[(.slice a1 l1 c1)]), (.agg #[(.slice a2 l2 c2)])] w fun en w' => ∃ (p109 : Bool), en = .returned (.bool p109) ∧ K p109 w' :=
 have e : (fun en w' => ExShs [(.one .bool)] fun vs => en = .returned (tupled vs) ∧ ap [(.one .bool)] K vs fun p => p w') = (fun (en : Ending) (w' : World) => ∃ (p109 : Bool), en = .returned (.bool p109) ∧ K p109 w') := by kernel_rfl
 e ▸ fn_sound tabOk mixed Tryz.func7 (by kernel_rfl : Tryz.f7.body = some code7) ann7 [(.agg #[(.slice a1 l1 c1)]), (.agg #[(.slice a2 l2 c2)])] [(.one .bool)] K w (by kernel_rfl) ((wp7 a1 l1 c1 a2 l2 c2 K w).symm ▸ h)
end Go.Proofs.YtkneoodgoadpaacGreatDoor

namespace Go.Proofs.YtkneoodgoadpaacGreatDoor
open Go Go.V Go.Proofs
open Go.RowKit (Below)
theorem fill_but {b t : Nat} {w0 : World} {F : World → Prop} : ∀ (vs : List Value) (i : Nat) (cur : Array Value) (w1 : World), Blk w1 b cur t → i + vs.length ≤ cur.size → But b w0 w1 → (∀ w', Blk w' b (putL cur i vs) t → But b w0 w' → F w') → StCs vs w1 ⟨b, 0, none⟩ i F
  | [], i, cur, w1, h, _, x, k => k w1 h x
  | v :: vs, i, cur, w1, h, hl, x, k => by
    show SetK w1 ((⟨b, 0, none⟩ : Addr).add i) v _
    rw [add_mk, Nat.zero_add]
    simp only [List.length_cons] at hl
    exact SetK.mk h (by omega) fun w2 h2 bu => fill_but vs (i + 1) _ w2 h2 (by simp; omega) (x.trans bu) k
theorem put_all {vs zs : List Value} (hl : vs.length = zs.length) : putL zs.toArray 0 vs = vs.toArray := by
  apply Array.ext_getElem?
  intro j
  rw [putL_get _ _ _ (by simp [hl])]
  split
  · simp
  · rename_i hj
    rw [Array.getElem?_eq_none (by simp; omega), Array.getElem?_eq_none (by simp; omega)]
theorem fill_all {b t : Nat} {w : World} {zs : List Value} (vs : List Value) (hl : vs.length = zs.length) {F : World → Prop} (h : Blk w b zs.toArray t) (k : ∀ w', Blk w' b vs.toArray t → But b w w' → F w') : StCs vs w ⟨b, 0, none⟩ 0 F :=
  fill_but vs 0 _ w h (by simp [hl]) ⟨rfl, rfl, rfl, rfl, fun _ _ => rfl⟩ fun w' h' x => k w' (by rw [← put_all hl]; exact h') x
theorem two_a {w : World} {zs zs' : List Value} {t t' : Nat} (vs vs' : List Value) (hl : vs.length = zs.length) (hl' : vs'.length = zs'.length) {G : Addr → Addr → World → Prop}
    (h : ∀ (b b' : Nat) (w' : World), Blk w' b vs.toArray t → Blk w' b' vs'.toArray t' → Ext w w' → G ⟨b, 0, none⟩ ⟨b', 0, none⟩ w') :
    AllocK w zs.toArray t fun p w1 => Cel w w1 ∧ AllocK w1 zs'.toArray t' fun p' w2 => Cel w w2 ∧ StCs vs w2 p 0 fun w3 => Cel w w3 ∧ StCs vs' w3 p' 0 fun w4 => Cel w w4 ∧ G p p' w4 := by
  refine AllocK.mk fun b w1 hb hB x1 => ⟨Below.cel x1, AllocK.mk fun b' w2 hb' hB' x2 => ?_⟩
  have ne : b' ≠ b := by have := hB.lt; omega
  have y := x1.trans x2
  have hs : w.heap.size ≤ b' := by have := hB.lt; omega
  refine ⟨Below.cel y, fill_all vs hl (hB.ext x2) fun w3 h3 bu3 => ?_⟩
  have y3 : Ext w w3 := bu3.below y (by omega)
  refine ⟨Below.cel y3, fill_all vs' hl' (bu3.blk hB' ne) fun w4 h4 bu4 => ?_⟩
  have y4 : Ext w w4 := bu4.below y3 hs
  exact ⟨Below.cel y4, h b b' w4 (bu4.blk h3 (Ne.symm ne)) h4 y4⟩
theorem two_b {w : World} {zs zs' : List Value} {t t' : Nat} (vs vs' : List Value) (hl : vs.length = zs.length) (hl' : vs'.length = zs'.length) {G : Addr → Addr → World → Prop}
    (h : ∀ (b b' : Nat) (w' : World), Blk w' b vs.toArray t → Blk w' b' vs'.toArray t' → Ext w w' → G ⟨b, 0, none⟩ ⟨b', 0, none⟩ w') :
    AllocK w zs.toArray t fun p w1 => Cel w w1 ∧ AllocK w1 zs'.toArray t' fun p' w2 => Cel w w2 ∧ StCs vs' w2 p' 0 fun w3 => Cel w w3 ∧ StCs vs w3 p 0 fun w4 => Cel w w4 ∧ G p p' w4 := by
  refine AllocK.mk fun b w1 hb hB x1 => ⟨Below.cel x1, AllocK.mk fun b' w2 hb' hB' x2 => ?_⟩
  have ne : b' ≠ b := by have := hB.lt; omega
  have y := x1.trans x2
  have hs : w.heap.size ≤ b' := by have := hB.lt; omega
  refine ⟨Below.cel y, fill_all vs' hl' hB' fun w3 h3 bu3 => ?_⟩
  have y3 : Ext w w3 := bu3.below y hs
  refine ⟨Below.cel y3, fill_all vs hl (bu3.blk (hB.ext x2) (Ne.symm ne)) fun w4 h4 bu4 => ?_⟩
  have y4 : Ext w w4 := bu4.below y3 (by omega)
  exact ⟨Below.cel y4, h b b' w4 h4 (bu4.blk h3 ne) y4⟩
theorem c7 (w : World) {a1 a2 : Option Addr} {l1 l2 : Nat} (c1 c2 : Nat) {xs ys : List ProcD} (h1 : RL 4 RPr w a1 l1 xs) (h2 : RL 4 RPr w a2 l2 ys) :
    Calls Tryz.prog 7 #[.agg #[.slice a1 l1 c1], .agg #[.slice a2 l2 c2]] w fun en w' => ∃ p, en = .returned (.bool p) ∧ Cmp xs ys w p w' := by
  refine calls7 _ _ _ _ _ _ (fun p w' => Cmp xs ys w p w') w ?_
  refine AllocK.mk fun b23 w24 hb hB x24 => ?_
  refine AllocK.mk fun b25 w26 hb' hB' x26 => ?_
  have hA := hB.ext x26
  have x := x24.trans x26
  refine ⟨a1, l1, c1, (by rw [hA.cell]; rfl), a2, l2, c2, (by rw [hB'.cell]; rfl), ?_⟩
  refine BoolK.mk (fun t => Cmp.no (fun e => ?_) x) (fun t => ?_)
  · have := h1.1.1; have := h2.1.1
    subst e
    simp at t; omega
  have e : l1 = l2 := by simp at t; omega
  subst e
  have hm := h1.2
  simp only [maxLen] at hm
  refine ⟨fun i w' => 0 ≤ i ∧ i ≤ l1 ∧ Ext w26 w' ∧ ∀ j, j < i.toNat → xs[j]? = ys[j]?, fun i _ => l1 - i.toNat, ⟨⟨Int.le_refl 0, by omega, Ext.refl _, fun j hj => by simp at hj⟩, trivial⟩, ?_⟩
  rintro w11 i ⟨i0, i1, x11, hall⟩
  have y11 := x.trans x11
  refine ⟨a1, l1, c1, (by rw [(hA.ext x11).cell]; rfl), ?_⟩
  refine BoolK.mk (fun t => ?_) (fun t => ?_)
  · have t := of_decide_eq_true t
    have hj1 : i.toNat < xs.length := by rw [← h1.1.1]; omega
    have hj2 : i.toNat < ys.length := by rw [← h2.1.1]; omega
    obtain ⟨X, hX⟩ : ∃ X, xs[i.toNat] = X := ⟨_, rfl⟩
    obtain ⟨Y, hY⟩ : ∃ Y, ys[i.toNat] = Y := ⟨_, rfl⟩
    have ne : X ≠ Y → xs ≠ ys := fun h e => h (by rw [← hX, ← hY]; simp only [e])
    refine ⟨fun o o' w' => ∃ b b' a l c a' l' c' t t', o = some ⟨b, 0, none⟩ ∧ o' = some ⟨b', 0, none⟩ ∧ Blk w' b #[.int .i64 X.p, .int .i64 X.l, .int .i64 X.c, .slice a l c] t ∧ Blk w' b' #[.int .i64 Y.p, .int .i64 Y.l, .int .i64 Y.c, .slice a' l' c'] t' ∧ RL 11 RIns w' a l X.ins ∧ RL 11 RIns w' a' l' Y.ins ∧ Ext w26 w', ?_, DrewK.mk fun w72 x72 => ?_⟩
    · rintro w15 o o' ⟨b, b', a, l, c, a', l', c', _, _, rfl, rfl, hC, hD, rA, rB, x15⟩
      have y15 := x.trans x15
      refine adK rfl ⟨X.p, (by rw [hC.cell]; rfl), adK rfl ⟨Y.p, (by rw [hD.cell]; rfl), BoolK.mk (fun t1 => Cmp.no (ne fun e => by subst e; simp at t1) y15) (fun t1 => ?_)⟩⟩
      refine adK rfl ⟨X.l, (by rw [add_mk, hC.cell]; rfl), adK rfl ⟨Y.l, (by rw [add_mk, hD.cell]; rfl), BoolK.mk (fun t2 => Cmp.no (ne fun e => by subst e; simp at t2) y15) (fun t2 => ?_)⟩⟩
      refine adK rfl ⟨X.c, (by rw [add_mk, hC.cell]; rfl), adK rfl ⟨Y.c, (by rw [add_mk, hD.cell]; rfl), BoolK.mk (fun t3 => Cmp.no (ne fun e => by subst e; simp at t3) y15) (fun t3 => ?_)⟩⟩
      refine adK rfl ⟨a, l, c, (by rw [add_mk, hC.cell]; rfl), adK rfl ⟨a', l', c', (by rw [add_mk, hD.cell]; rfl), BoolK.mk (fun t4 => Cmp.no (ne fun e => ?_) y15) (fun t4 => ?_)⟩⟩
      · have := rA.1.1; have := rB.1.1
        subst e; simp at t4; omega
      have e4 : l = l' := by simp at t4; omega
      subst e4
      have hm4 := rA.2
      simp only [maxLen] at hm4
      refine ⟨fun j w' => 0 ≤ j ∧ j ≤ l ∧ Ext w15 w' ∧ ∀ k, k < j.toNat → X.ins[k]? = Y.ins[k]?, fun j _ => l - j.toNat, ⟨⟨Int.le_refl 0, by omega, Ext.refl _, fun j hj => by simp at hj⟩, trivial⟩, ?_⟩
      rintro w36 j ⟨j0, j1, x36, hal⟩
      have z36 := y15.trans x36
      refine adK rfl ⟨a, l, c, (by rw [add_mk, (hC.ext x36).cell]; rfl), ?_⟩
      refine BoolK.mk (fun u => ?_) (fun u => ?_)
      · have u := of_decide_eq_true u
        refine DrewK.mk fun w40 x40 => ?_
        have v := x36.trans x40
        have hk1 : j.toNat < X.ins.length := by rw [← rA.1.1]; omega
        have hk2 : j.toNat < Y.ins.length := by rw [← rB.1.1]; omega
        obtain ⟨b1, o1, e1, hy1⟩ := (rA.1.ext RIns.mono v).get hk1
        obtain ⟨b2, o2, e2, hy2⟩ := (rB.1.ext RIns.mono v).get hk2
        generalize hP : X.ins[j.toNat] = P at hy1
        generalize hQ : Y.ins[j.toNat] = Q at hy2
        obtain ⟨p0x, p1x, p2x, p3x, p4x, p5x, p6x, p7x, ⟨a8x, l8x, k8x, p8x, r8x⟩, ⟨a9x, l9x, k9x, p9x, r9x⟩, ⟨a10x, l10x, k10x, p10x, r10x⟩⟩ := hy1
        obtain ⟨p0y, p1y, p2y, p3y, p4y, p5y, p6y, p7y, ⟨a8y, l8y, k8y, p8y, r8y⟩, ⟨a9y, l9y, k9y, p9y, r9y⟩, ⟨a10y, l10y, k10y, p10y, r10y⟩⟩ := hy2
        refine adK rfl ⟨a, l, c, (by rw [add_mk, (hC.ext v).cell]; rfl), ⟨j0, u⟩, adK e1 ⟨_, (by rw [add_mk, add_mk]; exact p0x), _, (by rw [add_mk, add_mk]; exact p1x), _, (by rw [add_mk, add_mk]; exact p2x), _, (by rw [add_mk, add_mk]; exact p3x), _, (by rw [add_mk, add_mk]; exact p4x), _, (by rw [add_mk, add_mk]; exact p5x), _, (by rw [add_mk, add_mk]; exact p6x), _, (by rw [add_mk, add_mk]; exact p7x), a8x, l8x, k8x, (by rw [add_mk, add_mk]; exact p8x), a9x, l9x, k9x, (by rw [add_mk, add_mk]; exact p9x), a10x, l10x, k10x, (by rw [add_mk, add_mk]; exact p10x), adK rfl ⟨a', l, c', (by rw [add_mk, (hD.ext v).cell]; rfl), ⟨j0, u⟩, adK e2 ⟨_, (by rw [add_mk, add_mk]; exact p0y), _, (by rw [add_mk, add_mk]; exact p1y), _, (by rw [add_mk, add_mk]; exact p2y), _, (by rw [add_mk, add_mk]; exact p3y), _, (by rw [add_mk, add_mk]; exact p4y), _, (by rw [add_mk, add_mk]; exact p5y), _, (by rw [add_mk, add_mk]; exact p6y), _, (by rw [add_mk, add_mk]; exact p7y), a8y, l8y, k8y, (by rw [add_mk, add_mk]; exact p8y), a9y, l9y, k9y, (by rw [add_mk, add_mk]; exact p9y), a10y, l10y, k10y, (by rw [add_mk, add_mk]; exact p10y), ?_⟩⟩⟩⟩
        refine (c18 w40 P Q k8x k9x k10x k8y k9y k10y ⟨r8x, r9x, r10x⟩ ⟨r8y, r9y, r10y⟩).mono ?_
        rintro en w70 ⟨p, rfl, hp, x70⟩
        have v2 := v.trans x70
        refine ⟨p, rfl, BoolK.mk (fun q => Cmp.no (ne fun e => ?_) (y15.trans v2)) (fun q => ?_)⟩
        · rw [hp.2 (by rw [← hP, ← hQ]; simp only [e])] at q; cases q
        · have hq : X.ins[j.toNat]? = Y.ins[j.toNat]? := by
            rw [List.getElem?_eq_getElem hk1, List.getElem?_eq_getElem hk2, hP, hQ, hp.1 (by simpa using q)]
          rw [wrap_id] <;> first | omega | (refine ⟨⟨by omega, by omega, v2, fun k hk => ?_⟩, by show l - (j + 1).toNat < l - j.toNat; omega⟩)
          rcases Nat.lt_or_ge k j.toNat with hk2 | hk2
          · exact hal k hk2
          · have : k = j.toNat := by omega
            rw [this]; exact hq
      · have u := of_decide_eq_false u
        have hXY : X = Y := prEq (by simpa using t1) (by simpa using t2) (by simpa using t3) (eq_of_all rA.1.1 rB.1.1 fun k hk => hal k (by omega))
        rw [wrap_id] <;> first | omega | (refine ⟨⟨by omega, by omega, x15.trans x36, fun k hk => ?_⟩, by show l1 - (i + 1).toNat < l1 - i.toNat; omega⟩)
        rcases Nat.lt_or_ge k i.toNat with hk2 | hk2
        · exact hall k hk2
        · have : k = i.toNat := by omega
          rw [this, List.getElem?_eq_getElem hj1, List.getElem?_eq_getElem hj2, hX, hY, hXY]
    · have x72 := x11.trans x72
      have y72 := x.trans x72
      obtain ⟨b1, o1, e1, hy1⟩ := (h1.1.ext RPr.mono y72).get hj1
      obtain ⟨b2, o2, e2, hy2⟩ := (h2.1.ext RPr.mono y72).get hj2
      rw [hX] at hy1
      rw [hY] at hy2
      obtain ⟨p0x, p1x, p2x, ⟨a3x, l3x, k3x, p3x, r3x⟩⟩ := hy1
      obtain ⟨p0y, p1y, p2y, ⟨a3y, l3y, k3y, p3y, r3y⟩⟩ := hy2
      refine ⟨a1, l1, c1, (by rw [(hA.ext x72).cell]; rfl), ⟨i0, t⟩, adK e1 ⟨_, (by rw [add_mk, add_mk]; exact p0x), _, (by rw [add_mk, add_mk]; exact p1x), _, (by rw [add_mk, add_mk]; exact p2x), a3x, l3x, k3x, (by rw [add_mk, add_mk]; exact p3x), a2, l1, c2, (by rw [(hB'.ext x72).cell]; rfl), ⟨i0, t⟩, adK e2 ⟨_, (by rw [add_mk, add_mk]; exact p0y), _, (by rw [add_mk, add_mk]; exact p1y), _, (by rw [add_mk, add_mk]; exact p2y), a3y, l3y, k3y, (by rw [add_mk, add_mk]; exact p3y), ?_, ?_⟩⟩⟩
      · refine two_a (zs := [.int .i64 0, .int .i64 0, .int .i64 0, .slice none 0 0]) (zs' := [.int .i64 0, .int .i64 0, .int .i64 0, .slice none 0 0]) [.int .i64 X.p, .int .i64 X.l, .int .i64 X.c, .slice a3x l3x k3x] [.int .i64 Y.p, .int .i64 Y.l, .int .i64 Y.c, .slice a3y l3y k3y] rfl rfl fun b b' w' hb hb' xe => ?_
        exact ⟨b, b', _, _, _, _, _, _, _, _, rfl, rfl, hb, hb', r3x.ext RIns.mono xe, r3y.ext RIns.mono xe, x72.trans xe⟩
      · refine two_b (zs := [.int .i64 0, .int .i64 0, .int .i64 0, .slice none 0 0]) (zs' := [.int .i64 0, .int .i64 0, .int .i64 0, .slice none 0 0]) [.int .i64 Y.p, .int .i64 Y.l, .int .i64 Y.c, .slice a3y l3y k3y] [.int .i64 X.p, .int .i64 X.l, .int .i64 X.c, .slice a3x l3x k3x] rfl rfl fun b b' w' hb hb' xe => ?_
        exact ⟨b', b, _, _, _, _, _, _, _, _, rfl, rfl, hb', hb, r3x.ext RIns.mono xe, r3y.ext RIns.mono xe, x72.trans xe⟩
  · have t := of_decide_eq_false t
    exact Cmp.yes (eq_of_all h1.1.1 h2.1.1 fun j hj => hall j (by omega)) y11
end Go.Proofs.YtkneoodgoadpaacGreatDoor

namespace Go.Proofs.YtkneoodgoadpaacGreatDoor
open Go Go.V Go.Proofs
open Go.RowKit (Below)
/-! manystrand/manystrandlaw18.small -/
def N4 (a1 : Option Addr) (l1 : Nat) (c1 : Nat) (K : Bool → World → Prop) (w : World) : Prop :=
 AllocK w (#[(.slice a1 l1 c1)]) 24 fun b2 w3 =>
 ∃ (a4 : Option Addr) (l4 : Nat) (c4 : Nat), w3.cell? b2 = some (.slice a4 l4 c4) ∧
 (BoolK (decide (((l4 : Nat) : Int) > 12))
 (K false w3)
 (∃ (a5 : Option Addr) (l5 : Nat) (c5 : Nat), w3.cell? b2 = some (.slice a5 l5 c5) ∧
 (∃ (I6 : Int → World → Prop) (μ7 : Int → World → Nat),
 (I6 0 w3 ∧ True) ∧
 ∀ (w8 : World) (x9 : Int), I6 x9 w8 →
 BoolK (decide ((x9 : Int) < (l5 : Nat)))
 ((0 ≤ (x9 : Int) ∧ (x9 : Int) < (l5 : Nat)) ∧
 AddrK a5 fun b10 =>
 ∃ (x11 : Int), w8.cell? ((b10.add ((x9 : Int).toNat * 4)).add 0) = some (.int .i64 x11) ∧
 (∃ (x12 : Int), w8.cell? ((b10.add ((x9 : Int).toNat * 4)).add 1) = some (.int .i64 x12) ∧
 (∃ (x13 : Int), w8.cell? ((b10.add ((x9 : Int).toNat * 4)).add 2) = some (.int .i64 x13) ∧
 (∃ (a14 : Option Addr) (l14 : Nat) (c14 : Nat), w8.cell? ((b10.add ((x9 : Int).toNat * 4)).add 3) = some (.slice a14 l14 c14) ∧
 (AllocK w8 (#[.int .i64 0, .int .i64 0, .int .i64 0, .slice none 0 0]) 30 fun b15 w16 =>
 SetK w16 (b15.add 0) (.int .i64 x11) fun w17 =>
 SetK w17 (b15.add 1) (.int .i64 x12) fun w18 =>
 SetK w18 (b15.add 2) (.int .i64 x13) fun w19 =>
 SetK w19 (b15.add 3) (.slice a14 l14 c14) fun w20 =>
 ∃ (a21 : Option Addr) (l21 : Nat) (c21 : Nat), w20.cell? (b15.add 3) = some (.slice a21 l21 c21) ∧
 (BoolK (decide (((l21 : Nat) : Int) > 60))
 (K false w20)
 (∃ (x22 : Int), w20.cell? (b15.add 1) = some (.int .i64 x22) ∧
 (BoolK (decide ((x22 : Int) > 60))
 (K false w20)
 (∃ (x23 : Int), w20.cell? b15 = some (.int .i64 x23) ∧
 (BoolK (decide ((x23 : Int) > 60))
 (K false w20)
 (∃ (x24 : Int), w20.cell? (b15.add 2) = some (.int .i64 x24) ∧
 (BoolK (decide ((x24 : Int) > 60))
 (K false w20)
 (∃ (a25 : Option Addr) (l25 : Nat) (c25 : Nat), w20.cell? (b15.add 3) = some (.slice a25 l25 c25) ∧
 (∃ (I26 : Int → World → Prop) (μ27 : Int → World → Nat),
 (I26 0 w20 ∧ True) ∧
 ∀ (w28 : World) (x29 : Int), I26 x29 w28 →
 BoolK (decide ((x29 : Int) < (l25 : Nat)))
 ((0 ≤ (x29 : Int) ∧ (x29 : Int) < (l25 : Nat)) ∧
 AddrK a25 fun b30 =>
 ∃ (s31 : ByteArray), w28.cell? ((b30.add ((x29 : Int).toNat * 11)).add 0) = some (.string s31) ∧
 (∃ (s32 : ByteArray), w28.cell? ((b30.add ((x29 : Int).toNat * 11)).add 1) = some (.string s32) ∧
 (∃ (s33 : ByteArray), w28.cell? ((b30.add ((x29 : Int).toNat * 11)).add 2) = some (.string s33) ∧
 (∃ (x34 : Int), w28.cell? ((b30.add ((x29 : Int).toNat * 11)).add 3) = some (.int .i64 x34) ∧
 (∃ (s35 : ByteArray), w28.cell? ((b30.add ((x29 : Int).toNat * 11)).add 4) = some (.string s35) ∧
 (∃ (x36 : Int), w28.cell? ((b30.add ((x29 : Int).toNat * 11)).add 5) = some (.int .i64 x36) ∧
 (∃ (x37 : Int), w28.cell? ((b30.add ((x29 : Int).toNat * 11)).add 6) = some (.int .i64 x37) ∧
 (∃ (x38 : Int), w28.cell? ((b30.add ((x29 : Int).toNat * 11)).add 7) = some (.int .i64 x38) ∧
 (∃ (a39 : Option Addr) (l39 : Nat) (c39 : Nat), w28.cell? ((b30.add ((x29 : Int).toNat * 11)).add 8) = some (.slice a39 l39 c39) ∧
 (∃ (a40 : Option Addr) (l40 : Nat) (c40 : Nat), w28.cell? ((b30.add ((x29 : Int).toNat * 11)).add 9) = some (.slice a40 l40 c40) ∧
 (∃ (a41 : Option Addr) (l41 : Nat) (c41 : Nat), w28.cell? ((b30.add ((x29 : Int).toNat * 11)).add 10) = some (.slice a41 l41 c41) ∧
 (AllocK w28 (#[.string ⟨#[]⟩, .string ⟨#[]⟩, .string ⟨#[]⟩, .int .i64 0, .string ⟨#[]⟩, .int .i64 0, .int .i64 0, .int .i64 0, .slice none 0 0, .slice none 0 0, .slice none 0 0]) 37 fun b42 w43 =>
 SetK w43 (b42.add 0) (.string s31) fun w44 =>
 SetK w44 (b42.add 1) (.string s32) fun w45 =>
 SetK w45 (b42.add 2) (.string s33) fun w46 =>
 SetK w46 (b42.add 3) (.int .i64 x34) fun w47 =>
 SetK w47 (b42.add 4) (.string s35) fun w48 =>
 SetK w48 (b42.add 5) (.int .i64 x36) fun w49 =>
 SetK w49 (b42.add 6) (.int .i64 x37) fun w50 =>
 SetK w50 (b42.add 7) (.int .i64 x38) fun w51 =>
 SetK w51 (b42.add 8) (.slice a39 l39 c39) fun w52 =>
 SetK w52 (b42.add 9) (.slice a40 l40 c40) fun w53 =>
 SetK w53 (b42.add 10) (.slice a41 l41 c41) fun w54 =>
 ∃ (a55 : Option Addr) (l55 : Nat) (c55 : Nat), w54.cell? (b42.add 8) = some (.slice a55 l55 c55) ∧
 (∃ (a56 : Option Addr) (l56 : Nat) (c56 : Nat), w54.cell? (b42.add 9) = some (.slice a56 l56 c56) ∧
 (∃ (a57 : Option Addr) (l57 : Nat) (c57 : Nat), w54.cell? (b42.add 10) = some (.slice a57 l57 c57) ∧
 (BoolK (decide ((IntKind.wrap .i64 ((IntKind.wrap .i64 ((l55 : Nat) + (l56 : Nat))) + (l57 : Nat)) : Int) > 60))
 (K false w54)
 (∃ (s58 : ByteArray), w54.cell? b42 = some (.string s58) ∧
 (∃ (s59 : ByteArray), w54.cell? (b42.add 1) = some (.string s59) ∧
 (∃ (s60 : ByteArray), w54.cell? (b42.add 2) = some (.string s60) ∧
 (∃ (s61 : ByteArray), w54.cell? (b42.add 4) = some (.string s61) ∧
 (BoolK (decide ((IntKind.wrap .i64 ((IntKind.wrap .i64 ((IntKind.wrap .i64 ((s58.size : Nat) + (s59.size : Nat))) + (s60.size : Nat))) + (s61.size : Nat)) : Int) > 200))
 (K false w54)
 (∃ (a62 : Option Addr) (l62 : Nat) (c62 : Nat), w54.cell? (b42.add 9) = some (.slice a62 l62 c62) ∧
 (∃ (I63 : Int → World → Prop) (μ64 : Int → World → Nat),
 (I63 0 w54 ∧ True) ∧
 ∀ (w65 : World) (x66 : Int), I63 x66 w65 →
 BoolK (decide ((x66 : Int) < (l62 : Nat)))
 ((0 ≤ (x66 : Int) ∧ (x66 : Int) < (l62 : Nat)) ∧
 AddrK a62 fun b67 =>
 ∃ (x68 : Int), w65.cell? ((b67.add ((x66 : Int).toNat * 2)).add 0) = some (.int .i64 x68) ∧
 (∃ (s69 : ByteArray), w65.cell? ((b67.add ((x66 : Int).toNat * 2)).add 1) = some (.string s69) ∧
 (AllocK w65 (#[.int .i64 0, .string ⟨#[]⟩]) 39 fun b70 w71 =>
 SetK w71 (b70.add 0) (.int .i64 x68) fun w72 =>
 SetK w72 (b70.add 1) (.string s69) fun w73 =>
 ∃ (s74 : ByteArray), w73.cell? (b70.add 1) = some (.string s74) ∧
 (BoolK (decide (((s74.size : Nat) : Int) > 80))
 (K false w73)
 (I63 (IntKind.wrap .i64 (x66 + 1)) w73 ∧ μ64 (IntKind.wrap .i64 (x66 + 1)) w73 < μ64 x66 w65)))))
 (∃ (a75 : Option Addr) (l75 : Nat) (c75 : Nat), w65.cell? (b42.add 8) = some (.slice a75 l75 c75) ∧
 (∃ (I76 : Int → World → Prop) (μ77 : Int → World → Nat),
 (I76 0 w65 ∧ True) ∧
 ∀ (w78 : World) (x79 : Int), I76 x79 w78 →
 BoolK (decide ((x79 : Int) < (l75 : Nat)))
 ((0 ≤ (x79 : Int) ∧ (x79 : Int) < (l75 : Nat)) ∧
 AddrK a75 fun b80 =>
 ∃ (s81 : ByteArray), w78.cell? ((b80.add ((x79 : Int).toNat * 2)).add 0) = some (.string s81) ∧
 (∃ (x82 : Int), w78.cell? ((b80.add ((x79 : Int).toNat * 2)).add 1) = some (.int .i64 x82) ∧
 (AllocK w78 (#[.string ⟨#[]⟩, .int .i64 0]) 32 fun b83 w84 =>
 SetK w84 (b83.add 0) (.string s81) fun w85 =>
 SetK w85 (b83.add 1) (.int .i64 x82) fun w86 =>
 ∃ (s87 : ByteArray), w86.cell? b83 = some (.string s87) ∧
 (BoolK (decide (((s87.size : Nat) : Int) > 20))
 (K false w86)
 (I76 (IntKind.wrap .i64 (x79 + 1)) w86 ∧ μ77 (IntKind.wrap .i64 (x79 + 1)) w86 < μ77 x79 w78)))))
 (I26 (IntKind.wrap .i64 (x29 + 1)) w78 ∧ μ27 (IntKind.wrap .i64 (x29 + 1)) w78 < μ27 x29 w28)))))))))))))))))))))))))
 (I6 (IntKind.wrap .i64 (x9 + 1)) w28 ∧ μ7 (IntKind.wrap .i64 (x9 + 1)) w28 < μ7 x9 w8)))))))))))))))
 (K true w8))))
def ann4 : Ann := (.two .nil (.two (.two .nil (.two (.two .nil .nil) .nil)) (.two (.two .nil (.one (.loop [(18, (.one (.int .i64)))] [16, 17] (.two .nil (.two (.two .nil .nil) (.two (.one (.two .nil (.two (.two .nil (.two (.two .nil .nil) .nil)) (.two .nil (.one (.loop [(44, (.one (.int .i64)))] [16, 17, 18, 42, 43] (.two .nil (.two (.two .nil .nil) (.two (.one (.two .nil (.two (.two .nil (.two (.two .nil .nil) .nil)) (.two (.two .nil (.one (.loop [(83, (.one (.int .i64)))] [6, 16, 17, 18, 42, 43, 44, 81, 82] (.two .nil (.two (.two .nil .nil) (.two (.one (.two .nil (.two .nil (.two (.two .nil .nil) .nil)))) .nil)))))) (.two .nil (.one (.loop [(95, (.one (.int .i64)))] [16, 17, 18, 42, 43, 44, 93, 94] (.two .nil (.two (.two .nil .nil) (.two (.one (.two .nil (.two .nil (.two (.two .nil .nil) .nil)))) .nil)))))))))) .nil))))))))) .nil)))))) (.two .nil .nil))))
noncomputable def code4 : Code := match Tryz.f4.body with | some c => c | none => .skip
theorem wp4 (a1 : Option Addr) (l1 : Nat) (c1 : Nat) (K : Bool → World → Prop) (w : World) : WP Tryz.prog tab code4 ann4 (fnQ tab Tryz.f4.results.toList [(.one .bool)] K) (argE 0 [(.agg #[(.slice a1 l1 c1)])]) w = N4 a1 l1 c1 K w := by kernel_rfl
theorem calls4 (a1 : Option Addr) (l1 : Nat) (c1 : Nat) (K : Bool → World → Prop) (w : World) (h : N4 a1 l1 c1 K w) : Calls Tryz.prog 4 #[(.agg #[(.slice a1 l1 c1)])] w fun en w' => ∃ (p88 : Bool), en = .returned (.bool p88) ∧ K p88 w' :=
 have e : (fun en w' => ExShs [(.one .bool)] fun vs => en = .returned (tupled vs) ∧ ap [(.one .bool)] K vs fun p => p w') = (fun (en : Ending) (w' : World) => ∃ (p88 : Bool), en = .returned (.bool p88) ∧ K p88 w') := by kernel_rfl
 e ▸ fn_sound tabOk mixed Tryz.func4 (by kernel_rfl : Tryz.f4.body = some code4) ann4 [(.agg #[(.slice a1 l1 c1)])] [(.one .bool)] K w (by kernel_rfl) ((wp4 a1 l1 c1 K w).symm ▸ h)
end Go.Proofs.YtkneoodgoadpaacGreatDoor

namespace Go.Proofs.YtkneoodgoadpaacGreatDoor
open Go Go.V Go.Proofs
open Go.RowKit (Below)
theorem c4 (w : World) {a1 : Option Addr} {l1 : Nat} (c1 : Nat) {xs : List ProcD} (h1 : RL 4 RPr w a1 l1 xs) :
    Calls Tryz.prog 4 #[.agg #[.slice a1 l1 c1]] w fun en w' => ∃ p, en = .returned (.bool p) ∧ Ext w w' := by
  refine calls4 _ _ _ (fun _ w' => Ext w w') w ?_
  refine AllocK.mk fun b2 w3 hb hB x3 => ?_
  refine ⟨a1, l1, c1, (by rw [hB.cell]; rfl), BoolK.mk (fun _ => x3) (fun _ => ?_)⟩
  have hm := h1.2
  simp only [maxLen] at hm
  refine ⟨a1, l1, c1, (by rw [hB.cell]; rfl), fun i w' => 0 ≤ i ∧ i ≤ l1 ∧ Ext w w', fun i _ => l1 - i.toNat, ⟨⟨Int.le_refl 0, by omega, x3⟩, trivial⟩, ?_⟩
  rintro w8 i ⟨i0, i1, x8⟩
  refine BoolK.mk (fun t => ?_) (fun _ => x8)
  have t := of_decide_eq_true t
  have hj1 : i.toNat < xs.length := by rw [← h1.1.1]; omega
  obtain ⟨b1, o1, e1, hy1⟩ := (h1.1.ext RPr.mono x8).get hj1
  generalize xs[i.toNat] = X at hy1
  obtain ⟨p0x, p1x, p2x, ⟨a3x, l3x, k3x, p3x, r3x⟩⟩ := hy1
  refine ⟨⟨i0, t⟩, adK e1 ⟨_, (by rw [add_mk, add_mk]; exact p0x), _, (by rw [add_mk, add_mk]; exact p1x), _, (by rw [add_mk, add_mk]; exact p2x), a3x, l3x, k3x, (by rw [add_mk, add_mk]; exact p3x), ?_⟩⟩
  refine local_fill [.int .i64 X.p, .int .i64 X.l, .int .i64 X.c, .slice a3x l3x k3x] (by rfl) fun b w20 hA x20 => ?_
  have y := x8.trans x20
  refine ⟨a3x, l3x, k3x, (by rw [add_mk, hA.cell]; rfl), BoolK.mk (fun _ => y) (fun _ => ?_)⟩
  refine ⟨X.l, (by rw [add_mk, hA.cell]; rfl), BoolK.mk (fun _ => y) (fun _ => ?_)⟩
  refine ⟨X.p, (by rw [hA.cell]; rfl), BoolK.mk (fun _ => y) (fun _ => ?_)⟩
  refine ⟨X.c, (by rw [add_mk, hA.cell]; rfl), BoolK.mk (fun _ => y) (fun _ => ?_)⟩
  have r3 := r3x.ext RIns.mono x20
  have hm3 := r3.2
  simp only [maxLen] at hm3
  refine ⟨a3x, l3x, k3x, (by rw [add_mk, hA.cell]; rfl), fun j w' => 0 ≤ j ∧ j ≤ l3x ∧ Ext w20 w', fun j _ => l3x - j.toNat, ⟨⟨Int.le_refl 0, by omega, Ext.refl _⟩, trivial⟩, ?_⟩
  rintro w28 j ⟨j0, j1, x28⟩
  have y28 := y.trans x28
  refine BoolK.mk (fun u => ?_) (fun u => ?_)
  · have u := of_decide_eq_true u
    have hk1 : j.toNat < X.ins.length := by rw [← r3.1.1]; omega
    obtain ⟨b2, o2, e2, hy2⟩ := (r3.1.ext RIns.mono x28).get hk1
    generalize X.ins[j.toNat] = Y at hy2
    obtain ⟨p0y, p1y, p2y, p3y, p4y, p5y, p6y, p7y, ⟨a8y, l8y, k8y, p8y, r8y⟩, ⟨a9y, l9y, k9y, p9y, r9y⟩, ⟨a10y, l10y, k10y, p10y, r10y⟩⟩ := hy2
    refine ⟨⟨j0, u⟩, adK e2 ⟨_, (by rw [add_mk, add_mk]; exact p0y), _, (by rw [add_mk, add_mk]; exact p1y), _, (by rw [add_mk, add_mk]; exact p2y), _, (by rw [add_mk, add_mk]; exact p3y), _, (by rw [add_mk, add_mk]; exact p4y), _, (by rw [add_mk, add_mk]; exact p5y), _, (by rw [add_mk, add_mk]; exact p6y), _, (by rw [add_mk, add_mk]; exact p7y), a8y, l8y, k8y, (by rw [add_mk, add_mk]; exact p8y), a9y, l9y, k9y, (by rw [add_mk, add_mk]; exact p9y), a10y, l10y, k10y, (by rw [add_mk, add_mk]; exact p10y), ?_⟩⟩
    refine local_fill [.string Y.dO, .string Y.nm, .string Y.A.1, .int .i64 Y.A.2, .string Y.B.1, .int .i64 Y.B.2, .int .i64 Y.n, .int .i64 Y.t, .slice a8y l8y k8y, .slice a9y l9y k9y, .slice a10y l10y k10y] (by rfl) fun b' w54 hD x54 => ?_
    have y54 := y28.trans x54
    refine ⟨a8y, l8y, k8y, (by rw [add_mk, hD.cell]; rfl), a9y, l9y, k9y, (by rw [add_mk, hD.cell]; rfl), a10y, l10y, k10y, (by rw [add_mk, hD.cell]; rfl), BoolK.mk (fun _ => y54) (fun _ => ?_)⟩
    refine ⟨Y.dO, (by rw [hD.cell]; rfl), Y.nm, (by rw [add_mk, hD.cell]; rfl), Y.A.1, (by rw [add_mk, hD.cell]; rfl), Y.B.1, (by rw [add_mk, hD.cell]; rfl), BoolK.mk (fun _ => y54) (fun _ => ?_)⟩
    have r9 := r9y.ext RFt.mono x54
    have hm9 := r9.2
    simp only [maxLen] at hm9
    refine ⟨a9y, l9y, k9y, (by rw [add_mk, hD.cell]; rfl), fun k w' => 0 ≤ k ∧ k ≤ l9y ∧ Ext w54 w', fun k _ => l9y - k.toNat, ⟨⟨Int.le_refl 0, by omega, Ext.refl _⟩, trivial⟩, ?_⟩
    rintro w65 k ⟨k0, k1, x65⟩
    refine BoolK.mk (fun v => ?_) (fun v => ?_)
    · have v := of_decide_eq_true v
      have hf : k.toNat < Y.fs.length := by rw [← r9.1.1]; omega
      obtain ⟨b3, o3, e3, hf3⟩ := (r9.1.ext RFt.mono x65).get hf
      generalize Y.fs[k.toNat] = f at hf3
      refine ⟨⟨k0, v⟩, adK e3 ⟨_, (by rw [add_mk, add_mk]; exact hf3.1), _, (by rw [add_mk, add_mk]; exact hf3.2), ?_⟩⟩
      refine local_fill [.int .i64 f.1, .string f.2] (by rfl) fun b'' w73 hF x73 => ?_
      have y73 := x65.trans x73
      refine ⟨f.2, (by rw [add_mk, hF.cell]; rfl), BoolK.mk (fun _ => y54.trans y73) (fun _ => ?_)⟩
      rw [wrap_id] <;> first | omega | (exact ⟨⟨by omega, by omega, y73⟩, by show l9y - (k + 1).toNat < l9y - k.toNat; omega⟩)
    · have y65 := x54.trans x65
      have r8 := r8y.ext RRg.mono y65
      have hm8 := r8.2
      simp only [maxLen] at hm8
      refine ⟨a8y, l8y, k8y, (by rw [add_mk, (hD.ext x65).cell]; rfl), fun k w' => 0 ≤ k ∧ k ≤ l8y ∧ Ext w65 w', fun k _ => l8y - k.toNat, ⟨⟨Int.le_refl 0, by omega, Ext.refl _⟩, trivial⟩, ?_⟩
      rintro w78 m ⟨m0, m1, x78⟩
      have y78 := y65.trans x78
      refine BoolK.mk (fun v => ?_) (fun v => ?_)
      · have v := of_decide_eq_true v
        have hf : m.toNat < Y.rs.length := by rw [← r8.1.1]; omega
        obtain ⟨b3, o3, e3, hf3⟩ := (r8.1.ext RRg.mono x78).get hf
        generalize Y.rs[m.toNat] = f at hf3
        refine ⟨⟨m0, v⟩, adK e3 ⟨_, (by rw [add_mk, add_mk]; exact hf3.1), _, (by rw [add_mk, add_mk]; exact hf3.2), ?_⟩⟩
        refine local_fill [.string f.1, .int .i64 f.2] (by rfl) fun b'' w73 hF x73 => ?_
        have y73 := x78.trans x73
        refine ⟨f.1, (by rw [hF.cell]; rfl), BoolK.mk (fun _ => (y28.trans y65).trans y73) (fun _ => ?_)⟩
        rw [wrap_id] <;> first | omega | (exact ⟨⟨by omega, by omega, y73⟩, by show l8y - (m + 1).toNat < l8y - m.toNat; omega⟩)
      · rw [wrap_id] <;> first | omega | (exact ⟨⟨by omega, by omega, x28.trans y78⟩, by show l3x - (j + 1).toNat < l3x - j.toNat; omega⟩)
  · rw [wrap_id] <;> first | omega | (exact ⟨⟨by omega, by omega, y28⟩, by show l1 - (i + 1).toNat < l1 - i.toNat; omega⟩)
end Go.Proofs.YtkneoodgoadpaacGreatDoor

namespace Go.Proofs.YtkneoodgoadpaacGreatDoor
open Go Go.V Go.Proofs
open Go.RowKit (Below)
/-! manystrand/manystrandlaw18.CodeSame -/
def N3 (a1 : Option Addr) (l1 : Nat) (c1 : Nat) (a2 : Option Addr) (l2 : Nat) (c2 : Nat) (K : Bool → World → Prop) (w : World) : Prop :=
 AllocK w (#[(.slice a1 l1 c1)]) 24 fun b3 w4 =>
 AllocK w4 (#[(.slice a2 l2 c2)]) 24 fun b5 w6 =>
 ∃ (J7 : Bool → World → Prop),
 (∀ (w8 : World) (p9 : Bool), J7 p9 w8 →
 BoolK p9
 (Calls Tryz.prog 5 #[] w8 fun e12 w11 =>
 ∃ (p10 : Bool), e12 = .returned (.bool p10) ∧
 (K p10 w11))
 (DrewK w8 fun w13 =>
 ∃ (a14 : Option Addr) (l14 : Nat) (c14 : Nat), w13.cell? (b3.add 0) = some (.slice a14 l14 c14) ∧
 (∃ (a15 : Option Addr) (l15 : Nat) (c15 : Nat), w13.cell? (b5.add 0) = some (.slice a15 l15 c15) ∧
 (∃ (a16 : Option Addr) (l16 : Nat) (c16 : Nat), w13.cell? (b3.add 0) = some (.slice a16 l16 c16) ∧
 (∃ (a17 : Option Addr) (l17 : Nat) (c17 : Nat), w13.cell? (b5.add 0) = some (.slice a17 l17 c17) ∧
 (Calls Tryz.prog 6 #[(.agg #[(.slice a14 l14 c14)]), (.agg #[(.slice a15 l15 c15)])] w13 fun e20 w19 =>
 ∃ (p18 : Bool), e20 = .returned (.bool p18) ∧
 (Cel w13 w19 ∧
 (Calls Tryz.prog 7 #[(.agg #[(.slice a16 l16 c16)]), (.agg #[(.slice a17 l17 c17)])] w19 fun e23 w22 =>
 ∃ (p21 : Bool), e23 = .returned (.bool p21) ∧
 (Cel w13 w22 ∧
 ((BoolK (p18 == p21)
 (∃ (a24 : Option Addr) (l24 : Nat) (c24 : Nat), w22.cell? (b5.add 0) = some (.slice a24 l24 c24) ∧
 (Cel w13 w22 ∧
 ((∃ (a25 : Option Addr) (l25 : Nat) (c25 : Nat), w22.cell? (b3.add 0) = some (.slice a25 l25 c25) ∧
 (Cel w13 w22 ∧
 ((Calls Tryz.prog 6 #[(.agg #[(.slice a24 l24 c24)]), (.agg #[(.slice a25 l25 c25)])] w22 fun e28 w27 =>
 ∃ (p26 : Bool), e28 = .returned (.bool p26) ∧
 (Cel w13 w27 ∧
 ((∃ (a29 : Option Addr) (l29 : Nat) (c29 : Nat), w27.cell? (b3.add 0) = some (.slice a29 l29 c29) ∧
 (Cel w13 w27 ∧
 (∃ (a30 : Option Addr) (l30 : Nat) (c30 : Nat), w27.cell? (b5.add 0) = some (.slice a30 l30 c30) ∧
 (Cel w13 w27 ∧
 (Calls Tryz.prog 7 #[(.agg #[(.slice a29 l29 c29)]), (.agg #[(.slice a30 l30 c30)])] w27 fun e33 w32 =>
 ∃ (p31 : Bool), e33 = .returned (.bool p31) ∧
 (Cel w13 w32 ∧
 ((BoolK (p26 == p31)
 (∃ (a34 : Option Addr) (l34 : Nat) (c34 : Nat), w32.cell? (b3.add 0) = some (.slice a34 l34 c34) ∧
 (Cel w13 w32 ∧
 (∃ (a35 : Option Addr) (l35 : Nat) (c35 : Nat), w32.cell? (b3.add 0) = some (.slice a35 l35 c35) ∧
 (Cel w13 w32 ∧
 (Calls Tryz.prog 6 #[(.agg #[(.slice a34 l34 c34)]), (.agg #[(.slice a35 l35 c35)])] w32 fun e38 w37 =>
 ∃ (p36 : Bool), e38 = .returned (.bool p36) ∧
 (Cel w13 w37 ∧
 (BoolK p36
 (Calls Tryz.prog 5 #[] w37 fun e41 w40 =>
 ∃ (p39 : Bool), e41 = .returned (.bool p39) ∧
 (K p39 w40))
 (K false w37))))))))
 (K false w32)) ∧
 (BoolK (p26 == p31)
 (∃ (a42 : Option Addr) (l42 : Nat) (c42 : Nat), w32.cell? (b3.add 0) = some (.slice a42 l42 c42) ∧
 (Cel w13 w32 ∧
 (∃ (a43 : Option Addr) (l43 : Nat) (c43 : Nat), w32.cell? (b3.add 0) = some (.slice a43 l43 c43) ∧
 (Cel w13 w32 ∧
 (Calls Tryz.prog 6 #[(.agg #[(.slice a43 l43 c43)]), (.agg #[(.slice a42 l42 c42)])] w32 fun e46 w45 =>
 ∃ (p44 : Bool), e46 = .returned (.bool p44) ∧
 (Cel w13 w45 ∧
 (BoolK p44
 (Calls Tryz.prog 5 #[] w45 fun e49 w48 =>
 ∃ (p47 : Bool), e49 = .returned (.bool p47) ∧
 (K p47 w48))
 (K false w45))))))))
 (K false w32))))))))) ∧
 (∃ (a50 : Option Addr) (l50 : Nat) (c50 : Nat), w27.cell? (b5.add 0) = some (.slice a50 l50 c50) ∧
 (Cel w13 w27 ∧
 (∃ (a51 : Option Addr) (l51 : Nat) (c51 : Nat), w27.cell? (b3.add 0) = some (.slice a51 l51 c51) ∧
 (Cel w13 w27 ∧
 (Calls Tryz.prog 7 #[(.agg #[(.slice a51 l51 c51)]), (.agg #[(.slice a50 l50 c50)])] w27 fun e54 w53 =>
 ∃ (p52 : Bool), e54 = .returned (.bool p52) ∧
 (Cel w13 w53 ∧
 ((BoolK (p26 == p52)
 (∃ (a55 : Option Addr) (l55 : Nat) (c55 : Nat), w53.cell? (b3.add 0) = some (.slice a55 l55 c55) ∧
 (Cel w13 w53 ∧
 (∃ (a56 : Option Addr) (l56 : Nat) (c56 : Nat), w53.cell? (b3.add 0) = some (.slice a56 l56 c56) ∧
 (Cel w13 w53 ∧
 (Calls Tryz.prog 6 #[(.agg #[(.slice a55 l55 c55)]), (.agg #[(.slice a56 l56 c56)])] w53 fun e59 w58 =>
 ∃ (p57 : Bool), e59 = .returned (.bool p57) ∧
 (Cel w13 w58 ∧
 (BoolK p57
 (Calls Tryz.prog 5 #[] w58 fun e62 w61 =>
 ∃ (p60 : Bool), e62 = .returned (.bool p60) ∧
 (K p60 w61))
 (K false w58))))))))
 (K false w53)) ∧
 (BoolK (p26 == p52)
 (∃ (a63 : Option Addr) (l63 : Nat) (c63 : Nat), w53.cell? (b3.add 0) = some (.slice a63 l63 c63) ∧
 (Cel w13 w53 ∧
 (∃ (a64 : Option Addr) (l64 : Nat) (c64 : Nat), w53.cell? (b3.add 0) = some (.slice a64 l64 c64) ∧
 (Cel w13 w53 ∧
 (Calls Tryz.prog 6 #[(.agg #[(.slice a64 l64 c64)]), (.agg #[(.slice a63 l63 c63)])] w53 fun e67 w66 =>
 ∃ (p65 : Bool), e67 = .returned (.bool p65) ∧
 (Cel w13 w66 ∧
 (BoolK p65
 (Calls Tryz.prog 5 #[] w66 fun e70 w69 =>
 ∃ (p68 : Bool), e70 = .returned (.bool p68) ∧
 (K p68 w69))
 (K false w66))))))))
 (K false w53)))))))))))) ∧
 ((∃ (a71 : Option Addr) (l71 : Nat) (c71 : Nat), w22.cell? (b3.add 0) = some (.slice a71 l71 c71) ∧
 (Cel w13 w22 ∧
 ((Calls Tryz.prog 6 #[(.agg #[(.slice a24 l24 c24)]), (.agg #[(.slice a25 l25 c25)])] w22 fun e74 w73 =>
 ∃ (p72 : Bool), e74 = .returned (.bool p72) ∧
 (Cel w13 w73 ∧
 (∃ (a75 : Option Addr) (l75 : Nat) (c75 : Nat), w73.cell? (b5.add 0) = some (.slice a75 l75 c75) ∧
 (Cel w13 w73 ∧
 (Calls Tryz.prog 7 #[(.agg #[(.slice a71 l71 c71)]), (.agg #[(.slice a75 l75 c75)])] w73 fun e78 w77 =>
 ∃ (p76 : Bool), e78 = .returned (.bool p76) ∧
 (Cel w13 w77 ∧
 ((BoolK (p72 == p76)
 (∃ (a79 : Option Addr) (l79 : Nat) (c79 : Nat), w77.cell? (b3.add 0) = some (.slice a79 l79 c79) ∧
 (Cel w13 w77 ∧
 (∃ (a80 : Option Addr) (l80 : Nat) (c80 : Nat), w77.cell? (b3.add 0) = some (.slice a80 l80 c80) ∧
 (Cel w13 w77 ∧
 (Calls Tryz.prog 6 #[(.agg #[(.slice a79 l79 c79)]), (.agg #[(.slice a80 l80 c80)])] w77 fun e83 w82 =>
 ∃ (p81 : Bool), e83 = .returned (.bool p81) ∧
 (Cel w13 w82 ∧
 (BoolK p81
 (Calls Tryz.prog 5 #[] w82 fun e86 w85 =>
 ∃ (p84 : Bool), e86 = .returned (.bool p84) ∧
 (K p84 w85))
 (K false w82))))))))
 (K false w77)) ∧
 (BoolK (p72 == p76)
 (∃ (a87 : Option Addr) (l87 : Nat) (c87 : Nat), w77.cell? (b3.add 0) = some (.slice a87 l87 c87) ∧
 (Cel w13 w77 ∧
 (∃ (a88 : Option Addr) (l88 : Nat) (c88 : Nat), w77.cell? (b3.add 0) = some (.slice a88 l88 c88) ∧
 (Cel w13 w77 ∧
 (Calls Tryz.prog 6 #[(.agg #[(.slice a88 l88 c88)]), (.agg #[(.slice a87 l87 c87)])] w77 fun e91 w90 =>
 ∃ (p89 : Bool), e91 = .returned (.bool p89) ∧
 (Cel w13 w90 ∧
 (BoolK p89
 (Calls Tryz.prog 5 #[] w90 fun e94 w93 =>
 ∃ (p92 : Bool), e94 = .returned (.bool p92) ∧
 (K p92 w93))
 (K false w90))))))))
 (K false w77))))))))) ∧
 (∃ (a95 : Option Addr) (l95 : Nat) (c95 : Nat), w22.cell? (b5.add 0) = some (.slice a95 l95 c95) ∧
 (Cel w13 w22 ∧
 (Calls Tryz.prog 6 #[(.agg #[(.slice a24 l24 c24)]), (.agg #[(.slice a25 l25 c25)])] w22 fun e98 w97 =>
 ∃ (p96 : Bool), e98 = .returned (.bool p96) ∧
 (Cel w13 w97 ∧
 (Calls Tryz.prog 7 #[(.agg #[(.slice a71 l71 c71)]), (.agg #[(.slice a95 l95 c95)])] w97 fun e101 w100 =>
 ∃ (p99 : Bool), e101 = .returned (.bool p99) ∧
 (Cel w13 w100 ∧
 ((BoolK (p96 == p99)
 (∃ (a102 : Option Addr) (l102 : Nat) (c102 : Nat), w100.cell? (b3.add 0) = some (.slice a102 l102 c102) ∧
 (Cel w13 w100 ∧
 (∃ (a103 : Option Addr) (l103 : Nat) (c103 : Nat), w100.cell? (b3.add 0) = some (.slice a103 l103 c103) ∧
 (Cel w13 w100 ∧
 (Calls Tryz.prog 6 #[(.agg #[(.slice a102 l102 c102)]), (.agg #[(.slice a103 l103 c103)])] w100 fun e106 w105 =>
 ∃ (p104 : Bool), e106 = .returned (.bool p104) ∧
 (Cel w13 w105 ∧
 (BoolK p104
 (Calls Tryz.prog 5 #[] w105 fun e109 w108 =>
 ∃ (p107 : Bool), e109 = .returned (.bool p107) ∧
 (K p107 w108))
 (K false w105))))))))
 (K false w100)) ∧
 (BoolK (p96 == p99)
 (∃ (a110 : Option Addr) (l110 : Nat) (c110 : Nat), w100.cell? (b3.add 0) = some (.slice a110 l110 c110) ∧
 (Cel w13 w100 ∧
 (∃ (a111 : Option Addr) (l111 : Nat) (c111 : Nat), w100.cell? (b3.add 0) = some (.slice a111 l111 c111) ∧
 (Cel w13 w100 ∧
 (Calls Tryz.prog 6 #[(.agg #[(.slice a111 l111 c111)]), (.agg #[(.slice a110 l110 c110)])] w100 fun e114 w113 =>
 ∃ (p112 : Bool), e114 = .returned (.bool p112) ∧
 (Cel w13 w113 ∧
 (BoolK p112
 (Calls Tryz.prog 5 #[] w113 fun e117 w116 =>
 ∃ (p115 : Bool), e117 = .returned (.bool p115) ∧
 (K p115 w116))
 (K false w113))))))))
 (K false w100)))))))))))) ∧
 (∃ (a118 : Option Addr) (l118 : Nat) (c118 : Nat), w22.cell? (b5.add 0) = some (.slice a118 l118 c118) ∧
 (Cel w13 w22 ∧
 ((Calls Tryz.prog 6 #[(.agg #[(.slice a24 l24 c24)]), (.agg #[(.slice a25 l25 c25)])] w22 fun e121 w120 =>
 ∃ (p119 : Bool), e121 = .returned (.bool p119) ∧
 (Cel w13 w120 ∧
 (∃ (a122 : Option Addr) (l122 : Nat) (c122 : Nat), w120.cell? (b3.add 0) = some (.slice a122 l122 c122) ∧
 (Cel w13 w120 ∧
 (Calls Tryz.prog 7 #[(.agg #[(.slice a122 l122 c122)]), (.agg #[(.slice a118 l118 c118)])] w120 fun e125 w124 =>
 ∃ (p123 : Bool), e125 = .returned (.bool p123) ∧
 (Cel w13 w124 ∧
 ((BoolK (p119 == p123)
 (∃ (a126 : Option Addr) (l126 : Nat) (c126 : Nat), w124.cell? (b3.add 0) = some (.slice a126 l126 c126) ∧
 (Cel w13 w124 ∧
 (∃ (a127 : Option Addr) (l127 : Nat) (c127 : Nat), w124.cell? (b3.add 0) = some (.slice a127 l127 c127) ∧
 (Cel w13 w124 ∧
 (Calls Tryz.prog 6 #[(.agg #[(.slice a126 l126 c126)]), (.agg #[(.slice a127 l127 c127)])] w124 fun e130 w129 =>
 ∃ (p128 : Bool), e130 = .returned (.bool p128) ∧
 (Cel w13 w129 ∧
 (BoolK p128
 (Calls Tryz.prog 5 #[] w129 fun e133 w132 =>
 ∃ (p131 : Bool), e133 = .returned (.bool p131) ∧
 (K p131 w132))
 (K false w129))))))))
 (K false w124)) ∧
 (BoolK (p119 == p123)
 (∃ (a134 : Option Addr) (l134 : Nat) (c134 : Nat), w124.cell? (b3.add 0) = some (.slice a134 l134 c134) ∧
 (Cel w13 w124 ∧
 (∃ (a135 : Option Addr) (l135 : Nat) (c135 : Nat), w124.cell? (b3.add 0) = some (.slice a135 l135 c135) ∧
 (Cel w13 w124 ∧
 (Calls Tryz.prog 6 #[(.agg #[(.slice a135 l135 c135)]), (.agg #[(.slice a134 l134 c134)])] w124 fun e138 w137 =>
 ∃ (p136 : Bool), e138 = .returned (.bool p136) ∧
 (Cel w13 w137 ∧
 (BoolK p136
 (Calls Tryz.prog 5 #[] w137 fun e141 w140 =>
 ∃ (p139 : Bool), e141 = .returned (.bool p139) ∧
 (K p139 w140))
 (K false w137))))))))
 (K false w124))))))))) ∧
 (∃ (a142 : Option Addr) (l142 : Nat) (c142 : Nat), w22.cell? (b3.add 0) = some (.slice a142 l142 c142) ∧
 (Cel w13 w22 ∧
 (Calls Tryz.prog 6 #[(.agg #[(.slice a24 l24 c24)]), (.agg #[(.slice a25 l25 c25)])] w22 fun e145 w144 =>
 ∃ (p143 : Bool), e145 = .returned (.bool p143) ∧
 (Cel w13 w144 ∧
 (Calls Tryz.prog 7 #[(.agg #[(.slice a142 l142 c142)]), (.agg #[(.slice a118 l118 c118)])] w144 fun e148 w147 =>
 ∃ (p146 : Bool), e148 = .returned (.bool p146) ∧
 (Cel w13 w147 ∧
 ((BoolK (p143 == p146)
 (∃ (a149 : Option Addr) (l149 : Nat) (c149 : Nat), w147.cell? (b3.add 0) = some (.slice a149 l149 c149) ∧
 (Cel w13 w147 ∧
 (∃ (a150 : Option Addr) (l150 : Nat) (c150 : Nat), w147.cell? (b3.add 0) = some (.slice a150 l150 c150) ∧
 (Cel w13 w147 ∧
 (Calls Tryz.prog 6 #[(.agg #[(.slice a149 l149 c149)]), (.agg #[(.slice a150 l150 c150)])] w147 fun e153 w152 =>
 ∃ (p151 : Bool), e153 = .returned (.bool p151) ∧
 (Cel w13 w152 ∧
 (BoolK p151
 (Calls Tryz.prog 5 #[] w152 fun e156 w155 =>
 ∃ (p154 : Bool), e156 = .returned (.bool p154) ∧
 (K p154 w155))
 (K false w152))))))))
 (K false w147)) ∧
 (BoolK (p143 == p146)
 (∃ (a157 : Option Addr) (l157 : Nat) (c157 : Nat), w147.cell? (b3.add 0) = some (.slice a157 l157 c157) ∧
 (Cel w13 w147 ∧
 (∃ (a158 : Option Addr) (l158 : Nat) (c158 : Nat), w147.cell? (b3.add 0) = some (.slice a158 l158 c158) ∧
 (Cel w13 w147 ∧
 (Calls Tryz.prog 6 #[(.agg #[(.slice a158 l158 c158)]), (.agg #[(.slice a157 l157 c157)])] w147 fun e161 w160 =>
 ∃ (p159 : Bool), e161 = .returned (.bool p159) ∧
 (Cel w13 w160 ∧
 (BoolK p159
 (Calls Tryz.prog 5 #[] w160 fun e164 w163 =>
 ∃ (p162 : Bool), e164 = .returned (.bool p162) ∧
 (K p162 w163))
 (K false w160))))))))
 (K false w147)))))))))))))))) ∧
 ((∃ (a165 : Option Addr) (l165 : Nat) (c165 : Nat), w22.cell? (b3.add 0) = some (.slice a165 l165 c165) ∧
 (Cel w13 w22 ∧
 ((∃ (a166 : Option Addr) (l166 : Nat) (c166 : Nat), w22.cell? (b3.add 0) = some (.slice a166 l166 c166) ∧
 (Cel w13 w22 ∧
 ((Calls Tryz.prog 6 #[(.agg #[(.slice a24 l24 c24)]), (.agg #[(.slice a166 l166 c166)])] w22 fun e169 w168 =>
 ∃ (p167 : Bool), e169 = .returned (.bool p167) ∧
 (Cel w13 w168 ∧
 (∃ (a170 : Option Addr) (l170 : Nat) (c170 : Nat), w168.cell? (b5.add 0) = some (.slice a170 l170 c170) ∧
 (Cel w13 w168 ∧
 (Calls Tryz.prog 7 #[(.agg #[(.slice a165 l165 c165)]), (.agg #[(.slice a170 l170 c170)])] w168 fun e173 w172 =>
 ∃ (p171 : Bool), e173 = .returned (.bool p171) ∧
 (Cel w13 w172 ∧
 ((BoolK (p167 == p171)
 (∃ (a174 : Option Addr) (l174 : Nat) (c174 : Nat), w172.cell? (b3.add 0) = some (.slice a174 l174 c174) ∧
 (Cel w13 w172 ∧
 (∃ (a175 : Option Addr) (l175 : Nat) (c175 : Nat), w172.cell? (b3.add 0) = some (.slice a175 l175 c175) ∧
 (Cel w13 w172 ∧
 (Calls Tryz.prog 6 #[(.agg #[(.slice a174 l174 c174)]), (.agg #[(.slice a175 l175 c175)])] w172 fun e178 w177 =>
 ∃ (p176 : Bool), e178 = .returned (.bool p176) ∧
 (Cel w13 w177 ∧
 (BoolK p176
 (Calls Tryz.prog 5 #[] w177 fun e181 w180 =>
 ∃ (p179 : Bool), e181 = .returned (.bool p179) ∧
 (K p179 w180))
 (K false w177))))))))
 (K false w172)) ∧
 (BoolK (p167 == p171)
 (∃ (a182 : Option Addr) (l182 : Nat) (c182 : Nat), w172.cell? (b3.add 0) = some (.slice a182 l182 c182) ∧
 (Cel w13 w172 ∧
 (∃ (a183 : Option Addr) (l183 : Nat) (c183 : Nat), w172.cell? (b3.add 0) = some (.slice a183 l183 c183) ∧
 (Cel w13 w172 ∧
 (Calls Tryz.prog 6 #[(.agg #[(.slice a183 l183 c183)]), (.agg #[(.slice a182 l182 c182)])] w172 fun e186 w185 =>
 ∃ (p184 : Bool), e186 = .returned (.bool p184) ∧
 (Cel w13 w185 ∧
 (BoolK p184
 (Calls Tryz.prog 5 #[] w185 fun e189 w188 =>
 ∃ (p187 : Bool), e189 = .returned (.bool p187) ∧
 (K p187 w188))
 (K false w185))))))))
 (K false w172))))))))) ∧
 (∃ (a190 : Option Addr) (l190 : Nat) (c190 : Nat), w22.cell? (b5.add 0) = some (.slice a190 l190 c190) ∧
 (Cel w13 w22 ∧
 (Calls Tryz.prog 6 #[(.agg #[(.slice a24 l24 c24)]), (.agg #[(.slice a166 l166 c166)])] w22 fun e193 w192 =>
 ∃ (p191 : Bool), e193 = .returned (.bool p191) ∧
 (Cel w13 w192 ∧
 (Calls Tryz.prog 7 #[(.agg #[(.slice a165 l165 c165)]), (.agg #[(.slice a190 l190 c190)])] w192 fun e196 w195 =>
 ∃ (p194 : Bool), e196 = .returned (.bool p194) ∧
 (Cel w13 w195 ∧
 ((BoolK (p191 == p194)
 (∃ (a197 : Option Addr) (l197 : Nat) (c197 : Nat), w195.cell? (b3.add 0) = some (.slice a197 l197 c197) ∧
 (Cel w13 w195 ∧
 (∃ (a198 : Option Addr) (l198 : Nat) (c198 : Nat), w195.cell? (b3.add 0) = some (.slice a198 l198 c198) ∧
 (Cel w13 w195 ∧
 (Calls Tryz.prog 6 #[(.agg #[(.slice a197 l197 c197)]), (.agg #[(.slice a198 l198 c198)])] w195 fun e201 w200 =>
 ∃ (p199 : Bool), e201 = .returned (.bool p199) ∧
 (Cel w13 w200 ∧
 (BoolK p199
 (Calls Tryz.prog 5 #[] w200 fun e204 w203 =>
 ∃ (p202 : Bool), e204 = .returned (.bool p202) ∧
 (K p202 w203))
 (K false w200))))))))
 (K false w195)) ∧
 (BoolK (p191 == p194)
 (∃ (a205 : Option Addr) (l205 : Nat) (c205 : Nat), w195.cell? (b3.add 0) = some (.slice a205 l205 c205) ∧
 (Cel w13 w195 ∧
 (∃ (a206 : Option Addr) (l206 : Nat) (c206 : Nat), w195.cell? (b3.add 0) = some (.slice a206 l206 c206) ∧
 (Cel w13 w195 ∧
 (Calls Tryz.prog 6 #[(.agg #[(.slice a206 l206 c206)]), (.agg #[(.slice a205 l205 c205)])] w195 fun e209 w208 =>
 ∃ (p207 : Bool), e209 = .returned (.bool p207) ∧
 (Cel w13 w208 ∧
 (BoolK p207
 (Calls Tryz.prog 5 #[] w208 fun e212 w211 =>
 ∃ (p210 : Bool), e212 = .returned (.bool p210) ∧
 (K p210 w211))
 (K false w208))))))))
 (K false w195)))))))))))) ∧
 (∃ (a213 : Option Addr) (l213 : Nat) (c213 : Nat), w22.cell? (b5.add 0) = some (.slice a213 l213 c213) ∧
 (Cel w13 w22 ∧
 (∃ (a214 : Option Addr) (l214 : Nat) (c214 : Nat), w22.cell? (b3.add 0) = some (.slice a214 l214 c214) ∧
 (Cel w13 w22 ∧
 (Calls Tryz.prog 6 #[(.agg #[(.slice a24 l24 c24)]), (.agg #[(.slice a214 l214 c214)])] w22 fun e217 w216 =>
 ∃ (p215 : Bool), e217 = .returned (.bool p215) ∧
 (Cel w13 w216 ∧
 (Calls Tryz.prog 7 #[(.agg #[(.slice a165 l165 c165)]), (.agg #[(.slice a213 l213 c213)])] w216 fun e220 w219 =>
 ∃ (p218 : Bool), e220 = .returned (.bool p218) ∧
 (Cel w13 w219 ∧
 ((BoolK (p215 == p218)
 (∃ (a221 : Option Addr) (l221 : Nat) (c221 : Nat), w219.cell? (b3.add 0) = some (.slice a221 l221 c221) ∧
 (Cel w13 w219 ∧
 (∃ (a222 : Option Addr) (l222 : Nat) (c222 : Nat), w219.cell? (b3.add 0) = some (.slice a222 l222 c222) ∧
 (Cel w13 w219 ∧
 (Calls Tryz.prog 6 #[(.agg #[(.slice a221 l221 c221)]), (.agg #[(.slice a222 l222 c222)])] w219 fun e225 w224 =>
 ∃ (p223 : Bool), e225 = .returned (.bool p223) ∧
 (Cel w13 w224 ∧
 (BoolK p223
 (Calls Tryz.prog 5 #[] w224 fun e228 w227 =>
 ∃ (p226 : Bool), e228 = .returned (.bool p226) ∧
 (K p226 w227))
 (K false w224))))))))
 (K false w219)) ∧
 (BoolK (p215 == p218)
 (∃ (a229 : Option Addr) (l229 : Nat) (c229 : Nat), w219.cell? (b3.add 0) = some (.slice a229 l229 c229) ∧
 (Cel w13 w219 ∧
 (∃ (a230 : Option Addr) (l230 : Nat) (c230 : Nat), w219.cell? (b3.add 0) = some (.slice a230 l230 c230) ∧
 (Cel w13 w219 ∧
 (Calls Tryz.prog 6 #[(.agg #[(.slice a230 l230 c230)]), (.agg #[(.slice a229 l229 c229)])] w219 fun e233 w232 =>
 ∃ (p231 : Bool), e233 = .returned (.bool p231) ∧
 (Cel w13 w232 ∧
 (BoolK p231
 (Calls Tryz.prog 5 #[] w232 fun e236 w235 =>
 ∃ (p234 : Bool), e236 = .returned (.bool p234) ∧
 (K p234 w235))
 (K false w232))))))))
 (K false w219)))))))))))))) ∧
 (∃ (a237 : Option Addr) (l237 : Nat) (c237 : Nat), w22.cell? (b5.add 0) = some (.slice a237 l237 c237) ∧
 (Cel w13 w22 ∧
 ((∃ (a238 : Option Addr) (l238 : Nat) (c238 : Nat), w22.cell? (b3.add 0) = some (.slice a238 l238 c238) ∧
 (Cel w13 w22 ∧
 ((Calls Tryz.prog 6 #[(.agg #[(.slice a24 l24 c24)]), (.agg #[(.slice a238 l238 c238)])] w22 fun e241 w240 =>
 ∃ (p239 : Bool), e241 = .returned (.bool p239) ∧
 (Cel w13 w240 ∧
 (∃ (a242 : Option Addr) (l242 : Nat) (c242 : Nat), w240.cell? (b3.add 0) = some (.slice a242 l242 c242) ∧
 (Cel w13 w240 ∧
 (Calls Tryz.prog 7 #[(.agg #[(.slice a242 l242 c242)]), (.agg #[(.slice a237 l237 c237)])] w240 fun e245 w244 =>
 ∃ (p243 : Bool), e245 = .returned (.bool p243) ∧
 (Cel w13 w244 ∧
 ((BoolK (p239 == p243)
 (∃ (a246 : Option Addr) (l246 : Nat) (c246 : Nat), w244.cell? (b3.add 0) = some (.slice a246 l246 c246) ∧
 (Cel w13 w244 ∧
 (∃ (a247 : Option Addr) (l247 : Nat) (c247 : Nat), w244.cell? (b3.add 0) = some (.slice a247 l247 c247) ∧
 (Cel w13 w244 ∧
 (Calls Tryz.prog 6 #[(.agg #[(.slice a246 l246 c246)]), (.agg #[(.slice a247 l247 c247)])] w244 fun e250 w249 =>
 ∃ (p248 : Bool), e250 = .returned (.bool p248) ∧
 (Cel w13 w249 ∧
 (BoolK p248
 (Calls Tryz.prog 5 #[] w249 fun e253 w252 =>
 ∃ (p251 : Bool), e253 = .returned (.bool p251) ∧
 (K p251 w252))
 (K false w249))))))))
 (K false w244)) ∧
 (BoolK (p239 == p243)
 (∃ (a254 : Option Addr) (l254 : Nat) (c254 : Nat), w244.cell? (b3.add 0) = some (.slice a254 l254 c254) ∧
 (Cel w13 w244 ∧
 (∃ (a255 : Option Addr) (l255 : Nat) (c255 : Nat), w244.cell? (b3.add 0) = some (.slice a255 l255 c255) ∧
 (Cel w13 w244 ∧
 (Calls Tryz.prog 6 #[(.agg #[(.slice a255 l255 c255)]), (.agg #[(.slice a254 l254 c254)])] w244 fun e258 w257 =>
 ∃ (p256 : Bool), e258 = .returned (.bool p256) ∧
 (Cel w13 w257 ∧
 (BoolK p256
 (Calls Tryz.prog 5 #[] w257 fun e261 w260 =>
 ∃ (p259 : Bool), e261 = .returned (.bool p259) ∧
 (K p259 w260))
 (K false w257))))))))
 (K false w244))))))))) ∧
 (∃ (a262 : Option Addr) (l262 : Nat) (c262 : Nat), w22.cell? (b3.add 0) = some (.slice a262 l262 c262) ∧
 (Cel w13 w22 ∧
 (Calls Tryz.prog 6 #[(.agg #[(.slice a24 l24 c24)]), (.agg #[(.slice a238 l238 c238)])] w22 fun e265 w264 =>
 ∃ (p263 : Bool), e265 = .returned (.bool p263) ∧
 (Cel w13 w264 ∧
 (Calls Tryz.prog 7 #[(.agg #[(.slice a262 l262 c262)]), (.agg #[(.slice a237 l237 c237)])] w264 fun e268 w267 =>
 ∃ (p266 : Bool), e268 = .returned (.bool p266) ∧
 (Cel w13 w267 ∧
 ((BoolK (p263 == p266)
 (∃ (a269 : Option Addr) (l269 : Nat) (c269 : Nat), w267.cell? (b3.add 0) = some (.slice a269 l269 c269) ∧
 (Cel w13 w267 ∧
 (∃ (a270 : Option Addr) (l270 : Nat) (c270 : Nat), w267.cell? (b3.add 0) = some (.slice a270 l270 c270) ∧
 (Cel w13 w267 ∧
 (Calls Tryz.prog 6 #[(.agg #[(.slice a269 l269 c269)]), (.agg #[(.slice a270 l270 c270)])] w267 fun e273 w272 =>
 ∃ (p271 : Bool), e273 = .returned (.bool p271) ∧
 (Cel w13 w272 ∧
 (BoolK p271
 (Calls Tryz.prog 5 #[] w272 fun e276 w275 =>
 ∃ (p274 : Bool), e276 = .returned (.bool p274) ∧
 (K p274 w275))
 (K false w272))))))))
 (K false w267)) ∧
 (BoolK (p263 == p266)
 (∃ (a277 : Option Addr) (l277 : Nat) (c277 : Nat), w267.cell? (b3.add 0) = some (.slice a277 l277 c277) ∧
 (Cel w13 w267 ∧
 (∃ (a278 : Option Addr) (l278 : Nat) (c278 : Nat), w267.cell? (b3.add 0) = some (.slice a278 l278 c278) ∧
 (Cel w13 w267 ∧
 (Calls Tryz.prog 6 #[(.agg #[(.slice a278 l278 c278)]), (.agg #[(.slice a277 l277 c277)])] w267 fun e281 w280 =>
 ∃ (p279 : Bool), e281 = .returned (.bool p279) ∧
 (Cel w13 w280 ∧
 (BoolK p279
 (Calls Tryz.prog 5 #[] w280 fun e284 w283 =>
 ∃ (p282 : Bool), e284 = .returned (.bool p282) ∧
 (K p282 w283))
 (K false w280))))))))
 (K false w267)))))))))))) ∧
 (∃ (a285 : Option Addr) (l285 : Nat) (c285 : Nat), w22.cell? (b3.add 0) = some (.slice a285 l285 c285) ∧
 (Cel w13 w22 ∧
 (∃ (a286 : Option Addr) (l286 : Nat) (c286 : Nat), w22.cell? (b3.add 0) = some (.slice a286 l286 c286) ∧
 (Cel w13 w22 ∧
 (Calls Tryz.prog 6 #[(.agg #[(.slice a24 l24 c24)]), (.agg #[(.slice a286 l286 c286)])] w22 fun e289 w288 =>
 ∃ (p287 : Bool), e289 = .returned (.bool p287) ∧
 (Cel w13 w288 ∧
 (Calls Tryz.prog 7 #[(.agg #[(.slice a285 l285 c285)]), (.agg #[(.slice a237 l237 c237)])] w288 fun e292 w291 =>
 ∃ (p290 : Bool), e292 = .returned (.bool p290) ∧
 (Cel w13 w291 ∧
 ((BoolK (p287 == p290)
 (∃ (a293 : Option Addr) (l293 : Nat) (c293 : Nat), w291.cell? (b3.add 0) = some (.slice a293 l293 c293) ∧
 (Cel w13 w291 ∧
 (∃ (a294 : Option Addr) (l294 : Nat) (c294 : Nat), w291.cell? (b3.add 0) = some (.slice a294 l294 c294) ∧
 (Cel w13 w291 ∧
 (Calls Tryz.prog 6 #[(.agg #[(.slice a293 l293 c293)]), (.agg #[(.slice a294 l294 c294)])] w291 fun e297 w296 =>
 ∃ (p295 : Bool), e297 = .returned (.bool p295) ∧
 (Cel w13 w296 ∧
 (BoolK p295
 (Calls Tryz.prog 5 #[] w296 fun e300 w299 =>
 ∃ (p298 : Bool), e300 = .returned (.bool p298) ∧
 (K p298 w299))
 (K false w296))))))))
 (K false w291)) ∧
 (BoolK (p287 == p290)
 (∃ (a301 : Option Addr) (l301 : Nat) (c301 : Nat), w291.cell? (b3.add 0) = some (.slice a301 l301 c301) ∧
 (Cel w13 w291 ∧
 (∃ (a302 : Option Addr) (l302 : Nat) (c302 : Nat), w291.cell? (b3.add 0) = some (.slice a302 l302 c302) ∧
 (Cel w13 w291 ∧
 (Calls Tryz.prog 6 #[(.agg #[(.slice a302 l302 c302)]), (.agg #[(.slice a301 l301 c301)])] w291 fun e305 w304 =>
 ∃ (p303 : Bool), e305 = .returned (.bool p303) ∧
 (Cel w13 w304 ∧
 (BoolK p303
 (Calls Tryz.prog 5 #[] w304 fun e308 w307 =>
 ∃ (p306 : Bool), e308 = .returned (.bool p306) ∧
 (K p306 w307))
 (K false w304))))))))
 (K false w291))))))))))))))))))
 (((((K false w22) ∧
 (K false w22)) ∧
 ((K false w22) ∧
 (K false w22))) ∧
 ((((K false w22) ∧
 (K false w22)) ∧
 ((K false w22) ∧
 (K false w22))) ∧
 (((K false w22) ∧
 (K false w22)) ∧
 ((K false w22) ∧
 (K false w22))))) ∧
 (((((K false w22) ∧
 (K false w22)) ∧
 ((K false w22) ∧
 (K false w22))) ∧
 ((K false w22) ∧
 (K false w22))) ∧
 ((((K false w22) ∧
 (K false w22)) ∧
 ((K false w22) ∧
 (K false w22))) ∧
 ((K false w22) ∧
 (K false w22)))))) ∧
 ((BoolK (p18 == p21)
 (∃ (a309 : Option Addr) (l309 : Nat) (c309 : Nat), w22.cell? (b3.add 0) = some (.slice a309 l309 c309) ∧
 (Cel w13 w22 ∧
 ((∃ (a310 : Option Addr) (l310 : Nat) (c310 : Nat), w22.cell? (b5.add 0) = some (.slice a310 l310 c310) ∧
 (Cel w13 w22 ∧
 ((Calls Tryz.prog 6 #[(.agg #[(.slice a310 l310 c310)]), (.agg #[(.slice a309 l309 c309)])] w22 fun e313 w312 =>
 ∃ (p311 : Bool), e313 = .returned (.bool p311) ∧
 (Cel w13 w312 ∧
 ((∃ (a314 : Option Addr) (l314 : Nat) (c314 : Nat), w312.cell? (b3.add 0) = some (.slice a314 l314 c314) ∧
 (Cel w13 w312 ∧
 (∃ (a315 : Option Addr) (l315 : Nat) (c315 : Nat), w312.cell? (b5.add 0) = some (.slice a315 l315 c315) ∧
 (Cel w13 w312 ∧
 (Calls Tryz.prog 7 #[(.agg #[(.slice a314 l314 c314)]), (.agg #[(.slice a315 l315 c315)])] w312 fun e318 w317 =>
 ∃ (p316 : Bool), e318 = .returned (.bool p316) ∧
 (Cel w13 w317 ∧
 ((BoolK (p311 == p316)
 (∃ (a319 : Option Addr) (l319 : Nat) (c319 : Nat), w317.cell? (b3.add 0) = some (.slice a319 l319 c319) ∧
 (Cel w13 w317 ∧
 (∃ (a320 : Option Addr) (l320 : Nat) (c320 : Nat), w317.cell? (b3.add 0) = some (.slice a320 l320 c320) ∧
 (Cel w13 w317 ∧
 (Calls Tryz.prog 6 #[(.agg #[(.slice a319 l319 c319)]), (.agg #[(.slice a320 l320 c320)])] w317 fun e323 w322 =>
 ∃ (p321 : Bool), e323 = .returned (.bool p321) ∧
 (Cel w13 w322 ∧
 (BoolK p321
 (Calls Tryz.prog 5 #[] w322 fun e326 w325 =>
 ∃ (p324 : Bool), e326 = .returned (.bool p324) ∧
 (K p324 w325))
 (K false w322))))))))
 (K false w317)) ∧
 (BoolK (p311 == p316)
 (∃ (a327 : Option Addr) (l327 : Nat) (c327 : Nat), w317.cell? (b3.add 0) = some (.slice a327 l327 c327) ∧
 (Cel w13 w317 ∧
 (∃ (a328 : Option Addr) (l328 : Nat) (c328 : Nat), w317.cell? (b3.add 0) = some (.slice a328 l328 c328) ∧
 (Cel w13 w317 ∧
 (Calls Tryz.prog 6 #[(.agg #[(.slice a328 l328 c328)]), (.agg #[(.slice a327 l327 c327)])] w317 fun e331 w330 =>
 ∃ (p329 : Bool), e331 = .returned (.bool p329) ∧
 (Cel w13 w330 ∧
 (BoolK p329
 (Calls Tryz.prog 5 #[] w330 fun e334 w333 =>
 ∃ (p332 : Bool), e334 = .returned (.bool p332) ∧
 (K p332 w333))
 (K false w330))))))))
 (K false w317))))))))) ∧
 (∃ (a335 : Option Addr) (l335 : Nat) (c335 : Nat), w312.cell? (b5.add 0) = some (.slice a335 l335 c335) ∧
 (Cel w13 w312 ∧
 (∃ (a336 : Option Addr) (l336 : Nat) (c336 : Nat), w312.cell? (b3.add 0) = some (.slice a336 l336 c336) ∧
 (Cel w13 w312 ∧
 (Calls Tryz.prog 7 #[(.agg #[(.slice a336 l336 c336)]), (.agg #[(.slice a335 l335 c335)])] w312 fun e339 w338 =>
 ∃ (p337 : Bool), e339 = .returned (.bool p337) ∧
 (Cel w13 w338 ∧
 ((BoolK (p311 == p337)
 (∃ (a340 : Option Addr) (l340 : Nat) (c340 : Nat), w338.cell? (b3.add 0) = some (.slice a340 l340 c340) ∧
 (Cel w13 w338 ∧
 (∃ (a341 : Option Addr) (l341 : Nat) (c341 : Nat), w338.cell? (b3.add 0) = some (.slice a341 l341 c341) ∧
 (Cel w13 w338 ∧
 (Calls Tryz.prog 6 #[(.agg #[(.slice a340 l340 c340)]), (.agg #[(.slice a341 l341 c341)])] w338 fun e344 w343 =>
 ∃ (p342 : Bool), e344 = .returned (.bool p342) ∧
 (Cel w13 w343 ∧
 (BoolK p342
 (Calls Tryz.prog 5 #[] w343 fun e347 w346 =>
 ∃ (p345 : Bool), e347 = .returned (.bool p345) ∧
 (K p345 w346))
 (K false w343))))))))
 (K false w338)) ∧
 (BoolK (p311 == p337)
 (∃ (a348 : Option Addr) (l348 : Nat) (c348 : Nat), w338.cell? (b3.add 0) = some (.slice a348 l348 c348) ∧
 (Cel w13 w338 ∧
 (∃ (a349 : Option Addr) (l349 : Nat) (c349 : Nat), w338.cell? (b3.add 0) = some (.slice a349 l349 c349) ∧
 (Cel w13 w338 ∧
 (Calls Tryz.prog 6 #[(.agg #[(.slice a349 l349 c349)]), (.agg #[(.slice a348 l348 c348)])] w338 fun e352 w351 =>
 ∃ (p350 : Bool), e352 = .returned (.bool p350) ∧
 (Cel w13 w351 ∧
 (BoolK p350
 (Calls Tryz.prog 5 #[] w351 fun e355 w354 =>
 ∃ (p353 : Bool), e355 = .returned (.bool p353) ∧
 (K p353 w354))
 (K false w351))))))))
 (K false w338)))))))))))) ∧
 ((∃ (a356 : Option Addr) (l356 : Nat) (c356 : Nat), w22.cell? (b3.add 0) = some (.slice a356 l356 c356) ∧
 (Cel w13 w22 ∧
 ((Calls Tryz.prog 6 #[(.agg #[(.slice a310 l310 c310)]), (.agg #[(.slice a309 l309 c309)])] w22 fun e359 w358 =>
 ∃ (p357 : Bool), e359 = .returned (.bool p357) ∧
 (Cel w13 w358 ∧
 (∃ (a360 : Option Addr) (l360 : Nat) (c360 : Nat), w358.cell? (b5.add 0) = some (.slice a360 l360 c360) ∧
 (Cel w13 w358 ∧
 (Calls Tryz.prog 7 #[(.agg #[(.slice a356 l356 c356)]), (.agg #[(.slice a360 l360 c360)])] w358 fun e363 w362 =>
 ∃ (p361 : Bool), e363 = .returned (.bool p361) ∧
 (Cel w13 w362 ∧
 ((BoolK (p357 == p361)
 (∃ (a364 : Option Addr) (l364 : Nat) (c364 : Nat), w362.cell? (b3.add 0) = some (.slice a364 l364 c364) ∧
 (Cel w13 w362 ∧
 (∃ (a365 : Option Addr) (l365 : Nat) (c365 : Nat), w362.cell? (b3.add 0) = some (.slice a365 l365 c365) ∧
 (Cel w13 w362 ∧
 (Calls Tryz.prog 6 #[(.agg #[(.slice a364 l364 c364)]), (.agg #[(.slice a365 l365 c365)])] w362 fun e368 w367 =>
 ∃ (p366 : Bool), e368 = .returned (.bool p366) ∧
 (Cel w13 w367 ∧
 (BoolK p366
 (Calls Tryz.prog 5 #[] w367 fun e371 w370 =>
 ∃ (p369 : Bool), e371 = .returned (.bool p369) ∧
 (K p369 w370))
 (K false w367))))))))
 (K false w362)) ∧
 (BoolK (p357 == p361)
 (∃ (a372 : Option Addr) (l372 : Nat) (c372 : Nat), w362.cell? (b3.add 0) = some (.slice a372 l372 c372) ∧
 (Cel w13 w362 ∧
 (∃ (a373 : Option Addr) (l373 : Nat) (c373 : Nat), w362.cell? (b3.add 0) = some (.slice a373 l373 c373) ∧
 (Cel w13 w362 ∧
 (Calls Tryz.prog 6 #[(.agg #[(.slice a373 l373 c373)]), (.agg #[(.slice a372 l372 c372)])] w362 fun e376 w375 =>
 ∃ (p374 : Bool), e376 = .returned (.bool p374) ∧
 (Cel w13 w375 ∧
 (BoolK p374
 (Calls Tryz.prog 5 #[] w375 fun e379 w378 =>
 ∃ (p377 : Bool), e379 = .returned (.bool p377) ∧
 (K p377 w378))
 (K false w375))))))))
 (K false w362))))))))) ∧
 (∃ (a380 : Option Addr) (l380 : Nat) (c380 : Nat), w22.cell? (b5.add 0) = some (.slice a380 l380 c380) ∧
 (Cel w13 w22 ∧
 (Calls Tryz.prog 6 #[(.agg #[(.slice a310 l310 c310)]), (.agg #[(.slice a309 l309 c309)])] w22 fun e383 w382 =>
 ∃ (p381 : Bool), e383 = .returned (.bool p381) ∧
 (Cel w13 w382 ∧
 (Calls Tryz.prog 7 #[(.agg #[(.slice a356 l356 c356)]), (.agg #[(.slice a380 l380 c380)])] w382 fun e386 w385 =>
 ∃ (p384 : Bool), e386 = .returned (.bool p384) ∧
 (Cel w13 w385 ∧
 ((BoolK (p381 == p384)
 (∃ (a387 : Option Addr) (l387 : Nat) (c387 : Nat), w385.cell? (b3.add 0) = some (.slice a387 l387 c387) ∧
 (Cel w13 w385 ∧
 (∃ (a388 : Option Addr) (l388 : Nat) (c388 : Nat), w385.cell? (b3.add 0) = some (.slice a388 l388 c388) ∧
 (Cel w13 w385 ∧
 (Calls Tryz.prog 6 #[(.agg #[(.slice a387 l387 c387)]), (.agg #[(.slice a388 l388 c388)])] w385 fun e391 w390 =>
 ∃ (p389 : Bool), e391 = .returned (.bool p389) ∧
 (Cel w13 w390 ∧
 (BoolK p389
 (Calls Tryz.prog 5 #[] w390 fun e394 w393 =>
 ∃ (p392 : Bool), e394 = .returned (.bool p392) ∧
 (K p392 w393))
 (K false w390))))))))
 (K false w385)) ∧
 (BoolK (p381 == p384)
 (∃ (a395 : Option Addr) (l395 : Nat) (c395 : Nat), w385.cell? (b3.add 0) = some (.slice a395 l395 c395) ∧
 (Cel w13 w385 ∧
 (∃ (a396 : Option Addr) (l396 : Nat) (c396 : Nat), w385.cell? (b3.add 0) = some (.slice a396 l396 c396) ∧
 (Cel w13 w385 ∧
 (Calls Tryz.prog 6 #[(.agg #[(.slice a396 l396 c396)]), (.agg #[(.slice a395 l395 c395)])] w385 fun e399 w398 =>
 ∃ (p397 : Bool), e399 = .returned (.bool p397) ∧
 (Cel w13 w398 ∧
 (BoolK p397
 (Calls Tryz.prog 5 #[] w398 fun e402 w401 =>
 ∃ (p400 : Bool), e402 = .returned (.bool p400) ∧
 (K p400 w401))
 (K false w398))))))))
 (K false w385)))))))))))) ∧
 (∃ (a403 : Option Addr) (l403 : Nat) (c403 : Nat), w22.cell? (b5.add 0) = some (.slice a403 l403 c403) ∧
 (Cel w13 w22 ∧
 ((Calls Tryz.prog 6 #[(.agg #[(.slice a310 l310 c310)]), (.agg #[(.slice a309 l309 c309)])] w22 fun e406 w405 =>
 ∃ (p404 : Bool), e406 = .returned (.bool p404) ∧
 (Cel w13 w405 ∧
 (∃ (a407 : Option Addr) (l407 : Nat) (c407 : Nat), w405.cell? (b3.add 0) = some (.slice a407 l407 c407) ∧
 (Cel w13 w405 ∧
 (Calls Tryz.prog 7 #[(.agg #[(.slice a407 l407 c407)]), (.agg #[(.slice a403 l403 c403)])] w405 fun e410 w409 =>
 ∃ (p408 : Bool), e410 = .returned (.bool p408) ∧
 (Cel w13 w409 ∧
 ((BoolK (p404 == p408)
 (∃ (a411 : Option Addr) (l411 : Nat) (c411 : Nat), w409.cell? (b3.add 0) = some (.slice a411 l411 c411) ∧
 (Cel w13 w409 ∧
 (∃ (a412 : Option Addr) (l412 : Nat) (c412 : Nat), w409.cell? (b3.add 0) = some (.slice a412 l412 c412) ∧
 (Cel w13 w409 ∧
 (Calls Tryz.prog 6 #[(.agg #[(.slice a411 l411 c411)]), (.agg #[(.slice a412 l412 c412)])] w409 fun e415 w414 =>
 ∃ (p413 : Bool), e415 = .returned (.bool p413) ∧
 (Cel w13 w414 ∧
 (BoolK p413
 (Calls Tryz.prog 5 #[] w414 fun e418 w417 =>
 ∃ (p416 : Bool), e418 = .returned (.bool p416) ∧
 (K p416 w417))
 (K false w414))))))))
 (K false w409)) ∧
 (BoolK (p404 == p408)
 (∃ (a419 : Option Addr) (l419 : Nat) (c419 : Nat), w409.cell? (b3.add 0) = some (.slice a419 l419 c419) ∧
 (Cel w13 w409 ∧
 (∃ (a420 : Option Addr) (l420 : Nat) (c420 : Nat), w409.cell? (b3.add 0) = some (.slice a420 l420 c420) ∧
 (Cel w13 w409 ∧
 (Calls Tryz.prog 6 #[(.agg #[(.slice a420 l420 c420)]), (.agg #[(.slice a419 l419 c419)])] w409 fun e423 w422 =>
 ∃ (p421 : Bool), e423 = .returned (.bool p421) ∧
 (Cel w13 w422 ∧
 (BoolK p421
 (Calls Tryz.prog 5 #[] w422 fun e426 w425 =>
 ∃ (p424 : Bool), e426 = .returned (.bool p424) ∧
 (K p424 w425))
 (K false w422))))))))
 (K false w409))))))))) ∧
 (∃ (a427 : Option Addr) (l427 : Nat) (c427 : Nat), w22.cell? (b3.add 0) = some (.slice a427 l427 c427) ∧
 (Cel w13 w22 ∧
 (Calls Tryz.prog 6 #[(.agg #[(.slice a310 l310 c310)]), (.agg #[(.slice a309 l309 c309)])] w22 fun e430 w429 =>
 ∃ (p428 : Bool), e430 = .returned (.bool p428) ∧
 (Cel w13 w429 ∧
 (Calls Tryz.prog 7 #[(.agg #[(.slice a427 l427 c427)]), (.agg #[(.slice a403 l403 c403)])] w429 fun e433 w432 =>
 ∃ (p431 : Bool), e433 = .returned (.bool p431) ∧
 (Cel w13 w432 ∧
 ((BoolK (p428 == p431)
 (∃ (a434 : Option Addr) (l434 : Nat) (c434 : Nat), w432.cell? (b3.add 0) = some (.slice a434 l434 c434) ∧
 (Cel w13 w432 ∧
 (∃ (a435 : Option Addr) (l435 : Nat) (c435 : Nat), w432.cell? (b3.add 0) = some (.slice a435 l435 c435) ∧
 (Cel w13 w432 ∧
 (Calls Tryz.prog 6 #[(.agg #[(.slice a434 l434 c434)]), (.agg #[(.slice a435 l435 c435)])] w432 fun e438 w437 =>
 ∃ (p436 : Bool), e438 = .returned (.bool p436) ∧
 (Cel w13 w437 ∧
 (BoolK p436
 (Calls Tryz.prog 5 #[] w437 fun e441 w440 =>
 ∃ (p439 : Bool), e441 = .returned (.bool p439) ∧
 (K p439 w440))
 (K false w437))))))))
 (K false w432)) ∧
 (BoolK (p428 == p431)
 (∃ (a442 : Option Addr) (l442 : Nat) (c442 : Nat), w432.cell? (b3.add 0) = some (.slice a442 l442 c442) ∧
 (Cel w13 w432 ∧
 (∃ (a443 : Option Addr) (l443 : Nat) (c443 : Nat), w432.cell? (b3.add 0) = some (.slice a443 l443 c443) ∧
 (Cel w13 w432 ∧
 (Calls Tryz.prog 6 #[(.agg #[(.slice a443 l443 c443)]), (.agg #[(.slice a442 l442 c442)])] w432 fun e446 w445 =>
 ∃ (p444 : Bool), e446 = .returned (.bool p444) ∧
 (Cel w13 w445 ∧
 (BoolK p444
 (Calls Tryz.prog 5 #[] w445 fun e449 w448 =>
 ∃ (p447 : Bool), e449 = .returned (.bool p447) ∧
 (K p447 w448))
 (K false w445))))))))
 (K false w432)))))))))))))))) ∧
 ((∃ (a450 : Option Addr) (l450 : Nat) (c450 : Nat), w22.cell? (b3.add 0) = some (.slice a450 l450 c450) ∧
 (Cel w13 w22 ∧
 ((∃ (a451 : Option Addr) (l451 : Nat) (c451 : Nat), w22.cell? (b5.add 0) = some (.slice a451 l451 c451) ∧
 (Cel w13 w22 ∧
 ((Calls Tryz.prog 6 #[(.agg #[(.slice a451 l451 c451)]), (.agg #[(.slice a309 l309 c309)])] w22 fun e454 w453 =>
 ∃ (p452 : Bool), e454 = .returned (.bool p452) ∧
 (Cel w13 w453 ∧
 (∃ (a455 : Option Addr) (l455 : Nat) (c455 : Nat), w453.cell? (b5.add 0) = some (.slice a455 l455 c455) ∧
 (Cel w13 w453 ∧
 (Calls Tryz.prog 7 #[(.agg #[(.slice a450 l450 c450)]), (.agg #[(.slice a455 l455 c455)])] w453 fun e458 w457 =>
 ∃ (p456 : Bool), e458 = .returned (.bool p456) ∧
 (Cel w13 w457 ∧
 ((BoolK (p452 == p456)
 (∃ (a459 : Option Addr) (l459 : Nat) (c459 : Nat), w457.cell? (b3.add 0) = some (.slice a459 l459 c459) ∧
 (Cel w13 w457 ∧
 (∃ (a460 : Option Addr) (l460 : Nat) (c460 : Nat), w457.cell? (b3.add 0) = some (.slice a460 l460 c460) ∧
 (Cel w13 w457 ∧
 (Calls Tryz.prog 6 #[(.agg #[(.slice a459 l459 c459)]), (.agg #[(.slice a460 l460 c460)])] w457 fun e463 w462 =>
 ∃ (p461 : Bool), e463 = .returned (.bool p461) ∧
 (Cel w13 w462 ∧
 (BoolK p461
 (Calls Tryz.prog 5 #[] w462 fun e466 w465 =>
 ∃ (p464 : Bool), e466 = .returned (.bool p464) ∧
 (K p464 w465))
 (K false w462))))))))
 (K false w457)) ∧
 (BoolK (p452 == p456)
 (∃ (a467 : Option Addr) (l467 : Nat) (c467 : Nat), w457.cell? (b3.add 0) = some (.slice a467 l467 c467) ∧
 (Cel w13 w457 ∧
 (∃ (a468 : Option Addr) (l468 : Nat) (c468 : Nat), w457.cell? (b3.add 0) = some (.slice a468 l468 c468) ∧
 (Cel w13 w457 ∧
 (Calls Tryz.prog 6 #[(.agg #[(.slice a468 l468 c468)]), (.agg #[(.slice a467 l467 c467)])] w457 fun e471 w470 =>
 ∃ (p469 : Bool), e471 = .returned (.bool p469) ∧
 (Cel w13 w470 ∧
 (BoolK p469
 (Calls Tryz.prog 5 #[] w470 fun e474 w473 =>
 ∃ (p472 : Bool), e474 = .returned (.bool p472) ∧
 (K p472 w473))
 (K false w470))))))))
 (K false w457))))))))) ∧
 (∃ (a475 : Option Addr) (l475 : Nat) (c475 : Nat), w22.cell? (b5.add 0) = some (.slice a475 l475 c475) ∧
 (Cel w13 w22 ∧
 (Calls Tryz.prog 6 #[(.agg #[(.slice a451 l451 c451)]), (.agg #[(.slice a309 l309 c309)])] w22 fun e478 w477 =>
 ∃ (p476 : Bool), e478 = .returned (.bool p476) ∧
 (Cel w13 w477 ∧
 (Calls Tryz.prog 7 #[(.agg #[(.slice a450 l450 c450)]), (.agg #[(.slice a475 l475 c475)])] w477 fun e481 w480 =>
 ∃ (p479 : Bool), e481 = .returned (.bool p479) ∧
 (Cel w13 w480 ∧
 ((BoolK (p476 == p479)
 (∃ (a482 : Option Addr) (l482 : Nat) (c482 : Nat), w480.cell? (b3.add 0) = some (.slice a482 l482 c482) ∧
 (Cel w13 w480 ∧
 (∃ (a483 : Option Addr) (l483 : Nat) (c483 : Nat), w480.cell? (b3.add 0) = some (.slice a483 l483 c483) ∧
 (Cel w13 w480 ∧
 (Calls Tryz.prog 6 #[(.agg #[(.slice a482 l482 c482)]), (.agg #[(.slice a483 l483 c483)])] w480 fun e486 w485 =>
 ∃ (p484 : Bool), e486 = .returned (.bool p484) ∧
 (Cel w13 w485 ∧
 (BoolK p484
 (Calls Tryz.prog 5 #[] w485 fun e489 w488 =>
 ∃ (p487 : Bool), e489 = .returned (.bool p487) ∧
 (K p487 w488))
 (K false w485))))))))
 (K false w480)) ∧
 (BoolK (p476 == p479)
 (∃ (a490 : Option Addr) (l490 : Nat) (c490 : Nat), w480.cell? (b3.add 0) = some (.slice a490 l490 c490) ∧
 (Cel w13 w480 ∧
 (∃ (a491 : Option Addr) (l491 : Nat) (c491 : Nat), w480.cell? (b3.add 0) = some (.slice a491 l491 c491) ∧
 (Cel w13 w480 ∧
 (Calls Tryz.prog 6 #[(.agg #[(.slice a491 l491 c491)]), (.agg #[(.slice a490 l490 c490)])] w480 fun e494 w493 =>
 ∃ (p492 : Bool), e494 = .returned (.bool p492) ∧
 (Cel w13 w493 ∧
 (BoolK p492
 (Calls Tryz.prog 5 #[] w493 fun e497 w496 =>
 ∃ (p495 : Bool), e497 = .returned (.bool p495) ∧
 (K p495 w496))
 (K false w493))))))))
 (K false w480)))))))))))) ∧
 (∃ (a498 : Option Addr) (l498 : Nat) (c498 : Nat), w22.cell? (b5.add 0) = some (.slice a498 l498 c498) ∧
 (Cel w13 w22 ∧
 (∃ (a499 : Option Addr) (l499 : Nat) (c499 : Nat), w22.cell? (b5.add 0) = some (.slice a499 l499 c499) ∧
 (Cel w13 w22 ∧
 (Calls Tryz.prog 6 #[(.agg #[(.slice a499 l499 c499)]), (.agg #[(.slice a309 l309 c309)])] w22 fun e502 w501 =>
 ∃ (p500 : Bool), e502 = .returned (.bool p500) ∧
 (Cel w13 w501 ∧
 (Calls Tryz.prog 7 #[(.agg #[(.slice a450 l450 c450)]), (.agg #[(.slice a498 l498 c498)])] w501 fun e505 w504 =>
 ∃ (p503 : Bool), e505 = .returned (.bool p503) ∧
 (Cel w13 w504 ∧
 ((BoolK (p500 == p503)
 (∃ (a506 : Option Addr) (l506 : Nat) (c506 : Nat), w504.cell? (b3.add 0) = some (.slice a506 l506 c506) ∧
 (Cel w13 w504 ∧
 (∃ (a507 : Option Addr) (l507 : Nat) (c507 : Nat), w504.cell? (b3.add 0) = some (.slice a507 l507 c507) ∧
 (Cel w13 w504 ∧
 (Calls Tryz.prog 6 #[(.agg #[(.slice a506 l506 c506)]), (.agg #[(.slice a507 l507 c507)])] w504 fun e510 w509 =>
 ∃ (p508 : Bool), e510 = .returned (.bool p508) ∧
 (Cel w13 w509 ∧
 (BoolK p508
 (Calls Tryz.prog 5 #[] w509 fun e513 w512 =>
 ∃ (p511 : Bool), e513 = .returned (.bool p511) ∧
 (K p511 w512))
 (K false w509))))))))
 (K false w504)) ∧
 (BoolK (p500 == p503)
 (∃ (a514 : Option Addr) (l514 : Nat) (c514 : Nat), w504.cell? (b3.add 0) = some (.slice a514 l514 c514) ∧
 (Cel w13 w504 ∧
 (∃ (a515 : Option Addr) (l515 : Nat) (c515 : Nat), w504.cell? (b3.add 0) = some (.slice a515 l515 c515) ∧
 (Cel w13 w504 ∧
 (Calls Tryz.prog 6 #[(.agg #[(.slice a515 l515 c515)]), (.agg #[(.slice a514 l514 c514)])] w504 fun e518 w517 =>
 ∃ (p516 : Bool), e518 = .returned (.bool p516) ∧
 (Cel w13 w517 ∧
 (BoolK p516
 (Calls Tryz.prog 5 #[] w517 fun e521 w520 =>
 ∃ (p519 : Bool), e521 = .returned (.bool p519) ∧
 (K p519 w520))
 (K false w517))))))))
 (K false w504)))))))))))))) ∧
 (∃ (a522 : Option Addr) (l522 : Nat) (c522 : Nat), w22.cell? (b5.add 0) = some (.slice a522 l522 c522) ∧
 (Cel w13 w22 ∧
 ((∃ (a523 : Option Addr) (l523 : Nat) (c523 : Nat), w22.cell? (b5.add 0) = some (.slice a523 l523 c523) ∧
 (Cel w13 w22 ∧
 ((Calls Tryz.prog 6 #[(.agg #[(.slice a523 l523 c523)]), (.agg #[(.slice a309 l309 c309)])] w22 fun e526 w525 =>
 ∃ (p524 : Bool), e526 = .returned (.bool p524) ∧
 (Cel w13 w525 ∧
 (∃ (a527 : Option Addr) (l527 : Nat) (c527 : Nat), w525.cell? (b3.add 0) = some (.slice a527 l527 c527) ∧
 (Cel w13 w525 ∧
 (Calls Tryz.prog 7 #[(.agg #[(.slice a527 l527 c527)]), (.agg #[(.slice a522 l522 c522)])] w525 fun e530 w529 =>
 ∃ (p528 : Bool), e530 = .returned (.bool p528) ∧
 (Cel w13 w529 ∧
 ((BoolK (p524 == p528)
 (∃ (a531 : Option Addr) (l531 : Nat) (c531 : Nat), w529.cell? (b3.add 0) = some (.slice a531 l531 c531) ∧
 (Cel w13 w529 ∧
 (∃ (a532 : Option Addr) (l532 : Nat) (c532 : Nat), w529.cell? (b3.add 0) = some (.slice a532 l532 c532) ∧
 (Cel w13 w529 ∧
 (Calls Tryz.prog 6 #[(.agg #[(.slice a531 l531 c531)]), (.agg #[(.slice a532 l532 c532)])] w529 fun e535 w534 =>
 ∃ (p533 : Bool), e535 = .returned (.bool p533) ∧
 (Cel w13 w534 ∧
 (BoolK p533
 (Calls Tryz.prog 5 #[] w534 fun e538 w537 =>
 ∃ (p536 : Bool), e538 = .returned (.bool p536) ∧
 (K p536 w537))
 (K false w534))))))))
 (K false w529)) ∧
 (BoolK (p524 == p528)
 (∃ (a539 : Option Addr) (l539 : Nat) (c539 : Nat), w529.cell? (b3.add 0) = some (.slice a539 l539 c539) ∧
 (Cel w13 w529 ∧
 (∃ (a540 : Option Addr) (l540 : Nat) (c540 : Nat), w529.cell? (b3.add 0) = some (.slice a540 l540 c540) ∧
 (Cel w13 w529 ∧
 (Calls Tryz.prog 6 #[(.agg #[(.slice a540 l540 c540)]), (.agg #[(.slice a539 l539 c539)])] w529 fun e543 w542 =>
 ∃ (p541 : Bool), e543 = .returned (.bool p541) ∧
 (Cel w13 w542 ∧
 (BoolK p541
 (Calls Tryz.prog 5 #[] w542 fun e546 w545 =>
 ∃ (p544 : Bool), e546 = .returned (.bool p544) ∧
 (K p544 w545))
 (K false w542))))))))
 (K false w529))))))))) ∧
 (∃ (a547 : Option Addr) (l547 : Nat) (c547 : Nat), w22.cell? (b3.add 0) = some (.slice a547 l547 c547) ∧
 (Cel w13 w22 ∧
 (Calls Tryz.prog 6 #[(.agg #[(.slice a523 l523 c523)]), (.agg #[(.slice a309 l309 c309)])] w22 fun e550 w549 =>
 ∃ (p548 : Bool), e550 = .returned (.bool p548) ∧
 (Cel w13 w549 ∧
 (Calls Tryz.prog 7 #[(.agg #[(.slice a547 l547 c547)]), (.agg #[(.slice a522 l522 c522)])] w549 fun e553 w552 =>
 ∃ (p551 : Bool), e553 = .returned (.bool p551) ∧
 (Cel w13 w552 ∧
 ((BoolK (p548 == p551)
 (∃ (a554 : Option Addr) (l554 : Nat) (c554 : Nat), w552.cell? (b3.add 0) = some (.slice a554 l554 c554) ∧
 (Cel w13 w552 ∧
 (∃ (a555 : Option Addr) (l555 : Nat) (c555 : Nat), w552.cell? (b3.add 0) = some (.slice a555 l555 c555) ∧
 (Cel w13 w552 ∧
 (Calls Tryz.prog 6 #[(.agg #[(.slice a554 l554 c554)]), (.agg #[(.slice a555 l555 c555)])] w552 fun e558 w557 =>
 ∃ (p556 : Bool), e558 = .returned (.bool p556) ∧
 (Cel w13 w557 ∧
 (BoolK p556
 (Calls Tryz.prog 5 #[] w557 fun e561 w560 =>
 ∃ (p559 : Bool), e561 = .returned (.bool p559) ∧
 (K p559 w560))
 (K false w557))))))))
 (K false w552)) ∧
 (BoolK (p548 == p551)
 (∃ (a562 : Option Addr) (l562 : Nat) (c562 : Nat), w552.cell? (b3.add 0) = some (.slice a562 l562 c562) ∧
 (Cel w13 w552 ∧
 (∃ (a563 : Option Addr) (l563 : Nat) (c563 : Nat), w552.cell? (b3.add 0) = some (.slice a563 l563 c563) ∧
 (Cel w13 w552 ∧
 (Calls Tryz.prog 6 #[(.agg #[(.slice a563 l563 c563)]), (.agg #[(.slice a562 l562 c562)])] w552 fun e566 w565 =>
 ∃ (p564 : Bool), e566 = .returned (.bool p564) ∧
 (Cel w13 w565 ∧
 (BoolK p564
 (Calls Tryz.prog 5 #[] w565 fun e569 w568 =>
 ∃ (p567 : Bool), e569 = .returned (.bool p567) ∧
 (K p567 w568))
 (K false w565))))))))
 (K false w552)))))))))))) ∧
 (∃ (a570 : Option Addr) (l570 : Nat) (c570 : Nat), w22.cell? (b3.add 0) = some (.slice a570 l570 c570) ∧
 (Cel w13 w22 ∧
 (∃ (a571 : Option Addr) (l571 : Nat) (c571 : Nat), w22.cell? (b5.add 0) = some (.slice a571 l571 c571) ∧
 (Cel w13 w22 ∧
 (Calls Tryz.prog 6 #[(.agg #[(.slice a571 l571 c571)]), (.agg #[(.slice a309 l309 c309)])] w22 fun e574 w573 =>
 ∃ (p572 : Bool), e574 = .returned (.bool p572) ∧
 (Cel w13 w573 ∧
 (Calls Tryz.prog 7 #[(.agg #[(.slice a570 l570 c570)]), (.agg #[(.slice a522 l522 c522)])] w573 fun e577 w576 =>
 ∃ (p575 : Bool), e577 = .returned (.bool p575) ∧
 (Cel w13 w576 ∧
 ((BoolK (p572 == p575)
 (∃ (a578 : Option Addr) (l578 : Nat) (c578 : Nat), w576.cell? (b3.add 0) = some (.slice a578 l578 c578) ∧
 (Cel w13 w576 ∧
 (∃ (a579 : Option Addr) (l579 : Nat) (c579 : Nat), w576.cell? (b3.add 0) = some (.slice a579 l579 c579) ∧
 (Cel w13 w576 ∧
 (Calls Tryz.prog 6 #[(.agg #[(.slice a578 l578 c578)]), (.agg #[(.slice a579 l579 c579)])] w576 fun e582 w581 =>
 ∃ (p580 : Bool), e582 = .returned (.bool p580) ∧
 (Cel w13 w581 ∧
 (BoolK p580
 (Calls Tryz.prog 5 #[] w581 fun e585 w584 =>
 ∃ (p583 : Bool), e585 = .returned (.bool p583) ∧
 (K p583 w584))
 (K false w581))))))))
 (K false w576)) ∧
 (BoolK (p572 == p575)
 (∃ (a586 : Option Addr) (l586 : Nat) (c586 : Nat), w576.cell? (b3.add 0) = some (.slice a586 l586 c586) ∧
 (Cel w13 w576 ∧
 (∃ (a587 : Option Addr) (l587 : Nat) (c587 : Nat), w576.cell? (b3.add 0) = some (.slice a587 l587 c587) ∧
 (Cel w13 w576 ∧
 (Calls Tryz.prog 6 #[(.agg #[(.slice a587 l587 c587)]), (.agg #[(.slice a586 l586 c586)])] w576 fun e590 w589 =>
 ∃ (p588 : Bool), e590 = .returned (.bool p588) ∧
 (Cel w13 w589 ∧
 (BoolK p588
 (Calls Tryz.prog 5 #[] w589 fun e593 w592 =>
 ∃ (p591 : Bool), e593 = .returned (.bool p591) ∧
 (K p591 w592))
 (K false w589))))))))
 (K false w576))))))))))))))))))
 (((((K false w22) ∧
 (K false w22)) ∧
 ((K false w22) ∧
 (K false w22))) ∧
 ((((K false w22) ∧
 (K false w22)) ∧
 ((K false w22) ∧
 (K false w22))) ∧
 (((K false w22) ∧
 (K false w22)) ∧
 ((K false w22) ∧
 (K false w22))))) ∧
 (((((K false w22) ∧
 (K false w22)) ∧
 ((K false w22) ∧
 (K false w22))) ∧
 ((K false w22) ∧
 (K false w22))) ∧
 ((((K false w22) ∧
 (K false w22)) ∧
 ((K false w22) ∧
 (K false w22))) ∧
 ((K false w22) ∧
 (K false w22)))))) ∧
 ((BoolK (p18 == p21)
 (∃ (a594 : Option Addr) (l594 : Nat) (c594 : Nat), w22.cell? (b3.add 0) = some (.slice a594 l594 c594) ∧
 (Cel w13 w22 ∧
 ((∃ (a595 : Option Addr) (l595 : Nat) (c595 : Nat), w22.cell? (b5.add 0) = some (.slice a595 l595 c595) ∧
 (Cel w13 w22 ∧
 ((∃ (a596 : Option Addr) (l596 : Nat) (c596 : Nat), w22.cell? (b3.add 0) = some (.slice a596 l596 c596) ∧
 (Cel w13 w22 ∧
 ((Calls Tryz.prog 6 #[(.agg #[(.slice a595 l595 c595)]), (.agg #[(.slice a596 l596 c596)])] w22 fun e599 w598 =>
 ∃ (p597 : Bool), e599 = .returned (.bool p597) ∧
 (Cel w13 w598 ∧
 (∃ (a600 : Option Addr) (l600 : Nat) (c600 : Nat), w598.cell? (b5.add 0) = some (.slice a600 l600 c600) ∧
 (Cel w13 w598 ∧
 (Calls Tryz.prog 7 #[(.agg #[(.slice a594 l594 c594)]), (.agg #[(.slice a600 l600 c600)])] w598 fun e603 w602 =>
 ∃ (p601 : Bool), e603 = .returned (.bool p601) ∧
 (Cel w13 w602 ∧
 ((BoolK (p597 == p601)
 (∃ (a604 : Option Addr) (l604 : Nat) (c604 : Nat), w602.cell? (b3.add 0) = some (.slice a604 l604 c604) ∧
 (Cel w13 w602 ∧
 (∃ (a605 : Option Addr) (l605 : Nat) (c605 : Nat), w602.cell? (b3.add 0) = some (.slice a605 l605 c605) ∧
 (Cel w13 w602 ∧
 (Calls Tryz.prog 6 #[(.agg #[(.slice a604 l604 c604)]), (.agg #[(.slice a605 l605 c605)])] w602 fun e608 w607 =>
 ∃ (p606 : Bool), e608 = .returned (.bool p606) ∧
 (Cel w13 w607 ∧
 (BoolK p606
 (Calls Tryz.prog 5 #[] w607 fun e611 w610 =>
 ∃ (p609 : Bool), e611 = .returned (.bool p609) ∧
 (K p609 w610))
 (K false w607))))))))
 (K false w602)) ∧
 (BoolK (p597 == p601)
 (∃ (a612 : Option Addr) (l612 : Nat) (c612 : Nat), w602.cell? (b3.add 0) = some (.slice a612 l612 c612) ∧
 (Cel w13 w602 ∧
 (∃ (a613 : Option Addr) (l613 : Nat) (c613 : Nat), w602.cell? (b3.add 0) = some (.slice a613 l613 c613) ∧
 (Cel w13 w602 ∧
 (Calls Tryz.prog 6 #[(.agg #[(.slice a613 l613 c613)]), (.agg #[(.slice a612 l612 c612)])] w602 fun e616 w615 =>
 ∃ (p614 : Bool), e616 = .returned (.bool p614) ∧
 (Cel w13 w615 ∧
 (BoolK p614
 (Calls Tryz.prog 5 #[] w615 fun e619 w618 =>
 ∃ (p617 : Bool), e619 = .returned (.bool p617) ∧
 (K p617 w618))
 (K false w615))))))))
 (K false w602))))))))) ∧
 (∃ (a620 : Option Addr) (l620 : Nat) (c620 : Nat), w22.cell? (b5.add 0) = some (.slice a620 l620 c620) ∧
 (Cel w13 w22 ∧
 (Calls Tryz.prog 6 #[(.agg #[(.slice a595 l595 c595)]), (.agg #[(.slice a596 l596 c596)])] w22 fun e623 w622 =>
 ∃ (p621 : Bool), e623 = .returned (.bool p621) ∧
 (Cel w13 w622 ∧
 (Calls Tryz.prog 7 #[(.agg #[(.slice a594 l594 c594)]), (.agg #[(.slice a620 l620 c620)])] w622 fun e626 w625 =>
 ∃ (p624 : Bool), e626 = .returned (.bool p624) ∧
 (Cel w13 w625 ∧
 ((BoolK (p621 == p624)
 (∃ (a627 : Option Addr) (l627 : Nat) (c627 : Nat), w625.cell? (b3.add 0) = some (.slice a627 l627 c627) ∧
 (Cel w13 w625 ∧
 (∃ (a628 : Option Addr) (l628 : Nat) (c628 : Nat), w625.cell? (b3.add 0) = some (.slice a628 l628 c628) ∧
 (Cel w13 w625 ∧
 (Calls Tryz.prog 6 #[(.agg #[(.slice a627 l627 c627)]), (.agg #[(.slice a628 l628 c628)])] w625 fun e631 w630 =>
 ∃ (p629 : Bool), e631 = .returned (.bool p629) ∧
 (Cel w13 w630 ∧
 (BoolK p629
 (Calls Tryz.prog 5 #[] w630 fun e634 w633 =>
 ∃ (p632 : Bool), e634 = .returned (.bool p632) ∧
 (K p632 w633))
 (K false w630))))))))
 (K false w625)) ∧
 (BoolK (p621 == p624)
 (∃ (a635 : Option Addr) (l635 : Nat) (c635 : Nat), w625.cell? (b3.add 0) = some (.slice a635 l635 c635) ∧
 (Cel w13 w625 ∧
 (∃ (a636 : Option Addr) (l636 : Nat) (c636 : Nat), w625.cell? (b3.add 0) = some (.slice a636 l636 c636) ∧
 (Cel w13 w625 ∧
 (Calls Tryz.prog 6 #[(.agg #[(.slice a636 l636 c636)]), (.agg #[(.slice a635 l635 c635)])] w625 fun e639 w638 =>
 ∃ (p637 : Bool), e639 = .returned (.bool p637) ∧
 (Cel w13 w638 ∧
 (BoolK p637
 (Calls Tryz.prog 5 #[] w638 fun e642 w641 =>
 ∃ (p640 : Bool), e642 = .returned (.bool p640) ∧
 (K p640 w641))
 (K false w638))))))))
 (K false w625)))))))))))) ∧
 (∃ (a643 : Option Addr) (l643 : Nat) (c643 : Nat), w22.cell? (b5.add 0) = some (.slice a643 l643 c643) ∧
 (Cel w13 w22 ∧
 (∃ (a644 : Option Addr) (l644 : Nat) (c644 : Nat), w22.cell? (b3.add 0) = some (.slice a644 l644 c644) ∧
 (Cel w13 w22 ∧
 (Calls Tryz.prog 6 #[(.agg #[(.slice a595 l595 c595)]), (.agg #[(.slice a644 l644 c644)])] w22 fun e647 w646 =>
 ∃ (p645 : Bool), e647 = .returned (.bool p645) ∧
 (Cel w13 w646 ∧
 (Calls Tryz.prog 7 #[(.agg #[(.slice a594 l594 c594)]), (.agg #[(.slice a643 l643 c643)])] w646 fun e650 w649 =>
 ∃ (p648 : Bool), e650 = .returned (.bool p648) ∧
 (Cel w13 w649 ∧
 ((BoolK (p645 == p648)
 (∃ (a651 : Option Addr) (l651 : Nat) (c651 : Nat), w649.cell? (b3.add 0) = some (.slice a651 l651 c651) ∧
 (Cel w13 w649 ∧
 (∃ (a652 : Option Addr) (l652 : Nat) (c652 : Nat), w649.cell? (b3.add 0) = some (.slice a652 l652 c652) ∧
 (Cel w13 w649 ∧
 (Calls Tryz.prog 6 #[(.agg #[(.slice a651 l651 c651)]), (.agg #[(.slice a652 l652 c652)])] w649 fun e655 w654 =>
 ∃ (p653 : Bool), e655 = .returned (.bool p653) ∧
 (Cel w13 w654 ∧
 (BoolK p653
 (Calls Tryz.prog 5 #[] w654 fun e658 w657 =>
 ∃ (p656 : Bool), e658 = .returned (.bool p656) ∧
 (K p656 w657))
 (K false w654))))))))
 (K false w649)) ∧
 (BoolK (p645 == p648)
 (∃ (a659 : Option Addr) (l659 : Nat) (c659 : Nat), w649.cell? (b3.add 0) = some (.slice a659 l659 c659) ∧
 (Cel w13 w649 ∧
 (∃ (a660 : Option Addr) (l660 : Nat) (c660 : Nat), w649.cell? (b3.add 0) = some (.slice a660 l660 c660) ∧
 (Cel w13 w649 ∧
 (Calls Tryz.prog 6 #[(.agg #[(.slice a660 l660 c660)]), (.agg #[(.slice a659 l659 c659)])] w649 fun e663 w662 =>
 ∃ (p661 : Bool), e663 = .returned (.bool p661) ∧
 (Cel w13 w662 ∧
 (BoolK p661
 (Calls Tryz.prog 5 #[] w662 fun e666 w665 =>
 ∃ (p664 : Bool), e666 = .returned (.bool p664) ∧
 (K p664 w665))
 (K false w662))))))))
 (K false w649)))))))))))))) ∧
 ((∃ (a667 : Option Addr) (l667 : Nat) (c667 : Nat), w22.cell? (b3.add 0) = some (.slice a667 l667 c667) ∧
 (Cel w13 w22 ∧
 ((∃ (a668 : Option Addr) (l668 : Nat) (c668 : Nat), w22.cell? (b5.add 0) = some (.slice a668 l668 c668) ∧
 (Cel w13 w22 ∧
 ((Calls Tryz.prog 6 #[(.agg #[(.slice a668 l668 c668)]), (.agg #[(.slice a667 l667 c667)])] w22 fun e671 w670 =>
 ∃ (p669 : Bool), e671 = .returned (.bool p669) ∧
 (Cel w13 w670 ∧
 (∃ (a672 : Option Addr) (l672 : Nat) (c672 : Nat), w670.cell? (b5.add 0) = some (.slice a672 l672 c672) ∧
 (Cel w13 w670 ∧
 (Calls Tryz.prog 7 #[(.agg #[(.slice a594 l594 c594)]), (.agg #[(.slice a672 l672 c672)])] w670 fun e675 w674 =>
 ∃ (p673 : Bool), e675 = .returned (.bool p673) ∧
 (Cel w13 w674 ∧
 ((BoolK (p669 == p673)
 (∃ (a676 : Option Addr) (l676 : Nat) (c676 : Nat), w674.cell? (b3.add 0) = some (.slice a676 l676 c676) ∧
 (Cel w13 w674 ∧
 (∃ (a677 : Option Addr) (l677 : Nat) (c677 : Nat), w674.cell? (b3.add 0) = some (.slice a677 l677 c677) ∧
 (Cel w13 w674 ∧
 (Calls Tryz.prog 6 #[(.agg #[(.slice a676 l676 c676)]), (.agg #[(.slice a677 l677 c677)])] w674 fun e680 w679 =>
 ∃ (p678 : Bool), e680 = .returned (.bool p678) ∧
 (Cel w13 w679 ∧
 (BoolK p678
 (Calls Tryz.prog 5 #[] w679 fun e683 w682 =>
 ∃ (p681 : Bool), e683 = .returned (.bool p681) ∧
 (K p681 w682))
 (K false w679))))))))
 (K false w674)) ∧
 (BoolK (p669 == p673)
 (∃ (a684 : Option Addr) (l684 : Nat) (c684 : Nat), w674.cell? (b3.add 0) = some (.slice a684 l684 c684) ∧
 (Cel w13 w674 ∧
 (∃ (a685 : Option Addr) (l685 : Nat) (c685 : Nat), w674.cell? (b3.add 0) = some (.slice a685 l685 c685) ∧
 (Cel w13 w674 ∧
 (Calls Tryz.prog 6 #[(.agg #[(.slice a685 l685 c685)]), (.agg #[(.slice a684 l684 c684)])] w674 fun e688 w687 =>
 ∃ (p686 : Bool), e688 = .returned (.bool p686) ∧
 (Cel w13 w687 ∧
 (BoolK p686
 (Calls Tryz.prog 5 #[] w687 fun e691 w690 =>
 ∃ (p689 : Bool), e691 = .returned (.bool p689) ∧
 (K p689 w690))
 (K false w687))))))))
 (K false w674))))))))) ∧
 (∃ (a692 : Option Addr) (l692 : Nat) (c692 : Nat), w22.cell? (b5.add 0) = some (.slice a692 l692 c692) ∧
 (Cel w13 w22 ∧
 (Calls Tryz.prog 6 #[(.agg #[(.slice a668 l668 c668)]), (.agg #[(.slice a667 l667 c667)])] w22 fun e695 w694 =>
 ∃ (p693 : Bool), e695 = .returned (.bool p693) ∧
 (Cel w13 w694 ∧
 (Calls Tryz.prog 7 #[(.agg #[(.slice a594 l594 c594)]), (.agg #[(.slice a692 l692 c692)])] w694 fun e698 w697 =>
 ∃ (p696 : Bool), e698 = .returned (.bool p696) ∧
 (Cel w13 w697 ∧
 ((BoolK (p693 == p696)
 (∃ (a699 : Option Addr) (l699 : Nat) (c699 : Nat), w697.cell? (b3.add 0) = some (.slice a699 l699 c699) ∧
 (Cel w13 w697 ∧
 (∃ (a700 : Option Addr) (l700 : Nat) (c700 : Nat), w697.cell? (b3.add 0) = some (.slice a700 l700 c700) ∧
 (Cel w13 w697 ∧
 (Calls Tryz.prog 6 #[(.agg #[(.slice a699 l699 c699)]), (.agg #[(.slice a700 l700 c700)])] w697 fun e703 w702 =>
 ∃ (p701 : Bool), e703 = .returned (.bool p701) ∧
 (Cel w13 w702 ∧
 (BoolK p701
 (Calls Tryz.prog 5 #[] w702 fun e706 w705 =>
 ∃ (p704 : Bool), e706 = .returned (.bool p704) ∧
 (K p704 w705))
 (K false w702))))))))
 (K false w697)) ∧
 (BoolK (p693 == p696)
 (∃ (a707 : Option Addr) (l707 : Nat) (c707 : Nat), w697.cell? (b3.add 0) = some (.slice a707 l707 c707) ∧
 (Cel w13 w697 ∧
 (∃ (a708 : Option Addr) (l708 : Nat) (c708 : Nat), w697.cell? (b3.add 0) = some (.slice a708 l708 c708) ∧
 (Cel w13 w697 ∧
 (Calls Tryz.prog 6 #[(.agg #[(.slice a708 l708 c708)]), (.agg #[(.slice a707 l707 c707)])] w697 fun e711 w710 =>
 ∃ (p709 : Bool), e711 = .returned (.bool p709) ∧
 (Cel w13 w710 ∧
 (BoolK p709
 (Calls Tryz.prog 5 #[] w710 fun e714 w713 =>
 ∃ (p712 : Bool), e714 = .returned (.bool p712) ∧
 (K p712 w713))
 (K false w710))))))))
 (K false w697)))))))))))) ∧
 (∃ (a715 : Option Addr) (l715 : Nat) (c715 : Nat), w22.cell? (b5.add 0) = some (.slice a715 l715 c715) ∧
 (Cel w13 w22 ∧
 (∃ (a716 : Option Addr) (l716 : Nat) (c716 : Nat), w22.cell? (b5.add 0) = some (.slice a716 l716 c716) ∧
 (Cel w13 w22 ∧
 (Calls Tryz.prog 6 #[(.agg #[(.slice a716 l716 c716)]), (.agg #[(.slice a667 l667 c667)])] w22 fun e719 w718 =>
 ∃ (p717 : Bool), e719 = .returned (.bool p717) ∧
 (Cel w13 w718 ∧
 (Calls Tryz.prog 7 #[(.agg #[(.slice a594 l594 c594)]), (.agg #[(.slice a715 l715 c715)])] w718 fun e722 w721 =>
 ∃ (p720 : Bool), e722 = .returned (.bool p720) ∧
 (Cel w13 w721 ∧
 ((BoolK (p717 == p720)
 (∃ (a723 : Option Addr) (l723 : Nat) (c723 : Nat), w721.cell? (b3.add 0) = some (.slice a723 l723 c723) ∧
 (Cel w13 w721 ∧
 (∃ (a724 : Option Addr) (l724 : Nat) (c724 : Nat), w721.cell? (b3.add 0) = some (.slice a724 l724 c724) ∧
 (Cel w13 w721 ∧
 (Calls Tryz.prog 6 #[(.agg #[(.slice a723 l723 c723)]), (.agg #[(.slice a724 l724 c724)])] w721 fun e727 w726 =>
 ∃ (p725 : Bool), e727 = .returned (.bool p725) ∧
 (Cel w13 w726 ∧
 (BoolK p725
 (Calls Tryz.prog 5 #[] w726 fun e730 w729 =>
 ∃ (p728 : Bool), e730 = .returned (.bool p728) ∧
 (K p728 w729))
 (K false w726))))))))
 (K false w721)) ∧
 (BoolK (p717 == p720)
 (∃ (a731 : Option Addr) (l731 : Nat) (c731 : Nat), w721.cell? (b3.add 0) = some (.slice a731 l731 c731) ∧
 (Cel w13 w721 ∧
 (∃ (a732 : Option Addr) (l732 : Nat) (c732 : Nat), w721.cell? (b3.add 0) = some (.slice a732 l732 c732) ∧
 (Cel w13 w721 ∧
 (Calls Tryz.prog 6 #[(.agg #[(.slice a732 l732 c732)]), (.agg #[(.slice a731 l731 c731)])] w721 fun e735 w734 =>
 ∃ (p733 : Bool), e735 = .returned (.bool p733) ∧
 (Cel w13 w734 ∧
 (BoolK p733
 (Calls Tryz.prog 5 #[] w734 fun e738 w737 =>
 ∃ (p736 : Bool), e738 = .returned (.bool p736) ∧
 (K p736 w737))
 (K false w734))))))))
 (K false w721)))))))))))))) ∧
 (∃ (a739 : Option Addr) (l739 : Nat) (c739 : Nat), w22.cell? (b5.add 0) = some (.slice a739 l739 c739) ∧
 (Cel w13 w22 ∧
 ((∃ (a740 : Option Addr) (l740 : Nat) (c740 : Nat), w22.cell? (b5.add 0) = some (.slice a740 l740 c740) ∧
 (Cel w13 w22 ∧
 (∃ (a741 : Option Addr) (l741 : Nat) (c741 : Nat), w22.cell? (b3.add 0) = some (.slice a741 l741 c741) ∧
 (Cel w13 w22 ∧
 (Calls Tryz.prog 6 #[(.agg #[(.slice a740 l740 c740)]), (.agg #[(.slice a741 l741 c741)])] w22 fun e744 w743 =>
 ∃ (p742 : Bool), e744 = .returned (.bool p742) ∧
 (Cel w13 w743 ∧
 (Calls Tryz.prog 7 #[(.agg #[(.slice a594 l594 c594)]), (.agg #[(.slice a739 l739 c739)])] w743 fun e747 w746 =>
 ∃ (p745 : Bool), e747 = .returned (.bool p745) ∧
 (Cel w13 w746 ∧
 ((BoolK (p742 == p745)
 (∃ (a748 : Option Addr) (l748 : Nat) (c748 : Nat), w746.cell? (b3.add 0) = some (.slice a748 l748 c748) ∧
 (Cel w13 w746 ∧
 (∃ (a749 : Option Addr) (l749 : Nat) (c749 : Nat), w746.cell? (b3.add 0) = some (.slice a749 l749 c749) ∧
 (Cel w13 w746 ∧
 (Calls Tryz.prog 6 #[(.agg #[(.slice a748 l748 c748)]), (.agg #[(.slice a749 l749 c749)])] w746 fun e752 w751 =>
 ∃ (p750 : Bool), e752 = .returned (.bool p750) ∧
 (Cel w13 w751 ∧
 (BoolK p750
 (Calls Tryz.prog 5 #[] w751 fun e755 w754 =>
 ∃ (p753 : Bool), e755 = .returned (.bool p753) ∧
 (K p753 w754))
 (K false w751))))))))
 (K false w746)) ∧
 (BoolK (p742 == p745)
 (∃ (a756 : Option Addr) (l756 : Nat) (c756 : Nat), w746.cell? (b3.add 0) = some (.slice a756 l756 c756) ∧
 (Cel w13 w746 ∧
 (∃ (a757 : Option Addr) (l757 : Nat) (c757 : Nat), w746.cell? (b3.add 0) = some (.slice a757 l757 c757) ∧
 (Cel w13 w746 ∧
 (Calls Tryz.prog 6 #[(.agg #[(.slice a757 l757 c757)]), (.agg #[(.slice a756 l756 c756)])] w746 fun e760 w759 =>
 ∃ (p758 : Bool), e760 = .returned (.bool p758) ∧
 (Cel w13 w759 ∧
 (BoolK p758
 (Calls Tryz.prog 5 #[] w759 fun e763 w762 =>
 ∃ (p761 : Bool), e763 = .returned (.bool p761) ∧
 (K p761 w762))
 (K false w759))))))))
 (K false w746))))))))))) ∧
 (∃ (a764 : Option Addr) (l764 : Nat) (c764 : Nat), w22.cell? (b3.add 0) = some (.slice a764 l764 c764) ∧
 (Cel w13 w22 ∧
 (∃ (a765 : Option Addr) (l765 : Nat) (c765 : Nat), w22.cell? (b5.add 0) = some (.slice a765 l765 c765) ∧
 (Cel w13 w22 ∧
 (Calls Tryz.prog 6 #[(.agg #[(.slice a765 l765 c765)]), (.agg #[(.slice a764 l764 c764)])] w22 fun e768 w767 =>
 ∃ (p766 : Bool), e768 = .returned (.bool p766) ∧
 (Cel w13 w767 ∧
 (Calls Tryz.prog 7 #[(.agg #[(.slice a594 l594 c594)]), (.agg #[(.slice a739 l739 c739)])] w767 fun e771 w770 =>
 ∃ (p769 : Bool), e771 = .returned (.bool p769) ∧
 (Cel w13 w770 ∧
 ((BoolK (p766 == p769)
 (∃ (a772 : Option Addr) (l772 : Nat) (c772 : Nat), w770.cell? (b3.add 0) = some (.slice a772 l772 c772) ∧
 (Cel w13 w770 ∧
 (∃ (a773 : Option Addr) (l773 : Nat) (c773 : Nat), w770.cell? (b3.add 0) = some (.slice a773 l773 c773) ∧
 (Cel w13 w770 ∧
 (Calls Tryz.prog 6 #[(.agg #[(.slice a772 l772 c772)]), (.agg #[(.slice a773 l773 c773)])] w770 fun e776 w775 =>
 ∃ (p774 : Bool), e776 = .returned (.bool p774) ∧
 (Cel w13 w775 ∧
 (BoolK p774
 (Calls Tryz.prog 5 #[] w775 fun e779 w778 =>
 ∃ (p777 : Bool), e779 = .returned (.bool p777) ∧
 (K p777 w778))
 (K false w775))))))))
 (K false w770)) ∧
 (BoolK (p766 == p769)
 (∃ (a780 : Option Addr) (l780 : Nat) (c780 : Nat), w770.cell? (b3.add 0) = some (.slice a780 l780 c780) ∧
 (Cel w13 w770 ∧
 (∃ (a781 : Option Addr) (l781 : Nat) (c781 : Nat), w770.cell? (b3.add 0) = some (.slice a781 l781 c781) ∧
 (Cel w13 w770 ∧
 (Calls Tryz.prog 6 #[(.agg #[(.slice a781 l781 c781)]), (.agg #[(.slice a780 l780 c780)])] w770 fun e784 w783 =>
 ∃ (p782 : Bool), e784 = .returned (.bool p782) ∧
 (Cel w13 w783 ∧
 (BoolK p782
 (Calls Tryz.prog 5 #[] w783 fun e787 w786 =>
 ∃ (p785 : Bool), e787 = .returned (.bool p785) ∧
 (K p785 w786))
 (K false w783))))))))
 (K false w770))))))))))))))))))
 (((((K false w22) ∧
 (K false w22)) ∧
 ((K false w22) ∧
 (K false w22))) ∧
 ((K false w22) ∧
 (K false w22))) ∧
 (((((K false w22) ∧
 (K false w22)) ∧
 ((K false w22) ∧
 (K false w22))) ∧
 ((K false w22) ∧
 (K false w22))) ∧
 (((K false w22) ∧
 (K false w22)) ∧
 ((K false w22) ∧
 (K false w22)))))) ∧
 (BoolK (p18 == p21)
 (∃ (a788 : Option Addr) (l788 : Nat) (c788 : Nat), w22.cell? (b5.add 0) = some (.slice a788 l788 c788) ∧
 (Cel w13 w22 ∧
 ((∃ (a789 : Option Addr) (l789 : Nat) (c789 : Nat), w22.cell? (b5.add 0) = some (.slice a789 l789 c789) ∧
 (Cel w13 w22 ∧
 ((∃ (a790 : Option Addr) (l790 : Nat) (c790 : Nat), w22.cell? (b3.add 0) = some (.slice a790 l790 c790) ∧
 (Cel w13 w22 ∧
 ((Calls Tryz.prog 6 #[(.agg #[(.slice a789 l789 c789)]), (.agg #[(.slice a790 l790 c790)])] w22 fun e793 w792 =>
 ∃ (p791 : Bool), e793 = .returned (.bool p791) ∧
 (Cel w13 w792 ∧
 (∃ (a794 : Option Addr) (l794 : Nat) (c794 : Nat), w792.cell? (b3.add 0) = some (.slice a794 l794 c794) ∧
 (Cel w13 w792 ∧
 (Calls Tryz.prog 7 #[(.agg #[(.slice a794 l794 c794)]), (.agg #[(.slice a788 l788 c788)])] w792 fun e797 w796 =>
 ∃ (p795 : Bool), e797 = .returned (.bool p795) ∧
 (Cel w13 w796 ∧
 ((BoolK (p791 == p795)
 (∃ (a798 : Option Addr) (l798 : Nat) (c798 : Nat), w796.cell? (b3.add 0) = some (.slice a798 l798 c798) ∧
 (Cel w13 w796 ∧
 (∃ (a799 : Option Addr) (l799 : Nat) (c799 : Nat), w796.cell? (b3.add 0) = some (.slice a799 l799 c799) ∧
 (Cel w13 w796 ∧
 (Calls Tryz.prog 6 #[(.agg #[(.slice a798 l798 c798)]), (.agg #[(.slice a799 l799 c799)])] w796 fun e802 w801 =>
 ∃ (p800 : Bool), e802 = .returned (.bool p800) ∧
 (Cel w13 w801 ∧
 (BoolK p800
 (Calls Tryz.prog 5 #[] w801 fun e805 w804 =>
 ∃ (p803 : Bool), e805 = .returned (.bool p803) ∧
 (K p803 w804))
 (K false w801))))))))
 (K false w796)) ∧
 (BoolK (p791 == p795)
 (∃ (a806 : Option Addr) (l806 : Nat) (c806 : Nat), w796.cell? (b3.add 0) = some (.slice a806 l806 c806) ∧
 (Cel w13 w796 ∧
 (∃ (a807 : Option Addr) (l807 : Nat) (c807 : Nat), w796.cell? (b3.add 0) = some (.slice a807 l807 c807) ∧
 (Cel w13 w796 ∧
 (Calls Tryz.prog 6 #[(.agg #[(.slice a807 l807 c807)]), (.agg #[(.slice a806 l806 c806)])] w796 fun e810 w809 =>
 ∃ (p808 : Bool), e810 = .returned (.bool p808) ∧
 (Cel w13 w809 ∧
 (BoolK p808
 (Calls Tryz.prog 5 #[] w809 fun e813 w812 =>
 ∃ (p811 : Bool), e813 = .returned (.bool p811) ∧
 (K p811 w812))
 (K false w809))))))))
 (K false w796))))))))) ∧
 (∃ (a814 : Option Addr) (l814 : Nat) (c814 : Nat), w22.cell? (b3.add 0) = some (.slice a814 l814 c814) ∧
 (Cel w13 w22 ∧
 (Calls Tryz.prog 6 #[(.agg #[(.slice a789 l789 c789)]), (.agg #[(.slice a790 l790 c790)])] w22 fun e817 w816 =>
 ∃ (p815 : Bool), e817 = .returned (.bool p815) ∧
 (Cel w13 w816 ∧
 (Calls Tryz.prog 7 #[(.agg #[(.slice a814 l814 c814)]), (.agg #[(.slice a788 l788 c788)])] w816 fun e820 w819 =>
 ∃ (p818 : Bool), e820 = .returned (.bool p818) ∧
 (Cel w13 w819 ∧
 ((BoolK (p815 == p818)
 (∃ (a821 : Option Addr) (l821 : Nat) (c821 : Nat), w819.cell? (b3.add 0) = some (.slice a821 l821 c821) ∧
 (Cel w13 w819 ∧
 (∃ (a822 : Option Addr) (l822 : Nat) (c822 : Nat), w819.cell? (b3.add 0) = some (.slice a822 l822 c822) ∧
 (Cel w13 w819 ∧
 (Calls Tryz.prog 6 #[(.agg #[(.slice a821 l821 c821)]), (.agg #[(.slice a822 l822 c822)])] w819 fun e825 w824 =>
 ∃ (p823 : Bool), e825 = .returned (.bool p823) ∧
 (Cel w13 w824 ∧
 (BoolK p823
 (Calls Tryz.prog 5 #[] w824 fun e828 w827 =>
 ∃ (p826 : Bool), e828 = .returned (.bool p826) ∧
 (K p826 w827))
 (K false w824))))))))
 (K false w819)) ∧
 (BoolK (p815 == p818)
 (∃ (a829 : Option Addr) (l829 : Nat) (c829 : Nat), w819.cell? (b3.add 0) = some (.slice a829 l829 c829) ∧
 (Cel w13 w819 ∧
 (∃ (a830 : Option Addr) (l830 : Nat) (c830 : Nat), w819.cell? (b3.add 0) = some (.slice a830 l830 c830) ∧
 (Cel w13 w819 ∧
 (Calls Tryz.prog 6 #[(.agg #[(.slice a830 l830 c830)]), (.agg #[(.slice a829 l829 c829)])] w819 fun e833 w832 =>
 ∃ (p831 : Bool), e833 = .returned (.bool p831) ∧
 (Cel w13 w832 ∧
 (BoolK p831
 (Calls Tryz.prog 5 #[] w832 fun e836 w835 =>
 ∃ (p834 : Bool), e836 = .returned (.bool p834) ∧
 (K p834 w835))
 (K false w832))))))))
 (K false w819)))))))))))) ∧
 (∃ (a837 : Option Addr) (l837 : Nat) (c837 : Nat), w22.cell? (b3.add 0) = some (.slice a837 l837 c837) ∧
 (Cel w13 w22 ∧
 (∃ (a838 : Option Addr) (l838 : Nat) (c838 : Nat), w22.cell? (b3.add 0) = some (.slice a838 l838 c838) ∧
 (Cel w13 w22 ∧
 (Calls Tryz.prog 6 #[(.agg #[(.slice a789 l789 c789)]), (.agg #[(.slice a838 l838 c838)])] w22 fun e841 w840 =>
 ∃ (p839 : Bool), e841 = .returned (.bool p839) ∧
 (Cel w13 w840 ∧
 (Calls Tryz.prog 7 #[(.agg #[(.slice a837 l837 c837)]), (.agg #[(.slice a788 l788 c788)])] w840 fun e844 w843 =>
 ∃ (p842 : Bool), e844 = .returned (.bool p842) ∧
 (Cel w13 w843 ∧
 ((BoolK (p839 == p842)
 (∃ (a845 : Option Addr) (l845 : Nat) (c845 : Nat), w843.cell? (b3.add 0) = some (.slice a845 l845 c845) ∧
 (Cel w13 w843 ∧
 (∃ (a846 : Option Addr) (l846 : Nat) (c846 : Nat), w843.cell? (b3.add 0) = some (.slice a846 l846 c846) ∧
 (Cel w13 w843 ∧
 (Calls Tryz.prog 6 #[(.agg #[(.slice a845 l845 c845)]), (.agg #[(.slice a846 l846 c846)])] w843 fun e849 w848 =>
 ∃ (p847 : Bool), e849 = .returned (.bool p847) ∧
 (Cel w13 w848 ∧
 (BoolK p847
 (Calls Tryz.prog 5 #[] w848 fun e852 w851 =>
 ∃ (p850 : Bool), e852 = .returned (.bool p850) ∧
 (K p850 w851))
 (K false w848))))))))
 (K false w843)) ∧
 (BoolK (p839 == p842)
 (∃ (a853 : Option Addr) (l853 : Nat) (c853 : Nat), w843.cell? (b3.add 0) = some (.slice a853 l853 c853) ∧
 (Cel w13 w843 ∧
 (∃ (a854 : Option Addr) (l854 : Nat) (c854 : Nat), w843.cell? (b3.add 0) = some (.slice a854 l854 c854) ∧
 (Cel w13 w843 ∧
 (Calls Tryz.prog 6 #[(.agg #[(.slice a854 l854 c854)]), (.agg #[(.slice a853 l853 c853)])] w843 fun e857 w856 =>
 ∃ (p855 : Bool), e857 = .returned (.bool p855) ∧
 (Cel w13 w856 ∧
 (BoolK p855
 (Calls Tryz.prog 5 #[] w856 fun e860 w859 =>
 ∃ (p858 : Bool), e860 = .returned (.bool p858) ∧
 (K p858 w859))
 (K false w856))))))))
 (K false w843)))))))))))))) ∧
 ((∃ (a861 : Option Addr) (l861 : Nat) (c861 : Nat), w22.cell? (b3.add 0) = some (.slice a861 l861 c861) ∧
 (Cel w13 w22 ∧
 ((∃ (a862 : Option Addr) (l862 : Nat) (c862 : Nat), w22.cell? (b5.add 0) = some (.slice a862 l862 c862) ∧
 (Cel w13 w22 ∧
 ((Calls Tryz.prog 6 #[(.agg #[(.slice a862 l862 c862)]), (.agg #[(.slice a861 l861 c861)])] w22 fun e865 w864 =>
 ∃ (p863 : Bool), e865 = .returned (.bool p863) ∧
 (Cel w13 w864 ∧
 (∃ (a866 : Option Addr) (l866 : Nat) (c866 : Nat), w864.cell? (b3.add 0) = some (.slice a866 l866 c866) ∧
 (Cel w13 w864 ∧
 (Calls Tryz.prog 7 #[(.agg #[(.slice a866 l866 c866)]), (.agg #[(.slice a788 l788 c788)])] w864 fun e869 w868 =>
 ∃ (p867 : Bool), e869 = .returned (.bool p867) ∧
 (Cel w13 w868 ∧
 ((BoolK (p863 == p867)
 (∃ (a870 : Option Addr) (l870 : Nat) (c870 : Nat), w868.cell? (b3.add 0) = some (.slice a870 l870 c870) ∧
 (Cel w13 w868 ∧
 (∃ (a871 : Option Addr) (l871 : Nat) (c871 : Nat), w868.cell? (b3.add 0) = some (.slice a871 l871 c871) ∧
 (Cel w13 w868 ∧
 (Calls Tryz.prog 6 #[(.agg #[(.slice a870 l870 c870)]), (.agg #[(.slice a871 l871 c871)])] w868 fun e874 w873 =>
 ∃ (p872 : Bool), e874 = .returned (.bool p872) ∧
 (Cel w13 w873 ∧
 (BoolK p872
 (Calls Tryz.prog 5 #[] w873 fun e877 w876 =>
 ∃ (p875 : Bool), e877 = .returned (.bool p875) ∧
 (K p875 w876))
 (K false w873))))))))
 (K false w868)) ∧
 (BoolK (p863 == p867)
 (∃ (a878 : Option Addr) (l878 : Nat) (c878 : Nat), w868.cell? (b3.add 0) = some (.slice a878 l878 c878) ∧
 (Cel w13 w868 ∧
 (∃ (a879 : Option Addr) (l879 : Nat) (c879 : Nat), w868.cell? (b3.add 0) = some (.slice a879 l879 c879) ∧
 (Cel w13 w868 ∧
 (Calls Tryz.prog 6 #[(.agg #[(.slice a879 l879 c879)]), (.agg #[(.slice a878 l878 c878)])] w868 fun e882 w881 =>
 ∃ (p880 : Bool), e882 = .returned (.bool p880) ∧
 (Cel w13 w881 ∧
 (BoolK p880
 (Calls Tryz.prog 5 #[] w881 fun e885 w884 =>
 ∃ (p883 : Bool), e885 = .returned (.bool p883) ∧
 (K p883 w884))
 (K false w881))))))))
 (K false w868))))))))) ∧
 (∃ (a886 : Option Addr) (l886 : Nat) (c886 : Nat), w22.cell? (b3.add 0) = some (.slice a886 l886 c886) ∧
 (Cel w13 w22 ∧
 (Calls Tryz.prog 6 #[(.agg #[(.slice a862 l862 c862)]), (.agg #[(.slice a861 l861 c861)])] w22 fun e889 w888 =>
 ∃ (p887 : Bool), e889 = .returned (.bool p887) ∧
 (Cel w13 w888 ∧
 (Calls Tryz.prog 7 #[(.agg #[(.slice a886 l886 c886)]), (.agg #[(.slice a788 l788 c788)])] w888 fun e892 w891 =>
 ∃ (p890 : Bool), e892 = .returned (.bool p890) ∧
 (Cel w13 w891 ∧
 ((BoolK (p887 == p890)
 (∃ (a893 : Option Addr) (l893 : Nat) (c893 : Nat), w891.cell? (b3.add 0) = some (.slice a893 l893 c893) ∧
 (Cel w13 w891 ∧
 (∃ (a894 : Option Addr) (l894 : Nat) (c894 : Nat), w891.cell? (b3.add 0) = some (.slice a894 l894 c894) ∧
 (Cel w13 w891 ∧
 (Calls Tryz.prog 6 #[(.agg #[(.slice a893 l893 c893)]), (.agg #[(.slice a894 l894 c894)])] w891 fun e897 w896 =>
 ∃ (p895 : Bool), e897 = .returned (.bool p895) ∧
 (Cel w13 w896 ∧
 (BoolK p895
 (Calls Tryz.prog 5 #[] w896 fun e900 w899 =>
 ∃ (p898 : Bool), e900 = .returned (.bool p898) ∧
 (K p898 w899))
 (K false w896))))))))
 (K false w891)) ∧
 (BoolK (p887 == p890)
 (∃ (a901 : Option Addr) (l901 : Nat) (c901 : Nat), w891.cell? (b3.add 0) = some (.slice a901 l901 c901) ∧
 (Cel w13 w891 ∧
 (∃ (a902 : Option Addr) (l902 : Nat) (c902 : Nat), w891.cell? (b3.add 0) = some (.slice a902 l902 c902) ∧
 (Cel w13 w891 ∧
 (Calls Tryz.prog 6 #[(.agg #[(.slice a902 l902 c902)]), (.agg #[(.slice a901 l901 c901)])] w891 fun e905 w904 =>
 ∃ (p903 : Bool), e905 = .returned (.bool p903) ∧
 (Cel w13 w904 ∧
 (BoolK p903
 (Calls Tryz.prog 5 #[] w904 fun e908 w907 =>
 ∃ (p906 : Bool), e908 = .returned (.bool p906) ∧
 (K p906 w907))
 (K false w904))))))))
 (K false w891)))))))))))) ∧
 (∃ (a909 : Option Addr) (l909 : Nat) (c909 : Nat), w22.cell? (b3.add 0) = some (.slice a909 l909 c909) ∧
 (Cel w13 w22 ∧
 (∃ (a910 : Option Addr) (l910 : Nat) (c910 : Nat), w22.cell? (b5.add 0) = some (.slice a910 l910 c910) ∧
 (Cel w13 w22 ∧
 (Calls Tryz.prog 6 #[(.agg #[(.slice a910 l910 c910)]), (.agg #[(.slice a861 l861 c861)])] w22 fun e913 w912 =>
 ∃ (p911 : Bool), e913 = .returned (.bool p911) ∧
 (Cel w13 w912 ∧
 (Calls Tryz.prog 7 #[(.agg #[(.slice a909 l909 c909)]), (.agg #[(.slice a788 l788 c788)])] w912 fun e916 w915 =>
 ∃ (p914 : Bool), e916 = .returned (.bool p914) ∧
 (Cel w13 w915 ∧
 ((BoolK (p911 == p914)
 (∃ (a917 : Option Addr) (l917 : Nat) (c917 : Nat), w915.cell? (b3.add 0) = some (.slice a917 l917 c917) ∧
 (Cel w13 w915 ∧
 (∃ (a918 : Option Addr) (l918 : Nat) (c918 : Nat), w915.cell? (b3.add 0) = some (.slice a918 l918 c918) ∧
 (Cel w13 w915 ∧
 (Calls Tryz.prog 6 #[(.agg #[(.slice a917 l917 c917)]), (.agg #[(.slice a918 l918 c918)])] w915 fun e921 w920 =>
 ∃ (p919 : Bool), e921 = .returned (.bool p919) ∧
 (Cel w13 w920 ∧
 (BoolK p919
 (Calls Tryz.prog 5 #[] w920 fun e924 w923 =>
 ∃ (p922 : Bool), e924 = .returned (.bool p922) ∧
 (K p922 w923))
 (K false w920))))))))
 (K false w915)) ∧
 (BoolK (p911 == p914)
 (∃ (a925 : Option Addr) (l925 : Nat) (c925 : Nat), w915.cell? (b3.add 0) = some (.slice a925 l925 c925) ∧
 (Cel w13 w915 ∧
 (∃ (a926 : Option Addr) (l926 : Nat) (c926 : Nat), w915.cell? (b3.add 0) = some (.slice a926 l926 c926) ∧
 (Cel w13 w915 ∧
 (Calls Tryz.prog 6 #[(.agg #[(.slice a926 l926 c926)]), (.agg #[(.slice a925 l925 c925)])] w915 fun e929 w928 =>
 ∃ (p927 : Bool), e929 = .returned (.bool p927) ∧
 (Cel w13 w928 ∧
 (BoolK p927
 (Calls Tryz.prog 5 #[] w928 fun e932 w931 =>
 ∃ (p930 : Bool), e932 = .returned (.bool p930) ∧
 (K p930 w931))
 (K false w928))))))))
 (K false w915)))))))))))))) ∧
 (∃ (a933 : Option Addr) (l933 : Nat) (c933 : Nat), w22.cell? (b3.add 0) = some (.slice a933 l933 c933) ∧
 (Cel w13 w22 ∧
 ((∃ (a934 : Option Addr) (l934 : Nat) (c934 : Nat), w22.cell? (b5.add 0) = some (.slice a934 l934 c934) ∧
 (Cel w13 w22 ∧
 (∃ (a935 : Option Addr) (l935 : Nat) (c935 : Nat), w22.cell? (b3.add 0) = some (.slice a935 l935 c935) ∧
 (Cel w13 w22 ∧
 (Calls Tryz.prog 6 #[(.agg #[(.slice a934 l934 c934)]), (.agg #[(.slice a935 l935 c935)])] w22 fun e938 w937 =>
 ∃ (p936 : Bool), e938 = .returned (.bool p936) ∧
 (Cel w13 w937 ∧
 (Calls Tryz.prog 7 #[(.agg #[(.slice a933 l933 c933)]), (.agg #[(.slice a788 l788 c788)])] w937 fun e941 w940 =>
 ∃ (p939 : Bool), e941 = .returned (.bool p939) ∧
 (Cel w13 w940 ∧
 ((BoolK (p936 == p939)
 (∃ (a942 : Option Addr) (l942 : Nat) (c942 : Nat), w940.cell? (b3.add 0) = some (.slice a942 l942 c942) ∧
 (Cel w13 w940 ∧
 (∃ (a943 : Option Addr) (l943 : Nat) (c943 : Nat), w940.cell? (b3.add 0) = some (.slice a943 l943 c943) ∧
 (Cel w13 w940 ∧
 (Calls Tryz.prog 6 #[(.agg #[(.slice a942 l942 c942)]), (.agg #[(.slice a943 l943 c943)])] w940 fun e946 w945 =>
 ∃ (p944 : Bool), e946 = .returned (.bool p944) ∧
 (Cel w13 w945 ∧
 (BoolK p944
 (Calls Tryz.prog 5 #[] w945 fun e949 w948 =>
 ∃ (p947 : Bool), e949 = .returned (.bool p947) ∧
 (K p947 w948))
 (K false w945))))))))
 (K false w940)) ∧
 (BoolK (p936 == p939)
 (∃ (a950 : Option Addr) (l950 : Nat) (c950 : Nat), w940.cell? (b3.add 0) = some (.slice a950 l950 c950) ∧
 (Cel w13 w940 ∧
 (∃ (a951 : Option Addr) (l951 : Nat) (c951 : Nat), w940.cell? (b3.add 0) = some (.slice a951 l951 c951) ∧
 (Cel w13 w940 ∧
 (Calls Tryz.prog 6 #[(.agg #[(.slice a951 l951 c951)]), (.agg #[(.slice a950 l950 c950)])] w940 fun e954 w953 =>
 ∃ (p952 : Bool), e954 = .returned (.bool p952) ∧
 (Cel w13 w953 ∧
 (BoolK p952
 (Calls Tryz.prog 5 #[] w953 fun e957 w956 =>
 ∃ (p955 : Bool), e957 = .returned (.bool p955) ∧
 (K p955 w956))
 (K false w953))))))))
 (K false w940))))))))))) ∧
 (∃ (a958 : Option Addr) (l958 : Nat) (c958 : Nat), w22.cell? (b3.add 0) = some (.slice a958 l958 c958) ∧
 (Cel w13 w22 ∧
 (∃ (a959 : Option Addr) (l959 : Nat) (c959 : Nat), w22.cell? (b5.add 0) = some (.slice a959 l959 c959) ∧
 (Cel w13 w22 ∧
 (Calls Tryz.prog 6 #[(.agg #[(.slice a959 l959 c959)]), (.agg #[(.slice a958 l958 c958)])] w22 fun e962 w961 =>
 ∃ (p960 : Bool), e962 = .returned (.bool p960) ∧
 (Cel w13 w961 ∧
 (Calls Tryz.prog 7 #[(.agg #[(.slice a933 l933 c933)]), (.agg #[(.slice a788 l788 c788)])] w961 fun e965 w964 =>
 ∃ (p963 : Bool), e965 = .returned (.bool p963) ∧
 (Cel w13 w964 ∧
 ((BoolK (p960 == p963)
 (∃ (a966 : Option Addr) (l966 : Nat) (c966 : Nat), w964.cell? (b3.add 0) = some (.slice a966 l966 c966) ∧
 (Cel w13 w964 ∧
 (∃ (a967 : Option Addr) (l967 : Nat) (c967 : Nat), w964.cell? (b3.add 0) = some (.slice a967 l967 c967) ∧
 (Cel w13 w964 ∧
 (Calls Tryz.prog 6 #[(.agg #[(.slice a966 l966 c966)]), (.agg #[(.slice a967 l967 c967)])] w964 fun e970 w969 =>
 ∃ (p968 : Bool), e970 = .returned (.bool p968) ∧
 (Cel w13 w969 ∧
 (BoolK p968
 (Calls Tryz.prog 5 #[] w969 fun e973 w972 =>
 ∃ (p971 : Bool), e973 = .returned (.bool p971) ∧
 (K p971 w972))
 (K false w969))))))))
 (K false w964)) ∧
 (BoolK (p960 == p963)
 (∃ (a974 : Option Addr) (l974 : Nat) (c974 : Nat), w964.cell? (b3.add 0) = some (.slice a974 l974 c974) ∧
 (Cel w13 w964 ∧
 (∃ (a975 : Option Addr) (l975 : Nat) (c975 : Nat), w964.cell? (b3.add 0) = some (.slice a975 l975 c975) ∧
 (Cel w13 w964 ∧
 (Calls Tryz.prog 6 #[(.agg #[(.slice a975 l975 c975)]), (.agg #[(.slice a974 l974 c974)])] w964 fun e978 w977 =>
 ∃ (p976 : Bool), e978 = .returned (.bool p976) ∧
 (Cel w13 w977 ∧
 (BoolK p976
 (Calls Tryz.prog 5 #[] w977 fun e981 w980 =>
 ∃ (p979 : Bool), e981 = .returned (.bool p979) ∧
 (K p979 w980))
 (K false w977))))))))
 (K false w964))))))))))))))))))
 (((((K false w22) ∧
 (K false w22)) ∧
 ((K false w22) ∧
 (K false w22))) ∧
 ((K false w22) ∧
 (K false w22))) ∧
 (((((K false w22) ∧
 (K false w22)) ∧
 ((K false w22) ∧
 (K false w22))) ∧
 ((K false w22) ∧
 (K false w22))) ∧
 (((K false w22) ∧
 (K false w22)) ∧
 ((K false w22) ∧
 (K false w22)))))))))))))))))) ∧
 (∃ (a982 : Option Addr) (l982 : Nat) (c982 : Nat), w6.cell? (b3.add 0) = some (.slice a982 l982 c982) ∧
 (Calls Tryz.prog 4 #[(.agg #[(.slice a982 l982 c982)])] w6 fun e985 w984 =>
 ∃ (p983 : Bool), e985 = .returned (.bool p983) ∧
 (BoolK (!p983)
 (J7 true w984)
 (∃ (a986 : Option Addr) (l986 : Nat) (c986 : Nat), w984.cell? (b5.add 0) = some (.slice a986 l986 c986) ∧
 (Calls Tryz.prog 4 #[(.agg #[(.slice a986 l986 c986)])] w984 fun e989 w988 =>
 ∃ (p987 : Bool), e989 = .returned (.bool p987) ∧
 (J7 (!p987) w988))))))
def ann3 : Ann := (.two .nil (.two (.cut [(12, (.one .bool))] [2, 3] .nil (.two (.two .nil .nil) .nil)) (.two (.any 22 (.take 0 (.take 1 (.take 3 (.take 4 (.one 2 (.one 5 (.take 6 (.take 7 (.both 8 (.both 9 (.both 10 (.both 11 (.one 12 (.one 13 (.take 14 (.take 15 (.take 16 (.both 17 (.one 18 (.one 19 (.take 20 (.take 21 .done)))) (.one 18 (.one 17 (.one 19 (.take 20 (.take 21 .done))))))))))) (.one 12 (.one 11 (.one 13 (.take 14 (.take 15 (.take 16 (.both 17 (.one 18 (.one 19 (.take 20 (.take 21 .done)))) (.one 18 (.one 17 (.one 19 (.take 20 (.take 21 .done))))))))))))) (.both 11 (.both 10 (.one 12 (.one 13 (.take 14 (.take 15 (.take 16 (.both 17 (.one 18 (.one 19 (.take 20 (.take 21 .done)))) (.one 18 (.one 17 (.one 19 (.take 20 (.take 21 .done))))))))))) (.one 12 (.one 10 (.one 13 (.take 14 (.take 15 (.take 16 (.both 17 (.one 18 (.one 19 (.take 20 (.take 21 .done)))) (.one 18 (.one 17 (.one 19 (.take 20 (.take 21 .done))))))))))))) (.one 12 (.both 10 (.one 11 (.one 13 (.take 14 (.take 15 (.take 16 (.both 17 (.one 18 (.one 19 (.take 20 (.take 21 .done)))) (.one 18 (.one 17 (.one 19 (.take 20 (.take 21 .done))))))))))) (.one 11 (.one 10 (.one 13 (.take 14 (.take 15 (.take 16 (.both 17 (.one 18 (.one 19 (.take 20 (.take 21 .done)))) (.one 18 (.one 17 (.one 19 (.take 20 (.take 21 .done)))))))))))))))) (.both 11 (.both 9 (.both 10 (.one 12 (.one 13 (.take 14 (.take 15 (.take 16 (.both 17 (.one 18 (.one 19 (.take 20 (.take 21 .done)))) (.one 18 (.one 17 (.one 19 (.take 20 (.take 21 .done))))))))))) (.one 12 (.one 10 (.one 13 (.take 14 (.take 15 (.take 16 (.both 17 (.one 18 (.one 19 (.take 20 (.take 21 .done)))) (.one 18 (.one 17 (.one 19 (.take 20 (.take 21 .done))))))))))))) (.one 12 (.one 9 (.one 10 (.one 13 (.take 14 (.take 15 (.take 16 (.both 17 (.one 18 (.one 19 (.take 20 (.take 21 .done)))) (.one 18 (.one 17 (.one 19 (.take 20 (.take 21 .done)))))))))))))) (.one 12 (.both 9 (.both 10 (.one 11 (.one 13 (.take 14 (.take 15 (.take 16 (.both 17 (.one 18 (.one 19 (.take 20 (.take 21 .done)))) (.one 18 (.one 17 (.one 19 (.take 20 (.take 21 .done))))))))))) (.one 11 (.one 10 (.one 13 (.take 14 (.take 15 (.take 16 (.both 17 (.one 18 (.one 19 (.take 20 (.take 21 .done)))) (.one 18 (.one 17 (.one 19 (.take 20 (.take 21 .done))))))))))))) (.one 11 (.one 9 (.one 10 (.one 13 (.take 14 (.take 15 (.take 16 (.both 17 (.one 18 (.one 19 (.take 20 (.take 21 .done)))) (.one 18 (.one 17 (.one 19 (.take 20 (.take 21 .done))))))))))))))))) (.both 9 (.both 8 (.both 10 (.both 11 (.one 12 (.one 13 (.take 14 (.take 15 (.take 16 (.both 17 (.one 18 (.one 19 (.take 20 (.take 21 .done)))) (.one 18 (.one 17 (.one 19 (.take 20 (.take 21 .done))))))))))) (.one 12 (.one 11 (.one 13 (.take 14 (.take 15 (.take 16 (.both 17 (.one 18 (.one 19 (.take 20 (.take 21 .done)))) (.one 18 (.one 17 (.one 19 (.take 20 (.take 21 .done))))))))))))) (.both 11 (.both 10 (.one 12 (.one 13 (.take 14 (.take 15 (.take 16 (.both 17 (.one 18 (.one 19 (.take 20 (.take 21 .done)))) (.one 18 (.one 17 (.one 19 (.take 20 (.take 21 .done))))))))))) (.one 12 (.one 10 (.one 13 (.take 14 (.take 15 (.take 16 (.both 17 (.one 18 (.one 19 (.take 20 (.take 21 .done)))) (.one 18 (.one 17 (.one 19 (.take 20 (.take 21 .done))))))))))))) (.one 12 (.both 10 (.one 11 (.one 13 (.take 14 (.take 15 (.take 16 (.both 17 (.one 18 (.one 19 (.take 20 (.take 21 .done)))) (.one 18 (.one 17 (.one 19 (.take 20 (.take 21 .done))))))))))) (.one 11 (.one 10 (.one 13 (.take 14 (.take 15 (.take 16 (.both 17 (.one 18 (.one 19 (.take 20 (.take 21 .done)))) (.one 18 (.one 17 (.one 19 (.take 20 (.take 21 .done)))))))))))))))) (.both 11 (.both 8 (.both 10 (.one 12 (.one 13 (.take 14 (.take 15 (.take 16 (.both 17 (.one 18 (.one 19 (.take 20 (.take 21 .done)))) (.one 18 (.one 17 (.one 19 (.take 20 (.take 21 .done))))))))))) (.one 12 (.one 10 (.one 13 (.take 14 (.take 15 (.take 16 (.both 17 (.one 18 (.one 19 (.take 20 (.take 21 .done)))) (.one 18 (.one 17 (.one 19 (.take 20 (.take 21 .done))))))))))))) (.one 12 (.one 8 (.one 10 (.one 13 (.take 14 (.take 15 (.take 16 (.both 17 (.one 18 (.one 19 (.take 20 (.take 21 .done)))) (.one 18 (.one 17 (.one 19 (.take 20 (.take 21 .done)))))))))))))) (.one 12 (.both 8 (.both 10 (.one 11 (.one 13 (.take 14 (.take 15 (.take 16 (.both 17 (.one 18 (.one 19 (.take 20 (.take 21 .done)))) (.one 18 (.one 17 (.one 19 (.take 20 (.take 21 .done))))))))))) (.one 11 (.one 10 (.one 13 (.take 14 (.take 15 (.take 16 (.both 17 (.one 18 (.one 19 (.take 20 (.take 21 .done)))) (.one 18 (.one 17 (.one 19 (.take 20 (.take 21 .done))))))))))))) (.one 11 (.one 8 (.one 10 (.one 13 (.take 14 (.take 15 (.take 16 (.both 17 (.one 18 (.one 19 (.take 20 (.take 21 .done)))) (.one 18 (.one 17 (.one 19 (.take 20 (.take 21 .done))))))))))))))))) (.both 11 (.both 8 (.both 9 (.both 10 (.one 12 (.one 13 (.take 14 (.take 15 (.take 16 (.both 17 (.one 18 (.one 19 (.take 20 (.take 21 .done)))) (.one 18 (.one 17 (.one 19 (.take 20 (.take 21 .done))))))))))) (.one 12 (.one 10 (.one 13 (.take 14 (.take 15 (.take 16 (.both 17 (.one 18 (.one 19 (.take 20 (.take 21 .done)))) (.one 18 (.one 17 (.one 19 (.take 20 (.take 21 .done))))))))))))) (.one 12 (.one 9 (.one 10 (.one 13 (.take 14 (.take 15 (.take 16 (.both 17 (.one 18 (.one 19 (.take 20 (.take 21 .done)))) (.one 18 (.one 17 (.one 19 (.take 20 (.take 21 .done)))))))))))))) (.both 9 (.both 8 (.both 10 (.one 12 (.one 13 (.take 14 (.take 15 (.take 16 (.both 17 (.one 18 (.one 19 (.take 20 (.take 21 .done)))) (.one 18 (.one 17 (.one 19 (.take 20 (.take 21 .done))))))))))) (.one 12 (.one 10 (.one 13 (.take 14 (.take 15 (.take 16 (.both 17 (.one 18 (.one 19 (.take 20 (.take 21 .done)))) (.one 18 (.one 17 (.one 19 (.take 20 (.take 21 .done))))))))))))) (.one 12 (.one 8 (.one 10 (.one 13 (.take 14 (.take 15 (.take 16 (.both 17 (.one 18 (.one 19 (.take 20 (.take 21 .done)))) (.one 18 (.one 17 (.one 19 (.take 20 (.take 21 .done)))))))))))))) (.one 12 (.both 8 (.one 9 (.one 10 (.one 13 (.take 14 (.take 15 (.take 16 (.both 17 (.one 18 (.one 19 (.take 20 (.take 21 .done)))) (.one 18 (.one 17 (.one 19 (.take 20 (.take 21 .done)))))))))))) (.one 9 (.one 8 (.one 10 (.one 13 (.take 14 (.take 15 (.take 16 (.both 17 (.one 18 (.one 19 (.take 20 (.take 21 .done)))) (.one 18 (.one 17 (.one 19 (.take 20 (.take 21 .done))))))))))))))))) (.one 12 (.both 8 (.both 9 (.both 10 (.one 11 (.one 13 (.take 14 (.take 15 (.take 16 (.both 17 (.one 18 (.one 19 (.take 20 (.take 21 .done)))) (.one 18 (.one 17 (.one 19 (.take 20 (.take 21 .done))))))))))) (.one 11 (.one 10 (.one 13 (.take 14 (.take 15 (.take 16 (.both 17 (.one 18 (.one 19 (.take 20 (.take 21 .done)))) (.one 18 (.one 17 (.one 19 (.take 20 (.take 21 .done))))))))))))) (.one 11 (.one 9 (.one 10 (.one 13 (.take 14 (.take 15 (.take 16 (.both 17 (.one 18 (.one 19 (.take 20 (.take 21 .done)))) (.one 18 (.one 17 (.one 19 (.take 20 (.take 21 .done)))))))))))))) (.both 9 (.both 8 (.both 10 (.one 11 (.one 13 (.take 14 (.take 15 (.take 16 (.both 17 (.one 18 (.one 19 (.take 20 (.take 21 .done)))) (.one 18 (.one 17 (.one 19 (.take 20 (.take 21 .done))))))))))) (.one 11 (.one 10 (.one 13 (.take 14 (.take 15 (.take 16 (.both 17 (.one 18 (.one 19 (.take 20 (.take 21 .done)))) (.one 18 (.one 17 (.one 19 (.take 20 (.take 21 .done))))))))))))) (.one 11 (.one 8 (.one 10 (.one 13 (.take 14 (.take 15 (.take 16 (.both 17 (.one 18 (.one 19 (.take 20 (.take 21 .done)))) (.one 18 (.one 17 (.one 19 (.take 20 (.take 21 .done)))))))))))))) (.one 11 (.both 8 (.one 9 (.one 10 (.one 13 (.take 14 (.take 15 (.take 16 (.both 17 (.one 18 (.one 19 (.take 20 (.take 21 .done)))) (.one 18 (.one 17 (.one 19 (.take 20 (.take 21 .done)))))))))))) (.one 9 (.one 8 (.one 10 (.one 13 (.take 14 (.take 15 (.take 16 (.both 17 (.one 18 (.one 19 (.take 20 (.take 21 .done)))) (.one 18 (.one 17 (.one 19 (.take 20 (.take 21 .done)))))))))))))))))))))))))))))) .nil)))
noncomputable def code3 : Code := match Tryz.f3.body with | some c => c | none => .skip
theorem wp3 (a1 : Option Addr) (l1 : Nat) (c1 : Nat) (a2 : Option Addr) (l2 : Nat) (c2 : Nat) (K : Bool → World → Prop) (w : World) : WP Tryz.prog tab code3 ann3 (fnQ tab Tryz.f3.results.toList [(.one .bool)] K) (argE 0 [(.agg #[(.slice a1 l1 c1)]), (.agg #[(.slice a2 l2 c2)])]) w = N3 a1 l1 c1 a2 l2 c2 K w := by kernel_rfl
theorem calls3 (a1 : Option Addr) (l1 : Nat) (c1 : Nat) (a2 : Option Addr) (l2 : Nat) (c2 : Nat) (K : Bool → World → Prop) (w : World) (h : N3 a1 l1 c1 a2 l2 c2 K w) : Calls Tryz.prog 3 #[(.agg #[(.slice a1 l1 c1)]), (.agg #[(.slice a2 l2 c2)])] w fun en w' => ∃ (p990 : Bool), en = .returned (.bool p990) ∧ K p990 w' :=
 have e : (fun en w' => ExShs [(.one .bool)] fun vs => en = .returned (tupled vs) ∧ ap [(.one .bool)] K vs fun p => p w') = (fun (en : Ending) (w' : World) => ∃ (p990 : Bool), en = .returned (.bool p990) ∧ K p990 w') := by kernel_rfl
 e ▸ fn_sound tabOk mixed Tryz.func3 (by kernel_rfl : Tryz.f3.body = some code3) ann3 [(.agg #[(.slice a1 l1 c1)]), (.agg #[(.slice a2 l2 c2)])] [(.one .bool)] K w (by kernel_rfl) ((wp3 a1 l1 c1 a2 l2 c2 K w).symm ▸ h)
end Go.Proofs.YtkneoodgoadpaacGreatDoor

namespace Go.Proofs.YtkneoodgoadpaacGreatDoor
open Go Go.V Go.Proofs
open Go.RowKit (Below)
structure St (b3 b5 : Nat) (a1 : Option Addr) (l1 c1 : Nat) (a2 : Option Addr) (l2 c2 t1 t2 : Nat) (xs ys : List ProcD) (d : Bool) (wI w0 w : World) : Prop where
  y : Ext wI w
  hd : d = true ↔ xs = ys
  hA : Blk w b3 #[.slice a1 l1 c1] t1
  hB : Blk w b5 #[.slice a2 l2 c2] t2
  h1 : RL 4 RPr w a1 l1 xs
  h2 : RL 4 RPr w a2 l2 ys
  x : Ext w0 w
section
variable {b3 b5 : Nat} {a1 : Option Addr} {l1 c1 : Nat} {a2 : Option Addr} {l2 c2 t1 t2 : Nat} {xs ys : List ProcD} {d : Bool} {wI w0 w : World}
theorem St.ext (h : St b3 b5 a1 l1 c1 a2 l2 c2 t1 t2 xs ys d wI w0 w) {w' : World} (x : Ext w w') : St b3 b5 a1 l1 c1 a2 l2 c2 t1 t2 xs ys d wI w0 w' :=
  ⟨h.y.trans x, h.hd, h.hA.ext x, h.hB.ext x, h.h1.ext RPr.mono x, h.h2.ext RPr.mono x, h.x.trans x⟩
theorem St.here (h : St b3 b5 a1 l1 c1 a2 l2 c2 t1 t2 xs ys d wI w0 w) : St b3 b5 a1 l1 c1 a2 l2 c2 t1 t2 xs ys d wI w w := ⟨h.y, h.hd, h.hA, h.hB, h.h1, h.h2, Ext.refl _⟩
theorem ld3 (h : St b3 b5 a1 l1 c1 a2 l2 c2 t1 t2 xs ys d wI w0 w) {F : Option Addr → Nat → Nat → Prop} (k : F a1 l1 c1) : ∃ (a : Option Addr) (l : Nat) (c : Nat), w.cell? ((⟨b3, 0, none⟩ : Addr).add 0) = some (.slice a l c) ∧ F a l c :=
  ⟨a1, l1, c1, by rw [add_mk, h.hA.cell]; rfl, k⟩
theorem ld5 (h : St b3 b5 a1 l1 c1 a2 l2 c2 t1 t2 xs ys d wI w0 w) {F : Option Addr → Nat → Nat → Prop} (k : F a2 l2 c2) : ∃ (a : Option Addr) (l : Nat) (c : Nat), w.cell? ((⟨b5, 0, none⟩ : Addr).add 0) = some (.slice a l c) ∧ F a l c :=
  ⟨a2, l2, c2, by rw [add_mk, h.hB.cell]; rfl, k⟩
theorem stc (h : St b3 b5 a1 l1 c1 a2 l2 c2 t1 t2 xs ys d wI w0 w) {F : Prop} (k : F) : Cel w0 w ∧ F := ⟨Below.cel h.x, k⟩
theorem b_eq {p q : Bool} {P : Prop} (h : p = true ↔ P) (k : q = true ↔ P) : p = q := by
  cases p <;> cases q <;> simp_all
theorem k6ab (h : St b3 b5 a1 l1 c1 a2 l2 c2 t1 t2 xs ys d wI w0 w) {F : Bool → World → Prop} (k : ∀ w', St b3 b5 a1 l1 c1 a2 l2 c2 t1 t2 xs ys d wI w0 w' → F d w') :
    Calls Tryz.prog 6 #[.agg #[.slice a1 l1 c1], .agg #[.slice a2 l2 c2]] w fun en w' => ∃ p, en = .returned (.bool p) ∧ F p w' :=
  (c6 w c1 c2 h.h1 h.h2).mono (by rintro en w' ⟨p, rfl, hp, x⟩; exact ⟨p, rfl, b_eq h.hd hp ▸ k w' (h.ext x)⟩)
theorem k6ba (h : St b3 b5 a1 l1 c1 a2 l2 c2 t1 t2 xs ys d wI w0 w) {F : Bool → World → Prop} (k : ∀ w', St b3 b5 a1 l1 c1 a2 l2 c2 t1 t2 xs ys d wI w0 w' → F d w') :
    Calls Tryz.prog 6 #[.agg #[.slice a2 l2 c2], .agg #[.slice a1 l1 c1]] w fun en w' => ∃ p, en = .returned (.bool p) ∧ F p w' :=
  (c6 w c2 c1 h.h2 h.h1).mono (by rintro en w' ⟨p, rfl, hp, x⟩; exact ⟨p, rfl, b_eq h.hd (hp.trans eq_comm) ▸ k w' (h.ext x)⟩)
theorem k6aa (h : St b3 b5 a1 l1 c1 a2 l2 c2 t1 t2 xs ys d wI w0 w) {F : Bool → World → Prop} (k : ∀ w', St b3 b5 a1 l1 c1 a2 l2 c2 t1 t2 xs ys d wI w0 w' → F true w') :
    Calls Tryz.prog 6 #[.agg #[.slice a1 l1 c1], .agg #[.slice a1 l1 c1]] w fun en w' => ∃ p, en = .returned (.bool p) ∧ F p w' :=
  (c6 w c1 c1 h.h1 h.h1).mono (by rintro en w' ⟨p, rfl, hp, x⟩; exact ⟨p, rfl, (hp.2 rfl).symm ▸ k w' (h.ext x)⟩)
theorem k7ab (h : St b3 b5 a1 l1 c1 a2 l2 c2 t1 t2 xs ys d wI w0 w) {F : Bool → World → Prop} (k : ∀ w', St b3 b5 a1 l1 c1 a2 l2 c2 t1 t2 xs ys d wI w0 w' → F d w') :
    Calls Tryz.prog 7 #[.agg #[.slice a1 l1 c1], .agg #[.slice a2 l2 c2]] w fun en w' => ∃ p, en = .returned (.bool p) ∧ F p w' :=
  (c7 w c1 c2 h.h1 h.h2).mono (by rintro en w' ⟨p, rfl, hp, x⟩; exact ⟨p, rfl, b_eq h.hd hp ▸ k w' (h.ext x)⟩)
theorem kaw (h : St b3 b5 a1 l1 c1 a2 l2 c2 t1 t2 xs ys d wI w0 w) : Calls Tryz.prog 5 #[] w fun en w' => ∃ (p : Bool), en = .returned (.bool p) ∧ (p = true ∧ Ext wI w') :=
  (awake_calls w).mono (by rintro en w' ⟨rfl, x⟩; exact ⟨true, rfl, rfl, h.y.trans x⟩)
theorem bq {d : Bool} {A B : Prop} (k : A) : BoolK (d == d) A B := BoolK.mk (fun _ => k) (fun e => by simp at e)
theorem bt {A B : Prop} (k : A) : BoolK true A B := BoolK.mk (fun _ => k) (fun e => by cases e)
end
set_option maxHeartbeats 0 in
theorem c3 (w : World) {a1 a2 : Option Addr} {l1 l2 : Nat} (c1 c2 : Nat) {xs ys : List ProcD} (h1 : RL 4 RPr w a1 l1 xs) (h2 : RL 4 RPr w a2 l2 ys) :
    Calls Tryz.prog 3 #[.agg #[.slice a1 l1 c1], .agg #[.slice a2 l2 c2]] w fun en w' => en = .returned (.bool true) ∧ Ext w w' := by
  refine (calls3 _ _ _ _ _ _ (fun p w' => p = true ∧ Ext w w') w ?_).mono (by rintro en w' ⟨p, rfl, rfl, x⟩; exact ⟨rfl, x⟩)
  refine AllocK.mk fun b3 w4 hb hB x4 => ?_
  refine AllocK.mk fun b5 w6 hb' hB' x6 => ?_
  have x := x4.trans x6
  obtain ⟨d, hd⟩ : ∃ d : Bool, d = true ↔ xs = ys := ⟨@decide (xs = ys) (Classical.propDecidable _), by simp⟩
  have S : St b3 b5 a1 l1 c1 a2 l2 c2 24 24 xs ys d w w6 w6 := ⟨x, hd, hB.ext x6, hB', h1.ext RPr.mono x, h2.ext RPr.mono x, Ext.refl _⟩
  refine ⟨fun _ w' => St b3 b5 a1 l1 c1 a2 l2 c2 24 24 xs ys d w w6 w', ?_, ?_⟩
  · intro w8 p9 S8
    refine BoolK.mk (fun _ => kaw S8) (fun _ => DrewK.mk fun w13 x13 => ?_)
    have S := (S8.ext x13).here
    clear S8
    repeat' (first
      | (refine stc (by assumption) ?_) | (refine ld3 (by assumption) ?_) | (refine ld5 (by assumption) ?_)
      | (refine k6ab (by assumption) fun _ _ => ?_) | (refine k6ba (by assumption) fun _ _ => ?_) | (refine k6aa (by assumption) fun _ _ => ?_) | (refine k7ab (by assumption) fun _ _ => ?_)
      | (refine bq ?_) | (refine bt ?_) | (exact kaw (by assumption)) | (refine And.intro ?_ ?_))
  · refine ld3 S ?_
    refine (c4 w6 c1 S.h1).mono ?_
    rintro en w7 ⟨p, rfl, x7⟩
    refine ⟨p, rfl, BoolK.mk (fun _ => S.ext x7) (fun _ => ?_)⟩
    refine ld5 (S.ext x7) ?_
    refine (c4 w7 c2 (S.ext x7).h2).mono ?_
    rintro en w8 ⟨p, rfl, x8⟩
    exact ⟨p, rfl, (S.ext x7).ext x8⟩
end Go.Proofs.YtkneoodgoadpaacGreatDoor
