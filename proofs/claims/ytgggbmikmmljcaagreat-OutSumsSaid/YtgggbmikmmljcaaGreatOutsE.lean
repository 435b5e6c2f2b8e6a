/- A part of the proof: plain forms of functions and laws about them. -/
import Derived.Test.YtgggbmikmmljcaaGreatOutsD
namespace Go.Proofs.YtgggbmikmmljcaaGreat
open Go Go.V Go.Proofs
open Go.RowKit (Below)
/-! (*manystrand/manystrandref27.Count).Deliver -/
def N32 (o1 : Option Addr) (x2 : Int) (K : Int → World → Prop) (w : World) : Prop :=
 BoolK (decide ((x2 : Int) < 0))
 (K 2 w)
 (AddrK o1 fun b3 =>
 ∃ (a4 : Option Addr) (l4 : Nat) (c4 : Nat), w.cell? (b3.add 11) = some (.slice a4 l4 c4) ∧
 (BoolK (decide ((x2 : Int) ≥ (l4 : Nat)))
 (K 2 w)
 (AddrK o1 fun b5 =>
 ∃ (a6 : Option Addr) (l6 : Nat) (c6 : Nat), w.cell? (b5.add 11) = some (.slice a6 l6 c6) ∧
 ((0 ≤ (x2 : Int) ∧ (x2 : Int) < (l6 : Nat)) ∧
 AddrK a6 fun b7 =>
 ∃ (x8 : Int), w.cell? ((b7.add ((x2 : Int).toNat * 8)).add 0) = some (.int .i64 x8) ∧
 (∃ (x9 : Int), w.cell? ((b7.add ((x2 : Int).toNat * 8)).add 1) = some (.int .i64 x9) ∧
 (∃ (s10 : ByteArray), w.cell? ((b7.add ((x2 : Int).toNat * 8)).add 2) = some (.string s10) ∧
 (∃ (x11 : Int), w.cell? ((b7.add ((x2 : Int).toNat * 8)).add 3) = some (.int .i64 x11) ∧
 (∃ (x12 : Int), w.cell? ((b7.add ((x2 : Int).toNat * 8)).add 4) = some (.int .i64 x12) ∧
 (∃ (x13 : Int), w.cell? ((b7.add ((x2 : Int).toNat * 8)).add 5) = some (.int .i64 x13) ∧
 (∃ (x14 : Int), w.cell? ((b7.add ((x2 : Int).toNat * 8)).add 6) = some (.int .i64 x14) ∧
 (∃ (a15 : Option Addr) (l15 : Nat) (c15 : Nat), w.cell? ((b7.add ((x2 : Int).toNat * 8)).add 7) = some (.slice a15 l15 c15) ∧
 (AllocK w (#[.int .i64 0, .int .i64 0, .string ⟨#[]⟩, .int .i64 0, .int .i64 0, .int .i64 0, .int .i64 0, .slice none 0 0]) 40 fun b16 w17 =>
 SetK w17 (b16.add 0) (.int .i64 x8) fun w18 =>
 SetK w18 (b16.add 1) (.int .i64 x9) fun w19 =>
 SetK w19 (b16.add 2) (.string s10) fun w20 =>
 SetK w20 (b16.add 3) (.int .i64 x11) fun w21 =>
 SetK w21 (b16.add 4) (.int .i64 x12) fun w22 =>
 SetK w22 (b16.add 5) (.int .i64 x13) fun w23 =>
 SetK w23 (b16.add 6) (.int .i64 x14) fun w24 =>
 SetK w24 (b16.add 7) (.slice a15 l15 c15) fun w25 =>
 DrewK w25 fun w26 =>
 AddrK o1 fun b27 =>
 ∃ (a28 : Option Addr) (l28 : Nat) (c28 : Nat), w26.cell? (b27.add 11) = some (.slice a28 l28 c28) ∧
 (0 ≤ (x2 : Int) ∧
 ((0 ≤ (x2 : Int).toNat ∧ (x2 : Int).toNat ≤ c28) ∧
 (AddrK o1 fun b29 =>
 ∃ (a30 : Option Addr) (l30 : Nat) (c30 : Nat), w26.cell? (b29.add 11) = some (.slice a30 l30 c30) ∧
 (0 ≤ (IntKind.wrap .i64 (x2 + 1) : Int) ∧
 (((IntKind.wrap .i64 (x2 + 1) : Int).toNat ≤ l30 ∧ l30 ≤ c30) ∧
 (AllocK w26 (#[]) 40 fun b31 w32 =>
 Cel w26 w32 ∧
 (∃ (a33 : Option Addr), ∃ (l33 : Nat), ∃ (c33 : Nat), ∃ (w34 : World), Sem.run Tryz.prog (Builtin.append_ #[34, 34] 34 #[(.slice (some b31) 0 0), (.slice (if c28 = 0 then a28 else (a28).map (·.add (0 * 8))) ((x2 : Int).toNat - 0) (c28 - 0))]) w32 = .ok (.slice a33 l33 c33) w34 ∧
 (Cel w26 w34 ∧
 (∃ (a35 : Option Addr), ∃ (l35 : Nat), ∃ (c35 : Nat), ∃ (w36 : World), Sem.run Tryz.prog (Builtin.append_ #[34, 34] 34 #[(.slice a33 l33 c33), (.slice (if c30 = (IntKind.wrap .i64 (x2 + 1) : Int).toNat then a30 else (a30).map (·.add ((IntKind.wrap .i64 (x2 + 1) : Int).toNat * 8))) (l30 - (IntKind.wrap .i64 (x2 + 1) : Int).toNat) (c30 - (IntKind.wrap .i64 (x2 + 1) : Int).toNat))]) w34 = .ok (.slice a35 l35 c35) w36 ∧
 (AddrK o1 fun b37 =>
 SetK w36 (b37.add 11) (.slice a35 l35 c35) fun w38 =>
 ∃ (x39 : Int), w38.cell? (b16.add 0) = some (.int .i64 x39) ∧
 (∃ (x40 : Int), w38.cell? (b16.add 1) = some (.int .i64 x40) ∧
 (∃ (s41 : ByteArray), w38.cell? (b16.add 2) = some (.string s41) ∧
 (∃ (x42 : Int), w38.cell? (b16.add 3) = some (.int .i64 x42) ∧
 (∃ (x43 : Int), w38.cell? (b16.add 4) = some (.int .i64 x43) ∧
 (∃ (x44 : Int), w38.cell? (b16.add 5) = some (.int .i64 x44) ∧
 (∃ (x45 : Int), w38.cell? (b16.add 6) = some (.int .i64 x45) ∧
 (∃ (a46 : Option Addr) (l46 : Nat) (c46 : Nat), w38.cell? (b16.add 7) = some (.slice a46 l46 c46) ∧
 (Calls Tryz.prog 74 #[(.pointer o1), (.agg #[(.int .i64 x39), (.int .i64 x40), (.string s41), (.int .i64 x42), (.int .i64 x43), (.int .i64 x44), (.int .i64 x45), (.slice a46 l46 c46)])] w38 fun e48 w47 =>
 e48 = .returned (.tuple #[]) ∧
 (K 0 w47)))))))))))))))))))))))))))))))
def ann32 : Ann := (.two .nil (.two (.two .nil (.two (.two .nil .nil) .nil)) (.two .nil (.two (.anyC 20 (.take 0 (.take 2 (.take 3 (.take 4 (.take 5 (.take 6 (.take 7 (.take 9 (.take 10 (.take 11 (.take 12 (.take 13 (.take 14 (.take 15 (.one 1 (.one 8 (.one 16 (.take 17 (.take 18 (.one 19 .done))))))))))))))))))))) (.two .nil (.two .nil .nil))))))
noncomputable def code32 : Code := match Tryz.f32.body with | some c => c | none => .skip
theorem wp32 (o1 : Option Addr) (x2 : Int) (K : Int → World → Prop) (w : World) : WP Tryz.prog tab code32 ann32 (fnQ tab Tryz.f32.results.toList [(.one (.int .i64))] K) (argE 0 [(.pointer o1), (.int .i64 x2)]) w = N32 o1 x2 K w := by kernel_rfl
theorem calls32 (o1 : Option Addr) (x2 : Int) (K : Int → World → Prop) (w : World) (h : N32 o1 x2 K w) : Calls Tryz.prog 32 #[(.pointer o1), (.int .i64 x2)] w fun en w' => ∃ (x49 : Int), en = .returned (.int .i64 x49) ∧ K x49 w' :=
 have e : (fun en w' => ExShs [(.one (.int .i64))] fun vs => en = .returned (tupled vs) ∧ ap [(.one (.int .i64))] K vs fun p => p w') = (fun (en : Ending) (w' : World) => ∃ (x49 : Int), en = .returned (.int .i64 x49) ∧ K x49 w') := by kernel_rfl
 e ▸ fn_sound tabOk mixed Tryz.func32 (by kernel_rfl : Tryz.f32.body = some code32) ann32 [(.pointer o1), (.int .i64 x2)] [(.one (.int .i64))] K w (by kernel_rfl) ((wp32 o1 x2 K w).symm ▸ h)
end Go.Proofs.YtgggbmikmmljcaaGreat

namespace Go.Proofs.YtgggbmikmmljcaaGreat
open Go Go.V Go.Proofs
open Go.RowKit (Below)
/-! (*manystrand/manystrandref27.Count).Drops -/
def N34 (o1 : Option Addr) (x2 : Int) (K : Int → World → Prop) (w : World) : Prop :=
 BoolK (decide ((x2 : Int) < 0))
 (K 2 w)
 (AddrK o1 fun b3 =>
 ∃ (a4 : Option Addr) (l4 : Nat) (c4 : Nat), w.cell? (b3.add 11) = some (.slice a4 l4 c4) ∧
 (BoolK (decide ((x2 : Int) ≥ (l4 : Nat)))
 (K 2 w)
 (DrewK w fun w5 =>
 AddrK o1 fun b6 =>
 ∃ (a7 : Option Addr) (l7 : Nat) (c7 : Nat), w5.cell? (b6.add 11) = some (.slice a7 l7 c7) ∧
 (0 ≤ (x2 : Int) ∧
 ((0 ≤ (x2 : Int).toNat ∧ (x2 : Int).toNat ≤ c7) ∧
 (AddrK o1 fun b8 =>
 ∃ (a9 : Option Addr) (l9 : Nat) (c9 : Nat), w5.cell? (b8.add 11) = some (.slice a9 l9 c9) ∧
 (0 ≤ (IntKind.wrap .i64 (x2 + 1) : Int) ∧
 (((IntKind.wrap .i64 (x2 + 1) : Int).toNat ≤ l9 ∧ l9 ≤ c9) ∧
 (AllocK w5 (#[]) 40 fun b10 w11 =>
 Cel w5 w11 ∧
 (∃ (a12 : Option Addr), ∃ (l12 : Nat), ∃ (c12 : Nat), ∃ (w13 : World), Sem.run Tryz.prog (Builtin.append_ #[34, 34] 34 #[(.slice (some b10) 0 0), (.slice (if c7 = 0 then a7 else (a7).map (·.add (0 * 8))) ((x2 : Int).toNat - 0) (c7 - 0))]) w11 = .ok (.slice a12 l12 c12) w13 ∧
 (Cel w5 w13 ∧
 (∃ (a14 : Option Addr), ∃ (l14 : Nat), ∃ (c14 : Nat), ∃ (w15 : World), Sem.run Tryz.prog (Builtin.append_ #[34, 34] 34 #[(.slice a12 l12 c12), (.slice (if c9 = (IntKind.wrap .i64 (x2 + 1) : Int).toNat then a9 else (a9).map (·.add ((IntKind.wrap .i64 (x2 + 1) : Int).toNat * 8))) (l9 - (IntKind.wrap .i64 (x2 + 1) : Int).toNat) (c9 - (IntKind.wrap .i64 (x2 + 1) : Int).toNat))]) w13 = .ok (.slice a14 l14 c14) w15 ∧
 (AddrK o1 fun b16 =>
 SetK w15 (b16.add 11) (.slice a14 l14 c14) fun w17 =>
 K 0 w17)))))))))))))
def ann34 : Ann := (.two .nil (.two (.two .nil (.two (.two .nil .nil) .nil)) (.two (.anyC 20 (.take 0 (.take 2 (.take 3 (.take 4 (.take 5 (.take 6 (.take 7 (.take 9 (.take 10 (.take 11 (.take 12 (.take 13 (.take 14 (.take 15 (.one 1 (.one 8 (.one 16 (.take 17 (.take 18 (.one 19 .done))))))))))))))))))))) (.two .nil .nil))))
noncomputable def code34 : Code := match Tryz.f34.body with | some c => c | none => .skip
theorem wp34 (o1 : Option Addr) (x2 : Int) (K : Int → World → Prop) (w : World) : WP Tryz.prog tab code34 ann34 (fnQ tab Tryz.f34.results.toList [(.one (.int .i64))] K) (argE 0 [(.pointer o1), (.int .i64 x2)]) w = N34 o1 x2 K w := by kernel_rfl
theorem calls34 (o1 : Option Addr) (x2 : Int) (K : Int → World → Prop) (w : World) (h : N34 o1 x2 K w) : Calls Tryz.prog 34 #[(.pointer o1), (.int .i64 x2)] w fun en w' => ∃ (x18 : Int), en = .returned (.int .i64 x18) ∧ K x18 w' :=
 have e : (fun en w' => ExShs [(.one (.int .i64))] fun vs => en = .returned (tupled vs) ∧ ap [(.one (.int .i64))] K vs fun p => p w') = (fun (en : Ending) (w' : World) => ∃ (x18 : Int), en = .returned (.int .i64 x18) ∧ K x18 w') := by kernel_rfl
 e ▸ fn_sound tabOk mixed Tryz.func34 (by kernel_rfl : Tryz.f34.body = some code34) ann34 [(.pointer o1), (.int .i64 x2)] [(.one (.int .i64))] K w (by kernel_rfl) ((wp34 o1 x2 K w).symm ▸ h)
end Go.Proofs.YtgggbmikmmljcaaGreat

namespace Go.Proofs.YtgggbmikmmljcaaGreat
open Go Go.V Go.Proofs
open Go.RowKit (Below)
/-! manystrand/manystrandref27.behind -/
def N70 (a1 : Option Addr) (l1 : Nat) (_c1 : Nat) (x2 : Int) (x3 : Int) (K : Option Addr → Nat → Nat → World → Prop) (w : World) : Prop :=
 AllocK w (#[(.int .i64 x2), (.int .i64 x3)]) 93 fun b4 w5 =>
 ∃ (I6 : Option Addr → Nat → Nat → Int → World → Prop) (μ7 : Option Addr → Nat → Nat → Int → World → Nat),
 (I6 none 0 0 0 w5 ∧ True) ∧
 ∀ (w8 : World) (a9 : Option Addr) (l9 : Nat) (c9 : Nat) (x10 : Int), I6 a9 l9 c9 x10 w8 →
 BoolK (decide ((x10 : Int) < (l1 : Nat)))
 (DrewK w8 fun w11 =>
 (0 ≤ (x10 : Int) ∧ (x10 : Int) < (l1 : Nat)) ∧
 AddrK a1 fun b12 =>
 ∃ (x13 : Int), w11.cell? ((b12.add ((x10 : Int).toNat * 2)).add 0) = some (.int .i64 x13) ∧
 (∃ (x14 : Int), w11.cell? ((b12.add ((x10 : Int).toNat * 2)).add 1) = some (.int .i64 x14) ∧
 (∃ (x15 : Int), w11.cell? (b4.add 0) = some (.int .i64 x15) ∧
 (∃ (x16 : Int), w11.cell? (b4.add 1) = some (.int .i64 x16) ∧
 (BoolK (!(((x13 : Int) == x15) && (((x14 : Int) == x16) && (true))))
 ((0 ≤ (x10 : Int) ∧ (x10 : Int) < (l1 : Nat)) ∧
 AddrK a1 fun b17 =>
 ∃ (x18 : Int), w11.cell? ((b17.add ((x10 : Int).toNat * 2)).add 0) = some (.int .i64 x18) ∧
 (∃ (x19 : Int), w11.cell? ((b17.add ((x10 : Int).toNat * 2)).add 1) = some (.int .i64 x19) ∧
 (AllocK w11 (#[(.int .i64 x18), (.int .i64 x19)]) 93 fun b20 w21 =>
 ∃ (a22 : Option Addr), ∃ (l22 : Nat), ∃ (c22 : Nat), ∃ (w23 : World), Sem.run Tryz.prog (Builtin.append_ #[48, 48] 48 #[(.slice a9 l9 c9), (.slice (some b20) 1 1)]) w21 = .ok (.slice a22 l22 c22) w23 ∧
 (I6 a22 l22 c22 (IntKind.wrap .i64 (x10 + 1)) w23 ∧ μ7 a22 l22 c22 (IntKind.wrap .i64 (x10 + 1)) w23 < μ7 a9 l9 c9 x10 w8))))
 (I6 a9 l9 c9 (IntKind.wrap .i64 (x10 + 1)) w11 ∧ μ7 a9 l9 c9 (IntKind.wrap .i64 (x10 + 1)) w11 < μ7 a9 l9 c9 x10 w8))))))
 (∃ (x24 : Int), w8.cell? (b4.add 0) = some (.int .i64 x24) ∧
 (∃ (x25 : Int), w8.cell? (b4.add 1) = some (.int .i64 x25) ∧
 (AllocK w8 (#[(.int .i64 x24), (.int .i64 x25)]) 93 fun b26 w27 =>
 ∃ (a28 : Option Addr), ∃ (l28 : Nat), ∃ (c28 : Nat), ∃ (w29 : World), Sem.run Tryz.prog (Builtin.append_ #[48, 48] 48 #[(.slice a9 l9 c9), (.slice (some b26) 1 1)]) w27 = .ok (.slice a28 l28 c28) w29 ∧
 (K a28 l28 c28 w29))))
def ann70 : Ann := (.two .nil (.two .nil (.two (.two .nil (.one (.loop [(5, (.one .slice)), (6, (.one (.int .i64)))] [0, 3] (.two (.two .nil (.two .nil .nil)) (.two (.one (.two (.anyC 6 (.take 0 (.take 1 (.take 2 (.take 3 (.take 4 (.take 5 .done))))))) (.two .nil .nil))) .nil))))) (.two .nil .nil))))
noncomputable def code70 : Code := match Tryz.f70.body with | some c => c | none => .skip
theorem wp70 (a1 : Option Addr) (l1 : Nat) (c1 : Nat) (x2 : Int) (x3 : Int) (K : Option Addr → Nat → Nat → World → Prop) (w : World) : WP Tryz.prog tab code70 ann70 (fnQ tab Tryz.f70.results.toList [(.one .slice)] K) (argE 0 [(.slice a1 l1 c1), (.agg #[(.int .i64 x2), (.int .i64 x3)])]) w = N70 a1 l1 c1 x2 x3 K w := by kernel_rfl
theorem calls70 (a1 : Option Addr) (l1 : Nat) (c1 : Nat) (x2 : Int) (x3 : Int) (K : Option Addr → Nat → Nat → World → Prop) (w : World) (h : N70 a1 l1 c1 x2 x3 K w) : Calls Tryz.prog 70 #[(.slice a1 l1 c1), (.agg #[(.int .i64 x2), (.int .i64 x3)])] w fun en w' => ∃ (a30 : Option Addr), ∃ (l30 : Nat), ∃ (c30 : Nat), en = .returned (.slice a30 l30 c30) ∧ K a30 l30 c30 w' :=
 have e : (fun en w' => ExShs [(.one .slice)] fun vs => en = .returned (tupled vs) ∧ ap [(.one .slice)] K vs fun p => p w') = (fun (en : Ending) (w' : World) => ∃ (a30 : Option Addr), ∃ (l30 : Nat), ∃ (c30 : Nat), en = .returned (.slice a30 l30 c30) ∧ K a30 l30 c30 w') := by kernel_rfl
 e ▸ fn_sound tabOk mixed Tryz.func70 (by kernel_rfl : Tryz.f70.body = some code70) ann70 [(.slice a1 l1 c1), (.agg #[(.int .i64 x2), (.int .i64 x3)])] [(.one .slice)] K w (by kernel_rfl) ((wp70 a1 l1 c1 x2 x3 K w).symm ▸ h)
end Go.Proofs.YtgggbmikmmljcaaGreat

namespace Go.Proofs.YtgggbmikmmljcaaGreat
open Go Go.V Go.Proofs
open Go.RowKit (Below)
/-! manystrand/manystrandref27.among -/
def N76 (a1 : Option Addr) (l1 : Nat) (_c1 : Nat) (x2 : Int) (x3 : Int) (K : Bool → World → Prop) (w : World) : Prop :=
 AllocK w (#[(.int .i64 x2), (.int .i64 x3)]) 93 fun b4 w5 =>
 ∃ (I6 : Int → World → Prop) (μ7 : Int → World → Nat),
 (I6 0 w5 ∧ True) ∧
 ∀ (w8 : World) (x9 : Int), I6 x9 w8 →
 BoolK (decide ((x9 : Int) < (l1 : Nat)))
 (DrewK w8 fun w10 =>
 (0 ≤ (x9 : Int) ∧ (x9 : Int) < (l1 : Nat)) ∧
 AddrK a1 fun b11 =>
 ∃ (x12 : Int), w10.cell? ((b11.add ((x9 : Int).toNat * 2)).add 0) = some (.int .i64 x12) ∧
 (∃ (x13 : Int), w10.cell? ((b11.add ((x9 : Int).toNat * 2)).add 1) = some (.int .i64 x13) ∧
 (∃ (x14 : Int), w10.cell? (b4.add 0) = some (.int .i64 x14) ∧
 (∃ (x15 : Int), w10.cell? (b4.add 1) = some (.int .i64 x15) ∧
 (BoolK (((x12 : Int) == x14) && (((x13 : Int) == x15) && (true)))
 (K true w10)
 (I6 (IntKind.wrap .i64 (x9 + 1)) w10 ∧ μ7 (IntKind.wrap .i64 (x9 + 1)) w10 < μ7 x9 w8))))))
 (K false w8)
def ann76 : Ann := (.two .nil (.two (.two .nil (.one (.loop [(5, (.one (.int .i64)))] [0, 3] (.two (.two .nil (.two .nil .nil)) (.two (.one (.two (.anyC 6 (.take 0 (.take 1 (.take 2 (.take 3 (.take 4 (.take 5 .done))))))) (.two (.two .nil .nil) .nil))) .nil))))) (.two .nil .nil)))
noncomputable def code76 : Code := match Tryz.f76.body with | some c => c | none => .skip
theorem wp76 (a1 : Option Addr) (l1 : Nat) (c1 : Nat) (x2 : Int) (x3 : Int) (K : Bool → World → Prop) (w : World) : WP Tryz.prog tab code76 ann76 (fnQ tab Tryz.f76.results.toList [(.one .bool)] K) (argE 0 [(.slice a1 l1 c1), (.agg #[(.int .i64 x2), (.int .i64 x3)])]) w = N76 a1 l1 c1 x2 x3 K w := by kernel_rfl
theorem calls76 (a1 : Option Addr) (l1 : Nat) (c1 : Nat) (x2 : Int) (x3 : Int) (K : Bool → World → Prop) (w : World) (h : N76 a1 l1 c1 x2 x3 K w) : Calls Tryz.prog 76 #[(.slice a1 l1 c1), (.agg #[(.int .i64 x2), (.int .i64 x3)])] w fun en w' => ∃ (p16 : Bool), en = .returned (.bool p16) ∧ K p16 w' :=
 have e : (fun en w' => ExShs [(.one .bool)] fun vs => en = .returned (tupled vs) ∧ ap [(.one .bool)] K vs fun p => p w') = (fun (en : Ending) (w' : World) => ∃ (p16 : Bool), en = .returned (.bool p16) ∧ K p16 w') := by kernel_rfl
 e ▸ fn_sound tabOk mixed Tryz.func76 (by kernel_rfl : Tryz.f76.body = some code76) ann76 [(.slice a1 l1 c1), (.agg #[(.int .i64 x2), (.int .i64 x3)])] [(.one .bool)] K w (by kernel_rfl) ((wp76 a1 l1 c1 x2 x3 K w).symm ▸ h)
end Go.Proofs.YtgggbmikmmljcaaGreat

namespace Go.Proofs.YtgggbmikmmljcaaGreat
open Go Go.V Go.Proofs
open Go.RowKit (Below)
section
variable {κ κ' : Ka RK} {N N' : Prm} {r : Rb} {w w' : World}
theorem RR.flyAt (h : RR κ N r w) {a : Option Addr} {l c : Nat} (hs : Sl Kr κ .fly (a, l, c)) {x : Int} (h0 : 0 ≤ x) (h1 : x < l) : ∃ g o p0 p1 s p3 p4 p5 p6 ga gl gc, a = some ⟨g, o, none⟩ ∧ N.isS p0 ∧ N.isS p1 ∧ N.isT p3 ∧
    w.cell? (((⟨g, o, none⟩ : Addr).add (x.toNat * 8)).add 0) = some (.int .i64 p0) ∧ w.cell? (((⟨g, o, none⟩ : Addr).add (x.toNat * 8)).add 1) = some (.int .i64 p1) ∧ w.cell? (((⟨g, o, none⟩ : Addr).add (x.toNat * 8)).add 2) = some (.string s) ∧ w.cell? (((⟨g, o, none⟩ : Addr).add (x.toNat * 8)).add 3) = some (.int .i64 p3) ∧
    w.cell? (((⟨g, o, none⟩ : Addr).add (x.toNat * 8)).add 4) = some (.int .i64 p4) ∧ w.cell? (((⟨g, o, none⟩ : Addr).add (x.toNat * 8)).add 5) = some (.int .i64 p5) ∧ w.cell? (((⟨g, o, none⟩ : Addr).add (x.toNat * 8)).add 6) = some (.int .i64 p6) ∧ w.cell? (((⟨g, o, none⟩ : Addr).add (x.toNat * 8)).add 7) = some (.slice ga gl gc) := by
  obtain ⟨g, o, m, u, rfl, hk, hj⟩ := h.els hs h0 h1
  have f : ∀ j, j < 8 → ∃ v, w.cell? (((⟨g, o, none⟩ : Addr).add (x.toNat * 8)).add j) = some v ∧ Or N r κ .fly j v := fun j hj2 => by
    obtain ⟨_, _, v, p3, p4⟩ := hj j hj2
    exact ⟨v, by rw [add_mk, add_mk]; exact p3, p4⟩
  obtain ⟨_, c0, p0, rfl, o0⟩ := f 0 (by omega)
  obtain ⟨_, c1, p1, rfl, o1⟩ := f 1 (by omega)
  obtain ⟨_, c2, s, rfl⟩ := f 2 (by omega)
  obtain ⟨_, c3, p3, rfl, o3⟩ := f 3 (by omega)
  obtain ⟨_, c4, p4, rfl⟩ := f 4 (by omega)
  obtain ⟨_, c5, p5, rfl⟩ := f 5 (by omega)
  obtain ⟨_, c6, p6, rfl⟩ := f 6 (by omega)
  obtain ⟨_, c7, ga, gl, gc, rfl⟩ := f 7 (by omega)
  exact ⟨g, o, p0, p1, s, p3, p4, p5, p6, ga, gl, gc, rfl, o0, o1, o3, c0, c1, c2, c3, c4, c5, c6, c7⟩
theorem RR.cutFly (h : RR κ N r w) {a : Option Addr} {l c : Nat} (hs : Sl Kr κ .fly (a, l, c)) (hl : l ≤ N.f) {x : Int} (h0 : 0 ≤ x) (h1 : x < l) {a2 : Option Addr} {l2 c2 : Nat} (e2 : (a2, l2, c2) = (a, l, c)) {F : World → Prop}
    (f : ∀ w' κ', RR κ' N r w' → PkR κ κ' w w' → F w') :
    0 ≤ x ∧ ((0 ≤ x.toNat ∧ x.toNat ≤ c) ∧ (∃ (a9 : Option Addr) (l9 c9 : Nat), (a9, l9, c9) = (a2, l2, c2) ∧ (0 ≤ IntKind.wrap .i64 (x + 1) ∧ (((IntKind.wrap .i64 (x + 1)).toNat ≤ l9 ∧ l9 ≤ c9) ∧
      AllocK w #[] 40 fun b w11 => Cel w w11 ∧ ∃ (a12 : Option Addr) (l12 c12 : Nat) (w13 : World), Sem.run Tryz.prog (Builtin.append_ #[34, 34] 34 #[.slice (some b) 0 0, .slice (if c = 0 then a else a.map (·.add (0 * 8))) (x.toNat - 0) (c - 0)]) w11 = .ok (.slice a12 l12 c12) w13 ∧
        (Cel w w13 ∧ ∃ (a14 : Option Addr) (l14 c14 : Nat) (w15 : World), Sem.run Tryz.prog (Builtin.append_ #[34, 34] 34 #[.slice a12 l12 c12, .slice (if c9 = (IntKind.wrap .i64 (x + 1)).toNat then a9 else a9.map (·.add ((IntKind.wrap .i64 (x + 1)).toNat * 8))) (l9 - (IntKind.wrap .i64 (x + 1)).toNat) (c9 - (IntKind.wrap .i64 (x + 1)).toNat)]) w13 = .ok (.slice a14 l14 c14) w15 ∧
          SetK w15 ((⟨r.b, 0, none⟩ : Addr).add 11) (.slice a14 l14 c14) F))))) := by
  cases e2
  have hlc := hs.lc
  have hf := h.ln.2.2.2.2
  have e : IntKind.wrap .i64 (x + 1) = x + 1 := wrap_id (by omega) (by omega)
  rw [e]
  refine ⟨h0, ⟨Nat.zero_le _, by omega⟩, a, l, c, rfl, by omega, ⟨by omega, hlc⟩, AllocK.mk fun b w11 hb hB hx => ⟨Below.cel hx, ?_⟩⟩
  have s1 := hs.cut (lo := 0) (hi := x.toNat) (Nat.zero_le _) (by omega)
  obtain ⟨a', c', w', κ1, q1, q2, q3, q4, q5⟩ := Sl.copy (ty := 34) (okR N r) rsltF h.ty hx hB (by omega) s1 (by omega)
  refine ⟨a', _, c', w', q1, Below.cel (hx.trans q4), ?_⟩
  have s2 := (hs.le (q5 NT).le).cut (lo := (x + 1).toNat) (hi := l) (by omega) (Nat.le_refl _)
  obtain ⟨a'', c'', w'', κ2, z1, z2, z3, z4⟩ := Sl.append (ty := 34) (okR N r) rsltF q2 q3 s2 (by omega)
  have p : PkR κ κ2 w w'' := (q5 NT).trans (z4.mono (by rintro _ rfl; simp [NT]))
  refine ⟨a'', _, c'', w'', z1, ?_⟩
  exact (h.same p z2).setSt (i := 11) (by omega) ⟨_, _, _, rfl, z3, by omega⟩ fun w17 h17 p17 => f w17 κ2 h17 (p.trans p17)
theorem c34 (h : RR κ N r w) (x : Int) : Calls Tryz.prog 34 #[rp r, .int .i64 x] w fun en w' => ∃ e, en = .returned (.int .i64 e) ∧ PostR κ N r w w' := by
  refine calls34 _ _ (fun _ w' => PostR κ N r w w') w ?_
  obtain ⟨a, l, c, hc, hs, hl⟩ := h.c11
  have same := PostR.mk h (Pk.refl NT κ w)
  refine BoolK.mk (fun _ => same) (fun t => ⟨_, _, _, hc, BoolK.mk (fun _ => same) (fun t2 => ?_)⟩)
  have t := of_decide_eq_false t; have t2 := of_decide_eq_false t2
  refine h.drew fun w5 h5 hx5 p5 => ?_
  have hc5 := hx5.cell hc
  have key := h5.cutFly hs hl (x := x) (by omega) (by omega) rfl (F := fun w17 => PostR κ N r w w17) fun w17 κ2 h17 p17 => PostR.mk h17 (p5.trans p17)
  obtain ⟨k1, k2, a9, l9, c9, e9, k3⟩ := key
  cases e9
  exact ⟨_, _, _, hc5, k1, k2, _, _, _, hc5, k3⟩
theorem c32 (h : RR κ N r w) (x : Int) (hf : N.f + N.p + 1 ≤ 10000000) : Calls Tryz.prog 32 #[rp r, .int .i64 x] w fun en w' => ∃ e, en = .returned (.int .i64 e) ∧ PostR κ (N.addF (N.p + 1)) r w w' := by
  refine calls32 _ _ (fun _ w' => PostR κ (N.addF (N.p + 1)) r w w') w ?_
  obtain ⟨a, l, c, hc, hs, hl⟩ := h.c11
  have same : PostR κ (N.addF (N.p + 1)) r w w := PostR.toP (d := 0) (PostR.mk h (Pk.refl NT κ w)) (Nat.zero_le _) h hf
  refine BoolK.mk (fun _ => same) (fun t => ⟨_, _, _, hc, BoolK.mk (fun _ => same) (fun t2 => ?_)⟩)
  have t := of_decide_eq_false t; have t2 := of_decide_eq_false t2
  obtain ⟨g, o, p0, p1, s, p3, p4, p5, p6, ga, gl, gc, rfl, o0, o1, o3, d0, d1, d2, d3, d4, d5, d6, d7⟩ := h.flyAt hs (x := x) (by omega) (by omega)
  refine ⟨_, _, _, hc, ⟨by omega, by omega⟩, p0, d0, p1, d1, s, d2, p3, d3, p4, d4, p5, d5, p6, d6, _, _, _, d7, ?_⟩
  refine AllocK.mk fun b w17 hb hB hx17 => ?_
  have hbn : κ b = none := h.fresh (by omega)
  refine set8 hB rfl fun w25 hB25 bu => ?_
  have hx25 : Ext w w25 := bu.below hx17 (by omega)
  refine (h.ext hx25).drew fun w26 h26 hx26 p26 => ?_
  have hx := hx25.trans hx26
  have hc26 := hx.cell hc
  have hB26 := hB25.ext hx26
  have key := h26.cutFly hs hl (x := x) (by omega) (by omega) rfl (F := fun w38 => ∃ (x39 : Int), w38.cell? ((⟨b, 0, none⟩ : Addr).add 0) = some (.int .i64 x39) ∧ (∃ (x40 : Int), w38.cell? ((⟨b, 0, none⟩ : Addr).add 1) = some (.int .i64 x40) ∧ (∃ (s41 : ByteArray), w38.cell? ((⟨b, 0, none⟩ : Addr).add 2) = some (.string s41) ∧
      (∃ (x42 : Int), w38.cell? ((⟨b, 0, none⟩ : Addr).add 3) = some (.int .i64 x42) ∧ (∃ (x43 : Int), w38.cell? ((⟨b, 0, none⟩ : Addr).add 4) = some (.int .i64 x43) ∧ (∃ (x44 : Int), w38.cell? ((⟨b, 0, none⟩ : Addr).add 5) = some (.int .i64 x44) ∧ (∃ (x45 : Int), w38.cell? ((⟨b, 0, none⟩ : Addr).add 6) = some (.int .i64 x45) ∧
      (∃ (a46 : Option Addr) (l46 : Nat) (c46 : Nat), w38.cell? ((⟨b, 0, none⟩ : Addr).add 7) = some (.slice a46 l46 c46) ∧ (Calls Tryz.prog 74 #[rp r, (.agg #[(.int .i64 x39), (.int .i64 x40), (.string s41), (.int .i64 x42), (.int .i64 x43), (.int .i64 x44), (.int .i64 x45), (.slice a46 l46 c46)])] w38 fun e48 w47 => e48 = .returned (.tuple #[]) ∧ PostR κ (N.addF (N.p + 1)) r w w47)))))))))
    fun w38 κ2 h38 p38 => by
      have hB38 := p38.blk hB26 hbn
      refine ⟨p0, by rw [add_mk, hB38.cell]; rfl, p1, by rw [add_mk, hB38.cell]; rfl, s, by rw [add_mk, hB38.cell]; rfl, p3, by rw [add_mk, hB38.cell]; rfl, p4, by rw [add_mk, hB38.cell]; rfl, p5, by rw [add_mk, hB38.cell]; rfl, p6, by rw [add_mk, hB38.cell]; rfl, ga, gl, gc, by rw [add_mk, hB38.cell]; rfl, ?_⟩
      refine (c74 h38 s p4 p5 p6 ga gl gc o0 o1 o3 hf).mono ?_
      rintro en w47 ⟨rfl, q⟩
      exact ⟨rfl, q.trans ((h.pkExt hx).trans p38)⟩
  obtain ⟨k1, k2, a9, l9, c9, e9, k3⟩ := key
  cases e9
  exact ⟨_, _, _, hc26, k1, k2, _, _, _, hc26, k3⟩
theorem RR.ordAt (h : RR κ N r w) {a : Option Addr} {l c : Nat} (hs : Sl Kr κ .ord (a, l, c)) {x : Int} (h0 : 0 ≤ x) (h1 : x < l) : ∃ g o p0 p1, a = some ⟨g, o, none⟩ ∧ N.isT p0 ∧ N.isT p1 ∧
    w.cell? (((⟨g, o, none⟩ : Addr).add (x.toNat * 2)).add 0) = some (.int .i64 p0) ∧ w.cell? (((⟨g, o, none⟩ : Addr).add (x.toNat * 2)).add 1) = some (.int .i64 p1) := by
  obtain ⟨g, o, m, u, rfl, hk, hj⟩ := h.els hs h0 h1
  have f : ∀ j, j < 2 → ∃ v, w.cell? (((⟨g, o, none⟩ : Addr).add (x.toNat * 2)).add j) = some v ∧ Or N r κ .ord j v := fun j hj2 => by
    obtain ⟨_, _, v, p3, p4⟩ := hj j hj2
    exact ⟨v, by rw [add_mk, add_mk]; exact p3, p4⟩
  obtain ⟨_, c0, p0, rfl, o0⟩ := f 0 (by omega)
  obtain ⟨_, c1, p1, rfl, o1⟩ := f 1 (by omega)
  exact ⟨g, o, p0, p1, rfl, o0, o1, c0, c1⟩
theorem RR.pushO (h : RR κ N r w) {a : Option Addr} {l c : Nat} (hs : Sl Kr κ .ord (a, l, c)) (hl : l ≤ 2000000) {x y : Int} (hx : N.isT x) (hy : N.isT y) {ty te : Nat} {F : Option Addr → Nat → Nat → World → Prop}
    (f : ∀ a' c' w' κ', RR κ' N r w' → Sl Kr κ' .ord (a', l + 1, c') → Pk (· = .ord) κ κ' w w' → F a' (l + 1) c' w') :
    AllocK w #[.int .i64 x, .int .i64 y] te fun b w1 => ∃ a' l' c' w2, Sem.run Tryz.prog (Builtin.append_ #[48, 48] ty #[.slice a l c, .slice (some b) 1 1]) w1 = .ok (.slice a' l' c') w2 ∧ F a' l' c' w2 := by
  refine Sl.push (okR N r) rsltO h.ty hs rfl (fun j v hj => ?_) (by omega) fun a' c' w2 κ2 ht hs' p => ?_
  · match j with
    | 0 => cases hj; exact ⟨_, rfl, hx⟩
    | 1 => cases hj; exact ⟨_, rfl, hy⟩
    | j + 2 => cases hj
  · exact f a' c' w2 κ2 (h.same (p.mono (by rintro _ rfl; simp [NT])) ht) hs' p
theorem RR.pushX (h : RR κ N r w) {k : RK} (hk : k = .idx ∨ k = .ints) {a : Option Addr} {l c : Nat} (hs : Sl Kr κ k (a, l, c)) (hl : l ≤ 2000000) {x : Int} (hx : N.isT x) {ty te : Nat} {F : Option Addr → Nat → Nat → World → Prop}
    (f : ∀ a' c' w' κ', RR κ' N r w' → Sl Kr κ' k (a', l + 1, c') → Pk (· = k) κ κ' w w' → F a' (l + 1) c' w') :
    AllocK w #[.int .i64 x] te fun b w1 => ∃ a' l' c' w2, Sem.run Tryz.prog (Builtin.append_ #[43, 43] ty #[.slice a l c, .slice (some b) 1 1]) w1 = .ok (.slice a' l' c') w2 ∧ F a' l' c' w2 := by
  have hs1 : (#[Value.int .i64 x] : Array Value).size = Kr.sz k := by rcases hk with rfl | rfl <;> rfl
  have H : SlT Tryz.prog 43 (Kr.ty k) (Kr.sz k) 8 := by rcases hk with rfl | rfl <;> exact rsltI
  refine Sl.push (okR N r) H h.ty hs hs1 (fun j v hj => ?_) (by omega) fun a' c' w2 κ2 ht hs' p => ?_
  · match j with
    | 0 =>
      cases hj
      rcases hk with rfl | rfl
      · exact ⟨_, rfl, hx⟩
      · exact ⟨_, rfl⟩
    | j + 1 => cases hj
  · exact f a' c' w2 κ2 (h.same (p.mono (by rintro _ rfl; rcases hk with rfl | rfl <;> simp [NT])) ht) hs' p
theorem box2 {b t : Nat} {x y : Int} (h : Blk w b #[.int .i64 x, .int .i64 y] t) : w.cell? ((⟨b, 0, none⟩ : Addr).add 0) = some (.int .i64 x) ∧ w.cell? ((⟨b, 0, none⟩ : Addr).add 1) = some (.int .i64 y) :=
  ⟨by rw [add_mk, h.cell]; rfl, by rw [add_mk, h.cell]; rfl⟩
theorem ntO : ∀ k : RK, k = .ord → NT k := by rintro _ rfl; simp [NT]
theorem ntX : ∀ k : RK, k = .idx → NT k := by rintro _ rfl; simp [NT]
theorem ntI : ∀ k : RK, k = .ints → NT k := by rintro _ rfl; simp [NT]
theorem c70 (h : RR κ N r w) {a : Option Addr} {l c : Nat} (hs : Sl Kr κ .ord (a, l, c)) (hl : l ≤ 1000) {x y : Int} (hx : N.isT x) (hy : N.isT y) :
    Calls Tryz.prog 70 #[.slice a l c, .agg #[.int .i64 x, .int .i64 y]] w fun en w' => ∃ a' l' c', en = .returned (.slice a' l' c') ∧ ∃ κ', RR κ' N r w' ∧ PkR κ κ' w w' ∧ Sl Kr κ' .ord (a', l', c') ∧ l' ≤ l + 1 := by
  refine calls70 _ _ _ _ _ (fun a' l' c' w' => ∃ κ', RR κ' N r w' ∧ PkR κ κ' w w' ∧ Sl Kr κ' .ord (a', l', c') ∧ l' ≤ l + 1) w ?_
  refine AllocK.mk fun b w5 hb hB hx5 => ?_
  have hbn : κ b = none := h.fresh (by omega)
  refine ⟨fun a1 l1 c1 i w' => ∃ (κ' : Ka RK) (k : Nat), i = k ∧ k ≤ l ∧ l1 ≤ k ∧ RR κ' N r w' ∧ PkR κ κ' w5 w' ∧ Sl Kr κ' .ord (a1, l1, c1), fun _ _ _ i _ => l - i.toNat, ⟨⟨κ, 0, rfl, Nat.zero_le _, Nat.le_refl _, h.ext hx5, Pk.refl _ _ _, Sl.nil _ _ _⟩, trivial⟩, ?_⟩
  rintro w8 a1 l1 c1 _ ⟨κ1, k, rfl, hk, hl1, h8, p8, hs1⟩
  have hB8 := p8.blk hB hbn
  refine BoolK.mk (fun t => ?_) (fun t => ?_)
  · have t := of_decide_eq_true t
    refine h8.drew fun w11 h11 hx11 p11 => ?_
    obtain ⟨q0, q1⟩ := box2 (hB8.ext hx11)
    obtain ⟨g, o, z0, z1, rfl, o0, o1, d0, d1⟩ := h11.ordAt (hs.le p8.le) (x := k) (by omega) t
    rw [wrap_succ (by omega)]
    refine ⟨⟨by omega, t⟩, z0, d0, z1, d1, x, q0, y, q1, BoolK.mk (fun _ => ?_) (fun _ => ?_)⟩
    · refine ⟨⟨by omega, t⟩, z0, d0, z1, d1, h11.pushO hs1 (by omega) o0 o1 fun a' c' w2 κ2 h2 hs2 p2 => ?_⟩
      exact ⟨⟨κ2, k + 1, rfl, by omega, by omega, h2, (p8.trans p11).trans (p2.mono ntO), hs2⟩, by simp; omega⟩
    · exact ⟨⟨κ1, k + 1, rfl, by omega, by omega, h11, p8.trans p11, hs1⟩, by simp; omega⟩
  · obtain ⟨q0, q1⟩ := box2 hB8
    refine ⟨x, q0, y, q1, h8.pushO hs1 (by omega) hx hy fun a' c' w2 κ2 h2 hs2 p2 => ?_⟩
    exact ⟨κ2, h2, ((h.pkExt hx5).trans p8).trans (p2.mono ntO), hs2, by omega⟩
theorem c76 (h : RR κ N r w) {a : Option Addr} {l c : Nat} (hs : Sl Kr κ .ord (a, l, c)) (hl : l ≤ 2000000) (x y : Int) :
    Calls Tryz.prog 76 #[.slice a l c, .agg #[.int .i64 x, .int .i64 y]] w fun en w' => ∃ p, en = .returned (.bool p) ∧ Ext w w' := by
  refine calls76 _ _ _ _ _ (fun _ w' => Ext w w') w ?_
  refine AllocK.mk fun b w5 hb hB hx5 => ?_
  refine ⟨fun i w' => ∃ k : Nat, i = k ∧ k ≤ l ∧ Ext w5 w', fun i _ => l - i.toNat, ⟨⟨0, rfl, Nat.zero_le _, Ext.refl _⟩, trivial⟩, ?_⟩
  rintro w8 _ ⟨k, rfl, hk, hx8⟩
  refine BoolK.mk (fun t => ?_) (fun t => hx5.trans hx8)
  have t := of_decide_eq_true t
  refine DrewK.mk fun w10 hx10 => ?_
  have hx := hx8.trans hx10
  obtain ⟨q0, q1⟩ := box2 (hB.ext hx)
  have h10 := h.ext (hx5.trans hx)
  obtain ⟨g, o, z0, z1, rfl, o0, o1, d0, d1⟩ := h10.ordAt hs (x := k) (by omega) t
  rw [wrap_succ (by omega)]
  refine ⟨⟨by omega, t⟩, z0, d0, z1, d1, x, q0, y, q1, BoolK.mk (fun _ => hx5.trans hx) (fun _ => ?_)⟩
  exact ⟨⟨k + 1, rfl, by omega, hx⟩, by simp; omega⟩
end
end Go.Proofs.YtgggbmikmmljcaaGreat

namespace Go.Proofs.YtgggbmikmmljcaaGreat
open Go Go.V Go.Proofs
open Go.RowKit (Below)
/-! manystrand/manystrandref27.sorted -/
def N77 (a1 : Option Addr) (l1 : Nat) (c1 : Nat) (K : Option Addr → Nat → Nat → World → Prop) (w : World) : Prop :=
 AllocK w (#[]) 3 fun b2 w3 =>
 ∃ (a4 : Option Addr), ∃ (l4 : Nat), ∃ (c4 : Nat), ∃ (w5 : World), Sem.run Tryz.prog (Builtin.append_ #[43, 43] 43 #[(.slice (some b2) 0 0), (.slice a1 l1 c1)]) w3 = .ok (.slice a4 l4 c4) w5 ∧
 (∃ (I6 : Int → World → Prop) (μ7 : Int → World → Nat),
 (I6 1 w5 ∧ True) ∧
 ∀ (w8 : World) (x9 : Int), I6 x9 w8 →
 BoolK (decide ((x9 : Int) < (l4 : Nat)))
 (∃ (I10 : Int → World → Prop) (μ11 : Int → World → Nat),
 (I10 x9 w8 ∧ True) ∧
 ∀ (w12 : World) (x13 : Int), I10 x13 w12 →
 DrewK w12 fun w14 =>
 BoolK (decide ((x13 : Int) > 0))
 ((0 ≤ (x13 : Int) ∧ (x13 : Int) < (l4 : Nat)) ∧
 AddrK a4 fun b15 =>
 ∃ (x16 : Int), w14.cell? (b15.add ((x13 : Int).toNat * 1)) = some (.int .i64 x16) ∧
 ((0 ≤ (IntKind.wrap .i64 (x13 - 1) : Int) ∧ (IntKind.wrap .i64 (x13 - 1) : Int) < (l4 : Nat)) ∧
 AddrK a4 fun b17 =>
 ∃ (x18 : Int), w14.cell? (b17.add ((IntKind.wrap .i64 (x13 - 1) : Int).toNat * 1)) = some (.int .i64 x18) ∧
 (BoolK (decide ((x16 : Int) < x18))
 (DrewK w14 fun w19 =>
 (0 ≤ (IntKind.wrap .i64 (x13 - 1) : Int) ∧ (IntKind.wrap .i64 (x13 - 1) : Int) < (l4 : Nat)) ∧
 AddrK a4 fun b20 =>
 ∃ (x21 : Int), w19.cell? (b20.add ((IntKind.wrap .i64 (x13 - 1) : Int).toNat * 1)) = some (.int .i64 x21) ∧
 ((0 ≤ (x13 : Int) ∧ (x13 : Int) < (l4 : Nat)) ∧
 AddrK a4 fun b22 =>
 ∃ (x23 : Int), w19.cell? (b22.add ((x13 : Int).toNat * 1)) = some (.int .i64 x23) ∧
 ((0 ≤ (x13 : Int) ∧ (x13 : Int) < (l4 : Nat)) ∧
 AddrK a4 fun b24 =>
 SetK w19 (b24.add ((x13 : Int).toNat * 1)) (.int .i64 x21) fun w25 =>
 (0 ≤ (IntKind.wrap .i64 (x13 - 1) : Int) ∧ (IntKind.wrap .i64 (x13 - 1) : Int) < (l4 : Nat)) ∧
 AddrK a4 fun b26 =>
 SetK w25 (b26.add ((IntKind.wrap .i64 (x13 - 1) : Int).toNat * 1)) (.int .i64 x23) fun w27 =>
 I10 (IntKind.wrap .i64 (x13 - 1)) w27 ∧ μ11 (IntKind.wrap .i64 (x13 - 1)) w27 < μ11 x13 w12)))
 (I6 (IntKind.wrap .i64 (x9 + 1)) w14 ∧ μ7 (IntKind.wrap .i64 (x9 + 1)) w14 < μ7 x9 w8))))
 (I6 (IntKind.wrap .i64 (x9 + 1)) w14 ∧ μ7 (IntKind.wrap .i64 (x9 + 1)) w14 < μ7 x9 w8))
 (K a4 l4 c4 w8))
def ann77 : Ann := (.two .nil (.two .nil (.two (.two .nil (.one (.loop [(4, (.one (.int .i64)))] [3] (.two (.two .nil (.two .nil .nil)) (.two (.one (.two .nil (.one (.loop [(5, (.one (.int .i64)))] [3, 4] (.two (.two (.anyC 14 (.take 0 (.take 1 (.take 2 (.take 3 (.take 4 (.take 5 (.take 6 (.take 7 (.take 8 (.take 9 (.take 10 (.take 11 (.take 12 (.take 13 .done))))))))))))))) (.two .nil .nil)) (.two (.one (.anyC 18 (.take 0 (.take 1 (.take 2 (.take 3 (.take 4 (.take 5 (.take 6 (.take 7 (.take 8 (.take 9 (.take 10 (.take 11 (.take 12 (.take 13 (.take 14 (.one 15 (.take 16 (.one 17 .done)))))))))))))))))))) .nil)))))) .nil))))) (.two .nil .nil))))
noncomputable def code77 : Code := match Tryz.f77.body with | some c => c | none => .skip
theorem wp77 (a1 : Option Addr) (l1 : Nat) (c1 : Nat) (K : Option Addr → Nat → Nat → World → Prop) (w : World) : WP Tryz.prog tab code77 ann77 (fnQ tab Tryz.f77.results.toList [(.one .slice)] K) (argE 0 [(.slice a1 l1 c1)]) w = N77 a1 l1 c1 K w := by kernel_rfl
theorem calls77 (a1 : Option Addr) (l1 : Nat) (c1 : Nat) (K : Option Addr → Nat → Nat → World → Prop) (w : World) (h : N77 a1 l1 c1 K w) : Calls Tryz.prog 77 #[(.slice a1 l1 c1)] w fun en w' => ∃ (a28 : Option Addr), ∃ (l28 : Nat), ∃ (c28 : Nat), en = .returned (.slice a28 l28 c28) ∧ K a28 l28 c28 w' :=
 have e : (fun en w' => ExShs [(.one .slice)] fun vs => en = .returned (tupled vs) ∧ ap [(.one .slice)] K vs fun p => p w') = (fun (en : Ending) (w' : World) => ∃ (a28 : Option Addr), ∃ (l28 : Nat), ∃ (c28 : Nat), en = .returned (.slice a28 l28 c28) ∧ K a28 l28 c28 w') := by kernel_rfl
 e ▸ fn_sound tabOk mixed Tryz.func77 (by kernel_rfl : Tryz.f77.body = some code77) ann77 [(.slice a1 l1 c1)] [(.one .slice)] K w (by kernel_rfl) ((wp77 a1 l1 c1 K w).symm ▸ h)
end Go.Proofs.YtgggbmikmmljcaaGreat

namespace Go.Proofs.YtgggbmikmmljcaaGreat
open Go Go.V Go.Proofs
open Go.RowKit (Below)
/-! (*manystrand/manystrandref27.Count).Sweep -/
def N37 (o1 : Option Addr) (x2 : Int) (K : Option Addr → Nat → Nat → Int → World → Prop) (w : World) : Prop :=
 Calls Tryz.prog 58 #[(.pointer o1), (.int .i64 x2)] w fun e5 w4 =>
 ∃ (p3 : Bool), e5 = .returned (.bool p3) ∧
 (BoolK (!p3)
 (K none 0 0 2 w4)
 (∃ (I6 : Option Addr → Nat → Nat → Option Addr → Nat → Nat → Bool → World → Prop) (μ7 : Option Addr → Nat → Nat → Option Addr → Nat → Nat → Bool → World → Nat),
 (I6 none 0 0 none 0 0 true w4 ∧ True) ∧
 ∀ (w8 : World) (a9 : Option Addr) (l9 : Nat) (c9 : Nat) (a10 : Option Addr) (l10 : Nat) (c10 : Nat) (p11 : Bool), I6 a9 l9 c9 a10 l10 c10 p11 w8 →
 BoolK p11
 (Calls Tryz.prog 75 #[(.pointer o1)] w8 fun e14 w13 =>
 ∃ (a12 : Option Addr), ∃ (l12 : Nat), ∃ (c12 : Nat), e14 = .returned (.slice a12 l12 c12) ∧
 (∃ (I15 : Option Addr → Nat → Nat → Option Addr → Nat → Nat → Bool → Int → World → Prop) (μ16 : Option Addr → Nat → Nat → Option Addr → Nat → Nat → Bool → Int → World → Nat),
 (I15 a9 l9 c9 a10 l10 c10 false 0 w13 ∧ True) ∧
 ∀ (w17 : World) (a18 : Option Addr) (l18 : Nat) (c18 : Nat) (a19 : Option Addr) (l19 : Nat) (c19 : Nat) (p20 : Bool) (x21 : Int), I15 a18 l18 c18 a19 l19 c19 p20 x21 w17 →
 AddrK o1 fun b22 =>
 ∃ (a23 : Option Addr) (l23 : Nat) (c23 : Nat), w17.cell? (b22.add 4) = some (.slice a23 l23 c23) ∧
 (BoolK (decide ((x21 : Int) < (l23 : Nat)))
 (AddrK o1 fun b24 =>
 ∃ (a25 : Option Addr) (l25 : Nat) (c25 : Nat), w17.cell? (b24.add 4) = some (.slice a25 l25 c25) ∧
 ((0 ≤ (x21 : Int) ∧ (x21 : Int) < (l25 : Nat)) ∧
 AddrK a25 fun b26 =>
 ∃ (x27 : Int), w17.cell? (b26.add ((x21 : Int).toNat * 7)) = some (.int .i64 x27) ∧
 (BoolK ((x27 : Int) != x2)
 (I15 a18 l18 c18 a19 l19 c19 p20 (IntKind.wrap .i64 (x21 + 1)) w17 ∧ μ16 a18 l18 c18 a19 l19 c19 p20 (IntKind.wrap .i64 (x21 + 1)) w17 < μ16 a18 l18 c18 a19 l19 c19 p20 x21 w17)
 (∃ (p28 : Bool), w17.cell? ((b26.add ((x21 : Int).toNat * 7)).add 5) = some (.bool p28) ∧
 (BoolK p28
 (I15 a18 l18 c18 a19 l19 c19 p20 (IntKind.wrap .i64 (x21 + 1)) w17 ∧ μ16 a18 l18 c18 a19 l19 c19 p20 (IntKind.wrap .i64 (x21 + 1)) w17 < μ16 a18 l18 c18 a19 l19 c19 p20 x21 w17)
 (∃ (p29 : Bool), w17.cell? ((b26.add ((x21 : Int).toNat * 7)).add 4) = some (.bool p29) ∧
 (BoolK p29
 (I15 a18 l18 c18 a19 l19 c19 p20 (IntKind.wrap .i64 (x21 + 1)) w17 ∧ μ16 a18 l18 c18 a19 l19 c19 p20 (IntKind.wrap .i64 (x21 + 1)) w17 < μ16 a18 l18 c18 a19 l19 c19 p20 x21 w17)
 ((0 ≤ (x21 : Int) ∧ (x21 : Int) < (l12 : Nat)) ∧
 AddrK a12 fun b30 =>
 ∃ (p31 : Bool), w17.cell? (b30.add ((x21 : Int).toNat * 1)) = some (.bool p31) ∧
 (BoolK p31
 (I15 a18 l18 c18 a19 l19 c19 p20 (IntKind.wrap .i64 (x21 + 1)) w17 ∧ μ16 a18 l18 c18 a19 l19 c19 p20 (IntKind.wrap .i64 (x21 + 1)) w17 < μ16 a18 l18 c18 a19 l19 c19 p20 x21 w17)
 (AllocK w17 (#[(.int .i64 (IntKind.wrap .i64 (x21 + 1)))]) 3 fun b32 w33 =>
 ∃ (a34 : Option Addr), ∃ (l34 : Nat), ∃ (c34 : Nat), ∃ (w35 : World), Sem.run Tryz.prog (Builtin.append_ #[43, 43] 43 #[(.slice a18 l18 c18), (.slice (some b32) 1 1)]) w33 = .ok (.slice a34 l34 c34) w35 ∧
 (SetK w35 ((b26.add ((x21 : Int).toNat * 7)).add 5) (.bool true) fun w36 =>
 ∃ (I37 : Option Addr → Nat → Nat → Int → World → Prop) (μ38 : Option Addr → Nat → Nat → Int → World → Nat),
 (I37 a19 l19 c19 0 w36 ∧ True) ∧
 ∀ (w39 : World) (a40 : Option Addr) (l40 : Nat) (c40 : Nat) (x41 : Int), I37 a40 l40 c40 x41 w39 →
 ∃ (a42 : Option Addr) (l42 : Nat) (c42 : Nat), w39.cell? ((b26.add ((x21 : Int).toNat * 7)).add 6) = some (.slice a42 l42 c42) ∧
 (BoolK (decide ((x41 : Int) < (l42 : Nat)))
 (∃ (a43 : Option Addr) (l43 : Nat) (c43 : Nat), w39.cell? ((b26.add ((x21 : Int).toNat * 7)).add 6) = some (.slice a43 l43 c43) ∧
 ((0 ≤ (x41 : Int) ∧ (x41 : Int) < (l43 : Nat)) ∧
 AddrK a43 fun b44 =>
 ∃ (x45 : Int), w39.cell? (b44.add ((x41 : Int).toNat * 1)) = some (.int .i64 x45) ∧
 (AllocK w39 (#[(.int .i64 (IntKind.wrap .i64 (x21 + 1))), (.int .i64 x45)]) 93 fun b46 w47 =>
 ∃ (a48 : Option Addr), ∃ (l48 : Nat), ∃ (c48 : Nat), ∃ (w49 : World), Sem.run Tryz.prog (Builtin.append_ #[48, 48] 48 #[(.slice a40 l40 c40), (.slice (some b46) 1 1)]) w47 = .ok (.slice a48 l48 c48) w49 ∧
 (I37 a48 l48 c48 (IntKind.wrap .i64 (x41 + 1)) w49 ∧ μ38 a48 l48 c48 (IntKind.wrap .i64 (x41 + 1)) w49 < μ38 a40 l40 c40 x41 w39))))
 (SetK w39 ((b26.add ((x21 : Int).toNat * 7)).add 6) (.slice none 0 0) fun w50 =>
 I15 a34 l34 c34 a40 l40 c40 true (IntKind.wrap .i64 (x21 + 1)) w50 ∧ μ16 a34 l34 c34 a40 l40 c40 true (IntKind.wrap .i64 (x21 + 1)) w50 < μ16 a18 l18 c18 a19 l19 c19 p20 x21 w17)))))))))))))
 (I6 a18 l18 c18 a19 l19 c19 p20 w17 ∧ μ7 a18 l18 c18 a19 l19 c19 p20 w17 < μ7 a9 l9 c9 a10 l10 c10 p11 w8))))
 (∃ (I51 : Int → World → Prop) (μ52 : Int → World → Nat),
 (I51 0 w8 ∧ True) ∧
 ∀ (w53 : World) (x54 : Int), I51 x54 w53 →
 AddrK o1 fun b55 =>
 ∃ (a56 : Option Addr) (l56 : Nat) (c56 : Nat), w53.cell? (b55.add 10) = some (.slice a56 l56 c56) ∧
 (BoolK (decide ((x54 : Int) < (l56 : Nat)))
 (AddrK o1 fun b57 =>
 ∃ (a58 : Option Addr) (l58 : Nat) (c58 : Nat), w53.cell? (b57.add 10) = some (.slice a58 l58 c58) ∧
 ((0 ≤ (x54 : Int) ∧ (x54 : Int) < (l58 : Nat)) ∧
 AddrK a58 fun b59 =>
 (0 ≤ (1 : Int) ∧ (1 : Int) < (2 : Nat)) ∧
 ∃ (x60 : Int), w53.cell? ((b59.add ((x54 : Int).toNat * 2)).add ((1 : Int).toNat * 1)) = some (.int .i64 x60) ∧
 (∃ (J61 : Bool → World → Prop),
 (∀ (w62 : World) (p63 : Bool), J61 p63 w62 →
 BoolK p63
 (Calls Tryz.prog 68 #[(.pointer o1), (.int .i64 x2), (.int .i64 x60)] w62 fun e65 w64 =>
 e65 = .returned (.tuple #[]) ∧
 (I51 (IntKind.wrap .i64 (x54 + 1)) w64 ∧ μ52 (IntKind.wrap .i64 (x54 + 1)) w64 < μ52 x54 w53))
 (I51 (IntKind.wrap .i64 (x54 + 1)) w62 ∧ μ52 (IntKind.wrap .i64 (x54 + 1)) w62 < μ52 x54 w53)) ∧
 (AddrK o1 fun b66 =>
 ∃ (a67 : Option Addr) (l67 : Nat) (c67 : Nat), w53.cell? (b66.add 10) = some (.slice a67 l67 c67) ∧
 ((0 ≤ (x54 : Int) ∧ (x54 : Int) < (l67 : Nat)) ∧
 AddrK a67 fun b68 =>
 ∃ (x69 : Int), w53.cell? ((b68.add ((x54 : Int).toNat * 2)).add 0) = some (.int .i64 x69) ∧
 (∃ (x70 : Int), w53.cell? ((b68.add ((x54 : Int).toNat * 2)).add 1) = some (.int .i64 x70) ∧
 (Calls Tryz.prog 76 #[(.slice a10 l10 c10), (.agg #[(.int .i64 x69), (.int .i64 x70)])] w53 fun e73 w72 =>
 ∃ (p71 : Bool), e73 = .returned (.bool p71) ∧
 (BoolK p71
 (AddrK o1 fun b74 =>
 ∃ (a75 : Option Addr) (l75 : Nat) (c75 : Nat), w72.cell? (b74.add 5) = some (.slice a75 l75 c75) ∧
 ((0 ≤ (x2 : Int) ∧ (x2 : Int) < (l75 : Nat)) ∧
 AddrK a75 fun b76 =>
 ∃ (a77 : Option Addr) (l77 : Nat) (c77 : Nat), w72.cell? (b76.add ((x2 : Int).toNat * 1)) = some (.slice a77 l77 c77) ∧
 ((0 ≤ (IntKind.wrap .i64 (x60 - 1) : Int) ∧ (IntKind.wrap .i64 (x60 - 1) : Int) < (l77 : Nat)) ∧
 AddrK a77 fun b78 =>
 ∃ (x79 : Int), w72.cell? (b78.add ((IntKind.wrap .i64 (x60 - 1) : Int).toNat * 1)) = some (.int .i64 x79) ∧
 (BoolK (decide ((x79 : Int) > 0))
 (Calls Tryz.prog 67 #[(.pointer o1), (.int .i64 x2), (.int .i64 x60)] w72 fun e82 w81 =>
 ∃ (p80 : Bool), e82 = .returned (.bool p80) ∧
 (J61 (!p80) w81))
 (J61 false w72)))))
 (J61 false w72)))))))))
 (Calls Tryz.prog 77 #[(.slice a9 l9 c9)] w53 fun e85 w84 =>
 ∃ (a83 : Option Addr), ∃ (l83 : Nat), ∃ (c83 : Nat), e85 = .returned (.slice a83 l83 c83) ∧
 (K a83 l83 c83 0 w84))))))
def ann37 : Ann := (.two .nil (.two (.two .nil (.two (.two .nil .nil) .nil)) (.two .nil (.two .nil (.two (.two .nil (.one (.loop [(6, (.one .slice)), (7, (.one .slice)), (8, (.one .bool))] [0, 1] (.two (.two .nil (.two .nil .nil)) (.one (.two .nil (.two .nil (.two .nil (.one (.loop [(6, (.one .slice)), (7, (.one .slice)), (8, (.one .bool)), (10, (.one (.int .i64)))] [0, 1, 9] (.two (.two .nil (.two .nil .nil)) (.two (.one (.two .nil (.two (.two .nil (.two .nil .nil)) (.two .nil (.two .nil (.two .nil (.two (.two .nil (.one (.loop [(7, (.one .slice)), (12, (.one (.int .i64)))] [0, 1, 6, 8, 9, 10, 11] (.two (.two .nil (.two .nil .nil)) (.two (.one .nil) .nil))))) .nil))))))) .nil)))))))))))) (.two (.two .nil (.one (.loop [(13, (.one (.int .i64)))] [0, 1, 6, 7] (.two (.two .nil (.two .nil .nil)) (.two (.one (.two .nil (.cut [(140, (.one .bool))] [0, 1, 6, 7, 13, 14] .nil (.two .nil .nil)))) .nil))))) (.two .nil .nil)))))))
noncomputable def code37 : Code := match Tryz.f37.body with | some c => c | none => .skip
theorem wp37 (o1 : Option Addr) (x2 : Int) (K : Option Addr → Nat → Nat → Int → World → Prop) (w : World) : WP Tryz.prog tab code37 ann37 (fnQ tab Tryz.f37.results.toList [(.one .slice), (.one (.int .i64))] K) (argE 0 [(.pointer o1), (.int .i64 x2)]) w = N37 o1 x2 K w := by kernel_rfl
theorem calls37 (o1 : Option Addr) (x2 : Int) (K : Option Addr → Nat → Nat → Int → World → Prop) (w : World) (h : N37 o1 x2 K w) : Calls Tryz.prog 37 #[(.pointer o1), (.int .i64 x2)] w fun en w' => ∃ (a86 : Option Addr), ∃ (l86 : Nat), ∃ (c86 : Nat), ∃ (x87 : Int), en = .returned (.tuple #[(.slice a86 l86 c86), (.int .i64 x87)]) ∧ K a86 l86 c86 x87 w' :=
 have e : (fun en w' => ExShs [(.one .slice), (.one (.int .i64))] fun vs => en = .returned (tupled vs) ∧ ap [(.one .slice), (.one (.int .i64))] K vs fun p => p w') = (fun (en : Ending) (w' : World) => ∃ (a86 : Option Addr), ∃ (l86 : Nat), ∃ (c86 : Nat), ∃ (x87 : Int), en = .returned (.tuple #[(.slice a86 l86 c86), (.int .i64 x87)]) ∧ K a86 l86 c86 x87 w') := by kernel_rfl
 e ▸ fn_sound tabOk mixed Tryz.func37 (by kernel_rfl : Tryz.f37.body = some code37) ann37 [(.pointer o1), (.int .i64 x2)] [(.one .slice), (.one (.int .i64))] K w (by kernel_rfl) ((wp37 o1 x2 K w).symm ▸ h)
end Go.Proofs.YtgggbmikmmljcaaGreat

namespace Go.Proofs.YtgggbmikmmljcaaGreat
open Go Go.V Go.Proofs
open Go.RowKit (Below)
section
variable {κ κ' : Ka RK} {N N' : Prm} {r : Rb} {w w' : World}
theorem RR.setI (h : RR κ N r w) {a : Option Addr} {l c : Nat} (hs : Sl Kr κ .ints (a, l, c)) {x : Int} (h0 : 0 ≤ x) (h1 : x < l) (v : Int) {F : World → Prop} (f : ∀ w', RR κ N r w' → PkR κ κ w w' → F w') : AddrK a fun b => SetK w (b.add (x.toNat * 1)) (.int .i64 v) F := by
  obtain ⟨g, o, n, u, _, rfl, hk, hu, _, _⟩ := h.el hs rfl h0 h1
  show SetK w ((⟨g, o, none⟩ : Addr).add (x.toNat * 1)) _ F
  rw [add_mk, Nat.mul_one]
  exact h.setAt hk hu (by simp [NT]) (by rw [show (o + x.toNat) % Kr.sz .ints = 0 from Nat.mod_one _]; exact ⟨v, rfl⟩) fun w' h' p _ => f w' h' p
theorem RR.getI (h : RR κ N r w) {a : Option Addr} {l c : Nat} (hs : Sl Kr κ .ints (a, l, c)) {x : Int} (h0 : 0 ≤ x) (h1 : x < l) {F : Int → Prop} (f : ∀ v, F v) : AddrK a fun b => ∃ v, w.cell? (b.add (x.toNat * 1)) = some (.int .i64 v) ∧ F v := by
  obtain ⟨g, o, n, u, _, rfl, _, _, hc, v, rfl⟩ := h.el hs rfl h0 h1
  exact ⟨v, hc, f v⟩
theorem c77 (h : RR κ N r w) {a : Option Addr} {l c : Nat} (hs : Sl Kr κ .ints (a, l, c)) (hl : l ≤ 2000000) :
    Calls Tryz.prog 77 #[.slice a l c] w fun en w' => ∃ a' l' c', en = .returned (.slice a' l' c') ∧ ∃ κ', RR κ' N r w' ∧ PkR κ κ' w w' ∧ Sl Kr κ' .ints (a', l', c') ∧ l' = l := by
  refine calls77 _ _ _ (fun a' l' c' w' => ∃ κ', RR κ' N r w' ∧ PkR κ κ' w w' ∧ Sl Kr κ' .ints (a', l', c') ∧ l' = l) w ?_
  refine AllocK.mk fun b w3 hb hB hx3 => ?_
  obtain ⟨a', c', w5, κ1, q1, q2, q3, q4, q5⟩ := Sl.copy (ty := 43) (okR N r) rsltI h.ty hx3 hB (by omega) hs (by omega)
  have h5 : RR κ1 N r w5 := h.same (q5 NT) q2
  refine ⟨a', l, c', w5, q1, ?_⟩
  refine ⟨fun x w' => ∃ k : Nat, x = k ∧ k ≤ l + 1 ∧ RR κ1 N r w' ∧ PkR κ κ1 w w', fun x _ => l + 1 - x.toNat, ⟨⟨1, rfl, by omega, h5, q5 NT⟩, trivial⟩, ?_⟩
  rintro w8 _ ⟨k, rfl, hk, h8, p8⟩
  refine BoolK.mk (fun t => ?_) (fun t => ⟨κ1, h8, p8, q3, rfl⟩)
  have t := of_decide_eq_true t
  refine ⟨fun x w' => ∃ j : Nat, x = j ∧ j ≤ k ∧ RR κ1 N r w' ∧ PkR κ κ1 w w', fun x _ => x.toNat, ⟨⟨k, rfl, Nat.le_refl _, h8, p8⟩, trivial⟩, ?_⟩
  rintro w12 _ ⟨j, rfl, hj, h12, p12⟩
  refine h12.drew fun w14 h14 hx14 p14 => ?_
  have p14 := p12.trans p14
  have next : ∀ {w2 : World}, RR κ1 N r w2 → PkR κ κ1 w w2 → (∃ k : Nat, IntKind.wrap .i64 ((k : Int) + 1) = k ∧ k ≤ l + 1 ∧ RR κ1 N r w2 ∧ PkR κ κ1 w w2) ∨ True := fun _ _ => .inr trivial
  clear next
  have e : IntKind.wrap .i64 ((k : Int) + 1) = ((k + 1 : Nat) : Int) := wrap_succ (by omega)
  rw [e]
  have next : ∀ {w2 : World}, RR κ1 N r w2 → PkR κ κ1 w w2 → (∃ k2 : Nat, ((k + 1 : Nat) : Int) = k2 ∧ k2 ≤ l + 1 ∧ RR κ1 N r w2 ∧ PkR κ κ1 w w2) ∧ l + 1 - (((k + 1 : Nat) : Int)).toNat < l + 1 - (k : Int).toNat := fun h2 p2 => ⟨⟨k + 1, rfl, by omega, h2, p2⟩, by simp; omega⟩
  refine BoolK.mk (fun tj => ?_) (fun _ => next h14 p14)
  have tj := of_decide_eq_true tj
  obtain ⟨i, rfl⟩ : ∃ i, j = i + 1 := ⟨j - 1, by omega⟩
  have e1 : IntKind.wrap .i64 (((i + 1 : Nat) : Int) - 1) = (i : Int) := by rw [wrap_id] <;> omega
  rw [e1]
  refine ⟨⟨by omega, by omega⟩, h14.getI q3 (by omega) (by omega) fun v1 => ⟨⟨by omega, by omega⟩, h14.getI q3 (by omega) (by omega) fun v2 => BoolK.mk (fun _ => ?_) (fun _ => next h14 p14)⟩⟩
  refine h14.drew fun w19 h19 hx19 p19 => ?_
  refine ⟨⟨by omega, by omega⟩, h19.getI q3 (by omega) (by omega) fun v1 => ⟨⟨by omega, by omega⟩, h19.getI q3 (by omega) (by omega) fun v2 => ⟨⟨by omega, by omega⟩, h19.setI q3 (by omega) (by omega) _ fun w25 h25 p25 => ⟨⟨by omega, by omega⟩, h25.setI q3 (by omega) (by omega) _ fun w27 h27 p27 => ?_⟩⟩⟩⟩
  exact ⟨⟨i, rfl, by omega, h27, ((p14.trans p19).trans p25).trans p27⟩, by simp⟩
def flg (w : World) (a : Option Addr) (n : Nat) : List Bool := match a with
  | some p => (List.range n).map fun i => match w.cell? ⟨p.block, p.off + i * 7 + 5, none⟩ with | some (.bool true) => true | _ => false
  | none => []
theorem flg_len {g o n : Nat} : (flg w (some ⟨g, o, none⟩) n).length = n := by simp [flg]
theorem flg_same {a : Option Addr} {n : Nat} (h : ∀ p, a = some p → w'.heap[p.block]? = w.heap[p.block]?) : flg w' a n = flg w a n := by
  cases a with
  | none => rfl
  | some p =>
    unfold flg
    apply List.map_congr_left; intro i _
    rw [World.cell?_of_block (w := w) (w' := w') (a := ⟨p.block, p.off + i * 7 + 5, none⟩) (h p rfl)]
theorem flg_get {g o n i : Nat} {b : Bool} (hi : i < n) (h : w.cell? ⟨g, o + i * 7 + 5, none⟩ = some (.bool b)) : (flg w (some ⟨g, o, none⟩) n)[i]? = some b := by
  simp only [flg, List.getElem?_map, List.getElem?_range hi, Option.map_some, h]
  cases b <;> rfl
theorem flg_set {g o n i t : Nat} {cs : Array Value} {v : Value} (h1 : Blk w g cs t) (h2 : Blk w' g (cs.setIfInBounds (o + i * 7 + 5) v) t) (hlt : o + i * 7 + 5 < cs.size) (hv : v = .bool true) (hi : i < n) : flg w' (some ⟨g, o, none⟩) n = (flg w (some ⟨g, o, none⟩) n).set i true := by
  apply List.ext_getElem?; intro j
  rw [List.getElem?_set]
  rcases Nat.lt_or_ge j n with hj | hj
  · simp only [flg, List.getElem?_map, List.getElem?_range hj, Option.map_some, List.length_map, List.length_range, if_pos hi]
    by_cases hij : i = j
    · subst hij
      rw [if_pos rfl, h2.cell, Array.getElem?_setIfInBounds, if_pos rfl, if_pos hlt, hv]
    · rw [if_neg hij, h2.cell, h1.cell, Array.getElem?_setIfInBounds, if_neg (by omega)]
  · simp only [flg, List.getElem?_map]
    rw [if_neg (by omega), List.getElem?_eq_none (by simpa using hj)]; rfl
theorem flg_other {g o n j t : Nat} {cs : Array Value} {v : Value} (h1 : Blk w g cs t) (h2 : Blk w' g (cs.setIfInBounds j v) t) (hj : ∀ i, o + i * 7 + 5 ≠ j) : flg w' (some ⟨g, o, none⟩) n = flg w (some ⟨g, o, none⟩) n := by
  unfold flg
  apply List.map_congr_left; intro i _
  rw [h2.cell, h1.cell, Array.getElem?_setIfInBounds, if_neg (fun e => hj i e.symm)]
theorem RR.setAtC (h : RR κ N r w) {k : RK} {g n u i : Nat} (hk : κ g = some (k, n, u)) (hi : i < u) (hX : NT k) {v : Value} (hv : Or N r κ k (i % Kr.sz k) v) {F : World → Prop}
    (f : ∀ w' cs, RR κ N r w' → PkR κ κ w w' → But g w w' → Blk w g cs (Kr.ty k) → Blk w' g (cs.setIfInBounds i v) (Kr.ty k) → i < cs.size → F w') : SetK w ⟨g, i, none⟩ v F := by
  obtain ⟨cs, hb, h1, h2, _⟩ := h.ty _ _ _ _ hk
  have hs := h.ty.set hk hi hv (F := fun w' => Ty Kr (Or N r) κ w' ∧ But g w w') fun w' ht bu => ⟨ht, bu⟩
  refine ⟨hs.1, ?_⟩
  obtain ⟨ht, bu⟩ := hs.2
  have p : PkR κ κ w (w.setCell ⟨g, i, none⟩ v) := Pk.butK (Pk.refl _ _ _) bu hk hX
  exact f _ cs (h.same p ht) p bu hb (heap_setCell_same w g i cs _ v hb) (by omega)
end
end Go.Proofs.YtgggbmikmmljcaaGreat

namespace Go.Proofs.YtgggbmikmmljcaaGreat
open Go Go.V Go.Proofs
open Go.RowKit (Below)
section
variable {κ κ' κ1 κ2 : Ka RK} {N N' : Prm} {r : Rb} {w w' : World}
theorem flg_pk {X : RK → Prop} (p : Pk X κ κ' w w') (hX : ¬ X .ths) {a : Option Addr} {n c m : Nat} (hs : Sl Kr κ .ths (a, n, c)) : flg w' a m = flg w a m := by
  refine flg_same fun q hq => ?_
  rcases hs with hs | ⟨g, j, n', u, e1, e2, _⟩
  · cases hs; cases hq
  · simp only at e1; rw [e1] at hq; cases hq
    exact p.keep _ _ _ _ e2 hX
theorem RR.c4keep {X : RK → Prop} (h : RR κ N r w) (p : Pk X κ κ' w w') (hX : ¬ X .st) {v : Value} (hc : w.cell? ((⟨r.b, 0, none⟩ : Addr).add 4) = some v) : w'.cell? ((⟨r.b, 0, none⟩ : Addr).add 4) = some v := by
  rw [add_mk, Nat.zero_add] at hc ⊢
  rw [World.cell?_of_block (w := w) (a := ⟨r.b, 4, none⟩) (p.keep _ _ _ _ h.st hX)]; exact hc
theorem cntF_le (D : List Bool) : cntF D ≤ D.length := List.countP_le_length
structure SwB (N : Prm) (n h l1 l2 : Nat) : Prop where
  out : l1 + n ≤ N.n
  loose : l2 + n * h ≤ N.n * h
theorem c37 (h : RR κ N r w) (x : Int) (hf : N.f + N.o ≤ 10000000) : Calls Tryz.prog 37 #[rp r, .int .i64 x] w fun en w' => ∃ a l c e, en = .returned (.tuple #[.slice a l c, .int .i64 e]) ∧ ∃ κ', RR κ' (N.addF N.o) r w' ∧ PkR κ κ' w w' ∧ Sl Kr κ' .ints (a, l, c) := by
  refine calls37 _ _ (fun a l c _ w' => ∃ κ', RR κ' (N.addF N.o) r w' ∧ PkR κ κ' w w' ∧ Sl Kr κ' .ints (a, l, c)) w ?_
  obtain ⟨ln, -, lo, lh, -⟩ := h.ln
  refine (c58 h x).mono ?_
  rintro en w4 ⟨p, rfl, hp, rfl⟩
  refine ⟨_, rfl, BoolK.mk (fun _ => ⟨κ, h.grow (N.le_addF _) (h.lim hf), Pk.refl _ _ _, Sl.nil _ _ _⟩) (fun t => ?_)⟩
  have hS : N.isS x := by rw [hp] at t; simpa using t
  obtain ⟨a4, c4, hc4, hs4⟩ := h.c4
  have hnh : N.n * N.h ≤ 1000000 := Nat.le_trans (Nat.mul_le_mul ln lh) (by decide)
  have hl0 : (flg w4 a4 N.n).length ≤ N.n := by
    cases a4 with
    | none => simp [flg]
    | some p => simp [flg]
  have b0 : SwB N (cntF (flg w4 a4 N.n)) N.h 0 0 := ⟨by have := cntF_le (flg w4 a4 N.n); omega, by have := Nat.mul_le_mul_right N.h (Nat.le_trans (cntF_le (flg w4 a4 N.n)) hl0); omega⟩
  refine ⟨fun a9 l9 c9 a10 l10 c10 _ w' => ∃ κ1, RR κ1 N r w' ∧ PkR κ κ1 w4 w' ∧ Sl Kr κ1 .ints (a9, l9, c9) ∧ Sl Kr κ1 .ord (a10, l10, c10) ∧ w'.cell? ((⟨r.b, 0, none⟩ : Addr).add 4) = some (.slice a4 N.n c4) ∧ SwB N (cntF (flg w' a4 N.n)) N.h l9 l10,
    fun _ _ _ _ _ _ p w' => cntF (flg w' a4 N.n) + (if p then 1 else 0), ⟨⟨κ, h, Pk.refl _ _ _, Sl.nil _ _ _, Sl.nil _ _ _, hc4, b0⟩, trivial⟩, ?_⟩
  rintro w8 a9 l9 c9 a10 l10 c10 p11 ⟨κ1, h8, p8, s9, s10, hc8, b8⟩
  have hs8 := hs4.le p8.le
  refine BoolK.mk (fun tp => ?_) (fun tp => ?_)
  · -- a round
    subst tp
    refine (c75 h8).mono ?_
    rintro en w13 ⟨a12, l12, c12, rfl, b, D, rfl, rfl, hD, hB, hx13, hbb⟩
    have h13 := h8.ext hx13
    have p13 : PkR κ κ1 w4 w13 := p8.trans (h8.pkExt hx13)
    have f13 : flg w13 a4 N.n = flg w8 a4 N.n := flg_pk (Pk.ofExt (fun _ => False) h8.ty hx13) (fun f => f) hs8
    have hc13 := h8.c4keep (Pk.ofExt (fun _ => False) h8.ty hx13) (fun f => f) hc8
    have hbn : κ1 b = none := h8.fresh hbb
    refine ⟨_, _, _, rfl, ?_⟩
    refine ⟨fun a18 l18 c18 a19 l19 c19 p20 i w' => ∃ (κ2 : Ka RK) (k : Nat), i = k ∧ k ≤ N.n ∧ RR κ2 N r w' ∧ PkR κ1 κ2 w13 w' ∧ Sl Kr κ2 .ints (a18, l18, c18) ∧ Sl Kr κ2 .ord (a19, l19, c19) ∧ w'.cell? ((⟨r.b, 0, none⟩ : Addr).add 4) = some (.slice a4 N.n c4) ∧ SwB N (cntF (flg w' a4 N.n)) N.h l18 l19 ∧
        cntF (flg w' a4 N.n) ≤ cntF (flg w8 a4 N.n) ∧ (p20 = true → cntF (flg w' a4 N.n) < cntF (flg w8 a4 N.n)),
      fun _ _ _ _ _ _ _ i _ => N.n - i.toNat, ⟨⟨κ1, 0, rfl, Nat.zero_le _, h13, Pk.refl _ _ _, s9, s10, hc13, by rw [f13]; exact b8, by rw [f13]; exact Nat.le_refl _, fun e => by cases e⟩, trivial⟩, ?_⟩
    rintro w17 a18 l18 c18 a19 l19 c19 p20 _ ⟨κ2, k, rfl, hk, h17, p17, s18, s19, hc17, b17, m1, m2⟩
    have hs17 := hs8.le p17.le
    refine ⟨_, _, _, hc17, BoolK.mk (fun tk => ?_) (fun tk => ?_)⟩
    rotate_left
    · refine ⟨⟨κ2, h17, p13.trans p17, s18, s19, hc17, b17⟩, ?_⟩
      show cntF (flg w17 a4 N.n) + (if p20 = true then 1 else 0) < cntF (flg w8 a4 N.n) + (if true = true then 1 else 0)
      cases p20
      · simp; omega
      · have := m2 rfl; simp; omega
    have tk := of_decide_eq_true tk
    have e : IntKind.wrap .i64 ((k : Int) + 1) = ((k + 1 : Nat) : Int) := wrap_succ (by omega)
    rw [e]
    obtain ⟨g, o, m, u, own, out, last, f1, f2, f3, ha, hl, hc', rfl, hkg, hSo, hsl, hle, hidx, c0, _, c1, c2, c3, c4', c5, c6⟩ := h17.thAt hs17 (x := k) (by omega) tk
    have go : ∀ w2, w17 = w2 → (∃ (κ2 : Ka RK) (k2 : Nat), ((k + 1 : Nat) : Int) = k2 ∧ k2 ≤ N.n ∧ RR κ2 N r w2 ∧ PkR κ1 κ2 w13 w2 ∧ Sl Kr κ2 .ints (a18, l18, c18) ∧ Sl Kr κ2 .ord (a19, l19, c19) ∧ w2.cell? ((⟨r.b, 0, none⟩ : Addr).add 4) = some (.slice (some ⟨g, o, none⟩) N.n c4) ∧ SwB N (cntF (flg w2 (some ⟨g, o, none⟩) N.n)) N.h l18 l19 ∧
        cntF (flg w2 (some ⟨g, o, none⟩) N.n) ≤ cntF (flg w8 (some ⟨g, o, none⟩) N.n) ∧ (p20 = true → cntF (flg w2 (some ⟨g, o, none⟩) N.n) < cntF (flg w8 (some ⟨g, o, none⟩) N.n))) ∧ N.n - (((k + 1 : Nat) : Int)).toNat < N.n - (k : Int).toNat := by
      rintro _ rfl
      exact ⟨⟨κ2, k + 1, rfl, by omega, h17, p17, s18, s19, hc17, b17, m1, m2⟩, by simp; omega⟩
    refine ⟨_, _, _, hc17, ⟨by omega, tk⟩, own, c0, BoolK.mk (fun _ => go _ rfl) (fun _ => ?_)⟩
    refine ⟨f3, c5, BoolK.mk (fun _ => go _ rfl) (fun tg => ?_)⟩
    refine ⟨f2, c4', BoolK.mk (fun _ => go _ rfl) (fun _ => ?_)⟩
    have hB17 := p17.blk hB hbn
    have tk' : k < N.n := by omega
    refine ⟨⟨by omega, tk⟩, _, getBool hB17 (i := (k : Int).toNat) (by simp; omega), BoolK.mk (fun _ => go _ rfl) (fun _ => ?_)⟩
    have hln : l18 ≤ 1000 := by have := b17.out; omega
    refine h17.pushX (k := .ints) (.inr rfl) s18 (by omega) (x := ((k + 1 : Nat) : Int)) ⟨by omega, by omega⟩ fun a34 c34 w35 κ3 h35 s34 p35 => ?_
    have hidx5 := hidx 5 (by omega)
    have hidx6 := hidx 6 (by omega)
    simp only [Int.toNat_natCast] at hidx5 hidx6
    obtain ⟨u3, hu3, hkg3⟩ := p35.le _ _ _ _ hkg
    simp only [add_mk, Int.toNat_natCast]
    refine h35.setAtC hkg3 (i := o + k * 7 + 5) (by omega) (by simp [NT]) (by rw [show (o + k * 7 + 5) % Kr.sz .ths = 5 from hidx5.2]; exact ⟨true, rfl⟩) fun w36 cs h36 p36 bu36 hb35 hb36 hlt36 => ?_
    -- the flags behind it
    have fl35 : flg w35 (some ⟨g, o, none⟩) N.n = flg w17 (some ⟨g, o, none⟩) N.n := flg_pk p35 (by simp) hs17
    have fl36 : flg w36 (some ⟨g, o, none⟩) N.n = (flg w17 (some ⟨g, o, none⟩) N.n).set k true := by rw [flg_set hb35 hb36 hlt36 rfl tk', fl35]
    have hfk : (flg w17 (some ⟨g, o, none⟩) N.n)[k]? = some false := by
      have := flg_get (g := g) (o := o) (n := N.n) (w := w17) (b := f3) tk' (by simpa only [add_mk, Int.toNat_natCast] using c5)
      rw [this, tg]
    have hdec := cntF_set hfk
    rw [← fl36] at hdec
    have hgr : r.b ≠ g := fun e => by have := h35.st; rw [e, hkg3] at this; cases this
    have hc35 := h17.c4keep p35 (by simp) hc17
    have hc36 : w36.cell? ((⟨r.b, 0, none⟩ : Addr).add 4) = some (.slice (some ⟨g, o, none⟩) N.n c4) := bu36.cell hc35 hgr
    have P36 : PkR κ1 κ3 w13 w36 := (p17.trans (p35.mono ntI)).trans p36
    refine ⟨fun a40 l40 c40 j w' => ∃ (κ4 : Ka RK) (i : Nat), j = i ∧ i ≤ N.h ∧ RR κ4 N r w' ∧ Pk (· = .ord) κ3 κ4 w36 w' ∧ Sl Kr κ4 .ord (a40, l40, c40) ∧ l40 ≤ l19 + i, fun _ _ _ j _ => N.h - j.toNat, ⟨⟨κ3, 0, rfl, Nat.zero_le _, h36, Pk.refl _ _ _, s19.le p35.le, Nat.le_refl _⟩, trivial⟩, ?_⟩
    rintro w39 a40 l40 c40 _ ⟨κ4, i, rfl, hi, h39, p39, s40, hl40⟩
    obtain ⟨u4, hu4, hkg4⟩ := p39.le _ _ _ _ hkg3
    obtain ⟨v6, hv6, hO6⟩ := h39.ty.cell hkg4 (i := o + k * 7 + 6) (by omega)
    rw [show (o + k * 7 + 6) % Kr.sz .ths = 6 from hidx6.2] at hO6
    obtain ⟨a42, l42, c42, rfl, s42, hl42⟩ := hO6
    have hc39 := h36.c4keep p39 (by simp) hc36
    have hbl := b17.loose
    have hbo := b17.out
    refine ⟨_, _, _, hv6, BoolK.mk (fun ti => ?_) (fun ti => ?_)⟩
    · have ti := of_decide_eq_true ti
      obtain ⟨g5, o5, n5, u5, v5, rfl, hk5, hu5, hc5, x45, rfl, hx45⟩ := h39.el s42 rfl (x := i) (by omega) ti
      refine ⟨_, _, _, hv6, ⟨by omega, ti⟩, x45, by simpa only [add_mk, Int.toNat_natCast] using hc5, ?_⟩
      have e2 : IntKind.wrap .i64 ((i : Int) + 1) = ((i + 1 : Nat) : Int) := wrap_succ (by omega)
      rw [e2]
      refine h39.pushO s40 (by omega) (x := ((k + 1 : Nat) : Int)) (y := x45) ⟨by omega, by omega⟩ hx45 fun a48 c48 w49 κ5 h49 s48 p49 => ?_
      exact ⟨⟨κ5, i + 1, rfl, by omega, h49, p39.trans p49, s48, by omega⟩, by simp; omega⟩
    · refine h39.setAtC hkg4 (i := o + k * 7 + 6) (by omega) (by simp [NT]) (by rw [show (o + k * 7 + 6) % Kr.sz .ths = 6 from hidx6.2]; exact ⟨none, 0, 0, rfl, Sl.nil _ _ _, Nat.zero_le _⟩) fun w50 cs2 h50 p50 bu50 hb39 hb50 hlt50 => ?_
      have fl39 : flg w39 (some ⟨g, o, none⟩) N.n = flg w36 (some ⟨g, o, none⟩) N.n := flg_pk p39 (by simp) ((hs17.le p35.le))
      have fl50 : flg w50 (some ⟨g, o, none⟩) N.n = flg w36 (some ⟨g, o, none⟩) N.n := by rw [flg_other hb39 hb50 (fun i => by omega), fl39]
      have hc50 : w50.cell? ((⟨r.b, 0, none⟩ : Addr).add 4) = some (.slice (some ⟨g, o, none⟩) N.n c4) := bu50.cell hc39 hgr
      have hmul := Nat.mul_le_mul_right N.h (Nat.succ_le_of_lt hdec)
      rw [Nat.succ_mul] at hmul
      rw [← fl50] at hdec hmul
      exact ⟨⟨κ4, k + 1, rfl, by omega, h50, (P36.trans (p39.mono ntO)).trans p50, (s34.le p39.le), s40, hc50, ⟨by omega, by omega⟩, by omega, fun _ => by omega⟩, by first | omega | (simp; omega)⟩
  · -- the proxies of what was swept
    subst tp
    refine ⟨fun i w' => ∃ (κ2 : Ka RK) (k d : Nat), i = k ∧ k ≤ N.o ∧ d ≤ k ∧ RR κ2 (N.addF d) r w' ∧ PkR κ κ2 w4 w' ∧ Sl Kr κ2 .ints (a9, l9, c9) ∧ Sl Kr κ2 .ord (a10, l10, c10), fun i _ => N.o - i.toNat, ⟨⟨κ1, 0, 0, rfl, Nat.zero_le _, Nat.le_refl _, h8, p8, s9, s10⟩, trivial⟩, ?_⟩
    rintro w53 _ ⟨κ2, k, d, rfl, hk, hd, h53, p53, s9, s10⟩
    obtain ⟨a, l, c, hc, hs, hl⟩ := h53.c10
    have hl : l ≤ N.o := hl
    have b9 := b8.out
    have b10 := b8.loose
    refine ⟨_, _, _, hc, BoolK.mk (fun tk => ?_) (fun tk => ?_)⟩
    · have tk := of_decide_eq_true tk
      obtain ⟨g, o, z0, z1, rfl, o0, o1, d0, d1⟩ := h53.ordAt hs (x := k) (by omega) tk
      have e : IntKind.wrap .i64 ((k : Int) + 1) = ((k + 1 : Nat) : Int) := wrap_succ (by omega)
      rw [e]
      have go : ∀ {w2 : World}, RR κ2 (N.addF d) r w2 → PkR κ κ2 w4 w2 → (∃ (κ2 : Ka RK) (k2 d : Nat), ((k + 1 : Nat) : Int) = k2 ∧ k2 ≤ N.o ∧ d ≤ k2 ∧ RR κ2 (N.addF d) r w2 ∧ PkR κ κ2 w4 w2 ∧ Sl Kr κ2 .ints (a9, l9, c9) ∧ Sl Kr κ2 .ord (a10, l10, c10)) ∧ N.o - (((k + 1 : Nat) : Int)).toNat < N.o - (k : Int).toNat := fun h2 p2 =>
        ⟨⟨κ2, k + 1, d, rfl, by omega, by omega, h2, p2, s9, s10⟩, by simp; omega⟩
      refine ⟨_, _, _, hc, ⟨by omega, tk⟩, ⟨by decide, by decide⟩, z1, d1, ?_⟩
      refine ⟨fun _ w' => RR κ2 (N.addF d) r w' ∧ PkR κ κ2 w4 w', ?_, ?_⟩
      · rintro w62 p63 ⟨h62, p62⟩
        refine BoolK.mk (fun _ => ?_) (fun _ => go h62 p62)
        refine (c68 h62 hS o1 (by show N.f + d + 1 ≤ _; omega)).mono ?_
        rintro en w64 ⟨rfl, κ3, h64, p64⟩
        exact ⟨rfl, ⟨κ3, k + 1, d + 1, rfl, by omega, by omega, h64, p62.trans p64, s9.le p64.le, s10.le p64.le⟩, by simp; omega⟩
      · refine ⟨_, _, _, hc, ⟨by omega, tk⟩, z0, d0, z1, d1, (c76 h53 s10 (by omega) z0 z1).mono ?_⟩
        rintro en w72 ⟨p71, rfl, hx72⟩
        have h72 := h53.ext hx72
        have p72 := p53.trans (h53.pkExt hx72)
        refine ⟨_, rfl, BoolK.mk (fun _ => ?_) (fun _ => ⟨h72, p72⟩)⟩
        refine h72.rdW hS o1 fun v => BoolK.mk (fun _ => ?_) (fun _ => ⟨h72, p72⟩)
        refine (c67 h72 x z1).mono ?_
        rintro en w81 ⟨p80, rfl, rfl⟩
        exact ⟨_, rfl, h72, p72⟩
    · refine (c77 h53 s9 (by omega)).mono ?_
      rintro en w84 ⟨a83, l83, c83, rfl, κ3, h84, p84, s83, _⟩
      exact ⟨_, _, _, rfl, κ3, h84.grow ⟨rfl, rfl, Nat.le_refl _, Nat.le_refl _, Nat.le_refl _, by show N.f + d ≤ N.f + N.o; omega⟩ (h.lim hf), p53.trans p84, s83⟩
end
end Go.Proofs.YtgggbmikmmljcaaGreat

namespace Go.Proofs.YtgggbmikmmljcaaGreat
open Go Go.V Go.Proofs
open Go.RowKit (Below)
/-! (*manystrand/manystrandref27.Count).reach -/
def N84 (o1 : Option Addr) (x2 : Int) (K : Option Addr → Nat → Nat → World → Prop) (w : World) : Prop :=
 AddrK o1 fun b3 =>
 ∃ (a4 : Option Addr) (l4 : Nat) (c4 : Nat), w.cell? (b3.add 4) = some (.slice a4 l4 c4) ∧
 ((0 ≤ ((l4 : Nat) : Int) ∧ ((l4 : Nat) : Int) ≤ (l4 : Nat) ∧ ((1 : Nat) : Int) * (l4 : Nat) ≤ 281474976710656 ∧ ((l4 : Nat) : Int) ≤ 9223372036854775807) ∧
 AllocK w (madeCells (#[.bool false]) (((l4 : Nat) : Int).toNat * 1)) 4 fun b5 w6 =>
 AllocK w6 (#[]) 3 fun b7 w8 =>
 AddrK o1 fun b9 =>
 ∃ (a10 : Option Addr) (l10 : Nat) (c10 : Nat), w8.cell? (b9.add 4) = some (.slice a10 l10 c10) ∧
 ((0 ≤ (IntKind.wrap .i64 (x2 - 1) : Int) ∧ (IntKind.wrap .i64 (x2 - 1) : Int) < (l10 : Nat)) ∧
 AddrK a10 fun b11 =>
 ∃ (a12 : Option Addr) (l12 : Nat) (c12 : Nat), w8.cell? ((b11.add ((IntKind.wrap .i64 (x2 - 1) : Int).toNat * 7)).add 6) = some (.slice a12 l12 c12) ∧
 (∃ (a13 : Option Addr), ∃ (l13 : Nat), ∃ (c13 : Nat), ∃ (w14 : World), Sem.run Tryz.prog (Builtin.append_ #[43, 43] 43 #[(.slice (some b7) 0 0), (.slice a12 l12 c12)]) w8 = .ok (.slice a13 l13 c13) w14 ∧
 (∃ (I15 : Option Addr → Nat → Nat → World → Prop) (μ16 : Option Addr → Nat → Nat → World → Nat),
 (I15 a13 l13 c13 w14 ∧ True) ∧
 ∀ (w17 : World) (a18 : Option Addr) (l18 : Nat) (c18 : Nat), I15 a18 l18 c18 w17 →
 BoolK (decide (((l18 : Nat) : Int) > 0))
 ((0 ≤ (0 : Int) ∧ (0 : Int) < (l18 : Nat)) ∧
 AddrK a18 fun b19 =>
 ∃ (x20 : Int), w17.cell? (b19.add ((0 : Int).toNat * 1)) = some (.int .i64 x20) ∧
 (0 ≤ (1 : Int) ∧
 (((1 : Int).toNat ≤ l18 ∧ l18 ≤ c18) ∧
 ((0 ≤ (IntKind.wrap .i64 (x20 - 1) : Int) ∧ (IntKind.wrap .i64 (x20 - 1) : Int) < (((l4 : Nat) : Int).toNat : Nat)) ∧
 ∃ (p21 : Bool), w17.cell? (b5.add ((IntKind.wrap .i64 (x20 - 1) : Int).toNat * 1)) = some (.bool p21) ∧
 (BoolK (!p21)
 ((0 ≤ (IntKind.wrap .i64 (x20 - 1) : Int) ∧ (IntKind.wrap .i64 (x20 - 1) : Int) < (((l4 : Nat) : Int).toNat : Nat)) ∧
 SetK w17 (b5.add ((IntKind.wrap .i64 (x20 - 1) : Int).toNat * 1)) (.bool true) fun w22 =>
 AddrK o1 fun b23 =>
 ∃ (a24 : Option Addr) (l24 : Nat) (c24 : Nat), w22.cell? (b23.add 4) = some (.slice a24 l24 c24) ∧
 ((0 ≤ (IntKind.wrap .i64 (x20 - 1) : Int) ∧ (IntKind.wrap .i64 (x20 - 1) : Int) < (l24 : Nat)) ∧
 AddrK a24 fun b25 =>
 ∃ (a26 : Option Addr) (l26 : Nat) (c26 : Nat), w22.cell? ((b25.add ((IntKind.wrap .i64 (x20 - 1) : Int).toNat * 7)).add 6) = some (.slice a26 l26 c26) ∧
 (∃ (a27 : Option Addr), ∃ (l27 : Nat), ∃ (c27 : Nat), ∃ (w28 : World), Sem.run Tryz.prog (Builtin.append_ #[43, 43] 43 #[(.slice (if c18 = (1 : Int).toNat then a18 else (a18).map (·.add ((1 : Int).toNat * 1))) (l18 - (1 : Int).toNat) (c18 - (1 : Int).toNat)), (.slice a26 l26 c26)]) w22 = .ok (.slice a27 l27 c27) w28 ∧
 (I15 a27 l27 c27 w28 ∧ μ16 a27 l27 c27 w28 < μ16 a18 l18 c18 w17))))
 (I15 (if c18 = (1 : Int).toNat then a18 else (a18).map (·.add ((1 : Int).toNat * 1))) (l18 - (1 : Int).toNat) (c18 - (1 : Int).toNat) w17 ∧ μ16 (if c18 = (1 : Int).toNat then a18 else (a18).map (·.add ((1 : Int).toNat * 1))) (l18 - (1 : Int).toNat) (c18 - (1 : Int).toNat) w17 < μ16 a18 l18 c18 w17))))))
 (K (some b5) (((l4 : Nat) : Int).toNat) (((l4 : Nat) : Int).toNat) w17)))))
def ann84 : Ann := (.two .nil (.two .nil (.two .nil (.two (.one (.loop [(6, (.one .slice))] [0, 5] (.two (.two .nil (.two .nil .nil)) (.one (.two .nil (.two .nil (.two .nil (.two (.two .nil .nil) .nil)))))))) (.two .nil .nil)))))
noncomputable def code84 : Code := match Tryz.f84.body with | some c => c | none => .skip
theorem wp84 (o1 : Option Addr) (x2 : Int) (K : Option Addr → Nat → Nat → World → Prop) (w : World) : WP Tryz.prog tab code84 ann84 (fnQ tab Tryz.f84.results.toList [(.one .slice)] K) (argE 0 [(.pointer o1), (.int .i64 x2)]) w = N84 o1 x2 K w := by kernel_rfl
theorem calls84 (o1 : Option Addr) (x2 : Int) (K : Option Addr → Nat → Nat → World → Prop) (w : World) (h : N84 o1 x2 K w) : Calls Tryz.prog 84 #[(.pointer o1), (.int .i64 x2)] w fun en w' => ∃ (a29 : Option Addr), ∃ (l29 : Nat), ∃ (c29 : Nat), en = .returned (.slice a29 l29 c29) ∧ K a29 l29 c29 w' :=
 have e : (fun en w' => ExShs [(.one .slice)] fun vs => en = .returned (tupled vs) ∧ ap [(.one .slice)] K vs fun p => p w') = (fun (en : Ending) (w' : World) => ∃ (a29 : Option Addr), ∃ (l29 : Nat), ∃ (c29 : Nat), en = .returned (.slice a29 l29 c29) ∧ K a29 l29 c29 w') := by kernel_rfl
 e ▸ fn_sound tabOk mixed Tryz.func84 (by kernel_rfl : Tryz.f84.body = some code84) ann84 [(.pointer o1), (.int .i64 x2)] [(.one .slice)] K w (by kernel_rfl) ((wp84 o1 x2 K w).symm ▸ h)
end Go.Proofs.YtgggbmikmmljcaaGreat

namespace Go.Proofs.YtgggbmikmmljcaaGreat
open Go Go.V Go.Proofs
open Go.RowKit (Below)
/-! (*manystrand/manystrandref27.Count).closed -/
def N85 (o1 : Option Addr) (a2 : Option Addr) (l2 : Nat) (_c2 : Nat) (K : Bool → World → Prop) (w : World) : Prop :=
 ∃ (I3 : Int → World → Prop) (μ4 : Int → World → Nat),
 (I3 0 w ∧ True) ∧
 ∀ (w5 : World) (x6 : Int), I3 x6 w5 →
 BoolK (decide ((x6 : Int) < (l2 : Nat)))
 ((0 ≤ (x6 : Int) ∧ (x6 : Int) < (l2 : Nat)) ∧
 AddrK a2 fun b7 =>
 ∃ (p8 : Bool), w5.cell? (b7.add ((x6 : Int).toNat * 1)) = some (.bool p8) ∧
 (BoolK (!p8)
 (I3 (IntKind.wrap .i64 (x6 + 1)) w5 ∧ μ4 (IntKind.wrap .i64 (x6 + 1)) w5 < μ4 x6 w5)
 (AddrK o1 fun b9 =>
 ∃ (a10 : Option Addr) (l10 : Nat) (c10 : Nat), w5.cell? (b9.add 4) = some (.slice a10 l10 c10) ∧
 ((0 ≤ (x6 : Int) ∧ (x6 : Int) < (l10 : Nat)) ∧
 AddrK a10 fun b11 =>
 ∃ (x12 : Int), w5.cell? ((b11.add ((x6 : Int).toNat * 7)).add 0) = some (.int .i64 x12) ∧
 (∃ (x13 : Int), w5.cell? ((b11.add ((x6 : Int).toNat * 7)).add 1) = some (.int .i64 x13) ∧
 (∃ (x14 : Int), w5.cell? ((b11.add ((x6 : Int).toNat * 7)).add 2) = some (.int .i64 x14) ∧
 (∃ (p15 : Bool), w5.cell? ((b11.add ((x6 : Int).toNat * 7)).add 3) = some (.bool p15) ∧
 (∃ (p16 : Bool), w5.cell? ((b11.add ((x6 : Int).toNat * 7)).add 4) = some (.bool p16) ∧
 (∃ (p17 : Bool), w5.cell? ((b11.add ((x6 : Int).toNat * 7)).add 5) = some (.bool p17) ∧
 (∃ (a18 : Option Addr) (l18 : Nat) (c18 : Nat), w5.cell? ((b11.add ((x6 : Int).toNat * 7)).add 6) = some (.slice a18 l18 c18) ∧
 (AllocK w5 (#[.int .i64 0, .int .i64 0, .int .i64 0, .bool false, .bool false, .bool false, .slice none 0 0]) 98 fun b19 w20 =>
 SetK w20 (b19.add 0) (.int .i64 x12) fun w21 =>
 SetK w21 (b19.add 1) (.int .i64 x13) fun w22 =>
 SetK w22 (b19.add 2) (.int .i64 x14) fun w23 =>
 SetK w23 (b19.add 3) (.bool p15) fun w24 =>
 SetK w24 (b19.add 4) (.bool p16) fun w25 =>
 SetK w25 (b19.add 5) (.bool p17) fun w26 =>
 SetK w26 (b19.add 6) (.slice a18 l18 c18) fun w27 =>
 ∃ (p28 : Bool), w27.cell? (b19.add 3) = some (.bool p28) ∧
 (BoolK p28
 (K false w27)
 (∃ (p29 : Bool), w27.cell? (b19.add 4) = some (.bool p29) ∧
 (BoolK p29
 (K false w27)
 (∃ (p30 : Bool), w27.cell? (b19.add 5) = some (.bool p30) ∧
 (BoolK p30
 (K false w27)
 (∃ (I31 : Int → World → Prop) (μ32 : Int → World → Nat),
 (I31 0 w27 ∧ True) ∧
 ∀ (w33 : World) (x34 : Int), I31 x34 w33 →
 AddrK o1 fun b35 =>
 ∃ (a36 : Option Addr) (l36 : Nat) (c36 : Nat), w33.cell? (b35.add 11) = some (.slice a36 l36 c36) ∧
 (BoolK (decide ((x34 : Int) < (l36 : Nat)))
 (AddrK o1 fun b37 =>
 ∃ (a38 : Option Addr) (l38 : Nat) (c38 : Nat), w33.cell? (b37.add 11) = some (.slice a38 l38 c38) ∧
 ((0 ≤ (x34 : Int) ∧ (x34 : Int) < (l38 : Nat)) ∧
 AddrK a38 fun b39 =>
 ∃ (x40 : Int), w33.cell? ((b39.add ((x34 : Int).toNat * 8)).add 3) = some (.int .i64 x40) ∧
 (BoolK ((x40 : Int) == IntKind.wrap .i64 (x6 + 1))
 (AddrK o1 fun b41 =>
 ∃ (a42 : Option Addr) (l42 : Nat) (c42 : Nat), w33.cell? (b41.add 11) = some (.slice a42 l42 c42) ∧
 ((0 ≤ (x34 : Int) ∧ (x34 : Int) < (l42 : Nat)) ∧
 AddrK a42 fun b43 =>
 ∃ (x44 : Int), w33.cell? ((b43.add ((x34 : Int).toNat * 8)).add 4) = some (.int .i64 x44) ∧
 (BoolK (decide ((x44 : Int) > 0))
 (K false w33)
 (I31 (IntKind.wrap .i64 (x34 + 1)) w33 ∧ μ32 (IntKind.wrap .i64 (x34 + 1)) w33 < μ32 x34 w33))))
 (I31 (IntKind.wrap .i64 (x34 + 1)) w33 ∧ μ32 (IntKind.wrap .i64 (x34 + 1)) w33 < μ32 x34 w33))))
 (∃ (I45 : Int → World → Prop) (μ46 : Int → World → Nat),
 (I45 0 w33 ∧ True) ∧
 ∀ (w47 : World) (x48 : Int), I45 x48 w47 →
 AddrK o1 fun b49 =>
 ∃ (a50 : Option Addr) (l50 : Nat) (c50 : Nat), w47.cell? (b49.add 4) = some (.slice a50 l50 c50) ∧
 (BoolK (decide ((x48 : Int) < (l50 : Nat)))
 ((0 ≤ (x48 : Int) ∧ (x48 : Int) < (l2 : Nat)) ∧
 AddrK a2 fun b51 =>
 ∃ (p52 : Bool), w47.cell? (b51.add ((x48 : Int).toNat * 1)) = some (.bool p52) ∧
 (BoolK (!p52)
 (AddrK o1 fun b53 =>
 ∃ (a54 : Option Addr) (l54 : Nat) (c54 : Nat), w47.cell? (b53.add 4) = some (.slice a54 l54 c54) ∧
 ((0 ≤ (x48 : Int) ∧ (x48 : Int) < (l54 : Nat)) ∧
 AddrK a54 fun b55 =>
 ∃ (p56 : Bool), w47.cell? ((b55.add ((x48 : Int).toNat * 7)).add 5) = some (.bool p56) ∧
 (BoolK (!p56)
 (AddrK o1 fun b57 =>
 ∃ (a58 : Option Addr) (l58 : Nat) (c58 : Nat), w47.cell? (b57.add 4) = some (.slice a58 l58 c58) ∧
 ((0 ≤ (x48 : Int) ∧ (x48 : Int) < (l58 : Nat)) ∧
 AddrK a58 fun b59 =>
 ∃ (a60 : Option Addr) (l60 : Nat) (c60 : Nat), w47.cell? ((b59.add ((x48 : Int).toNat * 7)).add 6) = some (.slice a60 l60 c60) ∧
 (Calls Tryz.prog 69 #[(.slice a60 l60 c60), (.int .i64 (IntKind.wrap .i64 (x6 + 1)))] w47 fun e63 w62 =>
 ∃ (p61 : Bool), e63 = .returned (.bool p61) ∧
 (BoolK p61
 (K false w62)
 (I45 (IntKind.wrap .i64 (x48 + 1)) w62 ∧ μ46 (IntKind.wrap .i64 (x48 + 1)) w62 < μ46 x48 w47)))))
 (I45 (IntKind.wrap .i64 (x48 + 1)) w47 ∧ μ46 (IntKind.wrap .i64 (x48 + 1)) w47 < μ46 x48 w47))))
 (I45 (IntKind.wrap .i64 (x48 + 1)) w47 ∧ μ46 (IntKind.wrap .i64 (x48 + 1)) w47 < μ46 x48 w47)))
 (∃ (I64 : Int → World → Prop) (μ65 : Int → World → Nat),
 (I64 0 w47 ∧ True) ∧
 ∀ (w66 : World) (x67 : Int), I64 x67 w66 →
 AddrK o1 fun b68 =>
 ∃ (x69 : Int), w66.cell? b68 = some (.int .i64 x69) ∧
 (BoolK (decide ((x67 : Int) < x69))
 (AddrK o1 fun b70 =>
 ∃ (a71 : Option Addr) (l71 : Nat) (c71 : Nat), w66.cell? (b70.add 5) = some (.slice a71 l71 c71) ∧
 ((0 ≤ (x67 : Int) ∧ (x67 : Int) < (l71 : Nat)) ∧
 AddrK a71 fun b72 =>
 ∃ (a73 : Option Addr) (l73 : Nat) (c73 : Nat), w66.cell? (b72.add ((x67 : Int).toNat * 1)) = some (.slice a73 l73 c73) ∧
 ((0 ≤ (x6 : Int) ∧ (x6 : Int) < (l73 : Nat)) ∧
 AddrK a73 fun b74 =>
 ∃ (x75 : Int), w66.cell? (b74.add ((x6 : Int).toNat * 1)) = some (.int .i64 x75) ∧
 (BoolK (decide ((x75 : Int) > 0))
 (Calls Tryz.prog 67 #[(.pointer o1), (.int .i64 x67), (.int .i64 (IntKind.wrap .i64 (x6 + 1)))] w66 fun e78 w77 =>
 ∃ (p76 : Bool), e78 = .returned (.bool p76) ∧
 (BoolK (!p76)
 (K false w77)
 (I64 (IntKind.wrap .i64 (x67 + 1)) w77 ∧ μ65 (IntKind.wrap .i64 (x67 + 1)) w77 < μ65 x67 w66)))
 (I64 (IntKind.wrap .i64 (x67 + 1)) w66 ∧ μ65 (IntKind.wrap .i64 (x67 + 1)) w66 < μ65 x67 w66)))))
 (I3 (IntKind.wrap .i64 (x6 + 1)) w66 ∧ μ4 (IntKind.wrap .i64 (x6 + 1)) w66 < μ4 x6 w5)))))))))))))))))))))))
 (K true w5)
def ann85 : Ann := (.two .nil (.two (.two .nil (.one (.loop [(5, (.one (.int .i64)))] [0, 1] (.two (.two .nil (.two .nil .nil)) (.two (.one (.two (.two .nil (.two .nil .nil)) (.two .nil (.two (.two .nil (.two (.two .nil .nil) .nil)) (.two (.two .nil (.one (.loop [(7, (.one (.int .i64)))] [0, 1, 5] (.two (.two .nil (.two .nil .nil)) (.two (.one (.two .nil (.two (.two .nil .nil) .nil))) .nil))))) (.two (.two .nil (.one (.loop [(8, (.one (.int .i64)))] [0, 1, 5] (.two (.two .nil (.two .nil .nil)) (.two (.one (.two .nil (.two (.two .nil .nil) .nil))) .nil))))) (.two .nil (.one (.loop [(9, (.one (.int .i64)))] [0, 1, 5] (.two (.two .nil (.two .nil .nil)) (.two (.one (.two .nil (.two (.two .nil .nil) .nil))) .nil))))))))))) .nil))))) (.two .nil .nil)))
noncomputable def code85 : Code := match Tryz.f85.body with | some c => c | none => .skip
theorem wp85 (o1 : Option Addr) (a2 : Option Addr) (l2 : Nat) (c2 : Nat) (K : Bool → World → Prop) (w : World) : WP Tryz.prog tab code85 ann85 (fnQ tab Tryz.f85.results.toList [(.one .bool)] K) (argE 0 [(.pointer o1), (.slice a2 l2 c2)]) w = N85 o1 a2 l2 c2 K w := by kernel_rfl
theorem calls85 (o1 : Option Addr) (a2 : Option Addr) (l2 : Nat) (c2 : Nat) (K : Bool → World → Prop) (w : World) (h : N85 o1 a2 l2 c2 K w) : Calls Tryz.prog 85 #[(.pointer o1), (.slice a2 l2 c2)] w fun en w' => ∃ (p79 : Bool), en = .returned (.bool p79) ∧ K p79 w' :=
 have e : (fun en w' => ExShs [(.one .bool)] fun vs => en = .returned (tupled vs) ∧ ap [(.one .bool)] K vs fun p => p w') = (fun (en : Ending) (w' : World) => ∃ (p79 : Bool), en = .returned (.bool p79) ∧ K p79 w') := by kernel_rfl
 e ▸ fn_sound tabOk mixed Tryz.func85 (by kernel_rfl : Tryz.f85.body = some code85) ann85 [(.pointer o1), (.slice a2 l2 c2)] [(.one .bool)] K w (by kernel_rfl) ((wp85 o1 a2 l2 c2 K w).symm ▸ h)
end Go.Proofs.YtgggbmikmmljcaaGreat

namespace Go.Proofs.YtgggbmikmmljcaaGreat
open Go Go.V Go.Proofs
open Go.RowKit (Below)
/-! (*manystrand/manystrandref27.Count).Cycles -/
def N42 (o1 : Option Addr) (K : Option Addr → Nat → Nat → World → Prop) (w : World) : Prop :=
 AddrK o1 fun b2 =>
 ∃ (a3 : Option Addr) (l3 : Nat) (c3 : Nat), w.cell? (b2.add 4) = some (.slice a3 l3 c3) ∧
 ((0 ≤ ((l3 : Nat) : Int) ∧ ((l3 : Nat) : Int) ≤ (l3 : Nat) ∧ ((1 : Nat) : Int) * (l3 : Nat) ≤ 281474976710656 ∧ ((l3 : Nat) : Int) ≤ 9223372036854775807) ∧
 AllocK w (madeCells (#[.bool false]) (((l3 : Nat) : Int).toNat * 1)) 4 fun b4 w5 =>
 ∃ (I6 : Option Addr → Nat → Nat → Int → World → Prop) (μ7 : Option Addr → Nat → Nat → Int → World → Nat),
 (I6 none 0 0 0 w5 ∧ True) ∧
 ∀ (w8 : World) (a9 : Option Addr) (l9 : Nat) (c9 : Nat) (x10 : Int), I6 a9 l9 c9 x10 w8 →
 AddrK o1 fun b11 =>
 ∃ (a12 : Option Addr) (l12 : Nat) (c12 : Nat), w8.cell? (b11.add 4) = some (.slice a12 l12 c12) ∧
 (BoolK (decide ((x10 : Int) < (l12 : Nat)))
 (Calls Tryz.prog 84 #[(.pointer o1), (.int .i64 (IntKind.wrap .i64 (x10 + 1)))] w8 fun e15 w14 =>
 ∃ (a13 : Option Addr), ∃ (l13 : Nat), ∃ (c13 : Nat), e15 = .returned (.slice a13 l13 c13) ∧
 ((0 ≤ (x10 : Int) ∧ (x10 : Int) < (((l3 : Nat) : Int).toNat : Nat)) ∧
 ∃ (p16 : Bool), w14.cell? (b4.add ((x10 : Int).toNat * 1)) = some (.bool p16) ∧
 (BoolK p16
 (I6 a9 l9 c9 (IntKind.wrap .i64 (x10 + 1)) w14 ∧ μ7 a9 l9 c9 (IntKind.wrap .i64 (x10 + 1)) w14 < μ7 a9 l9 c9 x10 w8)
 ((0 ≤ (x10 : Int) ∧ (x10 : Int) < (l13 : Nat)) ∧
 AddrK a13 fun b17 =>
 ∃ (p18 : Bool), w14.cell? (b17.add ((x10 : Int).toNat * 1)) = some (.bool p18) ∧
 (BoolK (!p18)
 (I6 a9 l9 c9 (IntKind.wrap .i64 (x10 + 1)) w14 ∧ μ7 a9 l9 c9 (IntKind.wrap .i64 (x10 + 1)) w14 < μ7 a9 l9 c9 x10 w8)
 (AddrK o1 fun b19 =>
 ∃ (a20 : Option Addr) (l20 : Nat) (c20 : Nat), w14.cell? (b19.add 4) = some (.slice a20 l20 c20) ∧
 ((0 ≤ ((l20 : Nat) : Int) ∧ ((l20 : Nat) : Int) ≤ (l20 : Nat) ∧ ((1 : Nat) : Int) * (l20 : Nat) ≤ 281474976710656 ∧ ((l20 : Nat) : Int) ≤ 9223372036854775807) ∧
 AllocK w14 (madeCells (#[.bool false]) (((l20 : Nat) : Int).toNat * 1)) 4 fun b21 w22 =>
 ∃ (I23 : Option Addr → Nat → Nat → Int → World → Prop) (μ24 : Option Addr → Nat → Nat → Int → World → Nat),
 (I23 none 0 0 x10 w22 ∧ True) ∧
 ∀ (w25 : World) (a26 : Option Addr) (l26 : Nat) (c26 : Nat) (x27 : Int), I23 a26 l26 c26 x27 w25 →
 AddrK o1 fun b28 =>
 ∃ (a29 : Option Addr) (l29 : Nat) (c29 : Nat), w25.cell? (b28.add 4) = some (.slice a29 l29 c29) ∧
 (BoolK (decide ((x27 : Int) < (l29 : Nat)))
 (∃ (J30 : Bool → World → Prop),
 (∀ (w31 : World) (p32 : Bool), J30 p32 w31 →
 BoolK p32
 ((0 ≤ (x27 : Int) ∧ (x27 : Int) < (((l20 : Nat) : Int).toNat : Nat)) ∧
 SetK w31 (b21.add ((x27 : Int).toNat * 1)) (.bool true) fun w33 =>
 (0 ≤ (x27 : Int) ∧ (x27 : Int) < (((l3 : Nat) : Int).toNat : Nat)) ∧
 SetK w33 (b4.add ((x27 : Int).toNat * 1)) (.bool true) fun w34 =>
 AllocK w34 (#[(.int .i64 (IntKind.wrap .i64 (x27 + 1)))]) 3 fun b35 w36 =>
 ∃ (a37 : Option Addr), ∃ (l37 : Nat), ∃ (c37 : Nat), ∃ (w38 : World), Sem.run Tryz.prog (Builtin.append_ #[43, 43] 43 #[(.slice a26 l26 c26), (.slice (some b35) 1 1)]) w36 = .ok (.slice a37 l37 c37) w38 ∧
 (I23 a37 l37 c37 (IntKind.wrap .i64 (x27 + 1)) w38 ∧ μ24 a37 l37 c37 (IntKind.wrap .i64 (x27 + 1)) w38 < μ24 a26 l26 c26 x27 w25))
 (I23 a26 l26 c26 (IntKind.wrap .i64 (x27 + 1)) w31 ∧ μ24 a26 l26 c26 (IntKind.wrap .i64 (x27 + 1)) w31 < μ24 a26 l26 c26 x27 w25)) ∧
 ((0 ≤ (x27 : Int) ∧ (x27 : Int) < (l13 : Nat)) ∧
 AddrK a13 fun b39 =>
 ∃ (p40 : Bool), w25.cell? (b39.add ((x27 : Int).toNat * 1)) = some (.bool p40) ∧
 (BoolK p40
 (Calls Tryz.prog 84 #[(.pointer o1), (.int .i64 (IntKind.wrap .i64 (x27 + 1)))] w25 fun e43 w42 =>
 ∃ (a41 : Option Addr), ∃ (l41 : Nat), ∃ (c41 : Nat), e43 = .returned (.slice a41 l41 c41) ∧
 ((0 ≤ (x10 : Int) ∧ (x10 : Int) < (l41 : Nat)) ∧
 AddrK a41 fun b44 =>
 ∃ (p45 : Bool), w42.cell? (b44.add ((x10 : Int).toNat * 1)) = some (.bool p45) ∧
 (J30 p45 w42)))
 (J30 false w25))))
 (Calls Tryz.prog 85 #[(.pointer o1), (.slice (some b21) (((l20 : Nat) : Int).toNat) (((l20 : Nat) : Int).toNat))] w25 fun e48 w47 =>
 ∃ (p46 : Bool), e48 = .returned (.bool p46) ∧
 (BoolK p46
 (AllocK w47 (#[(.slice a26 l26 c26)]) 43 fun b49 w50 =>
 ∃ (a51 : Option Addr), ∃ (l51 : Nat), ∃ (c51 : Nat), ∃ (w52 : World), Sem.run Tryz.prog (Builtin.append_ #[45, 45] 45 #[(.slice a9 l9 c9), (.slice (some b49) 1 1)]) w50 = .ok (.slice a51 l51 c51) w52 ∧
 (I6 a51 l51 c51 (IntKind.wrap .i64 (x10 + 1)) w52 ∧ μ7 a51 l51 c51 (IntKind.wrap .i64 (x10 + 1)) w52 < μ7 a9 l9 c9 x10 w8))
 (I6 a9 l9 c9 (IntKind.wrap .i64 (x10 + 1)) w47 ∧ μ7 a9 l9 c9 (IntKind.wrap .i64 (x10 + 1)) w47 < μ7 a9 l9 c9 x10 w8)))))))))))
 (K a9 l9 c9 w8)))
def ann42 : Ann := (.two .nil (.two .nil (.two .nil (.two (.two .nil (.one (.loop [(3, (.one .slice)), (5, (.one (.int .i64)))] [0, 4] (.two (.two .nil (.two .nil .nil)) (.two (.one (.two .nil (.two (.two .nil (.two .nil .nil)) (.two .nil (.two .nil (.two (.two .nil (.one (.loop [(8, (.one .slice)), (9, (.one (.int .i64)))] [0, 3, 4, 5, 6, 7] (.two (.two .nil (.two .nil .nil)) (.two (.one (.cut [(68, (.one .bool))] [0, 3, 4, 5, 6, 7, 8, 9] .nil (.two (.two .nil .nil) .nil))) .nil))))) (.two .nil (.two .nil .nil)))))))) .nil))))) (.two .nil .nil)))))
noncomputable def code42 : Code := match Tryz.f42.body with | some c => c | none => .skip
theorem wp42 (o1 : Option Addr) (K : Option Addr → Nat → Nat → World → Prop) (w : World) : WP Tryz.prog tab code42 ann42 (fnQ tab Tryz.f42.results.toList [(.one .slice)] K) (argE 0 [(.pointer o1)]) w = N42 o1 K w := by kernel_rfl
theorem calls42 (o1 : Option Addr) (K : Option Addr → Nat → Nat → World → Prop) (w : World) (h : N42 o1 K w) : Calls Tryz.prog 42 #[(.pointer o1)] w fun en w' => ∃ (a53 : Option Addr), ∃ (l53 : Nat), ∃ (c53 : Nat), en = .returned (.slice a53 l53 c53) ∧ K a53 l53 c53 w' :=
 have e : (fun en w' => ExShs [(.one .slice)] fun vs => en = .returned (tupled vs) ∧ ap [(.one .slice)] K vs fun p => p w') = (fun (en : Ending) (w' : World) => ∃ (a53 : Option Addr), ∃ (l53 : Nat), ∃ (c53 : Nat), en = .returned (.slice a53 l53 c53) ∧ K a53 l53 c53 w') := by kernel_rfl
 e ▸ fn_sound tabOk mixed Tryz.func42 (by kernel_rfl : Tryz.f42.body = some code42) ann42 [(.pointer o1)] [(.one .slice)] K w (by kernel_rfl) ((wp42 o1 K w).symm ▸ h)
end Go.Proofs.YtgggbmikmmljcaaGreat

namespace Go.Proofs.YtgggbmikmmljcaaGreat
open Go Go.V Go.Proofs
open Go.RowKit (Below)
section
variable {κ κ' κ1 κ2 : Ka RK} {N N' : Prm} {r : Rb} {w w' : World}
theorem c84 (h : RR κ N r w) {x : Int} (hT : N.isT x) : Calls Tryz.prog 84 #[rp r, .int .i64 x] w fun en w' => ∃ a l c, en = .returned (.slice a l c) ∧ ∃ κ' b D, RR κ' N r w' ∧ PkR κ κ' w w' ∧ a = some ⟨b, 0, none⟩ ∧ l = N.n ∧ D.length = N.n ∧ Blk w' b (bools D) 4 ∧ w.heap.size ≤ b ∧ κ' b = none := by
  refine calls84 _ _ (fun a l c w' => ∃ κ' b D, RR κ' N r w' ∧ PkR κ κ' w w' ∧ a = some ⟨b, 0, none⟩ ∧ l = N.n ∧ D.length = N.n ∧ Blk w' b (bools D) 4 ∧ w.heap.size ≤ b ∧ κ' b = none) w ?_
  obtain ⟨ln, -, -, lh, -⟩ := h.ln
  obtain ⟨a4, c4, hc4, hs4⟩ := h.c4
  refine ⟨_, _, _, hc4, ⟨by omega, by omega, by omega, by omega⟩, AllocK.mk fun b w6 hb hB hx6 => ?_⟩
  rw [Int.toNat_natCast, made_bools] at hB
  have h6 := h.ext hx6
  have hbn : κ b = none := h.fresh (by omega)
  refine AllocK.mk fun b7 w8 hb7 hB7 hx8 => ?_
  have h8 := h6.ext hx8
  obtain ⟨a10, c10, hc10, hs10⟩ := h8.c4
  obtain ⟨e, i1, i2⟩ := Prm.sub hT ln
  rw [e]
  obtain ⟨g, o, m, u, own, out, last, f1, f2, f3, ha, hl, hc', rfl, hkg, hSo, hsl, hle, _, _, _, _, _, _, _, _, c6⟩ := h8.thAt hs10 (x := x - 1) i1 i2
  refine ⟨_, _, _, hc10, ⟨i1, i2⟩, _, _, _, c6, ?_⟩
  have hb6 := hB.lt
  obtain ⟨a13, c13, w14, κ1, q1, q2, q3, q4, q5⟩ := Sl.copy (ty := 43) (okR N r) rsltX h6.ty hx8 hB7 (by omega) hsl (by omega)
  refine ⟨a13, _, c13, w14, q1, ?_⟩
  have h14 : RR κ1 N r w14 := h6.same (q5 NT) q2
  have p14 : PkR κ κ1 w w14 := (h.pkExt hx6).trans (q5 NT)
  have hB14 := (hB.ext hx8).ext q4
  have hb1 : κ1 b = none := (q5 NT).free b hb6 hbn
  have hnh : N.n * (N.h + 1) ≤ 1001000 := Nat.le_trans (Nat.mul_le_mul ln (Nat.succ_le_succ lh)) (by decide)
  have cnt0 : cntF (List.replicate N.n false) = N.n := by simp [cntF, List.countP_replicate]
  simp only [Int.toNat_natCast]
  refine ⟨fun a l c w' => ∃ κ2 D, RR κ2 N r w' ∧ PkR κ κ2 w w' ∧ Sl Kr κ2 .idx (a, l, c) ∧ D.length = N.n ∧ Blk w' b (bools D) 4 ∧ κ2 b = none ∧ cntF D * (N.h + 1) + l ≤ 1001000 + N.h, fun _ l _ w' => cntF (decB w' b N.n) * (N.h + 1) + l,
    ⟨⟨κ1, _, h14, p14, q3, by simp, hB14, hb1, by rw [cnt0]; omega⟩, trivial⟩, ?_⟩
  rintro w17 a l c ⟨κ2, D, h17, p17, s17, hD, hB17, hb17, hbd⟩
  have d17 := decB_eq hB17
  rw [hD] at d17
  refine BoolK.mk (fun t => ?_) (fun t => ⟨κ2, b, D, h17, p17, rfl, by trivial, hD, hB17, by omega, hb17⟩)
  have t := of_decide_eq_true t
  have hlc := s17.lc
  obtain ⟨g1, o1, n1, u1, _, rfl, hk1, hu1, hc1, y, rfl, hy1, hy2⟩ := h17.el s17 rfl (x := 0) (by omega) t
  obtain ⟨e2, j1, j2⟩ := Prm.sub (N := N) (x := y) ⟨hy1, hy2⟩ ln
  have s2 := s17.cut (lo := 1) (hi := l) (by omega) (Nat.le_refl _)
  refine ⟨⟨by omega, t⟩, y, hc1, by omega, ⟨by show 1 ≤ l; omega, hlc⟩, ?_⟩
  rw [e2]
  refine ⟨⟨by omega, by omega⟩, _, getBool hB17 (i := (y - 1).toNat) (by omega), BoolK.mk (fun tb => ?_) (fun _ => ?_)⟩
  · refine ⟨⟨by omega, by omega⟩, setBool hB17 (i := (y - 1).toNat) (by omega) true fun w22 hB22 bu22 => ?_⟩
    have h22 := h17.but bu22 hb17
    have p22 : PkR κ κ2 w w22 := p17.but bu22 (by omega) hbn
    obtain ⟨a24, c24, hc24, hs24⟩ := h22.c4
    obtain ⟨g, o, m, u, own, out, last, f1, f2, f3, ha, hl, hc', rfl, hkg, hSo, hsl2, hle2, _, _, _, _, _, _, _, _, c6⟩ := h22.thAt hs24 (x := y - 1) j1 j2
    refine ⟨_, _, _, hc24, ⟨by omega, by omega⟩, _, _, _, c6, ?_⟩
    obtain ⟨a27, c27, w28, κ3, z1, z2, z3, z4⟩ := Sl.append (ty := 43) (okR N r) rsltX h22.ty s2 hsl2 (by omega)
    refine ⟨a27, _, c27, w28, z1, ?_⟩
    have hB28 := z4.blk hB22 hb17
    have hdec := cntF_set (D := D) (i := (y - 1).toNat) (by rw [List.getElem?_eq_getElem (by omega)]; simpa using tb)
    have hmul := Nat.mul_le_mul_right (N.h + 1) (Nat.succ_le_of_lt hdec)
    rw [Nat.succ_mul] at hmul
    have d28 := decB_eq hB28
    rw [List.length_set, hD] at d28
    refine ⟨⟨κ3, _, h22.same (z4.mono ntX) z2, p22.trans (z4.mono ntX), z3, by simpa using hD, hB28, z4.free b hB22.lt hb17, by omega⟩, ?_⟩
    show cntF (decB w28 b N.n) * (N.h + 1) + (l - 1 + hl) < cntF (decB w17 b N.n) * (N.h + 1) + l
    rw [d17, d28]
    omega
  · refine ⟨⟨κ2, D, h17, p17, s2, hD, hB17, hb17, by show cntF D * (N.h + 1) + (l - 1) ≤ _; omega⟩, ?_⟩
    show _ + (l - 1) < _ + l
    omega
theorem c85 (h : RR κ N r w) {b c : Nat} {D : List Bool} (hB : Blk w b (bools D) 4) (hD : D.length = N.n) : Calls Tryz.prog 85 #[rp r, .slice (some ⟨b, 0, none⟩) N.n c] w fun en w' => ∃ p, en = .returned (.bool p) ∧ Ext w w' := by
  refine calls85 _ _ _ _ (fun _ w' => Ext w w') w ?_
  obtain ⟨ln, -, -, lh, lf⟩ := h.ln
  have ls := h.ls
  refine ⟨fun x w' => ∃ k : Nat, x = k ∧ k ≤ N.n ∧ Ext w w', fun x _ => N.n - x.toNat, ⟨⟨0, rfl, Nat.zero_le _, Ext.refl _⟩, trivial⟩, ?_⟩
  rintro w5 _ ⟨k, rfl, hk, hx5⟩
  refine BoolK.mk (fun t => ?_) (fun t => hx5)
  have t := of_decide_eq_true t
  have e : IntKind.wrap .i64 ((k : Int) + 1) = ((k + 1 : Nat) : Int) := wrap_succ (by omega)
  rw [e]
  have go : ∀ {w2 : World}, Ext w w2 → (∃ k2 : Nat, ((k + 1 : Nat) : Int) = k2 ∧ k2 ≤ N.n ∧ Ext w w2) ∧ N.n - (((k + 1 : Nat) : Int)).toNat < N.n - (k : Int).toNat := fun hx2 => ⟨⟨k + 1, rfl, by omega, hx2⟩, by simp; omega⟩
  refine ⟨⟨by omega, t⟩, _, getBool (hB.ext hx5) (i := (k : Int).toNat) (by simp; omega), BoolK.mk (fun _ => go hx5) (fun _ => ?_)⟩
  have h5 := h.ext hx5
  obtain ⟨a4, c4, hc4, hs4⟩ := h5.c4
  obtain ⟨g, o, m, u, own, out, last, f1, f2, f3, ha, hl, hc', rfl, hk2, hS, hsl, hle, _, _, c0, c1, c2, c3, c4', c5, c6⟩ := h5.thAt hs4 (x := k) (by omega) t
  refine ⟨_, _, _, hc4, ⟨by omega, t⟩, own, c0, out, c1, last, c2, f1, c3, f2, c4', f3, c5, _, _, _, c6, ?_⟩
  refine AllocK.mk fun bb w35 hbb hBB hx35 => ?_
  simp only [add_mk, Nat.zero_add]
  refine SetK.mk hBB (by simp) fun w36 hBB bu1 => SetK.mk hBB (by simp) fun w37 hBB bu2 => SetK.mk hBB (by simp) fun w38 hBB bu3 => SetK.mk hBB (by simp) fun w39 hBB bu4 => SetK.mk hBB (by simp) fun w40 hBB bu5 => SetK.mk hBB (by simp) fun w41 hBB bu6 => SetK.mk hBB (by simp) fun w27 hBB bu7 => ?_
  have hBB : Blk w27 bb #[.int .i64 own, .int .i64 out, .int .i64 last, .bool f1, .bool f2, .bool f3, .slice ha hl hc'] _ := hBB
  have bu := (((((bu1.trans bu2).trans bu3).trans bu4).trans bu5).trans bu6).trans bu7
  have hx27 : Ext w w27 := hx5.trans (bu.below hx35 (by omega))
  have h27 : RR κ N r w27 := h.ext hx27
  have hB27 := hB.ext hx27
  refine ⟨f1, by rw [hBB.cell]; rfl, BoolK.mk (fun _ => hx27) (fun _ => ?_)⟩
  refine ⟨f2, by rw [hBB.cell]; rfl, BoolK.mk (fun _ => hx27) (fun _ => ?_)⟩
  refine ⟨f3, by rw [hBB.cell]; rfl, BoolK.mk (fun _ => hx27) (fun _ => ?_)⟩
  clear c0 c1 c2 c3 c4' c5 c6 hBB bu hc4 hs4
  obtain ⟨a11, l11, c11, hc11, hs11, hl11⟩ := h27.c11
  obtain ⟨a4, c4, hc4, hs4⟩ := h27.c4
  simp only [add_mk, Nat.zero_add] at hc11 hc4
  refine ⟨fun x w' => ∃ j : Nat, x = j ∧ j ≤ N.f ∧ w27 = w', fun x _ => N.f - x.toNat, ⟨⟨0, rfl, Nat.zero_le _, rfl⟩, trivial⟩, ?_⟩
  rintro _ _ ⟨j, rfl, hj, rfl⟩
  refine ⟨_, _, _, hc11, BoolK.mk (fun tj => ?_) (fun _ => ?_)⟩
  · have tj := of_decide_eq_true tj
    have gj : ∀ w2, w27 = w2 → (∃ j2 : Nat, IntKind.wrap .i64 ((j : Int) + 1) = j2 ∧ j2 ≤ N.f ∧ w27 = w2) ∧ N.f - (IntKind.wrap .i64 ((j : Int) + 1)).toNat < N.f - (j : Int).toNat := by
      rintro _ rfl; rw [wrap_succ (by omega)]; exact ⟨⟨j + 1, rfl, by omega, rfl⟩, by simp; omega⟩
    obtain ⟨g, o, p0, p1, s, p3, p4, p5, p6, ga, gl, gc, rfl, o0, o1, o3, d0, d1, d2, d3, d4, d5, d6, d7⟩ := h27.flyAt hs11 (x := j) (by omega) tj
    refine ⟨_, _, _, hc11, ⟨by omega, tj⟩, p3, d3, BoolK.mk (fun _ => ?_) (fun _ => gj _ rfl)⟩
    exact ⟨_, _, _, hc11, ⟨by omega, tj⟩, p4, d4, BoolK.mk (fun _ => hx27) (fun _ => gj _ rfl)⟩
  refine ⟨fun x w' => ∃ j : Nat, x = j ∧ j ≤ N.n ∧ w27 = w', fun x _ => N.n - x.toNat, ⟨⟨0, rfl, Nat.zero_le _, rfl⟩, trivial⟩, ?_⟩
  rintro _ _ ⟨j2, rfl, hj2, rfl⟩
  refine ⟨_, _, _, hc4, BoolK.mk (fun tj => ?_) (fun _ => ?_)⟩
  · have tj := of_decide_eq_true tj
    have gj : ∀ w2, w27 = w2 → (∃ j3 : Nat, IntKind.wrap .i64 ((j2 : Int) + 1) = j3 ∧ j3 ≤ N.n ∧ w27 = w2) ∧ N.n - (IntKind.wrap .i64 ((j2 : Int) + 1)).toNat < N.n - (j2 : Int).toNat := by
      rintro _ rfl; rw [wrap_succ (by omega)]; exact ⟨⟨j2 + 1, rfl, by omega, rfl⟩, by simp; omega⟩
    obtain ⟨g, o, m, u, own, out, last, f1, f2, f3, ha, hl, hc', rfl, hk2, hS, hsl, hle, _, _, c0, c1, c2, c3, c4', c5, c6⟩ := h27.thAt hs4 (x := j2) (by omega) tj
    have gb := getBool hB27 (i := (j2 : Int).toNat) (by simp; omega)
    refine ⟨⟨by omega, tj⟩, _, gb, BoolK.mk (fun _ => ?_) (fun _ => gj _ rfl)⟩
    refine ⟨_, _, _, hc4, ⟨by omega, tj⟩, f3, c5, BoolK.mk (fun _ => ?_) (fun _ => gj _ rfl)⟩
    refine ⟨_, _, _, hc4, ⟨by omega, tj⟩, _, _, _, c6, (c69 h27 hsl (.inl rfl) (by omega) _).mono ?_⟩
    rintro en w62 ⟨p, rfl, rfl⟩
    exact ⟨_, rfl, BoolK.mk (fun _ => hx27) (fun _ => gj _ rfl)⟩
  refine ⟨fun x w' => ∃ j : Nat, x = j ∧ j ≤ N.s ∧ w27 = w', fun x _ => N.s - x.toNat, ⟨⟨0, rfl, Nat.zero_le _, rfl⟩, trivial⟩, ?_⟩
  rintro _ _ ⟨j3, rfl, hj3, rfl⟩
  refine ⟨_, h27.c0, BoolK.mk (fun tj => ?_) (fun _ => go hx27)⟩
  have tj := of_decide_eq_true tj
  have gj : ∀ w2, w27 = w2 → (∃ j4 : Nat, IntKind.wrap .i64 ((j3 : Int) + 1) = j4 ∧ j4 ≤ N.s ∧ w27 = w2) ∧ N.s - (IntKind.wrap .i64 ((j3 : Int) + 1)).toNat < N.s - (j3 : Int).toNat := by
    rintro _ rfl; rw [wrap_succ (by omega)]; exact ⟨⟨j3 + 1, rfl, by omega, rfl⟩, by simp; omega⟩
  obtain ⟨a, l, c, h1, h2, h3, _⟩ := h27.tw.at_ (x := j3) (by omega) tj
  refine ⟨_, _, _, h27.c5, ⟨by omega, tj⟩, a, l, c, h1, ⟨by omega, by omega⟩, h27.getI h2 (by omega) (by omega) fun v => BoolK.mk (fun _ => ?_) (fun _ => gj _ rfl)⟩
  refine (c67 h27 _ _).mono ?_
  rintro en w77 ⟨p, rfl, rfl⟩
  exact ⟨_, rfl, BoolK.mk (fun _ => hx27) (fun _ => gj _ rfl)⟩
theorem RR.pushS (h : RR κ N r w) {a : Option Addr} {l c : Nat} (hs : Sl Kr κ .sets (a, l, c)) (hl : l ≤ 2000000) {a2 : Option Addr} {l2 c2 : Nat} (hs2 : Sl Kr κ .ints (a2, l2, c2)) {ty te : Nat} {F : Option Addr → Nat → Nat → World → Prop}
    (f : ∀ a' c' w' κ', RR κ' N r w' → Sl Kr κ' .sets (a', l + 1, c') → PkR κ κ' w w' → F a' (l + 1) c' w') :
    AllocK w #[.slice a2 l2 c2] te fun b w1 => ∃ a' l' c' w2, Sem.run Tryz.prog (Builtin.append_ #[45, 45] ty #[.slice a l c, .slice (some b) 1 1]) w1 = .ok (.slice a' l' c') w2 ∧ F a' l' c' w2 := by
  refine Sl.push (okR N r) rsltS h.ty hs rfl (fun j v hj => ?_) (by omega) fun a' c' w2 κ2 ht hs' p => ?_
  · match j with
    | 0 => cases hj; exact ⟨_, _, _, rfl, hs2⟩
    | j + 1 => cases hj
  · have p : PkR κ κ2 w w2 := p.mono (by rintro _ rfl; simp [NT])
    exact f a' c' w2 κ2 (h.same p ht) hs' p
theorem c42 (h : RR κ N r w) : Calls Tryz.prog 42 #[rp r] w fun en w' => ∃ a l c, en = .returned (.slice a l c) ∧ ∃ κ', RR κ' N r w' ∧ PkR κ κ' w w' ∧ Sl Kr κ' .sets (a, l, c) ∧ l ≤ N.n := by
  refine calls42 _ (fun a l c w' => ∃ κ', RR κ' N r w' ∧ PkR κ κ' w w' ∧ Sl Kr κ' .sets (a, l, c) ∧ l ≤ N.n) w ?_
  obtain ⟨ln, -, -, lh, -⟩ := h.ln
  obtain ⟨a3, c3, hc3, hs3⟩ := h.c4
  refine ⟨_, _, _, hc3, ⟨by omega, by omega, by omega, by omega⟩, AllocK.mk fun b w5 hb hB hx5 => ?_⟩
  rw [Int.toNat_natCast, made_bools] at hB
  have hbn : κ b = none := h.fresh (by omega)
  simp only [Int.toNat_natCast]
  refine ⟨fun a l c x w' => ∃ κ1 k D, x = (k : Nat) ∧ k ≤ N.n ∧ RR κ1 N r w' ∧ PkR κ κ1 w w' ∧ Sl Kr κ1 .sets (a, l, c) ∧ l ≤ k ∧ D.length = N.n ∧ Blk w' b (bools D) 4 ∧ κ1 b = none, fun _ _ _ x _ => N.n - x.toNat, ⟨⟨κ, 0, _, rfl, Nat.zero_le _, h.ext hx5, h.pkExt hx5, Sl.nil _ _ _, Nat.le_refl _, by simp, hB, hbn⟩, trivial⟩, ?_⟩
  rintro w8 a l c _ ⟨κ1, k, D, rfl, hk, h8, p8, s8, hl, hD, hB8, hb8⟩
  obtain ⟨a12, c12, hc12, hs12⟩ := h8.c4
  refine ⟨_, _, _, hc12, BoolK.mk (fun t => ?_) (fun t => ⟨κ1, h8, p8, s8, by omega⟩)⟩
  have t := of_decide_eq_true t
  have hkn : k < N.n := by omega
  have e : IntKind.wrap .i64 ((k : Int) + 1) = ((k + 1 : Nat) : Int) := wrap_succ (by omega)
  rw [e]
  have go : ∀ {κ2 : Ka RK} {D2 : List Bool} {w2 : World}, RR κ2 N r w2 → PkR κ κ2 w w2 → Sl Kr κ2 .sets (a, l, c) → D2.length = N.n → Blk w2 b (bools D2) 4 → κ2 b = none → (∃ κ1 k2 D, ((k + 1 : Nat) : Int) = (k2 : Nat) ∧ k2 ≤ N.n ∧ RR κ1 N r w2 ∧ PkR κ κ1 w w2 ∧ Sl Kr κ1 .sets (a, l, c) ∧ l ≤ k2 ∧ D.length = N.n ∧ Blk w2 b (bools D) 4 ∧ κ1 b = none) ∧ N.n - (((k + 1 : Nat) : Int)).toNat < N.n - (k : Int).toNat :=
    fun h2 p2 s2 hD2 hB2 hb2 => ⟨⟨_, k + 1, _, rfl, by omega, h2, p2, s2, by omega, hD2, hB2, hb2⟩, by simp; omega⟩
  have lt8 := hB8.lt
  refine (c84 h8 (x := ((k + 1 : Nat) : Int)) ⟨by omega, by omega⟩).mono ?_
  rintro en w14 ⟨a13, l13, c13, rfl, κ2, b2, D2, h14, p14, rfl, rfl, hD2, hB14, hbb2, hb14⟩
  have hBb := p14.blk hB8 hb8
  have hbb := p14.free b lt8 hb8
  have s14 := s8.le p14.le
  have q14 := p8.trans p14
  have kk : ((k : Int)).toNat = k := Int.toNat_natCast k
  refine ⟨_, _, _, rfl, ⟨by omega, t⟩, _, getBool hBb (i := (k : Int).toNat) (by omega), BoolK.mk (fun _ => go h14 q14 s14 hD hBb hbb) (fun _ => ⟨⟨by omega, t⟩, _, getBool hB14 (i := (k : Int).toNat) (by omega), BoolK.mk (fun _ => go h14 q14 s14 hD hBb hbb) (fun _ => ?_)⟩)⟩
  obtain ⟨a20, c20, hc20, hs20⟩ := h14.c4
  refine ⟨_, _, _, hc20, ⟨by omega, by omega, by omega, by omega⟩, ?_⟩
  simp only [Int.toNat_natCast]
  refine AllocK.mk fun b3 w22 hb3 hB22 hx22 => ?_
  rw [made_bools] at hB22
  have h22 := h14.ext hx22
  have hb3n : κ2 b3 = none := h14.fresh (by omega)
  have hltb := hBb.lt
  have hlt2 := hB14.lt
  have sz8 := p8.size
  have sz14 := p14.size
  have hb3k : κ b3 = none := h.fresh (by omega)
  have n32 : b ≠ b3 := by omega
  have n23 : b2 ≠ b3 := by omega
  have n2 : b2 ≠ b := by omega
  refine ⟨fun a l c x w' => ∃ κ3 j D3 D4, x = (j : Nat) ∧ j ≤ N.n ∧ RR κ3 N r w' ∧ PkR κ κ3 w w' ∧ Kle κ2 κ3 ∧ Sl Kr κ3 .ints (a, l, c) ∧ l ≤ j ∧ D3.length = N.n ∧ Blk w' b (bools D3) 4 ∧ κ3 b = none ∧ D4.length = N.n ∧ Blk w' b3 (bools D4) 4 ∧ κ3 b3 = none ∧ Blk w' b2 (bools D2) 4 ∧ κ3 b2 = none,
    fun _ _ _ x _ => N.n - x.toNat, ⟨⟨κ2, k, D, _, rfl, hk, h22, q14.trans (h14.pkExt hx22), Kle.refl _, Sl.nil _ _ _, Nat.zero_le _, hD, hBb.ext hx22, hbb, by simp, hB22, hb3n, hB14.ext hx22, hb14⟩, trivial⟩, ?_⟩
  rintro w25 a26 l26 c26 _ ⟨κ3, j, D3, D4, rfl, hj, h25, p25, le25, s25, hl26, hD3, hB3, hb3', hD4, hB4, hb4', hB2, hb2'⟩
  obtain ⟨a29, c29, hc29, hs29⟩ := h25.c4
  have l3 := hB3.lt
  have l4 := hB4.lt
  have l2 := hB2.lt
  refine ⟨_, _, _, hc29, BoolK.mk (fun tj => ?_) (fun tj => ?_)⟩
  · have tj := of_decide_eq_true tj
    have jj : ((j : Int)).toNat = j := Int.toNat_natCast j
    have e2 : IntKind.wrap .i64 ((j : Int) + 1) = ((j + 1 : Nat) : Int) := wrap_succ (by omega)
    rw [e2]
    have goj : ∀ {κ4 : Ka RK} {D5 D6 : List Bool} {w2 : World} {a : Option Addr} {l c : Nat}, RR κ4 N r w2 → PkR κ κ4 w w2 → Kle κ2 κ4 → Sl Kr κ4 .ints (a, l, c) → l ≤ j + 1 → D5.length = N.n → Blk w2 b (bools D5) 4 → κ4 b = none → D6.length = N.n → Blk w2 b3 (bools D6) 4 → κ4 b3 = none → Blk w2 b2 (bools D2) 4 → κ4 b2 = none →
        (∃ κ3 j2 D3 D4, ((j + 1 : Nat) : Int) = (j2 : Nat) ∧ j2 ≤ N.n ∧ RR κ3 N r w2 ∧ PkR κ κ3 w w2 ∧ Kle κ2 κ3 ∧ Sl Kr κ3 .ints (a, l, c) ∧ l ≤ j2 ∧ D3.length = N.n ∧ Blk w2 b (bools D3) 4 ∧ κ3 b = none ∧ D4.length = N.n ∧ Blk w2 b3 (bools D4) 4 ∧ κ3 b3 = none ∧ Blk w2 b2 (bools D2) 4 ∧ κ3 b2 = none) ∧ N.n - (((j + 1 : Nat) : Int)).toNat < N.n - (j : Int).toNat :=
      fun x1 x2 x0 x3 x4 x5 x6 x7 x8 x9 x10 x11 x12 => ⟨⟨_, j + 1, _, _, rfl, by omega, x1, x2, x0, x3, x4, x5, x6, x7, x8, x9, x10, x11, x12⟩, by simp; omega⟩
    refine ⟨fun _ w' => ∃ κ4, RR κ4 N r w' ∧ PkR κ3 κ4 w25 w', ?_, ?_⟩
    · rintro w31 p32 ⟨κ4, h31, p31⟩
      have hB3 := p31.blk hB3 hb3'
      have hB4 := p31.blk hB4 hb4'
      have hB2 := p31.blk hB2 hb2'
      have f3 := p31.free b l3 hb3'
      have f4 := p31.free b3 l4 hb4'
      have f2 := p31.free b2 l2 hb2'
      have s31 := s25.le p31.le
      have p31' := p25.trans p31
      refine BoolK.mk (fun _ => ?_) (fun _ => goj h31 p31' (le25.trans p31.le) s31 (by omega) hD3 hB3 f3 hD4 hB4 f4 hB2 f2)
      refine ⟨⟨by omega, tj⟩, setBool hB4 (i := (j : Int).toNat) (by omega) true fun w33 hB33 bu33 => ?_⟩
      refine ⟨⟨by omega, tj⟩, setBool (bu33.blk hB3 n32) (i := (j : Int).toNat) (by omega) true fun w34 hB34 bu34 => ?_⟩
      have h34 := (h31.but bu33 f4).but bu34 f3
      have p34 : PkR κ κ4 w w34 := (p31'.but bu33 (by omega) hb3k).but bu34 (by omega) hbn
      refine h34.pushX (k := .ints) (.inr rfl) s31 (by omega) (x := ((j + 1 : Nat) : Int)) ⟨by omega, by omega⟩ fun a37 c37 w38 κ5 h38 s38 p38 => ?_
      have hB33 := bu34.blk hB33 (Ne.symm n32)
      have hB2 := bu34.blk (bu33.blk hB2 n23) n2
      exact goj h38 (p34.trans (p38.mono ntI)) ((le25.trans p31.le).trans p38.le) s38 (by omega) (by simpa using hD3) (p38.blk hB34 f3) (p38.free b hB34.lt f3) (by simpa using hD4) (p38.blk hB33 f4) (p38.free b3 hB33.lt f4) (p38.blk hB2 f2) (p38.free b2 hB2.lt f2)
    · refine ⟨⟨by omega, tj⟩, _, getBool hB2 (i := (j : Int).toNat) (by omega), BoolK.mk (fun _ => ?_) (fun _ => ⟨κ3, h25, Pk.refl _ _ _⟩)⟩
      refine (c84 h25 (x := ((j + 1 : Nat) : Int)) ⟨by omega, by omega⟩).mono ?_
      rintro en w42 ⟨a41, l41, c41, rfl, κ4, b5, D5, h42, p42, rfl, rfl, hD5, hB42, _, _⟩
      exact ⟨_, _, _, rfl, ⟨by omega, t⟩, _, getBool hB42 (i := (k : Int).toNat) (by omega), κ4, h42, p42⟩
  · refine (c85 h25 hB4 hD4).mono ?_
    rintro en w47 ⟨p46, rfl, hx47⟩
    have h47 := h25.ext hx47
    have p47 := p25.trans (h25.pkExt hx47)
    have s47 := s14.le le25
    refine ⟨_, rfl, BoolK.mk (fun _ => ?_) (fun _ => go h47 p47 s47 hD3 (hB3.ext hx47) hb3')⟩
    refine h47.pushS s47 (by omega) s25 fun a51 c51 w52 κ5 h52 s52 p52 => ?_
    exact ⟨⟨κ5, k + 1, D3, rfl, by omega, h52, p47.trans p52, s52, by omega, hD3, p52.blk (hB3.ext hx47) hb3', p52.free b (hB3.ext hx47).lt hb3'⟩, by first | omega | (simp; omega)⟩
end
end Go.Proofs.YtgggbmikmmljcaaGreat
