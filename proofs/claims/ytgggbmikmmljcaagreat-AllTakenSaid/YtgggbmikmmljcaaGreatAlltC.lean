/- A part of the proof: plain forms of functions and laws about them. -/
import Derived.Test.YtgggbmikmmljcaaGreatAlltB
import Derived.Shelf.Sort.Plain
import Derived.Shelf.Slices.In.SortNone
namespace Go.Proofs.YtgggbmikmmljcaaGreat
open Go Go.V Go.Proofs
open Go.RowKit (Below)
/-! (*manystrand/count.Count).remove -/
def N47 (o1 : Option Addr) (x2 : Int) (K : Int → Int → ByteArray → Int → Int → Int → Int → Option Addr → Nat → Nat → Int → World → Prop) (w : World) : Prop :=
 AllocK w (#[.int .i64 0, .int .i64 0, .string ⟨#[]⟩, .int .i64 0, .int .i64 0, .int .i64 0, .int .i64 0, .slice none 0 0]) 40 fun b3 w4 =>
 Calls Tryz.prog 21 #[(.pointer o1)] w4 fun e7 w6 =>
 ∃ (p5 : Bool), e7 = .returned (.bool p5) ∧
 (BoolK p5
 (SetK w6 (b3.add 0) (.int .i64 0) fun w8 =>
 SetK w8 (b3.add 1) (.int .i64 0) fun w9 =>
 SetK w9 (b3.add 2) (.string (⟨#[]⟩ : ByteArray)) fun w10 =>
 SetK w10 (b3.add 3) (.int .i64 0) fun w11 =>
 SetK w11 (b3.add 4) (.int .i64 0) fun w12 =>
 SetK w12 (b3.add 5) (.int .i64 0) fun w13 =>
 SetK w13 (b3.add 6) (.int .i64 0) fun w14 =>
 SetK w14 (b3.add 7) (.slice none 0 0) fun w15 =>
 ∃ (x16 : Int), w15.cell? (b3.add 0) = some (.int .i64 x16) ∧
 (∃ (x17 : Int), w15.cell? (b3.add 1) = some (.int .i64 x17) ∧
 (∃ (s18 : ByteArray), w15.cell? (b3.add 2) = some (.string s18) ∧
 (∃ (x19 : Int), w15.cell? (b3.add 3) = some (.int .i64 x19) ∧
 (∃ (x20 : Int), w15.cell? (b3.add 4) = some (.int .i64 x20) ∧
 (∃ (x21 : Int), w15.cell? (b3.add 5) = some (.int .i64 x21) ∧
 (∃ (x22 : Int), w15.cell? (b3.add 6) = some (.int .i64 x22) ∧
 (∃ (a23 : Option Addr) (l23 : Nat) (c23 : Nat), w15.cell? (b3.add 7) = some (.slice a23 l23 c23) ∧
 (K x16 x17 s18 x19 x20 x21 x22 a23 l23 c23 7 w15)))))))))
 (BoolK (decide ((x2 : Int) < 0))
 (SetK w6 (b3.add 0) (.int .i64 0) fun w24 =>
 SetK w24 (b3.add 1) (.int .i64 0) fun w25 =>
 SetK w25 (b3.add 2) (.string (⟨#[]⟩ : ByteArray)) fun w26 =>
 SetK w26 (b3.add 3) (.int .i64 0) fun w27 =>
 SetK w27 (b3.add 4) (.int .i64 0) fun w28 =>
 SetK w28 (b3.add 5) (.int .i64 0) fun w29 =>
 SetK w29 (b3.add 6) (.int .i64 0) fun w30 =>
 SetK w30 (b3.add 7) (.slice none 0 0) fun w31 =>
 ∃ (x32 : Int), w31.cell? (b3.add 0) = some (.int .i64 x32) ∧
 (∃ (x33 : Int), w31.cell? (b3.add 1) = some (.int .i64 x33) ∧
 (∃ (s34 : ByteArray), w31.cell? (b3.add 2) = some (.string s34) ∧
 (∃ (x35 : Int), w31.cell? (b3.add 3) = some (.int .i64 x35) ∧
 (∃ (x36 : Int), w31.cell? (b3.add 4) = some (.int .i64 x36) ∧
 (∃ (x37 : Int), w31.cell? (b3.add 5) = some (.int .i64 x37) ∧
 (∃ (x38 : Int), w31.cell? (b3.add 6) = some (.int .i64 x38) ∧
 (∃ (a39 : Option Addr) (l39 : Nat) (c39 : Nat), w31.cell? (b3.add 7) = some (.slice a39 l39 c39) ∧
 (K x32 x33 s34 x35 x36 x37 x38 a39 l39 c39 2 w31)))))))))
 (AddrK o1 fun b40 =>
 ∃ (a41 : Option Addr) (l41 : Nat) (c41 : Nat), w6.cell? (b40.add 11) = some (.slice a41 l41 c41) ∧
 (BoolK (decide ((x2 : Int) ≥ (l41 : Nat)))
 (SetK w6 (b3.add 0) (.int .i64 0) fun w42 =>
 SetK w42 (b3.add 1) (.int .i64 0) fun w43 =>
 SetK w43 (b3.add 2) (.string (⟨#[]⟩ : ByteArray)) fun w44 =>
 SetK w44 (b3.add 3) (.int .i64 0) fun w45 =>
 SetK w45 (b3.add 4) (.int .i64 0) fun w46 =>
 SetK w46 (b3.add 5) (.int .i64 0) fun w47 =>
 SetK w47 (b3.add 6) (.int .i64 0) fun w48 =>
 SetK w48 (b3.add 7) (.slice none 0 0) fun w49 =>
 ∃ (x50 : Int), w49.cell? (b3.add 0) = some (.int .i64 x50) ∧
 (∃ (x51 : Int), w49.cell? (b3.add 1) = some (.int .i64 x51) ∧
 (∃ (s52 : ByteArray), w49.cell? (b3.add 2) = some (.string s52) ∧
 (∃ (x53 : Int), w49.cell? (b3.add 3) = some (.int .i64 x53) ∧
 (∃ (x54 : Int), w49.cell? (b3.add 4) = some (.int .i64 x54) ∧
 (∃ (x55 : Int), w49.cell? (b3.add 5) = some (.int .i64 x55) ∧
 (∃ (x56 : Int), w49.cell? (b3.add 6) = some (.int .i64 x56) ∧
 (∃ (a57 : Option Addr) (l57 : Nat) (c57 : Nat), w49.cell? (b3.add 7) = some (.slice a57 l57 c57) ∧
 (K x50 x51 s52 x53 x54 x55 x56 a57 l57 c57 2 w49)))))))))
 (AddrK o1 fun b58 =>
 ∃ (a59 : Option Addr) (l59 : Nat) (c59 : Nat), w6.cell? (b58.add 11) = some (.slice a59 l59 c59) ∧
 ((0 ≤ (x2 : Int) ∧ (x2 : Int) < (l59 : Nat)) ∧
 AddrK a59 fun b60 =>
 ∃ (x61 : Int), w6.cell? ((b60.add ((x2 : Int).toNat * 8)).add 0) = some (.int .i64 x61) ∧
 (∃ (x62 : Int), w6.cell? ((b60.add ((x2 : Int).toNat * 8)).add 1) = some (.int .i64 x62) ∧
 (∃ (s63 : ByteArray), w6.cell? ((b60.add ((x2 : Int).toNat * 8)).add 2) = some (.string s63) ∧
 (∃ (x64 : Int), w6.cell? ((b60.add ((x2 : Int).toNat * 8)).add 3) = some (.int .i64 x64) ∧
 (∃ (x65 : Int), w6.cell? ((b60.add ((x2 : Int).toNat * 8)).add 4) = some (.int .i64 x65) ∧
 (∃ (x66 : Int), w6.cell? ((b60.add ((x2 : Int).toNat * 8)).add 5) = some (.int .i64 x66) ∧
 (∃ (x67 : Int), w6.cell? ((b60.add ((x2 : Int).toNat * 8)).add 6) = some (.int .i64 x67) ∧
 (∃ (a68 : Option Addr) (l68 : Nat) (c68 : Nat), w6.cell? ((b60.add ((x2 : Int).toNat * 8)).add 7) = some (.slice a68 l68 c68) ∧
 (AllocK w6 (#[.int .i64 0, .int .i64 0, .string ⟨#[]⟩, .int .i64 0, .int .i64 0, .int .i64 0, .int .i64 0, .slice none 0 0]) 40 fun b69 w70 =>
 SetK w70 (b69.add 0) (.int .i64 x61) fun w71 =>
 SetK w71 (b69.add 1) (.int .i64 x62) fun w72 =>
 SetK w72 (b69.add 2) (.string s63) fun w73 =>
 SetK w73 (b69.add 3) (.int .i64 x64) fun w74 =>
 SetK w74 (b69.add 4) (.int .i64 x65) fun w75 =>
 SetK w75 (b69.add 5) (.int .i64 x66) fun w76 =>
 SetK w76 (b69.add 6) (.int .i64 x67) fun w77 =>
 SetK w77 (b69.add 7) (.slice a68 l68 c68) fun w78 =>
 AddrK o1 fun b79 =>
 ∃ (a80 : Option Addr) (l80 : Nat) (c80 : Nat), w78.cell? (b79.add 11) = some (.slice a80 l80 c80) ∧
 (Calls Tryz.prog 22 #[(.slice a80 l80 c80)] w78 fun e83 w82 =>
 ∃ (a81 : Option Addr), ∃ (l81 : Nat), ∃ (c81 : Nat), e83 = .returned (.slice a81 l81 c81) ∧
 (Calls Tryz.prog 87 #[(.slice a81 l81 c81), (.int .i64 x2), (.int .i64 (IntKind.wrap .i64 (x2 + 1)))] w82 fun e86 w85 =>
 ∃ (a84 : Option Addr), ∃ (l84 : Nat), ∃ (c84 : Nat), e86 = .returned (.slice a84 l84 c84) ∧
 (AddrK o1 fun b87 =>
 SetK w85 (b87.add 11) (.slice a84 l84 c84) fun w88 =>
 ∃ (x89 : Int), w88.cell? (b69.add 0) = some (.int .i64 x89) ∧
 (∃ (x90 : Int), w88.cell? (b69.add 1) = some (.int .i64 x90) ∧
 (∃ (s91 : ByteArray), w88.cell? (b69.add 2) = some (.string s91) ∧
 (∃ (x92 : Int), w88.cell? (b69.add 3) = some (.int .i64 x92) ∧
 (∃ (x93 : Int), w88.cell? (b69.add 4) = some (.int .i64 x93) ∧
 (∃ (x94 : Int), w88.cell? (b69.add 5) = some (.int .i64 x94) ∧
 (∃ (x95 : Int), w88.cell? (b69.add 6) = some (.int .i64 x95) ∧
 (∃ (a96 : Option Addr) (l96 : Nat) (c96 : Nat), w88.cell? (b69.add 7) = some (.slice a96 l96 c96) ∧
 (SetK w88 (b3.add 0) (.int .i64 x89) fun w97 =>
 SetK w97 (b3.add 1) (.int .i64 x90) fun w98 =>
 SetK w98 (b3.add 2) (.string s91) fun w99 =>
 SetK w99 (b3.add 3) (.int .i64 x92) fun w100 =>
 SetK w100 (b3.add 4) (.int .i64 x93) fun w101 =>
 SetK w101 (b3.add 5) (.int .i64 x94) fun w102 =>
 SetK w102 (b3.add 6) (.int .i64 x95) fun w103 =>
 SetK w103 (b3.add 7) (.slice a96 l96 c96) fun w104 =>
 ∃ (x105 : Int), w104.cell? (b3.add 0) = some (.int .i64 x105) ∧
 (∃ (x106 : Int), w104.cell? (b3.add 1) = some (.int .i64 x106) ∧
 (∃ (s107 : ByteArray), w104.cell? (b3.add 2) = some (.string s107) ∧
 (∃ (x108 : Int), w104.cell? (b3.add 3) = some (.int .i64 x108) ∧
 (∃ (x109 : Int), w104.cell? (b3.add 4) = some (.int .i64 x109) ∧
 (∃ (x110 : Int), w104.cell? (b3.add 5) = some (.int .i64 x110) ∧
 (∃ (x111 : Int), w104.cell? (b3.add 6) = some (.int .i64 x111) ∧
 (∃ (a112 : Option Addr) (l112 : Nat) (c112 : Nat), w104.cell? (b3.add 7) = some (.slice a112 l112 c112) ∧
 (K x105 x106 s107 x108 x109 x110 x111 a112 l112 c112 0 w104)))))))))))))))))))))))))))))))))
def ann47 : Ann := (.two .nil (.two (.two .nil (.two (.two .nil .nil) .nil)) (.two (.two .nil (.two (.two .nil .nil) .nil)) (.two .nil (.two .nil (.two .nil .nil))))))
noncomputable def code47 : Code := match Tryz.f47.body with | some c => c | none => .skip
theorem wp47 (o1 : Option Addr) (x2 : Int) (K : Int → Int → ByteArray → Int → Int → Int → Int → Option Addr → Nat → Nat → Int → World → Prop) (w : World) : WP Tryz.prog tab code47 ann47 (fnQ tab Tryz.f47.results.toList [(.agg [(.int .i64), (.int .i64), .str, (.int .i64), (.int .i64), (.int .i64), (.int .i64), .slice]), (.one (.int .i64))] K) (argE 0 [(.pointer o1), (.int .i64 x2)]) w = N47 o1 x2 K w := by kernel_rfl
theorem calls47 (o1 : Option Addr) (x2 : Int) (K : Int → Int → ByteArray → Int → Int → Int → Int → Option Addr → Nat → Nat → Int → World → Prop) (w : World) (h : N47 o1 x2 K w) : Calls Tryz.prog 47 #[(.pointer o1), (.int .i64 x2)] w fun en w' => ∃ (x113 : Int), ∃ (x114 : Int), ∃ (s115 : ByteArray), ∃ (x116 : Int), ∃ (x117 : Int), ∃ (x118 : Int), ∃ (x119 : Int), ∃ (a120 : Option Addr), ∃ (l120 : Nat), ∃ (c120 : Nat), ∃ (x121 : Int), en = .returned (.tuple #[(.agg #[(.int .i64 x113), (.int .i64 x114), (.string s115), (.int .i64 x116), (.int .i64 x117), (.int .i64 x118), (.int .i64 x119), (.slice a120 l120 c120)]), (.int .i64 x121)]) ∧ K x113 x114 s115 x116 x117 x118 x119 a120 l120 c120 x121 w' :=
 have e : (fun en w' => ExShs [(.agg [(.int .i64), (.int .i64), .str, (.int .i64), (.int .i64), (.int .i64), (.int .i64), .slice]), (.one (.int .i64))] fun vs => en = .returned (tupled vs) ∧ ap [(.agg [(.int .i64), (.int .i64), .str, (.int .i64), (.int .i64), (.int .i64), (.int .i64), .slice]), (.one (.int .i64))] K vs fun p => p w') = (fun (en : Ending) (w' : World) => ∃ (x113 : Int), ∃ (x114 : Int), ∃ (s115 : ByteArray), ∃ (x116 : Int), ∃ (x117 : Int), ∃ (x118 : Int), ∃ (x119 : Int), ∃ (a120 : Option Addr), ∃ (l120 : Nat), ∃ (c120 : Nat), ∃ (x121 : Int), en = .returned (.tuple #[(.agg #[(.int .i64 x113), (.int .i64 x114), (.string s115), (.int .i64 x116), (.int .i64 x117), (.int .i64 x118), (.int .i64 x119), (.slice a120 l120 c120)]), (.int .i64 x121)]) ∧ K x113 x114 s115 x116 x117 x118 x119 a120 l120 c120 x121 w') := by kernel_rfl
 e ▸ fn_sound tabOk mixed Tryz.func47 (by kernel_rfl : Tryz.f47.body = some code47) ann47 [(.pointer o1), (.int .i64 x2)] [(.agg [(.int .i64), (.int .i64), .str, (.int .i64), (.int .i64), (.int .i64), (.int .i64), .slice]), (.one (.int .i64))] K w (by kernel_rfl) ((wp47 o1 x2 K w).symm ▸ h)
end Go.Proofs.YtgggbmikmmljcaaGreat

namespace Go.Proofs.YtgggbmikmmljcaaGreat
open Go Go.V Go.Proofs
open Go.RowKit (Below)
/-! (*manystrand/count.Count).Flying -/
def N8 (o1 : Option Addr) (K : Option Addr → Nat → Nat → World → Prop) (w : World) : Prop :=
 Calls Tryz.prog 21 #[(.pointer o1)] w fun e4 w3 =>
 ∃ (p2 : Bool), e4 = .returned (.bool p2) ∧
 (BoolK p2
 (K none 0 0 w3)
 (AddrK o1 fun b5 =>
 ∃ (a6 : Option Addr) (l6 : Nat) (c6 : Nat), w3.cell? (b5.add 11) = some (.slice a6 l6 c6) ∧
 (Calls Tryz.prog 22 #[(.slice a6 l6 c6)] w3 fun e9 w8 =>
 ∃ (a7 : Option Addr), ∃ (l7 : Nat), ∃ (c7 : Nat), e9 = .returned (.slice a7 l7 c7) ∧
 (K a7 l7 c7 w8))))
def ann8 : Ann := (.two .nil (.two (.two .nil (.two (.two .nil .nil) .nil)) (.two .nil .nil)))
noncomputable def code8 : Code := match Tryz.f8.body with | some c => c | none => .skip
theorem wp8 (o1 : Option Addr) (K : Option Addr → Nat → Nat → World → Prop) (w : World) : WP Tryz.prog tab code8 ann8 (fnQ tab Tryz.f8.results.toList [(.one .slice)] K) (argE 0 [(.pointer o1)]) w = N8 o1 K w := by kernel_rfl
theorem calls8 (o1 : Option Addr) (K : Option Addr → Nat → Nat → World → Prop) (w : World) (h : N8 o1 K w) : Calls Tryz.prog 8 #[(.pointer o1)] w fun en w' => ∃ (a10 : Option Addr), ∃ (l10 : Nat), ∃ (c10 : Nat), en = .returned (.slice a10 l10 c10) ∧ K a10 l10 c10 w' :=
 have e : (fun en w' => ExShs [(.one .slice)] fun vs => en = .returned (tupled vs) ∧ ap [(.one .slice)] K vs fun p => p w') = (fun (en : Ending) (w' : World) => ∃ (a10 : Option Addr), ∃ (l10 : Nat), ∃ (c10 : Nat), en = .returned (.slice a10 l10 c10) ∧ K a10 l10 c10 w') := by kernel_rfl
 e ▸ fn_sound tabOk mixed Tryz.func8 (by kernel_rfl : Tryz.f8.body = some code8) ann8 [(.pointer o1)] [(.one .slice)] K w (by kernel_rfl) ((wp8 o1 K w).symm ▸ h)
end Go.Proofs.YtgggbmikmmljcaaGreat

namespace Go.Proofs.YtgggbmikmmljcaaGreat
open Go Go.V Go.Proofs
open Go.RowKit (Below)
/-! (*manystrand/count.Count).Drops -/
def N33 (o1 : Option Addr) (x2 : Int) (K : Int → World → Prop) (w : World) : Prop :=
 Calls Tryz.prog 47 #[(.pointer o1), (.int .i64 x2)] w fun e13 w12 =>
 ∃ (x3 : Int), ∃ (x4 : Int), ∃ (s5 : ByteArray), ∃ (x6 : Int), ∃ (x7 : Int), ∃ (x8 : Int), ∃ (x9 : Int), ∃ (a10 : Option Addr), ∃ (l10 : Nat), ∃ (c10 : Nat), ∃ (x11 : Int), e13 = .returned (.tuple #[(.agg #[(.int .i64 x3), (.int .i64 x4), (.string s5), (.int .i64 x6), (.int .i64 x7), (.int .i64 x8), (.int .i64 x9), (.slice a10 l10 c10)]), (.int .i64 x11)]) ∧
 (AllocK w12 (#[.int .i64 0, .int .i64 0, .string ⟨#[]⟩, .int .i64 0, .int .i64 0, .int .i64 0, .int .i64 0, .slice none 0 0]) 40 fun b14 w15 =>
 SetK w15 (b14.add 0) (.int .i64 x3) fun w16 =>
 SetK w16 (b14.add 1) (.int .i64 x4) fun w17 =>
 SetK w17 (b14.add 2) (.string s5) fun w18 =>
 SetK w18 (b14.add 3) (.int .i64 x6) fun w19 =>
 SetK w19 (b14.add 4) (.int .i64 x7) fun w20 =>
 SetK w20 (b14.add 5) (.int .i64 x8) fun w21 =>
 SetK w21 (b14.add 6) (.int .i64 x9) fun w22 =>
 SetK w22 (b14.add 7) (.slice a10 l10 c10) fun w23 =>
 K x11 w23)
def ann33 : Ann := (.two .nil (.two .nil (.two .nil .nil)))
noncomputable def code33 : Code := match Tryz.f33.body with | some c => c | none => .skip
theorem wp33 (o1 : Option Addr) (x2 : Int) (K : Int → World → Prop) (w : World) : WP Tryz.prog tab code33 ann33 (fnQ tab Tryz.f33.results.toList [(.one (.int .i64))] K) (argE 0 [(.pointer o1), (.int .i64 x2)]) w = N33 o1 x2 K w := by kernel_rfl
theorem calls33 (o1 : Option Addr) (x2 : Int) (K : Int → World → Prop) (w : World) (h : N33 o1 x2 K w) : Calls Tryz.prog 33 #[(.pointer o1), (.int .i64 x2)] w fun en w' => ∃ (x24 : Int), en = .returned (.int .i64 x24) ∧ K x24 w' :=
 have e : (fun en w' => ExShs [(.one (.int .i64))] fun vs => en = .returned (tupled vs) ∧ ap [(.one (.int .i64))] K vs fun p => p w') = (fun (en : Ending) (w' : World) => ∃ (x24 : Int), en = .returned (.int .i64 x24) ∧ K x24 w') := by kernel_rfl
 e ▸ fn_sound tabOk mixed Tryz.func33 (by kernel_rfl : Tryz.f33.body = some code33) ann33 [(.pointer o1), (.int .i64 x2)] [(.one (.int .i64))] K w (by kernel_rfl) ((wp33 o1 x2 K w).symm ▸ h)
end Go.Proofs.YtgggbmikmmljcaaGreat

namespace Go.Proofs.YtgggbmikmmljcaaGreat
open Go Go.V Go.Proofs
open Go.RowKit (Below)
def BX (own : OwnM Role) (w : World) (b : Nat) (cs : Array Value) (t : Nat) : Prop := Blk w b cs t ∧ own b = none
section
variable {w w' : World} {own own' : OwnM Role} {r : Raw} {S : CS} {b t : Nat} {cs : Array Value}
theorem BX.ext (h : BX own w b cs t) (x : Ext w w') : BX own w' b cs t := ⟨h.1.ext x, h.2⟩
theorem BX.fr (h : BX own w b cs t) (f : Fr own own' w w') : BX own' w' b cs t := ⟨Fr.blk h.1 f h.2, f.free b h.1.lt h.2⟩
theorem BX.at_ (h : BX own w b cs t) (i : Nat) {v : Value} (hv : cs[i]? = some v) : w.cell? ((⟨b, 0, none⟩ : Addr).add i) = some v := by rw [add_mk, Nat.zero_add, h.1.cell]; exact hv
theorem BX.at0 (h : BX own w b cs t) {v : Value} (hv : cs[0]? = some v) : w.cell? (⟨b, 0, none⟩ : Addr) = some v := by rw [h.1.cell]; exact hv
theorem BX.new (h : CR w own r S) {F : Addr → World → Prop} (g : ∀ b w', CR w' own r S → BX own w' b cs t → Ext w w' → F ⟨b, 0, none⟩ w') : AllocK w cs t F :=
  AllocK.mk fun b w' hb hB hx => g b w' (h.ext hx) ⟨hB, h.top b (by omega)⟩ hx
theorem set8 {v0 v1 v2 v3 v4 v5 v6 v7 : Value} (hb : Blk w b cs t) (h8 : cs.size = 8) {F : World → Prop} (k : ∀ w', Blk w' b #[v0, v1, v2, v3, v4, v5, v6, v7] t → But b w w' → F w') :
    SetK w ((⟨b, 0, none⟩ : Addr).add 0) v0 fun w => SetK w ((⟨b, 0, none⟩ : Addr).add 1) v1 fun w => SetK w ((⟨b, 0, none⟩ : Addr).add 2) v2 fun w => SetK w ((⟨b, 0, none⟩ : Addr).add 3) v3 fun w =>
    SetK w ((⟨b, 0, none⟩ : Addr).add 4) v4 fun w => SetK w ((⟨b, 0, none⟩ : Addr).add 5) v5 fun w => SetK w ((⟨b, 0, none⟩ : Addr).add 6) v6 fun w => SetK w ((⟨b, 0, none⟩ : Addr).add 7) v7 F := by
  simp only [add_mk, Nat.zero_add]
  obtain ⟨l⟩ := cs
  match l, h8 with
  | [c0, c1, c2, c3, c4, c5, c6, c7], _ =>
    refine SetK.mk hb (by simp) fun w1 h1 g1 => SetK.mk h1 (by simp) fun w2 h2 g2 => SetK.mk h2 (by simp) fun w3 h3 g3 => SetK.mk h3 (by simp) fun w4 h4 g4 => ?_
    refine SetK.mk h4 (by simp) fun w5 h5 g5 => SetK.mk h5 (by simp) fun w6 h6 g6 => SetK.mk h6 (by simp) fun w7 h7 g7 => SetK.mk h7 (by simp) fun w8 h8 g8 => ?_
    exact k w8 (by simpa using h8) (((((((g1.trans g2).trans g3).trans g4).trans g5).trans g6).trans g7).trans g8)
theorem CR.set8 {v0 v1 v2 v3 v4 v5 v6 v7 : Value} (h : CR w own r S) (hb : BX own w b cs t) (h8 : cs.size = 8) {F : World → Prop} (k : ∀ w', CR w' own r S → BX own w' b #[v0, v1, v2, v3, v4, v5, v6, v7] t → But b w w' → F w') :
    SetK w ((⟨b, 0, none⟩ : Addr).add 0) v0 fun w => SetK w ((⟨b, 0, none⟩ : Addr).add 1) v1 fun w => SetK w ((⟨b, 0, none⟩ : Addr).add 2) v2 fun w => SetK w ((⟨b, 0, none⟩ : Addr).add 3) v3 fun w =>
    SetK w ((⟨b, 0, none⟩ : Addr).add 4) v4 fun w => SetK w ((⟨b, 0, none⟩ : Addr).add 5) v5 fun w => SetK w ((⟨b, 0, none⟩ : Addr).add 6) v6 fun w => SetK w ((⟨b, 0, none⟩ : Addr).add 7) v7 F :=
  Go.Proofs.YtgggbmikmmljcaaGreat.set8 hb.1 h8 fun w' h1 h2 => k w' (h.but hb.2 h2) ⟨h1, hb.2⟩ h2
theorem run_slice3 {P : Program} {t e : TypeId} {sz bytes : Nat} (H : SlT P t e sz bytes) (a : Option Addr) (l c : Nat) {i j m : Int} (h0 : 0 ≤ i) (h1 : i ≤ j) (h2 : j ≤ m) (h3 : m ≤ c) (w : World) :
    ∃ a' l' c', Sem.run P (Instr.sliceAt t (.slice a l c) (some (.int .i64 i)) (some (.int .i64 j)) (some (.int .i64 m))) w = .ok (.slice a' l' c') w := by
  obtain ⟨inf, z, hi, hz, hsz, _⟩ := H.info
  have eh : (j.toNat : Int) = j := Int.toNat_of_nonneg (by omega)
  have em : (m.toNat : Int) = m := Int.toNat_of_nonneg (by omega)
  refine ⟨if m.toNat = i.toNat then a else a.map (·.add (i.toNat * inf.size)), j.toNat - i.toNat, m.toNat - i.toNat, ?_⟩
  simp [Instr.sliceAt, Instr.slice, run_underlying H.under, Instr.sliceBounds, run_sliceBound, *, (by omega : 0 ≤ j), (by omega : 0 ≤ m), sizeOf, typeInfo]
theorem OwnR.none_nil {α : Type} {base : Nat} {e : TypeId} {sz : Nat} {enc : α → List Value} {l c : Nat} {xs : List α} (h : OwnR base e sz enc w none l c xs) : xs = [] ∧ l = 0 ∧ c = 0 := by
  obtain ⟨hl, _, ho⟩ := h
  rcases ho with ⟨h0, hn⟩ | ⟨g, cap, cur, hv, _⟩
  · cases h0; exact ⟨List.length_eq_zero_iff.1 hn, rfl, rfl⟩
  · cases hv
theorem c22 {base : Nat} (a : Option Addr) (l c : Nat) (xs : List Msg) (hx : OwnR base 40 8 eM w a l c xs) (hl : xs.length ≤ 1000000000) :
    Calls Tryz.prog 22 #[.slice a l c] w fun en w' => ∃ a' l' c', en = .returned (.slice a' l' c') ∧ (OwnR w.heap.size 40 8 eM w' a' l' c' xs ∧ Ext w w') := by
  refine calls22 _ _ _ _ w ?_
  cases a with
  | none =>
    obtain ⟨rfl, rfl, rfl⟩ := OwnR.none_nil hx
    exact ⟨OwnR.nil _ _ _ _ _, Ext.refl _⟩
  | some p =>
    refine BoolK.mk (fun t => by cases t) fun _ => AllocK.mk fun b w3 hb hB hx3 => ?_
    obtain ⟨a', c', w5, q1, q2, q3⟩ := cloneRows (ty := 34) sltM (hx.ext hx3) (by simp) eM_len eM_one (by omega) hB
    refine ⟨_, _, _, _, q1, q2.mono (by omega), ?_⟩
    exact ⟨q3.os.trans hx3.os, q3.tape.trans hx3.tape, q3.output.trans hx3.output, Nat.le_trans hx3.size q3.size, fun i hi => (q3.block i (Nat.lt_of_lt_of_le hi hx3.size) (by simp; omega)).trans (hx3.block i hi)⟩
theorem c87 {base : Nat} (a : Option Addr) (l c : Nat) (xs : List Msg) (hx : OwnR base 40 8 eM w a l c xs) (hl : xs.length ≤ 1000000000) {k : Nat} (hk : k < xs.length) :
    Calls Tryz.prog 87 #[.slice a l c, .int .i64 (k : Int), .int .i64 ((k + 1 : Nat) : Int)] w fun en w' => ∃ a' l' c', en = .returned (.slice a' l' c') ∧ (OwnR base 40 8 eM w' a' l' c' (xs.eraseIdx k) ∧ (Value.slice a' l' c').ownBlock = (Value.slice a l c).ownBlock ∧ w.grownBy w' (Value.slice a l c).ownBlock) := by
  refine calls87 _ _ _ _ _ _ w ?_
  obtain ⟨g, rfl, hbg, hg, _⟩ := hx.cellAt eM_len (List.getElem?_eq_getElem hk)
  obtain ⟨hll, hlc⟩ : l = xs.length ∧ l ≤ c := by
    obtain ⟨h1, h2, _⟩ := OwnR.delAt (ty := 0) (ty2 := 0) sltM (by kernel_rfl : zOk Tryz.prog 40 = true) hx eM_len eM_one hk
    exact ⟨h1, h2⟩
  obtain ⟨a4, l4, c4, q0⟩ := run_slice3 sltM (some ⟨g, 0, none⟩) l c (i := (k : Int)) (j := ((k + 1 : Nat) : Int)) (m := (l : Int)) (by omega) (by omega) (by omega) (by omega) w
  refine ⟨_, _, _, _, q0, BoolK.mk (fun t => by have := beq_iff_eq.1 t; omega) (fun _ => DrewK.mk fun w6 hx6 => ?_)⟩
  obtain ⟨_, _, w8, w9, q1, q2, q3, q4⟩ := OwnR.delAt (ty := 34) (ty2 := 0) sltM (by kernel_rfl : zOk Tryz.prog 40 = true) (hx.ext hx6) eM_len eM_one hk
  refine ⟨by omega, ⟨by omega, by omega⟩, by omega, ⟨by omega, hlc⟩, some ⟨g, 0, none⟩, l - 1, c, w8, ?_, by omega, by omega, ⟨by omega, by omega⟩, w9, ?_, q3, rfl, ?_⟩
  · rw [← q1]
    have e1 : (if c = 0 then some (⟨g, 0, none⟩ : Addr) else (some (⟨g, 0, none⟩ : Addr)).map (·.add (0 * 8))) = some ⟨g, 0, none⟩ := by split <;> simp [add_mk]
    have e2 : (if c = ((k + 1 : Nat) : Int).toNat then some (⟨g, 0, none⟩ : Addr) else (some (⟨g, 0, none⟩ : Addr)).map (·.add (((k + 1 : Nat) : Int).toNat * 8))) = (if c = k + 1 then some ⟨g, 0, none⟩ else some ⟨g, (k + 1) * 8, none⟩) := by
      rw [Int.toNat_natCast]; split <;> simp [add_mk]
    rw [e1, e2]; rfl
  · rw [← q2]
    have e3 : (if c = ((l - 1 : Nat) : Int).toNat then some (⟨g, 0, none⟩ : Addr) else (some (⟨g, 0, none⟩ : Addr)).map (·.add (((l - 1 : Nat) : Int).toNat * 8))) = some ⟨g, (l - 1) * 8, none⟩ := by
      rw [Int.toNat_natCast, if_neg (by omega)]; simp [add_mk]
    rw [e3, Int.toNat_natCast, Int.toNat_natCast, show l - (l - 1) = 1 by omega]
  · exact ⟨q4.os.trans hx6.os, q4.tape.trans hx6.tape, q4.output.trans hx6.output, by rw [q4.size]; exact hx6.size, fun i hi hn => (q4.block i (fun e => hn (by rw [e]; rfl))).trans (hx6.block i hi)⟩
end
end Go.Proofs.YtgggbmikmmljcaaGreat

namespace Go.Proofs.YtgggbmikmmljcaaGreat
open Go Go.V Go.Proofs
open Go.RowKit (Below)
section
variable {w w' w2 : World} {own own' : OwnM Role} {r : Raw} {S : CS} {b t : Nat} {cs : Array Value}
theorem Fr.but (f : Fr own own' w w') (k : But b w' w2) (hb : w.heap.size ≤ b) : Fr own own' w w2 :=
  ⟨k.os.trans f.os, k.tape.trans f.tape, k.output.trans f.output, by rw [k.size]; exact f.size, fun i hi hn => (k.block i (by omega)).trans (f.block i hi hn), f.free⟩
theorem BX.but {b2 : Nat} (h : BX own w b cs t) (k : But b2 w w') (hne : b ≠ b2) : BX own w' b cs t := ⟨k.blk h.1 hne, h.2⟩
def CS.take (S : CS) (k : Nat) : CS := { S with fly := S.fly.eraseIdx k }
def RemOk (own : OwnM Role) (r : Raw) (S : CS) (w : World) (k : Int) (x3 x4 : Int) (s5 : ByteArray) (x6 x7 x11 : Int) (w' : World) : Prop :=
  (¬ (0 ≤ k ∧ k < S.fly.length) ∧ x11 = 2 ∧ Ext w w') ∨ (∃ m, 0 ≤ k ∧ S.fly[k.toNat]? = some m ∧ x11 = 0 ∧ x3 = m.frm ∧ x4 = m.to ∧ s5 = m.kind ∧ x6 = m.ent ∧ x7 = m.n ∧ PostC own r w (S.take k.toNat) w')
theorem c47 (h : CR w own r S) (L : Lim S) (k : Int) : Calls Tryz.prog 47 #[cp r, .int .i64 k] w fun en w' =>
    ∃ x3 x4 s5 x6 x7 x8 x9 a10 l10 c10 x11, en = .returned (.tuple #[.agg #[.int .i64 x3, .int .i64 x4, .string s5, .int .i64 x6, .int .i64 x7, .int .i64 x8, .int .i64 x9, .slice a10 l10 c10], .int .i64 x11]) ∧ RemOk own r S w k x3 x4 s5 x6 x7 x11 w' := by
  refine calls47 _ _ (fun x3 x4 s5 x6 x7 x8 x9 a10 l10 c10 x11 w' => RemOk own r S w k x3 x4 s5 x6 x7 x11 w') w ?_
  refine AllocK.mk fun b w4 hb hB hx4 => ?_
  have h4 := h.ext hx4
  have bx : BX own w4 b _ _ := ⟨hB, h.top b (by omega)⟩
  refine (c21 h4).mono ?_
  rintro en w6 ⟨p, rfl, rfl, rfl⟩
  refine ⟨_, rfl, BoolK.mk (fun t => by cases t) (fun _ => ?_)⟩
  have hfl := h4.fly.len
  have Lf := L.fly
  refine BoolK.mk (fun t => ?_) (fun t => ?_)
  · refine CR.set8 h4 bx rfl fun w31 h31 bx31 but => ?_
    refine ⟨_, bx31.at_ 0 rfl, _, bx31.at_ 1 rfl, _, bx31.at_ 2 rfl, _, bx31.at_ 3 rfl, _, bx31.at_ 4 rfl, _, bx31.at_ 5 rfl, _, bx31.at_ 6 rfl, _, _, _, bx31.at_ 7 rfl, .inl ⟨?_, rfl, but.below hx4 (by omega)⟩⟩
    have := of_decide_eq_true t; omega
  have hk0 : 0 ≤ k := by have := of_decide_eq_false t; omega
  obtain ⟨kn, rfl⟩ := Int.eq_ofNat_of_zero_le hk0
  refine ⟨_, _, _, h4.cell 11 rfl, ?_⟩
  refine BoolK.mk (fun t => ?_) (fun t => ?_)
  · refine CR.set8 h4 bx rfl fun w31 h31 bx31 but => ?_
    refine ⟨_, bx31.at_ 0 rfl, _, bx31.at_ 1 rfl, _, bx31.at_ 2 rfl, _, bx31.at_ 3 rfl, _, bx31.at_ 4 rfl, _, bx31.at_ 5 rfl, _, bx31.at_ 6 rfl, _, _, _, bx31.at_ 7 rfl, .inl ⟨?_, rfl, but.below hx4 (by omega)⟩⟩
    have := of_decide_eq_true t; omega
  have hlt : kn < S.fly.length := by have := of_decide_eq_false t; omega
  obtain ⟨g, l, c, hs, ho, hg, hc⟩ := h4.fly.at_ eM_len hlt
  have hcc : ∀ j, j < 8 → w6.cell? (((⟨g, 0, none⟩ : Addr).add ((kn : Int).toNat * 8)).add j) = (eM S.fly[kn])[j]? := fun j hj => by rw [add_mk, add_mk, Nat.zero_add, Int.toNat_natCast]; exact hc j hj
  refine ⟨_, _, _, h4.cell 11 rfl, ⟨by omega, by omega⟩, ?_⟩
  have hs1 : r.fl.1 = some ⟨g, 0, none⟩ := by rw [hs]
  rw [hs1]
  refine ⟨_, (hcc 0 (by omega)).trans rfl, _, (hcc 1 (by omega)).trans rfl, _, (hcc 2 (by omega)).trans rfl, _, (hcc 3 (by omega)).trans rfl, _, (hcc 4 (by omega)).trans rfl, _, (hcc 5 (by omega)).trans rfl, _, (hcc 6 (by omega)).trans rfl, _, _, _, (hcc 7 (by omega)).trans rfl, ?_⟩
  refine AllocK.mk fun b2 w70 hb2 hB2 hx70 => ?_
  have h70 := h4.ext hx70
  have bx70 := bx.ext hx70
  have bb : BX own w70 b2 _ _ := ⟨hB2, h4.top b2 (by omega)⟩
  refine CR.set8 h70 bb rfl fun w78 h78 bx2 but => ?_
  have hbl := bx.1.lt
  have bx1 := bx70.but but (by omega)
  have s4 := hx4.size
  have hx78 : Ext w w78 := but.below (hx4.trans hx70) (by omega)
  refine ⟨_, _, _, h78.cell 11 rfl, ?_⟩
  refine (c22 _ _ _ S.fly h78.fly.1 L.fly).mono ?_
  rintro en w82 ⟨a', l', c', rfl, hO, hx82⟩
  refine ⟨_, _, _, rfl, ?_⟩
  rw [wrap_succ (by omega)]
  refine (c87 _ _ _ S.fly hO L.fly hlt).mono ?_
  rintro en w85 ⟨a2, l2, c2, rfl, hO2, hob, hgr⟩
  refine ⟨_, _, _, rfl, ?_⟩
  have u : Upd own (setOwn own (sblk (a2, l2, c2)) .fly) Role.fly w78 w85 := by
    refine Upd.of_grown (row := none) (row' := sblk (a2, l2, c2)) ⟨hgr.os.trans hx82.os, hgr.tape.trans hx82.tape, hgr.output.trans hx82.output, Nat.le_trans hx82.size hgr.size, fun i hi _ => ?_⟩ (fun k hk => by cases hk) ?_ (fun k hk => (hO2.lt k hk).2)
    · refine (hgr.block i (Nat.lt_of_lt_of_le hi hx82.size) fun e => ?_).trans (hx82.block i hi)
      have := (hO.lt i e.symm).1; omega
    · cases e : (Value.slice a' l' c').ownBlock with
      | none => exact .inl (hob.trans e)
      | some g2 => exact .inr ⟨g2, hob.trans e, (hO.lt g2 e).1⟩
  refine setBlk (h78.blk.upd h78.ob u (by simp)) ((u.same _ h78.blk.lt).trans h78.ob) 11 _ (by simp) fun w88 hb88 u2 => ?_
  have h88 := h78.newFly u ⟨hO2.mono (Nat.zero_le _), fun k hk => by unfold setOwn; rw [if_pos hk]⟩ u2 (by simpa [slv] using hb88)
  have bx2 := (bx2.fr u.fr).fr u2.fr
  have bx1 := (bx1.fr u.fr).fr u2.fr
  refine ⟨_, bx2.at_ 0 rfl, _, bx2.at_ 1 rfl, _, bx2.at_ 2 rfl, _, bx2.at_ 3 rfl, _, bx2.at_ 4 rfl, _, bx2.at_ 5 rfl, _, bx2.at_ 6 rfl, _, _, _, bx2.at_ 7 rfl, ?_⟩
  refine CR.set8 h88 bx1 rfl fun w104 h104 bx104 but2 => ?_
  refine ⟨_, bx104.at_ 0 rfl, _, bx104.at_ 1 rfl, _, bx104.at_ 2 rfl, _, bx104.at_ 3 rfl, _, bx104.at_ 4 rfl, _, bx104.at_ 5 rfl, _, bx104.at_ 6 rfl, _, _, _, bx104.at_ 7 rfl, .inr ⟨S.fly[kn], by omega, List.getElem?_eq_getElem hlt, rfl, rfl, rfl, rfl, rfl, rfl, ?_⟩⟩
  exact PostC.mk h104 (Fr.but ((Fr.of_ext own hx78).trans (u.fr.trans u2.fr)) but2 (by omega)) rfl
theorem c8 (h : CR w own r S) (L : Lim S) : Calls Tryz.prog 8 #[cp r] w fun en w' => ∃ a' l' c', en = .returned (.slice a' l' c') ∧ (OwnR w.heap.size 40 8 eM w' a' l' c' S.fly ∧ Ext w w') := by
  refine calls8 _ _ w ?_
  refine (c21 h).mono ?_
  rintro en w5 ⟨p, rfl, rfl, rfl⟩
  refine ⟨_, rfl, BoolK.mk (fun t => by cases t) (fun _ => ⟨_, _, _, h.cell 11 rfl, ?_⟩)⟩
  refine (c22 _ _ _ S.fly h.fly.1 L.fly).mono ?_
  rintro en w82 ⟨a', l', c', rfl, hO, hx82⟩
  exact ⟨_, _, _, rfl, hO, hx82⟩
def CS.drops (S : CS) (k : Int) : CS := if 0 ≤ k ∧ k < S.fly.length then S.take k.toNat else S
theorem c33 (h : CR w own r S) (L : Lim S) (k : Int) : Calls Tryz.prog 33 #[cp r, .int .i64 k] w fun en w' => ∃ e, en = .returned (.int .i64 e) ∧ PostC own r w (S.drops k) w' := by
  refine calls33 _ _ _ w ?_
  refine (c47 h L k).mono ?_
  rintro en w12 ⟨x3, x4, s5, x6, x7, x8, x9, a10, l10, c10, x11, rfl, hR⟩
  refine ⟨_, _, _, _, _, _, _, _, _, _, _, rfl, ?_⟩
  refine AllocK.mk fun b w4 hb hB hx4 => ?_
  have fin : ∀ {S' : CS}, PostC own r w S' w12 → S.drops k = S' → ∀ w23, (But b w4 w23) → PostC own r w (S.drops k) w23 := by
    rintro S' ⟨own', r', h1, h2, h3⟩ rfl w23 but
    have hbn : own' b = none := h1.top b (by omega)
    exact ⟨own', r', (h1.ext hx4).but hbn but, Fr.but (h2.trans (Fr.of_ext own' hx4)) but (by have := h2.size; omega), h3⟩
  have : ∃ S', PostC own r w S' w12 ∧ S.drops k = S' := by
    rcases hR with ⟨h1, _, h2⟩ | ⟨m, h1, h2, _, _, _, _, _, _, hP⟩
    · exact ⟨S, PostC.mk (h.ext h2) (Fr.of_ext own h2) rfl, by rw [CS.drops, if_neg h1]⟩
    · refine ⟨_, hP, by rw [CS.drops, if_pos ⟨h1, ?_⟩]⟩
      have := (List.getElem?_eq_some_iff.1 h2).1; omega
  obtain ⟨S', hP, e⟩ := this
  exact Go.Proofs.YtgggbmikmmljcaaGreat.set8 hB rfl fun w23 _ but => fin hP e w23 but
end
end Go.Proofs.YtgggbmikmmljcaaGreat

namespace Go.Proofs.YtgggbmikmmljcaaGreat
open Go Go.V Go.Proofs
open Go.RowKit (Below)
/-! manystrand/count.New -/
def N5 (x1 : Int) (x2 : Int) (x3 : Int) (K : Option Addr → Int → World → Prop) (w : World) : Prop :=
 BoolK (decide ((x1 : Int) < 1))
 (K none 2 w)
 (BoolK (decide ((x1 : Int) > 5))
 (K none 2 w)
 (BoolK (decide ((x2 : Int) < 1))
 (K none 2 w)
 (BoolK (decide ((x2 : Int) > 100))
 (K none 2 w)
 (BoolK (decide ((x3 : Int) < 1))
 (K none 2 w)
 (BoolK (decide ((x3 : Int) > 100))
 (K none 2 w)
 ((0 ≤ (x1 : Int) ∧ (x1 : Int) ≤ x1 ∧ ((8 : Nat) : Int) * x1 ≤ 281474976710656 ∧ (x1 : Int) ≤ 9223372036854775807) ∧
 AllocK w (madeCells (#[.int .i64 0]) ((x1 : Int).toNat * 1)) 3 fun b4 w5 =>
 ∃ (m6 : Option Nat), ∃ (w7 : World), Sem.run Tryz.prog (Instr.makeMap 64 none) w5 = .ok (.map m6) w7 ∧
 (∃ (m8 : Option Nat), ∃ (w9 : World), Sem.run Tryz.prog (Instr.makeMap 65 none) w7 = .ok (.map m8) w9 ∧
 (∃ (m10 : Option Nat), ∃ (w11 : World), Sem.run Tryz.prog (Instr.makeMap 65 none) w9 = .ok (.map m10) w11 ∧
 (∃ (m12 : Option Nat), ∃ (w13 : World), Sem.run Tryz.prog (Instr.makeMap 65 none) w11 = .ok (.map m12) w13 ∧
 (∃ (m14 : Option Nat), ∃ (w15 : World), Sem.run Tryz.prog (Instr.makeMap 66 none) w13 = .ok (.map m14) w15 ∧
 (AllocK w15 (#[(.bool true), (.int .i64 x2), (.int .i64 x3), (.slice (some b4) ((x1 : Int).toNat) ((x1 : Int).toNat)), (.slice none 0 0), (.slice none 0 0), (.map m6), (.map m8), (.map m10), (.map m12), (.map m14), (.slice none 0 0)]) 69 fun b16 w17 =>
 K (some b16) 0 w17)))))))))))
def ann5 : Ann := (.two .nil (.two (.two .nil (.two (.two .nil .nil) .nil)) (.two .nil .nil)))
noncomputable def code5 : Code := match Tryz.f5.body with | some c => c | none => .skip
theorem wp5 (x1 : Int) (x2 : Int) (x3 : Int) (K : Option Addr → Int → World → Prop) (w : World) : WP Tryz.prog tab code5 ann5 (fnQ tab Tryz.f5.results.toList [(.one .ptr), (.one (.int .i64))] K) (argE 0 [(.int .i64 x1), (.int .i64 x2), (.int .i64 x3)]) w = N5 x1 x2 x3 K w := by kernel_rfl
theorem calls5 (x1 : Int) (x2 : Int) (x3 : Int) (K : Option Addr → Int → World → Prop) (w : World) (h : N5 x1 x2 x3 K w) : Calls Tryz.prog 5 #[(.int .i64 x1), (.int .i64 x2), (.int .i64 x3)] w fun en w' => ∃ (o18 : Option Addr), ∃ (x19 : Int), en = .returned (.tuple #[(.pointer o18), (.int .i64 x19)]) ∧ K o18 x19 w' :=
 have e : (fun en w' => ExShs [(.one .ptr), (.one (.int .i64))] fun vs => en = .returned (tupled vs) ∧ ap [(.one .ptr), (.one (.int .i64))] K vs fun p => p w') = (fun (en : Ending) (w' : World) => ∃ (o18 : Option Addr), ∃ (x19 : Int), en = .returned (.tuple #[(.pointer o18), (.int .i64 x19)]) ∧ K o18 x19 w') := by kernel_rfl
 e ▸ fn_sound tabOk mixed Tryz.func5 (by kernel_rfl : Tryz.f5.body = some code5) ann5 [(.int .i64 x1), (.int .i64 x2), (.int .i64 x3)] [(.one .ptr), (.one (.int .i64))] K w (by kernel_rfl) ((wp5 x1 x2 x3 K w).symm ▸ h)
end Go.Proofs.YtgggbmikmmljcaaGreat

namespace Go.Proofs.YtgggbmikmmljcaaGreat
open Go Go.V Go.Proofs
open Go.RowKit (Below)
/-! (*manystrand/count.Count).Make -/
def N19 (o1 : Option Addr) (x2 : Int) (K : Int → Int → World → Prop) (w : World) : Prop :=
 Calls Tryz.prog 21 #[(.pointer o1)] w fun e5 w4 =>
 ∃ (p3 : Bool), e5 = .returned (.bool p3) ∧
 (BoolK p3
 (K 0 7 w4)
 (Calls Tryz.prog 53 #[(.pointer o1), (.int .i64 x2)] w4 fun e8 w7 =>
 ∃ (p6 : Bool), e8 = .returned (.bool p6) ∧
 (BoolK (!p6)
 (K 0 2 w7)
 (AddrK o1 fun b9 =>
 ∃ (a10 : Option Addr) (l10 : Nat) (c10 : Nat), w7.cell? (b9.add 5) = some (.slice a10 l10 c10) ∧
 (AllocK w7 (#[(.int .i64 x2), (.bool true), (.int .i64 0), (.int .i64 0), (.bool false), (.bool false), (.slice none 0 0)]) 78 fun b11 w12 =>
 ∃ (a13 : Option Addr), ∃ (l13 : Nat), ∃ (c13 : Nat), ∃ (w14 : World), Sem.run Tryz.prog (Builtin.append_ #[67, 67] 67 #[(.slice a10 l10 c10), (.slice (some b11) 1 1)]) w12 = .ok (.slice a13 l13 c13) w14 ∧
 (AddrK o1 fun b15 =>
 SetK w14 (b15.add 5) (.slice a13 l13 c13) fun w16 =>
 AddrK o1 fun b17 =>
 ∃ (a18 : Option Addr) (l18 : Nat) (c18 : Nat), w16.cell? (b17.add 5) = some (.slice a18 l18 c18) ∧
 (K (l18 : Nat) 0 w16)))))))
def ann19 : Ann := (.two .nil (.two (.two .nil (.two (.two .nil .nil) .nil)) (.two (.two .nil (.two (.two .nil .nil) .nil)) (.two .nil (.two .nil .nil)))))
noncomputable def code19 : Code := match Tryz.f19.body with | some c => c | none => .skip
theorem wp19 (o1 : Option Addr) (x2 : Int) (K : Int → Int → World → Prop) (w : World) : WP Tryz.prog tab code19 ann19 (fnQ tab Tryz.f19.results.toList [(.one (.int .i64)), (.one (.int .i64))] K) (argE 0 [(.pointer o1), (.int .i64 x2)]) w = N19 o1 x2 K w := by kernel_rfl
theorem calls19 (o1 : Option Addr) (x2 : Int) (K : Int → Int → World → Prop) (w : World) (h : N19 o1 x2 K w) : Calls Tryz.prog 19 #[(.pointer o1), (.int .i64 x2)] w fun en w' => ∃ (x19 : Int), ∃ (x20 : Int), en = .returned (.tuple #[(.int .i64 x19), (.int .i64 x20)]) ∧ K x19 x20 w' :=
 have e : (fun en w' => ExShs [(.one (.int .i64)), (.one (.int .i64))] fun vs => en = .returned (tupled vs) ∧ ap [(.one (.int .i64)), (.one (.int .i64))] K vs fun p => p w') = (fun (en : Ending) (w' : World) => ∃ (x19 : Int), ∃ (x20 : Int), en = .returned (.tuple #[(.int .i64 x19), (.int .i64 x20)]) ∧ K x19 x20 w') := by kernel_rfl
 e ▸ fn_sound tabOk mixed Tryz.func19 (by kernel_rfl : Tryz.f19.body = some code19) ann19 [(.pointer o1), (.int .i64 x2)] [(.one (.int .i64)), (.one (.int .i64))] K w (by kernel_rfl) ((wp19 o1 x2 K w).symm ▸ h)
end Go.Proofs.YtgggbmikmmljcaaGreat

namespace Go.Proofs.YtgggbmikmmljcaaGreat
open Go Go.V Go.Proofs
open Go.RowKit (Below)
section
variable {w w' w2 : World} {own own' : OwnM Role} {r : Raw} {S : CS}
theorem madeInts {b n e : Nat} (hB : Blk w b (madeCells #[.int .i64 0] (n * 1)) e) (hn : n ≤ maxLen) : OwnR 0 e 1 eI w (some ⟨b, 0, none⟩) n n (List.replicate n (0 : Int)) := by
  have hl : (madeCells #[Value.int .i64 0] (n * 1)).toList = List.replicate n (.int .i64 0) := by rw [Nat.mul_one, toList_madeCells_one]
  have hf : (List.replicate n (0 : Int)).flatMap eI = List.replicate n (.int .i64 0) := by
    clear hl hn hB
    induction n with
    | zero => rfl
    | succ n ih => rw [List.replicate_succ, List.flatMap_cons, ih, List.replicate_succ]; rfl
  refine ⟨by simp, ?_⟩
  rw [List.length_replicate]
  refine ⟨by rw [hf]; simp, .inr ⟨b, n, _, rfl, Nat.zero_le _, hB, Nat.le_refl _, hn, ?_, ?_⟩⟩
  · have := congrArg List.length hl; simpa using this
  · rw [hl, hf, List.take_of_length_le (by simp)]
def CS.zero (sites term slack : Int) : CS := ⟨term, slack, List.replicate sites.toNat 0, [], [], fun _ => 0, fun _ => false, fun _ => false, fun _ => false, fun _ => [], []⟩
def argsOk (sites term slack : Int) : Prop := 1 ≤ sites ∧ sites ≤ 5 ∧ 1 ≤ term ∧ term ≤ 100 ∧ 1 ≤ slack ∧ slack ≤ 100
theorem c5 (sites term slack : Int) : Calls Tryz.prog 5 #[.int .i64 sites, .int .i64 term, .int .i64 slack] w fun en w' => ∃ o e, en = .returned (.tuple #[.pointer o, .int .i64 e]) ∧
    ((¬ argsOk sites term slack ∧ o = none ∧ e = 2 ∧ w' = w) ∨ (argsOk sites term slack ∧ e = 0 ∧ ∃ own r, o = some ⟨r.b, 0, none⟩ ∧ CR w' own r (CS.zero sites term slack) ∧ Fr (fun _ => none) own w w')) := by
  refine calls5 _ _ _ _ w ?_
  have bad : ¬ argsOk sites term slack → ((¬ argsOk sites term slack ∧ (none : Option Addr) = none ∧ (2 : Int) = 2 ∧ w = w) ∨ (argsOk sites term slack ∧ (2 : Int) = 0 ∧ ∃ own r, (none : Option Addr) = some ⟨r.b, 0, none⟩ ∧ CR w own r (CS.zero sites term slack) ∧ Fr (fun _ => none) own w w)) := fun h => .inl ⟨h, rfl, rfl, rfl⟩
  refine BoolK.mk (fun t => bad fun k => by have := of_decide_eq_true t; have := k.1; omega) (fun t1 => ?_)
  refine BoolK.mk (fun t => bad fun k => by have := of_decide_eq_true t; have := k.2.1; omega) (fun t2 => ?_)
  refine BoolK.mk (fun t => bad fun k => by have := of_decide_eq_true t; have := k.2.2.1; omega) (fun t3 => ?_)
  refine BoolK.mk (fun t => bad fun k => by have := of_decide_eq_true t; have := k.2.2.2.1; omega) (fun t4 => ?_)
  refine BoolK.mk (fun t => bad fun k => by have := of_decide_eq_true t; have := k.2.2.2.2.1; omega) (fun t5 => ?_)
  refine BoolK.mk (fun t => bad fun k => by have := of_decide_eq_true t; have := k.2.2.2.2.2; omega) (fun t6 => ?_)
  have t1 := of_decide_eq_false t1; have t2 := of_decide_eq_false t2; have t3 := of_decide_eq_false t3; have t4 := of_decide_eq_false t4; have t5 := of_decide_eq_false t5; have t6 := of_decide_eq_false t6
  refine ⟨⟨by omega, by omega, by omega, by omega⟩, AllocK.mk fun b w5 hb hB hx5 => ?_⟩
  obtain ⟨w7, q1, m1, x1⟩ := MapF.make (P := Tryz.prog) (t := 64) (enc := eK2) eK 0 w5
  obtain ⟨w9, q2, m2, x2⟩ := MapF.make (P := Tryz.prog) (t := 65) (enc := eK2) eB false w7
  obtain ⟨w11, q3, m3, x3⟩ := MapF.make (P := Tryz.prog) (t := 65) (enc := eK2) eB false w9
  obtain ⟨w13, q4, m4, x4⟩ := MapF.make (P := Tryz.prog) (t := 65) (enc := eK2) eB false w11
  obtain ⟨w15, q5, m5, x5⟩ := MapF.make (P := Tryz.prog) (t := 66) (enc := eK2) slv (none, 0, 0) w13
  refine ⟨_, w7, q1, _, w9, q2, _, w11, q3, _, w13, q4, _, w15, q5, AllocK.mk fun b16 w17 hb16 hB16 hx17 => .inr ⟨⟨by omega, by omega, by omega, by omega, by omega, by omega⟩, rfl, ?_⟩⟩
  have l0 := hB.lt; have l1 := m1.lt; have l2 := m2.lt; have l3 := m3.lt; have l4 := m4.lt; have l5 := m5.lt; have l6 := hB16.lt
  have s17 := hx17.size; have s5 := hx5.size
  let own : OwnM Role := fun k => if k = b then some .clocks else if k = w5.heap.size then some .prox else if k = w7.heap.size then some .asked else if k = w9.heap.size then some .gone else if k = w11.heap.size then some .more else if k = w13.heap.size then some .waits else if k = b16 then some .st else none
  let r : Raw := ⟨b16, (some ⟨b, 0, none⟩, sites.toNat, sites.toNat), (none, 0, 0), (none, 0, 0), (none, 0, 0), w5.heap.size, w7.heap.size, w9.heap.size, w11.heap.size, w13.heap.size, [], fun _ => (none, 0, 0)⟩
  refine ⟨own, r, rfl, ?_, ?_⟩
  · have rb : r.b = b16 := rfl
    exact {
      top := fun k hk => by
        show (if k = b then _ else _) = _
        rw [if_neg (by omega), if_neg (by omega), if_neg (by omega), if_neg (by omega), if_neg (by omega), if_neg (by omega), if_neg (by omega)]
      blk := hB16
      ob := by
        show (if b16 = b then some Role.clocks else if b16 = w5.heap.size then some .prox else if b16 = w7.heap.size then some .asked else if b16 = w9.heap.size then some .gone else if b16 = w11.heap.size then some .more else if b16 = w13.heap.size then some .waits else if b16 = b16 then some .st else none) = _
        rw [if_neg (by omega), if_neg (by omega), if_neg (by omega), if_neg (by omega), if_neg (by omega), if_neg (by omega), if_pos rfl]
      clocks := ⟨(madeInts (((((((hB.ext x1).ext x2).ext x3).ext x4).ext x5)).ext hx17) (Nat.le_trans (show sites.toNat ≤ 5 by omega) (by decide))), fun k hk => by
        cases hk; show (if b = b then _ else _) = _; rw [if_pos rfl]⟩
      calls := RowR.nil _ _ _ _ _ _
      things := RowR.nil _ _ _ _ _ _
      thl := rfl
      ths := fun i x t hx => by cases hx
      prox := ((((m1.ext x2).ext x3).ext x4).ext x5).ext hx17
      op := by
        show (if w5.heap.size = b then some Role.clocks else if w5.heap.size = w5.heap.size then some .prox else if w5.heap.size = w7.heap.size then some .asked else if w5.heap.size = w9.heap.size then some .gone else if w5.heap.size = w11.heap.size then some .more else if w5.heap.size = w13.heap.size then some .waits else if w5.heap.size = b16 then some .st else none) = _
        rw [if_neg (by omega), if_pos rfl]
      asked := (((m2.ext x3).ext x4).ext x5).ext hx17
      oa := by
        show (if w7.heap.size = b then some Role.clocks else if w7.heap.size = w5.heap.size then some .prox else if w7.heap.size = w7.heap.size then some .asked else if w7.heap.size = w9.heap.size then some .gone else if w7.heap.size = w11.heap.size then some .more else if w7.heap.size = w13.heap.size then some .waits else if w7.heap.size = b16 then some .st else none) = _
        rw [if_neg (by omega), if_neg (by omega), if_pos rfl]
      gone := ((m3.ext x4).ext x5).ext hx17
      og := by
        show (if w9.heap.size = b then some Role.clocks else if w9.heap.size = w5.heap.size then some .prox else if w9.heap.size = w7.heap.size then some .asked else if w9.heap.size = w9.heap.size then some .gone else if w9.heap.size = w11.heap.size then some .more else if w9.heap.size = w13.heap.size then some .waits else if w9.heap.size = b16 then some .st else none) = _
        rw [if_neg (by omega), if_neg (by omega), if_neg (by omega), if_pos rfl]
      more := (m4.ext x5).ext hx17
      om := by
        show (if w11.heap.size = b then some Role.clocks else if w11.heap.size = w5.heap.size then some .prox else if w11.heap.size = w7.heap.size then some .asked else if w11.heap.size = w9.heap.size then some .gone else if w11.heap.size = w11.heap.size then some .more else if w11.heap.size = w13.heap.size then some .waits else if w11.heap.size = b16 then some .st else none) = _
        rw [if_neg (by omega), if_neg (by omega), if_neg (by omega), if_neg (by omega), if_pos rfl]
      waits := m5.ext hx17
      ow := by
        show (if w13.heap.size = b then some Role.clocks else if w13.heap.size = w5.heap.size then some .prox else if w13.heap.size = w7.heap.size then some .asked else if w13.heap.size = w9.heap.size then some .gone else if w13.heap.size = w11.heap.size then some .more else if w13.heap.size = w13.heap.size then some .waits else if w13.heap.size = b16 then some .st else none) = _
        rw [if_neg (by omega), if_neg (by omega), if_neg (by omega), if_neg (by omega), if_neg (by omega), if_pos rfl]
      wts := fun _ => RowT.nil _ _ _ _
      fly := RowR.nil _ _ _ _ _ _ }
  · have hx : Ext w w17 := ((((hx5.trans x1).trans x2).trans x3).trans x4).trans (x5.trans hx17)
    refine ⟨hx.os, hx.tape, hx.output, hx.size, fun k hk _ => hx.block k hk, fun k hk _ => ?_⟩
    show (if k = b then _ else _) = _
    rw [if_neg (by omega), if_neg (by omega), if_neg (by omega), if_neg (by omega), if_neg (by omega), if_neg (by omega), if_neg (by omega)]
def CS.isS (S : CS) (x : Int) : Prop := 0 ≤ x ∧ x < S.clocks.length
instance (S : CS) (x : Int) : Decidable (S.isS x) := inferInstanceAs (Decidable (_ ∧ _))
def CS.make (S : CS) (site : Int) : CS := { S with things := S.things ++ [⟨site, true, 0, 0, false, false, []⟩] }
def CS.makeE (S : CS) (site : Int) : CS := if S.isS site then S.make site else S
set_option maxRecDepth 100000 in
theorem c19 (h : CR w own r S) (L : Lim S) (site : Int) : Calls Tryz.prog 19 #[cp r, .int .i64 site] w fun en w' => ∃ n e, en = .returned (.tuple #[.int .i64 n, .int .i64 e]) ∧
    ((n, e) = (if S.isS site then ((S.things.length : Int) + 1, 0) else (0, 2)) ∧ PostC own r w (S.makeE site) w') := by
  refine calls19 _ _ _ w ?_
  refine (c21 h).mono ?_
  rintro en w4 ⟨p, rfl, rfl, rfl⟩
  refine ⟨_, rfl, BoolK.mk (fun t => by cases t) (fun _ => ?_)⟩
  refine (c53 h site).mono ?_
  rintro en w7 ⟨p, rfl, rfl, rfl⟩
  refine ⟨_, rfl, BoolK.mk (fun t => ?_) (fun t => ?_)⟩
  · have t : ¬ S.isS site := fun hh => by rw [decide_eq_true (show 0 ≤ site ∧ site < (S.clocks.length : Int) from hh)] at t; cases t
    exact ⟨by rw [if_neg t], by rw [CS.makeE, if_neg t]; exact PostC.mk h (Fr.refl _ _) rfl⟩
  · have t : S.isS site := by
      refine Decidable.byContradiction fun hh => ?_
      rw [decide_eq_false (show ¬ (0 ≤ site ∧ site < (S.clocks.length : Int)) from hh)] at t; cases t
    have hl := h.thl2
    have Lt := L.th
    refine ⟨_, _, _, h.cell 5 rfl, ?_⟩
    refine RowR.push ⟨site, true, 0, 0, false, false, (none, 0, 0)⟩ sltT h.things eT_len eT_one (by rw [h.thl]; omega) rfl fun s' w12 hr u => ?_
    refine setBlk (h.blk.upd h.ob u (by simp)) ((u.same _ h.blk.lt).trans h.ob) 5 _ (by simp) fun w14 hb14 u2 => ?_
    have h14 := h.newThing (t := ⟨site, true, 0, 0, false, false, []⟩) u hr u2 (by simpa [slv] using hb14) ⟨⟨rfl, rfl, rfl, rfl, rfl, rfl⟩, RowR.nil _ _ _ _ _ _⟩
    refine ⟨_, _, _, h14.cell 5 rfl, ?_, ?_⟩
    · rw [if_pos t, hr.len]; simp [h.thl]
    · rw [CS.makeE, if_pos t]; exact PostC.mk h14 (u.fr.trans u2.fr) rfl
def CS.askE (S : CS) (site x : Int) : Int := if usableE S x [site] = 0 then (if S.gone (site, x) then 200 else 0) else usableE S x [site]
def CS.askS (S : CS) (site x : Int) : CS :=
  if usableE S x [site] = 0 ∧ S.gone (site, x) = false ∧ site ≠ (S.th x).owner ∧ S.prox (site, x) = 0 ∧ S.asked (site, x) = false then
    ({ S with asked := upd S.asked (site, x) true }).send ⟨site, (S.th x).owner, kAsk, x, 0⟩ else S
theorem usable_isT {x : Int} {l : List Int} (h : usableE S x l = 0) : S.isT x ∧ ∀ s ∈ l, S.isS s := by
  simp only [usableE] at h
  split at h
  · rename_i h1
    split at h
    · rename_i h2
      refine ⟨h2, fun s hs => ?_⟩
      rw [List.all_eq_true] at h1
      exact of_decide_eq_true (h1 s hs)
    · omega
  · omega
theorem boxInts {v : Int} {b t : Nat} (hB : Blk w b #[.int .i64 v] t) : Ints w (some ⟨b, 0, none⟩) 1 [v] := ⟨rfl, .inr ⟨b, 0, rfl, fun i x hi => by
  cases i with
  | zero => simp at hi; subst hi; show w.cell? _ = _; rw [hB.cell]; rfl
  | succ i => simp at hi⟩⟩
theorem boxInts2 {v1 v2 : Int} {b t : Nat} (hB : Blk w b #[.int .i64 v1, .int .i64 v2] t) : Ints w (some ⟨b, 0, none⟩) 2 [v1, v2] := ⟨rfl, .inr ⟨b, 0, rfl, fun i x hi => by
  match i with
  | 0 => simp at hi; subst hi; show w.cell? _ = _; rw [hB.cell]; rfl
  | 1 => simp at hi; subst hi; show w.cell? _ = _; rw [hB.cell]; rfl
  | i + 2 => simp at hi⟩⟩
theorem c20 (h : CR w own r S) (L : Lim S) (site x : Int) : Calls Tryz.prog 20 #[cp r, .int .i64 site, .int .i64 x] w fun en w' => ∃ e, en = .returned (.int .i64 e) ∧ (e = S.askE site x ∧ PostC own r w (S.askS site x) w') := by
  refine calls20 _ _ _ _ w ?_
  refine AllocK.mk fun b w5 hb hB hx5 => ?_
  have h5 := h.ext hx5
  refine (c43 h5 x _ 1 1 [site] (boxInts hB) (by simp)).mono ?_
  rintro en w7 ⟨e, rfl, rfl, rfl⟩
  have stay : ∀ w9, CR w9 own r S → Ext w w9 → ¬ (usableE S x [site] = 0 ∧ S.gone (site, x) = false ∧ site ≠ (S.th x).owner ∧ S.prox (site, x) = 0 ∧ S.asked (site, x) = false) → PostC own r w (S.askS site x) w9 := fun w9 h9 hx9 hn => by
    rw [CS.askS, if_neg hn]; exact PostC.mk h9 (Fr.of_ext own hx9) rfl
  refine ⟨_, rfl, BoolK.mk (fun t => ?_) (fun t => ?_)⟩
  · have t : usableE S x [site] ≠ 0 := by simpa using t
    exact ⟨by rw [CS.askE, if_neg t], stay _ h5 hx5 fun k => t k.1⟩
  have t : usableE S x [site] = 0 := by simpa using t
  obtain ⟨hT, hS⟩ := usable_isT t
  refine KB.new2 h5 (site, x) fun b9 w12 h12 kb hx12 => DrewK.mk fun w13 hx13 => ?_
  have h13 := h12.ext hx13
  have kb := kb.ext hx13
  have hx : Ext w w13 := (hx5.trans hx12).trans hx13
  refine ⟨_, h13.cell 8 rfl, _, kb.c0, _, kb.c1, _, _, h13.lkGone (site, x), Cel.refl _, BoolK.mk (fun tg => ?_) (fun tg => ?_)⟩
  · exact ⟨by rw [CS.askE, if_pos t, if_pos tg], stay _ h13 hx fun k => by rw [k.2.1] at tg; cases tg⟩
  have hE : (0 : Int) = S.askE site x := by rw [CS.askE, if_pos t, if_neg (by rw [tg]; simp)]
  refine (cAt h13 hT L.th).mono ?_
  rintro en w21 ⟨o, rfl, rfl, g, s, rfl, hg, hgo, hc, hr⟩
  refine ⟨_, rfl, _, (hc 0 (by omega)).trans rfl, ?_⟩
  refine ⟨fun p w' => p = decide (site ≠ (S.th x).owner ∧ S.prox (site, x) = 0 ∧ S.asked (site, x) = false) ∧ CR w' own r S ∧ KB own w' b9 (site, x) ∧ Ext w w', ?_, DrewK.mk fun w36 hx36 => ?_⟩
  · rintro w26 p ⟨rfl, h26, kb, hx26⟩
    refine BoolK.mk (fun tp => ?_) (fun tp => ?_)
    · have tp := of_decide_eq_true tp
      refine DrewK.mk fun w28 hx28 => ?_
      have h28 := h26.ext hx28
      have kb := kb.ext hx28
      obtain ⟨w33, q1, h33, u⟩ := h28.putAsked (site, x) true
      refine ⟨_, h28.cell 7 rfl, _, kb.c0, _, kb.c1, w33, q1, ?_⟩
      refine (c48 h33 _ _ _ _ _ L.fly).mono ?_
      rintro en w34 ⟨rfl, own', s', h34, fr⟩
      refine ⟨rfl, hE, ?_⟩
      rw [CS.askS, if_pos ⟨t, tg, tp⟩]
      exact PostC.mk h34 (((Fr.of_ext own (hx26.trans hx28)).trans u.fr).trans fr) rfl
    · have tp := of_decide_eq_false tp
      exact ⟨hE, stay _ h26 hx26 fun k => tp k.2.2⟩
  · have h36 := h13.ext hx36
    have kb := kb.ext hx36
    have hx36 : Ext w w36 := hx.trans hx36
    refine BoolK.mk (fun to => ?_) (fun to => ?_)
    · have to : site ≠ (S.th x).owner := by simpa using to
      refine ⟨_, h36.cell 6 rfl, _, kb.c0, _, kb.c1, _, _, h36.lkProx (site, x), Cel.refl _, BoolK.mk (fun t0 => ?_) (fun t0 => ?_)⟩
      · have t0 : S.prox (site, x) = 0 := beq_iff_eq.1 t0
        have fin : (!S.asked (site, x)) = decide (site ≠ (S.th x).owner ∧ S.prox (site, x) = 0 ∧ S.asked (site, x) = false) := by
          cases S.asked (site, x) <;> simp [to, t0]
        exact ⟨⟨_, h36.cell 7 rfl, Cel.refl _, _, kb.c0, _, kb.c1, Cel.refl _, _, _, h36.lkAsked (site, x), Cel.refl _, fin, h36, kb, hx36⟩,
          ⟨_, kb.c0, _, kb.c1, Cel.refl _, _, h36.cell 7 rfl, Cel.refl _, _, _, h36.lkAsked (site, x), Cel.refl _, fin, h36, kb, hx36⟩⟩
      · have t0 : S.prox (site, x) ≠ 0 := beq_eq_false_iff_ne.1 t0
        have fin : false = decide (site ≠ (S.th x).owner ∧ S.prox (site, x) = 0 ∧ S.asked (site, x) = false) := by simp [t0]
        exact ⟨⟨fin, h36, kb, hx36⟩, ⟨fin, h36, kb, hx36⟩⟩
    · have to : site = (S.th x).owner := by simpa using to
      have fin : false = decide (site ≠ (S.th x).owner ∧ S.prox (site, x) = 0 ∧ S.asked (site, x) = false) := by simp [to]
      exact ⟨⟨fin, h36, kb, hx36⟩, ⟨fin, h36, kb, hx36⟩⟩
end
end Go.Proofs.YtgggbmikmmljcaaGreat

namespace Go.Proofs.YtgggbmikmmljcaaGreat
open Go Go.V Go.Proofs
open Go.RowKit (Below)
/-! (*manystrand/count.Count).Deliver -/
def N15 (o1 : Option Addr) (x2 : Int) (K : Int → World → Prop) (w : World) : Prop :=
 Calls Tryz.prog 47 #[(.pointer o1), (.int .i64 x2)] w fun e13 w12 =>
 ∃ (x3 : Int), ∃ (x4 : Int), ∃ (s5 : ByteArray), ∃ (x6 : Int), ∃ (x7 : Int), ∃ (x8 : Int), ∃ (x9 : Int), ∃ (a10 : Option Addr), ∃ (l10 : Nat), ∃ (c10 : Nat), ∃ (x11 : Int), e13 = .returned (.tuple #[(.agg #[(.int .i64 x3), (.int .i64 x4), (.string s5), (.int .i64 x6), (.int .i64 x7), (.int .i64 x8), (.int .i64 x9), (.slice a10 l10 c10)]), (.int .i64 x11)]) ∧
 (AllocK w12 (#[.int .i64 0, .int .i64 0, .string ⟨#[]⟩, .int .i64 0, .int .i64 0, .int .i64 0, .int .i64 0, .slice none 0 0]) 40 fun b14 w15 =>
 SetK w15 (b14.add 0) (.int .i64 x3) fun w16 =>
 SetK w16 (b14.add 1) (.int .i64 x4) fun w17 =>
 SetK w17 (b14.add 2) (.string s5) fun w18 =>
 SetK w18 (b14.add 3) (.int .i64 x6) fun w19 =>
 SetK w19 (b14.add 4) (.int .i64 x7) fun w20 =>
 SetK w20 (b14.add 5) (.int .i64 x8) fun w21 =>
 SetK w21 (b14.add 6) (.int .i64 x9) fun w22 =>
 SetK w22 (b14.add 7) (.slice a10 l10 c10) fun w23 =>
 BoolK ((x11 : Int) != 0)
 (K x11 w23)
 (∃ (x24 : Int), w23.cell? (b14.add 3) = some (.int .i64 x24) ∧
 (Calls Tryz.prog 44 #[(.pointer o1), (.int .i64 x24)] w23 fun e27 w26 =>
 ∃ (o25 : Option Addr), e27 = .returned (.pointer o25) ∧
 (∃ (x28 : Int), w26.cell? (b14.add 1) = some (.int .i64 x28) ∧
 (∃ (x29 : Int), w26.cell? (b14.add 3) = some (.int .i64 x29) ∧
 (AllocK w26 (#[.int .i64 0, .int .i64 0]) 82 fun b30 w31 =>
 SetK w31 (b30.add 0) (.int .i64 x28) fun w32 =>
 SetK w32 (b30.add 1) (.int .i64 x29) fun w33 =>
 ∃ (s34 : ByteArray), w33.cell? (b14.add 2) = some (.string s34) ∧
 (∃ (J35 : Bool → World → Prop),
 (∀ (w36 : World) (p37 : Bool), J35 p37 w36 →
 BoolK p37
 (∃ (x38 : Int), w36.cell? (b14.add 3) = some (.int .i64 x38) ∧
 (Calls Tryz.prog 13 #[(.pointer o1), (.int .i64 x38)] w36 fun e41 w40 =>
 ∃ (s39 : ByteArray), e41 = .returned (.string s39) ∧
 (BoolK (!((s39 : ByteArray).toList == ((⟨#[108, 105, 118, 101]⟩ : ByteArray) : ByteArray).toList))
 (∃ (x42 : Int), w40.cell? (b14.add 1) = some (.int .i64 x42) ∧
 (∃ (x43 : Int), w40.cell? b14 = some (.int .i64 x43) ∧
 (∃ (x44 : Int), w40.cell? (b14.add 3) = some (.int .i64 x44) ∧
 (Calls Tryz.prog 48 #[(.pointer o1), (.int .i64 x42), (.int .i64 x43), (.string (⟨#[103, 111, 110, 101]⟩ : ByteArray)), (.int .i64 x44), (.int .i64 0)] w40 fun e46 w45 =>
 e46 = .returned (.tuple #[]) ∧
 (K 0 w45)))))
 (∃ (x47 : Int), w40.cell? b14 = some (.int .i64 x47) ∧
 (∃ (x48 : Int), w40.cell? (b14.add 3) = some (.int .i64 x48) ∧
 (Calls Tryz.prog 49 #[(.pointer o1), (.int .i64 x47), (.string (⟨#[103, 105, 118, 101]⟩ : ByteArray)), (.int .i64 x48)] w40 fun e50 w49 =>
 e50 = .returned (.tuple #[]) ∧
 (K 0 w49)))))))
 (BoolK ((s34 : ByteArray).toList == ((⟨#[103, 105, 118, 101]⟩ : ByteArray) : ByteArray).toList)
 (DrewK w36 fun w51 =>
 AddrK o1 fun b52 =>
 ∃ (m53 : Option Nat), w51.cell? (b52.add 7) = some (.map m53) ∧
 (∃ (x54 : Int), w51.cell? (b30.add 0) = some (.int .i64 x54) ∧
 (∃ (x55 : Int), w51.cell? (b30.add 1) = some (.int .i64 x55) ∧
 (∃ (w56 : World), Sem.run Tryz.prog (Builtin.delete_ #[65, 82] 0 #[(.map m53), (.agg #[(.int .i64 x54), (.int .i64 x55)])]) w51 = .ok (.tuple #[]) w56 ∧
 (∃ (J57 : World → Prop),
 (∀ (w58 : World), J57 w58 →
 ∃ (x59 : Int), w58.cell? (b30.add 0) = some (.int .i64 x59) ∧
 (∃ (x60 : Int), w58.cell? (b30.add 1) = some (.int .i64 x60) ∧
 (Calls Tryz.prog 50 #[(.pointer o1), (.agg #[(.int .i64 x59), (.int .i64 x60)])] w58 fun e62 w61 =>
 e62 = .returned (.tuple #[]) ∧
 (K 0 w61)))) ∧
 (DrewK w56 fun w63 =>
 AddrK o1 fun b64 =>
 ∃ (m65 : Option Nat), w63.cell? (b64.add 6) = some (.map m65) ∧
 (∃ (x66 : Int), w63.cell? (b30.add 0) = some (.int .i64 x66) ∧
 (∃ (x67 : Int), w63.cell? (b30.add 1) = some (.int .i64 x67) ∧
 (∃ (x68 : Int), w63.cell? (b14.add 4) = some (.int .i64 x68) ∧
 ((∃ (x69 : Int), ∃ (w70 : World), Sem.run Tryz.prog (Instr.lookup 64 (.map m65) (.agg #[(.int .i64 x66), (.int .i64 x67)]) false) w63 = .ok (.int .i64 x69) w70 ∧
 (Cel w63 w70 ∧
 (∃ (x71 : Int), ∃ (x72 : Int), ∃ (w73 : World), Sem.run Tryz.prog (Instr.mapEntry 64 (.map m65) (.agg #[(.int .i64 x66), (.int .i64 x67)])) w70 = .ok (.tuple #[(.int .i64 x71), (.int .i64 x72)]) w73 ∧
 (Cel w63 w73 ∧
 (∃ (w74 : World), Sem.run Tryz.prog (Instr.entryStore 64 (.map m65) (.int .i64 x72) (.int .i64 (IntKind.wrap .i64 (x69 + x68)))) w73 = .ok () w74 ∧
 (J57 w74)))))) ∧
 (∃ (x75 : Int), ∃ (x76 : Int), ∃ (w77 : World), Sem.run Tryz.prog (Instr.mapEntry 64 (.map m65) (.agg #[(.int .i64 x66), (.int .i64 x67)])) w63 = .ok (.tuple #[(.int .i64 x75), (.int .i64 x76)]) w77 ∧
 (Cel w63 w77 ∧
 (∃ (x78 : Int), ∃ (w79 : World), Sem.run Tryz.prog (Instr.lookup 64 (.map m65) (.agg #[(.int .i64 x66), (.int .i64 x67)]) false) w77 = .ok (.int .i64 x78) w79 ∧
 (Cel w63 w79 ∧
 (∃ (w80 : World), Sem.run Tryz.prog (Instr.entryStore 64 (.map m65) (.int .i64 x76) (.int .i64 (IntKind.wrap .i64 (x78 + x68)))) w79 = .ok () w80 ∧
 (J57 w80))))))))))))))))
 (BoolK ((s34 : ByteArray).toList == ((⟨#[112, 97, 115, 115]⟩ : ByteArray) : ByteArray).toList)
 (DrewK w36 fun w81 =>
 AddrK o1 fun b82 =>
 ∃ (m83 : Option Nat), w81.cell? (b82.add 6) = some (.map m83) ∧
 (∃ (x84 : Int), w81.cell? (b30.add 0) = some (.int .i64 x84) ∧
 (∃ (x85 : Int), w81.cell? (b30.add 1) = some (.int .i64 x85) ∧
 (∃ (x86 : Int), w81.cell? (b14.add 4) = some (.int .i64 x86) ∧
 ((∃ (x87 : Int), ∃ (w88 : World), Sem.run Tryz.prog (Instr.lookup 64 (.map m83) (.agg #[(.int .i64 x84), (.int .i64 x85)]) false) w81 = .ok (.int .i64 x87) w88 ∧
 (Cel w81 w88 ∧
 (∃ (x89 : Int), ∃ (x90 : Int), ∃ (w91 : World), Sem.run Tryz.prog (Instr.mapEntry 64 (.map m83) (.agg #[(.int .i64 x84), (.int .i64 x85)])) w88 = .ok (.tuple #[(.int .i64 x89), (.int .i64 x90)]) w91 ∧
 (Cel w81 w91 ∧
 (∃ (w92 : World), Sem.run Tryz.prog (Instr.entryStore 64 (.map m83) (.int .i64 x90) (.int .i64 (IntKind.wrap .i64 (x87 + x86)))) w91 = .ok () w92 ∧
 (K 0 w92)))))) ∧
 (∃ (x93 : Int), ∃ (x94 : Int), ∃ (w95 : World), Sem.run Tryz.prog (Instr.mapEntry 64 (.map m83) (.agg #[(.int .i64 x84), (.int .i64 x85)])) w81 = .ok (.tuple #[(.int .i64 x93), (.int .i64 x94)]) w95 ∧
 (Cel w81 w95 ∧
 (∃ (x96 : Int), ∃ (w97 : World), Sem.run Tryz.prog (Instr.lookup 64 (.map m83) (.agg #[(.int .i64 x84), (.int .i64 x85)]) false) w95 = .ok (.int .i64 x96) w97 ∧
 (Cel w81 w97 ∧
 (∃ (w98 : World), Sem.run Tryz.prog (Instr.entryStore 64 (.map m83) (.int .i64 x94) (.int .i64 (IntKind.wrap .i64 (x96 + x86)))) w97 = .ok () w98 ∧
 (K 0 w98)))))))))))
 (BoolK ((s34 : ByteArray).toList == ((⟨#[98, 97, 99, 107]⟩ : ByteArray) : ByteArray).toList)
 (DrewK w36 fun w99 =>
 AddrK o25 fun b100 =>
 ∃ (x101 : Int), w99.cell? (b100.add 2) = some (.int .i64 x101) ∧
 (∃ (x102 : Int), w99.cell? (b14.add 4) = some (.int .i64 x102) ∧
 (AddrK o25 fun b103 =>
 SetK w99 (b103.add 2) (.int .i64 (IntKind.wrap .i64 (x101 - x102))) fun w104 =>
 K 0 w104)))
 (BoolK ((s34 : ByteArray).toList == ((⟨#[114, 101, 110, 101, 119]⟩ : ByteArray) : ByteArray).toList)
 (AddrK o25 fun b105 =>
 ∃ (p106 : Bool), w36.cell? (b105.add 4) = some (.bool p106) ∧
 (BoolK p106
 (∃ (x107 : Int), w36.cell? (b14.add 1) = some (.int .i64 x107) ∧
 (∃ (x108 : Int), w36.cell? b14 = some (.int .i64 x108) ∧
 (∃ (x109 : Int), w36.cell? (b14.add 3) = some (.int .i64 x109) ∧
 (Calls Tryz.prog 48 #[(.pointer o1), (.int .i64 x107), (.int .i64 x108), (.string (⟨#[103, 111, 110, 101]⟩ : ByteArray)), (.int .i64 x109), (.int .i64 0)] w36 fun e111 w110 =>
 e111 = .returned (.tuple #[]) ∧
 (K 0 w110)))))
 (DrewK w36 fun w112 =>
 AddrK o1 fun b113 =>
 ∃ (a114 : Option Addr) (l114 : Nat) (c114 : Nat), w112.cell? (b113.add 3) = some (.slice a114 l114 c114) ∧
 (AddrK o25 fun b115 =>
 ∃ (x116 : Int), w112.cell? b115 = some (.int .i64 x116) ∧
 ((0 ≤ (x116 : Int) ∧ (x116 : Int) < (l114 : Nat)) ∧
 AddrK a114 fun b117 =>
 ∃ (x118 : Int), w112.cell? (b117.add ((x116 : Int).toNat * 1)) = some (.int .i64 x118) ∧
 (AddrK o25 fun b119 =>
 SetK w112 (b119.add 3) (.int .i64 x118) fun w120 =>
 K 0 w120))))))
 (BoolK ((s34 : ByteArray).toList == ((⟨#[103, 111, 110, 101]⟩ : ByteArray) : ByteArray).toList)
 (DrewK w36 fun w121 =>
 AddrK o1 fun b122 =>
 ∃ (m123 : Option Nat), w121.cell? (b122.add 7) = some (.map m123) ∧
 (AddrK o1 fun b124 =>
 ∃ (m125 : Option Nat), w121.cell? (b124.add 9) = some (.map m125) ∧
 (AllocK w121 (#[(.map m123), (.map m125)]) 65 fun b126 w127 =>
 Cel w121 w127 ∧
 (∃ (I128 : Int → World → Prop) (μ129 : Int → World → Nat),
 (I128 0 w127 ∧ True) ∧
 ∀ (w130 : World) (x131 : Int), I128 x131 w130 →
 BoolK (decide ((x131 : Int) < (2 : Nat)))
 ((0 ≤ (x131 : Int) ∧ (x131 : Int) < (2 : Nat)) ∧
 ∃ (m132 : Option Nat), w130.cell? (b126.add ((x131 : Int).toNat * 1)) = some (.map m132) ∧
 (∃ (x133 : Int), w130.cell? (b30.add 0) = some (.int .i64 x133) ∧
 (∃ (x134 : Int), w130.cell? (b30.add 1) = some (.int .i64 x134) ∧
 (∃ (w135 : World), Sem.run Tryz.prog (Builtin.delete_ #[65, 82] 0 #[(.map m132), (.agg #[(.int .i64 x133), (.int .i64 x134)])]) w130 = .ok (.tuple #[]) w135 ∧
 (I128 (IntKind.wrap .i64 (x131 + 1)) w135 ∧ μ129 (IntKind.wrap .i64 (x131 + 1)) w135 < μ129 x131 w130)))))
 (DrewK w130 fun w136 =>
 AddrK o1 fun b137 =>
 ∃ (m138 : Option Nat), w136.cell? (b137.add 6) = some (.map m138) ∧
 (∃ (x139 : Int), w136.cell? (b30.add 0) = some (.int .i64 x139) ∧
 (∃ (x140 : Int), w136.cell? (b30.add 1) = some (.int .i64 x140) ∧
 (∃ (w141 : World), Sem.run Tryz.prog (Builtin.delete_ #[64, 82] 0 #[(.map m138), (.agg #[(.int .i64 x139), (.int .i64 x140)])]) w136 = .ok (.tuple #[]) w141 ∧
 (DrewK w141 fun w142 =>
 AddrK o1 fun b143 =>
 ∃ (m144 : Option Nat), w142.cell? (b143.add 10) = some (.map m144) ∧
 (∃ (x145 : Int), w142.cell? (b30.add 0) = some (.int .i64 x145) ∧
 (∃ (x146 : Int), w142.cell? (b30.add 1) = some (.int .i64 x146) ∧
 (∃ (w147 : World), Sem.run Tryz.prog (Builtin.delete_ #[66, 82] 0 #[(.map m144), (.agg #[(.int .i64 x145), (.int .i64 x146)])]) w142 = .ok (.tuple #[]) w147 ∧
 (DrewK w147 fun w148 =>
 AddrK o1 fun b149 =>
 ∃ (m150 : Option Nat), w148.cell? (b149.add 8) = some (.map m150) ∧
 (∃ (x151 : Int), w148.cell? (b30.add 0) = some (.int .i64 x151) ∧
 (∃ (x152 : Int), w148.cell? (b30.add 1) = some (.int .i64 x152) ∧
 (∃ (w153 : World), Sem.run Tryz.prog (Instr.mapUpdate 65 (.map m150) (.agg #[(.int .i64 x151), (.int .i64 x152)]) (.bool true)) w148 = .ok () w153 ∧
 (K 0 w153)))))))))))))))))
 (K 0 w36))))))) ∧
 (BoolK ((s34 : ByteArray).toList == ((⟨#[97, 115, 107]⟩ : ByteArray) : ByteArray).toList)
 (J35 ((s34 : ByteArray).toList == ((⟨#[97, 115, 107]⟩ : ByteArray) : ByteArray).toList) w33)
 (J35 ((s34 : ByteArray).toList == ((⟨#[109, 111, 114, 101]⟩ : ByteArray) : ByteArray).toList) w33)))))))))
def ann15 : Ann := (.two .nil (.two .nil (.two (.two .nil (.two (.two .nil .nil) .nil)) (.two .nil (.two .nil (.two (.two .nil (.one (.cut [(31, (.one .bool))] [0, 5, 7, 8, 30] (.two .nil (.two .nil .nil)) (.two (.two (.two .nil (.two (.two .nil .nil) .nil)) .nil) (.two .nil (.two (.two (.any 5 (.take 0 (.take 1 (.take 2 (.take 3 (.take 4 .done)))))) (.cut [] [0, 8] (.any 11 (.take 0 (.take 1 (.take 2 (.take 3 (.take 4 (.take 6 (.take 7 (.both 5 (.take 8 (.one 9 (.take 10 .done))) (.one 9 (.take 10 (.one 5 (.take 8 .done))))))))))))) .nil)) (.two .nil (.two (.any 11 (.take 0 (.take 1 (.take 2 (.take 3 (.take 4 (.take 6 (.take 7 (.both 5 (.take 8 (.one 9 (.take 10 .done))) (.one 9 (.take 10 (.one 5 (.take 8 .done))))))))))))) (.two .nil (.two (.any 9 (.take 0 (.take 1 (.take 2 (.take 3 (.take 4 (.take 5 (.take 6 (.take 7 (.take 8 .done)))))))))) (.two .nil (.two (.two (.two .nil (.two (.two .nil .nil) .nil)) (.any 13 (.take 0 (.take 1 (.take 2 (.take 3 (.take 4 (.take 5 (.take 6 (.take 7 (.take 8 (.take 9 (.take 10 (.take 11 (.take 12 .done))))))))))))))) (.two .nil (.two (.two (.two (.any 11 (.take 0 (.take 1 (.take 2 (.take 3 (.take 4 (.take 5 (.take 6 (.take 7 (.take 10 (.one 8 (.take 9 .done)))))))))))) (.one (.loop [(137, (.one (.int .i64)))] [0, 8, 135, 136] (.two .nil (.two (.two .nil .nil) (.two (.one (.two .nil .nil)) .nil)))))) (.two (.any 5 (.take 0 (.take 1 (.take 2 (.take 3 (.take 4 .done)))))) (.two (.any 5 (.take 0 (.take 1 (.take 2 (.take 3 (.take 4 .done)))))) (.any 5 (.take 0 (.take 1 (.take 2 (.take 3 (.take 4 .done))))))))) .nil)))))))))))))) (.two .nil .nil)))))))
noncomputable def code15 : Code := match Tryz.f15.body with | some c => c | none => .skip
theorem wp15 (o1 : Option Addr) (x2 : Int) (K : Int → World → Prop) (w : World) : WP Tryz.prog tab code15 ann15 (fnQ tab Tryz.f15.results.toList [(.one (.int .i64))] K) (argE 0 [(.pointer o1), (.int .i64 x2)]) w = N15 o1 x2 K w := by kernel_rfl
theorem calls15 (o1 : Option Addr) (x2 : Int) (K : Int → World → Prop) (w : World) (h : N15 o1 x2 K w) : Calls Tryz.prog 15 #[(.pointer o1), (.int .i64 x2)] w fun en w' => ∃ (x154 : Int), en = .returned (.int .i64 x154) ∧ K x154 w' :=
 have e : (fun en w' => ExShs [(.one (.int .i64))] fun vs => en = .returned (tupled vs) ∧ ap [(.one (.int .i64))] K vs fun p => p w') = (fun (en : Ending) (w' : World) => ∃ (x154 : Int), en = .returned (.int .i64 x154) ∧ K x154 w') := by kernel_rfl
 e ▸ fn_sound tabOk mixed Tryz.func15 (by kernel_rfl : Tryz.f15.body = some code15) ann15 [(.pointer o1), (.int .i64 x2)] [(.one (.int .i64))] K w (by kernel_rfl) ((wp15 o1 x2 K w).symm ▸ h)
end Go.Proofs.YtgggbmikmmljcaaGreat

namespace Go.Proofs.YtgggbmikmmljcaaGreat
open Go Go.V Go.Proofs
open Go.RowKit (Below)
def isK (s k : ByteArray) : Bool := s.toList == k.toList
structure Safe (S : CS) : Prop extends Lim2 S where
  own : ∀ t ∈ S.things, S.isS t.owner
  out : ∀ t ∈ S.things, 0 ≤ t.out ∧ t.out ≤ 2000000000000000000
  prox : ∀ k, 0 ≤ S.prox k ∧ S.prox k ≤ 2000000000000000000
  flyE : ∀ m ∈ S.fly, S.isT m.ent ∧ 0 ≤ m.n ∧ m.n ≤ 1000000000000000000
  wl : ∀ k, S.fly.length + (S.waits k).length ≤ 1000000000
def CS.pay (S : CS) (k : Int × Int) (n : Int) : CS := { S with prox := upd S.prox k (S.prox k + n) }
def CS.unask (S : CS) (k : Int × Int) : CS := { S with asked := upd S.asked k false }
def CS.goneM (S : CS) (k : Int × Int) : CS := { S with asked := upd S.asked k false, more := upd S.more k false, prox := upd S.prox k 0, waits := upd S.waits k [], gone := upd S.gone k true }
def CS.backM (S : CS) (x n : Int) : CS := S.setTh (x - 1).toNat { S.th x with out := (S.th x).out - n }
def CS.renewM (S : CS) (x : Int) : CS := S.setTh (x - 1).toNat { S.th x with heard := S.clocks.getD (S.th x).owner.toNat 0 }
def TakeOk (S : CS) (m : Msg) (S' : CS) : Prop :=
  if (isK m.kind kAsk || isK m.kind kMore) = true then ∃ s, StateOk S m.ent s ∧ (if isK s kLive = true then S' = S.give m.frm kGive m.ent (S.th m.ent) else S' = S.send ⟨m.to, m.frm, kGone, m.ent, 0⟩)
  else if isK m.kind kGive = true then S' = ((S.unask (m.to, m.ent)).pay (m.to, m.ent) m.n).again (m.to, m.ent)
  else if isK m.kind kPass = true then S' = S.pay (m.to, m.ent) m.n
  else if isK m.kind kBack = true then S' = S.backM m.ent m.n
  else if isK m.kind kRenew = true then (if (S.th m.ent).expired = true then S' = S.send ⟨m.to, m.frm, kGone, m.ent, 0⟩ else S' = S.renewM m.ent)
  else if isK m.kind kGone = true then S' = S.goneM (m.to, m.ent)
  else S' = S
section
variable {w w' w2 : World} {own own' : OwnM Role} {r : Raw} {S : CS}
theorem CS.th_mem {x : Int} (h : S.isT x) : S.th x ∈ S.things := by
  rw [CS.th_get (i := (x - 1).toNat) (by have := h.1; have := h.2; omega) rfl]; exact List.getElem_mem _
theorem CS.th_get? {x : Int} (h : S.isT x) : S.things[(x - 1).toNat]? = some (S.th x) := by
  have := h.1; have := h.2
  rw [List.getElem?_eq_getElem (by omega), CS.th_get (by omega) rfl]
theorem CS.take_len (S : CS) (k : Nat) : (S.take k).fly.length ≤ S.fly.length := by simp [CS.take, List.length_eraseIdx]; split <;> omega
theorem Safe.take (h : Safe S) (k : Nat) : Safe (S.take k) where
  th := h.th
  fly := Nat.le_trans (S.take_len k) h.fly
  on := h.on
  own := h.own
  out := h.out
  prox := h.prox
  flyE := fun m hm => h.flyE m (List.mem_of_mem_eraseIdx hm)
  wl := fun k2 => by have := h.wl k2; have := S.take_len k; show (S.take k).fly.length + (S.waits k2).length ≤ _; omega
def DelOk (S : CS) (k : Int) (e : Int) (S' : CS) : Prop := (¬ (0 ≤ k ∧ k < S.fly.length) ∧ e = 2 ∧ S' = S) ∨ (∃ m, 0 ≤ k ∧ S.fly[k.toNat]? = some m ∧ e = 0 ∧ TakeOk (S.take k.toNat) m S')
theorem c15 (h : CR w own r S) (G : Safe S) (k : Int) : Calls Tryz.prog 15 #[cp r, .int .i64 k] w fun en w' => ∃ e, en = .returned (.int .i64 e) ∧ (∃ S', DelOk S k e S' ∧ PostC own r w S' w') := by
  refine calls15 _ _ (fun e w' => ∃ S', DelOk S k e S' ∧ PostC own r w S' w') w ?_
  refine (c47 h G.toLim k).mono ?_
  rintro en w12 ⟨x3, x4, s5, x6, x7, x8, x9, a10, l10, c10, x11, rfl, hR⟩
  refine ⟨_, _, _, _, _, _, _, _, _, _, _, rfl, ?_⟩
  refine AllocK.mk fun b w4 hb hB hx4 => ?_
  rcases hR with ⟨h1, rfl, h2⟩ | ⟨m, h1, hm, rfl, rfl, rfl, rfl, rfl, rfl, own1, r1, g12, f12, e12⟩
  · refine Go.Proofs.YtgggbmikmmljcaaGreat.set8 hB rfl fun w23 _ but => BoolK.mk (fun _ => ?_) (fun t => by cases t)
    refine ⟨S, .inl ⟨h1, rfl, rfl⟩, ?_⟩
    have hx : Ext w w23 := but.below (h2.trans hx4) (by have := h2.size; omega)
    exact PostC.mk (h.ext hx) (Fr.of_ext own hx) rfl
  have g4 := g12.ext hx4
  refine CR.set8 g4 ⟨hB, g12.top b (by omega)⟩ rfl fun w23 g23 bx23 but => BoolK.mk (fun t => by cases t) (fun _ => ?_)
  have F23 : Fr own own1 w w23 := Fr.but (f12.trans (Fr.of_ext _ hx4)) but (by have := f12.size; omega)
  clear but hB hb
  have G' := G.take k.toNat
  have hmem : m ∈ S.fly := List.mem_of_getElem? hm
  obtain ⟨hT, hn0, hn1⟩ := G.flyE m hmem
  have hT : (S.take k.toNat).isT m.ent := hT
  have fin : ∀ {w33}, Ext w23 w33 → ∀ {S' w'}, TakeOk (S.take k.toNat) m S' → PostC own1 r1 w33 S' w' → ∃ S', DelOk S k 0 S' ∧ PostC own r w S' w' := by
    rintro w33 hx33 S' w' hTk ⟨own2, r2, q1, q2, q3⟩
    exact ⟨S', .inr ⟨m, h1, hm, rfl, hTk⟩, own2, r2, q1, (F23.trans (Fr.of_ext _ hx33)).trans q2, q3.trans e12⟩
  refine ⟨_, bx23.at_ 3 rfl, ?_⟩
  obtain ⟨rb, cl, ca, th, fl, mp, ma, mg, mm, mw, ths, wts⟩ := r1
  cases e12
  refine (cAt g23 hT G'.th).mono ?_
  rintro en w26 ⟨o, rfl, rfl, g, s, rfl, hg, hgo, hc, hr⟩
  refine ⟨_, rfl, _, bx23.at_ 1 rfl, _, bx23.at_ 3 rfl, ?_⟩
  refine KB.new2 g23 (m.to, m.ent) fun b30 w33 g33 kb hx33 => ?_
  have bx := bx23.ext hx33
  refine ⟨_, bx.at_ 2 rfl, ?_⟩
  have fin : ∀ {S' w'}, TakeOk (S.take k.toNat) m S' → PostC own1 _ w33 S' w' → ∃ S', DelOk S k 0 S' ∧ PostC own r w S' w' := fin hx33
  refine ⟨fun p w' => p = (isK m.kind kAsk || isK m.kind kMore) ∧ w' = w33, ?_, BoolK.mk (fun t => ⟨?_, rfl⟩) (fun t => ⟨?_, rfl⟩)⟩
  rotate_left
  · show isK m.kind kAsk = _; rw [show isK m.kind kAsk = true from t]; rfl
  · show isK m.kind kMore = _; rw [show isK m.kind kAsk = false from t]; rfl
  rintro w36 p ⟨rfl, rfl⟩
  refine BoolK.mk (fun tA => ?_) (fun tA => BoolK.mk (fun (tG : isK m.kind kGive = true) => ?_) (fun (tG : isK m.kind kGive = false) => BoolK.mk (fun (tP : isK m.kind kPass = true) => ?_) (fun (tP : isK m.kind kPass = false) =>
    BoolK.mk (fun (tB : isK m.kind kBack = true) => ?_) (fun (tB : isK m.kind kBack = false) => BoolK.mk (fun (tR : isK m.kind kRenew = true) => ?_) (fun (tR : isK m.kind kRenew = false) => BoolK.mk (fun (tO : isK m.kind kGone = true) => ?_) (fun (tO : isK m.kind kGone = false) => ?_))))))
  · -- ask, more
    refine ⟨_, bx.at_ 3 rfl, ?_⟩
    refine (c13 g33 G'.toLim2 m.ent).mono ?_
    rintro en w40 ⟨s, rfl, hs, hx40⟩
    have g40 := g33.ext hx40
    have bx := bx.ext hx40
    refine ⟨_, rfl, BoolK.mk (fun (t : (!isK s kLive) = true) => ?_) (fun (t : (!isK s kLive) = false) => ?_)⟩
    · have t : isK s kLive = false := by simpa using t
      refine ⟨_, bx.at_ 1 rfl, _, bx.at0 rfl, _, bx.at_ 3 rfl, ?_⟩
      refine (c48 g40 _ _ _ _ _ G'.fly).mono ?_
      rintro en w45 ⟨rfl, own', s', h45, fr⟩
      refine ⟨rfl, fin (by unfold TakeOk; rw [if_pos tA]; exact ⟨s, hs, by rw [if_neg (by rw [t]; simp)]⟩) ?_⟩
      exact PostC.mk h45 ((Fr.of_ext _ hx40).trans fr) rfl
    · have t : isK s kLive = true := by simpa using t
      refine ⟨_, bx.at0 rfl, _, bx.at_ 3 rfl, ?_⟩
      have ho := G'.own _ (CS.th_mem hT)
      have hu := G'.out _ (CS.th_mem hT)
      refine (c49 g40 m.frm kGive hT.1 hT.2 G'.th G'.fly (CS.th_get? hT) ho ⟨by omega, by omega⟩).mono ?_
      rintro en w45 ⟨rfl, own', r', h45, fr, er⟩
      refine ⟨rfl, fin (by unfold TakeOk; rw [if_pos tA]; exact ⟨s, hs, by rw [if_pos t]⟩) ?_⟩
      exact PostC.mk h45 ((Fr.of_ext _ hx40).trans fr) er
  · -- give
    refine DrewK.mk fun w51 hx51 => ?_
    have g51 := g33.ext hx51
    have kb := kb.ext hx51
    obtain ⟨w56, q1, g56, u1⟩ := g51.delAsked (m.to, m.ent)
    refine ⟨_, g51.cell 7 rfl, _, kb.c0, _, kb.c1, w56, q1, ?_⟩
    have bx := (bx.ext hx51).fr u1.fr
    have kb := kb.fr u1.fr
    have hp := G'.prox (m.to, m.ent)
    have ew : IntKind.wrap .i64 ((S.take k.toNat).prox (m.to, m.ent) + m.n) = (S.take k.toNat).prox (m.to, m.ent) + m.n := by rw [wrap_id] <;> omega
    refine ⟨fun w' => CR w' own1 ⟨r.b, cl, ca, th, fl, mp, ma, mg, mm, mw, ths, wts⟩ (((S.take k.toNat).unask (m.to, m.ent)).pay (m.to, m.ent) m.n) ∧ Fr own1 own1 w36 w' ∧ KB own1 w' b30 (m.to, m.ent), ?_, DrewK.mk fun w63 hx63 => ?_⟩
    · rintro w58 ⟨g58, f58, kb⟩
      refine ⟨_, kb.c0, _, kb.c1, ?_⟩
      have hwl := G'.wl (m.to, m.ent)
      refine (c50 g58 (m.to, m.ent) hT ⟨G'.th, G'.fly⟩ hwl (by show 0 ≤ upd _ _ _ _; rw [upd, if_pos rfl]; show 0 ≤ (S.take k.toNat).prox _ + _; omega) (by show upd _ _ _ _ ≤ _; rw [upd, if_pos rfl]; show (S.take k.toNat).prox _ + _ ≤ _; omega)).mono ?_
      rintro en w61 ⟨rfl, own2, r2, p1, p2, p3⟩
      refine ⟨rfl, fin (by unfold TakeOk; rw [if_neg (by rw [tA]; simp), if_pos tG]) ⟨own2, r2, p1, f58.trans p2, p3⟩⟩
    · have g63 := g56.ext hx63
      have kb := kb.ext hx63
      have bx := bx.ext hx63
      obtain ⟨x, st, w1, p1, p2, p3, w2, p4, p5, u2⟩ := g63.entProx (m.to, m.ent) ((S.take k.toNat).prox (m.to, m.ent) + m.n)
      have f : Fr own1 own1 w36 w2 := (((Fr.of_ext _ hx51).trans u1.fr).trans (Fr.of_ext _ hx63)).trans u2.fr
      have kb2 := kb.fr u2.fr
      refine ⟨_, g63.cell 6 rfl, _, kb.c0, _, kb.c1, _, bx.at_ 4 rfl, ⟨_, _, g63.lkProx (m.to, m.ent), Cel.refl _, _, _, _, p1, p2, w2, ?_, p5, f, kb2⟩, ⟨_, _, _, p1, p2, _, _, p3, p2, w2, ?_, p5, f, kb2⟩⟩
      · rw [← p4]; exact congrArg (fun v => Sem.run Tryz.prog (Instr.entryStore _ _ _ (.int .i64 v)) w1) ew
      · rw [← p4]; exact congrArg (fun v => Sem.run Tryz.prog (Instr.entryStore _ _ _ (.int .i64 v)) w1) ew
  · -- pass
    refine DrewK.mk fun w81 hx81 => ?_
    have g81 := g33.ext hx81
    have kb := kb.ext hx81
    have bx := bx.ext hx81
    have hp := G'.prox (m.to, m.ent)
    have ew : IntKind.wrap .i64 ((S.take k.toNat).prox (m.to, m.ent) + m.n) = (S.take k.toNat).prox (m.to, m.ent) + m.n := by rw [wrap_id] <;> omega
    obtain ⟨x, st, w1, p1, p2, p3, w2, p4, p5, u2⟩ := g81.entProx (m.to, m.ent) ((S.take k.toNat).prox (m.to, m.ent) + m.n)
    have done : ∃ S', DelOk S k 0 S' ∧ PostC own r w S' w2 := fin (by unfold TakeOk; rw [if_neg (by rw [tA]; simp), if_neg (by rw [tG]; simp), if_pos tP]; rfl) (PostC.mk (p5 : CR w2 own1 ⟨r.b, cl, ca, th, fl, mp, ma, mg, mm, mw, ths, wts⟩ ((S.take k.toNat).pay (m.to, m.ent) m.n)) ((Fr.of_ext _ hx81).trans u2.fr) rfl)
    refine ⟨_, g81.cell 6 rfl, _, kb.c0, _, kb.c1, _, bx.at_ 4 rfl, ⟨_, _, g81.lkProx (m.to, m.ent), Cel.refl _, _, _, _, p1, p2, w2, ?_, done⟩, ⟨_, _, _, p1, p2, _, _, p3, p2, w2, ?_, done⟩⟩
    · rw [← p4]; exact congrArg (fun v => Sem.run Tryz.prog (Instr.entryStore _ _ _ (.int .i64 v)) w1) ew
    · rw [← p4]; exact congrArg (fun v => Sem.run Tryz.prog (Instr.entryStore _ _ _ (.int .i64 v)) w1) ew
  · -- back
    have hu := G'.out _ (CS.th_mem hT)
    refine DrewK.mk fun w99 hx99 => ?_
    have g99 := g33.ext hx99
    have bx := bx.ext hx99
    have hx := hx33.trans hx99
    refine ⟨_, by rw [add_mk]; exact hx.cell ((hc 2 (by omega)).trans rfl), _, bx.at_ 4 rfl, ?_⟩
    show SetK w99 ((⟨g, (m.ent - 1).toNat * 7, none⟩ : Addr).add 2) _ _
    rw [add_mk]
    have ew : IntKind.wrap .i64 (((S.take k.toNat).th m.ent).out - m.n) = ((S.take k.toNat).th m.ent).out - m.n := by rw [wrap_id] <;> omega
    rw [ew]
    refine g99.setF hT hg 2 (by omega) { (S.take k.toNat).th m.ent with out := ((S.take k.toNat).th m.ent).out - m.n } (fun s => rfl) rfl fun w104 r' g104 er _ u => ?_
    exact fin (by unfold TakeOk; rw [if_neg (by rw [tA]; simp), if_neg (by rw [tG]; simp), if_neg (by rw [tP]; simp), if_pos tB]; rfl) (PostC.mk g104 ((Fr.of_ext _ hx99).trans u.fr) er)
  · -- renew
    refine ⟨_, by rw [add_mk]; exact hx33.cell ((hc 4 (by omega)).trans rfl), BoolK.mk (fun tE => ?_) (fun tE => ?_)⟩
    · refine ⟨_, bx.at_ 1 rfl, _, bx.at0 rfl, _, bx.at_ 3 rfl, ?_⟩
      refine (c48 g33 _ _ _ _ _ G'.fly).mono ?_
      rintro en w45 ⟨rfl, own', s', h45, fr⟩
      exact ⟨rfl, fin (by unfold TakeOk; rw [if_neg (by rw [tA]; simp), if_neg (by rw [tG]; simp), if_neg (by rw [tP]; simp), if_neg (by rw [tB]; simp), if_pos tR, if_pos tE]; rfl) (PostC.mk h45 fr rfl)⟩
    · refine DrewK.mk fun w112 hx112 => ?_
      have g112 := g33.ext hx112
      have hx := hx33.trans hx112
      obtain ⟨ho0, ho1⟩ := G'.own _ (CS.th_mem hT)
      have hlen := g112.clocks.len
      obtain ⟨gc, lc, cc, hsc, hoc, hgc, hcc⟩ := g112.clocks.at_ (i := ((S.take k.toNat).th m.ent).owner.toNat) eI_len (by omega)
      refine ⟨_, _, _, g112.cell 3 rfl, _, hx.cell ((hc 0 (by omega)).trans rfl), ⟨by omega, by omega⟩, ?_⟩
      simp only at hsc
      rw [hsc]
      refine ⟨(S.take k.toNat).clocks.getD ((S.take k.toNat).th m.ent).owner.toNat 0, ?_, ?_⟩
      · rw [add_mk, Nat.zero_add, getD_get (by omega)]; exact (hcc 0 (by omega)).trans rfl
      show SetK w112 ((⟨g, (m.ent - 1).toNat * 7, none⟩ : Addr).add 3) _ _
      rw [add_mk]
      refine g112.setF hT hg 3 (by omega) { (S.take k.toNat).th m.ent with heard := (S.take k.toNat).clocks.getD ((S.take k.toNat).th m.ent).owner.toNat 0 } (fun s => rfl) rfl fun w120 r' g120 er _ u => ?_
      exact fin (by unfold TakeOk; rw [if_neg (by rw [tA]; simp), if_neg (by rw [tG]; simp), if_neg (by rw [tP]; simp), if_neg (by rw [tB]; simp), if_pos tR, if_neg (by rw [tE]; simp)]; rfl) (PostC.mk g120 ((Fr.of_ext _ hx112).trans u.fr) er)
  · -- gone
    refine DrewK.mk fun w121 hx121 => ?_
    have g121 := g33.ext hx121
    have kb := kb.ext hx121
    refine ⟨_, g121.cell 7 rfl, _, g121.cell 9 rfl, ?_⟩
    refine BX.new g121 fun b126 w127 g127 bb hx127 => ⟨Below.cel hx127, ?_⟩
    have kb := kb.ext hx127
    let T := S.take k.toNat
    let T1 : CS := { T with asked := upd T.asked (m.to, m.ent) false }
    let T2 : CS := { T1 with more := upd T1.more (m.to, m.ent) false }
    refine ⟨fun i w' => ∃ S1, ((i = 0 ∧ S1 = T) ∨ (i = 1 ∧ S1 = T1) ∨ (i = 2 ∧ S1 = T2)) ∧ CR w' own1 _ S1 ∧ Fr own1 own1 w127 w' ∧ BX own1 w' b126 _ _ ∧ KB own1 w' b30 (m.to, m.ent), fun i _ => 3 - i.toNat, ⟨⟨T, .inl ⟨rfl, rfl⟩, g127, Fr.refl _ _, bb, kb⟩, trivial⟩, ?_⟩
    rintro w130 i ⟨S1, hcase, g130, f130, bb, kb⟩
    refine BoolK.mk (fun ti => ?_) (fun ti => ?_)
    · have ti := of_decide_eq_true ti
      rcases hcase with ⟨rfl, rfl⟩ | ⟨rfl, rfl⟩ | ⟨rfl, rfl⟩
      · obtain ⟨w135, q1, g135, u⟩ := g130.delAsked (m.to, m.ent)
        exact ⟨⟨by omega, by omega⟩, _, bb.at_ 0 rfl, _, kb.c0, _, kb.c1, w135, q1, ⟨T1, .inr (.inl ⟨by decide, rfl⟩), g135, f130.trans u.fr, bb.fr u.fr, kb.fr u.fr⟩, by show 3 - (IntKind.wrap .i64 (0 + 1)).toNat < 3 - (0 : Int).toNat; decide⟩
      · obtain ⟨w135, q1, g135, u⟩ := g130.delMore (m.to, m.ent)
        exact ⟨⟨by omega, by omega⟩, _, bb.at_ 1 rfl, _, kb.c0, _, kb.c1, w135, q1, ⟨T2, .inr (.inr ⟨by decide, rfl⟩), g135, f130.trans u.fr, bb.fr u.fr, kb.fr u.fr⟩, by show 3 - (IntKind.wrap .i64 (1 + 1)).toNat < 3 - (1 : Int).toNat; decide⟩
      · omega
    · have ti := of_decide_eq_false ti
      rcases hcase with ⟨rfl, rfl⟩ | ⟨rfl, rfl⟩ | ⟨rfl, rfl⟩
      · omega
      · omega
      refine DrewK.mk fun w136 hx136 => ?_
      have g136 := g130.ext hx136
      have kb := kb.ext hx136
      obtain ⟨w141, q1, g141, u1⟩ := g136.delProx (m.to, m.ent)
      refine ⟨_, g136.cell 6 rfl, _, kb.c0, _, kb.c1, w141, q1, DrewK.mk fun w142 hx142 => ?_⟩
      have g142 := g141.ext hx142
      have kb := (kb.fr u1.fr).ext hx142
      obtain ⟨w147, q2, g147, u2⟩ := g142.delWaits (m.to, m.ent)
      refine ⟨_, g142.cell 10 rfl, _, kb.c0, _, kb.c1, w147, q2, DrewK.mk fun w148 hx148 => ?_⟩
      have g148 := g147.ext hx148
      have kb := (kb.fr u2.fr).ext hx148
      obtain ⟨w153, q3, g153, u3⟩ := g148.putGone (m.to, m.ent) true
      refine ⟨_, g148.cell 8 rfl, _, kb.c0, _, kb.c1, w153, q3, ?_⟩
      refine fin (by unfold TakeOk; rw [if_neg (by rw [tA]; simp), if_neg (by rw [tG]; simp), if_neg (by rw [tP]; simp), if_neg (by rw [tB]; simp), if_neg (by rw [tR]; simp), if_pos tO]) (PostC.mk (S' := (S.take k.toNat).goneM (m.to, m.ent)) g153 ?_ rfl)
      exact ((((((((Fr.of_ext _ hx121).trans (Fr.of_ext _ hx127)).trans f130).trans (Fr.of_ext _ hx136)).trans u1.fr).trans (Fr.of_ext _ hx142)).trans u2.fr).trans (Fr.of_ext _ hx148)).trans u3.fr
  · -- none of these
    refine fin (by unfold TakeOk; rw [if_neg (by rw [tA]; simp), if_neg (by rw [tG]; simp), if_neg (by rw [tP]; simp), if_neg (by rw [tB]; simp), if_neg (by rw [tR]; simp), if_neg (by rw [tO]; simp)]) (PostC.mk g33 (Fr.refl _ _) rfl)
end
end Go.Proofs.YtgggbmikmmljcaaGreat

namespace Go.Proofs.YtgggbmikmmljcaaGreat
open Go Go.V Go.Proofs
open Go.RowKit (Below)
/-! (*manystrand/count.Count).Pass -/
def N25 (o1 : Option Addr) (x2 : Int) (x3 : Int) (x4 : Int) (K : Int → World → Prop) (w : World) : Prop :=
 AllocK w (#[(.int .i64 x2), (.int .i64 x3)]) 3 fun b5 w6 =>
 Calls Tryz.prog 43 #[(.pointer o1), (.int .i64 x4), (.slice (some b5) 2 2)] w6 fun e9 w8 =>
 ∃ (x7 : Int), e9 = .returned (.int .i64 x7) ∧
 (BoolK ((x7 : Int) != 0)
 (K x7 w8)
 (Calls Tryz.prog 44 #[(.pointer o1), (.int .i64 x4)] w8 fun e12 w11 =>
 ∃ (o10 : Option Addr), e12 = .returned (.pointer o10) ∧
 (AddrK o10 fun b13 =>
 ∃ (x14 : Int), w11.cell? b13 = some (.int .i64 x14) ∧
 (BoolK ((x2 : Int) == x14)
 (Calls Tryz.prog 13 #[(.pointer o1), (.int .i64 x4)] w11 fun e17 w16 =>
 ∃ (s15 : ByteArray), e17 = .returned (.string s15) ∧
 (BoolK (!((s15 : ByteArray).toList == ((⟨#[108, 105, 118, 101]⟩ : ByteArray) : ByteArray).toList))
 (K 200 w16)
 (BoolK ((x3 : Int) != x2)
 (Calls Tryz.prog 49 #[(.pointer o1), (.int .i64 x3), (.string (⟨#[112, 97, 115, 115]⟩ : ByteArray)), (.int .i64 x4)] w16 fun e19 w18 =>
 e19 = .returned (.tuple #[]) ∧
 (K 0 w18))
 (K 0 w16))))
 (AllocK w11 (#[.int .i64 0, .int .i64 0]) 82 fun b20 w21 =>
 SetK w21 (b20.add 0) (.int .i64 x2) fun w22 =>
 SetK w22 (b20.add 1) (.int .i64 x4) fun w23 =>
 DrewK w23 fun w24 =>
 AddrK o1 fun b25 =>
 ∃ (m26 : Option Nat), w24.cell? (b25.add 6) = some (.map m26) ∧
 (∃ (x27 : Int), w24.cell? (b20.add 0) = some (.int .i64 x27) ∧
 (∃ (x28 : Int), w24.cell? (b20.add 1) = some (.int .i64 x28) ∧
 (∃ (x29 : Int), ∃ (w30 : World), Sem.run Tryz.prog (Instr.lookup 64 (.map m26) (.agg #[(.int .i64 x27), (.int .i64 x28)]) false) w24 = .ok (.int .i64 x29) w30 ∧
 (Cel w24 w30 ∧
 (BoolK ((x29 : Int) == 0)
 (K 5 w30)
 (BoolK ((x3 : Int) == x2)
 (K 0 w30)
 (BoolK (decide ((x29 : Int) > 1))
 (∃ (x31 : Int), w30.cell? (b20.add 0) = some (.int .i64 x31) ∧
 (∃ (x32 : Int), w30.cell? (b20.add 1) = some (.int .i64 x32) ∧
 (Calls Tryz.prog 61 #[(.pointer o1), (.agg #[(.int .i64 x31), (.int .i64 x32)]), (.int .i64 x3)] w30 fun e34 w33 =>
 e34 = .returned (.tuple #[]) ∧
 (K 0 w33))))
 (∃ (J35 : World → Prop),
 (∀ (w36 : World), J35 w36 →
 DrewK w36 fun w37 =>
 AddrK o1 fun b38 =>
 ∃ (m39 : Option Nat), w37.cell? (b38.add 9) = some (.map m39) ∧
 (∃ (x40 : Int), w37.cell? (b20.add 0) = some (.int .i64 x40) ∧
 (∃ (x41 : Int), w37.cell? (b20.add 1) = some (.int .i64 x41) ∧
 (∃ (p42 : Bool), ∃ (w43 : World), Sem.run Tryz.prog (Instr.lookup 65 (.map m39) (.agg #[(.int .i64 x40), (.int .i64 x41)]) false) w37 = .ok (.bool p42) w43 ∧
 (Cel w37 w43 ∧
 (BoolK (!p42)
 (∃ (x44 : Int), w43.cell? (b20.add 0) = some (.int .i64 x44) ∧
 (∃ (x45 : Int), w43.cell? (b20.add 1) = some (.int .i64 x45) ∧
 (Calls Tryz.prog 62 #[(.pointer o1), (.agg #[(.int .i64 x44), (.int .i64 x45)])] w43 fun e47 w46 =>
 e47 = .returned (.tuple #[]) ∧
 (K 0 w46))))
 (K 0 w43))))))) ∧
 (DrewK w30 fun w48 =>
 AddrK o1 fun b49 =>
 ∃ (m50 : Option Nat), w48.cell? (b49.add 10) = some (.map m50) ∧
 (∃ (x51 : Int), w48.cell? (b20.add 0) = some (.int .i64 x51) ∧
 (∃ (x52 : Int), w48.cell? (b20.add 1) = some (.int .i64 x52) ∧
 (AllocK w48 (#[(.int .i64 x3)]) 3 fun b53 w54 =>
 Cel w48 w54 ∧
 (∃ (a55 : Option Addr), ∃ (l55 : Nat), ∃ (c55 : Nat), ∃ (x56 : Int), ∃ (w57 : World), Sem.run Tryz.prog (Instr.mapEntry 66 (.map m50) (.agg #[(.int .i64 x51), (.int .i64 x52)])) w54 = .ok (.tuple #[(.slice a55 l55 c55), (.int .i64 x56)]) w57 ∧
 (True ∧
 ((True ∧
 ((∃ (a58 : Option Addr), ∃ (l58 : Nat), ∃ (c58 : Nat), ∃ (w59 : World), Sem.run Tryz.prog (Builtin.append_ #[43, 43] 43 #[(.slice a55 l55 c55), (.slice (some b53) 1 1)]) w57 = .ok (.slice a58 l58 c58) w59 ∧
 (True ∧
 (True ∧
 (∃ (w60 : World), Sem.run Tryz.prog (Instr.entryStore 66 (.map m50) (.int .i64 x56) (.slice a58 l58 c58)) w59 = .ok () w60 ∧
 (True ∧
 (J35 w60)))))) ∧
 (True ∧
 (∃ (a61 : Option Addr), ∃ (l61 : Nat), ∃ (c61 : Nat), ∃ (w62 : World), Sem.run Tryz.prog (Builtin.append_ #[43, 43] 43 #[(.slice a55 l55 c55), (.slice (some b53) 1 1)]) w57 = .ok (.slice a61 l61 c61) w62 ∧
 (True ∧
 (∃ (w63 : World), Sem.run Tryz.prog (Instr.entryStore 66 (.map m50) (.int .i64 x56) (.slice a61 l61 c61)) w62 = .ok () w63 ∧
 (True ∧
 (J35 w63)))))))) ∧
 (True ∧
 (True ∧
 (∃ (a64 : Option Addr), ∃ (l64 : Nat), ∃ (c64 : Nat), ∃ (w65 : World), Sem.run Tryz.prog (Builtin.append_ #[43, 43] 43 #[(.slice a55 l55 c55), (.slice (some b53) 1 1)]) w57 = .ok (.slice a64 l64 c64) w65 ∧
 (True ∧
 (∃ (w66 : World), Sem.run Tryz.prog (Instr.entryStore 66 (.map m50) (.int .i64 x56) (.slice a64 l64 c64)) w65 = .ok () w66 ∧
 (True ∧
 (J35 w66)))))))))))))))))))))))))))
def ann25 : Ann := (.two .nil (.two (.two .nil (.two .nil (.two (.two .nil .nil) .nil))) (.two (.two .nil (.two (.two (.two .nil (.two (.two .nil .nil) .nil)) (.two (.two .nil (.two .nil .nil)) (.two .nil .nil))) .nil)) (.two .nil (.two (.two (.any 7 (.take 0 (.take 1 (.take 2 (.take 3 (.take 4 (.one 5 (.take 6 .done)))))))) (.one (.two .nil (.two (.two .nil .nil) (.two .nil (.two .nil (.two .nil (.two .nil (.cut [] [0, 10] (.any2 7 (.take 0 (.take 1 (.take 2 (.take 3 (.take 4 (.take 5 (.one 6 .done))))))) (.one 7 (.both 8 (.both 9 (.one 10 (.one 11 .done)) (.one 10 (.one 9 (.one 11 .done)))) (.one 10 (.one 8 (.one 9 (.one 11 .done))))))) (.two (.any 7 (.take 0 (.take 1 (.take 2 (.take 3 (.take 4 (.one 5 (.take 6 .done)))))))) (.two .nil .nil))))))))))) (.two .nil .nil))))))
noncomputable def code25 : Code := match Tryz.f25.body with | some c => c | none => .skip
theorem wp25 (o1 : Option Addr) (x2 : Int) (x3 : Int) (x4 : Int) (K : Int → World → Prop) (w : World) : WP Tryz.prog tab code25 ann25 (fnQ tab Tryz.f25.results.toList [(.one (.int .i64))] K) (argE 0 [(.pointer o1), (.int .i64 x2), (.int .i64 x3), (.int .i64 x4)]) w = N25 o1 x2 x3 x4 K w := by kernel_rfl
theorem calls25 (o1 : Option Addr) (x2 : Int) (x3 : Int) (x4 : Int) (K : Int → World → Prop) (w : World) (h : N25 o1 x2 x3 x4 K w) : Calls Tryz.prog 25 #[(.pointer o1), (.int .i64 x2), (.int .i64 x3), (.int .i64 x4)] w fun en w' => ∃ (x67 : Int), en = .returned (.int .i64 x67) ∧ K x67 w' :=
 have e : (fun en w' => ExShs [(.one (.int .i64))] fun vs => en = .returned (tupled vs) ∧ ap [(.one (.int .i64))] K vs fun p => p w') = (fun (en : Ending) (w' : World) => ∃ (x67 : Int), en = .returned (.int .i64 x67) ∧ K x67 w') := by kernel_rfl
 e ▸ fn_sound tabOk mixed Tryz.func25 (by kernel_rfl : Tryz.f25.body = some code25) ann25 [(.pointer o1), (.int .i64 x2), (.int .i64 x3), (.int .i64 x4)] [(.one (.int .i64))] K w (by kernel_rfl) ((wp25 o1 x2 x3 x4 K w).symm ▸ h)
end Go.Proofs.YtgggbmikmmljcaaGreat

namespace Go.Proofs.YtgggbmikmmljcaaGreat
open Go Go.V Go.Proofs
open Go.RowKit (Below)
/-! (*manystrand/count.Count).Drop -/
def N17 (o1 : Option Addr) (x2 : Int) (x3 : Int) (K : Int → World → Prop) (w : World) : Prop :=
 AllocK w (#[(.int .i64 x2)]) 3 fun b4 w5 =>
 Calls Tryz.prog 43 #[(.pointer o1), (.int .i64 x3), (.slice (some b4) 1 1)] w5 fun e8 w7 =>
 ∃ (x6 : Int), e8 = .returned (.int .i64 x6) ∧
 (BoolK ((x6 : Int) != 0)
 (K x6 w7)
 (Calls Tryz.prog 16 #[(.pointer o1), (.int .i64 x2), (.int .i64 x3)] w7 fun e11 w10 =>
 ∃ (p9 : Bool), e11 = .returned (.bool p9) ∧
 (BoolK (!p9)
 (K 5 w10)
 (Calls Tryz.prog 51 #[(.pointer o1), (.int .i64 x2), (.int .i64 x3)] w10 fun e14 w13 =>
 ∃ (p12 : Bool), e14 = .returned (.bool p12) ∧
 (BoolK p12
 (K 100 w13)
 (Calls Tryz.prog 44 #[(.pointer o1), (.int .i64 x3)] w13 fun e17 w16 =>
 ∃ (o15 : Option Addr), e17 = .returned (.pointer o15) ∧
 (AddrK o15 fun b18 =>
 ∃ (x19 : Int), w16.cell? b18 = some (.int .i64 x19) ∧
 (BoolK ((x2 : Int) == x19)
 (Calls Tryz.prog 44 #[(.pointer o1), (.int .i64 x3)] w16 fun e22 w21 =>
 ∃ (o20 : Option Addr), e22 = .returned (.pointer o20) ∧
 (AddrK o20 fun b23 =>
 SetK w21 (b23.add 1) (.bool false) fun w24 =>
 K 0 w24))
 (Calls Tryz.prog 52 #[(.pointer o1), (.agg #[(.int .i64 x2), (.int .i64 x3)])] w16 fun e26 w25 =>
 e26 = .returned (.tuple #[]) ∧
 (K 0 w25))))))))))
def ann17 : Ann := (.two .nil (.two (.two .nil (.two .nil (.two (.two .nil .nil) .nil))) (.two (.one (.two .nil (.two (.two .nil .nil) (.two .nil (.two (.two .nil .nil) (.two .nil (.two .nil .nil))))))) (.two .nil .nil))))
noncomputable def code17 : Code := match Tryz.f17.body with | some c => c | none => .skip
theorem wp17 (o1 : Option Addr) (x2 : Int) (x3 : Int) (K : Int → World → Prop) (w : World) : WP Tryz.prog tab code17 ann17 (fnQ tab Tryz.f17.results.toList [(.one (.int .i64))] K) (argE 0 [(.pointer o1), (.int .i64 x2), (.int .i64 x3)]) w = N17 o1 x2 x3 K w := by kernel_rfl
theorem calls17 (o1 : Option Addr) (x2 : Int) (x3 : Int) (K : Int → World → Prop) (w : World) (h : N17 o1 x2 x3 K w) : Calls Tryz.prog 17 #[(.pointer o1), (.int .i64 x2), (.int .i64 x3)] w fun en w' => ∃ (x27 : Int), en = .returned (.int .i64 x27) ∧ K x27 w' :=
 have e : (fun en w' => ExShs [(.one (.int .i64))] fun vs => en = .returned (tupled vs) ∧ ap [(.one (.int .i64))] K vs fun p => p w') = (fun (en : Ending) (w' : World) => ∃ (x27 : Int), en = .returned (.int .i64 x27) ∧ K x27 w') := by kernel_rfl
 e ▸ fn_sound tabOk mixed Tryz.func17 (by kernel_rfl : Tryz.f17.body = some code17) ann17 [(.pointer o1), (.int .i64 x2), (.int .i64 x3)] [(.one (.int .i64))] K w (by kernel_rfl) ((wp17 o1 x2 x3 K w).symm ▸ h)
end Go.Proofs.YtgggbmikmmljcaaGreat

namespace Go.Proofs.YtgggbmikmmljcaaGreat
open Go Go.V Go.Proofs
open Go.RowKit (Below)
theorem upd_self {K V : Type} [DecidableEq K] (f : K → V) (a : K) : Go.V.upd f a (f a) = f := by
  funext b; unfold Go.V.upd; split
  · rename_i h; rw [h]
  · rfl
def PassOk (S : CS) (frm to x : Int) (S' : CS) : Prop :=
  if usableE S x [frm, to] = 0 then
    (if frm = (S.th x).owner then ∃ s, StateOk S x s ∧ S' = (if isK s kLive = true ∧ to ≠ frm then S.give to kPass x (S.th x) else S)
    else S' = (if S.prox (frm, x) = 0 ∨ to = frm then S else if S.prox (frm, x) > 1 then S.half (frm, x) to
      else if S.more (frm, x) = true then S.putW (frm, x) (S.waits (frm, x) ++ [to]) else (S.putW (frm, x) (S.waits (frm, x) ++ [to])).askM (frm, x)))
  else S' = S
def DropOk (S : CS) (site x : Int) (e : Int) (S' : CS) : Prop :=
  if usableE S x [site] = 0 then
    (if S.holdsE site x = true then (if S.heldE site x = true then e = 100 ∧ S' = S else e = 0 ∧ S' = (if site = (S.th x).owner then S.setTh (x - 1).toNat { S.th x with holds := false } else S.letM (site, x)))
    else e = 5 ∧ S' = S)
  else e = usableE S x [site] ∧ S' = S
section
variable {w w' w2 : World} {own own' : OwnM Role} {r : Raw} {S : CS}
theorem CR.entWaits (h : CR w own r S) (k : Int × Int) (x : Int) {bx : Nat} (hbx : w.cell? ⟨bx, 0, none⟩ = some (.int .i64 x)) (hbn : own bx = none) (hlen : (S.waits k).length ≤ 1000000000) :
    ∃ a l c st w1, Sem.run Tryz.prog (Instr.mapEntry 66 (.map (some r.mw)) (.agg #[.int .i64 k.1, .int .i64 k.2])) w = .ok (.tuple #[.slice a l c, .int .i64 st]) w1 ∧
    ∃ a2 l2 c2 w2, Sem.run Tryz.prog (Builtin.append_ #[43, 43] 43 #[.slice a l c, .slice (some ⟨bx, 0, none⟩) 1 1]) w1 = .ok (.slice a2 l2 c2) w2 ∧
    ∃ w3, Sem.run Tryz.prog (Instr.entryStore 66 (.map (some r.mw)) (.int .i64 st) (.slice a2 l2 c2)) w2 = .ok () w3 ∧ PostC own r w (S.putW k (S.waits k ++ [x])) w3 := by
  obtain ⟨st, w1, q1, hst, b1⟩ := h.waits.entry mapL k
  have u1 := Upd.of_but b1 h.ow
  have h1 : CR w1 own r S := by
    have := h.newWaits (k := k) (s' := r.wts k) (xs := S.waits k) (Upd.refl2 own (.wait k) w) (h.wts k) u1 (by rw [upd_self]; exact MapSt.mapF hst)
    rw [upd_self, upd_self] at this; exact this
  have hbx1 : w1.cell? ⟨bx, 0, none⟩ = some (.int .i64 x) := b1.cell hbx fun e => by
    have e : bx = r.mw := e
    rw [e, h.ow] at hbn; cases hbn
  obtain ⟨s', w2, q2, hr, u2⟩ := RowT.push (ty := 43) (b := bx) (c2 := 1) x sltI (h1.wts k) (by omega) hbx1
  have hst2 := hst.heap (u2.block r.mw hst.lt (by rw [h.ow]; simp))
  obtain ⟨w3, q3, hm, b3⟩ := hst2.store (P := Tryz.prog) (t := 66) s'
  have hw2 : (setOwn own (sblk s') (.wait k)) r.mw = some .waits := (u2.same _ hst.lt).trans h.ow
  have u3 := Upd.of_but b3 hw2
  have h3 := h1.newWaits u2 hr u3 hm
  exact ⟨_, _, _, _, w1, q1, s'.1, s'.2.1, s'.2.2, w2, q2, w3, q3, PostC.mk h3 ((u1.fr.trans u2.fr).trans u3.fr) rfl⟩
theorem PostC.refl (h : CR w own r S) : PostC own r w S w := PostC.mk h (Fr.refl _ _) rfl
theorem c25 (h : CR w own r S) (G : Safe S) (frm to x : Int) : Calls Tryz.prog 25 #[cp r, .int .i64 frm, .int .i64 to, .int .i64 x] w fun en w' => ∃ e, en = .returned (.int .i64 e) ∧ (∃ S', PassOk S frm to x S' ∧ PostC own r w S' w') := by
  refine calls25 _ _ _ _ (fun e w' => ∃ S', PassOk S frm to x S' ∧ PostC own r w S' w') w ?_
  refine AllocK.mk fun b w6 hb hB hx6 => ?_
  have h6 := h.ext hx6
  refine (c43 h6 x _ 2 2 [frm, to] (boxInts2 hB) (by simp)).mono ?_
  rintro en w8 ⟨e, rfl, rfl, rfl⟩
  refine ⟨_, rfl, BoolK.mk (fun t => ?_) (fun t => ?_)⟩
  · have t : usableE S x [frm, to] ≠ 0 := by simpa using t
    exact ⟨S, by rw [PassOk, if_neg t], PostC.mk h6 (Fr.of_ext own hx6) rfl⟩
  have t : usableE S x [frm, to] = 0 := by simpa using t
  obtain ⟨hT, hS⟩ := usable_isT t
  refine (cAt h6 hT G.th).mono ?_
  rintro en w11 ⟨o, rfl, rfl, g, s, rfl, hg, hgo, hc, hr⟩
  refine ⟨_, rfl, _, (hc 0 (by omega)).trans rfl, BoolK.mk (fun to' => ?_) (fun to' => ?_)⟩
  · have to' : frm = (S.th x).owner := beq_iff_eq.1 to'
    refine (c13 h6 G.toLim2 x).mono ?_
    rintro en w16 ⟨s, rfl, hs, hx16⟩
    have h16 := h6.ext hx16
    have ok : ∀ S', S' = (if isK s kLive = true ∧ to ≠ frm then S.give to kPass x (S.th x) else S) → PassOk S frm to x S' := fun S' e => by rw [PassOk, if_pos t, if_pos to']; exact ⟨s, hs, e⟩
    refine ⟨_, rfl, BoolK.mk (fun (t2 : (!isK s kLive) = true) => ?_) (fun (t2 : (!isK s kLive) = false) => BoolK.mk (fun t3 => ?_) (fun t3 => ?_))⟩
    · exact ⟨S, ok _ (by rw [if_neg (by intro k; rw [k.1] at t2; cases t2)]), PostC.mk h16 (Fr.of_ext own (hx6.trans hx16)) rfl⟩
    · have t3 : to ≠ frm := by simpa using t3
      have ho := G.own _ (CS.th_mem hT)
      have hu := G.out _ (CS.th_mem hT)
      refine (c49 h16 to kPass hT.1 hT.2 G.th G.fly (CS.th_get? hT) ho ⟨by omega, by omega⟩).mono ?_
      rintro en w45 ⟨rfl, own', r', h45, fr, er⟩
      exact ⟨rfl, _, ok _ (by rw [if_pos ⟨by simpa using t2, t3⟩]), PostC.mk h45 ((Fr.of_ext own (hx6.trans hx16)).trans fr) er⟩
    · have t3 : to = frm := by simpa using t3
      exact ⟨S, ok _ (by rw [if_neg (fun k => k.2 t3)]), PostC.mk h16 (Fr.of_ext own (hx6.trans hx16)) rfl⟩
  · have to' : ¬ frm = (S.th x).owner := beq_eq_false_iff_ne.1 to'
    have ok : ∀ S', S' = (if S.prox (frm, x) = 0 ∨ to = frm then S else if S.prox (frm, x) > 1 then S.half (frm, x) to
      else if S.more (frm, x) = true then S.putW (frm, x) (S.waits (frm, x) ++ [to]) else (S.putW (frm, x) (S.waits (frm, x) ++ [to])).askM (frm, x)) → PassOk S frm to x S' := fun S' e => by rw [PassOk, if_pos t, if_neg to']; exact e
    refine KB.new2 h6 (frm, x) fun b20 w23 h23 kb hx23 => DrewK.mk fun w24 hx24 => ?_
    have h24 := h23.ext hx24
    have kb := kb.ext hx24
    have hx : Ext w w24 := (hx6.trans hx23).trans hx24
    have hp := G.prox (frm, x)
    refine ⟨_, h24.cell 6 rfl, _, kb.c0, _, kb.c1, _, _, h24.lkProx (frm, x), Cel.refl _, BoolK.mk (fun t0 => ?_) (fun t0 => BoolK.mk (fun t1 => ?_) (fun t1 => BoolK.mk (fun t2 => ?_) (fun t2 => ?_)))⟩
    · exact ⟨S, ok _ (by rw [if_pos (.inl (beq_iff_eq.1 t0))]), PostC.mk h24 (Fr.of_ext own hx) rfl⟩
    · exact ⟨S, ok _ (by rw [if_pos (.inr (beq_iff_eq.1 t1))]), PostC.mk h24 (Fr.of_ext own hx) rfl⟩
    · have t0 := beq_eq_false_iff_ne.1 t0
      have t1 := beq_eq_false_iff_ne.1 t1
      have t2 := of_decide_eq_true t2
      refine ⟨_, kb.c0, _, kb.c1, ?_⟩
      refine (c61 h24 (frm, x) to hT G.toLim (by omega) (by omega)).mono ?_
      rintro en w33 ⟨rfl, hP⟩
      obtain ⟨own', r', h33, fr, er⟩ := hP.c
      exact ⟨rfl, _, ok _ (by rw [if_neg (fun h => h.elim t0 t1), if_pos t2]), PostC.mk h33 ((Fr.of_ext own hx).trans fr) er⟩
    · have t0 := beq_eq_false_iff_ne.1 t0
      have t1 := beq_eq_false_iff_ne.1 t1
      have t2 := of_decide_eq_false t2
      let S1 := S.putW (frm, x) (S.waits (frm, x) ++ [to])
      refine ⟨fun w' => ∃ own' r', CR w' own' r' S1 ∧ Fr own own' w w' ∧ r'.b = r.b ∧ KB own' w' b20 (frm, x), ?_, DrewK.mk fun w48 hx48 => ?_⟩
      · rintro w36 ⟨own', ⟨rb, cl, ca, th, fl, mp, ma, mg, mm, mw, ths, wts⟩, h36, f36, eb, kb⟩
        cases eb
        refine DrewK.mk fun w37 hx37 => ?_
        have h37 := h36.ext hx37
        have kb := kb.ext hx37
        have f37 := f36.trans (Fr.of_ext _ hx37)
        refine ⟨_, h37.cell 9 rfl, _, kb.c0, _, kb.c1, _, _, h37.lkMore (frm, x), Cel.refl _, BoolK.mk (fun tm => ?_) (fun tm => ?_)⟩
        · refine ⟨_, kb.c0, _, kb.c1, ?_⟩
          refine (c62 h37 (frm, x) hT ⟨G.th, G.fly⟩).mono ?_
          rintro en w46 ⟨rfl, own2, r2, h46, fr, er⟩
          have tm : (!S.more (frm, x)) = true := tm
          have tm : S.more (frm, x) = false := by simpa using tm
          exact ⟨rfl, _, ok _ (by rw [if_neg (fun h => h.elim t0 t1), if_neg t2, if_neg (by rw [tm]; simp)]), own2, r2, h46, f37.trans fr, er⟩
        · have tm : (!S.more (frm, x)) = false := tm
          have tm : S.more (frm, x) = true := by simpa using tm
          exact ⟨S1, ok _ (by rw [if_neg (fun h => h.elim t0 t1), if_neg t2, if_pos tm]), own', _, h37, f37, rfl⟩
      · have h48 := h24.ext hx48
        have kb := kb.ext hx48
        refine ⟨_, h48.cell 10 rfl, _, kb.c0, _, kb.c1, BX.new h48 fun b53 w54 h54 bb hx54 => ⟨Below.cel hx54, ?_⟩⟩
        have kb := kb.ext hx54
        have hwl := G.wl (frm, x)
        obtain ⟨a, l, c, st, w57, q1, a2, l2, c2, w59, q2, w60, q3, own', r', h60, f60, e60⟩ := h54.entWaits (frm, x) to (bx := b53) (by rw [bb.1.cell]; rfl) bb.2 (by omega)
        have fin : ∃ own' r', CR w60 own' r' S1 ∧ Fr own own' w w60 ∧ r'.b = r.b ∧ KB own' w60 b20 (frm, x) := ⟨own', r', h60, ((Fr.of_ext own (hx.trans hx48)).trans (Fr.of_ext own hx54)).trans f60, e60, kb.fr f60⟩
        refine ⟨a, l, c, st, w57, q1, trivial, ⟨trivial, ⟨_, _, _, _, q2, trivial, trivial, w60, q3, trivial, fin⟩, trivial, _, _, _, _, q2, trivial, w60, q3, trivial, fin⟩, trivial, trivial, _, _, _, _, q2, trivial, w60, q3, trivial, fin⟩
theorem c17 (h : CR w own r S) (G : Safe S) (site x : Int) : Calls Tryz.prog 17 #[cp r, .int .i64 site, .int .i64 x] w fun en w' => ∃ e, en = .returned (.int .i64 e) ∧ (∃ S', DropOk S site x e S' ∧ PostC own r w S' w') := by
  refine calls17 _ _ _ (fun e w' => ∃ S', DropOk S site x e S' ∧ PostC own r w S' w') w ?_
  refine AllocK.mk fun b w5 hb hB hx5 => ?_
  have h5 := h.ext hx5
  have P5 : PostC own r w S w5 := PostC.mk h5 (Fr.of_ext own hx5) rfl
  refine (c43 h5 x _ 1 1 [site] (boxInts hB) (by simp)).mono ?_
  rintro en w7 ⟨e, rfl, rfl, rfl⟩
  refine ⟨_, rfl, BoolK.mk (fun t => ?_) (fun t => ?_)⟩
  · have t : usableE S x [site] ≠ 0 := by simpa using t
    exact ⟨S, by rw [DropOk, if_neg t]; exact ⟨rfl, rfl⟩, P5⟩
  have t : usableE S x [site] = 0 := by simpa using t
  obtain ⟨hT, hS⟩ := usable_isT t
  refine (c16 h5 G.toLim site x).mono ?_
  rintro en w10 ⟨p, rfl, rfl, rfl⟩
  refine ⟨_, rfl, BoolK.mk (fun t2 => ?_) (fun t2 => ?_)⟩
  · exact ⟨S, by rw [DropOk, if_pos t, if_neg (by simpa using t2)]; exact ⟨rfl, rfl⟩, P5⟩
  have t2 : S.holdsE site x = true := by simpa using t2
  refine (c51 h5 G.toLim2 site x).mono ?_
  rintro en w13 ⟨p, rfl, rfl, rfl⟩
  refine ⟨_, rfl, BoolK.mk (fun t3 => ⟨S, by rw [DropOk, if_pos t, if_pos t2, if_pos t3]; exact ⟨rfl, rfl⟩, P5⟩) (fun t3 => ?_)⟩
  refine (cAt h5 hT G.th).mono ?_
  rintro en w16 ⟨o, rfl, rfl, g, s, rfl, hg, hgo, hc, hr⟩
  refine ⟨_, rfl, _, (hc 0 (by omega)).trans rfl, BoolK.mk (fun t4 => ?_) (fun t4 => ?_)⟩
  · have t4 := beq_iff_eq.1 t4
    refine (cAt h5 hT G.th).mono ?_
    rintro en w21 ⟨o, rfl, rfl, g, s, rfl, hg, hgo, hc, hr⟩
    refine ⟨_, rfl, ?_⟩
    show SetK w21 ((⟨g, (x - 1).toNat * 7, none⟩ : Addr).add 1) _ _
    rw [add_mk]
    refine h5.setF hT hg 1 (by omega) { S.th x with holds := false } (fun s => rfl) rfl fun w104 r' g104 er _ u => ?_
    exact ⟨_, by rw [DropOk, if_pos t, if_pos t2, if_neg (by rw [t3]; simp), if_pos t4]; exact ⟨rfl, rfl⟩, PostC.mk g104 ((Fr.of_ext own hx5).trans u.fr) er⟩
  · have t4 := beq_eq_false_iff_ne.1 t4
    refine (c52 h5 (site, x) hT G.toLim).mono ?_
    rintro en w25 ⟨rfl, own', r', h25, fr, er, _⟩
    exact ⟨rfl, _, by rw [DropOk, if_pos t, if_pos t2, if_neg (by rw [t3]; simp), if_neg t4]; exact ⟨rfl, rfl⟩, PostC.mk h25 ((Fr.of_ext own hx5).trans fr) er⟩
end
end Go.Proofs.YtgggbmikmmljcaaGreat

namespace Go.Proofs.YtgggbmikmmljcaaGreat
open Go Go.V Go.Proofs
open Go.RowKit (Below)
/-! slices.DeleteFunc[[][2]int,[2]int] -/
def N54 (a1 : Option Addr) (l1 : Nat) (c1 : Nat) (g2 : FuncId) (k3 : Array Value) (K : Option Addr → Nat → Nat → World → Prop) (w : World) : Prop :=
 Calls Tryz.prog 88 #[(.slice a1 l1 c1), (.func (.func g2) #[] k3)] w fun e6 w5 =>
 ∃ (x4 : Int), e6 = .returned (.int .i64 x4) ∧
 (BoolK ((x4 : Int) == -1)
 (K a1 l1 c1 w5)
 (∃ (I7 : Int → Int → World → Prop) (μ8 : Int → Int → World → Nat),
 (I7 x4 (IntKind.wrap .i64 (x4 + 1)) w5 ∧ True) ∧
 ∀ (w9 : World) (x10 : Int) (x11 : Int), I7 x10 x11 w9 →
 BoolK (decide ((x11 : Int) < (l1 : Nat)))
 ((0 ≤ (x11 : Int) ∧ (x11 : Int) < (l1 : Nat)) ∧
 AddrK a1 fun b12 =>
 ∃ (x13 : Int), w9.cell? ((b12.add ((x11 : Int).toNat * 2)).add 0) = some (.int .i64 x13) ∧
 (∃ (x14 : Int), w9.cell? ((b12.add ((x11 : Int).toNat * 2)).add 1) = some (.int .i64 x14) ∧
 (AllocK w9 (#[.int .i64 0, .int .i64 0]) 93 fun b15 w16 =>
 SetK w16 (b15.add 0) (.int .i64 x13) fun w17 =>
 SetK w17 (b15.add 1) (.int .i64 x14) fun w18 =>
 ∃ (x19 : Int), w18.cell? (b15.add 0) = some (.int .i64 x19) ∧
 (∃ (x20 : Int), w18.cell? (b15.add 1) = some (.int .i64 x20) ∧
 (Enters Tryz.prog g2 ∧
 (Calls Tryz.prog g2 (callArgs [] [(.agg #[(.int .i64 x19), (.int .i64 x20)])] k3.toList) w18 fun e23 w22 =>
 ∃ (p21 : Bool), e23 = .returned (.bool p21) ∧
 (BoolK (!p21)
 (∃ (x24 : Int), w22.cell? (b15.add 0) = some (.int .i64 x24) ∧
 (∃ (x25 : Int), w22.cell? (b15.add 1) = some (.int .i64 x25) ∧
 ((0 ≤ (x10 : Int) ∧ (x10 : Int) < (l1 : Nat)) ∧
 AddrK a1 fun b26 =>
 SetK w22 ((b26.add ((x10 : Int).toNat * 2)).add 0) (.int .i64 x24) fun w27 =>
 SetK w27 ((b26.add ((x10 : Int).toNat * 2)).add 1) (.int .i64 x25) fun w28 =>
 I7 (IntKind.wrap .i64 (x10 + 1)) (IntKind.wrap .i64 (x11 + 1)) w28 ∧ μ8 (IntKind.wrap .i64 (x10 + 1)) (IntKind.wrap .i64 (x11 + 1)) w28 < μ8 x10 x11 w9)))
 (I7 x10 (IntKind.wrap .i64 (x11 + 1)) w22 ∧ μ8 x10 (IntKind.wrap .i64 (x11 + 1)) w22 < μ8 x10 x11 w9))))))))
 (0 ≤ (x10 : Int) ∧
 (((x10 : Int).toNat ≤ l1 ∧ l1 ≤ c1) ∧
 (∃ (w29 : World), Sem.run Tryz.prog (Builtin.clear_ #[48] 0 #[(.slice (if c1 = (x10 : Int).toNat then a1 else (a1).map (·.add ((x10 : Int).toNat * 2))) (l1 - (x10 : Int).toNat) (c1 - (x10 : Int).toNat))]) w9 = .ok (.tuple #[]) w29 ∧
 (0 ≤ (x10 : Int) ∧
 ((0 ≤ (x10 : Int).toNat ∧ (x10 : Int).toNat ≤ c1) ∧
 (K (if c1 = 0 then a1 else (a1).map (·.add (0 * 2))) ((x10 : Int).toNat - 0) (c1 - 0) w29))))))))
def ann54 : Ann := (.two .nil (.two .nil (.two (.two .nil (.two (.two .nil .nil) .nil)) (.two (.two .nil (.one (.loop [(5, (.one (.int .i64))), (6, (.one (.int .i64)))] [0, 1] (.two (.two .nil (.two .nil .nil)) (.two (.one (.two .nil (.two .nil (.two (.two .nil .nil) .nil)))) .nil))))) (.two .nil (.two .nil .nil))))))
noncomputable def code54 : Code := match Tryz.f54.body with | some c => c | none => .skip
theorem wp54 (a1 : Option Addr) (l1 : Nat) (c1 : Nat) (g2 : FuncId) (k3 : Array Value) (K : Option Addr → Nat → Nat → World → Prop) (w : World) : WP Tryz.prog tab code54 ann54 (fnQ tab Tryz.f54.results.toList [(.one .slice)] K) (argE 0 [(.slice a1 l1 c1), (.func (.func g2) #[] k3)]) w = N54 a1 l1 c1 g2 k3 K w := by kernel_rfl
theorem calls54 (a1 : Option Addr) (l1 : Nat) (c1 : Nat) (g2 : FuncId) (k3 : Array Value) (K : Option Addr → Nat → Nat → World → Prop) (w : World) (h : N54 a1 l1 c1 g2 k3 K w) : Calls Tryz.prog 54 #[(.slice a1 l1 c1), (.func (.func g2) #[] k3)] w fun en w' => ∃ (a30 : Option Addr), ∃ (l30 : Nat), ∃ (c30 : Nat), en = .returned (.slice a30 l30 c30) ∧ K a30 l30 c30 w' :=
 have e : (fun en w' => ExShs [(.one .slice)] fun vs => en = .returned (tupled vs) ∧ ap [(.one .slice)] K vs fun p => p w') = (fun (en : Ending) (w' : World) => ∃ (a30 : Option Addr), ∃ (l30 : Nat), ∃ (c30 : Nat), en = .returned (.slice a30 l30 c30) ∧ K a30 l30 c30 w') := by kernel_rfl
 e ▸ fn_sound tabOk mixed Tryz.func54 (by kernel_rfl : Tryz.f54.body = some code54) ann54 [(.slice a1 l1 c1), (.func (.func g2) #[] k3)] [(.one .slice)] K w (by kernel_rfl) ((wp54 a1 l1 c1 g2 k3 K w).symm ▸ h)
end Go.Proofs.YtgggbmikmmljcaaGreat

namespace Go.Proofs.YtgggbmikmmljcaaGreat
open Go Go.V Go.Proofs
open Go.RowKit (Below)
/-! slices.IndexFunc[[][2]int,[2]int] -/
def N88 (a1 : Option Addr) (l1 : Nat) (_c1 : Nat) (g2 : FuncId) (k3 : Array Value) (K : Int → World → Prop) (w : World) : Prop :=
 ∃ (I4 : Int → World → Prop) (μ5 : Int → World → Nat),
 (I4 0 w ∧ True) ∧
 ∀ (w6 : World) (x7 : Int), I4 x7 w6 →
 BoolK (decide ((x7 : Int) < (l1 : Nat)))
 ((0 ≤ (x7 : Int) ∧ (x7 : Int) < (l1 : Nat)) ∧
 AddrK a1 fun b8 =>
 ∃ (x9 : Int), w6.cell? ((b8.add ((x7 : Int).toNat * 2)).add 0) = some (.int .i64 x9) ∧
 (∃ (x10 : Int), w6.cell? ((b8.add ((x7 : Int).toNat * 2)).add 1) = some (.int .i64 x10) ∧
 (Enters Tryz.prog g2 ∧
 (Calls Tryz.prog g2 (callArgs [] [(.agg #[(.int .i64 x9), (.int .i64 x10)])] k3.toList) w6 fun e13 w12 =>
 ∃ (p11 : Bool), e13 = .returned (.bool p11) ∧
 (BoolK p11
 (K x7 w12)
 (I4 (IntKind.wrap .i64 (x7 + 1)) w12 ∧ μ5 (IntKind.wrap .i64 (x7 + 1)) w12 < μ5 x7 w6))))))
 (K (-1) w6)
def ann88 : Ann := (.two .nil (.two (.two .nil (.one (.loop [(8, (.one (.int .i64)))] [0, 1, 7] (.two .nil (.two (.two .nil .nil) (.two (.one (.two .nil (.two .nil (.two (.two .nil .nil) .nil)))) .nil)))))) (.two .nil .nil)))
noncomputable def code88 : Code := match Tryz.f88.body with | some c => c | none => .skip
theorem wp88 (a1 : Option Addr) (l1 : Nat) (c1 : Nat) (g2 : FuncId) (k3 : Array Value) (K : Int → World → Prop) (w : World) : WP Tryz.prog tab code88 ann88 (fnQ tab Tryz.f88.results.toList [(.one (.int .i64))] K) (argE 0 [(.slice a1 l1 c1), (.func (.func g2) #[] k3)]) w = N88 a1 l1 c1 g2 k3 K w := by kernel_rfl
theorem calls88 (a1 : Option Addr) (l1 : Nat) (c1 : Nat) (g2 : FuncId) (k3 : Array Value) (K : Int → World → Prop) (w : World) (h : N88 a1 l1 c1 g2 k3 K w) : Calls Tryz.prog 88 #[(.slice a1 l1 c1), (.func (.func g2) #[] k3)] w fun en w' => ∃ (x14 : Int), en = .returned (.int .i64 x14) ∧ K x14 w' :=
 have e : (fun en w' => ExShs [(.one (.int .i64))] fun vs => en = .returned (tupled vs) ∧ ap [(.one (.int .i64))] K vs fun p => p w') = (fun (en : Ending) (w' : World) => ∃ (x14 : Int), en = .returned (.int .i64 x14) ∧ K x14 w') := by kernel_rfl
 e ▸ fn_sound tabOk mixed Tryz.func88 (by kernel_rfl : Tryz.f88.body = some code88) ann88 [(.slice a1 l1 c1), (.func (.func g2) #[] k3)] [(.one (.int .i64))] K w (by kernel_rfl) ((wp88 a1 l1 c1 g2 k3 K w).symm ▸ h)
end Go.Proofs.YtgggbmikmmljcaaGreat

namespace Go.V
open Go.RowKit (Below)
theorem OwnR.clearFrom {α : Type} {P : Program} {t ty2 e : TypeId} {sz bytes base : Nat} {enc : α → List Value} {w : World} {g l c : Nat} {xs : List α} (H : SlT P t e sz bytes) (hzo : zOk P e = true) (h : OwnR base e sz enc w (some ⟨g, 0, none⟩) l c xs)
    (he : ∀ x, (enc x).length = sz) {k : Nat} (hk : k < xs.length) :
    l = xs.length ∧ l ≤ c ∧ ∃ w9, Sem.run P (Builtin.clear_ #[t] ty2 #[.slice (some ⟨g, k * sz, none⟩) (l - k) (c - k)]) w = .ok (.tuple #[]) w9 ∧ OwnR base e sz enc w9 (some ⟨g, 0, none⟩) k c (xs.take k) ∧ But g w w9 := by
  obtain ⟨hl, hf, ho⟩ := h
  rcases ho with ⟨h0, _⟩ | ⟨g', cap, cur, hv, hbg, hg, h3, h4, h5, h6⟩
  · cases h0
  simp only [Value.slice.injEq, Option.some.injEq, Addr.mk.injEq, and_true] at hv
  obtain ⟨rfl, hlx, rfl⟩ := hv
  subst hl
  obtain ⟨i, z, hi, hz, hsz, hby, hzs⟩ := H.info
  have hB : Blk w g cur e := hg
  refine ⟨rfl, h3, ?_⟩
  have hone : ∀ v ∈ z.cells.toList, v.oneCell' = true := by
    unfold zOk at hzo; rw [hi] at hzo; simp only [hz] at hzo
    intro v hv
    rw [Array.all_eq_true'] at hzo
    exact hzo v (Array.mem_toList_iff.1 hv)
  have hpos := H.pos
  let vs := (Builtin.zeroCells z.cells (xs.length - k)).toList
  have hvl : vs.length = (xs.length - k) * sz := by simp [vs, Builtin.zeroCells, hzs]
  have hvo : ∀ v ∈ vs, v.oneCell' = true := by
    intro v hv
    simp only [vs, Builtin.zeroCells, Array.toList_map, List.mem_map] at hv
    obtain ⟨j, _, rfl⟩ := hv
    have hm : j % z.cells.size < z.cells.size := Nat.mod_lt _ (by omega)
    rw [getElem!_pos z.cells _ hm]
    exact hone _ (Array.getElem_mem_toList _)
  have hfit : k * sz + vs.length ≤ cur.size := by
    rw [hvl, h5, ← Nat.add_mul]; exact Nat.mul_le_mul_right _ (by omega)
  have hzv : ∀ w, (zeroValue e).run P w = .ok z w := fun w => by simp [zeroValue, typeInfo, hi, hz]
  have hst := run_storeCells_cells (P := P) g (k * sz) vs 0 w (fun j hj => by
      rw [hB.cell, Array.getElem?_eq_getElem (by omega)]; rfl) (fun j hj => hB.frozen _) hvo
  simp only [Nat.add_zero] at hst
  obtain ⟨hB9, hb9⟩ := setCells_blk (g := g) (t := e) vs w cur (k * sz) hB
  refine ⟨_, ?_, ?_, hb9⟩
  · obtain ⟨m, hm⟩ : ∃ m, xs.length - k = m + 1 := ⟨xs.length - k - 1, by omega⟩
    simp only [vs, hm] at hst
    rw [hm]
    simp [Builtin.clear_, run_underlying H.under, hzv, hst, vs, hm]
  · have htl : (xs.take k).length = k := by rw [List.length_take]; omega
    refine ⟨htl.symm, ?_⟩
    rw [htl]
    refine ⟨by rw [enc_len he, htl], .inr ⟨g, c, _, rfl, hbg, hB9, by omega, h4, by rw [putL_size]; exact h5, ?_⟩⟩
    apply List.ext_getElem?; intro j
    rcases Nat.lt_or_ge j (k * sz) with hj | hj
    · rw [List.getElem?_take_of_lt hj, Array.getElem?_toList, putL_get _ _ _ hfit, if_neg (by omega), ← (flat_append he xs k).2, List.getElem?_take_of_lt hj, ← h6, List.getElem?_take_of_lt (by
        have : k * sz ≤ xs.length * sz := Nat.mul_le_mul_right _ (by omega)
        omega), Array.getElem?_toList]
    · rw [List.getElem?_eq_none (by simp; omega), List.getElem?_eq_none (by rw [enc_len he, htl]; exact hj)]
end Go.V
namespace Go.Proofs.YtgggbmikmmljcaaGreat
open Go Go.V Go.Proofs
open Go.RowKit (Below)
structure WC (own0 : OwnM Role) (r0 : Raw) (w0 : World) (P : Nat → CS → Prop) (xs zs : List (Int × Int)) (n : Nat) (own' : OwnM Role) (r' : Raw) (S1 : CS) (w : World) : Prop where
  p : P n S1
  c : CR w own' r' { S1 with calls := zs }
  f : Fr own0 own' w0 w
  b : r'.b = r0.b
  ca : r'.ca = r0.ca
  cl : r'.cl = r0.cl
  len : zs.length = xs.length
  mem : ∀ z ∈ zs, z ∈ xs
section
variable {w w' w2 : World} {own own' : OwnM Role} {r r' : Raw} {S S1 : CS} {own0 : OwnM Role} {r0 : Raw} {w0 : World} {P : Nat → CS → Prop} {xs zs : List (Int × Int)} {n : Nat}
theorem WC.ext (h : WC own0 r0 w0 P xs zs n own' r' S1 w) (x : Ext w w') : WC own0 r0 w0 P xs zs n own' r' S1 w' := ⟨h.p, h.c.ext x, h.f.trans (Fr.of_ext _ x), h.b, h.ca, h.cl, h.len, h.mem⟩
theorem WC.row (h : WC own0 r0 w0 P xs zs n own' r' S1 w) : RowR own' .calls 93 2 eP w r0.ca zs := by have := h.c.calls; rw [h.ca] at this; exact this
def Asks (own0 : OwnM Role) (r0 : Raw) (w0 : World) (P : Nat → CS → Prop) (xs : List (Int × Int)) (g : FuncId) (cap : Array Value) : Prop :=
  ∀ (n : Nat) (zs : List (Int × Int)) (x : Int × Int) (w : World) (own1 : OwnM Role) (r1 : Raw) (S1 : CS), x ∈ xs → n < xs.length → WC own0 r0 w0 P xs zs n own1 r1 S1 w →
    Calls Tryz.prog g (callArgs [] [.agg #[.int .i64 x.1, .int .i64 x.2]] cap.toList) w fun en w' => ∃ p, en = .returned (.bool p) ∧ ∃ own2 r2 S2, WC own0 r0 w0 P xs zs (n + 1) own2 r2 S2 w' ∧ Fr own1 own2 w w'
theorem c88 {g : FuncId} {cap : Array Value} (hg : Enters Tryz.prog g) (hA : Asks own0 r0 w0 P xs g cap) (hl : xs.length ≤ 1000000000) (h : WC own0 r0 w0 P xs xs 0 own r S w) (hr : RowR own0 .calls 93 2 eP w0 r0.ca xs) :
    Calls Tryz.prog 88 #[.slice r0.ca.1 r0.ca.2.1 r0.ca.2.2, .func (.func g) #[] cap] w fun en w' => ∃ i, en = .returned (.int .i64 i) ∧
      ((i = -1 ∧ ∃ own' r' S1, WC own0 r0 w0 P xs xs xs.length own' r' S1 w') ∨ (∃ k : Nat, i = k ∧ k < xs.length ∧ ∃ own' r' S1, WC own0 r0 w0 P xs xs (k + 1) own' r' S1 w')) := by
  refine calls88 _ _ _ _ _ _ w ?_
  have hlen := hr.len
  refine ⟨fun i w' => ∃ k : Nat, i = k ∧ k ≤ xs.length ∧ ∃ own' r' S1, WC own0 r0 w0 P xs xs k own' r' S1 w', fun i _ => xs.length - i.toNat, ⟨⟨0, rfl, Nat.zero_le _, _, _, _, h⟩, trivial⟩, ?_⟩
  rintro w6 i ⟨k, rfl, hk, own', r', S1, hW⟩
  refine BoolK.mk (fun t => ?_) (fun t => ?_)
  · have hlt : k < xs.length := by rw [hlen] at t; simp at t; omega
    obtain ⟨gg, l, c, hs, ho, hgl, hc⟩ := hW.row.at_ (i := k) (fun x => rfl) hlt
    refine ⟨⟨by omega, by omega⟩, ?_⟩
    have hs1 : r0.ca.1 = some ⟨gg, 0, none⟩ := by rw [hs]
    rw [hs1]
    refine ⟨xs[k].1, by rw [add_mk, add_mk, Nat.zero_add]; exact (hc 0 (by omega)).trans rfl, xs[k].2, by rw [add_mk, add_mk, Nat.zero_add]; exact (hc 1 (by omega)).trans rfl, hg, ?_⟩
    refine (hA k xs xs[k] w6 _ _ _ (List.getElem_mem hlt) hlt hW).mono ?_
    rintro en w12 ⟨p, rfl, own2, r2, S2, hW2, _⟩
    refine ⟨_, rfl, BoolK.mk (fun _ => .inr ⟨k, rfl, hlt, _, _, _, hW2⟩) (fun _ => ?_)⟩
    rw [wrap_succ (by omega)]
    exact ⟨⟨k + 1, rfl, by omega, _, _, _, hW2⟩, by simp; omega⟩
  · have : k = xs.length := by rw [hlen] at t; simp at t; omega
    subst this
    exact .inl ⟨rfl, _, _, _, hW⟩
theorem c54 {g : FuncId} {cap : Array Value} (hg : Enters Tryz.prog g) (hA : Asks own0 r0 w0 P xs g cap) (hl : xs.length ≤ 1000000000) (h : WC own0 r0 w0 P xs xs 0 own r S w) (hr : RowR own0 .calls 93 2 eP w0 r0.ca xs) :
    Calls Tryz.prog 54 #[.slice r0.ca.1 r0.ca.2.1 r0.ca.2.2, .func (.func g) #[] cap] w fun en w' => ∃ a l c, en = .returned (.slice a l c) ∧
      (∃ own' r' S1 zs ys w1, WC own0 r0 w0 P xs zs xs.length own' r' S1 w1 ∧ Upd own' own' Role.calls w1 w' ∧ RowR own' .calls 93 2 eP w' (a, l, c) ys ∧ ys.length ≤ xs.length ∧ ∀ y ∈ ys, y ∈ xs) := by
  refine calls54 _ _ _ _ _ _ w ?_
  have hlen := hr.len
  refine (c88 hg hA hl h hr).mono ?_
  rintro en w5 ⟨i, rfl, ⟨rfl, own', r', S1, hW⟩ | ⟨k, rfl, hk, own', r', S1, hW⟩⟩
  · exact ⟨_, rfl, BoolK.mk (fun _ => ⟨own', r', S1, xs, xs, w5, hW, Upd.refl2 _ _ _, hW.row, Nat.le_refl _, fun y hy => hy⟩) (fun t => by cases t)⟩
  refine ⟨_, rfl, BoolK.mk (fun t => by have := beq_iff_eq.1 t; omega) (fun _ => ?_)⟩
  rw [wrap_succ (by omega)]
  refine ⟨fun x10 x11 w => ∃ (i j : Nat) (zs : List (Int × Int)) (own' : OwnM Role) (r' : Raw) (S1 : CS), x10 = i ∧ x11 = j ∧ i < j ∧ j ≤ xs.length ∧ WC own0 r0 w0 P xs zs j own' r' S1 w, fun _ x11 _ => xs.length - x11.toNat,
    ⟨⟨k, k + 1, xs, own', r', S1, rfl, rfl, by omega, by omega, hW⟩, trivial⟩, ?_⟩
  rintro w9 x10 x11 ⟨i, j, zs, own1, r1, S2, rfl, rfl, hij, hj, hW⟩
  have hzl := hW.len
  refine BoolK.mk (fun t => ?_) (fun t => ?_)
  · have hlt : j < zs.length := by rw [hlen] at t; simp at t; omega
    have hlti : i < zs.length := by omega
    obtain ⟨gg, l, c, hs, ho, hgl, hc⟩ := hW.row.at_ (i := j) (fun x => rfl) hlt
    have hs1 : r0.ca.1 = some ⟨gg, 0, none⟩ := by rw [hs]
    refine ⟨⟨by omega, by omega⟩, ?_⟩
    rw [hs1]
    refine ⟨zs[j].1, by rw [add_mk, add_mk, Nat.zero_add]; exact (hc 0 (by omega)).trans rfl, zs[j].2, by rw [add_mk, add_mk, Nat.zero_add]; exact (hc 1 (by omega)).trans rfl, ?_⟩
    refine local2 fun b15 w18 hb15 hB15 hx18 => ?_
    have hW18 := hW.ext hx18
    have bx : BX own1 w18 b15 _ _ := ⟨hB15, hW.c.top b15 (by omega)⟩
    have hmem : zs[j] ∈ xs := hW.mem _ (List.getElem_mem hlt)
    refine ⟨_, bx.at_ 0 rfl, _, bx.at_ 1 rfl, hg, ?_⟩
    refine (hA j zs zs[j] w18 _ _ _ hmem (by omega) hW18).mono ?_
    rintro en w22 ⟨p, rfl, own2, r2, S3, hW2, f2⟩
    have bx := bx.fr f2
    refine ⟨_, rfl, BoolK.mk (fun _ => ?_) (fun _ => ?_)⟩
    · refine ⟨_, bx.at_ 0 rfl, _, bx.at_ 1 rfl, ⟨by omega, by omega⟩, ?_⟩
      have e0 : (((⟨gg, 0, none⟩ : Addr).add ((i : Int).toNat * 2)).add 0) = ⟨gg, i * 2 + 0, none⟩ := by rw [add_mk, add_mk, Nat.zero_add, Int.toNat_natCast]
      have e1 : (((⟨gg, 0, none⟩ : Addr).add ((i : Int).toNat * 2)).add 1) = ⟨gg, i * 2 + 1, none⟩ := by rw [add_mk, add_mk, Nat.zero_add, Int.toNat_natCast]
      show SetK w22 (((⟨gg, 0, none⟩ : Addr).add ((i : Int).toNat * 2)).add 0) _ fun w27 => SetK w27 (((⟨gg, 0, none⟩ : Addr).add ((i : Int).toNat * 2)).add 1) _ _
      rw [e0, e1]
      have hs' : r0.ca = (some ⟨gg, 0, none⟩, l, c) := hs
      have row2 := hW2.row
      rw [hs'] at row2
      have hz2 := hW2.len
      refine row2.set (ys := zs.set i (zs[j].1, zs[i].2)) (i * 2 + 0) _ (by omega) (by simp) (flat_set (sz := 2) (j := 0) (fun x => rfl) hlti (by omega) rfl) fun w27 hr27 u27 => ?_
      have h27 := hW2.c.newCalls0 (xs := zs.set i (zs[j].1, zs[i].2)) u27 (by rw [hW2.ca, hs']; exact hr27)
      have g1 : zs.set i zs[j] = (zs.set i (zs[j].1, zs[i].2)).set i zs[j] := by simp
      refine hr27.set (ys := zs.set i zs[j]) (i * 2 + 1) _ (by rw [List.length_set]; omega) (by simp) (by rw [g1]; exact flat_set (sz := 2) (j := 1) (fun x => rfl) (by simpa using hlti) (by omega) (by simp [eP])) fun w28 hr28 u28 => ?_
      have h28 := h27.newCalls0 (xs := zs.set i zs[j]) u28 (by rw [hW2.ca, hs']; exact hr28)
      rw [wrap_succ (by omega), wrap_succ (by omega)]
      refine ⟨⟨i + 1, j + 1, zs.set i zs[j], own2, r2, S3, rfl, rfl, by omega, by omega, ⟨hW2.p, h28, (hW2.f.trans u27.fr).trans u28.fr, hW2.b, hW2.ca, hW2.cl, by simpa using hzl, fun z hz => ?_⟩⟩, by simp; omega⟩
      rcases List.mem_or_eq_of_mem_set hz with hz | rfl
      · exact hW.mem z hz
      · exact hmem
    · rw [wrap_succ (by omega)]
      exact ⟨⟨i, j + 1, zs, own2, r2, S3, rfl, rfl, by omega, by omega, hW2⟩, by simp; omega⟩
  · have hje : j = xs.length := by rw [hlen] at t; simp at t; omega
    subst hje
    obtain ⟨gg, l, c, hs, ho, hgl, hc⟩ := hW.row.at_ (i := i) (fun x => rfl) (by omega)
    have hs' : r0.ca = (some ⟨gg, 0, none⟩, l, c) := hs
    have row := hW.row
    rw [hs'] at row
    obtain ⟨ql, qlc, w29, q1, q2, q3⟩ := OwnR.clearFrom (ty2 := 0) sltP (by kernel_rfl : zOk Tryz.prog 93 = true) row.1 eP_len (k := i) (by omega)
    have ql : l = zs.length := ql
    have qlc : l ≤ c := qlc
    rw [hs']
    refine ⟨by omega, ⟨by show (i : Int).toNat ≤ l; omega, qlc⟩, w29, ?_, by omega, ⟨by omega, by show (i : Int).toNat ≤ c; omega⟩, own1, r1, S2, zs, zs.take i, w9, hW, Upd.of_but q3 (row.2 gg rfl), ?_, by simp; omega, fun y hy => hW.mem y (List.mem_of_mem_take hy)⟩
    · rw [← q1]
      have e1 : (if c = (i : Int).toNat then some (⟨gg, 0, none⟩ : Addr) else (some (⟨gg, 0, none⟩ : Addr)).map (·.add ((i : Int).toNat * 2))) = some ⟨gg, i * 2, none⟩ := by
        rw [Int.toNat_natCast, if_neg (by omega)]; simp [add_mk]
      show Sem.run _ (Builtin.clear_ _ _ #[.slice (if c = (i : Int).toNat then some (⟨gg, 0, none⟩ : Addr) else (some (⟨gg, 0, none⟩ : Addr)).map (·.add ((i : Int).toNat * 2))) (l - (i : Int).toNat) (c - (i : Int).toNat)]) _ = _
      rw [e1, Int.toNat_natCast]
    · have e3 : (if c = 0 then some (⟨gg, 0, none⟩ : Addr) else (some (⟨gg, 0, none⟩ : Addr)).map (·.add (0 * 2))) = some ⟨gg, 0, none⟩ := by split <;> simp [add_mk]
      show RowR own1 _ _ _ _ w29 ((if c = 0 then some (⟨gg, 0, none⟩ : Addr) else (some (⟨gg, 0, none⟩ : Addr)).map (·.add (0 * 2))), (i : Int).toNat - 0, c - 0) _
      rw [e3]
      exact ⟨q2, fun k hk => by cases hk; exact row.2 gg rfl⟩
end
end Go.Proofs.YtgggbmikmmljcaaGreat

namespace Go.Proofs.YtgggbmikmmljcaaGreat
open Go Go.V Go.Proofs
open Go.RowKit (Below)
/-! (*manystrand/count.Count).Hold -/
def N28 (o1 : Option Addr) (x2 : Int) (x3 : Int) (K : Int → World → Prop) (w : World) : Prop :=
 Calls Tryz.prog 43 #[(.pointer o1), (.int .i64 x2), (.slice none 0 0)] w fun e6 w5 =>
 ∃ (x4 : Int), e6 = .returned (.int .i64 x4) ∧
 (BoolK ((x4 : Int) != 0)
 (K x4 w5)
 (Calls Tryz.prog 45 #[(.pointer o1), (.int .i64 x3)] w5 fun e9 w8 =>
 ∃ (p7 : Bool), e9 = .returned (.bool p7) ∧
 (BoolK (!p7)
 (K 5 w8)
 (Calls Tryz.prog 44 #[(.pointer o1), (.int .i64 x2)] w8 fun e12 w11 =>
 ∃ (o10 : Option Addr), e12 = .returned (.pointer o10) ∧
 (AddrK o10 fun b13 =>
 ∃ (x14 : Int), w11.cell? b13 = some (.int .i64 x14) ∧
 (∃ (J15 : World → Prop),
 (∀ (w16 : World), J15 w16 →
 Calls Tryz.prog 44 #[(.pointer o1), (.int .i64 x2)] w16 fun e19 w18 =>
 ∃ (o17 : Option Addr), e19 = .returned (.pointer o17) ∧
 (AddrK o17 fun b20 =>
 ∃ (a21 : Option Addr) (l21 : Nat) (c21 : Nat), w18.cell? (b20.add 6) = some (.slice a21 l21 c21) ∧
 (Calls Tryz.prog 56 #[(.slice a21 l21 c21), (.int .i64 x3)] w18 fun e24 w23 =>
 ∃ (p22 : Bool), e24 = .returned (.bool p22) ∧
 (BoolK (!p22)
 (AddrK o17 fun b25 =>
 ∃ (a26 : Option Addr) (l26 : Nat) (c26 : Nat), w23.cell? (b25.add 6) = some (.slice a26 l26 c26) ∧
 (AllocK w23 (#[(.int .i64 x3)]) 3 fun b27 w28 =>
 ∃ (a29 : Option Addr), ∃ (l29 : Nat), ∃ (c29 : Nat), ∃ (w30 : World), Sem.run Tryz.prog (Builtin.append_ #[43, 43] 43 #[(.slice a26 l26 c26), (.slice (some b27) 1 1)]) w28 = .ok (.slice a29 l29 c29) w30 ∧
 (AddrK o17 fun b31 =>
 SetK w30 (b31.add 6) (.slice a29 l29 c29) fun w32 =>
 AddrK o1 fun b33 =>
 ∃ (a34 : Option Addr) (l34 : Nat) (c34 : Nat), w32.cell? (b33.add 4) = some (.slice a34 l34 c34) ∧
 (AllocK w32 (#[(.int .i64 x2), (.int .i64 x3)]) 93 fun b35 w36 =>
 ∃ (a37 : Option Addr), ∃ (l37 : Nat), ∃ (c37 : Nat), ∃ (w38 : World), Sem.run Tryz.prog (Builtin.append_ #[48, 48] 48 #[(.slice a34 l34 c34), (.slice (some b35) 1 1)]) w36 = .ok (.slice a37 l37 c37) w38 ∧
 (AddrK o1 fun b39 =>
 SetK w38 (b39.add 4) (.slice a37 l37 c37) fun w40 =>
 K 0 w40)))))
 (K 0 w23))))) ∧
 (∃ (J41 : Bool → World → Prop),
 (∀ (w42 : World) (p43 : Bool), J41 p43 w42 →
 BoolK p43
 (K 5 w42)
 (Calls Tryz.prog 13 #[(.pointer o1), (.int .i64 x2)] w42 fun e46 w45 =>
 ∃ (s44 : ByteArray), e46 = .returned (.string s44) ∧
 (BoolK (!((s44 : ByteArray).toList == ((⟨#[108, 105, 118, 101]⟩ : ByteArray) : ByteArray).toList))
 (K 200 w45)
 (Calls Tryz.prog 44 #[(.pointer o1), (.int .i64 x3)] w45 fun e49 w48 =>
 ∃ (o47 : Option Addr), e49 = .returned (.pointer o47) ∧
 (AddrK o47 fun b50 =>
 ∃ (x51 : Int), w48.cell? b50 = some (.int .i64 x51) ∧
 (BoolK ((x51 : Int) == x14)
 (Calls Tryz.prog 13 #[(.pointer o1), (.int .i64 x3)] w48 fun e54 w53 =>
 ∃ (s52 : ByteArray), e54 = .returned (.string s52) ∧
 (BoolK (!((s52 : ByteArray).toList == ((⟨#[108, 105, 118, 101]⟩ : ByteArray) : ByteArray).toList))
 (K 200 w53)
 (J15 w53)))
 (J15 w48))))))) ∧
 (Calls Tryz.prog 44 #[(.pointer o1), (.int .i64 x3)] w11 fun e57 w56 =>
 ∃ (o55 : Option Addr), e57 = .returned (.pointer o55) ∧
 (AddrK o55 fun b58 =>
 ∃ (x59 : Int), w56.cell? b58 = some (.int .i64 x59) ∧
 (BoolK ((x59 : Int) != x14)
 (AddrK o1 fun b60 =>
 ∃ (m61 : Option Nat), w56.cell? (b60.add 6) = some (.map m61) ∧
 (∃ (x62 : Int), ∃ (w63 : World), Sem.run Tryz.prog (Instr.lookup 64 (.map m61) (.agg #[(.int .i64 x14), (.int .i64 x3)]) false) w56 = .ok (.int .i64 x62) w63 ∧
 (J41 ((x62 : Int) == 0) w63)))
 (J41 false w56)))))))))))
def ann28 : Ann := (.two .nil (.two (.two .nil (.two .nil (.two (.two .nil .nil) .nil))) (.two (.two .nil (.two (.two .nil .nil) .nil)) (.two .nil (.cut [] [0, 1, 2] (.one (.cut [(26, (.one .bool))] [0, 1, 2, 8] .nil (.two (.two .nil .nil) (.two .nil (.two (.two .nil .nil) .nil))))) (.two (.two .nil (.two .nil (.two (.two .nil .nil) .nil))) (.two .nil .nil)))))))
noncomputable def code28 : Code := match Tryz.f28.body with | some c => c | none => .skip
theorem wp28 (o1 : Option Addr) (x2 : Int) (x3 : Int) (K : Int → World → Prop) (w : World) : WP Tryz.prog tab code28 ann28 (fnQ tab Tryz.f28.results.toList [(.one (.int .i64))] K) (argE 0 [(.pointer o1), (.int .i64 x2), (.int .i64 x3)]) w = N28 o1 x2 x3 K w := by kernel_rfl
theorem calls28 (o1 : Option Addr) (x2 : Int) (x3 : Int) (K : Int → World → Prop) (w : World) (h : N28 o1 x2 x3 K w) : Calls Tryz.prog 28 #[(.pointer o1), (.int .i64 x2), (.int .i64 x3)] w fun en w' => ∃ (x64 : Int), en = .returned (.int .i64 x64) ∧ K x64 w' :=
 have e : (fun en w' => ExShs [(.one (.int .i64))] fun vs => en = .returned (tupled vs) ∧ ap [(.one (.int .i64))] K vs fun p => p w') = (fun (en : Ending) (w' : World) => ∃ (x64 : Int), en = .returned (.int .i64 x64) ∧ K x64 w') := by kernel_rfl
 e ▸ fn_sound tabOk mixed Tryz.func28 (by kernel_rfl : Tryz.f28.body = some code28) ann28 [(.pointer o1), (.int .i64 x2), (.int .i64 x3)] [(.one (.int .i64))] K w (by kernel_rfl) ((wp28 o1 x2 x3 K w).symm ▸ h)
end Go.Proofs.YtgggbmikmmljcaaGreat

namespace Go.Proofs.YtgggbmikmmljcaaGreat
open Go Go.V Go.Proofs
open Go.RowKit (Below)
/-! (*manystrand/count.Count).Loose -/
def N30 (o1 : Option Addr) (x2 : Int) (x3 : Int) (K : Int → World → Prop) (w : World) : Prop :=
 AllocK w (#[(.int .i64 x2)]) 3 fun b4 w5 =>
 AllocK w5 (#[(.int .i64 x3)]) 3 fun b6 w7 =>
 ∃ (x8 : Int), w7.cell? b4 = some (.int .i64 x8) ∧
 (Calls Tryz.prog 43 #[(.pointer o1), (.int .i64 x8), (.slice none 0 0)] w7 fun e11 w10 =>
 ∃ (x9 : Int), e11 = .returned (.int .i64 x9) ∧
 (BoolK ((x9 : Int) != 0)
 (K x9 w10)
 (∃ (x12 : Int), w10.cell? b4 = some (.int .i64 x12) ∧
 (Calls Tryz.prog 44 #[(.pointer o1), (.int .i64 x12)] w10 fun e15 w14 =>
 ∃ (o13 : Option Addr), e15 = .returned (.pointer o13) ∧
 (DrewK w14 fun w16 =>
 AddrK o13 fun b17 =>
 ∃ (a18 : Option Addr) (l18 : Nat) (c18 : Nat), w16.cell? (b17.add 6) = some (.slice a18 l18 c18) ∧
 (∃ (x19 : Int), w16.cell? b6 = some (.int .i64 x19) ∧
 (Calls Tryz.prog 71 #[(.slice a18 l18 c18), (.int .i64 x19)] w16 fun e22 w21 =>
 ∃ (x20 : Int), e22 = .returned (.int .i64 x20) ∧
 (BoolK (decide ((x20 : Int) < 0))
 (K 5 w21)
 (AddrK o13 fun b23 =>
 ∃ (a24 : Option Addr) (l24 : Nat) (c24 : Nat), w21.cell? (b23.add 6) = some (.slice a24 l24 c24) ∧
 (Calls Tryz.prog 72 #[(.slice a24 l24 c24), (.int .i64 x20), (.int .i64 (IntKind.wrap .i64 (x20 + 1)))] w21 fun e27 w26 =>
 ∃ (a25 : Option Addr), ∃ (l25 : Nat), ∃ (c25 : Nat), e27 = .returned (.slice a25 l25 c25) ∧
 (AddrK o13 fun b28 =>
 SetK w26 (b28.add 6) (.slice a25 l25 c25) fun w29 =>
 AddrK o1 fun b30 =>
 ∃ (a31 : Option Addr) (l31 : Nat) (c31 : Nat), w29.cell? (b30.add 4) = some (.slice a31 l31 c31) ∧
 (Calls Tryz.prog 54 #[(.slice a31 l31 c31), (.func (.func 73) #[] #[(.pointer (some b4)), (.pointer (some b6))])] w29 fun e34 w33 =>
 ∃ (a32 : Option Addr), ∃ (l32 : Nat), ∃ (c32 : Nat), e34 = .returned (.slice a32 l32 c32) ∧
 (AddrK o1 fun b35 =>
 SetK w33 (b35.add 4) (.slice a32 l32 c32) fun w36 =>
 K 0 w36)))))))))))))
def ann30 : Ann := (.two .nil (.two (.two .nil (.two .nil (.two (.two .nil .nil) .nil))) (.two .nil (.two (.any 5 (.take 0 (.take 1 (.take 2 (.take 3 (.take 4 .done)))))) (.two (.two .nil (.two (.two .nil .nil) .nil)) (.two .nil (.two .nil (.two .nil .nil))))))))
noncomputable def code30 : Code := match Tryz.f30.body with | some c => c | none => .skip
theorem wp30 (o1 : Option Addr) (x2 : Int) (x3 : Int) (K : Int → World → Prop) (w : World) : WP Tryz.prog tab code30 ann30 (fnQ tab Tryz.f30.results.toList [(.one (.int .i64))] K) (argE 0 [(.pointer o1), (.int .i64 x2), (.int .i64 x3)]) w = N30 o1 x2 x3 K w := by kernel_rfl
theorem calls30 (o1 : Option Addr) (x2 : Int) (x3 : Int) (K : Int → World → Prop) (w : World) (h : N30 o1 x2 x3 K w) : Calls Tryz.prog 30 #[(.pointer o1), (.int .i64 x2), (.int .i64 x3)] w fun en w' => ∃ (x37 : Int), en = .returned (.int .i64 x37) ∧ K x37 w' :=
 have e : (fun en w' => ExShs [(.one (.int .i64))] fun vs => en = .returned (tupled vs) ∧ ap [(.one (.int .i64))] K vs fun p => p w') = (fun (en : Ending) (w' : World) => ∃ (x37 : Int), en = .returned (.int .i64 x37) ∧ K x37 w') := by kernel_rfl
 e ▸ fn_sound tabOk mixed Tryz.func30 (by kernel_rfl : Tryz.f30.body = some code30) ann30 [(.pointer o1), (.int .i64 x2), (.int .i64 x3)] [(.one (.int .i64))] K w (by kernel_rfl) ((wp30 o1 x2 x3 K w).symm ▸ h)
end Go.Proofs.YtgggbmikmmljcaaGreat

namespace Go.Proofs.YtgggbmikmmljcaaGreat
open Go Go.V Go.Proofs
open Go.RowKit (Below)
/-! (*manystrand/count.Count).Loose$1 -/
def N73 (x1 : Int) (x2 : Int) (o3 : Option Addr) (o4 : Option Addr) (K : Bool → World → Prop) (w : World) : Prop :=
 AllocK w (#[(.int .i64 x1), (.int .i64 x2)]) 93 fun b5 w6 =>
 ∃ (x7 : Int), w6.cell? (b5.add 0) = some (.int .i64 x7) ∧
 (∃ (x8 : Int), w6.cell? (b5.add 1) = some (.int .i64 x8) ∧
 (AddrK o3 fun b9 =>
 ∃ (x10 : Int), w6.cell? b9 = some (.int .i64 x10) ∧
 (AddrK o4 fun b11 =>
 ∃ (x12 : Int), w6.cell? b11 = some (.int .i64 x12) ∧
 (K (((x7 : Int) == x10) && (((x8 : Int) == x12) && (true))) w6))))
def ann73 : Ann := (.two .nil (.two .nil .nil))
noncomputable def code73 : Code := match Tryz.f73.body with | some c => c | none => .skip
theorem wp73 (x1 : Int) (x2 : Int) (o3 : Option Addr) (o4 : Option Addr) (K : Bool → World → Prop) (w : World) : WP Tryz.prog tab code73 ann73 (fnQ tab Tryz.f73.results.toList [(.one .bool)] K) (argE 0 [(.agg #[(.int .i64 x1), (.int .i64 x2)]), (.pointer o3), (.pointer o4)]) w = N73 x1 x2 o3 o4 K w := by kernel_rfl
theorem calls73 (x1 : Int) (x2 : Int) (o3 : Option Addr) (o4 : Option Addr) (K : Bool → World → Prop) (w : World) (h : N73 x1 x2 o3 o4 K w) : Calls Tryz.prog 73 #[(.agg #[(.int .i64 x1), (.int .i64 x2)]), (.pointer o3), (.pointer o4)] w fun en w' => ∃ (p13 : Bool), en = .returned (.bool p13) ∧ K p13 w' :=
 have e : (fun en w' => ExShs [(.one .bool)] fun vs => en = .returned (tupled vs) ∧ ap [(.one .bool)] K vs fun p => p w') = (fun (en : Ending) (w' : World) => ∃ (p13 : Bool), en = .returned (.bool p13) ∧ K p13 w') := by kernel_rfl
 e ▸ fn_sound tabOk mixed Tryz.func73 (by kernel_rfl : Tryz.f73.body = some code73) ann73 [(.agg #[(.int .i64 x1), (.int .i64 x2)]), (.pointer o3), (.pointer o4)] [(.one .bool)] K w (by kernel_rfl) ((wp73 x1 x2 o3 o4 K w).symm ▸ h)
end Go.Proofs.YtgggbmikmmljcaaGreat

namespace Go.Proofs.YtgggbmikmmljcaaGreat
open Go Go.V Go.Proofs
open Go.RowKit (Below)
/-! slices.Delete[[]int,int] -/
def N72 (a1 : Option Addr) (l1 : Nat) (c1 : Nat) (x2 : Int) (x3 : Int) (K : Option Addr → Nat → Nat → World → Prop) (w : World) : Prop :=
 ∃ (a4 : Option Addr), ∃ (l4 : Nat), ∃ (c4 : Nat), ∃ (w5 : World), Sem.run Tryz.prog (Instr.sliceAt 43 (.slice a1 l1 c1) (some (.int .i64 x2)) (some (.int .i64 x3)) (some (.int .i64 (l1 : Nat)))) w = .ok (.slice a4 l4 c4) w5 ∧
 (BoolK ((x2 : Int) == x3)
 (K a1 l1 c1 w5)
 (DrewK w5 fun w6 =>
 0 ≤ (x2 : Int) ∧
 ((0 ≤ (x2 : Int).toNat ∧ (x2 : Int).toNat ≤ c1) ∧
 (0 ≤ (x3 : Int) ∧
 (((x3 : Int).toNat ≤ l1 ∧ l1 ≤ c1) ∧
 (∃ (a7 : Option Addr), ∃ (l7 : Nat), ∃ (c7 : Nat), ∃ (w8 : World), Sem.run Tryz.prog (Builtin.append_ #[43, 43] 43 #[(.slice (if c1 = 0 then a1 else (a1).map (·.add (0 * 1))) ((x2 : Int).toNat - 0) (c1 - 0)), (.slice (if c1 = (x3 : Int).toNat then a1 else (a1).map (·.add ((x3 : Int).toNat * 1))) (l1 - (x3 : Int).toNat) (c1 - (x3 : Int).toNat))]) w6 = .ok (.slice a7 l7 c7) w8 ∧
 (0 ≤ ((l7 : Nat) : Int) ∧
 (0 ≤ ((l1 : Nat) : Int) ∧
 ((((l7 : Nat) : Int).toNat ≤ ((l1 : Nat) : Int).toNat ∧ ((l1 : Nat) : Int).toNat ≤ c7) ∧
 (∃ (w9 : World), Sem.run Tryz.prog (Builtin.clear_ #[43] 0 #[(.slice (if c7 = ((l7 : Nat) : Int).toNat then a7 else (a7).map (·.add (((l7 : Nat) : Int).toNat * 1))) (((l1 : Nat) : Int).toNat - ((l7 : Nat) : Int).toNat) (c7 - ((l7 : Nat) : Int).toNat))]) w8 = .ok (.tuple #[]) w9 ∧
 (K a7 l7 c7 w9)))))))))))
def ann72 : Ann := (.two .nil (.two .nil (.two (.two .nil (.two (.two .nil .nil) .nil)) (.two .nil (.two (.any 6 (.take 0 (.take 1 (.take 2 (.take 3 (.take 4 (.take 5 .done))))))) (.two .nil (.two .nil .nil)))))))
noncomputable def code72 : Code := match Tryz.f72.body with | some c => c | none => .skip
theorem wp72 (a1 : Option Addr) (l1 : Nat) (c1 : Nat) (x2 : Int) (x3 : Int) (K : Option Addr → Nat → Nat → World → Prop) (w : World) : WP Tryz.prog tab code72 ann72 (fnQ tab Tryz.f72.results.toList [(.one .slice)] K) (argE 0 [(.slice a1 l1 c1), (.int .i64 x2), (.int .i64 x3)]) w = N72 a1 l1 c1 x2 x3 K w := by kernel_rfl
theorem calls72 (a1 : Option Addr) (l1 : Nat) (c1 : Nat) (x2 : Int) (x3 : Int) (K : Option Addr → Nat → Nat → World → Prop) (w : World) (h : N72 a1 l1 c1 x2 x3 K w) : Calls Tryz.prog 72 #[(.slice a1 l1 c1), (.int .i64 x2), (.int .i64 x3)] w fun en w' => ∃ (a10 : Option Addr), ∃ (l10 : Nat), ∃ (c10 : Nat), en = .returned (.slice a10 l10 c10) ∧ K a10 l10 c10 w' :=
 have e : (fun en w' => ExShs [(.one .slice)] fun vs => en = .returned (tupled vs) ∧ ap [(.one .slice)] K vs fun p => p w') = (fun (en : Ending) (w' : World) => ∃ (a10 : Option Addr), ∃ (l10 : Nat), ∃ (c10 : Nat), en = .returned (.slice a10 l10 c10) ∧ K a10 l10 c10 w') := by kernel_rfl
 e ▸ fn_sound tabOk mixed Tryz.func72 (by kernel_rfl : Tryz.f72.body = some code72) ann72 [(.slice a1 l1 c1), (.int .i64 x2), (.int .i64 x3)] [(.one .slice)] K w (by kernel_rfl) ((wp72 a1 l1 c1 x2 x3 K w).symm ▸ h)
end Go.Proofs.YtgggbmikmmljcaaGreat

namespace Go.Proofs.YtgggbmikmmljcaaGreat
open Go Go.V Go.Proofs
open Go.RowKit (Below)
def CS.onM (S : CS) (x : Int) (ys : List Int) (zs : List (Int × Int)) : CS := { S.setTh (x - 1).toNat { S.th x with on := ys } with calls := zs }
def HoldOk (S : CS) (x other : Int) (S' : CS) : Prop := S' = S ∨ (S.isT x ∧ S.isT other ∧ S' = S.onM x ((S.th x).on ++ [other]) (S.calls ++ [(x, other)]))
def LooseOk (S : CS) (x : Int) (S' : CS) : Prop := S' = S ∨ (S.isT x ∧ ∃ ys zs, S' = S.onM x ys zs ∧ ys.length ≤ (S.th x).on.length ∧ (∀ y ∈ ys, y ∈ (S.th x).on) ∧ zs.length ≤ S.calls.length ∧ ∀ z ∈ zs, z ∈ S.calls)
section
variable {w w' w2 : World} {own own' : OwnM Role} {r : Raw} {S : CS}
theorem CR.setOn (h : CR w own r S) {x : Int} (hx : S.isT x) {g : Nat} (hg : r.thp (x - 1).toNat = some ⟨g, (x - 1).toNat * 7, none⟩) {s' : SL} {ys : List Int} (u : Upd own own' (.on (x - 1).toNat) w w') (hr : RowR own' (.on (x - 1).toNat) 3 1 eI w' s' ys) {F : World → Prop}
    (k : ∀ w2 r', CR w2 own' r' (S.setTh (x - 1).toNat { S.th x with on := ys }) → r'.b = r.b → (∀ i, r'.thp i = r.thp i) → Upd own' own' .things w' w2 → F w2) : SetK w' ⟨g, (x - 1).toNat * 7 + 6, none⟩ (slv s') F := by
  obtain ⟨h1, h2⟩ := hx
  have hi : (x - 1).toNat < S.things.length := by omega
  obtain ⟨g2, l, c, y, hs, ho, hg2, hy, hok, hc⟩ := h.thAt hi
  have e := CS.th_get (S := S) (x := x) (i := (x - 1).toNat) hi rfl
  have : g = g2 := by rw [Raw.thp, hs] at hg; simp [add_mk] at hg; exact hg.symm
  subst this
  have hi' : (x - 1).toNat < r.ths.length := by rw [h.thl]; exact hi
  have hT := h.things.upd u (by simp)
  rw [hs] at hT
  have hyy : r.ths[(x - 1).toNat] = y := by rw [List.getElem?_eq_getElem hi'] at hy; cases hy; rfl
  refine hT.set (ys := r.ths.set (x - 1).toNat { y with on := s' }) ((x - 1).toNat * 7 + 6) _ (by omega) (by simp) (flat_set (sz := 7) (j := 6) eT_len hi' (by omega) (by rw [hyy]; rfl)) fun w2 hr2 u2 => ?_
  have q := h.newOn (s' := s') (ys := ys) hy (List.getElem?_eq_getElem hi) u hr u2 (by rw [hs]; exact hr2)
  rw [← e] at q
  exact k w2 _ q rfl (fun _ => rfl) u2
theorem c72 {base : Nat} (a : Option Addr) (l c : Nat) (xs : List Int) (hx : OwnR base 3 1 eI w a l c xs) (hl : xs.length ≤ 1000000000) {k : Nat} (hk : k < xs.length) :
    Calls Tryz.prog 72 #[.slice a l c, .int .i64 (k : Int), .int .i64 ((k + 1 : Nat) : Int)] w fun en w' => ∃ a' l' c', en = .returned (.slice a' l' c') ∧ (OwnR base 3 1 eI w' a' l' c' (xs.eraseIdx k) ∧ (Value.slice a' l' c').ownBlock = (Value.slice a l c).ownBlock ∧ w.grownBy w' (Value.slice a l c).ownBlock) := by
  refine calls72 _ _ _ _ _ _ w ?_
  obtain ⟨g, rfl, hbg, hg, _⟩ := hx.cellAt eI_len (List.getElem?_eq_getElem hk)
  obtain ⟨hll, hlc⟩ : l = xs.length ∧ l ≤ c := by
    obtain ⟨h1, h2, _⟩ := OwnR.delAt (ty := 0) (ty2 := 0) sltI (by kernel_rfl : zOk Tryz.prog 3 = true) hx eI_len eI_one hk
    exact ⟨h1, h2⟩
  obtain ⟨a4, l4, c4, q0⟩ := run_slice3 sltI (some ⟨g, 0, none⟩) l c (i := (k : Int)) (j := ((k + 1 : Nat) : Int)) (m := (l : Int)) (by omega) (by omega) (by omega) (by omega) w
  refine ⟨_, _, _, _, q0, BoolK.mk (fun t => by have := beq_iff_eq.1 t; omega) (fun _ => DrewK.mk fun w6 hx6 => ?_)⟩
  obtain ⟨_, _, w8, w9, q1, q2, q3, q4⟩ := OwnR.delAt (ty := 43) (ty2 := 0) sltI (by kernel_rfl : zOk Tryz.prog 3 = true) (hx.ext hx6) eI_len eI_one hk
  refine ⟨by omega, ⟨by omega, by omega⟩, by omega, ⟨by omega, hlc⟩, some ⟨g, 0, none⟩, l - 1, c, w8, ?_, by omega, by omega, ⟨by omega, by omega⟩, w9, ?_, q3, rfl, ?_⟩
  · rw [← q1]
    have e1 : (if c = 0 then some (⟨g, 0, none⟩ : Addr) else (some (⟨g, 0, none⟩ : Addr)).map (·.add (0 * 1))) = some ⟨g, 0, none⟩ := by split <;> simp [add_mk]
    have e2 : (if c = ((k + 1 : Nat) : Int).toNat then some (⟨g, 0, none⟩ : Addr) else (some (⟨g, 0, none⟩ : Addr)).map (·.add (((k + 1 : Nat) : Int).toNat * 1))) = (if c = k + 1 then some ⟨g, 0, none⟩ else some ⟨g, (k + 1) * 1, none⟩) := by
      rw [Int.toNat_natCast]; split <;> simp [add_mk]
    rw [e1, e2]; rfl
  · rw [← q2]
    have e3 : (if c = ((l - 1 : Nat) : Int).toNat then some (⟨g, 0, none⟩ : Addr) else (some (⟨g, 0, none⟩ : Addr)).map (·.add (((l - 1 : Nat) : Int).toNat * 1))) = some ⟨g, (l - 1) * 1, none⟩ := by
      rw [Int.toNat_natCast, if_neg (by omega)]; simp [add_mk]
    rw [e3, Int.toNat_natCast, Int.toNat_natCast, show l - (l - 1) = 1 by omega]
  · exact ⟨q4.os.trans hx6.os, q4.tape.trans hx6.tape, q4.output.trans hx6.output, by rw [q4.size]; exact hx6.size, fun i hi hn => (q4.block i (fun e => hn (by rw [e]; rfl))).trans (hx6.block i hi)⟩
theorem setOwn_same {ρ : Type} {own : OwnM ρ} {o : Option Nat} {r : ρ} (h : ∀ k, o = some k → own k = some r) : setOwn own o r = own := by
  funext k; unfold setOwn; split
  · rename_i e; exact (h k e).symm
  · rfl
theorem cons_ne (e : Int) : e ≠ e → False := fun h => h rfl
set_option maxRecDepth 100000 in
theorem c28 (h : CR w own r S) (G : Safe S) (hcl : S.calls.length ≤ 1000000000) (x other : Int) : Calls Tryz.prog 28 #[cp r, .int .i64 x, .int .i64 other] w fun en w' => ∃ e, en = .returned (.int .i64 e) ∧ (∃ S', HoldOk S x other S' ∧ PostC own r w S' w') := by
  refine calls28 _ _ _ (fun e w' => ∃ S', HoldOk S x other S' ∧ PostC own r w S' w') w ?_
  have stay : ∀ {w'}, Ext w w' → ∃ S', HoldOk S x other S' ∧ PostC own r w S' w' := fun hx => ⟨S, .inl rfl, PostC.mk (h.ext hx) (Fr.of_ext own hx) rfl⟩
  refine (c43 h x none 0 0 [] (Rows.nil _ _ _ _) (by simp)).mono ?_
  rintro en w5 ⟨e, rfl, rfl, rfl⟩
  refine ⟨_, rfl, BoolK.mk (fun _ => stay (Ext.refl _)) (fun t => ?_)⟩
  have t : usableE S x [] = 0 := by simpa using t
  obtain ⟨hT, _⟩ := usable_isT t
  refine (c45 h other).mono ?_
  rintro en w8 ⟨p, rfl, rfl, rfl⟩
  refine ⟨_, rfl, BoolK.mk (fun _ => stay (Ext.refl _)) (fun t => ?_)⟩
  have hO : S.isT other := by
    refine Decidable.byContradiction fun hh => ?_
    rw [decide_eq_false (show ¬ (1 ≤ other ∧ other ≤ (S.things.length : Int)) from hh)] at t; cases t
  refine (cAt h hT G.th).mono ?_
  rintro en w11 ⟨o, rfl, rfl, g, s, rfl, hg, hgo, hc, hr⟩
  refine ⟨_, rfl, _, (hc 0 (by omega)).trans rfl, ?_⟩
  refine ⟨fun w' => Ext w11 w', ?_, fun p w' => Ext w11 w', ?_, ?_⟩
  · intro w16 hx16
    have h16 := h.ext hx16
    refine (cAt h16 hT G.th).mono ?_
    rintro en w18 ⟨o, rfl, rfl, g, s, rfl, hg, hgo, hc, hr⟩
    refine ⟨_, rfl, _, _, _, by rw [add_mk]; exact (hc 6 (by omega)).trans rfl, ?_⟩
    have hol := G.on _ (CS.th_mem hT)
    refine (c56 _ _ _ _ other (RowR.ints hr) hol).mono ?_
    rintro en w23 ⟨p, rfl, rfl, rfl⟩
    refine ⟨_, rfl, BoolK.mk (fun _ => ?_) (fun _ => stay hx16)⟩
    refine ⟨_, _, _, by rw [add_mk]; exact (hc 6 (by omega)).trans rfl, ?_⟩
    refine RowR.push other sltI hr eI_len eI_one (by omega) rfl fun s' w30 hr30 u30 => ?_
    show SetK w30 ((⟨g, (x - 1).toNat * 7, none⟩ : Addr).add 6) _ _
    rw [add_mk]
    refine h16.setOn hT hg u30 hr30 fun w32 r' h32 er _ u32 => ?_
    obtain ⟨rb, cl, ca, th, fl, mp, ma, mg, mm, mw, ths, wts⟩ := r'
    cases er
    refine ⟨_, _, _, h32.cell 4 rfl, ?_⟩
    refine RowR.push (x, other) sltP h32.calls eP_len eP_one (by show (S.calls.length + 1) * 16 ≤ _; omega) rfl fun s2 w38 hr38 u38 => ?_
    refine setBlk (h32.blk.upd h32.ob u38 (by simp)) ((u38.same _ h32.blk.lt).trans h32.ob) 4 _ (by simp) fun w40 hb40 u40 => ?_
    have h40 := h32.newCalls u38 hr38 u40 (by simpa [slv] using hb40)
    exact ⟨_, .inr ⟨hT, hO, rfl⟩, PostC.mk h40 (((((Fr.of_ext own hx16).trans u30.fr).trans u32.fr).trans u38.fr).trans u40.fr) rfl⟩
  · intro w42 p hx42
    have h42 := h.ext hx42
    refine BoolK.mk (fun _ => stay hx42) (fun _ => ?_)
    refine (c13 h42 G.toLim2 x).mono ?_
    rintro en w45 ⟨s, rfl, hs, hx45⟩
    have h45 := h42.ext hx45
    refine ⟨_, rfl, BoolK.mk (fun _ => stay (hx42.trans hx45)) (fun _ => ?_)⟩
    refine (cAt h45 hO G.th).mono ?_
    rintro en w48 ⟨o, rfl, rfl, g, s, rfl, hg, hgo, hc, hr⟩
    refine ⟨_, rfl, _, (hc 0 (by omega)).trans rfl, BoolK.mk (fun _ => ?_) (fun _ => hx42.trans hx45)⟩
    refine (c13 h45 G.toLim2 other).mono ?_
    rintro en w53 ⟨s, rfl, hs, hx53⟩
    exact ⟨_, rfl, BoolK.mk (fun _ => stay ((hx42.trans hx45).trans hx53)) (fun _ => (hx42.trans hx45).trans hx53)⟩
  · refine (cAt h hO G.th).mono ?_
    rintro en w56 ⟨o, rfl, rfl, g, s, rfl, hg, hgo, hc, hr⟩
    refine ⟨_, rfl, _, (hc 0 (by omega)).trans rfl, BoolK.mk (fun _ => ?_) (fun _ => Ext.refl _)⟩
    exact ⟨_, h.cell 6 rfl, _, _, h.lkProx ((S.th x).owner, other), Ext.refl _⟩
theorem asksLoose {own0 : OwnM Role} {r0 : Raw} {w0 : World} {xs : List (Int × Int)} {b4 b6 : Nat} {x other : Int} {t4 t6 : Nat} (h4 : BX own0 w0 b4 #[.int .i64 x] t4) (h6 : BX own0 w0 b6 #[.int .i64 other] t6) :
    Asks own0 r0 w0 (fun _ S1 => S1 = S) xs 73 #[.pointer (some ⟨b4, 0, none⟩), .pointer (some ⟨b6, 0, none⟩)] := by
  intro n zs y w own1 r1 S1 hy hn hW
  refine calls73 _ _ _ _ (fun _ w' => ∃ own2 r2 S2, WC own0 r0 w0 (fun _ S1 => S1 = S) xs zs (n + 1) own2 r2 S2 w' ∧ Fr own1 own2 w w') w ?_
  refine AllocK.mk fun b5 w6 hb5 hB5 hx5 => ?_
  have h4 := (h4.fr hW.f).ext hx5
  have h6 := (h6.fr hW.f).ext hx5
  have b5x := blkAt2 hB5
  exact ⟨_, b5x.1, _, b5x.2.1, _, h4.at0 rfl, _, h6.at0 rfl, own1, r1, S1, ⟨hW.p, hW.c.ext hx5, hW.f.trans (Fr.of_ext _ hx5), hW.b, hW.ca, hW.cl, hW.len, hW.mem⟩, Fr.of_ext _ hx5⟩
theorem c30 (h : CR w own r S) (G : Safe S) (hcl : S.calls.length ≤ 1000000000) (x other : Int) : Calls Tryz.prog 30 #[cp r, .int .i64 x, .int .i64 other] w fun en w' => ∃ e, en = .returned (.int .i64 e) ∧ (∃ S', LooseOk S x S' ∧ PostC own r w S' w') := by
  refine calls30 _ _ _ (fun e w' => ∃ S', LooseOk S x S' ∧ PostC own r w S' w') w ?_
  have stay : ∀ {w'}, Ext w w' → ∃ S', LooseOk S x S' ∧ PostC own r w S' w' := fun hx => ⟨S, .inl rfl, PostC.mk (h.ext hx) (Fr.of_ext own hx) rfl⟩
  refine BX.new h fun b4 w5 h5 bx4 hx5 => BX.new h5 fun b6 w7 h7 bx6 hx7 => ?_
  have bx4 := bx4.ext hx7
  refine ⟨_, bx4.at0 rfl, ?_⟩
  have hx := hx5.trans hx7
  refine (c43 h7 x none 0 0 [] (Rows.nil _ _ _ _) (by simp)).mono ?_
  rintro en w10 ⟨e, rfl, rfl, rfl⟩
  refine ⟨_, rfl, BoolK.mk (fun _ => stay hx) (fun t => ?_)⟩
  have t : usableE S x [] = 0 := by simpa using t
  obtain ⟨hT, _⟩ := usable_isT t
  refine ⟨_, bx4.at0 rfl, ?_⟩
  refine (cAt h7 hT G.th).mono ?_
  rintro en w14 ⟨o, rfl, rfl, g, s, rfl, hg, hgo, hc, hr⟩
  refine ⟨_, rfl, DrewK.mk fun w16 hx16 => ?_⟩
  have h16 := h7.ext hx16
  have hr := hr.ext hx16
  have bx6 := bx6.ext hx16
  have bx4 := bx4.ext hx16
  have hx := hx.trans hx16
  refine ⟨_, _, _, by rw [add_mk]; exact hx16.cell ((hc 6 (by omega)).trans rfl), _, bx6.at0 rfl, ?_⟩
  have hol := G.on _ (CS.th_mem hT)
  refine (c71 _ _ _ _ other (RowR.ints hr) hol).mono ?_
  rintro en w21 ⟨n, rfl, rfl, rfl⟩
  refine ⟨_, rfl, BoolK.mk (fun _ => stay hx) (fun t => ?_)⟩
  have t := of_decide_eq_false t
  have hm : other ∈ (S.th x).on := by
    refine Decidable.byContradiction fun hn => t ?_
    rw [idxE, if_neg hn]; omega
  have hn : idxE (S.th x).on other = (((S.th x).on.idxOf other : Nat) : Int) := by rw [idxE, if_pos hm]
  have hlt : (S.th x).on.idxOf other < (S.th x).on.length := List.idxOf_lt_length_of_mem hm
  rw [hn, wrap_succ (by omega)]
  refine ⟨_, _, _, by rw [add_mk]; exact hx16.cell ((hc 6 (by omega)).trans rfl), ?_⟩
  refine (c72 _ _ _ _ hr.1 hol hlt).mono ?_
  rintro en w26 ⟨a', l', c', rfl, hO, hob, hgr⟩
  refine ⟨_, _, _, rfl, ?_⟩
  have u : Upd own own (.on (x - 1).toNat) w21 w26 := by
    have u := Upd.of_grown (own := own) (r := Role.on (x - 1).toNat) (row' := (Value.slice a' l' c').ownBlock) hgr (fun k hk => hr.2 k hk) (.inl hob) (fun k hk => (hO.lt k hk).2)
    rw [setOwn_same (fun k hk => hr.2 k (hob.symm.trans hk))] at u; exact u
  have hr26 : RowR own (.on (x - 1).toNat) 3 1 eI w26 (a', l', c') ((S.th x).on.eraseIdx ((S.th x).on.idxOf other)) := ⟨hO, fun k hk => hr.2 k (hob.symm.trans hk)⟩
  show SetK w26 ((⟨g, (x - 1).toNat * 7, none⟩ : Addr).add 6) _ _
  rw [add_mk]
  refine h16.setOn hT hg u hr26 fun w29 r' h29 er _ u29 => ?_
  obtain ⟨rb, cl, ca, th, fl, mp, ma, mg, mm, mw, ths, wts⟩ := r'
  cases er
  have bx4 := (bx4.fr u.fr).fr u29.fr
  have bx6 := (bx6.fr u.fr).fr u29.fr
  have F29 : Fr own own w w29 := ((Fr.of_ext own hx).trans u.fr).trans u29.fr
  refine ⟨_, _, _, h29.cell 4 rfl, ?_⟩
  let S2 := S.setTh (x - 1).toNat { S.th x with on := (S.th x).on.eraseIdx ((S.th x).on.idxOf other) }
  refine (c54 (xs := S.calls) (P := fun _ S1 => S1 = S2) (S := S2) Tryz.call73 (asksLoose bx4 bx6) hcl ⟨rfl, h29, Fr.refl _ _, rfl, rfl, rfl, rfl, fun z hz => hz⟩ h29.calls).mono ?_
  rintro en w33 ⟨a, l, c, rfl, own', r', S1, zs, ys, w1, hW, u33, hr33, hyl, hym⟩
  obtain ⟨rb, cl, ca, th, fl, mp, ma, mg, mm, mw, ths, wts⟩ := r'
  have hWb := hW.b
  cases hWb
  have hp : S1 = S2 := hW.p
  subst hp
  refine ⟨_, _, _, rfl, ?_⟩
  refine setBlk (hW.c.blk.upd hW.c.ob u33 (by simp)) hW.c.ob 4 _ (by simp) fun w36 hb36 u36 => ?_
  have h36 := hW.c.newCalls u33 hr33 u36 (by simpa [slv] using hb36)
  refine ⟨_, .inr ⟨hT, _, ys, rfl, ?_, fun y hy => List.mem_of_mem_eraseIdx hy, hyl, hym⟩, PostC.mk h36 (((F29.trans hW.f).trans u33.fr).trans u36.fr) rfl⟩
  rw [List.length_eraseIdx]; split <;> omega
end
end Go.Proofs.YtgggbmikmmljcaaGreat

namespace Go.Proofs.YtgggbmikmmljcaaGreat
open Go Go.V Go.Proofs
open Go.RowKit (Below)
/-! (*manystrand/count.Count).Tick -/
def N35 (o1 : Option Addr) (x2 : Int) (K : Int → World → Prop) (w : World) : Prop :=
 Calls Tryz.prog 21 #[(.pointer o1)] w fun e5 w4 =>
 ∃ (p3 : Bool), e5 = .returned (.bool p3) ∧
 (BoolK p3
 (K 7 w4)
 (Calls Tryz.prog 53 #[(.pointer o1), (.int .i64 x2)] w4 fun e8 w7 =>
 ∃ (p6 : Bool), e8 = .returned (.bool p6) ∧
 (BoolK (!p6)
 (K 2 w7)
 (AddrK o1 fun b9 =>
 ∃ (a10 : Option Addr) (l10 : Nat) (c10 : Nat), w7.cell? (b9.add 3) = some (.slice a10 l10 c10) ∧
 ((0 ≤ (x2 : Int) ∧ (x2 : Int) < (l10 : Nat)) ∧
 AddrK a10 fun b11 =>
 ∃ (x12 : Int), w7.cell? (b11.add ((x2 : Int).toNat * 1)) = some (.int .i64 x12) ∧
 ((0 ≤ (x2 : Int) ∧ (x2 : Int) < (l10 : Nat)) ∧
 AddrK a10 fun b13 =>
 SetK w7 (b13.add ((x2 : Int).toNat * 1)) (.int .i64 (IntKind.wrap .i64 (x12 + 1))) fun w14 =>
 ∃ (I15 : Int → World → Prop) (μ16 : Int → World → Nat),
 (I15 1 w14 ∧ True) ∧
 ∀ (w17 : World) (x18 : Int), I15 x18 w17 →
 AddrK o1 fun b19 =>
 ∃ (a20 : Option Addr) (l20 : Nat) (c20 : Nat), w17.cell? (b19.add 5) = some (.slice a20 l20 c20) ∧
 (BoolK (decide ((x18 : Int) ≤ (l20 : Nat)))
 (Calls Tryz.prog 44 #[(.pointer o1), (.int .i64 x18)] w17 fun e23 w22 =>
 ∃ (o21 : Option Addr), e23 = .returned (.pointer o21) ∧
 (∃ (J24 : World → Prop),
 (∀ (w25 : World), J24 w25 →
 DrewK w25 fun w26 =>
 AddrK o21 fun b27 =>
 ∃ (x28 : Int), w26.cell? b27 = some (.int .i64 x28) ∧
 (BoolK ((x28 : Int) == x2)
 (AddrK o21 fun b29 =>
 ∃ (x30 : Int), w26.cell? (b29.add 2) = some (.int .i64 x30) ∧
 (BoolK ((x30 : Int) != 0)
 (AddrK o1 fun b31 =>
 ∃ (a32 : Option Addr) (l32 : Nat) (c32 : Nat), w26.cell? (b31.add 3) = some (.slice a32 l32 c32) ∧
 ((0 ≤ (x2 : Int) ∧ (x2 : Int) < (l32 : Nat)) ∧
 AddrK a32 fun b33 =>
 ∃ (x34 : Int), w26.cell? (b33.add ((x2 : Int).toNat * 1)) = some (.int .i64 x34) ∧
 (AddrK o21 fun b35 =>
 ∃ (x36 : Int), w26.cell? (b35.add 3) = some (.int .i64 x36) ∧
 (AddrK o1 fun b37 =>
 ∃ (x38 : Int), w26.cell? (b37.add 1) = some (.int .i64 x38) ∧
 (AddrK o1 fun b39 =>
 ∃ (x40 : Int), w26.cell? (b39.add 2) = some (.int .i64 x40) ∧
 (BoolK (decide ((IntKind.wrap .i64 (x34 - x36) : Int) ≥ IntKind.wrap .i64 (x38 + x40)))
 (AddrK o21 fun b41 =>
 SetK w26 (b41.add 4) (.bool true) fun w42 =>
 I15 (IntKind.wrap .i64 (x18 + 1)) w42 ∧ μ16 (IntKind.wrap .i64 (x18 + 1)) w42 < μ16 x18 w17)
 (I15 (IntKind.wrap .i64 (x18 + 1)) w26 ∧ μ16 (IntKind.wrap .i64 (x18 + 1)) w26 < μ16 x18 w17)))))))
 (I15 (IntKind.wrap .i64 (x18 + 1)) w26 ∧ μ16 (IntKind.wrap .i64 (x18 + 1)) w26 < μ16 x18 w17)))
 (I15 (IntKind.wrap .i64 (x18 + 1)) w26 ∧ μ16 (IntKind.wrap .i64 (x18 + 1)) w26 < μ16 x18 w17))) ∧
 (AddrK o1 fun b43 =>
 ∃ (m44 : Option Nat), w22.cell? (b43.add 6) = some (.map m44) ∧
 (∃ (x45 : Int), ∃ (w46 : World), Sem.run Tryz.prog (Instr.lookup 64 (.map m44) (.agg #[(.int .i64 x2), (.int .i64 x18)]) false) w22 = .ok (.int .i64 x45) w46 ∧
 (BoolK (decide ((x45 : Int) > 0))
 (AddrK o21 fun b47 =>
 ∃ (x48 : Int), w46.cell? b47 = some (.int .i64 x48) ∧
 (Calls Tryz.prog 48 #[(.pointer o1), (.int .i64 x2), (.int .i64 x48), (.string (⟨#[114, 101, 110, 101, 119]⟩ : ByteArray)), (.int .i64 x18), (.int .i64 0)] w46 fun e50 w49 =>
 e50 = .returned (.tuple #[]) ∧
 (J24 w49)))
 (J24 w46))))))
 (K 0 w17))))))))
def ann35 : Ann := (.two .nil (.two (.two .nil (.two (.two .nil .nil) .nil)) (.two (.two .nil (.two (.two .nil .nil) .nil)) (.two .nil (.two (.two .nil (.one (.loop [(5, (.one (.int .i64)))] [0, 1] (.two (.two .nil (.two .nil .nil)) (.two (.one (.two .nil (.cut [] [0, 1, 5, 6] (.two .nil (.two .nil .nil)) (.two (.any 37 (.take 0 (.take 1 (.take 2 (.take 3 (.take 4 (.take 5 (.take 6 (.take 7 (.take 8 (.take 9 (.take 10 (.take 11 (.take 12 (.take 13 (.take 14 (.take 15 (.take 16 (.take 17 (.take 18 (.take 19 (.take 20 (.take 21 (.take 22 (.take 23 (.take 24 (.take 25 (.take 26 (.take 27 (.take 28 (.take 29 (.take 30 (.take 31 (.take 32 (.take 33 (.take 34 (.take 35 (.take 36 .done)))))))))))))))))))))))))))))))))))))) (.two .nil .nil))))) .nil))))) (.two .nil .nil))))))
noncomputable def code35 : Code := match Tryz.f35.body with | some c => c | none => .skip
theorem wp35 (o1 : Option Addr) (x2 : Int) (K : Int → World → Prop) (w : World) : WP Tryz.prog tab code35 ann35 (fnQ tab Tryz.f35.results.toList [(.one (.int .i64))] K) (argE 0 [(.pointer o1), (.int .i64 x2)]) w = N35 o1 x2 K w := by kernel_rfl
theorem calls35 (o1 : Option Addr) (x2 : Int) (K : Int → World → Prop) (w : World) (h : N35 o1 x2 K w) : Calls Tryz.prog 35 #[(.pointer o1), (.int .i64 x2)] w fun en w' => ∃ (x51 : Int), en = .returned (.int .i64 x51) ∧ K x51 w' :=
 have e : (fun en w' => ExShs [(.one (.int .i64))] fun vs => en = .returned (tupled vs) ∧ ap [(.one (.int .i64))] K vs fun p => p w') = (fun (en : Ending) (w' : World) => ∃ (x51 : Int), en = .returned (.int .i64 x51) ∧ K x51 w') := by kernel_rfl
 e ▸ fn_sound tabOk mixed Tryz.func35 (by kernel_rfl : Tryz.f35.body = some code35) ann35 [(.pointer o1), (.int .i64 x2)] [(.one (.int .i64))] K w (by kernel_rfl) ((wp35 o1 x2 K w).symm ▸ h)
end Go.Proofs.YtgggbmikmmljcaaGreat

namespace Go.Proofs.YtgggbmikmmljcaaGreat
open Go Go.V Go.Proofs
open Go.RowKit (Below)
def SameTh (t t' : Th) : Prop := t'.owner = t.owner ∧ t'.holds = t.holds ∧ t'.out = t.out ∧ t'.swept = t.swept ∧ t'.on = t.on
structure Calm (S S' : CS) (d : Nat) : Prop where
  clocks : S'.clocks.length = S.clocks.length
  calls : S'.calls = S.calls
  prox : S'.prox = S.prox
  waits : S'.waits = S.waits
  len : S'.things.length = S.things.length
  th : ∀ (i : Nat) (t t' : Th), S.things[i]? = some t → S'.things[i]? = some t' → SameTh t t'
  fly : ∃ ms : List Msg, S'.fly = S.fly ++ ms ∧ ms.length ≤ d ∧ ∀ m ∈ ms, S.isT m.ent ∧ S.isS m.frm ∧ S.isS m.to ∧ m.n = 0
theorem SameTh.refl (t : Th) : SameTh t t := ⟨rfl, rfl, rfl, rfl, rfl⟩
theorem SameTh.trans {a b c : Th} (h : SameTh a b) (k : SameTh b c) : SameTh a c :=
  ⟨k.1.trans h.1, k.2.1.trans h.2.1, k.2.2.1.trans h.2.2.1, k.2.2.2.1.trans h.2.2.2.1, k.2.2.2.2.trans h.2.2.2.2⟩
theorem Calm.same {S S' : CS} (hc : S'.clocks.length = S.clocks.length) (h1 : S'.calls = S.calls) (h2 : S'.prox = S.prox) (h3 : S'.waits = S.waits) (h4 : S'.things = S.things) (h5 : S'.fly = S.fly) (d : Nat) : Calm S S' d :=
  ⟨hc, h1, h2, h3, by rw [h4], fun i t t' ht ht' => by rw [h4, ht] at ht'; cases ht'; exact SameTh.refl t, [], by rw [h5]; simp, by simp, by simp⟩
theorem Calm.mono {S S' : CS} {d e : Nat} (h : Calm S S' d) (hde : d ≤ e) : Calm S S' e := by
  obtain ⟨ms, h1, h2, h3⟩ := h.fly
  exact ⟨h.clocks, h.calls, h.prox, h.waits, h.len, h.th, ms, h1, by omega, h3⟩
theorem Calm.send {S S' : CS} {d : Nat} (h : Calm S S' d) {m : Msg} (h1 : S.isT m.ent) (h2 : S.isS m.frm) (h3 : S.isS m.to) (h4 : m.n = 0) : Calm S (S'.send m) (d + 1) := by
  obtain ⟨ms, g1, g2, g3⟩ := h.fly
  refine ⟨h.clocks, h.calls, h.prox, h.waits, h.len, h.th, ms ++ [m], by show S'.fly ++ [m] = _; rw [g1, List.append_assoc], by simp; omega, fun m' hm => ?_⟩
  rcases List.mem_append.1 hm with hm | hm
  · exact g3 m' hm
  · have : m' = m := by simpa using hm
    subst this; exact ⟨h1, h2, h3, h4⟩
theorem Calm.setTh {S S' : CS} {d : Nat} (h : Calm S S' d) {i : Nat} {t t' : Th} (ht : S'.things[i]? = some t) (hs : SameTh t t') : Calm S (S'.setTh i t') d := by
  obtain ⟨ms, g1, g2, g3⟩ := h.fly
  refine ⟨h.clocks, h.calls, h.prox, h.waits, by rw [CS.setTh_len]; exact h.len, fun j a b ha hb => ?_, ms, g1, g2, g3⟩
  simp only [CS.setTh, List.getElem?_set] at hb
  split at hb
  · rename_i hij
    subst hij
    split at hb
    · cases hb
      exact (h.th i a t ha ht).trans hs
    · cases hb
  · exact h.th j a b ha hb
section
variable {w w' w2 : World} {own own' : OwnM Role} {r : Raw} {S : CS}
theorem c35 (h : CR w own r S) (G : Safe S) (hf : S.fly.length + S.things.length ≤ 1000000000) (site : Int) : Calls Tryz.prog 35 #[cp r, .int .i64 site] w fun en w' => ∃ e, en = .returned (.int .i64 e) ∧ (∃ S', Calm S S' S.things.length ∧ PostC own r w S' w') := by
  refine calls35 _ _ (fun e w' => ∃ S', Calm S S' S.things.length ∧ PostC own r w S' w') w ?_
  have stay : ∃ S', Calm S S' S.things.length ∧ PostC own r w S' w := ⟨S, Calm.same rfl rfl rfl rfl rfl rfl _, PostC.refl h⟩
  refine (c21 h).mono ?_
  rintro en w4 ⟨p, rfl, rfl, rfl⟩
  refine ⟨_, rfl, BoolK.mk (fun t => by cases t) (fun _ => ?_)⟩
  refine (c53 h site).mono ?_
  rintro en w7 ⟨p, rfl, rfl, rfl⟩
  refine ⟨_, rfl, BoolK.mk (fun _ => stay) (fun t => ?_)⟩
  have hS : S.isS site := by
    refine Decidable.byContradiction fun hh => ?_
    rw [decide_eq_false (show ¬ (0 ≤ site ∧ site < (S.clocks.length : Int)) from hh)] at t; cases t
  obtain ⟨hs0, hs1⟩ := hS
  obtain ⟨sn, rfl⟩ := Int.eq_ofNat_of_zero_le hs0
  have hsn : sn < S.clocks.length := by omega
  obtain ⟨gc, lc, cc, hsc, hoc, hgc, hcc⟩ := h.clocks.at_ (i := sn) eI_len hsn
  have hlen := h.clocks.len
  have hsc1 : r.cl.1 = some ⟨gc, 0, none⟩ := by rw [hsc]
  refine ⟨_, _, _, h.cell 3 rfl, ⟨by omega, by omega⟩, ?_⟩
  rw [hsc1]
  refine ⟨_, by rw [add_mk, Nat.zero_add, Int.toNat_natCast]; exact (hcc 0 (by omega)).trans rfl, ⟨by omega, by omega⟩, ?_⟩
  show SetK w7 ((⟨gc, 0, none⟩ : Addr).add ((sn : Int).toNat * 1)) _ _
  rw [add_mk, Nat.zero_add, Int.toNat_natCast]
  have rowC := h.clocks
  rw [hsc] at rowC
  refine rowC.set (ys := S.clocks.set sn (IntKind.wrap .i64 (S.clocks[sn] + 1))) (sn * 1) _ (by omega) (by simp) (flat_set (sz := 1) (j := 0) eI_len hsn (by omega) rfl) fun w14 hr14 u14 => ?_
  have h14 := h.newClocks u14 (by rw [hsc]; exact hr14)
  refine ⟨fun i w' => ∃ (k : Nat) (own' : OwnM Role) (r' : Raw) (S1 : CS), i = (k + 1 : Nat) ∧ k ≤ S.things.length ∧ CR w' own' r' S1 ∧ Calm S S1 k ∧ Fr own own' w7 w' ∧ r'.b = r.b, fun i _ => S.things.length + 1 - i.toNat,
    ⟨⟨0, own, r, { S with clocks := S.clocks.set sn (IntKind.wrap .i64 (S.clocks[sn] + 1)) }, rfl, Nat.zero_le _, h14, (by refine Calm.same (List.length_set ..) ?_ ?_ ?_ ?_ ?_ 0 <;> rfl), u14.fr, rfl⟩, trivial⟩, ?_⟩
  rintro w17 i ⟨k, own', ⟨rb, cl, ca, th, fl, mp, ma, mg, mm, mw, ths, wts⟩, S1, rfl, hk, h17, hC, hF, eb⟩
  cases eb
  have hl17 := h17.thl2
  have Lt := G.th
  have hCl := hC.len
  refine ⟨_, _, _, h17.cell 5 rfl, BoolK.mk (fun t => ?_) (fun _ => ⟨S1, hC.mono hk, own', _, h17, hF, rfl⟩)⟩
  have t : ((k + 1 : Nat) : Int) ≤ ((th.2.1 : Nat) : Int) := of_decide_eq_true t
  simp only at hl17
  have hlt : k < S.things.length := by omega
  have hT : S.isT ((k + 1 : Nat) : Int) := ⟨by omega, by omega⟩
  have hT1 : S1.isT ((k + 1 : Nat) : Int) := ⟨by omega, by omega⟩
  have hki : (((k + 1 : Nat) : Int) - 1).toNat = k := by omega
  refine (cAt h17 hT1 (by omega)).mono ?_
  rintro en w22 ⟨o, rfl, rfl, g, s, rfl, hg, hgo, hc, hr⟩
  refine ⟨_, rfl, ?_⟩
  have hown : S1.isS (S1.th ((k + 1 : Nat) : Int)).owner := by
    have h1 := CS.th_get? hT
    have h2 := CS.th_get? hT1
    have h3 := hC.th _ _ _ h1 h2
    have h4 := G.own _ (CS.th_mem hT)
    rw [h3.1]; exact ⟨h4.1, by rw [hC.clocks]; exact h4.2⟩
  obtain ⟨ms, hms, hml, _⟩ := hC.fly
  have hflen : S1.fly.length ≤ 1000000000 := by rw [hms, List.length_append]; omega
  refine ⟨fun w' => ∃ own2 s2 S2, CR w' own2 ⟨r.b, cl, ca, th, s2, mp, ma, mg, mm, mw, ths, wts⟩ S2 ∧ Calm S S2 (k + 1) ∧ S2.things = S1.things ∧ S2.clocks = S1.clocks ∧ Fr own own2 w7 w', ?_, ?_⟩
  · rintro w25 ⟨own2, s2, S2, h25, hC2, hth2, hcl2, hF2⟩
    refine DrewK.mk fun w26 hx26 => ?_
    have h26 := h25.ext hx26
    have hF2 := hF2.trans (Fr.of_ext own2 hx26)
    have hT2 : S2.isT ((k + 1 : Nat) : Int) := by rw [CS.isT, hth2]; exact hT1
    obtain ⟨g2, s3, hg2, _, hc2, _⟩ := h26.thAt2 hT2
    have hgg : some (⟨g, (((k + 1 : Nat) : Int) - 1).toNat * 7, none⟩ : Addr) = some ⟨g2, (((k + 1 : Nat) : Int) - 1).toNat * 7, none⟩ := hg.symm.trans hg2
    obtain rfl : g = g2 := by simpa using hgg
    have next : ∀ w', (∃ own' r' S1, CR w' own' r' S1 ∧ Calm S S1 (k + 1) ∧ Fr own own' w7 w' ∧ r'.b = r.b) → (∃ (k2 : Nat) (own' : OwnM Role) (r' : Raw) (S1 : CS), IntKind.wrap .i64 (((k + 1 : Nat) : Int) + 1) = (k2 + 1 : Nat) ∧ k2 ≤ S.things.length ∧ CR w' own' r' S1 ∧ Calm S S1 k2 ∧ Fr own own' w7 w' ∧ r'.b = r.b) ∧ S.things.length + 1 - (IntKind.wrap .i64 (((k + 1 : Nat) : Int) + 1)).toNat < S.things.length + 1 - ((k + 1 : Nat) : Int).toNat := by
      rintro w' ⟨own', r', S1, a1, a2, a3, a4⟩
      rw [wrap_succ (by omega)]
      exact ⟨⟨k + 1, own', r', S1, rfl, by omega, a1, a2, a3, a4⟩, by simp; omega⟩
    have here := next w26 ⟨own2, _, S2, h26, hC2, hF2, rfl⟩
    refine ⟨_, (hc2 0 (by omega)).trans rfl, BoolK.mk (fun to => ?_) (fun _ => here)⟩
    have to : (S2.th ((k + 1 : Nat) : Int)).owner = (sn : Int) := beq_iff_eq.1 to
    refine ⟨_, by rw [add_mk]; exact (hc2 2 (by omega)).trans rfl, BoolK.mk (fun _ => ?_) (fun _ => here)⟩
    have hsn2 : sn < S2.clocks.length := by rw [hcl2, hC.clocks]; exact hsn
    obtain ⟨gd, ld, cd, hsd, hod, hgd, hcd⟩ := h26.clocks.at_ (i := sn) eI_len hsn2
    have hlen2 := h26.clocks.len
    simp only at hsd hlen2
    refine ⟨_, _, _, h26.cell 3 rfl, ⟨by omega, by show (sn : Int) < (cl.2.1 : Int); omega⟩, ?_⟩
    have hsd1 : cl.1 = some ⟨gd, 0, none⟩ := by rw [hsd]
    simp only [hsd1]
    refine ⟨_, by rw [add_mk, Nat.zero_add]; exact (hcd 0 (by omega)).trans rfl, _, by rw [add_mk]; exact (hc2 3 (by omega)).trans rfl, _, h26.cell 1 rfl, _, h26.cell 2 rfl, BoolK.mk (fun _ => ?_) (fun _ => here)⟩
    show SetK w26 ((⟨g, (((k + 1 : Nat) : Int) - 1).toNat * 7, none⟩ : Addr).add 4) _ _
    rw [add_mk]
    refine h26.setF hT2 hg2 4 (by omega) { S2.th ((k + 1 : Nat) : Int) with expired := true } (fun s => rfl) rfl fun w42 r' h42 er _ u42 => ?_
    exact next w42 ⟨own2, r', _, h42, hC2.setTh (CS.th_get? hT2) ⟨rfl, rfl, rfl, rfl, rfl⟩, hF2.trans u42.fr, er⟩
  · refine ⟨_, h17.cell 6 rfl, _, _, h17.lkProx ((sn : Int), ((k + 1 : Nat) : Int)), BoolK.mk (fun _ => ?_) (fun _ => ?_)⟩
    · refine ⟨_, (hc 0 (by omega)).trans rfl, ?_⟩
      refine (c48 h17 _ _ _ _ _ hflen).mono ?_
      rintro en w49 ⟨rfl, own2, s2, h49, f49⟩
      refine ⟨rfl, own2, s2, _, h49, hC.send hT ⟨by omega, by omega⟩ ⟨hown.1, by have := hown.2; rw [hC.clocks] at this; exact this⟩ rfl, rfl, rfl, hF.trans f49⟩
    · exact ⟨own', fl, S1, h17, hC.mono (by omega), rfl, rfl, hF⟩
end
end Go.Proofs.YtgggbmikmmljcaaGreat

namespace Go.Proofs.YtgggbmikmmljcaaGreat
open Go Go.V Go.Proofs
open Go.RowKit (Below)
/-! (*manystrand/count.Count).Sweep$1 -/
def N55 (x1 : Int) (x2 : Int) (o3 : Option Addr) (o4 : Option Addr) (o5 : Option Addr) (K : Bool → World → Prop) (w : World) : Prop :=
 AllocK w (#[(.int .i64 x1), (.int .i64 x2)]) 93 fun b6 w7 =>
 AddrK o3 fun b8 =>
 ∃ (a9 : Option Addr) (l9 : Nat) (c9 : Nat), w7.cell? b8 = some (.slice a9 l9 c9) ∧
 ((0 ≤ (0 : Int) ∧ (0 : Int) < (2 : Nat)) ∧
 ∃ (x10 : Int), w7.cell? (b6.add ((0 : Int).toNat * 1)) = some (.int .i64 x10) ∧
 (Calls Tryz.prog 56 #[(.slice a9 l9 c9), (.int .i64 x10)] w7 fun e13 w12 =>
 ∃ (p11 : Bool), e13 = .returned (.bool p11) ∧
 (BoolK (!p11)
 (K false w12)
 (AddrK o4 fun b14 =>
 ∃ (x15 : Int), w12.cell? b14 = some (.int .i64 x15) ∧
 ((0 ≤ (1 : Int) ∧ (1 : Int) < (2 : Nat)) ∧
 ∃ (x16 : Int), w12.cell? (b6.add ((1 : Int).toNat * 1)) = some (.int .i64 x16) ∧
 (AllocK w12 (#[.int .i64 0, .int .i64 0]) 82 fun b17 w18 =>
 SetK w18 (b17.add 0) (.int .i64 x15) fun w19 =>
 SetK w19 (b17.add 1) (.int .i64 x16) fun w20 =>
 ∃ (J21 : Bool → World → Prop),
 (∀ (w22 : World) (p23 : Bool), J21 p23 w22 →
 BoolK p23
 (AddrK o5 fun b24 =>
 ∃ (o25 : Option Addr), w22.cell? b24 = some (.pointer o25) ∧
 (∃ (x26 : Int), w22.cell? (b17.add 0) = some (.int .i64 x26) ∧
 (∃ (x27 : Int), w22.cell? (b17.add 1) = some (.int .i64 x27) ∧
 (Calls Tryz.prog 52 #[(.pointer o25), (.agg #[(.int .i64 x26), (.int .i64 x27)])] w22 fun e29 w28 =>
 e29 = .returned (.tuple #[]) ∧
 (K true w28)))))
 (K true w22)) ∧
 (DrewK w20 fun w30 =>
 AddrK o5 fun b31 =>
 ∃ (o32 : Option Addr), w30.cell? b31 = some (.pointer o32) ∧
 (AddrK o32 fun b33 =>
 ∃ (m34 : Option Nat), w30.cell? (b33.add 6) = some (.map m34) ∧
 (∃ (x35 : Int), w30.cell? (b17.add 0) = some (.int .i64 x35) ∧
 (∃ (x36 : Int), w30.cell? (b17.add 1) = some (.int .i64 x36) ∧
 (∃ (x37 : Int), ∃ (w38 : World), Sem.run Tryz.prog (Instr.lookup 64 (.map m34) (.agg #[(.int .i64 x35), (.int .i64 x36)]) false) w30 = .ok (.int .i64 x37) w38 ∧
 (Cel w30 w38 ∧
 (BoolK (decide ((x37 : Int) > 0))
 ((0 ≤ (1 : Int) ∧ (1 : Int) < (2 : Nat)) ∧
 (AddrK o5 fun b39 =>
 ∃ (o40 : Option Addr), w38.cell? b39 = some (.pointer o40) ∧
 (Cel w30 w38 ∧
 ((AddrK o4 fun b41 =>
 ∃ (x42 : Int), w38.cell? b41 = some (.int .i64 x42) ∧
 (Cel w30 w38 ∧
 (∃ (x43 : Int), w38.cell? (b6.add ((1 : Int).toNat * 1)) = some (.int .i64 x43) ∧
 (Cel w30 w38 ∧
 (Calls Tryz.prog 51 #[(.pointer o40), (.int .i64 x42), (.int .i64 x43)] w38 fun e46 w45 =>
 ∃ (p44 : Bool), e46 = .returned (.bool p44) ∧
 (J21 (!p44) w45)))))) ∧
 (∃ (x47 : Int), w38.cell? (b6.add ((1 : Int).toNat * 1)) = some (.int .i64 x47) ∧
 (Cel w30 w38 ∧
 (AddrK o4 fun b48 =>
 ∃ (x49 : Int), w38.cell? b48 = some (.int .i64 x49) ∧
 (Cel w30 w38 ∧
 (Calls Tryz.prog 51 #[(.pointer o40), (.int .i64 x49), (.int .i64 x47)] w38 fun e52 w51 =>
 ∃ (p50 : Bool), e52 = .returned (.bool p50) ∧
 (J21 (!p50) w51))))))))) ∧
 ((AddrK o4 fun b53 =>
 ∃ (x54 : Int), w38.cell? b53 = some (.int .i64 x54) ∧
 (Cel w30 w38 ∧
 ((AddrK o5 fun b55 =>
 ∃ (o56 : Option Addr), w38.cell? b55 = some (.pointer o56) ∧
 (Cel w30 w38 ∧
 (∃ (x57 : Int), w38.cell? (b6.add ((1 : Int).toNat * 1)) = some (.int .i64 x57) ∧
 (Cel w30 w38 ∧
 (Calls Tryz.prog 51 #[(.pointer o56), (.int .i64 x54), (.int .i64 x57)] w38 fun e60 w59 =>
 ∃ (p58 : Bool), e60 = .returned (.bool p58) ∧
 (J21 (!p58) w59)))))) ∧
 (∃ (x61 : Int), w38.cell? (b6.add ((1 : Int).toNat * 1)) = some (.int .i64 x61) ∧
 (Cel w30 w38 ∧
 (AddrK o5 fun b62 =>
 ∃ (o63 : Option Addr), w38.cell? b62 = some (.pointer o63) ∧
 (Cel w30 w38 ∧
 (Calls Tryz.prog 51 #[(.pointer o63), (.int .i64 x54), (.int .i64 x61)] w38 fun e66 w65 =>
 ∃ (p64 : Bool), e66 = .returned (.bool p64) ∧
 (J21 (!p64) w65))))))))) ∧
 (∃ (x67 : Int), w38.cell? (b6.add ((1 : Int).toNat * 1)) = some (.int .i64 x67) ∧
 (Cel w30 w38 ∧
 ((AddrK o5 fun b68 =>
 ∃ (o69 : Option Addr), w38.cell? b68 = some (.pointer o69) ∧
 (Cel w30 w38 ∧
 (AddrK o4 fun b70 =>
 ∃ (x71 : Int), w38.cell? b70 = some (.int .i64 x71) ∧
 (Cel w30 w38 ∧
 (Calls Tryz.prog 51 #[(.pointer o69), (.int .i64 x71), (.int .i64 x67)] w38 fun e74 w73 =>
 ∃ (p72 : Bool), e74 = .returned (.bool p72) ∧
 (J21 (!p72) w73)))))) ∧
 (AddrK o4 fun b75 =>
 ∃ (x76 : Int), w38.cell? b75 = some (.int .i64 x76) ∧
 (Cel w30 w38 ∧
 (AddrK o5 fun b77 =>
 ∃ (o78 : Option Addr), w38.cell? b77 = some (.pointer o78) ∧
 (Cel w30 w38 ∧
 (Calls Tryz.prog 51 #[(.pointer o78), (.int .i64 x76), (.int .i64 x67)] w38 fun e81 w80 =>
 ∃ (p79 : Bool), e81 = .returned (.bool p79) ∧
 (J21 (!p79) w80)))))))))))
 (((J21 false w38) ∧
 (J21 false w38)) ∧
 (((J21 false w38) ∧
 (J21 false w38)) ∧
 ((J21 false w38) ∧
 (J21 false w38)))))))))))))))))
def ann55 : Ann := (.two .nil (.two (.two .nil (.two (.two .nil .nil) .nil)) (.two (.two .nil (.cut [(30, (.one .bool))] [3, 6] (.any 12 (.take 0 (.take 1 (.take 2 (.take 3 (.take 4 (.one 5 (.take 6 (.take 7 (.take 10 (.both 8 (.both 9 (.one 11 .done) (.one 11 (.one 9 .done))) (.both 9 (.both 8 (.one 11 .done) (.one 11 (.one 8 .done))) (.one 11 (.both 8 (.one 9 .done) (.one 9 (.one 8 .done)))))))))))))))) (.two .nil .nil))) (.two .nil .nil))))
noncomputable def code55 : Code := match Tryz.f55.body with | some c => c | none => .skip
theorem wp55 (x1 : Int) (x2 : Int) (o3 : Option Addr) (o4 : Option Addr) (o5 : Option Addr) (K : Bool → World → Prop) (w : World) : WP Tryz.prog tab code55 ann55 (fnQ tab Tryz.f55.results.toList [(.one .bool)] K) (argE 0 [(.agg #[(.int .i64 x1), (.int .i64 x2)]), (.pointer o3), (.pointer o4), (.pointer o5)]) w = N55 x1 x2 o3 o4 o5 K w := by kernel_rfl
theorem calls55 (x1 : Int) (x2 : Int) (o3 : Option Addr) (o4 : Option Addr) (o5 : Option Addr) (K : Bool → World → Prop) (w : World) (h : N55 x1 x2 o3 o4 o5 K w) : Calls Tryz.prog 55 #[(.agg #[(.int .i64 x1), (.int .i64 x2)]), (.pointer o3), (.pointer o4), (.pointer o5)] w fun en w' => ∃ (p82 : Bool), en = .returned (.bool p82) ∧ K p82 w' :=
 have e : (fun en w' => ExShs [(.one .bool)] fun vs => en = .returned (tupled vs) ∧ ap [(.one .bool)] K vs fun p => p w') = (fun (en : Ending) (w' : World) => ∃ (p82 : Bool), en = .returned (.bool p82) ∧ K p82 w') := by kernel_rfl
 e ▸ fn_sound tabOk mixed Tryz.func55 (by kernel_rfl : Tryz.f55.body = some code55) ann55 [(.agg #[(.int .i64 x1), (.int .i64 x2)]), (.pointer o3), (.pointer o4), (.pointer o5)] [(.one .bool)] K w (by kernel_rfl) ((wp55 x1 x2 o3 o4 o5 K w).symm ▸ h)
end Go.Proofs.YtgggbmikmmljcaaGreat

namespace Go.Proofs.YtgggbmikmmljcaaGreat
open Go Go.V Go.Proofs
open Go.RowKit (Below)
def sortLay_ren : Go.Shelf.Ren := ⟨fun | 189 => 57 | 125 => 90 | 257 => 89 | 128 => 103 | 129 => 104 | 294 => 94 | 295 => 95 | 296 => 96 | 297 => 97 | 298 => 98 | 299 => 99 | 216 => 100 | 300 => 101 | 301 => 102 | 328 => 105 | 329 => 106 | 330 => 107 | 331 => 108 | 332 => 109 | 215 => 110 | 343 => 111 | n => n, fun | 28 => 43 | 3 => 3 | 46 => 122 | 0 => 0 | 51 => 133 | 53 => 135 | 4 => 4 | 183 => 126 | 182 => 125 | 131 => 130 | 5 => 5 | 9 => 9 | 218 => 136 | 222 => 140 | 228 => 142 | 229 => 143 | n => n, fun | n => n⟩
theorem sortLay : Lays.n189 Tryz.prog sortLay_ren where
  mixed := by kernel_rfl
  f125 := Tryz.func90.trans (congrArg some (by kernel_rfl))
  f128 := Tryz.func103.trans (congrArg some (by kernel_rfl))
  f129 := Tryz.func104.trans (congrArg some (by kernel_rfl))
  f189 := Tryz.func57.trans (congrArg some (by kernel_rfl))
  f215 := Tryz.func110.trans (congrArg some (by kernel_rfl))
  f216 := Tryz.func100.trans (congrArg some (by kernel_rfl))
  f257 := Tryz.func89.trans (congrArg some (by kernel_rfl))
  f294 := Tryz.func94.trans (congrArg some (by kernel_rfl))
  f295 := Tryz.func95.trans (congrArg some (by kernel_rfl))
  f296 := Tryz.func96.trans (congrArg some (by kernel_rfl))
  f297 := Tryz.func97.trans (congrArg some (by kernel_rfl))
  f298 := Tryz.func98.trans (congrArg some (by kernel_rfl))
  f299 := Tryz.func99.trans (congrArg some (by kernel_rfl))
  f300 := Tryz.func101.trans (congrArg some (by kernel_rfl))
  f301 := Tryz.func102.trans (congrArg some (by kernel_rfl))
  f328 := Tryz.func105.trans (congrArg some (by kernel_rfl))
  f329 := Tryz.func106.trans (congrArg some (by kernel_rfl))
  f330 := Tryz.func107.trans (congrArg some (by kernel_rfl))
  f331 := Tryz.func108.trans (congrArg some (by kernel_rfl))
  f332 := Tryz.func109.trans (congrArg some (by kernel_rfl))
  f343 := Tryz.func111.trans (congrArg some (by kernel_rfl))
  t0 := Tryz.underlying0
  a0 := Tryz.isAgg0
  z0 := Tryz.sizeOf0
  v0 := Tryz.zeroValue0
  t3 := Tryz.underlying3
  a3 := Tryz.isAgg3
  z3 := Tryz.sizeOf3
  v3 := Tryz.zeroValue3
  t4 := Tryz.underlying4
  a4 := Tryz.isAgg4
  z4 := Tryz.sizeOf4
  v4 := Tryz.zeroValue4
  t5 := Tryz.underlying5
  a5 := Tryz.isAgg5
  z5 := Tryz.sizeOf5
  v5 := Tryz.zeroValue5
  t9 := Tryz.underlying9
  a9 := Tryz.isAgg9
  z9 := Tryz.sizeOf9
  v9 := Tryz.zeroValue9
  t28 := Tryz.underlying43
  a28 := Tryz.isAgg43
  z28 := Tryz.sizeOf43
  v28 := Tryz.zeroValue43
  t46 := Tryz.underlying122
  a46 := Tryz.isAgg122
  z46 := Tryz.sizeOf122
  v46 := Tryz.zeroValue122
  t51 := Tryz.underlying133
  a51 := Tryz.isAgg133
  z51 := Tryz.sizeOf133
  v51 := Tryz.zeroValue133
  t53 := Tryz.underlying135
  a53 := Tryz.isAgg135
  z53 := Tryz.sizeOf135
  v53 := Tryz.zeroValue135
  t131 := Tryz.underlying130
  a131 := Tryz.isAgg130
  z131 := Tryz.sizeOf130
  v131 := Tryz.zeroValue130
  t182 := Tryz.underlying125
  a182 := Tryz.isAgg125
  z182 := Tryz.sizeOf125
  v182 := Tryz.zeroValue125
  t183 := Tryz.underlying126
  a183 := Tryz.isAgg126
  z183 := Tryz.sizeOf126
  v183 := Tryz.zeroValue126
  t218 := Tryz.underlying136
  a218 := Tryz.isAgg136
  z218 := Tryz.sizeOf136
  v218 := Tryz.zeroValue136
  t222 := Tryz.underlying140
  a222 := Tryz.isAgg140
  z222 := Tryz.sizeOf140
  v222 := Tryz.zeroValue140
  t228 := Tryz.underlying142
  a228 := Tryz.isAgg142
  z228 := Tryz.sizeOf142
  v228 := Tryz.zeroValue142
  t229 := Tryz.underlying143
  a229 := Tryz.isAgg143
  z229 := Tryz.sizeOf143
  v229 := Tryz.zeroValue143
section
variable {w w' w2 : World} {own own' : OwnM Role} {r : Raw} {S : CS}
theorem sort_heap (enc : Int → Value) (w : World) (n blk off : Nat) (d : Array Int) (os : Array Obj) : w.grownBy (Sort.grow (Sort.putRow enc (Sort.ahead w n) blk off d) os) (some blk) := by
  refine ⟨rfl, rfl, rfl, by simp [Sort.ahead], fun k hk hne => ?_⟩
  have hne : ¬ blk = k := fun e => hne (by rw [e])
  have h1 : (Sort.putRow enc (Sort.ahead w n) blk off d).heap[k]? = w.heap[k]? := by
    simp only [Sort.putRow, Sort.mapBlock, Array.getElem?_modify]
    rw [if_neg hne]; rfl
  have hs : k < (Sort.putRow enc (Sort.ahead w n) blk off d).heap.size := by rw [Sort.size_putRow]; exact hk
  show ((Sort.putRow enc (Sort.ahead w n) blk off d).heap ++ os)[k]? = _
  rw [Array.getElem?_append_left hs, h1]
theorem c57 {base e : Nat} (a : Option Addr) (l c : Nat) (xs : List Int) (hx : OwnR base e 1 eI w a l c xs) (hl : xs.length ≤ 1000000000) :
    Calls Tryz.prog 57 #[.slice a l c] w fun en w' => en = .returned (.tuple #[]) ∧ (∃ ys : List Int, ys.length = xs.length ∧ Ints w' a l ys ∧ w.grownBy w' (Value.slice a l c).ownBlock) := by
  cases a with
  | none =>
    obtain ⟨rfl, rfl, rfl⟩ := OwnR.none_nil hx
    refine (Any.slices_Sort_int_none sortLay none 0 w).mono ?_
    rintro en w' ⟨rfl, rfl⟩
    exact ⟨rfl, [], rfl, Rows.nil _ _ _ _, ⟨rfl, rfl, rfl, Nat.le_refl _, fun _ _ _ => rfl⟩⟩
  | some p =>
    obtain ⟨hll, hf, ho⟩ := hx
    rcases ho with ⟨h0, _⟩ | ⟨g, cap, cur, hv, hbg, hg, h3, h4, h5, h6⟩
    · cases h0
    simp only [Value.slice.injEq, Option.some.injEq] at hv
    obtain ⟨rfl, rfl, rfl⟩ := hv
    have hB : Blk w g cur e := hg
    have hcell : ∀ j (hj : j < xs.length), cur[j]? = some (.int .i64 xs[j]) := fun j hj => by
      have h7 := congrArg (·[j]?) h6
      simp only [Nat.mul_one] at h7
      rw [List.getElem?_take_of_lt hj, Array.getElem?_toList] at h7
      have e2 := enc_get (enc := eI) eI_len (i := j) (j := 0) (List.getElem?_eq_getElem hj) (by omega)
      simp only [Nat.mul_one, Nat.add_zero] at e2
      rw [h7, e2]; rfl
    have hH : Sort.Holds (Value.int .i64) w g 0 xs.toArray := fun j hj => by
      have hj : j < xs.length := by simpa using hj
      refine ⟨?_, hB.frozen _⟩
      rw [Nat.zero_add, hB.cell, hcell j hj]; simp [hj]
    refine (Any.slices_Sort_int sortLay g 0 c xs w hH hB.lt (by omega)).mono ?_
    rintro en w' ⟨rfl, n, os, rfl⟩
    refine ⟨rfl, xs.mergeSort fun x y => decide (x ≤ y), List.length_mergeSort _, ?_, sort_heap _ _ _ _ _ _ _⟩
    refine ⟨(List.length_mergeSort _).symm, .inr ⟨g, 0, rfl, fun i x hi => ?_⟩⟩
    have hil := (List.getElem?_eq_some_iff.1 hi).1
    have hH' : Sort.Holds (Value.int .i64) (Sort.ahead w n) g 0 xs.toArray := fun j hj => hH j hj
    have h8 := Sort.cell?_putRow (Value.int .i64) (Sort.ahead w n) g 0 xs.toArray (xs.mergeSort fun x y => decide (x ≤ y)).toArray hH' (by simp [List.length_mergeSort]) i (by simpa using hil)
    show World.cell? _ ⟨g, 0 + i * 1 + 0, none⟩ = _
    rw [Nat.mul_one, Nat.add_zero, Sort.cell?_grow _ _ _ (by rw [Sort.size_putRow]; exact hB.lt), h8]
    have := (List.getElem?_eq_some_iff.1 hi).2
    have e9 : (xs.mergeSort fun x y => decide (x ≤ y)).toArray[i]! = x := by rw [getElem!_pos _ _ (by simpa using hil)]; simpa using this
    rw [e9]
/-! ### Sweep's question -/
inductive Lets (site : Int) (S : CS) : Nat → CS → Prop
  | nil : Lets site S 0 S
  | skip {n : Nat} {S1 : CS} : Lets site S n S1 → Lets site S (n + 1) S1
  | step {n : Nat} {S1 : CS} {x : Int} : Lets site S n S1 → S1.isT x → S1.prox (site, x) > 0 → Lets site S (n + 1) (S1.letM (site, x))
structure LetsK (S S1 : CS) (n : Nat) : Prop where
  things : S1.things = S.things
  clocks : S1.clocks = S.clocks
  term : S1.term = S.term
  slack : S1.slack = S.slack
  fly : S1.fly.length ≤ S.fly.length + n
theorem Lets.k {site : Int} {n : Nat} {S1 : CS} (h : Lets site S n S1) : LetsK S S1 n := by
  induction h with
  | nil => exact ⟨rfl, rfl, rfl, rfl, Nat.le_refl _⟩
  | skip _ ih => exact ⟨ih.things, ih.clocks, ih.term, ih.slack, by have := ih.fly; omega⟩
  | step _ _ _ ih => exact ⟨ih.things, ih.clocks, ih.term, ih.slack, by have := ih.fly; simp [CS.letM]; omega⟩
def LV (base : Nat) (own : OwnM Role) (w : World) (s : SL) (ls : List Int) : Prop := OwnR base 3 1 eI w s.1 s.2.1 s.2.2 ls ∧ ∀ k, sblk s = some k → own k = none
theorem LV.fr {base : Nat} {s : SL} {ls : List Int} (h : LV base own w s ls) (f : Fr own own' w w') : LV base own' w' s ls :=
  ⟨h.1.kept fun b hb => f.block b (h.1.lt b hb).2 (h.2 b hb), fun k hk => f.free k (h.1.lt k hk).2 (h.2 k hk)⟩
theorem LV.ext {base : Nat} {s : SL} {ls : List Int} (h : LV base own w s ls) (x : Ext w w') : LV base own w' s ls := ⟨h.1.ext x, h.2⟩
theorem Cel.of_ext (x : Ext w w') : Cel w w' := Below.cel x
theorem asksSweep {own0 : OwnM Role} {r0 : Raw} {w0 : World} {S0 : CS} {xs : List (Int × Int)} {b3 b5 b16 base : Nat} {site : Int} {t3 t5 t16 : Nat} {s : SL} {ls : List Int} (h3 : BX own0 w0 b3 #[.pointer (some ⟨r0.b, 0, none⟩)] t3) (h5 : BX own0 w0 b5 #[.int .i64 site] t5)
    (h16 : BX own0 w0 b16 #[slv s] t16) (hl : LV base own0 w0 s ls) (hls : ls.length ≤ 1000000000) (L : Lim2 S0) (hx : ∀ z ∈ xs, S0.isT z.2) (hfl : S0.fly.length + xs.length ≤ 1000000000) :
    Asks own0 r0 w0 (Lets site S0) xs 55 #[.pointer (some ⟨b16, 0, none⟩), .pointer (some ⟨b5, 0, none⟩), .pointer (some ⟨b3, 0, none⟩)] := by
  intro n zs y w own1 ⟨rb, cl, ca, th, fl, mp, ma, mg, mm, mw, ths, wts⟩ S1 hy hn hW
  have hb := hW.b
  cases hb
  have K := hW.p.k
  have L1 : Lim2 { S1 with calls := zs } := ⟨⟨by show S1.things.length ≤ _; rw [K.things]; exact L.th, by show S1.fly.length ≤ _; have := K.fly; omega⟩, by show ∀ t ∈ S1.things, _; rw [K.things]; exact L.on⟩
  have hyT : S1.isT y.2 := by have := hx y hy; rw [CS.isT, K.things]; exact this
  refine calls55 _ _ _ _ _ (fun _ w' => ∃ own2 r2 S2, WC own0 r0 w0 (Lets site S0) xs zs (n + 1) own2 r2 S2 w' ∧ Fr own1 own2 w w') w ?_
  refine BX.new hW.c fun b6 w7 h7 b6x hx7 => ?_
  have h3 := (h3.fr hW.f).ext hx7
  have h5 := (h5.fr hW.f).ext hx7
  have h16 := (h16.fr hW.f).ext hx7
  have hl := (hl.fr hW.f).ext hx7
  have keep : ∀ {w'}, Ext w w' → ∃ own2 r2 S2, WC own0 r0 w0 (Lets site S0) xs zs (n + 1) own2 r2 S2 w' ∧ Fr own1 own2 w w' := fun hx => ⟨own1, _, S1, ⟨.skip hW.p, hW.c.ext hx, hW.f.trans (Fr.of_ext _ hx), hW.b, hW.ca, hW.cl, hW.len, hW.mem⟩, Fr.of_ext _ hx⟩
  refine ⟨_, _, _, h16.at0 rfl, ⟨by omega, by omega⟩, _, b6x.at_ 0 rfl, ?_⟩
  refine (c56 _ _ _ ls y.1 hl.1.ints hls).mono ?_
  rintro en w12 ⟨p, rfl, rfl, rfl⟩
  refine ⟨_, rfl, BoolK.mk (fun _ => keep hx7) (fun _ => ?_)⟩
  refine ⟨_, h5.at0 rfl, ⟨by omega, by omega⟩, _, b6x.at_ 1 rfl, ?_⟩
  refine KB.new2 h7 (site, y.2) fun b17 w20 h20 kb hx20 => ?_
  have b6x := b6x.ext hx20
  have h3 := h3.ext hx20
  have h5 := h5.ext hx20
  refine ⟨fun p w' => Ext w20 w' ∧ (p = true → S1.prox (site, y.2) > 0), ?_, DrewK.mk fun w30 hx30 => ?_⟩
  · rintro w22 p ⟨hx22, hp⟩
    have h22 := h20.ext hx22
    have kb := kb.ext hx22
    have h3 := h3.ext hx22
    refine BoolK.mk (fun tp => ?_) (fun _ => keep ((hx7.trans hx20).trans hx22))
    refine ⟨_, h3.at0 rfl, _, kb.c0, _, kb.c1, ?_⟩
    refine (c52 h22 (site, y.2) hyT L1.toLim).mono ?_
    rintro en w28 ⟨rfl, own2, r2, g1, g2, g3, g4, g5⟩
    have f2 : Fr own1 own2 w w28 := (Fr.of_ext _ ((hx7.trans hx20).trans hx22)).trans g2
    exact ⟨rfl, own2, r2, S1.letM (site, y.2), ⟨.step hW.p hyT (hp tp), g1, hW.f.trans f2, g3.trans hW.b, g4.trans hW.ca, g5.trans hW.cl, hW.len, hW.mem⟩, f2⟩
  · have h30 := h20.ext hx30
    have kb := kb.ext hx30
    have h3 := h3.ext hx30
    have h5 := h5.ext hx30
    have b6x := b6x.ext hx30
    have call : S1.prox (site, y.2) > 0 → Calls Tryz.prog 51 #[.pointer (some ⟨r0.b, 0, none⟩), .int .i64 site, .int .i64 y.2] w30 fun en w' => ∃ p, en = .returned (.bool p) ∧ (Ext w20 w' ∧ ((!p) = true → S1.prox (site, y.2) > 0)) := fun hp => by
      refine (c51 h30 L1 site y.2).mono ?_
      rintro en w45 ⟨p, rfl, _, rfl⟩
      exact ⟨p, rfl, hx30, fun _ => hp⟩
    have c3 := h3.at0 rfl
    have c5 := h5.at0 rfl
    have c6 : w30.cell? ((⟨b6, 0, none⟩ : Addr).add ((1 : Int).toNat * 1)) = some (.int .i64 y.2) := b6x.at_ 1 rfl
    refine ⟨_, c3, _, h30.cell 6 rfl, _, kb.c0, _, kb.c1, _, _, h30.lkProx (site, y.2), Cel.refl _, BoolK.mk (fun tp => ?_) (fun _ => ?_)⟩
    · have tp : S1.prox (site, y.2) > 0 := of_decide_eq_true tp
      refine ⟨⟨by omega, by omega⟩, ⟨_, c3, Cel.refl _, ⟨_, c5, Cel.refl _, _, c6, Cel.refl _, call tp⟩, ⟨_, c6, Cel.refl _, _, c5, Cel.refl _, call tp⟩⟩,
        ⟨_, c5, Cel.refl _, ⟨_, c3, Cel.refl _, _, c6, Cel.refl _, call tp⟩, ⟨_, c6, Cel.refl _, _, c3, Cel.refl _, call tp⟩⟩, ⟨_, c6, Cel.refl _, ⟨_, c3, Cel.refl _, _, c5, Cel.refl _, call tp⟩, ⟨_, c5, Cel.refl _, _, c3, Cel.refl _, call tp⟩⟩⟩
    · have z : Ext w20 w30 ∧ (false = true → S1.prox (site, y.2) > 0) := ⟨hx30, fun e => by cases e⟩
      exact ⟨⟨z, z⟩, ⟨z, z⟩, ⟨z, z⟩⟩
end
end Go.Proofs.YtgggbmikmmljcaaGreat

namespace Go.Proofs.YtgggbmikmmljcaaGreat
open Go Go.V Go.Proofs
open Go.RowKit (Below)
/-! (*manystrand/count.Count).Sweep -/
def N18 (o1 : Option Addr) (x2 : Int) (K : Option Addr → Nat → Nat → Int → World → Prop) (w : World) : Prop :=
 AllocK w (#[(.pointer o1)]) 23 fun b3 w4 =>
 AllocK w4 (#[(.int .i64 x2)]) 3 fun b5 w6 =>
 ∃ (o7 : Option Addr), w6.cell? b3 = some (.pointer o7) ∧
 (Calls Tryz.prog 21 #[(.pointer o7)] w6 fun e10 w9 =>
 ∃ (p8 : Bool), e10 = .returned (.bool p8) ∧
 (BoolK p8
 (K none 0 0 7 w9)
 (∃ (o11 : Option Addr), w9.cell? b3 = some (.pointer o11) ∧
 (∃ (x12 : Int), w9.cell? b5 = some (.int .i64 x12) ∧
 (Calls Tryz.prog 53 #[(.pointer o11), (.int .i64 x12)] w9 fun e15 w14 =>
 ∃ (p13 : Bool), e15 = .returned (.bool p13) ∧
 (BoolK (!p13)
 (K none 0 0 2 w14)
 (AllocK w14 (#[.slice none 0 0]) 43 fun b16 w17 =>
 ∃ (I18 : Bool → World → Prop) (μ19 : Bool → World → Nat),
 (I18 true w17 ∧ True) ∧
 ∀ (w20 : World) (p21 : Bool), I18 p21 w20 →
 BoolK p21
 (∃ (o22 : Option Addr), w20.cell? b3 = some (.pointer o22) ∧
 (Calls Tryz.prog 46 #[(.pointer o22)] w20 fun e25 w24 =>
 ∃ (a23 : Option Addr), ∃ (l23 : Nat), ∃ (c23 : Nat), e25 = .returned (.slice a23 l23 c23) ∧
 (∃ (I26 : Bool → Int → World → Prop) (μ27 : Bool → Int → World → Nat),
 (I26 false 1 w24 ∧ True) ∧
 ∀ (w28 : World) (p29 : Bool) (x30 : Int), I26 p29 x30 w28 →
 ∃ (o31 : Option Addr), w28.cell? b3 = some (.pointer o31) ∧
 (AddrK o31 fun b32 =>
 ∃ (a33 : Option Addr) (l33 : Nat) (c33 : Nat), w28.cell? (b32.add 5) = some (.slice a33 l33 c33) ∧
 (BoolK (decide ((x30 : Int) ≤ (l33 : Nat)))
 (∃ (o34 : Option Addr), w28.cell? b3 = some (.pointer o34) ∧
 (Calls Tryz.prog 44 #[(.pointer o34), (.int .i64 x30)] w28 fun e37 w36 =>
 ∃ (o35 : Option Addr), e37 = .returned (.pointer o35) ∧
 (DrewK w36 fun w38 =>
 AddrK o35 fun b39 =>
 ∃ (x40 : Int), w38.cell? b39 = some (.int .i64 x40) ∧
 (∃ (x41 : Int), w38.cell? b5 = some (.int .i64 x41) ∧
 (BoolK ((x40 : Int) != x41)
 (I26 p29 (IntKind.wrap .i64 (x30 + 1)) w38 ∧ μ27 p29 (IntKind.wrap .i64 (x30 + 1)) w38 < μ27 p29 x30 w28)
 ((0 ≤ (x30 : Int) ∧ (x30 : Int) < (l23 : Nat)) ∧
 AddrK a23 fun b42 =>
 ∃ (p43 : Bool), w38.cell? (b42.add ((x30 : Int).toNat * 1)) = some (.bool p43) ∧
 (BoolK (!p43)
 (I26 p29 (IntKind.wrap .i64 (x30 + 1)) w38 ∧ μ27 p29 (IntKind.wrap .i64 (x30 + 1)) w38 < μ27 p29 x30 w28)
 (AddrK o35 fun b44 =>
 ∃ (p45 : Bool), w38.cell? (b44.add 5) = some (.bool p45) ∧
 (BoolK p45
 (I26 p29 (IntKind.wrap .i64 (x30 + 1)) w38 ∧ μ27 p29 (IntKind.wrap .i64 (x30 + 1)) w38 < μ27 p29 x30 w28)
 (AddrK o35 fun b46 =>
 SetK w38 (b46.add 5) (.bool true) fun w47 =>
 AddrK o35 fun b48 =>
 SetK w47 (b48.add 6) (.slice none 0 0) fun w49 =>
 ∃ (a50 : Option Addr) (l50 : Nat) (c50 : Nat), w49.cell? b16 = some (.slice a50 l50 c50) ∧
 (AllocK w49 (#[(.int .i64 x30)]) 3 fun b51 w52 =>
 ∃ (a53 : Option Addr), ∃ (l53 : Nat), ∃ (c53 : Nat), ∃ (w54 : World), Sem.run Tryz.prog (Builtin.append_ #[43, 43] 43 #[(.slice a50 l50 c50), (.slice (some b51) 1 1)]) w52 = .ok (.slice a53 l53 c53) w54 ∧
 (SetK w54 b16 (.slice a53 l53 c53) fun w55 =>
 I26 true (IntKind.wrap .i64 (x30 + 1)) w55 ∧ μ27 true (IntKind.wrap .i64 (x30 + 1)) w55 < μ27 p29 x30 w28))))))))))))
 (I18 p29 w28 ∧ μ19 p29 w28 < μ19 p21 w20))))))
 (DrewK w20 fun w56 =>
 ∃ (v57 : World), Cel v57 w56 ∧
 (∃ (o58 : Option Addr), v57.cell? b3 = some (.pointer o58) ∧
 (∃ (o59 : Option Addr), v57.cell? b3 = some (.pointer o59) ∧
 (AddrK o59 fun b60 =>
 ∃ (a61 : Option Addr) (l61 : Nat) (c61 : Nat), v57.cell? (b60.add 4) = some (.slice a61 l61 c61) ∧
 (Cel v57 w56 ∧
 (Calls Tryz.prog 54 #[(.slice a61 l61 c61), (.func (.func 55) #[] #[(.pointer (some b16)), (.pointer (some b5)), (.pointer (some b3))])] w56 fun e64 w63 =>
 ∃ (a62 : Option Addr), ∃ (l62 : Nat), ∃ (c62 : Nat), e64 = .returned (.slice a62 l62 c62) ∧
 (Cel v57 w63 ∧
 (AddrK o58 fun b65 =>
 SetK w63 (b65.add 4) (.slice a62 l62 c62) fun w66 =>
 ∃ (a67 : Option Addr) (l67 : Nat) (c67 : Nat), w66.cell? b16 = some (.slice a67 l67 c67) ∧
 (Calls Tryz.prog 57 #[(.slice a67 l67 c67)] w66 fun e69 w68 =>
 e69 = .returned (.tuple #[]) ∧
 (∃ (a70 : Option Addr) (l70 : Nat) (c70 : Nat), w68.cell? b16 = some (.slice a70 l70 c70) ∧
 (K a70 l70 c70 0 w68))))))))))))))))))
def ann18 : Ann := (.two .nil (.two (.two .nil (.two (.two .nil .nil) .nil)) (.two (.two .nil (.two (.two .nil .nil) .nil)) (.two .nil (.two (.two .nil (.one (.loop [(7, (.one .bool))] [2, 3, 6] (.two (.two .nil (.two .nil .nil)) (.one (.two .nil (.two .nil (.two .nil (.one (.loop [(7, (.one .bool)), (9, (.one (.int .i64)))] [2, 3, 6, 8] (.two (.two .nil (.two .nil .nil)) (.two (.one (.two .nil (.two (.two (.any 19 (.take 0 (.take 1 (.take 2 (.take 3 (.take 4 (.take 5 (.take 6 (.take 7 (.take 8 (.take 9 (.take 10 (.take 11 (.take 12 (.take 13 (.take 14 (.take 15 (.take 16 (.take 17 (.take 18 .done)))))))))))))))))))) (.two .nil .nil)) (.two .nil .nil)))) .nil)))))))))))) (.two (.anyS 9 (.take 0 (.take 1 (.take 2 (.take 3 (.take 4 (.one 5 (.one 6 (.take 7 (.take 8 .done)))))))))) (.two .nil (.two .nil .nil))))))))
noncomputable def code18 : Code := match Tryz.f18.body with | some c => c | none => .skip
theorem wp18 (o1 : Option Addr) (x2 : Int) (K : Option Addr → Nat → Nat → Int → World → Prop) (w : World) : WP Tryz.prog tab code18 ann18 (fnQ tab Tryz.f18.results.toList [(.one .slice), (.one (.int .i64))] K) (argE 0 [(.pointer o1), (.int .i64 x2)]) w = N18 o1 x2 K w := by kernel_rfl
theorem calls18 (o1 : Option Addr) (x2 : Int) (K : Option Addr → Nat → Nat → Int → World → Prop) (w : World) (h : N18 o1 x2 K w) : Calls Tryz.prog 18 #[(.pointer o1), (.int .i64 x2)] w fun en w' => ∃ (a71 : Option Addr), ∃ (l71 : Nat), ∃ (c71 : Nat), ∃ (x72 : Int), en = .returned (.tuple #[(.slice a71 l71 c71), (.int .i64 x72)]) ∧ K a71 l71 c71 x72 w' :=
 have e : (fun en w' => ExShs [(.one .slice), (.one (.int .i64))] fun vs => en = .returned (tupled vs) ∧ ap [(.one .slice), (.one (.int .i64))] K vs fun p => p w') = (fun (en : Ending) (w' : World) => ∃ (a71 : Option Addr), ∃ (l71 : Nat), ∃ (c71 : Nat), ∃ (x72 : Int), en = .returned (.tuple #[(.slice a71 l71 c71), (.int .i64 x72)]) ∧ K a71 l71 c71 x72 w') := by kernel_rfl
 e ▸ fn_sound tabOk mixed Tryz.func18 (by kernel_rfl : Tryz.f18.body = some code18) ann18 [(.pointer o1), (.int .i64 x2)] [(.one .slice), (.one (.int .i64))] K w (by kernel_rfl) ((wp18 o1 x2 K w).symm ▸ h)
end Go.Proofs.YtgggbmikmmljcaaGreat

namespace Go.Proofs.YtgggbmikmmljcaaGreat
open Go Go.V Go.Proofs
open Go.RowKit (Below)
structure Sw (S S1 : CS) : Prop where
  eq : S1 = { S with things := S1.things }
  len : S1.things.length = S.things.length
  th : ∀ (i : Nat) (t t' : Th), S.things[i]? = some t → S1.things[i]? = some t' → t'.owner = t.owner ∧ t'.holds = t.holds ∧ t'.out = t.out ∧ t'.expired = t.expired ∧ ((t'.swept = t.swept ∧ t'.on = t.on) ∨ (Free t ∧ t'.swept = true ∧ t'.on = []))
theorem Sw.refl (S : CS) : Sw S S := ⟨rfl, rfl, fun i t t' h h' => by rw [h] at h'; cases h'; exact ⟨rfl, rfl, rfl, rfl, .inl ⟨rfl, rfl⟩⟩⟩
def CS.sweepM (S : CS) (x : Int) : CS := S.setTh (x - 1).toNat { S.th x with swept := true, on := [] }
theorem Sw.step {S S1 : CS} (h : Sw S S1) {k : Nat} {t1 : Th} (ht1 : S1.things[k]? = some t1) (hf : Free t1) (hs : t1.swept = false) : Sw S (S1.setTh k { t1 with swept := true, on := [] }) := by
  refine ⟨by have := h.eq; simp only [CS.setTh]; rw [this], by rw [CS.setTh_len]; exact h.len, fun i t t' ht ht' => ?_⟩
  simp only [CS.setTh, List.getElem?_set] at ht'
  split at ht'
  · rename_i hki
    subst hki
    split at ht'
    · cases ht'
      obtain ⟨e1, e2, e3, e4, e5⟩ := h.th _ _ _ ht ht1
      refine ⟨e1, e2, e3, e4, .inr ⟨?_, rfl, rfl⟩⟩
      rcases hf with hf | ⟨f1, f2, f3⟩
      · rw [hs] at hf; cases hf
      · exact .inr ⟨by rw [← e4]; exact f1, by rw [← e2]; exact f2, by rw [← e3]; exact f3⟩
    · cases ht'
  · exact h.th i t t' ht ht'
def cntU (S : CS) : Nat := cntF (S.things.map (·.swept))
theorem cntU_set {S : CS} {k : Nat} {t1 t2 : Th} (ht : S.things[k]? = some t1) (h1 : t1.swept = false) (h2 : t2.swept = true) : cntU (S.setTh k t2) < cntU S := by
  unfold cntU
  have e : (S.setTh k t2).things.map (·.swept) = (S.things.map (·.swept)).set k true := by simp only [CS.setTh, List.map_set, h2]
  rw [e]
  exact cntF_set (by rw [List.getElem?_map, ht]; simp [h1])
theorem cntU_le (S : CS) : cntU S ≤ S.things.length := by
  unfold cntU cntF
  refine Nat.le_trans List.countP_le_length ?_
  simp
def decU (w : World) (a : Option Addr) (n : Nat) : List Bool := (List.range n).map fun i => match a with
  | some a => (match w.cell? ((a.add (i * 7)).add 5) with | some (.bool true) => true | _ => false)
  | none => false
def SweptOk (S : CS) (site : Int) (S1 : CS) (n : Nat) : Prop :=
  Sw S S1 ∧ (∃ D, DeadOk S1 D ∧ ∀ (i : Nat) (t : Th), S1.things[i]? = some t → t.owner = site → D[i + 1]? = some true → t.swept = true) ∧
    (n = 0 ∨ ∃ (i : Nat) (t : Th), S.things[i]? = some t ∧ t.owner = site ∧ t.swept = false)
def SweepOk (S : CS) (site : Int) (n : Nat) (S' : CS) : Prop :=
  ∃ S1 S2 ys, SweptOk S site S1 n ∧ Lets site S1 S.calls.length S2 ∧ S' = { S2 with calls := ys } ∧ ys.length ≤ S.calls.length ∧ ∀ y ∈ ys, y ∈ S.calls
section
variable {w w' w2 : World} {own own' : OwnM Role} {r r1 : Raw} {S S1 : CS}
theorem decU_eq (h : CR w own r1 S1) (ht : ∀ i, r1.thp i = r.thp i) : decU w r.th.1 S1.things.length = S1.things.map (·.swept) := by
  apply List.ext_getElem?; intro i
  unfold decU
  rw [List.getElem?_map, List.getElem?_map]
  rcases Nat.lt_or_ge i S1.things.length with hi | hi
  · rw [List.getElem?_range hi, List.getElem?_eq_getElem hi]
    obtain ⟨g, s, hg, _, hc, _⟩ := h.thAt2 (x := (i : Int) + 1) ⟨by omega, by omega⟩
    have e : (((i : Int) + 1 - 1).toNat) = i := by omega
    have et : S1.th ((i : Int) + 1) = S1.things[i] := CS.th_get hi e
    rw [e, ht, Raw.thp] at hg
    rw [e, et] at hc
    simp only [Option.map_some, Option.some.injEq]
    cases ha : r.th.1 with
    | none => rw [ha] at hg; cases hg
    | some a =>
      rw [ha] at hg
      simp only [Option.some.injEq] at hg
      simp only [hg, add_mk, hc 5 (by omega)]
      cases hsw : S1.things[i].swept <;> simp [eTS, hsw]
  · rw [List.getElem?_eq_none (by simpa using hi), List.getElem?_eq_none hi]; rfl
theorem OwnR.ne {α : Type} {base e sz : Nat} {enc : α → List Value} {a : Option Addr} {l c : Nat} {xs : List α} (h : OwnR base e sz enc w a l c xs) {b t : Nat} {cs : Array Value} (hb : Blk w b cs t) (hne : t ≠ e) : ∀ k, (Value.slice a l c).ownBlock = some k → k ≠ b := by
  obtain ⟨_, _, ho⟩ := h
  rcases ho with ⟨h0, _⟩ | ⟨g, cap, cur, hv, hbg, hg, _⟩
  · cases h0; intro k hk; cases hk
  · rw [hv]; intro k hk e2
    cases hk
    have hb' : w.heap[b]? = _ := hb
    have hg' : w.heap[g]? = _ := hg
    have e2 : g = b := e2
    rw [e2, hb'] at hg'; cases hg'; exact hne rfl
structure SwI (own : OwnM Role) (r : Raw) (w0 : World) (S : CS) (base : Nat) (site : Int) (b3 b5 b16 : Nat) (t3 t5 t16 : Nat) (S1 : CS) (r1 : Raw) (s : SL) (ls : List Int) (w : World) : Prop where
  c : CR w own r1 S1
  sw : Sw S S1
  b : r1.b = r.b
  thp : ∀ i, r1.thp i = r.thp i
  f : Fr own own w0 w
  x3 : BX own w b3 #[.pointer (some ⟨r.b, 0, none⟩)] t3
  x5 : BX own w b5 #[.int .i64 site] t5
  x16 : BX own w b16 #[slv s] t16
  l : LV base own w s ls
  sz : base ≤ w.heap.size
  n : ls.length + cntU S1 ≤ cntU S
  e : ls.length = 0 ∨ ∃ (i : Nat) (t : Th), S.things[i]? = some t ∧ t.owner = site ∧ t.swept = false
theorem SwI.ext {w0 : World} {base : Nat} {site : Int} {b3 b5 b16 t3 t5 t16 : Nat} {s : SL} {ls : List Int} (h : SwI own r w0 S base site b3 b5 b16 t3 t5 t16 S1 r1 s ls w) (x : Ext w w') : SwI own r w0 S base site b3 b5 b16 t3 t5 t16 S1 r1 s ls w' :=
  ⟨h.c.ext x, h.sw, h.b, h.thp, h.f.trans (Fr.of_ext own x), h.x3.ext x, h.x5.ext x, h.x16.ext x, h.l.ext x, Nat.le_trans h.sz x.size, h.n, h.e⟩
theorem Sw.lim (h : Sw S S1) (L : Lim2 S) : Lim2 S1 := by
  refine ⟨⟨by rw [h.len]; exact L.th, by rw [h.eq]; exact L.fly⟩, fun t ht => ?_⟩
  obtain ⟨i, hi, rfl⟩ := List.getElem_of_mem ht
  have hi' : i < S.things.length := by rw [← h.len]; exact hi
  obtain ⟨_, _, _, _, ⟨_, e⟩ | ⟨_, _, e⟩⟩ := h.th i _ _ (List.getElem?_eq_getElem hi') (List.getElem?_eq_getElem hi)
  · rw [e]; exact L.on _ (List.getElem_mem hi')
  · rw [e]; simp
end
end Go.Proofs.YtgggbmikmmljcaaGreat

namespace Go.Proofs.YtgggbmikmmljcaaGreat
open Go Go.V Go.Proofs
open Go.RowKit (Below)
def subW (w : World) (b3 rb : Nat) : World := { w with heap := w.heap.mapIdx fun i o => if i = b3 then o else if i = rb then (match o with | .cells cs t fr => .cells (cs.extract 0 5) t fr | o => o) else .cells #[] 0 (0, 0) }
theorem subW_cel {w w' : World} {b3 rb : Nat} {cs cs' : Array Value} {t t' : Nat} (h3 : b3 < w.heap.size → w'.heap[b3]? = w.heap[b3]?) (hr : Blk w rb cs t) (hr' : Blk w' rb cs' t') (hc : ∀ j, j < 5 → ∀ v, cs[j]? = some v → cs'[j]? = some v) (_hne : rb ≠ b3) : Cel (subW w b3 rb) w' := by
  intro p v hp
  unfold World.cell? subW at hp
  simp only [Array.getElem?_mapIdx] at hp
  cases ho : w.heap[p.block]? with
  | none => rw [ho] at hp; simp at hp
  | some o =>
    rw [ho] at hp
    simp only [Option.map_some] at hp
    by_cases hb : p.block = b3
    · rw [if_pos hb] at hp
      have h4 : w'.heap[p.block]? = some o := by
        rw [hb, h3 (by rw [← hb]; exact (Array.getElem?_eq_some_iff.1 ho).1), ← hb]; exact ho
      unfold World.cell?; rw [h4]; exact hp
    · rw [if_neg hb] at hp
      by_cases hb2 : p.block = rb
      · rw [if_pos hb2] at hp
        have ho2 : w.heap[rb]? = _ := hr
        rw [hb2, ho2] at ho
        cases ho
        simp only at hp
        split at hp
        · cases hp
        · rename_i hsp
          have hlt : p.off < 5 := by
            have := (Array.getElem?_eq_some_iff.1 hp).1; simp at this; omega
          have hq : cs[p.off]? = some v := by
            rw [← hp]; simp [Array.getElem?_extract]; intro; omega
          have h4 : w'.heap[p.block]? = some (.cells cs' t' (0, 0)) := by rw [hb2]; exact hr'
          unfold World.cell?; rw [h4]; simp only [hsp]; exact hc p.off hlt v hq
      · rw [if_neg hb2] at hp
        simp at hp
theorem subW_at {w : World} {b3 rb : Nat} {cs : Array Value} {t : Nat} (hr : Blk w rb cs t) (hne : rb ≠ b3) {v : Value} {j : Nat} (hj : j < 5) (hv : cs[j]? = some v) : (subW w b3 rb).cell? ⟨rb, j, none⟩ = some v := by
  unfold World.cell? subW
  have ho2 : w.heap[rb]? = _ := hr
  simp only [Array.getElem?_mapIdx, ho2, Option.map_some, if_neg hne]
  simp only [if_true]
  have hjs := (Array.getElem?_eq_some_iff.1 hv).1
  simp [Array.getElem?_extract, hv]; omega
theorem subW_box {w : World} {b3 rb : Nat} : (subW w b3 rb).cell? ⟨b3, 0, none⟩ = w.cell? ⟨b3, 0, none⟩ := by
  unfold World.cell? subW
  simp only [Array.getElem?_mapIdx]
  cases w.heap[b3]? <;> simp
section
variable {w w' w2 : World} {own own' : OwnM Role} {r r1 : Raw} {S S1 : CS}
theorem Upd.of_ext2 {own : OwnM Role} {ρ : Role} (x : Ext w w') (_ : ∀ k, w.heap.size ≤ k → own k = none) : Upd own own ρ w w' := ⟨x.os, x.tape, x.output, x.size, fun k hk _ => x.block k hk, fun _ _ => rfl, fun h k hk => h k (Nat.le_trans x.size hk)⟩
theorem c18 (h : CR w own r S) (G : Safe S) (hcl : S.calls.length + S.fly.length ≤ 1000000000) (hcT : ∀ z ∈ S.calls, S.isT z.2) (site : Int) :
    Calls Tryz.prog 18 #[cp r, .int .i64 site] w fun en w' => ∃ a l c e, en = .returned (.tuple #[.slice a l c, .int .i64 e]) ∧
      (∃ ys S', Ints w' a l ys ∧ ys.length ≤ 1000000000 ∧ (∀ p, a = some p → w.heap.size ≤ p.block) ∧ PostC own r w S' w' ∧ ((¬ S.isS site ∧ e = 2 ∧ ys = [] ∧ S' = S) ∨ (S.isS site ∧ e = 0 ∧ SweepOk S site ys.length S'))) := by
  refine calls18 _ _ (fun a l c e w' => ∃ ys S', Ints w' a l ys ∧ ys.length ≤ 1000000000 ∧ (∀ p, a = some p → w.heap.size ≤ p.block) ∧ PostC own r w S' w' ∧ ((¬ S.isS site ∧ e = 2 ∧ ys = [] ∧ S' = S) ∨ (S.isS site ∧ e = 0 ∧ SweepOk S site ys.length S'))) w ?_
  refine AllocK.mk fun b3 w4 hb3 hB3 hx4 => AllocK.mk fun b5 w6 hb5 hB5 hx6 => ?_
  have h6 := (h.ext hx4).ext hx6
  have hx : Ext w w6 := hx4.trans hx6
  refine ⟨_, by rw [(hB3.ext hx6).cell]; rfl, ?_⟩
  refine (c21 h6).mono ?_
  rintro en w9 ⟨p, rfl, rfl, rfl⟩
  refine ⟨_, rfl, BoolK.mk (fun t => by cases t) (fun _ => ?_)⟩
  refine ⟨_, by rw [(hB3.ext hx6).cell]; rfl, _, by rw [hB5.cell]; rfl, ?_⟩
  refine (c53 h6 site).mono ?_
  rintro en w14 ⟨p, rfl, rfl, rfl⟩
  refine ⟨_, rfl, BoolK.mk (fun t => ?_) (fun t => ?_)⟩
  · have t : ¬ S.isS site := fun hh => by rw [decide_eq_true (show 0 ≤ site ∧ site < (S.clocks.length : Int) from hh)] at t; cases t
    exact ⟨[], S, Rows.nil _ _ _ _, Nat.zero_le _, (fun p hp => by cases hp), PostC.mk h6 (Fr.of_ext own hx) rfl, .inl ⟨t, rfl, rfl, rfl⟩⟩
  have hS : S.isS site := by
    refine Decidable.byContradiction fun hh => ?_
    rw [decide_eq_false (show ¬ (0 ≤ site ∧ site < (S.clocks.length : Int)) from hh)] at t; cases t
  refine AllocK.mk fun b16 w17 hb16 hB16 hx17 => ?_
  have s4 := hx4.size; have s6 := hx6.size; have s17 := hx17.size
  have l3 := hB3.lt; have l5 := hB5.lt; have l16 := hB16.lt
  have hxx : Ext w w17 := hx.trans hx17
  let base := w17.heap.size
  let I := SwI own r w S base site b3 b5 b16 23 3 43
  have start : I S r (none, 0, 0) [] w17 := ⟨h6.ext hx17, Sw.refl S, rfl, fun _ => rfl, Fr.of_ext own hxx, ⟨(hB3.ext hx6).ext hx17, h.top b3 (by omega)⟩, ⟨hB5.ext hx17, h.top b5 (by omega)⟩, ⟨hB16, h.top b16 (by omega)⟩, ⟨OwnR.nil _ _ _ _ _, fun k hk => by cases hk⟩, Nat.le_refl _, by simp, .inl rfl⟩
  refine ⟨fun p w' => ∃ S1 r1 s ls, I S1 r1 s ls w' ∧ (p = false → ∃ D, DeadOk S1 D ∧ ∀ (i : Nat) (t : Th), S1.things[i]? = some t → t.owner = site → D[i + 1]? = some true → t.swept = true),
    fun p w' => cntF (decU w' r.th.1 S.things.length) + (if p then 1 else 0), ⟨⟨S, r, _, _, start, fun e => by cases e⟩, trivial⟩, ?_⟩
  rintro w20 p ⟨S1, r1, s, ls, hI, hp⟩
  have hn1 := hI.sw.len
  have L1 := hI.sw.lim G.toLim2
  have Lt := G.th
  refine BoolK.mk (fun tp => ?_) (fun tp => ?_)
  · subst tp
    refine ⟨_, hI.x3.at0 rfl, ?_⟩
    have hc20 := hI.c
    have eb := hI.b
    have cpe : (Value.pointer (some ⟨r.b, 0, none⟩)) = cp r1 := by rw [cp, eb]
    rw [cpe]
    refine (c46 hc20 L1).mono ?_
    rintro en w24 ⟨a, l, c, rfl, bd, D, rfl, rfl, rfl, hBd, hD, hx24, hbd⟩
    refine ⟨_, _, _, rfl, ?_⟩
    have hDl := hD.len
    refine ⟨fun p x30 w' => ∃ (k : Nat) (S3 : CS) (r3 : Raw) (s3 : SL) (ls3 : List Int), x30 = ((k + 1 : Nat) : Int) ∧ k ≤ S.things.length ∧ I S3 r3 s3 ls3 w' ∧ Blk w' bd (bools D) 4 ∧ Sw S1 S3 ∧ cntU S3 ≤ cntU S1 ∧ (p = true → cntU S3 < cntU S1) ∧
        (p = false → S3 = S1 ∧ ∀ (i : Nat) (t : Th), i < k → S1.things[i]? = some t → t.owner = site → D[i + 1]? = some true → t.swept = true), fun _ x30 _ => S.things.length + 1 - x30.toNat, ⟨⟨0, S1, r1, s, ls, rfl, Nat.zero_le _, hI.ext hx24, hBd, Sw.refl S1, Nat.le_refl _, (fun e => by cases e), (fun _ => ⟨rfl, fun i t hi => by omega⟩)⟩, trivial⟩, ?_⟩
    have hbdn : own bd = none := hc20.top bd hbd
    rintro w28 p29 x30 ⟨k, S3, r3, s3, ls3, rfl, hk, hI3, hBd, hsw, hcn, hp1, hp2⟩
    have hn3 := hI3.sw.len
    have eb3 := hI3.b
    have cpe3 : (Value.pointer (some ⟨r.b, 0, none⟩)) = cp r3 := by rw [cp, eb3]
    refine ⟨_, hI3.x3.at0 rfl, ?_⟩
    have h3l := hI3.c.thl2
    have c5 := hI3.c.cell 5 rfl
    rw [eb3] at c5
    refine ⟨_, _, _, c5, BoolK.mk (fun t => ?_) (fun t => ?_)⟩
    · have t := of_decide_eq_true t
      have hlt : k < S3.things.length := by omega
      have hT3 : S3.isT ((k + 1 : Nat) : Int) := ⟨by omega, by omega⟩
      have hki : (((k + 1 : Nat) : Int) - 1).toNat = k := by omega
      refine ⟨_, hI3.x3.at0 rfl, ?_⟩
      rw [cpe3]
      refine (cAt hI3.c hT3 (by omega)).mono ?_
      rintro en w36 ⟨o, rfl, rfl, g, sg, rfl, hg, hgo, hc, hr⟩
      rw [hki] at hg hc hr
      have eth : S3.th ((k + 1 : Nat) : Int) = S3.things[k] := CS.th_get hlt hki
      rw [eth] at hc hr
      refine ⟨_, rfl, DrewK.mk fun w38 hx38 => ?_⟩
      have hI38 := hI3.ext hx38
      have hBd := hBd.ext hx38
      have hcc : ∀ j v, j < 7 → (eTS S3.things[k] sg)[j]? = some v → w38.cell? ⟨g, k * 7 + j, none⟩ = some v := fun j v hj hv => hx38.cell ((hc j hj).trans hv)
      -- nothing is done
      have go : (p29 = false → S3 = S1 → ∀ (t : Th), S1.things[k]? = some t → t.owner = site → D[k + 1]? = some true → t.swept = true) →
          (∃ (k2 : Nat) (S3 : CS) (r3 : Raw) (s3 : SL) (ls3 : List Int), IntKind.wrap .i64 (((k + 1 : Nat) : Int) + 1) = ((k2 + 1 : Nat) : Int) ∧ k2 ≤ S.things.length ∧ I S3 r3 s3 ls3 w38 ∧ Blk w38 bd (bools D) 4 ∧ Sw S1 S3 ∧ cntU S3 ≤ cntU S1 ∧ (p29 = true → cntU S3 < cntU S1) ∧
            (p29 = false → S3 = S1 ∧ ∀ (i : Nat) (t : Th), i < k2 → S1.things[i]? = some t → t.owner = site → D[i + 1]? = some true → t.swept = true)) ∧ S.things.length + 1 - (IntKind.wrap .i64 (((k + 1 : Nat) : Int) + 1)).toNat < S.things.length + 1 - ((k + 1 : Nat) : Int).toNat := by
        intro hgo
        rw [wrap_succ (by omega)]
        refine ⟨⟨k + 1, S3, r3, s3, ls3, rfl, by omega, hI38, hBd, hsw, hcn, hp1, fun e => ⟨(hp2 e).1, fun i t hi ht ho hd => ?_⟩⟩, by simp; omega⟩
        rcases Nat.lt_or_ge i k with h1 | h1
        · exact (hp2 e).2 i t h1 ht ho hd
        · have : i = k := by omega
          rw [this] at ht hd
          exact hgo e (hp2 e).1 t ht ho hd
      have hkk : ∀ t, S1.things[k]? = some t → S3 = S1 → t = S3.things[k] := fun t ht e => by
        subst e; rw [List.getElem?_eq_getElem hlt] at ht; cases ht; rfl
      refine ⟨_, by rw [hki]; exact hcc 0 _ (by omega) rfl, _, hI38.x5.at0 rfl, BoolK.mk (fun t1 => ?_) (fun t1 => ?_)⟩
      · have t1 : S3.things[k].owner ≠ site := by simpa using t1
        exact go fun _ e t ht ho _ => absurd (hkk t ht e ▸ ho) t1
      have t1 : S3.things[k].owner = site := by simpa using t1
      refine ⟨⟨by omega, by omega⟩, D[k + 1]'(by omega), by rw [add_mk, Nat.zero_add, Int.toNat_natCast, Nat.mul_one, hBd.cell, bools_get (by omega)], BoolK.mk (fun t2 => ?_) (fun t2 => ?_)⟩
      · have t2 : D[k + 1]'(by omega) = false := by simpa using t2
        exact go fun _ e t ht ho hd => by rw [List.getElem?_eq_getElem (by omega), t2] at hd; cases hd
      have t2 : D[k + 1]'(by omega) = true := by simpa using t2
      refine ⟨_, by rw [hki, add_mk]; exact hcc 5 _ (by omega) rfl, BoolK.mk (fun t3 => ?_) (fun t3 => ?_)⟩
      · exact go fun _ e t ht ho hd => by rw [hkk t ht e]; exact t3
      -- it is swept away
      have t3 : S3.things[k].swept = false := t3
      have hlt1 : k < S1.things.length := by rw [← hsw.len]; exact hlt
      have hfr : Free S3.things[k] := by
        obtain ⟨e1, e2, e3, e4, e5⟩ := hsw.th k _ _ (List.getElem?_eq_getElem hlt1) (List.getElem?_eq_getElem hlt)
        have hf1 := hD.free k _ (List.getElem?_eq_getElem hlt1) (by rw [List.getElem?_eq_getElem (by omega), t2])
        rcases e5 with ⟨e5, _⟩ | ⟨_, e5, _⟩
        · rcases hf1 with hf1 | ⟨f1, f2, f3⟩
          · rw [← e5, t3] at hf1; cases hf1
          · exact .inr ⟨by rw [e4]; exact f1, by rw [e2]; exact f2, by rw [e3]; exact f3⟩
        · rw [t3] at e5; cases e5
      show SetK w38 ((⟨g, (((k + 1 : Nat) : Int) - 1).toNat * 7, none⟩ : Addr).add 5) _ fun w47 => SetK w47 ((⟨g, (((k + 1 : Nat) : Int) - 1).toNat * 7, none⟩ : Addr).add 6) _ _
      rw [add_mk, add_mk]
      have hg' : r3.thp (((k + 1 : Nat) : Int) - 1).toNat = some ⟨g, (((k + 1 : Nat) : Int) - 1).toNat * 7, none⟩ := by rw [hki]; exact hg
      refine hI38.c.setF hT3 hg' 5 (by omega) { S3.things[k] with swept := true } (fun s => by rw [eth]; rfl) (by rw [eth]) fun w47 r4 h47 er4 et4 u47 => ?_
      have hT4 : (S3.setTh (((k + 1 : Nat) : Int) - 1).toNat { S3.things[k] with swept := true }).isT ((k + 1 : Nat) : Int) := CS.isT_set _ _ hT3
      refine h47.setOn hT4 (by rw [et4]; exact hg') (s' := (none, 0, 0)) (ys := []) (Upd.refl2 own (.on (((k + 1 : Nat) : Int) - 1).toNat) w47) (RowR.nil _ _ _ _ _ _) fun w49 r5 h49 er5 et5 u49 => ?_
      rw [CS.th_set hT3, CS.setTh_setTh, hki] at h49
      have F49 : Fr own own w38 w49 := u47.fr.trans u49.fr
      have y3 := hI38.x3.fr F49
      have y5 := hI38.x5.fr F49
      have y16 := hI38.x16.fr F49
      have yl := hI38.l.fr F49
      have yd : Blk w49 bd (bools D) 4 := Fr.blk hBd F49 hbdn
      have hlsl : ls3.length ≤ 1000000000 := by have := hI38.n; have := cntU_le S; omega
      refine ⟨_, _, _, y16.at0 rfl, ?_⟩
      refine OwnR.push (te := 3) ((k + 1 : Nat) : Int) sltI yl.1 (Nat.le_trans hI38.sz F49.size) eI_len eI_one (by omega) rfl fun a' c' w54 hO hgr hob => ?_
      have lk : ∀ j, (Value.slice s3.1 s3.2.1 s3.2.2).ownBlock = some j → base ≤ j ∧ own j = none := fun j hj => ⟨(yl.1.lt j hj).1, yl.2 j hj⟩
      have sz17 : base = w17.heap.size := rfl
      have keepB : ∀ j, j < w49.heap.size → (∀ i, (Value.slice s3.1 s3.2.1 s3.2.2).ownBlock = some i → i ≠ j) → w54.heap[j]? = w49.heap[j]? := fun j hj hn => hgr.block j hj fun e => hn j e.symm rfl
      have h54 : CR w54 own r5 _ := h49.frame hgr.size fun j hj hn => keepB j hj fun i hi e => hn (e ▸ (lk i hi).2)
      have low : ∀ j, j < base → j < w49.heap.size → w54.heap[j]? = w49.heap[j]? := fun j hj hl => keepB j hl fun i hi e => by have := (lk i hi).1; omega
      have z3 : BX own w54 b3 _ _ := ⟨(low b3 (by omega) y3.1.lt).trans y3.1, y3.2⟩
      have z5 : BX own w54 b5 _ _ := ⟨(low b5 (by omega) y5.1.lt).trans y5.1, y5.2⟩
      have z16 : BX own w54 b16 _ _ := ⟨(low b16 (by omega) y16.1.lt).trans y16.1, y16.2⟩
      have zd : Blk w54 bd (bools D) 4 := (keepB bd yd.lt fun i hi => OwnR.ne yl.1 yd (by decide) i hi).trans yd
      have newB : ∀ j, (Value.slice a' (ls3.length + 1) c').ownBlock = some j → base ≤ j ∧ own j = none := fun j hj => by
        rcases hob with hob | ⟨g2, hg2, hge⟩
        · exact lk j (hob.symm.trans hj)
        · rw [hg2] at hj; cases hj
          exact ⟨Nat.le_trans (Nat.le_trans hI38.sz F49.size) hge, h49.top _ hge⟩
      refine SetK.mk z16.1 (by simp) fun w55 hB55 but => ?_
      have h55 := h54.but z16.2 but
      have F : Fr own own w w55 := by
        have f1 : Fr own own w w54 := by
          have f0 := hI38.f.trans F49
          refine ⟨hgr.os.trans f0.os, hgr.tape.trans f0.tape, hgr.output.trans f0.output, Nat.le_trans f0.size hgr.size, fun j hj hn => ?_, fun _ _ e => e⟩
          exact (low j (by omega) (Nat.lt_of_lt_of_le hj f0.size)).trans (f0.block j hj hn)
        exact Fr.but f1 but (by omega)
      have hO55 : OwnR base 3 1 eI w55 a' (ls3.length + 1) c' (ls3 ++ [((k + 1 : Nat) : Int)]) := hO.kept fun j hj => but.block j fun e => by have := (newB j hj).1; omega
      have hcu : cntU (S3.setTh k { S3.things[k] with swept := true, on := [] }) < cntU S3 := cntU_set (List.getElem?_eq_getElem hlt) t3 rfl
      have hIn := hI38.n
      have e1 := hki
      rw [wrap_succ (by omega)]
      refine ⟨⟨k + 1, S3.setTh k { S3.things[k] with swept := true, on := [] }, r5, (a', ls3.length + 1, c'), ls3 ++ [((k + 1 : Nat) : Int)], rfl, by omega,
        ⟨h55, hI38.sw.step (List.getElem?_eq_getElem hlt) hfr t3, er5.trans (er4.trans hI38.b), fun i => ?_, F, z3.but but (by omega), z5.but but (by omega), ⟨by simpa [slv] using hB55, z16.2⟩, ⟨hO55, fun j hj => (newB j hj).2⟩, ?_, (by rw [List.length_append, List.length_singleton]; omega), ?_⟩,
        but.blk zd ?_, hsw.step (List.getElem?_eq_getElem hlt) hfr t3, by omega, fun _ => by omega, fun e => by cases e⟩, by simp; omega⟩
      · rw [et5, et4]; exact hI38.thp i
      · rw [but.size]; exact Nat.le_trans (Nat.le_trans hI38.sz F49.size) hgr.size
      · right
        have hlt0 : k < S.things.length := by omega
        obtain ⟨e1, _, _, _, e5⟩ := hI3.sw.th k _ _ (List.getElem?_eq_getElem hlt0) (List.getElem?_eq_getElem hlt)
        refine ⟨k, _, List.getElem?_eq_getElem hlt0, by rw [← e1]; exact t1, ?_⟩
        rcases e5 with ⟨e5, _⟩ | ⟨_, e5, _⟩
        · rw [← e5]; exact t3
        · rw [t3] at e5; cases e5
      · intro e
        have z16' : w54.heap[b16]? = _ := z16.1
        have zd' : w54.heap[bd]? = _ := zd
        rw [e, z16'] at zd'; simp at zd'
    · have hkn : k = S.things.length := by have := of_decide_eq_false t; omega
      subst hkn
      refine ⟨⟨S3, r3, s3, ls3, hI3, fun e => ?_⟩, ?_⟩
      · obtain ⟨e3, hall⟩ := hp2 e
        rw [e3]
        exact ⟨D, hD, fun i t ht => hall i t (by have := (List.getElem?_eq_some_iff.1 ht).1; omega) ht⟩
      · have d1 := decU_eq hI3.c hI3.thp
        have d2 := decU_eq hI.c hI.thp
        rw [hn3] at d1; rw [hn1] at d2
        show cntF (decU w28 r.th.1 S.things.length) + (if p29 = true then 1 else 0) < cntF (decU w20 r.th.1 S.things.length) + (if true = true then 1 else 0)
        rw [d1, d2]
        have e1 : cntF (S3.things.map (·.swept)) ≤ cntF (S1.things.map (·.swept)) := hcn
        cases p29
        · simp; omega
        · have e2 : cntF (S3.things.map (·.swept)) < cntF (S1.things.map (·.swept)) := hp1 rfl
          simp; omega
  · subst tp
    refine DrewK.mk fun w56 hx56 => ?_
    have hI := hI.ext hx56
    obtain ⟨rb, cl, ca, th, fl, mp, ma, mg, mm, mw, ths, wts⟩ := r1
    have eb := hI.b
    cases eb
    have hcalls : S1.calls = S.calls := by rw [hI.sw.eq]
    have hflyE : S1.fly = S.fly := by rw [hI.sw.eq]
    have hclk : S1.clocks = S.clocks := by rw [hI.sw.eq]
    have hls : ls.length ≤ 1000000000 := by have := hI.n; have := cntU_le S; omega
    have rne : r.b ≠ b3 := fun e => by have := hI.c.ob; rw [show own r.b = own b3 from congrArg own e, hI.x3.2] at this; cases this
    have hblk := hI.c.blk
    have c3 : (subW w56 b3 r.b).cell? ⟨b3, 0, none⟩ = some (.pointer (some ⟨r.b, 0, none⟩)) := by rw [subW_box]; exact hI.x3.at0 rfl
    refine ⟨subW w56 b3 r.b, subW_cel (fun _ => rfl) hblk hblk (fun _ _ _ hv => hv) rne, _, c3, _, c3, _, _, _, by rw [add_mk]; exact subW_at hblk rne (by omega) rfl, subW_cel (fun _ => rfl) hblk hblk (fun _ _ _ hv => hv) rne, ?_⟩
    refine (c54 (xs := S1.calls) (r0 := ⟨r.b, cl, ca, th, fl, mp, ma, mg, mm, mw, ths, wts⟩) (r := ⟨r.b, cl, ca, th, fl, mp, ma, mg, mm, mw, ths, wts⟩) (own0 := own) (own := own) (w0 := w56) (P := Lets site S1) (S := S1) Tryz.call55 (asksSweep hI.x3 hI.x5 hI.x16 hI.l hls L1 (fun z hz => by rw [CS.isT, hI.sw.len]; exact hcT z (hcalls ▸ hz)) (by rw [hflyE, hcalls]; omega)) (by rw [hcalls]; omega) ⟨.nil, hI.c, Fr.refl _ _, rfl, rfl, rfl, rfl, fun z hz => hz⟩ hI.c.calls).mono ?_
    rintro en w63 ⟨a, l, c, rfl, own', ⟨rb2, cl2, ca2, th2, fl2, mp2, ma2, mg2, mm2, mw2, ths2, wts2⟩, S2, zs, ys, wA, hW, u63, hr63, hyl, hym⟩
    have hWb := hW.b
    cases hWb
    have hWca : ca2 = ca := hW.ca
    have hWcl : cl2 = cl := hW.cl
    have K := hW.p.k
    have hblk63 := hW.c.blk.upd hW.c.ob u63 (by simp)
    have F63 : Fr own own' w56 w63 := hW.f.trans u63.fr
    refine ⟨_, _, _, rfl, subW_cel (fun hb => F63.block b3 hb hI.x3.2) hblk hblk63 (fun j hj v hv => ?_) rne, ?_⟩
    · match j, hj with
      | 0, _ => exact hv
      | 1, _ => simpa [K.term] using hv
      | 2, _ => simpa [K.slack] using hv
      | 3, _ => simpa [hWcl] using hv
      | 4, _ => simpa [hWca] using hv
    refine setBlk hblk63 hW.c.ob 4 _ (by simp) fun w66 hb66 u66 => ?_
    have h66 := hW.c.newCalls u63 hr63 u66 (by simpa [slv] using hb66)
    have F66 : Fr own own' w56 w66 := F63.trans u66.fr
    have x16 := hI.x16.fr F66
    have hl := hI.l.fr F66
    refine ⟨_, _, _, x16.at0 rfl, ?_⟩
    refine (c57 _ _ _ ls hl.1 hls).mono ?_
    rintro en w68 ⟨rfl, qs, hql, hq, hgr⟩
    have lk : ∀ j, (Value.slice s.1 s.2.1 s.2.2).ownBlock = some j → base ≤ j ∧ own' j = none := fun j hj => ⟨(hl.1.lt j hj).1, hl.2 j hj⟩
    have sz17 : base = w17.heap.size := rfl
    have keepB : ∀ j, j < w66.heap.size → (∀ i, (Value.slice s.1 s.2.1 s.2.2).ownBlock = some i → i ≠ j) → w68.heap[j]? = w66.heap[j]? := fun j hj hn => hgr.block j hj fun e => hn j e.symm rfl
    have z16 : BX own' w68 b16 _ _ := ⟨(keepB b16 x16.1.lt fun i hi e => by have := (lk i hi).1; omega).trans x16.1, x16.2⟩
    have h68 := h66.frame hgr.size fun j hj hn => keepB j hj fun i hi e => hn (e ▸ (lk i hi).2)
    have F0 : Fr own own' w w66 := hI.f.trans F66
    refine ⟨rfl, _, _, _, z16.at0 rfl, qs, { S2 with calls := ys }, hq, (by rw [hql]; exact hls), fun p hp => ?_, PostC.mk h68 ⟨hgr.os.trans F0.os, hgr.tape.trans F0.tape, hgr.output.trans F0.output, Nat.le_trans F0.size hgr.size, fun j hj hn => ?_, F0.free⟩ rfl,
      .inr ⟨hS, rfl, S1, S2, ys, ⟨hI.sw, hp rfl, by rw [hql]; exact hI.e⟩, hcalls ▸ hW.p, rfl, hcalls ▸ hyl, fun y hy => hcalls ▸ hym y hy⟩⟩
    · have := (lk p.block (by rw [hp]; rfl)).1; omega
    · exact (keepB j (Nat.lt_of_lt_of_le hj F0.size) fun i hi e => by have := (lk i hi).1; omega).trans (F0.block j hj hn)
end
end Go.Proofs.YtgggbmikmmljcaaGreat

namespace Go.Proofs.YtgggbmikmmljcaaGreat
open Go Go.V Go.Proofs
def px (p : Int × Int → Int) : Nat → Int → Int
  | 0, _ => 0
  | n + 1, t => px p n t + p ((n : Int), t)
def flw : List Msg → Int → Int
  | [], _ => 0
  | m :: l, t => (if m.ent = t then m.n else 0) + flw l t
theorem px_upd (p : Int × Int → Int) (q : Int × Int) (v : Int) (n : Nat) (t : Int) : px (upd p q v) n t = px p n t + (if q.2 = t ∧ 0 ≤ q.1 ∧ q.1 < n then v - p q else 0) := by
  obtain ⟨a, b⟩ := q
  induction n with
  | zero => rw [if_neg (by omega)]; rfl
  | succ n ih =>
    rw [px, px, ih]
    by_cases h : ((n : Int), t) = (a, b)
    · have h1 : (n : Int) = a := congrArg Prod.fst h
      have h2 : t = b := congrArg Prod.snd h
      subst h1; subst h2
      simp only [upd, if_true]
      rw [if_neg (by omega), if_pos (by simp only [true_and]; omega)]; omega
    · simp only [upd, if_neg h]
      simp only [Prod.mk.injEq] at h
      by_cases hc : b = t ∧ 0 ≤ a ∧ a < n
      · rw [if_pos hc, if_pos (show b = t ∧ 0 ≤ a ∧ a < ((n + 1 : Nat) : Int) by omega)]; omega
      · rw [if_neg hc, if_neg (show ¬ (b = t ∧ 0 ≤ a ∧ a < ((n + 1 : Nat) : Int)) by omega)]; omega
theorem px_nonneg {p : Int × Int → Int} (h : ∀ q, 0 ≤ p q) (n : Nat) (t : Int) : 0 ≤ px p n t := by
  induction n with
  | zero => exact Int.le_refl 0
  | succ n ih => have := h ((n : Int), t); simp only [px]; omega
theorem px_mem {p : Int × Int → Int} (h : ∀ q, 0 ≤ p q) {n : Nat} {s : Int} (t : Int) (h1 : 0 ≤ s) (h2 : s < n) : p (s, t) ≤ px p n t := by
  induction n with
  | zero => omega
  | succ n ih =>
    simp only [px]
    by_cases e : s = n
    · subst e; have := px_nonneg h n t; omega
    · have := ih (by omega); have := h ((n : Int), t); omega
theorem px_zero {p : Int × Int → Int} {n : Nat} {t : Int} (h : ∀ s : Int, 0 ≤ s → s < n → p (s, t) = 0) : px p n t = 0 := by
  induction n with
  | zero => rfl
  | succ n ih => rw [px, ih fun s a b => h s a (by omega), h n (by omega) (by omega)]; rfl
theorem flw_app (a b : List Msg) (t : Int) : flw (a ++ b) t = flw a t + flw b t := by
  induction a with
  | nil => simp [flw]
  | cons m a ih => simp only [List.cons_append, flw, ih]; omega
theorem flw_one (m : Msg) (t : Int) : flw [m] t = (if m.ent = t then m.n else 0) := by simp [flw]
theorem flw_erase {l : List Msg} {i : Nat} {m : Msg} (h : l[i]? = some m) (t : Int) : flw (l.eraseIdx i) t = flw l t - (if m.ent = t then m.n else 0) := by
  induction l generalizing i with
  | nil => simp at h
  | cons x l ih =>
    cases i with
    | zero => simp at h; subst h; simp only [List.eraseIdx_cons_zero, flw]; omega
    | succ i =>
      have := ih (by simpa using h)
      simp only [List.eraseIdx_cons_succ, flw, this]; omega
theorem flw_nonneg {l : List Msg} (h : ∀ m ∈ l, 0 ≤ m.n) (t : Int) : 0 ≤ flw l t := by
  induction l with
  | nil => exact Int.le_refl 0
  | cons m l ih =>
    have h1 := ih fun x hx => h x (List.mem_cons_of_mem _ hx)
    have h2 := h m (List.mem_cons_self)
    simp only [flw]; split <;> omega
theorem flw_mem {l : List Msg} (h : ∀ m ∈ l, 0 ≤ m.n) {m : Msg} (hm : m ∈ l) : m.n ≤ flw l m.ent := by
  obtain ⟨i, hi⟩ := List.getElem?_of_mem hm
  have e := flw_erase hi m.ent
  rw [if_pos rfl] at e
  have := flw_nonneg (l := l.eraseIdx i) (fun x hx => h x (List.mem_of_mem_eraseIdx hx)) m.ent
  omega
theorem flw_zero {l : List Msg} {t : Int} (h : ∀ m ∈ l, m.ent = t → m.n = 0) : flw l t = 0 := by
  induction l with
  | nil => rfl
  | cons m l ih =>
    simp only [flw]
    rw [ih fun x hx => h x (List.mem_cons_of_mem _ hx)]
    split
    · rename_i e; rw [h m List.mem_cons_self e]; rfl
    · rfl
def CS.outT (S : CS) (t : Int) : Int := if S.isT t then (S.th t).out else 0
def CS.dif (S : CS) (t : Int) : Int := S.outT t - px S.prox S.clocks.length t - flw S.fly t
def carry (m : Msg) : Prop := m.n = 0 ∨ isK m.kind kGive = true ∨ isK m.kind kPass = true ∨ isK m.kind kBack = true
structure Inv (k f : Nat) (S : CS) : Prop where
  ck : 1 ≤ S.clocks.length ∧ S.clocks.length ≤ 5
  th : S.things.length ≤ k
  ca : S.calls.length ≤ k
  fl : S.fly.length ≤ f
  own : ∀ x, S.isT x → S.isS (S.th x).owner
  onl : ∀ x, S.isT x → (S.th x).on.length ≤ k ∧ ∀ y ∈ (S.th x).on, S.isT y
  caT : ∀ z ∈ S.calls, S.isT z.2
  wt : ∀ q, (S.waits q).length ≤ k ∧ ∀ y ∈ S.waits q, S.isS y
  px : ∀ q, 0 ≤ S.prox q
  pxT : ∀ q, S.prox q ≠ 0 → S.isS q.1 ∧ S.isT q.2
  fy : ∀ m ∈ S.fly, S.isT m.ent ∧ S.isS m.frm ∧ S.isS m.to ∧ 0 ≤ m.n ∧ carry m
  ou : ∀ x, S.isT x → (S.th x).out ≤ 65536 * k ∧ ((S.th x).swept = true → (S.th x).out = 0)
  df : ∀ t, 0 ≤ S.dif t
theorem CS.th_setTh (S : CS) (i : Nat) (t : Th) (x : Int) : (S.setTh i t).th x = if (x - 1).toNat = i ∧ i < S.things.length then t else S.th x := by
  simp only [CS.th, CS.setTh, List.getD_eq_getElem?_getD, List.getElem?_set]
  by_cases h : i = (x - 1).toNat
  · subst h
    by_cases h2 : (x - 1).toNat < S.things.length
    · rw [if_pos rfl, if_pos h2, if_pos ⟨rfl, h2⟩]; rfl
    · rw [if_pos rfl, if_neg h2, if_neg (by omega), List.getElem?_eq_none (by omega)]
  · rw [if_neg h, if_neg (by omega)]
section
variable {k f : Nat} {S : CS}
theorem Inv.pxs (h : Inv k f S) (t : Int) : 0 ≤ Go.Proofs.YtgggbmikmmljcaaGreat.px S.prox S.clocks.length t := px_nonneg h.px _ _
theorem Inv.flw (h : Inv k f S) (t : Int) : 0 ≤ Go.Proofs.YtgggbmikmmljcaaGreat.flw S.fly t := flw_nonneg (fun m hm => (h.fy m hm).2.2.2.1) _
theorem Inv.outT0 (h : Inv k f S) (t : Int) : 0 ≤ S.outT t := by have := h.df t; have := h.pxs t; have := h.flw t; simp only [CS.dif] at *; omega
theorem outT_eq {x : Int} (hx : S.isT x) : S.outT x = (S.th x).out := if_pos hx
theorem Inv.out0 (h : Inv k f S) {x : Int} (hx : S.isT x) : 0 ≤ (S.th x).out := by have := h.outT0 x; rwa [outT_eq hx] at this
theorem Inv.outT1 (h : Inv k f S) (t : Int) : S.outT t ≤ 65536 * k := by
  unfold CS.outT; split
  · exact (h.ou _ ‹_›).1
  · omega
theorem Inv.mono {k' f' : Nat} (h : Inv k f S) (hk : k ≤ k') (hf : f ≤ f') : Inv k' f' S :=
  ⟨h.ck, Nat.le_trans h.th hk, Nat.le_trans h.ca hk, Nat.le_trans h.fl hf, h.own, fun x hx => ⟨Nat.le_trans (h.onl x hx).1 hk, (h.onl x hx).2⟩, h.caT, fun q => ⟨Nat.le_trans (h.wt q).1 hk, (h.wt q).2⟩, h.px, h.pxT, h.fy,
    fun x hx => ⟨by have := (h.ou x hx).1; omega, (h.ou x hx).2⟩, h.df⟩
theorem Inv.pxle (h : Inv k f S) (q : Int × Int) : S.prox q ≤ S.outT q.2 - Go.Proofs.YtgggbmikmmljcaaGreat.flw S.fly q.2 - S.dif q.2 := by
  by_cases e : S.prox q = 0
  · rw [e]; have := h.pxs q.2; simp only [CS.dif]; omega
  · obtain ⟨h1, h2⟩ := h.pxT q e
    have h3 : S.prox q ≤ _ := px_mem h.px q.2 h1.1 h1.2
    simp only [CS.dif]; omega
theorem Inv.pxB (h : Inv k f S) (q : Int × Int) : S.prox q ≤ 65536 * k := by have := h.pxle q; have := h.flw q.2; have := h.df q.2; have := h.outT1 q.2; omega
theorem Inv.flB (h : Inv k f S) {m : Msg} (hm : m ∈ S.fly) : m.n ≤ S.outT m.ent := by
  have h1 := flw_mem (fun m hm => (h.fy m hm).2.2.2.1) hm
  have := h.pxs m.ent; have := h.df m.ent; simp only [CS.dif] at *; omega
theorem mem_th {t : Th} (ht : t ∈ S.things) : ∃ x, S.isT x ∧ S.th x = t := by
  obtain ⟨i, hi⟩ := List.getElem?_of_mem ht
  have hl := (List.getElem?_eq_some_iff.1 hi).1
  exact ⟨(i : Int) + 1, ⟨by omega, by omega⟩, by rw [CS.th_get (i := i) hl (by omega)]; exact (List.getElem?_eq_some_iff.1 hi).2⟩
theorem Inv.safe (h : Inv k f S) (hk : k ≤ 1000) (hf : f ≤ 10000000) : Safe S where
  th := by have := h.th; omega
  fly := by have := h.fl; omega
  on := fun t ht => by obtain ⟨x, hx, rfl⟩ := mem_th ht; have := (h.onl x hx).1; omega
  own := fun t ht => by obtain ⟨x, hx, rfl⟩ := mem_th ht; exact h.own x hx
  out := fun t ht => by obtain ⟨x, hx, rfl⟩ := mem_th ht; have := (h.ou x hx).1; exact ⟨h.out0 hx, by omega⟩
  prox := fun q => ⟨h.px q, by have := h.pxB q; omega⟩
  flyE := fun m hm => ⟨(h.fy m hm).1, (h.fy m hm).2.2.2.1, by have := h.flB hm; have := h.outT1 m.ent; omega⟩
  wl := fun q => by have := (h.wt q).1; have := h.fl; omega
theorem Inv.same {S' : CS} (h : Inv k f S) (e1 : S'.clocks.length = S.clocks.length) (e2 : S'.things = S.things) (e3 : S'.prox = S.prox) (e4 : S'.fly = S.fly) (hc : S'.calls.length ≤ k ∧ ∀ z ∈ S'.calls, S.isT z.2) (hw : ∀ q, (S'.waits q).length ≤ k ∧ ∀ y ∈ S'.waits q, S.isS y) :
    Inv k f S' ∧ ∀ t, S'.dif t = S.dif t := by
  have hT : ∀ x, S'.isT x ↔ S.isT x := fun x => by simp [CS.isT, e2]
  have hS : ∀ x, S'.isS x ↔ S.isS x := fun x => by simp [CS.isS, e1]
  have ht : ∀ x, S'.th x = S.th x := fun x => by simp [CS.th, e2]
  have hd : ∀ t, S'.dif t = S.dif t := fun t => by simp only [CS.dif, CS.outT, hT, ht, e1, e3, e4]
  refine ⟨⟨by rw [e1]; exact h.ck, by rw [e2]; exact h.th, hc.1, by rw [e4]; exact h.fl, fun x hx => ?_, fun x hx => ?_, fun z hz => (hT _).2 (hc.2 z hz), fun q => ⟨(hw q).1, fun y hy => (hS _).2 ((hw q).2 y hy)⟩, fun q => by rw [e3]; exact h.px q, fun q hq => ?_, fun m hm => ?_, fun x hx => ?_, fun t => by rw [hd]; exact h.df t⟩, hd⟩
  · rw [hS, ht]; exact h.own x ((hT x).1 hx)
  · rw [ht]; exact ⟨(h.onl x ((hT x).1 hx)).1, fun y hy => (hT _).2 ((h.onl x ((hT x).1 hx)).2 y hy)⟩
  · rw [e3] at hq; exact ⟨(hS _).2 (h.pxT q hq).1, (hT _).2 (h.pxT q hq).2⟩
  · rw [e4] at hm; obtain ⟨a, b, c, d⟩ := h.fy m hm; exact ⟨(hT _).2 a, (hS _).2 b, (hS _).2 c, d⟩
  · rw [ht]; exact h.ou x ((hT x).1 hx)
theorem Inv.move {S' : CS} {f' : Nat} (h : Inv k f S) (x d o : Int) (hx : S.isT x) (e1 : S'.clocks.length = S.clocks.length) (el : S'.things.length = S.things.length) (ec : S'.calls = S.calls) (hw : ∀ q, (S'.waits q).length ≤ k ∧ ∀ y ∈ S'.waits q, S.isS y) (hfl : S'.fly.length ≤ f')
    (ht : ∀ y, S.isT y → (S'.th y).owner = (S.th y).owner ∧ (S'.th y).on = (S.th y).on ∧ (S'.th y).swept = (S.th y).swept ∧ (S'.th y).out = (S.th y).out + (if y = x then o else 0)) (ho : (S.th x).out + o ≤ 65536 * k) (hsw : (S.th x).swept = true → o = 0)
    (hp : ∀ q, 0 ≤ S'.prox q) (hpT : ∀ q, S'.prox q ≠ 0 → S.isS q.1 ∧ S.isT q.2) (hfy : ∀ m ∈ S'.fly, S.isT m.ent ∧ S.isS m.frm ∧ S.isS m.to ∧ 0 ≤ m.n ∧ carry m)
    (hd : ∀ t, Go.Proofs.YtgggbmikmmljcaaGreat.px S'.prox S.clocks.length t + Go.Proofs.YtgggbmikmmljcaaGreat.flw S'.fly t = Go.Proofs.YtgggbmikmmljcaaGreat.px S.prox S.clocks.length t + Go.Proofs.YtgggbmikmmljcaaGreat.flw S.fly t + (if t = x then d else 0)) (h0 : 0 ≤ S.dif x + o - d) :
    Inv k f' S' ∧ ∀ t, S'.dif t = S.dif t + (if t = x then o - d else 0) := by
  have hT : ∀ x, S'.isT x ↔ S.isT x := fun x => by simp [CS.isT, el]
  have hS : ∀ x, S'.isS x ↔ S.isS x := fun x => by simp [CS.isS, e1]
  have hD : ∀ t, S'.dif t = S.dif t + (if t = x then o - d else 0) := fun t => by
    have := hd t
    simp only [CS.dif, CS.outT, hT, e1]
    by_cases hxt : S.isT t
    · rw [if_pos hxt, if_pos hxt, (ht t hxt).2.2.2]; split at this <;> rename_i e <;> (try rw [if_pos e, if_pos e]) <;> (try rw [if_neg e, if_neg e]) <;> omega
    · have e : ¬ t = x := fun e => hxt (e ▸ hx)
      rw [if_neg hxt, if_neg hxt, if_neg e]; rw [if_neg e] at this; omega
  refine ⟨⟨by rw [e1]; exact h.ck, by rw [el]; exact h.th, by rw [ec]; exact h.ca, hfl, fun y hy => ?_, fun y hy => ?_, fun z hz => (hT _).2 (h.caT z (ec ▸ hz)), fun q => ⟨(hw q).1, fun y hy => (hS _).2 ((hw q).2 y hy)⟩, hp, fun q hq => ⟨(hS _).2 (hpT q hq).1, (hT _).2 (hpT q hq).2⟩, fun m hm => ?_, fun y hy => ?_, fun t => ?_⟩, hD⟩
  · rw [hS, (ht y ((hT y).1 hy)).1]; exact h.own y ((hT y).1 hy)
  · rw [(ht y ((hT y).1 hy)).2.1]; exact ⟨(h.onl y ((hT y).1 hy)).1, fun z hz => (hT _).2 ((h.onl y ((hT y).1 hy)).2 z hz)⟩
  · obtain ⟨a, b, c, d⟩ := hfy m hm; exact ⟨(hT _).2 a, (hS _).2 b, (hS _).2 c, d⟩
  · have hy' := (hT y).1 hy
    obtain ⟨-, -, g1, g2⟩ := ht y hy'
    rw [g1, g2]
    by_cases e : y = x
    · subst e; rw [if_pos rfl]; exact ⟨ho, fun hs => by rw [(h.ou y hy').2 hs, hsw hs]; rfl⟩
    · rw [if_neg e, Int.add_zero]; exact h.ou y hy'
  · rw [hD]; split
    · rename_i e; subst e; omega
    · have := h.df t; omega
end
end Go.Proofs.YtgggbmikmmljcaaGreat
