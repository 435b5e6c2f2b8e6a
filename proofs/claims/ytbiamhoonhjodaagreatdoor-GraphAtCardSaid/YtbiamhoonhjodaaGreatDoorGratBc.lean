/- A part of the proof: plain forms of functions and laws about them. -/
import Derived.Test.YtbiamhoonhjodaaGreatDoorGratBb
namespace Go.Proofs.YtbiamhoonhjodaaGreatDoor
open Go Go.V Go.Proofs
open Go.RowKit (Below)
set_option maxRecDepth 100000
/-! manystrand/manystrandref05.ValidNode -/
def N56 (s1 : ByteArray) (x2 : Int) (s3 : ByteArray) (a4 : Option Addr) (l4 : Nat) (c4 : Nat) (a5 : Option Addr) (l5 : Nat) (c5 : Nat) (x6 : Int) (K : Bool → World → Prop) (w : World) : Prop :=
 AllocK w (#[(.string s1), (.int .i64 x2), (.string s3), (.slice a4 l4 c4), (.slice a5 l5 c5)]) 37 fun b7 w8 =>
 ∃ (s9 : ByteArray), w8.cell? b7 = some (.string s9) ∧
 (BoolK ((s9 : ByteArray).toList == ((⟨#[105, 110, 116]⟩ : ByteArray) : ByteArray).toList)
 (∃ (x10 : Int), w8.cell? (b7.add 1) = some (.int .i64 x10) ∧
 (BoolK (decide ((x10 : Int) ≥ -999999999999999999))
 (∃ (x11 : Int), w8.cell? (b7.add 1) = some (.int .i64 x11) ∧
 (BoolK (decide ((x11 : Int) ≤ 999999999999999999))
 (∃ (s12 : ByteArray), w8.cell? (b7.add 2) = some (.string s12) ∧
 (BoolK ((s12 : ByteArray).toList == ((⟨#[]⟩ : ByteArray) : ByteArray).toList)
 (∃ (a13 : Option Addr) (l13 : Nat) (c13 : Nat), w8.cell? (b7.add 3) = some (.slice a13 l13 c13) ∧
 (BoolK (((l13 : Nat) : Int) == 0)
 (∃ (a14 : Option Addr) (l14 : Nat) (c14 : Nat), w8.cell? (b7.add 4) = some (.slice a14 l14 c14) ∧
 (K (((l14 : Nat) : Int) == 0) w8))
 (K false w8)))
 (K false w8)))
 (K false w8)))
 (K false w8)))
 (BoolK ((s9 : ByteArray).toList == ((⟨#[118, 97, 114]⟩ : ByteArray) : ByteArray).toList)
 (∃ (x15 : Int), w8.cell? (b7.add 1) = some (.int .i64 x15) ∧
 (BoolK (decide ((x15 : Int) ≥ 1))
 (∃ (x16 : Int), w8.cell? (b7.add 1) = some (.int .i64 x16) ∧
 (BoolK (decide ((x16 : Int) ≤ 999999999999999999))
 (∃ (s17 : ByteArray), w8.cell? (b7.add 2) = some (.string s17) ∧
 (BoolK ((s17 : ByteArray).toList == ((⟨#[]⟩ : ByteArray) : ByteArray).toList)
 (∃ (a18 : Option Addr) (l18 : Nat) (c18 : Nat), w8.cell? (b7.add 3) = some (.slice a18 l18 c18) ∧
 (BoolK (((l18 : Nat) : Int) == 0)
 (∃ (a19 : Option Addr) (l19 : Nat) (c19 : Nat), w8.cell? (b7.add 4) = some (.slice a19 l19 c19) ∧
 (K (((l19 : Nat) : Int) == 0) w8))
 (K false w8)))
 (K false w8)))
 (K false w8)))
 (K false w8)))
 (BoolK ((s9 : ByteArray).toList == ((⟨#[114, 101, 102]⟩ : ByteArray) : ByteArray).toList)
 (∃ (x20 : Int), w8.cell? (b7.add 1) = some (.int .i64 x20) ∧
 (BoolK (decide ((x20 : Int) ≥ 1))
 (∃ (x21 : Int), w8.cell? (b7.add 1) = some (.int .i64 x21) ∧
 (BoolK (decide ((x21 : Int) ≤ 999999999999999999))
 (∃ (s22 : ByteArray), w8.cell? (b7.add 2) = some (.string s22) ∧
 (Calls Tryz.prog 87 #[(.string s22), (.string (⟨#[32, 110, 97, 109, 101, 32, 112, 114, 111, 99, 32, 99, 101, 108, 108, 32, 112, 111, 114, 116, 32, 108, 111, 99, 107, 32, 100, 105, 99, 116, 32, 97, 114, 114, 97, 121, 32, 99, 104, 117, 110, 107, 32, 115, 112, 97, 99, 101, 32, 100, 101, 97, 100, 32]⟩ : ByteArray))] w8 fun e25 w24 =>
 ∃ (p23 : Bool), e25 = .returned (.bool p23) ∧
 (BoolK p23
 (∃ (a26 : Option Addr) (l26 : Nat) (c26 : Nat), w24.cell? (b7.add 3) = some (.slice a26 l26 c26) ∧
 (BoolK (((l26 : Nat) : Int) == 0)
 (∃ (a27 : Option Addr) (l27 : Nat) (c27 : Nat), w24.cell? (b7.add 4) = some (.slice a27 l27 c27) ∧
 (K (((l27 : Nat) : Int) == 0) w24))
 (K false w24)))
 (K false w24))))
 (K false w8)))
 (K false w8)))
 (BoolK ((s9 : ByteArray).toList == ((⟨#[114, 101, 99]⟩ : ByteArray) : ByteArray).toList)
 (∃ (x28 : Int), w8.cell? (b7.add 1) = some (.int .i64 x28) ∧
 (BoolK ((x28 : Int) != 0)
 (K false w8)
 (∃ (s29 : ByteArray), w8.cell? (b7.add 2) = some (.string s29) ∧
 (Calls Tryz.prog 88 #[(.string s29)] w8 fun e32 w31 =>
 ∃ (p30 : Bool), e32 = .returned (.bool p30) ∧
 (BoolK (!p30)
 (K false w31)
 (∃ (a33 : Option Addr) (l33 : Nat) (c33 : Nat), w31.cell? (b7.add 3) = some (.slice a33 l33 c33) ∧
 (∃ (a34 : Option Addr) (l34 : Nat) (c34 : Nat), w31.cell? (b7.add 4) = some (.slice a34 l34 c34) ∧
 (BoolK (((l33 : Nat) : Int) != (l34 : Nat))
 (K false w31)
 (∃ (I35 : Int → World → Prop) (μ36 : Int → World → Nat),
 (I35 0 w31 ∧ True) ∧
 ∀ (w37 : World) (x38 : Int), I35 x38 w37 →
 ∃ (a39 : Option Addr) (l39 : Nat) (c39 : Nat), w37.cell? (b7.add 3) = some (.slice a39 l39 c39) ∧
 (BoolK (decide ((x38 : Int) < (l39 : Nat)))
 (DrewK w37 fun w40 =>
 ∃ (a41 : Option Addr) (l41 : Nat) (c41 : Nat), w40.cell? (b7.add 3) = some (.slice a41 l41 c41) ∧
 ((0 ≤ (x38 : Int) ∧ (x38 : Int) < (l41 : Nat)) ∧
 AddrK a41 fun b42 =>
 ∃ (x43 : Int), w40.cell? ((b42.add ((x38 : Int).toNat * 2)).add 0) = some (.int .i64 x43) ∧
 (∃ (s44 : ByteArray), w40.cell? ((b42.add ((x38 : Int).toNat * 2)).add 1) = some (.string s44) ∧
 (Calls Tryz.prog 89 #[(.agg #[(.int .i64 x43), (.string s44)])] w40 fun e47 w46 =>
 ∃ (p45 : Bool), e47 = .returned (.bool p45) ∧
 (Cel w40 w46 ∧
 (BoolK (!p45)
 (((K false w46) ∧
 ((K false w46) ∧
 (K false w46))) ∧
 (((K false w46) ∧
 (K false w46)) ∧
 (K false w46)))
 (BoolK (decide ((x38 : Int) > 0))
 ((∃ (a48 : Option Addr) (l48 : Nat) (c48 : Nat), w46.cell? (b7.add 3) = some (.slice a48 l48 c48) ∧
 ((0 ≤ (IntKind.wrap .i64 (x38 - 1) : Int) ∧ (IntKind.wrap .i64 (x38 - 1) : Int) < (l48 : Nat)) ∧
 AddrK a48 fun b49 =>
 (∃ (x50 : Int), w46.cell? ((b49.add ((IntKind.wrap .i64 (x38 - 1) : Int).toNat * 2)).add 0) = some (.int .i64 x50) ∧
 (∃ (s51 : ByteArray), w46.cell? ((b49.add ((IntKind.wrap .i64 (x38 - 1) : Int).toNat * 2)).add 1) = some (.string s51) ∧
 (∃ (a52 : Option Addr) (l52 : Nat) (c52 : Nat), w46.cell? (b7.add 3) = some (.slice a52 l52 c52) ∧
 ((0 ≤ (x38 : Int) ∧ (x38 : Int) < (l52 : Nat)) ∧
 AddrK a52 fun b53 =>
 ∃ (x54 : Int), w46.cell? ((b53.add ((x38 : Int).toNat * 2)).add 0) = some (.int .i64 x54) ∧
 (∃ (s55 : ByteArray), w46.cell? ((b53.add ((x38 : Int).toNat * 2)).add 1) = some (.string s55) ∧
 (Calls Tryz.prog 90 #[(.agg #[(.int .i64 x50), (.string s51)]), (.agg #[(.int .i64 x54), (.string s55)])] w46 fun e58 w57 =>
 ∃ (p56 : Bool), e58 = .returned (.bool p56) ∧
 (Cel w40 w57 ∧
 (BoolK (!p56)
 (K false w57)
 (∃ (a59 : Option Addr) (l59 : Nat) (c59 : Nat), w57.cell? (b7.add 4) = some (.slice a59 l59 c59) ∧
 ((0 ≤ (x38 : Int) ∧ (x38 : Int) < (l59 : Nat)) ∧
 AddrK a59 fun b60 =>
 ∃ (x61 : Int), w57.cell? (b60.add ((x38 : Int).toNat * 1)) = some (.int .i64 x61) ∧
 (BoolK (decide ((x61 : Int) < 0))
 (K false w57)
 (∃ (a62 : Option Addr) (l62 : Nat) (c62 : Nat), w57.cell? (b7.add 4) = some (.slice a62 l62 c62) ∧
 ((0 ≤ (x38 : Int) ∧ (x38 : Int) < (l62 : Nat)) ∧
 AddrK a62 fun b63 =>
 ∃ (x64 : Int), w57.cell? (b63.add ((x38 : Int).toNat * 1)) = some (.int .i64 x64) ∧
 (BoolK (decide ((x64 : Int) ≥ x6))
 (K false w57)
 (I35 (IntKind.wrap .i64 (x38 + 1)) w57 ∧ μ36 (IntKind.wrap .i64 (x38 + 1)) w57 < μ36 x38 w37))))))))))))))) ∧
 (∃ (a65 : Option Addr) (l65 : Nat) (c65 : Nat), w46.cell? (b7.add 3) = some (.slice a65 l65 c65) ∧
 ((0 ≤ (x38 : Int) ∧ (x38 : Int) < (l65 : Nat)) ∧
 AddrK a65 fun b66 =>
 (∃ (x67 : Int), w46.cell? ((b49.add ((IntKind.wrap .i64 (x38 - 1) : Int).toNat * 2)).add 0) = some (.int .i64 x67) ∧
 (∃ (s68 : ByteArray), w46.cell? ((b49.add ((IntKind.wrap .i64 (x38 - 1) : Int).toNat * 2)).add 1) = some (.string s68) ∧
 (∃ (x69 : Int), w46.cell? ((b66.add ((x38 : Int).toNat * 2)).add 0) = some (.int .i64 x69) ∧
 (∃ (s70 : ByteArray), w46.cell? ((b66.add ((x38 : Int).toNat * 2)).add 1) = some (.string s70) ∧
 (Calls Tryz.prog 90 #[(.agg #[(.int .i64 x67), (.string s68)]), (.agg #[(.int .i64 x69), (.string s70)])] w46 fun e73 w72 =>
 ∃ (p71 : Bool), e73 = .returned (.bool p71) ∧
 (Cel w40 w72 ∧
 (BoolK (!p71)
 (K false w72)
 (∃ (a74 : Option Addr) (l74 : Nat) (c74 : Nat), w72.cell? (b7.add 4) = some (.slice a74 l74 c74) ∧
 ((0 ≤ (x38 : Int) ∧ (x38 : Int) < (l74 : Nat)) ∧
 AddrK a74 fun b75 =>
 ∃ (x76 : Int), w72.cell? (b75.add ((x38 : Int).toNat * 1)) = some (.int .i64 x76) ∧
 (BoolK (decide ((x76 : Int) < 0))
 (K false w72)
 (∃ (a77 : Option Addr) (l77 : Nat) (c77 : Nat), w72.cell? (b7.add 4) = some (.slice a77 l77 c77) ∧
 ((0 ≤ (x38 : Int) ∧ (x38 : Int) < (l77 : Nat)) ∧
 AddrK a77 fun b78 =>
 ∃ (x79 : Int), w72.cell? (b78.add ((x38 : Int).toNat * 1)) = some (.int .i64 x79) ∧
 (BoolK (decide ((x79 : Int) ≥ x6))
 (K false w72)
 (I35 (IntKind.wrap .i64 (x38 + 1)) w72 ∧ μ36 (IntKind.wrap .i64 (x38 + 1)) w72 < μ36 x38 w37)))))))))))))) ∧
 (∃ (x80 : Int), w46.cell? ((b66.add ((x38 : Int).toNat * 2)).add 0) = some (.int .i64 x80) ∧
 (∃ (s81 : ByteArray), w46.cell? ((b66.add ((x38 : Int).toNat * 2)).add 1) = some (.string s81) ∧
 (∃ (x82 : Int), w46.cell? ((b49.add ((IntKind.wrap .i64 (x38 - 1) : Int).toNat * 2)).add 0) = some (.int .i64 x82) ∧
 (∃ (s83 : ByteArray), w46.cell? ((b49.add ((IntKind.wrap .i64 (x38 - 1) : Int).toNat * 2)).add 1) = some (.string s83) ∧
 (Calls Tryz.prog 90 #[(.agg #[(.int .i64 x82), (.string s83)]), (.agg #[(.int .i64 x80), (.string s81)])] w46 fun e86 w85 =>
 ∃ (p84 : Bool), e86 = .returned (.bool p84) ∧
 (Cel w40 w85 ∧
 (BoolK (!p84)
 (K false w85)
 (∃ (a87 : Option Addr) (l87 : Nat) (c87 : Nat), w85.cell? (b7.add 4) = some (.slice a87 l87 c87) ∧
 ((0 ≤ (x38 : Int) ∧ (x38 : Int) < (l87 : Nat)) ∧
 AddrK a87 fun b88 =>
 ∃ (x89 : Int), w85.cell? (b88.add ((x38 : Int).toNat * 1)) = some (.int .i64 x89) ∧
 (BoolK (decide ((x89 : Int) < 0))
 (K false w85)
 (∃ (a90 : Option Addr) (l90 : Nat) (c90 : Nat), w85.cell? (b7.add 4) = some (.slice a90 l90 c90) ∧
 ((0 ≤ (x38 : Int) ∧ (x38 : Int) < (l90 : Nat)) ∧
 AddrK a90 fun b91 =>
 ∃ (x92 : Int), w85.cell? (b91.add ((x38 : Int).toNat * 1)) = some (.int .i64 x92) ∧
 (BoolK (decide ((x92 : Int) ≥ x6))
 (K false w85)
 (I35 (IntKind.wrap .i64 (x38 + 1)) w85 ∧ μ36 (IntKind.wrap .i64 (x38 + 1)) w85 < μ36 x38 w37)))))))))))))))))) ∧
 (∃ (a93 : Option Addr) (l93 : Nat) (c93 : Nat), w46.cell? (b7.add 3) = some (.slice a93 l93 c93) ∧
 ((0 ≤ (x38 : Int) ∧ (x38 : Int) < (l93 : Nat)) ∧
 AddrK a93 fun b94 =>
 (∃ (a95 : Option Addr) (l95 : Nat) (c95 : Nat), w46.cell? (b7.add 3) = some (.slice a95 l95 c95) ∧
 ((0 ≤ (IntKind.wrap .i64 (x38 - 1) : Int) ∧ (IntKind.wrap .i64 (x38 - 1) : Int) < (l95 : Nat)) ∧
 AddrK a95 fun b96 =>
 (∃ (x97 : Int), w46.cell? ((b96.add ((IntKind.wrap .i64 (x38 - 1) : Int).toNat * 2)).add 0) = some (.int .i64 x97) ∧
 (∃ (s98 : ByteArray), w46.cell? ((b96.add ((IntKind.wrap .i64 (x38 - 1) : Int).toNat * 2)).add 1) = some (.string s98) ∧
 (∃ (x99 : Int), w46.cell? ((b94.add ((x38 : Int).toNat * 2)).add 0) = some (.int .i64 x99) ∧
 (∃ (s100 : ByteArray), w46.cell? ((b94.add ((x38 : Int).toNat * 2)).add 1) = some (.string s100) ∧
 (Calls Tryz.prog 90 #[(.agg #[(.int .i64 x97), (.string s98)]), (.agg #[(.int .i64 x99), (.string s100)])] w46 fun e103 w102 =>
 ∃ (p101 : Bool), e103 = .returned (.bool p101) ∧
 (Cel w40 w102 ∧
 (BoolK (!p101)
 (K false w102)
 (∃ (a104 : Option Addr) (l104 : Nat) (c104 : Nat), w102.cell? (b7.add 4) = some (.slice a104 l104 c104) ∧
 ((0 ≤ (x38 : Int) ∧ (x38 : Int) < (l104 : Nat)) ∧
 AddrK a104 fun b105 =>
 ∃ (x106 : Int), w102.cell? (b105.add ((x38 : Int).toNat * 1)) = some (.int .i64 x106) ∧
 (BoolK (decide ((x106 : Int) < 0))
 (K false w102)
 (∃ (a107 : Option Addr) (l107 : Nat) (c107 : Nat), w102.cell? (b7.add 4) = some (.slice a107 l107 c107) ∧
 ((0 ≤ (x38 : Int) ∧ (x38 : Int) < (l107 : Nat)) ∧
 AddrK a107 fun b108 =>
 ∃ (x109 : Int), w102.cell? (b108.add ((x38 : Int).toNat * 1)) = some (.int .i64 x109) ∧
 (BoolK (decide ((x109 : Int) ≥ x6))
 (K false w102)
 (I35 (IntKind.wrap .i64 (x38 + 1)) w102 ∧ μ36 (IntKind.wrap .i64 (x38 + 1)) w102 < μ36 x38 w37)))))))))))))) ∧
 (∃ (x110 : Int), w46.cell? ((b94.add ((x38 : Int).toNat * 2)).add 0) = some (.int .i64 x110) ∧
 (∃ (s111 : ByteArray), w46.cell? ((b94.add ((x38 : Int).toNat * 2)).add 1) = some (.string s111) ∧
 (∃ (x112 : Int), w46.cell? ((b96.add ((IntKind.wrap .i64 (x38 - 1) : Int).toNat * 2)).add 0) = some (.int .i64 x112) ∧
 (∃ (s113 : ByteArray), w46.cell? ((b96.add ((IntKind.wrap .i64 (x38 - 1) : Int).toNat * 2)).add 1) = some (.string s113) ∧
 (Calls Tryz.prog 90 #[(.agg #[(.int .i64 x112), (.string s113)]), (.agg #[(.int .i64 x110), (.string s111)])] w46 fun e116 w115 =>
 ∃ (p114 : Bool), e116 = .returned (.bool p114) ∧
 (Cel w40 w115 ∧
 (BoolK (!p114)
 (K false w115)
 (∃ (a117 : Option Addr) (l117 : Nat) (c117 : Nat), w115.cell? (b7.add 4) = some (.slice a117 l117 c117) ∧
 ((0 ≤ (x38 : Int) ∧ (x38 : Int) < (l117 : Nat)) ∧
 AddrK a117 fun b118 =>
 ∃ (x119 : Int), w115.cell? (b118.add ((x38 : Int).toNat * 1)) = some (.int .i64 x119) ∧
 (BoolK (decide ((x119 : Int) < 0))
 (K false w115)
 (∃ (a120 : Option Addr) (l120 : Nat) (c120 : Nat), w115.cell? (b7.add 4) = some (.slice a120 l120 c120) ∧
 ((0 ≤ (x38 : Int) ∧ (x38 : Int) < (l120 : Nat)) ∧
 AddrK a120 fun b121 =>
 ∃ (x122 : Int), w115.cell? (b121.add ((x38 : Int).toNat * 1)) = some (.int .i64 x122) ∧
 (BoolK (decide ((x122 : Int) ≥ x6))
 (K false w115)
 (I35 (IntKind.wrap .i64 (x38 + 1)) w115 ∧ μ36 (IntKind.wrap .i64 (x38 + 1)) w115 < μ36 x38 w37)))))))))))))))) ∧
 (∃ (x123 : Int), w46.cell? ((b94.add ((x38 : Int).toNat * 2)).add 0) = some (.int .i64 x123) ∧
 (∃ (s124 : ByteArray), w46.cell? ((b94.add ((x38 : Int).toNat * 2)).add 1) = some (.string s124) ∧
 (∃ (a125 : Option Addr) (l125 : Nat) (c125 : Nat), w46.cell? (b7.add 3) = some (.slice a125 l125 c125) ∧
 ((0 ≤ (IntKind.wrap .i64 (x38 - 1) : Int) ∧ (IntKind.wrap .i64 (x38 - 1) : Int) < (l125 : Nat)) ∧
 AddrK a125 fun b126 =>
 ∃ (x127 : Int), w46.cell? ((b126.add ((IntKind.wrap .i64 (x38 - 1) : Int).toNat * 2)).add 0) = some (.int .i64 x127) ∧
 (∃ (s128 : ByteArray), w46.cell? ((b126.add ((IntKind.wrap .i64 (x38 - 1) : Int).toNat * 2)).add 1) = some (.string s128) ∧
 (Calls Tryz.prog 90 #[(.agg #[(.int .i64 x127), (.string s128)]), (.agg #[(.int .i64 x123), (.string s124)])] w46 fun e131 w130 =>
 ∃ (p129 : Bool), e131 = .returned (.bool p129) ∧
 (Cel w40 w130 ∧
 (BoolK (!p129)
 (K false w130)
 (∃ (a132 : Option Addr) (l132 : Nat) (c132 : Nat), w130.cell? (b7.add 4) = some (.slice a132 l132 c132) ∧
 ((0 ≤ (x38 : Int) ∧ (x38 : Int) < (l132 : Nat)) ∧
 AddrK a132 fun b133 =>
 ∃ (x134 : Int), w130.cell? (b133.add ((x38 : Int).toNat * 1)) = some (.int .i64 x134) ∧
 (BoolK (decide ((x134 : Int) < 0))
 (K false w130)
 (∃ (a135 : Option Addr) (l135 : Nat) (c135 : Nat), w130.cell? (b7.add 4) = some (.slice a135 l135 c135) ∧
 ((0 ≤ (x38 : Int) ∧ (x38 : Int) < (l135 : Nat)) ∧
 AddrK a135 fun b136 =>
 ∃ (x137 : Int), w130.cell? (b136.add ((x38 : Int).toNat * 1)) = some (.int .i64 x137) ∧
 (BoolK (decide ((x137 : Int) ≥ x6))
 (K false w130)
 (I35 (IntKind.wrap .i64 (x38 + 1)) w130 ∧ μ36 (IntKind.wrap .i64 (x38 + 1)) w130 < μ36 x38 w37))))))))))))))))))
 (((∃ (a138 : Option Addr) (l138 : Nat) (c138 : Nat), w46.cell? (b7.add 4) = some (.slice a138 l138 c138) ∧
 ((0 ≤ (x38 : Int) ∧ (x38 : Int) < (l138 : Nat)) ∧
 AddrK a138 fun b139 =>
 ∃ (x140 : Int), w46.cell? (b139.add ((x38 : Int).toNat * 1)) = some (.int .i64 x140) ∧
 (BoolK (decide ((x140 : Int) < 0))
 (K false w46)
 (∃ (a141 : Option Addr) (l141 : Nat) (c141 : Nat), w46.cell? (b7.add 4) = some (.slice a141 l141 c141) ∧
 ((0 ≤ (x38 : Int) ∧ (x38 : Int) < (l141 : Nat)) ∧
 AddrK a141 fun b142 =>
 ∃ (x143 : Int), w46.cell? (b142.add ((x38 : Int).toNat * 1)) = some (.int .i64 x143) ∧
 (BoolK (decide ((x143 : Int) ≥ x6))
 (K false w46)
 (I35 (IntKind.wrap .i64 (x38 + 1)) w46 ∧ μ36 (IntKind.wrap .i64 (x38 + 1)) w46 < μ36 x38 w37))))))) ∧
 ((∃ (a144 : Option Addr) (l144 : Nat) (c144 : Nat), w46.cell? (b7.add 4) = some (.slice a144 l144 c144) ∧
 ((0 ≤ (x38 : Int) ∧ (x38 : Int) < (l144 : Nat)) ∧
 AddrK a144 fun b145 =>
 ∃ (x146 : Int), w46.cell? (b145.add ((x38 : Int).toNat * 1)) = some (.int .i64 x146) ∧
 (BoolK (decide ((x146 : Int) < 0))
 (K false w46)
 (∃ (a147 : Option Addr) (l147 : Nat) (c147 : Nat), w46.cell? (b7.add 4) = some (.slice a147 l147 c147) ∧
 ((0 ≤ (x38 : Int) ∧ (x38 : Int) < (l147 : Nat)) ∧
 AddrK a147 fun b148 =>
 ∃ (x149 : Int), w46.cell? (b148.add ((x38 : Int).toNat * 1)) = some (.int .i64 x149) ∧
 (BoolK (decide ((x149 : Int) ≥ x6))
 (K false w46)
 (I35 (IntKind.wrap .i64 (x38 + 1)) w46 ∧ μ36 (IntKind.wrap .i64 (x38 + 1)) w46 < μ36 x38 w37))))))) ∧
 (∃ (a150 : Option Addr) (l150 : Nat) (c150 : Nat), w46.cell? (b7.add 4) = some (.slice a150 l150 c150) ∧
 ((0 ≤ (x38 : Int) ∧ (x38 : Int) < (l150 : Nat)) ∧
 AddrK a150 fun b151 =>
 ∃ (x152 : Int), w46.cell? (b151.add ((x38 : Int).toNat * 1)) = some (.int .i64 x152) ∧
 (BoolK (decide ((x152 : Int) < 0))
 (K false w46)
 (∃ (a153 : Option Addr) (l153 : Nat) (c153 : Nat), w46.cell? (b7.add 4) = some (.slice a153 l153 c153) ∧
 ((0 ≤ (x38 : Int) ∧ (x38 : Int) < (l153 : Nat)) ∧
 AddrK a153 fun b154 =>
 ∃ (x155 : Int), w46.cell? (b154.add ((x38 : Int).toNat * 1)) = some (.int .i64 x155) ∧
 (BoolK (decide ((x155 : Int) ≥ x6))
 (K false w46)
 (I35 (IntKind.wrap .i64 (x38 + 1)) w46 ∧ μ36 (IntKind.wrap .i64 (x38 + 1)) w46 < μ36 x38 w37))))))))) ∧
 (((∃ (a156 : Option Addr) (l156 : Nat) (c156 : Nat), w46.cell? (b7.add 4) = some (.slice a156 l156 c156) ∧
 ((0 ≤ (x38 : Int) ∧ (x38 : Int) < (l156 : Nat)) ∧
 AddrK a156 fun b157 =>
 ∃ (x158 : Int), w46.cell? (b157.add ((x38 : Int).toNat * 1)) = some (.int .i64 x158) ∧
 (BoolK (decide ((x158 : Int) < 0))
 (K false w46)
 (∃ (a159 : Option Addr) (l159 : Nat) (c159 : Nat), w46.cell? (b7.add 4) = some (.slice a159 l159 c159) ∧
 ((0 ≤ (x38 : Int) ∧ (x38 : Int) < (l159 : Nat)) ∧
 AddrK a159 fun b160 =>
 ∃ (x161 : Int), w46.cell? (b160.add ((x38 : Int).toNat * 1)) = some (.int .i64 x161) ∧
 (BoolK (decide ((x161 : Int) ≥ x6))
 (K false w46)
 (I35 (IntKind.wrap .i64 (x38 + 1)) w46 ∧ μ36 (IntKind.wrap .i64 (x38 + 1)) w46 < μ36 x38 w37))))))) ∧
 (∃ (a162 : Option Addr) (l162 : Nat) (c162 : Nat), w46.cell? (b7.add 4) = some (.slice a162 l162 c162) ∧
 ((0 ≤ (x38 : Int) ∧ (x38 : Int) < (l162 : Nat)) ∧
 AddrK a162 fun b163 =>
 ∃ (x164 : Int), w46.cell? (b163.add ((x38 : Int).toNat * 1)) = some (.int .i64 x164) ∧
 (BoolK (decide ((x164 : Int) < 0))
 (K false w46)
 (∃ (a165 : Option Addr) (l165 : Nat) (c165 : Nat), w46.cell? (b7.add 4) = some (.slice a165 l165 c165) ∧
 ((0 ≤ (x38 : Int) ∧ (x38 : Int) < (l165 : Nat)) ∧
 AddrK a165 fun b166 =>
 ∃ (x167 : Int), w46.cell? (b166.add ((x38 : Int).toNat * 1)) = some (.int .i64 x167) ∧
 (BoolK (decide ((x167 : Int) ≥ x6))
 (K false w46)
 (I35 (IntKind.wrap .i64 (x38 + 1)) w46 ∧ μ36 (IntKind.wrap .i64 (x38 + 1)) w46 < μ36 x38 w37)))))))) ∧
 (∃ (a168 : Option Addr) (l168 : Nat) (c168 : Nat), w46.cell? (b7.add 4) = some (.slice a168 l168 c168) ∧
 ((0 ≤ (x38 : Int) ∧ (x38 : Int) < (l168 : Nat)) ∧
 AddrK a168 fun b169 =>
 ∃ (x170 : Int), w46.cell? (b169.add ((x38 : Int).toNat * 1)) = some (.int .i64 x170) ∧
 (BoolK (decide ((x170 : Int) < 0))
 (K false w46)
 (∃ (a171 : Option Addr) (l171 : Nat) (c171 : Nat), w46.cell? (b7.add 4) = some (.slice a171 l171 c171) ∧
 ((0 ≤ (x38 : Int) ∧ (x38 : Int) < (l171 : Nat)) ∧
 AddrK a171 fun b172 =>
 ∃ (x173 : Int), w46.cell? (b172.add ((x38 : Int).toNat * 1)) = some (.int .i64 x173) ∧
 (BoolK (decide ((x173 : Int) ≥ x6))
 (K false w46)
 (I35 (IntKind.wrap .i64 (x38 + 1)) w46 ∧ μ36 (IntKind.wrap .i64 (x38 + 1)) w46 < μ36 x38 w37))))))))))))))))
 (K true w37)))))))))))
 (K false w8)))))
def ann56 : Ann := (.two .nil (.two (.two .nil (.one (.two .nil (.two (.two .nil .nil) (.two .nil (.two (.two .nil .nil) (.two .nil (.two (.two .nil .nil) (.two .nil (.two (.two (.two .nil (.two (.two .nil .nil) .nil)) (.two (.two .nil (.one (.loop [(5, (.one (.int .i64)))] [1, 2] (.two (.two .nil (.two .nil .nil)) (.two (.one (.two (.anyC 43 (.take 0 (.take 1 (.take 2 (.take 3 (.take 4 (.one 5 (.take 6 (.take 7 (.take 8 (.take 9 (.take 10 (.take 11 (.take 13 (.take 14 (.take 17 (.take 19 (.both 12 (.take 15 (.both 16 (.one 18 (.take 20 (.one 21 (.one 22 (.take 23 (.take 24 (.take 25 (.take 26 (.take 27 (.take 29 (.one 28 (.take 30 (.one 31 (.take 32 (.take 33 (.take 34 (.take 35 (.take 37 (.take 40 (.one 36 (.take 38 (.one 39 (.take 41 (.take 42 .done)))))))))))))))))))))))) (.one 18 (.take 20 (.both 16 (.one 21 (.one 22 (.take 23 (.take 24 (.take 25 (.take 26 (.take 27 (.take 29 (.one 28 (.take 30 (.one 31 (.take 32 (.take 33 (.take 34 (.take 35 (.take 37 (.take 40 (.one 36 (.take 38 (.one 39 (.take 41 (.take 42 .done)))))))))))))))))))))) (.one 21 (.one 16 (.one 22 (.take 23 (.take 24 (.take 25 (.take 26 (.take 27 (.take 29 (.one 28 (.take 30 (.one 31 (.take 32 (.take 33 (.take 34 (.take 35 (.take 37 (.take 40 (.one 36 (.take 38 (.one 39 (.take 41 (.take 42 .done)))))))))))))))))))))))))))) (.one 18 (.take 20 (.both 12 (.take 15 (.both 16 (.one 21 (.one 22 (.take 23 (.take 24 (.take 25 (.take 26 (.take 27 (.take 29 (.one 28 (.take 30 (.one 31 (.take 32 (.take 33 (.take 34 (.take 35 (.take 37 (.take 40 (.one 36 (.take 38 (.one 39 (.take 41 (.take 42 .done)))))))))))))))))))))) (.one 21 (.one 16 (.one 22 (.take 23 (.take 24 (.take 25 (.take 26 (.take 27 (.take 29 (.one 28 (.take 30 (.one 31 (.take 32 (.take 33 (.take 34 (.take 35 (.take 37 (.take 40 (.one 36 (.take 38 (.one 39 (.take 41 (.take 42 .done))))))))))))))))))))))))) (.one 21 (.one 12 (.take 15 (.one 16 (.one 22 (.take 23 (.take 24 (.take 25 (.take 26 (.take 27 (.take 29 (.one 28 (.take 30 (.one 31 (.take 32 (.take 33 (.take 34 (.take 35 (.take 37 (.take 40 (.one 36 (.take 38 (.one 39 (.take 41 (.take 42 .done)))))))))))))))))))))))))))))))))))))))))))))) (.two (.two .nil .nil) .nil))) .nil))))) (.two .nil .nil))) .nil)))))))))) (.two .nil .nil)))
noncomputable def code56 : Code := match Tryz.f56.body with | some c => c | none => .skip
theorem wp56 (s1 : ByteArray) (x2 : Int) (s3 : ByteArray) (a4 : Option Addr) (l4 : Nat) (c4 : Nat) (a5 : Option Addr) (l5 : Nat) (c5 : Nat) (x6 : Int) (K : Bool → World → Prop) (w : World) : WP Tryz.prog tab code56 ann56 (fnQ tab Tryz.f56.results.toList [(.one .bool)] K) (argE 0 [(.agg #[(.string s1), (.int .i64 x2), (.string s3), (.slice a4 l4 c4), (.slice a5 l5 c5)]), (.int .i64 x6)]) w = N56 s1 x2 s3 a4 l4 c4 a5 l5 c5 x6 K w := by kernel_rfl
theorem calls56 (s1 : ByteArray) (x2 : Int) (s3 : ByteArray) (a4 : Option Addr) (l4 : Nat) (c4 : Nat) (a5 : Option Addr) (l5 : Nat) (c5 : Nat) (x6 : Int) (K : Bool → World → Prop) (w : World) (h : N56 s1 x2 s3 a4 l4 c4 a5 l5 c5 x6 K w) : Calls Tryz.prog 56 #[(.agg #[(.string s1), (.int .i64 x2), (.string s3), (.slice a4 l4 c4), (.slice a5 l5 c5)]), (.int .i64 x6)] w fun en w' => ∃ (p174 : Bool), en = .returned (.bool p174) ∧ K p174 w' :=
 have e : (fun en w' => ExShs [(.one .bool)] fun vs => en = .returned (tupled vs) ∧ ap [(.one .bool)] K vs fun p => p w') = (fun (en : Ending) (w' : World) => ∃ (p174 : Bool), en = .returned (.bool p174) ∧ K p174 w') := by kernel_rfl
 e ▸ fn_sound tabOk mixed Tryz.func56 (by kernel_rfl : Tryz.f56.body = some code56) ann56 [(.agg #[(.string s1), (.int .i64 x2), (.string s3), (.slice a4 l4 c4), (.slice a5 l5 c5)]), (.int .i64 x6)] [(.one .bool)] K w (by kernel_rfl) ((wp56 s1 x2 s3 a4 l4 c4 a5 l5 c5 x6 K w).symm ▸ h)
end Go.Proofs.YtbiamhoonhjodaaGreatDoor

namespace Go.Proofs.YtbiamhoonhjodaaGreatDoor
open Go Go.V Go.Proofs
open Go.RowKit (Below)
/-! manystrand/manystrandref05.ValidBut -/
def N30 (x1 : Int) (a2 : Option Addr) (l2 : Nat) (c2 : Nat) (x3 : Int) (K : Bool → World → Prop) (w : World) : Prop :=
 AllocK w (#[(.int .i64 x1), (.slice a2 l2 c2)]) 24 fun b4 w5 =>
 ∃ (a6 : Option Addr) (l6 : Nat) (c6 : Nat), w5.cell? (b4.add 1) = some (.slice a6 l6 c6) ∧
 (BoolK (decide (((l6 : Nat) : Int) > x3))
 (K false w5)
 (∃ (x7 : Int), w5.cell? b4 = some (.int .i64 x7) ∧
 (BoolK (decide ((x7 : Int) < 0))
 (K false w5)
 (∃ (x8 : Int), w5.cell? b4 = some (.int .i64 x8) ∧
 (∃ (a9 : Option Addr) (l9 : Nat) (c9 : Nat), w5.cell? (b4.add 1) = some (.slice a9 l9 c9) ∧
 (BoolK (decide ((x8 : Int) ≥ (l9 : Nat)))
 (K false w5)
 (∃ (I10 : Int → World → Prop) (μ11 : Int → World → Nat),
 (I10 0 w5 ∧ True) ∧
 ∀ (w12 : World) (x13 : Int), I10 x13 w12 →
 ∃ (a14 : Option Addr) (l14 : Nat) (c14 : Nat), w12.cell? (b4.add 1) = some (.slice a14 l14 c14) ∧
 (BoolK (decide ((x13 : Int) < (l14 : Nat)))
 (DrewK w12 fun w15 =>
 ∃ (a16 : Option Addr) (l16 : Nat) (c16 : Nat), w15.cell? (b4.add 1) = some (.slice a16 l16 c16) ∧
 ((0 ≤ (x13 : Int) ∧ (x13 : Int) < (l16 : Nat)) ∧
 AddrK a16 fun b17 =>
 ∃ (s18 : ByteArray), w15.cell? ((b17.add ((x13 : Int).toNat * 5)).add 0) = some (.string s18) ∧
 (∃ (x19 : Int), w15.cell? ((b17.add ((x13 : Int).toNat * 5)).add 1) = some (.int .i64 x19) ∧
 (∃ (s20 : ByteArray), w15.cell? ((b17.add ((x13 : Int).toNat * 5)).add 2) = some (.string s20) ∧
 (∃ (a21 : Option Addr) (l21 : Nat) (c21 : Nat), w15.cell? ((b17.add ((x13 : Int).toNat * 5)).add 3) = some (.slice a21 l21 c21) ∧
 (∃ (a22 : Option Addr) (l22 : Nat) (c22 : Nat), w15.cell? ((b17.add ((x13 : Int).toNat * 5)).add 4) = some (.slice a22 l22 c22) ∧
 (∃ (a23 : Option Addr) (l23 : Nat) (c23 : Nat), w15.cell? (b4.add 1) = some (.slice a23 l23 c23) ∧
 (Calls Tryz.prog 56 #[(.agg #[(.string s18), (.int .i64 x19), (.string s20), (.slice a21 l21 c21), (.slice a22 l22 c22)]), (.int .i64 (l23 : Nat))] w15 fun e26 w25 =>
 ∃ (p24 : Bool), e26 = .returned (.bool p24) ∧
 (BoolK (!p24)
 (K false w25)
 (I10 (IntKind.wrap .i64 (x13 + 1)) w25 ∧ μ11 (IntKind.wrap .i64 (x13 + 1)) w25 < μ11 x13 w12))))))))))
 (K true w12)))))))))
def ann30 : Ann := (.two .nil (.two (.two .nil (.two (.two .nil .nil) .nil)) (.two (.two .nil (.one (.loop [(5, (.one (.int .i64)))] [2] (.two (.two .nil (.two .nil .nil)) (.two (.one (.two (.anyC 8 (.take 0 (.take 1 (.take 2 (.take 3 (.take 4 (.take 5 (.take 6 (.take 7 .done))))))))) (.two (.two .nil .nil) .nil))) .nil))))) (.two .nil .nil))))
noncomputable def code30 : Code := match Tryz.f30.body with | some c => c | none => .skip
theorem wp30 (x1 : Int) (a2 : Option Addr) (l2 : Nat) (c2 : Nat) (x3 : Int) (K : Bool → World → Prop) (w : World) : WP Tryz.prog tab code30 ann30 (fnQ tab Tryz.f30.results.toList [(.one .bool)] K) (argE 0 [(.agg #[(.int .i64 x1), (.slice a2 l2 c2)]), (.int .i64 x3)]) w = N30 x1 a2 l2 c2 x3 K w := by kernel_rfl
theorem calls30 (x1 : Int) (a2 : Option Addr) (l2 : Nat) (c2 : Nat) (x3 : Int) (K : Bool → World → Prop) (w : World) (h : N30 x1 a2 l2 c2 x3 K w) : Calls Tryz.prog 30 #[(.agg #[(.int .i64 x1), (.slice a2 l2 c2)]), (.int .i64 x3)] w fun en w' => ∃ (p27 : Bool), en = .returned (.bool p27) ∧ K p27 w' :=
 have e : (fun en w' => ExShs [(.one .bool)] fun vs => en = .returned (tupled vs) ∧ ap [(.one .bool)] K vs fun p => p w') = (fun (en : Ending) (w' : World) => ∃ (p27 : Bool), en = .returned (.bool p27) ∧ K p27 w') := by kernel_rfl
 e ▸ fn_sound tabOk mixed Tryz.func30 (by kernel_rfl : Tryz.f30.body = some code30) ann30 [(.agg #[(.int .i64 x1), (.slice a2 l2 c2)]), (.int .i64 x3)] [(.one .bool)] K w (by kernel_rfl) ((wp30 x1 a2 l2 c2 x3 K w).symm ▸ h)
end Go.Proofs.YtbiamhoonhjodaaGreatDoor

namespace Go.Proofs.YtbiamhoonhjodaaGreatDoor
open Go Go.V Go.Proofs
open Go.RowKit (Below)
/-! manystrand/manystrandref05.Valid -/
def N15 (x1 : Int) (a2 : Option Addr) (l2 : Nat) (c2 : Nat) (K : Bool → World → Prop) (w : World) : Prop :=
 AllocK w (#[(.int .i64 x1), (.slice a2 l2 c2)]) 24 fun b3 w4 =>
 ∃ (x5 : Int), w4.cell? (b3.add 0) = some (.int .i64 x5) ∧
 (∃ (a6 : Option Addr) (l6 : Nat) (c6 : Nat), w4.cell? (b3.add 1) = some (.slice a6 l6 c6) ∧
 (Calls Tryz.prog 30 #[(.agg #[(.int .i64 x5), (.slice a6 l6 c6)]), (.int .i64 1000)] w4 fun e9 w8 =>
 ∃ (p7 : Bool), e9 = .returned (.bool p7) ∧
 (K p7 w8)))
def ann15 : Ann := (.two .nil (.two .nil .nil))
noncomputable def code15 : Code := match Tryz.f15.body with | some c => c | none => .skip
theorem wp15 (x1 : Int) (a2 : Option Addr) (l2 : Nat) (c2 : Nat) (K : Bool → World → Prop) (w : World) : WP Tryz.prog tab code15 ann15 (fnQ tab Tryz.f15.results.toList [(.one .bool)] K) (argE 0 [(.agg #[(.int .i64 x1), (.slice a2 l2 c2)])]) w = N15 x1 a2 l2 c2 K w := by kernel_rfl
theorem calls15 (x1 : Int) (a2 : Option Addr) (l2 : Nat) (c2 : Nat) (K : Bool → World → Prop) (w : World) (h : N15 x1 a2 l2 c2 K w) : Calls Tryz.prog 15 #[(.agg #[(.int .i64 x1), (.slice a2 l2 c2)])] w fun en w' => ∃ (p10 : Bool), en = .returned (.bool p10) ∧ K p10 w' :=
 have e : (fun en w' => ExShs [(.one .bool)] fun vs => en = .returned (tupled vs) ∧ ap [(.one .bool)] K vs fun p => p w') = (fun (en : Ending) (w' : World) => ∃ (p10 : Bool), en = .returned (.bool p10) ∧ K p10 w') := by kernel_rfl
 e ▸ fn_sound tabOk mixed Tryz.func15 (by kernel_rfl : Tryz.f15.body = some code15) ann15 [(.agg #[(.int .i64 x1), (.slice a2 l2 c2)])] [(.one .bool)] K w (by kernel_rfl) ((wp15 x1 a2 l2 c2 K w).symm ▸ h)
end Go.Proofs.YtbiamhoonhjodaaGreatDoor

namespace Go.Proofs.YtbiamhoonhjodaaGreatDoor
open Go Go.V Go.Proofs Go.V.Gr
open Go.RowKit (Below)
theorem cellK {w : World} {p : Addr} {v : Value} (h : w.cell? p = some v) : w.cell? p = some v := h
set_option maxRecDepth 100000 in
theorem c56 (w : World) (x : Nd) (n : Int) {a4 a5 : Option Addr} {l4 l5 : Nat} (c4 c5 : Nat) (htx : x.tx.size ≤ 1000000000000) (hfs : RL 2 RFt w a4 l4 x.fs) (hks : RL 1 RInt w a5 l5 x.ks) :
    Calls Tryz.prog 56 #[.agg #[.string x.kd, .int .i64 x.n, .string x.tx, .slice a4 l4 c4, .slice a5 l5 c5], .int .i64 n] w fun en w' => ∃ p, en = .returned (.bool p) ∧ ((p = true ↔ NdOk x n) ∧ Ext w w') := by
  refine calls56 _ _ _ _ _ _ _ _ _ _ _ w ?_
  have e4 := hfs.len; have e5 := hks.len; have m4 := hfs.2; have m5 := hks.2
  simp only [maxLen] at m4 m5
  have no : ∀ {P : Prop}, ¬ P → (false = true ↔ P) := fun h => ⟨fun e => (by cases e), fun e => absurd e h⟩
  refine AllocK.mk fun b w8 hb hB hx => ?_
  have g0 : ∀ {w' : World}, Ext w8 w' → w'.cell? (⟨b, 0, none⟩ : Addr) = some (.string x.kd) := fun k => by rw [(hB.ext k).cell]; rfl
  have g1 : ∀ {w' : World}, Ext w8 w' → w'.cell? ((⟨b, 0, none⟩ : Addr).add 1) = some (.int .i64 x.n) := fun k => by rw [add_mk, (hB.ext k).cell]; rfl
  have g2 : ∀ {w' : World}, Ext w8 w' → w'.cell? ((⟨b, 0, none⟩ : Addr).add 2) = some (.string x.tx) := fun k => by rw [add_mk, (hB.ext k).cell]; rfl
  have g3 : ∀ {w' : World}, Ext w8 w' → w'.cell? ((⟨b, 0, none⟩ : Addr).add 3) = some (.slice a4 l4 c4) := fun k => by rw [add_mk, (hB.ext k).cell]; rfl
  have g4 : ∀ {w' : World}, Ext w8 w' → w'.cell? ((⟨b, 0, none⟩ : Addr).add 4) = some (.slice a5 l5 c5) := fun k => by rw [add_mk, (hB.ext k).cell]; rfl
  have r8 := Ext.refl w8
  refine ⟨_, g0 r8, BoolK.mk (fun t => ?_) (fun n1 => BoolK.mk (fun t => ?_) (fun n2 => BoolK.mk (fun t => ?_) (fun n3 => BoolK.mk (fun t => ?_) (fun n4 => ?_))))⟩
  · rw [NdOk.int_iff (tl_iff.1 t)]
    refine ⟨_, g1 r8, BoolK.mk (fun t1 => ⟨_, g1 r8, BoolK.mk (fun t2 => ⟨_, g2 r8, BoolK.mk (fun t3 => ⟨_, _, _, g3 r8, BoolK.mk (fun t4 => ⟨_, _, _, g4 r8, ?_, hx⟩) (fun t4 => ⟨no fun h => ?_, hx⟩)⟩) (fun t3 => ⟨no fun h => ?_, hx⟩)⟩) (fun t2 => ⟨no fun h => ?_, hx⟩)⟩) (fun t1 => ⟨no fun h => ?_, hx⟩)⟩
    · have t1 := of_decide_eq_true t1; have t2 := of_decide_eq_true t2
      rw [len0 e5]; exact ⟨fun h => ⟨tl_iff.1 t3, (len0 e4).1 t4, h, t1, t2⟩, fun h => h.2.2.1⟩
    · rw [(len0 e4).2 h.2.1] at t4; cases t4
    · rw [tl_iff.2 h.1] at t3; cases t3
    · have := of_decide_eq_false t2; omega
    · have := of_decide_eq_false t1; omega
  · rw [NdOk.var_iff (tl_iff.1 t)]
    refine ⟨_, g1 r8, BoolK.mk (fun t1 => ⟨_, g1 r8, BoolK.mk (fun t2 => ⟨_, g2 r8, BoolK.mk (fun t3 => ⟨_, _, _, g3 r8, BoolK.mk (fun t4 => ⟨_, _, _, g4 r8, ?_, hx⟩) (fun t4 => ⟨no fun h => ?_, hx⟩)⟩) (fun t3 => ⟨no fun h => ?_, hx⟩)⟩) (fun t2 => ⟨no fun h => ?_, hx⟩)⟩) (fun t1 => ⟨no fun h => ?_, hx⟩)⟩
    · have t1 := of_decide_eq_true t1; have t2 := of_decide_eq_true t2
      rw [len0 e5]; exact ⟨fun h => ⟨tl_iff.1 t3, (len0 e4).1 t4, h, t1, t2⟩, fun h => h.2.2.1⟩
    · rw [(len0 e4).2 h.2.1] at t4; cases t4
    · rw [tl_iff.2 h.1] at t3; cases t3
    · have := of_decide_eq_false t2; omega
    · have := of_decide_eq_false t1; omega
  · rw [NdOk.ref_iff (tl_iff.1 t)]
    refine ⟨_, g1 r8, BoolK.mk (fun t1 => ⟨_, g1 r8, BoolK.mk (fun t2 => ⟨_, g2 r8, ?_⟩) (fun t2 => ⟨no fun h => ?_, hx⟩)⟩) (fun t1 => ⟨no fun h => ?_, hx⟩)⟩
    · have t1 := of_decide_eq_true t1; have t2 := of_decide_eq_true t2
      refine (c87 w8 x.tx htx).mono ?_
      rintro en w24 ⟨p, rfl, rfl, rfl⟩
      refine ⟨_, rfl, BoolK.mk (fun t3 => ⟨_, _, _, g3 r8, BoolK.mk (fun t4 => ⟨_, _, _, g4 r8, ?_, hx⟩) (fun t4 => ⟨no fun h => ?_, hx⟩)⟩) (fun t3 => ⟨no fun h => ?_, hx⟩)⟩
      · rw [len0 e5]; exact ⟨fun h => ⟨t3, (len0 e4).1 t4, h, t1, t2⟩, fun h => h.2.2.1⟩
      · rw [(len0 e4).2 h.2.1] at t4; cases t4
      · rw [h.1] at t3; cases t3
    · have := of_decide_eq_false t2; omega
    · have := of_decide_eq_false t1; omega
  · rw [NdOk.rec_iff (tl_iff.1 t)]
    refine ⟨_, g1 r8, BoolK.mk (fun t1 => ⟨no fun h => (by rw [h.1] at t1; cases t1), hx⟩) (fun t1 => ?_)⟩
    have t1 : x.n = 0 := by simpa using t1
    refine ⟨_, g2 r8, (c88 w8 x.tx (by simp only [maxLen]; omega)).mono ?_⟩
    rintro en w31 ⟨p, rfl, rfl, x31⟩
    have y31 := hx.trans x31
    refine ⟨_, rfl, BoolK.mk (fun t2 => ⟨no fun h => (by rw [h.2.1] at t2; cases t2), y31⟩) (fun t2 => ?_)⟩
    rw [Bool.not_eq_false'] at t2
    refine ⟨_, _, _, g3 x31, _, _, _, g4 x31, BoolK.mk (fun t3 => ⟨no fun h => (by rw [← e4, ← e5] at h; have := h.2.2.1; simp [this] at t3), y31⟩) (fun t3 => ?_)⟩
    have t3 : x.ks.length = x.fs.length := by rw [← e4, ← e5]; simp at t3; omega
    refine ⟨fun i w' => ∃ k : Nat, i = k ∧ k ≤ x.fs.length ∧ Ext w31 w' ∧ (∀ (i : Nat) (f : Ft), i < k → x.fs[i]? = some f → featD f = true ∧ ∀ g, 0 < i → x.fs[i - 1]? = some g → lessD g f = true) ∧ ∀ (i : Nat) (f : Int), i < k → x.ks[i]? = some f → 0 ≤ f ∧ f < n, fun i _ => x.fs.length - i.toNat, ⟨⟨0, rfl, by omega, Ext.refl _, fun i f hi => by omega, fun i f hi => by omega⟩, trivial⟩, ?_⟩
    rintro w37 _ ⟨k, rfl, hk, x37, hall, hall2⟩
    have z37 := x31.trans x37
    refine ⟨_, _, _, g3 z37, BoolK.mk (fun t4 => ?_) (fun t4 => ?_)⟩
    · have hlt : k < x.fs.length := by have := of_decide_eq_true t4; omega
      have hltk : k < x.ks.length := by omega
      refine DrewK.mk fun w40 x40 => ?_
      have z40 := z37.trans x40
      obtain ⟨b1, ha, q0, q1, q2⟩ := ftAt (hfs.ext RFt.mono hx) z40 hlt
      refine ⟨_, _, _, g3 z40, ⟨by omega, by omega⟩, adK ha ⟨_, q0, _, q1, ?_⟩⟩
      refine (c89 w40 x.fs[k] q2).mono ?_
      rintro en w46 ⟨p, rfl, rfl, x46⟩
      have z46 := z40.trans x46
      have y46 := hx.trans z46
      have cel : Cel w40 w46 := Below.cel x46
      refine ⟨_, rfl, cel, BoolK.mk (fun t5 => ?_) (fun t5 => ?_)⟩
      · have : ¬ featsOk x.fs := fun h => by have := (h k _ (List.getElem?_eq_getElem hlt)).1; rw [this] at t5; cases t5
        have := And.intro (no (P := x.n = 0 ∧ atomD x.tx = true ∧ x.ks.length = x.fs.length ∧ featsOk x.fs ∧ ∀ k ∈ x.ks, 0 ≤ k ∧ k < n) fun h => this h.2.2.2.1) y46
        exact ⟨⟨this, this, this⟩, ⟨this, this⟩, this⟩
      · rw [Bool.not_eq_false'] at t5
        have tail : ∀ w' : World, Ext w46 w' → (∀ g, 0 < k → x.fs[k - 1]? = some g → lessD g x.fs[k] = true) →
            ∃ (a59 : Option Addr) (l59 : Nat) (c59 : Nat), w'.cell? ((⟨b, 0, none⟩ : Addr).add 4) = some (.slice a59 l59 c59) ∧
              ((0 ≤ ((k : Nat) : Int) ∧ ((k : Nat) : Int) < (l59 : Nat)) ∧ AddrK a59 fun b60 => ∃ (x61 : Int), w'.cell? (b60.add (((k : Nat) : Int).toNat * 1)) = some (.int .i64 x61) ∧
                (BoolK (decide ((x61 : Int) < 0)) ((false = true ↔ (x.n = 0 ∧ atomD x.tx = true ∧ x.ks.length = x.fs.length ∧ featsOk x.fs ∧ ∀ k ∈ x.ks, 0 ≤ k ∧ k < n)) ∧ Ext w w')
                  (∃ (a62 : Option Addr) (l62 : Nat) (c62 : Nat), w'.cell? ((⟨b, 0, none⟩ : Addr).add 4) = some (.slice a62 l62 c62) ∧
                    ((0 ≤ ((k : Nat) : Int) ∧ ((k : Nat) : Int) < (l62 : Nat)) ∧ AddrK a62 fun b63 => ∃ (x64 : Int), w'.cell? (b63.add (((k : Nat) : Int).toNat * 1)) = some (.int .i64 x64) ∧
                      (BoolK (decide ((x64 : Int) ≥ n)) ((false = true ↔ (x.n = 0 ∧ atomD x.tx = true ∧ x.ks.length = x.fs.length ∧ featsOk x.fs ∧ ∀ k ∈ x.ks, 0 ≤ k ∧ k < n)) ∧ Ext w w')
                        ((∃ k' : Nat, IntKind.wrap .i64 ((k : Int) + 1) = (k' : Int) ∧ k' ≤ x.fs.length ∧ Ext w31 w' ∧ (∀ (i : Nat) (f : Ft), i < k' → x.fs[i]? = some f → featD f = true ∧ ∀ g, 0 < i → x.fs[i - 1]? = some g → lessD g f = true) ∧ ∀ (i : Nat) (f : Int), i < k' → x.ks[i]? = some f → 0 ≤ f ∧ f < n) ∧
                          x.fs.length - (IntKind.wrap .i64 ((k : Int) + 1)).toNat < x.fs.length - ((k : Nat) : Int).toNat)))))) := by
          intro w' x' hless
          have z' := z46.trans x'
          have y' := y46.trans x'
          obtain ⟨b2, hb2, k0⟩ := ksAt (hks.ext RInt.mono hx) z' hltk
          refine ⟨_, _, _, g4 z', ⟨by omega, by omega⟩, adK hb2 ⟨_, k0, BoolK.mk (fun t6 => ⟨no fun h => ?_, y'⟩) (fun t6 => ⟨_, _, _, g4 z', ⟨by omega, by omega⟩, adK hb2 ⟨_, k0, BoolK.mk (fun t7 => ⟨no fun h => ?_, y'⟩) (fun t7 => ?_)⟩⟩)⟩⟩
          · have t6 := of_decide_eq_true t6
            have := h.2.2.2.2 _ (List.getElem_mem hltk); omega
          · have t7 := of_decide_eq_true t7
            have := h.2.2.2.2 _ (List.getElem_mem hltk); omega
          · have t6 := of_decide_eq_false t6; have t7 := of_decide_eq_false t7
            rw [wrap_succ (by omega)]
            refine ⟨⟨k + 1, rfl, by omega, ((x37.trans x40).trans x46).trans x', fun i f hi hf => ?_, fun i f hi hf => ?_⟩, by simp; omega⟩
            · rcases Nat.lt_or_ge i k with h | h
              · exact hall i f h hf
              · have : i = k := by omega
                subst this
                rw [List.getElem?_eq_getElem hlt] at hf; cases hf
                exact ⟨t5, hless⟩
            · rcases Nat.lt_or_ge i k with h | h
              · exact hall2 i f h hf
              · have : i = k := by omega
                subst this
                rw [List.getElem?_eq_getElem hltk] at hf; cases hf
                omega
        refine BoolK.mk (fun t6 => ?_) (fun t6 => ?_)
        · have t6 : 0 < k := by have := of_decide_eq_true t6; omega
          rw [wrap_pred t6 (by omega)]
          have hlt' : k - 1 < x.fs.length := by omega
          obtain ⟨b2, ha2, r0, r1, _⟩ := ftAt (hfs.ext RFt.mono hx) z46 hlt'
          obtain ⟨b1', ha1, q0, q1, _⟩ := ftAt (hfs.ext RFt.mono hx) z46 hlt
          have hless := fun (w' : World) (x' : Ext w46 w') (h : lessD x.fs[k - 1] x.fs[k] = true) => tail w' x' fun g _ hg => (by rw [List.getElem?_eq_getElem hlt'] at hg; cases hg; exact h)
          have nless : lessD x.fs[k - 1] x.fs[k] = false → ∀ w', Ext w46 w' → ((false = true ↔ (x.n = 0 ∧ atomD x.tx = true ∧ x.ks.length = x.fs.length ∧ featsOk x.fs ∧ ∀ k ∈ x.ks, 0 ≤ k ∧ k < n)) ∧ Ext w w') := fun h7 w' x' =>
            ⟨no fun h => (by have := (h.2.2.2.1 k _ (List.getElem?_eq_getElem hlt)).2 _ t6 (List.getElem?_eq_getElem hlt'); rw [this] at h7; cases h7), y46.trans x'⟩
          have less := c90 w46 x.fs[k - 1] x.fs[k]
          have i1 : 0 ≤ ((k - 1 : Nat) : Int) ∧ ((k - 1 : Nat) : Int) < (l4 : Nat) := by omega
          have i2 : 0 ≤ ((k : Nat) : Int) ∧ ((k : Nat) : Int) < (l4 : Nat) := by omega
          have G3 := g3 z46
          refine ⟨⟨_, _, _, G3, i1, adK ha2 ⟨⟨_, r0, _, r1, _, _, _, G3, i2, adK ha1 ⟨_, q0, _, q1, less.mono ?_⟩⟩, _, _, _, G3, i2, adK ha1 ⟨⟨_, r0, _, r1, _, q0, _, q1, less.mono ?_⟩, _, q0, _, q1, _, r0, _, r1, less.mono ?_⟩⟩⟩,
            ⟨_, _, _, G3, i2, adK ha1 ⟨⟨_, _, _, G3, i1, adK ha2 ⟨⟨_, r0, _, r1, _, q0, _, q1, less.mono ?_⟩, _, q0, _, q1, _, r0, _, r1, less.mono ?_⟩⟩, _, q0, _, q1, _, _, _, G3, i1, adK ha2 ⟨_, r0, _, r1, less.mono ?_⟩⟩⟩⟩
          all_goals
            rintro en w57 ⟨p, rfl, rfl, x57⟩
            exact ⟨_, rfl, Below.cel (x46.trans x57), BoolK.mk (fun t7 => nless (by simpa using t7) _ x57) (fun t7 => hless _ x57 (by simpa using t7))⟩
        · have t6 : ¬ 0 < k := by have := of_decide_eq_false t6; omega
          have := tail w46 (Ext.refl _) fun g hg => absurd hg t6
          exact ⟨⟨this, this, this⟩, ⟨this, this⟩, this⟩
    · have : k = x.fs.length := by have := of_decide_eq_false t4; omega
      subst this
      refine ⟨⟨fun _ => ⟨t1, t2, t3, fun i f hf => hall i f (List.getElem?_eq_some_iff.1 hf).1 hf, fun q hq => ?_⟩, fun _ => rfl⟩, hx.trans z37⟩
      obtain ⟨i, hi⟩ := List.getElem?_of_mem hq
      exact hall2 i q (by rw [← t3]; exact (List.getElem?_eq_some_iff.1 hi).1) hi
  · exact ⟨⟨fun h => (by cases h), fun h => absurd h (NdOk.other (tl_no n1) (tl_no n2) (tl_no n3) (tl_no n4))⟩, hx⟩
theorem c30 (w : World) (root : Int) (xs : List Nd) {a : Option Addr} {l : Nat} (c : Nat) (h : RNds w a l xs) (hl : LimT xs) (most : Nat) :
    Calls Tryz.prog 30 #[.agg #[.int .i64 root, .slice a l c], .int .i64 (most : Int)] w fun en w' => ∃ p, en = .returned (.bool p) ∧ ((p = true ↔ GrOk root xs most) ∧ Ext w w') := by
  refine calls30 _ _ _ _ _ _ w ?_
  have hl' := h.len; have hm := h.2
  simp only [maxLen] at hm
  have no : ∀ {P : Prop}, ¬ P → (false = true ↔ P) := fun h => ⟨fun e => (by cases e), fun e => absurd e h⟩
  refine AllocK.mk fun b w4 hb hB hx => ?_
  have g0 : w4.cell? (⟨b, 0, none⟩ : Addr) = some (.int .i64 root) := by rw [hB.cell]; rfl
  have g1 : ∀ {w' : World}, Ext w4 w' → w'.cell? ((⟨b, 0, none⟩ : Addr).add 1) = some (.slice a l c) := fun k => by rw [add_mk, (hB.ext k).cell]; rfl
  have r4 := Ext.refl w4
  refine ⟨_, _, _, g1 r4, BoolK.mk (fun t => ⟨no fun k => ?_, hx⟩) (fun t1 => ⟨_, g0, BoolK.mk (fun t => ⟨no fun k => ?_, hx⟩) (fun t2 => ⟨_, g0, _, _, _, g1 r4, BoolK.mk (fun t => ⟨no fun k => ?_, hx⟩) (fun t3 => ?_)⟩)⟩)⟩
  · have := of_decide_eq_true t; have := k.most; omega
  · have := of_decide_eq_true t; have := k.root; omega
  · have := of_decide_eq_true t; have := k.root; omega
  have t1 := of_decide_eq_false t1; have t2 := of_decide_eq_false t2; have t3 := of_decide_eq_false t3
  refine ⟨fun i w' => ∃ k : Nat, i = k ∧ k ≤ xs.length ∧ Ext w4 w' ∧ ∀ (i : Nat) (x : Nd), i < k → xs[i]? = some x → NdOk x xs.length, fun i _ => xs.length - i.toNat, ⟨⟨0, rfl, by omega, Ext.refl _, fun i x hi => by omega⟩, trivial⟩, ?_⟩
  rintro w11 _ ⟨k, rfl, hk, x11, hall⟩
  refine ⟨_, _, _, g1 x11, BoolK.mk (fun t => ?_) (fun t => ?_)⟩
  · have hlt : k < xs.length := by have := of_decide_eq_true t; omega
    refine DrewK.mk fun w15 x15 => ?_
    have x15 := x11.trans x15
    obtain ⟨b1, ha, h0, h1, h2, h3, h4, ⟨a3, l3, c3, h5, h6⟩, ⟨a4, l4, c4, h7, h8⟩, _⟩ := ndAt h (hx.trans x15) hlt
    refine ⟨_, _, _, g1 x15, ⟨by omega, by omega⟩, adK ha ⟨_, h0, _, h1, _, h2, _, _, _, h5, _, _, _, h7, _, _, _, g1 x15, ?_⟩⟩
    have e : ((l : Nat) : Int) = xs.length := by omega
    rw [e]
    refine (c56 w15 xs[k] xs.length c3 c4 (hl _ (List.getElem_mem hlt)) h6 h8).mono ?_
    rintro en w32 ⟨p, rfl, hp, x32⟩
    have y := x15.trans x32
    refine ⟨_, rfl, BoolK.mk (fun t5 => ⟨no fun k' => ?_, hx.trans y⟩) (fun t5 => ?_)⟩
    · have := hp.2 (k'.nds _ (List.getElem_mem hlt)); rw [this] at t5; cases t5
    · rw [Bool.not_eq_false'] at t5
      rw [wrap_succ (by omega)]
      refine ⟨⟨k + 1, rfl, by omega, y, fun i x hi hxi => ?_⟩, by simp; omega⟩
      rcases Nat.lt_or_ge i k with h | h
      · exact hall i x h hxi
      · have : i = k := by omega
        subst this
        rw [List.getElem?_eq_getElem hlt] at hxi; cases hxi
        exact hp.1 t5
  · have : k = xs.length := by have := of_decide_eq_false t; omega
    subst this
    refine ⟨⟨fun _ => ⟨by omega, by omega, fun x hx => ?_⟩, fun _ => rfl⟩, hx.trans x11⟩
    obtain ⟨i, hi⟩ := List.getElem?_of_mem hx
    exact hall i x (List.getElem?_eq_some_iff.1 hi).1 hi
theorem c15 (w : World) (root : Int) (xs : List Nd) {a : Option Addr} {l : Nat} (c : Nat) (h : RNds w a l xs) (hl : LimT xs) :
    Calls Tryz.prog 15 #[.agg #[.int .i64 root, .slice a l c]] w fun en w' => ∃ p, en = .returned (.bool p) ∧ ((p = true ↔ GrOk root xs 1000) ∧ Ext w w') := by
  refine calls15 _ _ _ _ _ w ?_
  refine AllocK.mk fun b w4 hb hB hx => ?_
  obtain ⟨g0, g1, _⟩ := blkAt2 hB
  refine ⟨_, g0, _, _, _, g1, (c30 w4 root xs c (RNds.at h hx) hl 1000).mono ?_⟩
  rintro en w8 ⟨p, rfl, hp, x8⟩
  exact ⟨_, rfl, hp, hx.trans x8⟩
end Go.Proofs.YtbiamhoonhjodaaGreatDoor

namespace Go.Proofs.YtbiamhoonhjodaaGreatDoor
open Go Go.V Go.Proofs
open Go.RowKit (Below)
/-! manystrand/manystrandref05.SameNode -/
def N18 (s1 : ByteArray) (x2 : Int) (s3 : ByteArray) (a4 : Option Addr) (l4 : Nat) (c4 : Nat) (a5 : Option Addr) (l5 : Nat) (c5 : Nat) (s6 : ByteArray) (x7 : Int) (s8 : ByteArray) (a9 : Option Addr) (l9 : Nat) (c9 : Nat) (a10 : Option Addr) (l10 : Nat) (c10 : Nat) (K : Bool → World → Prop) (w : World) : Prop :=
 AllocK w (#[(.string s1), (.int .i64 x2), (.string s3), (.slice a4 l4 c4), (.slice a5 l5 c5)]) 37 fun b11 w12 =>
 AllocK w12 (#[(.string s6), (.int .i64 x7), (.string s8), (.slice a9 l9 c9), (.slice a10 l10 c10)]) 37 fun b13 w14 =>
 ∃ (s15 : ByteArray), w14.cell? b11 = some (.string s15) ∧
 (∃ (s16 : ByteArray), w14.cell? b13 = some (.string s16) ∧
 (BoolK (!((s15 : ByteArray).toList == (s16 : ByteArray).toList))
 (K false w14)
 (∃ (x17 : Int), w14.cell? (b11.add 1) = some (.int .i64 x17) ∧
 (∃ (x18 : Int), w14.cell? (b13.add 1) = some (.int .i64 x18) ∧
 (BoolK ((x17 : Int) != x18)
 (K false w14)
 (∃ (s19 : ByteArray), w14.cell? (b11.add 2) = some (.string s19) ∧
 (∃ (s20 : ByteArray), w14.cell? (b13.add 2) = some (.string s20) ∧
 (BoolK (!((s19 : ByteArray).toList == (s20 : ByteArray).toList))
 (K false w14)
 (∃ (a21 : Option Addr) (l21 : Nat) (c21 : Nat), w14.cell? (b11.add 3) = some (.slice a21 l21 c21) ∧
 (∃ (a22 : Option Addr) (l22 : Nat) (c22 : Nat), w14.cell? (b13.add 3) = some (.slice a22 l22 c22) ∧
 (BoolK (((l21 : Nat) : Int) != (l22 : Nat))
 (K false w14)
 (∃ (a23 : Option Addr) (l23 : Nat) (c23 : Nat), w14.cell? (b11.add 4) = some (.slice a23 l23 c23) ∧
 (∃ (a24 : Option Addr) (l24 : Nat) (c24 : Nat), w14.cell? (b13.add 4) = some (.slice a24 l24 c24) ∧
 (BoolK (((l23 : Nat) : Int) != (l24 : Nat))
 (K false w14)
 (∃ (I25 : Int → World → Prop) (μ26 : Int → World → Nat),
 (I25 0 w14 ∧ True) ∧
 ∀ (w27 : World) (x28 : Int), I25 x28 w27 →
 ∃ (a29 : Option Addr) (l29 : Nat) (c29 : Nat), w27.cell? (b11.add 3) = some (.slice a29 l29 c29) ∧
 (BoolK (decide ((x28 : Int) < (l29 : Nat)))
 (DrewK w27 fun w30 =>
 ∃ (a31 : Option Addr) (l31 : Nat) (c31 : Nat), w30.cell? (b11.add 3) = some (.slice a31 l31 c31) ∧
 ((0 ≤ (x28 : Int) ∧ (x28 : Int) < (l31 : Nat)) ∧
 AddrK a31 fun b32 =>
 ∃ (x33 : Int), w30.cell? ((b32.add ((x28 : Int).toNat * 2)).add 0) = some (.int .i64 x33) ∧
 (∃ (s34 : ByteArray), w30.cell? ((b32.add ((x28 : Int).toNat * 2)).add 1) = some (.string s34) ∧
 (∃ (a35 : Option Addr) (l35 : Nat) (c35 : Nat), w30.cell? (b13.add 3) = some (.slice a35 l35 c35) ∧
 ((0 ≤ (x28 : Int) ∧ (x28 : Int) < (l35 : Nat)) ∧
 AddrK a35 fun b36 =>
 ∃ (x37 : Int), w30.cell? ((b36.add ((x28 : Int).toNat * 2)).add 0) = some (.int .i64 x37) ∧
 (∃ (s38 : ByteArray), w30.cell? ((b36.add ((x28 : Int).toNat * 2)).add 1) = some (.string s38) ∧
 (BoolK (!(((x33 : Int) == x37) && (((s34 : ByteArray) == s38) && (true))))
 (K false w30)
 (I25 (IntKind.wrap .i64 (x28 + 1)) w30 ∧ μ26 (IntKind.wrap .i64 (x28 + 1)) w30 < μ26 x28 w27))))))))
 (∃ (I39 : Int → World → Prop) (μ40 : Int → World → Nat),
 (I39 0 w27 ∧ True) ∧
 ∀ (w41 : World) (x42 : Int), I39 x42 w41 →
 ∃ (a43 : Option Addr) (l43 : Nat) (c43 : Nat), w41.cell? (b11.add 4) = some (.slice a43 l43 c43) ∧
 (BoolK (decide ((x42 : Int) < (l43 : Nat)))
 (DrewK w41 fun w44 =>
 ∃ (a45 : Option Addr) (l45 : Nat) (c45 : Nat), w44.cell? (b11.add 4) = some (.slice a45 l45 c45) ∧
 ((0 ≤ (x42 : Int) ∧ (x42 : Int) < (l45 : Nat)) ∧
 AddrK a45 fun b46 =>
 ∃ (x47 : Int), w44.cell? (b46.add ((x42 : Int).toNat * 1)) = some (.int .i64 x47) ∧
 (∃ (a48 : Option Addr) (l48 : Nat) (c48 : Nat), w44.cell? (b13.add 4) = some (.slice a48 l48 c48) ∧
 ((0 ≤ (x42 : Int) ∧ (x42 : Int) < (l48 : Nat)) ∧
 AddrK a48 fun b49 =>
 ∃ (x50 : Int), w44.cell? (b49.add ((x42 : Int).toNat * 1)) = some (.int .i64 x50) ∧
 (BoolK ((x47 : Int) != x50)
 (K false w44)
 (I39 (IntKind.wrap .i64 (x42 + 1)) w44 ∧ μ40 (IntKind.wrap .i64 (x42 + 1)) w44 < μ40 x42 w41))))))
 (K true w41)))))))))))))))))))
def ann18 : Ann := (.two .nil (.two (.two .nil (.two (.two .nil .nil) .nil)) (.two (.two .nil (.one (.loop [(5, (.one (.int .i64)))] [2, 3] (.two (.two .nil (.two .nil .nil)) (.two (.one (.two (.anyC 11 (.take 0 (.take 1 (.take 2 (.take 3 (.take 4 (.take 5 (.take 6 (.take 7 (.take 8 (.take 9 (.take 10 .done)))))))))))) (.two (.two .nil .nil) .nil))) .nil))))) (.two (.two .nil (.one (.loop [(6, (.one (.int .i64)))] [2, 3] (.two (.two .nil (.two .nil .nil)) (.two (.one (.two (.anyC 11 (.take 0 (.take 1 (.take 2 (.take 3 (.take 4 (.take 5 (.take 6 (.take 7 (.take 8 (.take 9 (.take 10 .done)))))))))))) (.two (.two .nil .nil) .nil))) .nil))))) (.two .nil .nil)))))
noncomputable def code18 : Code := match Tryz.f18.body with | some c => c | none => .skip
theorem wp18 (s1 : ByteArray) (x2 : Int) (s3 : ByteArray) (a4 : Option Addr) (l4 : Nat) (c4 : Nat) (a5 : Option Addr) (l5 : Nat) (c5 : Nat) (s6 : ByteArray) (x7 : Int) (s8 : ByteArray) (a9 : Option Addr) (l9 : Nat) (c9 : Nat) (a10 : Option Addr) (l10 : Nat) (c10 : Nat) (K : Bool → World → Prop) (w : World) : WP Tryz.prog tab code18 ann18 (fnQ tab Tryz.f18.results.toList [(.one .bool)] K) (argE 0 [(.agg #[(.string s1), (.int .i64 x2), (.string s3), (.slice a4 l4 c4), (.slice a5 l5 c5)]), (.agg #[(.string s6), (.int .i64 x7), (.string s8), (.slice a9 l9 c9), (.slice a10 l10 c10)])]) w = N18 s1 x2 s3 a4 l4 c4 a5 l5 c5 s6 x7 s8 a9 l9 c9 a10 l10 c10 K w := by kernel_rfl
theorem calls18 (s1 : ByteArray) (x2 : Int) (s3 : ByteArray) (a4 : Option Addr) (l4 : Nat) (c4 : Nat) (a5 : Option Addr) (l5 : Nat) (c5 : Nat) (s6 : ByteArray) (x7 : Int) (s8 : ByteArray) (a9 : Option Addr) (l9 : Nat) (c9 : Nat) (a10 : Option Addr) (l10 : Nat) (c10 : Nat) (K : Bool → World → Prop) (w : World) (h : N18 s1 x2 s3 a4 l4 c4 a5 l5 c5 s6 x7 s8 a9 l9 c9 a10 l10 c10 K w) : Calls Tryz.prog 18 #[(.agg #[(.string s1), (.int .i64 x2), (.string s3), (.slice a4 l4 c4), (.slice a5 l5 c5)]), (.agg #[(.string s6), (.int .i64 x7), (.string s8), (.slice a9 l9 c9), (.slice a10 l10 c10)])] w fun en w' => ∃ (p51 : Bool), en = .returned (.bool p51) ∧ K p51 w' :=
 have e : (fun en w' => ExShs [(.one .bool)] fun vs => en = .returned (tupled vs) ∧ ap [(.one .bool)] K vs fun p => p w') = (fun (en : Ending) (w' : World) => ∃ (p51 : Bool), en = .returned (.bool p51) ∧ K p51 w') := by kernel_rfl
 e ▸ fn_sound tabOk mixed Tryz.func18 (by kernel_rfl : Tryz.f18.body = some code18) ann18 [(.agg #[(.string s1), (.int .i64 x2), (.string s3), (.slice a4 l4 c4), (.slice a5 l5 c5)]), (.agg #[(.string s6), (.int .i64 x7), (.string s8), (.slice a9 l9 c9), (.slice a10 l10 c10)])] [(.one .bool)] K w (by kernel_rfl) ((wp18 s1 x2 s3 a4 l4 c4 a5 l5 c5 s6 x7 s8 a9 l9 c9 a10 l10 c10 K w).symm ▸ h)
end Go.Proofs.YtbiamhoonhjodaaGreatDoor

namespace Go.Proofs.YtbiamhoonhjodaaGreatDoor
open Go Go.V Go.Proofs
open Go.RowKit (Below)
/-! manystrand/manystrandref05.Same -/
def N8 (x1 : Int) (a2 : Option Addr) (l2 : Nat) (c2 : Nat) (x3 : Int) (a4 : Option Addr) (l4 : Nat) (c4 : Nat) (K : Bool → World → Prop) (w : World) : Prop :=
 AllocK w (#[(.int .i64 x1), (.slice a2 l2 c2)]) 24 fun b5 w6 =>
 AllocK w6 (#[(.int .i64 x3), (.slice a4 l4 c4)]) 24 fun b7 w8 =>
 ∃ (x9 : Int), w8.cell? b5 = some (.int .i64 x9) ∧
 (∃ (x10 : Int), w8.cell? b7 = some (.int .i64 x10) ∧
 (BoolK ((x9 : Int) != x10)
 (K false w8)
 (∃ (a11 : Option Addr) (l11 : Nat) (c11 : Nat), w8.cell? (b5.add 1) = some (.slice a11 l11 c11) ∧
 (∃ (a12 : Option Addr) (l12 : Nat) (c12 : Nat), w8.cell? (b7.add 1) = some (.slice a12 l12 c12) ∧
 (BoolK (((l11 : Nat) : Int) != (l12 : Nat))
 (K false w8)
 (∃ (I13 : Int → World → Prop) (μ14 : Int → World → Nat),
 (I13 0 w8 ∧ True) ∧
 ∀ (w15 : World) (x16 : Int), I13 x16 w15 →
 ∃ (a17 : Option Addr) (l17 : Nat) (c17 : Nat), w15.cell? (b5.add 1) = some (.slice a17 l17 c17) ∧
 (BoolK (decide ((x16 : Int) < (l17 : Nat)))
 (DrewK w15 fun w18 =>
 ∃ (a19 : Option Addr) (l19 : Nat) (c19 : Nat), w18.cell? (b5.add 1) = some (.slice a19 l19 c19) ∧
 ((0 ≤ (x16 : Int) ∧ (x16 : Int) < (l19 : Nat)) ∧
 AddrK a19 fun b20 =>
 ∃ (s21 : ByteArray), w18.cell? ((b20.add ((x16 : Int).toNat * 5)).add 0) = some (.string s21) ∧
 (∃ (x22 : Int), w18.cell? ((b20.add ((x16 : Int).toNat * 5)).add 1) = some (.int .i64 x22) ∧
 (∃ (s23 : ByteArray), w18.cell? ((b20.add ((x16 : Int).toNat * 5)).add 2) = some (.string s23) ∧
 (∃ (a24 : Option Addr) (l24 : Nat) (c24 : Nat), w18.cell? ((b20.add ((x16 : Int).toNat * 5)).add 3) = some (.slice a24 l24 c24) ∧
 (∃ (a25 : Option Addr) (l25 : Nat) (c25 : Nat), w18.cell? ((b20.add ((x16 : Int).toNat * 5)).add 4) = some (.slice a25 l25 c25) ∧
 (∃ (a26 : Option Addr) (l26 : Nat) (c26 : Nat), w18.cell? (b7.add 1) = some (.slice a26 l26 c26) ∧
 ((0 ≤ (x16 : Int) ∧ (x16 : Int) < (l26 : Nat)) ∧
 AddrK a26 fun b27 =>
 ∃ (s28 : ByteArray), w18.cell? ((b27.add ((x16 : Int).toNat * 5)).add 0) = some (.string s28) ∧
 (∃ (x29 : Int), w18.cell? ((b27.add ((x16 : Int).toNat * 5)).add 1) = some (.int .i64 x29) ∧
 (∃ (s30 : ByteArray), w18.cell? ((b27.add ((x16 : Int).toNat * 5)).add 2) = some (.string s30) ∧
 (∃ (a31 : Option Addr) (l31 : Nat) (c31 : Nat), w18.cell? ((b27.add ((x16 : Int).toNat * 5)).add 3) = some (.slice a31 l31 c31) ∧
 (∃ (a32 : Option Addr) (l32 : Nat) (c32 : Nat), w18.cell? ((b27.add ((x16 : Int).toNat * 5)).add 4) = some (.slice a32 l32 c32) ∧
 (Calls Tryz.prog 18 #[(.agg #[(.string s21), (.int .i64 x22), (.string s23), (.slice a24 l24 c24), (.slice a25 l25 c25)]), (.agg #[(.string s28), (.int .i64 x29), (.string s30), (.slice a31 l31 c31), (.slice a32 l32 c32)])] w18 fun e35 w34 =>
 ∃ (p33 : Bool), e35 = .returned (.bool p33) ∧
 (BoolK (!p33)
 (K false w34)
 (I13 (IntKind.wrap .i64 (x16 + 1)) w34 ∧ μ14 (IntKind.wrap .i64 (x16 + 1)) w34 < μ14 x16 w15)))))))))))))))
 (K true w15))))))))
def ann8 : Ann := (.two .nil (.two (.two .nil (.two (.two .nil .nil) .nil)) (.two (.two .nil (.one (.loop [(5, (.one (.int .i64)))] [2, 3] (.two (.two .nil (.two .nil .nil)) (.two (.one (.two (.anyC 10 (.take 0 (.take 1 (.take 2 (.take 3 (.take 4 (.take 5 (.take 6 (.take 7 (.take 8 (.take 9 .done))))))))))) (.two (.two .nil .nil) .nil))) .nil))))) (.two .nil .nil))))
noncomputable def code8 : Code := match Tryz.f8.body with | some c => c | none => .skip
theorem wp8 (x1 : Int) (a2 : Option Addr) (l2 : Nat) (c2 : Nat) (x3 : Int) (a4 : Option Addr) (l4 : Nat) (c4 : Nat) (K : Bool → World → Prop) (w : World) : WP Tryz.prog tab code8 ann8 (fnQ tab Tryz.f8.results.toList [(.one .bool)] K) (argE 0 [(.agg #[(.int .i64 x1), (.slice a2 l2 c2)]), (.agg #[(.int .i64 x3), (.slice a4 l4 c4)])]) w = N8 x1 a2 l2 c2 x3 a4 l4 c4 K w := by kernel_rfl
theorem calls8 (x1 : Int) (a2 : Option Addr) (l2 : Nat) (c2 : Nat) (x3 : Int) (a4 : Option Addr) (l4 : Nat) (c4 : Nat) (K : Bool → World → Prop) (w : World) (h : N8 x1 a2 l2 c2 x3 a4 l4 c4 K w) : Calls Tryz.prog 8 #[(.agg #[(.int .i64 x1), (.slice a2 l2 c2)]), (.agg #[(.int .i64 x3), (.slice a4 l4 c4)])] w fun en w' => ∃ (p36 : Bool), en = .returned (.bool p36) ∧ K p36 w' :=
 have e : (fun en w' => ExShs [(.one .bool)] fun vs => en = .returned (tupled vs) ∧ ap [(.one .bool)] K vs fun p => p w') = (fun (en : Ending) (w' : World) => ∃ (p36 : Bool), en = .returned (.bool p36) ∧ K p36 w') := by kernel_rfl
 e ▸ fn_sound tabOk mixed Tryz.func8 (by kernel_rfl : Tryz.f8.body = some code8) ann8 [(.agg #[(.int .i64 x1), (.slice a2 l2 c2)]), (.agg #[(.int .i64 x3), (.slice a4 l4 c4)])] [(.one .bool)] K w (by kernel_rfl) ((wp8 x1 a2 l2 c2 x3 a4 l4 c4 K w).symm ▸ h)
end Go.Proofs.YtbiamhoonhjodaaGreatDoor

namespace Go.Proofs.YtbiamhoonhjodaaGreatDoor
open Go Go.V Go.Proofs Go.V.Gr
open Go.RowKit (Below)
theorem c16 (w : World) (x : Nd) {a4 a5 : Option Addr} {l4 l5 : Nat} (c4 c5 : Nat) (hfs : RL 2 RFt w a4 l4 x.fs) (f : Ft) :
    Calls Tryz.prog 16 #[.agg #[.string x.kd, .int .i64 x.n, .string x.tx, .slice a4 l4 c4, .slice a5 l5 c5], .agg #[.int .i64 f.1, .string f.2]] w fun en w' => ∃ i, en = .returned (.int .i64 i) ∧ ((match ixOf x.fs f 0 with | some k => i = (k : Nat) | none => i = -1) ∧ Ext w w') := by
  refine calls16 _ _ _ _ _ _ _ _ _ _ _ _ w ?_
  have hl := hfs.len; have hm := hfs.2
  simp only [maxLen] at hm
  refine AllocK.mk fun b w9 hb hB x9 => AllocK.mk fun b2 w11 hb2 hB2 x11 => ?_
  have y11 := x9.trans x11
  refine ⟨fun i w' => ∃ k : Nat, i = k ∧ k ≤ x.fs.length ∧ Ext w11 w' ∧ ∀ j, j < k → x.fs[j]? ≠ some f, fun i _ => x.fs.length - i.toNat, ⟨⟨0, rfl, by omega, Ext.refl _, fun j hj => by omega⟩, trivial⟩, ?_⟩
  rintro w14 _ ⟨k, rfl, hk, x14, hno⟩
  obtain ⟨_, _, _, g3, _⟩ := blkAt5 hB (x11.trans x14)
  refine ⟨_, _, _, g3, BoolK.mk (fun t => ?_) (fun t => ?_)⟩
  · have hlt : k < x.fs.length := by have := of_decide_eq_true t; omega
    refine DrewK.mk fun w17 x17 => ?_
    have x17 := x14.trans x17
    obtain ⟨_, _, _, g3, _⟩ := blkAt5 hB (x11.trans x17)
    obtain ⟨k0, k1, _⟩ := blkAt2 (hB2.ext x17)
    obtain ⟨b1, ha, q0, q1, _⟩ := ftAt hfs (y11.trans x17) hlt
    refine ⟨_, _, _, g3, ⟨by omega, by omega⟩, adK ha ⟨_, q0, _, q1, _, k0, _, k1, BoolK.mk (fun t1 => ?_) (fun t1 => ?_)⟩⟩
    · simp only [Bool.and_true, Bool.and_eq_true, beq_iff_eq, ba_eq] at t1
      have e : x.fs[k]? = some f := by rw [List.getElem?_eq_getElem hlt]; congr 1; exact Prod.ext t1.1 t1.2
      rw [ixOf_first hno e]
      exact ⟨by simp, y11.trans x17⟩
    · rw [wrap_succ (by omega)]
      refine ⟨⟨k + 1, rfl, by omega, x17, fun j hj e => ?_⟩, by simp; omega⟩
      rcases Nat.lt_or_ge j k with h1 | h1
      · exact hno j h1 e
      · have : j = k := by omega
        subst this
        rw [List.getElem?_eq_getElem hlt] at e
        cases e
        rw [← Bool.not_eq_true] at t1
        exact t1 (by simp only [Bool.and_true, Bool.and_eq_true, beq_iff_eq, ba_eq, and_self])
  · have : k = x.fs.length := by have := of_decide_eq_false t; omega
    subst this
    have : f ∉ x.fs := fun hm => by
      obtain ⟨j, hj⟩ := List.getElem?_of_mem hm
      exact hno j (List.getElem?_eq_some_iff.1 hj).1 hj
    rw [ixOf_no this]
    exact ⟨rfl, y11.trans x14⟩
theorem list_eq_of {α : Type} {xs ys : List α} (hl : xs.length = ys.length) (h : ∀ i (a : α), i < xs.length → xs[i]? = some a → ys[i]? = some a) : xs = ys := by
  apply List.ext_getElem? 
  intro i
  rcases Nat.lt_or_ge i xs.length with h1 | h1
  · rw [List.getElem?_eq_getElem h1, h i _ h1 (List.getElem?_eq_getElem h1)]
  · rw [List.getElem?_eq_none h1, List.getElem?_eq_none (by omega)]
theorem nd_ext5 {x y : Nd} (h1 : x.kd = y.kd) (h2 : x.n = y.n) (h3 : x.tx = y.tx) (h4 : x.fs = y.fs) (h5 : x.ks = y.ks) : x = y := by
  cases x; cases y; simp_all
theorem c18 (w : World) (x y : Nd) {a4 a5 b4 b5 : Option Addr} {l4 l5 m4 m5 : Nat} (c4 c5 d4 d5 : Nat) (hxf : RL 2 RFt w a4 l4 x.fs) (hxk : RL 1 RInt w a5 l5 x.ks) (hyf : RL 2 RFt w b4 m4 y.fs) (hyk : RL 1 RInt w b5 m5 y.ks) :
    Calls Tryz.prog 18 #[.agg #[.string x.kd, .int .i64 x.n, .string x.tx, .slice a4 l4 c4, .slice a5 l5 c5], .agg #[.string y.kd, .int .i64 y.n, .string y.tx, .slice b4 m4 d4, .slice b5 m5 d5]] w
      fun en w' => ∃ p, en = .returned (.bool p) ∧ ((p = true ↔ x = y) ∧ Ext w w') := by
  refine calls18 _ _ _ _ _ _ _ _ _ _ _ _ _ _ _ _ _ _ _ w ?_
  have e4 := hxf.len; have e5 := hxk.len; have f4 := hyf.len; have f5 := hyk.len
  have k4 := hxf.2; have k5 := hxk.2; have n4 := hyf.2; have n5 := hyk.2
  simp only [maxLen] at k4 k5 n4 n5
  refine AllocK.mk fun b w12 hb hB x12 => AllocK.mk fun b2 w14 hb2 hB2 x14 => ?_
  have y14 := x12.trans x14
  obtain ⟨g0, g1, g2, g3, g4⟩ := blkAt5 hB x14
  obtain ⟨h0, h1, h2, h3, h4⟩ := blkAt5 hB2 (Ext.refl w14)
  refine ⟨_, g0, _, h0, BoolK.mk (fun t => ⟨not_iff_false fun e => ?_, y14⟩) (fun t1 => ⟨_, g1, _, h1, BoolK.mk (fun t => ⟨not_iff_false fun e => ?_, y14⟩) (fun t2 => ⟨_, g2, _, h2, BoolK.mk (fun t => ⟨not_iff_false fun e => ?_, y14⟩) (fun t3 =>
    ⟨_, _, _, g3, _, _, _, h3, BoolK.mk (fun t => ⟨not_iff_false fun e => ?_, y14⟩) (fun t4 => ⟨_, _, _, g4, _, _, _, h4, BoolK.mk (fun t => ⟨not_iff_false fun e => ?_, y14⟩) (fun t5 => ?_)⟩)⟩)⟩)⟩)⟩
  · subst e; rw [tl_iff.2 rfl] at t; cases t
  · subst e; simp at t
  · subst e; rw [tl_iff.2 rfl] at t; cases t
  · subst e; rw [e4, f4] at t; simp at t
  · subst e; rw [e5, f5] at t; simp at t
  have t1 : x.kd = y.kd := by rw [Bool.not_eq_false'] at t1; exact tl_iff.1 t1
  have t2 : x.n = y.n := by simpa using t2
  have t3 : x.tx = y.tx := by rw [Bool.not_eq_false'] at t3; exact tl_iff.1 t3
  have t4 : x.fs.length = y.fs.length := by have : ((l4 : Nat) : Int) = m4 := (by simpa using t4); omega
  have t5 : x.ks.length = y.ks.length := by have : ((l5 : Nat) : Int) = m5 := (by simpa using t5); omega
  refine ⟨fun i w' => ∃ k : Nat, i = k ∧ k ≤ x.fs.length ∧ Ext w14 w' ∧ ∀ i (f : Ft), i < k → x.fs[i]? = some f → y.fs[i]? = some f, fun i _ => x.fs.length - i.toNat, ⟨⟨0, rfl, by omega, Ext.refl _, fun i f hi => by omega⟩, trivial⟩, ?_⟩
  rintro w27 _ ⟨k, rfl, hk, x27, hall⟩
  obtain ⟨_, _, _, g3, _⟩ := blkAt5 hB (x14.trans x27)
  refine ⟨_, _, _, g3, BoolK.mk (fun t => ?_) (fun t => ?_)⟩
  · have hlt : k < x.fs.length := by have := of_decide_eq_true t; omega
    have hlt' : k < y.fs.length := by omega
    refine DrewK.mk fun w30 x30 => ?_
    have x30 := x27.trans x30
    obtain ⟨_, _, _, g3, _⟩ := blkAt5 hB (x14.trans x30)
    obtain ⟨_, _, _, h3, _⟩ := blkAt5 hB2 x30
    obtain ⟨b1, ha, q0, q1, _⟩ := ftAt hxf (y14.trans x30) hlt
    obtain ⟨b3, hc, r0, r1, _⟩ := ftAt hyf (y14.trans x30) hlt'
    refine ⟨_, _, _, g3, ⟨by omega, by omega⟩, adK ha ⟨_, q0, _, q1, _, _, _, h3, ⟨by omega, by omega⟩, adK hc ⟨_, r0, _, r1, BoolK.mk (fun t6 => ⟨not_iff_false fun e => ?_, y14.trans x30⟩) (fun t6 => ?_)⟩⟩⟩
    · subst e; simp only [Bool.and_true, Bool.not_eq_true', Bool.and_eq_false_iff, beq_eq_false_iff_ne, ne_eq, not_true_eq_false, false_or] at t6
      rw [← Bool.not_eq_true, ba_eq] at t6; exact t6 rfl
    · simp only [Bool.and_true, Bool.not_eq_false', Bool.and_eq_true, beq_iff_eq, ba_eq] at t6
      rw [wrap_succ (by omega)]
      refine ⟨⟨k + 1, rfl, by omega, x30, fun i f hi hf => ?_⟩, by simp; omega⟩
      rcases Nat.lt_or_ge i k with h | h
      · exact hall i f h hf
      · have : i = k := by omega
        subst this
        rw [List.getElem?_eq_getElem hlt] at hf; cases hf
        rw [List.getElem?_eq_getElem hlt']
        congr 1; exact (Prod.ext t6.1 t6.2).symm
  · have : k = x.fs.length := by have := of_decide_eq_false t; omega
    subst this
    have efs : x.fs = y.fs := list_eq_of t4 fun i a hi h => hall i a hi h
    refine ⟨fun i w' => ∃ k : Nat, i = k ∧ k ≤ x.ks.length ∧ Ext w27 w' ∧ ∀ i (f : Int), i < k → x.ks[i]? = some f → y.ks[i]? = some f, fun i _ => x.ks.length - i.toNat, ⟨⟨0, rfl, by omega, Ext.refl _, fun i f hi => by omega⟩, trivial⟩, ?_⟩
    rintro w41 _ ⟨k, rfl, hk, x41, hall2⟩
    obtain ⟨_, _, _, _, g4⟩ := blkAt5 hB ((x14.trans x27).trans x41)
    refine ⟨_, _, _, g4, BoolK.mk (fun t => ?_) (fun t => ?_)⟩
    · have hlt : k < x.ks.length := by have := of_decide_eq_true t; omega
      have hlt' : k < y.ks.length := by omega
      refine DrewK.mk fun w44 x44 => ?_
      have x44 := x41.trans x44
      obtain ⟨_, _, _, _, g4⟩ := blkAt5 hB ((x14.trans x27).trans x44)
      obtain ⟨_, _, _, _, h4⟩ := blkAt5 hB2 (x27.trans x44)
      obtain ⟨b1, ha, q0⟩ := ksAt hxk ((y14.trans x27).trans x44) hlt
      obtain ⟨b3, hc, r0⟩ := ksAt hyk ((y14.trans x27).trans x44) hlt'
      refine ⟨_, _, _, g4, ⟨by omega, by omega⟩, adK ha ⟨_, q0, _, _, _, h4, ⟨by omega, by omega⟩, adK hc ⟨_, r0, BoolK.mk (fun t6 => ⟨not_iff_false fun e => ?_, (y14.trans x27).trans x44⟩) (fun t6 => ?_)⟩⟩⟩
      · subst e; simp at t6
      · have t6 : x.ks[k] = y.ks[k] := by simpa using t6
        rw [wrap_succ (by omega)]
        refine ⟨⟨k + 1, rfl, by omega, x44, fun i f hi hf => ?_⟩, by simp; omega⟩
        rcases Nat.lt_or_ge i k with h | h
        · exact hall2 i f h hf
        · have : i = k := by omega
          subst this
          rw [List.getElem?_eq_getElem hlt] at hf; cases hf
          rw [List.getElem?_eq_getElem hlt', t6]
    · have : k = x.ks.length := by have := of_decide_eq_false t; omega
      subst this
      have eks : x.ks = y.ks := list_eq_of t5 fun i a hi h => hall2 i a hi h
      exact ⟨⟨fun _ => nd_ext5 t1 t2 t3 efs eks, fun _ => rfl⟩, (y14.trans x27).trans x41⟩
theorem c8 (w : World) (r r' : Int) (xs ys : List Nd) {a a' : Option Addr} {l l' : Nat} (c c' : Nat) (hx : RNds w a l xs) (hy : RNds w a' l' ys) :
    Calls Tryz.prog 8 #[.agg #[.int .i64 r, .slice a l c], .agg #[.int .i64 r', .slice a' l' c']] w fun en w' => ∃ p, en = .returned (.bool p) ∧ ((p = true ↔ r = r' ∧ xs = ys) ∧ Ext w w') := by
  refine calls8 _ _ _ _ _ _ _ _ _ w ?_
  have e1 := hx.len; have e2 := hy.len
  have k1 := hx.2; have k2 := hy.2
  simp only [maxLen] at k1 k2
  refine AllocK.mk fun b w6 hb hB x6 => AllocK.mk fun b2 w8 hb2 hB2 x8 => ?_
  have y8 := x6.trans x8
  obtain ⟨_, g1, g0⟩ := blkAt2 (hB.ext x8)
  obtain ⟨_, h1, h0⟩ := blkAt2 hB2
  refine ⟨_, g0, _, h0, BoolK.mk (fun t => ⟨not_iff_false fun e => ?_, y8⟩) (fun t1 => ⟨_, _, _, g1, _, _, _, h1, BoolK.mk (fun t => ⟨not_iff_false fun e => ?_, y8⟩) (fun t2 => ?_)⟩)⟩
  · rw [e.1] at t; simp at t
  · rw [e1, e2, e.2] at t; simp at t
  have t1 : r = r' := by simpa using t1
  have t2 : xs.length = ys.length := by have : ((l : Nat) : Int) = l' := (by simpa using t2); omega
  refine ⟨fun i w' => ∃ k : Nat, i = k ∧ k ≤ xs.length ∧ Ext w8 w' ∧ ∀ i (f : Nd), i < k → xs[i]? = some f → ys[i]? = some f, fun i _ => xs.length - i.toNat, ⟨⟨0, rfl, by omega, Ext.refl _, fun i f hi => by omega⟩, trivial⟩, ?_⟩
  rintro w15 _ ⟨k, rfl, hk, x15, hall⟩
  obtain ⟨_, g1, _⟩ := blkAt2 (hB.ext (x8.trans x15))
  refine ⟨_, _, _, g1, BoolK.mk (fun t => ?_) (fun t => ?_)⟩
  · have hlt : k < xs.length := by have := of_decide_eq_true t; omega
    have hlt' : k < ys.length := by omega
    refine DrewK.mk fun w18 x18 => ?_
    have x18 := x15.trans x18
    have y18 := y8.trans x18
    obtain ⟨_, g1, _⟩ := blkAt2 (hB.ext (x8.trans x18))
    obtain ⟨_, h1, _⟩ := blkAt2 (hB2.ext x18)
    obtain ⟨b1, ha, q0, q1, q2, _, _, ⟨a3, l3, c3, q5, q6⟩, ⟨a4, l4, c4, q7, q8⟩, _⟩ := ndAt hx y18 hlt
    obtain ⟨b3, hc, r0, r1, r2, _, _, ⟨d3, m3, z3, r5, r6⟩, ⟨d4, m4, z4, r7, r8⟩, _⟩ := ndAt hy y18 hlt'
    refine ⟨_, _, _, g1, ⟨by omega, by omega⟩, adK ha ⟨_, q0, _, q1, _, q2, _, _, _, q5, _, _, _, q7, _, _, _, h1, ⟨by omega, by omega⟩, adK hc ⟨_, r0, _, r1, _, r2, _, _, _, r5, _, _, _, r7, ?_⟩⟩⟩
    refine (c18 w18 xs[k] ys[k] c3 c4 z3 z4 q6 q8 r6 r8).mono ?_
    rintro en w34 ⟨p, rfl, hp, x34⟩
    refine ⟨_, rfl, BoolK.mk (fun t3 => ⟨not_iff_false fun e => ?_, y18.trans x34⟩) (fun t3 => ?_)⟩
    · obtain ⟨_, e⟩ := e; subst e
      rw [hp.2 rfl] at t3; cases t3
    · have t3 := hp.1 (by simpa using t3)
      rw [wrap_succ (by omega)]
      refine ⟨⟨k + 1, rfl, by omega, x18.trans x34, fun i f hi hf => ?_⟩, by simp; omega⟩
      rcases Nat.lt_or_ge i k with h | h
      · exact hall i f h hf
      · have : i = k := by omega
        subst this
        rw [List.getElem?_eq_getElem hlt] at hf; cases hf
        rw [List.getElem?_eq_getElem hlt', t3]
  · have : k = xs.length := by have := of_decide_eq_false t; omega
    subst this
    exact ⟨⟨fun _ => ⟨t1, list_eq_of t2 fun i a hi h => hall i a hi h⟩, fun _ => rfl⟩, y8.trans x15⟩
end Go.Proofs.YtbiamhoonhjodaaGreatDoor

namespace Go.V.Gr
open Go Go.V
open Go.Lib (itoa)
def NoZ (s : ByteArray) : Prop := ∀ c ∈ bl s, c ≠ 0
structure ZOk (x : Nd) : Prop where
  kd : NoZ x.kd
  tx : NoZ x.tx
  fs : ∀ f ∈ x.fs, NoZ f.2
  ks : x.ks.length = x.fs.length
def partsD : List Ft → List Int → List UInt8
  | f :: fs, c :: cs => itoa f.1 ++ (0 :: (bl f.2 ++ (0 :: (itoa c ++ (0 :: partsD fs cs)))))
  | _, _ => []
def headD (x : Nd) : List UInt8 := bl x.kd ++ (0 :: (itoa x.n ++ (0 :: (bl x.tx ++ [0]))))
def keyD (x : Nd) (cs : List Int) : List UInt8 := headD x ++ partsD x.fs cs
theorem itoa_nz (n : Int) : ∀ c ∈ itoa n, c ≠ 0 := fun c hc e => by
  have := itoa_all n c hc
  subst e; revert this; decide
theorem zcut {x y s t : List UInt8} (hx : ∀ c ∈ x, c ≠ 0) (hy : ∀ c ∈ y, c ≠ 0) (h : x ++ (0 :: s) = y ++ (0 :: t)) : x = y ∧ s = t := by
  obtain ⟨h1, h2⟩ := word_cut (p := fun c => decide (c ≠ 0)) (by simpa using hx) (by simpa using hy) (by simp) (by simp) h
  exact ⟨h1, (List.cons.inj h2).2⟩
theorem partsD_inj : ∀ {fs gs : List Ft} {cs ds : List Int}, (∀ f ∈ fs, NoZ f.2) → (∀ f ∈ gs, NoZ f.2) → cs.length = fs.length → ds.length = gs.length → partsD fs cs = partsD gs ds → fs = gs ∧ cs = ds
  | [], [], [], [], _, _, _, _, _ => ⟨rfl, rfl⟩
  | [], g :: gs, [], d :: ds, _, _, _, _, h => by
    simp only [partsD] at h
    have := congrArg List.length h
    simp at this
  | f :: fs, [], c :: cs, [], _, _, _, _, h => by
    simp only [partsD] at h
    have := congrArg List.length h
    simp at this
  | f :: fs, g :: gs, c :: cs, d :: ds, hf, hg, h1, h2, h => by
    simp only [partsD] at h
    obtain ⟨e1, h⟩ := zcut (itoa_nz _) (itoa_nz _) h
    obtain ⟨e2, h⟩ := zcut (hf f (by simp)) (hg g (by simp)) h
    obtain ⟨e3, h⟩ := zcut (itoa_nz _) (itoa_nz _) h
    obtain ⟨e4, e5⟩ := partsD_inj (fun f hm => hf f (List.mem_cons_of_mem _ hm)) (fun f hm => hg f (List.mem_cons_of_mem _ hm)) (by simpa using h1) (by simpa using h2) h
    have : f = g := Prod.ext (itoa_inj e1) (bl_inj e2)
    rw [this, e4, itoa_inj e3, e5]; exact ⟨rfl, rfl⟩
  | _ :: _, _, [], _, _, _, h, _, _ => by simp at h
  | [], _, _ :: _, _, _, _, h, _, _ => by simp at h
  | _, _ :: _, _, [], _, _, _, h, _ => by simp at h
  | _, [], _, _ :: _, _, _, _, h, _ => by simp at h
theorem keyD_iff {x y : Nd} {a b : List Int} (hx : ZOk x) (hy : ZOk y) (ha : a.length = x.ks.length) (hb : b.length = y.ks.length) : keyD x a = keyD y b ↔ x.hd = y.hd ∧ a = b := by
  constructor
  · intro h
    simp only [keyD, headD, List.append_assoc, List.cons_append, List.nil_append] at h
    obtain ⟨e1, h⟩ := zcut hx.kd hy.kd h
    obtain ⟨e2, h⟩ := zcut (itoa_nz _) (itoa_nz _) h
    obtain ⟨e3, h⟩ := zcut hx.tx hy.tx h
    obtain ⟨e4, e5⟩ := partsD_inj hx.fs hy.fs (by rw [ha, hx.ks]) (by rw [hb, hy.ks]) h
    exact ⟨hd_mk (bl_inj e1) (itoa_inj e2) (bl_inj e3) e4 (by rw [← ha, ← hb, e5]), e5⟩
  · rintro ⟨e1, e2⟩
    obtain ⟨h1, h2, h3, h4⟩ := hd_parts e1
    rw [keyD, keyD, headD, headD, h1, h2, h3, h4, e2]
section
variable {xs : List Nd}
def keyC (xs : List Nd) (c : Nat → Int) (i : Nat) : List UInt8 := keyD (nd xs i) (kc xs c i)
theorem keyC_iff {c : Nat → Int} (hz : ∀ x ∈ xs, ZOk x) {i j : Nat} (hi : i < xs.length) (hj : j < xs.length) : keyC xs c i = keyC xs c j ↔ (nd xs i).hd = (nd xs j).hd ∧ kc xs c i = kc xs c j := by
  have z : ∀ i, i < xs.length → ZOk (nd xs i) := fun i hi => by rw [nd_get hi]; exact hz _ (List.getElem_mem _)
  exact keyD_iff (z i hi) (z j hj) kc_len kc_len
structure Num1 (xs : List Nd) (T : List ByteArray) (cl : List Int) (ord : List Nat) : Prop where
  nodup : ord.Nodup
  lt : ∀ i ∈ ord, i < xs.length
  kids : ∀ (a i : Nat), ord[a]? = some i → ∀ m, m < (nd xs i).ks.length → ∃ b, b < a ∧ ord[b]? = some (kid xs i m)
  pos : ∀ i, i < xs.length → (i ∈ ord ↔ ga cl i ≠ 0)
  cll : cl.length = xs.length
  num : Numd T (keyC xs (ga cl)) (ga cl) 1 ord
  Tl : T.length ≤ ord.length
  b : ∀ c ∈ cl, 0 ≤ c ∧ c ≤ ord.length
theorem Num1.len {T : List ByteArray} {cl : List Int} {ord : List Nat} (h : Num1 xs T cl ord) : ord.length ≤ xs.length := by
  have := len_le_of_sub _ (List.range xs.length) h.nodup fun x hx => List.mem_range.2 (h.lt x hx)
  simpa using this
theorem Num1.start : Num1 xs [] (List.replicate xs.length 0) [] :=
  ⟨List.nodup_nil, by simp, by simp, fun i hi => by simp [ga, hi], by simp, fun i hi => by simp at hi, by simp, fun c hc => by rw [List.eq_of_mem_replicate hc]; simp⟩
theorem Num1.put {T T' : List ByteArray} {cl : List Int} {ord : List Nat} (h : Num1 xs T cl ord) {x v : Nat} {s : ByteArray} (hx : x < xs.length) (h0 : ga cl x = 0) (hr : ∀ k ∈ Gr.kids xs x, ga cl k ≠ 0) (hc : Closed xs)
    (hT : T' = T ∨ T' = T ++ [s]) (hv : T'[v]? = some s) (hs : bl s = keyC xs (ga cl) x) : Num1 xs T' (cl.set x (1 + v : Nat)) (ord ++ [x]) := by
  have hnx : x ∉ ord := fun hm => ((h.pos x hx).1 hm) h0
  have hxl : x < cl.length := by rw [h.cll]; exact hx
  have kin : ∀ k ∈ Gr.kids xs x, k ∈ ord := fun k hk => by
    have hkl : k < xs.length := by
      obtain ⟨m, hm⟩ := List.getElem?_of_mem hk
      have hm' : m < (nd xs x).ks.length := by rw [← kids_len]; exact (List.getElem?_eq_some_iff.1 hm).1
      rw [kids_get hm'] at hm; cases hm
      exact kid_lt hc hx hm'
    exact (h.pos k hkl).2 (hr k hk)
  have grow : ∀ {q : Nat} {u : ByteArray}, T[q]? = some u → T'[q]? = some u := fun {q u} e => by
    rcases hT with rfl | rfl
    · exact e
    · rw [List.getElem?_append_left (List.getElem?_eq_some_iff.1 e).1]; exact e
  have Tl' : T'.length ≤ ord.length + 1 := by
    have := h.Tl
    rcases hT with rfl | rfl
    · omega
    · simp; omega
  have hvl : v < T'.length := (List.getElem?_eq_some_iff.1 hv).1
  have same : ∀ i, i ∈ ord ∨ i = x → kc xs (ga (cl.set x (1 + v : Nat))) i = kc xs (ga cl) i := by
    intro i hi
    refine kc_congr fun k hk => ?_
    rw [ga_set hxl, if_neg]
    rintro rfl
    rcases hi with hi | rfl
    · obtain ⟨a, ha⟩ := List.getElem?_of_mem hi
      obtain ⟨m, hm⟩ := List.getElem?_of_mem hk
      have hm' : m < (nd xs i).ks.length := by rw [← kids_len]; exact (List.getElem?_eq_some_iff.1 hm).1
      rw [kids_get hm'] at hm
      obtain ⟨b, hb, e⟩ := h.kids a i ha m hm'
      rw [Option.some.inj hm] at e
      exact hnx (List.mem_of_getElem? e)
    · exact hnx (kin _ hk)
  refine ⟨?_, fun i hi => ?_, fun a i hai m hm => ?_, fun i hi => ?_, by simpa using h.cll, fun i hi => ?_, by simpa using Tl', fun c hcm => ?_⟩
  · rw [List.nodup_append]
    exact ⟨h.nodup, by simp, fun a ha b hb e => by simp at hb; subst hb; subst e; exact hnx ha⟩
  · rcases List.mem_append.1 hi with hi | hi
    · exact h.lt i hi
    · simp at hi; subst hi; exact hx
  · rcases Nat.lt_or_ge a ord.length with h1 | h1
    · rw [List.getElem?_append_left h1] at hai
      obtain ⟨b, hb, e⟩ := h.kids a i hai m hm
      exact ⟨b, hb, by rw [List.getElem?_append_left (by omega)]; exact e⟩
    · rw [List.getElem?_append_right h1] at hai
      have h2 : a - ord.length < 1 := (List.getElem?_eq_some_iff.1 hai).1
      have h3 : a - ord.length = 0 := by omega
      rw [h3] at hai
      simp at hai; subst hai
      have hk := kin _ (List.mem_of_getElem? (kids_get hm))
      obtain ⟨b, hb⟩ := List.getElem?_of_mem hk
      have hbl := (List.getElem?_eq_some_iff.1 hb).1
      exact ⟨b, by omega, by rw [List.getElem?_append_left hbl]; exact hb⟩
  · rw [ga_set hxl, List.mem_append]
    by_cases e : i = x
    · subst e; simp; omega
    · rw [if_neg e, ← h.pos i hi]; simp [e]
  · rw [keyC, same i (by rcases List.mem_append.1 hi with h | h; exact .inl h; exact .inr (by simpa using h))]
    rcases List.mem_append.1 hi with hi | hi
    · have e : i ≠ x := fun e => hnx (e ▸ hi)
      obtain ⟨q, s', e1, e2, e3⟩ := h.num i hi
      exact ⟨q, s', by rw [ga_set hxl, if_neg e]; exact e1, grow e2, e3⟩
    · simp at hi; subst hi
      exact ⟨v, s, by rw [ga_set hxl, if_pos rfl]; omega, hv, hs⟩
  · rcases List.mem_or_eq_of_mem_set hcm with hcm | rfl
    · have := h.b c hcm; simp; omega
    · simp; omega
theorem Num1.topo {T : List ByteArray} {cl : List Int} {ord : List Nat} (h : Num1 xs T cl ord) (hfull : ∀ i, i < xs.length → ga cl i = 0 → ∃ k ∈ Gr.kids xs i, ga cl k = 0) (hc : Closed xs) : Topo xs ord := by
  refine ⟨h.lt, h.kids, fun i hi hk => ?_⟩
  rw [h.pos i hi]
  intro h0
  obtain ⟨k, hk1, hk2⟩ := hfull i hi h0
  obtain ⟨m, hm⟩ := List.getElem?_of_mem hk1
  have hm' : m < (nd xs i).ks.length := by rw [← kids_len]; exact (List.getElem?_eq_some_iff.1 hm).1
  rw [kids_get hm'] at hm; cases hm
  exact (h.pos _ (kid_lt hc hi hm')).1 (hk m hm') hk2
theorem Num1.flat {T : List ByteArray} {cl : List Int} {ord : List Nat} (h : Num1 xs T cl ord) (ho : Topo xs ord) (hn : T.Nodup) (hz : ∀ x ∈ xs, ZOk x) : ∀ i j, i ∈ ord → j ∈ ord → (ga cl i = ga cl j ↔ Eqv xs xs i j) := by
  have F : Flat xs ord (ga cl) ord.length := ⟨fun a b i j _ _ ha hb => by
    have hi := List.mem_of_getElem? ha; have hj := List.mem_of_getElem? hb
    rw [h.num.iff hn hi hj]
    exact keyC_iff hz (h.lt i hi) (h.lt j hj)⟩
  intro i j hi hj
  obtain ⟨a, ha⟩ := List.getElem?_of_mem hi
  obtain ⟨b, hb⟩ := List.getElem?_of_mem hj
  exact F.eqv ho a b i j (List.getElem?_eq_some_iff.1 ha).1 (List.getElem?_eq_some_iff.1 hb).1 ha hb
structure DInv (xs : List Nd) (ord : List Nat) (fin : Nat) (n : Int) (c : Nat → Int) : Prop where
  flat : ∀ (i j : Nat), i ∈ ord → j ∈ ord → (c i = c j ↔ Eqv xs xs i j)
  low : ∀ i ∈ ord, 1 ≤ c i ∧ c i ≤ fin
  rest : (n = -1 ∧ ∀ i, i < xs.length → i ∉ ord → c i = 0) ∨ ∃ cnt : Nat, n = cnt ∧ Part xs ord (fin + 1) cnt c
  fine : ∀ i j, i < xs.length → j < xs.length → i ∉ ord → j ∉ ord → (nd xs i).hd = (nd xs j).hd → kc xs c i = kc xs c j → c i = c j
theorem DInv.round {ord : List Nat} {fin : Nat} {n : Int} {c c' : Nat → Int} {N : List ByteArray} (h : DInv xs ord fin n c) (ho : Topo xs ord) (hc : Closed xs) (hz : ∀ x ∈ xs, ZOk x) (hN : N.Nodup)
    (hflat : ∀ i ∈ ord, c' i = c i) (num : ∀ i, i < xs.length → i ∉ ord → ∃ (q : Nat) (s : ByteArray), c' i = fin + 1 + q ∧ N[q]? = some s ∧ bl s = keyC xs c i)
    (hit : ∀ q, q < N.length → ∃ i, i < xs.length ∧ i ∉ ord ∧ c' i = fin + 1 + (q : Nat)) :
    ((N.length : Int) = n → ∀ i j, i < xs.length → j < xs.length → (c' i = c' j ↔ Eqv xs xs i j)) ∧ ((N.length : Int) ≠ n → n < N.length ∧ DInv xs ord fin N.length c') := by
  have nd' : Numd N (keyC xs c) c' (fin + 1 : Nat) ((List.range xs.length).filter fun i => decide (i ∉ ord)) := fun i hi => by
    simp only [List.mem_filter, List.mem_range, decide_eq_true_eq] at hi
    obtain ⟨q, s, e1, e2⟩ := num i hi.1 hi.2
    exact ⟨q, s, by rw [e1]; rfl, e2⟩
  have mem : ∀ i, i < xs.length → i ∉ ord → i ∈ ((List.range xs.length).filter fun i => decide (i ∉ ord)) := fun i h1 h2 => by simp [h1, h2]
  have iff1 : ∀ i j, i < xs.length → j < xs.length → i ∉ ord → j ∉ ord → (c' i = c' j ↔ (nd xs i).hd = (nd xs j).hd ∧ kc xs c i = kc xs c j) := fun i j hi hj ni nj => by
    rw [nd'.iff hN (mem i hi ni) (mem j hj nj)]; exact keyC_iff hz hi hj
  have flat' : ∀ i j, i ∈ ord → j ∈ ord → (c' i = c' j ↔ Eqv xs xs i j) := fun i j hi hj => by rw [hflat i hi, hflat j hj]; exact h.flat i j hi hj
  have low' : ∀ i ∈ ord, 1 ≤ c' i ∧ c' i ≤ fin := fun i hi => by rw [hflat i hi]; exact h.low i hi
  have high : ∀ i, i < xs.length → i ∉ ord → ((fin + 1 : Nat) : Int) ≤ c' i ∧ c' i < ((fin + 1 : Nat) : Int) + N.length := fun i hi ni => by
    obtain ⟨q, s, e1, e2, _⟩ := num i hi ni
    have := (List.getElem?_eq_some_iff.1 e2).1
    omega
  have side' : ∀ i j, i < xs.length → j < xs.length → c' i = c' j → (i ∈ ord ↔ j ∈ ord) := fun i j hi hj e => by
    constructor
    · intro hm
      refine Classical.byContradiction fun hn => ?_
      have := low' i hm; have := high j hj hn; omega
    · intro hm
      refine Classical.byContradiction fun hn => ?_
      have := low' j hm; have := high i hi hn; omega
  have finer : ∀ i j, i < xs.length → j < xs.length → c' i = c' j → c i = c j := fun i j hi hj e => by
    by_cases hm : i ∈ ord
    · have hm' := (side' i j hi hj e).1 hm
      rw [← hflat i hm, ← hflat j hm']; exact e
    · have hm' : j ∉ ord := fun h => hm ((side' i j hi hj e).2 h)
      obtain ⟨h1, h2⟩ := (iff1 i j hi hj hm hm').1 e
      exact h.fine i j hi hj hm hm' h1 h2
  have fine' : ∀ i j, i < xs.length → j < xs.length → i ∉ ord → j ∉ ord → (nd xs i).hd = (nd xs j).hd → kc xs c' i = kc xs c' j → c' i = c' j := fun i j hi hj ni nj e1 e2 => by
    refine (iff1 i j hi hj ni nj).2 ⟨e1, kc_of (hd_len e1) fun m hm => ?_⟩
    exact finer _ _ (kid_lt hc hi hm) (kid_lt hc hj (by rw [← hd_len e1]; exact hm)) (kc_eq e2 m hm)
  have lowP : ∀ i ∈ ord, 0 ≤ c' i ∧ c' i < ((fin + 1 : Nat) : Int) := fun i hi => by have := low' i hi; omega
  have hit' : ∀ q, q < N.length → ∃ i, i < xs.length ∧ i ∉ ord ∧ c' i = ((fin + 1 : Nat) : Int) + (q : Nat) := fun q hq => by
    obtain ⟨i, h1, h2, h3⟩ := hit q hq
    exact ⟨i, h1, h2, by rw [h3]; rfl⟩
  rcases h.rest with ⟨hn, h0⟩ | ⟨cnt, hn, P⟩
  · refine ⟨fun e => by omega, fun _ => ⟨by omega, flat', low', .inr ⟨_, rfl, ⟨flat', lowP, high, hit', fun i j hi hj ni nj e => ?_, fun i j hi hj ni nj e => ((iff1 i j hi hj ni nj).1 e).1⟩⟩, fine'⟩⟩
    refine (iff1 i j hi hj ni nj).2 ⟨e.head, kc_of (hd_len e.head) fun m hm => ?_⟩
    have hk1 := kid_lt hc hi hm
    have hk2 := kid_lt hc hj (m := m) (by rw [← hd_len e.head]; exact hm)
    have ek := e.kid hm
    by_cases hm1 : kid xs i m ∈ ord
    · exact (h.flat _ _ hm1 ((ho.mem hc hk1 hk2 ek).1 hm1)).2 ek
    · rw [h0 _ hk1 hm1, h0 _ hk2 fun h => hm1 ((ho.mem hc hk1 hk2 ek).2 h)]
  · obtain ⟨P', hle, hfin⟩ := P.step ho hc hflat high hit' fun i j hi hj ni nj => by
      rw [iff1 i j hi hj ni nj]
      exact ⟨fun ⟨h1, h2⟩ => ⟨h.fine i j hi hj ni nj h1 h2, h2⟩, fun ⟨h1, h2⟩ => ⟨P.hd i j hi hj ni nj h1, h2⟩⟩
    exact ⟨fun e => hfin (by omega), fun e => ⟨by omega, flat', low', .inr ⟨_, rfl, P'⟩, fine'⟩⟩
theorem Num1.dinv {T : List ByteArray} {cl : List Int} {ord : List Nat} (h : Num1 xs T cl ord) (ho : Topo xs ord) (hn : T.Nodup) (hz : ∀ x ∈ xs, ZOk x) : DInv xs ord T.length (-1) (ga cl) := by
  refine ⟨h.flat ho hn hz, fun i hi => ?_, .inl ⟨rfl, fun i hi ni => ?_⟩, fun i j hi hj ni nj _ _ => ?_⟩
  · obtain ⟨q, s, e1, e2, _⟩ := h.num i hi
    have := (List.getElem?_eq_some_iff.1 e2).1
    omega
  · exact Classical.byContradiction fun h0 => ni ((h.pos i hi).2 h0)
  · rw [Classical.byContradiction fun h0 => ni ((h.pos i hi).2 h0), Classical.byContradiction fun h0 => nj ((h.pos j hj).2 h0)]
end
end Go.V.Gr

namespace Go.Proofs.YtbiamhoonhjodaaGreatDoor
open Go Go.V Go.Proofs
open Go.RowKit (Below)
/-! manystrand/manystrandref02.Decimal -/
def N91 (x1 : Int) (K : ByteArray → World → Prop) (w : World) : Prop :=
 BoolK (decide ((x1 : Int) < 0))
 (Calls Tryz.prog 91 #[(.int .i64 (IntKind.wrap .i64 (0 - x1)))] w fun e4 w3 =>
 ∃ (s2 : ByteArray), e4 = .returned (.string s2) ∧
 (((((⟨#[45]⟩ : ByteArray) : ByteArray).size + (s2 : ByteArray).size : Nat) : Int) ≤ IntKind.i64.max ∧
 (K (((⟨#[45]⟩ : ByteArray) : ByteArray) ++ (s2 : ByteArray)) w3)))
 (BoolK (decide ((x1 : Int) < 10))
 (AllocK w (#[(.int .u8 (IntKind.wrap .u8 (IntKind.wrap .i64 (48 + x1))))]) 5 fun b5 w6 =>
 ∃ (s7 : ByteArray), ∃ (w8 : World), Sem.run Tryz.prog (convert 110 9 (.slice (some b5) 1 1)) w6 = .ok (.string s7) w8 ∧
 (K s7 w8))
 ((10 : Int) ≠ 0 ∧
 (Calls Tryz.prog 91 #[(.int .i64 (IntKind.wrap .i64 ((x1 : Int).tdiv 10)))] w fun e11 w10 =>
 ∃ (s9 : ByteArray), e11 = .returned (.string s9) ∧
 ((10 : Int) ≠ 0 ∧
 (Calls Tryz.prog 91 #[(.int .i64 ((x1 : Int).tmod 10))] w10 fun e14 w13 =>
 ∃ (s12 : ByteArray), e14 = .returned (.string s12) ∧
 ((((s9 : ByteArray).size + (s12 : ByteArray).size : Nat) : Int) ≤ IntKind.i64.max ∧
 (K ((s9 : ByteArray) ++ (s12 : ByteArray)) w13)))))))
def ann91 : Ann := (.two .nil (.two (.two .nil (.two (.two .nil .nil) .nil)) (.two (.two .nil (.two (.two .nil .nil) .nil)) (.two .nil .nil))))
noncomputable def code91 : Code := match Tryz.f91.body with | some c => c | none => .skip
theorem wp91 (x1 : Int) (K : ByteArray → World → Prop) (w : World) : WP Tryz.prog tab code91 ann91 (fnQ tab Tryz.f91.results.toList [(.one .str)] K) (argE 0 [(.int .i64 x1)]) w = N91 x1 K w := by kernel_rfl
theorem calls91 (x1 : Int) (K : ByteArray → World → Prop) (w : World) (h : N91 x1 K w) : Calls Tryz.prog 91 #[(.int .i64 x1)] w fun en w' => ∃ (s15 : ByteArray), en = .returned (.string s15) ∧ K s15 w' :=
 have e : (fun en w' => ExShs [(.one .str)] fun vs => en = .returned (tupled vs) ∧ ap [(.one .str)] K vs fun p => p w') = (fun (en : Ending) (w' : World) => ∃ (s15 : ByteArray), en = .returned (.string s15) ∧ K s15 w') := by kernel_rfl
 e ▸ fn_sound tabOk mixed Tryz.func91 (by kernel_rfl : Tryz.f91.body = some code91) ann91 [(.int .i64 x1)] [(.one .str)] K w (by kernel_rfl) ((wp91 x1 K w).symm ▸ h)
end Go.Proofs.YtbiamhoonhjodaaGreatDoor

namespace Go.Proofs.YtbiamhoonhjodaaGreatDoor
open Go Go.V Go.Proofs
open Go.RowKit (Below)
/-! manystrand/manystrandref05.ready -/
def N57 (s1 : ByteArray) (x2 : Int) (s3 : ByteArray) (a4 : Option Addr) (l4 : Nat) (c4 : Nat) (a5 : Option Addr) (l5 : Nat) (c5 : Nat) (a6 : Option Addr) (l6 : Nat) (_c6 : Nat) (K : Bool → World → Prop) (w : World) : Prop :=
 AllocK w (#[(.string s1), (.int .i64 x2), (.string s3), (.slice a4 l4 c4), (.slice a5 l5 c5)]) 37 fun b7 w8 =>
 ∃ (I9 : Int → World → Prop) (μ10 : Int → World → Nat),
 (I9 0 w8 ∧ True) ∧
 ∀ (w11 : World) (x12 : Int), I9 x12 w11 →
 ∃ (a13 : Option Addr) (l13 : Nat) (c13 : Nat), w11.cell? (b7.add 4) = some (.slice a13 l13 c13) ∧
 (BoolK (decide ((x12 : Int) < (l13 : Nat)))
 (∃ (a14 : Option Addr) (l14 : Nat) (c14 : Nat), w11.cell? (b7.add 4) = some (.slice a14 l14 c14) ∧
 ((0 ≤ (x12 : Int) ∧ (x12 : Int) < (l14 : Nat)) ∧
 AddrK a14 fun b15 =>
 ∃ (x16 : Int), w11.cell? (b15.add ((x12 : Int).toNat * 1)) = some (.int .i64 x16) ∧
 ((0 ≤ (x16 : Int) ∧ (x16 : Int) < (l6 : Nat)) ∧
 AddrK a6 fun b17 =>
 ∃ (x18 : Int), w11.cell? (b17.add ((x16 : Int).toNat * 1)) = some (.int .i64 x18) ∧
 (BoolK ((x18 : Int) == 0)
 (K false w11)
 (I9 (IntKind.wrap .i64 (x12 + 1)) w11 ∧ μ10 (IntKind.wrap .i64 (x12 + 1)) w11 < μ10 x12 w11)))))
 (K true w11))
def ann57 : Ann := (.two .nil (.two (.two .nil (.one (.loop [(5, (.one (.int .i64)))] [1, 2] (.two (.two .nil (.two .nil .nil)) (.two (.one (.two .nil (.two (.two .nil .nil) .nil))) .nil))))) (.two .nil .nil)))
noncomputable def code57 : Code := match Tryz.f57.body with | some c => c | none => .skip
theorem wp57 (s1 : ByteArray) (x2 : Int) (s3 : ByteArray) (a4 : Option Addr) (l4 : Nat) (c4 : Nat) (a5 : Option Addr) (l5 : Nat) (c5 : Nat) (a6 : Option Addr) (l6 : Nat) (c6 : Nat) (K : Bool → World → Prop) (w : World) : WP Tryz.prog tab code57 ann57 (fnQ tab Tryz.f57.results.toList [(.one .bool)] K) (argE 0 [(.agg #[(.string s1), (.int .i64 x2), (.string s3), (.slice a4 l4 c4), (.slice a5 l5 c5)]), (.slice a6 l6 c6)]) w = N57 s1 x2 s3 a4 l4 c4 a5 l5 c5 a6 l6 c6 K w := by kernel_rfl
theorem calls57 (s1 : ByteArray) (x2 : Int) (s3 : ByteArray) (a4 : Option Addr) (l4 : Nat) (c4 : Nat) (a5 : Option Addr) (l5 : Nat) (c5 : Nat) (a6 : Option Addr) (l6 : Nat) (c6 : Nat) (K : Bool → World → Prop) (w : World) (h : N57 s1 x2 s3 a4 l4 c4 a5 l5 c5 a6 l6 c6 K w) : Calls Tryz.prog 57 #[(.agg #[(.string s1), (.int .i64 x2), (.string s3), (.slice a4 l4 c4), (.slice a5 l5 c5)]), (.slice a6 l6 c6)] w fun en w' => ∃ (p19 : Bool), en = .returned (.bool p19) ∧ K p19 w' :=
 have e : (fun en w' => ExShs [(.one .bool)] fun vs => en = .returned (tupled vs) ∧ ap [(.one .bool)] K vs fun p => p w') = (fun (en : Ending) (w' : World) => ∃ (p19 : Bool), en = .returned (.bool p19) ∧ K p19 w') := by kernel_rfl
 e ▸ fn_sound tabOk mixed Tryz.func57 (by kernel_rfl : Tryz.f57.body = some code57) ann57 [(.agg #[(.string s1), (.int .i64 x2), (.string s3), (.slice a4 l4 c4), (.slice a5 l5 c5)]), (.slice a6 l6 c6)] [(.one .bool)] K w (by kernel_rfl) ((wp57 s1 x2 s3 a4 l4 c4 a5 l5 c5 a6 l6 c6 K w).symm ▸ h)
end Go.Proofs.YtbiamhoonhjodaaGreatDoor

namespace Go.Proofs.YtbiamhoonhjodaaGreatDoor
open Go Go.V Go.Proofs
open Go.RowKit (Below)
/-! manystrand/manystrandref05.key -/
def N58 (s1 : ByteArray) (x2 : Int) (s3 : ByteArray) (a4 : Option Addr) (l4 : Nat) (c4 : Nat) (a5 : Option Addr) (l5 : Nat) (c5 : Nat) (a6 : Option Addr) (l6 : Nat) (_c6 : Nat) (K : ByteArray → World → Prop) (w : World) : Prop :=
 AllocK w (#[(.string s1), (.int .i64 x2), (.string s3), (.slice a4 l4 c4), (.slice a5 l5 c5)]) 37 fun b7 w8 =>
 DrewK w8 fun w9 =>
 ∃ (s10 : ByteArray), w9.cell? b7 = some (.string s10) ∧
 ((((s10 : ByteArray).size + ((⟨#[0]⟩ : ByteArray) : ByteArray).size : Nat) : Int) ≤ IntKind.i64.max ∧
 (∃ (x11 : Int), w9.cell? (b7.add 1) = some (.int .i64 x11) ∧
 (∃ (s12 : ByteArray), w9.cell? (b7.add 2) = some (.string s12) ∧
 (Calls Tryz.prog 91 #[(.int .i64 x11)] w9 fun e15 w14 =>
 ∃ (s13 : ByteArray), e15 = .returned (.string s13) ∧
 (Cel w9 w14 ∧
 (((((s10 : ByteArray) ++ ((⟨#[0]⟩ : ByteArray) : ByteArray) : ByteArray).size + (s13 : ByteArray).size : Nat) : Int) ≤ IntKind.i64.max ∧
 ((((((s10 : ByteArray) ++ ((⟨#[0]⟩ : ByteArray) : ByteArray) : ByteArray) ++ (s13 : ByteArray) : ByteArray).size + ((⟨#[0]⟩ : ByteArray) : ByteArray).size : Nat) : Int) ≤ IntKind.i64.max ∧
 (((((((s10 : ByteArray) ++ ((⟨#[0]⟩ : ByteArray) : ByteArray) : ByteArray) ++ (s13 : ByteArray) : ByteArray) ++ ((⟨#[0]⟩ : ByteArray) : ByteArray) : ByteArray).size + (s12 : ByteArray).size : Nat) : Int) ≤ IntKind.i64.max ∧
 ((((((((s10 : ByteArray) ++ ((⟨#[0]⟩ : ByteArray) : ByteArray) : ByteArray) ++ (s13 : ByteArray) : ByteArray) ++ ((⟨#[0]⟩ : ByteArray) : ByteArray) : ByteArray) ++ (s12 : ByteArray) : ByteArray).size + ((⟨#[0]⟩ : ByteArray) : ByteArray).size : Nat) : Int) ≤ IntKind.i64.max ∧
 (∃ (I16 : ByteArray → Int → World → Prop) (μ17 : ByteArray → Int → World → Nat),
 (I16 ((((((s10 : ByteArray) ++ ((⟨#[0]⟩ : ByteArray) : ByteArray) : ByteArray) ++ (s13 : ByteArray) : ByteArray) ++ ((⟨#[0]⟩ : ByteArray) : ByteArray) : ByteArray) ++ (s12 : ByteArray) : ByteArray) ++ ((⟨#[0]⟩ : ByteArray) : ByteArray)) 0 w14 ∧ True) ∧
 ∀ (w18 : World) (s19 : ByteArray) (x20 : Int), I16 s19 x20 w18 →
 ∃ (a21 : Option Addr) (l21 : Nat) (c21 : Nat), w18.cell? (b7.add 4) = some (.slice a21 l21 c21) ∧
 (BoolK (decide ((x20 : Int) < (l21 : Nat)))
 (DrewK w18 fun w22 =>
 ∃ (a23 : Option Addr) (l23 : Nat) (c23 : Nat), w22.cell? (b7.add 3) = some (.slice a23 l23 c23) ∧
 ((0 ≤ (x20 : Int) ∧ (x20 : Int) < (l23 : Nat)) ∧
 AddrK a23 fun b24 =>
 ∃ (x25 : Int), w22.cell? (b24.add ((x20 : Int).toNat * 2)) = some (.int .i64 x25) ∧
 (∃ (a26 : Option Addr) (l26 : Nat) (c26 : Nat), w22.cell? (b7.add 3) = some (.slice a26 l26 c26) ∧
 ((0 ≤ (x20 : Int) ∧ (x20 : Int) < (l26 : Nat)) ∧
 AddrK a26 fun b27 =>
 ∃ (s28 : ByteArray), w22.cell? ((b27.add ((x20 : Int).toNat * 2)).add 1) = some (.string s28) ∧
 (∃ (a29 : Option Addr) (l29 : Nat) (c29 : Nat), w22.cell? (b7.add 4) = some (.slice a29 l29 c29) ∧
 ((0 ≤ (x20 : Int) ∧ (x20 : Int) < (l29 : Nat)) ∧
 AddrK a29 fun b30 =>
 ∃ (x31 : Int), w22.cell? (b30.add ((x20 : Int).toNat * 1)) = some (.int .i64 x31) ∧
 ((0 ≤ (x31 : Int) ∧ (x31 : Int) < (l6 : Nat)) ∧
 AddrK a6 fun b32 =>
 ∃ (x33 : Int), w22.cell? (b32.add ((x31 : Int).toNat * 1)) = some (.int .i64 x33) ∧
 (Calls Tryz.prog 91 #[(.int .i64 x25)] w22 fun e36 w35 =>
 ∃ (s34 : ByteArray), e36 = .returned (.string s34) ∧
 (Cel w22 w35 ∧
 ((((s34 : ByteArray).size + ((⟨#[0]⟩ : ByteArray) : ByteArray).size : Nat) : Int) ≤ IntKind.i64.max ∧
 (((((s34 : ByteArray) ++ ((⟨#[0]⟩ : ByteArray) : ByteArray) : ByteArray).size + (s28 : ByteArray).size : Nat) : Int) ≤ IntKind.i64.max ∧
 ((((((s34 : ByteArray) ++ ((⟨#[0]⟩ : ByteArray) : ByteArray) : ByteArray) ++ (s28 : ByteArray) : ByteArray).size + ((⟨#[0]⟩ : ByteArray) : ByteArray).size : Nat) : Int) ≤ IntKind.i64.max ∧
 (Calls Tryz.prog 91 #[(.int .i64 x33)] w35 fun e39 w38 =>
 ∃ (s37 : ByteArray), e39 = .returned (.string s37) ∧
 (Cel w22 w38 ∧
 (((((((s34 : ByteArray) ++ ((⟨#[0]⟩ : ByteArray) : ByteArray) : ByteArray) ++ (s28 : ByteArray) : ByteArray) ++ ((⟨#[0]⟩ : ByteArray) : ByteArray) : ByteArray).size + (s37 : ByteArray).size : Nat) : Int) ≤ IntKind.i64.max ∧
 ((((((((s34 : ByteArray) ++ ((⟨#[0]⟩ : ByteArray) : ByteArray) : ByteArray) ++ (s28 : ByteArray) : ByteArray) ++ ((⟨#[0]⟩ : ByteArray) : ByteArray) : ByteArray) ++ (s37 : ByteArray) : ByteArray).size + ((⟨#[0]⟩ : ByteArray) : ByteArray).size : Nat) : Int) ≤ IntKind.i64.max ∧
 ((((s19 : ByteArray).size + ((((((s34 : ByteArray) ++ ((⟨#[0]⟩ : ByteArray) : ByteArray) : ByteArray) ++ (s28 : ByteArray) : ByteArray) ++ ((⟨#[0]⟩ : ByteArray) : ByteArray) : ByteArray) ++ (s37 : ByteArray) : ByteArray) ++ ((⟨#[0]⟩ : ByteArray) : ByteArray) : ByteArray).size : Nat) : Int) ≤ IntKind.i64.max ∧
 (I16 ((s19 : ByteArray) ++ ((((((s34 : ByteArray) ++ ((⟨#[0]⟩ : ByteArray) : ByteArray) : ByteArray) ++ (s28 : ByteArray) : ByteArray) ++ ((⟨#[0]⟩ : ByteArray) : ByteArray) : ByteArray) ++ (s37 : ByteArray) : ByteArray) ++ ((⟨#[0]⟩ : ByteArray) : ByteArray) : ByteArray)) (IntKind.wrap .i64 (x20 + 1)) w38 ∧ μ17 ((s19 : ByteArray) ++ ((((((s34 : ByteArray) ++ ((⟨#[0]⟩ : ByteArray) : ByteArray) : ByteArray) ++ (s28 : ByteArray) : ByteArray) ++ ((⟨#[0]⟩ : ByteArray) : ByteArray) : ByteArray) ++ (s37 : ByteArray) : ByteArray) ++ ((⟨#[0]⟩ : ByteArray) : ByteArray) : ByteArray)) (IntKind.wrap .i64 (x20 + 1)) w38 < μ17 s19 x20 w18))))))))))))))))))
 (K s19 w18))))))))))))
def ann58 : Ann := (.two .nil (.two (.anyC 13 (.take 0 (.take 1 (.take 2 (.take 3 (.take 4 (.take 8 (.take 9 (.one 5 (.take 6 (.take 7 (.take 10 (.take 11 (.take 12 .done)))))))))))))) (.two (.two .nil (.one (.loop [(5, (.one .str)), (6, (.one (.int .i64)))] [1, 2] (.two (.two .nil (.two .nil .nil)) (.two (.one (.anyC 30 (.take 0 (.take 1 (.take 2 (.take 3 (.take 4 (.take 5 (.take 6 (.take 9 (.take 10 (.take 11 (.take 12 (.take 13 (.take 14 (.take 17 (.take 18 (.take 19 (.take 20 (.take 21 (.take 22 (.take 23 (.take 24 (.one 7 (.take 8 (.take 15 (.take 16 (.one 25 (.take 26 (.take 27 (.take 28 (.take 29 .done)))))))))))))))))))))))))))))))) .nil))))) (.two .nil .nil))))
noncomputable def code58 : Code := match Tryz.f58.body with | some c => c | none => .skip
theorem wp58 (s1 : ByteArray) (x2 : Int) (s3 : ByteArray) (a4 : Option Addr) (l4 : Nat) (c4 : Nat) (a5 : Option Addr) (l5 : Nat) (c5 : Nat) (a6 : Option Addr) (l6 : Nat) (c6 : Nat) (K : ByteArray → World → Prop) (w : World) : WP Tryz.prog tab code58 ann58 (fnQ tab Tryz.f58.results.toList [(.one .str)] K) (argE 0 [(.agg #[(.string s1), (.int .i64 x2), (.string s3), (.slice a4 l4 c4), (.slice a5 l5 c5)]), (.slice a6 l6 c6)]) w = N58 s1 x2 s3 a4 l4 c4 a5 l5 c5 a6 l6 c6 K w := by kernel_rfl
theorem calls58 (s1 : ByteArray) (x2 : Int) (s3 : ByteArray) (a4 : Option Addr) (l4 : Nat) (c4 : Nat) (a5 : Option Addr) (l5 : Nat) (c5 : Nat) (a6 : Option Addr) (l6 : Nat) (c6 : Nat) (K : ByteArray → World → Prop) (w : World) (h : N58 s1 x2 s3 a4 l4 c4 a5 l5 c5 a6 l6 c6 K w) : Calls Tryz.prog 58 #[(.agg #[(.string s1), (.int .i64 x2), (.string s3), (.slice a4 l4 c4), (.slice a5 l5 c5)]), (.slice a6 l6 c6)] w fun en w' => ∃ (s40 : ByteArray), en = .returned (.string s40) ∧ K s40 w' :=
 have e : (fun en w' => ExShs [(.one .str)] fun vs => en = .returned (tupled vs) ∧ ap [(.one .str)] K vs fun p => p w') = (fun (en : Ending) (w' : World) => ∃ (s40 : ByteArray), en = .returned (.string s40) ∧ K s40 w') := by kernel_rfl
 e ▸ fn_sound tabOk mixed Tryz.func58 (by kernel_rfl : Tryz.f58.body = some code58) ann58 [(.agg #[(.string s1), (.int .i64 x2), (.string s3), (.slice a4 l4 c4), (.slice a5 l5 c5)]), (.slice a6 l6 c6)] [(.one .str)] K w (by kernel_rfl) ((wp58 s1 x2 s3 a4 l4 c4 a5 l5 c5 a6 l6 c6 K w).symm ▸ h)
end Go.Proofs.YtbiamhoonhjodaaGreatDoor

namespace Go.Proofs.YtbiamhoonhjodaaGreatDoor
open Go Go.V Go.Proofs Go.V.Gr
open Go.RowKit (Below)
theorem sizeA (p q : ByteArray) : (p ++ q).size = p.size + q.size := by rw [← bl_size, ← bl_size, ← bl_size, bl_append, List.length_append]
theorem itoa_nat (n : Nat) : Lib.itoa (n : Int) = Lib.decDigits n := by rw [Lib.itoa, if_neg (by omega)]; rfl
theorem itoa_neg {n : Int} (h : n < 0) : Lib.itoa n = 45 :: Lib.itoa (-n) := by
  rw [Lib.itoa, if_pos h, Lib.itoa, if_neg (by omega)]
  congr 2; omega
theorem decimal_nat (n : Nat) : n < 9223372036854775808 → ∀ w : World, Calls Tryz.prog 91 #[.int .i64 (n : Int)] w fun en w' => ∃ s, en = .returned (.string s) ∧ (bl s = Lib.itoa n ∧ Ext w w') := by
  induction n using Nat.strongRecOn with
  | _ n ih =>
    intro h w
    refine calls91 _ _ w ?_
    refine BoolK.mk (fun t => by simp at t; omega) (fun _ => BoolK.mk (fun t => ?_) (fun t => ?_))
    · have h10 : n < 10 := by simp at t; omega
      refine AllocK.mk fun b w6 _ hb hx => ⟨_, _, run_byteString Tryz.underlying110 Tryz.underlying5 Tryz.underlying9 hb, ?_, hx⟩
      rw [wrap_id (by omega) (by omega), IntKind.wrap_u8', itoa_nat, decDigits_step, if_pos h10, bl_mk]
      have : ((48 + (n : Int)) % 256).toNat = 48 + n := by omega
      rw [this]
    · have h10 : 10 ≤ n := by simp at t; omega
      have e1 : ((n : Int)).tdiv 10 = ((n / 10 : Nat) : Int) := rfl
      have e2 : ((n : Int)).tmod 10 = ((n % 10 : Nat) : Int) := rfl
      rw [e1, e2, wrap_id (x := ((n / 10 : Nat) : Int)) (by omega) (by omega)]
      refine ⟨by omega, (ih (n / 10) (by omega) (by omega) w).mono ?_⟩
      rintro en w3 ⟨s, rfl, hs, hx3⟩
      refine ⟨_, rfl, by omega, (ih (n % 10) (by omega) (by omega) w3).mono ?_⟩
      rintro en w6 ⟨s', rfl, hs', hx6⟩
      refine ⟨_, rfl, ?_, ?_, hx3.trans hx6⟩
      · rw [i64max, ← bl_size, ← bl_size, hs, hs']
        have a1 := itoa_len (n := ((n / 10 : Nat) : Int)) ⟨by omega, by omega⟩
        have a2 := itoa_len (n := ((n % 10 : Nat) : Int)) ⟨by omega, by omega⟩
        omega
      · rw [bl_append, hs, hs', itoa_nat, itoa_nat, itoa_nat]
        conv => rhs; rw [decDigits_step, if_neg (by omega)]
        rw [decDigits_step (n % 10), if_pos (by omega)]
theorem c91 (w : World) {n : Int} (h0 : -9223372036854775808 < n) (h1 : n ≤ 9223372036854775807) : Calls Tryz.prog 91 #[.int .i64 n] w fun en w' => ∃ s, en = .returned (.string s) ∧ (bl s = Lib.itoa n ∧ Ext w w') := by
  by_cases h : n < 0
  · refine calls91 _ _ w ?_
    refine BoolK.mk (fun _ => ?_) (fun t => by simp at t; omega)
    have e : ((-n).toNat : Int) = -n := by omega
    rw [wrap_id (by omega) (by omega), show (0 - n : Int) = ((-n).toNat : Int) by omega]
    refine (decimal_nat (-n).toNat (by omega) w).mono ?_
    rintro en w3 ⟨s, rfl, hs, hx⟩
    refine ⟨_, rfl, ?_, ?_, hx⟩
    · have := itoa_len (n := (((-n).toNat : Nat) : Int)) ⟨by omega, by omega⟩
      rw [i64max, ← bl_size, ← bl_size, hs]
      show ((1 + _ : Nat) : Int) ≤ _; omega
    · rw [bl_append, hs, itoa_neg h, e]; rfl
  · have := decimal_nat n.toNat (by omega) w
    rwa [show ((n.toNat : Nat) : Int) = n by omega] at this
section
variable {w : World}
theorem c57 (x : Nd) {a4 a5 a6 : Option Addr} {l4 l5 l6 : Nat} (c4 c5 c6 : Nat) {cl : List Int} (hks : RL 1 RInt w a5 l5 x.ks) (hcl : Ints w a6 l6 cl) (hin : ∀ k ∈ x.ks, 0 ≤ k ∧ k < cl.length) :
    Calls Tryz.prog 57 #[.agg #[.string x.kd, .int .i64 x.n, .string x.tx, .slice a4 l4 c4, .slice a5 l5 c5], .slice a6 l6 c6] w fun en w' => ∃ p, en = .returned (.bool p) ∧ ((p = true ↔ ∀ k ∈ x.ks, ga cl k.toNat ≠ 0) ∧ Ext w w') := by
  refine calls57 _ _ _ _ _ _ _ _ _ _ _ _ _ w ?_
  have e5 := hks.len; have m5 := hks.2; have e6 := hcl.1
  simp only [maxLen] at m5
  refine AllocK.mk fun b w8 hb hB x8 => ?_
  refine ⟨fun i w' => ∃ k : Nat, i = k ∧ k ≤ x.ks.length ∧ w' = w8 ∧ ∀ (i : Nat) (f : Int), i < k → x.ks[i]? = some f → ga cl f.toNat ≠ 0, fun i _ => x.ks.length - i.toNat, ⟨⟨0, rfl, by omega, rfl, fun i f hi => by omega⟩, trivial⟩, ?_⟩
  rintro w11 _ ⟨k, rfl, hk, rfl, hall⟩
  obtain ⟨_, _, _, _, g4⟩ := blkAt5 hB (Ext.refl w11)
  refine ⟨_, _, _, g4, BoolK.mk (fun t => ?_) (fun t => ?_)⟩
  · have hlt : k < x.ks.length := by have := of_decide_eq_true t; omega
    obtain ⟨b1, ha, q0⟩ := ksAt hks x8 hlt
    have hk2 := hin _ (List.getElem_mem hlt)
    have hlt3 : x.ks[k].toNat < cl.length := by omega
    obtain ⟨b2, o2, ha2, r1⟩ := (hcl.ext RInt.mono x8).get hlt3
    refine ⟨_, _, _, g4, ⟨by omega, by omega⟩, adK ha ⟨_, q0, ⟨by omega, by omega⟩, adK ha2 ⟨cl[x.ks[k].toNat], by rw [add_mk]; simpa [RInt] using r1, BoolK.mk (fun t1 => ⟨not_iff_false fun h => ?_, x8⟩) (fun t1 => ?_)⟩⟩⟩
    · have := h _ (List.getElem_mem hlt)
      rw [ga_get hlt3] at this
      exact this (eq_of_beq t1)
    · rw [wrap_succ (by omega)]
      refine ⟨⟨k + 1, rfl, by omega, rfl, fun i f hi hf => ?_⟩, by simp; omega⟩
      rcases Nat.lt_or_ge i k with h | h
      · exact hall i f h hf
      · have : i = k := by omega
        subst this
        rw [List.getElem?_eq_getElem hlt] at hf; cases hf
        rw [ga_get hlt3]
        exact fun e => by rw [e] at t1; simp at t1
  · have : k = x.ks.length := by have := of_decide_eq_false t; omega
    subst this
    refine ⟨⟨fun _ f hf => ?_, fun _ => rfl⟩, x8⟩
    obtain ⟨i, hi⟩ := List.getElem?_of_mem hf
    exact hall i f (List.getElem?_eq_some_iff.1 hi).1 hi
end
structure DOk (x : Nd) : Prop where
  hd : HdOk x
  n : -9223372036854775808 < x.n
  fs : ∀ f ∈ x.fs, -9223372036854775808 < f.1
  ks : x.ks.length = x.fs.length
theorem partsD_snoc : ∀ {fs : List Ft} {cs : List Int} {f : Ft} {c : Int}, fs.length = cs.length → partsD (fs ++ [f]) (cs ++ [c]) = partsD fs cs ++ (Lib.itoa f.1 ++ (0 :: (bl f.2 ++ (0 :: (Lib.itoa c ++ [0])))))
  | [], [], f, c, _ => by simp [partsD]
  | g :: fs, d :: cs, f, c, h => by
    simp only [List.cons_append, partsD]
    rw [partsD_snoc (by simpa using h)]
    simp
  | [], _ :: _, _, _, h => by simp at h
  | _ :: _, [], _, _, h => by simp at h
set_option maxRecDepth 100000 in
theorem c58 (w : World) (x : Nd) {a4 a5 a6 : Option Addr} {l4 l5 l6 : Nat} (c4 c5 c6 : Nat) {cl : List Int} (hx : DOk x) (hfs : RL 2 RFt w a4 l4 x.fs) (hks : RL 1 RInt w a5 l5 x.ks) (hcl : Ints w a6 l6 cl) (hin : ∀ k ∈ x.ks, 0 ≤ k ∧ k < cl.length) (hc0 : ∀ c ∈ cl, 0 ≤ c ∧ c ≤ 9223372036854775807) :
    Calls Tryz.prog 58 #[.agg #[.string x.kd, .int .i64 x.n, .string x.tx, .slice a4 l4 c4, .slice a5 l5 c5], .slice a6 l6 c6] w fun en w' => ∃ s, en = .returned (.string s) ∧ (bl s = keyD x (x.ks.map fun k => ga cl k.toNat) ∧ Ext w w') := by
  refine calls58 _ _ _ _ _ _ _ _ _ _ _ _ _ w ?_
  have e4 := hfs.len; have e5 := hks.len; have e6 := hcl.1; have m4 := hfs.2; have m5 := hks.2
  simp only [maxLen] at m4 m5
  obtain ⟨⟨hkd, hn, htx, hff, hfl⟩, hn0, hf0, hkl⟩ := hx
  have z1 : (⟨#[0]⟩ : ByteArray).size = 1 := rfl
  have b1 : bl (⟨#[0]⟩ : ByteArray) = [0] := rfl
  refine AllocK.mk fun b w8 hb hB x8 => DrewK.mk fun w9 x9 => ?_
  have y9 := x8.trans x9
  obtain ⟨g0, g1, g2, g3, g4⟩ := blkAt5 hB x9
  have ht2 := htx.2
  refine ⟨_, g0, by rw [i64max, z1]; omega, _, g1, _, g2, (c91 w9 hn0 hn.2).mono ?_⟩
  rintro en w14 ⟨s13, rfl, hs13, x14⟩
  have y14 := y9.trans x14
  have z13 : s13.size ≤ 21 := by rw [← bl_size, hs13]; exact itoa_len hn
  refine ⟨_, rfl, Below.cel x14, by rw [i64max, sizeA, z1]; omega, by rw [i64max, sizeA, sizeA, z1]; omega, by rw [i64max, sizeA, sizeA, sizeA, z1]; omega, by rw [i64max, sizeA, sizeA, sizeA, sizeA, z1]; omega, ?_⟩
  generalize hpre : ((((x.kd ++ (⟨#[0]⟩ : ByteArray)) ++ s13) ++ (⟨#[0]⟩ : ByteArray)) ++ x.tx) ++ (⟨#[0]⟩ : ByteArray) = pre
  have hp1 : bl pre = headD x := by rw [← hpre]; simp only [bl_append, hs13, b1, headD]; simp
  have hp2 : pre.size ≤ 200 := by rw [← hpre]; simp only [sizeA, z1]; omega
  refine ⟨fun s i w' => ∃ k : Nat, i = k ∧ k ≤ x.ks.length ∧ Ext w9 w' ∧ bl s = headD x ++ partsD (x.fs.take k) ((x.ks.map fun k => ga cl k.toNat).take k) ∧ s.size ≤ 200 + 200 * k, fun _ i _ => x.ks.length - i.toNat, ⟨⟨0, rfl, by omega, x14, by simp [partsD, hp1], by omega⟩, trivial⟩, ?_⟩
  rintro w18 s _ ⟨k, rfl, hk, x18, hs, hz⟩
  obtain ⟨_, _, _, _, g4⟩ := blkAt5 hB (x9.trans x18)
  refine ⟨_, _, _, g4, BoolK.mk (fun t => ?_) (fun t => ?_)⟩
  · have hlt : k < x.ks.length := by have := of_decide_eq_true t; omega
    have hltf : k < x.fs.length := by omega
    refine DrewK.mk fun w22 x22 => ?_
    have x22 := x18.trans x22
    have y22 := y9.trans x22
    obtain ⟨_, _, _, g3, g4⟩ := blkAt5 hB (x9.trans x22)
    obtain ⟨bf, ha, q0, q1, _⟩ := ftAt hfs y22 hltf
    obtain ⟨bk, hb2, r0⟩ := ksAt hks y22 hlt
    have hk2 := hin _ (List.getElem_mem hlt)
    have hlt3 : x.ks[k].toNat < cl.length := by omega
    obtain ⟨b3, o3, ha3, u1⟩ := (hcl.ext RInt.mono y22).get hlt3
    have hc := hc0 _ (List.getElem_mem hlt3)
    have hf := hff _ (List.getElem_mem hltf)
    have hfm := hf0 _ (List.getElem_mem hltf)
    have hft := hf.1.2
    have q0' : w22.cell? (bf.add (((k : Nat) : Int).toNat * 2)) = some (.int .i64 x.fs[k].1) := by
      obtain ⟨b', o', ha', h0', _⟩ := (hfs.1.ext RFt.mono y22).get hltf
      rw [ha] at ha'; cases ha'
      rw [Int.toNat_natCast, add_mk]; exact h0'
    refine ⟨_, _, _, g3, ⟨by omega, by omega⟩, adK ha ⟨_, q0', _, _, _, g3, ⟨by omega, by omega⟩, adK ha ⟨_, q1, _, _, _, g4, ⟨by omega, by omega⟩, adK hb2 ⟨_, r0, ⟨by omega, by omega⟩, adK ha3 ⟨cl[x.ks[k].toNat], by rw [add_mk]; simpa [RInt] using u1, ?_⟩⟩⟩⟩⟩
    refine (c91 w22 hfm hf.2.2).mono ?_
    rintro en w35 ⟨s34, rfl, hs34, x35⟩
    have z34 : s34.size ≤ 21 := by rw [← bl_size, hs34]; exact itoa_len hf.2
    refine ⟨_, rfl, Below.cel x35, by rw [i64max, z1]; omega, by rw [i64max, sizeA, z1]; omega, by rw [i64max, sizeA, sizeA, z1]; omega, (c91 w35 (n := cl[x.ks[k].toNat]) (by omega) hc.2).mono ?_⟩
    rintro en w38 ⟨s37, rfl, hs37, x38⟩
    have z37 : s37.size ≤ 21 := by rw [← bl_size, hs37]; exact itoa_len ⟨by omega, hc.2⟩
    refine ⟨_, rfl, Below.cel (x35.trans x38), by rw [i64max, sizeA, sizeA, sizeA, z1]; omega, by rw [i64max, sizeA, sizeA, sizeA, sizeA, z1]; omega, by rw [i64max, sizeA, sizeA, sizeA, sizeA, sizeA, z1]; omega, ?_⟩
    rw [wrap_succ (by omega)]
    refine ⟨⟨k + 1, rfl, by omega, (x22.trans x35).trans x38, ?_, ?_⟩, by simp; omega⟩
    · rw [List.take_add_one, List.getElem?_eq_getElem hltf, List.take_add_one, List.getElem?_map, List.getElem?_eq_getElem hlt]
      simp only [Option.map_some, Option.toList_some]
      rw [partsD_snoc (by simp; omega), ga_get hlt3]
      simp only [bl_append, hs, hs34, hs37, b1]; simp
    · simp only [sizeA, z1]; omega
  · have : k = x.ks.length := by have := of_decide_eq_false t; omega
    subst this
    rw [List.take_of_length_le (by omega), List.take_of_length_le (by simp)] at hs
    exact ⟨hs, y9.trans x18⟩
end Go.Proofs.YtbiamhoonhjodaaGreatDoor

namespace Go.Proofs.YtbiamhoonhjodaaGreatDoor
open Go Go.V Go.Proofs
open Go.RowKit (Below)
/-! manystrand/manystrandref05.Classes -/
def N31 (a1 : Option Addr) (l1 : Nat) (_c1 : Nat) (K : Option Addr → Nat → Nat → World → Prop) (w : World) : Prop :=
 (0 ≤ ((l1 : Nat) : Int) ∧ ((l1 : Nat) : Int) ≤ (l1 : Nat) ∧ ((8 : Nat) : Int) * (l1 : Nat) ≤ 281474976710656 ∧ ((l1 : Nat) : Int) ≤ 9223372036854775807) ∧
 AllocK w (madeCells (#[.int .i64 0]) (((l1 : Nat) : Int).toNat * 1)) 3 fun b2 w3 =>
 ∃ (m4 : Option Nat), ∃ (w5 : World), Sem.run Tryz.prog (Instr.makeMap 53 none) w3 = .ok (.map m4) w5 ∧
 (∃ (I6 : Bool → World → Prop) (μ7 : Bool → World → Nat),
 (I6 true w5 ∧ True) ∧
 ∀ (w8 : World) (p9 : Bool), I6 p9 w8 →
 BoolK p9
 (∃ (I10 : Bool → Int → World → Prop) (μ11 : Bool → Int → World → Nat),
 (I10 false (IntKind.wrap .i64 ((l1 : Nat) - 1)) w8 ∧ True) ∧
 ∀ (w12 : World) (p13 : Bool) (x14 : Int), I10 p13 x14 w12 →
 BoolK (decide ((x14 : Int) ≥ 0))
 ((0 ≤ (x14 : Int) ∧ (x14 : Int) < (((l1 : Nat) : Int).toNat : Nat)) ∧
 ∃ (x15 : Int), w12.cell? (b2.add ((x14 : Int).toNat * 1)) = some (.int .i64 x15) ∧
 (BoolK (decide ((x15 : Int) > 0))
 (I10 p13 (IntKind.wrap .i64 (x14 - 1)) w12 ∧ μ11 p13 (IntKind.wrap .i64 (x14 - 1)) w12 < μ11 p13 x14 w12)
 ((0 ≤ (x14 : Int) ∧ (x14 : Int) < (l1 : Nat)) ∧
 AddrK a1 fun b16 =>
 ∃ (s17 : ByteArray), w12.cell? ((b16.add ((x14 : Int).toNat * 5)).add 0) = some (.string s17) ∧
 (∃ (x18 : Int), w12.cell? ((b16.add ((x14 : Int).toNat * 5)).add 1) = some (.int .i64 x18) ∧
 (∃ (s19 : ByteArray), w12.cell? ((b16.add ((x14 : Int).toNat * 5)).add 2) = some (.string s19) ∧
 (∃ (a20 : Option Addr) (l20 : Nat) (c20 : Nat), w12.cell? ((b16.add ((x14 : Int).toNat * 5)).add 3) = some (.slice a20 l20 c20) ∧
 (∃ (a21 : Option Addr) (l21 : Nat) (c21 : Nat), w12.cell? ((b16.add ((x14 : Int).toNat * 5)).add 4) = some (.slice a21 l21 c21) ∧
 (Calls Tryz.prog 57 #[(.agg #[(.string s17), (.int .i64 x18), (.string s19), (.slice a20 l20 c20), (.slice a21 l21 c21)]), (.slice (some b2) (((l1 : Nat) : Int).toNat) (((l1 : Nat) : Int).toNat))] w12 fun e24 w23 =>
 ∃ (p22 : Bool), e24 = .returned (.bool p22) ∧
 (BoolK (!p22)
 (I10 p13 (IntKind.wrap .i64 (x14 - 1)) w23 ∧ μ11 p13 (IntKind.wrap .i64 (x14 - 1)) w23 < μ11 p13 x14 w12)
 ((0 ≤ (x14 : Int) ∧ (x14 : Int) < (l1 : Nat)) ∧
 AddrK a1 fun b25 =>
 ∃ (s26 : ByteArray), w23.cell? ((b25.add ((x14 : Int).toNat * 5)).add 0) = some (.string s26) ∧
 (∃ (x27 : Int), w23.cell? ((b25.add ((x14 : Int).toNat * 5)).add 1) = some (.int .i64 x27) ∧
 (∃ (s28 : ByteArray), w23.cell? ((b25.add ((x14 : Int).toNat * 5)).add 2) = some (.string s28) ∧
 (∃ (a29 : Option Addr) (l29 : Nat) (c29 : Nat), w23.cell? ((b25.add ((x14 : Int).toNat * 5)).add 3) = some (.slice a29 l29 c29) ∧
 (∃ (a30 : Option Addr) (l30 : Nat) (c30 : Nat), w23.cell? ((b25.add ((x14 : Int).toNat * 5)).add 4) = some (.slice a30 l30 c30) ∧
 (Calls Tryz.prog 58 #[(.agg #[(.string s26), (.int .i64 x27), (.string s28), (.slice a29 l29 c29), (.slice a30 l30 c30)]), (.slice (some b2) (((l1 : Nat) : Int).toNat) (((l1 : Nat) : Int).toNat))] w23 fun e33 w32 =>
 ∃ (s31 : ByteArray), e33 = .returned (.string s31) ∧
 (∃ (x34 : Int), ∃ (w35 : World), Sem.run Tryz.prog (Instr.lookup 53 (.map m4) (.string s31) false) w32 = .ok (.int .i64 x34) w35 ∧
 (BoolK ((x34 : Int) == 0)
 (∃ (x36 : Int), ∃ (w37 : World), Sem.run Tryz.prog (Builtin.len_ #[53] 3 #[(.map m4)]) w35 = .ok (.int .i64 x36) w37 ∧
 (∃ (w38 : World), Sem.run Tryz.prog (Instr.mapUpdate 53 (.map m4) (.string s31) (.int .i64 (IntKind.wrap .i64 (x36 + 1)))) w37 = .ok () w38 ∧
 (∃ (x39 : Int), ∃ (w40 : World), Sem.run Tryz.prog (Instr.lookup 53 (.map m4) (.string s31) false) w38 = .ok (.int .i64 x39) w40 ∧
 ((0 ≤ (x14 : Int) ∧ (x14 : Int) < (((l1 : Nat) : Int).toNat : Nat)) ∧
 SetK w40 (b2.add ((x14 : Int).toNat * 1)) (.int .i64 x39) fun w41 =>
 I10 true (IntKind.wrap .i64 (x14 - 1)) w41 ∧ μ11 true (IntKind.wrap .i64 (x14 - 1)) w41 < μ11 p13 x14 w12))))
 (∃ (x42 : Int), ∃ (w43 : World), Sem.run Tryz.prog (Instr.lookup 53 (.map m4) (.string s31) false) w35 = .ok (.int .i64 x42) w43 ∧
 ((0 ≤ (x14 : Int) ∧ (x14 : Int) < (((l1 : Nat) : Int).toNat : Nat)) ∧
 SetK w43 (b2.add ((x14 : Int).toNat * 1)) (.int .i64 x42) fun w44 =>
 I10 true (IntKind.wrap .i64 (x14 - 1)) w44 ∧ μ11 true (IntKind.wrap .i64 (x14 - 1)) w44 < μ11 p13 x14 w12)))))))))))))))))))
 (I6 p13 w12 ∧ μ7 p13 w12 < μ7 p9 w8))
 (∃ (x45 : Int), ∃ (w46 : World), Sem.run Tryz.prog (Builtin.len_ #[53] 3 #[(.map m4)]) w8 = .ok (.int .i64 x45) w46 ∧
 (∃ (a47 : Option Addr), ∃ (l47 : Nat), ∃ (c47 : Nat), ∃ (w48 : World), Sem.run Tryz.prog (Builtin.append_ #[35, 35] 35 #[(.slice none 0 0), (.slice (some b2) (((l1 : Nat) : Int).toNat) (((l1 : Nat) : Int).toNat))]) w46 = .ok (.slice a47 l47 c47) w48 ∧
 (∃ (I49 : Option Addr → Nat → Nat → Int → World → Prop) (μ50 : Option Addr → Nat → Nat → Int → World → Nat),
 (I49 (some b2) (((l1 : Nat) : Int).toNat) (((l1 : Nat) : Int).toNat) (-1) w48 ∧ True) ∧
 ∀ (w51 : World) (a52 : Option Addr) (l52 : Nat) (c52 : Nat) (x53 : Int), I49 a52 l52 c52 x53 w51 →
 ∃ (a54 : Option Addr), ∃ (l54 : Nat), ∃ (c54 : Nat), ∃ (w55 : World), Sem.run Tryz.prog (Builtin.append_ #[35, 35] 35 #[(.slice none 0 0), (.slice a47 l47 c47)]) w51 = .ok (.slice a54 l54 c54) w55 ∧
 (∃ (m56 : Option Nat), ∃ (w57 : World), Sem.run Tryz.prog (Instr.makeMap 53 none) w55 = .ok (.map m56) w57 ∧
 (∃ (I58 : Int → World → Prop) (μ59 : Int → World → Nat),
 (I58 0 w57 ∧ True) ∧
 ∀ (w60 : World) (x61 : Int), I58 x61 w60 →
 BoolK (decide ((x61 : Int) < (l1 : Nat)))
 ((0 ≤ (x61 : Int) ∧ (x61 : Int) < (l47 : Nat)) ∧
 AddrK a47 fun b62 =>
 ∃ (x63 : Int), w60.cell? (b62.add ((x61 : Int).toNat * 1)) = some (.int .i64 x63) ∧
 (BoolK (decide ((x63 : Int) > 0))
 (I58 (IntKind.wrap .i64 (x61 + 1)) w60 ∧ μ59 (IntKind.wrap .i64 (x61 + 1)) w60 < μ59 x61 w60)
 ((0 ≤ (x61 : Int) ∧ (x61 : Int) < (l1 : Nat)) ∧
 AddrK a1 fun b64 =>
 ∃ (s65 : ByteArray), w60.cell? ((b64.add ((x61 : Int).toNat * 5)).add 0) = some (.string s65) ∧
 (∃ (x66 : Int), w60.cell? ((b64.add ((x61 : Int).toNat * 5)).add 1) = some (.int .i64 x66) ∧
 (∃ (s67 : ByteArray), w60.cell? ((b64.add ((x61 : Int).toNat * 5)).add 2) = some (.string s67) ∧
 (∃ (a68 : Option Addr) (l68 : Nat) (c68 : Nat), w60.cell? ((b64.add ((x61 : Int).toNat * 5)).add 3) = some (.slice a68 l68 c68) ∧
 (∃ (a69 : Option Addr) (l69 : Nat) (c69 : Nat), w60.cell? ((b64.add ((x61 : Int).toNat * 5)).add 4) = some (.slice a69 l69 c69) ∧
 (Calls Tryz.prog 58 #[(.agg #[(.string s65), (.int .i64 x66), (.string s67), (.slice a68 l68 c68), (.slice a69 l69 c69)]), (.slice a52 l52 c52)] w60 fun e72 w71 =>
 ∃ (s70 : ByteArray), e72 = .returned (.string s70) ∧
 (∃ (J73 : World → Prop),
 (∀ (w74 : World), J73 w74 →
 ∃ (x75 : Int), ∃ (w76 : World), Sem.run Tryz.prog (Instr.lookup 53 (.map m56) (.string s70) false) w74 = .ok (.int .i64 x75) w76 ∧
 ((0 ≤ (x61 : Int) ∧ (x61 : Int) < (l54 : Nat)) ∧
 AddrK a54 fun b77 =>
 SetK w76 (b77.add ((x61 : Int).toNat * 1)) (.int .i64 (IntKind.wrap .i64 (x45 + x75))) fun w78 =>
 I58 (IntKind.wrap .i64 (x61 + 1)) w78 ∧ μ59 (IntKind.wrap .i64 (x61 + 1)) w78 < μ59 x61 w60)) ∧
 (∃ (x79 : Int), ∃ (w80 : World), Sem.run Tryz.prog (Instr.lookup 53 (.map m56) (.string s70) false) w71 = .ok (.int .i64 x79) w80 ∧
 (BoolK ((x79 : Int) == 0)
 (∃ (x81 : Int), ∃ (w82 : World), Sem.run Tryz.prog (Builtin.len_ #[53] 3 #[(.map m56)]) w80 = .ok (.int .i64 x81) w82 ∧
 (∃ (w83 : World), Sem.run Tryz.prog (Instr.mapUpdate 53 (.map m56) (.string s70) (.int .i64 (IntKind.wrap .i64 (x81 + 1)))) w82 = .ok () w83 ∧
 (J73 w83)))
 (J73 w80))))))))))))
 (∃ (x84 : Int), ∃ (w85 : World), Sem.run Tryz.prog (Builtin.len_ #[53] 3 #[(.map m56)]) w60 = .ok (.int .i64 x84) w85 ∧
 (BoolK ((x84 : Int) == x53)
 (K a54 l54 c54 w85)
 (∃ (x86 : Int), ∃ (w87 : World), Sem.run Tryz.prog (Builtin.len_ #[53] 3 #[(.map m56)]) w85 = .ok (.int .i64 x86) w87 ∧
 (I49 a54 l54 c54 x86 w87 ∧ μ50 a54 l54 c54 x86 w87 < μ50 a52 l52 c52 x53 w51))))))))))
def ann31 : Ann := (.two .nil (.two .nil (.two .nil (.two (.two .nil (.one (.loop [(5, (.one .bool))] [0, 3, 4] (.two (.two .nil (.two .nil .nil)) (.one (.two .nil (.two .nil (.one (.loop [(5, (.one .bool)), (6, (.one (.int .i64)))] [0, 3, 4] (.two (.two .nil (.two .nil .nil)) (.two (.one (.two (.two .nil (.two .nil .nil)) (.two .nil (.two (.two .nil (.two .nil .nil)) .nil)))) .nil))))))))))) (.two .nil (.two .nil (.two .nil (.one (.loop [(3, (.one .slice)), (10, (.one (.int .i64)))] [0, 8, 9] (.one (.two .nil (.two .nil (.two (.two .nil (.one (.loop [(13, (.one (.int .i64)))] [0, 3, 8, 9, 10, 11, 12] (.two (.two .nil (.two .nil .nil)) (.two (.one (.two (.two .nil (.two .nil .nil)) (.two .nil (.cut [] [0, 3, 8, 9, 10, 11, 12, 13, 14] (.two .nil (.two .nil .nil)) .nil)))) .nil))))) (.two (.two .nil (.two (.two .nil .nil) .nil)) .nil))))))))))))))
noncomputable def code31 : Code := match Tryz.f31.body with | some c => c | none => .skip
theorem wp31 (a1 : Option Addr) (l1 : Nat) (c1 : Nat) (K : Option Addr → Nat → Nat → World → Prop) (w : World) : WP Tryz.prog tab code31 ann31 (fnQ tab Tryz.f31.results.toList [(.one .slice)] K) (argE 0 [(.slice a1 l1 c1)]) w = N31 a1 l1 c1 K w := by kernel_rfl
theorem calls31 (a1 : Option Addr) (l1 : Nat) (c1 : Nat) (K : Option Addr → Nat → Nat → World → Prop) (w : World) (h : N31 a1 l1 c1 K w) : Calls Tryz.prog 31 #[(.slice a1 l1 c1)] w fun en w' => ∃ (a88 : Option Addr), ∃ (l88 : Nat), ∃ (c88 : Nat), en = .returned (.slice a88 l88 c88) ∧ K a88 l88 c88 w' :=
 have e : (fun en w' => ExShs [(.one .slice)] fun vs => en = .returned (tupled vs) ∧ ap [(.one .slice)] K vs fun p => p w') = (fun (en : Ending) (w' : World) => ∃ (a88 : Option Addr), ∃ (l88 : Nat), ∃ (c88 : Nat), en = .returned (.slice a88 l88 c88) ∧ K a88 l88 c88 w') := by kernel_rfl
 e ▸ fn_sound tabOk mixed Tryz.func31 (by kernel_rfl : Tryz.f31.body = some code31) ann31 [(.slice a1 l1 c1)] [(.one .slice)] K w (by kernel_rfl) ((wp31 a1 l1 c1 K w).symm ▸ h)
end Go.Proofs.YtbiamhoonhjodaaGreatDoor

namespace Go.Proofs.YtbiamhoonhjodaaGreatDoor
open Go Go.V Go.Proofs Go.V.Gr
open Go.RowKit (Below)
theorem rest_ord {n : Nat} {ord : List Nat} (h : ord.Nodup) (hl : ∀ i ∈ ord, i < n) : (restOf n ord).length + ord.length ≤ n := by
  have := len_le_of_sub (restOf n ord ++ ord) (List.range n) (List.nodup_append.2 ⟨rest_nodup n ord, h, fun a ha b hb e => by subst e; exact (rest_mem.1 ha).2 hb⟩) fun x hx => by
    rcases List.mem_append.1 hx with hx | hx
    · exact List.mem_range.2 (rest_mem.1 hx).1
    · exact List.mem_range.2 (hl x hx)
  simpa using this
def zr (b n : Nat) (w : World) : Nat := (List.range n).countP fun i => match w.cell? ((⟨b, 0, none⟩ : Addr).add (((i : Nat) : Int).toNat * 1)) with | some (.int _ x) => x == 0 | _ => false
theorem zr_eq {ρ : Type} {own : OwnM ρ} {r : ρ} {w : World} {e : TypeId} {b n c : Nat} {xs : List Int} (h : RowR own r e 1 eI w (some ⟨b, 0, none⟩, n, c) xs) : zr b n w = (List.range n).countP fun i => ga xs i == 0 := by
  have hl : n = xs.length := h.len
  refine List.countP_congr fun i hi => ?_
  rw [RowR.geti h (by rw [← hl]; exact List.mem_range.1 hi)]
theorem countP_lt {n x : Nat} {p q : Nat → Bool} (hx : x < n) (h1 : p x = true) (h2 : q x = false) (h : ∀ i, i ≠ x → q i = p i) : (List.range n).countP q < (List.range n).countP p := by
  induction n with
  | zero => omega
  | succ n ih =>
    rw [List.range_succ, List.countP_append, List.countP_append, List.countP_singleton, List.countP_singleton]
    by_cases e : x = n
    · subst e
      rw [h1, h2]
      have : (List.range x).countP q = (List.range x).countP p := List.countP_congr fun i hi => by rw [h i (by have := List.mem_range.1 hi; omega)]
      simp; omega
    · rw [h n (fun e2 => e e2.symm)]
      have := ih (by omega)
      omega
structure P1 (w0 w : World) (own : OwnM Nat) (n b2 bm : Nat) (T : List ByteArray) (cl : List Int) : Prop where
  loc : Mine own w0 w
  cl : RowR own 0 3 1 eI w (some ⟨b2, 0, none⟩, n, n) cl
  mx : Mx own 1 eStr w bm T 1
section
variable {w0 w w' : World} {own own' : OwnM Nat} {n b2 bm : Nat} {cl : List Int} {T : List ByteArray}
theorem P1.ext (h : P1 w0 w own n b2 bm T cl) (x : Ext w w') : P1 w0 w' own n b2 bm T cl := ⟨h.loc.ext x, h.cl.ext x, h.mx.ext x⟩
theorem P1.cll (h : P1 w0 w own n b2 bm T cl) : cl.length = n := h.cl.len.symm
theorem P1.ints (h : P1 w0 w own n b2 bm T cl) : Ints w (some ⟨b2, 0, none⟩) n cl := OwnR.ints h.cl.1
end
theorem kids_key {xs : List Nd} {cl : List Int} {i : Nat} (hi : i < xs.length) : keyD xs[i] (xs[i].ks.map fun k => ga cl k.toNat) = keyC xs (ga cl) i := by
  rw [keyC, nd_get hi]; congr 1
  rw [kc, Gr.kids, nd_get hi, List.map_map]; rfl
theorem NdOk.d {x : Nd} {n : Int} (h : NdOk x n) (hl : x.fs.length ≤ 1000000) : DOk x ∧ ZOk x := by
  have hw := h.w hl
  have nz : ∀ {s : ByteArray}, prS s → NoZ s := fun {s} hs c hc e => by
    have := List.all_eq_true.1 hs.1 c hc
    subst e; revert this; decide
  have hk : x.kd = kInt ∨ x.kd = kVar ∨ x.kd = kRef ∨ x.kd = kRec := by
    rcases h with h | h | h | h
    · exact .inl h.1
    · exact .inr (.inl h.1)
    · exact .inr (.inr (.inl h.1))
    · exact .inr (.inr (.inr h.1))
  have hn : -999999999999999999 ≤ x.n := by
    rcases h with h | h | h | h
    · exact h.2.2.2.2.1
    · have := h.2.2.2.2.1; omega
    · have := h.2.2.2.2.1; omega
    · have := h.2.1; omega
  have hf : ∀ f ∈ x.fs, 0 ≤ f.1 := fun f hf => by
    rcases h with h | h | h | h
    · rw [h.2.2.1] at hf; cases hf
    · rw [h.2.2.1] at hf; cases hf
    · rw [h.2.2.1] at hf; cases hf
    · obtain ⟨i, hi⟩ := List.getElem?_of_mem hf
      have := (h.2.2.2.2.1 i f hi).1
      unfold featD at this
      split at this
      · have := of_decide_eq_true this; omega
      · omega
  refine ⟨⟨hw.hd, by omega, fun f hff => by have := hf f hff; omega, h.lens⟩, ⟨?_, nz hw.hd.tx, fun f hff => nz (hw.hd.fs f hff).1, h.lens⟩⟩
  rcases hk with e | e | e | e <;> rw [e] <;> unfold NoZ <;> decide
set_option maxRecDepth 100000 in
theorem c31 (w : World) {a1 : Option Addr} {l1 : Nat} (c1 : Nat) {xs : List Nd} (h : RNds w a1 l1 xs) (hc : Closed xs) (hz : Sz xs) (hw : ∀ x ∈ xs, DOk x ∧ ZOk x) :
    Calls Tryz.prog 31 #[.slice a1 l1 c1] w fun en w' => ∃ a l c, en = .returned (.slice a l c) ∧
      (∃ cl : List Int, Cls xs cl ∧ (∀ v ∈ cl, 1 ≤ v ∧ v ≤ xs.length) ∧ Ints w' a l cl ∧ Ext w w') := by
  refine calls31 _ _ _ _ w ?_
  have hn := hz.len
  have hZ : ∀ x ∈ xs, ZOk x := fun x hx => (hw x hx).2
  obtain rfl : l1 = xs.length := h.len
  have hin : ∀ {i : Nat} (hi : i < xs.length), ∀ k ∈ xs[i].ks, 0 ≤ k ∧ k < xs.length := fun hi => hc _ (List.getElem_mem hi)
  simp only [N31, Int.toNat_natCast]
  refine ⟨⟨by omega, by omega, by omega, by omega⟩, RowR.make (x := (0 : Int)) (enc := eI) rfl (by simp only [maxLen]; omega) (fun _ => (none : Option Nat)) 0 fun b2 w3 r2 u2 x3 hb2 => ?_⟩
  obtain ⟨w5, bm, q5, mx5, u5, x5⟩ := Mx.new (P := Tryz.prog) (t := 53) eStr w3 1 (setOwn (fun _ => (none : Option Nat)) (some b2) 0) 1
  have p5 : P1 w w5 _ xs.length b2 bm [] (List.replicate xs.length 0) := ⟨((Mine.refl w).upd u2).upd u5, r2.upd u5 (by decide), mx5⟩
  refine ⟨some bm, w5, q5, ?_⟩
  refine ⟨fun p w' => ∃ (own : OwnM Nat) (T : List ByteArray) (cl : List Int) (ord : List Nat), P1 w w' own xs.length b2 bm T cl ∧ Num1 xs T cl ord ∧ (p = false → ∀ i, i < xs.length → ga cl i = 0 → ∃ k ∈ Gr.kids xs i, ga cl k = 0),
    fun p w' => 2 * zr b2 xs.length w' + (if p then 1 else 0), ⟨⟨_, _, _, _, p5, Num1.start, fun e => by cases e⟩, trivial⟩, ?_⟩
  clear p5 mx5 u5 q5 x5 r2 u2 x3
  rintro w8 p9 ⟨own, T, cl, ord, st, nu, hfu⟩
  refine BoolK.mk (fun t9 => ?_) (fun t9 => ?_)
  · subst t9
    have wm : IntKind.wrap .i64 (((xs.length : Nat) : Int) - 1) = ((xs.length : Nat) : Int) - 1 := wrap_id (by omega) (by omega)
    refine ⟨fun p x w' => ∃ (k : Nat) (own : OwnM Nat) (T : List ByteArray) (cl : List Int) (ord : List Nat), x = (k : Int) - 1 ∧ k ≤ xs.length ∧ P1 w w' own xs.length b2 bm T cl ∧ Num1 xs T cl ord ∧ zr b2 xs.length w' ≤ zr b2 xs.length w8 ∧ (p = true → zr b2 xs.length w' < zr b2 xs.length w8) ∧
        (p = false → ∀ i, k ≤ i → i < xs.length → ga cl i = 0 → ∃ k ∈ Gr.kids xs i, ga cl k = 0), fun _ x _ => (x + 1).toNat, ⟨⟨xs.length, own, T, cl, ord, wm, Nat.le_refl _, st, nu, Nat.le_refl _, fun e => (by cases e), fun _ i h1 h2 => by omega⟩, trivial⟩, ?_⟩
    clear st nu hfu
    rintro w12 p13 _ ⟨k, own, T, cl, ord, rfl, hk, st, nu, z1, z2, hfu⟩
    refine BoolK.mk (fun t => ?_) (fun t => ?_)
    · have t := of_decide_eq_true t
      obtain ⟨i, rfl⟩ : ∃ i, k = i + 1 := ⟨k - 1, by omega⟩
      have hlt : i < xs.length := by omega
      rw [show ((i + 1 : Nat) : Int) - 1 = (i : Int) by omega]
      have wp : IntKind.wrap .i64 ((i : Int) - 1) = (i : Int) - 1 := wrap_id (by omega) (by omega)
      rw [wp]
      have m1 : ((i : Int) - 1 + 1).toNat < ((i : Int) + 1).toNat := by omega
      refine ⟨⟨by omega, by omega⟩, _, RowR.geti st.cl (by rw [st.cll]; exact hlt), BoolK.mk (fun t1 => ?_) (fun t1 => ?_)⟩
      · have t1 := of_decide_eq_true t1
        refine ⟨⟨i, own, T, cl, ord, rfl, by omega, st, nu, z1, z2, fun e j h1 h2 h0 => ?_⟩, m1⟩
        rcases Nat.lt_or_ge i j with h3 | h3
        · exact hfu e j (by omega) h2 h0
        · have : j = i := by omega
          subst this; omega
      have t1 := of_decide_eq_false t1
      have hcb := ga_mem (P := fun c => 0 ≤ c) (by omega) (fun c hc => (nu.b c hc).1) i
      have hci : ga cl i = 0 := by omega
      have y12 := st.loc.below
      obtain ⟨b16, ha, h0, h1, h2, _, _, ⟨a3, l3, c3, h5, h6⟩, ⟨a4, l4, c4, h7, h8⟩, _⟩ := ndAt h y12 hlt
      refine ⟨⟨by omega, by omega⟩, adK ha ⟨_, h0, _, h1, _, h2, _, _, _, h5, _, _, _, h7, ?_⟩⟩
      refine (c57 xs[i] c3 c4 xs.length h8 st.ints (fun k hk => by rw [st.cll]; exact hin hlt k hk)).mono ?_
      rintro en w23 ⟨p22, rfl, hp22, x23⟩
      have zr12 := zr_eq st.cl
      have st := st.ext x23
      refine ⟨_, rfl, BoolK.mk (fun t2 => ?_) (fun t2 => ?_)⟩
      · refine ⟨⟨i, own, T, cl, ord, rfl, by omega, st, nu, by rw [zr_eq st.cl, ← zr12]; exact z1, fun e => by rw [zr_eq st.cl, ← zr12]; exact z2 e, fun e j h1 h2 h0 => ?_⟩, m1⟩
        rcases Nat.lt_or_ge i j with h3 | h3
        · exact hfu e j (by omega) h2 h0
        · have : j = i := by omega
          subst this
          have hnot : ¬ ∀ k ∈ xs[j].ks, ga cl k.toNat ≠ 0 := fun h => by rw [hp22.2 h] at t2; cases t2
          simp only [Classical.not_forall] at hnot
          obtain ⟨k, hk, e0⟩ := hnot
          exact ⟨k.toNat, List.mem_map.2 ⟨k, by rw [nd_get hlt]; exact hk, rfl⟩, Classical.not_not.1 e0⟩
      have hready := hp22.1 (by simpa using t2)
      have hr' : ∀ k ∈ Gr.kids xs i, ga cl k ≠ 0 := fun k hk => by
        obtain ⟨k', hk', rfl⟩ := List.mem_map.1 hk
        rw [nd_get hlt] at hk'; exact hready k' hk'
      have y23 := st.loc.below
      obtain ⟨b16, ha, h0, h1, h2, _, _, ⟨a3, l3, c3, h5, h6⟩, ⟨a4, l4, c4, h7, h8⟩, _⟩ := ndAt h y23 hlt
      refine ⟨⟨by omega, by omega⟩, adK ha ⟨_, h0, _, h1, _, h2, _, _, _, h5, _, _, _, h7, ?_⟩⟩
      have hob := nu.len
      refine (c58 w23 xs[i] c3 c4 xs.length (hw _ (List.getElem_mem hlt)).1 h6 h8 st.ints (fun k hk => by rw [st.cll]; exact hin hlt k hk) (fun c hc => by have := nu.b c hc; omega)).mono ?_
      rintro en w32 ⟨s31, rfl, hs31, x32⟩
      rw [kids_key hlt] at hs31
      have st := st.ext x32
      refine ⟨_, rfl, ?_⟩
      have fin : ∀ {w40 : World} {T' : List ByteArray} {v : Nat}, P1 w w40 own xs.length b2 bm T' cl → (T' = T ∨ T' = T ++ [s31]) → T'[v]? = some s31 → (0 ≤ (i : Int) ∧ (i : Int) < ((xs.length : Nat) : Int)) ∧
          SetK w40 ((⟨b2, 0, none⟩ : Addr).add (((i : Nat) : Int).toNat * 1)) (.int .i64 (1 + (v : Nat))) fun w41 =>
            (∃ (k : Nat) (own : OwnM Nat) (T : List ByteArray) (cl : List Int) (ord : List Nat), (i : Int) - 1 = (k : Int) - 1 ∧ k ≤ xs.length ∧ P1 w w41 own xs.length b2 bm T cl ∧ Num1 xs T cl ord ∧ zr b2 xs.length w41 ≤ zr b2 xs.length w8 ∧ (true = true → zr b2 xs.length w41 < zr b2 xs.length w8) ∧
              (true = false → ∀ i, k ≤ i → i < xs.length → ga cl i = 0 → ∃ k ∈ Gr.kids xs i, ga cl k = 0)) ∧ ((i : Int) - 1 + 1).toNat < ((i : Int) + 1).toNat := by
        intro w40 T' v st40 hT hv
        refine ⟨⟨by omega, by omega⟩, RowR.seti st40.cl (by rw [st40.cll]; exact hlt) _ fun w41 r41 u41 => ?_⟩
        have nu' := nu.put hlt hci hr' hc hT hv hs31
        have hcl : i < cl.length := by rw [st40.cll]; exact hlt
        have zl : zr b2 xs.length w41 < zr b2 xs.length w12 := by
          rw [zr12, zr_eq r41]
          refine countP_lt hlt (by rw [hci]; rfl) (by rw [ga_set hcl, if_pos rfl, beq_eq_false_iff_ne]; omega) fun j hj => by rw [ga_set hcl, if_neg hj]
        exact ⟨⟨i, own, T', _, _, rfl, by omega, ⟨st40.loc.upd u41, by rw [Int.natCast_add] at *; exact r41, st40.mx.upd u41 (by decide)⟩, nu', by omega, fun _ => by omega, fun e => by cases e⟩, m1⟩
      obtain ⟨x34, q1, q2⟩ := st.mx.num.look1 (P := Tryz.prog) mtS s31
      refine ⟨_, _, q1, ?_⟩
      rcases q2 with ⟨v, e1, rfl⟩ | ⟨hnin, rfl⟩
      · refine BoolK.mk (fun t3 => ?_) (fun _ => ⟨_, _, q1, fin st (.inl rfl) e1⟩)
        have := eq_of_beq t3; omega
      · refine BoolK.mk (fun _ => ?_) (fun t3 => by cases t3)
        have hTl := nu.Tl
        refine ⟨_, _, st.mx.num.len mtS _, ?_⟩
        rw [wrap_id (x := ((T.length : Nat) : Int) + 1) (by omega) (by omega)]
        obtain ⟨w38, r1, r2, r3⟩ := st.mx.add (P := Tryz.prog) mtS (a := s31) (v := ((T.length : Nat) : Int) + 1) (by omega) hnin
        refine ⟨w38, r1, ?_⟩
        obtain ⟨x39, q3, q4⟩ := r2.num.look1 (P := Tryz.prog) mtS s31
        refine ⟨_, _, q3, ?_⟩
        rcases q4 with ⟨v, e1, rfl⟩ | ⟨hnin2, _⟩
        · exact fin ⟨st.loc.upd r3, st.cl.upd r3 (by decide), r2⟩ (.inr rfl) e1
        · exact absurd (by simp) hnin2
    · have t := of_decide_eq_false t
      have : k = 0 := by omega
      subst this
      refine ⟨⟨own, T, cl, ord, st, nu, fun e i hi h0 => hfu e i (by omega) hi h0⟩, ?_⟩
      cases p13
      · simp; omega
      · have := z2 rfl; simp; omega
  subst t9
  have hfull := hfu rfl
  have ho := nu.topo hfull hc
  have hnd := st.mx.num.nodup
  have di := nu.dinv ho hnd hZ
  have hol := nu.len
  have hTl := nu.Tl
  have hro := rest_ord nu.nodup nu.lt
  refine ⟨_, _, st.mx.num.len mtS _, ?_⟩
  obtain ⟨a47, c47, w48, q48, o48, x48⟩ := copyRows (P := Tryz.prog) (t := 35) (ty := 35) sltI (enc := eI) (R := RInt) (c := xs.length) st.ints eI_len eI_one (fun f x hf j hj => by
    have : j = 0 := by omega
    subst this; exact hf) (by rw [st.cll]; omega)
  refine ⟨_, _, _, _, q48, ?_⟩
  have i48 : Ints w48 a47 xs.length cl := OwnR.ints o48
  have y48 := st.loc.below.trans x48
  have cll := st.cll
  have i0 : Ints w48 (some ⟨b2, 0, none⟩) xs.length cl := st.ints.ext RInt.mono x48
  have hcb0 : ∀ i, 0 ≤ ga cl i ∧ ga cl i ≤ xs.length := ga_mem (P := fun c => 0 ≤ c ∧ c ≤ (xs.length : Int)) ⟨by omega, by omega⟩ fun c hc => by have := nu.b c hc; omega
  have hpos := nu.pos
  clear st hfu
  refine ⟨fun a l c x w' => ∃ clc : List Int, Ext w48 w' ∧ Ints w' a l clc ∧ clc.length = xs.length ∧ DInv xs ord T.length x (ga clc) ∧ (∀ v ∈ clc, 0 ≤ v ∧ v ≤ xs.length) ∧ x ≤ xs.length ∧ (∀ i ∈ ord, ga clc i = ga cl i), fun _ _ _ x _ => ((xs.length : Int) + 1 - x).toNat,
    ⟨⟨cl, Ext.refl _, i0, cll, di, fun v hv => by have := nu.b v hv; omega, by omega, fun i _ => rfl⟩, trivial⟩, ?_⟩
  clear di i0
  rintro w51 a52 l52 c52 x53 ⟨clc, x51, i51, hcl, di, hcb, hx53, hord⟩
  have y51 := y48.trans x51
  obtain ⟨a54, c54, w55, q55, o55, x55⟩ := copyRows (P := Tryz.prog) (t := 35) (ty := 35) sltI (enc := eI) (R := RInt) (c := c47) (i48.ext RInt.mono x51) eI_len eI_one (fun f x hf j hj => by
    have : j = 0 := by omega
    subst this; exact hf) (by rw [cll]; omega)
  refine ⟨_, _, _, _, q55, ?_⟩
  obtain ⟨r55, u55⟩ := RowR.adopt (s := (a54, xs.length, c54)) o55 (Nat.le_refl _) x55 (fun _ => (none : Option Nat)) 0
  have L55 := (Mine.refl (ρ := Nat) w51).upd u55
  generalize setOwn (fun _ => (none : Option Nat)) (sblk (a54, xs.length, c54)) 0 = own55 at r55 u55 L55
  obtain ⟨w57, bm2, q57, mx57, u57, x57⟩ := Mx.new (P := Tryz.prog) (t := 53) eStr w55 1 own55 1
  refine ⟨some bm2, w57, q57, ?_⟩
  refine ⟨fun x w' => ∃ (j : Nat) (own : OwnM Nat) (N : List ByteArray) (cl' : List Int), x = j ∧ j ≤ xs.length ∧ Mine own w51 w' ∧ RowR own 0 3 1 eI w' (a54, xs.length, c54) cl' ∧ Mx own 1 eStr w' bm2 N 1 ∧ cl'.length = xs.length ∧ (∀ i ∈ ord, ga cl' i = ga cl i) ∧
      (∀ i, i < j → i ∉ ord → ∃ (q : Nat) (s : ByteArray), ga cl' i = T.length + 1 + q ∧ N[q]? = some s ∧ bl s = keyC xs (ga clc) i) ∧ (∀ q, q < N.length → ∃ i, i < j ∧ i ∉ ord ∧ ga cl' i = T.length + 1 + (q : Nat)) ∧ N.length ≤ (restOf j ord).length ∧ (∀ v ∈ cl', 0 ≤ v ∧ v ≤ xs.length),
    fun x _ => xs.length - x.toNat, ⟨⟨0, _, [], cl, rfl, by omega, L55.upd u57, r55.upd u57 (by decide), mx57, cll, fun i _ => rfl, fun i hi => by omega, fun q hq => by simp at hq, by simp, fun v hv => by have := nu.b v hv; omega⟩, trivial⟩, ?_⟩
  clear L55 r55 mx57 u57 u55 x55 x57 q57 q55 o55
  rintro w60 _ ⟨j, own, N, cl', rfl, hj, L, rr, mx, hcl', hA, hB, hC, hNl, hcb'⟩
  have y60 := y51.trans L.below
  refine BoolK.mk (fun t => ?_) (fun t => ?_)
  · have hlt : j < xs.length := by have := of_decide_eq_true t; omega
    obtain ⟨b62, o62, e62, r62⟩ := (i48.ext RInt.mono (x51.trans L.below)).get (i := j) (by rw [cll]; exact hlt)
    have g62 : w60.cell? ((⟨b62, o62, none⟩ : Addr).add (((j : Nat) : Int).toNat * 1)) = some (.int .i64 (ga cl j)) := by
      rw [Int.toNat_natCast, add_mk, ga_get (by rw [cll]; exact hlt)]; simpa [RInt] using r62
    have hm : xs.length - (((j + 1 : Nat) : Int)).toNat < xs.length - ((j : Nat) : Int).toNat := by simp; omega
    refine ⟨⟨by omega, by omega⟩, adK e62 ⟨_, g62, BoolK.mk (fun t1 => ?_) (fun t1 => ?_)⟩⟩
    · have t1 := of_decide_eq_true t1
      have hjo : j ∈ ord := (hpos j hlt).2 (by omega)
      rw [wrap_succ (by omega)]
      refine ⟨⟨j + 1, own, N, cl', rfl, by omega, L, rr, mx, hcl', hA, fun i hi ni => ?_, fun q hq => ?_, by rw [rest_succ, if_pos hjo]; exact hNl, hcb'⟩, hm⟩
      · rcases Nat.lt_or_ge i j with h1 | h1
        · exact hB i h1 ni
        · have : i = j := by omega
          subst this; exact absurd hjo ni
      · obtain ⟨i, h1, h2⟩ := hC q hq; exact ⟨i, by omega, h2⟩
    · have t1 := of_decide_eq_false t1
      have hjn : j ∉ ord := fun hm => by have := (hpos j hlt).1 hm; have := hcb0 j; omega
      obtain ⟨b16, ha, h0, h1, h2, _, _, ⟨a3, l3, c3, h5, h6⟩, ⟨a4, l4, c4, h7, h8⟩, _⟩ := ndAt h y60 hlt
      refine ⟨⟨by omega, by omega⟩, adK ha ⟨_, h0, _, h1, _, h2, _, _, _, h5, _, _, _, h7, ?_⟩⟩
      refine (c58 w60 xs[j] c3 c4 c52 (hw _ (List.getElem_mem hlt)).1 h6 h8 (i51.ext RInt.mono L.below) (fun k hk => by rw [hcl]; exact hin hlt k hk) (fun c hc => by have := hcb c hc; omega)).mono ?_
      rintro en w71 ⟨s70, rfl, hs70, x71⟩
      rw [kids_key hlt] at hs70
      have L := L.ext x71
      have rr := rr.ext x71
      have mx := mx.ext x71
      have hNn := mx.num.nodup
      refine ⟨_, rfl, ?_⟩
      refine ⟨fun w' => ∃ (own : OwnM Nat) (N' : List ByteArray), Mine own w51 w' ∧ RowR own 0 3 1 eI w' (a54, xs.length, c54) cl' ∧ Mx own 1 eStr w' bm2 N' 1 ∧ s70 ∈ N' ∧ (N' = N ∨ (N' = N ++ [s70] ∧ s70 ∉ N)), ?_, ?_⟩
      · rintro w74 ⟨own, N', L, rr, mx, hin', hN'⟩
        have hN'n := mx.num.nodup
        obtain ⟨x75, q1, q2⟩ := mx.num.look1 (P := Tryz.prog) mtS s70
        refine ⟨_, _, q1, ⟨by omega, by omega⟩, ?_⟩
        rcases q2 with ⟨v, e1, rfl⟩ | ⟨hnin, _⟩
        · have hvl := (List.getElem?_eq_some_iff.1 e1).1
          have hrl : (restOf (j + 1) ord).length ≤ (restOf xs.length ord).length := by
            refine len_le_of_sub _ _ (rest_nodup _ _) fun x hx => ?_
            have := rest_mem.1 hx
            exact rest_mem.2 ⟨by omega, this.2⟩
          have hrs : (restOf (j + 1) ord).length = (restOf j ord).length + 1 := by rw [rest_succ, if_neg hjn]; simp
          have hN'l : N'.length ≤ (restOf (j + 1) ord).length := by
            rcases hN' with rfl | ⟨rfl, _⟩
            · omega
            · simp; omega
          rw [wrap_id (by omega) (by omega)]
          obtain ⟨g, l, c', e54, _, _, _⟩ := rr.at_ eI_len (i := j) (by rw [hcl']; exact hlt)
          simp only [Prod.mk.injEq] at e54
          obtain ⟨rfl, _, _⟩ := e54
          refine adK rfl (RowR.seti rr (by rw [hcl']; exact hlt) _ fun w78 r78 u78 => ?_)
          rw [wrap_succ (by omega)]
          have hj' : j < cl'.length := by rw [hcl']; exact hlt
          have grow : ∀ {q : Nat} {u : ByteArray}, N[q]? = some u → N'[q]? = some u := fun {q u} e => by
            rcases hN' with rfl | ⟨rfl, _⟩
            · exact e
            · rw [List.getElem?_append_left (List.getElem?_eq_some_iff.1 e).1]; exact e
          refine ⟨⟨j + 1, own, N', _, rfl, by omega, L.upd u78, r78, mx.upd u78 (by decide), by simpa using hcl', fun i hi => ?_, fun i hi ni => ?_, fun q hq => ?_, hN'l, fun x hx => ?_⟩, hm⟩
          · rw [ga_set hj', if_neg (fun e : i = j => hjn (e ▸ hi))]; exact hA i hi
          · by_cases e : i = j
            · subst e; exact ⟨v, s70, by rw [ga_set hj', if_pos rfl]; omega, e1, hs70⟩
            · obtain ⟨q, s, f1, f2, f3⟩ := hB i (by omega) ni
              exact ⟨q, s, by rw [ga_set hj', if_neg e]; exact f1, grow f2, f3⟩
          · rcases hN' with rfl | ⟨rfl, hnin⟩
            · obtain ⟨i, f1, f2, f3⟩ := hC q hq
              exact ⟨i, by omega, f2, by rw [ga_set hj', if_neg (by omega)]; exact f3⟩
            · by_cases hq2 : q < N.length
              · obtain ⟨i, f1, f2, f3⟩ := hC q hq2
                exact ⟨i, by omega, f2, by rw [ga_set hj', if_neg (by omega)]; exact f3⟩
              · have hqe : q = N.length := by simp at hq; omega
                have : v = N.length := nodup_idx hN'n e1 (by simp)
                exact ⟨j, by omega, hjn, by rw [ga_set hj', if_pos rfl]; omega⟩
          · rcases List.mem_or_eq_of_mem_set hx with hx | rfl
            · exact hcb' x hx
            · omega
        · exact absurd hin' hnin
      · obtain ⟨x79, q1, q2⟩ := mx.num.look1 (P := Tryz.prog) mtS s70
        refine ⟨_, _, q1, ?_⟩
        rcases q2 with ⟨v, e1, rfl⟩ | ⟨hnin, rfl⟩
        · refine BoolK.mk (fun t3 => ?_) (fun _ => ⟨own, N, L, rr, mx, List.mem_of_getElem? e1, .inl rfl⟩)
          have := eq_of_beq t3; omega
        · refine BoolK.mk (fun _ => ?_) (fun t3 => by cases t3)
          have hrl := rest_len j ord
          refine ⟨_, _, mx.num.len mtS _, ?_⟩
          rw [wrap_id (x := ((N.length : Nat) : Int) + 1) (by omega) (by omega)]
          obtain ⟨w83, r1, r2, r3⟩ := mx.add (P := Tryz.prog) mtS (a := s70) (v := ((N.length : Nat) : Int) + 1) (by omega) hnin
          exact ⟨w83, r1, own, _, L.upd r3, rr.upd r3 (by decide), r2, by simp, .inr ⟨rfl, hnin⟩⟩
  · have hj2 : j = xs.length := by have := of_decide_eq_false t; omega
    subst hj2
    have hNn := mx.num.nodup
    obtain ⟨done, go⟩ := di.round ho hc hZ hNn (c' := ga cl') (fun i hi => by rw [hA i hi, hord i hi]) (fun i hi ni => hB i hi ni) (fun q hq => hC q hq)
    refine ⟨_, _, mx.num.len mtS _, BoolK.mk (fun t1 => ?_) (fun t1 => ⟨_, _, mx.num.len mtS _, ?_⟩)⟩
    · have t1 : (N.length : Int) = x53 := eq_of_beq t1
      refine ⟨cl', ⟨hcl', fun i j hi hj => done t1 i j hi hj⟩, fun v hv => ?_, OwnR.ints rr.1, y60⟩
      obtain ⟨i, hi, rfl⟩ := List.getElem_of_mem hv
      have hb := hcb' _ hv
      rw [← ga_get hi] at hb ⊢
      refine ⟨?_, hb.2⟩
      by_cases hio : i ∈ ord
      · rw [hA i hio]; have := (hpos i (by omega)).1 hio; have := hcb0 i; omega
      · obtain ⟨q, s, f1, _⟩ := hB i (by omega) hio; omega
    · have t1 : (N.length : Int) ≠ x53 := fun e => by rw [beq_eq_false_iff_ne] at t1; exact t1 e
      obtain ⟨g1, g2⟩ := go t1
      exact ⟨⟨cl', x51.trans L.below, OwnR.ints rr.1, hcl', g2, hcb', by omega, hA⟩, by show ((xs.length : Int) + 1 - _).toNat < ((xs.length : Int) + 1 - x53).toNat; omega⟩
end Go.Proofs.YtbiamhoonhjodaaGreatDoor

namespace Go.Proofs.YtbiamhoonhjodaaGreatDoor
open Go Go.V Go.Proofs
open Go.RowKit (Below)
/-! manystrand/manystrandref05.visit -/
def N32 (x1 : Int) (a2 : Option Addr) (l2 : Nat) (c2 : Nat) (a3 : Option Addr) (l3 : Nat) (c3 : Nat) (a4 : Option Addr) (l4 : Nat) (c4 : Nat) (x5 : Int) (o6 : Option Addr) (K : Int → World → Prop) (w : World) : Prop :=
 AllocK w (#[(.int .i64 x1), (.slice a2 l2 c2)]) 24 fun b7 w8 =>
 (0 ≤ (x5 : Int) ∧ (x5 : Int) < (l3 : Nat)) ∧
 AddrK a3 fun b9 =>
 ∃ (x10 : Int), w8.cell? (b9.add ((x5 : Int).toNat * 1)) = some (.int .i64 x10) ∧
 ((0 ≤ (x10 : Int) ∧ (x10 : Int) < (l4 : Nat)) ∧
 AddrK a4 fun b11 =>
 ∃ (x12 : Int), w8.cell? (b11.add ((x10 : Int).toNat * 1)) = some (.int .i64 x12) ∧
 (BoolK (decide ((x12 : Int) > 0))
 ((0 ≤ (x5 : Int) ∧ (x5 : Int) < (l3 : Nat)) ∧
 AddrK a3 fun b13 =>
 ∃ (x14 : Int), w8.cell? (b13.add ((x5 : Int).toNat * 1)) = some (.int .i64 x14) ∧
 ((0 ≤ (x14 : Int) ∧ (x14 : Int) < (l4 : Nat)) ∧
 AddrK a4 fun b15 =>
 ∃ (x16 : Int), w8.cell? (b15.add ((x14 : Int).toNat * 1)) = some (.int .i64 x16) ∧
 (K (IntKind.wrap .i64 (x16 - 1)) w8)))
 (∃ (a17 : Option Addr) (l17 : Nat) (c17 : Nat), w8.cell? (b7.add 1) = some (.slice a17 l17 c17) ∧
 ((0 ≤ (x5 : Int) ∧ (x5 : Int) < (l17 : Nat)) ∧
 AddrK a17 fun b18 =>
 ∃ (s19 : ByteArray), w8.cell? ((b18.add ((x5 : Int).toNat * 5)).add 0) = some (.string s19) ∧
 (∃ (x20 : Int), w8.cell? ((b18.add ((x5 : Int).toNat * 5)).add 1) = some (.int .i64 x20) ∧
 (∃ (s21 : ByteArray), w8.cell? ((b18.add ((x5 : Int).toNat * 5)).add 2) = some (.string s21) ∧
 (∃ (a22 : Option Addr) (l22 : Nat) (c22 : Nat), w8.cell? ((b18.add ((x5 : Int).toNat * 5)).add 3) = some (.slice a22 l22 c22) ∧
 (∃ (a23 : Option Addr) (l23 : Nat) (c23 : Nat), w8.cell? ((b18.add ((x5 : Int).toNat * 5)).add 4) = some (.slice a23 l23 c23) ∧
 (AllocK w8 (#[.string ⟨#[]⟩, .int .i64 0, .string ⟨#[]⟩, .slice none 0 0, .slice none 0 0]) 37 fun b24 w25 =>
 SetK w25 (b24.add 0) (.string s19) fun w26 =>
 SetK w26 (b24.add 1) (.int .i64 x20) fun w27 =>
 SetK w27 (b24.add 2) (.string s21) fun w28 =>
 SetK w28 (b24.add 3) (.slice a22 l22 c22) fun w29 =>
 SetK w29 (b24.add 4) (.slice a23 l23 c23) fun w30 =>
 AddrK o6 fun b31 =>
 ∃ (a32 : Option Addr) (l32 : Nat) (c32 : Nat), w30.cell? (b31.add 1) = some (.slice a32 l32 c32) ∧
 ((0 ≤ (x5 : Int) ∧ (x5 : Int) < (l3 : Nat)) ∧
 AddrK a3 fun b33 =>
 ∃ (x34 : Int), w30.cell? (b33.add ((x5 : Int).toNat * 1)) = some (.int .i64 x34) ∧
 ((0 ≤ (x34 : Int) ∧ (x34 : Int) < (l4 : Nat)) ∧
 AddrK a4 fun b35 =>
 SetK w30 (b35.add ((x34 : Int).toNat * 1)) (.int .i64 (IntKind.wrap .i64 ((l32 : Nat) + 1))) fun w36 =>
 DrewK w36 fun w37 =>
 AddrK o6 fun b38 =>
 ∃ (a39 : Option Addr) (l39 : Nat) (c39 : Nat), w37.cell? (b38.add 1) = some (.slice a39 l39 c39) ∧
 (∃ (s40 : ByteArray), w37.cell? b24 = some (.string s40) ∧
 (∃ (x41 : Int), w37.cell? (b24.add 1) = some (.int .i64 x41) ∧
 (∃ (s42 : ByteArray), w37.cell? (b24.add 2) = some (.string s42) ∧
 (∃ (a43 : Option Addr) (l43 : Nat) (c43 : Nat), w37.cell? (b24.add 3) = some (.slice a43 l43 c43) ∧
 (∃ (a44 : Option Addr), ∃ (l44 : Nat), ∃ (c44 : Nat), ∃ (w45 : World), Sem.run Tryz.prog (Builtin.append_ #[25, 25] 25 #[(.slice none 0 0), (.slice a43 l43 c43)]) w37 = .ok (.slice a44 l44 c44) w45 ∧
 (Cel w37 w45 ∧
 (AllocK w45 (#[(.string s40), (.int .i64 x41), (.string s42), (.slice a44 l44 c44), (.slice none 0 0)]) 37 fun b46 w47 =>
 Cel w37 w47 ∧
 (∃ (a48 : Option Addr), ∃ (l48 : Nat), ∃ (c48 : Nat), ∃ (w49 : World), Sem.run Tryz.prog (Builtin.append_ #[22, 22] 22 #[(.slice a39 l39 c39), (.slice (some b46) 1 1)]) w47 = .ok (.slice a48 l48 c48) w49 ∧
 (AddrK o6 fun b50 =>
 SetK w49 (b50.add 1) (.slice a48 l48 c48) fun w51 =>
 ∃ (I52 : Option Addr → Nat → Nat → Int → World → Prop) (μ53 : Option Addr → Nat → Nat → Int → World → Nat),
 (I52 none 0 0 0 w51 ∧ True) ∧
 ∀ (w54 : World) (a55 : Option Addr) (l55 : Nat) (c55 : Nat) (x56 : Int), I52 a55 l55 c55 x56 w54 →
 ∃ (a57 : Option Addr) (l57 : Nat) (c57 : Nat), w54.cell? (b24.add 4) = some (.slice a57 l57 c57) ∧
 (BoolK (decide ((x56 : Int) < (l57 : Nat)))
 (DrewK w54 fun w58 =>
 ∃ (x59 : Int), w58.cell? (b7.add 0) = some (.int .i64 x59) ∧
 (∃ (a60 : Option Addr) (l60 : Nat) (c60 : Nat), w58.cell? (b7.add 1) = some (.slice a60 l60 c60) ∧
 (∃ (a61 : Option Addr) (l61 : Nat) (c61 : Nat), w58.cell? (b24.add 4) = some (.slice a61 l61 c61) ∧
 ((0 ≤ (x56 : Int) ∧ (x56 : Int) < (l61 : Nat)) ∧
 AddrK a61 fun b62 =>
 ∃ (x63 : Int), w58.cell? (b62.add ((x56 : Int).toNat * 1)) = some (.int .i64 x63) ∧
 (Calls Tryz.prog 32 #[(.agg #[(.int .i64 x59), (.slice a60 l60 c60)]), (.slice a3 l3 c3), (.slice a4 l4 c4), (.int .i64 x63), (.pointer o6)] w58 fun e66 w65 =>
 ∃ (x64 : Int), e66 = .returned (.int .i64 x64) ∧
 (AllocK w65 (#[(.int .i64 x64)]) 3 fun b67 w68 =>
 ∃ (a69 : Option Addr), ∃ (l69 : Nat), ∃ (c69 : Nat), ∃ (w70 : World), Sem.run Tryz.prog (Builtin.append_ #[35, 35] 35 #[(.slice a55 l55 c55), (.slice (some b67) 1 1)]) w68 = .ok (.slice a69 l69 c69) w70 ∧
 (I52 a69 l69 c69 (IntKind.wrap .i64 (x56 + 1)) w70 ∧ μ53 a69 l69 c69 (IntKind.wrap .i64 (x56 + 1)) w70 < μ53 a55 l55 c55 x56 w54)))))))
 (AddrK o6 fun b71 =>
 ∃ (a72 : Option Addr) (l72 : Nat) (c72 : Nat), w54.cell? (b71.add 1) = some (.slice a72 l72 c72) ∧
 ((0 ≤ ((l32 : Nat) : Int) ∧ ((l32 : Nat) : Int) < (l72 : Nat)) ∧
 AddrK a72 fun b73 =>
 SetK w54 ((b73.add (((l32 : Nat) : Int).toNat * 5)).add 4) (.slice a55 l55 c55) fun w74 =>
 K (l32 : Nat) w74)))))))))))))))))))))))
def ann32 : Ann := (.two .nil (.two (.two .nil (.two (.two .nil .nil) .nil)) (.two .nil (.two .nil (.two .nil (.two (.anyC 20 (.take 0 (.take 1 (.take 2 (.take 3 (.take 4 (.take 5 (.take 6 (.take 7 (.take 8 (.take 9 (.take 10 (.take 11 (.take 12 (.one 13 (.take 14 (.one 15 (.one 16 (.take 17 (.take 18 (.one 19 .done))))))))))))))))))))) (.two .nil (.two (.two .nil (.one (.loop [(13, (.one .slice)), (14, (.one (.int .i64)))] [1, 2, 4, 5, 11, 12] (.two (.two .nil (.two .nil .nil)) (.two (.one (.anyC 12 (.take 0 (.take 1 (.take 2 (.take 3 (.take 4 (.take 5 (.take 6 (.take 7 (.take 8 (.take 9 (.one 10 (.one 11 .done)))))))))))))) .nil))))) (.two .nil (.two .nil .nil))))))))))
noncomputable def code32 : Code := match Tryz.f32.body with | some c => c | none => .skip
theorem wp32 (x1 : Int) (a2 : Option Addr) (l2 : Nat) (c2 : Nat) (a3 : Option Addr) (l3 : Nat) (c3 : Nat) (a4 : Option Addr) (l4 : Nat) (c4 : Nat) (x5 : Int) (o6 : Option Addr) (K : Int → World → Prop) (w : World) : WP Tryz.prog tab code32 ann32 (fnQ tab Tryz.f32.results.toList [(.one (.int .i64))] K) (argE 0 [(.agg #[(.int .i64 x1), (.slice a2 l2 c2)]), (.slice a3 l3 c3), (.slice a4 l4 c4), (.int .i64 x5), (.pointer o6)]) w = N32 x1 a2 l2 c2 a3 l3 c3 a4 l4 c4 x5 o6 K w := by kernel_rfl
theorem calls32 (x1 : Int) (a2 : Option Addr) (l2 : Nat) (c2 : Nat) (a3 : Option Addr) (l3 : Nat) (c3 : Nat) (a4 : Option Addr) (l4 : Nat) (c4 : Nat) (x5 : Int) (o6 : Option Addr) (K : Int → World → Prop) (w : World) (h : N32 x1 a2 l2 c2 a3 l3 c3 a4 l4 c4 x5 o6 K w) : Calls Tryz.prog 32 #[(.agg #[(.int .i64 x1), (.slice a2 l2 c2)]), (.slice a3 l3 c3), (.slice a4 l4 c4), (.int .i64 x5), (.pointer o6)] w fun en w' => ∃ (x75 : Int), en = .returned (.int .i64 x75) ∧ K x75 w' :=
 have e : (fun en w' => ExShs [(.one (.int .i64))] fun vs => en = .returned (tupled vs) ∧ ap [(.one (.int .i64))] K vs fun p => p w') = (fun (en : Ending) (w' : World) => ∃ (x75 : Int), en = .returned (.int .i64 x75) ∧ K x75 w') := by kernel_rfl
 e ▸ fn_sound tabOk mixed Tryz.func32 (by kernel_rfl : Tryz.f32.body = some code32) ann32 [(.agg #[(.int .i64 x1), (.slice a2 l2 c2)]), (.slice a3 l3 c3), (.slice a4 l4 c4), (.int .i64 x5), (.pointer o6)] [(.one (.int .i64))] K w (by kernel_rfl) ((wp32 x1 a2 l2 c2 a3 l3 c3 a4 l4 c4 x5 o6 K w).symm ▸ h)
end Go.Proofs.YtbiamhoonhjodaaGreatDoor

namespace Go.Proofs.YtbiamhoonhjodaaGreatDoor
open Go Go.V Go.Proofs Go.V.Gr
open Go.RowKit (Below)
theorem AllocK.and {w : World} {cs : Array Value} {t : Nat} {P Q : Addr → World → Prop} (h : AllocK w cs t P) (k : AllocK w cs t Q) : AllocK w cs t fun b w => P b w ∧ Q b w := ⟨h, k⟩
def ByOk (xs : List Nd) (cl : List Int) (vs : List Nat) (bys : List Int) : Prop :=
  ∀ i, i < xs.length → (ga bys (ga cl i).toNat = 0 ∧ ¬ Seen xs vs i) ∨ ∃ (q v : Nat), vs[q]? = some v ∧ Eqv xs xs v i ∧ ga bys (ga cl i).toNat = (q : Int) + 1
structure WS (w0 w : World) (own : OwnM Nat) (b14 b12 : Nat) (xs : List Nd) (cl : List Int) (vs : List Nat) (RW : List Rw) (s : SL) (K : List (List Int)) (bys : List Int) : Prop where
  loc : Mine own w0 w
  box : Bx own 2 w b14 #[.int .i64 0, .slice s.1 s.2.1 s.2.2] 24
  by_ : RowR own 1 3 1 eI w (some ⟨b12, 0, none⟩, xs.length + 1, xs.length + 1) bys
  byk : ByOk xs cl vs bys
  out : RowR own 0 37 5 eN w s RW
  lenR : RW.length = vs.length
  lenK : K.length = vs.length
  nds : ∀ (q : Nat) (r : Rw) (v : Nat) (k : List Int), RW[q]? = some r → vs[q]? = some v → K[q]? = some k → r.kd = (nd xs v).kd ∧ r.n = (nd xs v).n ∧ r.tx = (nd xs v).tx ∧
    RowR own (11 + 3 * q) 29 2 eFt w r.sf (nd xs v).fs ∧ RowR own (10 + 3 * q) 3 1 eI w r.sk k
structure Kq (own own' : OwnM Nat) (n0 : Nat) (w w' : World) : Prop where
  fr : Fr own own' w w'
  row : ∀ b r, 10 ≤ r → r < 10 + 3 * n0 → b < w.heap.size → own b = some r → own' b = some r ∧ w'.heap[b]? = w.heap[b]?
section
variable {w0 w w' w'' : World} {own own' own'' : OwnM Nat} {b14 b12 : Nat} {xs : List Nd} {cl : List Int} {vs : List Nat} {RW : List Rw} {s : SL} {K : List (List Int)} {n0 : Nat} {bys : List Int}
theorem WS.ext (h : WS w0 w own b14 b12 xs cl vs RW s K bys) (x : Ext w w') : WS w0 w' own b14 b12 xs cl vs RW s K bys :=
  ⟨h.loc.ext x, h.box.ext x, h.by_.ext x, h.byk, h.out.ext x, h.lenR, h.lenK, fun q r v k e1 e2 e3 => by
    obtain ⟨f1, f2, f3, f5, f6⟩ := h.nds q r v k e1 e2 e3
    exact ⟨f1, f2, f3, f5.ext x, f6.ext x⟩⟩
theorem WS.upd {r : Nat} (h : WS w0 w own b14 b12 xs cl vs RW s K bys) (u : Upd own own' r w w') (hr : 3 ≤ r) (hr2 : ∀ q, q < vs.length → r ≠ 10 + 3 * q ∧ r ≠ 11 + 3 * q) : WS w0 w' own' b14 b12 xs cl vs RW s K bys :=
  ⟨h.loc.upd u, h.box.upd u (by omega), h.by_.upd u (by omega), h.byk, h.out.upd u (by omega), h.lenR, h.lenK, fun q r' v k e1 e2 e3 => by
    have hq := (List.getElem?_eq_some_iff.1 e2).1
    have := hr2 q hq
    obtain ⟨f1, f2, f3, f5, f6⟩ := h.nds q r' v k e1 e2 e3
    exact ⟨f1, f2, f3, f5.upd u (by omega), f6.upd u (by omega)⟩⟩
theorem WS.updK {n : Nat} {r : Rw} (h : WS w0 w own b14 b12 xs cl vs RW s K bys) (u : Upd own own' (10 + 3 * n) w w') (hr : RW[n]? = some r) (h0 : r.sk = (none, 0, 0)) (hk : K[n]? = some []) : WS w0 w' own' b14 b12 xs cl vs RW s K bys :=
  ⟨h.loc.upd u, h.box.upd u (by omega), h.by_.upd u (by omega), h.byk, h.out.upd u (by omega), h.lenR, h.lenK, fun q r' v k e1 e2 e3 => by
    obtain ⟨f1, f2, f3, f5, f6⟩ := h.nds q r' v k e1 e2 e3
    refine ⟨f1, f2, f3, f5.upd u (by omega), ?_⟩
    by_cases e : q = n
    · subst e
      rw [hr] at e1; rw [hk] at e3
      cases e1; cases e3
      rw [h0]; exact RowR.nil _ _ _ _ _ _
    · exact f6.upd u (by omega)⟩
theorem WS.more {s' : SL} {i : Nat} {r : Rw} {w1 w2 w3 w4 : World} {own2 own3 : OwnM Nat} {bys' : List Int} (h : WS w0 w1 own b14 b12 xs cl vs RW s K bys) (ub : Upd own own 1 w1 w2) (hby : RowR own 1 3 1 eI w2 (some ⟨b12, 0, none⟩, xs.length + 1, xs.length + 1) bys') (hbk : ByOk xs cl (vs ++ [i]) bys')
    (h1 : r.kd = (nd xs i).kd) (h2 : r.n = (nd xs i).n) (h3 : r.tx = (nd xs i).tx) (hk0 : r.sk = (none, 0, 0)) (uf : Upd own own2 (11 + 3 * vs.length) w2 w3) (hf : RowR own2 (11 + 3 * vs.length) 29 2 eFt w3 r.sf (nd xs i).fs)
    (uo : Upd own2 own3 0 w3 w4) (ho : RowR own3 0 37 5 eN w4 s' (RW ++ [r])) (u2 : Upd own3 own3 2 w4 w') (hb : Bx own3 2 w' b14 #[.int .i64 0, .slice s'.1 s'.2.1 s'.2.2] 24) :
    WS w0 w' own3 b14 b12 xs cl (vs ++ [i]) (RW ++ [r]) s' (K ++ [[]]) bys' := by
  refine ⟨(((h.loc.upd ub).upd uf).upd uo).upd u2, hb, ((hby.upd uf (by omega)).upd uo (by decide)).upd u2 (by decide), hbk, ho.upd u2 (by decide), by simp [h.lenR], by simp [h.lenK], fun q r2 v2 k2 e1 e2 e3 => ?_⟩
  rcases Nat.lt_or_ge q vs.length with hq | hq
  · rw [List.getElem?_append_left (by rw [h.lenR]; exact hq)] at e1
    rw [List.getElem?_append_left hq] at e2
    rw [List.getElem?_append_left (by rw [h.lenK]; exact hq)] at e3
    obtain ⟨g1, g2, g3, g5, g6⟩ := h.nds q r2 v2 k2 e1 e2 e3
    exact ⟨g1, g2, g3, (((g5.upd ub (by omega)).upd uf (by omega)).upd uo (by omega)).upd u2 (by omega), (((g6.upd ub (by omega)).upd uf (by omega)).upd uo (by omega)).upd u2 (by omega)⟩
  · have hq2 : q = vs.length := by have := (List.getElem?_eq_some_iff.1 e2).1; simp at this; omega
    subst hq2
    rw [← h.lenR, List.getElem?_concat_length] at e1
    rw [List.getElem?_concat_length] at e2
    rw [← h.lenK, List.getElem?_concat_length] at e3
    cases e1; cases e2; cases e3
    exact ⟨h1, h2, h3, (hf.upd uo (by omega)).upd u2 (by omega), by rw [hk0]; exact RowR.nil _ _ _ _ _ _⟩
theorem flat_setN : ∀ (RW : List Rw) (n : Nat) (r : Rw) (s : SL), RW[n]? = some r → (RW.flatMap eN).set (n * 5 + 4) (.slice s.1 s.2.1 s.2.2) = (RW.set n { r with sk := s }).flatMap eN
  | [], _, _, _, h => by simp at h
  | x :: RW, 0, r, s, h => by simp at h; subst h; simp [eN]
  | x :: RW, n + 1, r, s, h => by
    have e : (n + 1) * 5 + 4 = (n * 5 + 4) + 5 := by omega
    have := flat_setN RW n r s (by simpa using h)
    rw [e, List.set_cons_succ, List.flatMap_cons, List.flatMap_cons, ← this]
    simp [eN]
theorem WS.fill {n : Nat} {r : Rw} {k0 k : List Int} {sk : SL} (h : WS w0 w own b14 b12 xs cl vs RW s K bys) (hr : RW[n]? = some r) (hk0 : K[n]? = some k0) (hk : RowR own (10 + 3 * n) 3 1 eI w sk k) {F : World → Prop}
    (kk : ∀ w', WS w0 w' own b14 b12 xs cl vs (RW.set n { r with sk := sk }) s (K.set n k) bys → Upd own own 0 w w' → F w') : ∃ b, s.1 = some b ∧ SetK w ((b.add (((n : Nat) : Int).toNat * 5)).add 4) (.slice sk.1 sk.2.1 sk.2.2) F := by
  have hn : n < RW.length := (List.getElem?_eq_some_iff.1 hr).1
  have hnK : n < K.length := (List.getElem?_eq_some_iff.1 hk0).1
  have hout := h.out
  obtain ⟨g, l, c, e1, _⟩ := hout.at_ eN_len hn
  refine ⟨⟨g, 0, none⟩, by rw [e1], ?_⟩
  rw [add_mk, add_mk, Int.toNat_natCast, Nat.zero_add]
  have hout' := hout
  rw [e1] at hout'
  refine RowR.set (ys := RW.set n { r with sk := sk }) hout' (n * 5 + 4) _ (by omega) (by simp) (flat_setN RW n r sk hr) fun w' ho u => ?_
  rw [← e1] at ho
  refine kk w' ⟨h.loc.upd u, h.box.upd u (by decide), h.by_.upd u (by decide), h.byk, ho, by simpa using h.lenR, by simpa using h.lenK, fun q r2 v2 k2 f1 f2 f3 => ?_⟩ u
  rw [List.getElem?_set] at f1 f3
  by_cases hq : n = q
  · subst hq
    rw [if_pos rfl, if_pos hn] at f1
    rw [if_pos rfl, if_pos hnK] at f3
    cases f1; cases f3
    obtain ⟨g1, g2, g3, g5, g6⟩ := h.nds n r v2 k0 hr f2 hk0
    exact ⟨g1, g2, g3, g5.upd u (by omega), hk.upd u (by omega)⟩
  · rw [if_neg hq] at f1 f3
    obtain ⟨g1, g2, g3, g5, g6⟩ := h.nds q r2 v2 k2 f1 f2 f3
    exact ⟨g1, g2, g3, g5.upd u (by omega), g6.upd u (by omega)⟩
theorem Kq.refl (own : OwnM Nat) (n0 : Nat) (w : World) : Kq own own n0 w w := ⟨Fr.refl _ _, fun _ _ _ _ _ h => ⟨h, rfl⟩⟩
theorem Kq.ext (x : Ext w w') : Kq own own n0 w w' := ⟨Fr.of_ext _ x, fun b _ _ _ hb h => ⟨h, x.block b hb⟩⟩
theorem Kq.trans (h : Kq own own' n0 w w') (k : Kq own' own'' n0 w' w'') : Kq own own'' n0 w w'' :=
  ⟨h.fr.trans k.fr, fun b r h1 h2 hb e => by
    obtain ⟨e1, e2⟩ := h.row b r h1 h2 hb e
    obtain ⟨e3, e4⟩ := k.row b r h1 h2 (Nat.lt_of_lt_of_le hb h.fr.size) e1
    exact ⟨e3, e4.trans e2⟩⟩
theorem Kq.upd {r : Nat} (u : Upd own own' r w w') (hr : r < 10 ∨ 10 + 3 * n0 ≤ r) : Kq own own' n0 w w' :=
  ⟨u.fr, fun b r2 h1 h2 hb e => ⟨by rw [u.same b hb]; exact e, u.block b hb (by rw [e]; simp; omega)⟩⟩
theorem Kq.mono {n1 : Nat} (h : Kq own own' n0 w w') (hn : n1 ≤ n0) : Kq own own' n1 w w' := ⟨h.fr, fun b r h1 h2 h3 => h.row b r h1 (by omega) h3⟩
theorem RowR.kq {α : Type} {r : Nat} {e : TypeId} {sz : Nat} {enc : α → List Value} {s : SL} {xs : List α} (h : RowR own r e sz enc w s xs) (k : Kq own own' n0 w w') (h1 : 10 ≤ r) (h2 : r < 10 + 3 * n0) : RowR own' r e sz enc w' s xs :=
  ⟨h.1.kept fun b hb => (k.row b r h1 h2 (h.1.lt b hb).2 (h.2 b hb)).2, fun b hb => (k.row b r h1 h2 (h.1.lt b hb).2 (h.2 b hb)).1⟩
theorem ByOk.put (h : ByOk xs cl vs bys) (hcl : Cls xs cl) (hcb : ∀ v ∈ cl, 1 ≤ v ∧ v ≤ xs.length) (hl : bys.length = xs.length + 1) {i : Nat} (hi : i < xs.length) : ByOk xs cl (vs ++ [i]) (bys.set (ga cl i).toNat ((vs.length : Int) + 1)) := by
  have hb : ∀ j, j < xs.length → 1 ≤ ga cl j ∧ ga cl j ≤ xs.length := fun j hj => by
    rw [ga_get (by rw [hcl.1]; exact hj)]; exact hcb _ (List.getElem_mem _)
  intro j hj
  have h1 := hb i hi; have h2 := hb j hj
  have hlt : (ga cl i).toNat < bys.length := by omega
  by_cases e : ga cl j = ga cl i
  · refine .inr ⟨vs.length, i, by simp, (hcl.2 i j hi hj).1 e.symm, ?_⟩
    rw [ga_set hlt, e, if_pos rfl]
  · rw [ga_set hlt, if_neg (by omega)]
    rcases h j hj with ⟨h3, h4⟩ | ⟨q, v, h3, h4, h5⟩
    · refine .inl ⟨h3, fun hs => ?_⟩
      obtain ⟨v, hv, ev⟩ := hs
      rcases List.mem_append.1 hv with hv | hv
      · exact h4 ⟨v, hv, ev⟩
      · simp at hv; subst hv
        exact e ((hcl.2 v j hi hj).2 ev).symm
    · exact .inr ⟨q, v, by rw [List.getElem?_append_left (List.getElem?_eq_some_iff.1 h3).1]; exact h3, h4, h5⟩
end
end Go.Proofs.YtbiamhoonhjodaaGreatDoor

namespace Go.Proofs.YtbiamhoonhjodaaGreatDoor
open Go Go.V Go.Proofs Go.V.Gr
open Go.RowKit (Below)
theorem intsAt {w w' : World} {a : Option Addr} {l : Nat} {cl : List Int} (h : Ints w a l cl) (k : Ext w w') {i : Nat} (hi : i < cl.length) :
    ∃ b, a = some b ∧ w'.cell? (b.add (((i : Nat) : Int).toNat * 1)) = some (.int .i64 (ga cl i)) := by
  obtain ⟨b, o, ha, h0⟩ := (Rows.ext RInt.mono h k).get hi
  exact ⟨_, ha, by rw [Int.toNat_natCast, add_mk, ga_get hi]; exact h0⟩
def VisitD (w0 : World) (own : OwnM Nat) (b14 b12 : Nat) (xs : List Nd) (cl : List Int) (vs : List Nat) (RW : List Rw) (K : List (List Int)) (i : Nat) (w : World) (r : Int) (w' : World) : Prop :=
  ∃ own' vs' RW' s' K' bys', WS w0 w' own' b14 b12 xs cl vs' RW' s' K' bys' ∧ Dfs xs [i] vs vs' ∧ Kq own own' vs.length w w' ∧ (∃ q : Nat, r = q ∧ ∃ v, vs'[q]? = some v ∧ Eqv xs xs v i) ∧
    (∀ q, q < vs.length → K'[q]? = K[q]? ∧ RW'[q]? = RW[q]?) ∧ ∀ q, vs.length ≤ q → (∀ M, Fil xs vs' K' q M) ∧ ∀ v k, vs'[q]? = some v → K'[q]? = some k → k.length = (nd xs v).ks.length
set_option maxRecDepth 100000 in
theorem c32 {xs : List Nd} {cl : List Int} {w0 : World} {a2 a3 : Option Addr} {l2 l3 : Nat} (root : Int) (c2 c3 c4 : Nat) {b12 b14 : Nat} (hN : RNds w0 a2 l2 xs) (hI : Ints w0 a3 l3 cl) (hc : Closed xs) (hz : Sz xs) (hcl : Cls xs cl) (hcb : ∀ v ∈ cl, 1 ≤ v ∧ v ≤ xs.length) :
    ∀ (d : Nat) (w : World) (own : OwnM Nat) (vs : List Nat) (RW : List Rw) (s : SL) (K : List (List Int)) (bys : List Int) (i : Nat),
    WS w0 w own b14 b12 xs cl vs RW s K bys → i < xs.length → Apart xs vs → (∀ v ∈ vs, v < xs.length) → xs.length + 1 - vs.length ≤ d →
    Calls Tryz.prog 32 #[.agg #[.int .i64 root, .slice a2 l2 c2], .slice a3 l3 c3, .slice (some ⟨b12, 0, none⟩) (xs.length + 1) c4, .int .i64 (i : Int), .pointer (some ⟨b14, 0, none⟩)] w fun en w' =>
      ∃ r, en = .returned (.int .i64 r) ∧ VisitD w0 own b14 b12 xs cl vs RW K i w r w' := by
  intro d
  induction d with
  | zero =>
    intro w own vs RW s K bys i _ _ ha hv hd
    have := vs_len ha hv; omega
  | succ d ih =>
    intro w own vs RW s K bys i h hi ha hv hd
    have hn := hz.len
    have hvl := vs_len ha hv
    have hl1 := hN.len
    have hl3 := hI.1
    refine calls32 _ _ _ _ _ _ _ _ _ _ _ _ _ w ?_
    refine AllocK.mk fun b7 w8 hb7 hB7 x8 => ?_
    have u7 : Ub own w8 b7 _ _ := ⟨hB7, h.loc.top b7 (by omega)⟩
    have h8 := h.ext x8
    have hil : i < cl.length := by rw [hcl.1]; exact hi
    have hcbi := hcb _ (List.getElem_mem hil)
    rw [← ga_get hil] at hcbi
    obtain ⟨c, hce⟩ : ∃ c : Nat, ga cl i = (c : Int) := ⟨(ga cl i).toNat, by omega⟩
    have hctn : (ga cl i).toNat = c := by omega
    have hbl : bys.length = xs.length + 1 := h.by_.len.symm
    have gcl : ∀ {w'}, Ext w0 w' → ∃ b, a3 = some b ∧ w'.cell? (b.add (((i : Nat) : Int).toNat * 1)) = some (.int .i64 (c : Int)) := fun x => by
      have := intsAt hI x hil; rwa [hce] at this
    have y8 := h8.loc.below
    obtain ⟨bc, ec, qc⟩ := gcl y8
    have gby8 := RowR.geti h8.by_ (i := c) (by omega)
    refine ⟨⟨by omega, by omega⟩, adK ec ⟨_, qc, ⟨by omega, by omega⟩, adK rfl ⟨_, gby8, ?_⟩⟩⟩
    have hbk := h.byk i hi
    rw [hctn] at hbk
    rcases hbk with ⟨hb0, hns⟩ | ⟨q, v, f2, ev, hbq⟩
    rotate_left
    · refine BoolK.mk (fun _ => ?_) (fun t => by have := of_decide_eq_false t; omega)
      have hql := (List.getElem?_eq_some_iff.1 f2).1
      refine ⟨⟨by omega, by omega⟩, adK ec ⟨_, qc, ⟨by omega, by omega⟩, adK rfl ⟨_, gby8, ?_⟩⟩⟩
      refine ⟨own, vs, RW, s, K, bys, h8, .hit ⟨v, List.mem_of_getElem? f2, ev⟩ (.nil _), Kq.ext x8, ⟨q, by rw [wrap_id (by omega) (by omega)]; omega, v, f2, ev⟩, fun q _ => ⟨rfl, rfl⟩, fun q hq => ⟨fun M v k e1 => ?_, fun v k e1 => ?_⟩⟩
      · rw [List.getElem?_eq_none hq] at e1; cases e1
      · rw [List.getElem?_eq_none hq] at e1; cases e1
    refine BoolK.mk (fun t => by have := of_decide_eq_true t; omega) (fun _ => ?_)
    have hlt : vs.length < xs.length := by
      have := vs_len (ha.push hns) (fun v hv' => by
        rcases List.mem_append.1 hv' with h | h
        · exact hv v h
        · simp at h; subst h; exact hi)
      simp at this; omega
    have hsl : s.2.1 = vs.length := by rw [h.out.len, h.lenR]
    obtain ⟨bN, haN, n0, n1, n2, n3, n4, ⟨a3', l3', c3', n5, n6⟩, ⟨a4', l4', c4', n7, n8⟩, _⟩ := ndAt hN (Ext.refl w0) hi
    have g7 : ∀ {w'} {own' : OwnM Nat}, Ub own' w' b7 #[.int .i64 root, .slice a2 l2 c2] 24 → w'.cell? ((⟨b7, 0, none⟩ : Addr).add 0) = some (.int .i64 root) ∧ w'.cell? ((⟨b7, 0, none⟩ : Addr).add 1) = some (.slice a2 l2 c2) := fun u => ⟨by rw [add_mk, u.blk.cell]; rfl, by rw [add_mk, u.blk.cell]; rfl⟩
    refine ⟨_, _, _, (g7 u7).2, ⟨by omega, by omega⟩, adK haN ⟨_, y8.cell n0, _, y8.cell n1, _, y8.cell n2, _, _, _, y8.cell n5, _, _, _, y8.cell n7, ?_⟩⟩
    have hfl := hz.fs _ (List.getElem_mem hi)
    have hkl := hz.ks _ (List.getElem_mem hi)
    have hl4 : l4' = xs[i].ks.length := n8.len
    refine local5 fun b24 w30 hb24 hB24 x30 => ?_
    have h30 := h8.ext x30
    have u24 : Ub own w30 b24 _ _ := ⟨hB24, h8.loc.top b24 (by omega)⟩
    have u7 := u7.ext x30
    have gbox : ∀ {w'} {own' : OwnM Nat} {vs' RW' s' K' bys'}, WS w0 w' own' b14 b12 xs cl vs' RW' s' K' bys' → w'.cell? ((⟨b14, 0, none⟩ : Addr).add 1) = some (.slice s'.1 s'.2.1 s'.2.2) := fun h => by rw [add_mk, h.box.blk.cell]; rfl
    obtain ⟨bc2, ec2, qc2⟩ := gcl h30.loc.below
    refine adK rfl ⟨_, _, _, gbox h30, ⟨by omega, by omega⟩, adK ec2 ⟨_, qc2, ⟨by omega, by omega⟩, adK rfl ?_⟩⟩
    have wl : IntKind.wrap .i64 (((s.2.1 : Nat) : Int) + 1) = ((vs.length : Nat) : Int) + 1 := by rw [hsl, wrap_id (by omega) (by omega)]
    rw [wl]
    refine RowR.seti h30.by_ (i := c) (by omega) _ fun w36 r36 u36 => DrewK.mk fun w37 x37 => ?_
    have hbk' := h.byk.put hcl hcb hbl hi
    rw [hctn] at hbk'
    have bx36 := h30.box.upd u36 (by decide)
    have u36' : Upd own own 1 w30 w37 := ⟨x37.os.trans u36.os, x37.tape.trans u36.tape, x37.output.trans u36.output, Nat.le_trans u36.size x37.size, fun k hk hk2 => (x37.block k (Nat.lt_of_lt_of_le hk u36.size)).trans (u36.block k hk hk2), u36.same, fun ht k hk => u36.top ht k (Nat.le_trans x37.size hk)⟩
    have u24 := (u24.fr u36.fr).ext x37
    have u7 := (u7.fr u36.fr).ext x37
    have r37 := r36.ext x37
    have out37 := h30.out.upd u36' (by decide)
    have box37 := bx36.ext x37
    have y37 : Ext w0 w37 := (h30.loc.upd u36').below
    refine adK rfl ⟨_, _, _, by rw [add_mk, box37.blk.cell]; rfl, _, by rw [u24.blk.cell]; rfl, _, by rw [add_mk, u24.blk.cell]; rfl, _, by rw [add_mk, u24.blk.cell]; rfl, _, _, _, by rw [add_mk, u24.blk.cell]; rfl, ?_⟩
    have hR : ∀ f x, RFt w37 f x → ∀ j, j < 2 → f j = (eFt x)[j]? := fun f x hx j hj => by
      rcases j with _ | _ | j
      · exact hx.1
      · exact hx.2.1
      · omega
    obtain ⟨a44, c44, w45, q45, o45, x45⟩ := copyRows (P := Tryz.prog) (t := 25) (ty := 25) (c := c3') sltF (n6.1.ext RFt.mono y37) eFt_len eFt_one hR (by omega)
    refine ⟨_, _, _, _, q45, Below.cel x45, AllocK.and (AllocK.mk fun b46 w47 _ _ x47 => Below.cel (x45.trans x47)) ?_⟩
    obtain ⟨rowF, uF⟩ := RowR.adopt (s := (a44, l3', c44)) o45 (Nat.le_refl _) x45 own (11 + 3 * vs.length)
    have u24 := u24.fr uF.fr
    have u7 := u7.fr uF.fr
    have box45 := box37.upd uF (by omega)
    have out45 := out37.upd uF (by omega)
    have hkpF : Kq own (setOwn own (sblk (a44, l3', c44)) (11 + 3 * vs.length)) vs.length w w45 := ((Kq.ext (x8.trans x30)).trans (Kq.upd u36' (by omega))).trans (Kq.upd uF (by omega))
    generalize setOwn own (sblk (a44, l3', c44)) (11 + 3 * vs.length) = ownF at rowF uF u24 u7 box45 out45 hkpF
    generalize hraw : (⟨xs[i].kd, xs[i].n, xs[i].tx, (a44, l3', c44), (none, 0, 0)⟩ : Rw) = raw
    refine RowR.push raw sltN out45 eN_len eN_one (by rw [h.lenR]; omega) (by rw [← hraw]; rfl) fun s' w49 rowO uO => ?_
    have box49 := box45.upd uO (by decide)
    have u24 := u24.fr uO.fr
    have u7 := u7.fr uO.fr
    have hkpO := hkpF.trans (Kq.upd (n0 := vs.length) uO (by omega))
    generalize setOwn ownF (sblk s') 0 = ownO at rowO uO box49 u24 u7 hkpO
    refine adK rfl (Bx.setA box49 (by simp) fun w51 box51 u51 => ?_)
    have u24 := u24.fr u51.fr
    have u7 := u7.fr u51.fr
    have hkp51 := hkpO.trans (Kq.upd (n0 := vs.length) u51 (by omega))
    have h51 : WS w0 w51 ownO b14 b12 xs cl (vs ++ [i]) (RW ++ [raw]) s' (K ++ [[]]) (bys.set c ((vs.length : Int) + 1)) :=
      h30.more u36' r37 hbk' (by rw [← hraw, nd_get hi]) (by rw [← hraw, nd_get hi]) (by rw [← hraw, nd_get hi]) (by rw [← hraw]) uF (by rw [← hraw, nd_get hi]; exact rowF) uO rowO u51 (by simpa using box51)
    have hd2 : xs.length + 1 - (vs.length + 1) ≤ d := by omega
    have hkidl : (Gr.kids xs i).length = l4' := by rw [kids_len, nd_get hi]; exact hl4.symm
    have haB : Apart xs (vs ++ [i]) := ha.push hns
    have hvB : ∀ v ∈ vs ++ [i], v < xs.length := fun v hv' => by
      rcases List.mem_append.1 hv' with h | h
      · exact hv v h
      · simp at h; subst h; exact hi
    have hkin : ∀ k ∈ Gr.kids xs i, k < xs.length := fun k hk => by
      obtain ⟨m', hm', e⟩ := List.getElem_of_mem hk
      have e2 := kids_get (by rw [← kids_len]; exact hm')
      rw [List.getElem?_eq_getElem hm', e] at e2
      cases e2; exact kid_lt hc hi (by rw [← kids_len]; exact hm')
    refine ⟨fun a l c x w' => ∃ (m : Nat) (own' : OwnM Nat) (vs' : List Nat) (RW' : List Rw) (s2 : SL) (K' : List (List Int)) (bys' : List Int) (kk : List Int), x = m ∧ m ≤ l4' ∧ WS w0 w' own' b14 b12 xs cl vs' RW' s2 K' bys' ∧ Dfs xs ((Gr.kids xs i).take m) (vs ++ [i]) vs' ∧ Kq ownO own' vs.length w51 w' ∧
        Ub own' w' b7 #[.int .i64 root, .slice a2 l2 c2] 24 ∧ Ub own' w' b24 #[.string xs[i].kd, .int .i64 xs[i].n, .string xs[i].tx, .slice a3' l3' c3', .slice a4' l4' c4'] 37 ∧
        RW'[vs.length]? = some raw ∧ K'[vs.length]? = some [] ∧ (∀ q, q < vs.length → K'[q]? = K[q]? ∧ RW'[q]? = RW[q]?) ∧ RowR own' (10 + 3 * vs.length) 3 1 eI w' (a, l, c) kk ∧ kk.length = m ∧ (∀ m', m' < m → ∃ p : Nat, kk[m']? = some (p : Int) ∧ ∃ u, vs'[p]? = some u ∧ Eqv xs xs u (kid xs i m')) ∧
        (∀ q, vs.length < q → (∀ M, Fil xs vs' K' q M) ∧ ∀ v k, vs'[q]? = some v → K'[q]? = some k → k.length = (nd xs v).ks.length), fun _ _ _ x _ => l4' - x.toNat,
      ⟨⟨0, _, _, _, _, _, _, [], rfl, by omega, h51, .nil _, Kq.refl _ _ _, u7, u24, by rw [← h.lenR, List.getElem?_concat_length], by rw [← h.lenK, List.getElem?_concat_length], fun q hq => ⟨by rw [List.getElem?_append_left (by rw [h.lenK]; exact hq)], by rw [List.getElem?_append_left (by rw [h.lenR]; exact hq)]⟩, RowR.nil _ _ _ _ _ _, rfl, fun m' hm => by omega,
        fun q hq => ⟨fun M v k e1 => ?_, fun v k e1 => ?_⟩⟩, trivial⟩, ?_⟩
    · rw [List.getElem?_eq_none (by simp; omega)] at e1; cases e1
    · rw [List.getElem?_eq_none (by simp; omega)] at e1; cases e1
    rintro w54 a55 l55 c55 _ ⟨m, own', vs', RW', s2, K', bys', kk, rfl, hm, hV, hD, hKp, v7, v24, hRn, hKn, hold, hkk, hkkl, hFn, hFq⟩
    have haV := hD.apart haB
    have hvV := hD.lt hc (fun k hk => hkin k (List.mem_of_mem_take hk)) hvB
    obtain ⟨tl, htl⟩ := hD.grow
    have hvl' : vs.length + 1 ≤ vs'.length := by rw [htl]; simp
    have hvi : vs'[vs.length]? = some i := by rw [htl, List.append_assoc, List.getElem?_append_right (Nat.le_refl _)]; simp
    refine ⟨_, _, _, by rw [add_mk, v24.blk.cell]; rfl, BoolK.mk (fun t => ?_) (fun t => ?_)⟩
    · have hmlt : m < l4' := by have := of_decide_eq_true t; omega
      have hmk4 : m < xs[i].ks.length := by omega
      refine DrewK.mk fun w58 x58 => ?_
      have hV := hV.ext x58
      have v7 := v7.ext x58
      have v24 := v24.ext x58
      have hkk := hkk.ext x58
      obtain ⟨b72, ha2, z0⟩ := ksAt n8 hV.loc.below hmk4
      have hkid := hc _ (List.getElem_mem hi) _ (List.getElem_mem hmk4)
      have hkg : (Gr.kids xs i)[m]? = some (kid xs i m) := kids_get (by rw [nd_get hi]; exact hmk4)
      have hkv : xs[i].ks[m] = ((kid xs i m : Nat) : Int) := by
        rw [kid, nd_get hi, List.getElem?_eq_getElem hmk4]
        show _ = ((xs[i].ks[m].toNat : Nat) : Int)
        omega
      have hkl2 : kid xs i m < xs.length := kid_lt hc hi (by rw [nd_get hi]; exact hmk4)
      rw [hkv] at z0
      refine ⟨_, (g7 v7).1, _, _, _, (g7 v7).2, _, _, _, by rw [add_mk, v24.blk.cell]; rfl, ⟨by omega, by omega⟩, adK ha2 ⟨_, z0, ?_⟩⟩
      refine (ih w58 own' vs' RW' s2 K' bys' (kid xs i m) hV hkl2 haV hvV (by omega)).mono ?_
      rintro en w65 ⟨r, rfl, own2, vs2, RW2, s3, K2, bys2, hV2, hD2, hKp2, ⟨qr, rfl, vr, hvr, evr⟩, hold2, hF2⟩
      have hkk2 := RowR.kq hkk hKp2 (by omega) (by omega)
      have v7 := v7.fr hKp2.fr
      have v24 := v24.fr hKp2.fr
      refine ⟨_, rfl, ?_⟩
      refine RowR.push ((qr : Nat) : Int) sltI hkk2 eI_len eI_one (by rw [hkkl]; omega) rfl fun s5 w70 rowK uK => ?_
      obtain ⟨hK2, hR2⟩ := hold2 vs.length (by omega)
      obtain ⟨tl2, htl2⟩ := hD2.grow
      have hV3 := hV2.updK uK (by rw [hR2]; exact hRn) (by rw [← hraw]) (by rw [hK2]; exact hKn)
      have v7 := v7.fr uK.fr
      have v24 := v24.fr uK.fr
      have hkp3 := ((hKp.trans (Kq.ext x58)).trans (hKp2.mono (by omega))).trans (Kq.upd (n0 := vs.length) uK (by omega))
      rw [wrap_succ (by omega)]
      refine ⟨⟨m + 1, _, vs2, RW2, s3, K2, bys2, _, rfl, by omega, hV3, ?_, hkp3, v7, v24, by rw [hR2]; exact hRn, by rw [hK2]; exact hKn, fun q hq => ?_, rowK, by simp [hkkl], fun m' hm' => ?_, fun q hq => ?_⟩, by simp; omega⟩
      · rw [List.take_add_one, hkg]; exact hD.append hD2
      · obtain ⟨g1, g2⟩ := hold2 q (by omega)
        obtain ⟨g3, g4⟩ := hold q hq
        exact ⟨by rw [g1, g3], by rw [g2, g4]⟩
      · by_cases e : m' = m
        · subst e
          exact ⟨qr, by rw [← hkkl, List.getElem?_concat_length], vr, hvr, evr⟩
        · obtain ⟨pp, f1, u, f2, f3⟩ := hFn m' (by omega)
          exact ⟨pp, by rw [List.getElem?_append_left (by omega)]; exact f1, u, by rw [htl2, List.getElem?_append_left (List.getElem?_eq_some_iff.1 f2).1]; exact f2, f3⟩
      · rcases Nat.lt_or_ge q vs'.length with h1 | h1
        · obtain ⟨g1, g2⟩ := hFq q hq
          refine ⟨fun M => ?_, fun v k e1 e2 => ?_⟩
          · rw [htl2]; exact (g1 M).grow h1 (hold2 q h1).1
          · rw [htl2, List.getElem?_append_left h1] at e1
            rw [(hold2 q h1).1] at e2
            exact g2 v k e1 e2
        · exact hF2 q h1
    · have hml : m = l4' := by have := of_decide_eq_false t; omega
      subst hml
      rw [← hkidl, List.take_length] at hD
      have hs2 : s2.2.1 = vs'.length := by rw [hV.out.len, hV.lenR]
      obtain ⟨b73, e73, set73⟩ := hV.fill (n := vs.length) (sk := (a55, l55, c55)) hRn hKn hkk (F := fun w74 => VisitD w0 own b14 b12 xs cl vs RW K i w ((s.2.1 : Nat) : Int) w74) fun w74 h74 u74 => by
        refine ⟨own', vs', _, s2, _, bys', h74, .new hns hD (.nil _), (hkp51.trans hKp).trans (Kq.upd u74 (by omega)), ⟨vs.length, by rw [hsl], i, hvi, Eqv.refl _ _⟩, fun q hq => ?_, fun q hq => ?_⟩
        · obtain ⟨g3, g4⟩ := hold q hq
          exact ⟨by rw [List.getElem?_set, if_neg (by omega), g3], by rw [List.getElem?_set, if_neg (by omega), g4]⟩
        · have hnK : vs.length < K'.length := (List.getElem?_eq_some_iff.1 hKn).1
          rcases Nat.lt_or_ge vs.length q with h1 | h1
          · obtain ⟨g1, g2⟩ := hFq q h1
            have eK : (K'.set vs.length kk)[q]? = K'[q]? := by rw [List.getElem?_set, if_neg (by omega)]
            exact ⟨fun M v k e1 e2 => g1 M v k e1 (by rw [← eK]; exact e2), fun v k e1 e2 => g2 v k e1 (by rw [← eK]; exact e2)⟩
          · have hq2 : q = vs.length := by omega
            subst hq2
            have eK : (K'.set vs.length kk)[vs.length]? = some kk := by rw [List.getElem?_set, if_pos rfl, if_pos hnK]
            refine ⟨fun M v k e1 e2 m2 hm2 _ => ?_, fun v k e1 e2 => ?_⟩
            · rw [eK] at e2; cases e2
              rw [hvi] at e1; cases e1
              exact hFn m2 (by omega)
            · rw [eK] at e2; cases e2
              rw [hvi] at e1; cases e1
              rw [nd_get hi]; omega
      refine adK rfl ⟨_, _, _, gbox hV, ⟨by omega, by omega⟩, adK e73 ?_⟩
      rw [hsl] at set73 ⊢
      exact set73
end Go.Proofs.YtbiamhoonhjodaaGreatDoor

namespace Go.Proofs.YtbiamhoonhjodaaGreatDoor
open Go Go.V Go.Proofs
open Go.RowKit (Below)
/-! manystrand/manystrandref05.Joined -/
def N17 (x1 : Int) (a2 : Option Addr) (l2 : Nat) (c2 : Nat) (K : Int → Option Addr → Nat → Nat → World → Prop) (w : World) : Prop :=
 AllocK w (#[(.int .i64 x1), (.slice a2 l2 c2)]) 24 fun b3 w4 =>
 AllocK w4 (#[.int .i64 0, .slice none 0 0]) 24 fun b5 w6 =>
 ∃ (a7 : Option Addr) (l7 : Nat) (c7 : Nat), w6.cell? (b3.add 1) = some (.slice a7 l7 c7) ∧
 (Calls Tryz.prog 31 #[(.slice a7 l7 c7)] w6 fun e10 w9 =>
 ∃ (a8 : Option Addr), ∃ (l8 : Nat), ∃ (c8 : Nat), e10 = .returned (.slice a8 l8 c8) ∧
 (∃ (a11 : Option Addr) (l11 : Nat) (c11 : Nat), w9.cell? (b3.add 1) = some (.slice a11 l11 c11) ∧
 ((0 ≤ (IntKind.wrap .i64 ((l11 : Nat) + 1) : Int) ∧ (IntKind.wrap .i64 ((l11 : Nat) + 1) : Int) ≤ IntKind.wrap .i64 ((l11 : Nat) + 1) ∧ ((8 : Nat) : Int) * (IntKind.wrap .i64 ((l11 : Nat) + 1)) ≤ 281474976710656 ∧ (IntKind.wrap .i64 ((l11 : Nat) + 1) : Int) ≤ 9223372036854775807) ∧
 AllocK w9 (madeCells (#[.int .i64 0]) ((IntKind.wrap .i64 ((l11 : Nat) + 1) : Int).toNat * 1)) 3 fun b12 w13 =>
 AllocK w13 (#[.int .i64 0, .slice none 0 0]) 24 fun b14 w15 =>
 ∃ (x16 : Int), w15.cell? (b3.add 0) = some (.int .i64 x16) ∧
 (∃ (a17 : Option Addr) (l17 : Nat) (c17 : Nat), w15.cell? (b3.add 1) = some (.slice a17 l17 c17) ∧
 (∃ (x18 : Int), w15.cell? b3 = some (.int .i64 x18) ∧
 (Calls Tryz.prog 32 #[(.agg #[(.int .i64 x16), (.slice a17 l17 c17)]), (.slice a8 l8 c8), (.slice (some b12) ((IntKind.wrap .i64 ((l11 : Nat) + 1) : Int).toNat) ((IntKind.wrap .i64 ((l11 : Nat) + 1) : Int).toNat)), (.int .i64 x18), (.pointer (some b14))] w15 fun e21 w20 =>
 ∃ (x19 : Int), e21 = .returned (.int .i64 x19) ∧
 (∃ (x22 : Int), w20.cell? (b14.add 0) = some (.int .i64 x22) ∧
 (∃ (a23 : Option Addr) (l23 : Nat) (c23 : Nat), w20.cell? (b14.add 1) = some (.slice a23 l23 c23) ∧
 (SetK w20 (b5.add 0) (.int .i64 x22) fun w24 =>
 SetK w24 (b5.add 1) (.slice a23 l23 c23) fun w25 =>
 ∃ (x26 : Int), w25.cell? (b5.add 0) = some (.int .i64 x26) ∧
 (∃ (a27 : Option Addr) (l27 : Nat) (c27 : Nat), w25.cell? (b5.add 1) = some (.slice a27 l27 c27) ∧
 (K x26 a27 l27 c27 w25)))))))))))
def ann17 : Ann := (.two .nil (.two .nil (.two .nil (.two .nil (.two .nil (.two .nil .nil))))))
noncomputable def code17 : Code := match Tryz.f17.body with | some c => c | none => .skip
theorem wp17 (x1 : Int) (a2 : Option Addr) (l2 : Nat) (c2 : Nat) (K : Int → Option Addr → Nat → Nat → World → Prop) (w : World) : WP Tryz.prog tab code17 ann17 (fnQ tab Tryz.f17.results.toList [(.agg [(.int .i64), .slice])] K) (argE 0 [(.agg #[(.int .i64 x1), (.slice a2 l2 c2)])]) w = N17 x1 a2 l2 c2 K w := by kernel_rfl
theorem calls17 (x1 : Int) (a2 : Option Addr) (l2 : Nat) (c2 : Nat) (K : Int → Option Addr → Nat → Nat → World → Prop) (w : World) (h : N17 x1 a2 l2 c2 K w) : Calls Tryz.prog 17 #[(.agg #[(.int .i64 x1), (.slice a2 l2 c2)])] w fun en w' => ∃ (x28 : Int), ∃ (a29 : Option Addr), ∃ (l29 : Nat), ∃ (c29 : Nat), en = .returned (.agg #[(.int .i64 x28), (.slice a29 l29 c29)]) ∧ K x28 a29 l29 c29 w' :=
 have e : (fun en w' => ExShs [(.agg [(.int .i64), .slice])] fun vs => en = .returned (tupled vs) ∧ ap [(.agg [(.int .i64), .slice])] K vs fun p => p w') = (fun (en : Ending) (w' : World) => ∃ (x28 : Int), ∃ (a29 : Option Addr), ∃ (l29 : Nat), ∃ (c29 : Nat), en = .returned (.agg #[(.int .i64 x28), (.slice a29 l29 c29)]) ∧ K x28 a29 l29 c29 w') := by kernel_rfl
 e ▸ fn_sound tabOk mixed Tryz.func17 (by kernel_rfl : Tryz.f17.body = some code17) ann17 [(.agg #[(.int .i64 x1), (.slice a2 l2 c2)])] [(.agg [(.int .i64), .slice])] K w (by kernel_rfl) ((wp17 x1 a2 l2 c2 K w).symm ▸ h)
end Go.Proofs.YtbiamhoonhjodaaGreatDoor

namespace Go.Proofs.YtbiamhoonhjodaaGreatDoor
open Go Go.V Go.Proofs
open Go.RowKit (Below)
/-! manystrand/manystrandref05.At -/
def N7 (x1 : Int) (a2 : Option Addr) (l2 : Nat) (c2 : Nat) (a3 : Option Addr) (l3 : Nat) (_c3 : Nat) (K : Int → Option Addr → Nat → Nat → Int → World → Prop) (w : World) : Prop :=
 AllocK w (#[(.int .i64 x1), (.slice a2 l2 c2)]) 24 fun b4 w5 =>
 AllocK w5 (#[.int .i64 0, .slice none 0 0]) 24 fun b6 w7 =>
 ∃ (x8 : Int), w7.cell? (b4.add 0) = some (.int .i64 x8) ∧
 (∃ (a9 : Option Addr) (l9 : Nat) (c9 : Nat), w7.cell? (b4.add 1) = some (.slice a9 l9 c9) ∧
 (Calls Tryz.prog 15 #[(.agg #[(.int .i64 x8), (.slice a9 l9 c9)])] w7 fun e12 w11 =>
 ∃ (p10 : Bool), e12 = .returned (.bool p10) ∧
 (BoolK (!p10)
 (SetK w11 (b6.add 0) (.int .i64 0) fun w13 =>
 SetK w13 (b6.add 1) (.slice none 0 0) fun w14 =>
 ∃ (x15 : Int), w14.cell? (b6.add 0) = some (.int .i64 x15) ∧
 (∃ (a16 : Option Addr) (l16 : Nat) (c16 : Nat), w14.cell? (b6.add 1) = some (.slice a16 l16 c16) ∧
 (K x15 a16 l16 c16 50 w14)))
 (∃ (I17 : Int → World → Prop) (μ18 : Int → World → Nat),
 (I17 0 w11 ∧ True) ∧
 ∀ (w19 : World) (x20 : Int), I17 x20 w19 →
 BoolK (decide ((x20 : Int) < (l3 : Nat)))
 (∃ (a21 : Option Addr) (l21 : Nat) (c21 : Nat), w19.cell? (b4.add 1) = some (.slice a21 l21 c21) ∧
 (∃ (x22 : Int), w19.cell? b4 = some (.int .i64 x22) ∧
 ((0 ≤ (x22 : Int) ∧ (x22 : Int) < (l21 : Nat)) ∧
 AddrK a21 fun b23 =>
 ∃ (s24 : ByteArray), w19.cell? ((b23.add ((x22 : Int).toNat * 5)).add 0) = some (.string s24) ∧
 (∃ (x25 : Int), w19.cell? ((b23.add ((x22 : Int).toNat * 5)).add 1) = some (.int .i64 x25) ∧
 (∃ (s26 : ByteArray), w19.cell? ((b23.add ((x22 : Int).toNat * 5)).add 2) = some (.string s26) ∧
 (∃ (a27 : Option Addr) (l27 : Nat) (c27 : Nat), w19.cell? ((b23.add ((x22 : Int).toNat * 5)).add 3) = some (.slice a27 l27 c27) ∧
 (∃ (a28 : Option Addr) (l28 : Nat) (c28 : Nat), w19.cell? ((b23.add ((x22 : Int).toNat * 5)).add 4) = some (.slice a28 l28 c28) ∧
 (AllocK w19 (#[.string ⟨#[]⟩, .int .i64 0, .string ⟨#[]⟩, .slice none 0 0, .slice none 0 0]) 37 fun b29 w30 =>
 SetK w30 (b29.add 0) (.string s24) fun w31 =>
 SetK w31 (b29.add 1) (.int .i64 x25) fun w32 =>
 SetK w32 (b29.add 2) (.string s26) fun w33 =>
 SetK w33 (b29.add 3) (.slice a27 l27 c27) fun w34 =>
 SetK w34 (b29.add 4) (.slice a28 l28 c28) fun w35 =>
 DrewK w35 fun w36 =>
 ∃ (s37 : ByteArray), w36.cell? (b29.add 0) = some (.string s37) ∧
 (∃ (x38 : Int), w36.cell? (b29.add 1) = some (.int .i64 x38) ∧
 (∃ (s39 : ByteArray), w36.cell? (b29.add 2) = some (.string s39) ∧
 (∃ (a40 : Option Addr) (l40 : Nat) (c40 : Nat), w36.cell? (b29.add 3) = some (.slice a40 l40 c40) ∧
 (∃ (a41 : Option Addr) (l41 : Nat) (c41 : Nat), w36.cell? (b29.add 4) = some (.slice a41 l41 c41) ∧
 ((0 ≤ (x20 : Int) ∧ (x20 : Int) < (l3 : Nat)) ∧
 AddrK a3 fun b42 =>
 ∃ (x43 : Int), w36.cell? ((b42.add ((x20 : Int).toNat * 2)).add 0) = some (.int .i64 x43) ∧
 (∃ (s44 : ByteArray), w36.cell? ((b42.add ((x20 : Int).toNat * 2)).add 1) = some (.string s44) ∧
 (Calls Tryz.prog 16 #[(.agg #[(.string s37), (.int .i64 x38), (.string s39), (.slice a40 l40 c40), (.slice a41 l41 c41)]), (.agg #[(.int .i64 x43), (.string s44)])] w36 fun e47 w46 =>
 ∃ (x45 : Int), e47 = .returned (.int .i64 x45) ∧
 (BoolK (decide ((x45 : Int) < 0))
 (SetK w46 (b6.add 0) (.int .i64 0) fun w48 =>
 SetK w48 (b6.add 1) (.slice none 0 0) fun w49 =>
 ∃ (x50 : Int), w49.cell? (b6.add 0) = some (.int .i64 x50) ∧
 (∃ (a51 : Option Addr) (l51 : Nat) (c51 : Nat), w49.cell? (b6.add 1) = some (.slice a51 l51 c51) ∧
 (K x50 a51 l51 c51 5 w49)))
 (∃ (a52 : Option Addr) (l52 : Nat) (c52 : Nat), w46.cell? (b29.add 4) = some (.slice a52 l52 c52) ∧
 ((0 ≤ (x45 : Int) ∧ (x45 : Int) < (l52 : Nat)) ∧
 AddrK a52 fun b53 =>
 ∃ (x54 : Int), w46.cell? (b53.add ((x45 : Int).toNat * 1)) = some (.int .i64 x54) ∧
 (SetK w46 b4 (.int .i64 x54) fun w55 =>
 I17 (IntKind.wrap .i64 (x20 + 1)) w55 ∧ μ18 (IntKind.wrap .i64 (x20 + 1)) w55 < μ18 x20 w19)))))))))))))))))))
 (∃ (x56 : Int), w19.cell? (b4.add 0) = some (.int .i64 x56) ∧
 (∃ (a57 : Option Addr) (l57 : Nat) (c57 : Nat), w19.cell? (b4.add 1) = some (.slice a57 l57 c57) ∧
 (Calls Tryz.prog 17 #[(.agg #[(.int .i64 x56), (.slice a57 l57 c57)])] w19 fun e61 w60 =>
 ∃ (x58 : Int), ∃ (a59 : Option Addr), ∃ (l59 : Nat), ∃ (c59 : Nat), e61 = .returned (.agg #[(.int .i64 x58), (.slice a59 l59 c59)]) ∧
 (SetK w60 (b6.add 0) (.int .i64 x58) fun w62 =>
 SetK w62 (b6.add 1) (.slice a59 l59 c59) fun w63 =>
 ∃ (x64 : Int), w63.cell? (b6.add 0) = some (.int .i64 x64) ∧
 (∃ (a65 : Option Addr) (l65 : Nat) (c65 : Nat), w63.cell? (b6.add 1) = some (.slice a65 l65 c65) ∧
 (K x64 a65 l65 c65 0 w63))))))))))
def ann7 : Ann := (.two .nil (.two (.two .nil (.two (.two .nil .nil) .nil)) (.two (.two .nil (.one (.loop [(6, (.one (.int .i64)))] [1, 2, 4] (.two (.two .nil (.two .nil .nil)) (.two (.one (.two .nil (.two (.anyC 5 (.take 0 (.take 1 (.take 2 (.take 3 (.take 4 .done)))))) (.two (.two .nil (.two (.two .nil .nil) .nil)) .nil)))) .nil))))) (.two .nil .nil))))
noncomputable def code7 : Code := match Tryz.f7.body with | some c => c | none => .skip
theorem wp7 (x1 : Int) (a2 : Option Addr) (l2 : Nat) (c2 : Nat) (a3 : Option Addr) (l3 : Nat) (c3 : Nat) (K : Int → Option Addr → Nat → Nat → Int → World → Prop) (w : World) : WP Tryz.prog tab code7 ann7 (fnQ tab Tryz.f7.results.toList [(.agg [(.int .i64), .slice]), (.one (.int .i64))] K) (argE 0 [(.agg #[(.int .i64 x1), (.slice a2 l2 c2)]), (.slice a3 l3 c3)]) w = N7 x1 a2 l2 c2 a3 l3 c3 K w := by kernel_rfl
theorem calls7 (x1 : Int) (a2 : Option Addr) (l2 : Nat) (c2 : Nat) (a3 : Option Addr) (l3 : Nat) (c3 : Nat) (K : Int → Option Addr → Nat → Nat → Int → World → Prop) (w : World) (h : N7 x1 a2 l2 c2 a3 l3 c3 K w) : Calls Tryz.prog 7 #[(.agg #[(.int .i64 x1), (.slice a2 l2 c2)]), (.slice a3 l3 c3)] w fun en w' => ∃ (x66 : Int), ∃ (a67 : Option Addr), ∃ (l67 : Nat), ∃ (c67 : Nat), ∃ (x68 : Int), en = .returned (.tuple #[(.agg #[(.int .i64 x66), (.slice a67 l67 c67)]), (.int .i64 x68)]) ∧ K x66 a67 l67 c67 x68 w' :=
 have e : (fun en w' => ExShs [(.agg [(.int .i64), .slice]), (.one (.int .i64))] fun vs => en = .returned (tupled vs) ∧ ap [(.agg [(.int .i64), .slice]), (.one (.int .i64))] K vs fun p => p w') = (fun (en : Ending) (w' : World) => ∃ (x66 : Int), ∃ (a67 : Option Addr), ∃ (l67 : Nat), ∃ (c67 : Nat), ∃ (x68 : Int), en = .returned (.tuple #[(.agg #[(.int .i64 x66), (.slice a67 l67 c67)]), (.int .i64 x68)]) ∧ K x66 a67 l67 c67 x68 w') := by kernel_rfl
 e ▸ fn_sound tabOk mixed Tryz.func7 (by kernel_rfl : Tryz.f7.body = some code7) ann7 [(.agg #[(.int .i64 x1), (.slice a2 l2 c2)]), (.slice a3 l3 c3)] [(.agg [(.int .i64), .slice]), (.one (.int .i64))] K w (by kernel_rfl) ((wp7 x1 a2 l2 c2 a3 l3 c3 K w).symm ▸ h)
end Go.Proofs.YtbiamhoonhjodaaGreatDoor

namespace Go.Proofs.YtbiamhoonhjodaaGreatDoor
open Go Go.V Go.Proofs Go.V.Gr
open Go.RowKit (Below)
theorem VN.isG {w : World} {own : OwnM Nat} {xs : List Nd} {vs : List Nat} {RW : List Rw} {s : SL} {K : List (List Int)} (h : VN w own xs vs RW s K) (hF : ∀ q M, Fil xs vs K q M) : IsG xs vs (outOf xs vs K) := by
  have hk : ∀ q (hq : q < vs.length), (K[q]?.getD []).length = (nd xs vs[q]).ks.length := fun q hq => by
    obtain ⟨_, _, _, g4, _⟩ := h.nds q (RW[q]'(by rw [h.lenR]; exact hq)) vs[q] (K[q]'(by rw [h.lenK]; exact hq)) (List.getElem?_eq_getElem _) (List.getElem?_eq_getElem _) (List.getElem?_eq_getElem _)
    rw [List.getElem?_eq_getElem (by rw [h.lenK]; exact hq)]; exact g4
  have hnd : ∀ q (hq : q < vs.length), nd (outOf xs vs K) q = { nd xs vs[q] with ks := K[q]?.getD [] } := fun q hq => by
    have e : (outOf xs vs K)[q]? = _ := outOf_get (K := K) (xs := xs) hq
    unfold nd at e ⊢
    rw [e]; rfl
  refine ⟨outOf_len, fun q hq => ?_, fun q hq m hm => ?_⟩
  · rw [hnd q hq]; exact hd_mk rfl rfl rfl rfl (hk q hq)
  · rw [hnd q hq] at hm ⊢
    have hKq : q < K.length := by rw [h.lenK]; exact hq
    rw [List.getElem?_eq_getElem hKq] at hm ⊢
    obtain ⟨p, e1, u, e2, e3⟩ := hF q (m + 1) vs[q] K[q] (List.getElem?_eq_getElem hq) (List.getElem?_eq_getElem hKq) m hm (by omega)
    obtain ⟨hp, e4⟩ := List.getElem?_eq_some_iff.1 e2
    exact ⟨p, e1, hp, by rw [e4]; exact e3⟩
set_option maxRecDepth 100000 in
theorem c17 (w : World) {a1 : Option Addr} {l1 : Nat} (c1 : Nat) {xs : List Nd} (h : RNds w a1 l1 xs) (hc : Closed xs) (hz : Sz xs) (hw : ∀ x ∈ xs, NdW x) (hd : ∀ x ∈ xs, DOk x ∧ ZOk x) {i : Nat} (hi : i < xs.length) :
    Calls Tryz.prog 17 #[.agg #[.int .i64 (i : Int), .slice a1 l1 c1]] w fun en w' => ∃ x a l c, en = .returned (.agg #[.int .i64 x, .slice a l c]) ∧
      (x = 0 ∧ ∃ out, Least xs i out ∧ GD w w' (a, l, c) out) := by
  refine calls17 _ _ _ _ _ w ?_
  have hn := hz.len
  have hl1 := h.len
  refine AllocK.mk fun b3 w4 hb3 hB3 x4 => AllocK.mk fun b5 w6 hb5 hB5 x6 => ?_
  have hB3 := hB3.ext x6
  have y6 := x4.trans x6
  obtain ⟨g0, g1, g2⟩ := blkAt2 hB3
  refine ⟨_, _, _, g1, (c31 w6 c1 (RNds.at h y6) hc hz hd).mono ?_⟩
  rintro en w9 ⟨a8, l8, c8, rfl, cl, hcl, hcb, hI, x9⟩
  have y9 := y6.trans x9
  have hB3 := hB3.ext x9
  have hB5 := hB5.ext x9
  have hN := RNds.at h y9
  have wl : IntKind.wrap .i64 (((l1 : Nat) : Int) + 1) = ((xs.length + 1 : Nat) : Int) := by rw [hl1, wrap_succ (by omega)]
  obtain ⟨g0, g1, g2⟩ := blkAt2 hB3
  refine ⟨_, _, _, rfl, _, _, _, g1, ?_⟩
  rw [wl]
  refine ⟨⟨by omega, by omega, by omega, by omega⟩, ?_⟩
  rw [Int.toNat_natCast]
  refine RowR.make (x := (0 : Int)) (enc := eI) rfl (by simp only [maxLen]; omega) (fun _ => (none : Option Nat)) 1 fun b12 w13 r12 u12 x13 hb12 => ?_
  have L13 := (Mine.refl (ρ := Nat) w9).upd u12
  generalize setOwn (fun _ => (none : Option Nat)) (some b12) 1 = own12 at r12 u12 L13
  refine Bx.new own12 2 fun b14 w15 x14 u14 x15 hb14 => ?_
  have L15 := L13.upd u14
  have r15 := r12.upd u14 (by decide)
  generalize setOwn own12 (some b14) 2 = own14 at r15 x14 u14 L15
  obtain ⟨g0, g1, g2⟩ := blkAt2 (hB3.ext L15.below)
  have S15 : WS w9 w15 own14 b14 b12 xs cl [] [] (none, 0, 0) [] (List.replicate (xs.length + 1) 0) :=
    ⟨L15, x14, r15, fun i hi => .inl ⟨ga_rep, fun ⟨v, hv, _⟩ => by cases hv⟩, RowR.nil _ _ _ _ _ _, rfl, rfl, fun q r v k e => by simp at e⟩
  refine ⟨_, g0, _, _, _, g1, _, g2, ?_⟩
  refine (c32 (i : Int) c1 c8 (xs.length + 1) hN hI hc hz hcl hcb (xs.length + 1) w15 own14 [] [] (none, 0, 0) [] _ i S15 hi (fun a b x y e => by simp at e) (fun v hv => by simp at hv) (by simp)).mono ?_
  rintro en w20 ⟨r, rfl, own', vs', RW', s', K', bys', V, D, kp, _, _, hF⟩
  have hvV := D.lt hc (by simpa using hi) (by simp)
  have haV := D.apart (fun a b x y e => by simp at e)
  have hvl := vs_len haV hvV
  have N20 : VN w20 own' xs vs' RW' s' K' := ⟨V.out, V.lenR, V.lenK, fun q r v k e1 e2 e3 => by
    obtain ⟨f1, f2, f3, f5, f6⟩ := V.nds q r v k e1 e2 e3
    exact ⟨f1, f2, f3, (hF q (by simp)).2 v k e2 e3, f5, f6⟩⟩
  have G := N20.isG fun q M => (hF q (by simp)).1 M
  have R := fun w' (N : VN w' own' xs vs' RW' s' K') => N.nodes hw (RNds.wf h) hvV (by simp only [maxLen]; omega) hz
  have GD20 : GD w9 w20 s' (outOf xs vs' K') := ⟨own', xs, vs', RW', K', N20, V.loc, R⟩
  refine ⟨_, rfl, _, by rw [add_mk, V.box.blk.cell]; rfl, _, _, _, by rw [add_mk, V.box.blk.cell]; rfl, ?_⟩
  refine setTwo (hB5.ext V.loc.below) fun w23 hB23 k23 => ?_
  obtain ⟨f0, f1, _⟩ := blkAt2 hB23
  have hbw : w.heap.size ≤ b5 := by have := x4.size; omega
  exact ⟨_, f0, _, _, _, f1, rfl, _, ⟨vs', D, G⟩, GD20.but k23 hB5.lt y9 hbw⟩
theorem GrOk.d {root : Int} {xs : List Nd} {most : Nat} (h : GrOk root xs most) (hl : Lim xs) : ∀ x ∈ xs, DOk x ∧ ZOk x := fun x hx => (h.nds x hx).d (hl x hx).1
theorem c7 (w : World) (root : Int) (xs : List Nd) (path : List Ft) {a : Option Addr} {l : Nat} (c : Nat) (h : RNds w a l xs) {a3 : Option Addr} {l3 : Nat} (c3 : Nat) (hp : RL 2 RFt w a3 l3 path) (hl : Lim xs) (hlt : LimT xs) :
    Calls Tryz.prog 7 #[.agg #[.int .i64 root, .slice a l c], .slice a3 l3 c3] w fun en w' => ∃ x a' l' c' e, en = .returned (.tuple #[.agg #[.int .i64 x, .slice a' l' c'], .int .i64 e]) ∧
      ((GrOk root xs 1000 ∧ Ans w w' xs (goP xs path root.toNat) 5 x (a', l', c') e) ∨ (¬ GrOk root xs 1000 ∧ Ans w w' xs none 50 x (a', l', c') e)) := by
  refine calls7 _ _ _ _ _ _ _ _ w ?_
  have hlp := hp.len; have hmp := hp.2
  simp only [maxLen] at hmp
  refine Bx.new (fun _ => (none : Option Nat)) 0 fun b3 w4 x3 u3 e3 hb3 => ?_
  have L4 := (Mine.refl (ρ := Nat) w).upd u3
  generalize setOwn (fun _ => (none : Option Nat)) (some b3) 0 = own at x3 u3 L4
  refine AllocK.mk fun b5 w6 hb5 hB5 x6 => ?_
  have L6 := L4.ext x6
  have x3 := x3.ext x6
  have u5 : Ub own w6 b5 _ _ := ⟨hB5, L4.top b5 (by omega)⟩
  have gb : ∀ {w'} {r : Int}, Bx own 0 w' b3 #[.int .i64 r, .slice a l c] 24 → w'.cell? ((⟨b3, 0, none⟩ : Addr).add 0) = some (.int .i64 r) ∧ w'.cell? ((⟨b3, 0, none⟩ : Addr).add 1) = some (.slice a l c) ∧ w'.cell? (⟨b3, 0, none⟩ : Addr) = some (.int .i64 r) := fun h => blkAt2 h.blk
  refine ⟨_, (gb x3).1, _, _, _, (gb x3).2.1, (c15 w6 root xs c (RNds.at h L6.below) hlt).mono ?_⟩
  rintro en w10 ⟨p, rfl, hv, x10⟩
  have L10 := L6.ext x10
  have x3 := x3.ext x10
  have u5 := u5.ext x10
  have hbw : w.heap.size ≤ b5 := by have := e3.size; omega
  refine ⟨_, rfl, BoolK.mk (fun t => ?_) (fun t => ?_)⟩
  · refine setTwo u5.blk fun w13 hB13 k13 => ?_
    obtain ⟨f0, f1, _⟩ := blkAt2 hB13
    exact ⟨_, f0, _, _, _, f1, .inr ⟨fun e => (by rw [hv.2 e] at t; cases t), k13.below L10.below hbw, rfl, .inr ⟨rfl, rfl, rfl⟩⟩⟩
  have ok := hv.1 (by simpa using t)
  have hr : root = ((root.toNat : Nat) : Int) := by have := ok.root; omega
  rw [hr] at x3
  have hlx := h.len; have hmx := h.2
  simp only [maxLen] at hmx
  refine ⟨fun x22 w' => ∃ i k : Nat, x22 = k ∧ i < xs.length ∧ k ≤ path.length ∧ Mine own w w' ∧ Bx own 0 w' b3 #[.int .i64 (i : Int), .slice a l c] 24 ∧ Ub own w' b5 #[.int .i64 0, .slice none 0 0] 24 ∧ goP xs path root.toNat = goP xs (path.drop k) i, fun x22 _ => path.length - x22.toNat, ⟨⟨root.toNat, 0, rfl, ok.lt, by omega, L10, x3, u5, rfl⟩, trivial⟩, ?_⟩
  clear x3 u5
  rintro w20 _ ⟨i, k, rfl, hi, hk, L20, x3, u5, hgo⟩
  have hni : nd xs i = xs[i] := nd_get hi
  refine BoolK.mk (fun t4 => ?_) (fun t4 => ?_)
  · have hlt' : k < path.length := by have := of_decide_eq_true t4; omega
    obtain ⟨b, ha2, n0, n1, n2, n3, n4, ⟨a5, l5, c5, n5, n6⟩, ⟨a7, l7, c7, n7, n8⟩, _⟩ := ndAt h L20.below hi
    refine ⟨_, _, _, (gb x3).2.1, _, (gb x3).2.2, ⟨by omega, by omega⟩, adK ha2 ⟨_, n0, _, n1, _, n2, _, _, _, n5, _, _, _, n7, ?_⟩⟩
    refine local5 fun b29 w35 hb29 hB29 x35 => DrewK.mk fun w36 x36 => ?_
    have hB29 := hB29.ext x36
    have x36 := x35.trans x36
    have L36 := L20.ext x36
    have u29 : Ub own w36 b29 _ _ := ⟨hB29, L20.top b29 (by omega)⟩
    obtain ⟨b1, ha, q0, q1, q2⟩ := ftAt hp L36.below hlt'
    obtain ⟨f0, f1, f2, f3, f4⟩ := blkAt5 hB29 (Ext.refl w36)
    refine ⟨_, f0, _, f1, _, f2, _, _, _, f3, _, _, _, f4, ⟨by omega, by omega⟩, adK ha ⟨_, q0, _, q1, ?_⟩⟩
    have hd : path.drop k = path[k] :: path.drop (k + 1) := List.drop_eq_getElem_cons hlt'
    rw [hd] at hgo
    refine (c16 w36 xs[i] (a5 := a7) (l5 := l7) c5 c7 (n6.ext RFt.mono x36) path[k]).mono ?_
    rintro en w46 ⟨x45, rfl, hx45, x46⟩
    have L46 := L36.ext x46
    have u5 := (u5.ext x36).ext x46
    have x3 := (x3.ext x36).ext x46
    refine ⟨_, rfl, BoolK.mk (fun t6 => ?_) (fun t6 => ?_)⟩
    · have t6 := of_decide_eq_true t6
      have hno : ixOf (nd xs i).fs path[k] 0 = none := by
        rw [hni]
        cases e : ixOf xs[i].fs path[k] 0 with
        | none => rfl
        | some q => rw [e] at hx45; simp only at hx45; omega
      have hgo : goP xs path root.toNat = none := by rw [hgo, goP, hno]
      rw [hgo]
      refine setTwo u5.blk fun w13 hB13 k13 => ?_
      obtain ⟨f0, f1, _⟩ := blkAt2 hB13
      exact ⟨_, f0, _, _, _, f1, .inl ⟨ok, k13.below L46.below hbw, rfl, .inr ⟨rfl, rfl, rfl⟩⟩⟩
    · have t6 := of_decide_eq_false t6
      cases e : ixOf xs[i].fs path[k] 0 with
      | none => rw [e] at hx45; simp only at hx45; omega
      | some q =>
        rw [e] at hx45; simp only at hx45
        subst hx45
        rw [← hni] at e
        obtain ⟨s1, s2, s3⟩ := ok.step hi e
        rw [hni] at s2
        obtain ⟨f0, f1, f2, f3, f4⟩ := blkAt5 hB29 x46
        obtain ⟨b8, ha8, q8⟩ := ksAt n8 (x36.trans x46) s2
        have h8 := n8.len
        refine ⟨_, _, _, f4, ⟨by omega, by omega⟩, adK ha8 ⟨_, q8, ?_⟩⟩
        have hkid : xs[i].ks[q] = ((kid xs i q : Nat) : Int) := by
          have := ok.closed _ (List.getElem_mem hi) _ (List.getElem_mem s2)
          rw [kid, hni, List.getElem?_eq_getElem s2, Option.getD_some]; omega
        rw [hkid]
        refine x3.set (by simp) fun w55 x55 u55 => ?_
        rw [wrap_succ (by omega)]
        exact ⟨⟨kid xs i q, k + 1, rfl, s3, by omega, L46.upd u55, by simpa using x55, u5.fr u55.fr, by rw [hgo, goP, e]⟩, by simp; omega⟩
  · have t4 := of_decide_eq_false t4
    have : path.drop k = [] := List.drop_eq_nil_of_le (by omega)
    rw [this, goP] at hgo
    rw [hgo]
    refine ⟨_, (gb x3).1, _, _, _, (gb x3).2.1, (c17 w20 c (RNds.at h L20.below) ok.closed (ok.sz (by omega) hl) (ok.w hl) (ok.d hl) hi).mono ?_⟩
    rintro en w51 ⟨x, a', l', c', rfl, rfl, out, hL, hG⟩
    refine ⟨_, _, _, _, rfl, ?_⟩
    refine setTwo (u5.blk.ext hG.below) fun w23 hB23 k23 => ?_
    obtain ⟨f0, f1, _⟩ := blkAt2 hB23
    exact ⟨_, f0, _, _, _, f1, .inl ⟨ok, k23.below (L20.below.trans hG.below) hbw, rfl, .inl ⟨_, rfl, rfl, out, hL, hG.but k23 u5.blk.lt L20.below hbw⟩⟩⟩
end Go.Proofs.YtbiamhoonhjodaaGreatDoor

namespace Go.Proofs.YtbiamhoonhjodaaGreatDoor
open Go Go.V Go.Proofs
open Go.RowKit (Below)
/-! manystrand/manystrandlaw05.GraphAt -/
def N3 (x1 : Int) (a2 : Option Addr) (l2 : Nat) (c2 : Nat) (a3 : Option Addr) (l3 : Nat) (c3 : Nat) (x4 : Int) (K : Bool → World → Prop) (w : World) : Prop :=
 AllocK w (#[(.int .i64 x1), (.slice a2 l2 c2)]) 24 fun b5 w6 =>
 ∃ (J7 : Bool → World → Prop),
 (∀ (w8 : World) (p9 : Bool), J7 p9 w8 →
 BoolK p9
 (Calls Tryz.prog 5 #[] w8 fun e12 w11 =>
 ∃ (p10 : Bool), e12 = .returned (.bool p10) ∧
 (K p10 w11))
 (∃ (I13 : Int → World → Prop) (μ14 : Int → World → Nat),
 (I13 0 w8 ∧ True) ∧
 ∀ (w15 : World) (x16 : Int), I13 x16 w15 →
 BoolK (decide ((x16 : Int) < (l3 : Nat)))
 ((0 ≤ (x16 : Int) ∧ (x16 : Int) < (l3 : Nat)) ∧
 AddrK a3 fun b17 =>
 ∃ (x18 : Int), w15.cell? ((b17.add ((x16 : Int).toNat * 2)).add 0) = some (.int .i64 x18) ∧
 (∃ (s19 : ByteArray), w15.cell? ((b17.add ((x16 : Int).toNat * 2)).add 1) = some (.string s19) ∧
 (AllocK w15 (#[.int .i64 0, .string ⟨#[]⟩]) 29 fun b20 w21 =>
 SetK w21 (b20.add 0) (.int .i64 x18) fun w22 =>
 SetK w22 (b20.add 1) (.string s19) fun w23 =>
 ∃ (s24 : ByteArray), w23.cell? (b20.add 1) = some (.string s24) ∧
 (BoolK (decide (((s24.size : Nat) : Int) > 200))
 (Calls Tryz.prog 5 #[] w23 fun e27 w26 =>
 ∃ (p25 : Bool), e27 = .returned (.bool p25) ∧
 (K p25 w26))
 (I13 (IntKind.wrap .i64 (x16 + 1)) w23 ∧ μ14 (IntKind.wrap .i64 (x16 + 1)) w23 < μ14 x16 w15)))))
 (∃ (x28 : Int), w15.cell? (b5.add 0) = some (.int .i64 x28) ∧
 (∃ (a29 : Option Addr) (l29 : Nat) (c29 : Nat), w15.cell? (b5.add 1) = some (.slice a29 l29 c29) ∧
 (Calls Tryz.prog 6 #[(.agg #[(.int .i64 x28), (.slice a29 l29 c29)]), (.slice a3 l3 c3)] w15 fun e34 w33 =>
 ∃ (x30 : Int), ∃ (a31 : Option Addr), ∃ (l31 : Nat), ∃ (c31 : Nat), ∃ (x32 : Int), e34 = .returned (.tuple #[(.agg #[(.int .i64 x30), (.slice a31 l31 c31)]), (.int .i64 x32)]) ∧
 (AllocK w33 (#[.int .i64 0, .slice none 0 0]) 24 fun b35 w36 =>
 SetK w36 (b35.add 0) (.int .i64 x30) fun w37 =>
 SetK w37 (b35.add 1) (.slice a31 l31 c31) fun w38 =>
 ∃ (x39 : Int), w38.cell? (b5.add 0) = some (.int .i64 x39) ∧
 (∃ (a40 : Option Addr) (l40 : Nat) (c40 : Nat), w38.cell? (b5.add 1) = some (.slice a40 l40 c40) ∧
 (Calls Tryz.prog 7 #[(.agg #[(.int .i64 x39), (.slice a40 l40 c40)]), (.slice a3 l3 c3)] w38 fun e45 w44 =>
 ∃ (x41 : Int), ∃ (a42 : Option Addr), ∃ (l42 : Nat), ∃ (c42 : Nat), ∃ (x43 : Int), e45 = .returned (.tuple #[(.agg #[(.int .i64 x41), (.slice a42 l42 c42)]), (.int .i64 x43)]) ∧
 (AllocK w44 (#[.int .i64 0, .slice none 0 0]) 24 fun b46 w47 =>
 SetK w47 (b46.add 0) (.int .i64 x41) fun w48 =>
 SetK w48 (b46.add 1) (.slice a42 l42 c42) fun w49 =>
 BoolK ((x32 : Int) != x43)
 (K false w49)
 (∃ (x50 : Int), w49.cell? (b35.add 0) = some (.int .i64 x50) ∧
 (∃ (a51 : Option Addr) (l51 : Nat) (c51 : Nat), w49.cell? (b35.add 1) = some (.slice a51 l51 c51) ∧
 (∃ (x52 : Int), w49.cell? (b46.add 0) = some (.int .i64 x52) ∧
 (∃ (a53 : Option Addr) (l53 : Nat) (c53 : Nat), w49.cell? (b46.add 1) = some (.slice a53 l53 c53) ∧
 (Calls Tryz.prog 8 #[(.agg #[(.int .i64 x50), (.slice a51 l51 c51)]), (.agg #[(.int .i64 x52), (.slice a53 l53 c53)])] w49 fun e56 w55 =>
 ∃ (p54 : Bool), e56 = .returned (.bool p54) ∧
 (BoolK (!p54)
 (K false w55)
 ((IntKind.wrap .i64 ((l3 : Nat) + 1) : Int) ≠ 0 ∧
 (∃ (J57 : Option Addr → Int → World → Prop),
 (∀ (w58 : World) (o59 : Option Addr) (x60 : Int), J57 o59 x60 w58 →
 BoolK ((x60 : Int) != 0)
 (BoolK ((x60 : Int) == x32)
 (Calls Tryz.prog 5 #[] w58 fun e63 w62 =>
 ∃ (p61 : Bool), e63 = .returned (.bool p61) ∧
 (K p61 w62))
 (K false w58))
 (DrewK w58 fun w64 =>
 AddrK o59 fun b65 =>
 ∃ (x66 : Int), w64.cell? (b65.add 0) = some (.int .i64 x66) ∧
 (∃ (a67 : Option Addr) (l67 : Nat) (c67 : Nat), w64.cell? (b65.add 1) = some (.slice a67 l67 c67) ∧
 (0 ≤ ((IntKind.wrap .i64 x4 : Int).tmod (IntKind.wrap .i64 ((l3 : Nat) + 1)) : Int) ∧
 ((((IntKind.wrap .i64 x4 : Int).tmod (IntKind.wrap .i64 ((l3 : Nat) + 1)) : Int).toNat ≤ l3 ∧ l3 ≤ c3) ∧
 (Calls Tryz.prog 6 #[(.agg #[(.int .i64 x66), (.slice a67 l67 c67)]), (.slice (if c3 = ((IntKind.wrap .i64 x4 : Int).tmod (IntKind.wrap .i64 ((l3 : Nat) + 1)) : Int).toNat then a3 else (a3).map (·.add (((IntKind.wrap .i64 x4 : Int).tmod (IntKind.wrap .i64 ((l3 : Nat) + 1)) : Int).toNat * 2))) (l3 - ((IntKind.wrap .i64 x4 : Int).tmod (IntKind.wrap .i64 ((l3 : Nat) + 1)) : Int).toNat) (c3 - ((IntKind.wrap .i64 x4 : Int).tmod (IntKind.wrap .i64 ((l3 : Nat) + 1)) : Int).toNat))] w64 fun e72 w71 =>
 ∃ (x68 : Int), ∃ (a69 : Option Addr), ∃ (l69 : Nat), ∃ (c69 : Nat), ∃ (x70 : Int), e72 = .returned (.tuple #[(.agg #[(.int .i64 x68), (.slice a69 l69 c69)]), (.int .i64 x70)]) ∧
 (AddrK o59 fun b73 =>
 SetK w71 (b73.add 0) (.int .i64 x68) fun w74 =>
 SetK w74 (b73.add 1) (.slice a69 l69 c69) fun w75 =>
 BoolK ((x70 : Int) == x32)
 (∃ (x76 : Int), w75.cell? (b35.add 0) = some (.int .i64 x76) ∧
 (∃ (a77 : Option Addr) (l77 : Nat) (c77 : Nat), w75.cell? (b35.add 1) = some (.slice a77 l77 c77) ∧
 (AddrK o59 fun b78 =>
 ∃ (x79 : Int), w75.cell? (b78.add 0) = some (.int .i64 x79) ∧
 (∃ (a80 : Option Addr) (l80 : Nat) (c80 : Nat), w75.cell? (b78.add 1) = some (.slice a80 l80 c80) ∧
 (Calls Tryz.prog 8 #[(.agg #[(.int .i64 x76), (.slice a77 l77 c77)]), (.agg #[(.int .i64 x79), (.slice a80 l80 c80)])] w75 fun e83 w82 =>
 ∃ (p81 : Bool), e83 = .returned (.bool p81) ∧
 (BoolK p81
 (Calls Tryz.prog 5 #[] w82 fun e86 w85 =>
 ∃ (p84 : Bool), e86 = .returned (.bool p84) ∧
 (K p84 w85))
 (K false w82)))))))
 (K false w75)))))))) ∧
 (DrewK w55 fun w87 =>
 ∃ (x88 : Int), w87.cell? (b5.add 0) = some (.int .i64 x88) ∧
 (∃ (a89 : Option Addr) (l89 : Nat) (c89 : Nat), w87.cell? (b5.add 1) = some (.slice a89 l89 c89) ∧
 (0 ≤ ((IntKind.wrap .i64 x4 : Int).tmod (IntKind.wrap .i64 ((l3 : Nat) + 1)) : Int) ∧
 ((0 ≤ ((IntKind.wrap .i64 x4 : Int).tmod (IntKind.wrap .i64 ((l3 : Nat) + 1)) : Int).toNat ∧ ((IntKind.wrap .i64 x4 : Int).tmod (IntKind.wrap .i64 ((l3 : Nat) + 1)) : Int).toNat ≤ c3) ∧
 ((Calls Tryz.prog 6 #[(.agg #[(.int .i64 x88), (.slice a89 l89 c89)]), (.slice (if c3 = 0 then a3 else (a3).map (·.add (0 * 2))) (((IntKind.wrap .i64 x4 : Int).tmod (IntKind.wrap .i64 ((l3 : Nat) + 1)) : Int).toNat - 0) (c3 - 0))] w87 fun e94 w93 =>
 ∃ (x90 : Int), ∃ (a91 : Option Addr), ∃ (l91 : Nat), ∃ (c91 : Nat), ∃ (x92 : Int), e94 = .returned (.tuple #[(.agg #[(.int .i64 x90), (.slice a91 l91 c91)]), (.int .i64 x92)]) ∧
 (AllocK w93 (#[.int .i64 0, .slice none 0 0]) 24 fun b95 w96 =>
 Cel w87 w96 ∧
 (SetK w96 (b95.add 0) (.int .i64 x90) fun w97 =>
 SetK w97 (b95.add 1) (.slice a91 l91 c91) fun w98 =>
 J57 (some b95) x92 w98))) ∧
 (AllocK w87 (#[.int .i64 0, .slice none 0 0]) 24 fun b99 w100 =>
 Cel w87 w100 ∧
 (Calls Tryz.prog 6 #[(.agg #[(.int .i64 x88), (.slice a89 l89 c89)]), (.slice (if c3 = 0 then a3 else (a3).map (·.add (0 * 2))) (((IntKind.wrap .i64 x4 : Int).tmod (IntKind.wrap .i64 ((l3 : Nat) + 1)) : Int).toNat - 0) (c3 - 0))] w100 fun e105 w104 =>
 ∃ (x101 : Int), ∃ (a102 : Option Addr), ∃ (l102 : Nat), ∃ (c102 : Nat), ∃ (x103 : Int), e105 = .returned (.tuple #[(.agg #[(.int .i64 x101), (.slice a102 l102 c102)]), (.int .i64 x103)]) ∧
 (SetK w104 (b99.add 0) (.int .i64 x101) fun w106 =>
 SetK w106 (b99.add 1) (.slice a102 l102 c102) fun w107 =>
 J57 (some b99) x103 w107))))))))))))))))))))))))) ∧
 (∃ (x108 : Int), w6.cell? (b5.add 0) = some (.int .i64 x108) ∧
 (∃ (a109 : Option Addr) (l109 : Nat) (c109 : Nat), w6.cell? (b5.add 1) = some (.slice a109 l109 c109) ∧
 (Calls Tryz.prog 4 #[(.agg #[(.int .i64 x108), (.slice a109 l109 c109)])] w6 fun e112 w111 =>
 ∃ (p110 : Bool), e112 = .returned (.bool p110) ∧
 (BoolK (!p110)
 (J7 true w111)
 (J7 (decide (((l3 : Nat) : Int) > 200)) w111)))))
def ann3 : Ann := (.two .nil (.two (.cut [(23, (.one .bool))] [1, 2, 3] .nil (.two (.two .nil .nil) .nil)) (.two (.two .nil (.one (.loop [(27, (.one (.int .i64)))] [1, 2, 3, 25, 26] (.two .nil (.two (.two .nil .nil) (.two (.one (.two .nil (.two .nil (.two (.two .nil .nil) .nil)))) .nil)))))) (.two .nil (.two .nil (.two (.two .nil (.two (.two .nil .nil) .nil)) (.two .nil (.cut [(14, (.one .ptr)), (15, (.one (.int .i64)))] [1, 9, 10, 13] (.anyC 11 (.take 0 (.take 1 (.take 2 (.take 3 (.both 4 (.take 5 (.take 6 (.take 7 (.one 8 (.one 9 (.take 10 .done)))))) (.one 8 (.one 4 (.take 5 (.take 6 (.take 7 (.one 9 (.take 10 .done))))))))))))) (.two (.two .nil (.two (.two .nil .nil) .nil)) (.two (.anyC 10 (.take 0 (.take 1 (.take 2 (.take 3 (.one 4 (.take 5 (.take 6 (.take 7 (.one 8 (.take 9 .done))))))))))) (.two .nil .nil)))))))))))
noncomputable def code3 : Code := match Tryz.f3.body with | some c => c | none => .skip
theorem wp3 (x1 : Int) (a2 : Option Addr) (l2 : Nat) (c2 : Nat) (a3 : Option Addr) (l3 : Nat) (c3 : Nat) (x4 : Int) (K : Bool → World → Prop) (w : World) : WP Tryz.prog tab code3 ann3 (fnQ tab Tryz.f3.results.toList [(.one .bool)] K) (argE 0 [(.agg #[(.int .i64 x1), (.slice a2 l2 c2)]), (.slice a3 l3 c3), (.int .u8 x4)]) w = N3 x1 a2 l2 c2 a3 l3 c3 x4 K w := by kernel_rfl
theorem calls3 (x1 : Int) (a2 : Option Addr) (l2 : Nat) (c2 : Nat) (a3 : Option Addr) (l3 : Nat) (c3 : Nat) (x4 : Int) (K : Bool → World → Prop) (w : World) (h : N3 x1 a2 l2 c2 a3 l3 c3 x4 K w) : Calls Tryz.prog 3 #[(.agg #[(.int .i64 x1), (.slice a2 l2 c2)]), (.slice a3 l3 c3), (.int .u8 x4)] w fun en w' => ∃ (p113 : Bool), en = .returned (.bool p113) ∧ K p113 w' :=
 have e : (fun en w' => ExShs [(.one .bool)] fun vs => en = .returned (tupled vs) ∧ ap [(.one .bool)] K vs fun p => p w') = (fun (en : Ending) (w' : World) => ∃ (p113 : Bool), en = .returned (.bool p113) ∧ K p113 w') := by kernel_rfl
 e ▸ fn_sound tabOk mixed Tryz.func3 (by kernel_rfl : Tryz.f3.body = some code3) ann3 [(.agg #[(.int .i64 x1), (.slice a2 l2 c2)]), (.slice a3 l3 c3), (.int .u8 x4)] [(.one .bool)] K w (by kernel_rfl) ((wp3 x1 a2 l2 c2 a3 l3 c3 x4 K w).symm ▸ h)
end Go.Proofs.YtbiamhoonhjodaaGreatDoor

namespace Go.Proofs.YtbiamhoonhjodaaGreatDoor
open Go Go.V Go.Proofs Go.V.Gr
open Go.RowKit (Below)
theorem RL.take {α : Type} {sz : Nat} {R : World → Cells → α → Prop} {w : World} {a : Option Addr} {l : Nat} {xs : List α} (h : RL sz R w a l xs) {k c : Nat} (hk : k ≤ l) : RL sz R w (if c = 0 then a else a.map (·.add (0 * sz))) (k - 0) (xs.take k) := by
  have ha : (if c = 0 then a else a.map (·.add (0 * sz))) = a := by
    split
    · rfl
    · cases a with
      | none => rfl
      | some p => obtain ⟨b, o, s⟩ := p; cases s <;> simp [Addr.add]
  rw [ha]
  obtain ⟨⟨h1, h2⟩, h3⟩ := h
  refine ⟨⟨by rw [List.length_take]; omega, ?_⟩, by omega⟩
  rcases h2 with rfl | ⟨b, o, e, h2⟩
  · exact .inl (by simp)
  · refine .inr ⟨b, o, e, fun i x hx => h2 i x ?_⟩
    rw [List.getElem?_take] at hx
    split at hx
    · exact hx
    · cases hx
theorem RL.drop {α : Type} {sz : Nat} {R : World → Cells → α → Prop} {w : World} {a : Option Addr} {l : Nat} {xs : List α} (h : RL sz R w a l xs) {k c : Nat} (hk : k ≤ l) (hlc : l ≤ c) : RL sz R w (if c = k then a else a.map (·.add (k * sz))) (l - k) (xs.drop k) := by
  obtain ⟨⟨h1, h2⟩, h3⟩ := h
  refine ⟨⟨by rw [List.length_drop]; omega, ?_⟩, by omega⟩
  by_cases hkl : k = l
  · exact .inl (List.drop_eq_nil_of_le (by omega))
  rcases h2 with rfl | ⟨b, o, e, h2⟩
  · exact .inl (by simp)
  · rw [if_neg (by omega), e]
    refine .inr ⟨b, o + k * sz, by simp [add_mk], fun i x hx => ?_⟩
    rw [List.getElem?_drop] at hx
    have := h2 (k + i) x hx
    have e2 : ∀ j, o + (k + i) * sz + j = o + k * sz + i * sz + j := fun j => by rw [Nat.add_mul]; omega
    simpa only [e2] using this
end Go.Proofs.YtbiamhoonhjodaaGreatDoor
