/- A part of the proof: plain forms of functions and laws about them. -/
import Derived.Test.YtgggbmikmmljcaaGreatOutsE
namespace Go.Proofs.YtgggbmikmmljcaaGreat
open Go Go.V Go.Proofs
open Go.RowKit (Below)
/-! (*manystrand/manystrandref27.Count).Make -/
def N23 (o1 : Option Addr) (x2 : Int) (K : Int → Int → World → Prop) (w : World) : Prop :=
 Calls Tryz.prog 58 #[(.pointer o1), (.int .i64 x2)] w fun e5 w4 =>
 ∃ (p3 : Bool), e5 = .returned (.bool p3) ∧
 (BoolK (!p3)
 (K 0 2 w4)
 (DrewK w4 fun w6 =>
 ∃ (v7 : World), Cel v7 w6 ∧
 (AddrK o1 fun b8 =>
 ∃ (a9 : Option Addr) (l9 : Nat) (c9 : Nat), v7.cell? (b8.add 4) = some (.slice a9 l9 c9) ∧
 (AddrK o1 fun b10 =>
 ∃ (a11 : Option Addr) (l11 : Nat) (c11 : Nat), v7.cell? (b10.add 3) = some (.slice a11 l11 c11) ∧
 ((0 ≤ (x2 : Int) ∧ (x2 : Int) < (l11 : Nat)) ∧
 AddrK a11 fun b12 =>
 ∃ (x13 : Int), v7.cell? (b12.add ((x2 : Int).toNat * 1)) = some (.int .i64 x13) ∧
 (AllocK w6 (#[(.int .i64 x2), (.int .i64 0), (.int .i64 x13), (.bool true), (.bool false), (.bool false), (.slice none 0 0)]) 98 fun b14 w15 =>
 Cel v7 w15 ∧
 (∃ (a16 : Option Addr), ∃ (l16 : Nat), ∃ (c16 : Nat), ∃ (w17 : World), Sem.run Tryz.prog (Builtin.append_ #[44, 44] 44 #[(.slice a9 l9 c9), (.slice (some b14) 1 1)]) w15 = .ok (.slice a16 l16 c16) w17 ∧
 (AddrK o1 fun b18 =>
 SetK w17 (b18.add 4) (.slice a16 l16 c16) fun w19 =>
 ∃ (I20 : Int → World → Prop) (μ21 : Int → World → Nat),
 (I20 0 w19 ∧ True) ∧
 ∀ (w22 : World) (x23 : Int), I20 x23 w22 →
 AddrK o1 fun b24 =>
 ∃ (x25 : Int), w22.cell? b24 = some (.int .i64 x25) ∧
 (BoolK (decide ((x23 : Int) < x25))
 (DrewK w22 fun w26 =>
 ∃ (v27 : World), Cel v27 w26 ∧
 (AddrK o1 fun b28 =>
 ∃ (a29 : Option Addr) (l29 : Nat) (c29 : Nat), v27.cell? (b28.add 5) = some (.slice a29 l29 c29) ∧
 (AddrK o1 fun b30 =>
 ∃ (a31 : Option Addr) (l31 : Nat) (c31 : Nat), v27.cell? (b30.add 5) = some (.slice a31 l31 c31) ∧
 ((0 ≤ (x23 : Int) ∧ (x23 : Int) < (l31 : Nat)) ∧
 AddrK a31 fun b32 =>
 ∃ (a33 : Option Addr) (l33 : Nat) (c33 : Nat), v27.cell? (b32.add ((x23 : Int).toNat * 1)) = some (.slice a33 l33 c33) ∧
 (AllocK w26 (#[(.int .i64 0)]) 3 fun b34 w35 =>
 Cel v27 w35 ∧
 (∃ (a36 : Option Addr), ∃ (l36 : Nat), ∃ (c36 : Nat), ∃ (w37 : World), Sem.run Tryz.prog (Builtin.append_ #[43, 43] 43 #[(.slice a33 l33 c33), (.slice (some b34) 1 1)]) w35 = .ok (.slice a36 l36 c36) w37 ∧
 (Cel v27 w37 ∧
 ((0 ≤ (x23 : Int) ∧ (x23 : Int) < (l29 : Nat)) ∧
 AddrK a29 fun b38 =>
 SetK w37 (b38.add ((x23 : Int).toNat * 1)) (.slice a36 l36 c36) fun w39 =>
 DrewK w39 fun w40 =>
 ∃ (v41 : World), Cel v41 w40 ∧
 (AddrK o1 fun b42 =>
 ∃ (a43 : Option Addr) (l43 : Nat) (c43 : Nat), v41.cell? (b42.add 6) = some (.slice a43 l43 c43) ∧
 (AddrK o1 fun b44 =>
 ∃ (a45 : Option Addr) (l45 : Nat) (c45 : Nat), v41.cell? (b44.add 7) = some (.slice a45 l45 c45) ∧
 (AddrK o1 fun b46 =>
 ∃ (a47 : Option Addr) (l47 : Nat) (c47 : Nat), v41.cell? (b46.add 8) = some (.slice a47 l47 c47) ∧
 (AddrK o1 fun b48 =>
 ∃ (a49 : Option Addr) (l49 : Nat) (c49 : Nat), v41.cell? (b48.add 6) = some (.slice a49 l49 c49) ∧
 ((0 ≤ (x23 : Int) ∧ (x23 : Int) < (l49 : Nat)) ∧
 AddrK a49 fun b50 =>
 ∃ (a51 : Option Addr) (l51 : Nat) (c51 : Nat), v41.cell? (b50.add ((x23 : Int).toNat * 1)) = some (.slice a51 l51 c51) ∧
 (AddrK o1 fun b52 =>
 ∃ (a53 : Option Addr) (l53 : Nat) (c53 : Nat), v41.cell? (b52.add 7) = some (.slice a53 l53 c53) ∧
 ((0 ≤ (x23 : Int) ∧ (x23 : Int) < (l53 : Nat)) ∧
 AddrK a53 fun b54 =>
 ∃ (a55 : Option Addr) (l55 : Nat) (c55 : Nat), v41.cell? (b54.add ((x23 : Int).toNat * 1)) = some (.slice a55 l55 c55) ∧
 (AddrK o1 fun b56 =>
 ∃ (a57 : Option Addr) (l57 : Nat) (c57 : Nat), v41.cell? (b56.add 8) = some (.slice a57 l57 c57) ∧
 ((0 ≤ (x23 : Int) ∧ (x23 : Int) < (l57 : Nat)) ∧
 AddrK a57 fun b58 =>
 ∃ (a59 : Option Addr) (l59 : Nat) (c59 : Nat), v41.cell? (b58.add ((x23 : Int).toNat * 1)) = some (.slice a59 l59 c59) ∧
 ((AllocK w40 (#[(.bool false)]) 4 fun b60 w61 =>
 Cel v41 w61 ∧
 ((∃ (a62 : Option Addr), ∃ (l62 : Nat), ∃ (c62 : Nat), ∃ (w63 : World), Sem.run Tryz.prog (Builtin.append_ #[84, 84] 84 #[(.slice a51 l51 c51), (.slice (some b60) 1 1)]) w61 = .ok (.slice a62 l62 c62) w63 ∧
 (Cel v41 w63 ∧
 ((AllocK w63 (#[(.bool false)]) 4 fun b64 w65 =>
 Cel v41 w65 ∧
 ((∃ (a66 : Option Addr), ∃ (l66 : Nat), ∃ (c66 : Nat), ∃ (w67 : World), Sem.run Tryz.prog (Builtin.append_ #[84, 84] 84 #[(.slice a55 l55 c55), (.slice (some b64) 1 1)]) w65 = .ok (.slice a66 l66 c66) w67 ∧
 (Cel v41 w67 ∧
 (AllocK w67 (#[(.bool false)]) 4 fun b68 w69 =>
 Cel v41 w69 ∧
 (∃ (a70 : Option Addr), ∃ (l70 : Nat), ∃ (c70 : Nat), ∃ (w71 : World), Sem.run Tryz.prog (Builtin.append_ #[84, 84] 84 #[(.slice a59 l59 c59), (.slice (some b68) 1 1)]) w69 = .ok (.slice a70 l70 c70) w71 ∧
 (Cel v41 w71 ∧
 ((0 ≤ (x23 : Int) ∧ (x23 : Int) < (l43 : Nat)) ∧
 AddrK a43 fun b72 =>
 SetK w71 (b72.add ((x23 : Int).toNat * 1)) (.slice a62 l62 c62) fun w73 =>
 (0 ≤ (x23 : Int) ∧ (x23 : Int) < (l45 : Nat)) ∧
 AddrK a45 fun b74 =>
 SetK w73 (b74.add ((x23 : Int).toNat * 1)) (.slice a66 l66 c66) fun w75 =>
 (0 ≤ (x23 : Int) ∧ (x23 : Int) < (l47 : Nat)) ∧
 AddrK a47 fun b76 =>
 SetK w75 (b76.add ((x23 : Int).toNat * 1)) (.slice a70 l70 c70) fun w77 =>
 I20 (IntKind.wrap .i64 (x23 + 1)) w77 ∧ μ21 (IntKind.wrap .i64 (x23 + 1)) w77 < μ21 x23 w22)))))) ∧
 (AllocK w65 (#[(.bool false)]) 4 fun b78 w79 =>
 Cel v41 w79 ∧
 (∃ (a80 : Option Addr), ∃ (l80 : Nat), ∃ (c80 : Nat), ∃ (w81 : World), Sem.run Tryz.prog (Builtin.append_ #[84, 84] 84 #[(.slice a55 l55 c55), (.slice (some b64) 1 1)]) w79 = .ok (.slice a80 l80 c80) w81 ∧
 (Cel v41 w81 ∧
 (∃ (a82 : Option Addr), ∃ (l82 : Nat), ∃ (c82 : Nat), ∃ (w83 : World), Sem.run Tryz.prog (Builtin.append_ #[84, 84] 84 #[(.slice a59 l59 c59), (.slice (some b78) 1 1)]) w81 = .ok (.slice a82 l82 c82) w83 ∧
 (Cel v41 w83 ∧
 ((0 ≤ (x23 : Int) ∧ (x23 : Int) < (l43 : Nat)) ∧
 AddrK a43 fun b84 =>
 SetK w83 (b84.add ((x23 : Int).toNat * 1)) (.slice a62 l62 c62) fun w85 =>
 (0 ≤ (x23 : Int) ∧ (x23 : Int) < (l45 : Nat)) ∧
 AddrK a45 fun b86 =>
 SetK w85 (b86.add ((x23 : Int).toNat * 1)) (.slice a80 l80 c80) fun w87 =>
 (0 ≤ (x23 : Int) ∧ (x23 : Int) < (l47 : Nat)) ∧
 AddrK a47 fun b88 =>
 SetK w87 (b88.add ((x23 : Int).toNat * 1)) (.slice a82 l82 c82) fun w89 =>
 I20 (IntKind.wrap .i64 (x23 + 1)) w89 ∧ μ21 (IntKind.wrap .i64 (x23 + 1)) w89 < μ21 x23 w22)))))))) ∧
 (AllocK w63 (#[(.bool false)]) 4 fun b90 w91 =>
 Cel v41 w91 ∧
 (AllocK w91 (#[(.bool false)]) 4 fun b92 w93 =>
 Cel v41 w93 ∧
 (∃ (a94 : Option Addr), ∃ (l94 : Nat), ∃ (c94 : Nat), ∃ (w95 : World), Sem.run Tryz.prog (Builtin.append_ #[84, 84] 84 #[(.slice a55 l55 c55), (.slice (some b92) 1 1)]) w93 = .ok (.slice a94 l94 c94) w95 ∧
 (Cel v41 w95 ∧
 (∃ (a96 : Option Addr), ∃ (l96 : Nat), ∃ (c96 : Nat), ∃ (w97 : World), Sem.run Tryz.prog (Builtin.append_ #[84, 84] 84 #[(.slice a59 l59 c59), (.slice (some b90) 1 1)]) w95 = .ok (.slice a96 l96 c96) w97 ∧
 (Cel v41 w97 ∧
 ((0 ≤ (x23 : Int) ∧ (x23 : Int) < (l43 : Nat)) ∧
 AddrK a43 fun b98 =>
 SetK w97 (b98.add ((x23 : Int).toNat * 1)) (.slice a62 l62 c62) fun w99 =>
 (0 ≤ (x23 : Int) ∧ (x23 : Int) < (l45 : Nat)) ∧
 AddrK a45 fun b100 =>
 SetK w99 (b100.add ((x23 : Int).toNat * 1)) (.slice a94 l94 c94) fun w101 =>
 (0 ≤ (x23 : Int) ∧ (x23 : Int) < (l47 : Nat)) ∧
 AddrK a47 fun b102 =>
 SetK w101 (b102.add ((x23 : Int).toNat * 1)) (.slice a96 l96 c96) fun w103 =>
 I20 (IntKind.wrap .i64 (x23 + 1)) w103 ∧ μ21 (IntKind.wrap .i64 (x23 + 1)) w103 < μ21 x23 w22)))))))))) ∧
 ((AllocK w61 (#[(.bool false)]) 4 fun b104 w105 =>
 Cel v41 w105 ∧
 ((∃ (a106 : Option Addr), ∃ (l106 : Nat), ∃ (c106 : Nat), ∃ (w107 : World), Sem.run Tryz.prog (Builtin.append_ #[84, 84] 84 #[(.slice a51 l51 c51), (.slice (some b60) 1 1)]) w105 = .ok (.slice a106 l106 c106) w107 ∧
 (Cel v41 w107 ∧
 ((∃ (a108 : Option Addr), ∃ (l108 : Nat), ∃ (c108 : Nat), ∃ (w109 : World), Sem.run Tryz.prog (Builtin.append_ #[84, 84] 84 #[(.slice a55 l55 c55), (.slice (some b104) 1 1)]) w107 = .ok (.slice a108 l108 c108) w109 ∧
 (Cel v41 w109 ∧
 (AllocK w109 (#[(.bool false)]) 4 fun b110 w111 =>
 Cel v41 w111 ∧
 (∃ (a112 : Option Addr), ∃ (l112 : Nat), ∃ (c112 : Nat), ∃ (w113 : World), Sem.run Tryz.prog (Builtin.append_ #[84, 84] 84 #[(.slice a59 l59 c59), (.slice (some b110) 1 1)]) w111 = .ok (.slice a112 l112 c112) w113 ∧
 (Cel v41 w113 ∧
 ((0 ≤ (x23 : Int) ∧ (x23 : Int) < (l43 : Nat)) ∧
 AddrK a43 fun b114 =>
 SetK w113 (b114.add ((x23 : Int).toNat * 1)) (.slice a106 l106 c106) fun w115 =>
 (0 ≤ (x23 : Int) ∧ (x23 : Int) < (l45 : Nat)) ∧
 AddrK a45 fun b116 =>
 SetK w115 (b116.add ((x23 : Int).toNat * 1)) (.slice a108 l108 c108) fun w117 =>
 (0 ≤ (x23 : Int) ∧ (x23 : Int) < (l47 : Nat)) ∧
 AddrK a47 fun b118 =>
 SetK w117 (b118.add ((x23 : Int).toNat * 1)) (.slice a112 l112 c112) fun w119 =>
 I20 (IntKind.wrap .i64 (x23 + 1)) w119 ∧ μ21 (IntKind.wrap .i64 (x23 + 1)) w119 < μ21 x23 w22)))))) ∧
 (AllocK w107 (#[(.bool false)]) 4 fun b120 w121 =>
 Cel v41 w121 ∧
 (∃ (a122 : Option Addr), ∃ (l122 : Nat), ∃ (c122 : Nat), ∃ (w123 : World), Sem.run Tryz.prog (Builtin.append_ #[84, 84] 84 #[(.slice a55 l55 c55), (.slice (some b104) 1 1)]) w121 = .ok (.slice a122 l122 c122) w123 ∧
 (Cel v41 w123 ∧
 (∃ (a124 : Option Addr), ∃ (l124 : Nat), ∃ (c124 : Nat), ∃ (w125 : World), Sem.run Tryz.prog (Builtin.append_ #[84, 84] 84 #[(.slice a59 l59 c59), (.slice (some b120) 1 1)]) w123 = .ok (.slice a124 l124 c124) w125 ∧
 (Cel v41 w125 ∧
 ((0 ≤ (x23 : Int) ∧ (x23 : Int) < (l43 : Nat)) ∧
 AddrK a43 fun b126 =>
 SetK w125 (b126.add ((x23 : Int).toNat * 1)) (.slice a106 l106 c106) fun w127 =>
 (0 ≤ (x23 : Int) ∧ (x23 : Int) < (l45 : Nat)) ∧
 AddrK a45 fun b128 =>
 SetK w127 (b128.add ((x23 : Int).toNat * 1)) (.slice a122 l122 c122) fun w129 =>
 (0 ≤ (x23 : Int) ∧ (x23 : Int) < (l47 : Nat)) ∧
 AddrK a47 fun b130 =>
 SetK w129 (b130.add ((x23 : Int).toNat * 1)) (.slice a124 l124 c124) fun w131 =>
 I20 (IntKind.wrap .i64 (x23 + 1)) w131 ∧ μ21 (IntKind.wrap .i64 (x23 + 1)) w131 < μ21 x23 w22))))))))) ∧
 (AllocK w105 (#[(.bool false)]) 4 fun b132 w133 =>
 Cel v41 w133 ∧
 (∃ (a134 : Option Addr), ∃ (l134 : Nat), ∃ (c134 : Nat), ∃ (w135 : World), Sem.run Tryz.prog (Builtin.append_ #[84, 84] 84 #[(.slice a51 l51 c51), (.slice (some b60) 1 1)]) w133 = .ok (.slice a134 l134 c134) w135 ∧
 (Cel v41 w135 ∧
 (∃ (a136 : Option Addr), ∃ (l136 : Nat), ∃ (c136 : Nat), ∃ (w137 : World), Sem.run Tryz.prog (Builtin.append_ #[84, 84] 84 #[(.slice a55 l55 c55), (.slice (some b104) 1 1)]) w135 = .ok (.slice a136 l136 c136) w137 ∧
 (Cel v41 w137 ∧
 (∃ (a138 : Option Addr), ∃ (l138 : Nat), ∃ (c138 : Nat), ∃ (w139 : World), Sem.run Tryz.prog (Builtin.append_ #[84, 84] 84 #[(.slice a59 l59 c59), (.slice (some b132) 1 1)]) w137 = .ok (.slice a138 l138 c138) w139 ∧
 (Cel v41 w139 ∧
 ((0 ≤ (x23 : Int) ∧ (x23 : Int) < (l43 : Nat)) ∧
 AddrK a43 fun b140 =>
 SetK w139 (b140.add ((x23 : Int).toNat * 1)) (.slice a134 l134 c134) fun w141 =>
 (0 ≤ (x23 : Int) ∧ (x23 : Int) < (l45 : Nat)) ∧
 AddrK a45 fun b142 =>
 SetK w141 (b142.add ((x23 : Int).toNat * 1)) (.slice a136 l136 c136) fun w143 =>
 (0 ≤ (x23 : Int) ∧ (x23 : Int) < (l47 : Nat)) ∧
 AddrK a47 fun b144 =>
 SetK w143 (b144.add ((x23 : Int).toNat * 1)) (.slice a138 l138 c138) fun w145 =>
 I20 (IntKind.wrap .i64 (x23 + 1)) w145 ∧ μ21 (IntKind.wrap .i64 (x23 + 1)) w145 < μ21 x23 w22)))))))))) ∧
 (AllocK w61 (#[(.bool false)]) 4 fun b146 w147 =>
 Cel v41 w147 ∧
 ((∃ (a148 : Option Addr), ∃ (l148 : Nat), ∃ (c148 : Nat), ∃ (w149 : World), Sem.run Tryz.prog (Builtin.append_ #[84, 84] 84 #[(.slice a51 l51 c51), (.slice (some b60) 1 1)]) w147 = .ok (.slice a148 l148 c148) w149 ∧
 (Cel v41 w149 ∧
 (AllocK w149 (#[(.bool false)]) 4 fun b150 w151 =>
 Cel v41 w151 ∧
 (∃ (a152 : Option Addr), ∃ (l152 : Nat), ∃ (c152 : Nat), ∃ (w153 : World), Sem.run Tryz.prog (Builtin.append_ #[84, 84] 84 #[(.slice a55 l55 c55), (.slice (some b150) 1 1)]) w151 = .ok (.slice a152 l152 c152) w153 ∧
 (Cel v41 w153 ∧
 (∃ (a154 : Option Addr), ∃ (l154 : Nat), ∃ (c154 : Nat), ∃ (w155 : World), Sem.run Tryz.prog (Builtin.append_ #[84, 84] 84 #[(.slice a59 l59 c59), (.slice (some b146) 1 1)]) w153 = .ok (.slice a154 l154 c154) w155 ∧
 (Cel v41 w155 ∧
 ((0 ≤ (x23 : Int) ∧ (x23 : Int) < (l43 : Nat)) ∧
 AddrK a43 fun b156 =>
 SetK w155 (b156.add ((x23 : Int).toNat * 1)) (.slice a148 l148 c148) fun w157 =>
 (0 ≤ (x23 : Int) ∧ (x23 : Int) < (l45 : Nat)) ∧
 AddrK a45 fun b158 =>
 SetK w157 (b158.add ((x23 : Int).toNat * 1)) (.slice a152 l152 c152) fun w159 =>
 (0 ≤ (x23 : Int) ∧ (x23 : Int) < (l47 : Nat)) ∧
 AddrK a47 fun b160 =>
 SetK w159 (b160.add ((x23 : Int).toNat * 1)) (.slice a154 l154 c154) fun w161 =>
 I20 (IntKind.wrap .i64 (x23 + 1)) w161 ∧ μ21 (IntKind.wrap .i64 (x23 + 1)) w161 < μ21 x23 w22)))))))) ∧
 (AllocK w147 (#[(.bool false)]) 4 fun b162 w163 =>
 Cel v41 w163 ∧
 (∃ (a164 : Option Addr), ∃ (l164 : Nat), ∃ (c164 : Nat), ∃ (w165 : World), Sem.run Tryz.prog (Builtin.append_ #[84, 84] 84 #[(.slice a51 l51 c51), (.slice (some b60) 1 1)]) w163 = .ok (.slice a164 l164 c164) w165 ∧
 (Cel v41 w165 ∧
 (∃ (a166 : Option Addr), ∃ (l166 : Nat), ∃ (c166 : Nat), ∃ (w167 : World), Sem.run Tryz.prog (Builtin.append_ #[84, 84] 84 #[(.slice a55 l55 c55), (.slice (some b162) 1 1)]) w165 = .ok (.slice a166 l166 c166) w167 ∧
 (Cel v41 w167 ∧
 (∃ (a168 : Option Addr), ∃ (l168 : Nat), ∃ (c168 : Nat), ∃ (w169 : World), Sem.run Tryz.prog (Builtin.append_ #[84, 84] 84 #[(.slice a59 l59 c59), (.slice (some b146) 1 1)]) w167 = .ok (.slice a168 l168 c168) w169 ∧
 (Cel v41 w169 ∧
 ((0 ≤ (x23 : Int) ∧ (x23 : Int) < (l43 : Nat)) ∧
 AddrK a43 fun b170 =>
 SetK w169 (b170.add ((x23 : Int).toNat * 1)) (.slice a164 l164 c164) fun w171 =>
 (0 ≤ (x23 : Int) ∧ (x23 : Int) < (l45 : Nat)) ∧
 AddrK a45 fun b172 =>
 SetK w171 (b172.add ((x23 : Int).toNat * 1)) (.slice a166 l166 c166) fun w173 =>
 (0 ≤ (x23 : Int) ∧ (x23 : Int) < (l47 : Nat)) ∧
 AddrK a47 fun b174 =>
 SetK w173 (b174.add ((x23 : Int).toNat * 1)) (.slice a168 l168 c168) fun w175 =>
 I20 (IntKind.wrap .i64 (x23 + 1)) w175 ∧ μ21 (IntKind.wrap .i64 (x23 + 1)) w175 < μ21 x23 w22))))))))))))) ∧
 ((AllocK w40 (#[(.bool false)]) 4 fun b176 w177 =>
 Cel v41 w177 ∧
 ((AllocK w177 (#[(.bool false)]) 4 fun b178 w179 =>
 Cel v41 w179 ∧
 ((∃ (a180 : Option Addr), ∃ (l180 : Nat), ∃ (c180 : Nat), ∃ (w181 : World), Sem.run Tryz.prog (Builtin.append_ #[84, 84] 84 #[(.slice a51 l51 c51), (.slice (some b178) 1 1)]) w179 = .ok (.slice a180 l180 c180) w181 ∧
 (Cel v41 w181 ∧
 ((∃ (a182 : Option Addr), ∃ (l182 : Nat), ∃ (c182 : Nat), ∃ (w183 : World), Sem.run Tryz.prog (Builtin.append_ #[84, 84] 84 #[(.slice a55 l55 c55), (.slice (some b176) 1 1)]) w181 = .ok (.slice a182 l182 c182) w183 ∧
 (Cel v41 w183 ∧
 (AllocK w183 (#[(.bool false)]) 4 fun b184 w185 =>
 Cel v41 w185 ∧
 (∃ (a186 : Option Addr), ∃ (l186 : Nat), ∃ (c186 : Nat), ∃ (w187 : World), Sem.run Tryz.prog (Builtin.append_ #[84, 84] 84 #[(.slice a59 l59 c59), (.slice (some b184) 1 1)]) w185 = .ok (.slice a186 l186 c186) w187 ∧
 (Cel v41 w187 ∧
 ((0 ≤ (x23 : Int) ∧ (x23 : Int) < (l43 : Nat)) ∧
 AddrK a43 fun b188 =>
 SetK w187 (b188.add ((x23 : Int).toNat * 1)) (.slice a180 l180 c180) fun w189 =>
 (0 ≤ (x23 : Int) ∧ (x23 : Int) < (l45 : Nat)) ∧
 AddrK a45 fun b190 =>
 SetK w189 (b190.add ((x23 : Int).toNat * 1)) (.slice a182 l182 c182) fun w191 =>
 (0 ≤ (x23 : Int) ∧ (x23 : Int) < (l47 : Nat)) ∧
 AddrK a47 fun b192 =>
 SetK w191 (b192.add ((x23 : Int).toNat * 1)) (.slice a186 l186 c186) fun w193 =>
 I20 (IntKind.wrap .i64 (x23 + 1)) w193 ∧ μ21 (IntKind.wrap .i64 (x23 + 1)) w193 < μ21 x23 w22)))))) ∧
 (AllocK w181 (#[(.bool false)]) 4 fun b194 w195 =>
 Cel v41 w195 ∧
 (∃ (a196 : Option Addr), ∃ (l196 : Nat), ∃ (c196 : Nat), ∃ (w197 : World), Sem.run Tryz.prog (Builtin.append_ #[84, 84] 84 #[(.slice a55 l55 c55), (.slice (some b176) 1 1)]) w195 = .ok (.slice a196 l196 c196) w197 ∧
 (Cel v41 w197 ∧
 (∃ (a198 : Option Addr), ∃ (l198 : Nat), ∃ (c198 : Nat), ∃ (w199 : World), Sem.run Tryz.prog (Builtin.append_ #[84, 84] 84 #[(.slice a59 l59 c59), (.slice (some b194) 1 1)]) w197 = .ok (.slice a198 l198 c198) w199 ∧
 (Cel v41 w199 ∧
 ((0 ≤ (x23 : Int) ∧ (x23 : Int) < (l43 : Nat)) ∧
 AddrK a43 fun b200 =>
 SetK w199 (b200.add ((x23 : Int).toNat * 1)) (.slice a180 l180 c180) fun w201 =>
 (0 ≤ (x23 : Int) ∧ (x23 : Int) < (l45 : Nat)) ∧
 AddrK a45 fun b202 =>
 SetK w201 (b202.add ((x23 : Int).toNat * 1)) (.slice a196 l196 c196) fun w203 =>
 (0 ≤ (x23 : Int) ∧ (x23 : Int) < (l47 : Nat)) ∧
 AddrK a47 fun b204 =>
 SetK w203 (b204.add ((x23 : Int).toNat * 1)) (.slice a198 l198 c198) fun w205 =>
 I20 (IntKind.wrap .i64 (x23 + 1)) w205 ∧ μ21 (IntKind.wrap .i64 (x23 + 1)) w205 < μ21 x23 w22))))))))) ∧
 (AllocK w179 (#[(.bool false)]) 4 fun b206 w207 =>
 Cel v41 w207 ∧
 (∃ (a208 : Option Addr), ∃ (l208 : Nat), ∃ (c208 : Nat), ∃ (w209 : World), Sem.run Tryz.prog (Builtin.append_ #[84, 84] 84 #[(.slice a51 l51 c51), (.slice (some b178) 1 1)]) w207 = .ok (.slice a208 l208 c208) w209 ∧
 (Cel v41 w209 ∧
 (∃ (a210 : Option Addr), ∃ (l210 : Nat), ∃ (c210 : Nat), ∃ (w211 : World), Sem.run Tryz.prog (Builtin.append_ #[84, 84] 84 #[(.slice a55 l55 c55), (.slice (some b176) 1 1)]) w209 = .ok (.slice a210 l210 c210) w211 ∧
 (Cel v41 w211 ∧
 (∃ (a212 : Option Addr), ∃ (l212 : Nat), ∃ (c212 : Nat), ∃ (w213 : World), Sem.run Tryz.prog (Builtin.append_ #[84, 84] 84 #[(.slice a59 l59 c59), (.slice (some b206) 1 1)]) w211 = .ok (.slice a212 l212 c212) w213 ∧
 (Cel v41 w213 ∧
 ((0 ≤ (x23 : Int) ∧ (x23 : Int) < (l43 : Nat)) ∧
 AddrK a43 fun b214 =>
 SetK w213 (b214.add ((x23 : Int).toNat * 1)) (.slice a208 l208 c208) fun w215 =>
 (0 ≤ (x23 : Int) ∧ (x23 : Int) < (l45 : Nat)) ∧
 AddrK a45 fun b216 =>
 SetK w215 (b216.add ((x23 : Int).toNat * 1)) (.slice a210 l210 c210) fun w217 =>
 (0 ≤ (x23 : Int) ∧ (x23 : Int) < (l47 : Nat)) ∧
 AddrK a47 fun b218 =>
 SetK w217 (b218.add ((x23 : Int).toNat * 1)) (.slice a212 l212 c212) fun w219 =>
 I20 (IntKind.wrap .i64 (x23 + 1)) w219 ∧ μ21 (IntKind.wrap .i64 (x23 + 1)) w219 < μ21 x23 w22)))))))))) ∧
 (AllocK w177 (#[(.bool false)]) 4 fun b220 w221 =>
 Cel v41 w221 ∧
 (AllocK w221 (#[(.bool false)]) 4 fun b222 w223 =>
 Cel v41 w223 ∧
 (∃ (a224 : Option Addr), ∃ (l224 : Nat), ∃ (c224 : Nat), ∃ (w225 : World), Sem.run Tryz.prog (Builtin.append_ #[84, 84] 84 #[(.slice a51 l51 c51), (.slice (some b222) 1 1)]) w223 = .ok (.slice a224 l224 c224) w225 ∧
 (Cel v41 w225 ∧
 (∃ (a226 : Option Addr), ∃ (l226 : Nat), ∃ (c226 : Nat), ∃ (w227 : World), Sem.run Tryz.prog (Builtin.append_ #[84, 84] 84 #[(.slice a55 l55 c55), (.slice (some b176) 1 1)]) w225 = .ok (.slice a226 l226 c226) w227 ∧
 (Cel v41 w227 ∧
 (∃ (a228 : Option Addr), ∃ (l228 : Nat), ∃ (c228 : Nat), ∃ (w229 : World), Sem.run Tryz.prog (Builtin.append_ #[84, 84] 84 #[(.slice a59 l59 c59), (.slice (some b220) 1 1)]) w227 = .ok (.slice a228 l228 c228) w229 ∧
 (Cel v41 w229 ∧
 ((0 ≤ (x23 : Int) ∧ (x23 : Int) < (l43 : Nat)) ∧
 AddrK a43 fun b230 =>
 SetK w229 (b230.add ((x23 : Int).toNat * 1)) (.slice a224 l224 c224) fun w231 =>
 (0 ≤ (x23 : Int) ∧ (x23 : Int) < (l45 : Nat)) ∧
 AddrK a45 fun b232 =>
 SetK w231 (b232.add ((x23 : Int).toNat * 1)) (.slice a226 l226 c226) fun w233 =>
 (0 ≤ (x23 : Int) ∧ (x23 : Int) < (l47 : Nat)) ∧
 AddrK a47 fun b234 =>
 SetK w233 (b234.add ((x23 : Int).toNat * 1)) (.slice a228 l228 c228) fun w235 =>
 I20 (IntKind.wrap .i64 (x23 + 1)) w235 ∧ μ21 (IntKind.wrap .i64 (x23 + 1)) w235 < μ21 x23 w22))))))))))) ∧
 (AllocK w40 (#[(.bool false)]) 4 fun b236 w237 =>
 Cel v41 w237 ∧
 ((AllocK w237 (#[(.bool false)]) 4 fun b238 w239 =>
 Cel v41 w239 ∧
 ((∃ (a240 : Option Addr), ∃ (l240 : Nat), ∃ (c240 : Nat), ∃ (w241 : World), Sem.run Tryz.prog (Builtin.append_ #[84, 84] 84 #[(.slice a51 l51 c51), (.slice (some b238) 1 1)]) w239 = .ok (.slice a240 l240 c240) w241 ∧
 (Cel v41 w241 ∧
 (AllocK w241 (#[(.bool false)]) 4 fun b242 w243 =>
 Cel v41 w243 ∧
 (∃ (a244 : Option Addr), ∃ (l244 : Nat), ∃ (c244 : Nat), ∃ (w245 : World), Sem.run Tryz.prog (Builtin.append_ #[84, 84] 84 #[(.slice a55 l55 c55), (.slice (some b242) 1 1)]) w243 = .ok (.slice a244 l244 c244) w245 ∧
 (Cel v41 w245 ∧
 (∃ (a246 : Option Addr), ∃ (l246 : Nat), ∃ (c246 : Nat), ∃ (w247 : World), Sem.run Tryz.prog (Builtin.append_ #[84, 84] 84 #[(.slice a59 l59 c59), (.slice (some b236) 1 1)]) w245 = .ok (.slice a246 l246 c246) w247 ∧
 (Cel v41 w247 ∧
 ((0 ≤ (x23 : Int) ∧ (x23 : Int) < (l43 : Nat)) ∧
 AddrK a43 fun b248 =>
 SetK w247 (b248.add ((x23 : Int).toNat * 1)) (.slice a240 l240 c240) fun w249 =>
 (0 ≤ (x23 : Int) ∧ (x23 : Int) < (l45 : Nat)) ∧
 AddrK a45 fun b250 =>
 SetK w249 (b250.add ((x23 : Int).toNat * 1)) (.slice a244 l244 c244) fun w251 =>
 (0 ≤ (x23 : Int) ∧ (x23 : Int) < (l47 : Nat)) ∧
 AddrK a47 fun b252 =>
 SetK w251 (b252.add ((x23 : Int).toNat * 1)) (.slice a246 l246 c246) fun w253 =>
 I20 (IntKind.wrap .i64 (x23 + 1)) w253 ∧ μ21 (IntKind.wrap .i64 (x23 + 1)) w253 < μ21 x23 w22)))))))) ∧
 (AllocK w239 (#[(.bool false)]) 4 fun b254 w255 =>
 Cel v41 w255 ∧
 (∃ (a256 : Option Addr), ∃ (l256 : Nat), ∃ (c256 : Nat), ∃ (w257 : World), Sem.run Tryz.prog (Builtin.append_ #[84, 84] 84 #[(.slice a51 l51 c51), (.slice (some b238) 1 1)]) w255 = .ok (.slice a256 l256 c256) w257 ∧
 (Cel v41 w257 ∧
 (∃ (a258 : Option Addr), ∃ (l258 : Nat), ∃ (c258 : Nat), ∃ (w259 : World), Sem.run Tryz.prog (Builtin.append_ #[84, 84] 84 #[(.slice a55 l55 c55), (.slice (some b254) 1 1)]) w257 = .ok (.slice a258 l258 c258) w259 ∧
 (Cel v41 w259 ∧
 (∃ (a260 : Option Addr), ∃ (l260 : Nat), ∃ (c260 : Nat), ∃ (w261 : World), Sem.run Tryz.prog (Builtin.append_ #[84, 84] 84 #[(.slice a59 l59 c59), (.slice (some b236) 1 1)]) w259 = .ok (.slice a260 l260 c260) w261 ∧
 (Cel v41 w261 ∧
 ((0 ≤ (x23 : Int) ∧ (x23 : Int) < (l43 : Nat)) ∧
 AddrK a43 fun b262 =>
 SetK w261 (b262.add ((x23 : Int).toNat * 1)) (.slice a256 l256 c256) fun w263 =>
 (0 ≤ (x23 : Int) ∧ (x23 : Int) < (l45 : Nat)) ∧
 AddrK a45 fun b264 =>
 SetK w263 (b264.add ((x23 : Int).toNat * 1)) (.slice a258 l258 c258) fun w265 =>
 (0 ≤ (x23 : Int) ∧ (x23 : Int) < (l47 : Nat)) ∧
 AddrK a47 fun b266 =>
 SetK w265 (b266.add ((x23 : Int).toNat * 1)) (.slice a260 l260 c260) fun w267 =>
 I20 (IntKind.wrap .i64 (x23 + 1)) w267 ∧ μ21 (IntKind.wrap .i64 (x23 + 1)) w267 < μ21 x23 w22)))))))))) ∧
 (AllocK w237 (#[(.bool false)]) 4 fun b268 w269 =>
 Cel v41 w269 ∧
 (AllocK w269 (#[(.bool false)]) 4 fun b270 w271 =>
 Cel v41 w271 ∧
 (∃ (a272 : Option Addr), ∃ (l272 : Nat), ∃ (c272 : Nat), ∃ (w273 : World), Sem.run Tryz.prog (Builtin.append_ #[84, 84] 84 #[(.slice a51 l51 c51), (.slice (some b270) 1 1)]) w271 = .ok (.slice a272 l272 c272) w273 ∧
 (Cel v41 w273 ∧
 (∃ (a274 : Option Addr), ∃ (l274 : Nat), ∃ (c274 : Nat), ∃ (w275 : World), Sem.run Tryz.prog (Builtin.append_ #[84, 84] 84 #[(.slice a55 l55 c55), (.slice (some b268) 1 1)]) w273 = .ok (.slice a274 l274 c274) w275 ∧
 (Cel v41 w275 ∧
 (∃ (a276 : Option Addr), ∃ (l276 : Nat), ∃ (c276 : Nat), ∃ (w277 : World), Sem.run Tryz.prog (Builtin.append_ #[84, 84] 84 #[(.slice a59 l59 c59), (.slice (some b236) 1 1)]) w275 = .ok (.slice a276 l276 c276) w277 ∧
 (Cel v41 w277 ∧
 ((0 ≤ (x23 : Int) ∧ (x23 : Int) < (l43 : Nat)) ∧
 AddrK a43 fun b278 =>
 SetK w277 (b278.add ((x23 : Int).toNat * 1)) (.slice a272 l272 c272) fun w279 =>
 (0 ≤ (x23 : Int) ∧ (x23 : Int) < (l45 : Nat)) ∧
 AddrK a45 fun b280 =>
 SetK w279 (b280.add ((x23 : Int).toNat * 1)) (.slice a274 l274 c274) fun w281 =>
 (0 ≤ (x23 : Int) ∧ (x23 : Int) < (l47 : Nat)) ∧
 AddrK a47 fun b282 =>
 SetK w281 (b282.add ((x23 : Int).toNat * 1)) (.slice a276 l276 c276) fun w283 =>
 I20 (IntKind.wrap .i64 (x23 + 1)) w283 ∧ μ21 (IntKind.wrap .i64 (x23 + 1)) w283 < μ21 x23 w22))))))))))))))))))))))))))))))
 (AddrK o1 fun b284 =>
 ∃ (a285 : Option Addr) (l285 : Nat) (c285 : Nat), w22.cell? (b284.add 4) = some (.slice a285 l285 c285) ∧
 (K (l285 : Nat) 0 w22)))))))))))
def ann23 : Ann := (.two .nil (.two (.two .nil (.two (.two .nil .nil) .nil)) (.two (.anyD 19 (.take 0 (.take 1 (.take 2 (.take 3 (.take 4 (.take 5 (.take 6 (.take 7 (.take 8 (.take 9 (.take 10 (.take 11 (.take 12 (.take 13 (.one 14 (.one 15 (.take 16 (.take 17 (.one 18 .done)))))))))))))))))))) (.two (.two .nil (.one (.loop [(6, (.one (.int .i64)))] [0] (.two (.two .nil (.two .nil .nil)) (.two (.one (.two (.anyD 16 (.take 0 (.take 1 (.take 2 (.take 3 (.take 4 (.take 5 (.take 6 (.take 7 (.take 8 (.take 9 (.take 10 (.take 11 (.one 12 (.one 13 (.take 14 (.one 15 .done))))))))))))))))) (.anyD 48 (.take 0 (.take 1 (.take 2 (.take 3 (.take 4 (.take 5 (.take 6 (.take 7 (.take 8 (.take 9 (.take 10 (.take 11 (.take 12 (.take 13 (.take 14 (.take 15 (.take 16 (.take 17 (.take 18 (.take 19 (.take 20 (.take 21 (.take 24 (.take 25 (.take 26 (.take 27 (.take 28 (.take 29 (.take 30 (.take 33 (.take 34 (.take 35 (.take 36 (.take 37 (.take 38 (.take 39 (.both 22 (.both 23 (.both 31 (.both 32 (.one 40 (.one 41 (.take 42 (.one 43 (.take 44 (.one 45 (.take 46 (.one 47 .done)))))))) (.one 40 (.one 32 (.one 41 (.take 42 (.one 43 (.take 44 (.one 45 (.take 46 (.one 47 .done)))))))))) (.one 40 (.one 31 (.one 32 (.one 41 (.take 42 (.one 43 (.take 44 (.one 45 (.take 46 (.one 47 .done))))))))))) (.both 31 (.both 23 (.both 32 (.one 40 (.one 41 (.take 42 (.one 43 (.take 44 (.one 45 (.take 46 (.one 47 .done)))))))) (.one 40 (.one 32 (.one 41 (.take 42 (.one 43 (.take 44 (.one 45 (.take 46 (.one 47 .done)))))))))) (.one 40 (.one 23 (.one 32 (.one 41 (.take 42 (.one 43 (.take 44 (.one 45 (.take 46 (.one 47 .done))))))))))) (.one 40 (.both 23 (.one 31 (.one 32 (.one 41 (.take 42 (.one 43 (.take 44 (.one 45 (.take 46 (.one 47 .done))))))))) (.one 31 (.one 23 (.one 32 (.one 41 (.take 42 (.one 43 (.take 44 (.one 45 (.take 46 (.one 47 .done)))))))))))))) (.both 31 (.both 22 (.both 23 (.both 32 (.one 40 (.one 41 (.take 42 (.one 43 (.take 44 (.one 45 (.take 46 (.one 47 .done)))))))) (.one 40 (.one 32 (.one 41 (.take 42 (.one 43 (.take 44 (.one 45 (.take 46 (.one 47 .done)))))))))) (.one 40 (.one 23 (.one 32 (.one 41 (.take 42 (.one 43 (.take 44 (.one 45 (.take 46 (.one 47 .done))))))))))) (.one 40 (.one 22 (.one 23 (.one 32 (.one 41 (.take 42 (.one 43 (.take 44 (.one 45 (.take 46 (.one 47 .done)))))))))))) (.one 40 (.both 22 (.both 23 (.one 31 (.one 32 (.one 41 (.take 42 (.one 43 (.take 44 (.one 45 (.take 46 (.one 47 .done))))))))) (.one 31 (.one 23 (.one 32 (.one 41 (.take 42 (.one 43 (.take 44 (.one 45 (.take 46 (.one 47 .done))))))))))) (.one 31 (.one 22 (.one 23 (.one 32 (.one 41 (.take 42 (.one 43 (.take 44 (.one 45 (.take 46 (.one 47 .done)))))))))))))))))))))))))))))))))))))))))))))))))))))) .nil))))) (.two .nil .nil)))))
noncomputable def code23 : Code := match Tryz.f23.body with | some c => c | none => .skip
theorem wp23 (o1 : Option Addr) (x2 : Int) (K : Int → Int → World → Prop) (w : World) : WP Tryz.prog tab code23 ann23 (fnQ tab Tryz.f23.results.toList [(.one (.int .i64)), (.one (.int .i64))] K) (argE 0 [(.pointer o1), (.int .i64 x2)]) w = N23 o1 x2 K w := by kernel_rfl
theorem calls23 (o1 : Option Addr) (x2 : Int) (K : Int → Int → World → Prop) (w : World) (h : N23 o1 x2 K w) : Calls Tryz.prog 23 #[(.pointer o1), (.int .i64 x2)] w fun en w' => ∃ (x286 : Int), ∃ (x287 : Int), en = .returned (.tuple #[(.int .i64 x286), (.int .i64 x287)]) ∧ K x286 x287 w' :=
 have e : (fun en w' => ExShs [(.one (.int .i64)), (.one (.int .i64))] fun vs => en = .returned (tupled vs) ∧ ap [(.one (.int .i64)), (.one (.int .i64))] K vs fun p => p w') = (fun (en : Ending) (w' : World) => ∃ (x286 : Int), ∃ (x287 : Int), en = .returned (.tuple #[(.int .i64 x286), (.int .i64 x287)]) ∧ K x286 x287 w') := by kernel_rfl
 e ▸ fn_sound tabOk mixed Tryz.func23 (by kernel_rfl : Tryz.f23.body = some code23) ann23 [(.pointer o1), (.int .i64 x2)] [(.one (.int .i64)), (.one (.int .i64))] K w (by kernel_rfl) ((wp23 o1 x2 K w).symm ▸ h)
end Go.Proofs.YtgggbmikmmljcaaGreat
