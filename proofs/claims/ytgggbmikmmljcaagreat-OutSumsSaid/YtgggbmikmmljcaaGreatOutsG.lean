/- A part of the proof: plain forms of functions and laws about them. -/
import Derived.Test.YtgggbmikmmljcaaGreatOutsF
import Derived.Deep.Slices
import Derived.OpenShut
import Derived.Lib.SmallJoins
import Derived.SizedLaws
namespace Go.Proofs.YtgggbmikmmljcaaGreat
open Go Go.V Go.Proofs
open Go.RowKit (Below)
/-! manystrand/manystrandlaw27.OutSums -/
def N3 (x1 : Int) (x2 : Int) (x3 : Int) (a4 : Option Addr) (l4 : Nat) (_c4 : Nat) (K : Bool → World → Prop) (w : World) : Prop :=
 Calls Tryz.prog 5 #[(.int .i64 x1), (.int .i64 x2), (.int .i64 x3)] w fun e8 w7 =>
 ∃ (o5 : Option Addr), ∃ (x6 : Int), e8 = .returned (.tuple #[(.pointer o5), (.int .i64 x6)]) ∧
 (∃ (J9 : Bool → World → Prop),
 (∀ (w10 : World) (p11 : Bool), J9 p11 w10 →
 BoolK p11
 (Calls Tryz.prog 6 #[] w10 fun e14 w13 =>
 ∃ (p12 : Bool), e14 = .returned (.bool p12) ∧
 (K p12 w13))
 (Calls Tryz.prog 7 #[(.int .i64 x1), (.int .i64 x2), (.int .i64 x3)] w10 fun e18 w17 =>
 ∃ (o15 : Option Addr), ∃ (x16 : Int), e18 = .returned (.tuple #[(.pointer o15), (.int .i64 x16)]) ∧
 (∃ (m19 : Option Nat), ∃ (w20 : World), Sem.run Tryz.prog (Instr.makeMap 31 none) w17 = .ok (.map m19) w20 ∧
 (∃ (I21 : Int → World → Prop) (μ22 : Int → World → Nat),
 (I21 0 w20 ∧ True) ∧
 ∀ (w23 : World) (x24 : Int), I21 x24 w23 →
 BoolK (decide ((x24 : Int) < (l4 : Nat)))
 ((0 ≤ (x24 : Int) ∧ (x24 : Int) < (l4 : Nat)) ∧
 AddrK a4 fun b25 =>
 ∃ (x26 : Int), w23.cell? ((b25.add ((x24 : Int).toNat * 4)).add 0) = some (.int .i64 x26) ∧
 (∃ (x27 : Int), w23.cell? ((b25.add ((x24 : Int).toNat * 4)).add 1) = some (.int .i64 x27) ∧
 (∃ (x28 : Int), w23.cell? ((b25.add ((x24 : Int).toNat * 4)).add 2) = some (.int .i64 x28) ∧
 (∃ (x29 : Int), w23.cell? ((b25.add ((x24 : Int).toNat * 4)).add 3) = some (.int .i64 x29) ∧
 (AllocK w23 (#[.int .i64 0, .int .i64 0, .int .i64 0, .int .i64 0]) 33 fun b30 w31 =>
 SetK w31 (b30.add 0) (.int .i64 x26) fun w32 =>
 SetK w32 (b30.add 1) (.int .i64 x27) fun w33 =>
 SetK w33 (b30.add 2) (.int .i64 x28) fun w34 =>
 SetK w34 (b30.add 3) (.int .i64 x29) fun w35 =>
 ∃ (J36 : World → Prop),
 (∀ (w37 : World), J36 w37 →
 Calls Tryz.prog 9 #[(.pointer o5), (.pointer o15)] w37 fun e40 w39 =>
 ∃ (m38 : Option Nat), e40 = .returned (.map m38) ∧
 (AllocK w39 (#[.int .i64 0, .int .i64 0, .string ⟨#[]⟩, .int .i64 0, .int .i64 0, .int .i64 0, .int .i64 0, .slice none 0 0]) 40 fun b41 w42 =>
 ∃ (J43 : World → Prop),
 (∀ (w44 : World), J43 w44 →
 ∃ (x45 : Int), w44.cell? (b30.add 0) = some (.int .i64 x45) ∧
 (∃ (x46 : Int), w44.cell? (b30.add 1) = some (.int .i64 x46) ∧
 (∃ (x47 : Int), w44.cell? (b30.add 2) = some (.int .i64 x47) ∧
 (∃ (x48 : Int), w44.cell? (b30.add 3) = some (.int .i64 x48) ∧
 (Calls Tryz.prog 10 #[(.pointer o5), (.pointer o15), (.agg #[(.int .i64 x45), (.int .i64 x46), (.int .i64 x47), (.int .i64 x48)])] w44 fun e51 w50 =>
 ∃ (p49 : Bool), e51 = .returned (.bool p49) ∧
 (∃ (s52 : ByteArray), w50.cell? (b41.add 2) = some (.string s52) ∧
 (BoolK ((s52 : ByteArray).toList == ((⟨#[103, 111, 110, 101]⟩ : ByteArray) : ByteArray).toList)
 (DrewK w50 fun w53 =>
 ∃ (x54 : Int), w53.cell? (b41.add 3) = some (.int .i64 x54) ∧
 (∃ (x55 : Int), w53.cell? (b41.add 3) = some (.int .i64 x55) ∧
 (∃ (x56 : Int), w53.cell? (b41.add 3) = some (.int .i64 x56) ∧
 ((∃ (x57 : Int), ∃ (w58 : World), Sem.run Tryz.prog (Instr.lookup 31 (.map m19) (.int .i64 x54) false) w53 = .ok (.int .i64 x57) w58 ∧
 (Cel w53 w58 ∧
 ((∃ (x59 : Int), ∃ (w60 : World), Sem.run Tryz.prog (Instr.lookup 31 (.map m38) (.int .i64 x55) false) w58 = .ok (.int .i64 x59) w60 ∧
 (Cel w53 w60 ∧
 (Calls Tryz.prog 9 #[(.pointer o5), (.pointer o15)] w60 fun e63 w62 =>
 ∃ (m61 : Option Nat), e63 = .returned (.map m61) ∧
 (Cel w53 w62 ∧
 (∃ (x64 : Int), ∃ (w65 : World), Sem.run Tryz.prog (Instr.lookup 31 (.map m61) (.int .i64 x56) false) w62 = .ok (.int .i64 x64) w65 ∧
 (Cel w53 w65 ∧
 (∃ (w66 : World), Sem.run Tryz.prog (Instr.mapUpdate 31 (.map m19) (.int .i64 x54) (.int .i64 (IntKind.wrap .i64 (x57 + (IntKind.wrap .i64 (x59 - x64)))))) w65 = .ok () w66 ∧
 (I21 (IntKind.wrap .i64 (x24 + 1)) w66 ∧ μ22 (IntKind.wrap .i64 (x24 + 1)) w66 < μ22 x24 w23)))))))) ∧
 (Calls Tryz.prog 9 #[(.pointer o5), (.pointer o15)] w58 fun e69 w68 =>
 ∃ (m67 : Option Nat), e69 = .returned (.map m67) ∧
 (Cel w53 w68 ∧
 ((∃ (x70 : Int), ∃ (w71 : World), Sem.run Tryz.prog (Instr.lookup 31 (.map m38) (.int .i64 x55) false) w68 = .ok (.int .i64 x70) w71 ∧
 (Cel w53 w71 ∧
 (∃ (x72 : Int), ∃ (w73 : World), Sem.run Tryz.prog (Instr.lookup 31 (.map m67) (.int .i64 x56) false) w71 = .ok (.int .i64 x72) w73 ∧
 (Cel w53 w73 ∧
 (∃ (w74 : World), Sem.run Tryz.prog (Instr.mapUpdate 31 (.map m19) (.int .i64 x54) (.int .i64 (IntKind.wrap .i64 (x57 + (IntKind.wrap .i64 (x70 - x72)))))) w73 = .ok () w74 ∧
 (I21 (IntKind.wrap .i64 (x24 + 1)) w74 ∧ μ22 (IntKind.wrap .i64 (x24 + 1)) w74 < μ22 x24 w23)))))) ∧
 (∃ (x75 : Int), ∃ (w76 : World), Sem.run Tryz.prog (Instr.lookup 31 (.map m67) (.int .i64 x56) false) w68 = .ok (.int .i64 x75) w76 ∧
 (Cel w53 w76 ∧
 (∃ (x77 : Int), ∃ (w78 : World), Sem.run Tryz.prog (Instr.lookup 31 (.map m38) (.int .i64 x55) false) w76 = .ok (.int .i64 x77) w78 ∧
 (Cel w53 w78 ∧
 (∃ (w79 : World), Sem.run Tryz.prog (Instr.mapUpdate 31 (.map m19) (.int .i64 x54) (.int .i64 (IntKind.wrap .i64 (x57 + (IntKind.wrap .i64 (x77 - x75)))))) w78 = .ok () w79 ∧
 (I21 (IntKind.wrap .i64 (x24 + 1)) w79 ∧ μ22 (IntKind.wrap .i64 (x24 + 1)) w79 < μ22 x24 w23)))))))))))) ∧
 ((∃ (x80 : Int), ∃ (w81 : World), Sem.run Tryz.prog (Instr.lookup 31 (.map m38) (.int .i64 x55) false) w53 = .ok (.int .i64 x80) w81 ∧
 (Cel w53 w81 ∧
 ((∃ (x82 : Int), ∃ (w83 : World), Sem.run Tryz.prog (Instr.lookup 31 (.map m19) (.int .i64 x54) false) w81 = .ok (.int .i64 x82) w83 ∧
 (Cel w53 w83 ∧
 (Calls Tryz.prog 9 #[(.pointer o5), (.pointer o15)] w83 fun e86 w85 =>
 ∃ (m84 : Option Nat), e86 = .returned (.map m84) ∧
 (Cel w53 w85 ∧
 (∃ (x87 : Int), ∃ (w88 : World), Sem.run Tryz.prog (Instr.lookup 31 (.map m84) (.int .i64 x56) false) w85 = .ok (.int .i64 x87) w88 ∧
 (Cel w53 w88 ∧
 (∃ (w89 : World), Sem.run Tryz.prog (Instr.mapUpdate 31 (.map m19) (.int .i64 x54) (.int .i64 (IntKind.wrap .i64 (x82 + (IntKind.wrap .i64 (x80 - x87)))))) w88 = .ok () w89 ∧
 (I21 (IntKind.wrap .i64 (x24 + 1)) w89 ∧ μ22 (IntKind.wrap .i64 (x24 + 1)) w89 < μ22 x24 w23)))))))) ∧
 (Calls Tryz.prog 9 #[(.pointer o5), (.pointer o15)] w81 fun e92 w91 =>
 ∃ (m90 : Option Nat), e92 = .returned (.map m90) ∧
 (Cel w53 w91 ∧
 ((∃ (x93 : Int), ∃ (w94 : World), Sem.run Tryz.prog (Instr.lookup 31 (.map m19) (.int .i64 x54) false) w91 = .ok (.int .i64 x93) w94 ∧
 (Cel w53 w94 ∧
 (∃ (x95 : Int), ∃ (w96 : World), Sem.run Tryz.prog (Instr.lookup 31 (.map m90) (.int .i64 x56) false) w94 = .ok (.int .i64 x95) w96 ∧
 (Cel w53 w96 ∧
 (∃ (w97 : World), Sem.run Tryz.prog (Instr.mapUpdate 31 (.map m19) (.int .i64 x54) (.int .i64 (IntKind.wrap .i64 (x93 + (IntKind.wrap .i64 (x80 - x95)))))) w96 = .ok () w97 ∧
 (I21 (IntKind.wrap .i64 (x24 + 1)) w97 ∧ μ22 (IntKind.wrap .i64 (x24 + 1)) w97 < μ22 x24 w23)))))) ∧
 (∃ (x98 : Int), ∃ (w99 : World), Sem.run Tryz.prog (Instr.lookup 31 (.map m90) (.int .i64 x56) false) w91 = .ok (.int .i64 x98) w99 ∧
 (Cel w53 w99 ∧
 (∃ (x100 : Int), ∃ (w101 : World), Sem.run Tryz.prog (Instr.lookup 31 (.map m19) (.int .i64 x54) false) w99 = .ok (.int .i64 x100) w101 ∧
 (Cel w53 w101 ∧
 (∃ (w102 : World), Sem.run Tryz.prog (Instr.mapUpdate 31 (.map m19) (.int .i64 x54) (.int .i64 (IntKind.wrap .i64 (x100 + (IntKind.wrap .i64 (x80 - x98)))))) w101 = .ok () w102 ∧
 (I21 (IntKind.wrap .i64 (x24 + 1)) w102 ∧ μ22 (IntKind.wrap .i64 (x24 + 1)) w102 < μ22 x24 w23)))))))))))) ∧
 (Calls Tryz.prog 9 #[(.pointer o5), (.pointer o15)] w53 fun e105 w104 =>
 ∃ (m103 : Option Nat), e105 = .returned (.map m103) ∧
 (Cel w53 w104 ∧
 ((∃ (x106 : Int), ∃ (w107 : World), Sem.run Tryz.prog (Instr.lookup 31 (.map m19) (.int .i64 x54) false) w104 = .ok (.int .i64 x106) w107 ∧
 (Cel w53 w107 ∧
 ((∃ (x108 : Int), ∃ (w109 : World), Sem.run Tryz.prog (Instr.lookup 31 (.map m38) (.int .i64 x55) false) w107 = .ok (.int .i64 x108) w109 ∧
 (Cel w53 w109 ∧
 (∃ (x110 : Int), ∃ (w111 : World), Sem.run Tryz.prog (Instr.lookup 31 (.map m103) (.int .i64 x56) false) w109 = .ok (.int .i64 x110) w111 ∧
 (Cel w53 w111 ∧
 (∃ (w112 : World), Sem.run Tryz.prog (Instr.mapUpdate 31 (.map m19) (.int .i64 x54) (.int .i64 (IntKind.wrap .i64 (x106 + (IntKind.wrap .i64 (x108 - x110)))))) w111 = .ok () w112 ∧
 (I21 (IntKind.wrap .i64 (x24 + 1)) w112 ∧ μ22 (IntKind.wrap .i64 (x24 + 1)) w112 < μ22 x24 w23)))))) ∧
 (∃ (x113 : Int), ∃ (w114 : World), Sem.run Tryz.prog (Instr.lookup 31 (.map m103) (.int .i64 x56) false) w107 = .ok (.int .i64 x113) w114 ∧
 (Cel w53 w114 ∧
 (∃ (x115 : Int), ∃ (w116 : World), Sem.run Tryz.prog (Instr.lookup 31 (.map m38) (.int .i64 x55) false) w114 = .ok (.int .i64 x115) w116 ∧
 (Cel w53 w116 ∧
 (∃ (w117 : World), Sem.run Tryz.prog (Instr.mapUpdate 31 (.map m19) (.int .i64 x54) (.int .i64 (IntKind.wrap .i64 (x106 + (IntKind.wrap .i64 (x115 - x113)))))) w116 = .ok () w117 ∧
 (I21 (IntKind.wrap .i64 (x24 + 1)) w117 ∧ μ22 (IntKind.wrap .i64 (x24 + 1)) w117 < μ22 x24 w23))))))))) ∧
 ((∃ (x118 : Int), ∃ (w119 : World), Sem.run Tryz.prog (Instr.lookup 31 (.map m38) (.int .i64 x55) false) w104 = .ok (.int .i64 x118) w119 ∧
 (Cel w53 w119 ∧
 ((∃ (x120 : Int), ∃ (w121 : World), Sem.run Tryz.prog (Instr.lookup 31 (.map m19) (.int .i64 x54) false) w119 = .ok (.int .i64 x120) w121 ∧
 (Cel w53 w121 ∧
 (∃ (x122 : Int), ∃ (w123 : World), Sem.run Tryz.prog (Instr.lookup 31 (.map m103) (.int .i64 x56) false) w121 = .ok (.int .i64 x122) w123 ∧
 (Cel w53 w123 ∧
 (∃ (w124 : World), Sem.run Tryz.prog (Instr.mapUpdate 31 (.map m19) (.int .i64 x54) (.int .i64 (IntKind.wrap .i64 (x120 + (IntKind.wrap .i64 (x118 - x122)))))) w123 = .ok () w124 ∧
 (I21 (IntKind.wrap .i64 (x24 + 1)) w124 ∧ μ22 (IntKind.wrap .i64 (x24 + 1)) w124 < μ22 x24 w23)))))) ∧
 (∃ (x125 : Int), ∃ (w126 : World), Sem.run Tryz.prog (Instr.lookup 31 (.map m103) (.int .i64 x56) false) w119 = .ok (.int .i64 x125) w126 ∧
 (Cel w53 w126 ∧
 (∃ (x127 : Int), ∃ (w128 : World), Sem.run Tryz.prog (Instr.lookup 31 (.map m19) (.int .i64 x54) false) w126 = .ok (.int .i64 x127) w128 ∧
 (Cel w53 w128 ∧
 (∃ (w129 : World), Sem.run Tryz.prog (Instr.mapUpdate 31 (.map m19) (.int .i64 x54) (.int .i64 (IntKind.wrap .i64 (x127 + (IntKind.wrap .i64 (x118 - x125)))))) w128 = .ok () w129 ∧
 (I21 (IntKind.wrap .i64 (x24 + 1)) w129 ∧ μ22 (IntKind.wrap .i64 (x24 + 1)) w129 < μ22 x24 w23))))))))) ∧
 (∃ (x130 : Int), ∃ (w131 : World), Sem.run Tryz.prog (Instr.lookup 31 (.map m103) (.int .i64 x56) false) w104 = .ok (.int .i64 x130) w131 ∧
 (Cel w53 w131 ∧
 ((∃ (x132 : Int), ∃ (w133 : World), Sem.run Tryz.prog (Instr.lookup 31 (.map m19) (.int .i64 x54) false) w131 = .ok (.int .i64 x132) w133 ∧
 (Cel w53 w133 ∧
 (∃ (x134 : Int), ∃ (w135 : World), Sem.run Tryz.prog (Instr.lookup 31 (.map m38) (.int .i64 x55) false) w133 = .ok (.int .i64 x134) w135 ∧
 (Cel w53 w135 ∧
 (∃ (w136 : World), Sem.run Tryz.prog (Instr.mapUpdate 31 (.map m19) (.int .i64 x54) (.int .i64 (IntKind.wrap .i64 (x132 + (IntKind.wrap .i64 (x134 - x130)))))) w135 = .ok () w136 ∧
 (I21 (IntKind.wrap .i64 (x24 + 1)) w136 ∧ μ22 (IntKind.wrap .i64 (x24 + 1)) w136 < μ22 x24 w23)))))) ∧
 (∃ (x137 : Int), ∃ (w138 : World), Sem.run Tryz.prog (Instr.lookup 31 (.map m38) (.int .i64 x55) false) w131 = .ok (.int .i64 x137) w138 ∧
 (Cel w53 w138 ∧
 (∃ (x139 : Int), ∃ (w140 : World), Sem.run Tryz.prog (Instr.lookup 31 (.map m19) (.int .i64 x54) false) w138 = .ok (.int .i64 x139) w140 ∧
 (Cel w53 w140 ∧
 (∃ (w141 : World), Sem.run Tryz.prog (Instr.mapUpdate 31 (.map m19) (.int .i64 x54) (.int .i64 (IntKind.wrap .i64 (x139 + (IntKind.wrap .i64 (x137 - x130)))))) w140 = .ok () w141 ∧
 (I21 (IntKind.wrap .i64 (x24 + 1)) w141 ∧ μ22 (IntKind.wrap .i64 (x24 + 1)) w141 < μ22 x24 w23))))))))))))))))))
 (I21 (IntKind.wrap .i64 (x24 + 1)) w50 ∧ μ22 (IntKind.wrap .i64 (x24 + 1)) w50 < μ22 x24 w23)))))))) ∧
 (Calls Tryz.prog 8 #[(.pointer o5)] w42 fun e144 w143 =>
 ∃ (a142 : Option Addr), ∃ (l142 : Nat), ∃ (c142 : Nat), e144 = .returned (.slice a142 l142 c142) ∧
 (∃ (x145 : Int), w143.cell? b30 = some (.int .i64 x145) ∧
 (BoolK ((x145 : Int) == 6)
 (∃ (x146 : Int), w143.cell? (b30.add 1) = some (.int .i64 x146) ∧
 (BoolK (decide ((x146 : Int) ≥ 0))
 (∃ (x147 : Int), w143.cell? (b30.add 1) = some (.int .i64 x147) ∧
 (BoolK (decide ((x147 : Int) < (l142 : Nat)))
 (∃ (x148 : Int), w143.cell? (b30.add 1) = some (.int .i64 x148) ∧
 ((0 ≤ (x148 : Int) ∧ (x148 : Int) < (l142 : Nat)) ∧
 AddrK a142 fun b149 =>
 ∃ (x150 : Int), w143.cell? ((b149.add ((x148 : Int).toNat * 8)).add 0) = some (.int .i64 x150) ∧
 (∃ (x151 : Int), w143.cell? ((b149.add ((x148 : Int).toNat * 8)).add 1) = some (.int .i64 x151) ∧
 (∃ (s152 : ByteArray), w143.cell? ((b149.add ((x148 : Int).toNat * 8)).add 2) = some (.string s152) ∧
 (∃ (x153 : Int), w143.cell? ((b149.add ((x148 : Int).toNat * 8)).add 3) = some (.int .i64 x153) ∧
 (∃ (x154 : Int), w143.cell? ((b149.add ((x148 : Int).toNat * 8)).add 4) = some (.int .i64 x154) ∧
 (∃ (x155 : Int), w143.cell? ((b149.add ((x148 : Int).toNat * 8)).add 5) = some (.int .i64 x155) ∧
 (∃ (x156 : Int), w143.cell? ((b149.add ((x148 : Int).toNat * 8)).add 6) = some (.int .i64 x156) ∧
 (∃ (a157 : Option Addr) (l157 : Nat) (c157 : Nat), w143.cell? ((b149.add ((x148 : Int).toNat * 8)).add 7) = some (.slice a157 l157 c157) ∧
 (SetK w143 (b41.add 0) (.int .i64 x150) fun w158 =>
 SetK w158 (b41.add 1) (.int .i64 x151) fun w159 =>
 SetK w159 (b41.add 2) (.string s152) fun w160 =>
 SetK w160 (b41.add 3) (.int .i64 x153) fun w161 =>
 SetK w161 (b41.add 4) (.int .i64 x154) fun w162 =>
 SetK w162 (b41.add 5) (.int .i64 x155) fun w163 =>
 SetK w163 (b41.add 6) (.int .i64 x156) fun w164 =>
 SetK w164 (b41.add 7) (.slice a157 l157 c157) fun w165 =>
 J43 w165))))))))))
 (J43 w143)))
 (J43 w143)))
 (J43 w143)))))) ∧
 (Calls Tryz.prog 8 #[(.pointer o5)] w35 fun e168 w167 =>
 ∃ (a166 : Option Addr), ∃ (l166 : Nat), ∃ (c166 : Nat), e168 = .returned (.slice a166 l166 c166) ∧
 (∃ (J169 : Bool → World → Prop),
 (∀ (w170 : World) (p171 : Bool), J169 p171 w170 →
 BoolK p171
 (DrewK w170 fun w172 =>
 ∃ (x173 : Int), w172.cell? (b30.add 1) = some (.int .i64 x173) ∧
 ((0 ≤ (x173 : Int) ∧ (x173 : Int) < (l166 : Nat)) ∧
 AddrK a166 fun b174 =>
 ∃ (x175 : Int), w172.cell? ((b174.add ((x173 : Int).toNat * 8)).add 3) = some (.int .i64 x175) ∧
 (∃ (x176 : Int), w172.cell? (b30.add 1) = some (.int .i64 x176) ∧
 ((0 ≤ (x176 : Int) ∧ (x176 : Int) < (l166 : Nat)) ∧
 AddrK a166 fun b177 =>
 ∃ (x178 : Int), w172.cell? ((b177.add ((x176 : Int).toNat * 8)).add 4) = some (.int .i64 x178) ∧
 (∃ (x179 : Int), ∃ (w180 : World), Sem.run Tryz.prog (Instr.lookup 31 (.map m19) (.int .i64 x175) false) w172 = .ok (.int .i64 x179) w180 ∧
 (Cel w172 w180 ∧
 (∃ (w181 : World), Sem.run Tryz.prog (Instr.mapUpdate 31 (.map m19) (.int .i64 x175) (.int .i64 (IntKind.wrap .i64 (x179 + x178)))) w180 = .ok () w181 ∧
 (J36 w181))))))))
 (J36 w170)) ∧
 (∃ (x182 : Int), w167.cell? b30 = some (.int .i64 x182) ∧
 (BoolK ((x182 : Int) == 7)
 (∃ (x183 : Int), w167.cell? (b30.add 1) = some (.int .i64 x183) ∧
 (BoolK (decide ((x183 : Int) ≥ 0))
 (∃ (x184 : Int), w167.cell? (b30.add 1) = some (.int .i64 x184) ∧
 (J169 (decide ((x184 : Int) < (l166 : Nat))) w167))
 (J169 false w167)))
 (J169 false w167))))))))))
 (Calls Tryz.prog 9 #[(.pointer o5), (.pointer o15)] w23 fun e187 w186 =>
 ∃ (m185 : Option Nat), e187 = .returned (.map m185) ∧
 (Calls Tryz.prog 8 #[(.pointer o5)] w186 fun e190 w189 =>
 ∃ (a188 : Option Addr), ∃ (l188 : Nat), ∃ (c188 : Nat), e190 = .returned (.slice a188 l188 c188) ∧
 (∃ (I191 : Int → World → Prop) (μ192 : Int → World → Nat),
 (I191 0 w189 ∧ True) ∧
 ∀ (w193 : World) (x194 : Int), I191 x194 w193 →
 BoolK (decide ((x194 : Int) < (l188 : Nat)))
 ((0 ≤ (x194 : Int) ∧ (x194 : Int) < (l188 : Nat)) ∧
 AddrK a188 fun b195 =>
 ∃ (x196 : Int), w193.cell? ((b195.add ((x194 : Int).toNat * 8)).add 0) = some (.int .i64 x196) ∧
 (∃ (x197 : Int), w193.cell? ((b195.add ((x194 : Int).toNat * 8)).add 1) = some (.int .i64 x197) ∧
 (∃ (s198 : ByteArray), w193.cell? ((b195.add ((x194 : Int).toNat * 8)).add 2) = some (.string s198) ∧
 (∃ (x199 : Int), w193.cell? ((b195.add ((x194 : Int).toNat * 8)).add 3) = some (.int .i64 x199) ∧
 (∃ (x200 : Int), w193.cell? ((b195.add ((x194 : Int).toNat * 8)).add 4) = some (.int .i64 x200) ∧
 (∃ (x201 : Int), w193.cell? ((b195.add ((x194 : Int).toNat * 8)).add 5) = some (.int .i64 x201) ∧
 (∃ (x202 : Int), w193.cell? ((b195.add ((x194 : Int).toNat * 8)).add 6) = some (.int .i64 x202) ∧
 (∃ (a203 : Option Addr) (l203 : Nat) (c203 : Nat), w193.cell? ((b195.add ((x194 : Int).toNat * 8)).add 7) = some (.slice a203 l203 c203) ∧
 (AllocK w193 (#[.int .i64 0, .int .i64 0, .string ⟨#[]⟩, .int .i64 0, .int .i64 0, .int .i64 0, .int .i64 0, .slice none 0 0]) 40 fun b204 w205 =>
 SetK w205 (b204.add 0) (.int .i64 x196) fun w206 =>
 SetK w206 (b204.add 1) (.int .i64 x197) fun w207 =>
 SetK w207 (b204.add 2) (.string s198) fun w208 =>
 SetK w208 (b204.add 3) (.int .i64 x199) fun w209 =>
 SetK w209 (b204.add 4) (.int .i64 x200) fun w210 =>
 SetK w210 (b204.add 5) (.int .i64 x201) fun w211 =>
 SetK w211 (b204.add 6) (.int .i64 x202) fun w212 =>
 SetK w212 (b204.add 7) (.slice a203 l203 c203) fun w213 =>
 ∃ (x214 : Int), w213.cell? (b204.add 3) = some (.int .i64 x214) ∧
 (∃ (x215 : Int), ∃ (w216 : World), Sem.run Tryz.prog (Instr.lookup 31 (.map m185) (.int .i64 x214) false) w213 = .ok (.int .i64 x215) w216 ∧
 (∃ (x217 : Int), w216.cell? (b204.add 4) = some (.int .i64 x217) ∧
 (∃ (w218 : World), Sem.run Tryz.prog (Instr.mapUpdate 31 (.map m185) (.int .i64 x214) (.int .i64 (IntKind.wrap .i64 (x215 + x217)))) w216 = .ok () w218 ∧
 (I191 (IntKind.wrap .i64 (x194 + 1)) w218 ∧ μ192 (IntKind.wrap .i64 (x194 + 1)) w218 < μ192 x194 w193)))))))))))))
 (∃ (I219 : Int → World → Prop) (μ220 : Int → World → Nat),
 (I219 1 w193 ∧ True) ∧
 ∀ (w221 : World) (x222 : Int), I219 x222 w221 →
 AddrK o15 fun b223 =>
 ∃ (a224 : Option Addr) (l224 : Nat) (c224 : Nat), w221.cell? (b223.add 4) = some (.slice a224 l224 c224) ∧
 (BoolK (decide ((x222 : Int) ≤ (l224 : Nat)))
 (Calls Tryz.prog 11 #[(.pointer o5), (.int .i64 x222)] w221 fun e228 w227 =>
 ∃ (x225 : Int), ∃ (x226 : Int), e228 = .returned (.tuple #[(.int .i64 x225), (.int .i64 x226)]) ∧
 (BoolK ((x226 : Int) != 0)
 (K false w227)
 (∃ (x229 : Int), ∃ (w230 : World), Sem.run Tryz.prog (Instr.lookup 31 (.map m185) (.int .i64 x222) false) w227 = .ok (.int .i64 x229) w230 ∧
 (∃ (x231 : Int), ∃ (w232 : World), Sem.run Tryz.prog (Instr.lookup 31 (.map m19) (.int .i64 x222) false) w230 = .ok (.int .i64 x231) w232 ∧
 (BoolK ((x225 : Int) != IntKind.wrap .i64 (x229 + x231))
 (K false w232)
 (AddrK o15 fun b233 =>
 ∃ (x234 : Int), w232.cell? b233 = some (.int .i64 x234) ∧
 (∃ (I235 : Int → World → Prop) (μ236 : Int → World → Nat),
 (I235 0 w232 ∧ True) ∧
 ∀ (w237 : World) (x238 : Int), I235 x238 w237 →
 BoolK (decide ((x238 : Int) < x234))
 (Calls Tryz.prog 12 #[(.pointer o5), (.int .i64 x238), (.int .i64 x222)] w237 fun e241 w240 =>
 ∃ (x239 : Int), e241 = .returned (.int .i64 x239) ∧
 (BoolK (decide ((x239 : Int) > 0))
 (Calls Tryz.prog 13 #[(.pointer o5), (.int .i64 x222)] w240 fun e244 w243 =>
 ∃ (s242 : ByteArray), e244 = .returned (.string s242) ∧
 (BoolK ((s242 : ByteArray).toList == ((⟨#[100, 101, 97, 100]⟩ : ByteArray) : ByteArray).toList)
 (K false w243)
 (I235 (IntKind.wrap .i64 (x238 + 1)) w243 ∧ μ236 (IntKind.wrap .i64 (x238 + 1)) w243 < μ236 x238 w237)))
 (I235 (IntKind.wrap .i64 (x238 + 1)) w240 ∧ μ236 (IntKind.wrap .i64 (x238 + 1)) w240 < μ236 x238 w237)))
 (I219 (IntKind.wrap .i64 (x222 + 1)) w237 ∧ μ220 (IntKind.wrap .i64 (x222 + 1)) w237 < μ220 x222 w221))))))))
 (Calls Tryz.prog 6 #[] w221 fun e247 w246 =>
 ∃ (p245 : Bool), e247 = .returned (.bool p245) ∧
 (K p245 w246))))))))))) ∧
 (BoolK ((x6 : Int) != 0)
 (J9 true w7)
 (J9 (decide (((l4 : Nat) : Int) > 300)) w7)))
def ann3 : Ann := (.two .nil (.two .nil (.two (.cut [(40, (.one .bool))] [0, 1, 2, 3, 9] .nil (.two (.two .nil .nil) .nil)) (.two .nil (.two .nil (.two (.two .nil (.one (.loop [(52, (.one (.int .i64)))] [9, 11, 13, 50, 51] (.two .nil (.two (.two .nil .nil) (.two (.one (.two .nil (.cut [] [9, 11, 13, 15, 50, 51, 52] (.two .nil (.cut [(72, (.one .bool))] [9, 11, 13, 15, 16, 50, 51, 52] .nil (.two (.any 15 (.take 0 (.take 1 (.take 2 (.take 3 (.take 4 (.take 5 (.take 6 (.take 8 (.take 9 (.take 10 (.take 11 (.take 12 (.take 13 (.one 7 (.take 14 .done)))))))))))))))) .nil))) (.two .nil (.two .nil (.cut [] [9, 11, 13, 15, 17, 18, 50, 51, 52] (.two .nil (.two .nil (.two .nil .nil))) (.two .nil (.two .nil (.two (.any 16 (.take 0 (.take 1 (.take 2 (.take 4 (.take 5 (.take 6 (.take 8 (.take 9 (.take 11 (.take 12 (.both 3 (.both 7 (.one 10 (.one 13 (.take 14 (.take 15 .done)))) (.one 10 (.both 7 (.one 13 (.take 14 (.take 15 .done))) (.one 13 (.one 7 (.take 14 (.take 15 .done))))))) (.both 7 (.both 3 (.one 10 (.one 13 (.take 14 (.take 15 .done)))) (.one 10 (.both 3 (.one 13 (.take 14 (.take 15 .done))) (.one 13 (.take 14 (.one 3 (.take 15 .done))))))) (.one 10 (.both 3 (.both 7 (.one 13 (.take 14 (.take 15 .done))) (.one 13 (.one 7 (.take 14 (.take 15 .done))))) (.both 7 (.both 3 (.one 13 (.take 14 (.take 15 .done))) (.one 13 (.take 14 (.one 3 (.take 15 .done))))) (.one 13 (.both 3 (.one 7 (.take 14 (.take 15 .done))) (.one 7 (.take 14 (.one 3 (.take 15 .done)))))))))))))))))))))) .nil))))))))) .nil)))))) (.two .nil (.two (.two .nil (.one (.loop [(143, (.one (.int .i64)))] [9, 11, 13, 20, 141, 142] (.two .nil (.two (.two .nil .nil) (.two (.one (.two .nil .nil)) .nil)))))) (.two (.two .nil (.one (.loop [(23, (.one (.int .i64)))] [9, 11, 13, 20] (.two (.two .nil (.two .nil .nil)) (.two (.one (.two .nil (.two (.two .nil (.two (.two .nil .nil) .nil)) (.two .nil (.one (.loop [(187, (.one (.int .i64)))] [9, 11, 13, 20, 23, 186] (.two .nil (.two (.two .nil .nil) (.two (.one (.two .nil (.two .nil (.two (.two .nil .nil) .nil)))) .nil))))))))) .nil))))) (.two .nil .nil))))))))))
noncomputable def code3 : Code := match Tryz.f3.body with | some c => c | none => .skip
theorem wp3 (x1 : Int) (x2 : Int) (x3 : Int) (a4 : Option Addr) (l4 : Nat) (c4 : Nat) (K : Bool → World → Prop) (w : World) : WP Tryz.prog tab code3 ann3 (fnQ tab Tryz.f3.results.toList [(.one .bool)] K) (argE 0 [(.int .i64 x1), (.int .i64 x2), (.int .i64 x3), (.slice a4 l4 c4)]) w = N3 x1 x2 x3 a4 l4 c4 K w := by kernel_rfl
theorem calls3 (x1 : Int) (x2 : Int) (x3 : Int) (a4 : Option Addr) (l4 : Nat) (c4 : Nat) (K : Bool → World → Prop) (w : World) (h : N3 x1 x2 x3 a4 l4 c4 K w) : Calls Tryz.prog 3 #[(.int .i64 x1), (.int .i64 x2), (.int .i64 x3), (.slice a4 l4 c4)] w fun en w' => ∃ (p248 : Bool), en = .returned (.bool p248) ∧ K p248 w' :=
 have e : (fun en w' => ExShs [(.one .bool)] fun vs => en = .returned (tupled vs) ∧ ap [(.one .bool)] K vs fun p => p w') = (fun (en : Ending) (w' : World) => ∃ (p248 : Bool), en = .returned (.bool p248) ∧ K p248 w') := by kernel_rfl
 e ▸ fn_sound tabOk mixed Tryz.func3 (by kernel_rfl : Tryz.f3.body = some code3) ann3 [(.int .i64 x1), (.int .i64 x2), (.int .i64 x3), (.slice a4 l4 c4)] [(.one .bool)] K w (by kernel_rfl) ((wp3 x1 x2 x3 a4 l4 c4 K w).symm ▸ h)
end Go.Proofs.YtgggbmikmmljcaaGreat

namespace Go.Proofs.YtgggbmikmmljcaaGreat
open Go Go.V Go.Proofs
open Go.RowKit (Below)
section
variable {w w' w0 w1 w2 : World} {own own' : OwnM Role} {r r' : Raw} {S S' : CS} {κ κ' : Ka RK} {N N1 : Prm} {q : Rb} {k f : Nat}
def l1 (S : CS) (d a t : Int) : Int := if d = 7 then loss S 7 a t else 0
theorem l1_no {d a : Int} (h : d = 7 → S.msg? a = none) (t : Int) : l1 S d a t = 0 := by
  unfold l1; split
  · exact loss_none (h ‹_›) t
  · rfl
theorem dead_no {x : Int} {s : ByteArray} (h : StateOk S x s) (hd : isK s kDead = true) : S.isT x ∧ Free (S.th x) := by
  rcases h with ⟨_, rfl⟩ | ⟨hx, ⟨_, rfl⟩ | ⟨_, _, h⟩ | ⟨_, rfl, _⟩⟩
  · rw [isK_dec'] at hd; exact absurd hd (by decide)
  · rw [isK_dec'] at hd; exact absurd hd (by decide)
  · exact ⟨hx, h⟩
  · rw [isK_dec'] at hd; exact absurd hd (by decide)
theorem free_px (I : Inv k f S) {x s : Int} (hx : S.isT x) (hf : Free (S.th x)) : S.prox (s, x) ≤ 0 := by
  have h1 := free_out I hx hf
  have h2 := I.pxle (s, x)
  have h3 := I.df x; have h4 := I.flw x
  have h5 := outT_eq hx
  simp only at h2; omega
theorem c3 (w : World) (x y z : Int) {a4 : Option Addr} {l4 : Nat} (c4 : Nat) (hA : RdA (fun _ => True) w a4 l4) :
    Calls Tryz.prog 3 #[.int .i64 x, .int .i64 y, .int .i64 z, .slice a4 l4 c4] w fun en w' => ∃ p, en = .returned (.bool p) ∧ p = true ∧ Ext w w' := by
  refine calls3 _ _ _ _ _ _ (fun p w' => p = true ∧ Ext w w') w ?_
  refine (c5 x y z).mono ?_
  rintro en w7 ⟨o, e, rfl, H⟩
  refine ⟨_, _, rfl, fun p w' => (p = true ∧ Ext w w') ∨ (p = false ∧ l4 ≤ 300 ∧ argsOk x y z ∧ ∃ own r, o = some ⟨r.b, 0, none⟩ ∧ CR w' own r (CS.zero x y z) ∧ Fr noOwn own w w'), ?_, ?_⟩
  rotate_left
  · rcases H with ⟨_, _, rfl, rfl⟩ | ⟨hok, rfl, own, r, rfl, h7, f7⟩
    · exact BoolK.mk (fun _ => .inl ⟨rfl, Ext.refl _⟩) (fun t => by simp at t)
    · refine BoolK.mk (fun t => by simp at t) (fun _ => ?_)
      by_cases hl : ((l4 : Nat) : Int) > 300
      · exact .inl ⟨decide_eq_true hl, Fr.toExt f7⟩
      · exact .inr ⟨decide_eq_false hl, by omega, hok, own, r, rfl, h7, f7⟩
  rintro w10 p11 hJ
  refine BoolK.mk (fun t => ?_) (fun t => ?_)
  · refine (c6 w10).mono ?_
    rintro en w13 ⟨p, rfl, rfl, x13⟩
    rcases hJ with ⟨_, h⟩ | ⟨h, _⟩
    · exact ⟨_, rfl, rfl, h.trans x13⟩
    · rw [h] at t; cases t
  rcases hJ with ⟨h, _⟩ | ⟨_, hl, hok, own0, r0, rfl, h10, f10⟩
  · rw [h] at t; cases t
  refine (c7 x y z).mono ?_
  rintro en w17 ⟨o15, e15, rfl, ⟨hn, _⟩ | ⟨_, rfl, κ0, q, rfl, hR, fm⟩⟩
  · exact absurd hok hn
  obtain ⟨J17, F17⟩ := Jt.start h10 f10 hR fm
  obtain ⟨w20, q20, M20, x20⟩ := MapF.make (P := Tryz.prog) (t := 31) (enc := eK) eK 0 w17
  refine ⟨_, _, rfl, _, w20, q20, ?_⟩
  have og : own0 w17.heap.size = none := J17.c.top _ (Nat.le_refl _)
  have kg : κ0 w17.heap.size = none := J17.r.fresh (Nat.le_refl _)
  have gw : w.heap.size ≤ w17.heap.size := F17.size
  generalize hg : w17.heap.size = g at *
  have L0 : LI w 0 own0 r0 (CS.zero x y z) κ0 (N0 x.toNat) q r0.b w17 := ⟨J17, Inv.zero' hok, Bd.zero, F17, rfl⟩
  have L20 := L0.ext x20
  generalize r0.b = rb at *
  refine ⟨fun i w' => ∃ (j : Nat) (own : OwnM Role) (r : Raw) (S : CS) (κ : Ka RK) (N : Prm), i = j ∧ j ≤ l4 ∧ LI w j own r S κ N q rb w' ∧ MapF eK eK 0 w' g S.dif ∧ own g = none ∧ κ g = none, fun i _ => l4 - i.toNat,
    ⟨⟨0, own0, r0, _, κ0, _, rfl, Nat.zero_le _, L20, M20.congr fun t => (zero_dif t).symm, og, kg⟩, trivial⟩, ?_⟩
  clear M20 L20 L0 J17 F17 hR fm h10 f10 og kg x20 q20 H hg
  rintro w23 i ⟨j, own, r, S, κ, N, rfl, hj, LL, M23, og, kg⟩
  have hrb := LL.rb
  obtain ⟨rb', cl, ca, th, fl, mp, ma, mg, mm, mw, ths, wts⟩ := r
  cases hrb
  refine BoolK.mk (fun t => ?_) (fun t => ?_)
  · have t := of_decide_eq_true t
    have hjl : j < l4 := by omega
    obtain ⟨b4, o4, e4, -, d, a, b, c, -, g0, g1, g2, g3⟩ := (hA.fr LL.fr) j hjl
    refine ⟨⟨by omega, t⟩, adK e4 ⟨d, by rw [add_mk, add_mk, Int.toNat_natCast]; exact g0, a, by rw [add_mk, add_mk, Int.toNat_natCast]; exact g1, b, by rw [add_mk, add_mk, Int.toNat_natCast]; exact g2, c, by rw [add_mk, add_mk, Int.toNat_natCast]; exact g3, ?_⟩⟩
    refine box4 fun b30 w35 hb30 hB30 x35 => ?_
    have L35 := LL.ext x35
    have M35 := M23.ext x35
    have ob : own b30 = none := LL.jt.c.top _ hb30
    have kb : κ b30 = none := LL.jt.r.fresh hb30
    have I := LL.inv
    have B := LL.bd
    have gl : g < w23.heap.size := M23.lt
    have bg : b30 ≠ g := by omega
    have G : Safe S := I.safe (by omega) (by omega)
    have gw2 : w.heap.size ≤ g := gw
    have lw : w.heap.size ≤ w23.heap.size := LL.fr.size
    refine ⟨fun w' => LI w j own ⟨rb', cl, ca, th, fl, mp, ma, mg, mm, mw, ths, wts⟩ S κ N q rb' w' ∧ MapF eK eK 0 w' g (fun t => S.dif t + l1 S d a t) ∧ Blk w' b30 #[.int .i64 d, .int .i64 a, .int .i64 b, .int .i64 c] 33, ?_, ?_⟩
    rotate_left
    · -- what is lost before
      refine (c8 L35.jt.c G.toLim).mono ?_
      rintro en w167 ⟨a', l', c', rfl, hO, x167⟩
      have L167 := L35.ext x167
      have M167 := M35.ext x167
      have B167 := hB30.ext x167
      have hl' : l' = S.fly.length := hO.1
      refine ⟨_, _, _, rfl, fun p w' => (p = true ↔ (d = 7 ∧ 0 ≤ a ∧ a < (l' : Int))) ∧ w' = w167, ?_, ?_⟩
      · rintro w170 p ⟨hp, rfl⟩
        refine BoolK.mk (fun t => ?_) (fun t5 => ?_)
        · obtain ⟨rfl, a0, a1⟩ := hp.1 t
          obtain ⟨m, hm, hmm⟩ := msg_at (S := S) a0 (by rw [← hl']; exact a1)
          refine DrewK.mk fun w172 x172 => ?_
          obtain ⟨gb, ga, -, -, gc⟩ := hO.cellAt eM_len hm
          have B172 := B167.ext x172
          have M172 := M167.ext x172
          refine ⟨a, bx4 B172 rfl, ⟨a0, a1⟩, adK ga ⟨m.ent, by rw [add_mk, add_mk, Nat.zero_add]; exact x172.cell ((gc 3 (by omega)).trans rfl), a, bx4 B172 rfl, ⟨a0, a1⟩, adK ga ⟨m.n, by rw [add_mk, add_mk, Nat.zero_add]; exact x172.cell ((gc 4 (by omega)).trans rfl), ?_⟩⟩⟩
          obtain ⟨w181, u1, u2, u3⟩ := M172.update mapN m.ent (S.dif m.ent + m.n)
          refine ⟨_, _, M172.lookup mapN m.ent, Cel.refl _, w181, ?_, ?_⟩
          · have h1 := difB I m.ent; have h2 := I.df m.ent
            have h3 := I.flB (List.mem_of_getElem? hm); have h4 := (I.fy m (List.mem_of_getElem? hm)).2.2.2.1; have h5 := I.outT1 m.ent
            rw [wrap_id (by omega) (by omega)]; exact u1
          · refine ⟨(L167.ext x172).but u3 gw2 og kg, u2.congr fun t => ?_, u3.blk B172 bg⟩
            unfold upd l1 loss
            rw [if_pos rfl, hmm]
            by_cases e : t = m.ent
            · rw [if_pos e, e]; simp
            · rw [if_neg e]; simp [e]
        · refine ⟨L167, M167.congr fun t => ?_, B167⟩
          rw [l1_no (fun e7 => msg_no fun hh => ?_), Int.add_zero]
          have := hp.2 ⟨e7, hh.1, by rw [hl']; exact hh.2⟩
          exact absurd this (by rw [t5]; simp)
      · refine ⟨d, bx40 B167 rfl, BoolK.mk (fun t => ?_) (fun t => ⟨⟨fun h => (by cases h), fun h => ?_⟩, rfl⟩)⟩
        · have e : d = 7 := by simpa using t
          refine ⟨a, bx4 B167 rfl, BoolK.mk (fun t2 => ⟨a, bx4 B167 rfl, ⟨?_, rfl⟩⟩) (fun t2 => ⟨⟨fun h => (by cases h), fun h => ?_⟩, rfl⟩)⟩
          · rw [decide_eq_true_iff]
            have := of_decide_eq_true t2
            exact ⟨fun h => ⟨e, this, h⟩, fun h => h.2.2⟩
          · have := of_decide_eq_false t2; omega
        · have : d ≠ 7 := by simpa using t
          exact absurd h.1 this
    rintro w37 ⟨L37, M37, B37⟩
    have s37 : w23.heap.size ≤ w37.heap.size := Nat.le_trans (Nat.le_of_lt (Nat.lt_of_le_of_lt hb30 B37.lt)) (Nat.le_refl _)
    refine (c9 L37.jt I B (by omega)).mono ?_
    rintro en w39 ⟨m38, rfl, g38, rfl, hg38, M38, x39⟩
    refine ⟨_, rfl, AllocK.mk fun b41 w42 hb41 hB41 x42 => ?_⟩
    have z39 := x39.size
    have zz41 : w39.heap.size ≤ b41 := by omega
    have L42 := (L37.ext x39).ext x42
    have M42 := (M37.ext x39).ext x42
    have B42 := (B37.ext x39).ext x42
    have N42 := M38.ext x42
    have o38 : own g38 = none := L37.jt.c.top _ hg38
    have k38 : κ g38 = none := L37.jt.r.fresh hg38
    have o41 : own b41 = none := (L37.ext x39).jt.c.top _ (by omega)
    have k41 : κ b41 = none := (L37.ext x39).jt.r.fresh (by omega)
    refine ⟨fun w' => LI w j own ⟨rb', cl, ca, th, fl, mp, ma, mg, mm, mw, ths, wts⟩ S κ N q rb' w' ∧ MapF eK eK 0 w' g (fun t => S.dif t + l1 S d a t) ∧ MapF eK eK 0 w' g38 (sums S S.things.length) ∧ Blk w' b30 #[.int .i64 d, .int .i64 a, .int .i64 b, .int .i64 c] 33 ∧
      ∃ (cs : Array Value) (kd : ByteArray) (en : Int), Blk w' b41 cs 40 ∧ cs[2]? = some (.string kd) ∧ cs[3]? = some (.int .i64 en) ∧ (isK kd kGone = true → d = 6 ∧ ∃ m, S.msg? a = some m ∧ isK m.kind kGone = true ∧ en = m.ent) ∧ (isK kd kGone = false → d = 6 → ∀ t, loss S 6 a t = 0), ?_, ?_⟩
    rotate_left
    · -- the message
      refine (c8 L42.jt.c G.toLim).mono ?_
      rintro en w143 ⟨a', l', c', rfl, hO, x143⟩
      have hl' : l' = S.fly.length := hO.1
      have C143 := hB41.ext x143
      have B143 := B42.ext x143
      have zero : ∀ {w'}, w' = w143 → (d = 6 → S.msg? a = none) → LI w j own ⟨rb', cl, ca, th, fl, mp, ma, mg, mm, mw, ths, wts⟩ S κ N q rb' w' ∧ MapF eK eK 0 w' g (fun t => S.dif t + l1 S d a t) ∧ MapF eK eK 0 w' g38 (sums S S.things.length) ∧ Blk w' b30 #[.int .i64 d, .int .i64 a, .int .i64 b, .int .i64 c] 33 ∧
          ∃ (cs : Array Value) (kd : ByteArray) (en : Int), Blk w' b41 cs 40 ∧ cs[2]? = some (.string kd) ∧ cs[3]? = some (.int .i64 en) ∧ (isK kd kGone = true → d = 6 ∧ ∃ m, S.msg? a = some m ∧ isK m.kind kGone = true ∧ en = m.ent) ∧ (isK kd kGone = false → d = 6 → ∀ t, loss S 6 a t = 0) := by
        rintro _ rfl hn
        exact ⟨L42.ext x143, M42.ext x143, N42.ext x143, B143, _, ⟨#[]⟩, 0, C143, rfl, rfl, fun h => absurd h (by rw [isK_dec']; decide), fun _ e6 t => loss_none (hn e6) t⟩
      refine ⟨_, _, _, rfl, d, bx40 B143 rfl, BoolK.mk (fun t => ?_) (fun t => zero rfl fun e => absurd e (by simpa using t))⟩
      have e6 : d = 6 := by simpa using t
      refine ⟨a, bx4 B143 rfl, BoolK.mk (fun t2 => ?_) (fun t2 => zero rfl fun _ => msg_no fun h => by have := of_decide_eq_false t2; omega)⟩
      have a0 := of_decide_eq_true t2
      refine ⟨a, bx4 B143 rfl, BoolK.mk (fun t3 => ?_) (fun t3 => zero rfl fun _ => msg_no fun h => by have := of_decide_eq_false t3; omega)⟩
      have a1 := of_decide_eq_true t3
      obtain ⟨m, hm, hmm⟩ := msg_at (S := S) a0 (by rw [← hl']; exact a1)
      obtain ⟨gb, ga, -, -, gc⟩ := hO.cellAt eM_len hm
      refine ⟨a, bx4 B143 rfl, ⟨a0, a1⟩, adK ga ?_⟩
      simp only [add_mk, Nat.zero_add]
      refine ⟨_, (gc 0 (by omega)).trans rfl, _, (gc 1 (by omega)).trans rfl, _, (gc 2 (by omega)).trans rfl, _, (gc 3 (by omega)).trans rfl, _, (gc 4 (by omega)).trans rfl, _, (gc 5 (by omega)).trans rfl, _, (gc 6 (by omega)).trans rfl, _, _, _, (gc 7 (by omega)).trans rfl, ?_⟩
      have S8 := Go.Proofs.YtgggbmikmmljcaaGreat.set8 (w := w143) (b := b41) (v0 := .int .i64 m.frm) (v1 := .int .i64 m.to) (v2 := .string m.kind) (v3 := .int .i64 m.ent) (v4 := .int .i64 m.n) (v5 := .int .i64 0) (v6 := .int .i64 0) (v7 := .slice none 0 0) C143 rfl
        (F := fun w' => LI w j own ⟨rb', cl, ca, th, fl, mp, ma, mg, mm, mw, ths, wts⟩ S κ N q rb' w' ∧ MapF eK eK 0 w' g (fun t => S.dif t + l1 S d a t) ∧ MapF eK eK 0 w' g38 (sums S S.things.length) ∧ Blk w' b30 #[.int .i64 d, .int .i64 a, .int .i64 b, .int .i64 c] 33 ∧
          ∃ (cs : Array Value) (kd : ByteArray) (en : Int), Blk w' b41 cs 40 ∧ cs[2]? = some (.string kd) ∧ cs[3]? = some (.int .i64 en) ∧ (isK kd kGone = true → d = 6 ∧ ∃ m, S.msg? a = some m ∧ isK m.kind kGone = true ∧ en = m.ent) ∧ (isK kd kGone = false → d = 6 → ∀ t, loss S 6 a t = 0))
        fun w' h1 h2 => ⟨(L42.ext x143).but h2 (by omega) o41 k41, (M42.ext x143).heap (h2.block g (by omega)), (N42.ext x143).heap (h2.block g38 (by have := M38.lt; omega)), h2.blk B143 (by have := B37.lt; have := x39.size; omega), _, m.kind, m.ent, h1, rfl, rfl, fun h => ⟨e6, m, hmm, h, rfl⟩, fun h _ t => by
          unfold loss; rw [hmm]; simp [h]⟩
      simp only [add_mk, Nat.zero_add] at S8
      exact S8
    rintro w44 ⟨L44, M44, N44, B44, cs, kd, en, C44, e2, e3, hgone, hno⟩
    refine ⟨d, bx4 B44 rfl, a, bx4 B44 rfl, b, bx4 B44 rfl, c, bx4 B44 rfl, ?_⟩
    refine (c10 L44.jt I B (by omega) (by omega) d a b c).mono ?_
    rintro en' w50 ⟨p49, rfl, P⟩
    obtain ⟨own', r', S', κ', N', L50, F50, hp⟩ := L44.play (by omega) P
    have hd := (I.play hp).2
    have C50 := F50.blk C44 o41 k41
    have M50 := MapF.frJ M44 F50 og kg
    have N50 := MapF.frJ N44 F50 o38 k38
    have og' := F50.free g M44.lt og kg
    obtain ⟨rb2, cl2, ca2, th2, fl2, mp2, ma2, mg2, mm2, mw2, ths2, wts2⟩ := r'
    have hrb2 := L50.rb
    simp only at hrb2
    subst hrb2
    have nxt : ∀ {w'}, LI w (j + 1) own' ⟨rb2, cl2, ca2, th2, fl2, mp2, ma2, mg2, mm2, mw2, ths2, wts2⟩ S' κ' N' q rb2 w' → MapF eK eK 0 w' g S'.dif → (∃ (j2 : Nat) (own : OwnM Role) (r : Raw) (S : CS) (κ : Ka RK) (N : Prm), IntKind.wrap .i64 ((j : Int) + 1) = j2 ∧ j2 ≤ l4 ∧ LI w j2 own r S κ N q rb2 w' ∧ MapF eK eK 0 w' g S.dif ∧ own g = none ∧ κ g = none) ∧ l4 - (IntKind.wrap .i64 ((j : Int) + 1)).toNat < l4 - (j : Int).toNat := by
      intro w' hL hM
      rw [wrap_id (by omega) (by omega)]
      exact ⟨⟨j + 1, own', _, S', κ', N', by omega, by omega, hL, hM, og'.1, og'.2⟩, by omega⟩
    refine ⟨_, rfl, kd, bx4 C50 e2, BoolK.mk (fun (tg : isK kd kGone = true) => ?_) (fun (tg : isK kd kGone = false) => ?_)⟩
    rotate_left
    · refine nxt L50 (M50.congr fun t => ?_)
      rw [hd]
      unfold l1
      by_cases e7 : d = 7
      · subst e7; rw [if_pos rfl]
      · rw [if_neg e7]
        by_cases e6 : d = 6
        · subst e6; rw [hno tg rfl]
        · rw [loss_no e6 e7]
    obtain ⟨rfl, m, hm, hgm, rfl⟩ := hgone tg
    refine DrewK.mk fun w53 x53 => ?_
    have C53 := C50.ext x53
    have L53 := L50.ext x53
    have M53 : MapF eK eK 0 w53 g S.dif := (M50.ext x53).congr fun t => by unfold l1; rw [if_neg (by decide), Int.add_zero]
    have N53 := N50.ext x53
    have hT : S.isT m.ent := by
      unfold CS.msg? at hm; split at hm
      · exact (I.fy m (List.mem_of_getElem? hm)).1
      · cases hm
    have hpx : ∃ e, DelOk S a e S' := by
      have hp := hp
      unfold PlayOk at hp
      rwa [if_neg (by decide), if_neg (by decide), if_neg (by decide), if_neg (by decide), if_neg (by decide), if_neg (by decide), if_pos rfl] at hp
    obtain ⟨e0, hpx⟩ := hpx
    obtain ⟨gl1, gl2⟩ := gone_px I hpx hm hgm
    have hT' : S'.isT m.ent := ⟨hT.1, by rw [gl1]; exact hT.2⟩
    have vB : sums S S.things.length m.ent = px S.prox S.clocks.length m.ent := if_pos hT
    have vC : sums S' S'.things.length m.ent = px S'.prox S'.clocks.length m.ent := if_pos hT'
    have hdm := hd m.ent
    have hls : loss S 6 a m.ent = S.prox (m.to, m.ent) := by unfold loss; rw [hm]; simp [hgm]
    rw [hls] at hdm
    have b1 := difB I m.ent; have b2 := I.df m.ent
    have b3 := I.pxB (m.to, m.ent); have b4' := I.px (m.to, m.ent)
    have b5 := px_lt I (Nat.le_refl S.clocks.length) m.ent; have b6 := I.pxs m.ent
    have leaf : ∀ {w'}, Ext w53 w' → ∃ w66, Sem.run Tryz.prog (Instr.mapUpdate 31 (.map (some g)) (.int .i64 m.ent) (.int .i64 (IntKind.wrap .i64 (S.dif m.ent + (IntKind.wrap .i64 (sums S S.things.length m.ent - sums S' S'.things.length m.ent)))))) w' = .ok () w66 ∧
        ((∃ (j2 : Nat) (own : OwnM Role) (r : Raw) (S : CS) (κ : Ka RK) (N : Prm), IntKind.wrap .i64 ((j : Int) + 1) = j2 ∧ j2 ≤ l4 ∧ LI w j2 own r S κ N q rb2 w66 ∧ MapF eK eK 0 w66 g S.dif ∧ own g = none ∧ κ g = none) ∧ l4 - (IntKind.wrap .i64 ((j : Int) + 1)).toNat < l4 - (j : Int).toNat) := by
      intro w' x'
      obtain ⟨w66, u1, u2, u3⟩ := (M53.ext x').update mapN m.ent (S'.dif m.ent)
      refine ⟨w66, ?_, nxt ((L53.ext x').but u3 gw2 og'.1 og'.2) (u2.congr fun t => ?_)⟩
      · have e1 : IntKind.wrap .i64 (S.dif m.ent + (IntKind.wrap .i64 (sums S S.things.length m.ent - sums S' S'.things.length m.ent))) = S'.dif m.ent := by
          rw [vB, vC, gl2]
          rw [wrap_id (x := px S.prox S.clocks.length m.ent - _) (by omega) (by omega), wrap_id (by omega) (by omega)]; omega
        rw [e1]; exact u1
      · unfold upd; split
        · rename_i e; rw [e]
        · rename_i e; rw [hd t]; unfold loss; rw [hm]; simp [e]
    refine ⟨_, bx4 C53 e3, _, bx4 C53 e3, _, bx4 C53 e3, ?_⟩
    have K9 := c9 L53.jt L53.inv L53.bd (by omega)
    have A0 : Sem.run Tryz.prog (Instr.lookup 31 (.map (some g)) (.int .i64 m.ent) false) w53 = .ok (.int .i64 (S.dif m.ent)) w53 := M53.lookup mapN m.ent
    have B0 : Sem.run Tryz.prog (Instr.lookup 31 (.map (some g38)) (.int .i64 m.ent) false) w53 = .ok (.int .i64 (sums S S.things.length m.ent)) w53 := N53.lookup mapN m.ent
    repeat' first
      | exact leaf x62
      | with_reducible refine ⟨_, _, A0, Cel.refl _, ?_⟩
      | with_reducible refine ⟨_, _, B0, Cel.refl _, ?_⟩
      | with_reducible refine ⟨_, _, A1, Below.cel x62, ?_⟩
      | with_reducible refine ⟨_, _, B1, Below.cel x62, ?_⟩
      | with_reducible refine ⟨_, _, C1, Below.cel x62, ?_⟩
      | refine K9.mono ?_
      | (rintro en62 w62 ⟨m61, rfl, g61, rfl, hg61, M61, x62⟩
         have A1 : Sem.run Tryz.prog (Instr.lookup 31 (.map (some g)) (.int .i64 m.ent) false) w62 = .ok (.int .i64 (S.dif m.ent)) w62 := (M53.ext x62).lookup mapN m.ent
         have B1 : Sem.run Tryz.prog (Instr.lookup 31 (.map (some g38)) (.int .i64 m.ent) false) w62 = .ok (.int .i64 (sums S S.things.length m.ent)) w62 := (N53.ext x62).lookup mapN m.ent
         have C1 : Sem.run Tryz.prog (Instr.lookup 31 (.map (some g61)) (.int .i64 m.ent) false) w62 = .ok (.int .i64 (sums S' S'.things.length m.ent)) w62 := M61.lookup mapN m.ent
         refine ⟨_, rfl, Below.cel x62, ?_⟩)
      | apply And.intro
  · -- the sums
    have t := of_decide_eq_false t
    have hjl : j = l4 := by omega
    have I := LL.inv
    have B := LL.bd
    have G : Safe S := I.safe (by omega) (by omega)
    have Ith := I.th
    have gl : g < w23.heap.size := M23.lt
    refine (c9 LL.jt I B (by omega)).mono ?_
    rintro en w186 ⟨m185, rfl, g1, rfl, hg1, M186, x186⟩
    refine ⟨_, rfl, ?_⟩
    have L186 := LL.ext x186
    have o1 : own g1 = none := LL.jt.c.top _ hg1
    have k1 : κ g1 = none := LL.jt.r.fresh hg1
    have lw : w.heap.size ≤ w23.heap.size := LL.fr.size
    have g1l : g1 < w186.heap.size := M186.lt
    refine (c8 L186.jt.c G.toLim).mono ?_
    rintro en w189 ⟨a', l', c', rfl, hO, x189⟩
    refine ⟨_, _, _, rfl, ?_⟩
    have hl' : l' = S.fly.length := hO.1
    have Ifl := I.fl
    refine ⟨fun y w' => ∃ n : Nat, y = n ∧ n ≤ S.fly.length ∧ LI w j own ⟨rb', cl, ca, th, fl, mp, ma, mg, mm, mw, ths, wts⟩ S κ N q rb' w' ∧ MapF eK eK 0 w' g S.dif ∧ MapF eK eK 0 w' g1 (fun t => sums S S.things.length t + flw (S.fly.take n) t) ∧ OwnR w186.heap.size 40 8 eM w' a' l' c' S.fly ∧ w186.heap.size ≤ w'.heap.size, fun y _ => l' - y.toNat,
      ⟨⟨0, rfl, Nat.zero_le _, L186.ext x189, (M23.ext x186).ext x189, (M186.ext x189).congr fun t => by simp [flw], hO, x189.size⟩, trivial⟩, ?_⟩
    rintro w193 y ⟨n, rfl, hn, L193, M193, N193, O193, s193⟩
    refine BoolK.mk (fun t2 => ?_) (fun t2 => ?_)
    · have t2 := of_decide_eq_true t2
      have hnl : n < S.fly.length := by omega
      have hm : S.fly[n]? = some S.fly[n] := List.getElem?_eq_getElem hnl
      generalize S.fly[n] = m at hm
      obtain ⟨gb, ga, -, gbl, gc⟩ := O193.cellAt eM_len hm
      refine ⟨⟨by omega, t2⟩, adK ga ?_⟩
      simp only [add_mk, Nat.zero_add, Int.toNat_natCast]
      refine ⟨_, (gc 0 (by omega)).trans rfl, _, (gc 1 (by omega)).trans rfl, _, (gc 2 (by omega)).trans rfl, _, (gc 3 (by omega)).trans rfl, _, (gc 4 (by omega)).trans rfl, _, (gc 5 (by omega)).trans rfl, _, (gc 6 (by omega)).trans rfl, _, _, _, (gc 7 (by omega)).trans rfl, ?_⟩
      refine AllocK.mk fun b204 w205 hb204 hB204 x205 => ?_
      refine Go.Proofs.YtgggbmikmmljcaaGreat.set8 hB204 rfl fun w213 hB213 but => ?_
      have x213 : Ext w193 w213 := but.below x205 (by omega)
      have L213 := L193.ext x213
      have M213 := M193.ext x213
      have N213 := N193.ext x213
      have O213 := O193.ext x213
      refine ⟨m.ent, bx4 hB213 rfl, _, w213, N213.lookup mapN m.ent, m.n, bx4 hB213 rfl, ?_⟩
      obtain ⟨w218, u1, u2, u3⟩ := N213.update mapN m.ent (sums S S.things.length m.ent + flw (S.fly.take n) m.ent + m.n)
      have hmem := List.mem_of_getElem? hm
      have htk : flw (S.fly.take (n + 1)) m.ent = flw (S.fly.take n) m.ent + m.n := by rw [List.take_add_one, hm, flw_app]; simp [flw]
      have hpos : ∀ i, 0 ≤ flw (S.fly.take i) m.ent := fun i => flw_nonneg (fun x hx => (I.fy x (List.mem_of_mem_take hx)).2.2.2.1) _
      have hle : flw (S.fly.take (n + 1)) m.ent ≤ flw S.fly m.ent := by
        have e : flw S.fly m.ent = flw (S.fly.take (n + 1)) m.ent + flw (S.fly.drop (n + 1)) m.ent := by rw [← flw_app, List.take_append_drop]
        have := flw_nonneg (l := S.fly.drop (n + 1)) (fun x hx => (I.fy x (List.mem_of_mem_drop hx)).2.2.2.1) m.ent
        omega
      have hT := (I.fy m hmem).1
      have vS : sums S S.things.length m.ent = px S.prox S.clocks.length m.ent := if_pos hT
      have hdf := I.df m.ent; have hot := I.outT1 m.ent; have hp0 := I.pxs m.ent; have hn0 := (I.fy m hmem).2.2.2.1; have hpn := hpos n
      have hdd : S.dif m.ent = S.outT m.ent - px S.prox S.clocks.length m.ent - flw S.fly m.ent := rfl
      refine ⟨w218, ?_, ?_⟩
      · show Sem.run _ (Instr.mapUpdate _ _ _ (.int .i64 (IntKind.wrap .i64 (sums S S.things.length m.ent + flw (S.fly.take n) m.ent + m.n)))) _ = _
        rw [vS] at u1 ⊢
        rw [wrap_id (by omega) (by omega)]; exact u1
      · rw [wrap_id (by omega) (by omega)]
        refine ⟨⟨n + 1, by omega, by omega, L213.but u3 (by omega) o1 k1, M213.heap (u3.block g (by omega)), u2.congr fun t => ?_, O213.kept fun i hi => u3.block i (by have := (O193.lt i hi).1; omega), by rw [u3.size]; have := x213.size; omega⟩, by show l' - ((n : Int) + 1).toNat < l' - (n : Int).toNat; omega⟩
        unfold upd
        by_cases e : t = m.ent
        · rw [if_pos e, e, htk]; omega
        · rw [if_neg e, List.take_add_one, hm, flw_app]; simp [flw, Ne.symm e]
    have t2 := of_decide_eq_false t2
    have en : n = S.fly.length := by omega
    subst en
    have N193 : MapF eK eK 0 w193 g1 (fun t => sums S S.things.length t + flw S.fly t) := N193.congr fun t => by rw [List.take_of_length_le (Nat.le_refl _)]
    clear O193 hO
    refine ⟨fun y w' => ∃ n : Nat, y = n + 1 ∧ n ≤ S.things.length ∧ Ext w193 w', fun y _ => S.things.length + 1 - y.toNat, ⟨⟨0, rfl, Nat.zero_le _, Ext.refl _⟩, trivial⟩, ?_⟩
    rintro w221 y ⟨n, rfl, hn, x221⟩
    have L221 := L193.ext x221
    obtain ⟨a4', c4', e4, -⟩ := L221.jt.r.c4
    have Bn := B.n; have Bs := B.s; have ck := I.ck
    refine ⟨a4', N.n, c4', e4, BoolK.mk (fun t3 => ?_) (fun t3 => ?_)⟩
    rotate_left
    · refine (c6 w221).mono ?_
      rintro en w13 ⟨p, rfl, rfl, x13⟩; exact ⟨_, rfl, rfl, L221.fr.toExt.trans x13⟩
    have t3 := of_decide_eq_true t3
    have hT : S.isT ((n : Int) + 1) := ⟨by omega, by omega⟩
    refine (c11 L221.jt.c G.toLim ((n : Int) + 1)).mono ?_
    rintro en w227 ⟨ao, bo, rfl, ho, rfl⟩
    rw [CS.outE, if_pos hT, Prod.mk.injEq] at ho
    obtain ⟨rfl, rfl⟩ := ho
    refine ⟨_, _, rfl, BoolK.mk (fun t4 => by simp at t4) (fun _ => ?_)⟩
    have N221 := N193.ext x221
    have M221 := M193.ext x221
    refine ⟨_, _, N221.lookup mapN ((n : Int) + 1), _, _, M221.lookup mapN ((n : Int) + 1), ?_⟩
    have vS : sums S S.things.length ((n : Int) + 1) = px S.prox S.clocks.length ((n : Int) + 1) := if_pos hT
    have hot := I.outT1 ((n : Int) + 1); have h0 := I.outT0 ((n : Int) + 1)
    have hdd : S.dif ((n : Int) + 1) = S.outT ((n : Int) + 1) - px S.prox S.clocks.length ((n : Int) + 1) - flw S.fly ((n : Int) + 1) := rfl
    have hoe := outT_eq hT
    refine BoolK.mk (fun t4 => ?_) (fun _ => ?_)
    · exfalso
      have : ((S.th ((n : Int) + 1)).out != IntKind.wrap .i64 (sums S S.things.length ((n : Int) + 1) + flw S.fly ((n : Int) + 1) + S.dif ((n : Int) + 1))) = true := t4
      rw [vS, wrap_id (by omega) (by omega)] at this
      simp only [bne_iff_ne] at this
      omega
    refine ⟨N.s, L221.jt.r.c0, ?_⟩
    refine ⟨fun z w' => ∃ i : Nat, z = i ∧ i ≤ S.clocks.length ∧ Ext w193 w', fun z _ => S.clocks.length - z.toNat, ⟨⟨0, rfl, Nat.zero_le _, x221⟩, trivial⟩, ?_⟩
    rintro w237 z ⟨i, rfl, hi, x237⟩
    have L237 := L193.ext x237
    refine BoolK.mk (fun t5 => ?_) (fun t5 => ?_)
    · have t5 := of_decide_eq_true t5
      refine (c12 L237.jt.c i ((n : Int) + 1)).mono ?_
      rintro en w240 ⟨p, rfl, rfl, rfl⟩
      refine ⟨_, rfl, BoolK.mk (fun t6 => ?_) (fun _ => ?_)⟩
      · have t6 := of_decide_eq_true t6
        refine (c13 L237.jt.c G.toLim2 ((n : Int) + 1)).mono ?_
        rintro en w243 ⟨s, rfl, hs, x243⟩
        refine ⟨_, rfl, BoolK.mk (fun (t7 : isK s kDead = true) => ?_) (fun _ => ?_)⟩
        · have := free_px I (s := i) hT (dead_no hs t7).2
          omega
        · rw [wrap_id (by omega) (by omega)]
          exact ⟨⟨i + 1, by omega, by omega, x237.trans x243⟩, by show S.clocks.length - ((i : Int) + 1).toNat < S.clocks.length - (i : Int).toNat; omega⟩
      · rw [wrap_id (by omega) (by omega)]
        exact ⟨⟨i + 1, by omega, by omega, x237⟩, by show S.clocks.length - ((i : Int) + 1).toNat < S.clocks.length - (i : Int).toNat; omega⟩
    · rw [wrap_id (by omega) (by omega)]
      exact ⟨⟨n + 1, by omega, by omega, x237⟩, by show S.things.length + 1 - ((n : Int) + 1 + 1).toNat < S.things.length + 1 - ((n : Int) + 1).toNat; omega⟩
end
end Go.Proofs.YtgggbmikmmljcaaGreat

namespace Go.V
open Go.RowKit (Below)
def Rd {H : Type} (enc : TypeId × Value → H) (P : Program) (w : World) (t : TypeId) (cs : List Value) : Prop :=
  ∃ fuel x, DataW.trod enc P w 0 (fun _ => true) true fuel t cs = some x
section
variable {H : Type} {enc : TypeId × Value → H} {P : Program} {w : World}
theorem Rd.of {t : TypeId} {v : Value} {d : DataW H} {ps : List MemPlace} (h : DataW.Trod enc P w 0 (fun _ => true) true t v d ps) : Rd enc P w t v.cells.toList := by
  obtain ⟨f, hf⟩ := h; exact ⟨f, _, hf⟩
theorem Rd.int {t : TypeId} {k : IntKind} {cs : List Value} (ht : P.underlying t = some (.int k)) (h : Rd enc P w t cs) : ∃ n, cs = [.int k n] ∧ (Lit.int k n).wf = true := by
  obtain ⟨f, x, h⟩ := h
  obtain ⟨n, h1, _, h2⟩ := DataW.trod_int ht h
  exact ⟨n, h1, h2⟩
theorem Rd.string {t : TypeId} {cs : List Value} (ht : P.underlying t = some .string) (h : Rd enc P w t cs) : ∃ s : ByteArray, cs = [.string s] ∧ s.size ≤ maxLen := by
  obtain ⟨f, x, h⟩ := h
  obtain ⟨s, h1, _, h2⟩ := DataW.trod_string ht h
  exact ⟨s, h1, h2⟩
theorem Rd.array {t e : TypeId} {n : Nat} {cs : List Value} (ht : P.underlying t = some (.array n e)) (h : Rd enc P w t cs) : cs.length = P.cellsOf t ∧ ∀ i, i < n → Rd enc P w e ((cs.drop (i * P.cellsOf e)).take (P.cellsOf e)) := by
  obtain ⟨f, x, h⟩ := h
  obtain ⟨xs, m, _, _, hl, hx, hf⟩ := DataW.trod_array ht h
  refine ⟨hl, fun i hi => ⟨m, xs[i]'(by omega), ?_⟩⟩
  rw [hf i hi, List.getElem?_eq_getElem]
theorem Rd.struct {t : TypeId} {fs : Array Field} {cs : List Value} (ht : P.underlying t = some (.struct fs)) (h : Rd enc P w t cs) : cs.length = P.cellsOf t ∧ ∀ (i : Nat) (f : Field), fs[i]? = some f → Rd enc P w f.type ((cs.drop f.offset).take (P.cellsOf f.type)) := by
  obtain ⟨fu, x, h⟩ := h
  obtain ⟨xs, n, _, _, hl, hlen, hf⟩ := DataW.trod_struct ht h
  refine ⟨hl, fun i f hi => ?_⟩
  have hi' : i < fs.size := (Array.getElem?_eq_some_iff.1 hi).1
  refine ⟨n, xs[i]'(by simpa [hlen] using hi'), ?_⟩
  have := hf i f (by simpa using hi)
  rw [this, List.getElem?_eq_getElem]
theorem Rd.slice {α : Type} {R : World → Cells → α → Prop} {t e : TypeId} {sz : Nat} {cs : List Value} (ht : P.underlying t = some (.slice e)) (hs : P.cellsOf e = sz) (hpos : 0 < sz)
    (hR : ∀ (f : Nat → Option Value) (cs' : List Value), cs'.length = sz → (∀ j, j < sz → f j = cs'[j]?) → Rd enc P w e cs' → ∃ x, R w f x) (h : Rd enc P w t cs) :
    ∃ a l c xs, cs = [.slice a l c] ∧ Rows sz R w a l xs ∧ l ≤ maxLen := by
  obtain ⟨fu, x, h⟩ := h
  rcases Go.Deep.open_slice ht h with ⟨rfl, _⟩ | ⟨a, len, cap, m, n, D, Pl, rfl, hb, hl, hm, hmm, rfl, hx⟩
  · exact ⟨none, 0, 0, [], rfl, Rows.nil _ _ _ _, by simp⟩
  rw [hs] at hx
  have hlm : len ≤ m := by rw [hmm]; split <;> omega
  rcases Nat.eq_zero_or_pos len with h0 | h0
  · subst h0
    exact ⟨some a, 0, cap, [], rfl, Rows.nil _ _ _ _, by simp⟩
  have hspot : a.spot = none := by
    obtain ⟨cs', h1, _⟩ := hx 0 (by omega)
    obtain ⟨_, hlen, hc⟩ := World.cells?_some h1
    have := hc 0 hpos
    rw [Nat.zero_mul, add_mk0, add_mk0, List.getElem?_eq_getElem (by omega)] at this
    exact World.cell?_spot this
  obtain ⟨b, o, s⟩ := a
  simp only at hspot
  subst hspot
  have each : ∀ i, i < len → ∃ x : α, R w (fun j => w.cell? ⟨b, o + i * sz + j, none⟩) x := fun i hi => by
    obtain ⟨cs', h1, h2⟩ := hx i (by omega)
    obtain ⟨_, hlen, hc⟩ := World.cells?_some h1
    refine hR _ cs' hlen (fun j hj => ?_) ⟨n, _, h2⟩
    have := hc j hj
    rw [add_mk, add_mk] at this
    exact this
  have : ∃ xs : List α, xs.length = len ∧ ∀ i x, xs[i]? = some x → R w (fun j => w.cell? ⟨b, o + i * sz + j, none⟩) x := by
    clear hx hlm hmm hl h
    induction len with
    | zero => omega
    | succ k ih =>
      obtain ⟨x, hxk⟩ := each k (by omega)
      rcases Nat.eq_zero_or_pos k with hk | hk
      · subst hk
        refine ⟨[x], rfl, fun i y hy => ?_⟩
        have : i = 0 := by have := (List.getElem?_eq_some_iff.1 hy).1; simp at this; omega
        subst this; simp at hy; subst hy; exact hxk
      · obtain ⟨xs, hl, hxs⟩ := ih hk (fun i hi => each i (by omega))
        refine ⟨xs ++ [x], by simp [hl], fun i y hy => ?_⟩
        rcases Nat.lt_or_ge i xs.length with h | h
        · rw [List.getElem?_append_left h] at hy; exact hxs i y hy
        · rw [List.getElem?_append_right h] at hy
          have hi : i = k := by have := (List.getElem?_eq_some_iff.1 hy).1; simp at this; omega
          subst hi
          rw [hl, Nat.sub_self] at hy; simp at hy; subst hy; exact hxk
  obtain ⟨xs, hl', hxs⟩ := this
  exact ⟨_, len, cap, xs, rfl, ⟨hl'.symm, .inr ⟨b, o, rfl, hxs⟩⟩, by omega⟩
end
end Go.V

namespace Go.Proofs.YtgggbmikmmljcaaGreat
open Go Go.V Go.Proofs
open Go.RowKit (Below)
def RAct (_ : World) (f : Cells) (x : Int × Int × Int × Int) : Prop := f 0 = some (.int .i64 x.1) ∧ f 1 = some (.int .i64 x.2.1) ∧ f 2 = some (.int .i64 x.2.2.1) ∧ f 3 = some (.int .i64 x.2.2.2)
theorem list4 {cs : List Value} (h : cs.length = 4) : ∃ a b c d, cs = [a, b, c, d] := by
  match cs, h with
  | [a, b, c, d], _ => exact ⟨a, b, c, d, rfl⟩
section
variable {H : Type} {enc : TypeId × Value → H} {w : World}
theorem rd_act (f : Nat → Option Value) (cs : List Value) (hl : cs.length = 4) (hf : ∀ j, j < 4 → f j = cs[j]?) (h : Rd enc Tryz.prog w 33 cs) : ∃ x, RAct w f x := by
  obtain ⟨-, hs⟩ := h.struct (fs := #[{ name := "Do", type := 3, offset := 0, embedded := false, tag := "", pkgPath := "", byteOffset := 0 },
        { name := "A", type := 3, offset := 1, embedded := false, tag := "", pkgPath := "", byteOffset := 8 },
        { name := "B", type := 3, offset := 2, embedded := false, tag := "", pkgPath := "", byteOffset := 16 },
        { name := "C", type := 3, offset := 3, embedded := false, tag := "", pkgPath := "", byteOffset := 24 }]) (by kernel_rfl)
  have c3 : Tryz.prog.cellsOf 3 = 1 := by kernel_rfl
  obtain ⟨v0, v1, v2, v3, rfl⟩ := list4 hl
  have f0 : Rd enc Tryz.prog w 3 [v0] := by have h : Rd enc Tryz.prog w 3 (([v0, v1, v2, v3].drop 0).take (Tryz.prog.cellsOf 3)) := hs 0 _ rfl; rw [c3] at h; exact h
  have f1 : Rd enc Tryz.prog w 3 [v1] := by have h : Rd enc Tryz.prog w 3 (([v0, v1, v2, v3].drop 1).take (Tryz.prog.cellsOf 3)) := hs 1 _ rfl; rw [c3] at h; exact h
  have f2 : Rd enc Tryz.prog w 3 [v2] := by have h : Rd enc Tryz.prog w 3 (([v0, v1, v2, v3].drop 2).take (Tryz.prog.cellsOf 3)) := hs 2 _ rfl; rw [c3] at h; exact h
  have f3 : Rd enc Tryz.prog w 3 [v3] := by have h : Rd enc Tryz.prog w 3 (([v0, v1, v2, v3].drop 3).take (Tryz.prog.cellsOf 3)) := hs 3 _ rfl; rw [c3] at h; exact h
  obtain ⟨n0, e0, _⟩ := f0.int (k := .i64) (by kernel_rfl)
  obtain ⟨n1, e1, _⟩ := f1.int (k := .i64) (by kernel_rfl)
  obtain ⟨n2, e2, _⟩ := f2.int (k := .i64) (by kernel_rfl)
  obtain ⟨n3, e3, _⟩ := f3.int (k := .i64) (by kernel_rfl)
  cases e0; cases e1; cases e2; cases e3
  exact ⟨(n0, n1, n2, n3), hf 0 (by omega), hf 1 (by omega), hf 2 (by omega), hf 3 (by omega)⟩
theorem slData {P : Program} {t e : TypeId} {a : Option Addr} {l c : Nat} {d : DataW H} {ps : List MemPlace} (ht : P.underlying t = some (.slice e)) (h : DataW.Trod enc P w 0 (fun _ => true) true t (.slice a l c) d ps) : l = 0 ∨ ∃ elems spare, d = .slice elems spare ∧ elems.length = l := by
  obtain ⟨f, hf⟩ := h
  rcases Go.Deep.open_slice ht hf with ⟨e1, _⟩ | ⟨a2, len, cap, m, n, D, Pl, e1, _, _, _, _, e2, _⟩
  · simp [Value.cells] at e1; exact .inl e1.2.1
  · simp [Value.cells] at e1
    cases e2
    exact .inr ⟨_, _, rfl, by simp [e1.2.1]⟩
theorem rd_acts {cs : List Value} (h : Rd enc Tryz.prog w 22 cs) : ∃ a l c xs, cs = [.slice a l c] ∧ Go.V.Rows 4 RAct w a l xs ∧ l ≤ maxLen :=
  h.slice (e := 33) (by kernel_rfl) (by kernel_rfl) (by omega) rd_act
theorem RdA.of {a : Option Addr} {l : Nat} {xs : List (Int × Int × Int × Int)} (h : Go.V.Rows 4 RAct w a l xs) : RdA (fun _ => True) w a l := fun i hi => by
  obtain ⟨b, o, ha, c0, c1, c2, c3⟩ := h.get (i := i) (by rw [← h.1]; exact hi)
  have hb : b < w.heap.size := block_lt_of_cell c0
  exact ⟨b, o, ha, hb, _, _, _, _, trivial, c0, c1, c2, c3⟩
end
end Go.Proofs.YtgggbmikmmljcaaGreat
