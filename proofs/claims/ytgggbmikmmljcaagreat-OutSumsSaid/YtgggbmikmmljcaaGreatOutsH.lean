/- A part of the proof: plain forms of functions and laws about them. -/
import Derived.Test.YtgggbmikmmljcaaGreatOutsG
namespace Go.Proofs.YtgggbmikmmljcaaGreat
open Go Go.V Go.Proofs
open Go.RowKit (Below)
/-! manystrand/manystrandref27.New -/
def N7 (x1 : Int) (x2 : Int) (x3 : Int) (K : Option Addr → Int → World → Prop) (w : World) : Prop :=
 BoolK (decide ((x1 : Int) < 1))
 (K none 2 w)
 (BoolK (decide ((x1 : Int) > 5))
 (K none 2 w)
 (BoolK (decide ((x2 : Int) < 1))
 (K none 2 w)
 (BoolK (decide ((x2 : Int) > 100))
 (K none 2 w)
 (BoolK (decide ((x3 : Int) < 1))
 (K none 2 w)
 (BoolK (decide ((x3 : Int) > 100))
 (K none 2 w)
 (DrewK w fun w4 =>
 ((0 ≤ (x1 : Int) ∧ (x1 : Int) ≤ x1 ∧ ((8 : Nat) : Int) * x1 ≤ 281474976710656 ∧ (x1 : Int) ≤ 9223372036854775807) ∧
 AllocK w4 (madeCells (#[.int .i64 0]) ((x1 : Int).toNat * 1)) 3 fun b5 w6 =>
 ((0 ≤ (x1 : Int) ∧ (x1 : Int) ≤ x1 ∧ ((24 : Nat) : Int) * x1 ≤ 281474976710656 ∧ (x1 : Int) ≤ 9223372036854775807) ∧
 AllocK w6 (madeCells (#[.slice none 0 0]) ((x1 : Int).toNat * 1)) 43 fun b7 w8 =>
 ((0 ≤ (x1 : Int) ∧ (x1 : Int) ≤ x1 ∧ ((24 : Nat) : Int) * x1 ≤ 281474976710656 ∧ (x1 : Int) ≤ 9223372036854775807) ∧
 AllocK w8 (madeCells (#[.slice none 0 0]) ((x1 : Int).toNat * 1)) 84 fun b9 w10 =>
 ((0 ≤ (x1 : Int) ∧ (x1 : Int) ≤ x1 ∧ ((24 : Nat) : Int) * x1 ≤ 281474976710656 ∧ (x1 : Int) ≤ 9223372036854775807) ∧
 AllocK w10 (madeCells (#[.slice none 0 0]) ((x1 : Int).toNat * 1)) 84 fun b11 w12 =>
 (0 ≤ (x1 : Int) ∧ (x1 : Int) ≤ x1 ∧ ((24 : Nat) : Int) * x1 ≤ 281474976710656 ∧ (x1 : Int) ≤ 9223372036854775807) ∧
 AllocK w12 (madeCells (#[.slice none 0 0]) ((x1 : Int).toNat * 1)) 84 fun b13 w14 =>
 AllocK w14 (#[(.int .i64 x1), (.int .i64 x2), (.int .i64 x3), (.slice (some b5) ((x1 : Int).toNat) ((x1 : Int).toNat)), (.slice none 0 0), (.slice (some b7) ((x1 : Int).toNat) ((x1 : Int).toNat)), (.slice (some b9) ((x1 : Int).toNat) ((x1 : Int).toNat)), (.slice (some b11) ((x1 : Int).toNat) ((x1 : Int).toNat)), (.slice (some b13) ((x1 : Int).toNat) ((x1 : Int).toNat)), (.slice none 0 0), (.slice none 0 0), (.slice none 0 0)]) 50 fun b15 w16 =>
 K (some b15) 0 w16) ∧
 ((0 ≤ (x1 : Int) ∧ (x1 : Int) ≤ x1 ∧ ((24 : Nat) : Int) * x1 ≤ 281474976710656 ∧ (x1 : Int) ≤ 9223372036854775807) ∧
 AllocK w10 (madeCells (#[.slice none 0 0]) ((x1 : Int).toNat * 1)) 84 fun b17 w18 =>
 (0 ≤ (x1 : Int) ∧ (x1 : Int) ≤ x1 ∧ ((24 : Nat) : Int) * x1 ≤ 281474976710656 ∧ (x1 : Int) ≤ 9223372036854775807) ∧
 AllocK w18 (madeCells (#[.slice none 0 0]) ((x1 : Int).toNat * 1)) 84 fun b19 w20 =>
 AllocK w20 (#[(.int .i64 x1), (.int .i64 x2), (.int .i64 x3), (.slice (some b5) ((x1 : Int).toNat) ((x1 : Int).toNat)), (.slice none 0 0), (.slice (some b7) ((x1 : Int).toNat) ((x1 : Int).toNat)), (.slice (some b9) ((x1 : Int).toNat) ((x1 : Int).toNat)), (.slice (some b19) ((x1 : Int).toNat) ((x1 : Int).toNat)), (.slice (some b17) ((x1 : Int).toNat) ((x1 : Int).toNat)), (.slice none 0 0), (.slice none 0 0), (.slice none 0 0)]) 50 fun b21 w22 =>
 K (some b21) 0 w22)) ∧
 (((0 ≤ (x1 : Int) ∧ (x1 : Int) ≤ x1 ∧ ((24 : Nat) : Int) * x1 ≤ 281474976710656 ∧ (x1 : Int) ≤ 9223372036854775807) ∧
 AllocK w8 (madeCells (#[.slice none 0 0]) ((x1 : Int).toNat * 1)) 84 fun b23 w24 =>
 ((0 ≤ (x1 : Int) ∧ (x1 : Int) ≤ x1 ∧ ((24 : Nat) : Int) * x1 ≤ 281474976710656 ∧ (x1 : Int) ≤ 9223372036854775807) ∧
 AllocK w24 (madeCells (#[.slice none 0 0]) ((x1 : Int).toNat * 1)) 84 fun b25 w26 =>
 (0 ≤ (x1 : Int) ∧ (x1 : Int) ≤ x1 ∧ ((24 : Nat) : Int) * x1 ≤ 281474976710656 ∧ (x1 : Int) ≤ 9223372036854775807) ∧
 AllocK w26 (madeCells (#[.slice none 0 0]) ((x1 : Int).toNat * 1)) 84 fun b27 w28 =>
 AllocK w28 (#[(.int .i64 x1), (.int .i64 x2), (.int .i64 x3), (.slice (some b5) ((x1 : Int).toNat) ((x1 : Int).toNat)), (.slice none 0 0), (.slice (some b7) ((x1 : Int).toNat) ((x1 : Int).toNat)), (.slice (some b25) ((x1 : Int).toNat) ((x1 : Int).toNat)), (.slice (some b23) ((x1 : Int).toNat) ((x1 : Int).toNat)), (.slice (some b27) ((x1 : Int).toNat) ((x1 : Int).toNat)), (.slice none 0 0), (.slice none 0 0), (.slice none 0 0)]) 50 fun b29 w30 =>
 K (some b29) 0 w30) ∧
 ((0 ≤ (x1 : Int) ∧ (x1 : Int) ≤ x1 ∧ ((24 : Nat) : Int) * x1 ≤ 281474976710656 ∧ (x1 : Int) ≤ 9223372036854775807) ∧
 AllocK w24 (madeCells (#[.slice none 0 0]) ((x1 : Int).toNat * 1)) 84 fun b31 w32 =>
 (0 ≤ (x1 : Int) ∧ (x1 : Int) ≤ x1 ∧ ((24 : Nat) : Int) * x1 ≤ 281474976710656 ∧ (x1 : Int) ≤ 9223372036854775807) ∧
 AllocK w32 (madeCells (#[.slice none 0 0]) ((x1 : Int).toNat * 1)) 84 fun b33 w34 =>
 AllocK w34 (#[(.int .i64 x1), (.int .i64 x2), (.int .i64 x3), (.slice (some b5) ((x1 : Int).toNat) ((x1 : Int).toNat)), (.slice none 0 0), (.slice (some b7) ((x1 : Int).toNat) ((x1 : Int).toNat)), (.slice (some b33) ((x1 : Int).toNat) ((x1 : Int).toNat)), (.slice (some b23) ((x1 : Int).toNat) ((x1 : Int).toNat)), (.slice (some b31) ((x1 : Int).toNat) ((x1 : Int).toNat)), (.slice none 0 0), (.slice none 0 0), (.slice none 0 0)]) 50 fun b35 w36 =>
 K (some b35) 0 w36)) ∧
 ((0 ≤ (x1 : Int) ∧ (x1 : Int) ≤ x1 ∧ ((24 : Nat) : Int) * x1 ≤ 281474976710656 ∧ (x1 : Int) ≤ 9223372036854775807) ∧
 AllocK w8 (madeCells (#[.slice none 0 0]) ((x1 : Int).toNat * 1)) 84 fun b37 w38 =>
 ((0 ≤ (x1 : Int) ∧ (x1 : Int) ≤ x1 ∧ ((24 : Nat) : Int) * x1 ≤ 281474976710656 ∧ (x1 : Int) ≤ 9223372036854775807) ∧
 AllocK w38 (madeCells (#[.slice none 0 0]) ((x1 : Int).toNat * 1)) 84 fun b39 w40 =>
 (0 ≤ (x1 : Int) ∧ (x1 : Int) ≤ x1 ∧ ((24 : Nat) : Int) * x1 ≤ 281474976710656 ∧ (x1 : Int) ≤ 9223372036854775807) ∧
 AllocK w40 (madeCells (#[.slice none 0 0]) ((x1 : Int).toNat * 1)) 84 fun b41 w42 =>
 AllocK w42 (#[(.int .i64 x1), (.int .i64 x2), (.int .i64 x3), (.slice (some b5) ((x1 : Int).toNat) ((x1 : Int).toNat)), (.slice none 0 0), (.slice (some b7) ((x1 : Int).toNat) ((x1 : Int).toNat)), (.slice (some b39) ((x1 : Int).toNat) ((x1 : Int).toNat)), (.slice (some b41) ((x1 : Int).toNat) ((x1 : Int).toNat)), (.slice (some b37) ((x1 : Int).toNat) ((x1 : Int).toNat)), (.slice none 0 0), (.slice none 0 0), (.slice none 0 0)]) 50 fun b43 w44 =>
 K (some b43) 0 w44) ∧
 ((0 ≤ (x1 : Int) ∧ (x1 : Int) ≤ x1 ∧ ((24 : Nat) : Int) * x1 ≤ 281474976710656 ∧ (x1 : Int) ≤ 9223372036854775807) ∧
 AllocK w38 (madeCells (#[.slice none 0 0]) ((x1 : Int).toNat * 1)) 84 fun b45 w46 =>
 (0 ≤ (x1 : Int) ∧ (x1 : Int) ≤ x1 ∧ ((24 : Nat) : Int) * x1 ≤ 281474976710656 ∧ (x1 : Int) ≤ 9223372036854775807) ∧
 AllocK w46 (madeCells (#[.slice none 0 0]) ((x1 : Int).toNat * 1)) 84 fun b47 w48 =>
 AllocK w48 (#[(.int .i64 x1), (.int .i64 x2), (.int .i64 x3), (.slice (some b5) ((x1 : Int).toNat) ((x1 : Int).toNat)), (.slice none 0 0), (.slice (some b7) ((x1 : Int).toNat) ((x1 : Int).toNat)), (.slice (some b47) ((x1 : Int).toNat) ((x1 : Int).toNat)), (.slice (some b45) ((x1 : Int).toNat) ((x1 : Int).toNat)), (.slice (some b37) ((x1 : Int).toNat) ((x1 : Int).toNat)), (.slice none 0 0), (.slice none 0 0), (.slice none 0 0)]) 50 fun b49 w50 =>
 K (some b49) 0 w50)))) ∧
 (((0 ≤ (x1 : Int) ∧ (x1 : Int) ≤ x1 ∧ ((24 : Nat) : Int) * x1 ≤ 281474976710656 ∧ (x1 : Int) ≤ 9223372036854775807) ∧
 AllocK w6 (madeCells (#[.slice none 0 0]) ((x1 : Int).toNat * 1)) 84 fun b51 w52 =>
 ((0 ≤ (x1 : Int) ∧ (x1 : Int) ≤ x1 ∧ ((24 : Nat) : Int) * x1 ≤ 281474976710656 ∧ (x1 : Int) ≤ 9223372036854775807) ∧
 AllocK w52 (madeCells (#[.slice none 0 0]) ((x1 : Int).toNat * 1)) 43 fun b53 w54 =>
 ((0 ≤ (x1 : Int) ∧ (x1 : Int) ≤ x1 ∧ ((24 : Nat) : Int) * x1 ≤ 281474976710656 ∧ (x1 : Int) ≤ 9223372036854775807) ∧
 AllocK w54 (madeCells (#[.slice none 0 0]) ((x1 : Int).toNat * 1)) 84 fun b55 w56 =>
 (0 ≤ (x1 : Int) ∧ (x1 : Int) ≤ x1 ∧ ((24 : Nat) : Int) * x1 ≤ 281474976710656 ∧ (x1 : Int) ≤ 9223372036854775807) ∧
 AllocK w56 (madeCells (#[.slice none 0 0]) ((x1 : Int).toNat * 1)) 84 fun b57 w58 =>
 AllocK w58 (#[(.int .i64 x1), (.int .i64 x2), (.int .i64 x3), (.slice (some b5) ((x1 : Int).toNat) ((x1 : Int).toNat)), (.slice none 0 0), (.slice (some b53) ((x1 : Int).toNat) ((x1 : Int).toNat)), (.slice (some b51) ((x1 : Int).toNat) ((x1 : Int).toNat)), (.slice (some b55) ((x1 : Int).toNat) ((x1 : Int).toNat)), (.slice (some b57) ((x1 : Int).toNat) ((x1 : Int).toNat)), (.slice none 0 0), (.slice none 0 0), (.slice none 0 0)]) 50 fun b59 w60 =>
 K (some b59) 0 w60) ∧
 ((0 ≤ (x1 : Int) ∧ (x1 : Int) ≤ x1 ∧ ((24 : Nat) : Int) * x1 ≤ 281474976710656 ∧ (x1 : Int) ≤ 9223372036854775807) ∧
 AllocK w54 (madeCells (#[.slice none 0 0]) ((x1 : Int).toNat * 1)) 84 fun b61 w62 =>
 (0 ≤ (x1 : Int) ∧ (x1 : Int) ≤ x1 ∧ ((24 : Nat) : Int) * x1 ≤ 281474976710656 ∧ (x1 : Int) ≤ 9223372036854775807) ∧
 AllocK w62 (madeCells (#[.slice none 0 0]) ((x1 : Int).toNat * 1)) 84 fun b63 w64 =>
 AllocK w64 (#[(.int .i64 x1), (.int .i64 x2), (.int .i64 x3), (.slice (some b5) ((x1 : Int).toNat) ((x1 : Int).toNat)), (.slice none 0 0), (.slice (some b53) ((x1 : Int).toNat) ((x1 : Int).toNat)), (.slice (some b51) ((x1 : Int).toNat) ((x1 : Int).toNat)), (.slice (some b63) ((x1 : Int).toNat) ((x1 : Int).toNat)), (.slice (some b61) ((x1 : Int).toNat) ((x1 : Int).toNat)), (.slice none 0 0), (.slice none 0 0), (.slice none 0 0)]) 50 fun b65 w66 =>
 K (some b65) 0 w66)) ∧
 (((0 ≤ (x1 : Int) ∧ (x1 : Int) ≤ x1 ∧ ((24 : Nat) : Int) * x1 ≤ 281474976710656 ∧ (x1 : Int) ≤ 9223372036854775807) ∧
 AllocK w52 (madeCells (#[.slice none 0 0]) ((x1 : Int).toNat * 1)) 84 fun b67 w68 =>
 ((0 ≤ (x1 : Int) ∧ (x1 : Int) ≤ x1 ∧ ((24 : Nat) : Int) * x1 ≤ 281474976710656 ∧ (x1 : Int) ≤ 9223372036854775807) ∧
 AllocK w68 (madeCells (#[.slice none 0 0]) ((x1 : Int).toNat * 1)) 43 fun b69 w70 =>
 (0 ≤ (x1 : Int) ∧ (x1 : Int) ≤ x1 ∧ ((24 : Nat) : Int) * x1 ≤ 281474976710656 ∧ (x1 : Int) ≤ 9223372036854775807) ∧
 AllocK w70 (madeCells (#[.slice none 0 0]) ((x1 : Int).toNat * 1)) 84 fun b71 w72 =>
 AllocK w72 (#[(.int .i64 x1), (.int .i64 x2), (.int .i64 x3), (.slice (some b5) ((x1 : Int).toNat) ((x1 : Int).toNat)), (.slice none 0 0), (.slice (some b69) ((x1 : Int).toNat) ((x1 : Int).toNat)), (.slice (some b51) ((x1 : Int).toNat) ((x1 : Int).toNat)), (.slice (some b67) ((x1 : Int).toNat) ((x1 : Int).toNat)), (.slice (some b71) ((x1 : Int).toNat) ((x1 : Int).toNat)), (.slice none 0 0), (.slice none 0 0), (.slice none 0 0)]) 50 fun b73 w74 =>
 K (some b73) 0 w74) ∧
 ((0 ≤ (x1 : Int) ∧ (x1 : Int) ≤ x1 ∧ ((24 : Nat) : Int) * x1 ≤ 281474976710656 ∧ (x1 : Int) ≤ 9223372036854775807) ∧
 AllocK w68 (madeCells (#[.slice none 0 0]) ((x1 : Int).toNat * 1)) 84 fun b75 w76 =>
 (0 ≤ (x1 : Int) ∧ (x1 : Int) ≤ x1 ∧ ((24 : Nat) : Int) * x1 ≤ 281474976710656 ∧ (x1 : Int) ≤ 9223372036854775807) ∧
 AllocK w76 (madeCells (#[.slice none 0 0]) ((x1 : Int).toNat * 1)) 43 fun b77 w78 =>
 AllocK w78 (#[(.int .i64 x1), (.int .i64 x2), (.int .i64 x3), (.slice (some b5) ((x1 : Int).toNat) ((x1 : Int).toNat)), (.slice none 0 0), (.slice (some b77) ((x1 : Int).toNat) ((x1 : Int).toNat)), (.slice (some b51) ((x1 : Int).toNat) ((x1 : Int).toNat)), (.slice (some b67) ((x1 : Int).toNat) ((x1 : Int).toNat)), (.slice (some b75) ((x1 : Int).toNat) ((x1 : Int).toNat)), (.slice none 0 0), (.slice none 0 0), (.slice none 0 0)]) 50 fun b79 w80 =>
 K (some b79) 0 w80)) ∧
 ((0 ≤ (x1 : Int) ∧ (x1 : Int) ≤ x1 ∧ ((24 : Nat) : Int) * x1 ≤ 281474976710656 ∧ (x1 : Int) ≤ 9223372036854775807) ∧
 AllocK w52 (madeCells (#[.slice none 0 0]) ((x1 : Int).toNat * 1)) 84 fun b81 w82 =>
 ((0 ≤ (x1 : Int) ∧ (x1 : Int) ≤ x1 ∧ ((24 : Nat) : Int) * x1 ≤ 281474976710656 ∧ (x1 : Int) ≤ 9223372036854775807) ∧
 AllocK w82 (madeCells (#[.slice none 0 0]) ((x1 : Int).toNat * 1)) 43 fun b83 w84 =>
 (0 ≤ (x1 : Int) ∧ (x1 : Int) ≤ x1 ∧ ((24 : Nat) : Int) * x1 ≤ 281474976710656 ∧ (x1 : Int) ≤ 9223372036854775807) ∧
 AllocK w84 (madeCells (#[.slice none 0 0]) ((x1 : Int).toNat * 1)) 84 fun b85 w86 =>
 AllocK w86 (#[(.int .i64 x1), (.int .i64 x2), (.int .i64 x3), (.slice (some b5) ((x1 : Int).toNat) ((x1 : Int).toNat)), (.slice none 0 0), (.slice (some b83) ((x1 : Int).toNat) ((x1 : Int).toNat)), (.slice (some b51) ((x1 : Int).toNat) ((x1 : Int).toNat)), (.slice (some b85) ((x1 : Int).toNat) ((x1 : Int).toNat)), (.slice (some b81) ((x1 : Int).toNat) ((x1 : Int).toNat)), (.slice none 0 0), (.slice none 0 0), (.slice none 0 0)]) 50 fun b87 w88 =>
 K (some b87) 0 w88) ∧
 ((0 ≤ (x1 : Int) ∧ (x1 : Int) ≤ x1 ∧ ((24 : Nat) : Int) * x1 ≤ 281474976710656 ∧ (x1 : Int) ≤ 9223372036854775807) ∧
 AllocK w82 (madeCells (#[.slice none 0 0]) ((x1 : Int).toNat * 1)) 84 fun b89 w90 =>
 (0 ≤ (x1 : Int) ∧ (x1 : Int) ≤ x1 ∧ ((24 : Nat) : Int) * x1 ≤ 281474976710656 ∧ (x1 : Int) ≤ 9223372036854775807) ∧
 AllocK w90 (madeCells (#[.slice none 0 0]) ((x1 : Int).toNat * 1)) 43 fun b91 w92 =>
 AllocK w92 (#[(.int .i64 x1), (.int .i64 x2), (.int .i64 x3), (.slice (some b5) ((x1 : Int).toNat) ((x1 : Int).toNat)), (.slice none 0 0), (.slice (some b91) ((x1 : Int).toNat) ((x1 : Int).toNat)), (.slice (some b51) ((x1 : Int).toNat) ((x1 : Int).toNat)), (.slice (some b89) ((x1 : Int).toNat) ((x1 : Int).toNat)), (.slice (some b81) ((x1 : Int).toNat) ((x1 : Int).toNat)), (.slice none 0 0), (.slice none 0 0), (.slice none 0 0)]) 50 fun b93 w94 =>
 K (some b93) 0 w94)))) ∧
 (((0 ≤ (x1 : Int) ∧ (x1 : Int) ≤ x1 ∧ ((24 : Nat) : Int) * x1 ≤ 281474976710656 ∧ (x1 : Int) ≤ 9223372036854775807) ∧
 AllocK w6 (madeCells (#[.slice none 0 0]) ((x1 : Int).toNat * 1)) 84 fun b95 w96 =>
 ((0 ≤ (x1 : Int) ∧ (x1 : Int) ≤ x1 ∧ ((24 : Nat) : Int) * x1 ≤ 281474976710656 ∧ (x1 : Int) ≤ 9223372036854775807) ∧
 AllocK w96 (madeCells (#[.slice none 0 0]) ((x1 : Int).toNat * 1)) 43 fun b97 w98 =>
 ((0 ≤ (x1 : Int) ∧ (x1 : Int) ≤ x1 ∧ ((24 : Nat) : Int) * x1 ≤ 281474976710656 ∧ (x1 : Int) ≤ 9223372036854775807) ∧
 AllocK w98 (madeCells (#[.slice none 0 0]) ((x1 : Int).toNat * 1)) 84 fun b99 w100 =>
 (0 ≤ (x1 : Int) ∧ (x1 : Int) ≤ x1 ∧ ((24 : Nat) : Int) * x1 ≤ 281474976710656 ∧ (x1 : Int) ≤ 9223372036854775807) ∧
 AllocK w100 (madeCells (#[.slice none 0 0]) ((x1 : Int).toNat * 1)) 84 fun b101 w102 =>
 AllocK w102 (#[(.int .i64 x1), (.int .i64 x2), (.int .i64 x3), (.slice (some b5) ((x1 : Int).toNat) ((x1 : Int).toNat)), (.slice none 0 0), (.slice (some b97) ((x1 : Int).toNat) ((x1 : Int).toNat)), (.slice (some b99) ((x1 : Int).toNat) ((x1 : Int).toNat)), (.slice (some b95) ((x1 : Int).toNat) ((x1 : Int).toNat)), (.slice (some b101) ((x1 : Int).toNat) ((x1 : Int).toNat)), (.slice none 0 0), (.slice none 0 0), (.slice none 0 0)]) 50 fun b103 w104 =>
 K (some b103) 0 w104) ∧
 ((0 ≤ (x1 : Int) ∧ (x1 : Int) ≤ x1 ∧ ((24 : Nat) : Int) * x1 ≤ 281474976710656 ∧ (x1 : Int) ≤ 9223372036854775807) ∧
 AllocK w98 (madeCells (#[.slice none 0 0]) ((x1 : Int).toNat * 1)) 84 fun b105 w106 =>
 (0 ≤ (x1 : Int) ∧ (x1 : Int) ≤ x1 ∧ ((24 : Nat) : Int) * x1 ≤ 281474976710656 ∧ (x1 : Int) ≤ 9223372036854775807) ∧
 AllocK w106 (madeCells (#[.slice none 0 0]) ((x1 : Int).toNat * 1)) 84 fun b107 w108 =>
 AllocK w108 (#[(.int .i64 x1), (.int .i64 x2), (.int .i64 x3), (.slice (some b5) ((x1 : Int).toNat) ((x1 : Int).toNat)), (.slice none 0 0), (.slice (some b97) ((x1 : Int).toNat) ((x1 : Int).toNat)), (.slice (some b107) ((x1 : Int).toNat) ((x1 : Int).toNat)), (.slice (some b95) ((x1 : Int).toNat) ((x1 : Int).toNat)), (.slice (some b105) ((x1 : Int).toNat) ((x1 : Int).toNat)), (.slice none 0 0), (.slice none 0 0), (.slice none 0 0)]) 50 fun b109 w110 =>
 K (some b109) 0 w110)) ∧
 (((0 ≤ (x1 : Int) ∧ (x1 : Int) ≤ x1 ∧ ((24 : Nat) : Int) * x1 ≤ 281474976710656 ∧ (x1 : Int) ≤ 9223372036854775807) ∧
 AllocK w96 (madeCells (#[.slice none 0 0]) ((x1 : Int).toNat * 1)) 84 fun b111 w112 =>
 ((0 ≤ (x1 : Int) ∧ (x1 : Int) ≤ x1 ∧ ((24 : Nat) : Int) * x1 ≤ 281474976710656 ∧ (x1 : Int) ≤ 9223372036854775807) ∧
 AllocK w112 (madeCells (#[.slice none 0 0]) ((x1 : Int).toNat * 1)) 43 fun b113 w114 =>
 (0 ≤ (x1 : Int) ∧ (x1 : Int) ≤ x1 ∧ ((24 : Nat) : Int) * x1 ≤ 281474976710656 ∧ (x1 : Int) ≤ 9223372036854775807) ∧
 AllocK w114 (madeCells (#[.slice none 0 0]) ((x1 : Int).toNat * 1)) 84 fun b115 w116 =>
 AllocK w116 (#[(.int .i64 x1), (.int .i64 x2), (.int .i64 x3), (.slice (some b5) ((x1 : Int).toNat) ((x1 : Int).toNat)), (.slice none 0 0), (.slice (some b113) ((x1 : Int).toNat) ((x1 : Int).toNat)), (.slice (some b111) ((x1 : Int).toNat) ((x1 : Int).toNat)), (.slice (some b95) ((x1 : Int).toNat) ((x1 : Int).toNat)), (.slice (some b115) ((x1 : Int).toNat) ((x1 : Int).toNat)), (.slice none 0 0), (.slice none 0 0), (.slice none 0 0)]) 50 fun b117 w118 =>
 K (some b117) 0 w118) ∧
 ((0 ≤ (x1 : Int) ∧ (x1 : Int) ≤ x1 ∧ ((24 : Nat) : Int) * x1 ≤ 281474976710656 ∧ (x1 : Int) ≤ 9223372036854775807) ∧
 AllocK w112 (madeCells (#[.slice none 0 0]) ((x1 : Int).toNat * 1)) 84 fun b119 w120 =>
 (0 ≤ (x1 : Int) ∧ (x1 : Int) ≤ x1 ∧ ((24 : Nat) : Int) * x1 ≤ 281474976710656 ∧ (x1 : Int) ≤ 9223372036854775807) ∧
 AllocK w120 (madeCells (#[.slice none 0 0]) ((x1 : Int).toNat * 1)) 43 fun b121 w122 =>
 AllocK w122 (#[(.int .i64 x1), (.int .i64 x2), (.int .i64 x3), (.slice (some b5) ((x1 : Int).toNat) ((x1 : Int).toNat)), (.slice none 0 0), (.slice (some b121) ((x1 : Int).toNat) ((x1 : Int).toNat)), (.slice (some b111) ((x1 : Int).toNat) ((x1 : Int).toNat)), (.slice (some b95) ((x1 : Int).toNat) ((x1 : Int).toNat)), (.slice (some b119) ((x1 : Int).toNat) ((x1 : Int).toNat)), (.slice none 0 0), (.slice none 0 0), (.slice none 0 0)]) 50 fun b123 w124 =>
 K (some b123) 0 w124)) ∧
 ((0 ≤ (x1 : Int) ∧ (x1 : Int) ≤ x1 ∧ ((24 : Nat) : Int) * x1 ≤ 281474976710656 ∧ (x1 : Int) ≤ 9223372036854775807) ∧
 AllocK w96 (madeCells (#[.slice none 0 0]) ((x1 : Int).toNat * 1)) 84 fun b125 w126 =>
 ((0 ≤ (x1 : Int) ∧ (x1 : Int) ≤ x1 ∧ ((24 : Nat) : Int) * x1 ≤ 281474976710656 ∧ (x1 : Int) ≤ 9223372036854775807) ∧
 AllocK w126 (madeCells (#[.slice none 0 0]) ((x1 : Int).toNat * 1)) 43 fun b127 w128 =>
 (0 ≤ (x1 : Int) ∧ (x1 : Int) ≤ x1 ∧ ((24 : Nat) : Int) * x1 ≤ 281474976710656 ∧ (x1 : Int) ≤ 9223372036854775807) ∧
 AllocK w128 (madeCells (#[.slice none 0 0]) ((x1 : Int).toNat * 1)) 84 fun b129 w130 =>
 AllocK w130 (#[(.int .i64 x1), (.int .i64 x2), (.int .i64 x3), (.slice (some b5) ((x1 : Int).toNat) ((x1 : Int).toNat)), (.slice none 0 0), (.slice (some b127) ((x1 : Int).toNat) ((x1 : Int).toNat)), (.slice (some b129) ((x1 : Int).toNat) ((x1 : Int).toNat)), (.slice (some b95) ((x1 : Int).toNat) ((x1 : Int).toNat)), (.slice (some b125) ((x1 : Int).toNat) ((x1 : Int).toNat)), (.slice none 0 0), (.slice none 0 0), (.slice none 0 0)]) 50 fun b131 w132 =>
 K (some b131) 0 w132) ∧
 ((0 ≤ (x1 : Int) ∧ (x1 : Int) ≤ x1 ∧ ((24 : Nat) : Int) * x1 ≤ 281474976710656 ∧ (x1 : Int) ≤ 9223372036854775807) ∧
 AllocK w126 (madeCells (#[.slice none 0 0]) ((x1 : Int).toNat * 1)) 84 fun b133 w134 =>
 (0 ≤ (x1 : Int) ∧ (x1 : Int) ≤ x1 ∧ ((24 : Nat) : Int) * x1 ≤ 281474976710656 ∧ (x1 : Int) ≤ 9223372036854775807) ∧
 AllocK w134 (madeCells (#[.slice none 0 0]) ((x1 : Int).toNat * 1)) 43 fun b135 w136 =>
 AllocK w136 (#[(.int .i64 x1), (.int .i64 x2), (.int .i64 x3), (.slice (some b5) ((x1 : Int).toNat) ((x1 : Int).toNat)), (.slice none 0 0), (.slice (some b135) ((x1 : Int).toNat) ((x1 : Int).toNat)), (.slice (some b133) ((x1 : Int).toNat) ((x1 : Int).toNat)), (.slice (some b95) ((x1 : Int).toNat) ((x1 : Int).toNat)), (.slice (some b125) ((x1 : Int).toNat) ((x1 : Int).toNat)), (.slice none 0 0), (.slice none 0 0), (.slice none 0 0)]) 50 fun b137 w138 =>
 K (some b137) 0 w138)))) ∧
 ((0 ≤ (x1 : Int) ∧ (x1 : Int) ≤ x1 ∧ ((24 : Nat) : Int) * x1 ≤ 281474976710656 ∧ (x1 : Int) ≤ 9223372036854775807) ∧
 AllocK w6 (madeCells (#[.slice none 0 0]) ((x1 : Int).toNat * 1)) 84 fun b139 w140 =>
 ((0 ≤ (x1 : Int) ∧ (x1 : Int) ≤ x1 ∧ ((24 : Nat) : Int) * x1 ≤ 281474976710656 ∧ (x1 : Int) ≤ 9223372036854775807) ∧
 AllocK w140 (madeCells (#[.slice none 0 0]) ((x1 : Int).toNat * 1)) 43 fun b141 w142 =>
 ((0 ≤ (x1 : Int) ∧ (x1 : Int) ≤ x1 ∧ ((24 : Nat) : Int) * x1 ≤ 281474976710656 ∧ (x1 : Int) ≤ 9223372036854775807) ∧
 AllocK w142 (madeCells (#[.slice none 0 0]) ((x1 : Int).toNat * 1)) 84 fun b143 w144 =>
 (0 ≤ (x1 : Int) ∧ (x1 : Int) ≤ x1 ∧ ((24 : Nat) : Int) * x1 ≤ 281474976710656 ∧ (x1 : Int) ≤ 9223372036854775807) ∧
 AllocK w144 (madeCells (#[.slice none 0 0]) ((x1 : Int).toNat * 1)) 84 fun b145 w146 =>
 AllocK w146 (#[(.int .i64 x1), (.int .i64 x2), (.int .i64 x3), (.slice (some b5) ((x1 : Int).toNat) ((x1 : Int).toNat)), (.slice none 0 0), (.slice (some b141) ((x1 : Int).toNat) ((x1 : Int).toNat)), (.slice (some b143) ((x1 : Int).toNat) ((x1 : Int).toNat)), (.slice (some b145) ((x1 : Int).toNat) ((x1 : Int).toNat)), (.slice (some b139) ((x1 : Int).toNat) ((x1 : Int).toNat)), (.slice none 0 0), (.slice none 0 0), (.slice none 0 0)]) 50 fun b147 w148 =>
 K (some b147) 0 w148) ∧
 ((0 ≤ (x1 : Int) ∧ (x1 : Int) ≤ x1 ∧ ((24 : Nat) : Int) * x1 ≤ 281474976710656 ∧ (x1 : Int) ≤ 9223372036854775807) ∧
 AllocK w142 (madeCells (#[.slice none 0 0]) ((x1 : Int).toNat * 1)) 84 fun b149 w150 =>
 (0 ≤ (x1 : Int) ∧ (x1 : Int) ≤ x1 ∧ ((24 : Nat) : Int) * x1 ≤ 281474976710656 ∧ (x1 : Int) ≤ 9223372036854775807) ∧
 AllocK w150 (madeCells (#[.slice none 0 0]) ((x1 : Int).toNat * 1)) 84 fun b151 w152 =>
 AllocK w152 (#[(.int .i64 x1), (.int .i64 x2), (.int .i64 x3), (.slice (some b5) ((x1 : Int).toNat) ((x1 : Int).toNat)), (.slice none 0 0), (.slice (some b141) ((x1 : Int).toNat) ((x1 : Int).toNat)), (.slice (some b151) ((x1 : Int).toNat) ((x1 : Int).toNat)), (.slice (some b149) ((x1 : Int).toNat) ((x1 : Int).toNat)), (.slice (some b139) ((x1 : Int).toNat) ((x1 : Int).toNat)), (.slice none 0 0), (.slice none 0 0), (.slice none 0 0)]) 50 fun b153 w154 =>
 K (some b153) 0 w154)) ∧
 (((0 ≤ (x1 : Int) ∧ (x1 : Int) ≤ x1 ∧ ((24 : Nat) : Int) * x1 ≤ 281474976710656 ∧ (x1 : Int) ≤ 9223372036854775807) ∧
 AllocK w140 (madeCells (#[.slice none 0 0]) ((x1 : Int).toNat * 1)) 84 fun b155 w156 =>
 ((0 ≤ (x1 : Int) ∧ (x1 : Int) ≤ x1 ∧ ((24 : Nat) : Int) * x1 ≤ 281474976710656 ∧ (x1 : Int) ≤ 9223372036854775807) ∧
 AllocK w156 (madeCells (#[.slice none 0 0]) ((x1 : Int).toNat * 1)) 43 fun b157 w158 =>
 (0 ≤ (x1 : Int) ∧ (x1 : Int) ≤ x1 ∧ ((24 : Nat) : Int) * x1 ≤ 281474976710656 ∧ (x1 : Int) ≤ 9223372036854775807) ∧
 AllocK w158 (madeCells (#[.slice none 0 0]) ((x1 : Int).toNat * 1)) 84 fun b159 w160 =>
 AllocK w160 (#[(.int .i64 x1), (.int .i64 x2), (.int .i64 x3), (.slice (some b5) ((x1 : Int).toNat) ((x1 : Int).toNat)), (.slice none 0 0), (.slice (some b157) ((x1 : Int).toNat) ((x1 : Int).toNat)), (.slice (some b155) ((x1 : Int).toNat) ((x1 : Int).toNat)), (.slice (some b159) ((x1 : Int).toNat) ((x1 : Int).toNat)), (.slice (some b139) ((x1 : Int).toNat) ((x1 : Int).toNat)), (.slice none 0 0), (.slice none 0 0), (.slice none 0 0)]) 50 fun b161 w162 =>
 K (some b161) 0 w162) ∧
 ((0 ≤ (x1 : Int) ∧ (x1 : Int) ≤ x1 ∧ ((24 : Nat) : Int) * x1 ≤ 281474976710656 ∧ (x1 : Int) ≤ 9223372036854775807) ∧
 AllocK w156 (madeCells (#[.slice none 0 0]) ((x1 : Int).toNat * 1)) 84 fun b163 w164 =>
 (0 ≤ (x1 : Int) ∧ (x1 : Int) ≤ x1 ∧ ((24 : Nat) : Int) * x1 ≤ 281474976710656 ∧ (x1 : Int) ≤ 9223372036854775807) ∧
 AllocK w164 (madeCells (#[.slice none 0 0]) ((x1 : Int).toNat * 1)) 43 fun b165 w166 =>
 AllocK w166 (#[(.int .i64 x1), (.int .i64 x2), (.int .i64 x3), (.slice (some b5) ((x1 : Int).toNat) ((x1 : Int).toNat)), (.slice none 0 0), (.slice (some b165) ((x1 : Int).toNat) ((x1 : Int).toNat)), (.slice (some b155) ((x1 : Int).toNat) ((x1 : Int).toNat)), (.slice (some b163) ((x1 : Int).toNat) ((x1 : Int).toNat)), (.slice (some b139) ((x1 : Int).toNat) ((x1 : Int).toNat)), (.slice none 0 0), (.slice none 0 0), (.slice none 0 0)]) 50 fun b167 w168 =>
 K (some b167) 0 w168)) ∧
 ((0 ≤ (x1 : Int) ∧ (x1 : Int) ≤ x1 ∧ ((24 : Nat) : Int) * x1 ≤ 281474976710656 ∧ (x1 : Int) ≤ 9223372036854775807) ∧
 AllocK w140 (madeCells (#[.slice none 0 0]) ((x1 : Int).toNat * 1)) 84 fun b169 w170 =>
 ((0 ≤ (x1 : Int) ∧ (x1 : Int) ≤ x1 ∧ ((24 : Nat) : Int) * x1 ≤ 281474976710656 ∧ (x1 : Int) ≤ 9223372036854775807) ∧
 AllocK w170 (madeCells (#[.slice none 0 0]) ((x1 : Int).toNat * 1)) 43 fun b171 w172 =>
 (0 ≤ (x1 : Int) ∧ (x1 : Int) ≤ x1 ∧ ((24 : Nat) : Int) * x1 ≤ 281474976710656 ∧ (x1 : Int) ≤ 9223372036854775807) ∧
 AllocK w172 (madeCells (#[.slice none 0 0]) ((x1 : Int).toNat * 1)) 84 fun b173 w174 =>
 AllocK w174 (#[(.int .i64 x1), (.int .i64 x2), (.int .i64 x3), (.slice (some b5) ((x1 : Int).toNat) ((x1 : Int).toNat)), (.slice none 0 0), (.slice (some b171) ((x1 : Int).toNat) ((x1 : Int).toNat)), (.slice (some b173) ((x1 : Int).toNat) ((x1 : Int).toNat)), (.slice (some b169) ((x1 : Int).toNat) ((x1 : Int).toNat)), (.slice (some b139) ((x1 : Int).toNat) ((x1 : Int).toNat)), (.slice none 0 0), (.slice none 0 0), (.slice none 0 0)]) 50 fun b175 w176 =>
 K (some b175) 0 w176) ∧
 ((0 ≤ (x1 : Int) ∧ (x1 : Int) ≤ x1 ∧ ((24 : Nat) : Int) * x1 ≤ 281474976710656 ∧ (x1 : Int) ≤ 9223372036854775807) ∧
 AllocK w170 (madeCells (#[.slice none 0 0]) ((x1 : Int).toNat * 1)) 84 fun b177 w178 =>
 (0 ≤ (x1 : Int) ∧ (x1 : Int) ≤ x1 ∧ ((24 : Nat) : Int) * x1 ≤ 281474976710656 ∧ (x1 : Int) ≤ 9223372036854775807) ∧
 AllocK w178 (madeCells (#[.slice none 0 0]) ((x1 : Int).toNat * 1)) 43 fun b179 w180 =>
 AllocK w180 (#[(.int .i64 x1), (.int .i64 x2), (.int .i64 x3), (.slice (some b5) ((x1 : Int).toNat) ((x1 : Int).toNat)), (.slice none 0 0), (.slice (some b179) ((x1 : Int).toNat) ((x1 : Int).toNat)), (.slice (some b177) ((x1 : Int).toNat) ((x1 : Int).toNat)), (.slice (some b169) ((x1 : Int).toNat) ((x1 : Int).toNat)), (.slice (some b139) ((x1 : Int).toNat) ((x1 : Int).toNat)), (.slice none 0 0), (.slice none 0 0), (.slice none 0 0)]) 50 fun b181 w182 =>
 K (some b181) 0 w182))))))) ∧
 (((0 ≤ (x1 : Int) ∧ (x1 : Int) ≤ x1 ∧ ((24 : Nat) : Int) * x1 ≤ 281474976710656 ∧ (x1 : Int) ≤ 9223372036854775807) ∧
 AllocK w4 (madeCells (#[.slice none 0 0]) ((x1 : Int).toNat * 1)) 43 fun b183 w184 =>
 ((0 ≤ (x1 : Int) ∧ (x1 : Int) ≤ x1 ∧ ((8 : Nat) : Int) * x1 ≤ 281474976710656 ∧ (x1 : Int) ≤ 9223372036854775807) ∧
 AllocK w184 (madeCells (#[.int .i64 0]) ((x1 : Int).toNat * 1)) 3 fun b185 w186 =>
 ((0 ≤ (x1 : Int) ∧ (x1 : Int) ≤ x1 ∧ ((24 : Nat) : Int) * x1 ≤ 281474976710656 ∧ (x1 : Int) ≤ 9223372036854775807) ∧
 AllocK w186 (madeCells (#[.slice none 0 0]) ((x1 : Int).toNat * 1)) 84 fun b187 w188 =>
 ((0 ≤ (x1 : Int) ∧ (x1 : Int) ≤ x1 ∧ ((24 : Nat) : Int) * x1 ≤ 281474976710656 ∧ (x1 : Int) ≤ 9223372036854775807) ∧
 AllocK w188 (madeCells (#[.slice none 0 0]) ((x1 : Int).toNat * 1)) 84 fun b189 w190 =>
 (0 ≤ (x1 : Int) ∧ (x1 : Int) ≤ x1 ∧ ((24 : Nat) : Int) * x1 ≤ 281474976710656 ∧ (x1 : Int) ≤ 9223372036854775807) ∧
 AllocK w190 (madeCells (#[.slice none 0 0]) ((x1 : Int).toNat * 1)) 84 fun b191 w192 =>
 AllocK w192 (#[(.int .i64 x1), (.int .i64 x2), (.int .i64 x3), (.slice (some b185) ((x1 : Int).toNat) ((x1 : Int).toNat)), (.slice none 0 0), (.slice (some b183) ((x1 : Int).toNat) ((x1 : Int).toNat)), (.slice (some b187) ((x1 : Int).toNat) ((x1 : Int).toNat)), (.slice (some b189) ((x1 : Int).toNat) ((x1 : Int).toNat)), (.slice (some b191) ((x1 : Int).toNat) ((x1 : Int).toNat)), (.slice none 0 0), (.slice none 0 0), (.slice none 0 0)]) 50 fun b193 w194 =>
 K (some b193) 0 w194) ∧
 ((0 ≤ (x1 : Int) ∧ (x1 : Int) ≤ x1 ∧ ((24 : Nat) : Int) * x1 ≤ 281474976710656 ∧ (x1 : Int) ≤ 9223372036854775807) ∧
 AllocK w188 (madeCells (#[.slice none 0 0]) ((x1 : Int).toNat * 1)) 84 fun b195 w196 =>
 (0 ≤ (x1 : Int) ∧ (x1 : Int) ≤ x1 ∧ ((24 : Nat) : Int) * x1 ≤ 281474976710656 ∧ (x1 : Int) ≤ 9223372036854775807) ∧
 AllocK w196 (madeCells (#[.slice none 0 0]) ((x1 : Int).toNat * 1)) 84 fun b197 w198 =>
 AllocK w198 (#[(.int .i64 x1), (.int .i64 x2), (.int .i64 x3), (.slice (some b185) ((x1 : Int).toNat) ((x1 : Int).toNat)), (.slice none 0 0), (.slice (some b183) ((x1 : Int).toNat) ((x1 : Int).toNat)), (.slice (some b187) ((x1 : Int).toNat) ((x1 : Int).toNat)), (.slice (some b197) ((x1 : Int).toNat) ((x1 : Int).toNat)), (.slice (some b195) ((x1 : Int).toNat) ((x1 : Int).toNat)), (.slice none 0 0), (.slice none 0 0), (.slice none 0 0)]) 50 fun b199 w200 =>
 K (some b199) 0 w200)) ∧
 (((0 ≤ (x1 : Int) ∧ (x1 : Int) ≤ x1 ∧ ((24 : Nat) : Int) * x1 ≤ 281474976710656 ∧ (x1 : Int) ≤ 9223372036854775807) ∧
 AllocK w186 (madeCells (#[.slice none 0 0]) ((x1 : Int).toNat * 1)) 84 fun b201 w202 =>
 ((0 ≤ (x1 : Int) ∧ (x1 : Int) ≤ x1 ∧ ((24 : Nat) : Int) * x1 ≤ 281474976710656 ∧ (x1 : Int) ≤ 9223372036854775807) ∧
 AllocK w202 (madeCells (#[.slice none 0 0]) ((x1 : Int).toNat * 1)) 84 fun b203 w204 =>
 (0 ≤ (x1 : Int) ∧ (x1 : Int) ≤ x1 ∧ ((24 : Nat) : Int) * x1 ≤ 281474976710656 ∧ (x1 : Int) ≤ 9223372036854775807) ∧
 AllocK w204 (madeCells (#[.slice none 0 0]) ((x1 : Int).toNat * 1)) 84 fun b205 w206 =>
 AllocK w206 (#[(.int .i64 x1), (.int .i64 x2), (.int .i64 x3), (.slice (some b185) ((x1 : Int).toNat) ((x1 : Int).toNat)), (.slice none 0 0), (.slice (some b183) ((x1 : Int).toNat) ((x1 : Int).toNat)), (.slice (some b203) ((x1 : Int).toNat) ((x1 : Int).toNat)), (.slice (some b201) ((x1 : Int).toNat) ((x1 : Int).toNat)), (.slice (some b205) ((x1 : Int).toNat) ((x1 : Int).toNat)), (.slice none 0 0), (.slice none 0 0), (.slice none 0 0)]) 50 fun b207 w208 =>
 K (some b207) 0 w208) ∧
 ((0 ≤ (x1 : Int) ∧ (x1 : Int) ≤ x1 ∧ ((24 : Nat) : Int) * x1 ≤ 281474976710656 ∧ (x1 : Int) ≤ 9223372036854775807) ∧
 AllocK w202 (madeCells (#[.slice none 0 0]) ((x1 : Int).toNat * 1)) 84 fun b209 w210 =>
 (0 ≤ (x1 : Int) ∧ (x1 : Int) ≤ x1 ∧ ((24 : Nat) : Int) * x1 ≤ 281474976710656 ∧ (x1 : Int) ≤ 9223372036854775807) ∧
 AllocK w210 (madeCells (#[.slice none 0 0]) ((x1 : Int).toNat * 1)) 84 fun b211 w212 =>
 AllocK w212 (#[(.int .i64 x1), (.int .i64 x2), (.int .i64 x3), (.slice (some b185) ((x1 : Int).toNat) ((x1 : Int).toNat)), (.slice none 0 0), (.slice (some b183) ((x1 : Int).toNat) ((x1 : Int).toNat)), (.slice (some b211) ((x1 : Int).toNat) ((x1 : Int).toNat)), (.slice (some b201) ((x1 : Int).toNat) ((x1 : Int).toNat)), (.slice (some b209) ((x1 : Int).toNat) ((x1 : Int).toNat)), (.slice none 0 0), (.slice none 0 0), (.slice none 0 0)]) 50 fun b213 w214 =>
 K (some b213) 0 w214)) ∧
 ((0 ≤ (x1 : Int) ∧ (x1 : Int) ≤ x1 ∧ ((24 : Nat) : Int) * x1 ≤ 281474976710656 ∧ (x1 : Int) ≤ 9223372036854775807) ∧
 AllocK w186 (madeCells (#[.slice none 0 0]) ((x1 : Int).toNat * 1)) 84 fun b215 w216 =>
 ((0 ≤ (x1 : Int) ∧ (x1 : Int) ≤ x1 ∧ ((24 : Nat) : Int) * x1 ≤ 281474976710656 ∧ (x1 : Int) ≤ 9223372036854775807) ∧
 AllocK w216 (madeCells (#[.slice none 0 0]) ((x1 : Int).toNat * 1)) 84 fun b217 w218 =>
 (0 ≤ (x1 : Int) ∧ (x1 : Int) ≤ x1 ∧ ((24 : Nat) : Int) * x1 ≤ 281474976710656 ∧ (x1 : Int) ≤ 9223372036854775807) ∧
 AllocK w218 (madeCells (#[.slice none 0 0]) ((x1 : Int).toNat * 1)) 84 fun b219 w220 =>
 AllocK w220 (#[(.int .i64 x1), (.int .i64 x2), (.int .i64 x3), (.slice (some b185) ((x1 : Int).toNat) ((x1 : Int).toNat)), (.slice none 0 0), (.slice (some b183) ((x1 : Int).toNat) ((x1 : Int).toNat)), (.slice (some b217) ((x1 : Int).toNat) ((x1 : Int).toNat)), (.slice (some b219) ((x1 : Int).toNat) ((x1 : Int).toNat)), (.slice (some b215) ((x1 : Int).toNat) ((x1 : Int).toNat)), (.slice none 0 0), (.slice none 0 0), (.slice none 0 0)]) 50 fun b221 w222 =>
 K (some b221) 0 w222) ∧
 ((0 ≤ (x1 : Int) ∧ (x1 : Int) ≤ x1 ∧ ((24 : Nat) : Int) * x1 ≤ 281474976710656 ∧ (x1 : Int) ≤ 9223372036854775807) ∧
 AllocK w216 (madeCells (#[.slice none 0 0]) ((x1 : Int).toNat * 1)) 84 fun b223 w224 =>
 (0 ≤ (x1 : Int) ∧ (x1 : Int) ≤ x1 ∧ ((24 : Nat) : Int) * x1 ≤ 281474976710656 ∧ (x1 : Int) ≤ 9223372036854775807) ∧
 AllocK w224 (madeCells (#[.slice none 0 0]) ((x1 : Int).toNat * 1)) 84 fun b225 w226 =>
 AllocK w226 (#[(.int .i64 x1), (.int .i64 x2), (.int .i64 x3), (.slice (some b185) ((x1 : Int).toNat) ((x1 : Int).toNat)), (.slice none 0 0), (.slice (some b183) ((x1 : Int).toNat) ((x1 : Int).toNat)), (.slice (some b225) ((x1 : Int).toNat) ((x1 : Int).toNat)), (.slice (some b223) ((x1 : Int).toNat) ((x1 : Int).toNat)), (.slice (some b215) ((x1 : Int).toNat) ((x1 : Int).toNat)), (.slice none 0 0), (.slice none 0 0), (.slice none 0 0)]) 50 fun b227 w228 =>
 K (some b227) 0 w228)))) ∧
 (((0 ≤ (x1 : Int) ∧ (x1 : Int) ≤ x1 ∧ ((24 : Nat) : Int) * x1 ≤ 281474976710656 ∧ (x1 : Int) ≤ 9223372036854775807) ∧
 AllocK w184 (madeCells (#[.slice none 0 0]) ((x1 : Int).toNat * 1)) 84 fun b229 w230 =>
 ((0 ≤ (x1 : Int) ∧ (x1 : Int) ≤ x1 ∧ ((8 : Nat) : Int) * x1 ≤ 281474976710656 ∧ (x1 : Int) ≤ 9223372036854775807) ∧
 AllocK w230 (madeCells (#[.int .i64 0]) ((x1 : Int).toNat * 1)) 3 fun b231 w232 =>
 ((0 ≤ (x1 : Int) ∧ (x1 : Int) ≤ x1 ∧ ((24 : Nat) : Int) * x1 ≤ 281474976710656 ∧ (x1 : Int) ≤ 9223372036854775807) ∧
 AllocK w232 (madeCells (#[.slice none 0 0]) ((x1 : Int).toNat * 1)) 84 fun b233 w234 =>
 (0 ≤ (x1 : Int) ∧ (x1 : Int) ≤ x1 ∧ ((24 : Nat) : Int) * x1 ≤ 281474976710656 ∧ (x1 : Int) ≤ 9223372036854775807) ∧
 AllocK w234 (madeCells (#[.slice none 0 0]) ((x1 : Int).toNat * 1)) 84 fun b235 w236 =>
 AllocK w236 (#[(.int .i64 x1), (.int .i64 x2), (.int .i64 x3), (.slice (some b231) ((x1 : Int).toNat) ((x1 : Int).toNat)), (.slice none 0 0), (.slice (some b183) ((x1 : Int).toNat) ((x1 : Int).toNat)), (.slice (some b229) ((x1 : Int).toNat) ((x1 : Int).toNat)), (.slice (some b233) ((x1 : Int).toNat) ((x1 : Int).toNat)), (.slice (some b235) ((x1 : Int).toNat) ((x1 : Int).toNat)), (.slice none 0 0), (.slice none 0 0), (.slice none 0 0)]) 50 fun b237 w238 =>
 K (some b237) 0 w238) ∧
 ((0 ≤ (x1 : Int) ∧ (x1 : Int) ≤ x1 ∧ ((24 : Nat) : Int) * x1 ≤ 281474976710656 ∧ (x1 : Int) ≤ 9223372036854775807) ∧
 AllocK w232 (madeCells (#[.slice none 0 0]) ((x1 : Int).toNat * 1)) 84 fun b239 w240 =>
 (0 ≤ (x1 : Int) ∧ (x1 : Int) ≤ x1 ∧ ((24 : Nat) : Int) * x1 ≤ 281474976710656 ∧ (x1 : Int) ≤ 9223372036854775807) ∧
 AllocK w240 (madeCells (#[.slice none 0 0]) ((x1 : Int).toNat * 1)) 84 fun b241 w242 =>
 AllocK w242 (#[(.int .i64 x1), (.int .i64 x2), (.int .i64 x3), (.slice (some b231) ((x1 : Int).toNat) ((x1 : Int).toNat)), (.slice none 0 0), (.slice (some b183) ((x1 : Int).toNat) ((x1 : Int).toNat)), (.slice (some b229) ((x1 : Int).toNat) ((x1 : Int).toNat)), (.slice (some b241) ((x1 : Int).toNat) ((x1 : Int).toNat)), (.slice (some b239) ((x1 : Int).toNat) ((x1 : Int).toNat)), (.slice none 0 0), (.slice none 0 0), (.slice none 0 0)]) 50 fun b243 w244 =>
 K (some b243) 0 w244)) ∧
 (((0 ≤ (x1 : Int) ∧ (x1 : Int) ≤ x1 ∧ ((24 : Nat) : Int) * x1 ≤ 281474976710656 ∧ (x1 : Int) ≤ 9223372036854775807) ∧
 AllocK w230 (madeCells (#[.slice none 0 0]) ((x1 : Int).toNat * 1)) 84 fun b245 w246 =>
 ((0 ≤ (x1 : Int) ∧ (x1 : Int) ≤ x1 ∧ ((8 : Nat) : Int) * x1 ≤ 281474976710656 ∧ (x1 : Int) ≤ 9223372036854775807) ∧
 AllocK w246 (madeCells (#[.int .i64 0]) ((x1 : Int).toNat * 1)) 3 fun b247 w248 =>
 (0 ≤ (x1 : Int) ∧ (x1 : Int) ≤ x1 ∧ ((24 : Nat) : Int) * x1 ≤ 281474976710656 ∧ (x1 : Int) ≤ 9223372036854775807) ∧
 AllocK w248 (madeCells (#[.slice none 0 0]) ((x1 : Int).toNat * 1)) 84 fun b249 w250 =>
 AllocK w250 (#[(.int .i64 x1), (.int .i64 x2), (.int .i64 x3), (.slice (some b247) ((x1 : Int).toNat) ((x1 : Int).toNat)), (.slice none 0 0), (.slice (some b183) ((x1 : Int).toNat) ((x1 : Int).toNat)), (.slice (some b229) ((x1 : Int).toNat) ((x1 : Int).toNat)), (.slice (some b245) ((x1 : Int).toNat) ((x1 : Int).toNat)), (.slice (some b249) ((x1 : Int).toNat) ((x1 : Int).toNat)), (.slice none 0 0), (.slice none 0 0), (.slice none 0 0)]) 50 fun b251 w252 =>
 K (some b251) 0 w252) ∧
 ((0 ≤ (x1 : Int) ∧ (x1 : Int) ≤ x1 ∧ ((24 : Nat) : Int) * x1 ≤ 281474976710656 ∧ (x1 : Int) ≤ 9223372036854775807) ∧
 AllocK w246 (madeCells (#[.slice none 0 0]) ((x1 : Int).toNat * 1)) 84 fun b253 w254 =>
 (0 ≤ (x1 : Int) ∧ (x1 : Int) ≤ x1 ∧ ((8 : Nat) : Int) * x1 ≤ 281474976710656 ∧ (x1 : Int) ≤ 9223372036854775807) ∧
 AllocK w254 (madeCells (#[.int .i64 0]) ((x1 : Int).toNat * 1)) 3 fun b255 w256 =>
 AllocK w256 (#[(.int .i64 x1), (.int .i64 x2), (.int .i64 x3), (.slice (some b255) ((x1 : Int).toNat) ((x1 : Int).toNat)), (.slice none 0 0), (.slice (some b183) ((x1 : Int).toNat) ((x1 : Int).toNat)), (.slice (some b229) ((x1 : Int).toNat) ((x1 : Int).toNat)), (.slice (some b245) ((x1 : Int).toNat) ((x1 : Int).toNat)), (.slice (some b253) ((x1 : Int).toNat) ((x1 : Int).toNat)), (.slice none 0 0), (.slice none 0 0), (.slice none 0 0)]) 50 fun b257 w258 =>
 K (some b257) 0 w258)) ∧
 ((0 ≤ (x1 : Int) ∧ (x1 : Int) ≤ x1 ∧ ((24 : Nat) : Int) * x1 ≤ 281474976710656 ∧ (x1 : Int) ≤ 9223372036854775807) ∧
 AllocK w230 (madeCells (#[.slice none 0 0]) ((x1 : Int).toNat * 1)) 84 fun b259 w260 =>
 ((0 ≤ (x1 : Int) ∧ (x1 : Int) ≤ x1 ∧ ((8 : Nat) : Int) * x1 ≤ 281474976710656 ∧ (x1 : Int) ≤ 9223372036854775807) ∧
 AllocK w260 (madeCells (#[.int .i64 0]) ((x1 : Int).toNat * 1)) 3 fun b261 w262 =>
 (0 ≤ (x1 : Int) ∧ (x1 : Int) ≤ x1 ∧ ((24 : Nat) : Int) * x1 ≤ 281474976710656 ∧ (x1 : Int) ≤ 9223372036854775807) ∧
 AllocK w262 (madeCells (#[.slice none 0 0]) ((x1 : Int).toNat * 1)) 84 fun b263 w264 =>
 AllocK w264 (#[(.int .i64 x1), (.int .i64 x2), (.int .i64 x3), (.slice (some b261) ((x1 : Int).toNat) ((x1 : Int).toNat)), (.slice none 0 0), (.slice (some b183) ((x1 : Int).toNat) ((x1 : Int).toNat)), (.slice (some b229) ((x1 : Int).toNat) ((x1 : Int).toNat)), (.slice (some b263) ((x1 : Int).toNat) ((x1 : Int).toNat)), (.slice (some b259) ((x1 : Int).toNat) ((x1 : Int).toNat)), (.slice none 0 0), (.slice none 0 0), (.slice none 0 0)]) 50 fun b265 w266 =>
 K (some b265) 0 w266) ∧
 ((0 ≤ (x1 : Int) ∧ (x1 : Int) ≤ x1 ∧ ((24 : Nat) : Int) * x1 ≤ 281474976710656 ∧ (x1 : Int) ≤ 9223372036854775807) ∧
 AllocK w260 (madeCells (#[.slice none 0 0]) ((x1 : Int).toNat * 1)) 84 fun b267 w268 =>
 (0 ≤ (x1 : Int) ∧ (x1 : Int) ≤ x1 ∧ ((8 : Nat) : Int) * x1 ≤ 281474976710656 ∧ (x1 : Int) ≤ 9223372036854775807) ∧
 AllocK w268 (madeCells (#[.int .i64 0]) ((x1 : Int).toNat * 1)) 3 fun b269 w270 =>
 AllocK w270 (#[(.int .i64 x1), (.int .i64 x2), (.int .i64 x3), (.slice (some b269) ((x1 : Int).toNat) ((x1 : Int).toNat)), (.slice none 0 0), (.slice (some b183) ((x1 : Int).toNat) ((x1 : Int).toNat)), (.slice (some b229) ((x1 : Int).toNat) ((x1 : Int).toNat)), (.slice (some b267) ((x1 : Int).toNat) ((x1 : Int).toNat)), (.slice (some b259) ((x1 : Int).toNat) ((x1 : Int).toNat)), (.slice none 0 0), (.slice none 0 0), (.slice none 0 0)]) 50 fun b271 w272 =>
 K (some b271) 0 w272)))) ∧
 (((0 ≤ (x1 : Int) ∧ (x1 : Int) ≤ x1 ∧ ((24 : Nat) : Int) * x1 ≤ 281474976710656 ∧ (x1 : Int) ≤ 9223372036854775807) ∧
 AllocK w184 (madeCells (#[.slice none 0 0]) ((x1 : Int).toNat * 1)) 84 fun b273 w274 =>
 ((0 ≤ (x1 : Int) ∧ (x1 : Int) ≤ x1 ∧ ((8 : Nat) : Int) * x1 ≤ 281474976710656 ∧ (x1 : Int) ≤ 9223372036854775807) ∧
 AllocK w274 (madeCells (#[.int .i64 0]) ((x1 : Int).toNat * 1)) 3 fun b275 w276 =>
 ((0 ≤ (x1 : Int) ∧ (x1 : Int) ≤ x1 ∧ ((24 : Nat) : Int) * x1 ≤ 281474976710656 ∧ (x1 : Int) ≤ 9223372036854775807) ∧
 AllocK w276 (madeCells (#[.slice none 0 0]) ((x1 : Int).toNat * 1)) 84 fun b277 w278 =>
 (0 ≤ (x1 : Int) ∧ (x1 : Int) ≤ x1 ∧ ((24 : Nat) : Int) * x1 ≤ 281474976710656 ∧ (x1 : Int) ≤ 9223372036854775807) ∧
 AllocK w278 (madeCells (#[.slice none 0 0]) ((x1 : Int).toNat * 1)) 84 fun b279 w280 =>
 AllocK w280 (#[(.int .i64 x1), (.int .i64 x2), (.int .i64 x3), (.slice (some b275) ((x1 : Int).toNat) ((x1 : Int).toNat)), (.slice none 0 0), (.slice (some b183) ((x1 : Int).toNat) ((x1 : Int).toNat)), (.slice (some b277) ((x1 : Int).toNat) ((x1 : Int).toNat)), (.slice (some b273) ((x1 : Int).toNat) ((x1 : Int).toNat)), (.slice (some b279) ((x1 : Int).toNat) ((x1 : Int).toNat)), (.slice none 0 0), (.slice none 0 0), (.slice none 0 0)]) 50 fun b281 w282 =>
 K (some b281) 0 w282) ∧
 ((0 ≤ (x1 : Int) ∧ (x1 : Int) ≤ x1 ∧ ((24 : Nat) : Int) * x1 ≤ 281474976710656 ∧ (x1 : Int) ≤ 9223372036854775807) ∧
 AllocK w276 (madeCells (#[.slice none 0 0]) ((x1 : Int).toNat * 1)) 84 fun b283 w284 =>
 (0 ≤ (x1 : Int) ∧ (x1 : Int) ≤ x1 ∧ ((24 : Nat) : Int) * x1 ≤ 281474976710656 ∧ (x1 : Int) ≤ 9223372036854775807) ∧
 AllocK w284 (madeCells (#[.slice none 0 0]) ((x1 : Int).toNat * 1)) 84 fun b285 w286 =>
 AllocK w286 (#[(.int .i64 x1), (.int .i64 x2), (.int .i64 x3), (.slice (some b275) ((x1 : Int).toNat) ((x1 : Int).toNat)), (.slice none 0 0), (.slice (some b183) ((x1 : Int).toNat) ((x1 : Int).toNat)), (.slice (some b285) ((x1 : Int).toNat) ((x1 : Int).toNat)), (.slice (some b273) ((x1 : Int).toNat) ((x1 : Int).toNat)), (.slice (some b283) ((x1 : Int).toNat) ((x1 : Int).toNat)), (.slice none 0 0), (.slice none 0 0), (.slice none 0 0)]) 50 fun b287 w288 =>
 K (some b287) 0 w288)) ∧
 (((0 ≤ (x1 : Int) ∧ (x1 : Int) ≤ x1 ∧ ((24 : Nat) : Int) * x1 ≤ 281474976710656 ∧ (x1 : Int) ≤ 9223372036854775807) ∧
 AllocK w274 (madeCells (#[.slice none 0 0]) ((x1 : Int).toNat * 1)) 84 fun b289 w290 =>
 ((0 ≤ (x1 : Int) ∧ (x1 : Int) ≤ x1 ∧ ((8 : Nat) : Int) * x1 ≤ 281474976710656 ∧ (x1 : Int) ≤ 9223372036854775807) ∧
 AllocK w290 (madeCells (#[.int .i64 0]) ((x1 : Int).toNat * 1)) 3 fun b291 w292 =>
 (0 ≤ (x1 : Int) ∧ (x1 : Int) ≤ x1 ∧ ((24 : Nat) : Int) * x1 ≤ 281474976710656 ∧ (x1 : Int) ≤ 9223372036854775807) ∧
 AllocK w292 (madeCells (#[.slice none 0 0]) ((x1 : Int).toNat * 1)) 84 fun b293 w294 =>
 AllocK w294 (#[(.int .i64 x1), (.int .i64 x2), (.int .i64 x3), (.slice (some b291) ((x1 : Int).toNat) ((x1 : Int).toNat)), (.slice none 0 0), (.slice (some b183) ((x1 : Int).toNat) ((x1 : Int).toNat)), (.slice (some b289) ((x1 : Int).toNat) ((x1 : Int).toNat)), (.slice (some b273) ((x1 : Int).toNat) ((x1 : Int).toNat)), (.slice (some b293) ((x1 : Int).toNat) ((x1 : Int).toNat)), (.slice none 0 0), (.slice none 0 0), (.slice none 0 0)]) 50 fun b295 w296 =>
 K (some b295) 0 w296) ∧
 ((0 ≤ (x1 : Int) ∧ (x1 : Int) ≤ x1 ∧ ((24 : Nat) : Int) * x1 ≤ 281474976710656 ∧ (x1 : Int) ≤ 9223372036854775807) ∧
 AllocK w290 (madeCells (#[.slice none 0 0]) ((x1 : Int).toNat * 1)) 84 fun b297 w298 =>
 (0 ≤ (x1 : Int) ∧ (x1 : Int) ≤ x1 ∧ ((8 : Nat) : Int) * x1 ≤ 281474976710656 ∧ (x1 : Int) ≤ 9223372036854775807) ∧
 AllocK w298 (madeCells (#[.int .i64 0]) ((x1 : Int).toNat * 1)) 3 fun b299 w300 =>
 AllocK w300 (#[(.int .i64 x1), (.int .i64 x2), (.int .i64 x3), (.slice (some b299) ((x1 : Int).toNat) ((x1 : Int).toNat)), (.slice none 0 0), (.slice (some b183) ((x1 : Int).toNat) ((x1 : Int).toNat)), (.slice (some b289) ((x1 : Int).toNat) ((x1 : Int).toNat)), (.slice (some b273) ((x1 : Int).toNat) ((x1 : Int).toNat)), (.slice (some b297) ((x1 : Int).toNat) ((x1 : Int).toNat)), (.slice none 0 0), (.slice none 0 0), (.slice none 0 0)]) 50 fun b301 w302 =>
 K (some b301) 0 w302)) ∧
 ((0 ≤ (x1 : Int) ∧ (x1 : Int) ≤ x1 ∧ ((24 : Nat) : Int) * x1 ≤ 281474976710656 ∧ (x1 : Int) ≤ 9223372036854775807) ∧
 AllocK w274 (madeCells (#[.slice none 0 0]) ((x1 : Int).toNat * 1)) 84 fun b303 w304 =>
 ((0 ≤ (x1 : Int) ∧ (x1 : Int) ≤ x1 ∧ ((8 : Nat) : Int) * x1 ≤ 281474976710656 ∧ (x1 : Int) ≤ 9223372036854775807) ∧
 AllocK w304 (madeCells (#[.int .i64 0]) ((x1 : Int).toNat * 1)) 3 fun b305 w306 =>
 (0 ≤ (x1 : Int) ∧ (x1 : Int) ≤ x1 ∧ ((24 : Nat) : Int) * x1 ≤ 281474976710656 ∧ (x1 : Int) ≤ 9223372036854775807) ∧
 AllocK w306 (madeCells (#[.slice none 0 0]) ((x1 : Int).toNat * 1)) 84 fun b307 w308 =>
 AllocK w308 (#[(.int .i64 x1), (.int .i64 x2), (.int .i64 x3), (.slice (some b305) ((x1 : Int).toNat) ((x1 : Int).toNat)), (.slice none 0 0), (.slice (some b183) ((x1 : Int).toNat) ((x1 : Int).toNat)), (.slice (some b307) ((x1 : Int).toNat) ((x1 : Int).toNat)), (.slice (some b273) ((x1 : Int).toNat) ((x1 : Int).toNat)), (.slice (some b303) ((x1 : Int).toNat) ((x1 : Int).toNat)), (.slice none 0 0), (.slice none 0 0), (.slice none 0 0)]) 50 fun b309 w310 =>
 K (some b309) 0 w310) ∧
 ((0 ≤ (x1 : Int) ∧ (x1 : Int) ≤ x1 ∧ ((24 : Nat) : Int) * x1 ≤ 281474976710656 ∧ (x1 : Int) ≤ 9223372036854775807) ∧
 AllocK w304 (madeCells (#[.slice none 0 0]) ((x1 : Int).toNat * 1)) 84 fun b311 w312 =>
 (0 ≤ (x1 : Int) ∧ (x1 : Int) ≤ x1 ∧ ((8 : Nat) : Int) * x1 ≤ 281474976710656 ∧ (x1 : Int) ≤ 9223372036854775807) ∧
 AllocK w312 (madeCells (#[.int .i64 0]) ((x1 : Int).toNat * 1)) 3 fun b313 w314 =>
 AllocK w314 (#[(.int .i64 x1), (.int .i64 x2), (.int .i64 x3), (.slice (some b313) ((x1 : Int).toNat) ((x1 : Int).toNat)), (.slice none 0 0), (.slice (some b183) ((x1 : Int).toNat) ((x1 : Int).toNat)), (.slice (some b311) ((x1 : Int).toNat) ((x1 : Int).toNat)), (.slice (some b273) ((x1 : Int).toNat) ((x1 : Int).toNat)), (.slice (some b303) ((x1 : Int).toNat) ((x1 : Int).toNat)), (.slice none 0 0), (.slice none 0 0), (.slice none 0 0)]) 50 fun b315 w316 =>
 K (some b315) 0 w316)))) ∧
 ((0 ≤ (x1 : Int) ∧ (x1 : Int) ≤ x1 ∧ ((24 : Nat) : Int) * x1 ≤ 281474976710656 ∧ (x1 : Int) ≤ 9223372036854775807) ∧
 AllocK w184 (madeCells (#[.slice none 0 0]) ((x1 : Int).toNat * 1)) 84 fun b317 w318 =>
 ((0 ≤ (x1 : Int) ∧ (x1 : Int) ≤ x1 ∧ ((8 : Nat) : Int) * x1 ≤ 281474976710656 ∧ (x1 : Int) ≤ 9223372036854775807) ∧
 AllocK w318 (madeCells (#[.int .i64 0]) ((x1 : Int).toNat * 1)) 3 fun b319 w320 =>
 ((0 ≤ (x1 : Int) ∧ (x1 : Int) ≤ x1 ∧ ((24 : Nat) : Int) * x1 ≤ 281474976710656 ∧ (x1 : Int) ≤ 9223372036854775807) ∧
 AllocK w320 (madeCells (#[.slice none 0 0]) ((x1 : Int).toNat * 1)) 84 fun b321 w322 =>
 (0 ≤ (x1 : Int) ∧ (x1 : Int) ≤ x1 ∧ ((24 : Nat) : Int) * x1 ≤ 281474976710656 ∧ (x1 : Int) ≤ 9223372036854775807) ∧
 AllocK w322 (madeCells (#[.slice none 0 0]) ((x1 : Int).toNat * 1)) 84 fun b323 w324 =>
 AllocK w324 (#[(.int .i64 x1), (.int .i64 x2), (.int .i64 x3), (.slice (some b319) ((x1 : Int).toNat) ((x1 : Int).toNat)), (.slice none 0 0), (.slice (some b183) ((x1 : Int).toNat) ((x1 : Int).toNat)), (.slice (some b321) ((x1 : Int).toNat) ((x1 : Int).toNat)), (.slice (some b323) ((x1 : Int).toNat) ((x1 : Int).toNat)), (.slice (some b317) ((x1 : Int).toNat) ((x1 : Int).toNat)), (.slice none 0 0), (.slice none 0 0), (.slice none 0 0)]) 50 fun b325 w326 =>
 K (some b325) 0 w326) ∧
 ((0 ≤ (x1 : Int) ∧ (x1 : Int) ≤ x1 ∧ ((24 : Nat) : Int) * x1 ≤ 281474976710656 ∧ (x1 : Int) ≤ 9223372036854775807) ∧
 AllocK w320 (madeCells (#[.slice none 0 0]) ((x1 : Int).toNat * 1)) 84 fun b327 w328 =>
 (0 ≤ (x1 : Int) ∧ (x1 : Int) ≤ x1 ∧ ((24 : Nat) : Int) * x1 ≤ 281474976710656 ∧ (x1 : Int) ≤ 9223372036854775807) ∧
 AllocK w328 (madeCells (#[.slice none 0 0]) ((x1 : Int).toNat * 1)) 84 fun b329 w330 =>
 AllocK w330 (#[(.int .i64 x1), (.int .i64 x2), (.int .i64 x3), (.slice (some b319) ((x1 : Int).toNat) ((x1 : Int).toNat)), (.slice none 0 0), (.slice (some b183) ((x1 : Int).toNat) ((x1 : Int).toNat)), (.slice (some b329) ((x1 : Int).toNat) ((x1 : Int).toNat)), (.slice (some b327) ((x1 : Int).toNat) ((x1 : Int).toNat)), (.slice (some b317) ((x1 : Int).toNat) ((x1 : Int).toNat)), (.slice none 0 0), (.slice none 0 0), (.slice none 0 0)]) 50 fun b331 w332 =>
 K (some b331) 0 w332)) ∧
 (((0 ≤ (x1 : Int) ∧ (x1 : Int) ≤ x1 ∧ ((24 : Nat) : Int) * x1 ≤ 281474976710656 ∧ (x1 : Int) ≤ 9223372036854775807) ∧
 AllocK w318 (madeCells (#[.slice none 0 0]) ((x1 : Int).toNat * 1)) 84 fun b333 w334 =>
 ((0 ≤ (x1 : Int) ∧ (x1 : Int) ≤ x1 ∧ ((8 : Nat) : Int) * x1 ≤ 281474976710656 ∧ (x1 : Int) ≤ 9223372036854775807) ∧
 AllocK w334 (madeCells (#[.int .i64 0]) ((x1 : Int).toNat * 1)) 3 fun b335 w336 =>
 (0 ≤ (x1 : Int) ∧ (x1 : Int) ≤ x1 ∧ ((24 : Nat) : Int) * x1 ≤ 281474976710656 ∧ (x1 : Int) ≤ 9223372036854775807) ∧
 AllocK w336 (madeCells (#[.slice none 0 0]) ((x1 : Int).toNat * 1)) 84 fun b337 w338 =>
 AllocK w338 (#[(.int .i64 x1), (.int .i64 x2), (.int .i64 x3), (.slice (some b335) ((x1 : Int).toNat) ((x1 : Int).toNat)), (.slice none 0 0), (.slice (some b183) ((x1 : Int).toNat) ((x1 : Int).toNat)), (.slice (some b333) ((x1 : Int).toNat) ((x1 : Int).toNat)), (.slice (some b337) ((x1 : Int).toNat) ((x1 : Int).toNat)), (.slice (some b317) ((x1 : Int).toNat) ((x1 : Int).toNat)), (.slice none 0 0), (.slice none 0 0), (.slice none 0 0)]) 50 fun b339 w340 =>
 K (some b339) 0 w340) ∧
 ((0 ≤ (x1 : Int) ∧ (x1 : Int) ≤ x1 ∧ ((24 : Nat) : Int) * x1 ≤ 281474976710656 ∧ (x1 : Int) ≤ 9223372036854775807) ∧
 AllocK w334 (madeCells (#[.slice none 0 0]) ((x1 : Int).toNat * 1)) 84 fun b341 w342 =>
 (0 ≤ (x1 : Int) ∧ (x1 : Int) ≤ x1 ∧ ((8 : Nat) : Int) * x1 ≤ 281474976710656 ∧ (x1 : Int) ≤ 9223372036854775807) ∧
 AllocK w342 (madeCells (#[.int .i64 0]) ((x1 : Int).toNat * 1)) 3 fun b343 w344 =>
 AllocK w344 (#[(.int .i64 x1), (.int .i64 x2), (.int .i64 x3), (.slice (some b343) ((x1 : Int).toNat) ((x1 : Int).toNat)), (.slice none 0 0), (.slice (some b183) ((x1 : Int).toNat) ((x1 : Int).toNat)), (.slice (some b333) ((x1 : Int).toNat) ((x1 : Int).toNat)), (.slice (some b341) ((x1 : Int).toNat) ((x1 : Int).toNat)), (.slice (some b317) ((x1 : Int).toNat) ((x1 : Int).toNat)), (.slice none 0 0), (.slice none 0 0), (.slice none 0 0)]) 50 fun b345 w346 =>
 K (some b345) 0 w346)) ∧
 ((0 ≤ (x1 : Int) ∧ (x1 : Int) ≤ x1 ∧ ((24 : Nat) : Int) * x1 ≤ 281474976710656 ∧ (x1 : Int) ≤ 9223372036854775807) ∧
 AllocK w318 (madeCells (#[.slice none 0 0]) ((x1 : Int).toNat * 1)) 84 fun b347 w348 =>
 ((0 ≤ (x1 : Int) ∧ (x1 : Int) ≤ x1 ∧ ((8 : Nat) : Int) * x1 ≤ 281474976710656 ∧ (x1 : Int) ≤ 9223372036854775807) ∧
 AllocK w348 (madeCells (#[.int .i64 0]) ((x1 : Int).toNat * 1)) 3 fun b349 w350 =>
 (0 ≤ (x1 : Int) ∧ (x1 : Int) ≤ x1 ∧ ((24 : Nat) : Int) * x1 ≤ 281474976710656 ∧ (x1 : Int) ≤ 9223372036854775807) ∧
 AllocK w350 (madeCells (#[.slice none 0 0]) ((x1 : Int).toNat * 1)) 84 fun b351 w352 =>
 AllocK w352 (#[(.int .i64 x1), (.int .i64 x2), (.int .i64 x3), (.slice (some b349) ((x1 : Int).toNat) ((x1 : Int).toNat)), (.slice none 0 0), (.slice (some b183) ((x1 : Int).toNat) ((x1 : Int).toNat)), (.slice (some b351) ((x1 : Int).toNat) ((x1 : Int).toNat)), (.slice (some b347) ((x1 : Int).toNat) ((x1 : Int).toNat)), (.slice (some b317) ((x1 : Int).toNat) ((x1 : Int).toNat)), (.slice none 0 0), (.slice none 0 0), (.slice none 0 0)]) 50 fun b353 w354 =>
 K (some b353) 0 w354) ∧
 ((0 ≤ (x1 : Int) ∧ (x1 : Int) ≤ x1 ∧ ((24 : Nat) : Int) * x1 ≤ 281474976710656 ∧ (x1 : Int) ≤ 9223372036854775807) ∧
 AllocK w348 (madeCells (#[.slice none 0 0]) ((x1 : Int).toNat * 1)) 84 fun b355 w356 =>
 (0 ≤ (x1 : Int) ∧ (x1 : Int) ≤ x1 ∧ ((8 : Nat) : Int) * x1 ≤ 281474976710656 ∧ (x1 : Int) ≤ 9223372036854775807) ∧
 AllocK w356 (madeCells (#[.int .i64 0]) ((x1 : Int).toNat * 1)) 3 fun b357 w358 =>
 AllocK w358 (#[(.int .i64 x1), (.int .i64 x2), (.int .i64 x3), (.slice (some b357) ((x1 : Int).toNat) ((x1 : Int).toNat)), (.slice none 0 0), (.slice (some b183) ((x1 : Int).toNat) ((x1 : Int).toNat)), (.slice (some b355) ((x1 : Int).toNat) ((x1 : Int).toNat)), (.slice (some b347) ((x1 : Int).toNat) ((x1 : Int).toNat)), (.slice (some b317) ((x1 : Int).toNat) ((x1 : Int).toNat)), (.slice none 0 0), (.slice none 0 0), (.slice none 0 0)]) 50 fun b359 w360 =>
 K (some b359) 0 w360))))))) ∧
 (((0 ≤ (x1 : Int) ∧ (x1 : Int) ≤ x1 ∧ ((24 : Nat) : Int) * x1 ≤ 281474976710656 ∧ (x1 : Int) ≤ 9223372036854775807) ∧
 AllocK w4 (madeCells (#[.slice none 0 0]) ((x1 : Int).toNat * 1)) 84 fun b361 w362 =>
 ((0 ≤ (x1 : Int) ∧ (x1 : Int) ≤ x1 ∧ ((8 : Nat) : Int) * x1 ≤ 281474976710656 ∧ (x1 : Int) ≤ 9223372036854775807) ∧
 AllocK w362 (madeCells (#[.int .i64 0]) ((x1 : Int).toNat * 1)) 3 fun b363 w364 =>
 ((0 ≤ (x1 : Int) ∧ (x1 : Int) ≤ x1 ∧ ((24 : Nat) : Int) * x1 ≤ 281474976710656 ∧ (x1 : Int) ≤ 9223372036854775807) ∧
 AllocK w364 (madeCells (#[.slice none 0 0]) ((x1 : Int).toNat * 1)) 43 fun b365 w366 =>
 ((0 ≤ (x1 : Int) ∧ (x1 : Int) ≤ x1 ∧ ((24 : Nat) : Int) * x1 ≤ 281474976710656 ∧ (x1 : Int) ≤ 9223372036854775807) ∧
 AllocK w366 (madeCells (#[.slice none 0 0]) ((x1 : Int).toNat * 1)) 84 fun b367 w368 =>
 (0 ≤ (x1 : Int) ∧ (x1 : Int) ≤ x1 ∧ ((24 : Nat) : Int) * x1 ≤ 281474976710656 ∧ (x1 : Int) ≤ 9223372036854775807) ∧
 AllocK w368 (madeCells (#[.slice none 0 0]) ((x1 : Int).toNat * 1)) 84 fun b369 w370 =>
 AllocK w370 (#[(.int .i64 x1), (.int .i64 x2), (.int .i64 x3), (.slice (some b363) ((x1 : Int).toNat) ((x1 : Int).toNat)), (.slice none 0 0), (.slice (some b365) ((x1 : Int).toNat) ((x1 : Int).toNat)), (.slice (some b361) ((x1 : Int).toNat) ((x1 : Int).toNat)), (.slice (some b367) ((x1 : Int).toNat) ((x1 : Int).toNat)), (.slice (some b369) ((x1 : Int).toNat) ((x1 : Int).toNat)), (.slice none 0 0), (.slice none 0 0), (.slice none 0 0)]) 50 fun b371 w372 =>
 K (some b371) 0 w372) ∧
 ((0 ≤ (x1 : Int) ∧ (x1 : Int) ≤ x1 ∧ ((24 : Nat) : Int) * x1 ≤ 281474976710656 ∧ (x1 : Int) ≤ 9223372036854775807) ∧
 AllocK w366 (madeCells (#[.slice none 0 0]) ((x1 : Int).toNat * 1)) 84 fun b373 w374 =>
 (0 ≤ (x1 : Int) ∧ (x1 : Int) ≤ x1 ∧ ((24 : Nat) : Int) * x1 ≤ 281474976710656 ∧ (x1 : Int) ≤ 9223372036854775807) ∧
 AllocK w374 (madeCells (#[.slice none 0 0]) ((x1 : Int).toNat * 1)) 84 fun b375 w376 =>
 AllocK w376 (#[(.int .i64 x1), (.int .i64 x2), (.int .i64 x3), (.slice (some b363) ((x1 : Int).toNat) ((x1 : Int).toNat)), (.slice none 0 0), (.slice (some b365) ((x1 : Int).toNat) ((x1 : Int).toNat)), (.slice (some b361) ((x1 : Int).toNat) ((x1 : Int).toNat)), (.slice (some b375) ((x1 : Int).toNat) ((x1 : Int).toNat)), (.slice (some b373) ((x1 : Int).toNat) ((x1 : Int).toNat)), (.slice none 0 0), (.slice none 0 0), (.slice none 0 0)]) 50 fun b377 w378 =>
 K (some b377) 0 w378)) ∧
 (((0 ≤ (x1 : Int) ∧ (x1 : Int) ≤ x1 ∧ ((24 : Nat) : Int) * x1 ≤ 281474976710656 ∧ (x1 : Int) ≤ 9223372036854775807) ∧
 AllocK w364 (madeCells (#[.slice none 0 0]) ((x1 : Int).toNat * 1)) 84 fun b379 w380 =>
 ((0 ≤ (x1 : Int) ∧ (x1 : Int) ≤ x1 ∧ ((24 : Nat) : Int) * x1 ≤ 281474976710656 ∧ (x1 : Int) ≤ 9223372036854775807) ∧
 AllocK w380 (madeCells (#[.slice none 0 0]) ((x1 : Int).toNat * 1)) 43 fun b381 w382 =>
 (0 ≤ (x1 : Int) ∧ (x1 : Int) ≤ x1 ∧ ((24 : Nat) : Int) * x1 ≤ 281474976710656 ∧ (x1 : Int) ≤ 9223372036854775807) ∧
 AllocK w382 (madeCells (#[.slice none 0 0]) ((x1 : Int).toNat * 1)) 84 fun b383 w384 =>
 AllocK w384 (#[(.int .i64 x1), (.int .i64 x2), (.int .i64 x3), (.slice (some b363) ((x1 : Int).toNat) ((x1 : Int).toNat)), (.slice none 0 0), (.slice (some b381) ((x1 : Int).toNat) ((x1 : Int).toNat)), (.slice (some b361) ((x1 : Int).toNat) ((x1 : Int).toNat)), (.slice (some b379) ((x1 : Int).toNat) ((x1 : Int).toNat)), (.slice (some b383) ((x1 : Int).toNat) ((x1 : Int).toNat)), (.slice none 0 0), (.slice none 0 0), (.slice none 0 0)]) 50 fun b385 w386 =>
 K (some b385) 0 w386) ∧
 ((0 ≤ (x1 : Int) ∧ (x1 : Int) ≤ x1 ∧ ((24 : Nat) : Int) * x1 ≤ 281474976710656 ∧ (x1 : Int) ≤ 9223372036854775807) ∧
 AllocK w380 (madeCells (#[.slice none 0 0]) ((x1 : Int).toNat * 1)) 84 fun b387 w388 =>
 (0 ≤ (x1 : Int) ∧ (x1 : Int) ≤ x1 ∧ ((24 : Nat) : Int) * x1 ≤ 281474976710656 ∧ (x1 : Int) ≤ 9223372036854775807) ∧
 AllocK w388 (madeCells (#[.slice none 0 0]) ((x1 : Int).toNat * 1)) 43 fun b389 w390 =>
 AllocK w390 (#[(.int .i64 x1), (.int .i64 x2), (.int .i64 x3), (.slice (some b363) ((x1 : Int).toNat) ((x1 : Int).toNat)), (.slice none 0 0), (.slice (some b389) ((x1 : Int).toNat) ((x1 : Int).toNat)), (.slice (some b361) ((x1 : Int).toNat) ((x1 : Int).toNat)), (.slice (some b379) ((x1 : Int).toNat) ((x1 : Int).toNat)), (.slice (some b387) ((x1 : Int).toNat) ((x1 : Int).toNat)), (.slice none 0 0), (.slice none 0 0), (.slice none 0 0)]) 50 fun b391 w392 =>
 K (some b391) 0 w392)) ∧
 ((0 ≤ (x1 : Int) ∧ (x1 : Int) ≤ x1 ∧ ((24 : Nat) : Int) * x1 ≤ 281474976710656 ∧ (x1 : Int) ≤ 9223372036854775807) ∧
 AllocK w364 (madeCells (#[.slice none 0 0]) ((x1 : Int).toNat * 1)) 84 fun b393 w394 =>
 ((0 ≤ (x1 : Int) ∧ (x1 : Int) ≤ x1 ∧ ((24 : Nat) : Int) * x1 ≤ 281474976710656 ∧ (x1 : Int) ≤ 9223372036854775807) ∧
 AllocK w394 (madeCells (#[.slice none 0 0]) ((x1 : Int).toNat * 1)) 43 fun b395 w396 =>
 (0 ≤ (x1 : Int) ∧ (x1 : Int) ≤ x1 ∧ ((24 : Nat) : Int) * x1 ≤ 281474976710656 ∧ (x1 : Int) ≤ 9223372036854775807) ∧
 AllocK w396 (madeCells (#[.slice none 0 0]) ((x1 : Int).toNat * 1)) 84 fun b397 w398 =>
 AllocK w398 (#[(.int .i64 x1), (.int .i64 x2), (.int .i64 x3), (.slice (some b363) ((x1 : Int).toNat) ((x1 : Int).toNat)), (.slice none 0 0), (.slice (some b395) ((x1 : Int).toNat) ((x1 : Int).toNat)), (.slice (some b361) ((x1 : Int).toNat) ((x1 : Int).toNat)), (.slice (some b397) ((x1 : Int).toNat) ((x1 : Int).toNat)), (.slice (some b393) ((x1 : Int).toNat) ((x1 : Int).toNat)), (.slice none 0 0), (.slice none 0 0), (.slice none 0 0)]) 50 fun b399 w400 =>
 K (some b399) 0 w400) ∧
 ((0 ≤ (x1 : Int) ∧ (x1 : Int) ≤ x1 ∧ ((24 : Nat) : Int) * x1 ≤ 281474976710656 ∧ (x1 : Int) ≤ 9223372036854775807) ∧
 AllocK w394 (madeCells (#[.slice none 0 0]) ((x1 : Int).toNat * 1)) 84 fun b401 w402 =>
 (0 ≤ (x1 : Int) ∧ (x1 : Int) ≤ x1 ∧ ((24 : Nat) : Int) * x1 ≤ 281474976710656 ∧ (x1 : Int) ≤ 9223372036854775807) ∧
 AllocK w402 (madeCells (#[.slice none 0 0]) ((x1 : Int).toNat * 1)) 43 fun b403 w404 =>
 AllocK w404 (#[(.int .i64 x1), (.int .i64 x2), (.int .i64 x3), (.slice (some b363) ((x1 : Int).toNat) ((x1 : Int).toNat)), (.slice none 0 0), (.slice (some b403) ((x1 : Int).toNat) ((x1 : Int).toNat)), (.slice (some b361) ((x1 : Int).toNat) ((x1 : Int).toNat)), (.slice (some b401) ((x1 : Int).toNat) ((x1 : Int).toNat)), (.slice (some b393) ((x1 : Int).toNat) ((x1 : Int).toNat)), (.slice none 0 0), (.slice none 0 0), (.slice none 0 0)]) 50 fun b405 w406 =>
 K (some b405) 0 w406)))) ∧
 (((0 ≤ (x1 : Int) ∧ (x1 : Int) ≤ x1 ∧ ((24 : Nat) : Int) * x1 ≤ 281474976710656 ∧ (x1 : Int) ≤ 9223372036854775807) ∧
 AllocK w362 (madeCells (#[.slice none 0 0]) ((x1 : Int).toNat * 1)) 43 fun b407 w408 =>
 ((0 ≤ (x1 : Int) ∧ (x1 : Int) ≤ x1 ∧ ((8 : Nat) : Int) * x1 ≤ 281474976710656 ∧ (x1 : Int) ≤ 9223372036854775807) ∧
 AllocK w408 (madeCells (#[.int .i64 0]) ((x1 : Int).toNat * 1)) 3 fun b409 w410 =>
 ((0 ≤ (x1 : Int) ∧ (x1 : Int) ≤ x1 ∧ ((24 : Nat) : Int) * x1 ≤ 281474976710656 ∧ (x1 : Int) ≤ 9223372036854775807) ∧
 AllocK w410 (madeCells (#[.slice none 0 0]) ((x1 : Int).toNat * 1)) 84 fun b411 w412 =>
 (0 ≤ (x1 : Int) ∧ (x1 : Int) ≤ x1 ∧ ((24 : Nat) : Int) * x1 ≤ 281474976710656 ∧ (x1 : Int) ≤ 9223372036854775807) ∧
 AllocK w412 (madeCells (#[.slice none 0 0]) ((x1 : Int).toNat * 1)) 84 fun b413 w414 =>
 AllocK w414 (#[(.int .i64 x1), (.int .i64 x2), (.int .i64 x3), (.slice (some b409) ((x1 : Int).toNat) ((x1 : Int).toNat)), (.slice none 0 0), (.slice (some b407) ((x1 : Int).toNat) ((x1 : Int).toNat)), (.slice (some b361) ((x1 : Int).toNat) ((x1 : Int).toNat)), (.slice (some b411) ((x1 : Int).toNat) ((x1 : Int).toNat)), (.slice (some b413) ((x1 : Int).toNat) ((x1 : Int).toNat)), (.slice none 0 0), (.slice none 0 0), (.slice none 0 0)]) 50 fun b415 w416 =>
 K (some b415) 0 w416) ∧
 ((0 ≤ (x1 : Int) ∧ (x1 : Int) ≤ x1 ∧ ((24 : Nat) : Int) * x1 ≤ 281474976710656 ∧ (x1 : Int) ≤ 9223372036854775807) ∧
 AllocK w410 (madeCells (#[.slice none 0 0]) ((x1 : Int).toNat * 1)) 84 fun b417 w418 =>
 (0 ≤ (x1 : Int) ∧ (x1 : Int) ≤ x1 ∧ ((24 : Nat) : Int) * x1 ≤ 281474976710656 ∧ (x1 : Int) ≤ 9223372036854775807) ∧
 AllocK w418 (madeCells (#[.slice none 0 0]) ((x1 : Int).toNat * 1)) 84 fun b419 w420 =>
 AllocK w420 (#[(.int .i64 x1), (.int .i64 x2), (.int .i64 x3), (.slice (some b409) ((x1 : Int).toNat) ((x1 : Int).toNat)), (.slice none 0 0), (.slice (some b407) ((x1 : Int).toNat) ((x1 : Int).toNat)), (.slice (some b361) ((x1 : Int).toNat) ((x1 : Int).toNat)), (.slice (some b419) ((x1 : Int).toNat) ((x1 : Int).toNat)), (.slice (some b417) ((x1 : Int).toNat) ((x1 : Int).toNat)), (.slice none 0 0), (.slice none 0 0), (.slice none 0 0)]) 50 fun b421 w422 =>
 K (some b421) 0 w422)) ∧
 (((0 ≤ (x1 : Int) ∧ (x1 : Int) ≤ x1 ∧ ((24 : Nat) : Int) * x1 ≤ 281474976710656 ∧ (x1 : Int) ≤ 9223372036854775807) ∧
 AllocK w408 (madeCells (#[.slice none 0 0]) ((x1 : Int).toNat * 1)) 84 fun b423 w424 =>
 ((0 ≤ (x1 : Int) ∧ (x1 : Int) ≤ x1 ∧ ((8 : Nat) : Int) * x1 ≤ 281474976710656 ∧ (x1 : Int) ≤ 9223372036854775807) ∧
 AllocK w424 (madeCells (#[.int .i64 0]) ((x1 : Int).toNat * 1)) 3 fun b425 w426 =>
 (0 ≤ (x1 : Int) ∧ (x1 : Int) ≤ x1 ∧ ((24 : Nat) : Int) * x1 ≤ 281474976710656 ∧ (x1 : Int) ≤ 9223372036854775807) ∧
 AllocK w426 (madeCells (#[.slice none 0 0]) ((x1 : Int).toNat * 1)) 84 fun b427 w428 =>
 AllocK w428 (#[(.int .i64 x1), (.int .i64 x2), (.int .i64 x3), (.slice (some b425) ((x1 : Int).toNat) ((x1 : Int).toNat)), (.slice none 0 0), (.slice (some b407) ((x1 : Int).toNat) ((x1 : Int).toNat)), (.slice (some b361) ((x1 : Int).toNat) ((x1 : Int).toNat)), (.slice (some b423) ((x1 : Int).toNat) ((x1 : Int).toNat)), (.slice (some b427) ((x1 : Int).toNat) ((x1 : Int).toNat)), (.slice none 0 0), (.slice none 0 0), (.slice none 0 0)]) 50 fun b429 w430 =>
 K (some b429) 0 w430) ∧
 ((0 ≤ (x1 : Int) ∧ (x1 : Int) ≤ x1 ∧ ((24 : Nat) : Int) * x1 ≤ 281474976710656 ∧ (x1 : Int) ≤ 9223372036854775807) ∧
 AllocK w424 (madeCells (#[.slice none 0 0]) ((x1 : Int).toNat * 1)) 84 fun b431 w432 =>
 (0 ≤ (x1 : Int) ∧ (x1 : Int) ≤ x1 ∧ ((8 : Nat) : Int) * x1 ≤ 281474976710656 ∧ (x1 : Int) ≤ 9223372036854775807) ∧
 AllocK w432 (madeCells (#[.int .i64 0]) ((x1 : Int).toNat * 1)) 3 fun b433 w434 =>
 AllocK w434 (#[(.int .i64 x1), (.int .i64 x2), (.int .i64 x3), (.slice (some b433) ((x1 : Int).toNat) ((x1 : Int).toNat)), (.slice none 0 0), (.slice (some b407) ((x1 : Int).toNat) ((x1 : Int).toNat)), (.slice (some b361) ((x1 : Int).toNat) ((x1 : Int).toNat)), (.slice (some b423) ((x1 : Int).toNat) ((x1 : Int).toNat)), (.slice (some b431) ((x1 : Int).toNat) ((x1 : Int).toNat)), (.slice none 0 0), (.slice none 0 0), (.slice none 0 0)]) 50 fun b435 w436 =>
 K (some b435) 0 w436)) ∧
 ((0 ≤ (x1 : Int) ∧ (x1 : Int) ≤ x1 ∧ ((24 : Nat) : Int) * x1 ≤ 281474976710656 ∧ (x1 : Int) ≤ 9223372036854775807) ∧
 AllocK w408 (madeCells (#[.slice none 0 0]) ((x1 : Int).toNat * 1)) 84 fun b437 w438 =>
 ((0 ≤ (x1 : Int) ∧ (x1 : Int) ≤ x1 ∧ ((8 : Nat) : Int) * x1 ≤ 281474976710656 ∧ (x1 : Int) ≤ 9223372036854775807) ∧
 AllocK w438 (madeCells (#[.int .i64 0]) ((x1 : Int).toNat * 1)) 3 fun b439 w440 =>
 (0 ≤ (x1 : Int) ∧ (x1 : Int) ≤ x1 ∧ ((24 : Nat) : Int) * x1 ≤ 281474976710656 ∧ (x1 : Int) ≤ 9223372036854775807) ∧
 AllocK w440 (madeCells (#[.slice none 0 0]) ((x1 : Int).toNat * 1)) 84 fun b441 w442 =>
 AllocK w442 (#[(.int .i64 x1), (.int .i64 x2), (.int .i64 x3), (.slice (some b439) ((x1 : Int).toNat) ((x1 : Int).toNat)), (.slice none 0 0), (.slice (some b407) ((x1 : Int).toNat) ((x1 : Int).toNat)), (.slice (some b361) ((x1 : Int).toNat) ((x1 : Int).toNat)), (.slice (some b441) ((x1 : Int).toNat) ((x1 : Int).toNat)), (.slice (some b437) ((x1 : Int).toNat) ((x1 : Int).toNat)), (.slice none 0 0), (.slice none 0 0), (.slice none 0 0)]) 50 fun b443 w444 =>
 K (some b443) 0 w444) ∧
 ((0 ≤ (x1 : Int) ∧ (x1 : Int) ≤ x1 ∧ ((24 : Nat) : Int) * x1 ≤ 281474976710656 ∧ (x1 : Int) ≤ 9223372036854775807) ∧
 AllocK w438 (madeCells (#[.slice none 0 0]) ((x1 : Int).toNat * 1)) 84 fun b445 w446 =>
 (0 ≤ (x1 : Int) ∧ (x1 : Int) ≤ x1 ∧ ((8 : Nat) : Int) * x1 ≤ 281474976710656 ∧ (x1 : Int) ≤ 9223372036854775807) ∧
 AllocK w446 (madeCells (#[.int .i64 0]) ((x1 : Int).toNat * 1)) 3 fun b447 w448 =>
 AllocK w448 (#[(.int .i64 x1), (.int .i64 x2), (.int .i64 x3), (.slice (some b447) ((x1 : Int).toNat) ((x1 : Int).toNat)), (.slice none 0 0), (.slice (some b407) ((x1 : Int).toNat) ((x1 : Int).toNat)), (.slice (some b361) ((x1 : Int).toNat) ((x1 : Int).toNat)), (.slice (some b445) ((x1 : Int).toNat) ((x1 : Int).toNat)), (.slice (some b437) ((x1 : Int).toNat) ((x1 : Int).toNat)), (.slice none 0 0), (.slice none 0 0), (.slice none 0 0)]) 50 fun b449 w450 =>
 K (some b449) 0 w450)))) ∧
 (((0 ≤ (x1 : Int) ∧ (x1 : Int) ≤ x1 ∧ ((24 : Nat) : Int) * x1 ≤ 281474976710656 ∧ (x1 : Int) ≤ 9223372036854775807) ∧
 AllocK w362 (madeCells (#[.slice none 0 0]) ((x1 : Int).toNat * 1)) 84 fun b451 w452 =>
 ((0 ≤ (x1 : Int) ∧ (x1 : Int) ≤ x1 ∧ ((8 : Nat) : Int) * x1 ≤ 281474976710656 ∧ (x1 : Int) ≤ 9223372036854775807) ∧
 AllocK w452 (madeCells (#[.int .i64 0]) ((x1 : Int).toNat * 1)) 3 fun b453 w454 =>
 ((0 ≤ (x1 : Int) ∧ (x1 : Int) ≤ x1 ∧ ((24 : Nat) : Int) * x1 ≤ 281474976710656 ∧ (x1 : Int) ≤ 9223372036854775807) ∧
 AllocK w454 (madeCells (#[.slice none 0 0]) ((x1 : Int).toNat * 1)) 43 fun b455 w456 =>
 (0 ≤ (x1 : Int) ∧ (x1 : Int) ≤ x1 ∧ ((24 : Nat) : Int) * x1 ≤ 281474976710656 ∧ (x1 : Int) ≤ 9223372036854775807) ∧
 AllocK w456 (madeCells (#[.slice none 0 0]) ((x1 : Int).toNat * 1)) 84 fun b457 w458 =>
 AllocK w458 (#[(.int .i64 x1), (.int .i64 x2), (.int .i64 x3), (.slice (some b453) ((x1 : Int).toNat) ((x1 : Int).toNat)), (.slice none 0 0), (.slice (some b455) ((x1 : Int).toNat) ((x1 : Int).toNat)), (.slice (some b361) ((x1 : Int).toNat) ((x1 : Int).toNat)), (.slice (some b451) ((x1 : Int).toNat) ((x1 : Int).toNat)), (.slice (some b457) ((x1 : Int).toNat) ((x1 : Int).toNat)), (.slice none 0 0), (.slice none 0 0), (.slice none 0 0)]) 50 fun b459 w460 =>
 K (some b459) 0 w460) ∧
 ((0 ≤ (x1 : Int) ∧ (x1 : Int) ≤ x1 ∧ ((24 : Nat) : Int) * x1 ≤ 281474976710656 ∧ (x1 : Int) ≤ 9223372036854775807) ∧
 AllocK w454 (madeCells (#[.slice none 0 0]) ((x1 : Int).toNat * 1)) 84 fun b461 w462 =>
 (0 ≤ (x1 : Int) ∧ (x1 : Int) ≤ x1 ∧ ((24 : Nat) : Int) * x1 ≤ 281474976710656 ∧ (x1 : Int) ≤ 9223372036854775807) ∧
 AllocK w462 (madeCells (#[.slice none 0 0]) ((x1 : Int).toNat * 1)) 43 fun b463 w464 =>
 AllocK w464 (#[(.int .i64 x1), (.int .i64 x2), (.int .i64 x3), (.slice (some b453) ((x1 : Int).toNat) ((x1 : Int).toNat)), (.slice none 0 0), (.slice (some b463) ((x1 : Int).toNat) ((x1 : Int).toNat)), (.slice (some b361) ((x1 : Int).toNat) ((x1 : Int).toNat)), (.slice (some b451) ((x1 : Int).toNat) ((x1 : Int).toNat)), (.slice (some b461) ((x1 : Int).toNat) ((x1 : Int).toNat)), (.slice none 0 0), (.slice none 0 0), (.slice none 0 0)]) 50 fun b465 w466 =>
 K (some b465) 0 w466)) ∧
 (((0 ≤ (x1 : Int) ∧ (x1 : Int) ≤ x1 ∧ ((24 : Nat) : Int) * x1 ≤ 281474976710656 ∧ (x1 : Int) ≤ 9223372036854775807) ∧
 AllocK w452 (madeCells (#[.slice none 0 0]) ((x1 : Int).toNat * 1)) 43 fun b467 w468 =>
 ((0 ≤ (x1 : Int) ∧ (x1 : Int) ≤ x1 ∧ ((8 : Nat) : Int) * x1 ≤ 281474976710656 ∧ (x1 : Int) ≤ 9223372036854775807) ∧
 AllocK w468 (madeCells (#[.int .i64 0]) ((x1 : Int).toNat * 1)) 3 fun b469 w470 =>
 (0 ≤ (x1 : Int) ∧ (x1 : Int) ≤ x1 ∧ ((24 : Nat) : Int) * x1 ≤ 281474976710656 ∧ (x1 : Int) ≤ 9223372036854775807) ∧
 AllocK w470 (madeCells (#[.slice none 0 0]) ((x1 : Int).toNat * 1)) 84 fun b471 w472 =>
 AllocK w472 (#[(.int .i64 x1), (.int .i64 x2), (.int .i64 x3), (.slice (some b469) ((x1 : Int).toNat) ((x1 : Int).toNat)), (.slice none 0 0), (.slice (some b467) ((x1 : Int).toNat) ((x1 : Int).toNat)), (.slice (some b361) ((x1 : Int).toNat) ((x1 : Int).toNat)), (.slice (some b451) ((x1 : Int).toNat) ((x1 : Int).toNat)), (.slice (some b471) ((x1 : Int).toNat) ((x1 : Int).toNat)), (.slice none 0 0), (.slice none 0 0), (.slice none 0 0)]) 50 fun b473 w474 =>
 K (some b473) 0 w474) ∧
 ((0 ≤ (x1 : Int) ∧ (x1 : Int) ≤ x1 ∧ ((24 : Nat) : Int) * x1 ≤ 281474976710656 ∧ (x1 : Int) ≤ 9223372036854775807) ∧
 AllocK w468 (madeCells (#[.slice none 0 0]) ((x1 : Int).toNat * 1)) 84 fun b475 w476 =>
 (0 ≤ (x1 : Int) ∧ (x1 : Int) ≤ x1 ∧ ((8 : Nat) : Int) * x1 ≤ 281474976710656 ∧ (x1 : Int) ≤ 9223372036854775807) ∧
 AllocK w476 (madeCells (#[.int .i64 0]) ((x1 : Int).toNat * 1)) 3 fun b477 w478 =>
 AllocK w478 (#[(.int .i64 x1), (.int .i64 x2), (.int .i64 x3), (.slice (some b477) ((x1 : Int).toNat) ((x1 : Int).toNat)), (.slice none 0 0), (.slice (some b467) ((x1 : Int).toNat) ((x1 : Int).toNat)), (.slice (some b361) ((x1 : Int).toNat) ((x1 : Int).toNat)), (.slice (some b451) ((x1 : Int).toNat) ((x1 : Int).toNat)), (.slice (some b475) ((x1 : Int).toNat) ((x1 : Int).toNat)), (.slice none 0 0), (.slice none 0 0), (.slice none 0 0)]) 50 fun b479 w480 =>
 K (some b479) 0 w480)) ∧
 ((0 ≤ (x1 : Int) ∧ (x1 : Int) ≤ x1 ∧ ((24 : Nat) : Int) * x1 ≤ 281474976710656 ∧ (x1 : Int) ≤ 9223372036854775807) ∧
 AllocK w452 (madeCells (#[.slice none 0 0]) ((x1 : Int).toNat * 1)) 84 fun b481 w482 =>
 ((0 ≤ (x1 : Int) ∧ (x1 : Int) ≤ x1 ∧ ((8 : Nat) : Int) * x1 ≤ 281474976710656 ∧ (x1 : Int) ≤ 9223372036854775807) ∧
 AllocK w482 (madeCells (#[.int .i64 0]) ((x1 : Int).toNat * 1)) 3 fun b483 w484 =>
 (0 ≤ (x1 : Int) ∧ (x1 : Int) ≤ x1 ∧ ((24 : Nat) : Int) * x1 ≤ 281474976710656 ∧ (x1 : Int) ≤ 9223372036854775807) ∧
 AllocK w484 (madeCells (#[.slice none 0 0]) ((x1 : Int).toNat * 1)) 43 fun b485 w486 =>
 AllocK w486 (#[(.int .i64 x1), (.int .i64 x2), (.int .i64 x3), (.slice (some b483) ((x1 : Int).toNat) ((x1 : Int).toNat)), (.slice none 0 0), (.slice (some b485) ((x1 : Int).toNat) ((x1 : Int).toNat)), (.slice (some b361) ((x1 : Int).toNat) ((x1 : Int).toNat)), (.slice (some b451) ((x1 : Int).toNat) ((x1 : Int).toNat)), (.slice (some b481) ((x1 : Int).toNat) ((x1 : Int).toNat)), (.slice none 0 0), (.slice none 0 0), (.slice none 0 0)]) 50 fun b487 w488 =>
 K (some b487) 0 w488) ∧
 ((0 ≤ (x1 : Int) ∧ (x1 : Int) ≤ x1 ∧ ((24 : Nat) : Int) * x1 ≤ 281474976710656 ∧ (x1 : Int) ≤ 9223372036854775807) ∧
 AllocK w482 (madeCells (#[.slice none 0 0]) ((x1 : Int).toNat * 1)) 43 fun b489 w490 =>
 (0 ≤ (x1 : Int) ∧ (x1 : Int) ≤ x1 ∧ ((8 : Nat) : Int) * x1 ≤ 281474976710656 ∧ (x1 : Int) ≤ 9223372036854775807) ∧
 AllocK w490 (madeCells (#[.int .i64 0]) ((x1 : Int).toNat * 1)) 3 fun b491 w492 =>
 AllocK w492 (#[(.int .i64 x1), (.int .i64 x2), (.int .i64 x3), (.slice (some b491) ((x1 : Int).toNat) ((x1 : Int).toNat)), (.slice none 0 0), (.slice (some b489) ((x1 : Int).toNat) ((x1 : Int).toNat)), (.slice (some b361) ((x1 : Int).toNat) ((x1 : Int).toNat)), (.slice (some b451) ((x1 : Int).toNat) ((x1 : Int).toNat)), (.slice (some b481) ((x1 : Int).toNat) ((x1 : Int).toNat)), (.slice none 0 0), (.slice none 0 0), (.slice none 0 0)]) 50 fun b493 w494 =>
 K (some b493) 0 w494)))) ∧
 ((0 ≤ (x1 : Int) ∧ (x1 : Int) ≤ x1 ∧ ((24 : Nat) : Int) * x1 ≤ 281474976710656 ∧ (x1 : Int) ≤ 9223372036854775807) ∧
 AllocK w362 (madeCells (#[.slice none 0 0]) ((x1 : Int).toNat * 1)) 84 fun b495 w496 =>
 ((0 ≤ (x1 : Int) ∧ (x1 : Int) ≤ x1 ∧ ((8 : Nat) : Int) * x1 ≤ 281474976710656 ∧ (x1 : Int) ≤ 9223372036854775807) ∧
 AllocK w496 (madeCells (#[.int .i64 0]) ((x1 : Int).toNat * 1)) 3 fun b497 w498 =>
 ((0 ≤ (x1 : Int) ∧ (x1 : Int) ≤ x1 ∧ ((24 : Nat) : Int) * x1 ≤ 281474976710656 ∧ (x1 : Int) ≤ 9223372036854775807) ∧
 AllocK w498 (madeCells (#[.slice none 0 0]) ((x1 : Int).toNat * 1)) 43 fun b499 w500 =>
 (0 ≤ (x1 : Int) ∧ (x1 : Int) ≤ x1 ∧ ((24 : Nat) : Int) * x1 ≤ 281474976710656 ∧ (x1 : Int) ≤ 9223372036854775807) ∧
 AllocK w500 (madeCells (#[.slice none 0 0]) ((x1 : Int).toNat * 1)) 84 fun b501 w502 =>
 AllocK w502 (#[(.int .i64 x1), (.int .i64 x2), (.int .i64 x3), (.slice (some b497) ((x1 : Int).toNat) ((x1 : Int).toNat)), (.slice none 0 0), (.slice (some b499) ((x1 : Int).toNat) ((x1 : Int).toNat)), (.slice (some b361) ((x1 : Int).toNat) ((x1 : Int).toNat)), (.slice (some b501) ((x1 : Int).toNat) ((x1 : Int).toNat)), (.slice (some b495) ((x1 : Int).toNat) ((x1 : Int).toNat)), (.slice none 0 0), (.slice none 0 0), (.slice none 0 0)]) 50 fun b503 w504 =>
 K (some b503) 0 w504) ∧
 ((0 ≤ (x1 : Int) ∧ (x1 : Int) ≤ x1 ∧ ((24 : Nat) : Int) * x1 ≤ 281474976710656 ∧ (x1 : Int) ≤ 9223372036854775807) ∧
 AllocK w498 (madeCells (#[.slice none 0 0]) ((x1 : Int).toNat * 1)) 84 fun b505 w506 =>
 (0 ≤ (x1 : Int) ∧ (x1 : Int) ≤ x1 ∧ ((24 : Nat) : Int) * x1 ≤ 281474976710656 ∧ (x1 : Int) ≤ 9223372036854775807) ∧
 AllocK w506 (madeCells (#[.slice none 0 0]) ((x1 : Int).toNat * 1)) 43 fun b507 w508 =>
 AllocK w508 (#[(.int .i64 x1), (.int .i64 x2), (.int .i64 x3), (.slice (some b497) ((x1 : Int).toNat) ((x1 : Int).toNat)), (.slice none 0 0), (.slice (some b507) ((x1 : Int).toNat) ((x1 : Int).toNat)), (.slice (some b361) ((x1 : Int).toNat) ((x1 : Int).toNat)), (.slice (some b505) ((x1 : Int).toNat) ((x1 : Int).toNat)), (.slice (some b495) ((x1 : Int).toNat) ((x1 : Int).toNat)), (.slice none 0 0), (.slice none 0 0), (.slice none 0 0)]) 50 fun b509 w510 =>
 K (some b509) 0 w510)) ∧
 (((0 ≤ (x1 : Int) ∧ (x1 : Int) ≤ x1 ∧ ((24 : Nat) : Int) * x1 ≤ 281474976710656 ∧ (x1 : Int) ≤ 9223372036854775807) ∧
 AllocK w496 (madeCells (#[.slice none 0 0]) ((x1 : Int).toNat * 1)) 43 fun b511 w512 =>
 ((0 ≤ (x1 : Int) ∧ (x1 : Int) ≤ x1 ∧ ((8 : Nat) : Int) * x1 ≤ 281474976710656 ∧ (x1 : Int) ≤ 9223372036854775807) ∧
 AllocK w512 (madeCells (#[.int .i64 0]) ((x1 : Int).toNat * 1)) 3 fun b513 w514 =>
 (0 ≤ (x1 : Int) ∧ (x1 : Int) ≤ x1 ∧ ((24 : Nat) : Int) * x1 ≤ 281474976710656 ∧ (x1 : Int) ≤ 9223372036854775807) ∧
 AllocK w514 (madeCells (#[.slice none 0 0]) ((x1 : Int).toNat * 1)) 84 fun b515 w516 =>
 AllocK w516 (#[(.int .i64 x1), (.int .i64 x2), (.int .i64 x3), (.slice (some b513) ((x1 : Int).toNat) ((x1 : Int).toNat)), (.slice none 0 0), (.slice (some b511) ((x1 : Int).toNat) ((x1 : Int).toNat)), (.slice (some b361) ((x1 : Int).toNat) ((x1 : Int).toNat)), (.slice (some b515) ((x1 : Int).toNat) ((x1 : Int).toNat)), (.slice (some b495) ((x1 : Int).toNat) ((x1 : Int).toNat)), (.slice none 0 0), (.slice none 0 0), (.slice none 0 0)]) 50 fun b517 w518 =>
 K (some b517) 0 w518) ∧
 ((0 ≤ (x1 : Int) ∧ (x1 : Int) ≤ x1 ∧ ((24 : Nat) : Int) * x1 ≤ 281474976710656 ∧ (x1 : Int) ≤ 9223372036854775807) ∧
 AllocK w512 (madeCells (#[.slice none 0 0]) ((x1 : Int).toNat * 1)) 84 fun b519 w520 =>
 (0 ≤ (x1 : Int) ∧ (x1 : Int) ≤ x1 ∧ ((8 : Nat) : Int) * x1 ≤ 281474976710656 ∧ (x1 : Int) ≤ 9223372036854775807) ∧
 AllocK w520 (madeCells (#[.int .i64 0]) ((x1 : Int).toNat * 1)) 3 fun b521 w522 =>
 AllocK w522 (#[(.int .i64 x1), (.int .i64 x2), (.int .i64 x3), (.slice (some b521) ((x1 : Int).toNat) ((x1 : Int).toNat)), (.slice none 0 0), (.slice (some b511) ((x1 : Int).toNat) ((x1 : Int).toNat)), (.slice (some b361) ((x1 : Int).toNat) ((x1 : Int).toNat)), (.slice (some b519) ((x1 : Int).toNat) ((x1 : Int).toNat)), (.slice (some b495) ((x1 : Int).toNat) ((x1 : Int).toNat)), (.slice none 0 0), (.slice none 0 0), (.slice none 0 0)]) 50 fun b523 w524 =>
 K (some b523) 0 w524)) ∧
 ((0 ≤ (x1 : Int) ∧ (x1 : Int) ≤ x1 ∧ ((24 : Nat) : Int) * x1 ≤ 281474976710656 ∧ (x1 : Int) ≤ 9223372036854775807) ∧
 AllocK w496 (madeCells (#[.slice none 0 0]) ((x1 : Int).toNat * 1)) 84 fun b525 w526 =>
 ((0 ≤ (x1 : Int) ∧ (x1 : Int) ≤ x1 ∧ ((8 : Nat) : Int) * x1 ≤ 281474976710656 ∧ (x1 : Int) ≤ 9223372036854775807) ∧
 AllocK w526 (madeCells (#[.int .i64 0]) ((x1 : Int).toNat * 1)) 3 fun b527 w528 =>
 (0 ≤ (x1 : Int) ∧ (x1 : Int) ≤ x1 ∧ ((24 : Nat) : Int) * x1 ≤ 281474976710656 ∧ (x1 : Int) ≤ 9223372036854775807) ∧
 AllocK w528 (madeCells (#[.slice none 0 0]) ((x1 : Int).toNat * 1)) 43 fun b529 w530 =>
 AllocK w530 (#[(.int .i64 x1), (.int .i64 x2), (.int .i64 x3), (.slice (some b527) ((x1 : Int).toNat) ((x1 : Int).toNat)), (.slice none 0 0), (.slice (some b529) ((x1 : Int).toNat) ((x1 : Int).toNat)), (.slice (some b361) ((x1 : Int).toNat) ((x1 : Int).toNat)), (.slice (some b525) ((x1 : Int).toNat) ((x1 : Int).toNat)), (.slice (some b495) ((x1 : Int).toNat) ((x1 : Int).toNat)), (.slice none 0 0), (.slice none 0 0), (.slice none 0 0)]) 50 fun b531 w532 =>
 K (some b531) 0 w532) ∧
 ((0 ≤ (x1 : Int) ∧ (x1 : Int) ≤ x1 ∧ ((24 : Nat) : Int) * x1 ≤ 281474976710656 ∧ (x1 : Int) ≤ 9223372036854775807) ∧
 AllocK w526 (madeCells (#[.slice none 0 0]) ((x1 : Int).toNat * 1)) 43 fun b533 w534 =>
 (0 ≤ (x1 : Int) ∧ (x1 : Int) ≤ x1 ∧ ((8 : Nat) : Int) * x1 ≤ 281474976710656 ∧ (x1 : Int) ≤ 9223372036854775807) ∧
 AllocK w534 (madeCells (#[.int .i64 0]) ((x1 : Int).toNat * 1)) 3 fun b535 w536 =>
 AllocK w536 (#[(.int .i64 x1), (.int .i64 x2), (.int .i64 x3), (.slice (some b535) ((x1 : Int).toNat) ((x1 : Int).toNat)), (.slice none 0 0), (.slice (some b533) ((x1 : Int).toNat) ((x1 : Int).toNat)), (.slice (some b361) ((x1 : Int).toNat) ((x1 : Int).toNat)), (.slice (some b525) ((x1 : Int).toNat) ((x1 : Int).toNat)), (.slice (some b495) ((x1 : Int).toNat) ((x1 : Int).toNat)), (.slice none 0 0), (.slice none 0 0), (.slice none 0 0)]) 50 fun b537 w538 =>
 K (some b537) 0 w538))))))) ∧
 (((0 ≤ (x1 : Int) ∧ (x1 : Int) ≤ x1 ∧ ((24 : Nat) : Int) * x1 ≤ 281474976710656 ∧ (x1 : Int) ≤ 9223372036854775807) ∧
 AllocK w4 (madeCells (#[.slice none 0 0]) ((x1 : Int).toNat * 1)) 84 fun b539 w540 =>
 ((0 ≤ (x1 : Int) ∧ (x1 : Int) ≤ x1 ∧ ((8 : Nat) : Int) * x1 ≤ 281474976710656 ∧ (x1 : Int) ≤ 9223372036854775807) ∧
 AllocK w540 (madeCells (#[.int .i64 0]) ((x1 : Int).toNat * 1)) 3 fun b541 w542 =>
 ((0 ≤ (x1 : Int) ∧ (x1 : Int) ≤ x1 ∧ ((24 : Nat) : Int) * x1 ≤ 281474976710656 ∧ (x1 : Int) ≤ 9223372036854775807) ∧
 AllocK w542 (madeCells (#[.slice none 0 0]) ((x1 : Int).toNat * 1)) 43 fun b543 w544 =>
 ((0 ≤ (x1 : Int) ∧ (x1 : Int) ≤ x1 ∧ ((24 : Nat) : Int) * x1 ≤ 281474976710656 ∧ (x1 : Int) ≤ 9223372036854775807) ∧
 AllocK w544 (madeCells (#[.slice none 0 0]) ((x1 : Int).toNat * 1)) 84 fun b545 w546 =>
 (0 ≤ (x1 : Int) ∧ (x1 : Int) ≤ x1 ∧ ((24 : Nat) : Int) * x1 ≤ 281474976710656 ∧ (x1 : Int) ≤ 9223372036854775807) ∧
 AllocK w546 (madeCells (#[.slice none 0 0]) ((x1 : Int).toNat * 1)) 84 fun b547 w548 =>
 AllocK w548 (#[(.int .i64 x1), (.int .i64 x2), (.int .i64 x3), (.slice (some b541) ((x1 : Int).toNat) ((x1 : Int).toNat)), (.slice none 0 0), (.slice (some b543) ((x1 : Int).toNat) ((x1 : Int).toNat)), (.slice (some b545) ((x1 : Int).toNat) ((x1 : Int).toNat)), (.slice (some b539) ((x1 : Int).toNat) ((x1 : Int).toNat)), (.slice (some b547) ((x1 : Int).toNat) ((x1 : Int).toNat)), (.slice none 0 0), (.slice none 0 0), (.slice none 0 0)]) 50 fun b549 w550 =>
 K (some b549) 0 w550) ∧
 ((0 ≤ (x1 : Int) ∧ (x1 : Int) ≤ x1 ∧ ((24 : Nat) : Int) * x1 ≤ 281474976710656 ∧ (x1 : Int) ≤ 9223372036854775807) ∧
 AllocK w544 (madeCells (#[.slice none 0 0]) ((x1 : Int).toNat * 1)) 84 fun b551 w552 =>
 (0 ≤ (x1 : Int) ∧ (x1 : Int) ≤ x1 ∧ ((24 : Nat) : Int) * x1 ≤ 281474976710656 ∧ (x1 : Int) ≤ 9223372036854775807) ∧
 AllocK w552 (madeCells (#[.slice none 0 0]) ((x1 : Int).toNat * 1)) 84 fun b553 w554 =>
 AllocK w554 (#[(.int .i64 x1), (.int .i64 x2), (.int .i64 x3), (.slice (some b541) ((x1 : Int).toNat) ((x1 : Int).toNat)), (.slice none 0 0), (.slice (some b543) ((x1 : Int).toNat) ((x1 : Int).toNat)), (.slice (some b553) ((x1 : Int).toNat) ((x1 : Int).toNat)), (.slice (some b539) ((x1 : Int).toNat) ((x1 : Int).toNat)), (.slice (some b551) ((x1 : Int).toNat) ((x1 : Int).toNat)), (.slice none 0 0), (.slice none 0 0), (.slice none 0 0)]) 50 fun b555 w556 =>
 K (some b555) 0 w556)) ∧
 (((0 ≤ (x1 : Int) ∧ (x1 : Int) ≤ x1 ∧ ((24 : Nat) : Int) * x1 ≤ 281474976710656 ∧ (x1 : Int) ≤ 9223372036854775807) ∧
 AllocK w542 (madeCells (#[.slice none 0 0]) ((x1 : Int).toNat * 1)) 84 fun b557 w558 =>
 ((0 ≤ (x1 : Int) ∧ (x1 : Int) ≤ x1 ∧ ((24 : Nat) : Int) * x1 ≤ 281474976710656 ∧ (x1 : Int) ≤ 9223372036854775807) ∧
 AllocK w558 (madeCells (#[.slice none 0 0]) ((x1 : Int).toNat * 1)) 43 fun b559 w560 =>
 (0 ≤ (x1 : Int) ∧ (x1 : Int) ≤ x1 ∧ ((24 : Nat) : Int) * x1 ≤ 281474976710656 ∧ (x1 : Int) ≤ 9223372036854775807) ∧
 AllocK w560 (madeCells (#[.slice none 0 0]) ((x1 : Int).toNat * 1)) 84 fun b561 w562 =>
 AllocK w562 (#[(.int .i64 x1), (.int .i64 x2), (.int .i64 x3), (.slice (some b541) ((x1 : Int).toNat) ((x1 : Int).toNat)), (.slice none 0 0), (.slice (some b559) ((x1 : Int).toNat) ((x1 : Int).toNat)), (.slice (some b557) ((x1 : Int).toNat) ((x1 : Int).toNat)), (.slice (some b539) ((x1 : Int).toNat) ((x1 : Int).toNat)), (.slice (some b561) ((x1 : Int).toNat) ((x1 : Int).toNat)), (.slice none 0 0), (.slice none 0 0), (.slice none 0 0)]) 50 fun b563 w564 =>
 K (some b563) 0 w564) ∧
 ((0 ≤ (x1 : Int) ∧ (x1 : Int) ≤ x1 ∧ ((24 : Nat) : Int) * x1 ≤ 281474976710656 ∧ (x1 : Int) ≤ 9223372036854775807) ∧
 AllocK w558 (madeCells (#[.slice none 0 0]) ((x1 : Int).toNat * 1)) 84 fun b565 w566 =>
 (0 ≤ (x1 : Int) ∧ (x1 : Int) ≤ x1 ∧ ((24 : Nat) : Int) * x1 ≤ 281474976710656 ∧ (x1 : Int) ≤ 9223372036854775807) ∧
 AllocK w566 (madeCells (#[.slice none 0 0]) ((x1 : Int).toNat * 1)) 43 fun b567 w568 =>
 AllocK w568 (#[(.int .i64 x1), (.int .i64 x2), (.int .i64 x3), (.slice (some b541) ((x1 : Int).toNat) ((x1 : Int).toNat)), (.slice none 0 0), (.slice (some b567) ((x1 : Int).toNat) ((x1 : Int).toNat)), (.slice (some b557) ((x1 : Int).toNat) ((x1 : Int).toNat)), (.slice (some b539) ((x1 : Int).toNat) ((x1 : Int).toNat)), (.slice (some b565) ((x1 : Int).toNat) ((x1 : Int).toNat)), (.slice none 0 0), (.slice none 0 0), (.slice none 0 0)]) 50 fun b569 w570 =>
 K (some b569) 0 w570)) ∧
 ((0 ≤ (x1 : Int) ∧ (x1 : Int) ≤ x1 ∧ ((24 : Nat) : Int) * x1 ≤ 281474976710656 ∧ (x1 : Int) ≤ 9223372036854775807) ∧
 AllocK w542 (madeCells (#[.slice none 0 0]) ((x1 : Int).toNat * 1)) 84 fun b571 w572 =>
 ((0 ≤ (x1 : Int) ∧ (x1 : Int) ≤ x1 ∧ ((24 : Nat) : Int) * x1 ≤ 281474976710656 ∧ (x1 : Int) ≤ 9223372036854775807) ∧
 AllocK w572 (madeCells (#[.slice none 0 0]) ((x1 : Int).toNat * 1)) 43 fun b573 w574 =>
 (0 ≤ (x1 : Int) ∧ (x1 : Int) ≤ x1 ∧ ((24 : Nat) : Int) * x1 ≤ 281474976710656 ∧ (x1 : Int) ≤ 9223372036854775807) ∧
 AllocK w574 (madeCells (#[.slice none 0 0]) ((x1 : Int).toNat * 1)) 84 fun b575 w576 =>
 AllocK w576 (#[(.int .i64 x1), (.int .i64 x2), (.int .i64 x3), (.slice (some b541) ((x1 : Int).toNat) ((x1 : Int).toNat)), (.slice none 0 0), (.slice (some b573) ((x1 : Int).toNat) ((x1 : Int).toNat)), (.slice (some b575) ((x1 : Int).toNat) ((x1 : Int).toNat)), (.slice (some b539) ((x1 : Int).toNat) ((x1 : Int).toNat)), (.slice (some b571) ((x1 : Int).toNat) ((x1 : Int).toNat)), (.slice none 0 0), (.slice none 0 0), (.slice none 0 0)]) 50 fun b577 w578 =>
 K (some b577) 0 w578) ∧
 ((0 ≤ (x1 : Int) ∧ (x1 : Int) ≤ x1 ∧ ((24 : Nat) : Int) * x1 ≤ 281474976710656 ∧ (x1 : Int) ≤ 9223372036854775807) ∧
 AllocK w572 (madeCells (#[.slice none 0 0]) ((x1 : Int).toNat * 1)) 84 fun b579 w580 =>
 (0 ≤ (x1 : Int) ∧ (x1 : Int) ≤ x1 ∧ ((24 : Nat) : Int) * x1 ≤ 281474976710656 ∧ (x1 : Int) ≤ 9223372036854775807) ∧
 AllocK w580 (madeCells (#[.slice none 0 0]) ((x1 : Int).toNat * 1)) 43 fun b581 w582 =>
 AllocK w582 (#[(.int .i64 x1), (.int .i64 x2), (.int .i64 x3), (.slice (some b541) ((x1 : Int).toNat) ((x1 : Int).toNat)), (.slice none 0 0), (.slice (some b581) ((x1 : Int).toNat) ((x1 : Int).toNat)), (.slice (some b579) ((x1 : Int).toNat) ((x1 : Int).toNat)), (.slice (some b539) ((x1 : Int).toNat) ((x1 : Int).toNat)), (.slice (some b571) ((x1 : Int).toNat) ((x1 : Int).toNat)), (.slice none 0 0), (.slice none 0 0), (.slice none 0 0)]) 50 fun b583 w584 =>
 K (some b583) 0 w584)))) ∧
 (((0 ≤ (x1 : Int) ∧ (x1 : Int) ≤ x1 ∧ ((24 : Nat) : Int) * x1 ≤ 281474976710656 ∧ (x1 : Int) ≤ 9223372036854775807) ∧
 AllocK w540 (madeCells (#[.slice none 0 0]) ((x1 : Int).toNat * 1)) 43 fun b585 w586 =>
 ((0 ≤ (x1 : Int) ∧ (x1 : Int) ≤ x1 ∧ ((8 : Nat) : Int) * x1 ≤ 281474976710656 ∧ (x1 : Int) ≤ 9223372036854775807) ∧
 AllocK w586 (madeCells (#[.int .i64 0]) ((x1 : Int).toNat * 1)) 3 fun b587 w588 =>
 ((0 ≤ (x1 : Int) ∧ (x1 : Int) ≤ x1 ∧ ((24 : Nat) : Int) * x1 ≤ 281474976710656 ∧ (x1 : Int) ≤ 9223372036854775807) ∧
 AllocK w588 (madeCells (#[.slice none 0 0]) ((x1 : Int).toNat * 1)) 84 fun b589 w590 =>
 (0 ≤ (x1 : Int) ∧ (x1 : Int) ≤ x1 ∧ ((24 : Nat) : Int) * x1 ≤ 281474976710656 ∧ (x1 : Int) ≤ 9223372036854775807) ∧
 AllocK w590 (madeCells (#[.slice none 0 0]) ((x1 : Int).toNat * 1)) 84 fun b591 w592 =>
 AllocK w592 (#[(.int .i64 x1), (.int .i64 x2), (.int .i64 x3), (.slice (some b587) ((x1 : Int).toNat) ((x1 : Int).toNat)), (.slice none 0 0), (.slice (some b585) ((x1 : Int).toNat) ((x1 : Int).toNat)), (.slice (some b589) ((x1 : Int).toNat) ((x1 : Int).toNat)), (.slice (some b539) ((x1 : Int).toNat) ((x1 : Int).toNat)), (.slice (some b591) ((x1 : Int).toNat) ((x1 : Int).toNat)), (.slice none 0 0), (.slice none 0 0), (.slice none 0 0)]) 50 fun b593 w594 =>
 K (some b593) 0 w594) ∧
 ((0 ≤ (x1 : Int) ∧ (x1 : Int) ≤ x1 ∧ ((24 : Nat) : Int) * x1 ≤ 281474976710656 ∧ (x1 : Int) ≤ 9223372036854775807) ∧
 AllocK w588 (madeCells (#[.slice none 0 0]) ((x1 : Int).toNat * 1)) 84 fun b595 w596 =>
 (0 ≤ (x1 : Int) ∧ (x1 : Int) ≤ x1 ∧ ((24 : Nat) : Int) * x1 ≤ 281474976710656 ∧ (x1 : Int) ≤ 9223372036854775807) ∧
 AllocK w596 (madeCells (#[.slice none 0 0]) ((x1 : Int).toNat * 1)) 84 fun b597 w598 =>
 AllocK w598 (#[(.int .i64 x1), (.int .i64 x2), (.int .i64 x3), (.slice (some b587) ((x1 : Int).toNat) ((x1 : Int).toNat)), (.slice none 0 0), (.slice (some b585) ((x1 : Int).toNat) ((x1 : Int).toNat)), (.slice (some b597) ((x1 : Int).toNat) ((x1 : Int).toNat)), (.slice (some b539) ((x1 : Int).toNat) ((x1 : Int).toNat)), (.slice (some b595) ((x1 : Int).toNat) ((x1 : Int).toNat)), (.slice none 0 0), (.slice none 0 0), (.slice none 0 0)]) 50 fun b599 w600 =>
 K (some b599) 0 w600)) ∧
 (((0 ≤ (x1 : Int) ∧ (x1 : Int) ≤ x1 ∧ ((24 : Nat) : Int) * x1 ≤ 281474976710656 ∧ (x1 : Int) ≤ 9223372036854775807) ∧
 AllocK w586 (madeCells (#[.slice none 0 0]) ((x1 : Int).toNat * 1)) 84 fun b601 w602 =>
 ((0 ≤ (x1 : Int) ∧ (x1 : Int) ≤ x1 ∧ ((8 : Nat) : Int) * x1 ≤ 281474976710656 ∧ (x1 : Int) ≤ 9223372036854775807) ∧
 AllocK w602 (madeCells (#[.int .i64 0]) ((x1 : Int).toNat * 1)) 3 fun b603 w604 =>
 (0 ≤ (x1 : Int) ∧ (x1 : Int) ≤ x1 ∧ ((24 : Nat) : Int) * x1 ≤ 281474976710656 ∧ (x1 : Int) ≤ 9223372036854775807) ∧
 AllocK w604 (madeCells (#[.slice none 0 0]) ((x1 : Int).toNat * 1)) 84 fun b605 w606 =>
 AllocK w606 (#[(.int .i64 x1), (.int .i64 x2), (.int .i64 x3), (.slice (some b603) ((x1 : Int).toNat) ((x1 : Int).toNat)), (.slice none 0 0), (.slice (some b585) ((x1 : Int).toNat) ((x1 : Int).toNat)), (.slice (some b601) ((x1 : Int).toNat) ((x1 : Int).toNat)), (.slice (some b539) ((x1 : Int).toNat) ((x1 : Int).toNat)), (.slice (some b605) ((x1 : Int).toNat) ((x1 : Int).toNat)), (.slice none 0 0), (.slice none 0 0), (.slice none 0 0)]) 50 fun b607 w608 =>
 K (some b607) 0 w608) ∧
 ((0 ≤ (x1 : Int) ∧ (x1 : Int) ≤ x1 ∧ ((24 : Nat) : Int) * x1 ≤ 281474976710656 ∧ (x1 : Int) ≤ 9223372036854775807) ∧
 AllocK w602 (madeCells (#[.slice none 0 0]) ((x1 : Int).toNat * 1)) 84 fun b609 w610 =>
 (0 ≤ (x1 : Int) ∧ (x1 : Int) ≤ x1 ∧ ((8 : Nat) : Int) * x1 ≤ 281474976710656 ∧ (x1 : Int) ≤ 9223372036854775807) ∧
 AllocK w610 (madeCells (#[.int .i64 0]) ((x1 : Int).toNat * 1)) 3 fun b611 w612 =>
 AllocK w612 (#[(.int .i64 x1), (.int .i64 x2), (.int .i64 x3), (.slice (some b611) ((x1 : Int).toNat) ((x1 : Int).toNat)), (.slice none 0 0), (.slice (some b585) ((x1 : Int).toNat) ((x1 : Int).toNat)), (.slice (some b601) ((x1 : Int).toNat) ((x1 : Int).toNat)), (.slice (some b539) ((x1 : Int).toNat) ((x1 : Int).toNat)), (.slice (some b609) ((x1 : Int).toNat) ((x1 : Int).toNat)), (.slice none 0 0), (.slice none 0 0), (.slice none 0 0)]) 50 fun b613 w614 =>
 K (some b613) 0 w614)) ∧
 ((0 ≤ (x1 : Int) ∧ (x1 : Int) ≤ x1 ∧ ((24 : Nat) : Int) * x1 ≤ 281474976710656 ∧ (x1 : Int) ≤ 9223372036854775807) ∧
 AllocK w586 (madeCells (#[.slice none 0 0]) ((x1 : Int).toNat * 1)) 84 fun b615 w616 =>
 ((0 ≤ (x1 : Int) ∧ (x1 : Int) ≤ x1 ∧ ((8 : Nat) : Int) * x1 ≤ 281474976710656 ∧ (x1 : Int) ≤ 9223372036854775807) ∧
 AllocK w616 (madeCells (#[.int .i64 0]) ((x1 : Int).toNat * 1)) 3 fun b617 w618 =>
 (0 ≤ (x1 : Int) ∧ (x1 : Int) ≤ x1 ∧ ((24 : Nat) : Int) * x1 ≤ 281474976710656 ∧ (x1 : Int) ≤ 9223372036854775807) ∧
 AllocK w618 (madeCells (#[.slice none 0 0]) ((x1 : Int).toNat * 1)) 84 fun b619 w620 =>
 AllocK w620 (#[(.int .i64 x1), (.int .i64 x2), (.int .i64 x3), (.slice (some b617) ((x1 : Int).toNat) ((x1 : Int).toNat)), (.slice none 0 0), (.slice (some b585) ((x1 : Int).toNat) ((x1 : Int).toNat)), (.slice (some b619) ((x1 : Int).toNat) ((x1 : Int).toNat)), (.slice (some b539) ((x1 : Int).toNat) ((x1 : Int).toNat)), (.slice (some b615) ((x1 : Int).toNat) ((x1 : Int).toNat)), (.slice none 0 0), (.slice none 0 0), (.slice none 0 0)]) 50 fun b621 w622 =>
 K (some b621) 0 w622) ∧
 ((0 ≤ (x1 : Int) ∧ (x1 : Int) ≤ x1 ∧ ((24 : Nat) : Int) * x1 ≤ 281474976710656 ∧ (x1 : Int) ≤ 9223372036854775807) ∧
 AllocK w616 (madeCells (#[.slice none 0 0]) ((x1 : Int).toNat * 1)) 84 fun b623 w624 =>
 (0 ≤ (x1 : Int) ∧ (x1 : Int) ≤ x1 ∧ ((8 : Nat) : Int) * x1 ≤ 281474976710656 ∧ (x1 : Int) ≤ 9223372036854775807) ∧
 AllocK w624 (madeCells (#[.int .i64 0]) ((x1 : Int).toNat * 1)) 3 fun b625 w626 =>
 AllocK w626 (#[(.int .i64 x1), (.int .i64 x2), (.int .i64 x3), (.slice (some b625) ((x1 : Int).toNat) ((x1 : Int).toNat)), (.slice none 0 0), (.slice (some b585) ((x1 : Int).toNat) ((x1 : Int).toNat)), (.slice (some b623) ((x1 : Int).toNat) ((x1 : Int).toNat)), (.slice (some b539) ((x1 : Int).toNat) ((x1 : Int).toNat)), (.slice (some b615) ((x1 : Int).toNat) ((x1 : Int).toNat)), (.slice none 0 0), (.slice none 0 0), (.slice none 0 0)]) 50 fun b627 w628 =>
 K (some b627) 0 w628)))) ∧
 (((0 ≤ (x1 : Int) ∧ (x1 : Int) ≤ x1 ∧ ((24 : Nat) : Int) * x1 ≤ 281474976710656 ∧ (x1 : Int) ≤ 9223372036854775807) ∧
 AllocK w540 (madeCells (#[.slice none 0 0]) ((x1 : Int).toNat * 1)) 84 fun b629 w630 =>
 ((0 ≤ (x1 : Int) ∧ (x1 : Int) ≤ x1 ∧ ((8 : Nat) : Int) * x1 ≤ 281474976710656 ∧ (x1 : Int) ≤ 9223372036854775807) ∧
 AllocK w630 (madeCells (#[.int .i64 0]) ((x1 : Int).toNat * 1)) 3 fun b631 w632 =>
 ((0 ≤ (x1 : Int) ∧ (x1 : Int) ≤ x1 ∧ ((24 : Nat) : Int) * x1 ≤ 281474976710656 ∧ (x1 : Int) ≤ 9223372036854775807) ∧
 AllocK w632 (madeCells (#[.slice none 0 0]) ((x1 : Int).toNat * 1)) 43 fun b633 w634 =>
 (0 ≤ (x1 : Int) ∧ (x1 : Int) ≤ x1 ∧ ((24 : Nat) : Int) * x1 ≤ 281474976710656 ∧ (x1 : Int) ≤ 9223372036854775807) ∧
 AllocK w634 (madeCells (#[.slice none 0 0]) ((x1 : Int).toNat * 1)) 84 fun b635 w636 =>
 AllocK w636 (#[(.int .i64 x1), (.int .i64 x2), (.int .i64 x3), (.slice (some b631) ((x1 : Int).toNat) ((x1 : Int).toNat)), (.slice none 0 0), (.slice (some b633) ((x1 : Int).toNat) ((x1 : Int).toNat)), (.slice (some b629) ((x1 : Int).toNat) ((x1 : Int).toNat)), (.slice (some b539) ((x1 : Int).toNat) ((x1 : Int).toNat)), (.slice (some b635) ((x1 : Int).toNat) ((x1 : Int).toNat)), (.slice none 0 0), (.slice none 0 0), (.slice none 0 0)]) 50 fun b637 w638 =>
 K (some b637) 0 w638) ∧
 ((0 ≤ (x1 : Int) ∧ (x1 : Int) ≤ x1 ∧ ((24 : Nat) : Int) * x1 ≤ 281474976710656 ∧ (x1 : Int) ≤ 9223372036854775807) ∧
 AllocK w632 (madeCells (#[.slice none 0 0]) ((x1 : Int).toNat * 1)) 84 fun b639 w640 =>
 (0 ≤ (x1 : Int) ∧ (x1 : Int) ≤ x1 ∧ ((24 : Nat) : Int) * x1 ≤ 281474976710656 ∧ (x1 : Int) ≤ 9223372036854775807) ∧
 AllocK w640 (madeCells (#[.slice none 0 0]) ((x1 : Int).toNat * 1)) 43 fun b641 w642 =>
 AllocK w642 (#[(.int .i64 x1), (.int .i64 x2), (.int .i64 x3), (.slice (some b631) ((x1 : Int).toNat) ((x1 : Int).toNat)), (.slice none 0 0), (.slice (some b641) ((x1 : Int).toNat) ((x1 : Int).toNat)), (.slice (some b629) ((x1 : Int).toNat) ((x1 : Int).toNat)), (.slice (some b539) ((x1 : Int).toNat) ((x1 : Int).toNat)), (.slice (some b639) ((x1 : Int).toNat) ((x1 : Int).toNat)), (.slice none 0 0), (.slice none 0 0), (.slice none 0 0)]) 50 fun b643 w644 =>
 K (some b643) 0 w644)) ∧
 (((0 ≤ (x1 : Int) ∧ (x1 : Int) ≤ x1 ∧ ((24 : Nat) : Int) * x1 ≤ 281474976710656 ∧ (x1 : Int) ≤ 9223372036854775807) ∧
 AllocK w630 (madeCells (#[.slice none 0 0]) ((x1 : Int).toNat * 1)) 43 fun b645 w646 =>
 ((0 ≤ (x1 : Int) ∧ (x1 : Int) ≤ x1 ∧ ((8 : Nat) : Int) * x1 ≤ 281474976710656 ∧ (x1 : Int) ≤ 9223372036854775807) ∧
 AllocK w646 (madeCells (#[.int .i64 0]) ((x1 : Int).toNat * 1)) 3 fun b647 w648 =>
 (0 ≤ (x1 : Int) ∧ (x1 : Int) ≤ x1 ∧ ((24 : Nat) : Int) * x1 ≤ 281474976710656 ∧ (x1 : Int) ≤ 9223372036854775807) ∧
 AllocK w648 (madeCells (#[.slice none 0 0]) ((x1 : Int).toNat * 1)) 84 fun b649 w650 =>
 AllocK w650 (#[(.int .i64 x1), (.int .i64 x2), (.int .i64 x3), (.slice (some b647) ((x1 : Int).toNat) ((x1 : Int).toNat)), (.slice none 0 0), (.slice (some b645) ((x1 : Int).toNat) ((x1 : Int).toNat)), (.slice (some b629) ((x1 : Int).toNat) ((x1 : Int).toNat)), (.slice (some b539) ((x1 : Int).toNat) ((x1 : Int).toNat)), (.slice (some b649) ((x1 : Int).toNat) ((x1 : Int).toNat)), (.slice none 0 0), (.slice none 0 0), (.slice none 0 0)]) 50 fun b651 w652 =>
 K (some b651) 0 w652) ∧
 ((0 ≤ (x1 : Int) ∧ (x1 : Int) ≤ x1 ∧ ((24 : Nat) : Int) * x1 ≤ 281474976710656 ∧ (x1 : Int) ≤ 9223372036854775807) ∧
 AllocK w646 (madeCells (#[.slice none 0 0]) ((x1 : Int).toNat * 1)) 84 fun b653 w654 =>
 (0 ≤ (x1 : Int) ∧ (x1 : Int) ≤ x1 ∧ ((8 : Nat) : Int) * x1 ≤ 281474976710656 ∧ (x1 : Int) ≤ 9223372036854775807) ∧
 AllocK w654 (madeCells (#[.int .i64 0]) ((x1 : Int).toNat * 1)) 3 fun b655 w656 =>
 AllocK w656 (#[(.int .i64 x1), (.int .i64 x2), (.int .i64 x3), (.slice (some b655) ((x1 : Int).toNat) ((x1 : Int).toNat)), (.slice none 0 0), (.slice (some b645) ((x1 : Int).toNat) ((x1 : Int).toNat)), (.slice (some b629) ((x1 : Int).toNat) ((x1 : Int).toNat)), (.slice (some b539) ((x1 : Int).toNat) ((x1 : Int).toNat)), (.slice (some b653) ((x1 : Int).toNat) ((x1 : Int).toNat)), (.slice none 0 0), (.slice none 0 0), (.slice none 0 0)]) 50 fun b657 w658 =>
 K (some b657) 0 w658)) ∧
 ((0 ≤ (x1 : Int) ∧ (x1 : Int) ≤ x1 ∧ ((24 : Nat) : Int) * x1 ≤ 281474976710656 ∧ (x1 : Int) ≤ 9223372036854775807) ∧
 AllocK w630 (madeCells (#[.slice none 0 0]) ((x1 : Int).toNat * 1)) 84 fun b659 w660 =>
 ((0 ≤ (x1 : Int) ∧ (x1 : Int) ≤ x1 ∧ ((8 : Nat) : Int) * x1 ≤ 281474976710656 ∧ (x1 : Int) ≤ 9223372036854775807) ∧
 AllocK w660 (madeCells (#[.int .i64 0]) ((x1 : Int).toNat * 1)) 3 fun b661 w662 =>
 (0 ≤ (x1 : Int) ∧ (x1 : Int) ≤ x1 ∧ ((24 : Nat) : Int) * x1 ≤ 281474976710656 ∧ (x1 : Int) ≤ 9223372036854775807) ∧
 AllocK w662 (madeCells (#[.slice none 0 0]) ((x1 : Int).toNat * 1)) 43 fun b663 w664 =>
 AllocK w664 (#[(.int .i64 x1), (.int .i64 x2), (.int .i64 x3), (.slice (some b661) ((x1 : Int).toNat) ((x1 : Int).toNat)), (.slice none 0 0), (.slice (some b663) ((x1 : Int).toNat) ((x1 : Int).toNat)), (.slice (some b629) ((x1 : Int).toNat) ((x1 : Int).toNat)), (.slice (some b539) ((x1 : Int).toNat) ((x1 : Int).toNat)), (.slice (some b659) ((x1 : Int).toNat) ((x1 : Int).toNat)), (.slice none 0 0), (.slice none 0 0), (.slice none 0 0)]) 50 fun b665 w666 =>
 K (some b665) 0 w666) ∧
 ((0 ≤ (x1 : Int) ∧ (x1 : Int) ≤ x1 ∧ ((24 : Nat) : Int) * x1 ≤ 281474976710656 ∧ (x1 : Int) ≤ 9223372036854775807) ∧
 AllocK w660 (madeCells (#[.slice none 0 0]) ((x1 : Int).toNat * 1)) 43 fun b667 w668 =>
 (0 ≤ (x1 : Int) ∧ (x1 : Int) ≤ x1 ∧ ((8 : Nat) : Int) * x1 ≤ 281474976710656 ∧ (x1 : Int) ≤ 9223372036854775807) ∧
 AllocK w668 (madeCells (#[.int .i64 0]) ((x1 : Int).toNat * 1)) 3 fun b669 w670 =>
 AllocK w670 (#[(.int .i64 x1), (.int .i64 x2), (.int .i64 x3), (.slice (some b669) ((x1 : Int).toNat) ((x1 : Int).toNat)), (.slice none 0 0), (.slice (some b667) ((x1 : Int).toNat) ((x1 : Int).toNat)), (.slice (some b629) ((x1 : Int).toNat) ((x1 : Int).toNat)), (.slice (some b539) ((x1 : Int).toNat) ((x1 : Int).toNat)), (.slice (some b659) ((x1 : Int).toNat) ((x1 : Int).toNat)), (.slice none 0 0), (.slice none 0 0), (.slice none 0 0)]) 50 fun b671 w672 =>
 K (some b671) 0 w672)))) ∧
 ((0 ≤ (x1 : Int) ∧ (x1 : Int) ≤ x1 ∧ ((24 : Nat) : Int) * x1 ≤ 281474976710656 ∧ (x1 : Int) ≤ 9223372036854775807) ∧
 AllocK w540 (madeCells (#[.slice none 0 0]) ((x1 : Int).toNat * 1)) 84 fun b673 w674 =>
 ((0 ≤ (x1 : Int) ∧ (x1 : Int) ≤ x1 ∧ ((8 : Nat) : Int) * x1 ≤ 281474976710656 ∧ (x1 : Int) ≤ 9223372036854775807) ∧
 AllocK w674 (madeCells (#[.int .i64 0]) ((x1 : Int).toNat * 1)) 3 fun b675 w676 =>
 ((0 ≤ (x1 : Int) ∧ (x1 : Int) ≤ x1 ∧ ((24 : Nat) : Int) * x1 ≤ 281474976710656 ∧ (x1 : Int) ≤ 9223372036854775807) ∧
 AllocK w676 (madeCells (#[.slice none 0 0]) ((x1 : Int).toNat * 1)) 43 fun b677 w678 =>
 (0 ≤ (x1 : Int) ∧ (x1 : Int) ≤ x1 ∧ ((24 : Nat) : Int) * x1 ≤ 281474976710656 ∧ (x1 : Int) ≤ 9223372036854775807) ∧
 AllocK w678 (madeCells (#[.slice none 0 0]) ((x1 : Int).toNat * 1)) 84 fun b679 w680 =>
 AllocK w680 (#[(.int .i64 x1), (.int .i64 x2), (.int .i64 x3), (.slice (some b675) ((x1 : Int).toNat) ((x1 : Int).toNat)), (.slice none 0 0), (.slice (some b677) ((x1 : Int).toNat) ((x1 : Int).toNat)), (.slice (some b679) ((x1 : Int).toNat) ((x1 : Int).toNat)), (.slice (some b539) ((x1 : Int).toNat) ((x1 : Int).toNat)), (.slice (some b673) ((x1 : Int).toNat) ((x1 : Int).toNat)), (.slice none 0 0), (.slice none 0 0), (.slice none 0 0)]) 50 fun b681 w682 =>
 K (some b681) 0 w682) ∧
 ((0 ≤ (x1 : Int) ∧ (x1 : Int) ≤ x1 ∧ ((24 : Nat) : Int) * x1 ≤ 281474976710656 ∧ (x1 : Int) ≤ 9223372036854775807) ∧
 AllocK w676 (madeCells (#[.slice none 0 0]) ((x1 : Int).toNat * 1)) 84 fun b683 w684 =>
 (0 ≤ (x1 : Int) ∧ (x1 : Int) ≤ x1 ∧ ((24 : Nat) : Int) * x1 ≤ 281474976710656 ∧ (x1 : Int) ≤ 9223372036854775807) ∧
 AllocK w684 (madeCells (#[.slice none 0 0]) ((x1 : Int).toNat * 1)) 43 fun b685 w686 =>
 AllocK w686 (#[(.int .i64 x1), (.int .i64 x2), (.int .i64 x3), (.slice (some b675) ((x1 : Int).toNat) ((x1 : Int).toNat)), (.slice none 0 0), (.slice (some b685) ((x1 : Int).toNat) ((x1 : Int).toNat)), (.slice (some b683) ((x1 : Int).toNat) ((x1 : Int).toNat)), (.slice (some b539) ((x1 : Int).toNat) ((x1 : Int).toNat)), (.slice (some b673) ((x1 : Int).toNat) ((x1 : Int).toNat)), (.slice none 0 0), (.slice none 0 0), (.slice none 0 0)]) 50 fun b687 w688 =>
 K (some b687) 0 w688)) ∧
 (((0 ≤ (x1 : Int) ∧ (x1 : Int) ≤ x1 ∧ ((24 : Nat) : Int) * x1 ≤ 281474976710656 ∧ (x1 : Int) ≤ 9223372036854775807) ∧
 AllocK w674 (madeCells (#[.slice none 0 0]) ((x1 : Int).toNat * 1)) 43 fun b689 w690 =>
 ((0 ≤ (x1 : Int) ∧ (x1 : Int) ≤ x1 ∧ ((8 : Nat) : Int) * x1 ≤ 281474976710656 ∧ (x1 : Int) ≤ 9223372036854775807) ∧
 AllocK w690 (madeCells (#[.int .i64 0]) ((x1 : Int).toNat * 1)) 3 fun b691 w692 =>
 (0 ≤ (x1 : Int) ∧ (x1 : Int) ≤ x1 ∧ ((24 : Nat) : Int) * x1 ≤ 281474976710656 ∧ (x1 : Int) ≤ 9223372036854775807) ∧
 AllocK w692 (madeCells (#[.slice none 0 0]) ((x1 : Int).toNat * 1)) 84 fun b693 w694 =>
 AllocK w694 (#[(.int .i64 x1), (.int .i64 x2), (.int .i64 x3), (.slice (some b691) ((x1 : Int).toNat) ((x1 : Int).toNat)), (.slice none 0 0), (.slice (some b689) ((x1 : Int).toNat) ((x1 : Int).toNat)), (.slice (some b693) ((x1 : Int).toNat) ((x1 : Int).toNat)), (.slice (some b539) ((x1 : Int).toNat) ((x1 : Int).toNat)), (.slice (some b673) ((x1 : Int).toNat) ((x1 : Int).toNat)), (.slice none 0 0), (.slice none 0 0), (.slice none 0 0)]) 50 fun b695 w696 =>
 K (some b695) 0 w696) ∧
 ((0 ≤ (x1 : Int) ∧ (x1 : Int) ≤ x1 ∧ ((24 : Nat) : Int) * x1 ≤ 281474976710656 ∧ (x1 : Int) ≤ 9223372036854775807) ∧
 AllocK w690 (madeCells (#[.slice none 0 0]) ((x1 : Int).toNat * 1)) 84 fun b697 w698 =>
 (0 ≤ (x1 : Int) ∧ (x1 : Int) ≤ x1 ∧ ((8 : Nat) : Int) * x1 ≤ 281474976710656 ∧ (x1 : Int) ≤ 9223372036854775807) ∧
 AllocK w698 (madeCells (#[.int .i64 0]) ((x1 : Int).toNat * 1)) 3 fun b699 w700 =>
 AllocK w700 (#[(.int .i64 x1), (.int .i64 x2), (.int .i64 x3), (.slice (some b699) ((x1 : Int).toNat) ((x1 : Int).toNat)), (.slice none 0 0), (.slice (some b689) ((x1 : Int).toNat) ((x1 : Int).toNat)), (.slice (some b697) ((x1 : Int).toNat) ((x1 : Int).toNat)), (.slice (some b539) ((x1 : Int).toNat) ((x1 : Int).toNat)), (.slice (some b673) ((x1 : Int).toNat) ((x1 : Int).toNat)), (.slice none 0 0), (.slice none 0 0), (.slice none 0 0)]) 50 fun b701 w702 =>
 K (some b701) 0 w702)) ∧
 ((0 ≤ (x1 : Int) ∧ (x1 : Int) ≤ x1 ∧ ((24 : Nat) : Int) * x1 ≤ 281474976710656 ∧ (x1 : Int) ≤ 9223372036854775807) ∧
 AllocK w674 (madeCells (#[.slice none 0 0]) ((x1 : Int).toNat * 1)) 84 fun b703 w704 =>
 ((0 ≤ (x1 : Int) ∧ (x1 : Int) ≤ x1 ∧ ((8 : Nat) : Int) * x1 ≤ 281474976710656 ∧ (x1 : Int) ≤ 9223372036854775807) ∧
 AllocK w704 (madeCells (#[.int .i64 0]) ((x1 : Int).toNat * 1)) 3 fun b705 w706 =>
 (0 ≤ (x1 : Int) ∧ (x1 : Int) ≤ x1 ∧ ((24 : Nat) : Int) * x1 ≤ 281474976710656 ∧ (x1 : Int) ≤ 9223372036854775807) ∧
 AllocK w706 (madeCells (#[.slice none 0 0]) ((x1 : Int).toNat * 1)) 43 fun b707 w708 =>
 AllocK w708 (#[(.int .i64 x1), (.int .i64 x2), (.int .i64 x3), (.slice (some b705) ((x1 : Int).toNat) ((x1 : Int).toNat)), (.slice none 0 0), (.slice (some b707) ((x1 : Int).toNat) ((x1 : Int).toNat)), (.slice (some b703) ((x1 : Int).toNat) ((x1 : Int).toNat)), (.slice (some b539) ((x1 : Int).toNat) ((x1 : Int).toNat)), (.slice (some b673) ((x1 : Int).toNat) ((x1 : Int).toNat)), (.slice none 0 0), (.slice none 0 0), (.slice none 0 0)]) 50 fun b709 w710 =>
 K (some b709) 0 w710) ∧
 ((0 ≤ (x1 : Int) ∧ (x1 : Int) ≤ x1 ∧ ((24 : Nat) : Int) * x1 ≤ 281474976710656 ∧ (x1 : Int) ≤ 9223372036854775807) ∧
 AllocK w704 (madeCells (#[.slice none 0 0]) ((x1 : Int).toNat * 1)) 43 fun b711 w712 =>
 (0 ≤ (x1 : Int) ∧ (x1 : Int) ≤ x1 ∧ ((8 : Nat) : Int) * x1 ≤ 281474976710656 ∧ (x1 : Int) ≤ 9223372036854775807) ∧
 AllocK w712 (madeCells (#[.int .i64 0]) ((x1 : Int).toNat * 1)) 3 fun b713 w714 =>
 AllocK w714 (#[(.int .i64 x1), (.int .i64 x2), (.int .i64 x3), (.slice (some b713) ((x1 : Int).toNat) ((x1 : Int).toNat)), (.slice none 0 0), (.slice (some b711) ((x1 : Int).toNat) ((x1 : Int).toNat)), (.slice (some b703) ((x1 : Int).toNat) ((x1 : Int).toNat)), (.slice (some b539) ((x1 : Int).toNat) ((x1 : Int).toNat)), (.slice (some b673) ((x1 : Int).toNat) ((x1 : Int).toNat)), (.slice none 0 0), (.slice none 0 0), (.slice none 0 0)]) 50 fun b715 w716 =>
 K (some b715) 0 w716))))))) ∧
 ((0 ≤ (x1 : Int) ∧ (x1 : Int) ≤ x1 ∧ ((24 : Nat) : Int) * x1 ≤ 281474976710656 ∧ (x1 : Int) ≤ 9223372036854775807) ∧
 AllocK w4 (madeCells (#[.slice none 0 0]) ((x1 : Int).toNat * 1)) 84 fun b717 w718 =>
 ((0 ≤ (x1 : Int) ∧ (x1 : Int) ≤ x1 ∧ ((8 : Nat) : Int) * x1 ≤ 281474976710656 ∧ (x1 : Int) ≤ 9223372036854775807) ∧
 AllocK w718 (madeCells (#[.int .i64 0]) ((x1 : Int).toNat * 1)) 3 fun b719 w720 =>
 ((0 ≤ (x1 : Int) ∧ (x1 : Int) ≤ x1 ∧ ((24 : Nat) : Int) * x1 ≤ 281474976710656 ∧ (x1 : Int) ≤ 9223372036854775807) ∧
 AllocK w720 (madeCells (#[.slice none 0 0]) ((x1 : Int).toNat * 1)) 43 fun b721 w722 =>
 ((0 ≤ (x1 : Int) ∧ (x1 : Int) ≤ x1 ∧ ((24 : Nat) : Int) * x1 ≤ 281474976710656 ∧ (x1 : Int) ≤ 9223372036854775807) ∧
 AllocK w722 (madeCells (#[.slice none 0 0]) ((x1 : Int).toNat * 1)) 84 fun b723 w724 =>
 (0 ≤ (x1 : Int) ∧ (x1 : Int) ≤ x1 ∧ ((24 : Nat) : Int) * x1 ≤ 281474976710656 ∧ (x1 : Int) ≤ 9223372036854775807) ∧
 AllocK w724 (madeCells (#[.slice none 0 0]) ((x1 : Int).toNat * 1)) 84 fun b725 w726 =>
 AllocK w726 (#[(.int .i64 x1), (.int .i64 x2), (.int .i64 x3), (.slice (some b719) ((x1 : Int).toNat) ((x1 : Int).toNat)), (.slice none 0 0), (.slice (some b721) ((x1 : Int).toNat) ((x1 : Int).toNat)), (.slice (some b723) ((x1 : Int).toNat) ((x1 : Int).toNat)), (.slice (some b725) ((x1 : Int).toNat) ((x1 : Int).toNat)), (.slice (some b717) ((x1 : Int).toNat) ((x1 : Int).toNat)), (.slice none 0 0), (.slice none 0 0), (.slice none 0 0)]) 50 fun b727 w728 =>
 K (some b727) 0 w728) ∧
 ((0 ≤ (x1 : Int) ∧ (x1 : Int) ≤ x1 ∧ ((24 : Nat) : Int) * x1 ≤ 281474976710656 ∧ (x1 : Int) ≤ 9223372036854775807) ∧
 AllocK w722 (madeCells (#[.slice none 0 0]) ((x1 : Int).toNat * 1)) 84 fun b729 w730 =>
 (0 ≤ (x1 : Int) ∧ (x1 : Int) ≤ x1 ∧ ((24 : Nat) : Int) * x1 ≤ 281474976710656 ∧ (x1 : Int) ≤ 9223372036854775807) ∧
 AllocK w730 (madeCells (#[.slice none 0 0]) ((x1 : Int).toNat * 1)) 84 fun b731 w732 =>
 AllocK w732 (#[(.int .i64 x1), (.int .i64 x2), (.int .i64 x3), (.slice (some b719) ((x1 : Int).toNat) ((x1 : Int).toNat)), (.slice none 0 0), (.slice (some b721) ((x1 : Int).toNat) ((x1 : Int).toNat)), (.slice (some b731) ((x1 : Int).toNat) ((x1 : Int).toNat)), (.slice (some b729) ((x1 : Int).toNat) ((x1 : Int).toNat)), (.slice (some b717) ((x1 : Int).toNat) ((x1 : Int).toNat)), (.slice none 0 0), (.slice none 0 0), (.slice none 0 0)]) 50 fun b733 w734 =>
 K (some b733) 0 w734)) ∧
 (((0 ≤ (x1 : Int) ∧ (x1 : Int) ≤ x1 ∧ ((24 : Nat) : Int) * x1 ≤ 281474976710656 ∧ (x1 : Int) ≤ 9223372036854775807) ∧
 AllocK w720 (madeCells (#[.slice none 0 0]) ((x1 : Int).toNat * 1)) 84 fun b735 w736 =>
 ((0 ≤ (x1 : Int) ∧ (x1 : Int) ≤ x1 ∧ ((24 : Nat) : Int) * x1 ≤ 281474976710656 ∧ (x1 : Int) ≤ 9223372036854775807) ∧
 AllocK w736 (madeCells (#[.slice none 0 0]) ((x1 : Int).toNat * 1)) 43 fun b737 w738 =>
 (0 ≤ (x1 : Int) ∧ (x1 : Int) ≤ x1 ∧ ((24 : Nat) : Int) * x1 ≤ 281474976710656 ∧ (x1 : Int) ≤ 9223372036854775807) ∧
 AllocK w738 (madeCells (#[.slice none 0 0]) ((x1 : Int).toNat * 1)) 84 fun b739 w740 =>
 AllocK w740 (#[(.int .i64 x1), (.int .i64 x2), (.int .i64 x3), (.slice (some b719) ((x1 : Int).toNat) ((x1 : Int).toNat)), (.slice none 0 0), (.slice (some b737) ((x1 : Int).toNat) ((x1 : Int).toNat)), (.slice (some b735) ((x1 : Int).toNat) ((x1 : Int).toNat)), (.slice (some b739) ((x1 : Int).toNat) ((x1 : Int).toNat)), (.slice (some b717) ((x1 : Int).toNat) ((x1 : Int).toNat)), (.slice none 0 0), (.slice none 0 0), (.slice none 0 0)]) 50 fun b741 w742 =>
 K (some b741) 0 w742) ∧
 ((0 ≤ (x1 : Int) ∧ (x1 : Int) ≤ x1 ∧ ((24 : Nat) : Int) * x1 ≤ 281474976710656 ∧ (x1 : Int) ≤ 9223372036854775807) ∧
 AllocK w736 (madeCells (#[.slice none 0 0]) ((x1 : Int).toNat * 1)) 84 fun b743 w744 =>
 (0 ≤ (x1 : Int) ∧ (x1 : Int) ≤ x1 ∧ ((24 : Nat) : Int) * x1 ≤ 281474976710656 ∧ (x1 : Int) ≤ 9223372036854775807) ∧
 AllocK w744 (madeCells (#[.slice none 0 0]) ((x1 : Int).toNat * 1)) 43 fun b745 w746 =>
 AllocK w746 (#[(.int .i64 x1), (.int .i64 x2), (.int .i64 x3), (.slice (some b719) ((x1 : Int).toNat) ((x1 : Int).toNat)), (.slice none 0 0), (.slice (some b745) ((x1 : Int).toNat) ((x1 : Int).toNat)), (.slice (some b735) ((x1 : Int).toNat) ((x1 : Int).toNat)), (.slice (some b743) ((x1 : Int).toNat) ((x1 : Int).toNat)), (.slice (some b717) ((x1 : Int).toNat) ((x1 : Int).toNat)), (.slice none 0 0), (.slice none 0 0), (.slice none 0 0)]) 50 fun b747 w748 =>
 K (some b747) 0 w748)) ∧
 ((0 ≤ (x1 : Int) ∧ (x1 : Int) ≤ x1 ∧ ((24 : Nat) : Int) * x1 ≤ 281474976710656 ∧ (x1 : Int) ≤ 9223372036854775807) ∧
 AllocK w720 (madeCells (#[.slice none 0 0]) ((x1 : Int).toNat * 1)) 84 fun b749 w750 =>
 ((0 ≤ (x1 : Int) ∧ (x1 : Int) ≤ x1 ∧ ((24 : Nat) : Int) * x1 ≤ 281474976710656 ∧ (x1 : Int) ≤ 9223372036854775807) ∧
 AllocK w750 (madeCells (#[.slice none 0 0]) ((x1 : Int).toNat * 1)) 43 fun b751 w752 =>
 (0 ≤ (x1 : Int) ∧ (x1 : Int) ≤ x1 ∧ ((24 : Nat) : Int) * x1 ≤ 281474976710656 ∧ (x1 : Int) ≤ 9223372036854775807) ∧
 AllocK w752 (madeCells (#[.slice none 0 0]) ((x1 : Int).toNat * 1)) 84 fun b753 w754 =>
 AllocK w754 (#[(.int .i64 x1), (.int .i64 x2), (.int .i64 x3), (.slice (some b719) ((x1 : Int).toNat) ((x1 : Int).toNat)), (.slice none 0 0), (.slice (some b751) ((x1 : Int).toNat) ((x1 : Int).toNat)), (.slice (some b753) ((x1 : Int).toNat) ((x1 : Int).toNat)), (.slice (some b749) ((x1 : Int).toNat) ((x1 : Int).toNat)), (.slice (some b717) ((x1 : Int).toNat) ((x1 : Int).toNat)), (.slice none 0 0), (.slice none 0 0), (.slice none 0 0)]) 50 fun b755 w756 =>
 K (some b755) 0 w756) ∧
 ((0 ≤ (x1 : Int) ∧ (x1 : Int) ≤ x1 ∧ ((24 : Nat) : Int) * x1 ≤ 281474976710656 ∧ (x1 : Int) ≤ 9223372036854775807) ∧
 AllocK w750 (madeCells (#[.slice none 0 0]) ((x1 : Int).toNat * 1)) 84 fun b757 w758 =>
 (0 ≤ (x1 : Int) ∧ (x1 : Int) ≤ x1 ∧ ((24 : Nat) : Int) * x1 ≤ 281474976710656 ∧ (x1 : Int) ≤ 9223372036854775807) ∧
 AllocK w758 (madeCells (#[.slice none 0 0]) ((x1 : Int).toNat * 1)) 43 fun b759 w760 =>
 AllocK w760 (#[(.int .i64 x1), (.int .i64 x2), (.int .i64 x3), (.slice (some b719) ((x1 : Int).toNat) ((x1 : Int).toNat)), (.slice none 0 0), (.slice (some b759) ((x1 : Int).toNat) ((x1 : Int).toNat)), (.slice (some b757) ((x1 : Int).toNat) ((x1 : Int).toNat)), (.slice (some b749) ((x1 : Int).toNat) ((x1 : Int).toNat)), (.slice (some b717) ((x1 : Int).toNat) ((x1 : Int).toNat)), (.slice none 0 0), (.slice none 0 0), (.slice none 0 0)]) 50 fun b761 w762 =>
 K (some b761) 0 w762)))) ∧
 (((0 ≤ (x1 : Int) ∧ (x1 : Int) ≤ x1 ∧ ((24 : Nat) : Int) * x1 ≤ 281474976710656 ∧ (x1 : Int) ≤ 9223372036854775807) ∧
 AllocK w718 (madeCells (#[.slice none 0 0]) ((x1 : Int).toNat * 1)) 43 fun b763 w764 =>
 ((0 ≤ (x1 : Int) ∧ (x1 : Int) ≤ x1 ∧ ((8 : Nat) : Int) * x1 ≤ 281474976710656 ∧ (x1 : Int) ≤ 9223372036854775807) ∧
 AllocK w764 (madeCells (#[.int .i64 0]) ((x1 : Int).toNat * 1)) 3 fun b765 w766 =>
 ((0 ≤ (x1 : Int) ∧ (x1 : Int) ≤ x1 ∧ ((24 : Nat) : Int) * x1 ≤ 281474976710656 ∧ (x1 : Int) ≤ 9223372036854775807) ∧
 AllocK w766 (madeCells (#[.slice none 0 0]) ((x1 : Int).toNat * 1)) 84 fun b767 w768 =>
 (0 ≤ (x1 : Int) ∧ (x1 : Int) ≤ x1 ∧ ((24 : Nat) : Int) * x1 ≤ 281474976710656 ∧ (x1 : Int) ≤ 9223372036854775807) ∧
 AllocK w768 (madeCells (#[.slice none 0 0]) ((x1 : Int).toNat * 1)) 84 fun b769 w770 =>
 AllocK w770 (#[(.int .i64 x1), (.int .i64 x2), (.int .i64 x3), (.slice (some b765) ((x1 : Int).toNat) ((x1 : Int).toNat)), (.slice none 0 0), (.slice (some b763) ((x1 : Int).toNat) ((x1 : Int).toNat)), (.slice (some b767) ((x1 : Int).toNat) ((x1 : Int).toNat)), (.slice (some b769) ((x1 : Int).toNat) ((x1 : Int).toNat)), (.slice (some b717) ((x1 : Int).toNat) ((x1 : Int).toNat)), (.slice none 0 0), (.slice none 0 0), (.slice none 0 0)]) 50 fun b771 w772 =>
 K (some b771) 0 w772) ∧
 ((0 ≤ (x1 : Int) ∧ (x1 : Int) ≤ x1 ∧ ((24 : Nat) : Int) * x1 ≤ 281474976710656 ∧ (x1 : Int) ≤ 9223372036854775807) ∧
 AllocK w766 (madeCells (#[.slice none 0 0]) ((x1 : Int).toNat * 1)) 84 fun b773 w774 =>
 (0 ≤ (x1 : Int) ∧ (x1 : Int) ≤ x1 ∧ ((24 : Nat) : Int) * x1 ≤ 281474976710656 ∧ (x1 : Int) ≤ 9223372036854775807) ∧
 AllocK w774 (madeCells (#[.slice none 0 0]) ((x1 : Int).toNat * 1)) 84 fun b775 w776 =>
 AllocK w776 (#[(.int .i64 x1), (.int .i64 x2), (.int .i64 x3), (.slice (some b765) ((x1 : Int).toNat) ((x1 : Int).toNat)), (.slice none 0 0), (.slice (some b763) ((x1 : Int).toNat) ((x1 : Int).toNat)), (.slice (some b775) ((x1 : Int).toNat) ((x1 : Int).toNat)), (.slice (some b773) ((x1 : Int).toNat) ((x1 : Int).toNat)), (.slice (some b717) ((x1 : Int).toNat) ((x1 : Int).toNat)), (.slice none 0 0), (.slice none 0 0), (.slice none 0 0)]) 50 fun b777 w778 =>
 K (some b777) 0 w778)) ∧
 (((0 ≤ (x1 : Int) ∧ (x1 : Int) ≤ x1 ∧ ((24 : Nat) : Int) * x1 ≤ 281474976710656 ∧ (x1 : Int) ≤ 9223372036854775807) ∧
 AllocK w764 (madeCells (#[.slice none 0 0]) ((x1 : Int).toNat * 1)) 84 fun b779 w780 =>
 ((0 ≤ (x1 : Int) ∧ (x1 : Int) ≤ x1 ∧ ((8 : Nat) : Int) * x1 ≤ 281474976710656 ∧ (x1 : Int) ≤ 9223372036854775807) ∧
 AllocK w780 (madeCells (#[.int .i64 0]) ((x1 : Int).toNat * 1)) 3 fun b781 w782 =>
 (0 ≤ (x1 : Int) ∧ (x1 : Int) ≤ x1 ∧ ((24 : Nat) : Int) * x1 ≤ 281474976710656 ∧ (x1 : Int) ≤ 9223372036854775807) ∧
 AllocK w782 (madeCells (#[.slice none 0 0]) ((x1 : Int).toNat * 1)) 84 fun b783 w784 =>
 AllocK w784 (#[(.int .i64 x1), (.int .i64 x2), (.int .i64 x3), (.slice (some b781) ((x1 : Int).toNat) ((x1 : Int).toNat)), (.slice none 0 0), (.slice (some b763) ((x1 : Int).toNat) ((x1 : Int).toNat)), (.slice (some b779) ((x1 : Int).toNat) ((x1 : Int).toNat)), (.slice (some b783) ((x1 : Int).toNat) ((x1 : Int).toNat)), (.slice (some b717) ((x1 : Int).toNat) ((x1 : Int).toNat)), (.slice none 0 0), (.slice none 0 0), (.slice none 0 0)]) 50 fun b785 w786 =>
 K (some b785) 0 w786) ∧
 ((0 ≤ (x1 : Int) ∧ (x1 : Int) ≤ x1 ∧ ((24 : Nat) : Int) * x1 ≤ 281474976710656 ∧ (x1 : Int) ≤ 9223372036854775807) ∧
 AllocK w780 (madeCells (#[.slice none 0 0]) ((x1 : Int).toNat * 1)) 84 fun b787 w788 =>
 (0 ≤ (x1 : Int) ∧ (x1 : Int) ≤ x1 ∧ ((8 : Nat) : Int) * x1 ≤ 281474976710656 ∧ (x1 : Int) ≤ 9223372036854775807) ∧
 AllocK w788 (madeCells (#[.int .i64 0]) ((x1 : Int).toNat * 1)) 3 fun b789 w790 =>
 AllocK w790 (#[(.int .i64 x1), (.int .i64 x2), (.int .i64 x3), (.slice (some b789) ((x1 : Int).toNat) ((x1 : Int).toNat)), (.slice none 0 0), (.slice (some b763) ((x1 : Int).toNat) ((x1 : Int).toNat)), (.slice (some b779) ((x1 : Int).toNat) ((x1 : Int).toNat)), (.slice (some b787) ((x1 : Int).toNat) ((x1 : Int).toNat)), (.slice (some b717) ((x1 : Int).toNat) ((x1 : Int).toNat)), (.slice none 0 0), (.slice none 0 0), (.slice none 0 0)]) 50 fun b791 w792 =>
 K (some b791) 0 w792)) ∧
 ((0 ≤ (x1 : Int) ∧ (x1 : Int) ≤ x1 ∧ ((24 : Nat) : Int) * x1 ≤ 281474976710656 ∧ (x1 : Int) ≤ 9223372036854775807) ∧
 AllocK w764 (madeCells (#[.slice none 0 0]) ((x1 : Int).toNat * 1)) 84 fun b793 w794 =>
 ((0 ≤ (x1 : Int) ∧ (x1 : Int) ≤ x1 ∧ ((8 : Nat) : Int) * x1 ≤ 281474976710656 ∧ (x1 : Int) ≤ 9223372036854775807) ∧
 AllocK w794 (madeCells (#[.int .i64 0]) ((x1 : Int).toNat * 1)) 3 fun b795 w796 =>
 (0 ≤ (x1 : Int) ∧ (x1 : Int) ≤ x1 ∧ ((24 : Nat) : Int) * x1 ≤ 281474976710656 ∧ (x1 : Int) ≤ 9223372036854775807) ∧
 AllocK w796 (madeCells (#[.slice none 0 0]) ((x1 : Int).toNat * 1)) 84 fun b797 w798 =>
 AllocK w798 (#[(.int .i64 x1), (.int .i64 x2), (.int .i64 x3), (.slice (some b795) ((x1 : Int).toNat) ((x1 : Int).toNat)), (.slice none 0 0), (.slice (some b763) ((x1 : Int).toNat) ((x1 : Int).toNat)), (.slice (some b797) ((x1 : Int).toNat) ((x1 : Int).toNat)), (.slice (some b793) ((x1 : Int).toNat) ((x1 : Int).toNat)), (.slice (some b717) ((x1 : Int).toNat) ((x1 : Int).toNat)), (.slice none 0 0), (.slice none 0 0), (.slice none 0 0)]) 50 fun b799 w800 =>
 K (some b799) 0 w800) ∧
 ((0 ≤ (x1 : Int) ∧ (x1 : Int) ≤ x1 ∧ ((24 : Nat) : Int) * x1 ≤ 281474976710656 ∧ (x1 : Int) ≤ 9223372036854775807) ∧
 AllocK w794 (madeCells (#[.slice none 0 0]) ((x1 : Int).toNat * 1)) 84 fun b801 w802 =>
 (0 ≤ (x1 : Int) ∧ (x1 : Int) ≤ x1 ∧ ((8 : Nat) : Int) * x1 ≤ 281474976710656 ∧ (x1 : Int) ≤ 9223372036854775807) ∧
 AllocK w802 (madeCells (#[.int .i64 0]) ((x1 : Int).toNat * 1)) 3 fun b803 w804 =>
 AllocK w804 (#[(.int .i64 x1), (.int .i64 x2), (.int .i64 x3), (.slice (some b803) ((x1 : Int).toNat) ((x1 : Int).toNat)), (.slice none 0 0), (.slice (some b763) ((x1 : Int).toNat) ((x1 : Int).toNat)), (.slice (some b801) ((x1 : Int).toNat) ((x1 : Int).toNat)), (.slice (some b793) ((x1 : Int).toNat) ((x1 : Int).toNat)), (.slice (some b717) ((x1 : Int).toNat) ((x1 : Int).toNat)), (.slice none 0 0), (.slice none 0 0), (.slice none 0 0)]) 50 fun b805 w806 =>
 K (some b805) 0 w806)))) ∧
 (((0 ≤ (x1 : Int) ∧ (x1 : Int) ≤ x1 ∧ ((24 : Nat) : Int) * x1 ≤ 281474976710656 ∧ (x1 : Int) ≤ 9223372036854775807) ∧
 AllocK w718 (madeCells (#[.slice none 0 0]) ((x1 : Int).toNat * 1)) 84 fun b807 w808 =>
 ((0 ≤ (x1 : Int) ∧ (x1 : Int) ≤ x1 ∧ ((8 : Nat) : Int) * x1 ≤ 281474976710656 ∧ (x1 : Int) ≤ 9223372036854775807) ∧
 AllocK w808 (madeCells (#[.int .i64 0]) ((x1 : Int).toNat * 1)) 3 fun b809 w810 =>
 ((0 ≤ (x1 : Int) ∧ (x1 : Int) ≤ x1 ∧ ((24 : Nat) : Int) * x1 ≤ 281474976710656 ∧ (x1 : Int) ≤ 9223372036854775807) ∧
 AllocK w810 (madeCells (#[.slice none 0 0]) ((x1 : Int).toNat * 1)) 43 fun b811 w812 =>
 (0 ≤ (x1 : Int) ∧ (x1 : Int) ≤ x1 ∧ ((24 : Nat) : Int) * x1 ≤ 281474976710656 ∧ (x1 : Int) ≤ 9223372036854775807) ∧
 AllocK w812 (madeCells (#[.slice none 0 0]) ((x1 : Int).toNat * 1)) 84 fun b813 w814 =>
 AllocK w814 (#[(.int .i64 x1), (.int .i64 x2), (.int .i64 x3), (.slice (some b809) ((x1 : Int).toNat) ((x1 : Int).toNat)), (.slice none 0 0), (.slice (some b811) ((x1 : Int).toNat) ((x1 : Int).toNat)), (.slice (some b807) ((x1 : Int).toNat) ((x1 : Int).toNat)), (.slice (some b813) ((x1 : Int).toNat) ((x1 : Int).toNat)), (.slice (some b717) ((x1 : Int).toNat) ((x1 : Int).toNat)), (.slice none 0 0), (.slice none 0 0), (.slice none 0 0)]) 50 fun b815 w816 =>
 K (some b815) 0 w816) ∧
 ((0 ≤ (x1 : Int) ∧ (x1 : Int) ≤ x1 ∧ ((24 : Nat) : Int) * x1 ≤ 281474976710656 ∧ (x1 : Int) ≤ 9223372036854775807) ∧
 AllocK w810 (madeCells (#[.slice none 0 0]) ((x1 : Int).toNat * 1)) 84 fun b817 w818 =>
 (0 ≤ (x1 : Int) ∧ (x1 : Int) ≤ x1 ∧ ((24 : Nat) : Int) * x1 ≤ 281474976710656 ∧ (x1 : Int) ≤ 9223372036854775807) ∧
 AllocK w818 (madeCells (#[.slice none 0 0]) ((x1 : Int).toNat * 1)) 43 fun b819 w820 =>
 AllocK w820 (#[(.int .i64 x1), (.int .i64 x2), (.int .i64 x3), (.slice (some b809) ((x1 : Int).toNat) ((x1 : Int).toNat)), (.slice none 0 0), (.slice (some b819) ((x1 : Int).toNat) ((x1 : Int).toNat)), (.slice (some b807) ((x1 : Int).toNat) ((x1 : Int).toNat)), (.slice (some b817) ((x1 : Int).toNat) ((x1 : Int).toNat)), (.slice (some b717) ((x1 : Int).toNat) ((x1 : Int).toNat)), (.slice none 0 0), (.slice none 0 0), (.slice none 0 0)]) 50 fun b821 w822 =>
 K (some b821) 0 w822)) ∧
 (((0 ≤ (x1 : Int) ∧ (x1 : Int) ≤ x1 ∧ ((24 : Nat) : Int) * x1 ≤ 281474976710656 ∧ (x1 : Int) ≤ 9223372036854775807) ∧
 AllocK w808 (madeCells (#[.slice none 0 0]) ((x1 : Int).toNat * 1)) 43 fun b823 w824 =>
 ((0 ≤ (x1 : Int) ∧ (x1 : Int) ≤ x1 ∧ ((8 : Nat) : Int) * x1 ≤ 281474976710656 ∧ (x1 : Int) ≤ 9223372036854775807) ∧
 AllocK w824 (madeCells (#[.int .i64 0]) ((x1 : Int).toNat * 1)) 3 fun b825 w826 =>
 (0 ≤ (x1 : Int) ∧ (x1 : Int) ≤ x1 ∧ ((24 : Nat) : Int) * x1 ≤ 281474976710656 ∧ (x1 : Int) ≤ 9223372036854775807) ∧
 AllocK w826 (madeCells (#[.slice none 0 0]) ((x1 : Int).toNat * 1)) 84 fun b827 w828 =>
 AllocK w828 (#[(.int .i64 x1), (.int .i64 x2), (.int .i64 x3), (.slice (some b825) ((x1 : Int).toNat) ((x1 : Int).toNat)), (.slice none 0 0), (.slice (some b823) ((x1 : Int).toNat) ((x1 : Int).toNat)), (.slice (some b807) ((x1 : Int).toNat) ((x1 : Int).toNat)), (.slice (some b827) ((x1 : Int).toNat) ((x1 : Int).toNat)), (.slice (some b717) ((x1 : Int).toNat) ((x1 : Int).toNat)), (.slice none 0 0), (.slice none 0 0), (.slice none 0 0)]) 50 fun b829 w830 =>
 K (some b829) 0 w830) ∧
 ((0 ≤ (x1 : Int) ∧ (x1 : Int) ≤ x1 ∧ ((24 : Nat) : Int) * x1 ≤ 281474976710656 ∧ (x1 : Int) ≤ 9223372036854775807) ∧
 AllocK w824 (madeCells (#[.slice none 0 0]) ((x1 : Int).toNat * 1)) 84 fun b831 w832 =>
 (0 ≤ (x1 : Int) ∧ (x1 : Int) ≤ x1 ∧ ((8 : Nat) : Int) * x1 ≤ 281474976710656 ∧ (x1 : Int) ≤ 9223372036854775807) ∧
 AllocK w832 (madeCells (#[.int .i64 0]) ((x1 : Int).toNat * 1)) 3 fun b833 w834 =>
 AllocK w834 (#[(.int .i64 x1), (.int .i64 x2), (.int .i64 x3), (.slice (some b833) ((x1 : Int).toNat) ((x1 : Int).toNat)), (.slice none 0 0), (.slice (some b823) ((x1 : Int).toNat) ((x1 : Int).toNat)), (.slice (some b807) ((x1 : Int).toNat) ((x1 : Int).toNat)), (.slice (some b831) ((x1 : Int).toNat) ((x1 : Int).toNat)), (.slice (some b717) ((x1 : Int).toNat) ((x1 : Int).toNat)), (.slice none 0 0), (.slice none 0 0), (.slice none 0 0)]) 50 fun b835 w836 =>
 K (some b835) 0 w836)) ∧
 ((0 ≤ (x1 : Int) ∧ (x1 : Int) ≤ x1 ∧ ((24 : Nat) : Int) * x1 ≤ 281474976710656 ∧ (x1 : Int) ≤ 9223372036854775807) ∧
 AllocK w808 (madeCells (#[.slice none 0 0]) ((x1 : Int).toNat * 1)) 84 fun b837 w838 =>
 ((0 ≤ (x1 : Int) ∧ (x1 : Int) ≤ x1 ∧ ((8 : Nat) : Int) * x1 ≤ 281474976710656 ∧ (x1 : Int) ≤ 9223372036854775807) ∧
 AllocK w838 (madeCells (#[.int .i64 0]) ((x1 : Int).toNat * 1)) 3 fun b839 w840 =>
 (0 ≤ (x1 : Int) ∧ (x1 : Int) ≤ x1 ∧ ((24 : Nat) : Int) * x1 ≤ 281474976710656 ∧ (x1 : Int) ≤ 9223372036854775807) ∧
 AllocK w840 (madeCells (#[.slice none 0 0]) ((x1 : Int).toNat * 1)) 43 fun b841 w842 =>
 AllocK w842 (#[(.int .i64 x1), (.int .i64 x2), (.int .i64 x3), (.slice (some b839) ((x1 : Int).toNat) ((x1 : Int).toNat)), (.slice none 0 0), (.slice (some b841) ((x1 : Int).toNat) ((x1 : Int).toNat)), (.slice (some b807) ((x1 : Int).toNat) ((x1 : Int).toNat)), (.slice (some b837) ((x1 : Int).toNat) ((x1 : Int).toNat)), (.slice (some b717) ((x1 : Int).toNat) ((x1 : Int).toNat)), (.slice none 0 0), (.slice none 0 0), (.slice none 0 0)]) 50 fun b843 w844 =>
 K (some b843) 0 w844) ∧
 ((0 ≤ (x1 : Int) ∧ (x1 : Int) ≤ x1 ∧ ((24 : Nat) : Int) * x1 ≤ 281474976710656 ∧ (x1 : Int) ≤ 9223372036854775807) ∧
 AllocK w838 (madeCells (#[.slice none 0 0]) ((x1 : Int).toNat * 1)) 43 fun b845 w846 =>
 (0 ≤ (x1 : Int) ∧ (x1 : Int) ≤ x1 ∧ ((8 : Nat) : Int) * x1 ≤ 281474976710656 ∧ (x1 : Int) ≤ 9223372036854775807) ∧
 AllocK w846 (madeCells (#[.int .i64 0]) ((x1 : Int).toNat * 1)) 3 fun b847 w848 =>
 AllocK w848 (#[(.int .i64 x1), (.int .i64 x2), (.int .i64 x3), (.slice (some b847) ((x1 : Int).toNat) ((x1 : Int).toNat)), (.slice none 0 0), (.slice (some b845) ((x1 : Int).toNat) ((x1 : Int).toNat)), (.slice (some b807) ((x1 : Int).toNat) ((x1 : Int).toNat)), (.slice (some b837) ((x1 : Int).toNat) ((x1 : Int).toNat)), (.slice (some b717) ((x1 : Int).toNat) ((x1 : Int).toNat)), (.slice none 0 0), (.slice none 0 0), (.slice none 0 0)]) 50 fun b849 w850 =>
 K (some b849) 0 w850)))) ∧
 ((0 ≤ (x1 : Int) ∧ (x1 : Int) ≤ x1 ∧ ((24 : Nat) : Int) * x1 ≤ 281474976710656 ∧ (x1 : Int) ≤ 9223372036854775807) ∧
 AllocK w718 (madeCells (#[.slice none 0 0]) ((x1 : Int).toNat * 1)) 84 fun b851 w852 =>
 ((0 ≤ (x1 : Int) ∧ (x1 : Int) ≤ x1 ∧ ((8 : Nat) : Int) * x1 ≤ 281474976710656 ∧ (x1 : Int) ≤ 9223372036854775807) ∧
 AllocK w852 (madeCells (#[.int .i64 0]) ((x1 : Int).toNat * 1)) 3 fun b853 w854 =>
 ((0 ≤ (x1 : Int) ∧ (x1 : Int) ≤ x1 ∧ ((24 : Nat) : Int) * x1 ≤ 281474976710656 ∧ (x1 : Int) ≤ 9223372036854775807) ∧
 AllocK w854 (madeCells (#[.slice none 0 0]) ((x1 : Int).toNat * 1)) 43 fun b855 w856 =>
 (0 ≤ (x1 : Int) ∧ (x1 : Int) ≤ x1 ∧ ((24 : Nat) : Int) * x1 ≤ 281474976710656 ∧ (x1 : Int) ≤ 9223372036854775807) ∧
 AllocK w856 (madeCells (#[.slice none 0 0]) ((x1 : Int).toNat * 1)) 84 fun b857 w858 =>
 AllocK w858 (#[(.int .i64 x1), (.int .i64 x2), (.int .i64 x3), (.slice (some b853) ((x1 : Int).toNat) ((x1 : Int).toNat)), (.slice none 0 0), (.slice (some b855) ((x1 : Int).toNat) ((x1 : Int).toNat)), (.slice (some b857) ((x1 : Int).toNat) ((x1 : Int).toNat)), (.slice (some b851) ((x1 : Int).toNat) ((x1 : Int).toNat)), (.slice (some b717) ((x1 : Int).toNat) ((x1 : Int).toNat)), (.slice none 0 0), (.slice none 0 0), (.slice none 0 0)]) 50 fun b859 w860 =>
 K (some b859) 0 w860) ∧
 ((0 ≤ (x1 : Int) ∧ (x1 : Int) ≤ x1 ∧ ((24 : Nat) : Int) * x1 ≤ 281474976710656 ∧ (x1 : Int) ≤ 9223372036854775807) ∧
 AllocK w854 (madeCells (#[.slice none 0 0]) ((x1 : Int).toNat * 1)) 84 fun b861 w862 =>
 (0 ≤ (x1 : Int) ∧ (x1 : Int) ≤ x1 ∧ ((24 : Nat) : Int) * x1 ≤ 281474976710656 ∧ (x1 : Int) ≤ 9223372036854775807) ∧
 AllocK w862 (madeCells (#[.slice none 0 0]) ((x1 : Int).toNat * 1)) 43 fun b863 w864 =>
 AllocK w864 (#[(.int .i64 x1), (.int .i64 x2), (.int .i64 x3), (.slice (some b853) ((x1 : Int).toNat) ((x1 : Int).toNat)), (.slice none 0 0), (.slice (some b863) ((x1 : Int).toNat) ((x1 : Int).toNat)), (.slice (some b861) ((x1 : Int).toNat) ((x1 : Int).toNat)), (.slice (some b851) ((x1 : Int).toNat) ((x1 : Int).toNat)), (.slice (some b717) ((x1 : Int).toNat) ((x1 : Int).toNat)), (.slice none 0 0), (.slice none 0 0), (.slice none 0 0)]) 50 fun b865 w866 =>
 K (some b865) 0 w866)) ∧
 (((0 ≤ (x1 : Int) ∧ (x1 : Int) ≤ x1 ∧ ((24 : Nat) : Int) * x1 ≤ 281474976710656 ∧ (x1 : Int) ≤ 9223372036854775807) ∧
 AllocK w852 (madeCells (#[.slice none 0 0]) ((x1 : Int).toNat * 1)) 43 fun b867 w868 =>
 ((0 ≤ (x1 : Int) ∧ (x1 : Int) ≤ x1 ∧ ((8 : Nat) : Int) * x1 ≤ 281474976710656 ∧ (x1 : Int) ≤ 9223372036854775807) ∧
 AllocK w868 (madeCells (#[.int .i64 0]) ((x1 : Int).toNat * 1)) 3 fun b869 w870 =>
 (0 ≤ (x1 : Int) ∧ (x1 : Int) ≤ x1 ∧ ((24 : Nat) : Int) * x1 ≤ 281474976710656 ∧ (x1 : Int) ≤ 9223372036854775807) ∧
 AllocK w870 (madeCells (#[.slice none 0 0]) ((x1 : Int).toNat * 1)) 84 fun b871 w872 =>
 AllocK w872 (#[(.int .i64 x1), (.int .i64 x2), (.int .i64 x3), (.slice (some b869) ((x1 : Int).toNat) ((x1 : Int).toNat)), (.slice none 0 0), (.slice (some b867) ((x1 : Int).toNat) ((x1 : Int).toNat)), (.slice (some b871) ((x1 : Int).toNat) ((x1 : Int).toNat)), (.slice (some b851) ((x1 : Int).toNat) ((x1 : Int).toNat)), (.slice (some b717) ((x1 : Int).toNat) ((x1 : Int).toNat)), (.slice none 0 0), (.slice none 0 0), (.slice none 0 0)]) 50 fun b873 w874 =>
 K (some b873) 0 w874) ∧
 ((0 ≤ (x1 : Int) ∧ (x1 : Int) ≤ x1 ∧ ((24 : Nat) : Int) * x1 ≤ 281474976710656 ∧ (x1 : Int) ≤ 9223372036854775807) ∧
 AllocK w868 (madeCells (#[.slice none 0 0]) ((x1 : Int).toNat * 1)) 84 fun b875 w876 =>
 (0 ≤ (x1 : Int) ∧ (x1 : Int) ≤ x1 ∧ ((8 : Nat) : Int) * x1 ≤ 281474976710656 ∧ (x1 : Int) ≤ 9223372036854775807) ∧
 AllocK w876 (madeCells (#[.int .i64 0]) ((x1 : Int).toNat * 1)) 3 fun b877 w878 =>
 AllocK w878 (#[(.int .i64 x1), (.int .i64 x2), (.int .i64 x3), (.slice (some b877) ((x1 : Int).toNat) ((x1 : Int).toNat)), (.slice none 0 0), (.slice (some b867) ((x1 : Int).toNat) ((x1 : Int).toNat)), (.slice (some b875) ((x1 : Int).toNat) ((x1 : Int).toNat)), (.slice (some b851) ((x1 : Int).toNat) ((x1 : Int).toNat)), (.slice (some b717) ((x1 : Int).toNat) ((x1 : Int).toNat)), (.slice none 0 0), (.slice none 0 0), (.slice none 0 0)]) 50 fun b879 w880 =>
 K (some b879) 0 w880)) ∧
 ((0 ≤ (x1 : Int) ∧ (x1 : Int) ≤ x1 ∧ ((24 : Nat) : Int) * x1 ≤ 281474976710656 ∧ (x1 : Int) ≤ 9223372036854775807) ∧
 AllocK w852 (madeCells (#[.slice none 0 0]) ((x1 : Int).toNat * 1)) 84 fun b881 w882 =>
 ((0 ≤ (x1 : Int) ∧ (x1 : Int) ≤ x1 ∧ ((8 : Nat) : Int) * x1 ≤ 281474976710656 ∧ (x1 : Int) ≤ 9223372036854775807) ∧
 AllocK w882 (madeCells (#[.int .i64 0]) ((x1 : Int).toNat * 1)) 3 fun b883 w884 =>
 (0 ≤ (x1 : Int) ∧ (x1 : Int) ≤ x1 ∧ ((24 : Nat) : Int) * x1 ≤ 281474976710656 ∧ (x1 : Int) ≤ 9223372036854775807) ∧
 AllocK w884 (madeCells (#[.slice none 0 0]) ((x1 : Int).toNat * 1)) 43 fun b885 w886 =>
 AllocK w886 (#[(.int .i64 x1), (.int .i64 x2), (.int .i64 x3), (.slice (some b883) ((x1 : Int).toNat) ((x1 : Int).toNat)), (.slice none 0 0), (.slice (some b885) ((x1 : Int).toNat) ((x1 : Int).toNat)), (.slice (some b881) ((x1 : Int).toNat) ((x1 : Int).toNat)), (.slice (some b851) ((x1 : Int).toNat) ((x1 : Int).toNat)), (.slice (some b717) ((x1 : Int).toNat) ((x1 : Int).toNat)), (.slice none 0 0), (.slice none 0 0), (.slice none 0 0)]) 50 fun b887 w888 =>
 K (some b887) 0 w888) ∧
 ((0 ≤ (x1 : Int) ∧ (x1 : Int) ≤ x1 ∧ ((24 : Nat) : Int) * x1 ≤ 281474976710656 ∧ (x1 : Int) ≤ 9223372036854775807) ∧
 AllocK w882 (madeCells (#[.slice none 0 0]) ((x1 : Int).toNat * 1)) 43 fun b889 w890 =>
 (0 ≤ (x1 : Int) ∧ (x1 : Int) ≤ x1 ∧ ((8 : Nat) : Int) * x1 ≤ 281474976710656 ∧ (x1 : Int) ≤ 9223372036854775807) ∧
 AllocK w890 (madeCells (#[.int .i64 0]) ((x1 : Int).toNat * 1)) 3 fun b891 w892 =>
 AllocK w892 (#[(.int .i64 x1), (.int .i64 x2), (.int .i64 x3), (.slice (some b891) ((x1 : Int).toNat) ((x1 : Int).toNat)), (.slice none 0 0), (.slice (some b889) ((x1 : Int).toNat) ((x1 : Int).toNat)), (.slice (some b881) ((x1 : Int).toNat) ((x1 : Int).toNat)), (.slice (some b851) ((x1 : Int).toNat) ((x1 : Int).toNat)), (.slice (some b717) ((x1 : Int).toNat) ((x1 : Int).toNat)), (.slice none 0 0), (.slice none 0 0), (.slice none 0 0)]) 50 fun b893 w894 =>
 K (some b893) 0 w894))))))))))))))))
def ann7 : Ann := (.two .nil (.two (.two .nil (.two (.two .nil .nil) .nil)) (.two (.anyC 17 (.take 0 (.take 1 (.take 2 (.take 3 (.take 5 (.take 7 (.take 9 (.take 11 (.both 4 (.both 6 (.both 8 (.both 10 (.one 12 (.take 13 (.one 14 (.take 15 (.take 16 .done))))) (.one 12 (.one 10 (.take 13 (.one 14 (.take 15 (.take 16 .done))))))) (.both 10 (.both 8 (.one 12 (.take 13 (.one 14 (.take 15 (.take 16 .done))))) (.one 12 (.one 8 (.take 13 (.one 14 (.take 15 (.take 16 .done))))))) (.one 12 (.both 8 (.one 10 (.take 13 (.one 14 (.take 15 (.take 16 .done))))) (.one 10 (.one 8 (.take 13 (.one 14 (.take 15 (.take 16 .done)))))))))) (.both 8 (.both 6 (.both 10 (.one 12 (.take 13 (.one 14 (.take 15 (.take 16 .done))))) (.one 12 (.one 10 (.take 13 (.one 14 (.take 15 (.take 16 .done))))))) (.both 10 (.both 6 (.one 12 (.take 13 (.one 14 (.take 15 (.take 16 .done))))) (.one 12 (.one 6 (.take 13 (.one 14 (.take 15 (.take 16 .done))))))) (.one 12 (.both 6 (.one 10 (.take 13 (.one 14 (.take 15 (.take 16 .done))))) (.one 10 (.one 6 (.take 13 (.one 14 (.take 15 (.take 16 .done)))))))))) (.both 10 (.both 6 (.both 8 (.one 12 (.take 13 (.one 14 (.take 15 (.take 16 .done))))) (.one 12 (.one 8 (.take 13 (.one 14 (.take 15 (.take 16 .done))))))) (.both 8 (.both 6 (.one 12 (.take 13 (.one 14 (.take 15 (.take 16 .done))))) (.one 12 (.one 6 (.take 13 (.one 14 (.take 15 (.take 16 .done))))))) (.one 12 (.both 6 (.one 8 (.take 13 (.one 14 (.take 15 (.take 16 .done))))) (.one 8 (.one 6 (.take 13 (.one 14 (.take 15 (.take 16 .done)))))))))) (.one 12 (.both 6 (.both 8 (.one 10 (.take 13 (.one 14 (.take 15 (.take 16 .done))))) (.one 10 (.one 8 (.take 13 (.one 14 (.take 15 (.take 16 .done))))))) (.both 8 (.both 6 (.one 10 (.take 13 (.one 14 (.take 15 (.take 16 .done))))) (.one 10 (.one 6 (.take 13 (.one 14 (.take 15 (.take 16 .done))))))) (.one 10 (.both 6 (.one 8 (.take 13 (.one 14 (.take 15 (.take 16 .done))))) (.one 8 (.one 6 (.take 13 (.one 14 (.take 15 (.take 16 .done)))))))))))))) (.both 6 (.both 4 (.both 8 (.both 10 (.one 12 (.take 13 (.one 14 (.take 15 (.take 16 .done))))) (.one 12 (.one 10 (.take 13 (.one 14 (.take 15 (.take 16 .done))))))) (.both 10 (.both 8 (.one 12 (.take 13 (.one 14 (.take 15 (.take 16 .done))))) (.one 12 (.one 8 (.take 13 (.one 14 (.take 15 (.take 16 .done))))))) (.one 12 (.both 8 (.one 10 (.take 13 (.one 14 (.take 15 (.take 16 .done))))) (.one 10 (.one 8 (.take 13 (.one 14 (.take 15 (.take 16 .done)))))))))) (.both 8 (.both 4 (.both 10 (.one 12 (.take 13 (.one 14 (.take 15 (.take 16 .done))))) (.one 12 (.one 10 (.take 13 (.one 14 (.take 15 (.take 16 .done))))))) (.both 10 (.both 4 (.one 12 (.take 13 (.one 14 (.take 15 (.take 16 .done))))) (.one 12 (.one 4 (.take 13 (.one 14 (.take 15 (.take 16 .done))))))) (.one 12 (.both 4 (.one 10 (.take 13 (.one 14 (.take 15 (.take 16 .done))))) (.one 10 (.one 4 (.take 13 (.one 14 (.take 15 (.take 16 .done)))))))))) (.both 10 (.both 4 (.both 8 (.one 12 (.take 13 (.one 14 (.take 15 (.take 16 .done))))) (.one 12 (.one 8 (.take 13 (.one 14 (.take 15 (.take 16 .done))))))) (.both 8 (.both 4 (.one 12 (.take 13 (.one 14 (.take 15 (.take 16 .done))))) (.one 12 (.one 4 (.take 13 (.one 14 (.take 15 (.take 16 .done))))))) (.one 12 (.both 4 (.one 8 (.take 13 (.one 14 (.take 15 (.take 16 .done))))) (.one 8 (.one 4 (.take 13 (.one 14 (.take 15 (.take 16 .done)))))))))) (.one 12 (.both 4 (.both 8 (.one 10 (.take 13 (.one 14 (.take 15 (.take 16 .done))))) (.one 10 (.one 8 (.take 13 (.one 14 (.take 15 (.take 16 .done))))))) (.both 8 (.both 4 (.one 10 (.take 13 (.one 14 (.take 15 (.take 16 .done))))) (.one 10 (.one 4 (.take 13 (.one 14 (.take 15 (.take 16 .done))))))) (.one 10 (.both 4 (.one 8 (.take 13 (.one 14 (.take 15 (.take 16 .done))))) (.one 8 (.one 4 (.take 13 (.one 14 (.take 15 (.take 16 .done)))))))))))))) (.both 8 (.both 4 (.both 6 (.both 10 (.one 12 (.take 13 (.one 14 (.take 15 (.take 16 .done))))) (.one 12 (.one 10 (.take 13 (.one 14 (.take 15 (.take 16 .done))))))) (.both 10 (.both 6 (.one 12 (.take 13 (.one 14 (.take 15 (.take 16 .done))))) (.one 12 (.one 6 (.take 13 (.one 14 (.take 15 (.take 16 .done))))))) (.one 12 (.both 6 (.one 10 (.take 13 (.one 14 (.take 15 (.take 16 .done))))) (.one 10 (.one 6 (.take 13 (.one 14 (.take 15 (.take 16 .done)))))))))) (.both 6 (.both 4 (.both 10 (.one 12 (.take 13 (.one 14 (.take 15 (.take 16 .done))))) (.one 12 (.one 10 (.take 13 (.one 14 (.take 15 (.take 16 .done))))))) (.both 10 (.both 4 (.one 12 (.take 13 (.one 14 (.take 15 (.take 16 .done))))) (.one 12 (.one 4 (.take 13 (.one 14 (.take 15 (.take 16 .done))))))) (.one 12 (.both 4 (.one 10 (.take 13 (.one 14 (.take 15 (.take 16 .done))))) (.one 10 (.one 4 (.take 13 (.one 14 (.take 15 (.take 16 .done)))))))))) (.both 10 (.both 4 (.both 6 (.one 12 (.take 13 (.one 14 (.take 15 (.take 16 .done))))) (.one 12 (.one 6 (.take 13 (.one 14 (.take 15 (.take 16 .done))))))) (.both 6 (.both 4 (.one 12 (.take 13 (.one 14 (.take 15 (.take 16 .done))))) (.one 12 (.one 4 (.take 13 (.one 14 (.take 15 (.take 16 .done))))))) (.one 12 (.both 4 (.one 6 (.take 13 (.one 14 (.take 15 (.take 16 .done))))) (.one 6 (.one 4 (.take 13 (.one 14 (.take 15 (.take 16 .done)))))))))) (.one 12 (.both 4 (.both 6 (.one 10 (.take 13 (.one 14 (.take 15 (.take 16 .done))))) (.one 10 (.one 6 (.take 13 (.one 14 (.take 15 (.take 16 .done))))))) (.both 6 (.both 4 (.one 10 (.take 13 (.one 14 (.take 15 (.take 16 .done))))) (.one 10 (.one 4 (.take 13 (.one 14 (.take 15 (.take 16 .done))))))) (.one 10 (.both 4 (.one 6 (.take 13 (.one 14 (.take 15 (.take 16 .done))))) (.one 6 (.one 4 (.take 13 (.one 14 (.take 15 (.take 16 .done)))))))))))))) (.both 10 (.both 4 (.both 6 (.both 8 (.one 12 (.take 13 (.one 14 (.take 15 (.take 16 .done))))) (.one 12 (.one 8 (.take 13 (.one 14 (.take 15 (.take 16 .done))))))) (.both 8 (.both 6 (.one 12 (.take 13 (.one 14 (.take 15 (.take 16 .done))))) (.one 12 (.one 6 (.take 13 (.one 14 (.take 15 (.take 16 .done))))))) (.one 12 (.both 6 (.one 8 (.take 13 (.one 14 (.take 15 (.take 16 .done))))) (.one 8 (.one 6 (.take 13 (.one 14 (.take 15 (.take 16 .done)))))))))) (.both 6 (.both 4 (.both 8 (.one 12 (.take 13 (.one 14 (.take 15 (.take 16 .done))))) (.one 12 (.one 8 (.take 13 (.one 14 (.take 15 (.take 16 .done))))))) (.both 8 (.both 4 (.one 12 (.take 13 (.one 14 (.take 15 (.take 16 .done))))) (.one 12 (.one 4 (.take 13 (.one 14 (.take 15 (.take 16 .done))))))) (.one 12 (.both 4 (.one 8 (.take 13 (.one 14 (.take 15 (.take 16 .done))))) (.one 8 (.one 4 (.take 13 (.one 14 (.take 15 (.take 16 .done)))))))))) (.both 8 (.both 4 (.both 6 (.one 12 (.take 13 (.one 14 (.take 15 (.take 16 .done))))) (.one 12 (.one 6 (.take 13 (.one 14 (.take 15 (.take 16 .done))))))) (.both 6 (.both 4 (.one 12 (.take 13 (.one 14 (.take 15 (.take 16 .done))))) (.one 12 (.one 4 (.take 13 (.one 14 (.take 15 (.take 16 .done))))))) (.one 12 (.both 4 (.one 6 (.take 13 (.one 14 (.take 15 (.take 16 .done))))) (.one 6 (.one 4 (.take 13 (.one 14 (.take 15 (.take 16 .done)))))))))) (.one 12 (.both 4 (.both 6 (.one 8 (.take 13 (.one 14 (.take 15 (.take 16 .done))))) (.one 8 (.one 6 (.take 13 (.one 14 (.take 15 (.take 16 .done))))))) (.both 6 (.both 4 (.one 8 (.take 13 (.one 14 (.take 15 (.take 16 .done))))) (.one 8 (.one 4 (.take 13 (.one 14 (.take 15 (.take 16 .done))))))) (.one 8 (.both 4 (.one 6 (.take 13 (.one 14 (.take 15 (.take 16 .done))))) (.one 6 (.one 4 (.take 13 (.one 14 (.take 15 (.take 16 .done)))))))))))))) (.one 12 (.both 4 (.both 6 (.both 8 (.one 10 (.take 13 (.one 14 (.take 15 (.take 16 .done))))) (.one 10 (.one 8 (.take 13 (.one 14 (.take 15 (.take 16 .done))))))) (.both 8 (.both 6 (.one 10 (.take 13 (.one 14 (.take 15 (.take 16 .done))))) (.one 10 (.one 6 (.take 13 (.one 14 (.take 15 (.take 16 .done))))))) (.one 10 (.both 6 (.one 8 (.take 13 (.one 14 (.take 15 (.take 16 .done))))) (.one 8 (.one 6 (.take 13 (.one 14 (.take 15 (.take 16 .done)))))))))) (.both 6 (.both 4 (.both 8 (.one 10 (.take 13 (.one 14 (.take 15 (.take 16 .done))))) (.one 10 (.one 8 (.take 13 (.one 14 (.take 15 (.take 16 .done))))))) (.both 8 (.both 4 (.one 10 (.take 13 (.one 14 (.take 15 (.take 16 .done))))) (.one 10 (.one 4 (.take 13 (.one 14 (.take 15 (.take 16 .done))))))) (.one 10 (.both 4 (.one 8 (.take 13 (.one 14 (.take 15 (.take 16 .done))))) (.one 8 (.one 4 (.take 13 (.one 14 (.take 15 (.take 16 .done)))))))))) (.both 8 (.both 4 (.both 6 (.one 10 (.take 13 (.one 14 (.take 15 (.take 16 .done))))) (.one 10 (.one 6 (.take 13 (.one 14 (.take 15 (.take 16 .done))))))) (.both 6 (.both 4 (.one 10 (.take 13 (.one 14 (.take 15 (.take 16 .done))))) (.one 10 (.one 4 (.take 13 (.one 14 (.take 15 (.take 16 .done))))))) (.one 10 (.both 4 (.one 6 (.take 13 (.one 14 (.take 15 (.take 16 .done))))) (.one 6 (.one 4 (.take 13 (.one 14 (.take 15 (.take 16 .done)))))))))) (.one 10 (.both 4 (.both 6 (.one 8 (.take 13 (.one 14 (.take 15 (.take 16 .done))))) (.one 8 (.one 6 (.take 13 (.one 14 (.take 15 (.take 16 .done))))))) (.both 6 (.both 4 (.one 8 (.take 13 (.one 14 (.take 15 (.take 16 .done))))) (.one 8 (.one 4 (.take 13 (.one 14 (.take 15 (.take 16 .done))))))) (.one 8 (.both 4 (.one 6 (.take 13 (.one 14 (.take 15 (.take 16 .done))))) (.one 6 (.one 4 (.take 13 (.one 14 (.take 15 (.take 16 .done)))))))))))))))))))))))))))) .nil)))
noncomputable def code7 : Code := match Tryz.f7.body with | some c => c | none => .skip
theorem wp7 (x1 : Int) (x2 : Int) (x3 : Int) (K : Option Addr → Int → World → Prop) (w : World) : WP Tryz.prog tab code7 ann7 (fnQ tab Tryz.f7.results.toList [(.one .ptr), (.one (.int .i64))] K) (argE 0 [(.int .i64 x1), (.int .i64 x2), (.int .i64 x3)]) w = N7 x1 x2 x3 K w := by kernel_rfl
theorem calls7 (x1 : Int) (x2 : Int) (x3 : Int) (K : Option Addr → Int → World → Prop) (w : World) (h : N7 x1 x2 x3 K w) : Calls Tryz.prog 7 #[(.int .i64 x1), (.int .i64 x2), (.int .i64 x3)] w fun en w' => ∃ (o895 : Option Addr), ∃ (x896 : Int), en = .returned (.tuple #[(.pointer o895), (.int .i64 x896)]) ∧ K o895 x896 w' :=
 have e : (fun en w' => ExShs [(.one .ptr), (.one (.int .i64))] fun vs => en = .returned (tupled vs) ∧ ap [(.one .ptr), (.one (.int .i64))] K vs fun p => p w') = (fun (en : Ending) (w' : World) => ∃ (o895 : Option Addr), ∃ (x896 : Int), en = .returned (.tuple #[(.pointer o895), (.int .i64 x896)]) ∧ K o895 x896 w') := by kernel_rfl
 e ▸ fn_sound tabOk mixed Tryz.func7 (by kernel_rfl : Tryz.f7.body = some code7) ann7 [(.int .i64 x1), (.int .i64 x2), (.int .i64 x3)] [(.one .ptr), (.one (.int .i64))] K w (by kernel_rfl) ((wp7 x1 x2 x3 K w).symm ▸ h)
end Go.Proofs.YtgggbmikmmljcaaGreat
