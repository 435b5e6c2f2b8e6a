/- A part of the proof: plain forms of functions and laws about them. -/
import Derived.Test.YtggfnakhmjkoeaaEntaC
import Derived.Lib.Mul64
import Derived.Laws.Bits64b
import Derived.Laws.Externs
namespace Go.Proofs.Ytggfnakhmjkoeaa
open Go Go.V Go.Proofs
open Go.RowKit (Below)

namespace M64
theorem maskN (a : Nat) (ha : a < 18446744073709551616) : bits .and .u64 (a : Int) 4294967295 = ((a % 4294967296 : Nat) : Int) := by
  have h := bits_and_u64_nat a 4294967295 ha (by omega)
  have e : a &&& 4294967295 = a % 4294967296 := Nat.and_two_pow_sub_one_eq_mod a 32
  rw [e] at h
  exact h
theorem mulN (a b : Nat) : (a : Int) * (b : Int) = ((a * b : Nat) : Int) := (Int.natCast_mul a b).symm
theorem addN (a b : Nat) : (a : Int) + (b : Int) = ((a + b : Nat) : Int) := (Int.natCast_add a b).symm
theorem wrapN (a : Nat) (ha : a < 18446744073709551616) : IntKind.u64.wrap (a : Int) = (a : Int) := by rw [IntKind.wrap_u64]; omega
theorem wrapM (a : Nat) : IntKind.u64.wrap (a : Int) = ((a % 18446744073709551616 : Nat) : Int) := by rw [IntKind.wrap_u64]; omega
end M64
theorem fdiv32 (a : Nat) : ((a : Int).fdiv (2 ^ (min (32 : Int).toNat (IntKind.bits .u64)))) = ((a / 4294967296 : Nat) : Int) := by
  show (a : Int).fdiv 4294967296 = _
  rw [Int.fdiv_eq_ediv_of_nonneg _ (by omega)]; omega
theorem mask32 (a : Nat) (ha : a < 18446744073709551616) : IntKind.wrap .u64 (((BitVec.ofInt (IntKind.bits .u64) (a : Int)) &&& (BitVec.ofInt (IntKind.bits .u64) 4294967295)).toNat) = ((a % 4294967296 : Nat) : Int) := M64.maskN a ha

set_option maxRecDepth 100000 in
theorem c86 (w : World) (x y : Nat) (hx : x < 18446744073709551616) (hy : y < 18446744073709551616) :
    Calls Try.prog 86 #[.int .u64 (x : Int), .int .u64 (y : Int)] w fun en w' => ∃ h l, en = .returned (.tuple #[.int .u64 h, .int .u64 l]) ∧ (h = ((x * y / 18446744073709551616 : Nat) : Int) ∧ l = ((x * y % 18446744073709551616 : Nat) : Int) ∧ w' = w) := by
  obtain ⟨bd, bt, bw, hhi⟩ := Lib.mul64_hi x y hx hy
  have ba := Lib.half_mul_le (a := x / 4294967296) (b := y / 4294967296) (by omega) (by omega)
  have bb := Lib.half_mul_le (a := x / 4294967296) (b := y % 4294967296) (by omega) (by omega)
  have bc := Lib.half_mul_le (a := x % 4294967296) (b := y / 4294967296) (by omega) (by omega)
  have ba' : x / 4294967296 * (y / 4294967296) < 18446744073709551616 := by omega
  have bb' : x / 4294967296 * (y % 4294967296) < 18446744073709551616 := by omega
  have bc' : x % 4294967296 * (y / 4294967296) < 18446744073709551616 := by omega
  have bh1 : x / 4294967296 * (y / 4294967296) + (x / 4294967296 * (y % 4294967296) + x % 4294967296 * (y % 4294967296) / 4294967296) / 4294967296 < 18446744073709551616 := by omega
  have bh : x / 4294967296 * (y / 4294967296) + (x / 4294967296 * (y % 4294967296) + x % 4294967296 * (y % 4294967296) / 4294967296) / 4294967296 + ((x / 4294967296 * (y % 4294967296) + x % 4294967296 * (y % 4294967296) / 4294967296) % 4294967296 + x % 4294967296 * (y / 4294967296)) / 4294967296 < 18446744073709551616 := by omega
  refine calls86 _ _ _ w ?_
  unfold N86
  simp only [fdiv32, mask32 x hx, mask32 y hy, M64.mulN, M64.addN, M64.wrapN _ bd, M64.wrapN _ bb', M64.wrapN _ bt, mask32 _ bt, M64.wrapN _ bc', M64.wrapN _ bw, M64.wrapN _ ba', M64.wrapN _ bh1, M64.wrapN _ bh, M64.wrapM (x * y)]
  rw [hhi]
  simp

theorem setTwo {w : World} {b t : Nat} {z0 z1 v0 v1 : Value} {F : World → Prop} (hb : Blk w b #[z0, z1] t) (h : ∀ w', Blk w' b #[v0, v1] t → But b w w' → F w') :
    SetK w ((⟨b, 0, none⟩ : Addr).add 0) v0 fun w2 => SetK w2 ((⟨b, 0, none⟩ : Addr).add 1) v1 F := by
  rw [add_mk, add_mk]
  refine SetK.mk hb (by simp) fun w2 h2 g2 => SetK.mk h2 (by simp) fun w3 h3 g3 => h w3 (by simpa using h3) (g2.trans g3)
theorem blk2 {w : World} {b t : Nat} {v0 v1 : Value} (h : Blk w b #[v0, v1] t) : w.cell? ((⟨b, 0, none⟩ : Addr).add 0) = some v0 ∧ w.cell? ((⟨b, 0, none⟩ : Addr).add 1) = some v1 := by
  rw [add_mk, add_mk, h.cell, h.cell]; exact ⟨rfl, rfl⟩
/-- the number that (h, l) stands for -/
structure Wd (h l z : Int) : Prop where
  l0 : 0 ≤ l
  l1 : l < 18446744073709551616
  h0 : -9223372036854775808 ≤ h
  h1 : h < 9223372036854775808
  eq : z = h * 18446744073709551616 + l

theorem xor_all (n : Nat) (x : BitVec n) : BitVec.allOnes n ^^^ x = ~~~x := by ext i hi; simp
theorem not64 (a : Nat) (ha : a < 18446744073709551616) : IntKind.wrap (.u64 : IntKind) ((BitVec.ofInt (IntKind.bits (.u64 : IntKind)) (if IntKind.signed (.u64 : IntKind) then -1 else IntKind.max (.u64 : IntKind))) ^^^ (BitVec.ofInt (IntKind.bits (.u64 : IntKind)) (a : Int))).toNat = 18446744073709551615 - (a : Int) := by
  have e1 : (BitVec.ofInt (IntKind.bits (.u64 : IntKind)) (if IntKind.signed (.u64 : IntKind) then -1 else IntKind.max (.u64 : IntKind))) = BitVec.allOnes 64 := by kernel_rfl
  have e2 : BitVec.allOnes 64 ^^^ (BitVec.ofInt 64 (a : Int)) = ~~~ (BitVec.ofInt 64 (a : Int)) := xor_all 64 _
  show IntKind.wrap .u64 ((_ ^^^ BitVec.ofInt 64 (a : Int)).toNat : Int) = _
  rw [show (BitVec.ofInt (IntKind.bits (.u64 : IntKind)) (if IntKind.signed (.u64 : IntKind) then -1 else IntKind.max (.u64 : IntKind)) : BitVec 64) = BitVec.allOnes 64 from e1, e2, BitVec.toNat_not, BitVec.toNat_ofInt, IntKind.wrap_u64]
  omega

theorem run_add64' (w : World) (x y : Int) (hx : 0 ≤ x) (hy : 0 ≤ y) : Sem.run Try.prog (callFunc 85 #[.int .u64 x, .int .u64 y, .int .u64 0]) w = .ok (.value (.tuple #[.int .u64 ((x + y) % 18446744073709551616), .int .u64 ((x + y) / 18446744073709551616)])) w := by
  rw [run_callFunc_extern (P := Try.prog) Try.func85 (by kernel_rfl) (by kernel_rfl) (by kernel_rfl) (e := add64Entry) (by kernel_rfl), run_add64 x y 0 hx hy (by omega) (by omega)]
  simp only [Result.andThen, Int.add_zero]

theorem c72 (w : World) (a b : Int) (ha : -9223372036854775808 ≤ a ∧ a ≤ 9223372036854775807) (hb : -9223372036854775808 ≤ b ∧ b ≤ 9223372036854775807) :
    Calls Try.prog 72 #[.int .i64 a, .int .i64 b] w fun en w' => ∃ h l, en = .returned (.agg #[.int .i64 h, .int .u64 l]) ∧ (Wd h l (a * b) ∧ Ext w w') := by
  refine calls72 _ _ _ w ?_
  refine AllocK.mk fun b3 w4 hb3 hblk hx4 => ?_
  refine ⟨fun x w' => x = (a.natAbs : Int) ∧ w' = w4, ?_, ?_⟩
  · rintro w6 _ ⟨rfl, rfl⟩
    refine ⟨fun x w' => x = (b.natAbs : Int) ∧ w' = w6, ?_, ?_⟩
    · rintro w9 _ ⟨rfl, rfl⟩
      refine (c86 w9 a.natAbs b.natAbs (by omega) (by omega)).mono ?_
      rintro en w13 ⟨hi, lo, rfl, rfl, rfl, rfl⟩
      have hp : a.natAbs * b.natAbs ≤ 9223372036854775808 * 9223372036854775808 := Nat.mul_le_mul (by omega) (by omega)
      have hdm := Nat.div_add_mod (a.natAbs * b.natAbs) 18446744073709551616
      have hml := Nat.mod_lt (a.natAbs * b.natAbs) (show 0 < 18446744073709551616 by omega)
      have hab : a * b = if (a < 0) = (b < 0) then ((a.natAbs * b.natAbs : Nat) : Int) else -((a.natAbs * b.natAbs : Nat) : Int) := by
        rw [Int.natCast_mul]
        rcases Int.lt_or_le a 0 with h1 | h1
        · have e1 : (a.natAbs : Int) = -a := by omega
          rcases Int.lt_or_le b 0 with h2 | h2
          · have e2 : (b.natAbs : Int) = -b := by omega
            rw [if_pos (by simp [h1, h2]), e1, e2, Int.neg_mul_neg]
          · have e2 : (b.natAbs : Int) = b := by omega
            rw [if_neg (by simp [h1]; omega), e1, e2, Int.neg_mul, Int.neg_neg]
        · have e1 : (a.natAbs : Int) = a := by omega
          rcases Int.lt_or_le b 0 with h2 | h2
          · have e2 : (b.natAbs : Int) = -b := by omega
            rw [if_neg (by simp [h2]; omega), e1, e2, Int.mul_neg, Int.neg_neg]
          · have e2 : (b.natAbs : Int) = b := by omega
            rw [if_pos (by simp; omega), e1, e2]
      generalize hP : a.natAbs * b.natAbs = p at hp hdm hml hab
      generalize hH : p / 18446744073709551616 = hi at hdm
      generalize hLo : p % 18446744073709551616 = lo at hdm hml
      have fin : ∀ (h l : Int), Wd h l (a * b) → SetK w13 ((⟨b3, 0, none⟩ : Addr).add 0) (.int .i64 h) fun w15 => SetK w15 ((⟨b3, 0, none⟩ : Addr).add 1) (.int .u64 l) fun w16 => ∃ x17, w16.cell? ((⟨b3, 0, none⟩ : Addr).add 0) = some (.int .i64 x17) ∧ ∃ x18, w16.cell? ((⟨b3, 0, none⟩ : Addr).add 1) = some (.int .u64 x18) ∧ (Wd x17 x18 (a * b) ∧ Ext w w16) := fun h l hw =>
        setTwo hblk fun w16 hb16 hbut => ⟨_, (blk2 hb16).1, _, (blk2 hb16).2, hw, hbut.below hx4 (by omega)⟩
      have b1 : hi ≤ 4611686018427387904 := by omega
      refine ⟨_, _, rfl, BoolK.mk (fun t => ?_) (fun t => ?_)⟩
      · have hne : ¬ ((a < 0) = (b < 0)) := by
          intro e; simp only [e] at t; simp at t
        rw [if_neg hne] at hab
        refine BoolK.mk (fun t2 => ?_) (fun t2 => ?_)
        · refine fin _ _ ?_
          have t2 := eq_of_beq t2
          rw [not64 hi (by omega)]
          rw [IntKind.wrap_u64] at t2 ⊢
          rw [IntKind.wrap_u64, IntKind.wrap_i64]
          refine ⟨by omega, by omega, by omega, by omega, ?_⟩
          rw [hab]; omega
        · refine fin _ _ ?_
          have t2 := ne_of_beq_false t2
          rw [not64 hi (by omega)]
          rw [IntKind.wrap_u64] at t2 ⊢
          rw [IntKind.wrap_i64]
          refine ⟨by omega, by omega, by omega, by omega, ?_⟩
          rw [hab]; omega
      · have he : (a < 0) = (b < 0) := by
          simp at t; exact propext t
        rw [if_pos he] at hab
        refine fin _ _ ?_
        rw [IntKind.wrap_i64]
        refine ⟨by omega, by omega, by omega, by omega, ?_⟩
        rw [hab]; omega
    · refine BoolK.mk (fun t => ⟨?_, rfl⟩) (fun t => ⟨?_, rfl⟩)
      · simp at t; rw [IntKind.wrap_u64, IntKind.wrap_u64]; omega
      · simp at t; rw [IntKind.wrap_u64]; omega
  · refine BoolK.mk (fun t => ⟨?_, rfl⟩) (fun t => ⟨?_, rfl⟩)
    · simp at t; rw [IntKind.wrap_u64, IntKind.wrap_u64]; omega
    · simp at t; rw [IntKind.wrap_u64]; omega

theorem c71 (w : World) (h1 l1 h2 l2 z1 z2 : Int) (k1 : Wd h1 l1 z1) (k2 : Wd h2 l2 z2) (hb : -170141183460469231731687303715884105728 ≤ z1 + z2 ∧ z1 + z2 < 170141183460469231731687303715884105728) :
    Calls Try.prog 71 #[.agg #[.int .i64 h1, .int .u64 l1], .agg #[.int .i64 h2, .int .u64 l2]] w fun en w' => ∃ h l, en = .returned (.agg #[.int .i64 h, .int .u64 l]) ∧ (Wd h l (z1 + z2) ∧ Ext w w') := by
  refine calls71 _ _ _ _ _ w ?_
  obtain ⟨p1, p2, p3, p4, rfl⟩ := k1
  obtain ⟨q1, q2, q3, q4, rfl⟩ := k2
  refine AllocK.mk fun b5 w6 hb5 hk5 hx5 => AllocK.mk fun b7 w8 hb7 hk7 hx7 => AllocK.mk fun b9 w10 hb9 hk9 hx9 => ?_
  have g5 := blk2 (hk5.ext (hx7.trans hx9))
  have g7 := blk2 (hk7.ext hx9)
  rw [add_mk0] at g5 g7
  refine ⟨_, g5.2, _, g7.2, _, _, _, run_add64' _ _ _ p1 q1, _, g5.1, _, g7.1, ?_⟩
  refine setTwo hk9 fun w19 hk19 hbut => ⟨_, (blk2 hk19).1, _, (blk2 hk19).2, ?_, hbut.below ((hx5.trans hx7).trans hx9) (by have := hx5.size; have := hx7.size; omega)⟩
  rw [IntKind.wrap_i64, IntKind.wrap_i64, IntKind.wrap_i64]
  exact ⟨by omega, by omega, by omega, by omega, by omega⟩

def cmpI (x y : Int) : Int := if x < y then -1 else if x = y then 0 else 1
theorem c73 (w : World) (h1 l1 h2 l2 z1 z2 : Int) (k1 : Wd h1 l1 z1) (k2 : Wd h2 l2 z2) :
    Calls Try.prog 73 #[.agg #[.int .i64 h1, .int .u64 l1], .agg #[.int .i64 h2, .int .u64 l2]] w fun en w' => ∃ x, en = .returned (.int .i64 x) ∧ (x = cmpI z1 z2 ∧ Ext w w') := by
  refine calls73 _ _ _ _ _ w ?_
  obtain ⟨p1, p2, p3, p4, rfl⟩ := k1
  obtain ⟨q1, q2, q3, q4, rfl⟩ := k2
  refine AllocK.mk fun b5 w6 hb5 hk5 hx5 => AllocK.mk fun b7 w8 hb7 hk7 hx7 => ?_
  have g5 := blk2 (hk5.ext hx7)
  have g7 := blk2 hk7
  have e5 := g5.1; have e7 := g7.1
  rw [add_mk0] at e5 e7
  have hx := hx5.trans hx7
  refine ⟨fun p w' => w' = w8 ∧ (p = true ↔ (h1 < h2 ∨ (h1 = h2 ∧ l1 < l2))), ?_, ?_⟩
  · rintro w10 p ⟨rfl, hp⟩
    refine BoolK.mk (fun t => ?_) (fun t => ?_)
    · have := hp.1 t
      refine ⟨?_, hx⟩
      rw [cmpI, if_pos (by omega)]
    · have hn : ¬ (h1 < h2 ∨ (h1 = h2 ∧ l1 < l2)) := fun h => by rw [hp.2 h] at t; cases t
      refine ⟨_, g5.1, _, g5.2, _, g7.1, _, g7.2, BoolK.mk (fun t2 => ?_) (fun t2 => ?_)⟩
      · simp at t2
        refine ⟨?_, hx⟩
        rw [cmpI, if_neg (by omega), if_pos (by omega)]
      · have : ¬ (h1 = h2 ∧ l1 = l2) := fun h => by simp [h.1, h.2] at t2
        refine ⟨?_, hx⟩
        rw [cmpI, if_neg (by omega), if_neg (by omega)]
  · refine ⟨_, e5, _, e7, BoolK.mk (fun t => ⟨rfl, ?_⟩) (fun t => ⟨_, e5, _, e7, BoolK.mk (fun t2 => ⟨_, g5.2, _, g7.2, rfl, ?_⟩) (fun t2 => ⟨rfl, ?_⟩)⟩)⟩
    · simp at t; simp [t]
    · simp at t t2; simp [t2]
    · simp at t t2; simp; omega

theorem c74 (w : World) (a n b : Int) (ha : -9223372036854775808 ≤ a ∧ a ≤ 9223372036854775807) (hn : -9223372036854775808 ≤ n ∧ n ≤ 9223372036854775807) (hb : -9223372036854775808 ≤ b ∧ b ≤ 9223372036854775807) :
    Calls Try.prog 74 #[.int .i64 a, .int .i64 n, .int .i64 b] w fun en w' => ∃ x, en = .returned (.int .i64 x) ∧ (x = cmpI (a + n) b ∧ Ext w w') := by
  refine calls74 _ _ _ _ w ?_
  refine (c72 w a 1 ha (by omega)).mono ?_
  rintro en w6 ⟨h1, l1, rfl, k1, hx6⟩
  refine ⟨_, _, rfl, (c72 w6 n 1 hn (by omega)).mono ?_⟩
  rintro en w10 ⟨h2, l2, rfl, k2, hx10⟩
  refine ⟨_, _, rfl, (c71 w10 _ _ _ _ _ _ k1 k2 (by omega)).mono ?_⟩
  rintro en w14 ⟨h3, l3, rfl, k3, hx14⟩
  refine ⟨_, _, rfl, (c72 w14 b 1 hb (by omega)).mono ?_⟩
  rintro en w18 ⟨h4, l4, rfl, k4, hx18⟩
  refine ⟨_, _, rfl, (c73 w18 _ _ _ _ _ _ k3 k4).mono ?_⟩
  rintro en w21 ⟨x, rfl, rfl, hx21⟩
  refine ⟨_, rfl, ?_, (((hx6.trans hx10).trans hx14).trans hx18).trans hx21⟩
  rw [Int.mul_one, Int.mul_one, Int.mul_one]
end Go.Proofs.Ytggfnakhmjkoeaa

namespace Go.Proofs.Ytggfnakhmjkoeaa
open Go Go.V Go.Proofs
open Go.RowKit (Below)
/-! manystrand/manystrandref06.whole -/
def N87 (x1 : Int) (x2 : Int) (K : Int → Int → World → Prop) (w : World) : Prop :=
  AllocK w (#[.int .i64 0, .int .i64 0]) 87 fun b3 w4 =>
  0 ≤ (32 : Int) ∧
  (0 ≤ (32 : Int) ∧
    (SetK w4 (b3.add 0) (.int .i64 (IntKind.wrap .i64 (x1 + ((x2 : Int).fdiv (2 ^ (min (32 : Int).toNat (IntKind.bits .i64))))))) fun w5 =>
      SetK w5 (b3.add 1) (.int .i64 (IntKind.wrap .i64 (x2 - (IntKind.wrap .i64 (((x2 : Int).fdiv (2 ^ (min (32 : Int).toNat (IntKind.bits .i64)))) * 2 ^ (min (32 : Int).toNat (IntKind.bits .i64))))))) fun w6 =>
      ∃ (x7 : Int), w6.cell? (b3.add 0) = some (.int .i64 x7) ∧
      (∃ (x8 : Int), w6.cell? (b3.add 1) = some (.int .i64 x8) ∧
        (K x7 x8 w6))))
def ann87 : Ann := (.two .nil (.two .nil (.two .nil .nil)))
noncomputable def code87 : Code := match Try.f87.body with | some c => c | none => .skip
theorem wp87 (x1 : Int) (x2 : Int) (K : Int → Int → World → Prop) (w : World) : WP Try.prog tab code87 ann87 (fnQ tab Try.f87.results.toList [(.agg [(.int .i64), (.int .i64)])] K) (argE 0 [(.int .i64 x1), (.int .i64 x2)]) w = N87 x1 x2 K w := by kernel_rfl
theorem calls87 (x1 : Int) (x2 : Int) (K : Int → Int → World → Prop) (w : World) (h : N87 x1 x2 K w) : Calls Try.prog 87 #[(.int .i64 x1), (.int .i64 x2)] w fun en w' => ∃ (x9 : Int), ∃ (x10 : Int), en = .returned (.agg #[(.int .i64 x9), (.int .i64 x10)]) ∧ K x9 x10 w' :=
  have e : (fun en w' => ExShs [(.agg [(.int .i64), (.int .i64)])] fun vs => en = .returned (tupled vs) ∧ ap [(.agg [(.int .i64), (.int .i64)])] K vs fun p => p w') = (fun (en : Ending) (w' : World) => ∃ (x9 : Int), ∃ (x10 : Int), en = .returned (.agg #[(.int .i64 x9), (.int .i64 x10)]) ∧ K x9 x10 w') := by kernel_rfl
  e ▸ fn_sound tabOk mixed Try.func87 (by kernel_rfl : Try.f87.body = some code87) ann87 [(.int .i64 x1), (.int .i64 x2)] [(.agg [(.int .i64), (.int .i64)])] K w (by kernel_rfl) ((wp87 x1 x2 K w).symm ▸ h)
end Go.Proofs.Ytggfnakhmjkoeaa

namespace Go.Proofs.Ytggfnakhmjkoeaa
open Go Go.V Go.Proofs
open Go.RowKit (Below)
/-! manystrand/manystrandref06.compare -/
def N75 (x1 : Int) (x2 : Int) (x3 : Int) (K : Int → World → Prop) (w : World) : Prop :=
  AllocK w (#[(.int .i64 x1), (.int .i64 x2)]) 87 fun b4 w5 =>
  0 ≤ (32 : Int) ∧
  (0 ≤ (32 : Int) ∧
    (0 ≤ (32 : Int) ∧
      (Calls Try.prog 87 #[(.int .i64 ((x3 : Int).fdiv (2 ^ (min (32 : Int).toNat (IntKind.bits .i64))))), (.int .i64 (IntKind.wrap .i64 (x3 - (IntKind.wrap .i64 (((x3 : Int).fdiv (2 ^ (min (32 : Int).toNat (IntKind.bits .i64)))) * 2 ^ (min (32 : Int).toNat (IntKind.bits .i64)))))))] w5 fun e9 w8 =>
        ∃ (x6 : Int), ∃ (x7 : Int), e9 = .returned (.agg #[(.int .i64 x6), (.int .i64 x7)]) ∧
        (AllocK w8 (#[.int .i64 0, .int .i64 0]) 87 fun b10 w11 =>
          SetK w11 (b10.add 0) (.int .i64 x6) fun w12 =>
          SetK w12 (b10.add 1) (.int .i64 x7) fun w13 =>
          ∃ (x14 : Int), w13.cell? (b4.add 0) = some (.int .i64 x14) ∧
          (∃ (x15 : Int), w13.cell? (b4.add 1) = some (.int .i64 x15) ∧
            (∃ (x16 : Int), w13.cell? (b10.add 0) = some (.int .i64 x16) ∧
              (∃ (x17 : Int), w13.cell? (b10.add 1) = some (.int .i64 x17) ∧
                (BoolK (((x14 : Int) == x16) && (((x15 : Int) == x17) && (true)))
                  (K 0 w13)
                  (∃ (x18 : Int), w13.cell? b4 = some (.int .i64 x18) ∧
                    (∃ (x19 : Int), w13.cell? b10 = some (.int .i64 x19) ∧
                      (BoolK (decide ((x18 : Int) < x19))
                        (K (-1) w13)
                        (∃ (x20 : Int), w13.cell? b4 = some (.int .i64 x20) ∧
                          (∃ (x21 : Int), w13.cell? b10 = some (.int .i64 x21) ∧
                            (BoolK ((x20 : Int) == x21)
                              (∃ (x22 : Int), w13.cell? (b4.add 1) = some (.int .i64 x22) ∧
                                (∃ (x23 : Int), w13.cell? (b10.add 1) = some (.int .i64 x23) ∧
                                  (BoolK (decide ((x22 : Int) < x23))
                                    (K (-1) w13)
                                    (K 1 w13))))
                              (K 1 w13)))))))))))))))
def ann75 : Ann := (.two .nil (.two .nil (.two (.one (.two .nil (.two (.two .nil .nil) (.two .nil (.two (.two .nil .nil) .nil))))) (.two .nil .nil))))
noncomputable def code75 : Code := match Try.f75.body with | some c => c | none => .skip
theorem wp75 (x1 : Int) (x2 : Int) (x3 : Int) (K : Int → World → Prop) (w : World) : WP Try.prog tab code75 ann75 (fnQ tab Try.f75.results.toList [(.one (.int .i64))] K) (argE 0 [(.agg #[(.int .i64 x1), (.int .i64 x2)]), (.int .i64 x3)]) w = N75 x1 x2 x3 K w := by kernel_rfl
theorem calls75 (x1 : Int) (x2 : Int) (x3 : Int) (K : Int → World → Prop) (w : World) (h : N75 x1 x2 x3 K w) : Calls Try.prog 75 #[(.agg #[(.int .i64 x1), (.int .i64 x2)]), (.int .i64 x3)] w fun en w' => ∃ (x24 : Int), en = .returned (.int .i64 x24) ∧ K x24 w' :=
  have e : (fun en w' => ExShs [(.one (.int .i64))] fun vs => en = .returned (tupled vs) ∧ ap [(.one (.int .i64))] K vs fun p => p w') = (fun (en : Ending) (w' : World) => ∃ (x24 : Int), en = .returned (.int .i64 x24) ∧ K x24 w') := by kernel_rfl
  e ▸ fn_sound tabOk mixed Try.func75 (by kernel_rfl : Try.f75.body = some code75) ann75 [(.agg #[(.int .i64 x1), (.int .i64 x2)]), (.int .i64 x3)] [(.one (.int .i64))] K w (by kernel_rfl) ((wp75 x1 x2 x3 K w).symm ▸ h)
end Go.Proofs.Ytggfnakhmjkoeaa

namespace Go.Proofs.Ytggfnakhmjkoeaa
open Go Go.V Go.Proofs
open Go.RowKit (Below)
/-! manystrand/manystrandref06.total -/
def N76 (a1 : Option Addr) (l1 : Nat) (_c1 : Nat) (a2 : Option Addr) (l2 : Nat) (_c2 : Nat) (K : Int → Int → World → Prop) (w : World) : Prop :=
  AllocK w (#[.int .i64 0, .int .i64 0]) 87 fun b3 w4 =>
  ∃ (I5 : Int → Int → Int → World → Prop) (μ6 : Int → Int → Int → World → Nat),
  (I5 0 0 0 w4 ∧ True) ∧
  ∀ (w7 : World) (x8 : Int) (x9 : Int) (x10 : Int), I5 x8 x9 x10 w7 →
  BoolK (decide ((x10 : Int) < (l2 : Nat)))
  ((0 ≤ (x10 : Int) ∧ (x10 : Int) < (l2 : Nat)) ∧
    AddrK a2 fun b11 =>
    ∃ (x12 : Int), w7.cell? (b11.add ((x10 : Int).toNat * 1)) = some (.int .i64 x12) ∧
    (0 ≤ (32 : Int) ∧
      ((0 ≤ (x10 : Int) ∧ (x10 : Int) < (l1 : Nat)) ∧
        AddrK a1 fun b13 =>
        ∃ (x14 : Int), w7.cell? (b13.add ((x10 : Int).toNat * 1)) = some (.int .i64 x14) ∧
        (DrewK w7 fun w15 =>
          (0 ≤ (x10 : Int) ∧ (x10 : Int) < (l1 : Nat)) ∧
          AddrK a1 fun b16 =>
          ∃ (x17 : Int), w15.cell? (b16.add ((x10 : Int).toNat * 1)) = some (.int .i64 x17) ∧
          ((0 ≤ (x10 : Int) ∧ (x10 : Int) < (l2 : Nat)) ∧
            AddrK a2 fun b18 =>
            ∃ (x19 : Int), w15.cell? (b18.add ((x10 : Int).toNat * 1)) = some (.int .i64 x19) ∧
            (0 ≤ (32 : Int) ∧
              (I5 (IntKind.wrap .i64 (x8 + (IntKind.wrap .i64 (x14 * ((x12 : Int).fdiv (2 ^ (min (32 : Int).toNat (IntKind.bits .i64)))))))) (IntKind.wrap .i64 (x9 + (IntKind.wrap .i64 (x17 * (IntKind.wrap .i64 (x19 - (IntKind.wrap .i64 (((x12 : Int).fdiv (2 ^ (min (32 : Int).toNat (IntKind.bits .i64)))) * 2 ^ (min (32 : Int).toNat (IntKind.bits .i64)))))))))) (IntKind.wrap .i64 (x10 + 1)) w15 ∧ μ6 (IntKind.wrap .i64 (x8 + (IntKind.wrap .i64 (x14 * ((x12 : Int).fdiv (2 ^ (min (32 : Int).toNat (IntKind.bits .i64)))))))) (IntKind.wrap .i64 (x9 + (IntKind.wrap .i64 (x17 * (IntKind.wrap .i64 (x19 - (IntKind.wrap .i64 (((x12 : Int).fdiv (2 ^ (min (32 : Int).toNat (IntKind.bits .i64)))) * 2 ^ (min (32 : Int).toNat (IntKind.bits .i64)))))))))) (IntKind.wrap .i64 (x10 + 1)) w15 < μ6 x8 x9 x10 w7)))))))
  (Calls Try.prog 87 #[(.int .i64 x8), (.int .i64 x9)] w7 fun e23 w22 =>
    ∃ (x20 : Int), ∃ (x21 : Int), e23 = .returned (.agg #[(.int .i64 x20), (.int .i64 x21)]) ∧
    (SetK w22 (b3.add 0) (.int .i64 x20) fun w24 =>
      SetK w24 (b3.add 1) (.int .i64 x21) fun w25 =>
      ∃ (x26 : Int), w25.cell? (b3.add 0) = some (.int .i64 x26) ∧
      (∃ (x27 : Int), w25.cell? (b3.add 1) = some (.int .i64 x27) ∧
        (K x26 x27 w25))))
def ann76 : Ann := (.two .nil (.two .nil (.two (.two .nil (.one (.loop [(5, (.one (.int .i64))), (6, (.one (.int .i64))), (7, (.one (.int .i64)))] [0, 1, 4] (.two (.two .nil (.two .nil .nil)) (.two (.one (.two .nil (.two .nil (.any 15 (.take 0 (.take 1 (.take 2 (.take 3 (.take 4 (.take 5 (.take 6 (.take 7 (.take 8 (.take 9 (.take 10 (.take 11 (.take 12 (.take 13 (.take 14 .done))))))))))))))))))) .nil))))) (.two .nil .nil))))
noncomputable def code76 : Code := match Try.f76.body with | some c => c | none => .skip
theorem wp76 (a1 : Option Addr) (l1 : Nat) (c1 : Nat) (a2 : Option Addr) (l2 : Nat) (c2 : Nat) (K : Int → Int → World → Prop) (w : World) : WP Try.prog tab code76 ann76 (fnQ tab Try.f76.results.toList [(.agg [(.int .i64), (.int .i64)])] K) (argE 0 [(.slice a1 l1 c1), (.slice a2 l2 c2)]) w = N76 a1 l1 c1 a2 l2 c2 K w := by kernel_rfl
theorem calls76 (a1 : Option Addr) (l1 : Nat) (c1 : Nat) (a2 : Option Addr) (l2 : Nat) (c2 : Nat) (K : Int → Int → World → Prop) (w : World) (h : N76 a1 l1 c1 a2 l2 c2 K w) : Calls Try.prog 76 #[(.slice a1 l1 c1), (.slice a2 l2 c2)] w fun en w' => ∃ (x28 : Int), ∃ (x29 : Int), en = .returned (.agg #[(.int .i64 x28), (.int .i64 x29)]) ∧ K x28 x29 w' :=
  have e : (fun en w' => ExShs [(.agg [(.int .i64), (.int .i64)])] fun vs => en = .returned (tupled vs) ∧ ap [(.agg [(.int .i64), (.int .i64)])] K vs fun p => p w') = (fun (en : Ending) (w' : World) => ∃ (x28 : Int), ∃ (x29 : Int), en = .returned (.agg #[(.int .i64 x28), (.int .i64 x29)]) ∧ K x28 x29 w') := by kernel_rfl
  e ▸ fn_sound tabOk mixed Try.func76 (by kernel_rfl : Try.f76.body = some code76) ann76 [(.slice a1 l1 c1), (.slice a2 l2 c2)] [(.agg [(.int .i64), (.int .i64)])] K w (by kernel_rfl) ((wp76 a1 l1 c1 a2 l2 c2 K w).symm ▸ h)
end Go.Proofs.Ytggfnakhmjkoeaa

namespace Go.Proofs.Ytggfnakhmjkoeaa
open Go Go.V Go.Proofs
open Go.RowKit (Below)
/-! manystrand/manystrandref06.times -/
def N77 (x1 : Int) (x2 : Int) (x3 : Int) (K : Bool → World → Prop) (w : World) : Prop :=
  ∃ (J4 : Bool → World → Prop),
  (∀ (w5 : World) (p6 : Bool), J4 p6 w5 →
    BoolK p6
    (K ((x3 : Int) == 0) w5)
    (BoolK ((x1 : Int) == -1)
      (AllocK w5 (#[(.int .i64 1), (.int .i64 1)]) 3 fun b7 w8 =>
        AllocK w8 (#[(.int .i64 x2), (.int .i64 x3)]) 3 fun b9 w10 =>
        Calls Try.prog 76 #[(.slice (some b7) 2 2), (.slice (some b9) 2 2)] w10 fun e14 w13 =>
        ∃ (x11 : Int), ∃ (x12 : Int), e14 = .returned (.agg #[(.int .i64 x11), (.int .i64 x12)]) ∧
        (Calls Try.prog 75 #[(.agg #[(.int .i64 x11), (.int .i64 x12)]), (.int .i64 0)] w13 fun e17 w16 =>
          ∃ (x15 : Int), e17 = .returned (.int .i64 x15) ∧
          (K ((x15 : Int) == 0) w16)))
      (BoolK ((x2 : Int) == -1)
        (AllocK w5 (#[(.int .i64 1), (.int .i64 1)]) 3 fun b18 w19 =>
          AllocK w19 (#[(.int .i64 x1), (.int .i64 x3)]) 3 fun b20 w21 =>
          Calls Try.prog 76 #[(.slice (some b18) 2 2), (.slice (some b20) 2 2)] w21 fun e25 w24 =>
          ∃ (x22 : Int), ∃ (x23 : Int), e25 = .returned (.agg #[(.int .i64 x22), (.int .i64 x23)]) ∧
          (Calls Try.prog 75 #[(.agg #[(.int .i64 x22), (.int .i64 x23)]), (.int .i64 0)] w24 fun e28 w27 =>
            ∃ (x26 : Int), e28 = .returned (.int .i64 x26) ∧
            (K ((x26 : Int) == 0) w27)))
        ((x1 : Int) ≠ 0 ∧
          (BoolK (((x3 : Int).tmod x1 : Int) == 0)
            ((x1 : Int) ≠ 0 ∧
              (K ((IntKind.wrap .i64 ((x3 : Int).tdiv x1) : Int) == x2) w5))
            (K false w5)))))) ∧
  (BoolK ((x1 : Int) == 0)
    (J4 true w)
    (J4 ((x2 : Int) == 0) w))
def ann77 : Ann := (.two .nil (.two (.one (.cut [(7, (.one .bool))] [0, 1, 2] .nil (.two (.two .nil .nil) (.two .nil (.two (.two .nil .nil) (.two .nil (.two (.two .nil .nil) .nil))))))) (.two .nil .nil)))
noncomputable def code77 : Code := match Try.f77.body with | some c => c | none => .skip
theorem wp77 (x1 : Int) (x2 : Int) (x3 : Int) (K : Bool → World → Prop) (w : World) : WP Try.prog tab code77 ann77 (fnQ tab Try.f77.results.toList [(.one .bool)] K) (argE 0 [(.int .i64 x1), (.int .i64 x2), (.int .i64 x3)]) w = N77 x1 x2 x3 K w := by kernel_rfl
theorem calls77 (x1 : Int) (x2 : Int) (x3 : Int) (K : Bool → World → Prop) (w : World) (h : N77 x1 x2 x3 K w) : Calls Try.prog 77 #[(.int .i64 x1), (.int .i64 x2), (.int .i64 x3)] w fun en w' => ∃ (p29 : Bool), en = .returned (.bool p29) ∧ K p29 w' :=
  have e : (fun en w' => ExShs [(.one .bool)] fun vs => en = .returned (tupled vs) ∧ ap [(.one .bool)] K vs fun p => p w') = (fun (en : Ending) (w' : World) => ∃ (p29 : Bool), en = .returned (.bool p29) ∧ K p29 w') := by kernel_rfl
  e ▸ fn_sound tabOk mixed Try.func77 (by kernel_rfl : Try.f77.body = some code77) ann77 [(.int .i64 x1), (.int .i64 x2), (.int .i64 x3)] [(.one .bool)] K w (by kernel_rfl) ((wp77 x1 x2 x3 K w).symm ▸ h)
end Go.Proofs.Ytggfnakhmjkoeaa

namespace Go.Proofs.Ytggfnakhmjkoeaa
open Go Go.V Go.Proofs
open Go.RowKit (Below)
/-! manystrand/manystrandref06.atMost -/
def N78 (x1 : Int) (x2 : Int) (x3 : Int) (K : Bool → World → Prop) (w : World) : Prop :=
  AllocK w (#[(.int .i64 1), (.int .i64 (-1))]) 3 fun b4 w5 =>
  AllocK w5 (#[(.int .i64 x1), (.int .i64 x2)]) 3 fun b6 w7 =>
  Calls Try.prog 76 #[(.slice (some b4) 2 2), (.slice (some b6) 2 2)] w7 fun e11 w10 =>
  ∃ (x8 : Int), ∃ (x9 : Int), e11 = .returned (.agg #[(.int .i64 x8), (.int .i64 x9)]) ∧
  (Calls Try.prog 75 #[(.agg #[(.int .i64 x8), (.int .i64 x9)]), (.int .i64 x3)] w10 fun e14 w13 =>
    ∃ (x12 : Int), e14 = .returned (.int .i64 x12) ∧
    (K (decide ((x12 : Int) ≤ 0)) w13))
def ann78 : Ann := (.two .nil (.two .nil .nil))
noncomputable def code78 : Code := match Try.f78.body with | some c => c | none => .skip
theorem wp78 (x1 : Int) (x2 : Int) (x3 : Int) (K : Bool → World → Prop) (w : World) : WP Try.prog tab code78 ann78 (fnQ tab Try.f78.results.toList [(.one .bool)] K) (argE 0 [(.int .i64 x1), (.int .i64 x2), (.int .i64 x3)]) w = N78 x1 x2 x3 K w := by kernel_rfl
theorem calls78 (x1 : Int) (x2 : Int) (x3 : Int) (K : Bool → World → Prop) (w : World) (h : N78 x1 x2 x3 K w) : Calls Try.prog 78 #[(.int .i64 x1), (.int .i64 x2), (.int .i64 x3)] w fun en w' => ∃ (p15 : Bool), en = .returned (.bool p15) ∧ K p15 w' :=
  have e : (fun en w' => ExShs [(.one .bool)] fun vs => en = .returned (tupled vs) ∧ ap [(.one .bool)] K vs fun p => p w') = (fun (en : Ending) (w' : World) => ∃ (p15 : Bool), en = .returned (.bool p15) ∧ K p15 w') := by kernel_rfl
  e ▸ fn_sound tabOk mixed Try.func78 (by kernel_rfl : Try.f78.body = some code78) ann78 [(.int .i64 x1), (.int .i64 x2), (.int .i64 x3)] [(.one .bool)] K w (by kernel_rfl) ((wp78 x1 x2 x3 K w).symm ▸ h)
end Go.Proofs.Ytggfnakhmjkoeaa

namespace Go.Proofs.Ytggfnakhmjkoeaa
open Go Go.V Go.Proofs
open Go.RowKit (Below)

theorem fdivS (a : Int) : (a.fdiv (2 ^ (min (32 : Int).toNat (IntKind.bits .i64)))) = a / 4294967296 := by
  show a.fdiv 4294967296 = _
  rw [Int.fdiv_eq_ediv_of_nonneg _ (by omega)]
theorem fdiv4 (a : Int) : a.fdiv 4294967296 = a / 4294967296 := Int.fdiv_eq_ediv_of_nonneg _ (by omega)
theorem pow32 : (2 : Int) ^ (min (32 : Int).toNat (IntKind.bits .i64)) = 4294967296 := by decide
/-- the number that (h, l) stands for -/
structure Wr (h l z : Int) : Prop where
  l0 : 0 ≤ l
  l1 : l < 4294967296
  h0 : -9223372036854775808 ≤ h
  h1 : h ≤ 9223372036854775807
  eq : z = h * 4294967296 + l

theorem c87 (w : World) (h l : Int) (hl : -4611686018427387904 ≤ l ∧ l ≤ 4611686018427387904) (hh : -4611686018427387904 ≤ h ∧ h ≤ 4611686018427387904) :
    Calls Try.prog 87 #[.int .i64 h, .int .i64 l] w fun en w' => ∃ h' l', en = .returned (.agg #[.int .i64 h', .int .i64 l']) ∧ (Wr h' l' (h * 4294967296 + l) ∧ Ext w w') := by
  refine calls87 _ _ _ w ?_
  refine AllocK.mk fun b w4 hb hblk hx => ?_
  rw [fdivS, pow32]
  refine ⟨by omega, by omega, setTwo hblk fun w6 hb6 hbut => ⟨_, (blk2 hb6).1, _, (blk2 hb6).2, ?_, hbut.below hx (by omega)⟩⟩
  rw [wrap_id (by omega) (by omega), wrap_id (x := l / 4294967296 * 4294967296) (by omega) (by omega), wrap_id (by omega) (by omega)]
  exact ⟨by omega, by omega, by omega, by omega, by omega⟩

theorem c75 (w : World) (h l z n : Int) (k : Wr h l z) (hn : -9223372036854775808 ≤ n ∧ n ≤ 9223372036854775807) :
    Calls Try.prog 75 #[.agg #[.int .i64 h, .int .i64 l], .int .i64 n] w fun en w' => ∃ x, en = .returned (.int .i64 x) ∧ (x = cmpI z n ∧ Ext w w') := by
  refine calls75 _ _ _ _ w ?_
  obtain ⟨p1, p2, p3, p4, rfl⟩ := k
  refine AllocK.mk fun b4 w5 hb4 hk4 hx5 => ?_
  rw [fdivS, pow32, wrap_id (x := n / 4294967296 * 4294967296) (by omega) (by omega), wrap_id (by omega) (by omega)]
  refine ⟨by omega, by omega, by omega, (c87 w5 _ _ (by omega) (by omega)).mono ?_⟩
  rintro en w8 ⟨h', l', rfl, k', hx8⟩
  obtain ⟨q1, q2, q3, q4, q5⟩ := k'
  refine ⟨_, _, rfl, AllocK.mk fun b10 w11 hb10 hk10 hx11 => setTwo hk10 fun w13 hk13 hbut => ?_⟩
  have hx13 : Ext w8 w13 := hbut.below hx11 (by omega)
  have g4 := blk2 (hk4.ext (hx8.trans hx13))
  have g10 := blk2 hk13
  have e4 := g4.1; have e10 := g10.1
  rw [add_mk0] at e4 e10
  have hx := (hx5.trans hx8).trans hx13
  refine ⟨_, g4.1, _, g4.2, _, g10.1, _, g10.2, BoolK.mk (fun t => ?_) (fun t => ?_)⟩
  · simp at t
    refine ⟨?_, hx⟩
    rw [cmpI, if_neg (by omega), if_pos (by omega)]
  · have hne : ¬ (h = h' ∧ l = l') := fun e => by simp [e.1, e.2] at t
    refine ⟨_, e4, _, e10, BoolK.mk (fun t2 => ?_) (fun t2 => ?_)⟩
    · simp at t2
      refine ⟨?_, hx⟩
      rw [cmpI, if_pos (by omega)]
    · simp at t2
      refine ⟨_, e4, _, e10, BoolK.mk (fun t3 => ⟨_, g4.2, _, g10.2, BoolK.mk (fun t4 => ?_) (fun t4 => ?_)⟩) (fun t3 => ?_)⟩
      · simp at t3 t4
        refine ⟨?_, hx⟩
        rw [cmpI, if_pos (by omega)]
      · simp at t3 t4
        refine ⟨?_, hx⟩
        rw [cmpI, if_neg (by omega), if_neg (by omega)]
      · simp at t3
        refine ⟨?_, hx⟩
        rw [cmpI, if_neg (by omega), if_neg (by omega)]

/-- the sum of the first j products -/
def dotS (c v : List Int) : Nat → Int
  | 0 => 0
  | j + 1 => dotS c v j + c.getD j 0 * v.getD j 0
theorem mul_bnd {c x B : Int} (hc : -1000000 ≤ c ∧ c ≤ 1000000) (hx : -B ≤ x ∧ x ≤ B) : -(1000000 * B) ≤ c * x ∧ c * x ≤ 1000000 * B := by
  have hB : 0 ≤ B := by omega
  have h1 : (c * x).natAbs ≤ 1000000 * B.natAbs := by rw [Int.natAbs_mul]; exact Nat.mul_le_mul (by omega) (by omega)
  have : (B.natAbs : Int) = B := by omega
  omega

theorem c76 (w : World) (a1 : Option Addr) (l1 c1 : Nat) (a2 : Option Addr) (l2 c2 : Nat) (cs vs : List Int) (hc : Ints w a1 l1 cs) (hv : Ints w a2 l2 vs) (hl : vs.length ≤ cs.length) (h40 : vs.length ≤ 40)
    (hcb : ∀ x ∈ cs, -1000000 ≤ x ∧ x ≤ 1000000) (hvb : ∀ x ∈ vs, -9223372036854775808 ≤ x ∧ x ≤ 9223372036854775807) :
    Calls Try.prog 76 #[.slice a1 l1 c1, .slice a2 l2 c2] w fun en w' => ∃ h l, en = .returned (.agg #[.int .i64 h, .int .i64 l]) ∧ (Wr h l (dotS cs vs vs.length) ∧ Ext w w') := by
  refine calls76 _ _ _ _ _ _ _ w ?_
  have e1 := hc.1
  have e2 := hv.1
  refine AllocK.mk fun b3 w4 hb3 hk3 hx4 => ?_
  refine ⟨fun h l i w' => ∃ k : Nat, i = k ∧ k ≤ vs.length ∧ dotS cs vs k = h * 4294967296 + l ∧ (-(2147483648000000 * (k : Int)) ≤ h ∧ h ≤ 2147483648000000 * k) ∧ (-(4294967296000000 * (k : Int)) ≤ l ∧ l ≤ 4294967296000000 * k) ∧ Ext w4 w', fun _ _ i _ => vs.length - i.toNat,
    ⟨⟨0, rfl, by omega, rfl, by omega, by omega, Ext.refl _⟩, trivial⟩, ?_⟩
  rintro w7 h l _ ⟨k, rfl, hk, hd, hh, hll, hB⟩
  have hB' := hx4.trans hB
  refine BoolK.mk (fun hlt => ?_) (fun hge => ?_)
  · have hlt : k < vs.length := by simp at hlt; omega
    obtain ⟨b2, o2, rfl, g2⟩ := intAt hv w7 hB' hlt
    obtain ⟨b1, o1, rfl, g1⟩ := intAt hc w7 hB' (i := k) (by omega)
    refine ⟨by omega, ?_⟩
    simp only [AddrK, Int.toNat_natCast, add_mk, Nat.mul_one, pow32, fdiv4]
    refine ⟨_, g2, by omega, by omega, _, g1, DrewK.mk fun w15 hx15 => ⟨by omega, _, hx15.cell g1, by omega, _, hx15.cell g2, by omega, ?_⟩⟩
    have vb := hvb _ (List.getElem_mem hlt)
    have cb := hcb _ (List.getElem_mem (show k < cs.length by omega))
    have m1 := mul_bnd (B := 2147483648) cb (x := vs[k] / 4294967296) (by omega)
    have m2 := mul_bnd (B := 4294967296) cb (x := vs[k] - vs[k] / 4294967296 * 4294967296) (by omega)
    have hsplit : cs[k] * vs[k] = cs[k] * (vs[k] / 4294967296) * 4294967296 + cs[k] * (vs[k] - vs[k] / 4294967296 * 4294967296) := by
      rw [Int.mul_sub, Int.mul_assoc]; omega
    have hd' : dotS cs vs (k + 1) = dotS cs vs k + cs[k] * vs[k] := by rw [dotS, getD_get hlt, getD_get (show k < cs.length by omega)]
    rw [wrap_id (x := vs[k] / 4294967296 * 4294967296) (by omega) (by omega), wrap_id (x := vs[k] - vs[k] / 4294967296 * 4294967296) (by omega) (by omega)]
    generalize cs[k] * (vs[k] / 4294967296) = p1 at m1 hsplit ⊢
    generalize cs[k] * (vs[k] - vs[k] / 4294967296 * 4294967296) = p2 at m2 hsplit ⊢
    rw [wrap_id (x := p1) (by omega) (by omega), wrap_id (x := p2) (by omega) (by omega), wrap_id (x := h + p1) (by omega) (by omega), wrap_id (x := l + p2) (by omega) (by omega), wrap_succ (by omega)]
    exact ⟨⟨k + 1, rfl, by omega, by rw [hd', hd, hsplit]; omega, by omega, by omega, hB.trans hx15⟩, by simp; omega⟩
  · have : k = vs.length := by simp at hge; omega
    subst this
    refine (c87 w7 h l (by omega) (by omega)).mono ?_
    rintro en w22 ⟨h', l', rfl, kW, hx22⟩
    rw [← hd] at kW
    refine ⟨_, _, rfl, setTwo (hk3.ext (hB.trans hx22)) fun w25 hk25 hbut => ⟨_, (blk2 hk25).1, _, (blk2 hk25).2, kW, hbut.below (hB'.trans hx22) (by omega)⟩⟩

theorem ints2_lit {w : World} {b t : Nat} {x y : Int} (h : Blk w b #[.int .i64 x, .int .i64 y] t) : Ints w (some ⟨b, 0, none⟩) 2 [x, y] := ints_lit2 h
theorem dot2 (a b x y : Int) : dotS [a, b] [x, y] 2 = a * x + b * y := by simp [dotS]

/-- total and compare of two products -/
theorem twoK (w : World) (a b x y n : Int) (ha : a = 1 ∨ a = -1) (hb : b = 1 ∨ b = -1) (hx : -9223372036854775808 ≤ x ∧ x ≤ 9223372036854775807) (hy : -9223372036854775808 ≤ y ∧ y ≤ 9223372036854775807) (hn : -9223372036854775808 ≤ n ∧ n ≤ 9223372036854775807)
    {K : Int → World → Prop} (hK : ∀ w', Ext w w' → K (cmpI (a * x + b * y) n) w') :
    AllocK w (#[(.int .i64 a), (.int .i64 b)]) 3 fun b4 w5 => AllocK w5 (#[(.int .i64 x), (.int .i64 y)]) 3 fun b6 w7 =>
      Calls Try.prog 76 #[(.slice (some b4) 2 2), (.slice (some b6) 2 2)] w7 fun e11 w10 => ∃ (x8 : Int), ∃ (x9 : Int), e11 = .returned (.agg #[(.int .i64 x8), (.int .i64 x9)]) ∧
      (Calls Try.prog 75 #[(.agg #[(.int .i64 x8), (.int .i64 x9)]), (.int .i64 n)] w10 fun e14 w13 => ∃ (x12 : Int), e14 = .returned (.int .i64 x12) ∧ K x12 w13) := by
  refine AllocK.mk fun b4 w5 _ hk4 hx5 => AllocK.mk fun b6 w7 _ hk6 hx7 => ?_
  refine (c76 w7 _ 2 2 _ 2 2 [a, b] [x, y] (ints2_lit (hk4.ext hx7)) (ints2_lit hk6) (by simp) (by simp) (by simp; omega) (by simp; omega)).mono ?_
  rintro en w10 ⟨h, l, rfl, kW, hx10⟩
  rw [show ([x, y] : List Int).length = 2 from rfl, dot2] at kW
  refine ⟨_, _, rfl, (c75 w10 h l _ n kW hn).mono ?_⟩
  rintro en w13 ⟨r, rfl, rfl, hx13⟩
  exact ⟨_, rfl, hK _ (((hx5.trans hx7).trans hx10).trans hx13)⟩

theorem c78 (w : World) (x y n : Int) (hx : -9223372036854775808 ≤ x ∧ x ≤ 9223372036854775807) (hy : -9223372036854775808 ≤ y ∧ y ≤ 9223372036854775807) (hn : -9223372036854775808 ≤ n ∧ n ≤ 9223372036854775807) :
    Calls Try.prog 78 #[.int .i64 x, .int .i64 y, .int .i64 n] w fun en w' => ∃ p, en = .returned (.bool p) ∧ (p = decide (x ≤ y + n) ∧ Ext w w') := by
  refine calls78 _ _ _ _ w ?_
  refine twoK w 1 (-1) x y n (.inl rfl) (.inr rfl) hx hy hn (K := fun x12 w13 => decide (x12 ≤ 0) = decide (x ≤ y + n) ∧ Ext w w13) fun w' hw => ⟨?_, hw⟩
  rw [decide_eq_decide, cmpI]
  split
  · omega
  split <;> omega

theorem tdiv_ok {x z : Int} (h0 : x ≠ 0) (h1 : x ≠ -1) (hz : -9223372036854775808 ≤ z ∧ z ≤ 9223372036854775807) : -9223372036854775808 ≤ z.tdiv x ∧ z.tdiv x ≤ 9223372036854775807 := by
  by_cases hx : x = 1
  · subst hx; rw [Int.tdiv_one]; exact hz
  · have h2 : (z.tdiv x).natAbs = z.natAbs / x.natAbs := Int.natAbs_tdiv z x
    have h3 : z.natAbs / x.natAbs ≤ z.natAbs / 2 := Nat.div_le_div_left (by omega) (by omega)
    omega

theorem c77 (w : World) (x y z : Int) (hx : -9223372036854775808 ≤ x ∧ x ≤ 9223372036854775807) (hy : -9223372036854775808 ≤ y ∧ y ≤ 9223372036854775807) (hz : -9223372036854775808 ≤ z ∧ z ≤ 9223372036854775807) :
    Calls Try.prog 77 #[.int .i64 x, .int .i64 y, .int .i64 z] w fun en w' => ∃ p, en = .returned (.bool p) ∧ (p = decide (x * y = z) ∧ Ext w w') := by
  refine calls77 _ _ _ _ w ?_
  refine ⟨fun p w' => w' = w ∧ (p = true ↔ (x = 0 ∨ y = 0)), ?_, ?_⟩
  · rintro w5 p ⟨rfl, hp⟩
    refine BoolK.mk (fun t => ?_) (fun t => ?_)
    · refine ⟨?_, Ext.refl _⟩
      have : x * y = 0 := Int.mul_eq_zero.2 (hp.1 t)
      rw [this, Bool.eq_iff_iff, beq_iff_eq, decide_eq_true_eq]; omega
    · have hn : ¬ (x = 0 ∨ y = 0) := fun h => by rw [hp.2 h] at t; cases t
      refine BoolK.mk (fun t2 => ?_) (fun t2 => BoolK.mk (fun t3 => ?_) (fun t3 => ?_))
      · have t2 : x = -1 := by simpa using t2
        subst t2
        refine twoK w5 1 1 y z 0 (.inl rfl) (.inl rfl) hy hz (by omega) (K := fun r w16 => (r == 0) = decide (-1 * y = z) ∧ Ext w5 w16) fun w' hw => ⟨?_, hw⟩
        rw [Bool.eq_iff_iff, beq_iff_eq, decide_eq_true_eq, cmpI]
        split
        · omega
        split <;> omega
      · have t3 : y = -1 := by simpa using t3
        subst t3
        refine twoK w5 1 1 x z 0 (.inl rfl) (.inl rfl) hx hz (by omega) (K := fun r w16 => (r == 0) = decide (x * -1 = z) ∧ Ext w5 w16) fun w' hw => ⟨?_, hw⟩
        rw [Bool.eq_iff_iff, beq_iff_eq, decide_eq_true_eq, cmpI]
        split
        · omega
        split <;> omega
      · have t2 : x ≠ -1 := by simpa using t2
        have h0 : x ≠ 0 := fun e => hn (.inl e)
        have hd := Int.mul_tdiv_add_tmod z x
        refine ⟨h0, BoolK.mk (fun t4 => ⟨h0, ?_, Ext.refl _⟩) (fun t4 => ⟨?_, Ext.refl _⟩)⟩
        · have t4 : z.tmod x = 0 := by simpa using t4
          have ⟨k1, k2⟩ := tdiv_ok h0 t2 hz
          rw [wrap_id k1 k2, Bool.eq_iff_iff, beq_iff_eq, decide_eq_true_eq]
          rw [t4, Int.add_zero] at hd
          constructor
          · rintro rfl; exact hd
          · intro e; exact Int.eq_of_mul_eq_mul_left h0 (hd.trans e.symm)
        · have t4 : z.tmod x ≠ 0 := by simpa using t4
          symm; rw [decide_eq_false_iff_not]
          rintro rfl
          exact t4 (Int.mul_tmod_right x y)
  · refine BoolK.mk (fun t => ⟨rfl, ?_⟩) (fun t => ⟨rfl, ?_⟩)
    · simp at t; simp [t]
    · simp at t; simp [t]
end Go.Proofs.Ytggfnakhmjkoeaa

namespace Go.Proofs.Ytggfnakhmjkoeaa
open Go Go.V Go.Proofs
open Go.RowKit (Below)
/-! manystrand/domain.Holds -/
def N45 (s1 : ByteArray) (a2 : Option Addr) (l2 : Nat) (c2 : Nat) (a3 : Option Addr) (l3 : Nat) (c3 : Nat) (x4 : Int) (a5 : Option Addr) (l5 : Nat) (_c5 : Nat) (K : Bool → World → Prop) (w : World) : Prop :=
  AllocK w (#[(.string s1), (.slice a2 l2 c2), (.slice a3 l3 c3), (.int .i64 x4)]) 24 fun b6 w7 =>
  ∃ (s8 : ByteArray), w7.cell? (b6.add 0) = some (.string s8) ∧
  (∃ (a9 : Option Addr) (l9 : Nat) (c9 : Nat), w7.cell? (b6.add 1) = some (.slice a9 l9 c9) ∧
    (∃ (a10 : Option Addr) (l10 : Nat) (c10 : Nat), w7.cell? (b6.add 2) = some (.slice a10 l10 c10) ∧
      (∃ (x11 : Int), w7.cell? (b6.add 3) = some (.int .i64 x11) ∧
        (Calls Try.prog 16 #[(.agg #[(.string s8), (.slice a9 l9 c9), (.slice a10 l10 c10), (.int .i64 x11)]), (.int .i64 (l5 : Nat))] w7 fun e14 w13 =>
          ∃ (p12 : Bool), e14 = .returned (.bool p12) ∧
          (BoolK (!p12)
            (K false w13)
            (∃ (a15 : Option Addr) (l15 : Nat) (c15 : Nat), w13.cell? (b6.add 1) = some (.slice a15 l15 c15) ∧
              ((0 ≤ ((l15 : Nat) : Int) ∧ ((l15 : Nat) : Int) ≤ (l15 : Nat) ∧ ((8 : Nat) : Int) * (l15 : Nat) ≤ 281474976710656 ∧ ((l15 : Nat) : Int) ≤ 9223372036854775807) ∧
                AllocK w13 (madeCells (#[.int .i64 0]) (((l15 : Nat) : Int).toNat * 1)) 3 fun b16 w17 =>
                ∃ (a18 : Option Addr) (l18 : Nat) (c18 : Nat), w17.cell? (b6.add 1) = some (.slice a18 l18 c18) ∧
                (∃ (I19 : Int → World → Prop) (μ20 : Int → World → Nat),
                  (I19 0 w17 ∧ True) ∧
                  ∀ (w21 : World) (x22 : Int), I19 x22 w21 →
                  BoolK (decide ((x22 : Int) < (l18 : Nat)))
                  ((0 ≤ (x22 : Int) ∧ (x22 : Int) < (l18 : Nat)) ∧
                    AddrK a18 fun b23 =>
                    ∃ (x24 : Int), w21.cell? (b23.add ((x22 : Int).toNat * 1)) = some (.int .i64 x24) ∧
                    ((0 ≤ (x24 : Int) ∧ (x24 : Int) < (l5 : Nat)) ∧
                      AddrK a5 fun b25 =>
                      ∃ (x26 : Int), w21.cell? (b25.add ((x24 : Int).toNat * 1)) = some (.int .i64 x26) ∧
                      ((0 ≤ (x22 : Int) ∧ (x22 : Int) < (((l15 : Nat) : Int).toNat : Nat)) ∧
                        SetK w21 (b16.add ((x22 : Int).toNat * 1)) (.int .i64 x26) fun w27 =>
                        I19 (IntKind.wrap .i64 (x22 + 1)) w27 ∧ μ20 (IntKind.wrap .i64 (x22 + 1)) w27 < μ20 x22 w21)))
                  (∃ (s28 : ByteArray), w21.cell? b6 = some (.string s28) ∧
                    (∃ (J29 : Bool → World → Prop),
                      (∀ (w30 : World) (p31 : Bool), J29 p31 w30 →
                        BoolK p31
                        (AllocK w30 (#[.int .i64 0, .int .u64 0]) 80 fun b32 w33 =>
                          ∃ (a34 : Option Addr) (l34 : Nat) (c34 : Nat), w33.cell? (b6.add 2) = some (.slice a34 l34 c34) ∧
                          (∃ (I35 : Int → World → Prop) (μ36 : Int → World → Nat),
                            (I35 0 w33 ∧ True) ∧
                            ∀ (w37 : World) (x38 : Int), I35 x38 w37 →
                            BoolK (decide ((x38 : Int) < (l34 : Nat)))
                            ((0 ≤ (x38 : Int) ∧ (x38 : Int) < (l34 : Nat)) ∧
                              AddrK a34 fun b39 =>
                              ∃ (x40 : Int), w37.cell? (b39.add ((x38 : Int).toNat * 1)) = some (.int .i64 x40) ∧
                              (DrewK w37 fun w41 =>
                                ∃ (x42 : Int), w41.cell? (b32.add 0) = some (.int .i64 x42) ∧
                                (∃ (x43 : Int), w41.cell? (b32.add 1) = some (.int .u64 x43) ∧
                                  ((0 ≤ (x38 : Int) ∧ (x38 : Int) < (((l15 : Nat) : Int).toNat : Nat)) ∧
                                    ∃ (x44 : Int), w41.cell? (b16.add ((x38 : Int).toNat * 1)) = some (.int .i64 x44) ∧
                                    (Calls Try.prog 72 #[(.int .i64 x40), (.int .i64 x44)] w41 fun e48 w47 =>
                                      ∃ (x45 : Int), ∃ (x46 : Int), e48 = .returned (.agg #[(.int .i64 x45), (.int .u64 x46)]) ∧
                                      (Below w41.heap.size w41 w47 ∧
                                        (Calls Try.prog 71 #[(.agg #[(.int .i64 x42), (.int .u64 x43)]), (.agg #[(.int .i64 x45), (.int .u64 x46)])] w47 fun e52 w51 =>
                                          ∃ (x49 : Int), ∃ (x50 : Int), e52 = .returned (.agg #[(.int .i64 x49), (.int .u64 x50)]) ∧
                                          (Below w41.heap.size w41 w51 ∧
                                            (SetK w51 (b32.add 0) (.int .i64 x49) fun w53 =>
                                              SetK w53 (b32.add 1) (.int .u64 x50) fun w54 =>
                                              I35 (IntKind.wrap .i64 (x38 + 1)) w54 ∧ μ36 (IntKind.wrap .i64 (x38 + 1)) w54 < μ36 x38 w37)))))))))
                            (DrewK w37 fun w55 =>
                              ∃ (x56 : Int), w55.cell? (b32.add 0) = some (.int .i64 x56) ∧
                              (∃ (x57 : Int), w55.cell? (b32.add 1) = some (.int .u64 x57) ∧
                                (∃ (x58 : Int), w55.cell? (b6.add 3) = some (.int .i64 x58) ∧
                                  (Calls Try.prog 72 #[(.int .i64 x58), (.int .i64 1)] w55 fun e62 w61 =>
                                    ∃ (x59 : Int), ∃ (x60 : Int), e62 = .returned (.agg #[(.int .i64 x59), (.int .u64 x60)]) ∧
                                    (Below w55.heap.size w55 w61 ∧
                                      (Calls Try.prog 73 #[(.agg #[(.int .i64 x56), (.int .u64 x57)]), (.agg #[(.int .i64 x59), (.int .u64 x60)])] w61 fun e65 w64 =>
                                        ∃ (x63 : Int), e65 = .returned (.int .i64 x63) ∧
                                        (Below w55.heap.size w55 w64 ∧
                                          (BoolK ((x63 : Int) == 0)
                                            (K true w64)
                                            (BoolK (decide ((x63 : Int) < 0))
                                              (∃ (s66 : ByteArray), w64.cell? b6 = some (.string s66) ∧
                                                (K ((s66 : ByteArray).toList == ((⟨#[109, 111, 115, 116]⟩ : ByteArray) : ByteArray).toList) w64))
                                              (K false w64))))))))))))
                        (BoolK ((s28 : ByteArray).toList == ((⟨#[117, 110, 108, 105, 107, 101]⟩ : ByteArray) : ByteArray).toList)
                          (DrewK w30 fun w67 =>
                            (0 ≤ (0 : Int) ∧ (0 : Int) < (((l15 : Nat) : Int).toNat : Nat)) ∧
                            ∃ (x68 : Int), w67.cell? (b16.add ((0 : Int).toNat * 1)) = some (.int .i64 x68) ∧
                            (∃ (x69 : Int), w67.cell? (b6.add 3) = some (.int .i64 x69) ∧
                              ((0 ≤ (1 : Int) ∧ (1 : Int) < (((l15 : Nat) : Int).toNat : Nat)) ∧
                                ∃ (x70 : Int), w67.cell? (b16.add ((1 : Int).toNat * 1)) = some (.int .i64 x70) ∧
                                (Calls Try.prog 74 #[(.int .i64 x68), (.int .i64 x69), (.int .i64 x70)] w67 fun e73 w72 =>
                                  ∃ (x71 : Int), e73 = .returned (.int .i64 x71) ∧
                                  (Below w67.heap.size w67 w72 ∧
                                    (K ((x71 : Int) != 0) w72))))))
                          (BoolK ((s28 : ByteArray).toList == ((⟨#[100, 105, 115, 116, 105, 110, 99, 116]⟩ : ByteArray) : ByteArray).toList)
                            (∃ (I74 : Int → World → Prop) (μ75 : Int → World → Nat),
                              (I74 0 w30 ∧ True) ∧
                              ∀ (w76 : World) (x77 : Int), I74 x77 w76 →
                              BoolK (decide ((x77 : Int) < (((l15 : Nat) : Int).toNat : Nat)))
                              (∃ (I78 : Int → World → Prop) (μ79 : Int → World → Nat),
                                (I78 0 w76 ∧ True) ∧
                                ∀ (w80 : World) (x81 : Int), I78 x81 w80 →
                                BoolK (decide ((x81 : Int) < x77))
                                (DrewK w80 fun w82 =>
                                  (0 ≤ (x77 : Int) ∧ (x77 : Int) < (((l15 : Nat) : Int).toNat : Nat)) ∧
                                  ∃ (x83 : Int), w82.cell? (b16.add ((x77 : Int).toNat * 1)) = some (.int .i64 x83) ∧
                                  ((0 ≤ (x81 : Int) ∧ (x81 : Int) < (((l15 : Nat) : Int).toNat : Nat)) ∧
                                    ∃ (x84 : Int), w82.cell? (b16.add ((x81 : Int).toNat * 1)) = some (.int .i64 x84) ∧
                                    (BoolK ((x83 : Int) == x84)
                                      (K false w82)
                                      (I78 (IntKind.wrap .i64 (x81 + 1)) w82 ∧ μ79 (IntKind.wrap .i64 (x81 + 1)) w82 < μ79 x81 w80))))
                                (I74 (IntKind.wrap .i64 (x77 + 1)) w80 ∧ μ75 (IntKind.wrap .i64 (x77 + 1)) w80 < μ75 x77 w76))
                              (K true w76))
                            (BoolK ((s28 : ByteArray).toList == ((⟨#[112, 114, 111, 100, 117, 99, 116]⟩ : ByteArray) : ByteArray).toList)
                              (DrewK w30 fun w85 =>
                                (0 ≤ (0 : Int) ∧ (0 : Int) < (((l15 : Nat) : Int).toNat : Nat)) ∧
                                ∃ (x86 : Int), w85.cell? (b16.add ((0 : Int).toNat * 1)) = some (.int .i64 x86) ∧
                                ((0 ≤ (1 : Int) ∧ (1 : Int) < (((l15 : Nat) : Int).toNat : Nat)) ∧
                                  ∃ (x87 : Int), w85.cell? (b16.add ((1 : Int).toNat * 1)) = some (.int .i64 x87) ∧
                                  ((0 ≤ (2 : Int) ∧ (2 : Int) < (((l15 : Nat) : Int).toNat : Nat)) ∧
                                    ∃ (x88 : Int), w85.cell? (b16.add ((2 : Int).toNat * 1)) = some (.int .i64 x88) ∧
                                    (Calls Try.prog 72 #[(.int .i64 x86), (.int .i64 x87)] w85 fun e92 w91 =>
                                      ∃ (x89 : Int), ∃ (x90 : Int), e92 = .returned (.agg #[(.int .i64 x89), (.int .u64 x90)]) ∧
                                      (Below w85.heap.size w85 w91 ∧
                                        (Calls Try.prog 72 #[(.int .i64 x88), (.int .i64 1)] w91 fun e96 w95 =>
                                          ∃ (x93 : Int), ∃ (x94 : Int), e96 = .returned (.agg #[(.int .i64 x93), (.int .u64 x94)]) ∧
                                          (Below w85.heap.size w85 w95 ∧
                                            (K (((x89 : Int) == x93) && (((x90 : Int) == x94) && (true))) w95))))))))
                              (BoolK ((s28 : ByteArray).toList == ((⟨#[101, 108, 101, 109, 101, 110, 116]⟩ : ByteArray) : ByteArray).toList)
                                (DrewK w30 fun w97 =>
                                  (0 ≤ (0 : Int) ∧ (0 : Int) < (((l15 : Nat) : Int).toNat : Nat)) ∧
                                  ∃ (x98 : Int), w97.cell? (b16.add ((0 : Int).toNat * 1)) = some (.int .i64 x98) ∧
                                  (BoolK (decide ((x98 : Int) ≥ 1))
                                    ((0 ≤ (0 : Int) ∧ (0 : Int) < (((l15 : Nat) : Int).toNat : Nat)) ∧
                                      ∃ (x99 : Int), w97.cell? (b16.add ((0 : Int).toNat * 1)) = some (.int .i64 x99) ∧
                                      (∃ (a100 : Option Addr) (l100 : Nat) (c100 : Nat), w97.cell? (b6.add 2) = some (.slice a100 l100 c100) ∧
                                        (BoolK (decide ((x99 : Int) ≤ (l100 : Nat)))
                                          (∃ (a101 : Option Addr) (l101 : Nat) (c101 : Nat), w97.cell? (b6.add 2) = some (.slice a101 l101 c101) ∧
                                            ((0 ≤ (0 : Int) ∧ (0 : Int) < (((l15 : Nat) : Int).toNat : Nat)) ∧
                                              ∃ (x102 : Int), w97.cell? (b16.add ((0 : Int).toNat * 1)) = some (.int .i64 x102) ∧
                                              ((0 ≤ (IntKind.wrap .i64 (x102 - 1) : Int) ∧ (IntKind.wrap .i64 (x102 - 1) : Int) < (l101 : Nat)) ∧
                                                AddrK a101 fun b103 =>
                                                ∃ (x104 : Int), w97.cell? (b103.add ((IntKind.wrap .i64 (x102 - 1) : Int).toNat * 1)) = some (.int .i64 x104) ∧
                                                ((0 ≤ (1 : Int) ∧ (1 : Int) < (((l15 : Nat) : Int).toNat : Nat)) ∧
                                                  ∃ (x105 : Int), w97.cell? (b16.add ((1 : Int).toNat * 1)) = some (.int .i64 x105) ∧
                                                  (K ((x104 : Int) == x105) w97)))))
                                          (K false w97))))
                                    (K false w97)))
                                (BoolK ((s28 : ByteArray).toList == ((⟨#[109, 97, 120]⟩ : ByteArray) : ByteArray).toList)
                                  (DrewK w30 fun w106 =>
                                    (0 ≤ (2 : Int) ∧ (2 : Int) < (((l15 : Nat) : Int).toNat : Nat)) ∧
                                    ∃ (x107 : Int), w106.cell? (b16.add ((2 : Int).toNat * 1)) = some (.int .i64 x107) ∧
                                    ((0 ≤ (0 : Int) ∧ (0 : Int) < (((l15 : Nat) : Int).toNat : Nat)) ∧
                                      ∃ (x108 : Int), w106.cell? (b16.add ((0 : Int).toNat * 1)) = some (.int .i64 x108) ∧
                                      ((0 ≤ (1 : Int) ∧ (1 : Int) < (((l15 : Nat) : Int).toNat : Nat)) ∧
                                        ∃ (x109 : Int), w106.cell? (b16.add ((1 : Int).toNat * 1)) = some (.int .i64 x109) ∧
                                        (K ((x107 : Int) == if (x109 : Int) > x108 then x109 else x108) w106))))
                                  (BoolK ((s28 : ByteArray).toList == ((⟨#[114, 101, 105, 102, 121]⟩ : ByteArray) : ByteArray).toList)
                                    (DrewK w30 fun w110 =>
                                      (0 ≤ (2 : Int) ∧ (2 : Int) < (((l15 : Nat) : Int).toNat : Nat)) ∧
                                      ∃ (x111 : Int), w110.cell? (b16.add ((2 : Int).toNat * 1)) = some (.int .i64 x111) ∧
                                      (∃ (x112 : Int), w110.cell? (b6.add 3) = some (.int .i64 x112) ∧
                                        ((0 ≤ (1 : Int) ∧ (1 : Int) < (((l15 : Nat) : Int).toNat : Nat)) ∧
                                          ∃ (x113 : Int), w110.cell? (b16.add ((1 : Int).toNat * 1)) = some (.int .i64 x113) ∧
                                          (Calls Try.prog 74 #[(.int .i64 x111), (.int .i64 x112), (.int .i64 x113)] w110 fun e116 w115 =>
                                            ∃ (x114 : Int), e116 = .returned (.int .i64 x114) ∧
                                            (Below w110.heap.size w110 w115 ∧
                                              (BoolK (decide ((x114 : Int) ≥ 0))
                                                ((0 ≤ (0 : Int) ∧ (0 : Int) < (((l15 : Nat) : Int).toNat : Nat)) ∧
                                                  ∃ (x117 : Int), w115.cell? (b16.add ((0 : Int).toNat * 1)) = some (.int .i64 x117) ∧
                                                  (K ((x117 : Int) == 1) w115))
                                                ((0 ≤ (0 : Int) ∧ (0 : Int) < (((l15 : Nat) : Int).toNat : Nat)) ∧
                                                  ∃ (x118 : Int), w115.cell? (b16.add ((0 : Int).toNat * 1)) = some (.int .i64 x118) ∧
                                                  (K ((x118 : Int) == 0) w115))))))))
                                    (DrewK w30 fun w119 =>
                                      (0 ≤ (0 : Int) ∧ (0 : Int) < (((l15 : Nat) : Int).toNat : Nat)) ∧
                                      ∃ (x120 : Int), w119.cell? (b16.add ((0 : Int).toNat * 1)) = some (.int .i64 x120) ∧
                                      (∃ (a121 : Option Addr) (l121 : Nat) (c121 : Nat), w119.cell? (b6.add 2) = some (.slice a121 l121 c121) ∧
                                        ((0 ≤ (0 : Int) ∧ (0 : Int) < (l121 : Nat)) ∧
                                          AddrK a121 fun b122 =>
                                          ∃ (x123 : Int), w119.cell? (b122.add ((0 : Int).toNat * 1)) = some (.int .i64 x123) ∧
                                          ((0 ≤ (1 : Int) ∧ (1 : Int) < (((l15 : Nat) : Int).toNat : Nat)) ∧
                                            ∃ (x124 : Int), w119.cell? (b16.add ((1 : Int).toNat * 1)) = some (.int .i64 x124) ∧
                                            (Calls Try.prog 74 #[(.int .i64 x120), (.int .i64 x123), (.int .i64 x124)] w119 fun e127 w126 =>
                                              ∃ (x125 : Int), e127 = .returned (.int .i64 x125) ∧
                                              (Below w119.heap.size w119 w126 ∧
                                                (BoolK (decide ((x125 : Int) ≤ 0))
                                                  ((((K true w126) ∧
                                                        (K true w126)) ∧
                                                      (K true w126)) ∧
                                                    ((((K true w126) ∧
                                                          (K true w126)) ∧
                                                        (((K true w126) ∧
                                                            (K true w126)) ∧
                                                          ((K true w126) ∧
                                                            (K true w126)))) ∧
                                                      ((K true w126) ∧
                                                        ((K true w126) ∧
                                                          (K true w126)))))
                                                  ((0 ≤ (1 : Int) ∧ (1 : Int) < (((l15 : Nat) : Int).toNat : Nat)) ∧
                                                    (0 ≤ (0 : Int) ∧ (0 : Int) < (((l15 : Nat) : Int).toNat : Nat)) ∧
                                                    (∃ (x128 : Int), w126.cell? (b16.add ((1 : Int).toNat * 1)) = some (.int .i64 x128) ∧
                                                      (Below w119.heap.size w119 w126 ∧
                                                        ((∃ (a129 : Option Addr) (l129 : Nat) (c129 : Nat), w126.cell? (b6.add 2) = some (.slice a129 l129 c129) ∧
                                                            (Below w119.heap.size w119 w126 ∧
                                                              ((0 ≤ (1 : Int) ∧ (1 : Int) < (l129 : Nat)) ∧
                                                              AddrK a129 fun b130 =>
                                                              (∃ (x131 : Int), w126.cell? (b130.add ((1 : Int).toNat * 1)) = some (.int .i64 x131) ∧
                                                              (Below w119.heap.size w119 w126 ∧
                                                              (∃ (x132 : Int), w126.cell? (b16.add ((0 : Int).toNat * 1)) = some (.int .i64 x132) ∧
                                                              (Below w119.heap.size w119 w126 ∧
                                                              (Calls Try.prog 74 #[(.int .i64 x128), (.int .i64 x131), (.int .i64 x132)] w126 fun e135 w134 =>
                                                              ∃ (x133 : Int), e135 = .returned (.int .i64 x133) ∧
                                                              (Below w119.heap.size w119 w134 ∧
                                                              (K (decide ((x133 : Int) ≤ 0)) w134))))))) ∧
                                                              (∃ (x136 : Int), w126.cell? (b16.add ((0 : Int).toNat * 1)) = some (.int .i64 x136) ∧
                                                              (Below w119.heap.size w119 w126 ∧
                                                              (∃ (x137 : Int), w126.cell? (b130.add ((1 : Int).toNat * 1)) = some (.int .i64 x137) ∧
                                                              (Below w119.heap.size w119 w126 ∧
                                                              (Calls Try.prog 74 #[(.int .i64 x128), (.int .i64 x137), (.int .i64 x136)] w126 fun e140 w139 =>
                                                              ∃ (x138 : Int), e140 = .returned (.int .i64 x138) ∧
                                                              (Below w119.heap.size w119 w139 ∧
                                                              (K (decide ((x138 : Int) ≤ 0)) w139)))))))))) ∧
                                                          (∃ (x141 : Int), w126.cell? (b16.add ((0 : Int).toNat * 1)) = some (.int .i64 x141) ∧
                                                            (Below w119.heap.size w119 w126 ∧
                                                              (∃ (a142 : Option Addr) (l142 : Nat) (c142 : Nat), w126.cell? (b6.add 2) = some (.slice a142 l142 c142) ∧
                                                              (Below w119.heap.size w119 w126 ∧
                                                              ((0 ≤ (1 : Int) ∧ (1 : Int) < (l142 : Nat)) ∧
                                                              AddrK a142 fun b143 =>
                                                              ∃ (x144 : Int), w126.cell? (b143.add ((1 : Int).toNat * 1)) = some (.int .i64 x144) ∧
                                                              (Below w119.heap.size w119 w126 ∧
                                                              (Calls Try.prog 74 #[(.int .i64 x128), (.int .i64 x144), (.int .i64 x141)] w126 fun e147 w146 =>
                                                              ∃ (x145 : Int), e147 = .returned (.int .i64 x145) ∧
                                                              (Below w119.heap.size w119 w146 ∧
                                                              (K (decide ((x145 : Int) ≤ 0)) w146)))))))))))) ∧
                                                    ((∃ (a148 : Option Addr) (l148 : Nat) (c148 : Nat), w126.cell? (b6.add 2) = some (.slice a148 l148 c148) ∧
                                                        (Below w119.heap.size w119 w126 ∧
                                                          ((0 ≤ (1 : Int) ∧ (1 : Int) < (l148 : Nat)) ∧
                                                            AddrK a148 fun b149 =>
                                                            (∃ (x150 : Int), w126.cell? (b16.add ((1 : Int).toNat * 1)) = some (.int .i64 x150) ∧
                                                              (Below w119.heap.size w119 w126 ∧
                                                              ((∃ (x151 : Int), w126.cell? (b149.add ((1 : Int).toNat * 1)) = some (.int .i64 x151) ∧
                                                              (Below w119.heap.size w119 w126 ∧
                                                              (∃ (x152 : Int), w126.cell? (b16.add ((0 : Int).toNat * 1)) = some (.int .i64 x152) ∧
                                                              (Below w119.heap.size w119 w126 ∧
                                                              (Calls Try.prog 74 #[(.int .i64 x150), (.int .i64 x151), (.int .i64 x152)] w126 fun e155 w154 =>
                                                              ∃ (x153 : Int), e155 = .returned (.int .i64 x153) ∧
                                                              (Below w119.heap.size w119 w154 ∧
                                                              (K (decide ((x153 : Int) ≤ 0)) w154))))))) ∧
                                                              (∃ (x156 : Int), w126.cell? (b16.add ((0 : Int).toNat * 1)) = some (.int .i64 x156) ∧
                                                              (Below w119.heap.size w119 w126 ∧
                                                              (∃ (x157 : Int), w126.cell? (b149.add ((1 : Int).toNat * 1)) = some (.int .i64 x157) ∧
                                                              (Below w119.heap.size w119 w126 ∧
                                                              (Calls Try.prog 74 #[(.int .i64 x150), (.int .i64 x157), (.int .i64 x156)] w126 fun e160 w159 =>
                                                              ∃ (x158 : Int), e160 = .returned (.int .i64 x158) ∧
                                                              (Below w119.heap.size w119 w159 ∧
                                                              (K (decide ((x158 : Int) ≤ 0)) w159)))))))))) ∧
                                                            ((∃ (x161 : Int), w126.cell? (b149.add ((1 : Int).toNat * 1)) = some (.int .i64 x161) ∧
                                                              (Below w119.heap.size w119 w126 ∧
                                                              ((∃ (x162 : Int), w126.cell? (b16.add ((1 : Int).toNat * 1)) = some (.int .i64 x162) ∧
                                                              (Below w119.heap.size w119 w126 ∧
                                                              (∃ (x163 : Int), w126.cell? (b16.add ((0 : Int).toNat * 1)) = some (.int .i64 x163) ∧
                                                              (Below w119.heap.size w119 w126 ∧
                                                              (Calls Try.prog 74 #[(.int .i64 x162), (.int .i64 x161), (.int .i64 x163)] w126 fun e166 w165 =>
                                                              ∃ (x164 : Int), e166 = .returned (.int .i64 x164) ∧
                                                              (Below w119.heap.size w119 w165 ∧
                                                              (K (decide ((x164 : Int) ≤ 0)) w165))))))) ∧
                                                              (∃ (x167 : Int), w126.cell? (b16.add ((0 : Int).toNat * 1)) = some (.int .i64 x167) ∧
                                                              (Below w119.heap.size w119 w126 ∧
                                                              (∃ (x168 : Int), w126.cell? (b16.add ((1 : Int).toNat * 1)) = some (.int .i64 x168) ∧
                                                              (Below w119.heap.size w119 w126 ∧
                                                              (Calls Try.prog 74 #[(.int .i64 x168), (.int .i64 x161), (.int .i64 x167)] w126 fun e171 w170 =>
                                                              ∃ (x169 : Int), e171 = .returned (.int .i64 x169) ∧
                                                              (Below w119.heap.size w119 w170 ∧
                                                              (K (decide ((x169 : Int) ≤ 0)) w170)))))))))) ∧
                                                              (∃ (x172 : Int), w126.cell? (b16.add ((0 : Int).toNat * 1)) = some (.int .i64 x172) ∧
                                                              (Below w119.heap.size w119 w126 ∧
                                                              ((∃ (x173 : Int), w126.cell? (b16.add ((1 : Int).toNat * 1)) = some (.int .i64 x173) ∧
                                                              (Below w119.heap.size w119 w126 ∧
                                                              (∃ (x174 : Int), w126.cell? (b149.add ((1 : Int).toNat * 1)) = some (.int .i64 x174) ∧
                                                              (Below w119.heap.size w119 w126 ∧
                                                              (Calls Try.prog 74 #[(.int .i64 x173), (.int .i64 x174), (.int .i64 x172)] w126 fun e177 w176 =>
                                                              ∃ (x175 : Int), e177 = .returned (.int .i64 x175) ∧
                                                              (Below w119.heap.size w119 w176 ∧
                                                              (K (decide ((x175 : Int) ≤ 0)) w176))))))) ∧
                                                              (∃ (x178 : Int), w126.cell? (b149.add ((1 : Int).toNat * 1)) = some (.int .i64 x178) ∧
                                                              (Below w119.heap.size w119 w126 ∧
                                                              (∃ (x179 : Int), w126.cell? (b16.add ((1 : Int).toNat * 1)) = some (.int .i64 x179) ∧
                                                              (Below w119.heap.size w119 w126 ∧
                                                              (Calls Try.prog 74 #[(.int .i64 x179), (.int .i64 x178), (.int .i64 x172)] w126 fun e182 w181 =>
                                                              ∃ (x180 : Int), e182 = .returned (.int .i64 x180) ∧
                                                              (Below w119.heap.size w119 w181 ∧
                                                              (K (decide ((x180 : Int) ≤ 0)) w181)))))))))))))) ∧
                                                      (∃ (x183 : Int), w126.cell? (b16.add ((0 : Int).toNat * 1)) = some (.int .i64 x183) ∧
                                                        (Below w119.heap.size w119 w126 ∧
                                                          ((∃ (x184 : Int), w126.cell? (b16.add ((1 : Int).toNat * 1)) = some (.int .i64 x184) ∧
                                                              (Below w119.heap.size w119 w126 ∧
                                                              (∃ (a185 : Option Addr) (l185 : Nat) (c185 : Nat), w126.cell? (b6.add 2) = some (.slice a185 l185 c185) ∧
                                                              (Below w119.heap.size w119 w126 ∧
                                                              ((0 ≤ (1 : Int) ∧ (1 : Int) < (l185 : Nat)) ∧
                                                              AddrK a185 fun b186 =>
                                                              ∃ (x187 : Int), w126.cell? (b186.add ((1 : Int).toNat * 1)) = some (.int .i64 x187) ∧
                                                              (Below w119.heap.size w119 w126 ∧
                                                              (Calls Try.prog 74 #[(.int .i64 x184), (.int .i64 x187), (.int .i64 x183)] w126 fun e190 w189 =>
                                                              ∃ (x188 : Int), e190 = .returned (.int .i64 x188) ∧
                                                              (Below w119.heap.size w119 w189 ∧
                                                              (K (decide ((x188 : Int) ≤ 0)) w189))))))))) ∧
                                                            (∃ (a191 : Option Addr) (l191 : Nat) (c191 : Nat), w126.cell? (b6.add 2) = some (.slice a191 l191 c191) ∧
                                                              (Below w119.heap.size w119 w126 ∧
                                                              ((0 ≤ (1 : Int) ∧ (1 : Int) < (l191 : Nat)) ∧
                                                              AddrK a191 fun b192 =>
                                                              (∃ (x193 : Int), w126.cell? (b16.add ((1 : Int).toNat * 1)) = some (.int .i64 x193) ∧
                                                              (Below w119.heap.size w119 w126 ∧
                                                              (∃ (x194 : Int), w126.cell? (b192.add ((1 : Int).toNat * 1)) = some (.int .i64 x194) ∧
                                                              (Below w119.heap.size w119 w126 ∧
                                                              (Calls Try.prog 74 #[(.int .i64 x193), (.int .i64 x194), (.int .i64 x183)] w126 fun e197 w196 =>
                                                              ∃ (x195 : Int), e197 = .returned (.int .i64 x195) ∧
                                                              (Below w119.heap.size w119 w196 ∧
                                                              (K (decide ((x195 : Int) ≤ 0)) w196))))))) ∧
                                                              (∃ (x198 : Int), w126.cell? (b192.add ((1 : Int).toNat * 1)) = some (.int .i64 x198) ∧
                                                              (Below w119.heap.size w119 w126 ∧
                                                              (∃ (x199 : Int), w126.cell? (b16.add ((1 : Int).toNat * 1)) = some (.int .i64 x199) ∧
                                                              (Below w119.heap.size w119 w126 ∧
                                                              (Calls Try.prog 74 #[(.int .i64 x199), (.int .i64 x198), (.int .i64 x183)] w126 fun e202 w201 =>
                                                              ∃ (x200 : Int), e202 = .returned (.int .i64 x200) ∧
                                                              (Below w119.heap.size w119 w201 ∧
                                                              (K (decide ((x200 : Int) ≤ 0)) w201))))))))))))))))))))))))))))) ∧
                      (BoolK ((s28 : ByteArray).toList == ((⟨#[115, 117, 109]⟩ : ByteArray) : ByteArray).toList)
                        (J29 ((s28 : ByteArray).toList == ((⟨#[115, 117, 109]⟩ : ByteArray) : ByteArray).toList) w21)
                        (J29 ((s28 : ByteArray).toList == ((⟨#[109, 111, 115, 116]⟩ : ByteArray) : ByteArray).toList) w21))))))))))))
def ann45 : Ann := (.two .nil (.two (.two .nil (.two (.two .nil .nil) .nil)) (.two .nil (.two (.two .nil (.one (.loop [(27, (.one (.int .i64)))] [1, 2, 5, 25, 26] (.two .nil (.two (.two .nil .nil) (.two (.one (.two .nil .nil)) .nil)))))) (.two (.two .nil (.one (.cut [(42, (.one .bool))] [2, 5, 41] (.two .nil (.two .nil .nil)) (.two (.two .nil (.two (.two .nil (.one (.loop [(48, (.one (.int .i64)))] [2, 5, 8, 46, 47] (.two .nil (.two (.two .nil .nil) (.two (.one (.two .nil (.any 8 (.take 0 (.take 1 (.take 2 (.take 3 (.take 4 (.take 5 (.one 6 (.one 7 .done))))))))))) .nil)))))) (.two (.any 6 (.take 0 (.take 1 (.take 2 (.one 3 (.one 4 (.take 5 .done))))))) (.two .nil .nil)))) (.two .nil (.two (.two (.any 11 (.take 0 (.take 1 (.take 2 (.take 3 (.take 4 (.take 5 (.take 6 (.take 7 (.one 8 (.take 9 (.take 10 .done)))))))))))) .nil) (.two .nil (.two (.two (.two .nil (.one (.loop [(94, (.one (.int .i64)))] [5, 93] (.two .nil (.two (.two .nil .nil) (.two (.one (.two .nil (.two .nil (.one (.loop [(98, (.one (.int .i64)))] [5, 12, 93, 94, 97] (.two .nil (.two (.two .nil .nil) (.two (.one (.two .nil (.two (.any 9 (.take 0 (.take 1 (.take 2 (.take 3 (.take 4 (.take 5 (.take 6 (.take 7 (.take 8 .done)))))))))) (.two (.two .nil .nil) .nil)))) .nil)))))))) .nil)))))) (.two .nil .nil)) (.two .nil (.two (.two (.any 13 (.take 0 (.take 1 (.take 2 (.take 3 (.take 4 (.take 5 (.take 7 (.take 8 (.take 9 (.one 6 (.one 10 (.take 11 (.take 12 .done)))))))))))))) .nil) (.two .nil (.two (.two (.any 28 (.take 0 (.take 1 (.take 2 (.take 3 (.take 4 (.take 5 (.take 6 (.take 7 (.take 8 (.take 9 (.take 10 (.take 11 (.take 12 (.take 13 (.take 14 (.take 15 (.take 16 (.take 17 (.take 18 (.take 19 (.take 20 (.take 21 (.take 22 (.take 23 (.take 24 (.take 25 (.take 26 (.take 27 .done))))))))))))))))))))))))))))) .nil) (.two .nil (.two (.two (.any 12 (.take 0 (.take 1 (.take 2 (.take 3 (.take 4 (.take 5 (.take 6 (.take 7 (.take 8 (.take 9 (.take 10 (.take 11 .done))))))))))))) .nil) (.two .nil (.two (.two .nil (.two (.two (.any 10 (.take 0 (.take 1 (.take 2 (.take 3 (.take 4 (.take 5 (.take 6 (.take 7 (.one 8 (.take 9 .done))))))))))) (.two .nil .nil)) (.two .nil .nil))) .nil)))))))))))))))) (.two (.any 27 (.take 0 (.take 1 (.take 2 (.take 3 (.take 4 (.take 5 (.take 6 (.take 7 (.take 8 (.take 9 (.one 10 (.take 11 (.take 12 (.take 13 (.take 14 (.take 16 (.take 20 (.take 21 (.both 15 (.both 17 (.take 18 (.both 19 (.one 22 (.one 23 (.take 24 (.take 25 (.take 26 .done))))) (.one 22 (.one 19 (.one 23 (.take 24 (.take 25 (.take 26 .done)))))))) (.one 22 (.one 17 (.take 18 (.one 19 (.one 23 (.take 24 (.take 25 (.take 26 .done))))))))) (.both 17 (.take 18 (.both 15 (.both 19 (.one 22 (.one 23 (.take 24 (.take 25 (.take 26 .done))))) (.one 22 (.one 19 (.one 23 (.take 24 (.take 25 (.take 26 .done))))))) (.both 19 (.both 15 (.one 22 (.one 23 (.take 24 (.take 25 (.take 26 .done))))) (.one 22 (.one 15 (.one 23 (.take 24 (.take 25 (.take 26 .done))))))) (.one 22 (.both 15 (.one 19 (.one 23 (.take 24 (.take 25 (.take 26 .done))))) (.one 19 (.one 15 (.one 23 (.take 24 (.take 25 (.take 26 .done))))))))))) (.one 22 (.both 15 (.one 17 (.take 18 (.one 19 (.one 23 (.take 24 (.take 25 (.take 26 .done))))))) (.one 17 (.take 18 (.both 15 (.one 19 (.one 23 (.take 24 (.take 25 (.take 26 .done))))) (.one 19 (.one 15 (.one 23 (.take 24 (.take 25 (.take 26 .done)))))))))))))))))))))))))))))))) .nil))))))
noncomputable def code45 : Code := match Try.f45.body with | some c => c | none => .skip
theorem wp45 (s1 : ByteArray) (a2 : Option Addr) (l2 : Nat) (c2 : Nat) (a3 : Option Addr) (l3 : Nat) (c3 : Nat) (x4 : Int) (a5 : Option Addr) (l5 : Nat) (c5 : Nat) (K : Bool → World → Prop) (w : World) : WP Try.prog tab code45 ann45 (fnQ tab Try.f45.results.toList [(.one .bool)] K) (argE 0 [(.agg #[(.string s1), (.slice a2 l2 c2), (.slice a3 l3 c3), (.int .i64 x4)]), (.slice a5 l5 c5)]) w = N45 s1 a2 l2 c2 a3 l3 c3 x4 a5 l5 c5 K w := by kernel_rfl
theorem calls45 (s1 : ByteArray) (a2 : Option Addr) (l2 : Nat) (c2 : Nat) (a3 : Option Addr) (l3 : Nat) (c3 : Nat) (x4 : Int) (a5 : Option Addr) (l5 : Nat) (c5 : Nat) (K : Bool → World → Prop) (w : World) (h : N45 s1 a2 l2 c2 a3 l3 c3 x4 a5 l5 c5 K w) : Calls Try.prog 45 #[(.agg #[(.string s1), (.slice a2 l2 c2), (.slice a3 l3 c3), (.int .i64 x4)]), (.slice a5 l5 c5)] w fun en w' => ∃ (p203 : Bool), en = .returned (.bool p203) ∧ K p203 w' :=
  have e : (fun en w' => ExShs [(.one .bool)] fun vs => en = .returned (tupled vs) ∧ ap [(.one .bool)] K vs fun p => p w') = (fun (en : Ending) (w' : World) => ∃ (p203 : Bool), en = .returned (.bool p203) ∧ K p203 w') := by kernel_rfl
  e ▸ fn_sound tabOk mixed Try.func45 (by kernel_rfl : Try.f45.body = some code45) ann45 [(.agg #[(.string s1), (.slice a2 l2 c2), (.slice a3 l3 c3), (.int .i64 x4)]), (.slice a5 l5 c5)] [(.one .bool)] K w (by kernel_rfl) ((wp45 s1 a2 l2 c2 a3 l3 c3 x4 a5 l5 c5 K w).symm ▸ h)
end Go.Proofs.Ytggfnakhmjkoeaa

namespace Go.Proofs.Ytggfnakhmjkoeaa
open Go Go.V Go.Proofs
open Go.RowKit (Below)

def distB (x : List Int) (k : Nat) : Bool := (List.range k).all fun i => (List.range i).all fun j => !(x.getD i 0 == x.getD j 0)
/-- does a propagator hold for these values? -/
def holdsK : Kd → List Int → Int → List Int → Bool
  | .sum, c, n, x => decide (dotS c x x.length = n)
  | .most, c, n, x => decide (dotS c x x.length ≤ n)
  | .unlike, _, n, x => !decide (x.getD 0 0 + n = x.getD 1 0)
  | .distinct, _, _, x => distB x x.length
  | .product, _, _, x => decide (x.getD 0 0 * x.getD 1 0 = x.getD 2 0)
  | .element, c, _, x => decide (1 ≤ x.getD 0 0) && (decide (x.getD 0 0 ≤ c.length) && decide (c.getD (x.getD 0 0 - 1).toNat 0 = x.getD 1 0))
  | .max, _, _, x => decide (x.getD 2 0 = if x.getD 1 0 > x.getD 0 0 then x.getD 1 0 else x.getD 0 0)
  | .reify, _, n, x => decide (x.getD 0 0 = if x.getD 1 0 ≤ x.getD 2 0 + n then 1 else 0)
  | .apart, c, _, x => decide (x.getD 0 0 + c.getD 0 0 ≤ x.getD 1 0) || decide (x.getD 1 0 + c.getD 1 0 ≤ x.getD 0 0)
  | .other, _, _, _ => false
def xsOf (p : PropS) (vs : List Int) : List Int := p.vars.map fun k => vs.getD k.toNat 0
def holdsS (p : PropS) (vs : List Int) : Bool := propB p vs.length && holdsK (kdOf p.kind) p.coefs p.n (xsOf p vs)

theorem blk4 {w : World} {b t : Nat} {v0 v1 v2 v3 : Value} (h : Blk w b #[v0, v1, v2, v3] t) :
    w.cell? ((⟨b, 0, none⟩ : Addr).add 0) = some v0 ∧ w.cell? ((⟨b, 0, none⟩ : Addr).add 1) = some v1 ∧ w.cell? ((⟨b, 0, none⟩ : Addr).add 2) = some v2 ∧ w.cell? ((⟨b, 0, none⟩ : Addr).add 3) = some v3 := by
  rw [add_mk, add_mk, add_mk, add_mk]; exact cell4 h
theorem mul_bnd2 {c x B : Int} (hc : -1000000 ≤ c ∧ c ≤ 1000000) (hx : -B ≤ x ∧ x ≤ B) : -(1000000 * B) ≤ c * x ∧ c * x ≤ 1000000 * B := mul_bnd hc hx
theorem dot_bnd (c x : List Int) (hc : ∀ y ∈ c, -1000000 ≤ y ∧ y ≤ 1000000) (hx : ∀ y ∈ x, -9223372036854775808 ≤ y ∧ y ≤ 9223372036854775807) : ∀ k, k ≤ x.length → k ≤ c.length → -(9223372036854775808000000 * (k : Int)) ≤ dotS c x k ∧ dotS c x k ≤ 9223372036854775808000000 * k
  | 0, _, _ => by simp [dotS]
  | k + 1, h1, h2 => by
    have ih := dot_bnd c x hc hx k (by omega) (by omega)
    have m := mul_bnd (B := 9223372036854775808) (hc _ (List.getElem_mem (show k < c.length by omega))) (x := x[k]) (by have := hx _ (List.getElem_mem (show k < x.length by omega)); omega)
    rw [dotS, getD_get (show k < c.length by omega), getD_get (show k < x.length by omega)]
    omega
theorem range_all_succ (f : Nat → Bool) (k : Nat) : (List.range (k + 1)).all f = ((List.range k).all f && f k) := by
  rw [List.range_succ, List.all_append]; simp
theorem range_all_false {f : Nat → Bool} {k n : Nat} (hk : k < n) (h : f k = false) : (List.range n).all f = false := by
  rw [Bool.eq_false_iff]; intro h2
  rw [List.all_eq_true] at h2
  have := h2 k (List.mem_range.2 hk); rw [h] at this; cases this

set_option maxRecDepth 100000 in
theorem c45 (w : World) (s : ByteArray) (a2 : Option Addr) (l2 c2 : Nat) (a3 : Option Addr) (l3 c3 : Nat) (x4 : Int) (p : PropS) (h : PropAt w s a2 l2 a3 l3 x4 p)
    (a5 : Option Addr) (l5 c5 : Nat) (vs : List Int) (hvs : Ints w a5 l5 vs) (hvb : ∀ x ∈ vs, -9223372036854775808 ≤ x ∧ x ≤ 9223372036854775807) :
    Calls Try.prog 45 #[.agg #[.string s, .slice a2 l2 c2, .slice a3 l3 c3, .int .i64 x4], .slice a5 l5 c5] w fun en w' => ∃ r, en = .returned (.bool r) ∧ (r = holdsS p vs ∧ Ext w w') := by
  have hP := h
  obtain ⟨pk, pv, pc, pn⟩ := p
  obtain ⟨rfl, hv2, hc, hx4, hl2, hl3⟩ := h
  simp only at hv2 hc hl2 hl3 hx4
  subst hx4
  have hl5 : l5 = vs.length := hvs.1
  have hl2' : l2 = pv.length := hv2.1
  have hl3' : l3 = pc.length := hc.1
  refine calls45 _ _ _ _ _ _ _ _ _ _ _ _ w ?_
  refine AllocK.mk fun b w7 hb hblk hx7 => ?_
  have hcell := fun (w' : World) (k : Ext w7 w') => blk4 (hblk.ext k)
  have hc7 := hcell w7 (Ext.refl _)
  refine ⟨_, hc7.1, _, _, _, hc7.2.1, _, _, _, hc7.2.2.1, _, hc7.2.2.2, ?_⟩
  rw [hl5]
  refine (c16 w7 _ _ _ _ _ _ _ _ _ _ (hP.ext hx7)).mono ?_
  rintro en w13 ⟨q, rfl, rfl, hx13⟩
  have hB13 := hx7.trans hx13
  refine ⟨_, rfl, BoolK.mk (fun t => ?_) (fun t => ?_)⟩
  · simp at t; exact ⟨by rw [holdsS, t]; rfl, hB13⟩
  have hpr : propB ⟨pk, pv, pc, pn⟩ vs.length = true := by simpa using t
  have hS : holdsS ⟨pk, pv, pc, pn⟩ vs = holdsK (kdOf pk) pc pn (xsOf ⟨pk, pv, pc, pn⟩ vs) := by rw [holdsS, hpr, Bool.true_and]
  rw [hS]
  have hxlen : (xsOf ⟨pk, pv, pc, pn⟩ vs).length = pv.length := by simp [xsOf]
  have hxget : ∀ (i : Nat) (hi : i < pv.length), (xsOf ⟨pk, pv, pc, pn⟩ vs).getD i 0 = vs.getD pv[i].toNat 0 := fun i hi => by
    rw [getD_get (by rw [hxlen]; exact hi)]; simp [xsOf]
  have hvar : ∀ i (hi : i < pv.length), 0 ≤ pv[i] ∧ pv[i] < (vs.length : Int) := fun i hi => by
    simp only [propB, Bool.and_eq_true, List.all_eq_true] at hpr
    simpa using hpr.1.2 _ (List.getElem_mem hi)
  have hxb : ∀ y ∈ xsOf ⟨pk, pv, pc, pn⟩ vs, -9223372036854775808 ≤ y ∧ y ≤ 9223372036854775807 := fun y hy => by
    obtain ⟨i, hi, rfl⟩ := List.mem_iff_getElem.1 hy
    rw [hxlen] at hi
    have := hxget i hi
    rw [getD_get (by rw [hxlen]; exact hi)] at this
    rw [this]
    have hv := hvar i hi
    rw [getD_get (show pv[i].toNat < vs.length by omega)]
    exact hvb _ (List.getElem_mem _)
  have hk : kindB (kdOf pk) pv.length pc.length pc pn = true := by
    simp only [propB, Bool.and_eq_true] at hpr; exact hpr.2
  generalize xsOf ⟨pk, pv, pc, pn⟩ vs = xs at hxlen hxget hxb ⊢
  have hv40 : pv.length ≤ 40 := by
    revert hk; cases kdOf pk <;> simp [kindB] <;> omega
  have hc13 := hcell w13 hx13
  refine ⟨_, _, _, hc13.2.1, by omega, AllocK.mk fun bx w17 hbx hbk hx17 => ?_⟩
  have hB17 := hB13.trans hx17
  have h17 := hx13.trans hx17
  refine ⟨_, _, _, (hcell w17 h17).2.1, ?_⟩
  refine ⟨fun i w' => ∃ k : Nat, i = k ∧ k ≤ pv.length ∧ (∃ cs : Array Value, Blk w' bx cs 3 ∧ cs.size = pv.length ∧ ∀ i, i < k → cs[i]? = some (.int .i64 (xs.getD i 0))) ∧ Ext w13 w', fun i _ => pv.length - i.toNat,
    ⟨⟨0, rfl, by omega, ⟨_, hbk, by simp [madeCells, hl2'], fun i hi => by omega⟩, hx17⟩, trivial⟩, ?_⟩
  rintro w21 _ ⟨k, rfl, hkl, ⟨cs, hcs, hcn, hcg⟩, hx21⟩
  have hB21 := hB13.trans hx21
  refine BoolK.mk (fun hlt => ?_) (fun hge => ?_)
  · have hlt : k < pv.length := by simp at hlt; omega
    obtain ⟨b1, o1, rfl, g1⟩ := intAt hv2 w21 hB21 hlt
    have hvk := hvar k hlt
    obtain ⟨b2, o2, rfl, g2⟩ := intAt hvs w21 hB21 (i := pv[k].toNat) (by omega)
    refine ⟨by omega, ?_⟩
    simp only [AddrK, Int.toNat_natCast, add_mk, Nat.mul_one, Nat.zero_add]
    refine ⟨_, g1, by omega, _, g2, by omega, SetK.mk hcs (by omega) fun w27 h27 hbut => ?_⟩
    rw [wrap_succ (by omega)]
    refine ⟨⟨k + 1, rfl, by omega, ⟨_, h27, by simp [hcn], fun i hi => ?_⟩, hbut.below hx21 (by omega)⟩, by simp; omega⟩
    rw [Array.getElem?_setIfInBounds]
    by_cases hik : k = i
    · subst hik
      rw [if_pos rfl, if_pos (by omega), hxget k hlt, getD_get (show pv[k].toNat < vs.length by omega)]
    · rw [if_neg hik]; exact hcg i (by omega)
  have : k = pv.length := by simp at hge; omega
  subst this
  have h21 := hx13.trans hx21
  have X : ∀ (i : Nat) (_ : i < pv.length) (w' : World), Ext w21 w' → w'.cell? ⟨bx, i, none⟩ = some (.int .i64 (xs.getD i 0)) := fun i hi w' hw => by
    rw [(hcs.ext hw).cell]; exact hcg i hi
  have XA : ∀ (i : Nat) (_ : i < pv.length) (w' : World), Ext w21 w' → w'.cell? ((⟨bx, 0, none⟩ : Addr).add i) = some (.int .i64 (xs.getD i 0)) := fun i hi w' hw => by rw [add_mk, Nat.zero_add]; exact X i hi w' hw
  have X0 : 0 < pv.length → ∀ w', Ext w21 w' → w'.cell? ((⟨bx, 0, none⟩ : Addr).add ((0 : Int).toNat * 1)) = some (.int .i64 (xs.getD 0 0)) := fun hi w' hw => by rw [add_mk]; exact X 0 hi w' hw
  have X1 : 1 < pv.length → ∀ w', Ext w21 w' → w'.cell? ((⟨bx, 0, none⟩ : Addr).add ((1 : Int).toNat * 1)) = some (.int .i64 (xs.getD 1 0)) := fun hi w' hw => by rw [add_mk]; exact X 1 hi w' hw
  have X2 : 2 < pv.length → ∀ w', Ext w21 w' → w'.cell? ((⟨bx, 0, none⟩ : Addr).add ((2 : Int).toNat * 1)) = some (.int .i64 (xs.getD 2 0)) := fun hi w' hw => by rw [add_mk]; exact X 2 hi w' hw
  have XB : ∀ i, i < pv.length → -9223372036854775808 ≤ xs.getD i 0 ∧ xs.getD i 0 ≤ 9223372036854775807 := fun i hi => by
    rw [getD_get (show i < xs.length by omega)]; exact hxb _ (List.getElem_mem _)
  have Ks : ∀ w', Ext w21 w' → w'.cell? ⟨b, 0, none⟩ = some (.string pk) := fun w' hw => by have := (hcell w' (h21.trans hw)).1; rwa [add_mk0] at this
  have Cc := fun (w' : World) (hw : Ext w21 w') => (hcell w' (h21.trans hw)).2.2.1
  have Nn := fun (w' : World) (hw : Ext w21 w') => (hcell w' (h21.trans hw)).2.2.2
  obtain ⟨k0, k1, k2, k3, k4, k5, k6, k7, k8⟩ := kd_all pk
  have k0' : (pk.toList == (⟨#[115, 117, 109]⟩ : ByteArray).toList) = _ := k0
  have k1' : (pk.toList == (⟨#[109, 111, 115, 116]⟩ : ByteArray).toList) = _ := k1
  have k2' : (pk.toList == (⟨#[117, 110, 108, 105, 107, 101]⟩ : ByteArray).toList) = _ := k2
  have k3' : (pk.toList == (⟨#[100, 105, 115, 116, 105, 110, 99, 116]⟩ : ByteArray).toList) = _ := k3
  have k4' : (pk.toList == (⟨#[112, 114, 111, 100, 117, 99, 116]⟩ : ByteArray).toList) = _ := k4
  have k5' : (pk.toList == (⟨#[109, 97, 120]⟩ : ByteArray).toList) = _ := k5
  have k6' : (pk.toList == (⟨#[101, 108, 101, 109, 101, 110, 116]⟩ : ByteArray).toList) = _ := k6
  have k7' : (pk.toList == (⟨#[114, 101, 105, 102, 121]⟩ : ByteArray).toList) = _ := k7
  refine ⟨_, Ks _ (Ext.refl _), ?_⟩
  rw [k0', k1', k2', k3', k4', k5', k6', k7']
  clear k0 k1 k2 k3 k4 k5 k6 k7 k8 k0' k2' k3' k4' k5' k6' k7'
  refine ⟨fun q w30 => w30 = w21 ∧ q = (decide (kdOf pk = .sum) || decide (kdOf pk = .most)), ?_, ?_⟩
  · rintro w30 q ⟨rfl, rfl⟩
    have r30 := Ext.refl w30
    refine BoolK.mk (fun t => ?_) (fun tsm => ?_)
    · -- sum, most
      have hkb : kdOf pk = .sum ∨ kdOf pk = .most := by simpa using t
      have ⟨hcv, hcr, hnr⟩ : pc.length = pv.length ∧ pc.all rng = true ∧ rng pn = true := by
        rcases hkb with e | e <;> rw [e] at hk <;> simp only [kindB, Bool.and_eq_true, decide_eq_true_eq] at hk <;> exact ⟨hk.1.1.1.2, hk.1.2, hk.2⟩
      have hcb : ∀ y ∈ pc, -1000000 ≤ y ∧ y ≤ 1000000 := fun y hy => of_decide_eq_true (List.all_eq_true.1 hcr y hy)
      have hnb : -1000000 ≤ pn ∧ pn ≤ 1000000 := of_decide_eq_true hnr
      refine AllocK.mk fun bs w33 hbs hbk33 hx33 => ⟨_, _, _, Cc w33 hx33, ?_⟩
      refine ⟨fun i w' => ∃ k : Nat, i = k ∧ k ≤ pv.length ∧ (∃ h l, Blk w' bs #[.int .i64 h, .int .u64 l] 80 ∧ Wd h l (dotS pc xs k)) ∧ Ext w30 w', fun i _ => pv.length - i.toNat,
        ⟨⟨0, rfl, by omega, ⟨0, 0, hbk33, ⟨by omega, by omega, by omega, by omega, rfl⟩⟩, hx33⟩, trivial⟩, ?_⟩
      rintro w37 _ ⟨k, rfl, hkl, ⟨h, l, hbk, hW⟩, hx37⟩
      refine BoolK.mk (fun hlt => ?_) (fun hge => ?_)
      · have hlt : k < pv.length := by simp at hlt; omega
        obtain ⟨b1, o1, rfl, g1⟩ := intAt hc w37 (hB21.trans hx37) (i := k) (by omega)
        refine ⟨by omega, ?_⟩
        simp only [AddrK, Int.toNat_natCast, Nat.mul_one]
        have g1' : w37.cell? ((⟨b1, o1, none⟩ : Addr).add k) = some (.int .i64 pc[k]) := by rw [add_mk]; exact g1
        refine ⟨_, g1', DrewK.mk fun w41 hx41 => ?_⟩
        have hbk41 := hbk.ext hx41
        have hx41' := hx37.trans hx41
        refine ⟨_, (blk2 hbk41).1, _, (blk2 hbk41).2, by omega, _, XA k hlt w41 hx41', ?_⟩
        have cb := hcb _ (List.getElem_mem (show k < pc.length by omega))
        refine (c72 w41 _ _ (by omega) (XB k hlt)).mono ?_
        rintro en w47 ⟨h2, l2, rfl, hW2, hx47⟩
        refine ⟨_, _, rfl, hx47, ?_⟩
        have hdk : dotS pc xs (k + 1) = dotS pc xs k + pc[k] * xs.getD k 0 := by rw [dotS, getD_get (show k < pc.length by omega)]
        have bnd := dot_bnd pc xs hcb hxb (k + 1) (by omega) (by omega)
        refine (c71 w47 _ _ _ _ _ _ hW hW2 (by rw [← hdk]; omega)).mono ?_
        rintro en w51 ⟨h3, l3, rfl, hW3, hx51⟩
        rw [← hdk] at hW3
        have hx51' := hx47.trans hx51
        refine ⟨_, _, rfl, hx51', setTwo (hbk41.ext hx51') fun w54 hbk54 hbut => ?_⟩
        rw [wrap_succ (by omega)]
        exact ⟨⟨k + 1, rfl, by omega, ⟨_, _, hbk54, hW3⟩, hbut.below (hx41'.trans hx51') (by omega)⟩, by simp; omega⟩
      · have : k = pv.length := by simp at hge; omega
        subst this
        refine DrewK.mk fun w55 hx55 => ?_
        have hbk55 := hbk.ext hx55
        have hx55' := hx37.trans hx55
        refine ⟨_, (blk2 hbk55).1, _, (blk2 hbk55).2, _, Nn w55 hx55', (c72 w55 pn 1 (by omega) (by omega)).mono ?_⟩
        rintro en w61 ⟨h2, l2, rfl, hW2, hx61⟩
        refine ⟨_, _, rfl, hx61, (c73 w61 _ _ _ _ _ _ hW hW2).mono ?_⟩
        rintro en w64 ⟨x, rfl, rfl, hx64⟩
        have hx64' := hx55'.trans (hx61.trans hx64)
        have hB64 := hB21.trans hx64'
        rw [Int.mul_one]
        have hkl2 : pv.length = xs.length := hxlen.symm
        refine ⟨_, rfl, hx61.trans hx64, ?_⟩
        rw [hkl2]
        refine BoolK.mk (fun t => ⟨?_, hB64⟩) (fun t => BoolK.mk (fun t2 => ⟨_, Ks _ hx64', ?_, hB64⟩) (fun t2 => ⟨?_, hB64⟩))
        · have t : cmpI (dotS pc xs xs.length) pn = 0 := by simpa using t
          rw [cmpI] at t
          rcases hkb with e | e <;> rw [e] <;> simp only [holdsK] <;> symm <;> rw [decide_eq_true_eq] <;> split at t <;> omega
        · have t : cmpI (dotS pc xs xs.length) pn ≠ 0 := by simpa using t
          have t2 : cmpI (dotS pc xs xs.length) pn < 0 := by simpa using t2
          rw [k1']
          rw [cmpI] at t t2
          rcases hkb with e | e <;> rw [e] <;> simp only [holdsK]
          · symm; rw [show decide (Kd.sum = Kd.most) = false from rfl, decide_eq_false_iff_not]; split at t2 <;> omega
          · rw [decide_eq_decide]; refine ⟨fun _ => ?_, fun _ => trivial⟩; split at t2 <;> omega
        · have t : cmpI (dotS pc xs xs.length) pn ≠ 0 := by simpa using t
          have t2 : ¬ cmpI (dotS pc xs xs.length) pn < 0 := by simpa using t2
          rw [cmpI] at t t2
          rcases hkb with e | e <;> rw [e] <;> simp only [holdsK] <;> symm <;> rw [decide_eq_false_iff_not] <;> split at t2 <;> omega
    have ⟨ns, nm⟩ := not_sm tsm
    clear k1'
    -- unlike
    refine BoolK.mk (fun q => ?_) (fun q2 => ?_)
    · have e := of_decide_eq_true q
      rw [e] at hk ⊢
      simp only [kindB, Bool.and_eq_true, decide_eq_true_eq] at hk
      have hnr : -1000000 ≤ pn ∧ pn ≤ 1000000 := of_decide_eq_true hk.2
      refine DrewK.mk fun w67 hx67 => ⟨by omega, _, X0 (by omega) _ hx67, _, Nn _ hx67, by omega, _, X1 (by omega) _ hx67, ?_⟩
      refine (c74 w67 _ _ _ (XB 0 (by omega)) (by omega) (XB 1 (by omega))).mono ?_
      rintro en w72 ⟨x, rfl, rfl, hx72⟩
      refine ⟨_, rfl, hx72, ?_, hB21.trans (hx67.trans hx72)⟩
      simp only [holdsK]
      rw [Bool.eq_iff_iff, Bool.not_eq_true', decide_eq_false_iff_not, bne_iff_ne, cmpI]
      split
      · omega
      split <;> omega
    -- distinct
    refine BoolK.mk (fun q => ?_) (fun q3 => ?_)
    · have e := of_decide_eq_true q
      rw [e] at hk ⊢
      simp only [holdsK]
      refine ⟨fun i w' => ∃ k : Nat, i = k ∧ k ≤ pv.length ∧ distB xs k = true ∧ Ext w30 w', fun i _ => pv.length - i.toNat, ⟨⟨0, rfl, by omega, rfl, r30⟩, trivial⟩, ?_⟩
      rintro w76 _ ⟨k, rfl, hkl, hd, hx76⟩
      refine BoolK.mk (fun hlt => ?_) (fun hge => ?_)
      · have hlt : k < pv.length := by simp at hlt; omega
        refine ⟨fun i w' => ∃ j : Nat, i = j ∧ j ≤ k ∧ (List.range j).all (fun j => !(xs.getD k 0 == xs.getD j 0)) = true ∧ Ext w76 w', fun i _ => k - i.toNat, ⟨⟨0, rfl, by omega, rfl, Ext.refl _⟩, trivial⟩, ?_⟩
        rintro w80 _ ⟨j, rfl, hj, hd2, hx80⟩
        refine BoolK.mk (fun hlt2 => ?_) (fun hge2 => ?_)
        · have hlt2 : j < k := by simp at hlt2; omega
          refine DrewK.mk fun w82 hx82 => ?_
          have hx' := hx76.trans (hx80.trans hx82)
          simp only [Int.toNat_natCast, Nat.mul_one]
          refine ⟨by omega, _, XA k hlt _ hx', by omega, _, XA j (by omega) _ hx', BoolK.mk (fun t => ?_) (fun t => ?_)⟩
          · refine ⟨?_, hB21.trans hx'⟩
            symm
            refine range_all_false (f := fun i => (List.range i).all fun j => !(xs.getD i 0 == xs.getD j 0)) (k := k) (by omega) ?_
            exact range_all_false (f := fun j => !(xs.getD k 0 == xs.getD j 0)) hlt2 (by rw [t]; rfl)
          · rw [wrap_succ (by omega)]
            exact ⟨⟨j + 1, rfl, by omega, by rw [range_all_succ, hd2, t]; rfl, hx80.trans hx82⟩, by simp; omega⟩
        · have : j = k := by simp at hge2; omega
          subst this
          rw [wrap_succ (by omega)]
          refine ⟨⟨j + 1, rfl, by omega, ?_, hx76.trans hx80⟩, by simp; omega⟩
          rw [distB, range_all_succ]
          rw [distB] at hd
          rw [hd, hd2]; rfl
      · have : k = pv.length := by simp at hge; omega
        subst this
        rw [hxlen]
        exact ⟨hd.symm, hB21.trans hx76⟩
    -- product
    refine BoolK.mk (fun q => ?_) (fun q4 => ?_)
    · have e := of_decide_eq_true q
      rw [e] at hk ⊢
      simp only [kindB, Bool.and_eq_true, decide_eq_true_eq] at hk
      refine DrewK.mk fun w85 hx85 => ⟨by omega, _, X0 (by omega) _ hx85, by omega, _, X1 (by omega) _ hx85, by omega, _, X2 (by omega) _ hx85, ?_⟩
      refine (c72 w85 _ _ (XB 0 (by omega)) (XB 1 (by omega))).mono ?_
      rintro en w91 ⟨h1, l1, rfl, W1, hx91⟩
      refine ⟨_, _, rfl, hx91, (c72 w91 _ 1 (XB 2 (by omega)) (by omega)).mono ?_⟩
      rintro en w95 ⟨h2, l2, rfl, W2, hx95⟩
      refine ⟨_, _, rfl, hx91.trans hx95, ?_, hB21.trans (hx85.trans (hx91.trans hx95))⟩
      rw [Int.mul_one] at W2
      simp only [holdsK]
      have e1 := W1.eq; have e2 := W2.eq
      have := W1.l0; have := W1.l1; have := W2.l0; have := W2.l1
      rw [Bool.eq_iff_iff, Bool.and_true, Bool.and_eq_true, beq_iff_eq, beq_iff_eq, decide_eq_true_eq]
      constructor
      · rintro ⟨rfl, rfl⟩; rw [e1, e2]
      · intro he
        generalize xs.getD 0 0 * xs.getD 1 0 = zz at *
        omega
    -- element
    refine BoolK.mk (fun q => ?_) (fun q5 => ?_)
    · have e := of_decide_eq_true q
      rw [e] at hk ⊢
      simp only [kindB, Bool.and_eq_true, decide_eq_true_eq] at hk
      simp only [holdsK]
      refine DrewK.mk fun w97 hx97 => ⟨by omega, _, X0 (by omega) _ hx97, BoolK.mk (fun t => ⟨by omega, _, X0 (by omega) _ hx97, _, _, _, Cc _ hx97, BoolK.mk (fun t2 => ⟨_, _, _, Cc _ hx97, by omega, _, X0 (by omega) _ hx97, ?_⟩) (fun t2 => ?_)⟩) (fun t => ?_)⟩
      · have t : 1 ≤ xs.getD 0 0 := by simpa using t
        have t2 : xs.getD 0 0 ≤ pc.length := by rw [← hl3']; simpa using t2
        rw [wrap_id (by omega) (by omega)]
        obtain ⟨b1, o1, rfl, g1⟩ := intAt hc w97 (hB21.trans hx97) (i := (xs.getD 0 0 - 1).toNat) (by omega)
        refine ⟨by omega, ?_⟩
        simp only [AddrK]
        rw [add_mk, Nat.mul_one]
        refine ⟨_, g1, by omega, _, X1 (by omega) _ hx97, ?_, hB21.trans hx97⟩
        rw [decide_eq_true t, decide_eq_true t2, Bool.true_and, Bool.true_and, getD_get (show (xs.getD 0 0 - 1).toNat < pc.length by omega)]
        rfl
      · have t2 : ¬ xs.getD 0 0 ≤ pc.length := by rw [← hl3']; simpa using t2
        exact ⟨by rw [decide_eq_false t2, Bool.false_and, Bool.and_false], hB21.trans hx97⟩
      · have t : ¬ 1 ≤ xs.getD 0 0 := by simpa using t
        exact ⟨by rw [decide_eq_false t, Bool.false_and], hB21.trans hx97⟩
    -- max
    refine BoolK.mk (fun q => ?_) (fun q6 => ?_)
    · have e := of_decide_eq_true q
      rw [e] at hk ⊢
      simp only [kindB, Bool.and_eq_true, decide_eq_true_eq] at hk
      simp only [holdsK]
      exact DrewK.mk fun w97 hx97 => ⟨by omega, _, X2 (by omega) _ hx97, by omega, _, X0 (by omega) _ hx97, by omega, _, X1 (by omega) _ hx97, rfl, hB21.trans hx97⟩
    -- reify
    refine BoolK.mk (fun q => ?_) (fun q7 => ?_)
    · have e := of_decide_eq_true q
      rw [e] at hk ⊢
      simp only [kindB, Bool.and_eq_true, decide_eq_true_eq] at hk
      have hnr : -1000000 ≤ pn ∧ pn ≤ 1000000 := of_decide_eq_true hk.2
      simp only [holdsK]
      refine DrewK.mk fun w110 hx110 => ⟨by omega, _, X2 (by omega) _ hx110, _, Nn _ hx110, by omega, _, X1 (by omega) _ hx110, ?_⟩
      refine (c74 w110 _ _ _ (XB 2 (by omega)) (by omega) (XB 1 (by omega))).mono ?_
      rintro en w115 ⟨x, rfl, rfl, hx115⟩
      have hx' := hx110.trans hx115
      refine ⟨_, rfl, hx115, BoolK.mk (fun t => ⟨by omega, _, X0 (by omega) _ hx', ?_, hB21.trans hx'⟩) (fun t => ⟨by omega, _, X0 (by omega) _ hx', ?_, hB21.trans hx'⟩)⟩
      · have t : 0 ≤ cmpI (xs.getD 2 0 + pn) (xs.getD 1 0) := by simpa using t
        have : xs.getD 1 0 ≤ xs.getD 2 0 + pn := by rw [cmpI] at t; split at t <;> omega
        rw [if_pos this]; rfl
      · have t : ¬ 0 ≤ cmpI (xs.getD 2 0 + pn) (xs.getD 1 0) := by simpa using t
        have : ¬ xs.getD 1 0 ≤ xs.getD 2 0 + pn := by
          intro hle; apply t; rw [cmpI, if_neg (by omega)]; split <;> omega
        rw [if_neg this]; rfl
    -- apart
    have e : kdOf pk = .apart := by
      simp at q2 q3 q4 q5 q6 q7
      cases hh : kdOf pk <;> simp_all [kindB]
    rw [e] at hk ⊢
    simp only [kindB, Bool.and_eq_true, decide_eq_true_eq] at hk
    simp only [holdsK]
    obtain ⟨e0, e1, rfl⟩ : ∃ x y, pc = [x, y] := by
      match pc, hk.1.2 with
      | [x, y], _ => exact ⟨x, y, rfl⟩
      | [], h1 => simp at h1
      | [_], h1 => simp at h1
      | _ :: _ :: _ :: _, h1 => simp at h1
    have hcc : (0 ≤ e0 ∧ e0 ≤ 1000000) ∧ (0 ≤ e1 ∧ e1 ≤ 1000000) := by simpa using hk.2
    obtain ⟨bc, oc, rfl, _⟩ := intAt hc w (Ext.refl w) (i := 0) (by simp)
    have C0 : ∀ w', Ext w30 w' → w'.cell? ((⟨bc, oc, none⟩ : Addr).add ((0 : Int).toNat * 1)) = some (.int .i64 e0) := fun w' hw => by
      obtain ⟨b', o', hb', g⟩ := intAt hc w' (hB21.trans hw) (i := 0) (by simp)
      simp at hb'; obtain ⟨rfl, rfl⟩ := hb'
      rw [add_mk]; exact g
    have C1 : ∀ w', Ext w30 w' → w'.cell? ((⟨bc, oc, none⟩ : Addr).add ((1 : Int).toNat * 1)) = some (.int .i64 e1) := fun w' hw => by
      obtain ⟨b', o', hb', g⟩ := intAt hc w' (hB21.trans hw) (i := 1) (by simp)
      simp at hb'; obtain ⟨rfl, rfl⟩ := hb'
      rw [add_mk]; exact g
    have l3two : l3 = 2 := hl3'
    subst l3two
    have Y0 := X0 (by omega); have Y1 := X1 (by omega)
    clear X0 X1 X2 hcell hblk hcs
    refine DrewK.mk fun w119 hx119 => ⟨by omega, _, Y0 _ hx119, _, _, _, Cc _ hx119, by omega, _, C0 _ hx119, by omega, _, Y1 _ hx119, ?_⟩
    refine (c74 w119 _ _ _ (XB 0 (by omega)) (by omega) (XB 1 (by omega))).mono ?_
    rintro en w126 ⟨x, rfl, rfl, hx126⟩
    have hx' := hx119.trans hx126
    have le1 : ∀ a b : Int, cmpI a b ≤ 0 ↔ a ≤ b := fun a b => by
      rw [cmpI]; split
      · omega
      split <;> omega
    have hb0 : decide (cmpI (xs.getD 0 0 + e0) (xs.getD 1 0) ≤ 0) = decide (xs.getD 0 0 + e0 ≤ xs.getD 1 0) := by rw [decide_eq_decide]; exact le1 _ _
    refine ⟨_, rfl, hx126, ?_⟩
    show BoolK (decide (cmpI (xs.getD 0 0 + e0) (xs.getD 1 0) ≤ 0)) _ _
    rw [hb0]
    refine BoolK.mk (fun t => ?_) (fun t => ?_)
    · have kT : (true = (decide (xs.getD 0 0 + [e0, e1].getD 0 0 ≤ xs.getD 1 0) || decide (xs.getD 1 0 + [e0, e1].getD 1 0 ≤ xs.getD 0 0)) ∧ Ext w w126) := ⟨by rw [show ([e0, e1] : List Int).getD 0 0 = e0 from rfl, t]; rfl, hB21.trans hx'⟩
      refine ⟨⟨⟨?_, ?_⟩, ?_⟩, ⟨⟨?_, ?_⟩, ⟨?_, ?_⟩, ?_, ?_⟩, ?_, ?_, ?_⟩ <;> exact kT
    · have L : ∀ w', Ext w119 w' → Calls Try.prog 74 #[.int .i64 (xs.getD 1 0), .int .i64 e1, .int .i64 (xs.getD 0 0)] w' fun en w'' => ∃ x, en = .returned (.int .i64 x) ∧ (Below w119.heap.size w119 w'' ∧ (decide (x ≤ 0) = (decide (xs.getD 0 0 + [e0, e1].getD 0 0 ≤ xs.getD 1 0) || decide (xs.getD 1 0 + [e0, e1].getD 1 0 ≤ xs.getD 0 0)) ∧ Ext w w'')) := fun w' hw => by
        refine (c74 w' _ _ _ (XB 1 (by omega)) (by omega) (XB 0 (by omega))).mono ?_
        rintro en w'' ⟨x, rfl, rfl, hx''⟩
        refine ⟨_, rfl, hw.trans hx'', ?_, hB21.trans (hx119.trans (hw.trans hx''))⟩
        rw [show ([e0, e1] : List Int).getD 0 0 = e0 from rfl, show ([e0, e1] : List Int).getD 1 0 = e1 from rfl, t, Bool.false_or, decide_eq_decide]
        exact le1 _ _
      have A0 : 0 ≤ (0 : Int) ∧ (0 : Int) < (((l2 : Nat) : Int).toNat : Nat) := by omega
      have A1 : 0 ≤ (1 : Int) ∧ (1 : Int) < (((l2 : Nat) : Int).toNat : Nat) := by omega
      have A2 : 0 ≤ (1 : Int) ∧ (1 : Int) < ((2 : Nat) : Int) := by omega
      have LL := L w126 hx126
      have y0 := Y0 _ hx'; have y1 := Y1 _ hx'; have cc := Cc _ hx'; have q1 := C1 _ hx'
      repeat' first
        | exact LL
        | exact A0
        | exact A1
        | exact A2
        | exact hx126
        | refine ⟨_, y0, ?_⟩
        | refine ⟨_, y1, ?_⟩
        | refine ⟨_, q1, ?_⟩
        | refine ⟨_, _, _, cc, ?_⟩
        | apply And.intro
  · refine BoolK.mk (fun t => ⟨rfl, by rw [t]; rfl⟩) (fun t => ⟨rfl, by rw [t]; rfl⟩)
end Go.Proofs.Ytggfnakhmjkoeaa

namespace Go.Proofs.Ytggfnakhmjkoeaa
open Go Go.V Go.Proofs
open Go.RowKit (Below)
/-! manystrand/manystrandref06.Holds -/
def N46 (s1 : ByteArray) (a2 : Option Addr) (l2 : Nat) (c2 : Nat) (a3 : Option Addr) (l3 : Nat) (c3 : Nat) (x4 : Int) (a5 : Option Addr) (l5 : Nat) (_c5 : Nat) (K : Bool → World → Prop) (w : World) : Prop :=
  AllocK w (#[(.string s1), (.slice a2 l2 c2), (.slice a3 l3 c3), (.int .i64 x4)]) 24 fun b6 w7 =>
  ∃ (s8 : ByteArray), w7.cell? (b6.add 0) = some (.string s8) ∧
  (∃ (a9 : Option Addr) (l9 : Nat) (c9 : Nat), w7.cell? (b6.add 1) = some (.slice a9 l9 c9) ∧
    (∃ (a10 : Option Addr) (l10 : Nat) (c10 : Nat), w7.cell? (b6.add 2) = some (.slice a10 l10 c10) ∧
      (∃ (x11 : Int), w7.cell? (b6.add 3) = some (.int .i64 x11) ∧
        (Calls Try.prog 17 #[(.agg #[(.string s8), (.slice a9 l9 c9), (.slice a10 l10 c10), (.int .i64 x11)]), (.int .i64 (l5 : Nat))] w7 fun e14 w13 =>
          ∃ (p12 : Bool), e14 = .returned (.bool p12) ∧
          (BoolK (!p12)
            (K false w13)
            (∃ (I15 : Option Addr → Nat → Nat → Int → World → Prop) (μ16 : Option Addr → Nat → Nat → Int → World → Nat),
              (I15 none 0 0 0 w13 ∧ True) ∧
              ∀ (w17 : World) (a18 : Option Addr) (l18 : Nat) (c18 : Nat) (x19 : Int), I15 a18 l18 c18 x19 w17 →
              ∃ (a20 : Option Addr) (l20 : Nat) (c20 : Nat), w17.cell? (b6.add 1) = some (.slice a20 l20 c20) ∧
              (BoolK (decide ((x19 : Int) < (l20 : Nat)))
                (∃ (a21 : Option Addr) (l21 : Nat) (c21 : Nat), w17.cell? (b6.add 1) = some (.slice a21 l21 c21) ∧
                  ((0 ≤ (x19 : Int) ∧ (x19 : Int) < (l21 : Nat)) ∧
                    AddrK a21 fun b22 =>
                    ∃ (x23 : Int), w17.cell? (b22.add ((x19 : Int).toNat * 1)) = some (.int .i64 x23) ∧
                    ((0 ≤ (x23 : Int) ∧ (x23 : Int) < (l5 : Nat)) ∧
                      AddrK a5 fun b24 =>
                      ∃ (x25 : Int), w17.cell? (b24.add ((x23 : Int).toNat * 1)) = some (.int .i64 x25) ∧
                      (AllocK w17 (#[(.int .i64 x25)]) 3 fun b26 w27 =>
                        ∃ (a28 : Option Addr), ∃ (l28 : Nat), ∃ (c28 : Nat), ∃ (w29 : World), Sem.run Try.prog (Builtin.append_ #[22, 22] 22 #[(.slice a18 l18 c18), (.slice (some b26) 1 1)]) w27 = .ok (.slice a28 l28 c28) w29 ∧
                        (I15 a28 l28 c28 (IntKind.wrap .i64 (x19 + 1)) w29 ∧ μ16 a28 l28 c28 (IntKind.wrap .i64 (x19 + 1)) w29 < μ16 a18 l18 c18 x19 w17)))))
                (∃ (s30 : ByteArray), w17.cell? b6 = some (.string s30) ∧
                  (BoolK ((s30 : ByteArray).toList == ((⟨#[115, 117, 109]⟩ : ByteArray) : ByteArray).toList)
                    (DrewK w17 fun w31 =>
                      ∃ (a32 : Option Addr) (l32 : Nat) (c32 : Nat), w31.cell? (b6.add 2) = some (.slice a32 l32 c32) ∧
                      (∃ (x33 : Int), w31.cell? (b6.add 3) = some (.int .i64 x33) ∧
                        (Calls Try.prog 76 #[(.slice a32 l32 c32), (.slice a18 l18 c18)] w31 fun e37 w36 =>
                          ∃ (x34 : Int), ∃ (x35 : Int), e37 = .returned (.agg #[(.int .i64 x34), (.int .i64 x35)]) ∧
                          (Below w31.heap.size w31 w36 ∧
                            (Calls Try.prog 75 #[(.agg #[(.int .i64 x34), (.int .i64 x35)]), (.int .i64 x33)] w36 fun e40 w39 =>
                              ∃ (x38 : Int), e40 = .returned (.int .i64 x38) ∧
                              (Below w31.heap.size w31 w39 ∧
                                (K ((x38 : Int) == 0) w39)))))))
                    (BoolK ((s30 : ByteArray).toList == ((⟨#[109, 111, 115, 116]⟩ : ByteArray) : ByteArray).toList)
                      (DrewK w17 fun w41 =>
                        ∃ (a42 : Option Addr) (l42 : Nat) (c42 : Nat), w41.cell? (b6.add 2) = some (.slice a42 l42 c42) ∧
                        (∃ (x43 : Int), w41.cell? (b6.add 3) = some (.int .i64 x43) ∧
                          (Calls Try.prog 76 #[(.slice a42 l42 c42), (.slice a18 l18 c18)] w41 fun e47 w46 =>
                            ∃ (x44 : Int), ∃ (x45 : Int), e47 = .returned (.agg #[(.int .i64 x44), (.int .i64 x45)]) ∧
                            (Below w41.heap.size w41 w46 ∧
                              (Calls Try.prog 75 #[(.agg #[(.int .i64 x44), (.int .i64 x45)]), (.int .i64 x43)] w46 fun e50 w49 =>
                                ∃ (x48 : Int), e50 = .returned (.int .i64 x48) ∧
                                (Below w41.heap.size w41 w49 ∧
                                  (K (decide ((x48 : Int) ≤ 0)) w49)))))))
                      (BoolK ((s30 : ByteArray).toList == ((⟨#[117, 110, 108, 105, 107, 101]⟩ : ByteArray) : ByteArray).toList)
                        (DrewK w17 fun w51 =>
                          ∃ (x52 : Int), w51.cell? (b6.add 3) = some (.int .i64 x52) ∧
                          (AllocK w51 (#[(.int .i64 (-1)), (.int .i64 1)]) 3 fun b53 w54 =>
                            Below w51.heap.size w51 w54 ∧
                            (Calls Try.prog 76 #[(.slice (some b53) 2 2), (.slice a18 l18 c18)] w54 fun e58 w57 =>
                              ∃ (x55 : Int), ∃ (x56 : Int), e58 = .returned (.agg #[(.int .i64 x55), (.int .i64 x56)]) ∧
                              (Below w51.heap.size w51 w57 ∧
                                (Calls Try.prog 75 #[(.agg #[(.int .i64 x55), (.int .i64 x56)]), (.int .i64 x52)] w57 fun e61 w60 =>
                                  ∃ (x59 : Int), e61 = .returned (.int .i64 x59) ∧
                                  (Below w51.heap.size w51 w60 ∧
                                    (K ((x59 : Int) != 0) w60)))))))
                        (BoolK ((s30 : ByteArray).toList == ((⟨#[100, 105, 115, 116, 105, 110, 99, 116]⟩ : ByteArray) : ByteArray).toList)
                          (∃ (I62 : Int → World → Prop) (μ63 : Int → World → Nat),
                            (I62 0 w17 ∧ True) ∧
                            ∀ (w64 : World) (x65 : Int), I62 x65 w64 →
                            BoolK (decide ((x65 : Int) < (l18 : Nat)))
                            (∃ (I66 : Int → World → Prop) (μ67 : Int → World → Nat),
                              (I66 0 w64 ∧ True) ∧
                              ∀ (w68 : World) (x69 : Int), I66 x69 w68 →
                              BoolK (decide ((x69 : Int) < x65))
                              (DrewK w68 fun w70 =>
                                (0 ≤ (x65 : Int) ∧ (x65 : Int) < (l18 : Nat)) ∧
                                AddrK a18 fun b71 =>
                                ∃ (x72 : Int), w70.cell? (b71.add ((x65 : Int).toNat * 1)) = some (.int .i64 x72) ∧
                                ((0 ≤ (x69 : Int) ∧ (x69 : Int) < (l18 : Nat)) ∧
                                  AddrK a18 fun b73 =>
                                  ∃ (x74 : Int), w70.cell? (b73.add ((x69 : Int).toNat * 1)) = some (.int .i64 x74) ∧
                                  (BoolK ((x72 : Int) == x74)
                                    (K false w70)
                                    (I66 (IntKind.wrap .i64 (x69 + 1)) w70 ∧ μ67 (IntKind.wrap .i64 (x69 + 1)) w70 < μ67 x69 w68))))
                              (I62 (IntKind.wrap .i64 (x65 + 1)) w68 ∧ μ63 (IntKind.wrap .i64 (x65 + 1)) w68 < μ63 x65 w64))
                            (K true w64))
                          (BoolK ((s30 : ByteArray).toList == ((⟨#[112, 114, 111, 100, 117, 99, 116]⟩ : ByteArray) : ByteArray).toList)
                            (DrewK w17 fun w75 =>
                              (0 ≤ (0 : Int) ∧ (0 : Int) < (l18 : Nat)) ∧
                              AddrK a18 fun b76 =>
                              ∃ (x77 : Int), w75.cell? (b76.add ((0 : Int).toNat * 1)) = some (.int .i64 x77) ∧
                              ((0 ≤ (1 : Int) ∧ (1 : Int) < (l18 : Nat)) ∧
                                AddrK a18 fun b78 =>
                                ∃ (x79 : Int), w75.cell? (b78.add ((1 : Int).toNat * 1)) = some (.int .i64 x79) ∧
                                ((0 ≤ (2 : Int) ∧ (2 : Int) < (l18 : Nat)) ∧
                                  AddrK a18 fun b80 =>
                                  ∃ (x81 : Int), w75.cell? (b80.add ((2 : Int).toNat * 1)) = some (.int .i64 x81) ∧
                                  (Calls Try.prog 77 #[(.int .i64 x77), (.int .i64 x79), (.int .i64 x81)] w75 fun e84 w83 =>
                                    ∃ (p82 : Bool), e84 = .returned (.bool p82) ∧
                                    (Below w75.heap.size w75 w83 ∧
                                      (K p82 w83))))))
                            (BoolK ((s30 : ByteArray).toList == ((⟨#[101, 108, 101, 109, 101, 110, 116]⟩ : ByteArray) : ByteArray).toList)
                              (DrewK w17 fun w85 =>
                                (0 ≤ (0 : Int) ∧ (0 : Int) < (l18 : Nat)) ∧
                                AddrK a18 fun b86 =>
                                ∃ (x87 : Int), w85.cell? (b86.add ((0 : Int).toNat * 1)) = some (.int .i64 x87) ∧
                                (BoolK (decide ((x87 : Int) ≥ 1))
                                  ((0 ≤ (0 : Int) ∧ (0 : Int) < (l18 : Nat)) ∧
                                    AddrK a18 fun b88 =>
                                    ∃ (x89 : Int), w85.cell? (b88.add ((0 : Int).toNat * 1)) = some (.int .i64 x89) ∧
                                    (∃ (a90 : Option Addr) (l90 : Nat) (c90 : Nat), w85.cell? (b6.add 2) = some (.slice a90 l90 c90) ∧
                                      (BoolK (decide ((x89 : Int) ≤ (l90 : Nat)))
                                        (∃ (a91 : Option Addr) (l91 : Nat) (c91 : Nat), w85.cell? (b6.add 2) = some (.slice a91 l91 c91) ∧
                                          ((0 ≤ (0 : Int) ∧ (0 : Int) < (l18 : Nat)) ∧
                                            AddrK a18 fun b92 =>
                                            ∃ (x93 : Int), w85.cell? (b92.add ((0 : Int).toNat * 1)) = some (.int .i64 x93) ∧
                                            ((0 ≤ (IntKind.wrap .i64 (x93 - 1) : Int) ∧ (IntKind.wrap .i64 (x93 - 1) : Int) < (l91 : Nat)) ∧
                                              AddrK a91 fun b94 =>
                                              ∃ (x95 : Int), w85.cell? (b94.add ((IntKind.wrap .i64 (x93 - 1) : Int).toNat * 1)) = some (.int .i64 x95) ∧
                                              ((0 ≤ (1 : Int) ∧ (1 : Int) < (l18 : Nat)) ∧
                                                AddrK a18 fun b96 =>
                                                ∃ (x97 : Int), w85.cell? (b96.add ((1 : Int).toNat * 1)) = some (.int .i64 x97) ∧
                                                (K ((x95 : Int) == x97) w85)))))
                                        (K false w85))))
                                  (K false w85)))
                              (BoolK ((s30 : ByteArray).toList == ((⟨#[109, 97, 120]⟩ : ByteArray) : ByteArray).toList)
                                (DrewK w17 fun w98 =>
                                  (0 ≤ (2 : Int) ∧ (2 : Int) < (l18 : Nat)) ∧
                                  AddrK a18 fun b99 =>
                                  ∃ (x100 : Int), w98.cell? (b99.add ((2 : Int).toNat * 1)) = some (.int .i64 x100) ∧
                                  ((0 ≤ (0 : Int) ∧ (0 : Int) < (l18 : Nat)) ∧
                                    AddrK a18 fun b101 =>
                                    ∃ (x102 : Int), w98.cell? (b101.add ((0 : Int).toNat * 1)) = some (.int .i64 x102) ∧
                                    ((0 ≤ (1 : Int) ∧ (1 : Int) < (l18 : Nat)) ∧
                                      AddrK a18 fun b103 =>
                                      ∃ (x104 : Int), w98.cell? (b103.add ((1 : Int).toNat * 1)) = some (.int .i64 x104) ∧
                                      (K ((x100 : Int) == if (x104 : Int) > x102 then x104 else x102) w98))))
                                (BoolK ((s30 : ByteArray).toList == ((⟨#[114, 101, 105, 102, 121]⟩ : ByteArray) : ByteArray).toList)
                                  (DrewK w17 fun w105 =>
                                    (0 ≤ (0 : Int) ∧ (0 : Int) < (l18 : Nat)) ∧
                                    AddrK a18 fun b106 =>
                                    ∃ (x107 : Int), w105.cell? (b106.add ((0 : Int).toNat * 1)) = some (.int .i64 x107) ∧
                                    (BoolK ((x107 : Int) == 1)
                                      ((0 ≤ (1 : Int) ∧ (1 : Int) < (l18 : Nat)) ∧
                                        AddrK a18 fun b108 =>
                                        ∃ (x109 : Int), w105.cell? (b108.add ((1 : Int).toNat * 1)) = some (.int .i64 x109) ∧
                                        ((0 ≤ (2 : Int) ∧ (2 : Int) < (l18 : Nat)) ∧
                                          AddrK a18 fun b110 =>
                                          ∃ (x111 : Int), w105.cell? (b110.add ((2 : Int).toNat * 1)) = some (.int .i64 x111) ∧
                                          (∃ (x112 : Int), w105.cell? (b6.add 3) = some (.int .i64 x112) ∧
                                            (Calls Try.prog 78 #[(.int .i64 x109), (.int .i64 x111), (.int .i64 x112)] w105 fun e115 w114 =>
                                              ∃ (p113 : Bool), e115 = .returned (.bool p113) ∧
                                              (Below w105.heap.size w105 w114 ∧
                                                (BoolK p113
                                                  (((K true w114) ∧
                                                      (K true w114)) ∧
                                                    (((K true w114) ∧
                                                        (K true w114)) ∧
                                                      ((K true w114) ∧
                                                        (K true w114))))
                                                  ((0 ≤ (0 : Int) ∧ (0 : Int) < (l18 : Nat)) ∧
                                                    AddrK a18 fun b116 =>
                                                    ∃ (x117 : Int), w114.cell? (b116.add ((0 : Int).toNat * 1)) = some (.int .i64 x117) ∧
                                                    (Below w105.heap.size w105 w114 ∧
                                                      (BoolK ((x117 : Int) == 0)
                                                        ((0 ≤ (1 : Int) ∧ (1 : Int) < (l18 : Nat)) ∧
                                                          AddrK a18 fun b118 =>
                                                          (0 ≤ (2 : Int) ∧ (2 : Int) < (l18 : Nat)) ∧
                                                          AddrK a18 fun b119 =>
                                                          (∃ (x120 : Int), w114.cell? (b118.add ((1 : Int).toNat * 1)) = some (.int .i64 x120) ∧
                                                            (Below w105.heap.size w105 w114 ∧
                                                              ((∃ (x121 : Int), w114.cell? (b119.add ((2 : Int).toNat * 1)) = some (.int .i64 x121) ∧
                                                              (Below w105.heap.size w105 w114 ∧
                                                              (∃ (x122 : Int), w114.cell? (b6.add 3) = some (.int .i64 x122) ∧
                                                              (Below w105.heap.size w105 w114 ∧
                                                              (Calls Try.prog 78 #[(.int .i64 x120), (.int .i64 x121), (.int .i64 x122)] w114 fun e125 w124 =>
                                                              ∃ (p123 : Bool), e125 = .returned (.bool p123) ∧
                                                              (Below w105.heap.size w105 w124 ∧
                                                              (K (!p123) w124))))))) ∧
                                                              (∃ (x126 : Int), w114.cell? (b6.add 3) = some (.int .i64 x126) ∧
                                                              (Below w105.heap.size w105 w114 ∧
                                                              (∃ (x127 : Int), w114.cell? (b119.add ((2 : Int).toNat * 1)) = some (.int .i64 x127) ∧
                                                              (Below w105.heap.size w105 w114 ∧
                                                              (Calls Try.prog 78 #[(.int .i64 x120), (.int .i64 x127), (.int .i64 x126)] w114 fun e130 w129 =>
                                                              ∃ (p128 : Bool), e130 = .returned (.bool p128) ∧
                                                              (Below w105.heap.size w105 w129 ∧
                                                              (K (!p128) w129)))))))))) ∧
                                                          ((∃ (x131 : Int), w114.cell? (b119.add ((2 : Int).toNat * 1)) = some (.int .i64 x131) ∧
                                                              (Below w105.heap.size w105 w114 ∧
                                                              ((∃ (x132 : Int), w114.cell? (b118.add ((1 : Int).toNat * 1)) = some (.int .i64 x132) ∧
                                                              (Below w105.heap.size w105 w114 ∧
                                                              (∃ (x133 : Int), w114.cell? (b6.add 3) = some (.int .i64 x133) ∧
                                                              (Below w105.heap.size w105 w114 ∧
                                                              (Calls Try.prog 78 #[(.int .i64 x132), (.int .i64 x131), (.int .i64 x133)] w114 fun e136 w135 =>
                                                              ∃ (p134 : Bool), e136 = .returned (.bool p134) ∧
                                                              (Below w105.heap.size w105 w135 ∧
                                                              (K (!p134) w135))))))) ∧
                                                              (∃ (x137 : Int), w114.cell? (b6.add 3) = some (.int .i64 x137) ∧
                                                              (Below w105.heap.size w105 w114 ∧
                                                              (∃ (x138 : Int), w114.cell? (b118.add ((1 : Int).toNat * 1)) = some (.int .i64 x138) ∧
                                                              (Below w105.heap.size w105 w114 ∧
                                                              (Calls Try.prog 78 #[(.int .i64 x138), (.int .i64 x131), (.int .i64 x137)] w114 fun e141 w140 =>
                                                              ∃ (p139 : Bool), e141 = .returned (.bool p139) ∧
                                                              (Below w105.heap.size w105 w140 ∧
                                                              (K (!p139) w140)))))))))) ∧
                                                            (∃ (x142 : Int), w114.cell? (b6.add 3) = some (.int .i64 x142) ∧
                                                              (Below w105.heap.size w105 w114 ∧
                                                              ((∃ (x143 : Int), w114.cell? (b118.add ((1 : Int).toNat * 1)) = some (.int .i64 x143) ∧
                                                              (Below w105.heap.size w105 w114 ∧
                                                              (∃ (x144 : Int), w114.cell? (b119.add ((2 : Int).toNat * 1)) = some (.int .i64 x144) ∧
                                                              (Below w105.heap.size w105 w114 ∧
                                                              (Calls Try.prog 78 #[(.int .i64 x143), (.int .i64 x144), (.int .i64 x142)] w114 fun e147 w146 =>
                                                              ∃ (p145 : Bool), e147 = .returned (.bool p145) ∧
                                                              (Below w105.heap.size w105 w146 ∧
                                                              (K (!p145) w146))))))) ∧
                                                              (∃ (x148 : Int), w114.cell? (b119.add ((2 : Int).toNat * 1)) = some (.int .i64 x148) ∧
                                                              (Below w105.heap.size w105 w114 ∧
                                                              (∃ (x149 : Int), w114.cell? (b118.add ((1 : Int).toNat * 1)) = some (.int .i64 x149) ∧
                                                              (Below w105.heap.size w105 w114 ∧
                                                              (Calls Try.prog 78 #[(.int .i64 x149), (.int .i64 x148), (.int .i64 x142)] w114 fun e152 w151 =>
                                                              ∃ (p150 : Bool), e152 = .returned (.bool p150) ∧
                                                              (Below w105.heap.size w105 w151 ∧
                                                              (K (!p150) w151))))))))))))
                                                        (((K false w114) ∧
                                                            (K false w114)) ∧
                                                          (((K false w114) ∧
                                                              (K false w114)) ∧
                                                            ((K false w114) ∧
                                                              (K false w114)))))))))))))
                                      ((0 ≤ (0 : Int) ∧ (0 : Int) < (l18 : Nat)) ∧
                                        AddrK a18 fun b153 =>
                                        ∃ (x154 : Int), w105.cell? (b153.add ((0 : Int).toNat * 1)) = some (.int .i64 x154) ∧
                                        (Below w105.heap.size w105 w105 ∧
                                          (BoolK ((x154 : Int) == 0)
                                            ((0 ≤ (1 : Int) ∧ (1 : Int) < (l18 : Nat)) ∧
                                              AddrK a18 fun b155 =>
                                              (0 ≤ (2 : Int) ∧ (2 : Int) < (l18 : Nat)) ∧
                                              AddrK a18 fun b156 =>
                                              (∃ (x157 : Int), w105.cell? (b155.add ((1 : Int).toNat * 1)) = some (.int .i64 x157) ∧
                                                (Below w105.heap.size w105 w105 ∧
                                                  ((∃ (x158 : Int), w105.cell? (b156.add ((2 : Int).toNat * 1)) = some (.int .i64 x158) ∧
                                                      (Below w105.heap.size w105 w105 ∧
                                                        (∃ (x159 : Int), w105.cell? (b6.add 3) = some (.int .i64 x159) ∧
                                                          (Below w105.heap.size w105 w105 ∧
                                                            (Calls Try.prog 78 #[(.int .i64 x157), (.int .i64 x158), (.int .i64 x159)] w105 fun e162 w161 =>
                                                              ∃ (p160 : Bool), e162 = .returned (.bool p160) ∧
                                                              (Below w105.heap.size w105 w161 ∧
                                                              (K (!p160) w161))))))) ∧
                                                    (∃ (x163 : Int), w105.cell? (b6.add 3) = some (.int .i64 x163) ∧
                                                      (Below w105.heap.size w105 w105 ∧
                                                        (∃ (x164 : Int), w105.cell? (b156.add ((2 : Int).toNat * 1)) = some (.int .i64 x164) ∧
                                                          (Below w105.heap.size w105 w105 ∧
                                                            (Calls Try.prog 78 #[(.int .i64 x157), (.int .i64 x164), (.int .i64 x163)] w105 fun e167 w166 =>
                                                              ∃ (p165 : Bool), e167 = .returned (.bool p165) ∧
                                                              (Below w105.heap.size w105 w166 ∧
                                                              (K (!p165) w166)))))))))) ∧
                                              ((∃ (x168 : Int), w105.cell? (b156.add ((2 : Int).toNat * 1)) = some (.int .i64 x168) ∧
                                                  (Below w105.heap.size w105 w105 ∧
                                                    ((∃ (x169 : Int), w105.cell? (b155.add ((1 : Int).toNat * 1)) = some (.int .i64 x169) ∧
                                                        (Below w105.heap.size w105 w105 ∧
                                                          (∃ (x170 : Int), w105.cell? (b6.add 3) = some (.int .i64 x170) ∧
                                                            (Below w105.heap.size w105 w105 ∧
                                                              (Calls Try.prog 78 #[(.int .i64 x169), (.int .i64 x168), (.int .i64 x170)] w105 fun e173 w172 =>
                                                              ∃ (p171 : Bool), e173 = .returned (.bool p171) ∧
                                                              (Below w105.heap.size w105 w172 ∧
                                                              (K (!p171) w172))))))) ∧
                                                      (∃ (x174 : Int), w105.cell? (b6.add 3) = some (.int .i64 x174) ∧
                                                        (Below w105.heap.size w105 w105 ∧
                                                          (∃ (x175 : Int), w105.cell? (b155.add ((1 : Int).toNat * 1)) = some (.int .i64 x175) ∧
                                                            (Below w105.heap.size w105 w105 ∧
                                                              (Calls Try.prog 78 #[(.int .i64 x175), (.int .i64 x168), (.int .i64 x174)] w105 fun e178 w177 =>
                                                              ∃ (p176 : Bool), e178 = .returned (.bool p176) ∧
                                                              (Below w105.heap.size w105 w177 ∧
                                                              (K (!p176) w177)))))))))) ∧
                                                (∃ (x179 : Int), w105.cell? (b6.add 3) = some (.int .i64 x179) ∧
                                                  (Below w105.heap.size w105 w105 ∧
                                                    ((∃ (x180 : Int), w105.cell? (b155.add ((1 : Int).toNat * 1)) = some (.int .i64 x180) ∧
                                                        (Below w105.heap.size w105 w105 ∧
                                                          (∃ (x181 : Int), w105.cell? (b156.add ((2 : Int).toNat * 1)) = some (.int .i64 x181) ∧
                                                            (Below w105.heap.size w105 w105 ∧
                                                              (Calls Try.prog 78 #[(.int .i64 x180), (.int .i64 x181), (.int .i64 x179)] w105 fun e184 w183 =>
                                                              ∃ (p182 : Bool), e184 = .returned (.bool p182) ∧
                                                              (Below w105.heap.size w105 w183 ∧
                                                              (K (!p182) w183))))))) ∧
                                                      (∃ (x185 : Int), w105.cell? (b156.add ((2 : Int).toNat * 1)) = some (.int .i64 x185) ∧
                                                        (Below w105.heap.size w105 w105 ∧
                                                          (∃ (x186 : Int), w105.cell? (b155.add ((1 : Int).toNat * 1)) = some (.int .i64 x186) ∧
                                                            (Below w105.heap.size w105 w105 ∧
                                                              (Calls Try.prog 78 #[(.int .i64 x186), (.int .i64 x185), (.int .i64 x179)] w105 fun e189 w188 =>
                                                              ∃ (p187 : Bool), e189 = .returned (.bool p187) ∧
                                                              (Below w105.heap.size w105 w188 ∧
                                                              (K (!p187) w188))))))))))))
                                            (((K false w105) ∧
                                                (K false w105)) ∧
                                              (((K false w105) ∧
                                                  (K false w105)) ∧
                                                ((K false w105) ∧
                                                  (K false w105)))))))))
                                  (DrewK w17 fun w190 =>
                                    (0 ≤ (0 : Int) ∧ (0 : Int) < (l18 : Nat)) ∧
                                    AddrK a18 fun b191 =>
                                    ∃ (x192 : Int), w190.cell? (b191.add ((0 : Int).toNat * 1)) = some (.int .i64 x192) ∧
                                    ((0 ≤ (1 : Int) ∧ (1 : Int) < (l18 : Nat)) ∧
                                      AddrK a18 fun b193 =>
                                      ∃ (x194 : Int), w190.cell? (b193.add ((1 : Int).toNat * 1)) = some (.int .i64 x194) ∧
                                      (∃ (a195 : Option Addr) (l195 : Nat) (c195 : Nat), w190.cell? (b6.add 2) = some (.slice a195 l195 c195) ∧
                                        ((0 ≤ (0 : Int) ∧ (0 : Int) < (l195 : Nat)) ∧
                                          AddrK a195 fun b196 =>
                                          ∃ (x197 : Int), w190.cell? (b196.add ((0 : Int).toNat * 1)) = some (.int .i64 x197) ∧
                                          (Calls Try.prog 78 #[(.int .i64 x192), (.int .i64 x194), (.int .i64 (IntKind.wrap .i64 (0 - x197)))] w190 fun e200 w199 =>
                                            ∃ (p198 : Bool), e200 = .returned (.bool p198) ∧
                                            (Below w190.heap.size w190 w199 ∧
                                              (BoolK p198
                                                (((K true w199) ∧
                                                    ((K true w199) ∧
                                                      (K true w199))) ∧
                                                  (((K true w199) ∧
                                                      ((K true w199) ∧
                                                        (K true w199))) ∧
                                                    (((K true w199) ∧
                                                        (K true w199)) ∧
                                                      (((K true w199) ∧
                                                          (K true w199)) ∧
                                                        ((K true w199) ∧
                                                          (K true w199))))))
                                                ((0 ≤ (1 : Int) ∧ (1 : Int) < (l18 : Nat)) ∧
                                                  AddrK a18 fun b201 =>
                                                  (0 ≤ (0 : Int) ∧ (0 : Int) < (l18 : Nat)) ∧
                                                  AddrK a18 fun b202 =>
                                                  (∃ (x203 : Int), w199.cell? (b201.add ((1 : Int).toNat * 1)) = some (.int .i64 x203) ∧
                                                    (Below w190.heap.size w190 w199 ∧
                                                      ((∃ (x204 : Int), w199.cell? (b202.add ((0 : Int).toNat * 1)) = some (.int .i64 x204) ∧
                                                          (Below w190.heap.size w190 w199 ∧
                                                            (∃ (a205 : Option Addr) (l205 : Nat) (c205 : Nat), w199.cell? (b6.add 2) = some (.slice a205 l205 c205) ∧
                                                              (Below w190.heap.size w190 w199 ∧
                                                              ((0 ≤ (1 : Int) ∧ (1 : Int) < (l205 : Nat)) ∧
                                                              AddrK a205 fun b206 =>
                                                              ∃ (x207 : Int), w199.cell? (b206.add ((1 : Int).toNat * 1)) = some (.int .i64 x207) ∧
                                                              (Below w190.heap.size w190 w199 ∧
                                                              (Calls Try.prog 78 #[(.int .i64 x203), (.int .i64 x204), (.int .i64 (IntKind.wrap .i64 (0 - x207)))] w199 fun e210 w209 =>
                                                              ∃ (p208 : Bool), e210 = .returned (.bool p208) ∧
                                                              (Below w190.heap.size w190 w209 ∧
                                                              (K p208 w209))))))))) ∧
                                                        (∃ (a211 : Option Addr) (l211 : Nat) (c211 : Nat), w199.cell? (b6.add 2) = some (.slice a211 l211 c211) ∧
                                                          (Below w190.heap.size w190 w199 ∧
                                                            ((0 ≤ (1 : Int) ∧ (1 : Int) < (l211 : Nat)) ∧
                                                              AddrK a211 fun b212 =>
                                                              (∃ (x213 : Int), w199.cell? (b202.add ((0 : Int).toNat * 1)) = some (.int .i64 x213) ∧
                                                              (Below w190.heap.size w190 w199 ∧
                                                              (∃ (x214 : Int), w199.cell? (b212.add ((1 : Int).toNat * 1)) = some (.int .i64 x214) ∧
                                                              (Below w190.heap.size w190 w199 ∧
                                                              (Calls Try.prog 78 #[(.int .i64 x203), (.int .i64 x213), (.int .i64 (IntKind.wrap .i64 (0 - x214)))] w199 fun e217 w216 =>
                                                              ∃ (p215 : Bool), e217 = .returned (.bool p215) ∧
                                                              (Below w190.heap.size w190 w216 ∧
                                                              (K p215 w216))))))) ∧
                                                              (∃ (x218 : Int), w199.cell? (b212.add ((1 : Int).toNat * 1)) = some (.int .i64 x218) ∧
                                                              (Below w190.heap.size w190 w199 ∧
                                                              (∃ (x219 : Int), w199.cell? (b202.add ((0 : Int).toNat * 1)) = some (.int .i64 x219) ∧
                                                              (Below w190.heap.size w190 w199 ∧
                                                              (Calls Try.prog 78 #[(.int .i64 x203), (.int .i64 x219), (.int .i64 (IntKind.wrap .i64 (0 - x218)))] w199 fun e222 w221 =>
                                                              ∃ (p220 : Bool), e222 = .returned (.bool p220) ∧
                                                              (Below w190.heap.size w190 w221 ∧
                                                              (K p220 w221))))))))))))) ∧
                                                  ((∃ (x223 : Int), w199.cell? (b202.add ((0 : Int).toNat * 1)) = some (.int .i64 x223) ∧
                                                      (Below w190.heap.size w190 w199 ∧
                                                        ((∃ (x224 : Int), w199.cell? (b201.add ((1 : Int).toNat * 1)) = some (.int .i64 x224) ∧
                                                            (Below w190.heap.size w190 w199 ∧
                                                              (∃ (a225 : Option Addr) (l225 : Nat) (c225 : Nat), w199.cell? (b6.add 2) = some (.slice a225 l225 c225) ∧
                                                              (Below w190.heap.size w190 w199 ∧
                                                              ((0 ≤ (1 : Int) ∧ (1 : Int) < (l225 : Nat)) ∧
                                                              AddrK a225 fun b226 =>
                                                              ∃ (x227 : Int), w199.cell? (b226.add ((1 : Int).toNat * 1)) = some (.int .i64 x227) ∧
                                                              (Below w190.heap.size w190 w199 ∧
                                                              (Calls Try.prog 78 #[(.int .i64 x224), (.int .i64 x223), (.int .i64 (IntKind.wrap .i64 (0 - x227)))] w199 fun e230 w229 =>
                                                              ∃ (p228 : Bool), e230 = .returned (.bool p228) ∧
                                                              (Below w190.heap.size w190 w229 ∧
                                                              (K p228 w229))))))))) ∧
                                                          (∃ (a231 : Option Addr) (l231 : Nat) (c231 : Nat), w199.cell? (b6.add 2) = some (.slice a231 l231 c231) ∧
                                                            (Below w190.heap.size w190 w199 ∧
                                                              ((0 ≤ (1 : Int) ∧ (1 : Int) < (l231 : Nat)) ∧
                                                              AddrK a231 fun b232 =>
                                                              (∃ (x233 : Int), w199.cell? (b201.add ((1 : Int).toNat * 1)) = some (.int .i64 x233) ∧
                                                              (Below w190.heap.size w190 w199 ∧
                                                              (∃ (x234 : Int), w199.cell? (b232.add ((1 : Int).toNat * 1)) = some (.int .i64 x234) ∧
                                                              (Below w190.heap.size w190 w199 ∧
                                                              (Calls Try.prog 78 #[(.int .i64 x233), (.int .i64 x223), (.int .i64 (IntKind.wrap .i64 (0 - x234)))] w199 fun e237 w236 =>
                                                              ∃ (p235 : Bool), e237 = .returned (.bool p235) ∧
                                                              (Below w190.heap.size w190 w236 ∧
                                                              (K p235 w236))))))) ∧
                                                              (∃ (x238 : Int), w199.cell? (b232.add ((1 : Int).toNat * 1)) = some (.int .i64 x238) ∧
                                                              (Below w190.heap.size w190 w199 ∧
                                                              (∃ (x239 : Int), w199.cell? (b201.add ((1 : Int).toNat * 1)) = some (.int .i64 x239) ∧
                                                              (Below w190.heap.size w190 w199 ∧
                                                              (Calls Try.prog 78 #[(.int .i64 x239), (.int .i64 x223), (.int .i64 (IntKind.wrap .i64 (0 - x238)))] w199 fun e242 w241 =>
                                                              ∃ (p240 : Bool), e242 = .returned (.bool p240) ∧
                                                              (Below w190.heap.size w190 w241 ∧
                                                              (K p240 w241))))))))))))) ∧
                                                    (∃ (a243 : Option Addr) (l243 : Nat) (c243 : Nat), w199.cell? (b6.add 2) = some (.slice a243 l243 c243) ∧
                                                      (Below w190.heap.size w190 w199 ∧
                                                        ((0 ≤ (1 : Int) ∧ (1 : Int) < (l243 : Nat)) ∧
                                                          AddrK a243 fun b244 =>
                                                          (∃ (x245 : Int), w199.cell? (b201.add ((1 : Int).toNat * 1)) = some (.int .i64 x245) ∧
                                                            (Below w190.heap.size w190 w199 ∧
                                                              ((∃ (x246 : Int), w199.cell? (b202.add ((0 : Int).toNat * 1)) = some (.int .i64 x246) ∧
                                                              (Below w190.heap.size w190 w199 ∧
                                                              (∃ (x247 : Int), w199.cell? (b244.add ((1 : Int).toNat * 1)) = some (.int .i64 x247) ∧
                                                              (Below w190.heap.size w190 w199 ∧
                                                              (Calls Try.prog 78 #[(.int .i64 x245), (.int .i64 x246), (.int .i64 (IntKind.wrap .i64 (0 - x247)))] w199 fun e250 w249 =>
                                                              ∃ (p248 : Bool), e250 = .returned (.bool p248) ∧
                                                              (Below w190.heap.size w190 w249 ∧
                                                              (K p248 w249))))))) ∧
                                                              (∃ (x251 : Int), w199.cell? (b244.add ((1 : Int).toNat * 1)) = some (.int .i64 x251) ∧
                                                              (Below w190.heap.size w190 w199 ∧
                                                              (∃ (x252 : Int), w199.cell? (b202.add ((0 : Int).toNat * 1)) = some (.int .i64 x252) ∧
                                                              (Below w190.heap.size w190 w199 ∧
                                                              (Calls Try.prog 78 #[(.int .i64 x245), (.int .i64 x252), (.int .i64 (IntKind.wrap .i64 (0 - x251)))] w199 fun e255 w254 =>
                                                              ∃ (p253 : Bool), e255 = .returned (.bool p253) ∧
                                                              (Below w190.heap.size w190 w254 ∧
                                                              (K p253 w254)))))))))) ∧
                                                          ((∃ (x256 : Int), w199.cell? (b202.add ((0 : Int).toNat * 1)) = some (.int .i64 x256) ∧
                                                              (Below w190.heap.size w190 w199 ∧
                                                              ((∃ (x257 : Int), w199.cell? (b201.add ((1 : Int).toNat * 1)) = some (.int .i64 x257) ∧
                                                              (Below w190.heap.size w190 w199 ∧
                                                              (∃ (x258 : Int), w199.cell? (b244.add ((1 : Int).toNat * 1)) = some (.int .i64 x258) ∧
                                                              (Below w190.heap.size w190 w199 ∧
                                                              (Calls Try.prog 78 #[(.int .i64 x257), (.int .i64 x256), (.int .i64 (IntKind.wrap .i64 (0 - x258)))] w199 fun e261 w260 =>
                                                              ∃ (p259 : Bool), e261 = .returned (.bool p259) ∧
                                                              (Below w190.heap.size w190 w260 ∧
                                                              (K p259 w260))))))) ∧
                                                              (∃ (x262 : Int), w199.cell? (b244.add ((1 : Int).toNat * 1)) = some (.int .i64 x262) ∧
                                                              (Below w190.heap.size w190 w199 ∧
                                                              (∃ (x263 : Int), w199.cell? (b201.add ((1 : Int).toNat * 1)) = some (.int .i64 x263) ∧
                                                              (Below w190.heap.size w190 w199 ∧
                                                              (Calls Try.prog 78 #[(.int .i64 x263), (.int .i64 x256), (.int .i64 (IntKind.wrap .i64 (0 - x262)))] w199 fun e266 w265 =>
                                                              ∃ (p264 : Bool), e266 = .returned (.bool p264) ∧
                                                              (Below w190.heap.size w190 w265 ∧
                                                              (K p264 w265)))))))))) ∧
                                                            (∃ (x267 : Int), w199.cell? (b244.add ((1 : Int).toNat * 1)) = some (.int .i64 x267) ∧
                                                              (Below w190.heap.size w190 w199 ∧
                                                              ((∃ (x268 : Int), w199.cell? (b201.add ((1 : Int).toNat * 1)) = some (.int .i64 x268) ∧
                                                              (Below w190.heap.size w190 w199 ∧
                                                              (∃ (x269 : Int), w199.cell? (b202.add ((0 : Int).toNat * 1)) = some (.int .i64 x269) ∧
                                                              (Below w190.heap.size w190 w199 ∧
                                                              (Calls Try.prog 78 #[(.int .i64 x268), (.int .i64 x269), (.int .i64 (IntKind.wrap .i64 (0 - x267)))] w199 fun e272 w271 =>
                                                              ∃ (p270 : Bool), e272 = .returned (.bool p270) ∧
                                                              (Below w190.heap.size w190 w271 ∧
                                                              (K p270 w271))))))) ∧
                                                              (∃ (x273 : Int), w199.cell? (b202.add ((0 : Int).toNat * 1)) = some (.int .i64 x273) ∧
                                                              (Below w190.heap.size w190 w199 ∧
                                                              (∃ (x274 : Int), w199.cell? (b201.add ((1 : Int).toNat * 1)) = some (.int .i64 x274) ∧
                                                              (Below w190.heap.size w190 w199 ∧
                                                              (Calls Try.prog 78 #[(.int .i64 x274), (.int .i64 x273), (.int .i64 (IntKind.wrap .i64 (0 - x267)))] w199 fun e277 w276 =>
                                                              ∃ (p275 : Bool), e277 = .returned (.bool p275) ∧
                                                              (Below w190.heap.size w190 w276 ∧
                                                              (K p275 w276)))))))))))))))))))))))))))))))))))))))
def ann46 : Ann := (.two .nil (.two (.two .nil (.two (.two .nil .nil) .nil)) (.two .nil (.two (.two .nil (.one (.loop [(5, (.one .slice)), (6, (.one (.int .i64)))] [1, 2] (.two (.two .nil (.two .nil .nil)) (.two (.one .nil) .nil))))) (.two (.two .nil (.one (.two .nil (.two (.two (.any 9 (.take 0 (.take 1 (.take 2 (.take 4 (.take 5 (.one 3 (.one 6 (.take 7 (.take 8 .done)))))))))) .nil) (.two .nil (.two (.two (.any 9 (.take 0 (.take 1 (.take 2 (.take 4 (.take 5 (.one 3 (.one 6 (.take 7 (.take 8 .done)))))))))) .nil) (.two .nil (.two (.two (.any 8 (.take 1 (.take 3 (.take 4 (.one 0 (.one 2 (.one 5 (.take 6 (.take 7 .done))))))))) .nil) (.two .nil (.two (.two (.two .nil (.one (.loop [(7, (.one (.int .i64)))] [5] (.two (.two .nil (.two .nil .nil)) (.two (.one (.two .nil (.one (.loop [(8, (.one (.int .i64)))] [5, 7] (.two (.two .nil (.two .nil .nil)) (.two (.one (.two (.any 9 (.take 0 (.take 1 (.take 2 (.take 3 (.take 4 (.take 5 (.take 6 (.take 7 (.take 8 .done)))))))))) (.two (.two .nil .nil) .nil))) .nil)))))) .nil))))) (.two .nil .nil)) (.two .nil (.two (.two (.any 11 (.take 0 (.take 1 (.take 2 (.take 3 (.take 4 (.take 5 (.take 6 (.take 7 (.take 8 (.one 9 (.take 10 .done)))))))))))) .nil) (.two .nil (.two (.two (.any 28 (.take 0 (.take 1 (.take 2 (.take 3 (.take 4 (.take 5 (.take 6 (.take 7 (.take 8 (.take 9 (.take 10 (.take 11 (.take 12 (.take 13 (.take 14 (.take 15 (.take 16 (.take 17 (.take 18 (.take 19 (.take 20 (.take 21 (.take 22 (.take 23 (.take 24 (.take 25 (.take 26 (.take 27 .done))))))))))))))))))))))))))))) .nil) (.two .nil (.two (.two (.any 12 (.take 0 (.take 1 (.take 2 (.take 3 (.take 4 (.take 5 (.take 6 (.take 7 (.take 8 (.take 9 (.take 10 (.take 11 .done))))))))))))) .nil) (.two .nil (.two (.two (.any 34 (.take 0 (.take 1 (.take 2 (.take 3 (.take 4 (.take 5 (.take 6 (.take 7 (.take 8 (.take 9 (.take 10 (.take 11 (.take 12 (.one 13 (.take 14 (.take 15 (.take 16 (.take 17 (.one 18 (.take 19 (.take 20 (.take 21 (.take 22 (.take 24 (.take 25 (.take 27 (.both 23 (.both 26 (.one 28 (.one 29 (.take 30 (.take 31 (.take 32 (.take 33 .done)))))) (.one 28 (.one 26 (.one 29 (.take 30 (.take 31 (.take 32 (.take 33 .done)))))))) (.both 26 (.both 23 (.one 28 (.one 29 (.take 30 (.take 31 (.take 32 (.take 33 .done)))))) (.one 28 (.one 23 (.one 29 (.take 30 (.take 31 (.take 32 (.take 33 .done)))))))) (.one 28 (.both 23 (.one 26 (.one 29 (.take 30 (.take 31 (.take 32 (.take 33 .done)))))) (.one 26 (.one 23 (.one 29 (.take 30 (.take 31 (.take 32 (.take 33 .done)))))))))))))))))))))))))))))))))))))) .nil) .nil)))))))))))))))))) (.two (.any 27 (.take 0 (.take 1 (.take 2 (.take 3 (.take 4 (.take 5 (.take 6 (.take 7 (.take 8 (.take 9 (.take 10 (.one 11 (.take 12 (.take 13 (.take 14 (.take 16 (.take 17 (.take 19 (.both 15 (.both 18 (.one 20 (.take 21 (.one 22 (.take 23 (.one 24 (.take 25 (.take 26 .done))))))) (.one 20 (.take 21 (.both 18 (.one 22 (.take 23 (.one 24 (.take 25 (.take 26 .done))))) (.one 22 (.take 23 (.one 18 (.one 24 (.take 25 (.take 26 .done)))))))))) (.both 18 (.both 15 (.one 20 (.take 21 (.one 22 (.take 23 (.one 24 (.take 25 (.take 26 .done))))))) (.one 20 (.take 21 (.both 15 (.one 22 (.take 23 (.one 24 (.take 25 (.take 26 .done))))) (.one 22 (.take 23 (.one 15 (.one 24 (.take 25 (.take 26 .done)))))))))) (.one 20 (.take 21 (.both 15 (.both 18 (.one 22 (.take 23 (.one 24 (.take 25 (.take 26 .done))))) (.one 22 (.take 23 (.one 18 (.one 24 (.take 25 (.take 26 .done))))))) (.both 18 (.both 15 (.one 22 (.take 23 (.one 24 (.take 25 (.take 26 .done))))) (.one 22 (.take 23 (.one 15 (.one 24 (.take 25 (.take 26 .done))))))) (.one 22 (.take 23 (.both 15 (.one 18 (.one 24 (.take 25 (.take 26 .done)))) (.one 18 (.one 15 (.one 24 (.take 25 (.take 26 .done))))))))))))))))))))))))))))))))) .nil))))))
noncomputable def code46 : Code := match Try.f46.body with | some c => c | none => .skip
theorem wp46 (s1 : ByteArray) (a2 : Option Addr) (l2 : Nat) (c2 : Nat) (a3 : Option Addr) (l3 : Nat) (c3 : Nat) (x4 : Int) (a5 : Option Addr) (l5 : Nat) (c5 : Nat) (K : Bool → World → Prop) (w : World) : WP Try.prog tab code46 ann46 (fnQ tab Try.f46.results.toList [(.one .bool)] K) (argE 0 [(.agg #[(.string s1), (.slice a2 l2 c2), (.slice a3 l3 c3), (.int .i64 x4)]), (.slice a5 l5 c5)]) w = N46 s1 a2 l2 c2 a3 l3 c3 x4 a5 l5 c5 K w := by kernel_rfl
theorem calls46 (s1 : ByteArray) (a2 : Option Addr) (l2 : Nat) (c2 : Nat) (a3 : Option Addr) (l3 : Nat) (c3 : Nat) (x4 : Int) (a5 : Option Addr) (l5 : Nat) (c5 : Nat) (K : Bool → World → Prop) (w : World) (h : N46 s1 a2 l2 c2 a3 l3 c3 x4 a5 l5 c5 K w) : Calls Try.prog 46 #[(.agg #[(.string s1), (.slice a2 l2 c2), (.slice a3 l3 c3), (.int .i64 x4)]), (.slice a5 l5 c5)] w fun en w' => ∃ (p278 : Bool), en = .returned (.bool p278) ∧ K p278 w' :=
  have e : (fun en w' => ExShs [(.one .bool)] fun vs => en = .returned (tupled vs) ∧ ap [(.one .bool)] K vs fun p => p w') = (fun (en : Ending) (w' : World) => ∃ (p278 : Bool), en = .returned (.bool p278) ∧ K p278 w') := by kernel_rfl
  e ▸ fn_sound tabOk mixed Try.func46 (by kernel_rfl : Try.f46.body = some code46) ann46 [(.agg #[(.string s1), (.slice a2 l2 c2), (.slice a3 l3 c3), (.int .i64 x4)]), (.slice a5 l5 c5)] [(.one .bool)] K w (by kernel_rfl) ((wp46 s1 a2 l2 c2 a3 l3 c3 x4 a5 l5 c5 K w).symm ▸ h)
end Go.Proofs.Ytggfnakhmjkoeaa

namespace Go.Proofs.Ytggfnakhmjkoeaa
open Go Go.V Go.Proofs
open Go.RowKit (Below)

set_option maxRecDepth 100000 in
theorem c46 (w : World) (s : ByteArray) (a2 : Option Addr) (l2 c2 : Nat) (a3 : Option Addr) (l3 c3 : Nat) (x4 : Int) (p : PropS) (h : PropAt w s a2 l2 a3 l3 x4 p)
    (a5 : Option Addr) (l5 c5 : Nat) (vs : List Int) (hvs : Ints w a5 l5 vs) (hvb : ∀ x ∈ vs, -9223372036854775808 ≤ x ∧ x ≤ 9223372036854775807) :
    Calls Try.prog 46 #[.agg #[.string s, .slice a2 l2 c2, .slice a3 l3 c3, .int .i64 x4], .slice a5 l5 c5] w fun en w' => ∃ r, en = .returned (.bool r) ∧ (r = holdsS p vs ∧ Ext w w') := by
  have hP := h
  obtain ⟨pk, pv, pc, pn⟩ := p
  obtain ⟨rfl, hv2, hc, hx4, hl2, hl3⟩ := h
  simp only at hv2 hc hl2 hl3 hx4
  subst hx4
  have hl5 : l5 = vs.length := hvs.1
  have hl2' : l2 = pv.length := hv2.1
  have hl3' : l3 = pc.length := hc.1
  refine calls46 _ _ _ _ _ _ _ _ _ _ _ _ w ?_
  refine AllocK.mk fun b w7 hb hblk hx7 => ?_
  have hcell := fun (w' : World) (k : Ext w7 w') => blk4 (hblk.ext k)
  have hc7 := hcell w7 (Ext.refl _)
  refine ⟨_, hc7.1, _, _, _, hc7.2.1, _, _, _, hc7.2.2.1, _, hc7.2.2.2, ?_⟩
  rw [hl5]
  refine (c17 w7 _ _ _ _ _ _ _ _ _ _ (hP.ext hx7)).mono ?_
  rintro en w13 ⟨q, rfl, rfl, hx13⟩
  have hB13 := hx7.trans hx13
  refine ⟨_, rfl, BoolK.mk (fun t => ?_) (fun t => ?_)⟩
  · simp at t; exact ⟨by rw [holdsS, t]; rfl, hB13⟩
  have hpr : propB ⟨pk, pv, pc, pn⟩ vs.length = true := by simpa using t
  have hS : holdsS ⟨pk, pv, pc, pn⟩ vs = holdsK (kdOf pk) pc pn (xsOf ⟨pk, pv, pc, pn⟩ vs) := by rw [holdsS, hpr, Bool.true_and]
  rw [hS]
  have hxlen : (xsOf ⟨pk, pv, pc, pn⟩ vs).length = pv.length := by simp [xsOf]
  have hxget : ∀ (i : Nat) (hi : i < pv.length), (xsOf ⟨pk, pv, pc, pn⟩ vs).getD i 0 = vs.getD pv[i].toNat 0 := fun i hi => by
    rw [getD_get (by rw [hxlen]; exact hi)]; simp [xsOf]
  have hvar : ∀ i (hi : i < pv.length), 0 ≤ pv[i] ∧ pv[i] < (vs.length : Int) := fun i hi => by
    simp only [propB, Bool.and_eq_true, List.all_eq_true] at hpr
    simpa using hpr.1.2 _ (List.getElem_mem hi)
  have hxb : ∀ y ∈ xsOf ⟨pk, pv, pc, pn⟩ vs, -9223372036854775808 ≤ y ∧ y ≤ 9223372036854775807 := fun y hy => by
    obtain ⟨i, hi, rfl⟩ := List.mem_iff_getElem.1 hy
    rw [hxlen] at hi
    have := hxget i hi
    rw [getD_get (by rw [hxlen]; exact hi)] at this
    rw [this]
    have hv := hvar i hi
    rw [getD_get (show pv[i].toNat < vs.length by omega)]
    exact hvb _ (List.getElem_mem _)
  have hk : kindB (kdOf pk) pv.length pc.length pc pn = true := by
    simp only [propB, Bool.and_eq_true] at hpr; exact hpr.2
  generalize xsOf ⟨pk, pv, pc, pn⟩ vs = xs at hxlen hxget hxb ⊢
  have hv40 : pv.length ≤ 40 := by
    revert hk; cases kdOf pk <;> simp [kindB] <;> omega
  have hv1 : 1 ≤ pv.length := by
    revert hk; cases kdOf pk <;> simp [kindB] <;> omega
  refine ⟨fun a l c i w' => ∃ k : Nat, i = k ∧ k ≤ pv.length ∧ OwnR w13.heap.size 3 1 eI w' a l c (xs.take k) ∧ Ext w13 w', fun _ _ _ i _ => pv.length - i.toNat,
    ⟨⟨0, rfl, by omega, OwnR.nil _ _ _ _ _, Ext.refl _⟩, trivial⟩, ?_⟩
  rintro w21 a18 l18 c18 _ ⟨k, rfl, hkl, ho, hx21⟩
  have hB21 := hB13.trans hx21
  have h21 := hx13.trans hx21
  have hc21 := hcell w21 h21
  refine ⟨_, _, _, hc21.2.1, BoolK.mk (fun hlt => ⟨_, _, _, hc21.2.1, ?_⟩) (fun hge => ?_)⟩
  · have hlt : k < pv.length := by simp at hlt; omega
    obtain ⟨b1, o1, rfl, g1⟩ := intAt hv2 w21 hB21 hlt
    have hvk := hvar k hlt
    obtain ⟨b2, o2, rfl, g2⟩ := intAt hvs w21 hB21 (i := pv[k].toNat) (by omega)
    refine ⟨by omega, ?_⟩
    simp only [AddrK, Int.toNat_natCast, add_mk, Nat.mul_one]
    refine ⟨_, g1, by omega, _, g2, ?_⟩
    refine OwnR.push (vs[pv[k].toNat]'(by omega)) slt22 ho hx21.size eI_len eI_one (by rw [List.length_take]; omega) rfl fun a' c' w' ho' hg _ => ?_
    rw [wrap_succ (by omega)]
    refine ⟨⟨k + 1, rfl, by omega, ?_, Below.trans hx21 (ho.below hx21.size hg)⟩, by simp; omega⟩
    have htk : xs.take (k + 1) = xs.take k ++ [vs[pv[k].toNat]'(by omega)] := by
      rw [List.take_add_one, List.getElem?_eq_getElem (by omega)]
      have := hxget k hlt
      rw [getD_get (show k < xs.length by omega), getD_get (show pv[k].toNat < vs.length by omega)] at this
      rw [this]; rfl
    rw [htk]
    have hlen : (xs.take k).length + 1 = (xs.take k ++ [vs[pv[k].toNat]'(by omega)]).length := by simp
    exact ho'
  have : k = pv.length := by simp at hge; omega
  subst this
  rw [show xs.take pv.length = xs from List.take_of_length_le (by omega)] at ho
  have hI := ho.ints
  have hl18 : l18 = xs.length := ho.1
  obtain ⟨g18, rfl, hg18, _⟩ := ho.cellAt eI_len (i := 0) (List.getElem?_eq_getElem (by omega))
  have X : ∀ (i : Nat) (_ : i < pv.length) (w' : World), Ext w21 w' → w'.cell? ⟨g18, i, none⟩ = some (.int .i64 (xs.getD i 0)) := fun i hi w' hw => by
    obtain ⟨b', o', hb', g⟩ := intAt hI w' hw (i := i) (by omega)
    simp at hb'; obtain ⟨rfl, rfl⟩ := hb'
    rw [getD_get (show i < xs.length by omega)]; simpa using g
  have XA : ∀ (i : Nat) (_ : i < pv.length) (w' : World), Ext w21 w' → w'.cell? ((⟨g18, 0, none⟩ : Addr).add i) = some (.int .i64 (xs.getD i 0)) := fun i hi w' hw => by rw [add_mk, Nat.zero_add]; exact X i hi w' hw
  have X0 : 0 < pv.length → ∀ w', Ext w21 w' → w'.cell? ((⟨g18, 0, none⟩ : Addr).add ((0 : Int).toNat * 1)) = some (.int .i64 (xs.getD 0 0)) := fun hi w' hw => by rw [add_mk]; exact X 0 hi w' hw
  have X1 : 1 < pv.length → ∀ w', Ext w21 w' → w'.cell? ((⟨g18, 0, none⟩ : Addr).add ((1 : Int).toNat * 1)) = some (.int .i64 (xs.getD 1 0)) := fun hi w' hw => by rw [add_mk]; exact X 1 hi w' hw
  have X2 : 2 < pv.length → ∀ w', Ext w21 w' → w'.cell? ((⟨g18, 0, none⟩ : Addr).add ((2 : Int).toNat * 1)) = some (.int .i64 (xs.getD 2 0)) := fun hi w' hw => by rw [add_mk]; exact X 2 hi w' hw
  have XB : ∀ i, i < pv.length → -9223372036854775808 ≤ xs.getD i 0 ∧ xs.getD i 0 ≤ 9223372036854775807 := fun i hi => by
    rw [getD_get (show i < xs.length by omega)]; exact hxb _ (List.getElem_mem _)
  have Ks : ∀ w', Ext w21 w' → w'.cell? ⟨b, 0, none⟩ = some (.string pk) := fun w' hw => by have := (hcell w' (h21.trans hw)).1; rwa [add_mk0] at this
  have Cc := fun (w' : World) (hw : Ext w21 w') => (hcell w' (h21.trans hw)).2.2.1
  have Nn := fun (w' : World) (hw : Ext w21 w') => (hcell w' (h21.trans hw)).2.2.2
  obtain ⟨k0, k1, k2, k3, k4, k5, k6, k7, k8⟩ := kd_all pk
  have k0' : (pk.toList == (⟨#[115, 117, 109]⟩ : ByteArray).toList) = _ := k0
  have k1' : (pk.toList == (⟨#[109, 111, 115, 116]⟩ : ByteArray).toList) = _ := k1
  have k2' : (pk.toList == (⟨#[117, 110, 108, 105, 107, 101]⟩ : ByteArray).toList) = _ := k2
  have k3' : (pk.toList == (⟨#[100, 105, 115, 116, 105, 110, 99, 116]⟩ : ByteArray).toList) = _ := k3
  have k4' : (pk.toList == (⟨#[112, 114, 111, 100, 117, 99, 116]⟩ : ByteArray).toList) = _ := k4
  have k5' : (pk.toList == (⟨#[109, 97, 120]⟩ : ByteArray).toList) = _ := k5
  have k6' : (pk.toList == (⟨#[101, 108, 101, 109, 101, 110, 116]⟩ : ByteArray).toList) = _ := k6
  have k7' : (pk.toList == (⟨#[114, 101, 105, 102, 121]⟩ : ByteArray).toList) = _ := k7
  refine ⟨_, Ks _ (Ext.refl _), ?_⟩
  rw [k0', k1', k2', k3', k4', k5', k6', k7']
  clear k0 k1 k2 k3 k4 k5 k6 k7 k8 k0' k2' k3' k4' k5' k6' k7'
  have r30 := Ext.refl w21
  have le1 : ∀ a b : Int, cmpI a b ≤ 0 ↔ a ≤ b := fun a b => by
    rw [cmpI]; split
    · omega
    split <;> omega
  have eq1 : ∀ a b : Int, cmpI a b = 0 ↔ a = b := fun a b => by
    rw [cmpI]; split
    · omega
    split <;> omega
  -- sum
  refine BoolK.mk (fun q => ?_) (fun q0 => ?_)
  · have e := of_decide_eq_true q
    rw [e] at hk ⊢
    simp only [kindB, Bool.and_eq_true, decide_eq_true_eq] at hk
    have hcb : ∀ y ∈ pc, -1000000 ≤ y ∧ y ≤ 1000000 := fun y hy => of_decide_eq_true (List.all_eq_true.1 hk.1.2 y hy)
    have hnb : -1000000 ≤ pn ∧ pn ≤ 1000000 := of_decide_eq_true hk.2
    refine DrewK.mk fun w31 hx31 => ⟨_, _, _, Cc _ hx31, _, Nn _ hx31, ?_⟩
    refine (c76 w31 _ _ _ _ _ _ pc xs (hc.ext RInt.mono (hB21.trans hx31)) (hI.ext RInt.mono hx31) (by omega) (by omega) hcb hxb).mono ?_
    rintro en w36 ⟨h, l, rfl, hW, hx36⟩
    refine ⟨_, _, rfl, hx36, (c75 w36 _ _ _ _ hW (by omega)).mono ?_⟩
    rintro en w39 ⟨x, rfl, rfl, hx39⟩
    refine ⟨_, rfl, hx36.trans hx39, ?_, hB21.trans (hx31.trans (hx36.trans hx39))⟩
    simp only [holdsK]
    rw [Bool.eq_iff_iff, beq_iff_eq, decide_eq_true_eq]; exact eq1 _ _
  -- most
  refine BoolK.mk (fun q => ?_) (fun q1 => ?_)
  · have e := of_decide_eq_true q
    rw [e] at hk ⊢
    simp only [kindB, Bool.and_eq_true, decide_eq_true_eq] at hk
    have hcb : ∀ y ∈ pc, -1000000 ≤ y ∧ y ≤ 1000000 := fun y hy => of_decide_eq_true (List.all_eq_true.1 hk.1.2 y hy)
    have hnb : -1000000 ≤ pn ∧ pn ≤ 1000000 := of_decide_eq_true hk.2
    refine DrewK.mk fun w31 hx31 => ⟨_, _, _, Cc _ hx31, _, Nn _ hx31, ?_⟩
    refine (c76 w31 _ _ _ _ _ _ pc xs (hc.ext RInt.mono (hB21.trans hx31)) (hI.ext RInt.mono hx31) (by omega) (by omega) hcb hxb).mono ?_
    rintro en w36 ⟨h, l, rfl, hW, hx36⟩
    refine ⟨_, _, rfl, hx36, (c75 w36 _ _ _ _ hW (by omega)).mono ?_⟩
    rintro en w39 ⟨x, rfl, rfl, hx39⟩
    refine ⟨_, rfl, hx36.trans hx39, ?_, hB21.trans (hx31.trans (hx36.trans hx39))⟩
    simp only [holdsK]
    rw [decide_eq_decide]; exact le1 _ _
  -- unlike
  refine BoolK.mk (fun q => ?_) (fun q2 => ?_)
  · have e := of_decide_eq_true q
    rw [e] at hk ⊢
    simp only [kindB, Bool.and_eq_true, decide_eq_true_eq] at hk
    have hnr : -1000000 ≤ pn ∧ pn ≤ 1000000 := of_decide_eq_true hk.2
    refine DrewK.mk fun w51 hx51 => ⟨_, Nn _ hx51, AllocK.mk fun b53 w54 _ hbk54 hx54 => ⟨hx54, ?_⟩⟩
    refine (c76 w54 _ 2 2 _ _ _ [-1, 1] xs (ints2_lit hbk54) (hI.ext RInt.mono (hx51.trans hx54)) (by simp; omega) (by omega) (by simp) hxb).mono ?_
    rintro en w57 ⟨h, l, rfl, hW, hx57⟩
    refine ⟨_, _, rfl, hx54.trans hx57, (c75 w57 _ _ _ _ hW (by omega)).mono ?_⟩
    rintro en w60 ⟨x, rfl, rfl, hx60⟩
    refine ⟨_, rfl, hx54.trans (hx57.trans hx60), ?_, hB21.trans (hx51.trans (hx54.trans (hx57.trans hx60)))⟩
    simp only [holdsK]
    have hd : dotS [-1, 1] xs xs.length = -1 * xs.getD 0 0 + 1 * xs.getD 1 0 := by rw [show xs.length = 2 by omega]; simp [dotS]
    rw [hd, Bool.eq_iff_iff, Bool.not_eq_true', decide_eq_false_iff_not, bne_iff_ne, ne_eq, eq1]; omega
  -- distinct
  refine BoolK.mk (fun q => ?_) (fun q3 => ?_)
  · have e := of_decide_eq_true q
    rw [e] at hk ⊢
    simp only [holdsK]
    refine ⟨fun i w' => ∃ k : Nat, i = k ∧ k ≤ pv.length ∧ distB xs k = true ∧ Ext w21 w', fun i _ => pv.length - i.toNat, ⟨⟨0, rfl, by omega, rfl, r30⟩, trivial⟩, ?_⟩
    rintro w76 _ ⟨k, rfl, hkl, hd, hx76⟩
    refine BoolK.mk (fun hlt => ?_) (fun hge => ?_)
    · have hlt : k < pv.length := by simp at hlt; omega
      refine ⟨fun i w' => ∃ j : Nat, i = j ∧ j ≤ k ∧ (List.range j).all (fun j => !(xs.getD k 0 == xs.getD j 0)) = true ∧ Ext w76 w', fun i _ => k - i.toNat, ⟨⟨0, rfl, by omega, rfl, Ext.refl _⟩, trivial⟩, ?_⟩
      rintro w80 _ ⟨j, rfl, hj, hd2, hx80⟩
      refine BoolK.mk (fun hlt2 => ?_) (fun hge2 => ?_)
      · have hlt2 : j < k := by simp at hlt2; omega
        refine DrewK.mk fun w82 hx82 => ?_
        have hx' := hx76.trans (hx80.trans hx82)
        simp only [Int.toNat_natCast, Nat.mul_one]
        refine ⟨by omega, _, XA k hlt _ hx', by omega, _, XA j (by omega) _ hx', BoolK.mk (fun t => ?_) (fun t => ?_)⟩
        · refine ⟨?_, hB21.trans hx'⟩
          symm
          refine range_all_false (f := fun i => (List.range i).all fun j => !(xs.getD i 0 == xs.getD j 0)) (k := k) (by omega) ?_
          exact range_all_false (f := fun j => !(xs.getD k 0 == xs.getD j 0)) hlt2 (by rw [t]; rfl)
        · rw [wrap_succ (by omega)]
          exact ⟨⟨j + 1, rfl, by omega, by rw [range_all_succ, hd2, t]; rfl, hx80.trans hx82⟩, by simp; omega⟩
      · have : j = k := by simp at hge2; omega
        subst this
        rw [wrap_succ (by omega)]
        refine ⟨⟨j + 1, rfl, by omega, ?_, hx76.trans hx80⟩, by simp; omega⟩
        rw [distB, range_all_succ]
        rw [distB] at hd
        rw [hd, hd2]; rfl
    · have : k = pv.length := by simp at hge; omega
      subst this
      rw [hxlen]
      exact ⟨hd.symm, hB21.trans hx76⟩
  -- product
  refine BoolK.mk (fun q => ?_) (fun q4 => ?_)
  · have e := of_decide_eq_true q
    rw [e] at hk ⊢
    simp only [kindB, Bool.and_eq_true, decide_eq_true_eq] at hk
    refine DrewK.mk fun w85 hx85 => ⟨by omega, _, X0 (by omega) _ hx85, by omega, _, X1 (by omega) _ hx85, by omega, _, X2 (by omega) _ hx85, ?_⟩
    refine (c77 w85 _ _ _ (XB 0 (by omega)) (XB 1 (by omega)) (XB 2 (by omega))).mono ?_
    rintro en w91 ⟨q, rfl, rfl, hx91⟩
    exact ⟨_, rfl, hx91, rfl, hB21.trans (hx85.trans hx91)⟩
  -- element
  refine BoolK.mk (fun q => ?_) (fun q5 => ?_)
  · have e := of_decide_eq_true q
    rw [e] at hk ⊢
    simp only [kindB, Bool.and_eq_true, decide_eq_true_eq] at hk
    simp only [holdsK]
    refine DrewK.mk fun w97 hx97 => ⟨by omega, _, X0 (by omega) _ hx97, BoolK.mk (fun t => ⟨by omega, _, X0 (by omega) _ hx97, _, _, _, Cc _ hx97, BoolK.mk (fun t2 => ⟨_, _, _, Cc _ hx97, by omega, _, X0 (by omega) _ hx97, ?_⟩) (fun t2 => ?_)⟩) (fun t => ?_)⟩
    · have t : 1 ≤ xs.getD 0 0 := by simpa using t
      have t2 : xs.getD 0 0 ≤ pc.length := by rw [← hl3']; simpa using t2
      rw [wrap_id (by omega) (by omega)]
      obtain ⟨b1, o1, rfl, g1⟩ := intAt hc w97 (hB21.trans hx97) (i := (xs.getD 0 0 - 1).toNat) (by omega)
      refine ⟨by omega, ?_⟩
      simp only [AddrK]
      rw [add_mk, Nat.mul_one]
      refine ⟨_, g1, by omega, _, X1 (by omega) _ hx97, ?_, hB21.trans hx97⟩
      rw [decide_eq_true t, decide_eq_true t2, Bool.true_and, Bool.true_and, getD_get (show (xs.getD 0 0 - 1).toNat < pc.length by omega)]
      rfl
    · have t2 : ¬ xs.getD 0 0 ≤ pc.length := by rw [← hl3']; simpa using t2
      exact ⟨by rw [decide_eq_false t2, Bool.false_and, Bool.and_false], hB21.trans hx97⟩
    · have t : ¬ 1 ≤ xs.getD 0 0 := by simpa using t
      exact ⟨by rw [decide_eq_false t, Bool.false_and], hB21.trans hx97⟩
  -- max
  refine BoolK.mk (fun q => ?_) (fun q6 => ?_)
  · have e := of_decide_eq_true q
    rw [e] at hk ⊢
    simp only [kindB, Bool.and_eq_true, decide_eq_true_eq] at hk
    simp only [holdsK]
    exact DrewK.mk fun w97 hx97 => ⟨by omega, _, X2 (by omega) _ hx97, by omega, _, X0 (by omega) _ hx97, by omega, _, X1 (by omega) _ hx97, rfl, hB21.trans hx97⟩
  -- reify
  have A0 : 0 ≤ (0 : Int) ∧ (0 : Int) < ((l18 : Nat) : Int) := by omega
  have Y0 := X0 (by omega)
  refine BoolK.mk (fun q => ?_) (fun q7 => ?_)
  · have e := of_decide_eq_true q
    rw [e] at hk ⊢
    simp only [kindB, Bool.and_eq_true, decide_eq_true_eq] at hk
    have hnr : -1000000 ≤ pn ∧ pn ≤ 1000000 := of_decide_eq_true hk.2
    simp only [holdsK]
    have A1 : 0 ≤ (1 : Int) ∧ (1 : Int) < ((l18 : Nat) : Int) := by omega
    have A2 : 0 ≤ (2 : Int) ∧ (2 : Int) < ((l18 : Nat) : Int) := by omega
    have Y1 := X1 (by omega); have Y2 := X2 (by omega)
    clear X0 X1 X2 hcell hblk
    refine DrewK.mk fun w105 hx105 => ⟨A0, _, Y0 _ hx105, ?_⟩
    have L : ∀ w', Ext w105 w' → xs.getD 0 0 = 0 → Calls Try.prog 78 #[.int .i64 (xs.getD 1 0), .int .i64 (xs.getD 2 0), .int .i64 pn] w' fun en w'' => ∃ q, en = .returned (.bool q) ∧ (Below w105.heap.size w105 w'' ∧ ((!q) = decide (xs.getD 0 0 = if xs.getD 1 0 ≤ xs.getD 2 0 + pn then 1 else 0) ∧ Ext w w'')) := fun w' hw h0 => by
      refine (c78 w' _ _ _ (XB 1 (by omega)) (XB 2 (by omega)) (by omega)).mono ?_
      rintro en w'' ⟨x, rfl, rfl, hx''⟩
      refine ⟨_, rfl, hw.trans hx'', ?_, hB21.trans (hx105.trans (hw.trans hx''))⟩
      rw [h0, Bool.eq_iff_iff, Bool.not_eq_true', decide_eq_false_iff_not, decide_eq_true_eq]
      split <;> omega
    refine BoolK.mk (fun t => ?_) (fun t => ?_)
    · have t : xs.getD 0 0 = 1 := by simpa using t
      refine ⟨A1, _, Y1 _ hx105, A2, _, Y2 _ hx105, _, Nn _ hx105, (c78 w105 _ _ _ (XB 1 (by omega)) (XB 2 (by omega)) (by omega)).mono ?_⟩
      rintro en w114 ⟨x, rfl, rfl, hx114⟩
      have hx' := hx105.trans hx114
      refine ⟨_, rfl, hx114, BoolK.mk (fun t2 => ?_) (fun t2 => ?_)⟩
      · have t2 := of_decide_eq_true t2
        have kT : (true = decide (xs.getD 0 0 = if xs.getD 1 0 ≤ xs.getD 2 0 + pn then 1 else 0)) ∧ Ext w w114 := ⟨by rw [if_pos t2, t]; rfl, hB21.trans hx'⟩
        repeat' first | exact kT | apply And.intro
      · have t2 := of_decide_eq_false t2
        refine ⟨A0, _, Y0 _ hx', hx114, BoolK.mk (fun t3 => ?_) (fun t3 => ?_)⟩
        · have : xs.getD 0 0 = 0 := by simpa using t3
          omega
        · have kF : (false = decide (xs.getD 0 0 = if xs.getD 1 0 ≤ xs.getD 2 0 + pn then 1 else 0)) ∧ Ext w w114 := ⟨by rw [if_neg t2, t]; rfl, hB21.trans hx'⟩
          repeat' first | exact kF | apply And.intro
    · have t : xs.getD 0 0 ≠ 1 := by simpa using t
      refine ⟨A0, _, Y0 _ hx105, Ext.refl _, BoolK.mk (fun t3 => ?_) (fun t3 => ?_)⟩
      · have t3 : xs.getD 0 0 = 0 := by simpa using t3
        have LL := L w105 (Ext.refl _) t3
        have y1 := Y1 _ hx105; have y2 := Y2 _ hx105; have nn := Nn _ hx105
        have r105 := Ext.refl w105
        repeat' first
          | exact LL
          | exact A1
          | exact A2
          | exact r105
          | refine ⟨_, y1, ?_⟩
          | refine ⟨_, y2, ?_⟩
          | refine ⟨_, nn, ?_⟩
          | apply And.intro
      · have t3 : xs.getD 0 0 ≠ 0 := by simpa using t3
        have kF : (false = decide (xs.getD 0 0 = if xs.getD 1 0 ≤ xs.getD 2 0 + pn then 1 else 0)) ∧ Ext w w105 := ⟨by symm; rw [decide_eq_false_iff_not]; split <;> omega, hB21.trans hx105⟩
        repeat' first | exact kF | apply And.intro
  -- apart
  have e : kdOf pk = .apart := by
    simp at q0 q1 q2 q3 q4 q5 q6 q7
    cases hh : kdOf pk <;> simp_all [kindB]
  rw [e] at hk ⊢
  simp only [kindB, Bool.and_eq_true, decide_eq_true_eq] at hk
  simp only [holdsK]
  obtain ⟨e0, e1, rfl⟩ : ∃ x y, pc = [x, y] := by
    match pc, hk.1.2 with
    | [x, y], _ => exact ⟨x, y, rfl⟩
    | [], h1 => simp at h1
    | [_], h1 => simp at h1
    | _ :: _ :: _ :: _, h1 => simp at h1
  have hcc : (0 ≤ e0 ∧ e0 ≤ 1000000) ∧ (0 ≤ e1 ∧ e1 ≤ 1000000) := by simpa using hk.2
  obtain ⟨bc, oc, rfl, _⟩ := intAt hc w (Ext.refl w) (i := 0) (by simp)
  have C0 : ∀ w', Ext w21 w' → w'.cell? ((⟨bc, oc, none⟩ : Addr).add ((0 : Int).toNat * 1)) = some (.int .i64 e0) := fun w' hw => by
    obtain ⟨b', o', hb', g⟩ := intAt hc w' (hB21.trans hw) (i := 0) (by simp)
    simp at hb'; obtain ⟨rfl, rfl⟩ := hb'
    rw [add_mk]; exact g
  have C1 : ∀ w', Ext w21 w' → w'.cell? ((⟨bc, oc, none⟩ : Addr).add ((1 : Int).toNat * 1)) = some (.int .i64 e1) := fun w' hw => by
    obtain ⟨b', o', hb', g⟩ := intAt hc w' (hB21.trans hw) (i := 1) (by simp)
    simp at hb'; obtain ⟨rfl, rfl⟩ := hb'
    rw [add_mk]; exact g
  have l3two : l3 = 2 := hl3'
  subst l3two
  have Y1 := X1 (by omega)
  have A1 : 0 ≤ (1 : Int) ∧ (1 : Int) < ((l18 : Nat) : Int) := by omega
  have B0 : 0 ≤ (0 : Int) ∧ (0 : Int) < ((2 : Nat) : Int) := by omega
  have B1 : 0 ≤ (1 : Int) ∧ (1 : Int) < ((2 : Nat) : Int) := by omega
  clear X0 X1 X2 hcell hblk
  refine DrewK.mk fun w119 hx119 => ⟨A0, _, Y0 _ hx119, A1, _, Y1 _ hx119, _, _, _, Cc _ hx119, B0, _, C0 _ hx119, ?_⟩
  have wn0 : IntKind.wrap .i64 (0 - e0) = -e0 := by rw [wrap_id] <;> omega
  have wn1 : IntKind.wrap .i64 (0 - e1) = -e1 := by rw [wrap_id] <;> omega
  simp only [wn0]
  refine (c78 w119 _ _ _ (XB 0 (by omega)) (XB 1 (by omega)) (by omega)).mono ?_
  rintro en w126 ⟨x, rfl, rfl, hx126⟩
  have hx' := hx119.trans hx126
  refine ⟨_, rfl, hx126, ?_⟩
  refine BoolK.mk (fun t => ?_) (fun t => ?_)
  · have t := of_decide_eq_true t
    have kT : (true = (decide (xs.getD 0 0 + [e0, e1].getD 0 0 ≤ xs.getD 1 0) || decide (xs.getD 1 0 + [e0, e1].getD 1 0 ≤ xs.getD 0 0)) ∧ Ext w w126) := ⟨by rw [show ([e0, e1] : List Int).getD 0 0 = e0 from rfl, decide_eq_true (by omega)]; rfl, hB21.trans hx'⟩
    repeat' first | exact kT | apply And.intro
  · have t := of_decide_eq_false t
    have LL : Calls Try.prog 78 #[.int .i64 (xs.getD 1 0), .int .i64 (xs.getD 0 0), .int .i64 (IntKind.wrap .i64 (0 - e1))] w126 fun en w'' => ∃ q, en = .returned (.bool q) ∧ (Below w119.heap.size w119 w'' ∧ (q = (decide (xs.getD 0 0 + [e0, e1].getD 0 0 ≤ xs.getD 1 0) || decide (xs.getD 1 0 + [e0, e1].getD 1 0 ≤ xs.getD 0 0)) ∧ Ext w w'')) := by
      rw [wn1]
      refine (c78 w126 _ _ _ (XB 1 (by omega)) (XB 0 (by omega)) (by omega)).mono ?_
      rintro en w'' ⟨x, rfl, rfl, hx''⟩
      refine ⟨_, rfl, hx126.trans hx'', ?_, hB21.trans (hx119.trans (hx126.trans hx''))⟩
      rw [show ([e0, e1] : List Int).getD 0 0 = e0 from rfl, show ([e0, e1] : List Int).getD 1 0 = e1 from rfl, decide_eq_false (p := xs.getD 0 0 + e0 ≤ xs.getD 1 0) (by omega), Bool.false_or, decide_eq_decide]
      omega
    have y0 := Y0 _ hx'; have y1 := Y1 _ hx'; have cc := Cc _ hx'; have q1 := C1 _ hx'
    repeat' first
      | exact LL
      | exact A0
      | exact A1
      | exact B1
      | exact hx126
      | refine ⟨_, y0, ?_⟩
      | refine ⟨_, y1, ?_⟩
      | refine ⟨_, q1, ?_⟩
      | refine ⟨_, _, _, cc, ?_⟩
      | apply And.intro
end Go.Proofs.Ytggfnakhmjkoeaa

namespace Go.Proofs.Ytggfnakhmjkoeaa
open Go Go.V Go.Proofs
open Go.RowKit (Below)
/-! manystrand/domain.all -/
def N79 (s1 : ByteArray) (a2 : Option Addr) (l2 : Nat) (c2 : Nat) (a3 : Option Addr) (l3 : Nat) (c3 : Nat) (x4 : Int) (a5 : Option Addr) (l5 : Nat) (c5 : Nat) (a6 : Option Addr) (l6 : Nat) (c6 : Nat) (a7 : Option Addr) (l7 : Nat) (c7 : Nat) (K : Bool → World → Prop) (w : World) : Prop :=
  AllocK w (#[(.string s1), (.slice a2 l2 c2), (.slice a3 l3 c3), (.int .i64 x4)]) 24 fun b8 w9 =>
  BoolK (((l6 : Nat) : Int) == 0)
  (∃ (s10 : ByteArray), w9.cell? (b8.add 0) = some (.string s10) ∧
    (∃ (a11 : Option Addr) (l11 : Nat) (c11 : Nat), w9.cell? (b8.add 1) = some (.slice a11 l11 c11) ∧
      (∃ (a12 : Option Addr) (l12 : Nat) (c12 : Nat), w9.cell? (b8.add 2) = some (.slice a12 l12 c12) ∧
        (∃ (x13 : Int), w9.cell? (b8.add 3) = some (.int .i64 x13) ∧
          (Calls Try.prog 45 #[(.agg #[(.string s10), (.slice a11 l11 c11), (.slice a12 l12 c12), (.int .i64 x13)]), (.slice a7 l7 c7)] w9 fun e16 w15 =>
            ∃ (p14 : Bool), e16 = .returned (.bool p14) ∧
            (K p14 w15))))))
  ((0 ≤ (0 : Int) ∧ (0 : Int) < (l6 : Nat)) ∧
    AddrK a6 fun b17 =>
    ∃ (x18 : Int), w9.cell? (b17.add ((0 : Int).toNat * 1)) = some (.int .i64 x18) ∧
    ((0 ≤ (x18 : Int) ∧ (x18 : Int) < (l5 : Nat)) ∧
      AddrK a5 fun b19 =>
      ∃ (a20 : Option Addr) (l20 : Nat) (c20 : Nat), w9.cell? (b19.add ((x18 : Int).toNat * 1)) = some (.slice a20 l20 c20) ∧
      (Calls Try.prog 35 #[(.slice a20 l20 c20)] w9 fun e23 w22 =>
        ∃ (a21 : Option Addr), ∃ (l21 : Nat), ∃ (c21 : Nat), e23 = .returned (.slice a21 l21 c21) ∧
        (∃ (I24 : Int → World → Prop) (μ25 : Int → World → Nat),
          (I24 0 w22 ∧ True) ∧
          ∀ (w26 : World) (x27 : Int), I24 x27 w26 →
          BoolK (decide ((x27 : Int) < (l21 : Nat)))
          ((0 ≤ (x27 : Int) ∧ (x27 : Int) < (l21 : Nat)) ∧
            AddrK a21 fun b28 =>
            ∃ (x29 : Int), w26.cell? (b28.add ((x27 : Int).toNat * 1)) = some (.int .i64 x29) ∧
            ((0 ≤ (0 : Int) ∧ (0 : Int) < (l6 : Nat)) ∧
              AddrK a6 fun b30 =>
              ∃ (x31 : Int), w26.cell? (b30.add ((0 : Int).toNat * 1)) = some (.int .i64 x31) ∧
              ((0 ≤ (x31 : Int) ∧ (x31 : Int) < (l7 : Nat)) ∧
                AddrK a7 fun b32 =>
                SetK w26 (b32.add ((x31 : Int).toNat * 1)) (.int .i64 x29) fun w33 =>
                DrewK w33 fun w34 =>
                ∃ (s35 : ByteArray), w34.cell? (b8.add 0) = some (.string s35) ∧
                (∃ (a36 : Option Addr) (l36 : Nat) (c36 : Nat), w34.cell? (b8.add 1) = some (.slice a36 l36 c36) ∧
                  (∃ (a37 : Option Addr) (l37 : Nat) (c37 : Nat), w34.cell? (b8.add 2) = some (.slice a37 l37 c37) ∧
                    (∃ (x38 : Int), w34.cell? (b8.add 3) = some (.int .i64 x38) ∧
                      (0 ≤ (1 : Int) ∧
                        (((1 : Int).toNat ≤ l6 ∧ l6 ≤ c6) ∧
                          (Calls Try.prog 79 #[(.agg #[(.string s35), (.slice a36 l36 c36), (.slice a37 l37 c37), (.int .i64 x38)]), (.slice a5 l5 c5), (.slice (if c6 = (1 : Int).toNat then a6 else (a6).map (·.add ((1 : Int).toNat * 1))) (l6 - (1 : Int).toNat) (c6 - (1 : Int).toNat)), (.slice a7 l7 c7)] w34 fun e41 w40 =>
                            ∃ (p39 : Bool), e41 = .returned (.bool p39) ∧
                            (BoolK (!p39)
                              (K false w40)
                              (I24 (IntKind.wrap .i64 (x27 + 1)) w40 ∧ μ25 (IntKind.wrap .i64 (x27 + 1)) w40 < μ25 x27 w26)))))))))))
          (K true w26)))))
def ann79 : Ann := (.two .nil (.two (.two .nil (.two (.two .nil .nil) .nil)) (.two (.two .nil (.one (.loop [(25, (.one (.int .i64)))] [1, 2, 3, 4, 23, 24] (.two .nil (.two (.two .nil .nil) (.two (.one (.two .nil (.two .nil (.two (.any 5 (.take 0 (.take 1 (.take 2 (.take 3 (.take 4 .done)))))) (.two (.two .nil .nil) .nil))))) .nil)))))) (.two .nil .nil))))
noncomputable def code79 : Code := match Try.f79.body with | some c => c | none => .skip
theorem wp79 (s1 : ByteArray) (a2 : Option Addr) (l2 : Nat) (c2 : Nat) (a3 : Option Addr) (l3 : Nat) (c3 : Nat) (x4 : Int) (a5 : Option Addr) (l5 : Nat) (c5 : Nat) (a6 : Option Addr) (l6 : Nat) (c6 : Nat) (a7 : Option Addr) (l7 : Nat) (c7 : Nat) (K : Bool → World → Prop) (w : World) : WP Try.prog tab code79 ann79 (fnQ tab Try.f79.results.toList [(.one .bool)] K) (argE 0 [(.agg #[(.string s1), (.slice a2 l2 c2), (.slice a3 l3 c3), (.int .i64 x4)]), (.slice a5 l5 c5), (.slice a6 l6 c6), (.slice a7 l7 c7)]) w = N79 s1 a2 l2 c2 a3 l3 c3 x4 a5 l5 c5 a6 l6 c6 a7 l7 c7 K w := by kernel_rfl
theorem calls79 (s1 : ByteArray) (a2 : Option Addr) (l2 : Nat) (c2 : Nat) (a3 : Option Addr) (l3 : Nat) (c3 : Nat) (x4 : Int) (a5 : Option Addr) (l5 : Nat) (c5 : Nat) (a6 : Option Addr) (l6 : Nat) (c6 : Nat) (a7 : Option Addr) (l7 : Nat) (c7 : Nat) (K : Bool → World → Prop) (w : World) (h : N79 s1 a2 l2 c2 a3 l3 c3 x4 a5 l5 c5 a6 l6 c6 a7 l7 c7 K w) : Calls Try.prog 79 #[(.agg #[(.string s1), (.slice a2 l2 c2), (.slice a3 l3 c3), (.int .i64 x4)]), (.slice a5 l5 c5), (.slice a6 l6 c6), (.slice a7 l7 c7)] w fun en w' => ∃ (p42 : Bool), en = .returned (.bool p42) ∧ K p42 w' :=
  have e : (fun en w' => ExShs [(.one .bool)] fun vs => en = .returned (tupled vs) ∧ ap [(.one .bool)] K vs fun p => p w') = (fun (en : Ending) (w' : World) => ∃ (p42 : Bool), en = .returned (.bool p42) ∧ K p42 w') := by kernel_rfl
  e ▸ fn_sound tabOk mixed Try.func79 (by kernel_rfl : Try.f79.body = some code79) ann79 [(.agg #[(.string s1), (.slice a2 l2 c2), (.slice a3 l3 c3), (.int .i64 x4)]), (.slice a5 l5 c5), (.slice a6 l6 c6), (.slice a7 l7 c7)] [(.one .bool)] K w (by kernel_rfl) ((wp79 s1 a2 l2 c2 a3 l3 c3 x4 a5 l5 c5 a6 l6 c6 a7 l7 c7 K w).symm ▸ h)
end Go.Proofs.Ytggfnakhmjkoeaa

namespace Go.Proofs.Ytggfnakhmjkoeaa
open Go Go.V Go.Proofs
open Go.RowKit (Below)
/-! manystrand/manystrandref06.all -/
def N80 (s1 : ByteArray) (a2 : Option Addr) (l2 : Nat) (c2 : Nat) (a3 : Option Addr) (l3 : Nat) (c3 : Nat) (x4 : Int) (a5 : Option Addr) (l5 : Nat) (c5 : Nat) (a6 : Option Addr) (l6 : Nat) (c6 : Nat) (a7 : Option Addr) (l7 : Nat) (c7 : Nat) (K : Bool → World → Prop) (w : World) : Prop :=
  AllocK w (#[(.string s1), (.slice a2 l2 c2), (.slice a3 l3 c3), (.int .i64 x4)]) 24 fun b8 w9 =>
  BoolK (((l6 : Nat) : Int) == 0)
  (∃ (s10 : ByteArray), w9.cell? (b8.add 0) = some (.string s10) ∧
    (∃ (a11 : Option Addr) (l11 : Nat) (c11 : Nat), w9.cell? (b8.add 1) = some (.slice a11 l11 c11) ∧
      (∃ (a12 : Option Addr) (l12 : Nat) (c12 : Nat), w9.cell? (b8.add 2) = some (.slice a12 l12 c12) ∧
        (∃ (x13 : Int), w9.cell? (b8.add 3) = some (.int .i64 x13) ∧
          (Calls Try.prog 46 #[(.agg #[(.string s10), (.slice a11 l11 c11), (.slice a12 l12 c12), (.int .i64 x13)]), (.slice a7 l7 c7)] w9 fun e16 w15 =>
            ∃ (p14 : Bool), e16 = .returned (.bool p14) ∧
            (K p14 w15))))))
  ((0 ≤ (0 : Int) ∧ (0 : Int) < (l6 : Nat)) ∧
    AddrK a6 fun b17 =>
    ∃ (x18 : Int), w9.cell? (b17.add ((0 : Int).toNat * 1)) = some (.int .i64 x18) ∧
    ((0 ≤ (x18 : Int) ∧ (x18 : Int) < (l5 : Nat)) ∧
      AddrK a5 fun b19 =>
      ∃ (a20 : Option Addr) (l20 : Nat) (c20 : Nat), w9.cell? (b19.add ((x18 : Int).toNat * 1)) = some (.slice a20 l20 c20) ∧
      (Calls Try.prog 36 #[(.slice a20 l20 c20)] w9 fun e23 w22 =>
        ∃ (a21 : Option Addr), ∃ (l21 : Nat), ∃ (c21 : Nat), e23 = .returned (.slice a21 l21 c21) ∧
        (∃ (I24 : Int → World → Prop) (μ25 : Int → World → Nat),
          (I24 0 w22 ∧ True) ∧
          ∀ (w26 : World) (x27 : Int), I24 x27 w26 →
          BoolK (decide ((x27 : Int) < (l21 : Nat)))
          (DrewK w26 fun w28 =>
            (0 ≤ (0 : Int) ∧ (0 : Int) < (l6 : Nat)) ∧
            AddrK a6 fun b29 =>
            ∃ (x30 : Int), w28.cell? (b29.add ((0 : Int).toNat * 1)) = some (.int .i64 x30) ∧
            ((0 ≤ (x27 : Int) ∧ (x27 : Int) < (l21 : Nat)) ∧
              AddrK a21 fun b31 =>
              ∃ (x32 : Int), w28.cell? (b31.add ((x27 : Int).toNat * 1)) = some (.int .i64 x32) ∧
              ((0 ≤ (x30 : Int) ∧ (x30 : Int) < (l7 : Nat)) ∧
                AddrK a7 fun b33 =>
                SetK w28 (b33.add ((x30 : Int).toNat * 1)) (.int .i64 x32) fun w34 =>
                DrewK w34 fun w35 =>
                ∃ (s36 : ByteArray), w35.cell? (b8.add 0) = some (.string s36) ∧
                (∃ (a37 : Option Addr) (l37 : Nat) (c37 : Nat), w35.cell? (b8.add 1) = some (.slice a37 l37 c37) ∧
                  (∃ (a38 : Option Addr) (l38 : Nat) (c38 : Nat), w35.cell? (b8.add 2) = some (.slice a38 l38 c38) ∧
                    (∃ (x39 : Int), w35.cell? (b8.add 3) = some (.int .i64 x39) ∧
                      (0 ≤ (1 : Int) ∧
                        (((1 : Int).toNat ≤ l6 ∧ l6 ≤ c6) ∧
                          (Calls Try.prog 80 #[(.agg #[(.string s36), (.slice a37 l37 c37), (.slice a38 l38 c38), (.int .i64 x39)]), (.slice a5 l5 c5), (.slice (if c6 = (1 : Int).toNat then a6 else (a6).map (·.add ((1 : Int).toNat * 1))) (l6 - (1 : Int).toNat) (c6 - (1 : Int).toNat)), (.slice a7 l7 c7)] w35 fun e42 w41 =>
                            ∃ (p40 : Bool), e42 = .returned (.bool p40) ∧
                            (BoolK (!p40)
                              (K false w41)
                              (I24 (IntKind.wrap .i64 (x27 + 1)) w41 ∧ μ25 (IntKind.wrap .i64 (x27 + 1)) w41 < μ25 x27 w26)))))))))))
          (K true w26)))))
def ann80 : Ann := (.two .nil (.two (.two .nil (.two (.two .nil .nil) .nil)) (.two .nil (.two (.two .nil (.one (.loop [(10, (.one (.int .i64)))] [1, 2, 3, 4, 9] (.two (.two .nil (.two .nil .nil)) (.two (.one (.two (.any 9 (.take 0 (.take 1 (.take 2 (.take 3 (.take 4 (.take 5 (.take 6 (.take 7 (.take 8 .done)))))))))) (.two (.any 5 (.take 0 (.take 1 (.take 2 (.take 3 (.take 4 .done)))))) (.two (.two .nil .nil) .nil)))) .nil))))) (.two .nil .nil)))))
noncomputable def code80 : Code := match Try.f80.body with | some c => c | none => .skip
theorem wp80 (s1 : ByteArray) (a2 : Option Addr) (l2 : Nat) (c2 : Nat) (a3 : Option Addr) (l3 : Nat) (c3 : Nat) (x4 : Int) (a5 : Option Addr) (l5 : Nat) (c5 : Nat) (a6 : Option Addr) (l6 : Nat) (c6 : Nat) (a7 : Option Addr) (l7 : Nat) (c7 : Nat) (K : Bool → World → Prop) (w : World) : WP Try.prog tab code80 ann80 (fnQ tab Try.f80.results.toList [(.one .bool)] K) (argE 0 [(.agg #[(.string s1), (.slice a2 l2 c2), (.slice a3 l3 c3), (.int .i64 x4)]), (.slice a5 l5 c5), (.slice a6 l6 c6), (.slice a7 l7 c7)]) w = N80 s1 a2 l2 c2 a3 l3 c3 x4 a5 l5 c5 a6 l6 c6 a7 l7 c7 K w := by kernel_rfl
theorem calls80 (s1 : ByteArray) (a2 : Option Addr) (l2 : Nat) (c2 : Nat) (a3 : Option Addr) (l3 : Nat) (c3 : Nat) (x4 : Int) (a5 : Option Addr) (l5 : Nat) (c5 : Nat) (a6 : Option Addr) (l6 : Nat) (c6 : Nat) (a7 : Option Addr) (l7 : Nat) (c7 : Nat) (K : Bool → World → Prop) (w : World) (h : N80 s1 a2 l2 c2 a3 l3 c3 x4 a5 l5 c5 a6 l6 c6 a7 l7 c7 K w) : Calls Try.prog 80 #[(.agg #[(.string s1), (.slice a2 l2 c2), (.slice a3 l3 c3), (.int .i64 x4)]), (.slice a5 l5 c5), (.slice a6 l6 c6), (.slice a7 l7 c7)] w fun en w' => ∃ (p43 : Bool), en = .returned (.bool p43) ∧ K p43 w' :=
  have e : (fun en w' => ExShs [(.one .bool)] fun vs => en = .returned (tupled vs) ∧ ap [(.one .bool)] K vs fun p => p w') = (fun (en : Ending) (w' : World) => ∃ (p43 : Bool), en = .returned (.bool p43) ∧ K p43 w') := by kernel_rfl
  e ▸ fn_sound tabOk mixed Try.func80 (by kernel_rfl : Try.f80.body = some code80) ann80 [(.agg #[(.string s1), (.slice a2 l2 c2), (.slice a3 l3 c3), (.int .i64 x4)]), (.slice a5 l5 c5), (.slice a6 l6 c6), (.slice a7 l7 c7)] [(.one .bool)] K w (by kernel_rfl) ((wp80 s1 a2 l2 c2 a3 l3 c3 x4 a5 l5 c5 a6 l6 c6 a7 l7 c7 K w).symm ▸ h)
end Go.Proofs.Ytggfnakhmjkoeaa

namespace Go.Proofs.Ytggfnakhmjkoeaa
open Go Go.V Go.Proofs
open Go.RowKit (Below)

/-- all blocks of w but b stand in w' as they were -/
structure EB (b : Nat) (w w' : World) : Prop where
  os : w'.os = w.os
  tape : w'.tape = w.tape
  output : w'.output = w.output
  size : w.heap.size ≤ w'.heap.size
  block : ∀ k, k < w.heap.size → k ≠ b → w'.heap[k]? = w.heap[k]?
theorem EB.of_ext {b : Nat} {w w' : World} (h : Ext w w') : EB b w w' := ⟨h.os, h.tape, h.output, h.size, fun k hk _ => h.block k hk⟩
theorem EB.of_but {b : Nat} {w w' : World} (h : But b w w') : EB b w w' := ⟨h.os, h.tape, h.output, by rw [h.size]; exact Nat.le_refl _, fun k _ hk => h.block k hk⟩
theorem EB.trans {b : Nat} {a c d : World} (h : EB b a c) (k : EB b c d) : EB b a d :=
  ⟨k.os.trans h.os, k.tape.trans h.tape, k.output.trans h.output, Nat.le_trans h.size k.size, fun i hi hne => (k.block i (Nat.lt_of_lt_of_le hi h.size) hne).trans (h.block i hi hne)⟩
theorem EB.ext0 {b : Nat} {w0 w w' : World} (h : EB b w w') (k : Ext w0 w) (hb : w0.heap.size ≤ b) : Ext w0 w' :=
  ⟨h.os.trans k.os, h.tape.trans k.tape, h.output.trans k.output, Nat.le_trans k.size h.size, fun i hi => (h.block i (Nat.lt_of_lt_of_le hi k.size) (by omega)).trans (k.block i hi)⟩
theorem Blk.eb {w w' : World} {b vb : Nat} {cs : Array Value} {t : Nat} (h : Blk w b cs t) (k : EB vb w w') (hne : b ≠ vb) : Blk w' b cs t := (k.block b h.lt hne).trans h

def arrI (vs : List Int) : Array Value := (vs.map fun x => Value.int .i64 x).toArray
def VBlk (w : World) (b : Nat) (vs : List Int) : Prop := Blk w b (arrI vs) 3
theorem VBlk.ints {w : World} {b : Nat} {vs : List Int} (h : VBlk w b vs) : Ints w (some ⟨b, 0, none⟩) vs.length vs :=
  Rows.lit h vs fun i x hi => by show (arrI vs)[i * 1 + 0]? = _; rw [Nat.mul_one, Nat.add_zero, arrI, List.getElem?_toArray, List.getElem?_map, hi]; rfl
theorem VBlk.set {w : World} {b i : Nat} {vs : List Int} {v : Int} {F : World → Prop} (h : VBlk w b vs) (hi : i < vs.length) (k : ∀ w', VBlk w' b (vs.set i v) → But b w w' → F w') : SetK w ⟨b, i, none⟩ (.int .i64 v) F := by
  refine SetK.mk h (by simpa [arrI] using hi) fun w' hb hbut => k w' ?_ hbut
  have : (arrI vs).setIfInBounds i (.int .i64 v) = arrI (vs.set i v) := by simp [arrI, List.map_set]
  rw [this] at hb; exact hb

/-- does the propagator hold for all values of places? -/
def AllP (p : PropS) (ls : List Dm) (places vs : List Int) : Prop :=
  ∀ us : List Int, us.length = vs.length → (∀ x ∈ places, InS ls x.toNat (us.getD x.toNat 0)) → (∀ y, (∀ x ∈ places, x.toNat ≠ y) → us.getD y 0 = vs.getD y 0) → holdsS p us = true
theorem list_getD_ext {us vs : List Int} (hl : us.length = vs.length) (h : ∀ y, us.getD y 0 = vs.getD y 0) : us = vs := by
  apply List.ext_getElem hl
  intro i h1 h2
  have := h i
  rwa [getD_get h1, getD_get h2] at this
theorem getD_set_int (vs : List Int) (i j : Nat) (v : Int) : (vs.set i v).getD j 0 = if i = j ∧ i < vs.length then v else vs.getD j 0 := by
  rw [List.getD_eq_getElem?_getD, List.getD_eq_getElem?_getD, List.getElem?_set]
  by_cases h : i = j
  · subst h
    by_cases h2 : i < vs.length
    · rw [if_pos rfl, if_pos h2, if_pos ⟨rfl, h2⟩]; rfl
    · rw [if_pos rfl, if_neg h2, if_neg (fun e => h2 e.2), List.getElem?_eq_none (by omega)]
  · rw [if_neg h, if_neg (fun e => h e.1)]
theorem AllP.nil (p : PropS) (ls : List Dm) (vs : List Int) : AllP p ls [] vs ↔ holdsS p vs = true := by
  constructor
  · exact fun h => h vs rfl (by simp) fun _ _ => rfl
  · intro h us hl _ hy
    rw [list_getD_ext hl fun y => hy y (by simp)]; exact h
theorem AllP.congr {p : PropS} {ls : List Dm} {places vs ws : List Int} (hl : vs.length = ws.length) (h : ∀ y, (∀ x ∈ places, x.toNat ≠ y) → vs.getD y 0 = ws.getD y 0) : AllP p ls places vs ↔ AllP p ls places ws :=
  ⟨fun hA us h1 h2 h3 => hA us (h1.trans hl.symm) h2 fun y hy => (h3 y hy).trans (h y hy).symm, fun hA us h1 h2 h3 => hA us (h1.trans hl) h2 fun y hy => (h3 y hy).trans (h y hy)⟩
theorem AllP.cons {p : PropS} {ls : List Dm} {x : Int} {rest vs : List Int} (hx : x.toNat < vs.length) : AllP p ls (x :: rest) vs ↔ ∀ v, InS ls x.toNat v → AllP p ls rest (vs.set x.toNat v) := by
  constructor
  · intro hA v hv us h1 h2 h3
    rw [List.length_set] at h1
    refine hA us h1 (fun z hz => ?_) fun y hy => ?_
    · rcases List.mem_cons.1 hz with rfl | hz
      · by_cases hr : ∃ q ∈ rest, q.toNat = z.toNat
        · obtain ⟨q, hq, he⟩ := hr
          have := h2 q hq; rwa [he] at this
        · have := h3 z.toNat fun q hq he => hr ⟨q, hq, he⟩
          rw [getD_set_int, if_pos ⟨rfl, hx⟩] at this
          rw [this]; exact hv
      · exact h2 z hz
    · rw [h3 y fun q hq => hy q (List.mem_cons_of_mem _ hq), getD_set_int, if_neg fun e => hy x List.mem_cons_self e.1]
  · intro hA us h1 h2 h3
    refine hA (us.getD x.toNat 0) (h2 x List.mem_cons_self) us (by rw [List.length_set]; exact h1) (fun z hz => h2 z (List.mem_cons_of_mem _ hz)) fun y hy => ?_
    rw [getD_set_int]
    split
    · rename_i e; rw [e.1]
    · rename_i e
      refine h3 y fun z hz he => ?_
      rcases List.mem_cons.1 hz with rfl | hz
      · exact e ⟨he, hx⟩
      · exact hy z hz he
theorem Ints.tail {w : World} {a : Option Addr} {l c : Nat} {x : Int} {xs : List Int} (h : Ints w a l (x :: xs)) (hc : l ≤ c) : Ints w (if c = (1 : Int).toNat then a else a.map (·.add ((1 : Int).toNat * 1))) (l - (1 : Int).toNat) xs := by
  obtain ⟨h1, h2⟩ := h
  simp only [Int.toNat_one, Nat.mul_one]
  refine ⟨by rw [h1]; simp, ?_⟩
  rcases h2 with h2 | ⟨b, o, rfl, hx⟩
  · cases h2
  · cases xs with
    | nil => exact .inl rfl
    | cons y ys =>
      right
      simp at h1
      rw [if_neg (by omega)]
      refine ⟨b, o + 1, by simp [add_mk], fun i z hz => ?_⟩
      have := hx (i + 1) z (by simpa using hz)
      have e : (fun j => w.cell? ⟨b, o + (i + 1) * 1 + j, none⟩) = fun j => w.cell? ⟨b, o + 1 + i * 1 + j, none⟩ := by
        funext j; congr 2; omega
      rwa [e] at this

theorem VBlk_ext {w w2 : World} {b : Nat} {vs : List Int} (h : VBlk w b vs) (k : Ext w w2) : VBlk w2 b vs := Blk.ext h k

set_option maxRecDepth 100000 in
theorem c79 (p : PropS) (ls : List Dm) (hV : VDs ls) (w0 : World) (s : ByteArray) (a2 : Option Addr) (l2 c2 : Nat) (a3 : Option Addr) (l3 c3 : Nat) (x4 : Int) (hP : PropAt w0 s a2 l2 a3 l3 x4 p)
    (a5 : Option Addr) (l5 c5 : Nat) (hd : Doms w0 a5 l5 ls) (vb c7 : Nat) (hvb : w0.heap.size ≤ vb) : ∀ (places : List Int) (a6 : Option Addr) (l6 c6 : Nat), Ints w0 a6 l6 places → l6 ≤ c6 → (∀ x ∈ places, 0 ≤ x ∧ x < (ls.length : Int)) →
      ∀ (w : World) (vs : List Int), Ext w0 w → VBlk w vb vs → vs.length = ls.length → (∀ x ∈ vs, -9223372036854775808 ≤ x ∧ x ≤ 9223372036854775807) →
    Calls Try.prog 79 #[.agg #[.string s, .slice a2 l2 c2, .slice a3 l3 c3, .int .i64 x4], .slice a5 l5 c5, .slice a6 l6 c6, .slice (some ⟨vb, 0, none⟩) ls.length c7] w fun en w' => ∃ r, en = .returned (.bool r) ∧
      ((r = true ↔ AllP p ls places vs) ∧ EB vb w w' ∧ ∃ vs', VBlk w' vb vs' ∧ vs'.length = vs.length ∧ (∀ x ∈ vs', -9223372036854775808 ≤ x ∧ x ≤ 9223372036854775807) ∧ ∀ y, (∀ x ∈ places, x.toNat ≠ y) → vs'.getD y 0 = vs.getD y 0) := by
  intro places
  induction places with
  | nil =>
    intro a6 l6 c6 hp hc hin w vs hw hvs hvl hvi
    have e6 := hp.1
    refine calls79 _ _ _ _ _ _ _ _ _ _ _ _ _ _ _ _ _ _ w ?_
    refine AllocK.mk fun b8 w9 hb8 hblk hx9 => ?_
    have hc9 := blk4 hblk
    refine BoolK.mk (fun _ => ?_) (fun t => by simp at t e6; omega)
    refine ⟨_, hc9.1, _, _, _, hc9.2.1, _, _, _, hc9.2.2.1, _, hc9.2.2.2, ?_⟩
    rw [← hvl]
    refine (c45 w9 _ _ _ _ _ _ _ _ p (hP.ext (hw.trans hx9)) _ _ _ vs (hvs.ints.ext RInt.mono hx9) hvi).mono ?_
    rintro en w15 ⟨r, rfl, rfl, hx15⟩
    refine ⟨_, rfl, (AllP.nil p ls vs).symm, EB.of_ext (hx9.trans hx15), vs, hvs.ext (hx9.trans hx15), rfl, hvi, fun _ _ => rfl⟩
  | cons x rest ih =>
    intro a6 l6 c6 hp hc hin w vs hw hvs hvl hvi
    have e6 := hp.1
    have hx0 := hin x List.mem_cons_self
    have hxl : x.toNat < ls.length := by omega
    refine calls79 _ _ _ _ _ _ _ _ _ _ _ _ _ _ _ _ _ _ w ?_
    refine AllocK.mk fun b8 w9 hb8 hblk hx9 => ?_
    have hne8 : b8 ≠ vb := by have := hvs.lt; omega
    have hw9 := hw.trans hx9
    refine BoolK.mk (fun t => by simp at t e6; omega) (fun _ => ?_)
    obtain ⟨b6, o6, rfl, _⟩ := intAt hp w0 (Ext.refl _) (i := 0) (by simp)
    have P0 : ∀ w', Ext w0 w' → w'.cell? ((⟨b6, o6, none⟩ : Addr).add ((0 : Int).toNat * 1)) = some (.int .i64 x) := fun w' hw' => by
      obtain ⟨b', o', hb', g⟩ := intAt hp w' hw' (i := 0) (by simp)
      simp at hb'; obtain ⟨rfl, rfl⟩ := hb'
      rw [add_mk]; exact g
    have A6 : 0 ≤ (0 : Int) ∧ (0 : Int) < ((l6 : Nat) : Int) := by simp at e6; omega
    obtain ⟨b5, o5, a20, l20, c20, rfl, g5, d5⟩ := domsAt hd w9 hw9 (i := x.toNat) hxl
    have e5 := hd.1
    refine ⟨A6, _, P0 _ hw9, by omega, ?_⟩
    simp only [AddrK, add_mk, Nat.mul_one]
    refine ⟨_, _, _, g5, ?_⟩
    have vx := hV _ (List.getElem_mem hxl)
    refine (c35 w9 a20 l20 c20 _ d5 (by have := vx.len; omega)).mono ?_
    rintro en w22 ⟨a21, l21, c21, rfl, ho, hx22⟩
    rw [(validB_iff _).2 vx, if_pos rfl] at ho
    have hvlen := vx.vals_len
    have hw22 := hw9.trans hx22
    have hvs22 : VBlk w22 vb vs := (hvs.ext hx9).ext hx22
    have hblk22 := hblk.ext hx22
    refine ⟨_, _, _, rfl, ?_⟩
    refine ⟨fun i w' => ∃ k : Nat, i = k ∧ k ≤ (vals ls[x.toNat]).length ∧ EB vb w22 w' ∧ (∃ us, VBlk w' vb us ∧ us.length = vs.length ∧ (∀ x ∈ us, -9223372036854775808 ≤ x ∧ x ≤ 9223372036854775807) ∧ ∀ y, (∀ z ∈ x :: rest, z.toNat ≠ y) → us.getD y 0 = vs.getD y 0) ∧
        ∀ j (hj : j < k) (hj2 : j < (vals ls[x.toNat]).length), AllP p ls rest (vs.set x.toNat (vals ls[x.toNat])[j]), fun i _ => (vals ls[x.toNat]).length - i.toNat,
      ⟨⟨0, rfl, by omega, EB.of_ext (Ext.refl _), ⟨vs, hvs22, rfl, hvi, fun _ _ => rfl⟩, fun j hj => by omega⟩, trivial⟩, ?_⟩
    rintro w26 _ ⟨k, rfl, hk, hE, ⟨us, hus, hul, hui, huy⟩, hall⟩
    have hw26 := hE.ext0 hw22 hvb
    have hEw : EB vb w w26 := (EB.of_ext (hx9.trans hx22)).trans hE
    have el21 := ho.1
    refine BoolK.mk (fun hlt => ?_) (fun hge => ?_)
    · have hlt : k < (vals ls[x.toNat]).length := by simp at hlt; omega
      have ho26 := ho.kept (w' := w26) fun g hg => hE.block g (ho.lt g hg).2 (by have := (ho.lt g hg).1; have := hvs.lt; have := hx9.size; omega)
      obtain ⟨b1, o1, rfl, g1⟩ := intAt ho26.ints w26 (Ext.refl _) hlt
      refine ⟨by omega, ?_⟩
      simp only [Int.toNat_natCast, add_mk, Nat.zero_add]
      have p0 := P0 w26 hw26
      rw [add_mk] at p0
      refine ⟨_, g1, A6, _, p0, ?_⟩
      refine ⟨by omega, ?_⟩
      have hvk : 0 ≤ (vals ls[x.toNat])[k] ∧ (vals ls[x.toNat])[k] ≤ 1000 := vx.bound ((mem_vals _ _).1 (List.getElem_mem hlt))
      refine hus.set (i := x.toNat) (v := (vals ls[x.toNat])[k]) (by omega) fun w33 h33 hbut => DrewK.mk fun w34 hx34 => ?_
      have hE34 : EB vb w22 w34 := (hE.trans (EB.of_but hbut)).trans (EB.of_ext hx34)
      have hw34 := hE34.ext0 hw22 hvb
      have hc34 := cell4 (Blk.eb hblk22 hE34 hne8)
      refine ⟨_, hc34.1, _, _, _, hc34.2.1, _, _, _, hc34.2.2.1, _, hc34.2.2.2, by omega, ⟨by simp at e6 ⊢; omega, hc⟩, ?_⟩
      refine (ih _ _ (c6 - (1 : Int).toNat) (Ints.tail hp hc) (by omega) (fun z hz => hin z (List.mem_cons_of_mem _ hz)) w34 (us.set x.toNat (vals ls[x.toNat])[k]) hw34 (h33.ext hx34) (by rw [List.length_set]; omega) (fun z hz => by
        rcases List.mem_or_eq_of_mem_set hz with hz | rfl
        · exact hui z hz
        · omega)).mono ?_
      rintro en w40 ⟨r, rfl, hr, hE40, us', hus', hul', hui', huy'⟩
      rw [List.length_set] at hul'
      have hcg : AllP p ls rest (us.set x.toNat (vals ls[x.toNat])[k]) ↔ AllP p ls rest (vs.set x.toNat (vals ls[x.toNat])[k]) := AllP.congr (by simp [hul]) fun y hy => by
        rw [getD_set_int, getD_set_int, hul]
        split
        · rfl
        · rename_i hn
          refine huy y fun z hz he => ?_
          rcases List.mem_cons.1 hz with rfl | hz
          · exact hn ⟨he, by omega⟩
          · exact hy z hz he
      have hy40 : ∀ y, (∀ z ∈ x :: rest, z.toNat ≠ y) → us'.getD y 0 = vs.getD y 0 := fun y hy => by
        rw [huy' y fun z hz => hy z (List.mem_cons_of_mem _ hz), getD_set_int, if_neg fun e => hy x List.mem_cons_self e.1]
        exact huy y hy
      have hEw40 : EB vb w w40 := (EB.of_ext (hx9.trans hx22)).trans (hE34.trans hE40)
      refine ⟨_, rfl, BoolK.mk (fun t => ?_) (fun t => ?_)⟩
      · have t : r = false := by simpa using t
        subst t
        refine ⟨⟨(fun h => by cases h), fun h => ?_⟩, hEw40, us', hus', hul'.trans hul, hui', hy40⟩
        have := (AllP.cons (by omega)).1 h (vals ls[x.toNat])[k] (by unfold InS; rw [at_get hxl]; exact (mem_vals _ _).1 (List.getElem_mem hlt))
        exact hr.2 (hcg.2 this)
      · have t : r = true := by simpa using t
        rw [wrap_succ (by omega)]
        refine ⟨⟨k + 1, rfl, by omega, hE34.trans hE40, ⟨us', hus', hul'.trans hul, hui', hy40⟩, fun j hj hj2 => ?_⟩, by simp; omega⟩
        rcases Nat.lt_or_ge j k with h | h
        · exact hall j h hj2
        · have : j = k := by omega
          subst this
          exact hcg.1 (hr.1 t)
    · have hge : k = (vals ls[x.toNat]).length := by simp at hge; omega
      subst hge
      refine ⟨⟨fun _ => ?_, fun _ => trivial⟩, hEw, us, hus, hul, hui, huy⟩
      rw [AllP.cons (by omega)]
      intro v hv
      unfold InS at hv; rw [at_get hxl] at hv
      obtain ⟨j, hj, rfl⟩ := List.mem_iff_getElem.1 ((mem_vals _ _).2 hv)
      exact hall j hj hj

set_option maxRecDepth 100000 in
theorem c80 (p : PropS) (ls : List Dm) (hV : VDs ls) (w0 : World) (s : ByteArray) (a2 : Option Addr) (l2 c2 : Nat) (a3 : Option Addr) (l3 c3 : Nat) (x4 : Int) (hP : PropAt w0 s a2 l2 a3 l3 x4 p)
    (a5 : Option Addr) (l5 c5 : Nat) (hd : Doms w0 a5 l5 ls) (vb c7 : Nat) (hvb : w0.heap.size ≤ vb) : ∀ (places : List Int) (a6 : Option Addr) (l6 c6 : Nat), Ints w0 a6 l6 places → l6 ≤ c6 → (∀ x ∈ places, 0 ≤ x ∧ x < (ls.length : Int)) →
      ∀ (w : World) (vs : List Int), Ext w0 w → VBlk w vb vs → vs.length = ls.length → (∀ x ∈ vs, -9223372036854775808 ≤ x ∧ x ≤ 9223372036854775807) →
    Calls Try.prog 80 #[.agg #[.string s, .slice a2 l2 c2, .slice a3 l3 c3, .int .i64 x4], .slice a5 l5 c5, .slice a6 l6 c6, .slice (some ⟨vb, 0, none⟩) ls.length c7] w fun en w' => ∃ r, en = .returned (.bool r) ∧
      ((r = true ↔ AllP p ls places vs) ∧ EB vb w w' ∧ ∃ vs', VBlk w' vb vs' ∧ vs'.length = vs.length ∧ (∀ x ∈ vs', -9223372036854775808 ≤ x ∧ x ≤ 9223372036854775807) ∧ ∀ y, (∀ x ∈ places, x.toNat ≠ y) → vs'.getD y 0 = vs.getD y 0) := by
  intro places
  induction places with
  | nil =>
    intro a6 l6 c6 hp hc hin w vs hw hvs hvl hvi
    have e6 := hp.1
    refine calls80 _ _ _ _ _ _ _ _ _ _ _ _ _ _ _ _ _ _ w ?_
    refine AllocK.mk fun b8 w9 hb8 hblk hx9 => ?_
    have hc9 := blk4 hblk
    refine BoolK.mk (fun _ => ?_) (fun t => by simp at t e6; omega)
    refine ⟨_, hc9.1, _, _, _, hc9.2.1, _, _, _, hc9.2.2.1, _, hc9.2.2.2, ?_⟩
    rw [← hvl]
    refine (c46 w9 _ _ _ _ _ _ _ _ p (hP.ext (hw.trans hx9)) _ _ _ vs (hvs.ints.ext RInt.mono hx9) hvi).mono ?_
    rintro en w15 ⟨r, rfl, rfl, hx15⟩
    refine ⟨_, rfl, (AllP.nil p ls vs).symm, EB.of_ext (hx9.trans hx15), vs, hvs.ext (hx9.trans hx15), rfl, hvi, fun _ _ => rfl⟩
  | cons x rest ih =>
    intro a6 l6 c6 hp hc hin w vs hw hvs hvl hvi
    have e6 := hp.1
    have hx0 := hin x List.mem_cons_self
    have hxl : x.toNat < ls.length := by omega
    refine calls80 _ _ _ _ _ _ _ _ _ _ _ _ _ _ _ _ _ _ w ?_
    refine AllocK.mk fun b8 w9 hb8 hblk hx9 => ?_
    have hne8 : b8 ≠ vb := by have := hvs.lt; omega
    have hw9 := hw.trans hx9
    refine BoolK.mk (fun t => by simp at t e6; omega) (fun _ => ?_)
    obtain ⟨b6, o6, rfl, _⟩ := intAt hp w0 (Ext.refl _) (i := 0) (by simp)
    have P0 : ∀ w', Ext w0 w' → w'.cell? ((⟨b6, o6, none⟩ : Addr).add ((0 : Int).toNat * 1)) = some (.int .i64 x) := fun w' hw' => by
      obtain ⟨b', o', hb', g⟩ := intAt hp w' hw' (i := 0) (by simp)
      simp at hb'; obtain ⟨rfl, rfl⟩ := hb'
      rw [add_mk]; exact g
    have A6 : 0 ≤ (0 : Int) ∧ (0 : Int) < ((l6 : Nat) : Int) := by simp at e6; omega
    obtain ⟨b5, o5, a20, l20, c20, rfl, g5, d5⟩ := domsAt hd w9 hw9 (i := x.toNat) hxl
    have e5 := hd.1
    refine ⟨A6, _, P0 _ hw9, by omega, ?_⟩
    simp only [AddrK, add_mk, Nat.mul_one]
    refine ⟨_, _, _, g5, ?_⟩
    have vx := hV _ (List.getElem_mem hxl)
    refine (c36 w9 a20 l20 c20 _ d5 vx.sm.1 vx.sm.2).mono ?_
    rintro en w22 ⟨a21, l21, c21, rfl, ho, hx22⟩
    rw [(validB_iff _).2 vx, if_pos rfl] at ho
    have hvlen := vx.vals_len
    have hw22 := hw9.trans hx22
    have hvs22 : VBlk w22 vb vs := (hvs.ext hx9).ext hx22
    have hblk22 := hblk.ext hx22
    refine ⟨_, _, _, rfl, ?_⟩
    refine ⟨fun i w' => ∃ k : Nat, i = k ∧ k ≤ (vals ls[x.toNat]).length ∧ EB vb w22 w' ∧ (∃ us, VBlk w' vb us ∧ us.length = vs.length ∧ (∀ x ∈ us, -9223372036854775808 ≤ x ∧ x ≤ 9223372036854775807) ∧ ∀ y, (∀ z ∈ x :: rest, z.toNat ≠ y) → us.getD y 0 = vs.getD y 0) ∧
        ∀ j (hj : j < k) (hj2 : j < (vals ls[x.toNat]).length), AllP p ls rest (vs.set x.toNat (vals ls[x.toNat])[j]), fun i _ => (vals ls[x.toNat]).length - i.toNat,
      ⟨⟨0, rfl, by omega, EB.of_ext (Ext.refl _), ⟨vs, hvs22, rfl, hvi, fun _ _ => rfl⟩, fun j hj => by omega⟩, trivial⟩, ?_⟩
    rintro w26 _ ⟨k, rfl, hk, hE, ⟨us, hus, hul, hui, huy⟩, hall⟩
    have hw26 := hE.ext0 hw22 hvb
    have hEw : EB vb w w26 := (EB.of_ext (hx9.trans hx22)).trans hE
    have el21 := ho.1
    refine BoolK.mk (fun hlt => ?_) (fun hge => ?_)
    · have hlt : k < (vals ls[x.toNat]).length := by simp at hlt; omega
      have ho26 := ho.kept (w' := w26) fun g hg => hE.block g (ho.lt g hg).2 (by have := (ho.lt g hg).1; have := hvs.lt; have := hx9.size; omega)
      refine DrewK.mk fun w28 hx28 => ?_
      have hE := hE.trans (EB.of_ext hx28)
      have hw26 := hw26.trans hx28
      have hus := VBlk_ext hus hx28
      obtain ⟨b1, o1, rfl, g1⟩ := intAt ho26.ints w28 hx28 hlt
      simp only [Int.toNat_natCast, add_mk, Nat.zero_add]
      have p0 := P0 w28 hw26
      rw [add_mk] at p0
      refine ⟨A6, _, p0, by omega, _, g1, ?_⟩
      refine ⟨by omega, ?_⟩
      have hvk : 0 ≤ (vals ls[x.toNat])[k] ∧ (vals ls[x.toNat])[k] ≤ 1000 := vx.bound ((mem_vals _ _).1 (List.getElem_mem hlt))
      refine hus.set (i := x.toNat) (v := (vals ls[x.toNat])[k]) (by omega) fun w33 h33 hbut => DrewK.mk fun w34 hx34 => ?_
      have hE34 : EB vb w22 w34 := (hE.trans (EB.of_but hbut)).trans (EB.of_ext hx34)
      have hw34 := hE34.ext0 hw22 hvb
      have hc34 := cell4 (Blk.eb hblk22 hE34 hne8)
      refine ⟨_, hc34.1, _, _, _, hc34.2.1, _, _, _, hc34.2.2.1, _, hc34.2.2.2, by omega, ⟨by simp at e6 ⊢; omega, hc⟩, ?_⟩
      refine (ih _ _ (c6 - (1 : Int).toNat) (Ints.tail hp hc) (by omega) (fun z hz => hin z (List.mem_cons_of_mem _ hz)) w34 (us.set x.toNat (vals ls[x.toNat])[k]) hw34 (h33.ext hx34) (by rw [List.length_set]; omega) (fun z hz => by
        rcases List.mem_or_eq_of_mem_set hz with hz | rfl
        · exact hui z hz
        · omega)).mono ?_
      rintro en w40 ⟨r, rfl, hr, hE40, us', hus', hul', hui', huy'⟩
      rw [List.length_set] at hul'
      have hcg : AllP p ls rest (us.set x.toNat (vals ls[x.toNat])[k]) ↔ AllP p ls rest (vs.set x.toNat (vals ls[x.toNat])[k]) := AllP.congr (by simp [hul]) fun y hy => by
        rw [getD_set_int, getD_set_int, hul]
        split
        · rfl
        · rename_i hn
          refine huy y fun z hz he => ?_
          rcases List.mem_cons.1 hz with rfl | hz
          · exact hn ⟨he, by omega⟩
          · exact hy z hz he
      have hy40 : ∀ y, (∀ z ∈ x :: rest, z.toNat ≠ y) → us'.getD y 0 = vs.getD y 0 := fun y hy => by
        rw [huy' y fun z hz => hy z (List.mem_cons_of_mem _ hz), getD_set_int, if_neg fun e => hy x List.mem_cons_self e.1]
        exact huy y hy
      have hEw40 : EB vb w w40 := (EB.of_ext (hx9.trans hx22)).trans (hE34.trans hE40)
      refine ⟨_, rfl, BoolK.mk (fun t => ?_) (fun t => ?_)⟩
      · have t : r = false := by simpa using t
        subst t
        refine ⟨⟨(fun h => by cases h), fun h => ?_⟩, hEw40, us', hus', hul'.trans hul, hui', hy40⟩
        have := (AllP.cons (by omega)).1 h (vals ls[x.toNat])[k] (by unfold InS; rw [at_get hxl]; exact (mem_vals _ _).1 (List.getElem_mem hlt))
        exact hr.2 (hcg.2 this)
      · have t : r = true := by simpa using t
        rw [wrap_succ (by omega)]
        refine ⟨⟨k + 1, rfl, by omega, hE34.trans hE40, ⟨us', hus', hul'.trans hul, hui', hy40⟩, fun j hj hj2 => ?_⟩, by simp; omega⟩
        rcases Nat.lt_or_ge j k with h | h
        · exact hall j h hj2
        · have : j = k := by omega
          subst this
          exact hcg.1 (hr.1 t)
    · have hge : k = (vals ls[x.toNat]).length := by simp at hge; omega
      subst hge
      refine ⟨⟨fun _ => ?_, fun _ => trivial⟩, hEw, us, hus, hul, hui, huy⟩
      rw [AllP.cons (by omega)]
      intro v hv
      unfold InS at hv; rw [at_get hxl] at hv
      obtain ⟨j, hj, rfl⟩ := List.mem_iff_getElem.1 ((mem_vals _ _).2 hv)
      exact hall j hj hj
end Go.Proofs.Ytggfnakhmjkoeaa

namespace Go.Proofs.Ytggfnakhmjkoeaa
open Go Go.V Go.Proofs
open Go.RowKit (Below)
/-! manystrand/manystrandref06.ends -/
def N92 (a1 : Option Addr) (l1 : Nat) (_c1 : Nat) (K : Int → Int → World → Prop) (w : World) : Prop :=
  DrewK w fun w2 =>
  (0 ≤ (0 : Int) ∧ (0 : Int) < (l1 : Nat)) ∧
  AddrK a1 fun b3 =>
  (0 ≤ (0 : Int) ∧ (0 : Int) < (2 : Nat)) ∧
  ∃ (x4 : Int), w2.cell? ((b3.add ((0 : Int).toNat * 2)).add ((0 : Int).toNat * 1)) = some (.int .i64 x4) ∧
  ((0 ≤ (IntKind.wrap .i64 ((l1 : Nat) - 1) : Int) ∧ (IntKind.wrap .i64 ((l1 : Nat) - 1) : Int) < (l1 : Nat)) ∧
    AddrK a1 fun b5 =>
    (0 ≤ (1 : Int) ∧ (1 : Int) < (2 : Nat)) ∧
    ∃ (x6 : Int), w2.cell? ((b5.add ((IntKind.wrap .i64 ((l1 : Nat) - 1) : Int).toNat * 2)).add ((1 : Int).toNat * 1)) = some (.int .i64 x6) ∧
    (K x4 x6 w2))
def ann92 : Ann := (.two .nil (.two (.any 13 (.take 0 (.take 1 (.take 2 (.take 3 (.take 4 (.take 5 (.take 6 (.take 7 (.take 8 (.take 9 (.take 10 (.take 11 (.take 12 .done)))))))))))))) .nil))
noncomputable def code92 : Code := match Try.f92.body with | some c => c | none => .skip
theorem wp92 (a1 : Option Addr) (l1 : Nat) (c1 : Nat) (K : Int → Int → World → Prop) (w : World) : WP Try.prog tab code92 ann92 (fnQ tab Try.f92.results.toList [(.one (.int .i64)), (.one (.int .i64))] K) (argE 0 [(.slice a1 l1 c1)]) w = N92 a1 l1 c1 K w := by kernel_rfl
theorem calls92 (a1 : Option Addr) (l1 : Nat) (c1 : Nat) (K : Int → Int → World → Prop) (w : World) (h : N92 a1 l1 c1 K w) : Calls Try.prog 92 #[(.slice a1 l1 c1)] w fun en w' => ∃ (x7 : Int), ∃ (x8 : Int), en = .returned (.tuple #[(.int .i64 x7), (.int .i64 x8)]) ∧ K x7 x8 w' :=
  have e : (fun en w' => ExShs [(.one (.int .i64)), (.one (.int .i64))] fun vs => en = .returned (tupled vs) ∧ ap [(.one (.int .i64)), (.one (.int .i64))] K vs fun p => p w') = (fun (en : Ending) (w' : World) => ∃ (x7 : Int), ∃ (x8 : Int), en = .returned (.tuple #[(.int .i64 x7), (.int .i64 x8)]) ∧ K x7 x8 w') := by kernel_rfl
  e ▸ fn_sound tabOk mixed Try.func92 (by kernel_rfl : Try.f92.body = some code92) ann92 [(.slice a1 l1 c1)] [(.one (.int .i64)), (.one (.int .i64))] K w (by kernel_rfl) ((wp92 a1 l1 c1 K w).symm ▸ h)
end Go.Proofs.Ytggfnakhmjkoeaa

namespace Go.Proofs.Ytggfnakhmjkoeaa
open Go Go.V Go.Proofs
open Go.RowKit (Below)
/-! manystrand/manystrandref06.others -/
def N93 (s1 : ByteArray) (a2 : Option Addr) (l2 : Nat) (c2 : Nat) (a3 : Option Addr) (l3 : Nat) (c3 : Nat) (x4 : Int) (a5 : Option Addr) (l5 : Nat) (_c5 : Nat) (x6 : Int) (K : Int → Int → World → Prop) (w : World) : Prop :=
  AllocK w (#[(.string s1), (.slice a2 l2 c2), (.slice a3 l3 c3), (.int .i64 x4)]) 24 fun b7 w8 =>
  ∃ (I9 : Int → Int → Int → World → Prop) (μ10 : Int → Int → Int → World → Nat),
  (I9 0 0 0 w8 ∧ True) ∧
  ∀ (w11 : World) (x12 : Int) (x13 : Int) (x14 : Int), I9 x12 x13 x14 w11 →
  ∃ (a15 : Option Addr) (l15 : Nat) (c15 : Nat), w11.cell? (b7.add 1) = some (.slice a15 l15 c15) ∧
  (BoolK (decide ((x14 : Int) < (l15 : Nat)))
    (BoolK ((x14 : Int) == x6)
      (I9 x12 x13 (IntKind.wrap .i64 (x14 + 1)) w11 ∧ μ10 x12 x13 (IntKind.wrap .i64 (x14 + 1)) w11 < μ10 x12 x13 x14 w11)
      (∃ (a16 : Option Addr) (l16 : Nat) (c16 : Nat), w11.cell? (b7.add 1) = some (.slice a16 l16 c16) ∧
        ((0 ≤ (x14 : Int) ∧ (x14 : Int) < (l16 : Nat)) ∧
          AddrK a16 fun b17 =>
          ∃ (x18 : Int), w11.cell? (b17.add ((x14 : Int).toNat * 1)) = some (.int .i64 x18) ∧
          ((0 ≤ (x18 : Int) ∧ (x18 : Int) < (l5 : Nat)) ∧
            AddrK a5 fun b19 =>
            ∃ (a20 : Option Addr) (l20 : Nat) (c20 : Nat), w11.cell? (b19.add ((x18 : Int).toNat * 1)) = some (.slice a20 l20 c20) ∧
            (Calls Try.prog 92 #[(.slice a20 l20 c20)] w11 fun e24 w23 =>
              ∃ (x21 : Int), ∃ (x22 : Int), e24 = .returned (.tuple #[(.int .i64 x21), (.int .i64 x22)]) ∧
              (DrewK w23 fun w25 =>
                ∃ (a26 : Option Addr) (l26 : Nat) (c26 : Nat), w25.cell? (b7.add 2) = some (.slice a26 l26 c26) ∧
                ((0 ≤ (x14 : Int) ∧ (x14 : Int) < (l26 : Nat)) ∧
                  AddrK a26 fun b27 =>
                  ∃ (x28 : Int), w25.cell? (b27.add ((x14 : Int).toNat * 1)) = some (.int .i64 x28) ∧
                  (∃ (a29 : Option Addr) (l29 : Nat) (c29 : Nat), w25.cell? (b7.add 2) = some (.slice a29 l29 c29) ∧
                    ((0 ≤ (x14 : Int) ∧ (x14 : Int) < (l29 : Nat)) ∧
                      AddrK a29 fun b30 =>
                      ∃ (x31 : Int), w25.cell? (b30.add ((x14 : Int).toNat * 1)) = some (.int .i64 x31) ∧
                      (DrewK w25 fun w32 =>
                        ∃ (a33 : Option Addr) (l33 : Nat) (c33 : Nat), w32.cell? (b7.add 2) = some (.slice a33 l33 c33) ∧
                        ((0 ≤ (x14 : Int) ∧ (x14 : Int) < (l33 : Nat)) ∧
                          AddrK a33 fun b34 =>
                          ∃ (x35 : Int), w32.cell? (b34.add ((x14 : Int).toNat * 1)) = some (.int .i64 x35) ∧
                          (∃ (a36 : Option Addr) (l36 : Nat) (c36 : Nat), w32.cell? (b7.add 2) = some (.slice a36 l36 c36) ∧
                            ((0 ≤ (x14 : Int) ∧ (x14 : Int) < (l36 : Nat)) ∧
                              AddrK a36 fun b37 =>
                              ∃ (x38 : Int), w32.cell? (b37.add ((x14 : Int).toNat * 1)) = some (.int .i64 x38) ∧
                              (I9 (IntKind.wrap .i64 (x12 + (if (IntKind.wrap .i64 (x31 * x22) : Int) < IntKind.wrap .i64 (x28 * x21) then IntKind.wrap .i64 (x31 * x22) else IntKind.wrap .i64 (x28 * x21)))) (IntKind.wrap .i64 (x13 + (if (IntKind.wrap .i64 (x38 * x22) : Int) > IntKind.wrap .i64 (x35 * x21) then IntKind.wrap .i64 (x38 * x22) else IntKind.wrap .i64 (x35 * x21)))) (IntKind.wrap .i64 (x14 + 1)) w32 ∧ μ10 (IntKind.wrap .i64 (x12 + (if (IntKind.wrap .i64 (x31 * x22) : Int) < IntKind.wrap .i64 (x28 * x21) then IntKind.wrap .i64 (x31 * x22) else IntKind.wrap .i64 (x28 * x21)))) (IntKind.wrap .i64 (x13 + (if (IntKind.wrap .i64 (x38 * x22) : Int) > IntKind.wrap .i64 (x35 * x21) then IntKind.wrap .i64 (x38 * x22) else IntKind.wrap .i64 (x35 * x21)))) (IntKind.wrap .i64 (x14 + 1)) w32 < μ10 x12 x13 x14 w11))))))))))))))
    (K x12 x13 w11))
def ann93 : Ann := (.two .nil (.two .nil (.two (.two .nil (.one (.loop [(8, (.one (.int .i64))), (9, (.one (.int .i64))), (10, (.one (.int .i64)))] [1, 2, 3] (.two (.two .nil (.two .nil .nil)) (.two (.one (.two (.two .nil (.two .nil .nil)) (.two .nil (.two (.any 18 (.take 0 (.take 1 (.take 2 (.take 3 (.take 4 (.take 5 (.take 6 (.take 7 (.take 8 (.take 9 (.take 10 (.take 11 (.take 12 (.take 13 (.take 14 (.take 15 (.take 16 (.take 17 .done))))))))))))))))))) (.any 18 (.take 0 (.take 1 (.take 2 (.take 3 (.take 4 (.take 5 (.take 6 (.take 7 (.take 8 (.take 9 (.take 10 (.take 11 (.take 12 (.take 13 (.take 14 (.take 15 (.take 16 (.take 17 .done))))))))))))))))))))))) .nil))))) (.two .nil .nil))))
noncomputable def code93 : Code := match Try.f93.body with | some c => c | none => .skip
theorem wp93 (s1 : ByteArray) (a2 : Option Addr) (l2 : Nat) (c2 : Nat) (a3 : Option Addr) (l3 : Nat) (c3 : Nat) (x4 : Int) (a5 : Option Addr) (l5 : Nat) (c5 : Nat) (x6 : Int) (K : Int → Int → World → Prop) (w : World) : WP Try.prog tab code93 ann93 (fnQ tab Try.f93.results.toList [(.one (.int .i64)), (.one (.int .i64))] K) (argE 0 [(.agg #[(.string s1), (.slice a2 l2 c2), (.slice a3 l3 c3), (.int .i64 x4)]), (.slice a5 l5 c5), (.int .i64 x6)]) w = N93 s1 a2 l2 c2 a3 l3 c3 x4 a5 l5 c5 x6 K w := by kernel_rfl
theorem calls93 (s1 : ByteArray) (a2 : Option Addr) (l2 : Nat) (c2 : Nat) (a3 : Option Addr) (l3 : Nat) (c3 : Nat) (x4 : Int) (a5 : Option Addr) (l5 : Nat) (c5 : Nat) (x6 : Int) (K : Int → Int → World → Prop) (w : World) (h : N93 s1 a2 l2 c2 a3 l3 c3 x4 a5 l5 c5 x6 K w) : Calls Try.prog 93 #[(.agg #[(.string s1), (.slice a2 l2 c2), (.slice a3 l3 c3), (.int .i64 x4)]), (.slice a5 l5 c5), (.int .i64 x6)] w fun en w' => ∃ (x39 : Int), ∃ (x40 : Int), en = .returned (.tuple #[(.int .i64 x39), (.int .i64 x40)]) ∧ K x39 x40 w' :=
  have e : (fun en w' => ExShs [(.one (.int .i64)), (.one (.int .i64))] fun vs => en = .returned (tupled vs) ∧ ap [(.one (.int .i64)), (.one (.int .i64))] K vs fun p => p w') = (fun (en : Ending) (w' : World) => ∃ (x39 : Int), ∃ (x40 : Int), en = .returned (.tuple #[(.int .i64 x39), (.int .i64 x40)]) ∧ K x39 x40 w') := by kernel_rfl
  e ▸ fn_sound tabOk mixed Try.func93 (by kernel_rfl : Try.f93.body = some code93) ann93 [(.agg #[(.string s1), (.slice a2 l2 c2), (.slice a3 l3 c3), (.int .i64 x4)]), (.slice a5 l5 c5), (.int .i64 x6)] [(.one (.int .i64)), (.one (.int .i64))] K w (by kernel_rfl) ((wp93 s1 a2 l2 c2 a3 l3 c3 x4 a5 l5 c5 x6 K w).symm ▸ h)
end Go.Proofs.Ytggfnakhmjkoeaa

namespace Go.Proofs.Ytggfnakhmjkoeaa
open Go Go.V Go.Proofs
open Go.RowKit (Below)
/-! manystrand/manystrandref06.single -/
def N94 (a1 : Option Addr) (l1 : Nat) (_c1 : Nat) (K : Int → Bool → World → Prop) (w : World) : Prop :=
  DrewK w fun w2 =>
  BoolK (((l1 : Nat) : Int) == 1)
  ((0 ≤ (0 : Int) ∧ (0 : Int) < (l1 : Nat)) ∧
    AddrK a1 fun b3 =>
    (0 ≤ (0 : Int) ∧ (0 : Int) < (2 : Nat)) ∧
    ∃ (x4 : Int), w2.cell? ((b3.add ((0 : Int).toNat * 2)).add ((0 : Int).toNat * 1)) = some (.int .i64 x4) ∧
    ((0 ≤ (0 : Int) ∧ (0 : Int) < (l1 : Nat)) ∧
      AddrK a1 fun b5 =>
      (0 ≤ (1 : Int) ∧ (1 : Int) < (2 : Nat)) ∧
      ∃ (x6 : Int), w2.cell? ((b5.add ((0 : Int).toNat * 2)).add ((1 : Int).toNat * 1)) = some (.int .i64 x6) ∧
      (BoolK ((x4 : Int) == x6)
        ((0 ≤ (0 : Int) ∧ (0 : Int) < (l1 : Nat)) ∧
          AddrK a1 fun b7 =>
          (0 ≤ (0 : Int) ∧ (0 : Int) < (2 : Nat)) ∧
          ∃ (x8 : Int), w2.cell? ((b7.add ((0 : Int).toNat * 2)).add ((0 : Int).toNat * 1)) = some (.int .i64 x8) ∧
          (K x8 true w2))
        (K 0 false w2))))
  (K 0 false w2)
def ann94 : Ann := (.two .nil (.two (.two (.any 14 (.take 0 (.take 1 (.take 2 (.take 3 (.take 4 (.take 5 (.take 6 (.take 7 (.take 8 (.take 9 (.take 10 (.take 11 (.take 12 (.take 13 .done))))))))))))))) (.two (.two .nil .nil) .nil)) (.two .nil .nil)))
noncomputable def code94 : Code := match Try.f94.body with | some c => c | none => .skip
theorem wp94 (a1 : Option Addr) (l1 : Nat) (c1 : Nat) (K : Int → Bool → World → Prop) (w : World) : WP Try.prog tab code94 ann94 (fnQ tab Try.f94.results.toList [(.one (.int .i64)), (.one .bool)] K) (argE 0 [(.slice a1 l1 c1)]) w = N94 a1 l1 c1 K w := by kernel_rfl
theorem calls94 (a1 : Option Addr) (l1 : Nat) (c1 : Nat) (K : Int → Bool → World → Prop) (w : World) (h : N94 a1 l1 c1 K w) : Calls Try.prog 94 #[(.slice a1 l1 c1)] w fun en w' => ∃ (x9 : Int), ∃ (p10 : Bool), en = .returned (.tuple #[(.int .i64 x9), (.bool p10)]) ∧ K x9 p10 w' :=
  have e : (fun en w' => ExShs [(.one (.int .i64)), (.one .bool)] fun vs => en = .returned (tupled vs) ∧ ap [(.one (.int .i64)), (.one .bool)] K vs fun p => p w') = (fun (en : Ending) (w' : World) => ∃ (x9 : Int), ∃ (p10 : Bool), en = .returned (.tuple #[(.int .i64 x9), (.bool p10)]) ∧ K x9 p10 w') := by kernel_rfl
  e ▸ fn_sound tabOk mixed Try.func94 (by kernel_rfl : Try.f94.body = some code94) ann94 [(.slice a1 l1 c1)] [(.one (.int .i64)), (.one .bool)] K w (by kernel_rfl) ((wp94 a1 l1 c1 K w).symm ▸ h)
end Go.Proofs.Ytggfnakhmjkoeaa

namespace Go.Proofs.Ytggfnakhmjkoeaa
open Go Go.V Go.Proofs
open Go.RowKit (Below)
/-! manystrand/manystrandref06.element -/
def N95 (s1 : ByteArray) (a2 : Option Addr) (l2 : Nat) (c2 : Nat) (a3 : Option Addr) (l3 : Nat) (c3 : Nat) (x4 : Int) (a5 : Option Addr) (l5 : Nat) (_c5 : Nat) (x6 : Int) (x7 : Int) (K : Bool → World → Prop) (w : World) : Prop :=
  AllocK w (#[(.string s1), (.slice a2 l2 c2), (.slice a3 l3 c3), (.int .i64 x4)]) 24 fun b8 w9 =>
  BoolK ((x6 : Int) == 0)
  (DrewK w9 fun w10 =>
    BoolK (decide ((x7 : Int) ≥ 1))
    (∃ (a11 : Option Addr) (l11 : Nat) (c11 : Nat), w10.cell? (b8.add 2) = some (.slice a11 l11 c11) ∧
      (BoolK (decide ((x7 : Int) ≤ (l11 : Nat)))
        (∃ (a12 : Option Addr) (l12 : Nat) (c12 : Nat), w10.cell? (b8.add 1) = some (.slice a12 l12 c12) ∧
          ((0 ≤ (1 : Int) ∧ (1 : Int) < (l12 : Nat)) ∧
            AddrK a12 fun b13 =>
            ∃ (x14 : Int), w10.cell? (b13.add ((1 : Int).toNat * 1)) = some (.int .i64 x14) ∧
            ((0 ≤ (x14 : Int) ∧ (x14 : Int) < (l5 : Nat)) ∧
              AddrK a5 fun b15 =>
              ∃ (a16 : Option Addr) (l16 : Nat) (c16 : Nat), w10.cell? (b15.add ((x14 : Int).toNat * 1)) = some (.slice a16 l16 c16) ∧
              (∃ (a17 : Option Addr) (l17 : Nat) (c17 : Nat), w10.cell? (b8.add 2) = some (.slice a17 l17 c17) ∧
                ((0 ≤ (IntKind.wrap .i64 (x7 - 1) : Int) ∧ (IntKind.wrap .i64 (x7 - 1) : Int) < (l17 : Nat)) ∧
                  AddrK a17 fun b18 =>
                  ∃ (x19 : Int), w10.cell? (b18.add ((IntKind.wrap .i64 (x7 - 1) : Int).toNat * 1)) = some (.int .i64 x19) ∧
                  (Calls Try.prog 38 #[(.slice a16 l16 c16), (.int .i64 x19)] w10 fun e22 w21 =>
                    ∃ (p20 : Bool), e22 = .returned (.bool p20) ∧
                    (Below w10.heap.size w10 w21 ∧
                      (K p20 w21))))))))
        (K false w10)))
    (K false w10))
  (∃ (I23 : Int → World → Prop) (μ24 : Int → World → Nat),
    (I23 0 w9 ∧ True) ∧
    ∀ (w25 : World) (x26 : Int), I23 x26 w25 →
    ∃ (a27 : Option Addr) (l27 : Nat) (c27 : Nat), w25.cell? (b8.add 2) = some (.slice a27 l27 c27) ∧
    (BoolK (decide ((x26 : Int) < (l27 : Nat)))
      (∃ (a28 : Option Addr) (l28 : Nat) (c28 : Nat), w25.cell? (b8.add 2) = some (.slice a28 l28 c28) ∧
        ((0 ≤ (x26 : Int) ∧ (x26 : Int) < (l28 : Nat)) ∧
          AddrK a28 fun b29 =>
          ∃ (x30 : Int), w25.cell? (b29.add ((x26 : Int).toNat * 1)) = some (.int .i64 x30) ∧
          (BoolK ((x30 : Int) == x7)
            (∃ (a31 : Option Addr) (l31 : Nat) (c31 : Nat), w25.cell? (b8.add 1) = some (.slice a31 l31 c31) ∧
              ((0 ≤ (0 : Int) ∧ (0 : Int) < (l31 : Nat)) ∧
                AddrK a31 fun b32 =>
                ∃ (x33 : Int), w25.cell? (b32.add ((0 : Int).toNat * 1)) = some (.int .i64 x33) ∧
                ((0 ≤ (x33 : Int) ∧ (x33 : Int) < (l5 : Nat)) ∧
                  AddrK a5 fun b34 =>
                  ∃ (a35 : Option Addr) (l35 : Nat) (c35 : Nat), w25.cell? (b34.add ((x33 : Int).toNat * 1)) = some (.slice a35 l35 c35) ∧
                  (Calls Try.prog 38 #[(.slice a35 l35 c35), (.int .i64 (IntKind.wrap .i64 (x26 + 1)))] w25 fun e38 w37 =>
                    ∃ (p36 : Bool), e38 = .returned (.bool p36) ∧
                    (BoolK p36
                      (K true w37)
                      (I23 (IntKind.wrap .i64 (x26 + 1)) w37 ∧ μ24 (IntKind.wrap .i64 (x26 + 1)) w37 < μ24 x26 w25))))))
            (I23 (IntKind.wrap .i64 (x26 + 1)) w25 ∧ μ24 (IntKind.wrap .i64 (x26 + 1)) w25 < μ24 x26 w25))))
      (K false w25)))
def ann95 : Ann := (.two .nil (.two (.two .nil (.two (.two (.any 26 (.take 0 (.take 1 (.take 2 (.take 3 (.take 4 (.take 5 (.take 6 (.take 7 (.take 8 (.take 9 (.take 10 (.take 11 (.take 12 (.take 13 (.take 14 (.take 15 (.take 16 (.take 17 (.take 18 (.take 19 (.take 20 (.take 21 (.take 22 (.one 23 (.take 24 (.take 25 .done))))))))))))))))))))))))))) .nil) .nil)) (.two (.two .nil (.one (.loop [(9, (.one (.int .i64)))] [1, 3, 4] (.two (.two .nil (.two .nil .nil)) (.two (.one (.two .nil (.two (.two .nil .nil) .nil))) .nil))))) (.two .nil .nil))))
noncomputable def code95 : Code := match Try.f95.body with | some c => c | none => .skip
theorem wp95 (s1 : ByteArray) (a2 : Option Addr) (l2 : Nat) (c2 : Nat) (a3 : Option Addr) (l3 : Nat) (c3 : Nat) (x4 : Int) (a5 : Option Addr) (l5 : Nat) (c5 : Nat) (x6 : Int) (x7 : Int) (K : Bool → World → Prop) (w : World) : WP Try.prog tab code95 ann95 (fnQ tab Try.f95.results.toList [(.one .bool)] K) (argE 0 [(.agg #[(.string s1), (.slice a2 l2 c2), (.slice a3 l3 c3), (.int .i64 x4)]), (.slice a5 l5 c5), (.int .i64 x6), (.int .i64 x7)]) w = N95 s1 a2 l2 c2 a3 l3 c3 x4 a5 l5 c5 x6 x7 K w := by kernel_rfl
theorem calls95 (s1 : ByteArray) (a2 : Option Addr) (l2 : Nat) (c2 : Nat) (a3 : Option Addr) (l3 : Nat) (c3 : Nat) (x4 : Int) (a5 : Option Addr) (l5 : Nat) (c5 : Nat) (x6 : Int) (x7 : Int) (K : Bool → World → Prop) (w : World) (h : N95 s1 a2 l2 c2 a3 l3 c3 x4 a5 l5 c5 x6 x7 K w) : Calls Try.prog 95 #[(.agg #[(.string s1), (.slice a2 l2 c2), (.slice a3 l3 c3), (.int .i64 x4)]), (.slice a5 l5 c5), (.int .i64 x6), (.int .i64 x7)] w fun en w' => ∃ (p39 : Bool), en = .returned (.bool p39) ∧ K p39 w' :=
  have e : (fun en w' => ExShs [(.one .bool)] fun vs => en = .returned (tupled vs) ∧ ap [(.one .bool)] K vs fun p => p w') = (fun (en : Ending) (w' : World) => ∃ (p39 : Bool), en = .returned (.bool p39) ∧ K p39 w') := by kernel_rfl
  e ▸ fn_sound tabOk mixed Try.func95 (by kernel_rfl : Try.f95.body = some code95) ann95 [(.agg #[(.string s1), (.slice a2 l2 c2), (.slice a3 l3 c3), (.int .i64 x4)]), (.slice a5 l5 c5), (.int .i64 x6), (.int .i64 x7)] [(.one .bool)] K w (by kernel_rfl) ((wp95 s1 a2 l2 c2 a3 l3 c3 x4 a5 l5 c5 x6 x7 K w).symm ▸ h)
end Go.Proofs.Ytggfnakhmjkoeaa
