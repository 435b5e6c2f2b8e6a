/- A part of the proof: plain forms of functions and laws about them. -/
import Derived.Test.YtggfnakhmjkoeaaKeepC
import Derived.Lib.Mul64
import Derived.Laws.Bits64b
import Derived.Laws.Externs
namespace Go.Proofs.Ytggfnakhmjkoeaa
open Go Go.V Go.Proofs
open Go.RowKit (Below)

namespace M64
theorem maskN (a : Nat) (ha : a < 18446744073709551616) : bits .and .u64 (a : Int) 4294967295 = ((a % 4294967296 : Nat) : Int) := by
  have h := bits_and_u64_nat a 4294967295 ha (by omega)
  have e : a &&& 4294967295 = a % 4294967296 := Nat.and_two_pow_sub_one_eq_mod a 32
  rw [e] at h
  exact h
theorem mulN (a b : Nat) : (a : Int) * (b : Int) = ((a * b : Nat) : Int) := (Int.natCast_mul a b).symm
theorem addN (a b : Nat) : (a : Int) + (b : Int) = ((a + b : Nat) : Int) := (Int.natCast_add a b).symm
theorem wrapN (a : Nat) (ha : a < 18446744073709551616) : IntKind.u64.wrap (a : Int) = (a : Int) := by rw [IntKind.wrap_u64]; omega
theorem wrapM (a : Nat) : IntKind.u64.wrap (a : Int) = ((a % 18446744073709551616 : Nat) : Int) := by rw [IntKind.wrap_u64]; omega
end M64
theorem fdiv32 (a : Nat) : ((a : Int).fdiv (2 ^ (min (32 : Int).toNat (IntKind.bits .u64)))) = ((a / 4294967296 : Nat) : Int) := by
  show (a : Int).fdiv 4294967296 = _
  rw [Int.fdiv_eq_ediv_of_nonneg _ (by omega)]; omega
theorem mask32 (a : Nat) (ha : a < 18446744073709551616) : IntKind.wrap .u64 (((BitVec.ofInt (IntKind.bits .u64) (a : Int)) &&& (BitVec.ofInt (IntKind.bits .u64) 4294967295)).toNat) = ((a % 4294967296 : Nat) : Int) := M64.maskN a ha

set_option maxRecDepth 100000 in
theorem c86 (w : World) (x y : Nat) (hx : x < 18446744073709551616) (hy : y < 18446744073709551616) :
    Calls Try.prog 86 #[.int .u64 (x : Int), .int .u64 (y : Int)] w fun en w' => ∃ h l, en = .returned (.tuple #[.int .u64 h, .int .u64 l]) ∧ (h = ((x * y / 18446744073709551616 : Nat) : Int) ∧ l = ((x * y % 18446744073709551616 : Nat) : Int) ∧ w' = w) := by
  obtain ⟨bd, bt, bw, hhi⟩ := Lib.mul64_hi x y hx hy
  have ba := Lib.half_mul_le (a := x / 4294967296) (b := y / 4294967296) (by omega) (by omega)
  have bb := Lib.half_mul_le (a := x / 4294967296) (b := y % 4294967296) (by omega) (by omega)
  have bc := Lib.half_mul_le (a := x % 4294967296) (b := y / 4294967296) (by omega) (by omega)
  have ba' : x / 4294967296 * (y / 4294967296) < 18446744073709551616 := by omega
  have bb' : x / 4294967296 * (y % 4294967296) < 18446744073709551616 := by omega
  have bc' : x % 4294967296 * (y / 4294967296) < 18446744073709551616 := by omega
  have bh1 : x / 4294967296 * (y / 4294967296) + (x / 4294967296 * (y % 4294967296) + x % 4294967296 * (y % 4294967296) / 4294967296) / 4294967296 < 18446744073709551616 := by omega
  have bh : x / 4294967296 * (y / 4294967296) + (x / 4294967296 * (y % 4294967296) + x % 4294967296 * (y % 4294967296) / 4294967296) / 4294967296 + ((x / 4294967296 * (y % 4294967296) + x % 4294967296 * (y % 4294967296) / 4294967296) % 4294967296 + x % 4294967296 * (y / 4294967296)) / 4294967296 < 18446744073709551616 := by omega
  refine calls86 _ _ _ w ?_
  unfold N86
  simp only [fdiv32, mask32 x hx, mask32 y hy, M64.mulN, M64.addN, M64.wrapN _ bd, M64.wrapN _ bb', M64.wrapN _ bt, mask32 _ bt, M64.wrapN _ bc', M64.wrapN _ bw, M64.wrapN _ ba', M64.wrapN _ bh1, M64.wrapN _ bh, M64.wrapM (x * y)]
  rw [hhi]
  simp

theorem setTwo {w : World} {b t : Nat} {z0 z1 v0 v1 : Value} {F : World → Prop} (hb : Blk w b #[z0, z1] t) (h : ∀ w', Blk w' b #[v0, v1] t → But b w w' → F w') :
    SetK w ((⟨b, 0, none⟩ : Addr).add 0) v0 fun w2 => SetK w2 ((⟨b, 0, none⟩ : Addr).add 1) v1 F := by
  rw [add_mk, add_mk]
  refine SetK.mk hb (by simp) fun w2 h2 g2 => SetK.mk h2 (by simp) fun w3 h3 g3 => h w3 (by simpa using h3) (g2.trans g3)
theorem blk2 {w : World} {b t : Nat} {v0 v1 : Value} (h : Blk w b #[v0, v1] t) : w.cell? ((⟨b, 0, none⟩ : Addr).add 0) = some v0 ∧ w.cell? ((⟨b, 0, none⟩ : Addr).add 1) = some v1 := by
  rw [add_mk, add_mk, h.cell, h.cell]; exact ⟨rfl, rfl⟩
/-- the number that (h, l) stands for -/
structure Wd (h l z : Int) : Prop where
  l0 : 0 ≤ l
  l1 : l < 18446744073709551616
  h0 : -9223372036854775808 ≤ h
  h1 : h < 9223372036854775808
  eq : z = h * 18446744073709551616 + l

theorem xor_all (n : Nat) (x : BitVec n) : BitVec.allOnes n ^^^ x = ~~~x := by ext i hi; simp
theorem not64 (a : Nat) (ha : a < 18446744073709551616) : IntKind.wrap (.u64 : IntKind) ((BitVec.ofInt (IntKind.bits (.u64 : IntKind)) (if IntKind.signed (.u64 : IntKind) then -1 else IntKind.max (.u64 : IntKind))) ^^^ (BitVec.ofInt (IntKind.bits (.u64 : IntKind)) (a : Int))).toNat = 18446744073709551615 - (a : Int) := by
  have e1 : (BitVec.ofInt (IntKind.bits (.u64 : IntKind)) (if IntKind.signed (.u64 : IntKind) then -1 else IntKind.max (.u64 : IntKind))) = BitVec.allOnes 64 := by kernel_rfl
  have e2 : BitVec.allOnes 64 ^^^ (BitVec.ofInt 64 (a : Int)) = ~~~ (BitVec.ofInt 64 (a : Int)) := xor_all 64 _
  show IntKind.wrap .u64 ((_ ^^^ BitVec.ofInt 64 (a : Int)).toNat : Int) = _
  rw [show (BitVec.ofInt (IntKind.bits (.u64 : IntKind)) (if IntKind.signed (.u64 : IntKind) then -1 else IntKind.max (.u64 : IntKind)) : BitVec 64) = BitVec.allOnes 64 from e1, e2, BitVec.toNat_not, BitVec.toNat_ofInt, IntKind.wrap_u64]
  omega

theorem run_add64' (w : World) (x y : Int) (hx : 0 ≤ x) (hy : 0 ≤ y) : Sem.run Try.prog (callFunc 85 #[.int .u64 x, .int .u64 y, .int .u64 0]) w = .ok (.value (.tuple #[.int .u64 ((x + y) % 18446744073709551616), .int .u64 ((x + y) / 18446744073709551616)])) w := by
  rw [run_callFunc_extern (P := Try.prog) Try.func85 (by kernel_rfl) (by kernel_rfl) (by kernel_rfl) (e := add64Entry) (by kernel_rfl), run_add64 x y 0 hx hy (by omega) (by omega)]
  simp only [Result.andThen, Int.add_zero]

theorem c72 (w : World) (a b : Int) (ha : -9223372036854775808 ≤ a ∧ a ≤ 9223372036854775807) (hb : -9223372036854775808 ≤ b ∧ b ≤ 9223372036854775807) :
    Calls Try.prog 72 #[.int .i64 a, .int .i64 b] w fun en w' => ∃ h l, en = .returned (.agg #[.int .i64 h, .int .u64 l]) ∧ (Wd h l (a * b) ∧ Ext w w') := by
  refine calls72 _ _ _ w ?_
  refine AllocK.mk fun b3 w4 hb3 hblk hx4 => ?_
  refine ⟨fun x w' => x = (a.natAbs : Int) ∧ w' = w4, ?_, ?_⟩
  · rintro w6 _ ⟨rfl, rfl⟩
    refine ⟨fun x w' => x = (b.natAbs : Int) ∧ w' = w6, ?_, ?_⟩
    · rintro w9 _ ⟨rfl, rfl⟩
      refine (c86 w9 a.natAbs b.natAbs (by omega) (by omega)).mono ?_
      rintro en w13 ⟨hi, lo, rfl, rfl, rfl, rfl⟩
      have hp : a.natAbs * b.natAbs ≤ 9223372036854775808 * 9223372036854775808 := Nat.mul_le_mul (by omega) (by omega)
      have hdm := Nat.div_add_mod (a.natAbs * b.natAbs) 18446744073709551616
      have hml := Nat.mod_lt (a.natAbs * b.natAbs) (show 0 < 18446744073709551616 by omega)
      have hab : a * b = if (a < 0) = (b < 0) then ((a.natAbs * b.natAbs : Nat) : Int) else -((a.natAbs * b.natAbs : Nat) : Int) := by
        rw [Int.natCast_mul]
        rcases Int.lt_or_le a 0 with h1 | h1
        · have e1 : (a.natAbs : Int) = -a := by omega
          rcases Int.lt_or_le b 0 with h2 | h2
          · have e2 : (b.natAbs : Int) = -b := by omega
            rw [if_pos (by simp [h1, h2]), e1, e2, Int.neg_mul_neg]
          · have e2 : (b.natAbs : Int) = b := by omega
            rw [if_neg (by simp [h1]; omega), e1, e2, Int.neg_mul, Int.neg_neg]
        · have e1 : (a.natAbs : Int) = a := by omega
          rcases Int.lt_or_le b 0 with h2 | h2
          · have e2 : (b.natAbs : Int) = -b := by omega
            rw [if_neg (by simp [h2]; omega), e1, e2, Int.mul_neg, Int.neg_neg]
          · have e2 : (b.natAbs : Int) = b := by omega
            rw [if_pos (by simp; omega), e1, e2]
      generalize hP : a.natAbs * b.natAbs = p at hp hdm hml hab
      generalize hH : p / 18446744073709551616 = hi at hdm
      generalize hLo : p % 18446744073709551616 = lo at hdm hml
      have fin : ∀ (h l : Int), Wd h l (a * b) → SetK w13 ((⟨b3, 0, none⟩ : Addr).add 0) (.int .i64 h) fun w15 => SetK w15 ((⟨b3, 0, none⟩ : Addr).add 1) (.int .u64 l) fun w16 => ∃ x17, w16.cell? ((⟨b3, 0, none⟩ : Addr).add 0) = some (.int .i64 x17) ∧ ∃ x18, w16.cell? ((⟨b3, 0, none⟩ : Addr).add 1) = some (.int .u64 x18) ∧ (Wd x17 x18 (a * b) ∧ Ext w w16) := fun h l hw =>
        setTwo hblk fun w16 hb16 hbut => ⟨_, (blk2 hb16).1, _, (blk2 hb16).2, hw, hbut.below hx4 (by omega)⟩
      have b1 : hi ≤ 4611686018427387904 := by omega
      refine ⟨_, _, rfl, BoolK.mk (fun t => ?_) (fun t => ?_)⟩
      · have hne : ¬ ((a < 0) = (b < 0)) := by
          intro e; simp only [e] at t; simp at t
        rw [if_neg hne] at hab
        refine BoolK.mk (fun t2 => ?_) (fun t2 => ?_)
        · refine fin _ _ ?_
          have t2 := eq_of_beq t2
          rw [not64 hi (by omega)]
          rw [IntKind.wrap_u64] at t2 ⊢
          rw [IntKind.wrap_u64, IntKind.wrap_i64]
          refine ⟨by omega, by omega, by omega, by omega, ?_⟩
          rw [hab]; omega
        · refine fin _ _ ?_
          have t2 := ne_of_beq_false t2
          rw [not64 hi (by omega)]
          rw [IntKind.wrap_u64] at t2 ⊢
          rw [IntKind.wrap_i64]
          refine ⟨by omega, by omega, by omega, by omega, ?_⟩
          rw [hab]; omega
      · have he : (a < 0) = (b < 0) := by
          simp at t; exact propext t
        rw [if_pos he] at hab
        refine fin _ _ ?_
        rw [IntKind.wrap_i64]
        refine ⟨by omega, by omega, by omega, by omega, ?_⟩
        rw [hab]; omega
    · refine BoolK.mk (fun t => ⟨?_, rfl⟩) (fun t => ⟨?_, rfl⟩)
      · simp at t; rw [IntKind.wrap_u64, IntKind.wrap_u64]; omega
      · simp at t; rw [IntKind.wrap_u64]; omega
  · refine BoolK.mk (fun t => ⟨?_, rfl⟩) (fun t => ⟨?_, rfl⟩)
    · simp at t; rw [IntKind.wrap_u64, IntKind.wrap_u64]; omega
    · simp at t; rw [IntKind.wrap_u64]; omega

theorem c71 (w : World) (h1 l1 h2 l2 z1 z2 : Int) (k1 : Wd h1 l1 z1) (k2 : Wd h2 l2 z2) (hb : -170141183460469231731687303715884105728 ≤ z1 + z2 ∧ z1 + z2 < 170141183460469231731687303715884105728) :
    Calls Try.prog 71 #[.agg #[.int .i64 h1, .int .u64 l1], .agg #[.int .i64 h2, .int .u64 l2]] w fun en w' => ∃ h l, en = .returned (.agg #[.int .i64 h, .int .u64 l]) ∧ (Wd h l (z1 + z2) ∧ Ext w w') := by
  refine calls71 _ _ _ _ _ w ?_
  obtain ⟨p1, p2, p3, p4, rfl⟩ := k1
  obtain ⟨q1, q2, q3, q4, rfl⟩ := k2
  refine AllocK.mk fun b5 w6 hb5 hk5 hx5 => AllocK.mk fun b7 w8 hb7 hk7 hx7 => AllocK.mk fun b9 w10 hb9 hk9 hx9 => ?_
  have g5 := blk2 (hk5.ext (hx7.trans hx9))
  have g7 := blk2 (hk7.ext hx9)
  rw [add_mk0] at g5 g7
  refine ⟨_, g5.2, _, g7.2, _, _, _, run_add64' _ _ _ p1 q1, _, g5.1, _, g7.1, ?_⟩
  refine setTwo hk9 fun w19 hk19 hbut => ⟨_, (blk2 hk19).1, _, (blk2 hk19).2, ?_, hbut.below ((hx5.trans hx7).trans hx9) (by have := hx5.size; have := hx7.size; omega)⟩
  rw [IntKind.wrap_i64, IntKind.wrap_i64, IntKind.wrap_i64]
  exact ⟨by omega, by omega, by omega, by omega, by omega⟩

def cmpI (x y : Int) : Int := if x < y then -1 else if x = y then 0 else 1
theorem c73 (w : World) (h1 l1 h2 l2 z1 z2 : Int) (k1 : Wd h1 l1 z1) (k2 : Wd h2 l2 z2) :
    Calls Try.prog 73 #[.agg #[.int .i64 h1, .int .u64 l1], .agg #[.int .i64 h2, .int .u64 l2]] w fun en w' => ∃ x, en = .returned (.int .i64 x) ∧ (x = cmpI z1 z2 ∧ Ext w w') := by
  refine calls73 _ _ _ _ _ w ?_
  obtain ⟨p1, p2, p3, p4, rfl⟩ := k1
  obtain ⟨q1, q2, q3, q4, rfl⟩ := k2
  refine AllocK.mk fun b5 w6 hb5 hk5 hx5 => AllocK.mk fun b7 w8 hb7 hk7 hx7 => ?_
  have g5 := blk2 (hk5.ext hx7)
  have g7 := blk2 hk7
  have e5 := g5.1; have e7 := g7.1
  rw [add_mk0] at e5 e7
  have hx := hx5.trans hx7
  refine ⟨fun p w' => w' = w8 ∧ (p = true ↔ (h1 < h2 ∨ (h1 = h2 ∧ l1 < l2))), ?_, ?_⟩
  · rintro w10 p ⟨rfl, hp⟩
    refine BoolK.mk (fun t => ?_) (fun t => ?_)
    · have := hp.1 t
      refine ⟨?_, hx⟩
      rw [cmpI, if_pos (by omega)]
    · have hn : ¬ (h1 < h2 ∨ (h1 = h2 ∧ l1 < l2)) := fun h => by rw [hp.2 h] at t; cases t
      refine ⟨_, g5.1, _, g5.2, _, g7.1, _, g7.2, BoolK.mk (fun t2 => ?_) (fun t2 => ?_)⟩
      · simp at t2
        refine ⟨?_, hx⟩
        rw [cmpI, if_neg (by omega), if_pos (by omega)]
      · have : ¬ (h1 = h2 ∧ l1 = l2) := fun h => by simp [h.1, h.2] at t2
        refine ⟨?_, hx⟩
        rw [cmpI, if_neg (by omega), if_neg (by omega)]
  · refine ⟨_, e5, _, e7, BoolK.mk (fun t => ⟨rfl, ?_⟩) (fun t => ⟨_, e5, _, e7, BoolK.mk (fun t2 => ⟨_, g5.2, _, g7.2, rfl, ?_⟩) (fun t2 => ⟨rfl, ?_⟩)⟩)⟩
    · simp at t; simp [t]
    · simp at t t2; simp [t2]
    · simp at t t2; simp; omega

theorem c74 (w : World) (a n b : Int) (ha : -9223372036854775808 ≤ a ∧ a ≤ 9223372036854775807) (hn : -9223372036854775808 ≤ n ∧ n ≤ 9223372036854775807) (hb : -9223372036854775808 ≤ b ∧ b ≤ 9223372036854775807) :
    Calls Try.prog 74 #[.int .i64 a, .int .i64 n, .int .i64 b] w fun en w' => ∃ x, en = .returned (.int .i64 x) ∧ (x = cmpI (a + n) b ∧ Ext w w') := by
  refine calls74 _ _ _ _ w ?_
  refine (c72 w a 1 ha (by omega)).mono ?_
  rintro en w6 ⟨h1, l1, rfl, k1, hx6⟩
  refine ⟨_, _, rfl, (c72 w6 n 1 hn (by omega)).mono ?_⟩
  rintro en w10 ⟨h2, l2, rfl, k2, hx10⟩
  refine ⟨_, _, rfl, (c71 w10 _ _ _ _ _ _ k1 k2 (by omega)).mono ?_⟩
  rintro en w14 ⟨h3, l3, rfl, k3, hx14⟩
  refine ⟨_, _, rfl, (c72 w14 b 1 hb (by omega)).mono ?_⟩
  rintro en w18 ⟨h4, l4, rfl, k4, hx18⟩
  refine ⟨_, _, rfl, (c73 w18 _ _ _ _ _ _ k3 k4).mono ?_⟩
  rintro en w21 ⟨x, rfl, rfl, hx21⟩
  refine ⟨_, rfl, ?_, (((hx6.trans hx10).trans hx14).trans hx18).trans hx21⟩
  rw [Int.mul_one, Int.mul_one, Int.mul_one]
end Go.Proofs.Ytggfnakhmjkoeaa

namespace Go.Proofs.Ytggfnakhmjkoeaa
open Go Go.V Go.Proofs
open Go.RowKit (Below)
/-! manystrand/manystrandref06.whole -/
def N87 (x1 : Int) (x2 : Int) (K : Int → Int → World → Prop) (w : World) : Prop :=
  AllocK w (#[.int .i64 0, .int .i64 0]) 87 fun b3 w4 =>
  0 ≤ (32 : Int) ∧
  (0 ≤ (32 : Int) ∧
    (SetK w4 (b3.add 0) (.int .i64 (IntKind.wrap .i64 (x1 + ((x2 : Int).fdiv (2 ^ (min (32 : Int).toNat (IntKind.bits .i64))))))) fun w5 =>
      SetK w5 (b3.add 1) (.int .i64 (IntKind.wrap .i64 (x2 - (IntKind.wrap .i64 (((x2 : Int).fdiv (2 ^ (min (32 : Int).toNat (IntKind.bits .i64)))) * 2 ^ (min (32 : Int).toNat (IntKind.bits .i64))))))) fun w6 =>
      ∃ (x7 : Int), w6.cell? (b3.add 0) = some (.int .i64 x7) ∧
      (∃ (x8 : Int), w6.cell? (b3.add 1) = some (.int .i64 x8) ∧
        (K x7 x8 w6))))
def ann87 : Ann := (.two .nil (.two .nil (.two .nil .nil)))
noncomputable def code87 : Code := match Try.f87.body with | some c => c | none => .skip
theorem wp87 (x1 : Int) (x2 : Int) (K : Int → Int → World → Prop) (w : World) : WP Try.prog tab code87 ann87 (fnQ tab Try.f87.results.toList [(.agg [(.int .i64), (.int .i64)])] K) (argE 0 [(.int .i64 x1), (.int .i64 x2)]) w = N87 x1 x2 K w := by kernel_rfl
theorem calls87 (x1 : Int) (x2 : Int) (K : Int → Int → World → Prop) (w : World) (h : N87 x1 x2 K w) : Calls Try.prog 87 #[(.int .i64 x1), (.int .i64 x2)] w fun en w' => ∃ (x9 : Int), ∃ (x10 : Int), en = .returned (.agg #[(.int .i64 x9), (.int .i64 x10)]) ∧ K x9 x10 w' :=
  have e : (fun en w' => ExShs [(.agg [(.int .i64), (.int .i64)])] fun vs => en = .returned (tupled vs) ∧ ap [(.agg [(.int .i64), (.int .i64)])] K vs fun p => p w') = (fun (en : Ending) (w' : World) => ∃ (x9 : Int), ∃ (x10 : Int), en = .returned (.agg #[(.int .i64 x9), (.int .i64 x10)]) ∧ K x9 x10 w') := by kernel_rfl
  e ▸ fn_sound tabOk mixed Try.func87 (by kernel_rfl : Try.f87.body = some code87) ann87 [(.int .i64 x1), (.int .i64 x2)] [(.agg [(.int .i64), (.int .i64)])] K w (by kernel_rfl) ((wp87 x1 x2 K w).symm ▸ h)
end Go.Proofs.Ytggfnakhmjkoeaa

namespace Go.Proofs.Ytggfnakhmjkoeaa
open Go Go.V Go.Proofs
open Go.RowKit (Below)
/-! manystrand/manystrandref06.compare -/
def N75 (x1 : Int) (x2 : Int) (x3 : Int) (K : Int → World → Prop) (w : World) : Prop :=
  AllocK w (#[(.int .i64 x1), (.int .i64 x2)]) 87 fun b4 w5 =>
  0 ≤ (32 : Int) ∧
  (0 ≤ (32 : Int) ∧
    (0 ≤ (32 : Int) ∧
      (Calls Try.prog 87 #[(.int .i64 ((x3 : Int).fdiv (2 ^ (min (32 : Int).toNat (IntKind.bits .i64))))), (.int .i64 (IntKind.wrap .i64 (x3 - (IntKind.wrap .i64 (((x3 : Int).fdiv (2 ^ (min (32 : Int).toNat (IntKind.bits .i64)))) * 2 ^ (min (32 : Int).toNat (IntKind.bits .i64)))))))] w5 fun e9 w8 =>
        ∃ (x6 : Int), ∃ (x7 : Int), e9 = .returned (.agg #[(.int .i64 x6), (.int .i64 x7)]) ∧
        (AllocK w8 (#[.int .i64 0, .int .i64 0]) 87 fun b10 w11 =>
          SetK w11 (b10.add 0) (.int .i64 x6) fun w12 =>
          SetK w12 (b10.add 1) (.int .i64 x7) fun w13 =>
          ∃ (x14 : Int), w13.cell? (b4.add 0) = some (.int .i64 x14) ∧
          (∃ (x15 : Int), w13.cell? (b4.add 1) = some (.int .i64 x15) ∧
            (∃ (x16 : Int), w13.cell? (b10.add 0) = some (.int .i64 x16) ∧
              (∃ (x17 : Int), w13.cell? (b10.add 1) = some (.int .i64 x17) ∧
                (BoolK (((x14 : Int) == x16) && (((x15 : Int) == x17) && (true)))
                  (K 0 w13)
                  (∃ (x18 : Int), w13.cell? b4 = some (.int .i64 x18) ∧
                    (∃ (x19 : Int), w13.cell? b10 = some (.int .i64 x19) ∧
                      (BoolK (decide ((x18 : Int) < x19))
                        (K (-1) w13)
                        (∃ (x20 : Int), w13.cell? b4 = some (.int .i64 x20) ∧
                          (∃ (x21 : Int), w13.cell? b10 = some (.int .i64 x21) ∧
                            (BoolK ((x20 : Int) == x21)
                              (∃ (x22 : Int), w13.cell? (b4.add 1) = some (.int .i64 x22) ∧
                                (∃ (x23 : Int), w13.cell? (b10.add 1) = some (.int .i64 x23) ∧
                                  (BoolK (decide ((x22 : Int) < x23))
                                    (K (-1) w13)
                                    (K 1 w13))))
                              (K 1 w13)))))))))))))))
def ann75 : Ann := (.two .nil (.two .nil (.two (.one (.two .nil (.two (.two .nil .nil) (.two .nil (.two (.two .nil .nil) .nil))))) (.two .nil .nil))))
noncomputable def code75 : Code := match Try.f75.body with | some c => c | none => .skip
theorem wp75 (x1 : Int) (x2 : Int) (x3 : Int) (K : Int → World → Prop) (w : World) : WP Try.prog tab code75 ann75 (fnQ tab Try.f75.results.toList [(.one (.int .i64))] K) (argE 0 [(.agg #[(.int .i64 x1), (.int .i64 x2)]), (.int .i64 x3)]) w = N75 x1 x2 x3 K w := by kernel_rfl
theorem calls75 (x1 : Int) (x2 : Int) (x3 : Int) (K : Int → World → Prop) (w : World) (h : N75 x1 x2 x3 K w) : Calls Try.prog 75 #[(.agg #[(.int .i64 x1), (.int .i64 x2)]), (.int .i64 x3)] w fun en w' => ∃ (x24 : Int), en = .returned (.int .i64 x24) ∧ K x24 w' :=
  have e : (fun en w' => ExShs [(.one (.int .i64))] fun vs => en = .returned (tupled vs) ∧ ap [(.one (.int .i64))] K vs fun p => p w') = (fun (en : Ending) (w' : World) => ∃ (x24 : Int), en = .returned (.int .i64 x24) ∧ K x24 w') := by kernel_rfl
  e ▸ fn_sound tabOk mixed Try.func75 (by kernel_rfl : Try.f75.body = some code75) ann75 [(.agg #[(.int .i64 x1), (.int .i64 x2)]), (.int .i64 x3)] [(.one (.int .i64))] K w (by kernel_rfl) ((wp75 x1 x2 x3 K w).symm ▸ h)
end Go.Proofs.Ytggfnakhmjkoeaa

namespace Go.Proofs.Ytggfnakhmjkoeaa
open Go Go.V Go.Proofs
open Go.RowKit (Below)
/-! manystrand/manystrandref06.total -/
def N76 (a1 : Option Addr) (l1 : Nat) (_c1 : Nat) (a2 : Option Addr) (l2 : Nat) (_c2 : Nat) (K : Int → Int → World → Prop) (w : World) : Prop :=
  AllocK w (#[.int .i64 0, .int .i64 0]) 87 fun b3 w4 =>
  ∃ (I5 : Int → Int → Int → World → Prop) (μ6 : Int → Int → Int → World → Nat),
  (I5 0 0 0 w4 ∧ True) ∧
  ∀ (w7 : World) (x8 : Int) (x9 : Int) (x10 : Int), I5 x8 x9 x10 w7 →
  BoolK (decide ((x10 : Int) < (l2 : Nat)))
  ((0 ≤ (x10 : Int) ∧ (x10 : Int) < (l2 : Nat)) ∧
    AddrK a2 fun b11 =>
    ∃ (x12 : Int), w7.cell? (b11.add ((x10 : Int).toNat * 1)) = some (.int .i64 x12) ∧
    (0 ≤ (32 : Int) ∧
      ((0 ≤ (x10 : Int) ∧ (x10 : Int) < (l1 : Nat)) ∧
        AddrK a1 fun b13 =>
        ∃ (x14 : Int), w7.cell? (b13.add ((x10 : Int).toNat * 1)) = some (.int .i64 x14) ∧
        (DrewK w7 fun w15 =>
          (0 ≤ (x10 : Int) ∧ (x10 : Int) < (l1 : Nat)) ∧
          AddrK a1 fun b16 =>
          ∃ (x17 : Int), w15.cell? (b16.add ((x10 : Int).toNat * 1)) = some (.int .i64 x17) ∧
          ((0 ≤ (x10 : Int) ∧ (x10 : Int) < (l2 : Nat)) ∧
            AddrK a2 fun b18 =>
            ∃ (x19 : Int), w15.cell? (b18.add ((x10 : Int).toNat * 1)) = some (.int .i64 x19) ∧
            (0 ≤ (32 : Int) ∧
              (I5 (IntKind.wrap .i64 (x8 + (IntKind.wrap .i64 (x14 * ((x12 : Int).fdiv (2 ^ (min (32 : Int).toNat (IntKind.bits .i64)))))))) (IntKind.wrap .i64 (x9 + (IntKind.wrap .i64 (x17 * (IntKind.wrap .i64 (x19 - (IntKind.wrap .i64 (((x12 : Int).fdiv (2 ^ (min (32 : Int).toNat (IntKind.bits .i64)))) * 2 ^ (min (32 : Int).toNat (IntKind.bits .i64)))))))))) (IntKind.wrap .i64 (x10 + 1)) w15 ∧ μ6 (IntKind.wrap .i64 (x8 + (IntKind.wrap .i64 (x14 * ((x12 : Int).fdiv (2 ^ (min (32 : Int).toNat (IntKind.bits .i64)))))))) (IntKind.wrap .i64 (x9 + (IntKind.wrap .i64 (x17 * (IntKind.wrap .i64 (x19 - (IntKind.wrap .i64 (((x12 : Int).fdiv (2 ^ (min (32 : Int).toNat (IntKind.bits .i64)))) * 2 ^ (min (32 : Int).toNat (IntKind.bits .i64)))))))))) (IntKind.wrap .i64 (x10 + 1)) w15 < μ6 x8 x9 x10 w7)))))))
  (Calls Try.prog 87 #[(.int .i64 x8), (.int .i64 x9)] w7 fun e23 w22 =>
    ∃ (x20 : Int), ∃ (x21 : Int), e23 = .returned (.agg #[(.int .i64 x20), (.int .i64 x21)]) ∧
    (SetK w22 (b3.add 0) (.int .i64 x20) fun w24 =>
      SetK w24 (b3.add 1) (.int .i64 x21) fun w25 =>
      ∃ (x26 : Int), w25.cell? (b3.add 0) = some (.int .i64 x26) ∧
      (∃ (x27 : Int), w25.cell? (b3.add 1) = some (.int .i64 x27) ∧
        (K x26 x27 w25))))
def ann76 : Ann := (.two .nil (.two .nil (.two (.two .nil (.one (.loop [(5, (.one (.int .i64))), (6, (.one (.int .i64))), (7, (.one (.int .i64)))] [0, 1, 4] (.two (.two .nil (.two .nil .nil)) (.two (.one (.two .nil (.two .nil (.any 15 (.take 0 (.take 1 (.take 2 (.take 3 (.take 4 (.take 5 (.take 6 (.take 7 (.take 8 (.take 9 (.take 10 (.take 11 (.take 12 (.take 13 (.take 14 .done))))))))))))))))))) .nil))))) (.two .nil .nil))))
noncomputable def code76 : Code := match Try.f76.body with | some c => c | none => .skip
theorem wp76 (a1 : Option Addr) (l1 : Nat) (c1 : Nat) (a2 : Option Addr) (l2 : Nat) (c2 : Nat) (K : Int → Int → World → Prop) (w : World) : WP Try.prog tab code76 ann76 (fnQ tab Try.f76.results.toList [(.agg [(.int .i64), (.int .i64)])] K) (argE 0 [(.slice a1 l1 c1), (.slice a2 l2 c2)]) w = N76 a1 l1 c1 a2 l2 c2 K w := by kernel_rfl
theorem calls76 (a1 : Option Addr) (l1 : Nat) (c1 : Nat) (a2 : Option Addr) (l2 : Nat) (c2 : Nat) (K : Int → Int → World → Prop) (w : World) (h : N76 a1 l1 c1 a2 l2 c2 K w) : Calls Try.prog 76 #[(.slice a1 l1 c1), (.slice a2 l2 c2)] w fun en w' => ∃ (x28 : Int), ∃ (x29 : Int), en = .returned (.agg #[(.int .i64 x28), (.int .i64 x29)]) ∧ K x28 x29 w' :=
  have e : (fun en w' => ExShs [(.agg [(.int .i64), (.int .i64)])] fun vs => en = .returned (tupled vs) ∧ ap [(.agg [(.int .i64), (.int .i64)])] K vs fun p => p w') = (fun (en : Ending) (w' : World) => ∃ (x28 : Int), ∃ (x29 : Int), en = .returned (.agg #[(.int .i64 x28), (.int .i64 x29)]) ∧ K x28 x29 w') := by kernel_rfl
  e ▸ fn_sound tabOk mixed Try.func76 (by kernel_rfl : Try.f76.body = some code76) ann76 [(.slice a1 l1 c1), (.slice a2 l2 c2)] [(.agg [(.int .i64), (.int .i64)])] K w (by kernel_rfl) ((wp76 a1 l1 c1 a2 l2 c2 K w).symm ▸ h)
end Go.Proofs.Ytggfnakhmjkoeaa

namespace Go.Proofs.Ytggfnakhmjkoeaa
open Go Go.V Go.Proofs
open Go.RowKit (Below)
/-! manystrand/manystrandref06.times -/
def N77 (x1 : Int) (x2 : Int) (x3 : Int) (K : Bool → World → Prop) (w : World) : Prop :=
  ∃ (J4 : Bool → World → Prop),
  (∀ (w5 : World) (p6 : Bool), J4 p6 w5 →
    BoolK p6
    (K ((x3 : Int) == 0) w5)
    (BoolK ((x1 : Int) == -1)
      (AllocK w5 (#[(.int .i64 1), (.int .i64 1)]) 3 fun b7 w8 =>
        AllocK w8 (#[(.int .i64 x2), (.int .i64 x3)]) 3 fun b9 w10 =>
        Calls Try.prog 76 #[(.slice (some b7) 2 2), (.slice (some b9) 2 2)] w10 fun e14 w13 =>
        ∃ (x11 : Int), ∃ (x12 : Int), e14 = .returned (.agg #[(.int .i64 x11), (.int .i64 x12)]) ∧
        (Calls Try.prog 75 #[(.agg #[(.int .i64 x11), (.int .i64 x12)]), (.int .i64 0)] w13 fun e17 w16 =>
          ∃ (x15 : Int), e17 = .returned (.int .i64 x15) ∧
          (K ((x15 : Int) == 0) w16)))
      (BoolK ((x2 : Int) == -1)
        (AllocK w5 (#[(.int .i64 1), (.int .i64 1)]) 3 fun b18 w19 =>
          AllocK w19 (#[(.int .i64 x1), (.int .i64 x3)]) 3 fun b20 w21 =>
          Calls Try.prog 76 #[(.slice (some b18) 2 2), (.slice (some b20) 2 2)] w21 fun e25 w24 =>
          ∃ (x22 : Int), ∃ (x23 : Int), e25 = .returned (.agg #[(.int .i64 x22), (.int .i64 x23)]) ∧
          (Calls Try.prog 75 #[(.agg #[(.int .i64 x22), (.int .i64 x23)]), (.int .i64 0)] w24 fun e28 w27 =>
            ∃ (x26 : Int), e28 = .returned (.int .i64 x26) ∧
            (K ((x26 : Int) == 0) w27)))
        ((x1 : Int) ≠ 0 ∧
          (BoolK (((x3 : Int).tmod x1 : Int) == 0)
            ((x1 : Int) ≠ 0 ∧
              (K ((IntKind.wrap .i64 ((x3 : Int).tdiv x1) : Int) == x2) w5))
            (K false w5)))))) ∧
  (BoolK ((x1 : Int) == 0)
    (J4 true w)
    (J4 ((x2 : Int) == 0) w))
def ann77 : Ann := (.two .nil (.two (.one (.cut [(7, (.one .bool))] [0, 1, 2] .nil (.two (.two .nil .nil) (.two .nil (.two (.two .nil .nil) (.two .nil (.two (.two .nil .nil) .nil))))))) (.two .nil .nil)))
noncomputable def code77 : Code := match Try.f77.body with | some c => c | none => .skip
theorem wp77 (x1 : Int) (x2 : Int) (x3 : Int) (K : Bool → World → Prop) (w : World) : WP Try.prog tab code77 ann77 (fnQ tab Try.f77.results.toList [(.one .bool)] K) (argE 0 [(.int .i64 x1), (.int .i64 x2), (.int .i64 x3)]) w = N77 x1 x2 x3 K w := by kernel_rfl
theorem calls77 (x1 : Int) (x2 : Int) (x3 : Int) (K : Bool → World → Prop) (w : World) (h : N77 x1 x2 x3 K w) : Calls Try.prog 77 #[(.int .i64 x1), (.int .i64 x2), (.int .i64 x3)] w fun en w' => ∃ (p29 : Bool), en = .returned (.bool p29) ∧ K p29 w' :=
  have e : (fun en w' => ExShs [(.one .bool)] fun vs => en = .returned (tupled vs) ∧ ap [(.one .bool)] K vs fun p => p w') = (fun (en : Ending) (w' : World) => ∃ (p29 : Bool), en = .returned (.bool p29) ∧ K p29 w') := by kernel_rfl
  e ▸ fn_sound tabOk mixed Try.func77 (by kernel_rfl : Try.f77.body = some code77) ann77 [(.int .i64 x1), (.int .i64 x2), (.int .i64 x3)] [(.one .bool)] K w (by kernel_rfl) ((wp77 x1 x2 x3 K w).symm ▸ h)
end Go.Proofs.Ytggfnakhmjkoeaa

namespace Go.Proofs.Ytggfnakhmjkoeaa
open Go Go.V Go.Proofs
open Go.RowKit (Below)
/-! manystrand/manystrandref06.atMost -/
def N78 (x1 : Int) (x2 : Int) (x3 : Int) (K : Bool → World → Prop) (w : World) : Prop :=
  AllocK w (#[(.int .i64 1), (.int .i64 (-1))]) 3 fun b4 w5 =>
  AllocK w5 (#[(.int .i64 x1), (.int .i64 x2)]) 3 fun b6 w7 =>
  Calls Try.prog 76 #[(.slice (some b4) 2 2), (.slice (some b6) 2 2)] w7 fun e11 w10 =>
  ∃ (x8 : Int), ∃ (x9 : Int), e11 = .returned (.agg #[(.int .i64 x8), (.int .i64 x9)]) ∧
  (Calls Try.prog 75 #[(.agg #[(.int .i64 x8), (.int .i64 x9)]), (.int .i64 x3)] w10 fun e14 w13 =>
    ∃ (x12 : Int), e14 = .returned (.int .i64 x12) ∧
    (K (decide ((x12 : Int) ≤ 0)) w13))
def ann78 : Ann := (.two .nil (.two .nil .nil))
noncomputable def code78 : Code := match Try.f78.body with | some c => c | none => .skip
theorem wp78 (x1 : Int) (x2 : Int) (x3 : Int) (K : Bool → World → Prop) (w : World) : WP Try.prog tab code78 ann78 (fnQ tab Try.f78.results.toList [(.one .bool)] K) (argE 0 [(.int .i64 x1), (.int .i64 x2), (.int .i64 x3)]) w = N78 x1 x2 x3 K w := by kernel_rfl
theorem calls78 (x1 : Int) (x2 : Int) (x3 : Int) (K : Bool → World → Prop) (w : World) (h : N78 x1 x2 x3 K w) : Calls Try.prog 78 #[(.int .i64 x1), (.int .i64 x2), (.int .i64 x3)] w fun en w' => ∃ (p15 : Bool), en = .returned (.bool p15) ∧ K p15 w' :=
  have e : (fun en w' => ExShs [(.one .bool)] fun vs => en = .returned (tupled vs) ∧ ap [(.one .bool)] K vs fun p => p w') = (fun (en : Ending) (w' : World) => ∃ (p15 : Bool), en = .returned (.bool p15) ∧ K p15 w') := by kernel_rfl
  e ▸ fn_sound tabOk mixed Try.func78 (by kernel_rfl : Try.f78.body = some code78) ann78 [(.int .i64 x1), (.int .i64 x2), (.int .i64 x3)] [(.one .bool)] K w (by kernel_rfl) ((wp78 x1 x2 x3 K w).symm ▸ h)
end Go.Proofs.Ytggfnakhmjkoeaa

namespace Go.Proofs.Ytggfnakhmjkoeaa
open Go Go.V Go.Proofs
open Go.RowKit (Below)

theorem fdivS (a : Int) : (a.fdiv (2 ^ (min (32 : Int).toNat (IntKind.bits .i64)))) = a / 4294967296 := by
  show a.fdiv 4294967296 = _
  rw [Int.fdiv_eq_ediv_of_nonneg _ (by omega)]
theorem fdiv4 (a : Int) : a.fdiv 4294967296 = a / 4294967296 := Int.fdiv_eq_ediv_of_nonneg _ (by omega)
theorem pow32 : (2 : Int) ^ (min (32 : Int).toNat (IntKind.bits .i64)) = 4294967296 := by decide
/-- the number that (h, l) stands for -/
structure Wr (h l z : Int) : Prop where
  l0 : 0 ≤ l
  l1 : l < 4294967296
  h0 : -9223372036854775808 ≤ h
  h1 : h ≤ 9223372036854775807
  eq : z = h * 4294967296 + l

theorem c87 (w : World) (h l : Int) (hl : -4611686018427387904 ≤ l ∧ l ≤ 4611686018427387904) (hh : -4611686018427387904 ≤ h ∧ h ≤ 4611686018427387904) :
    Calls Try.prog 87 #[.int .i64 h, .int .i64 l] w fun en w' => ∃ h' l', en = .returned (.agg #[.int .i64 h', .int .i64 l']) ∧ (Wr h' l' (h * 4294967296 + l) ∧ Ext w w') := by
  refine calls87 _ _ _ w ?_
  refine AllocK.mk fun b w4 hb hblk hx => ?_
  rw [fdivS, pow32]
  refine ⟨by omega, by omega, setTwo hblk fun w6 hb6 hbut => ⟨_, (blk2 hb6).1, _, (blk2 hb6).2, ?_, hbut.below hx (by omega)⟩⟩
  rw [wrap_id (by omega) (by omega), wrap_id (x := l / 4294967296 * 4294967296) (by omega) (by omega), wrap_id (by omega) (by omega)]
  exact ⟨by omega, by omega, by omega, by omega, by omega⟩

theorem c75 (w : World) (h l z n : Int) (k : Wr h l z) (hn : -9223372036854775808 ≤ n ∧ n ≤ 9223372036854775807) :
    Calls Try.prog 75 #[.agg #[.int .i64 h, .int .i64 l], .int .i64 n] w fun en w' => ∃ x, en = .returned (.int .i64 x) ∧ (x = cmpI z n ∧ Ext w w') := by
  refine calls75 _ _ _ _ w ?_
  obtain ⟨p1, p2, p3, p4, rfl⟩ := k
  refine AllocK.mk fun b4 w5 hb4 hk4 hx5 => ?_
  rw [fdivS, pow32, wrap_id (x := n / 4294967296 * 4294967296) (by omega) (by omega), wrap_id (by omega) (by omega)]
  refine ⟨by omega, by omega, by omega, (c87 w5 _ _ (by omega) (by omega)).mono ?_⟩
  rintro en w8 ⟨h', l', rfl, k', hx8⟩
  obtain ⟨q1, q2, q3, q4, q5⟩ := k'
  refine ⟨_, _, rfl, AllocK.mk fun b10 w11 hb10 hk10 hx11 => setTwo hk10 fun w13 hk13 hbut => ?_⟩
  have hx13 : Ext w8 w13 := hbut.below hx11 (by omega)
  have g4 := blk2 (hk4.ext (hx8.trans hx13))
  have g10 := blk2 hk13
  have e4 := g4.1; have e10 := g10.1
  rw [add_mk0] at e4 e10
  have hx := (hx5.trans hx8).trans hx13
  refine ⟨_, g4.1, _, g4.2, _, g10.1, _, g10.2, BoolK.mk (fun t => ?_) (fun t => ?_)⟩
  · simp at t
    refine ⟨?_, hx⟩
    rw [cmpI, if_neg (by omega), if_pos (by omega)]
  · have hne : ¬ (h = h' ∧ l = l') := fun e => by simp [e.1, e.2] at t
    refine ⟨_, e4, _, e10, BoolK.mk (fun t2 => ?_) (fun t2 => ?_)⟩
    · simp at t2
      refine ⟨?_, hx⟩
      rw [cmpI, if_pos (by omega)]
    · simp at t2
      refine ⟨_, e4, _, e10, BoolK.mk (fun t3 => ⟨_, g4.2, _, g10.2, BoolK.mk (fun t4 => ?_) (fun t4 => ?_)⟩) (fun t3 => ?_)⟩
      · simp at t3 t4
        refine ⟨?_, hx⟩
        rw [cmpI, if_pos (by omega)]
      · simp at t3 t4
        refine ⟨?_, hx⟩
        rw [cmpI, if_neg (by omega), if_neg (by omega)]
      · simp at t3
        refine ⟨?_, hx⟩
        rw [cmpI, if_neg (by omega), if_neg (by omega)]

/-- the sum of the first j products -/
def dotS (c v : List Int) : Nat → Int
  | 0 => 0
  | j + 1 => dotS c v j + c.getD j 0 * v.getD j 0
theorem mul_bnd {c x B : Int} (hc : -1000000 ≤ c ∧ c ≤ 1000000) (hx : -B ≤ x ∧ x ≤ B) : -(1000000 * B) ≤ c * x ∧ c * x ≤ 1000000 * B := by
  have hB : 0 ≤ B := by omega
  have h1 : (c * x).natAbs ≤ 1000000 * B.natAbs := by rw [Int.natAbs_mul]; exact Nat.mul_le_mul (by omega) (by omega)
  have : (B.natAbs : Int) = B := by omega
  omega

theorem c76 (w : World) (a1 : Option Addr) (l1 c1 : Nat) (a2 : Option Addr) (l2 c2 : Nat) (cs vs : List Int) (hc : Ints w a1 l1 cs) (hv : Ints w a2 l2 vs) (hl : vs.length ≤ cs.length) (h40 : vs.length ≤ 40)
    (hcb : ∀ x ∈ cs, -1000000 ≤ x ∧ x ≤ 1000000) (hvb : ∀ x ∈ vs, -9223372036854775808 ≤ x ∧ x ≤ 9223372036854775807) :
    Calls Try.prog 76 #[.slice a1 l1 c1, .slice a2 l2 c2] w fun en w' => ∃ h l, en = .returned (.agg #[.int .i64 h, .int .i64 l]) ∧ (Wr h l (dotS cs vs vs.length) ∧ Ext w w') := by
  refine calls76 _ _ _ _ _ _ _ w ?_
  have e1 := hc.1
  have e2 := hv.1
  refine AllocK.mk fun b3 w4 hb3 hk3 hx4 => ?_
  refine ⟨fun h l i w' => ∃ k : Nat, i = k ∧ k ≤ vs.length ∧ dotS cs vs k = h * 4294967296 + l ∧ (-(2147483648000000 * (k : Int)) ≤ h ∧ h ≤ 2147483648000000 * k) ∧ (-(4294967296000000 * (k : Int)) ≤ l ∧ l ≤ 4294967296000000 * k) ∧ Ext w4 w', fun _ _ i _ => vs.length - i.toNat,
    ⟨⟨0, rfl, by omega, rfl, by omega, by omega, Ext.refl _⟩, trivial⟩, ?_⟩
  rintro w7 h l _ ⟨k, rfl, hk, hd, hh, hll, hB⟩
  have hB' := hx4.trans hB
  refine BoolK.mk (fun hlt => ?_) (fun hge => ?_)
  · have hlt : k < vs.length := by simp at hlt; omega
    obtain ⟨b2, o2, rfl, g2⟩ := intAt hv w7 hB' hlt
    obtain ⟨b1, o1, rfl, g1⟩ := intAt hc w7 hB' (i := k) (by omega)
    refine ⟨by omega, ?_⟩
    simp only [AddrK, Int.toNat_natCast, add_mk, Nat.mul_one, pow32, fdiv4]
    refine ⟨_, g2, by omega, by omega, _, g1, DrewK.mk fun w15 hx15 => ⟨by omega, _, hx15.cell g1, by omega, _, hx15.cell g2, by omega, ?_⟩⟩
    have vb := hvb _ (List.getElem_mem hlt)
    have cb := hcb _ (List.getElem_mem (show k < cs.length by omega))
    have m1 := mul_bnd (B := 2147483648) cb (x := vs[k] / 4294967296) (by omega)
    have m2 := mul_bnd (B := 4294967296) cb (x := vs[k] - vs[k] / 4294967296 * 4294967296) (by omega)
    have hsplit : cs[k] * vs[k] = cs[k] * (vs[k] / 4294967296) * 4294967296 + cs[k] * (vs[k] - vs[k] / 4294967296 * 4294967296) := by
      rw [Int.mul_sub, Int.mul_assoc]; omega
    have hd' : dotS cs vs (k + 1) = dotS cs vs k + cs[k] * vs[k] := by rw [dotS, getD_get hlt, getD_get (show k < cs.length by omega)]
    rw [wrap_id (x := vs[k] / 4294967296 * 4294967296) (by omega) (by omega), wrap_id (x := vs[k] - vs[k] / 4294967296 * 4294967296) (by omega) (by omega)]
    generalize cs[k] * (vs[k] / 4294967296) = p1 at m1 hsplit ⊢
    generalize cs[k] * (vs[k] - vs[k] / 4294967296 * 4294967296) = p2 at m2 hsplit ⊢
    rw [wrap_id (x := p1) (by omega) (by omega), wrap_id (x := p2) (by omega) (by omega), wrap_id (x := h + p1) (by omega) (by omega), wrap_id (x := l + p2) (by omega) (by omega), wrap_succ (by omega)]
    exact ⟨⟨k + 1, rfl, by omega, by rw [hd', hd, hsplit]; omega, by omega, by omega, hB.trans hx15⟩, by simp; omega⟩
  · have : k = vs.length := by simp at hge; omega
    subst this
    refine (c87 w7 h l (by omega) (by omega)).mono ?_
    rintro en w22 ⟨h', l', rfl, kW, hx22⟩
    rw [← hd] at kW
    refine ⟨_, _, rfl, setTwo (hk3.ext (hB.trans hx22)) fun w25 hk25 hbut => ⟨_, (blk2 hk25).1, _, (blk2 hk25).2, kW, hbut.below (hB'.trans hx22) (by omega)⟩⟩

theorem ints2_lit {w : World} {b t : Nat} {x y : Int} (h : Blk w b #[.int .i64 x, .int .i64 y] t) : Ints w (some ⟨b, 0, none⟩) 2 [x, y] := ints_lit2 h
theorem dot2 (a b x y : Int) : dotS [a, b] [x, y] 2 = a * x + b * y := by simp [dotS]

/-- total and compare of two products -/
theorem twoK (w : World) (a b x y n : Int) (ha : a = 1 ∨ a = -1) (hb : b = 1 ∨ b = -1) (hx : -9223372036854775808 ≤ x ∧ x ≤ 9223372036854775807) (hy : -9223372036854775808 ≤ y ∧ y ≤ 9223372036854775807) (hn : -9223372036854775808 ≤ n ∧ n ≤ 9223372036854775807)
    {K : Int → World → Prop} (hK : ∀ w', Ext w w' → K (cmpI (a * x + b * y) n) w') :
    AllocK w (#[(.int .i64 a), (.int .i64 b)]) 3 fun b4 w5 => AllocK w5 (#[(.int .i64 x), (.int .i64 y)]) 3 fun b6 w7 =>
      Calls Try.prog 76 #[(.slice (some b4) 2 2), (.slice (some b6) 2 2)] w7 fun e11 w10 => ∃ (x8 : Int), ∃ (x9 : Int), e11 = .returned (.agg #[(.int .i64 x8), (.int .i64 x9)]) ∧
      (Calls Try.prog 75 #[(.agg #[(.int .i64 x8), (.int .i64 x9)]), (.int .i64 n)] w10 fun e14 w13 => ∃ (x12 : Int), e14 = .returned (.int .i64 x12) ∧ K x12 w13) := by
  refine AllocK.mk fun b4 w5 _ hk4 hx5 => AllocK.mk fun b6 w7 _ hk6 hx7 => ?_
  refine (c76 w7 _ 2 2 _ 2 2 [a, b] [x, y] (ints2_lit (hk4.ext hx7)) (ints2_lit hk6) (by simp) (by simp) (by simp; omega) (by simp; omega)).mono ?_
  rintro en w10 ⟨h, l, rfl, kW, hx10⟩
  rw [show ([x, y] : List Int).length = 2 from rfl, dot2] at kW
  refine ⟨_, _, rfl, (c75 w10 h l _ n kW hn).mono ?_⟩
  rintro en w13 ⟨r, rfl, rfl, hx13⟩
  exact ⟨_, rfl, hK _ (((hx5.trans hx7).trans hx10).trans hx13)⟩

theorem c78 (w : World) (x y n : Int) (hx : -9223372036854775808 ≤ x ∧ x ≤ 9223372036854775807) (hy : -9223372036854775808 ≤ y ∧ y ≤ 9223372036854775807) (hn : -9223372036854775808 ≤ n ∧ n ≤ 9223372036854775807) :
    Calls Try.prog 78 #[.int .i64 x, .int .i64 y, .int .i64 n] w fun en w' => ∃ p, en = .returned (.bool p) ∧ (p = decide (x ≤ y + n) ∧ Ext w w') := by
  refine calls78 _ _ _ _ w ?_
  refine twoK w 1 (-1) x y n (.inl rfl) (.inr rfl) hx hy hn (K := fun x12 w13 => decide (x12 ≤ 0) = decide (x ≤ y + n) ∧ Ext w w13) fun w' hw => ⟨?_, hw⟩
  rw [decide_eq_decide, cmpI]
  split
  · omega
  split <;> omega

theorem tdiv_ok {x z : Int} (h0 : x ≠ 0) (h1 : x ≠ -1) (hz : -9223372036854775808 ≤ z ∧ z ≤ 9223372036854775807) : -9223372036854775808 ≤ z.tdiv x ∧ z.tdiv x ≤ 9223372036854775807 := by
  by_cases hx : x = 1
  · subst hx; rw [Int.tdiv_one]; exact hz
  · have h2 : (z.tdiv x).natAbs = z.natAbs / x.natAbs := Int.natAbs_tdiv z x
    have h3 : z.natAbs / x.natAbs ≤ z.natAbs / 2 := Nat.div_le_div_left (by omega) (by omega)
    omega

theorem c77 (w : World) (x y z : Int) (hx : -9223372036854775808 ≤ x ∧ x ≤ 9223372036854775807) (hy : -9223372036854775808 ≤ y ∧ y ≤ 9223372036854775807) (hz : -9223372036854775808 ≤ z ∧ z ≤ 9223372036854775807) :
    Calls Try.prog 77 #[.int .i64 x, .int .i64 y, .int .i64 z] w fun en w' => ∃ p, en = .returned (.bool p) ∧ (p = decide (x * y = z) ∧ Ext w w') := by
  refine calls77 _ _ _ _ w ?_
  refine ⟨fun p w' => w' = w ∧ (p = true ↔ (x = 0 ∨ y = 0)), ?_, ?_⟩
  · rintro w5 p ⟨rfl, hp⟩
    refine BoolK.mk (fun t => ?_) (fun t => ?_)
    · refine ⟨?_, Ext.refl _⟩
      have : x * y = 0 := Int.mul_eq_zero.2 (hp.1 t)
      rw [this, Bool.eq_iff_iff, beq_iff_eq, decide_eq_true_eq]; omega
    · have hn : ¬ (x = 0 ∨ y = 0) := fun h => by rw [hp.2 h] at t; cases t
      refine BoolK.mk (fun t2 => ?_) (fun t2 => BoolK.mk (fun t3 => ?_) (fun t3 => ?_))
      · have t2 : x = -1 := by simpa using t2
        subst t2
        refine twoK w5 1 1 y z 0 (.inl rfl) (.inl rfl) hy hz (by omega) (K := fun r w16 => (r == 0) = decide (-1 * y = z) ∧ Ext w5 w16) fun w' hw => ⟨?_, hw⟩
        rw [Bool.eq_iff_iff, beq_iff_eq, decide_eq_true_eq, cmpI]
        split
        · omega
        split <;> omega
      · have t3 : y = -1 := by simpa using t3
        subst t3
        refine twoK w5 1 1 x z 0 (.inl rfl) (.inl rfl) hx hz (by omega) (K := fun r w16 => (r == 0) = decide (x * -1 = z) ∧ Ext w5 w16) fun w' hw => ⟨?_, hw⟩
        rw [Bool.eq_iff_iff, beq_iff_eq, decide_eq_true_eq, cmpI]
        split
        · omega
        split <;> omega
      · have t2 : x ≠ -1 := by simpa using t2
        have h0 : x ≠ 0 := fun e => hn (.inl e)
        have hd := Int.mul_tdiv_add_tmod z x
        refine ⟨h0, BoolK.mk (fun t4 => ⟨h0, ?_, Ext.refl _⟩) (fun t4 => ⟨?_, Ext.refl _⟩)⟩
        · have t4 : z.tmod x = 0 := by simpa using t4
          have ⟨k1, k2⟩ := tdiv_ok h0 t2 hz
          rw [wrap_id k1 k2, Bool.eq_iff_iff, beq_iff_eq, decide_eq_true_eq]
          rw [t4, Int.add_zero] at hd
          constructor
          · rintro rfl; exact hd
          · intro e; exact Int.eq_of_mul_eq_mul_left h0 (hd.trans e.symm)
        · have t4 : z.tmod x ≠ 0 := by simpa using t4
          symm; rw [decide_eq_false_iff_not]
          rintro rfl
          exact t4 (Int.mul_tmod_right x y)
  · refine BoolK.mk (fun t => ⟨rfl, ?_⟩) (fun t => ⟨rfl, ?_⟩)
    · simp at t; simp [t]
    · simp at t; simp [t]
end Go.Proofs.Ytggfnakhmjkoeaa

namespace Go.Proofs.Ytggfnakhmjkoeaa
open Go Go.V Go.Proofs
open Go.RowKit (Below)
/-! manystrand/domain.Holds -/
def N45 (s1 : ByteArray) (a2 : Option Addr) (l2 : Nat) (c2 : Nat) (a3 : Option Addr) (l3 : Nat) (c3 : Nat) (x4 : Int) (a5 : Option Addr) (l5 : Nat) (_c5 : Nat) (K : Bool → World → Prop) (w : World) : Prop :=
  AllocK w (#[(.string s1), (.slice a2 l2 c2), (.slice a3 l3 c3), (.int .i64 x4)]) 24 fun b6 w7 =>
  ∃ (s8 : ByteArray), w7.cell? (b6.add 0) = some (.string s8) ∧
  (∃ (a9 : Option Addr) (l9 : Nat) (c9 : Nat), w7.cell? (b6.add 1) = some (.slice a9 l9 c9) ∧
    (∃ (a10 : Option Addr) (l10 : Nat) (c10 : Nat), w7.cell? (b6.add 2) = some (.slice a10 l10 c10) ∧
      (∃ (x11 : Int), w7.cell? (b6.add 3) = some (.int .i64 x11) ∧
        (Calls Try.prog 16 #[(.agg #[(.string s8), (.slice a9 l9 c9), (.slice a10 l10 c10), (.int .i64 x11)]), (.int .i64 (l5 : Nat))] w7 fun e14 w13 =>
          ∃ (p12 : Bool), e14 = .returned (.bool p12) ∧
          (BoolK (!p12)
            (K false w13)
            (∃ (a15 : Option Addr) (l15 : Nat) (c15 : Nat), w13.cell? (b6.add 1) = some (.slice a15 l15 c15) ∧
              ((0 ≤ ((l15 : Nat) : Int) ∧ ((l15 : Nat) : Int) ≤ (l15 : Nat) ∧ ((8 : Nat) : Int) * (l15 : Nat) ≤ 281474976710656 ∧ ((l15 : Nat) : Int) ≤ 9223372036854775807) ∧
                AllocK w13 (madeCells (#[.int .i64 0]) (((l15 : Nat) : Int).toNat * 1)) 3 fun b16 w17 =>
                ∃ (a18 : Option Addr) (l18 : Nat) (c18 : Nat), w17.cell? (b6.add 1) = some (.slice a18 l18 c18) ∧
                (∃ (I19 : Int → World → Prop) (μ20 : Int → World → Nat),
                  (I19 0 w17 ∧ True) ∧
                  ∀ (w21 : World) (x22 : Int), I19 x22 w21 →
                  BoolK (decide ((x22 : Int) < (l18 : Nat)))
                  ((0 ≤ (x22 : Int) ∧ (x22 : Int) < (l18 : Nat)) ∧
                    AddrK a18 fun b23 =>
                    ∃ (x24 : Int), w21.cell? (b23.add ((x22 : Int).toNat * 1)) = some (.int .i64 x24) ∧
                    ((0 ≤ (x24 : Int) ∧ (x24 : Int) < (l5 : Nat)) ∧
                      AddrK a5 fun b25 =>
                      ∃ (x26 : Int), w21.cell? (b25.add ((x24 : Int).toNat * 1)) = some (.int .i64 x26) ∧
                      ((0 ≤ (x22 : Int) ∧ (x22 : Int) < (((l15 : Nat) : Int).toNat : Nat)) ∧
                        SetK w21 (b16.add ((x22 : Int).toNat * 1)) (.int .i64 x26) fun w27 =>
                        I19 (IntKind.wrap .i64 (x22 + 1)) w27 ∧ μ20 (IntKind.wrap .i64 (x22 + 1)) w27 < μ20 x22 w21)))
                  (∃ (s28 : ByteArray), w21.cell? b6 = some (.string s28) ∧
                    (∃ (J29 : Bool → World → Prop),
                      (∀ (w30 : World) (p31 : Bool), J29 p31 w30 →
                        BoolK p31
                        (AllocK w30 (#[.int .i64 0, .int .u64 0]) 80 fun b32 w33 =>
                          ∃ (a34 : Option Addr) (l34 : Nat) (c34 : Nat), w33.cell? (b6.add 2) = some (.slice a34 l34 c34) ∧
                          (∃ (I35 : Int → World → Prop) (μ36 : Int → World → Nat),
                            (I35 0 w33 ∧ True) ∧
                            ∀ (w37 : World) (x38 : Int), I35 x38 w37 →
                            BoolK (decide ((x38 : Int) < (l34 : Nat)))
                            ((0 ≤ (x38 : Int) ∧ (x38 : Int) < (l34 : Nat)) ∧
                              AddrK a34 fun b39 =>
                              ∃ (x40 : Int), w37.cell? (b39.add ((x38 : Int).toNat * 1)) = some (.int .i64 x40) ∧
                              (DrewK w37 fun w41 =>
                                ∃ (x42 : Int), w41.cell? (b32.add 0) = some (.int .i64 x42) ∧
                                (∃ (x43 : Int), w41.cell? (b32.add 1) = some (.int .u64 x43) ∧
                                  ((0 ≤ (x38 : Int) ∧ (x38 : Int) < (((l15 : Nat) : Int).toNat : Nat)) ∧
                                    ∃ (x44 : Int), w41.cell? (b16.add ((x38 : Int).toNat * 1)) = some (.int .i64 x44) ∧
                                    (Calls Try.prog 72 #[(.int .i64 x40), (.int .i64 x44)] w41 fun e48 w47 =>
                                      ∃ (x45 : Int), ∃ (x46 : Int), e48 = .returned (.agg #[(.int .i64 x45), (.int .u64 x46)]) ∧
                                      (Below w41.heap.size w41 w47 ∧
                                        (Calls Try.prog 71 #[(.agg #[(.int .i64 x42), (.int .u64 x43)]), (.agg #[(.int .i64 x45), (.int .u64 x46)])] w47 fun e52 w51 =>
                                          ∃ (x49 : Int), ∃ (x50 : Int), e52 = .returned (.agg #[(.int .i64 x49), (.int .u64 x50)]) ∧
                                          (Below w41.heap.size w41 w51 ∧
                                            (SetK w51 (b32.add 0) (.int .i64 x49) fun w53 =>
                                              SetK w53 (b32.add 1) (.int .u64 x50) fun w54 =>
                                              I35 (IntKind.wrap .i64 (x38 + 1)) w54 ∧ μ36 (IntKind.wrap .i64 (x38 + 1)) w54 < μ36 x38 w37)))))))))
                            (DrewK w37 fun w55 =>
                              ∃ (x56 : Int), w55.cell? (b32.add 0) = some (.int .i64 x56) ∧
                              (∃ (x57 : Int), w55.cell? (b32.add 1) = some (.int .u64 x57) ∧
                                (∃ (x58 : Int), w55.cell? (b6.add 3) = some (.int .i64 x58) ∧
                                  (Calls Try.prog 72 #[(.int .i64 x58), (.int .i64 1)] w55 fun e62 w61 =>
                                    ∃ (x59 : Int), ∃ (x60 : Int), e62 = .returned (.agg #[(.int .i64 x59), (.int .u64 x60)]) ∧
                                    (Below w55.heap.size w55 w61 ∧
                                      (Calls Try.prog 73 #[(.agg #[(.int .i64 x56), (.int .u64 x57)]), (.agg #[(.int .i64 x59), (.int .u64 x60)])] w61 fun e65 w64 =>
                                        ∃ (x63 : Int), e65 = .returned (.int .i64 x63) ∧
                                        (Below w55.heap.size w55 w64 ∧
                                          (BoolK ((x63 : Int) == 0)
                                            (K true w64)
                                            (BoolK (decide ((x63 : Int) < 0))
                                              (∃ (s66 : ByteArray), w64.cell? b6 = some (.string s66) ∧
                                                (K ((s66 : ByteArray).toList == ((⟨#[109, 111, 115, 116]⟩ : ByteArray) : ByteArray).toList) w64))
                                              (K false w64))))))))))))
                        (BoolK ((s28 : ByteArray).toList == ((⟨#[117, 110, 108, 105, 107, 101]⟩ : ByteArray) : ByteArray).toList)
                          (DrewK w30 fun w67 =>
                            (0 ≤ (0 : Int) ∧ (0 : Int) < (((l15 : Nat) : Int).toNat : Nat)) ∧
                            ∃ (x68 : Int), w67.cell? (b16.add ((0 : Int).toNat * 1)) = some (.int .i64 x68) ∧
                            (∃ (x69 : Int), w67.cell? (b6.add 3) = some (.int .i64 x69) ∧
                              ((0 ≤ (1 : Int) ∧ (1 : Int) < (((l15 : Nat) : Int).toNat : Nat)) ∧
                                ∃ (x70 : Int), w67.cell? (b16.add ((1 : Int).toNat * 1)) = some (.int .i64 x70) ∧
                                (Calls Try.prog 74 #[(.int .i64 x68), (.int .i64 x69), (.int .i64 x70)] w67 fun e73 w72 =>
                                  ∃ (x71 : Int), e73 = .returned (.int .i64 x71) ∧
                                  (Below w67.heap.size w67 w72 ∧
                                    (K ((x71 : Int) != 0) w72))))))
                          (BoolK ((s28 : ByteArray).toList == ((⟨#[100, 105, 115, 116, 105, 110, 99, 116]⟩ : ByteArray) : ByteArray).toList)
                            (∃ (I74 : Int → World → Prop) (μ75 : Int → World → Nat),
                              (I74 0 w30 ∧ True) ∧
                              ∀ (w76 : World) (x77 : Int), I74 x77 w76 →
                              BoolK (decide ((x77 : Int) < (((l15 : Nat) : Int).toNat : Nat)))
                              (∃ (I78 : Int → World → Prop) (μ79 : Int → World → Nat),
                                (I78 0 w76 ∧ True) ∧
                                ∀ (w80 : World) (x81 : Int), I78 x81 w80 →
                                BoolK (decide ((x81 : Int) < x77))
                                (DrewK w80 fun w82 =>
                                  (0 ≤ (x77 : Int) ∧ (x77 : Int) < (((l15 : Nat) : Int).toNat : Nat)) ∧
                                  ∃ (x83 : Int), w82.cell? (b16.add ((x77 : Int).toNat * 1)) = some (.int .i64 x83) ∧
                                  ((0 ≤ (x81 : Int) ∧ (x81 : Int) < (((l15 : Nat) : Int).toNat : Nat)) ∧
                                    ∃ (x84 : Int), w82.cell? (b16.add ((x81 : Int).toNat * 1)) = some (.int .i64 x84) ∧
                                    (BoolK ((x83 : Int) == x84)
                                      (K false w82)
                                      (I78 (IntKind.wrap .i64 (x81 + 1)) w82 ∧ μ79 (IntKind.wrap .i64 (x81 + 1)) w82 < μ79 x81 w80))))
                                (I74 (IntKind.wrap .i64 (x77 + 1)) w80 ∧ μ75 (IntKind.wrap .i64 (x77 + 1)) w80 < μ75 x77 w76))
                              (K true w76))
                            (BoolK ((s28 : ByteArray).toList == ((⟨#[112, 114, 111, 100, 117, 99, 116]⟩ : ByteArray) : ByteArray).toList)
                              (DrewK w30 fun w85 =>
                                (0 ≤ (0 : Int) ∧ (0 : Int) < (((l15 : Nat) : Int).toNat : Nat)) ∧
                                ∃ (x86 : Int), w85.cell? (b16.add ((0 : Int).toNat * 1)) = some (.int .i64 x86) ∧
                                ((0 ≤ (1 : Int) ∧ (1 : Int) < (((l15 : Nat) : Int).toNat : Nat)) ∧
                                  ∃ (x87 : Int), w85.cell? (b16.add ((1 : Int).toNat * 1)) = some (.int .i64 x87) ∧
                                  ((0 ≤ (2 : Int) ∧ (2 : Int) < (((l15 : Nat) : Int).toNat : Nat)) ∧
                                    ∃ (x88 : Int), w85.cell? (b16.add ((2 : Int).toNat * 1)) = some (.int .i64 x88) ∧
                                    (Calls Try.prog 72 #[(.int .i64 x86), (.int .i64 x87)] w85 fun e92 w91 =>
                                      ∃ (x89 : Int), ∃ (x90 : Int), e92 = .returned (.agg #[(.int .i64 x89), (.int .u64 x90)]) ∧
                                      (Below w85.heap.size w85 w91 ∧
                                        (Calls Try.prog 72 #[(.int .i64 x88), (.int .i64 1)] w91 fun e96 w95 =>
                                          ∃ (x93 : Int), ∃ (x94 : Int), e96 = .returned (.agg #[(.int .i64 x93), (.int .u64 x94)]) ∧
                                          (Below w85.heap.size w85 w95 ∧
                                            (K (((x89 : Int) == x93) && (((x90 : Int) == x94) && (true))) w95))))))))
                              (BoolK ((s28 : ByteArray).toList == ((⟨#[101, 108, 101, 109, 101, 110, 116]⟩ : ByteArray) : ByteArray).toList)
                                (DrewK w30 fun w97 =>
                                  (0 ≤ (0 : Int) ∧ (0 : Int) < (((l15 : Nat) : Int).toNat : Nat)) ∧
                                  ∃ (x98 : Int), w97.cell? (b16.add ((0 : Int).toNat * 1)) = some (.int .i64 x98) ∧
                                  (BoolK (decide ((x98 : Int) ≥ 1))
                                    ((0 ≤ (0 : Int) ∧ (0 : Int) < (((l15 : Nat) : Int).toNat : Nat)) ∧
                                      ∃ (x99 : Int), w97.cell? (b16.add ((0 : Int).toNat * 1)) = some (.int .i64 x99) ∧
                                      (∃ (a100 : Option Addr) (l100 : Nat) (c100 : Nat), w97.cell? (b6.add 2) = some (.slice a100 l100 c100) ∧
                                        (BoolK (decide ((x99 : Int) ≤ (l100 : Nat)))
                                          (∃ (a101 : Option Addr) (l101 : Nat) (c101 : Nat), w97.cell? (b6.add 2) = some (.slice a101 l101 c101) ∧
                                            ((0 ≤ (0 : Int) ∧ (0 : Int) < (((l15 : Nat) : Int).toNat : Nat)) ∧
                                              ∃ (x102 : Int), w97.cell? (b16.add ((0 : Int).toNat * 1)) = some (.int .i64 x102) ∧
                                              ((0 ≤ (IntKind.wrap .i64 (x102 - 1) : Int) ∧ (IntKind.wrap .i64 (x102 - 1) : Int) < (l101 : Nat)) ∧
                                                AddrK a101 fun b103 =>
                                                ∃ (x104 : Int), w97.cell? (b103.add ((IntKind.wrap .i64 (x102 - 1) : Int).toNat * 1)) = some (.int .i64 x104) ∧
                                                ((0 ≤ (1 : Int) ∧ (1 : Int) < (((l15 : Nat) : Int).toNat : Nat)) ∧
                                                  ∃ (x105 : Int), w97.cell? (b16.add ((1 : Int).toNat * 1)) = some (.int .i64 x105) ∧
                                                  (K ((x104 : Int) == x105) w97)))))
                                          (K false w97))))
                                    (K false w97)))
                                (BoolK ((s28 : ByteArray).toList == ((⟨#[109, 97, 120]⟩ : ByteArray) : ByteArray).toList)
                                  (DrewK w30 fun w106 =>
                                    (0 ≤ (2 : Int) ∧ (2 : Int) < (((l15 : Nat) : Int).toNat : Nat)) ∧
                                    ∃ (x107 : Int), w106.cell? (b16.add ((2 : Int).toNat * 1)) = some (.int .i64 x107) ∧
                                    ((0 ≤ (0 : Int) ∧ (0 : Int) < (((l15 : Nat) : Int).toNat : Nat)) ∧
                                      ∃ (x108 : Int), w106.cell? (b16.add ((0 : Int).toNat * 1)) = some (.int .i64 x108) ∧
                                      ((0 ≤ (1 : Int) ∧ (1 : Int) < (((l15 : Nat) : Int).toNat : Nat)) ∧
                                        ∃ (x109 : Int), w106.cell? (b16.add ((1 : Int).toNat * 1)) = some (.int .i64 x109) ∧
                                        (K ((x107 : Int) == if (x109 : Int) > x108 then x109 else x108) w106))))
                                  (BoolK ((s28 : ByteArray).toList == ((⟨#[114, 101, 105, 102, 121]⟩ : ByteArray) : ByteArray).toList)
                                    (DrewK w30 fun w110 =>
                                      (0 ≤ (2 : Int) ∧ (2 : Int) < (((l15 : Nat) : Int).toNat : Nat)) ∧
                                      ∃ (x111 : Int), w110.cell? (b16.add ((2 : Int).toNat * 1)) = some (.int .i64 x111) ∧
                                      (∃ (x112 : Int), w110.cell? (b6.add 3) = some (.int .i64 x112) ∧
                                        ((0 ≤ (1 : Int) ∧ (1 : Int) < (((l15 : Nat) : Int).toNat : Nat)) ∧
                                          ∃ (x113 : Int), w110.cell? (b16.add ((1 : Int).toNat * 1)) = some (.int .i64 x113) ∧
                                          (Calls Try.prog 74 #[(.int .i64 x111), (.int .i64 x112), (.int .i64 x113)] w110 fun e116 w115 =>
                                            ∃ (x114 : Int), e116 = .returned (.int .i64 x114) ∧
                                            (Below w110.heap.size w110 w115 ∧
                                              (BoolK (decide ((x114 : Int) ≥ 0))
                                                ((0 ≤ (0 : Int) ∧ (0 : Int) < (((l15 : Nat) : Int).toNat : Nat)) ∧
                                                  ∃ (x117 : Int), w115.cell? (b16.add ((0 : Int).toNat * 1)) = some (.int .i64 x117) ∧
                                                  (K ((x117 : Int) == 1) w115))
                                                ((0 ≤ (0 : Int) ∧ (0 : Int) < (((l15 : Nat) : Int).toNat : Nat)) ∧
                                                  ∃ (x118 : Int), w115.cell? (b16.add ((0 : Int).toNat * 1)) = some (.int .i64 x118) ∧
                                                  (K ((x118 : Int) == 0) w115))))))))
                                    (DrewK w30 fun w119 =>
                                      (0 ≤ (0 : Int) ∧ (0 : Int) < (((l15 : Nat) : Int).toNat : Nat)) ∧
                                      ∃ (x120 : Int), w119.cell? (b16.add ((0 : Int).toNat * 1)) = some (.int .i64 x120) ∧
                                      (∃ (a121 : Option Addr) (l121 : Nat) (c121 : Nat), w119.cell? (b6.add 2) = some (.slice a121 l121 c121) ∧
                                        ((0 ≤ (0 : Int) ∧ (0 : Int) < (l121 : Nat)) ∧
                                          AddrK a121 fun b122 =>
                                          ∃ (x123 : Int), w119.cell? (b122.add ((0 : Int).toNat * 1)) = some (.int .i64 x123) ∧
                                          ((0 ≤ (1 : Int) ∧ (1 : Int) < (((l15 : Nat) : Int).toNat : Nat)) ∧
                                            ∃ (x124 : Int), w119.cell? (b16.add ((1 : Int).toNat * 1)) = some (.int .i64 x124) ∧
                                            (Calls Try.prog 74 #[(.int .i64 x120), (.int .i64 x123), (.int .i64 x124)] w119 fun e127 w126 =>
                                              ∃ (x125 : Int), e127 = .returned (.int .i64 x125) ∧
                                              (Below w119.heap.size w119 w126 ∧
                                                (BoolK (decide ((x125 : Int) ≤ 0))
                                                  ((((K true w126) ∧
                                                        (K true w126)) ∧
                                                      (K true w126)) ∧
                                                    ((((K true w126) ∧
                                                          (K true w126)) ∧
                                                        (((K true w126) ∧
                                                            (K true w126)) ∧
                                                          ((K true w126) ∧
                                                            (K true w126)))) ∧
                                                      ((K true w126) ∧
                                                        ((K true w126) ∧
                                                          (K true w126)))))
                                                  ((0 ≤ (1 : Int) ∧ (1 : Int) < (((l15 : Nat) : Int).toNat : Nat)) ∧
                                                    (0 ≤ (0 : Int) ∧ (0 : Int) < (((l15 : Nat) : Int).toNat : Nat)) ∧
                                                    (∃ (x128 : Int), w126.cell? (b16.add ((1 : Int).toNat * 1)) = some (.int .i64 x128) ∧
                                                      (Below w119.heap.size w119 w126 ∧
                                                        ((∃ (a129 : Option Addr) (l129 : Nat) (c129 : Nat), w126.cell? (b6.add 2) = some (.slice a129 l129 c129) ∧
                                                            (Below w119.heap.size w119 w126 ∧
                                                              ((0 ≤ (1 : Int) ∧ (1 : Int) < (l129 : Nat)) ∧
                                                              AddrK a129 fun b130 =>
                                                              (∃ (x131 : Int), w126.cell? (b130.add ((1 : Int).toNat * 1)) = some (.int .i64 x131) ∧
                                                              (Below w119.heap.size w119 w126 ∧
                                                              (∃ (x132 : Int), w126.cell? (b16.add ((0 : Int).toNat * 1)) = some (.int .i64 x132) ∧
                                                              (Below w119.heap.size w119 w126 ∧
                                                              (Calls Try.prog 74 #[(.int .i64 x128), (.int .i64 x131), (.int .i64 x132)] w126 fun e135 w134 =>
                                                              ∃ (x133 : Int), e135 = .returned (.int .i64 x133) ∧
                                                              (Below w119.heap.size w119 w134 ∧
                                                              (K (decide ((x133 : Int) ≤ 0)) w134))))))) ∧
                                                              (∃ (x136 : Int), w126.cell? (b16.add ((0 : Int).toNat * 1)) = some (.int .i64 x136) ∧
                                                              (Below w119.heap.size w119 w126 ∧
                                                              (∃ (x137 : Int), w126.cell? (b130.add ((1 : Int).toNat * 1)) = some (.int .i64 x137) ∧
                                                              (Below w119.heap.size w119 w126 ∧
                                                              (Calls Try.prog 74 #[(.int .i64 x128), (.int .i64 x137), (.int .i64 x136)] w126 fun e140 w139 =>
                                                              ∃ (x138 : Int), e140 = .returned (.int .i64 x138) ∧
                                                              (Below w119.heap.size w119 w139 ∧
                                                              (K (decide ((x138 : Int) ≤ 0)) w139)))))))))) ∧
                                                          (∃ (x141 : Int), w126.cell? (b16.add ((0 : Int).toNat * 1)) = some (.int .i64 x141) ∧
                                                            (Below w119.heap.size w119 w126 ∧
                                                              (∃ (a142 : Option Addr) (l142 : Nat) (c142 : Nat), w126.cell? (b6.add 2) = some (.slice a142 l142 c142) ∧
                                                              (Below w119.heap.size w119 w126 ∧
                                                              ((0 ≤ (1 : Int) ∧ (1 : Int) < (l142 : Nat)) ∧
                                                              AddrK a142 fun b143 =>
                                                              ∃ (x144 : Int), w126.cell? (b143.add ((1 : Int).toNat * 1)) = some (.int .i64 x144) ∧
                                                              (Below w119.heap.size w119 w126 ∧
                                                              (Calls Try.prog 74 #[(.int .i64 x128), (.int .i64 x144), (.int .i64 x141)] w126 fun e147 w146 =>
                                                              ∃ (x145 : Int), e147 = .returned (.int .i64 x145) ∧
                                                              (Below w119.heap.size w119 w146 ∧
                                                              (K (decide ((x145 : Int) ≤ 0)) w146)))))))))))) ∧
                                                    ((∃ (a148 : Option Addr) (l148 : Nat) (c148 : Nat), w126.cell? (b6.add 2) = some (.slice a148 l148 c148) ∧
                                                        (Below w119.heap.size w119 w126 ∧
                                                          ((0 ≤ (1 : Int) ∧ (1 : Int) < (l148 : Nat)) ∧
                                                            AddrK a148 fun b149 =>
                                                            (∃ (x150 : Int), w126.cell? (b16.add ((1 : Int).toNat * 1)) = some (.int .i64 x150) ∧
                                                              (Below w119.heap.size w119 w126 ∧
                                                              ((∃ (x151 : Int), w126.cell? (b149.add ((1 : Int).toNat * 1)) = some (.int .i64 x151) ∧
                                                              (Below w119.heap.size w119 w126 ∧
                                                              (∃ (x152 : Int), w126.cell? (b16.add ((0 : Int).toNat * 1)) = some (.int .i64 x152) ∧
                                                              (Below w119.heap.size w119 w126 ∧
                                                              (Calls Try.prog 74 #[(.int .i64 x150), (.int .i64 x151), (.int .i64 x152)] w126 fun e155 w154 =>
                                                              ∃ (x153 : Int), e155 = .returned (.int .i64 x153) ∧
                                                              (Below w119.heap.size w119 w154 ∧
                                                              (K (decide ((x153 : Int) ≤ 0)) w154))))))) ∧
                                                              (∃ (x156 : Int), w126.cell? (b16.add ((0 : Int).toNat * 1)) = some (.int .i64 x156) ∧
                                                              (Below w119.heap.size w119 w126 ∧
                                                              (∃ (x157 : Int), w126.cell? (b149.add ((1 : Int).toNat * 1)) = some (.int .i64 x157) ∧
                                                              (Below w119.heap.size w119 w126 ∧
                                                              (Calls Try.prog 74 #[(.int .i64 x150), (.int .i64 x157), (.int .i64 x156)] w126 fun e160 w159 =>
                                                              ∃ (x158 : Int), e160 = .returned (.int .i64 x158) ∧
                                                              (Below w119.heap.size w119 w159 ∧
                                                              (K (decide ((x158 : Int) ≤ 0)) w159)))))))))) ∧
                                                            ((∃ (x161 : Int), w126.cell? (b149.add ((1 : Int).toNat * 1)) = some (.int .i64 x161) ∧
                                                              (Below w119.heap.size w119 w126 ∧
                                                              ((∃ (x162 : Int), w126.cell? (b16.add ((1 : Int).toNat * 1)) = some (.int .i64 x162) ∧
                                                              (Below w119.heap.size w119 w126 ∧
                                                              (∃ (x163 : Int), w126.cell? (b16.add ((0 : Int).toNat * 1)) = some (.int .i64 x163) ∧
                                                              (Below w119.heap.size w119 w126 ∧
                                                              (Calls Try.prog 74 #[(.int .i64 x162), (.int .i64 x161), (.int .i64 x163)] w126 fun e166 w165 =>
                                                              ∃ (x164 : Int), e166 = .returned (.int .i64 x164) ∧
                                                              (Below w119.heap.size w119 w165 ∧
                                                              (K (decide ((x164 : Int) ≤ 0)) w165))))))) ∧
                                                              (∃ (x167 : Int), w126.cell? (b16.add ((0 : Int).toNat * 1)) = some (.int .i64 x167) ∧
                                                              (Below w119.heap.size w119 w126 ∧
                                                              (∃ (x168 : Int), w126.cell? (b16.add ((1 : Int).toNat * 1)) = some (.int .i64 x168) ∧
                                                              (Below w119.heap.size w119 w126 ∧
                                                              (Calls Try.prog 74 #[(.int .i64 x168), (.int .i64 x161), (.int .i64 x167)] w126 fun e171 w170 =>
                                                              ∃ (x169 : Int), e171 = .returned (.int .i64 x169) ∧
                                                              (Below w119.heap.size w119 w170 ∧
                                                              (K (decide ((x169 : Int) ≤ 0)) w170)))))))))) ∧
                                                              (∃ (x172 : Int), w126.cell? (b16.add ((0 : Int).toNat * 1)) = some (.int .i64 x172) ∧
                                                              (Below w119.heap.size w119 w126 ∧
                                                              ((∃ (x173 : Int), w126.cell? (b16.add ((1 : Int).toNat * 1)) = some (.int .i64 x173) ∧
                                                              (Below w119.heap.size w119 w126 ∧
                                                              (∃ (x174 : Int), w126.cell? (b149.add ((1 : Int).toNat * 1)) = some (.int .i64 x174) ∧
                                                              (Below w119.heap.size w119 w126 ∧
                                                              (Calls Try.prog 74 #[(.int .i64 x173), (.int .i64 x174), (.int .i64 x172)] w126 fun e177 w176 =>
                                                              ∃ (x175 : Int), e177 = .returned (.int .i64 x175) ∧
                                                              (Below w119.heap.size w119 w176 ∧
                                                              (K (decide ((x175 : Int) ≤ 0)) w176))))))) ∧
                                                              (∃ (x178 : Int), w126.cell? (b149.add ((1 : Int).toNat * 1)) = some (.int .i64 x178) ∧
                                                              (Below w119.heap.size w119 w126 ∧
                                                              (∃ (x179 : Int), w126.cell? (b16.add ((1 : Int).toNat * 1)) = some (.int .i64 x179) ∧
                                                              (Below w119.heap.size w119 w126 ∧
                                                              (Calls Try.prog 74 #[(.int .i64 x179), (.int .i64 x178), (.int .i64 x172)] w126 fun e182 w181 =>
                                                              ∃ (x180 : Int), e182 = .returned (.int .i64 x180) ∧
                                                              (Below w119.heap.size w119 w181 ∧
                                                              (K (decide ((x180 : Int) ≤ 0)) w181)))))))))))))) ∧
                                                      (∃ (x183 : Int), w126.cell? (b16.add ((0 : Int).toNat * 1)) = some (.int .i64 x183) ∧
                                                        (Below w119.heap.size w119 w126 ∧
                                                          ((∃ (x184 : Int), w126.cell? (b16.add ((1 : Int).toNat * 1)) = some (.int .i64 x184) ∧
                                                              (Below w119.heap.size w119 w126 ∧
                                                              (∃ (a185 : Option Addr) (l185 : Nat) (c185 : Nat), w126.cell? (b6.add 2) = some (.slice a185 l185 c185) ∧
                                                              (Below w119.heap.size w119 w126 ∧
                                                              ((0 ≤ (1 : Int) ∧ (1 : Int) < (l185 : Nat)) ∧
                                                              AddrK a185 fun b186 =>
                                                              ∃ (x187 : Int), w126.cell? (b186.add ((1 : Int).toNat * 1)) = some (.int .i64 x187) ∧
                                                              (Below w119.heap.size w119 w126 ∧
                                                              (Calls Try.prog 74 #[(.int .i64 x184), (.int .i64 x187), (.int .i64 x183)] w126 fun e190 w189 =>
                                                              ∃ (x188 : Int), e190 = .returned (.int .i64 x188) ∧
                                                              (Below w119.heap.size w119 w189 ∧
                                                              (K (decide ((x188 : Int) ≤ 0)) w189))))))))) ∧
                                                            (∃ (a191 : Option Addr) (l191 : Nat) (c191 : Nat), w126.cell? (b6.add 2) = some (.slice a191 l191 c191) ∧
                                                              (Below w119.heap.size w119 w126 ∧
                                                              ((0 ≤ (1 : Int) ∧ (1 : Int) < (l191 : Nat)) ∧
                                                              AddrK a191 fun b192 =>
                                                              (∃ (x193 : Int), w126.cell? (b16.add ((1 : Int).toNat * 1)) = some (.int .i64 x193) ∧
                                                              (Below w119.heap.size w119 w126 ∧
                                                              (∃ (x194 : Int), w126.cell? (b192.add ((1 : Int).toNat * 1)) = some (.int .i64 x194) ∧
                                                              (Below w119.heap.size w119 w126 ∧
                                                              (Calls Try.prog 74 #[(.int .i64 x193), (.int .i64 x194), (.int .i64 x183)] w126 fun e197 w196 =>
                                                              ∃ (x195 : Int), e197 = .returned (.int .i64 x195) ∧
                                                              (Below w119.heap.size w119 w196 ∧
                                                              (K (decide ((x195 : Int) ≤ 0)) w196))))))) ∧
                                                              (∃ (x198 : Int), w126.cell? (b192.add ((1 : Int).toNat * 1)) = some (.int .i64 x198) ∧
                                                              (Below w119.heap.size w119 w126 ∧
                                                              (∃ (x199 : Int), w126.cell? (b16.add ((1 : Int).toNat * 1)) = some (.int .i64 x199) ∧
                                                              (Below w119.heap.size w119 w126 ∧
                                                              (Calls Try.prog 74 #[(.int .i64 x199), (.int .i64 x198), (.int .i64 x183)] w126 fun e202 w201 =>
                                                              ∃ (x200 : Int), e202 = .returned (.int .i64 x200) ∧
                                                              (Below w119.heap.size w119 w201 ∧
                                                              (K (decide ((x200 : Int) ≤ 0)) w201))))))))))))))))))))))))))))) ∧
                      (BoolK ((s28 : ByteArray).toList == ((⟨#[115, 117, 109]⟩ : ByteArray) : ByteArray).toList)
                        (J29 ((s28 : ByteArray).toList == ((⟨#[115, 117, 109]⟩ : ByteArray) : ByteArray).toList) w21)
                        (J29 ((s28 : ByteArray).toList == ((⟨#[109, 111, 115, 116]⟩ : ByteArray) : ByteArray).toList) w21))))))))))))
def ann45 : Ann := (.two .nil (.two (.two .nil (.two (.two .nil .nil) .nil)) (.two .nil (.two (.two .nil (.one (.loop [(27, (.one (.int .i64)))] [1, 2, 5, 25, 26] (.two .nil (.two (.two .nil .nil) (.two (.one (.two .nil .nil)) .nil)))))) (.two (.two .nil (.one (.cut [(42, (.one .bool))] [2, 5, 41] (.two .nil (.two .nil .nil)) (.two (.two .nil (.two (.two .nil (.one (.loop [(48, (.one (.int .i64)))] [2, 5, 8, 46, 47] (.two .nil (.two (.two .nil .nil) (.two (.one (.two .nil (.any 8 (.take 0 (.take 1 (.take 2 (.take 3 (.take 4 (.take 5 (.one 6 (.one 7 .done))))))))))) .nil)))))) (.two (.any 6 (.take 0 (.take 1 (.take 2 (.one 3 (.one 4 (.take 5 .done))))))) (.two .nil .nil)))) (.two .nil (.two (.two (.any 11 (.take 0 (.take 1 (.take 2 (.take 3 (.take 4 (.take 5 (.take 6 (.take 7 (.one 8 (.take 9 (.take 10 .done)))))))))))) .nil) (.two .nil (.two (.two (.two .nil (.one (.loop [(94, (.one (.int .i64)))] [5, 93] (.two .nil (.two (.two .nil .nil) (.two (.one (.two .nil (.two .nil (.one (.loop [(98, (.one (.int .i64)))] [5, 12, 93, 94, 97] (.two .nil (.two (.two .nil .nil) (.two (.one (.two .nil (.two (.any 9 (.take 0 (.take 1 (.take 2 (.take 3 (.take 4 (.take 5 (.take 6 (.take 7 (.take 8 .done)))))))))) (.two (.two .nil .nil) .nil)))) .nil)))))))) .nil)))))) (.two .nil .nil)) (.two .nil (.two (.two (.any 13 (.take 0 (.take 1 (.take 2 (.take 3 (.take 4 (.take 5 (.take 7 (.take 8 (.take 9 (.one 6 (.one 10 (.take 11 (.take 12 .done)))))))))))))) .nil) (.two .nil (.two (.two (.any 28 (.take 0 (.take 1 (.take 2 (.take 3 (.take 4 (.take 5 (.take 6 (.take 7 (.take 8 (.take 9 (.take 10 (.take 11 (.take 12 (.take 13 (.take 14 (.take 15 (.take 16 (.take 17 (.take 18 (.take 19 (.take 20 (.take 21 (.take 22 (.take 23 (.take 24 (.take 25 (.take 26 (.take 27 .done))))))))))))))))))))))))))))) .nil) (.two .nil (.two (.two (.any 12 (.take 0 (.take 1 (.take 2 (.take 3 (.take 4 (.take 5 (.take 6 (.take 7 (.take 8 (.take 9 (.take 10 (.take 11 .done))))))))))))) .nil) (.two .nil (.two (.two .nil (.two (.two (.any 10 (.take 0 (.take 1 (.take 2 (.take 3 (.take 4 (.take 5 (.take 6 (.take 7 (.one 8 (.take 9 .done))))))))))) (.two .nil .nil)) (.two .nil .nil))) .nil)))))))))))))))) (.two (.any 27 (.take 0 (.take 1 (.take 2 (.take 3 (.take 4 (.take 5 (.take 6 (.take 7 (.take 8 (.take 9 (.one 10 (.take 11 (.take 12 (.take 13 (.take 14 (.take 16 (.take 20 (.take 21 (.both 15 (.both 17 (.take 18 (.both 19 (.one 22 (.one 23 (.take 24 (.take 25 (.take 26 .done))))) (.one 22 (.one 19 (.one 23 (.take 24 (.take 25 (.take 26 .done)))))))) (.one 22 (.one 17 (.take 18 (.one 19 (.one 23 (.take 24 (.take 25 (.take 26 .done))))))))) (.both 17 (.take 18 (.both 15 (.both 19 (.one 22 (.one 23 (.take 24 (.take 25 (.take 26 .done))))) (.one 22 (.one 19 (.one 23 (.take 24 (.take 25 (.take 26 .done))))))) (.both 19 (.both 15 (.one 22 (.one 23 (.take 24 (.take 25 (.take 26 .done))))) (.one 22 (.one 15 (.one 23 (.take 24 (.take 25 (.take 26 .done))))))) (.one 22 (.both 15 (.one 19 (.one 23 (.take 24 (.take 25 (.take 26 .done))))) (.one 19 (.one 15 (.one 23 (.take 24 (.take 25 (.take 26 .done))))))))))) (.one 22 (.both 15 (.one 17 (.take 18 (.one 19 (.one 23 (.take 24 (.take 25 (.take 26 .done))))))) (.one 17 (.take 18 (.both 15 (.one 19 (.one 23 (.take 24 (.take 25 (.take 26 .done))))) (.one 19 (.one 15 (.one 23 (.take 24 (.take 25 (.take 26 .done)))))))))))))))))))))))))))))))) .nil))))))
noncomputable def code45 : Code := match Try.f45.body with | some c => c | none => .skip
theorem wp45 (s1 : ByteArray) (a2 : Option Addr) (l2 : Nat) (c2 : Nat) (a3 : Option Addr) (l3 : Nat) (c3 : Nat) (x4 : Int) (a5 : Option Addr) (l5 : Nat) (c5 : Nat) (K : Bool → World → Prop) (w : World) : WP Try.prog tab code45 ann45 (fnQ tab Try.f45.results.toList [(.one .bool)] K) (argE 0 [(.agg #[(.string s1), (.slice a2 l2 c2), (.slice a3 l3 c3), (.int .i64 x4)]), (.slice a5 l5 c5)]) w = N45 s1 a2 l2 c2 a3 l3 c3 x4 a5 l5 c5 K w := by kernel_rfl
theorem calls45 (s1 : ByteArray) (a2 : Option Addr) (l2 : Nat) (c2 : Nat) (a3 : Option Addr) (l3 : Nat) (c3 : Nat) (x4 : Int) (a5 : Option Addr) (l5 : Nat) (c5 : Nat) (K : Bool → World → Prop) (w : World) (h : N45 s1 a2 l2 c2 a3 l3 c3 x4 a5 l5 c5 K w) : Calls Try.prog 45 #[(.agg #[(.string s1), (.slice a2 l2 c2), (.slice a3 l3 c3), (.int .i64 x4)]), (.slice a5 l5 c5)] w fun en w' => ∃ (p203 : Bool), en = .returned (.bool p203) ∧ K p203 w' :=
  have e : (fun en w' => ExShs [(.one .bool)] fun vs => en = .returned (tupled vs) ∧ ap [(.one .bool)] K vs fun p => p w') = (fun (en : Ending) (w' : World) => ∃ (p203 : Bool), en = .returned (.bool p203) ∧ K p203 w') := by kernel_rfl
  e ▸ fn_sound tabOk mixed Try.func45 (by kernel_rfl : Try.f45.body = some code45) ann45 [(.agg #[(.string s1), (.slice a2 l2 c2), (.slice a3 l3 c3), (.int .i64 x4)]), (.slice a5 l5 c5)] [(.one .bool)] K w (by kernel_rfl) ((wp45 s1 a2 l2 c2 a3 l3 c3 x4 a5 l5 c5 K w).symm ▸ h)
end Go.Proofs.Ytggfnakhmjkoeaa

namespace Go.Proofs.Ytggfnakhmjkoeaa
open Go Go.V Go.Proofs
open Go.RowKit (Below)

def distB (x : List Int) (k : Nat) : Bool := (List.range k).all fun i => (List.range i).all fun j => !(x.getD i 0 == x.getD j 0)
/-- does a propagator hold for these values? -/
def holdsK : Kd → List Int → Int → List Int → Bool
  | .sum, c, n, x => decide (dotS c x x.length = n)
  | .most, c, n, x => decide (dotS c x x.length ≤ n)
  | .unlike, _, n, x => !decide (x.getD 0 0 + n = x.getD 1 0)
  | .distinct, _, _, x => distB x x.length
  | .product, _, _, x => decide (x.getD 0 0 * x.getD 1 0 = x.getD 2 0)
  | .element, c, _, x => decide (1 ≤ x.getD 0 0) && (decide (x.getD 0 0 ≤ c.length) && decide (c.getD (x.getD 0 0 - 1).toNat 0 = x.getD 1 0))
  | .max, _, _, x => decide (x.getD 2 0 = if x.getD 1 0 > x.getD 0 0 then x.getD 1 0 else x.getD 0 0)
  | .reify, _, n, x => decide (x.getD 0 0 = if x.getD 1 0 ≤ x.getD 2 0 + n then 1 else 0)
  | .apart, c, _, x => decide (x.getD 0 0 + c.getD 0 0 ≤ x.getD 1 0) || decide (x.getD 1 0 + c.getD 1 0 ≤ x.getD 0 0)
  | .other, _, _, _ => false
def xsOf (p : PropS) (vs : List Int) : List Int := p.vars.map fun k => vs.getD k.toNat 0
def holdsS (p : PropS) (vs : List Int) : Bool := propB p vs.length && holdsK (kdOf p.kind) p.coefs p.n (xsOf p vs)

theorem blk4 {w : World} {b t : Nat} {v0 v1 v2 v3 : Value} (h : Blk w b #[v0, v1, v2, v3] t) :
    w.cell? ((⟨b, 0, none⟩ : Addr).add 0) = some v0 ∧ w.cell? ((⟨b, 0, none⟩ : Addr).add 1) = some v1 ∧ w.cell? ((⟨b, 0, none⟩ : Addr).add 2) = some v2 ∧ w.cell? ((⟨b, 0, none⟩ : Addr).add 3) = some v3 := by
  rw [add_mk, add_mk, add_mk, add_mk]; exact cell4 h
theorem mul_bnd2 {c x B : Int} (hc : -1000000 ≤ c ∧ c ≤ 1000000) (hx : -B ≤ x ∧ x ≤ B) : -(1000000 * B) ≤ c * x ∧ c * x ≤ 1000000 * B := mul_bnd hc hx
theorem dot_bnd (c x : List Int) (hc : ∀ y ∈ c, -1000000 ≤ y ∧ y ≤ 1000000) (hx : ∀ y ∈ x, -9223372036854775808 ≤ y ∧ y ≤ 9223372036854775807) : ∀ k, k ≤ x.length → k ≤ c.length → -(9223372036854775808000000 * (k : Int)) ≤ dotS c x k ∧ dotS c x k ≤ 9223372036854775808000000 * k
  | 0, _, _ => by simp [dotS]
  | k + 1, h1, h2 => by
    have ih := dot_bnd c x hc hx k (by omega) (by omega)
    have m := mul_bnd (B := 9223372036854775808) (hc _ (List.getElem_mem (show k < c.length by omega))) (x := x[k]) (by have := hx _ (List.getElem_mem (show k < x.length by omega)); omega)
    rw [dotS, getD_get (show k < c.length by omega), getD_get (show k < x.length by omega)]
    omega
theorem range_all_succ (f : Nat → Bool) (k : Nat) : (List.range (k + 1)).all f = ((List.range k).all f && f k) := by
  rw [List.range_succ, List.all_append]; simp
theorem range_all_false {f : Nat → Bool} {k n : Nat} (hk : k < n) (h : f k = false) : (List.range n).all f = false := by
  rw [Bool.eq_false_iff]; intro h2
  rw [List.all_eq_true] at h2
  have := h2 k (List.mem_range.2 hk); rw [h] at this; cases this

set_option maxRecDepth 100000 in
theorem c45 (w : World) (s : ByteArray) (a2 : Option Addr) (l2 c2 : Nat) (a3 : Option Addr) (l3 c3 : Nat) (x4 : Int) (p : PropS) (h : PropAt w s a2 l2 a3 l3 x4 p)
    (a5 : Option Addr) (l5 c5 : Nat) (vs : List Int) (hvs : Ints w a5 l5 vs) (hvb : ∀ x ∈ vs, -9223372036854775808 ≤ x ∧ x ≤ 9223372036854775807) :
    Calls Try.prog 45 #[.agg #[.string s, .slice a2 l2 c2, .slice a3 l3 c3, .int .i64 x4], .slice a5 l5 c5] w fun en w' => ∃ r, en = .returned (.bool r) ∧ (r = holdsS p vs ∧ Ext w w') := by
  have hP := h
  obtain ⟨pk, pv, pc, pn⟩ := p
  obtain ⟨rfl, hv2, hc, hx4, hl2, hl3⟩ := h
  simp only at hv2 hc hl2 hl3 hx4
  subst hx4
  have hl5 : l5 = vs.length := hvs.1
  have hl2' : l2 = pv.length := hv2.1
  have hl3' : l3 = pc.length := hc.1
  refine calls45 _ _ _ _ _ _ _ _ _ _ _ _ w ?_
  refine AllocK.mk fun b w7 hb hblk hx7 => ?_
  have hcell := fun (w' : World) (k : Ext w7 w') => blk4 (hblk.ext k)
  have hc7 := hcell w7 (Ext.refl _)
  refine ⟨_, hc7.1, _, _, _, hc7.2.1, _, _, _, hc7.2.2.1, _, hc7.2.2.2, ?_⟩
  rw [hl5]
  refine (c16 w7 _ _ _ _ _ _ _ _ _ _ (hP.ext hx7)).mono ?_
  rintro en w13 ⟨q, rfl, rfl, hx13⟩
  have hB13 := hx7.trans hx13
  refine ⟨_, rfl, BoolK.mk (fun t => ?_) (fun t => ?_)⟩
  · simp at t; exact ⟨by rw [holdsS, t]; rfl, hB13⟩
  have hpr : propB ⟨pk, pv, pc, pn⟩ vs.length = true := by simpa using t
  have hS : holdsS ⟨pk, pv, pc, pn⟩ vs = holdsK (kdOf pk) pc pn (xsOf ⟨pk, pv, pc, pn⟩ vs) := by rw [holdsS, hpr, Bool.true_and]
  rw [hS]
  have hxlen : (xsOf ⟨pk, pv, pc, pn⟩ vs).length = pv.length := by simp [xsOf]
  have hxget : ∀ (i : Nat) (hi : i < pv.length), (xsOf ⟨pk, pv, pc, pn⟩ vs).getD i 0 = vs.getD pv[i].toNat 0 := fun i hi => by
    rw [getD_get (by rw [hxlen]; exact hi)]; simp [xsOf]
  have hvar : ∀ i (hi : i < pv.length), 0 ≤ pv[i] ∧ pv[i] < (vs.length : Int) := fun i hi => by
    simp only [propB, Bool.and_eq_true, List.all_eq_true] at hpr
    simpa using hpr.1.2 _ (List.getElem_mem hi)
  have hxb : ∀ y ∈ xsOf ⟨pk, pv, pc, pn⟩ vs, -9223372036854775808 ≤ y ∧ y ≤ 9223372036854775807 := fun y hy => by
    obtain ⟨i, hi, rfl⟩ := List.mem_iff_getElem.1 hy
    rw [hxlen] at hi
    have := hxget i hi
    rw [getD_get (by rw [hxlen]; exact hi)] at this
    rw [this]
    have hv := hvar i hi
    rw [getD_get (show pv[i].toNat < vs.length by omega)]
    exact hvb _ (List.getElem_mem _)
  have hk : kindB (kdOf pk) pv.length pc.length pc pn = true := by
    simp only [propB, Bool.and_eq_true] at hpr; exact hpr.2
  generalize xsOf ⟨pk, pv, pc, pn⟩ vs = xs at hxlen hxget hxb ⊢
  have hv40 : pv.length ≤ 40 := by
    revert hk; cases kdOf pk <;> simp [kindB] <;> omega
  have hc13 := hcell w13 hx13
  refine ⟨_, _, _, hc13.2.1, by omega, AllocK.mk fun bx w17 hbx hbk hx17 => ?_⟩
  have hB17 := hB13.trans hx17
  have h17 := hx13.trans hx17
  refine ⟨_, _, _, (hcell w17 h17).2.1, ?_⟩
  refine ⟨fun i w' => ∃ k : Nat, i = k ∧ k ≤ pv.length ∧ (∃ cs : Array Value, Blk w' bx cs 3 ∧ cs.size = pv.length ∧ ∀ i, i < k → cs[i]? = some (.int .i64 (xs.getD i 0))) ∧ Ext w13 w', fun i _ => pv.length - i.toNat,
    ⟨⟨0, rfl, by omega, ⟨_, hbk, by simp [madeCells, hl2'], fun i hi => by omega⟩, hx17⟩, trivial⟩, ?_⟩
  rintro w21 _ ⟨k, rfl, hkl, ⟨cs, hcs, hcn, hcg⟩, hx21⟩
  have hB21 := hB13.trans hx21
  refine BoolK.mk (fun hlt => ?_) (fun hge => ?_)
  · have hlt : k < pv.length := by simp at hlt; omega
    obtain ⟨b1, o1, rfl, g1⟩ := intAt hv2 w21 hB21 hlt
    have hvk := hvar k hlt
    obtain ⟨b2, o2, rfl, g2⟩ := intAt hvs w21 hB21 (i := pv[k].toNat) (by omega)
    refine ⟨by omega, ?_⟩
    simp only [AddrK, Int.toNat_natCast, add_mk, Nat.mul_one, Nat.zero_add]
    refine ⟨_, g1, by omega, _, g2, by omega, SetK.mk hcs (by omega) fun w27 h27 hbut => ?_⟩
    rw [wrap_succ (by omega)]
    refine ⟨⟨k + 1, rfl, by omega, ⟨_, h27, by simp [hcn], fun i hi => ?_⟩, hbut.below hx21 (by omega)⟩, by simp; omega⟩
    rw [Array.getElem?_setIfInBounds]
    by_cases hik : k = i
    · subst hik
      rw [if_pos rfl, if_pos (by omega), hxget k hlt, getD_get (show pv[k].toNat < vs.length by omega)]
    · rw [if_neg hik]; exact hcg i (by omega)
  have : k = pv.length := by simp at hge; omega
  subst this
  have h21 := hx13.trans hx21
  have X : ∀ (i : Nat) (_ : i < pv.length) (w' : World), Ext w21 w' → w'.cell? ⟨bx, i, none⟩ = some (.int .i64 (xs.getD i 0)) := fun i hi w' hw => by
    rw [(hcs.ext hw).cell]; exact hcg i hi
  have XA : ∀ (i : Nat) (_ : i < pv.length) (w' : World), Ext w21 w' → w'.cell? ((⟨bx, 0, none⟩ : Addr).add i) = some (.int .i64 (xs.getD i 0)) := fun i hi w' hw => by rw [add_mk, Nat.zero_add]; exact X i hi w' hw
  have X0 : 0 < pv.length → ∀ w', Ext w21 w' → w'.cell? ((⟨bx, 0, none⟩ : Addr).add ((0 : Int).toNat * 1)) = some (.int .i64 (xs.getD 0 0)) := fun hi w' hw => by rw [add_mk]; exact X 0 hi w' hw
  have X1 : 1 < pv.length → ∀ w', Ext w21 w' → w'.cell? ((⟨bx, 0, none⟩ : Addr).add ((1 : Int).toNat * 1)) = some (.int .i64 (xs.getD 1 0)) := fun hi w' hw => by rw [add_mk]; exact X 1 hi w' hw
  have X2 : 2 < pv.length → ∀ w', Ext w21 w' → w'.cell? ((⟨bx, 0, none⟩ : Addr).add ((2 : Int).toNat * 1)) = some (.int .i64 (xs.getD 2 0)) := fun hi w' hw => by rw [add_mk]; exact X 2 hi w' hw
  have XB : ∀ i, i < pv.length → -9223372036854775808 ≤ xs.getD i 0 ∧ xs.getD i 0 ≤ 9223372036854775807 := fun i hi => by
    rw [getD_get (show i < xs.length by omega)]; exact hxb _ (List.getElem_mem _)
  have Ks : ∀ w', Ext w21 w' → w'.cell? ⟨b, 0, none⟩ = some (.string pk) := fun w' hw => by have := (hcell w' (h21.trans hw)).1; rwa [add_mk0] at this
  have Cc := fun (w' : World) (hw : Ext w21 w') => (hcell w' (h21.trans hw)).2.2.1
  have Nn := fun (w' : World) (hw : Ext w21 w') => (hcell w' (h21.trans hw)).2.2.2
  obtain ⟨k0, k1, k2, k3, k4, k5, k6, k7, k8⟩ := kd_all pk
  have k0' : (pk.toList == (⟨#[115, 117, 109]⟩ : ByteArray).toList) = _ := k0
  have k1' : (pk.toList == (⟨#[109, 111, 115, 116]⟩ : ByteArray).toList) = _ := k1
  have k2' : (pk.toList == (⟨#[117, 110, 108, 105, 107, 101]⟩ : ByteArray).toList) = _ := k2
  have k3' : (pk.toList == (⟨#[100, 105, 115, 116, 105, 110, 99, 116]⟩ : ByteArray).toList) = _ := k3
  have k4' : (pk.toList == (⟨#[112, 114, 111, 100, 117, 99, 116]⟩ : ByteArray).toList) = _ := k4
  have k5' : (pk.toList == (⟨#[109, 97, 120]⟩ : ByteArray).toList) = _ := k5
  have k6' : (pk.toList == (⟨#[101, 108, 101, 109, 101, 110, 116]⟩ : ByteArray).toList) = _ := k6
  have k7' : (pk.toList == (⟨#[114, 101, 105, 102, 121]⟩ : ByteArray).toList) = _ := k7
  refine ⟨_, Ks _ (Ext.refl _), ?_⟩
  rw [k0', k1', k2', k3', k4', k5', k6', k7']
  clear k0 k1 k2 k3 k4 k5 k6 k7 k8 k0' k2' k3' k4' k5' k6' k7'
  refine ⟨fun q w30 => w30 = w21 ∧ q = (decide (kdOf pk = .sum) || decide (kdOf pk = .most)), ?_, ?_⟩
  · rintro w30 q ⟨rfl, rfl⟩
    have r30 := Ext.refl w30
    refine BoolK.mk (fun t => ?_) (fun tsm => ?_)
    · -- sum, most
      have hkb : kdOf pk = .sum ∨ kdOf pk = .most := by simpa using t
      have ⟨hcv, hcr, hnr⟩ : pc.length = pv.length ∧ pc.all rng = true ∧ rng pn = true := by
        rcases hkb with e | e <;> rw [e] at hk <;> simp only [kindB, Bool.and_eq_true, decide_eq_true_eq] at hk <;> exact ⟨hk.1.1.1.2, hk.1.2, hk.2⟩
      have hcb : ∀ y ∈ pc, -1000000 ≤ y ∧ y ≤ 1000000 := fun y hy => of_decide_eq_true (List.all_eq_true.1 hcr y hy)
      have hnb : -1000000 ≤ pn ∧ pn ≤ 1000000 := of_decide_eq_true hnr
      refine AllocK.mk fun bs w33 hbs hbk33 hx33 => ⟨_, _, _, Cc w33 hx33, ?_⟩
      refine ⟨fun i w' => ∃ k : Nat, i = k ∧ k ≤ pv.length ∧ (∃ h l, Blk w' bs #[.int .i64 h, .int .u64 l] 80 ∧ Wd h l (dotS pc xs k)) ∧ Ext w30 w', fun i _ => pv.length - i.toNat,
        ⟨⟨0, rfl, by omega, ⟨0, 0, hbk33, ⟨by omega, by omega, by omega, by omega, rfl⟩⟩, hx33⟩, trivial⟩, ?_⟩
      rintro w37 _ ⟨k, rfl, hkl, ⟨h, l, hbk, hW⟩, hx37⟩
      refine BoolK.mk (fun hlt => ?_) (fun hge => ?_)
      · have hlt : k < pv.length := by simp at hlt; omega
        obtain ⟨b1, o1, rfl, g1⟩ := intAt hc w37 (hB21.trans hx37) (i := k) (by omega)
        refine ⟨by omega, ?_⟩
        simp only [AddrK, Int.toNat_natCast, Nat.mul_one]
        have g1' : w37.cell? ((⟨b1, o1, none⟩ : Addr).add k) = some (.int .i64 pc[k]) := by rw [add_mk]; exact g1
        refine ⟨_, g1', DrewK.mk fun w41 hx41 => ?_⟩
        have hbk41 := hbk.ext hx41
        have hx41' := hx37.trans hx41
        refine ⟨_, (blk2 hbk41).1, _, (blk2 hbk41).2, by omega, _, XA k hlt w41 hx41', ?_⟩
        have cb := hcb _ (List.getElem_mem (show k < pc.length by omega))
        refine (c72 w41 _ _ (by omega) (XB k hlt)).mono ?_
        rintro en w47 ⟨h2, l2, rfl, hW2, hx47⟩
        refine ⟨_, _, rfl, hx47, ?_⟩
        have hdk : dotS pc xs (k + 1) = dotS pc xs k + pc[k] * xs.getD k 0 := by rw [dotS, getD_get (show k < pc.length by omega)]
        have bnd := dot_bnd pc xs hcb hxb (k + 1) (by omega) (by omega)
        refine (c71 w47 _ _ _ _ _ _ hW hW2 (by rw [← hdk]; omega)).mono ?_
        rintro en w51 ⟨h3, l3, rfl, hW3, hx51⟩
        rw [← hdk] at hW3
        have hx51' := hx47.trans hx51
        refine ⟨_, _, rfl, hx51', setTwo (hbk41.ext hx51') fun w54 hbk54 hbut => ?_⟩
        rw [wrap_succ (by omega)]
        exact ⟨⟨k + 1, rfl, by omega, ⟨_, _, hbk54, hW3⟩, hbut.below (hx41'.trans hx51') (by omega)⟩, by simp; omega⟩
      · have : k = pv.length := by simp at hge; omega
        subst this
        refine DrewK.mk fun w55 hx55 => ?_
        have hbk55 := hbk.ext hx55
        have hx55' := hx37.trans hx55
        refine ⟨_, (blk2 hbk55).1, _, (blk2 hbk55).2, _, Nn w55 hx55', (c72 w55 pn 1 (by omega) (by omega)).mono ?_⟩
        rintro en w61 ⟨h2, l2, rfl, hW2, hx61⟩
        refine ⟨_, _, rfl, hx61, (c73 w61 _ _ _ _ _ _ hW hW2).mono ?_⟩
        rintro en w64 ⟨x, rfl, rfl, hx64⟩
        have hx64' := hx55'.trans (hx61.trans hx64)
        have hB64 := hB21.trans hx64'
        rw [Int.mul_one]
        have hkl2 : pv.length = xs.length := hxlen.symm
        refine ⟨_, rfl, hx61.trans hx64, ?_⟩
        rw [hkl2]
        refine BoolK.mk (fun t => ⟨?_, hB64⟩) (fun t => BoolK.mk (fun t2 => ⟨_, Ks _ hx64', ?_, hB64⟩) (fun t2 => ⟨?_, hB64⟩))
        · have t : cmpI (dotS pc xs xs.length) pn = 0 := by simpa using t
          rw [cmpI] at t
          rcases hkb with e | e <;> rw [e] <;> simp only [holdsK] <;> symm <;> rw [decide_eq_true_eq] <;> split at t <;> omega
        · have t : cmpI (dotS pc xs xs.length) pn ≠ 0 := by simpa using t
          have t2 : cmpI (dotS pc xs xs.length) pn < 0 := by simpa using t2
          rw [k1']
          rw [cmpI] at t t2
          rcases hkb with e | e <;> rw [e] <;> simp only [holdsK]
          · symm; rw [show decide (Kd.sum = Kd.most) = false from rfl, decide_eq_false_iff_not]; split at t2 <;> omega
          · rw [decide_eq_decide]; refine ⟨fun _ => ?_, fun _ => trivial⟩; split at t2 <;> omega
        · have t : cmpI (dotS pc xs xs.length) pn ≠ 0 := by simpa using t
          have t2 : ¬ cmpI (dotS pc xs xs.length) pn < 0 := by simpa using t2
          rw [cmpI] at t t2
          rcases hkb with e | e <;> rw [e] <;> simp only [holdsK] <;> symm <;> rw [decide_eq_false_iff_not] <;> split at t2 <;> omega
    have ⟨ns, nm⟩ := not_sm tsm
    clear k1'
    -- unlike
    refine BoolK.mk (fun q => ?_) (fun q2 => ?_)
    · have e := of_decide_eq_true q
      rw [e] at hk ⊢
      simp only [kindB, Bool.and_eq_true, decide_eq_true_eq] at hk
      have hnr : -1000000 ≤ pn ∧ pn ≤ 1000000 := of_decide_eq_true hk.2
      refine DrewK.mk fun w67 hx67 => ⟨by omega, _, X0 (by omega) _ hx67, _, Nn _ hx67, by omega, _, X1 (by omega) _ hx67, ?_⟩
      refine (c74 w67 _ _ _ (XB 0 (by omega)) (by omega) (XB 1 (by omega))).mono ?_
      rintro en w72 ⟨x, rfl, rfl, hx72⟩
      refine ⟨_, rfl, hx72, ?_, hB21.trans (hx67.trans hx72)⟩
      simp only [holdsK]
      rw [Bool.eq_iff_iff, Bool.not_eq_true', decide_eq_false_iff_not, bne_iff_ne, cmpI]
      split
      · omega
      split <;> omega
    -- distinct
    refine BoolK.mk (fun q => ?_) (fun q3 => ?_)
    · have e := of_decide_eq_true q
      rw [e] at hk ⊢
      simp only [holdsK]
      refine ⟨fun i w' => ∃ k : Nat, i = k ∧ k ≤ pv.length ∧ distB xs k = true ∧ Ext w30 w', fun i _ => pv.length - i.toNat, ⟨⟨0, rfl, by omega, rfl, r30⟩, trivial⟩, ?_⟩
      rintro w76 _ ⟨k, rfl, hkl, hd, hx76⟩
      refine BoolK.mk (fun hlt => ?_) (fun hge => ?_)
      · have hlt : k < pv.length := by simp at hlt; omega
        refine ⟨fun i w' => ∃ j : Nat, i = j ∧ j ≤ k ∧ (List.range j).all (fun j => !(xs.getD k 0 == xs.getD j 0)) = true ∧ Ext w76 w', fun i _ => k - i.toNat, ⟨⟨0, rfl, by omega, rfl, Ext.refl _⟩, trivial⟩, ?_⟩
        rintro w80 _ ⟨j, rfl, hj, hd2, hx80⟩
        refine BoolK.mk (fun hlt2 => ?_) (fun hge2 => ?_)
        · have hlt2 : j < k := by simp at hlt2; omega
          refine DrewK.mk fun w82 hx82 => ?_
          have hx' := hx76.trans (hx80.trans hx82)
          simp only [Int.toNat_natCast, Nat.mul_one]
          refine ⟨by omega, _, XA k hlt _ hx', by omega, _, XA j (by omega) _ hx', BoolK.mk (fun t => ?_) (fun t => ?_)⟩
          · refine ⟨?_, hB21.trans hx'⟩
            symm
            refine range_all_false (f := fun i => (List.range i).all fun j => !(xs.getD i 0 == xs.getD j 0)) (k := k) (by omega) ?_
            exact range_all_false (f := fun j => !(xs.getD k 0 == xs.getD j 0)) hlt2 (by rw [t]; rfl)
          · rw [wrap_succ (by omega)]
            exact ⟨⟨j + 1, rfl, by omega, by rw [range_all_succ, hd2, t]; rfl, hx80.trans hx82⟩, by simp; omega⟩
        · have : j = k := by simp at hge2; omega
          subst this
          rw [wrap_succ (by omega)]
          refine ⟨⟨j + 1, rfl, by omega, ?_, hx76.trans hx80⟩, by simp; omega⟩
          rw [distB, range_all_succ]
          rw [distB] at hd
          rw [hd, hd2]; rfl
      · have : k = pv.length := by simp at hge; omega
        subst this
        rw [hxlen]
        exact ⟨hd.symm, hB21.trans hx76⟩
    -- product
    refine BoolK.mk (fun q => ?_) (fun q4 => ?_)
    · have e := of_decide_eq_true q
      rw [e] at hk ⊢
      simp only [kindB, Bool.and_eq_true, decide_eq_true_eq] at hk
      refine DrewK.mk fun w85 hx85 => ⟨by omega, _, X0 (by omega) _ hx85, by omega, _, X1 (by omega) _ hx85, by omega, _, X2 (by omega) _ hx85, ?_⟩
      refine (c72 w85 _ _ (XB 0 (by omega)) (XB 1 (by omega))).mono ?_
      rintro en w91 ⟨h1, l1, rfl, W1, hx91⟩
      refine ⟨_, _, rfl, hx91, (c72 w91 _ 1 (XB 2 (by omega)) (by omega)).mono ?_⟩
      rintro en w95 ⟨h2, l2, rfl, W2, hx95⟩
      refine ⟨_, _, rfl, hx91.trans hx95, ?_, hB21.trans (hx85.trans (hx91.trans hx95))⟩
      rw [Int.mul_one] at W2
      simp only [holdsK]
      have e1 := W1.eq; have e2 := W2.eq
      have := W1.l0; have := W1.l1; have := W2.l0; have := W2.l1
      rw [Bool.eq_iff_iff, Bool.and_true, Bool.and_eq_true, beq_iff_eq, beq_iff_eq, decide_eq_true_eq]
      constructor
      · rintro ⟨rfl, rfl⟩; rw [e1, e2]
      · intro he
        generalize xs.getD 0 0 * xs.getD 1 0 = zz at *
        omega
    -- element
    refine BoolK.mk (fun q => ?_) (fun q5 => ?_)
    · have e := of_decide_eq_true q
      rw [e] at hk ⊢
      simp only [kindB, Bool.and_eq_true, decide_eq_true_eq] at hk
      simp only [holdsK]
      refine DrewK.mk fun w97 hx97 => ⟨by omega, _, X0 (by omega) _ hx97, BoolK.mk (fun t => ⟨by omega, _, X0 (by omega) _ hx97, _, _, _, Cc _ hx97, BoolK.mk (fun t2 => ⟨_, _, _, Cc _ hx97, by omega, _, X0 (by omega) _ hx97, ?_⟩) (fun t2 => ?_)⟩) (fun t => ?_)⟩
      · have t : 1 ≤ xs.getD 0 0 := by simpa using t
        have t2 : xs.getD 0 0 ≤ pc.length := by rw [← hl3']; simpa using t2
        rw [wrap_id (by omega) (by omega)]
        obtain ⟨b1, o1, rfl, g1⟩ := intAt hc w97 (hB21.trans hx97) (i := (xs.getD 0 0 - 1).toNat) (by omega)
        refine ⟨by omega, ?_⟩
        simp only [AddrK]
        rw [add_mk, Nat.mul_one]
        refine ⟨_, g1, by omega, _, X1 (by omega) _ hx97, ?_, hB21.trans hx97⟩
        rw [decide_eq_true t, decide_eq_true t2, Bool.true_and, Bool.true_and, getD_get (show (xs.getD 0 0 - 1).toNat < pc.length by omega)]
        rfl
      · have t2 : ¬ xs.getD 0 0 ≤ pc.length := by rw [← hl3']; simpa using t2
        exact ⟨by rw [decide_eq_false t2, Bool.false_and, Bool.and_false], hB21.trans hx97⟩
      · have t : ¬ 1 ≤ xs.getD 0 0 := by simpa using t
        exact ⟨by rw [decide_eq_false t, Bool.false_and], hB21.trans hx97⟩
    -- max
    refine BoolK.mk (fun q => ?_) (fun q6 => ?_)
    · have e := of_decide_eq_true q
      rw [e] at hk ⊢
      simp only [kindB, Bool.and_eq_true, decide_eq_true_eq] at hk
      simp only [holdsK]
      exact DrewK.mk fun w97 hx97 => ⟨by omega, _, X2 (by omega) _ hx97, by omega, _, X0 (by omega) _ hx97, by omega, _, X1 (by omega) _ hx97, rfl, hB21.trans hx97⟩
    -- reify
    refine BoolK.mk (fun q => ?_) (fun q7 => ?_)
    · have e := of_decide_eq_true q
      rw [e] at hk ⊢
      simp only [kindB, Bool.and_eq_true, decide_eq_true_eq] at hk
      have hnr : -1000000 ≤ pn ∧ pn ≤ 1000000 := of_decide_eq_true hk.2
      simp only [holdsK]
      refine DrewK.mk fun w110 hx110 => ⟨by omega, _, X2 (by omega) _ hx110, _, Nn _ hx110, by omega, _, X1 (by omega) _ hx110, ?_⟩
      refine (c74 w110 _ _ _ (XB 2 (by omega)) (by omega) (XB 1 (by omega))).mono ?_
      rintro en w115 ⟨x, rfl, rfl, hx115⟩
      have hx' := hx110.trans hx115
      refine ⟨_, rfl, hx115, BoolK.mk (fun t => ⟨by omega, _, X0 (by omega) _ hx', ?_, hB21.trans hx'⟩) (fun t => ⟨by omega, _, X0 (by omega) _ hx', ?_, hB21.trans hx'⟩)⟩
      · have t : 0 ≤ cmpI (xs.getD 2 0 + pn) (xs.getD 1 0) := by simpa using t
        have : xs.getD 1 0 ≤ xs.getD 2 0 + pn := by rw [cmpI] at t; split at t <;> omega
        rw [if_pos this]; rfl
      · have t : ¬ 0 ≤ cmpI (xs.getD 2 0 + pn) (xs.getD 1 0) := by simpa using t
        have : ¬ xs.getD 1 0 ≤ xs.getD 2 0 + pn := by
          intro hle; apply t; rw [cmpI, if_neg (by omega)]; split <;> omega
        rw [if_neg this]; rfl
    -- apart
    have e : kdOf pk = .apart := by
      simp at q2 q3 q4 q5 q6 q7
      cases hh : kdOf pk <;> simp_all [kindB]
    rw [e] at hk ⊢
    simp only [kindB, Bool.and_eq_true, decide_eq_true_eq] at hk
    simp only [holdsK]
    obtain ⟨e0, e1, rfl⟩ : ∃ x y, pc = [x, y] := by
      match pc, hk.1.2 with
      | [x, y], _ => exact ⟨x, y, rfl⟩
      | [], h1 => simp at h1
      | [_], h1 => simp at h1
      | _ :: _ :: _ :: _, h1 => simp at h1
    have hcc : (0 ≤ e0 ∧ e0 ≤ 1000000) ∧ (0 ≤ e1 ∧ e1 ≤ 1000000) := by simpa using hk.2
    obtain ⟨bc, oc, rfl, _⟩ := intAt hc w (Ext.refl w) (i := 0) (by simp)
    have C0 : ∀ w', Ext w30 w' → w'.cell? ((⟨bc, oc, none⟩ : Addr).add ((0 : Int).toNat * 1)) = some (.int .i64 e0) := fun w' hw => by
      obtain ⟨b', o', hb', g⟩ := intAt hc w' (hB21.trans hw) (i := 0) (by simp)
      simp at hb'; obtain ⟨rfl, rfl⟩ := hb'
      rw [add_mk]; exact g
    have C1 : ∀ w', Ext w30 w' → w'.cell? ((⟨bc, oc, none⟩ : Addr).add ((1 : Int).toNat * 1)) = some (.int .i64 e1) := fun w' hw => by
      obtain ⟨b', o', hb', g⟩ := intAt hc w' (hB21.trans hw) (i := 1) (by simp)
      simp at hb'; obtain ⟨rfl, rfl⟩ := hb'
      rw [add_mk]; exact g
    have l3two : l3 = 2 := hl3'
    subst l3two
    have Y0 := X0 (by omega); have Y1 := X1 (by omega)
    clear X0 X1 X2 hcell hblk hcs
    refine DrewK.mk fun w119 hx119 => ⟨by omega, _, Y0 _ hx119, _, _, _, Cc _ hx119, by omega, _, C0 _ hx119, by omega, _, Y1 _ hx119, ?_⟩
    refine (c74 w119 _ _ _ (XB 0 (by omega)) (by omega) (XB 1 (by omega))).mono ?_
    rintro en w126 ⟨x, rfl, rfl, hx126⟩
    have hx' := hx119.trans hx126
    have le1 : ∀ a b : Int, cmpI a b ≤ 0 ↔ a ≤ b := fun a b => by
      rw [cmpI]; split
      · omega
      split <;> omega
    have hb0 : decide (cmpI (xs.getD 0 0 + e0) (xs.getD 1 0) ≤ 0) = decide (xs.getD 0 0 + e0 ≤ xs.getD 1 0) := by rw [decide_eq_decide]; exact le1 _ _
    refine ⟨_, rfl, hx126, ?_⟩
    show BoolK (decide (cmpI (xs.getD 0 0 + e0) (xs.getD 1 0) ≤ 0)) _ _
    rw [hb0]
    refine BoolK.mk (fun t => ?_) (fun t => ?_)
    · have kT : (true = (decide (xs.getD 0 0 + [e0, e1].getD 0 0 ≤ xs.getD 1 0) || decide (xs.getD 1 0 + [e0, e1].getD 1 0 ≤ xs.getD 0 0)) ∧ Ext w w126) := ⟨by rw [show ([e0, e1] : List Int).getD 0 0 = e0 from rfl, t]; rfl, hB21.trans hx'⟩
      refine ⟨⟨⟨?_, ?_⟩, ?_⟩, ⟨⟨?_, ?_⟩, ⟨?_, ?_⟩, ?_, ?_⟩, ?_, ?_, ?_⟩ <;> exact kT
    · have L : ∀ w', Ext w119 w' → Calls Try.prog 74 #[.int .i64 (xs.getD 1 0), .int .i64 e1, .int .i64 (xs.getD 0 0)] w' fun en w'' => ∃ x, en = .returned (.int .i64 x) ∧ (Below w119.heap.size w119 w'' ∧ (decide (x ≤ 0) = (decide (xs.getD 0 0 + [e0, e1].getD 0 0 ≤ xs.getD 1 0) || decide (xs.getD 1 0 + [e0, e1].getD 1 0 ≤ xs.getD 0 0)) ∧ Ext w w'')) := fun w' hw => by
        refine (c74 w' _ _ _ (XB 1 (by omega)) (by omega) (XB 0 (by omega))).mono ?_
        rintro en w'' ⟨x, rfl, rfl, hx''⟩
        refine ⟨_, rfl, hw.trans hx'', ?_, hB21.trans (hx119.trans (hw.trans hx''))⟩
        rw [show ([e0, e1] : List Int).getD 0 0 = e0 from rfl, show ([e0, e1] : List Int).getD 1 0 = e1 from rfl, t, Bool.false_or, decide_eq_decide]
        exact le1 _ _
      have A0 : 0 ≤ (0 : Int) ∧ (0 : Int) < (((l2 : Nat) : Int).toNat : Nat) := by omega
      have A1 : 0 ≤ (1 : Int) ∧ (1 : Int) < (((l2 : Nat) : Int).toNat : Nat) := by omega
      have A2 : 0 ≤ (1 : Int) ∧ (1 : Int) < ((2 : Nat) : Int) := by omega
      have LL := L w126 hx126
      have y0 := Y0 _ hx'; have y1 := Y1 _ hx'; have cc := Cc _ hx'; have q1 := C1 _ hx'
      repeat' first
        | exact LL
        | exact A0
        | exact A1
        | exact A2
        | exact hx126
        | refine ⟨_, y0, ?_⟩
        | refine ⟨_, y1, ?_⟩
        | refine ⟨_, q1, ?_⟩
        | refine ⟨_, _, _, cc, ?_⟩
        | apply And.intro
  · refine BoolK.mk (fun t => ⟨rfl, by rw [t]; rfl⟩) (fun t => ⟨rfl, by rw [t]; rfl⟩)
end Go.Proofs.Ytggfnakhmjkoeaa

namespace Go.Proofs.Ytggfnakhmjkoeaa
open Go Go.V Go.Proofs
open Go.RowKit (Below)
/-! manystrand/manystrandref06.ends -/
def N92 (a1 : Option Addr) (l1 : Nat) (_c1 : Nat) (K : Int → Int → World → Prop) (w : World) : Prop :=
  DrewK w fun w2 =>
  (0 ≤ (0 : Int) ∧ (0 : Int) < (l1 : Nat)) ∧
  AddrK a1 fun b3 =>
  (0 ≤ (0 : Int) ∧ (0 : Int) < (2 : Nat)) ∧
  ∃ (x4 : Int), w2.cell? ((b3.add ((0 : Int).toNat * 2)).add ((0 : Int).toNat * 1)) = some (.int .i64 x4) ∧
  ((0 ≤ (IntKind.wrap .i64 ((l1 : Nat) - 1) : Int) ∧ (IntKind.wrap .i64 ((l1 : Nat) - 1) : Int) < (l1 : Nat)) ∧
    AddrK a1 fun b5 =>
    (0 ≤ (1 : Int) ∧ (1 : Int) < (2 : Nat)) ∧
    ∃ (x6 : Int), w2.cell? ((b5.add ((IntKind.wrap .i64 ((l1 : Nat) - 1) : Int).toNat * 2)).add ((1 : Int).toNat * 1)) = some (.int .i64 x6) ∧
    (K x4 x6 w2))
def ann92 : Ann := (.two .nil (.two (.any 13 (.take 0 (.take 1 (.take 2 (.take 3 (.take 4 (.take 5 (.take 6 (.take 7 (.take 8 (.take 9 (.take 10 (.take 11 (.take 12 .done)))))))))))))) .nil))
noncomputable def code92 : Code := match Try.f92.body with | some c => c | none => .skip
theorem wp92 (a1 : Option Addr) (l1 : Nat) (c1 : Nat) (K : Int → Int → World → Prop) (w : World) : WP Try.prog tab code92 ann92 (fnQ tab Try.f92.results.toList [(.one (.int .i64)), (.one (.int .i64))] K) (argE 0 [(.slice a1 l1 c1)]) w = N92 a1 l1 c1 K w := by kernel_rfl
theorem calls92 (a1 : Option Addr) (l1 : Nat) (c1 : Nat) (K : Int → Int → World → Prop) (w : World) (h : N92 a1 l1 c1 K w) : Calls Try.prog 92 #[(.slice a1 l1 c1)] w fun en w' => ∃ (x7 : Int), ∃ (x8 : Int), en = .returned (.tuple #[(.int .i64 x7), (.int .i64 x8)]) ∧ K x7 x8 w' :=
  have e : (fun en w' => ExShs [(.one (.int .i64)), (.one (.int .i64))] fun vs => en = .returned (tupled vs) ∧ ap [(.one (.int .i64)), (.one (.int .i64))] K vs fun p => p w') = (fun (en : Ending) (w' : World) => ∃ (x7 : Int), ∃ (x8 : Int), en = .returned (.tuple #[(.int .i64 x7), (.int .i64 x8)]) ∧ K x7 x8 w') := by kernel_rfl
  e ▸ fn_sound tabOk mixed Try.func92 (by kernel_rfl : Try.f92.body = some code92) ann92 [(.slice a1 l1 c1)] [(.one (.int .i64)), (.one (.int .i64))] K w (by kernel_rfl) ((wp92 a1 l1 c1 K w).symm ▸ h)
end Go.Proofs.Ytggfnakhmjkoeaa

namespace Go.Proofs.Ytggfnakhmjkoeaa
open Go Go.V Go.Proofs
open Go.RowKit (Below)
/-! manystrand/manystrandref06.others -/
def N93 (s1 : ByteArray) (a2 : Option Addr) (l2 : Nat) (c2 : Nat) (a3 : Option Addr) (l3 : Nat) (c3 : Nat) (x4 : Int) (a5 : Option Addr) (l5 : Nat) (_c5 : Nat) (x6 : Int) (K : Int → Int → World → Prop) (w : World) : Prop :=
  AllocK w (#[(.string s1), (.slice a2 l2 c2), (.slice a3 l3 c3), (.int .i64 x4)]) 24 fun b7 w8 =>
  ∃ (I9 : Int → Int → Int → World → Prop) (μ10 : Int → Int → Int → World → Nat),
  (I9 0 0 0 w8 ∧ True) ∧
  ∀ (w11 : World) (x12 : Int) (x13 : Int) (x14 : Int), I9 x12 x13 x14 w11 →
  ∃ (a15 : Option Addr) (l15 : Nat) (c15 : Nat), w11.cell? (b7.add 1) = some (.slice a15 l15 c15) ∧
  (BoolK (decide ((x14 : Int) < (l15 : Nat)))
    (BoolK ((x14 : Int) == x6)
      (I9 x12 x13 (IntKind.wrap .i64 (x14 + 1)) w11 ∧ μ10 x12 x13 (IntKind.wrap .i64 (x14 + 1)) w11 < μ10 x12 x13 x14 w11)
      (∃ (a16 : Option Addr) (l16 : Nat) (c16 : Nat), w11.cell? (b7.add 1) = some (.slice a16 l16 c16) ∧
        ((0 ≤ (x14 : Int) ∧ (x14 : Int) < (l16 : Nat)) ∧
          AddrK a16 fun b17 =>
          ∃ (x18 : Int), w11.cell? (b17.add ((x14 : Int).toNat * 1)) = some (.int .i64 x18) ∧
          ((0 ≤ (x18 : Int) ∧ (x18 : Int) < (l5 : Nat)) ∧
            AddrK a5 fun b19 =>
            ∃ (a20 : Option Addr) (l20 : Nat) (c20 : Nat), w11.cell? (b19.add ((x18 : Int).toNat * 1)) = some (.slice a20 l20 c20) ∧
            (Calls Try.prog 92 #[(.slice a20 l20 c20)] w11 fun e24 w23 =>
              ∃ (x21 : Int), ∃ (x22 : Int), e24 = .returned (.tuple #[(.int .i64 x21), (.int .i64 x22)]) ∧
              (DrewK w23 fun w25 =>
                ∃ (a26 : Option Addr) (l26 : Nat) (c26 : Nat), w25.cell? (b7.add 2) = some (.slice a26 l26 c26) ∧
                ((0 ≤ (x14 : Int) ∧ (x14 : Int) < (l26 : Nat)) ∧
                  AddrK a26 fun b27 =>
                  ∃ (x28 : Int), w25.cell? (b27.add ((x14 : Int).toNat * 1)) = some (.int .i64 x28) ∧
                  (∃ (a29 : Option Addr) (l29 : Nat) (c29 : Nat), w25.cell? (b7.add 2) = some (.slice a29 l29 c29) ∧
                    ((0 ≤ (x14 : Int) ∧ (x14 : Int) < (l29 : Nat)) ∧
                      AddrK a29 fun b30 =>
                      ∃ (x31 : Int), w25.cell? (b30.add ((x14 : Int).toNat * 1)) = some (.int .i64 x31) ∧
                      (DrewK w25 fun w32 =>
                        ∃ (a33 : Option Addr) (l33 : Nat) (c33 : Nat), w32.cell? (b7.add 2) = some (.slice a33 l33 c33) ∧
                        ((0 ≤ (x14 : Int) ∧ (x14 : Int) < (l33 : Nat)) ∧
                          AddrK a33 fun b34 =>
                          ∃ (x35 : Int), w32.cell? (b34.add ((x14 : Int).toNat * 1)) = some (.int .i64 x35) ∧
                          (∃ (a36 : Option Addr) (l36 : Nat) (c36 : Nat), w32.cell? (b7.add 2) = some (.slice a36 l36 c36) ∧
                            ((0 ≤ (x14 : Int) ∧ (x14 : Int) < (l36 : Nat)) ∧
                              AddrK a36 fun b37 =>
                              ∃ (x38 : Int), w32.cell? (b37.add ((x14 : Int).toNat * 1)) = some (.int .i64 x38) ∧
                              (I9 (IntKind.wrap .i64 (x12 + (if (IntKind.wrap .i64 (x31 * x22) : Int) < IntKind.wrap .i64 (x28 * x21) then IntKind.wrap .i64 (x31 * x22) else IntKind.wrap .i64 (x28 * x21)))) (IntKind.wrap .i64 (x13 + (if (IntKind.wrap .i64 (x38 * x22) : Int) > IntKind.wrap .i64 (x35 * x21) then IntKind.wrap .i64 (x38 * x22) else IntKind.wrap .i64 (x35 * x21)))) (IntKind.wrap .i64 (x14 + 1)) w32 ∧ μ10 (IntKind.wrap .i64 (x12 + (if (IntKind.wrap .i64 (x31 * x22) : Int) < IntKind.wrap .i64 (x28 * x21) then IntKind.wrap .i64 (x31 * x22) else IntKind.wrap .i64 (x28 * x21)))) (IntKind.wrap .i64 (x13 + (if (IntKind.wrap .i64 (x38 * x22) : Int) > IntKind.wrap .i64 (x35 * x21) then IntKind.wrap .i64 (x38 * x22) else IntKind.wrap .i64 (x35 * x21)))) (IntKind.wrap .i64 (x14 + 1)) w32 < μ10 x12 x13 x14 w11))))))))))))))
    (K x12 x13 w11))
def ann93 : Ann := (.two .nil (.two .nil (.two (.two .nil (.one (.loop [(8, (.one (.int .i64))), (9, (.one (.int .i64))), (10, (.one (.int .i64)))] [1, 2, 3] (.two (.two .nil (.two .nil .nil)) (.two (.one (.two (.two .nil (.two .nil .nil)) (.two .nil (.two (.any 18 (.take 0 (.take 1 (.take 2 (.take 3 (.take 4 (.take 5 (.take 6 (.take 7 (.take 8 (.take 9 (.take 10 (.take 11 (.take 12 (.take 13 (.take 14 (.take 15 (.take 16 (.take 17 .done))))))))))))))))))) (.any 18 (.take 0 (.take 1 (.take 2 (.take 3 (.take 4 (.take 5 (.take 6 (.take 7 (.take 8 (.take 9 (.take 10 (.take 11 (.take 12 (.take 13 (.take 14 (.take 15 (.take 16 (.take 17 .done))))))))))))))))))))))) .nil))))) (.two .nil .nil))))
noncomputable def code93 : Code := match Try.f93.body with | some c => c | none => .skip
theorem wp93 (s1 : ByteArray) (a2 : Option Addr) (l2 : Nat) (c2 : Nat) (a3 : Option Addr) (l3 : Nat) (c3 : Nat) (x4 : Int) (a5 : Option Addr) (l5 : Nat) (c5 : Nat) (x6 : Int) (K : Int → Int → World → Prop) (w : World) : WP Try.prog tab code93 ann93 (fnQ tab Try.f93.results.toList [(.one (.int .i64)), (.one (.int .i64))] K) (argE 0 [(.agg #[(.string s1), (.slice a2 l2 c2), (.slice a3 l3 c3), (.int .i64 x4)]), (.slice a5 l5 c5), (.int .i64 x6)]) w = N93 s1 a2 l2 c2 a3 l3 c3 x4 a5 l5 c5 x6 K w := by kernel_rfl
theorem calls93 (s1 : ByteArray) (a2 : Option Addr) (l2 : Nat) (c2 : Nat) (a3 : Option Addr) (l3 : Nat) (c3 : Nat) (x4 : Int) (a5 : Option Addr) (l5 : Nat) (c5 : Nat) (x6 : Int) (K : Int → Int → World → Prop) (w : World) (h : N93 s1 a2 l2 c2 a3 l3 c3 x4 a5 l5 c5 x6 K w) : Calls Try.prog 93 #[(.agg #[(.string s1), (.slice a2 l2 c2), (.slice a3 l3 c3), (.int .i64 x4)]), (.slice a5 l5 c5), (.int .i64 x6)] w fun en w' => ∃ (x39 : Int), ∃ (x40 : Int), en = .returned (.tuple #[(.int .i64 x39), (.int .i64 x40)]) ∧ K x39 x40 w' :=
  have e : (fun en w' => ExShs [(.one (.int .i64)), (.one (.int .i64))] fun vs => en = .returned (tupled vs) ∧ ap [(.one (.int .i64)), (.one (.int .i64))] K vs fun p => p w') = (fun (en : Ending) (w' : World) => ∃ (x39 : Int), ∃ (x40 : Int), en = .returned (.tuple #[(.int .i64 x39), (.int .i64 x40)]) ∧ K x39 x40 w') := by kernel_rfl
  e ▸ fn_sound tabOk mixed Try.func93 (by kernel_rfl : Try.f93.body = some code93) ann93 [(.agg #[(.string s1), (.slice a2 l2 c2), (.slice a3 l3 c3), (.int .i64 x4)]), (.slice a5 l5 c5), (.int .i64 x6)] [(.one (.int .i64)), (.one (.int .i64))] K w (by kernel_rfl) ((wp93 s1 a2 l2 c2 a3 l3 c3 x4 a5 l5 c5 x6 K w).symm ▸ h)
end Go.Proofs.Ytggfnakhmjkoeaa

namespace Go.Proofs.Ytggfnakhmjkoeaa
open Go Go.V Go.Proofs
open Go.RowKit (Below)
/-! manystrand/manystrandref06.single -/
def N94 (a1 : Option Addr) (l1 : Nat) (_c1 : Nat) (K : Int → Bool → World → Prop) (w : World) : Prop :=
  DrewK w fun w2 =>
  BoolK (((l1 : Nat) : Int) == 1)
  ((0 ≤ (0 : Int) ∧ (0 : Int) < (l1 : Nat)) ∧
    AddrK a1 fun b3 =>
    (0 ≤ (0 : Int) ∧ (0 : Int) < (2 : Nat)) ∧
    ∃ (x4 : Int), w2.cell? ((b3.add ((0 : Int).toNat * 2)).add ((0 : Int).toNat * 1)) = some (.int .i64 x4) ∧
    ((0 ≤ (0 : Int) ∧ (0 : Int) < (l1 : Nat)) ∧
      AddrK a1 fun b5 =>
      (0 ≤ (1 : Int) ∧ (1 : Int) < (2 : Nat)) ∧
      ∃ (x6 : Int), w2.cell? ((b5.add ((0 : Int).toNat * 2)).add ((1 : Int).toNat * 1)) = some (.int .i64 x6) ∧
      (BoolK ((x4 : Int) == x6)
        ((0 ≤ (0 : Int) ∧ (0 : Int) < (l1 : Nat)) ∧
          AddrK a1 fun b7 =>
          (0 ≤ (0 : Int) ∧ (0 : Int) < (2 : Nat)) ∧
          ∃ (x8 : Int), w2.cell? ((b7.add ((0 : Int).toNat * 2)).add ((0 : Int).toNat * 1)) = some (.int .i64 x8) ∧
          (K x8 true w2))
        (K 0 false w2))))
  (K 0 false w2)
def ann94 : Ann := (.two .nil (.two (.two (.any 14 (.take 0 (.take 1 (.take 2 (.take 3 (.take 4 (.take 5 (.take 6 (.take 7 (.take 8 (.take 9 (.take 10 (.take 11 (.take 12 (.take 13 .done))))))))))))))) (.two (.two .nil .nil) .nil)) (.two .nil .nil)))
noncomputable def code94 : Code := match Try.f94.body with | some c => c | none => .skip
theorem wp94 (a1 : Option Addr) (l1 : Nat) (c1 : Nat) (K : Int → Bool → World → Prop) (w : World) : WP Try.prog tab code94 ann94 (fnQ tab Try.f94.results.toList [(.one (.int .i64)), (.one .bool)] K) (argE 0 [(.slice a1 l1 c1)]) w = N94 a1 l1 c1 K w := by kernel_rfl
theorem calls94 (a1 : Option Addr) (l1 : Nat) (c1 : Nat) (K : Int → Bool → World → Prop) (w : World) (h : N94 a1 l1 c1 K w) : Calls Try.prog 94 #[(.slice a1 l1 c1)] w fun en w' => ∃ (x9 : Int), ∃ (p10 : Bool), en = .returned (.tuple #[(.int .i64 x9), (.bool p10)]) ∧ K x9 p10 w' :=
  have e : (fun en w' => ExShs [(.one (.int .i64)), (.one .bool)] fun vs => en = .returned (tupled vs) ∧ ap [(.one (.int .i64)), (.one .bool)] K vs fun p => p w') = (fun (en : Ending) (w' : World) => ∃ (x9 : Int), ∃ (p10 : Bool), en = .returned (.tuple #[(.int .i64 x9), (.bool p10)]) ∧ K x9 p10 w') := by kernel_rfl
  e ▸ fn_sound tabOk mixed Try.func94 (by kernel_rfl : Try.f94.body = some code94) ann94 [(.slice a1 l1 c1)] [(.one (.int .i64)), (.one .bool)] K w (by kernel_rfl) ((wp94 a1 l1 c1 K w).symm ▸ h)
end Go.Proofs.Ytggfnakhmjkoeaa

namespace Go.Proofs.Ytggfnakhmjkoeaa
open Go Go.V Go.Proofs
open Go.RowKit (Below)
/-! manystrand/manystrandref06.element -/
def N95 (s1 : ByteArray) (a2 : Option Addr) (l2 : Nat) (c2 : Nat) (a3 : Option Addr) (l3 : Nat) (c3 : Nat) (x4 : Int) (a5 : Option Addr) (l5 : Nat) (_c5 : Nat) (x6 : Int) (x7 : Int) (K : Bool → World → Prop) (w : World) : Prop :=
  AllocK w (#[(.string s1), (.slice a2 l2 c2), (.slice a3 l3 c3), (.int .i64 x4)]) 24 fun b8 w9 =>
  BoolK ((x6 : Int) == 0)
  (DrewK w9 fun w10 =>
    BoolK (decide ((x7 : Int) ≥ 1))
    (∃ (a11 : Option Addr) (l11 : Nat) (c11 : Nat), w10.cell? (b8.add 2) = some (.slice a11 l11 c11) ∧
      (BoolK (decide ((x7 : Int) ≤ (l11 : Nat)))
        (∃ (a12 : Option Addr) (l12 : Nat) (c12 : Nat), w10.cell? (b8.add 1) = some (.slice a12 l12 c12) ∧
          ((0 ≤ (1 : Int) ∧ (1 : Int) < (l12 : Nat)) ∧
            AddrK a12 fun b13 =>
            ∃ (x14 : Int), w10.cell? (b13.add ((1 : Int).toNat * 1)) = some (.int .i64 x14) ∧
            ((0 ≤ (x14 : Int) ∧ (x14 : Int) < (l5 : Nat)) ∧
              AddrK a5 fun b15 =>
              ∃ (a16 : Option Addr) (l16 : Nat) (c16 : Nat), w10.cell? (b15.add ((x14 : Int).toNat * 1)) = some (.slice a16 l16 c16) ∧
              (∃ (a17 : Option Addr) (l17 : Nat) (c17 : Nat), w10.cell? (b8.add 2) = some (.slice a17 l17 c17) ∧
                ((0 ≤ (IntKind.wrap .i64 (x7 - 1) : Int) ∧ (IntKind.wrap .i64 (x7 - 1) : Int) < (l17 : Nat)) ∧
                  AddrK a17 fun b18 =>
                  ∃ (x19 : Int), w10.cell? (b18.add ((IntKind.wrap .i64 (x7 - 1) : Int).toNat * 1)) = some (.int .i64 x19) ∧
                  (Calls Try.prog 38 #[(.slice a16 l16 c16), (.int .i64 x19)] w10 fun e22 w21 =>
                    ∃ (p20 : Bool), e22 = .returned (.bool p20) ∧
                    (Below w10.heap.size w10 w21 ∧
                      (K p20 w21))))))))
        (K false w10)))
    (K false w10))
  (∃ (I23 : Int → World → Prop) (μ24 : Int → World → Nat),
    (I23 0 w9 ∧ True) ∧
    ∀ (w25 : World) (x26 : Int), I23 x26 w25 →
    ∃ (a27 : Option Addr) (l27 : Nat) (c27 : Nat), w25.cell? (b8.add 2) = some (.slice a27 l27 c27) ∧
    (BoolK (decide ((x26 : Int) < (l27 : Nat)))
      (∃ (a28 : Option Addr) (l28 : Nat) (c28 : Nat), w25.cell? (b8.add 2) = some (.slice a28 l28 c28) ∧
        ((0 ≤ (x26 : Int) ∧ (x26 : Int) < (l28 : Nat)) ∧
          AddrK a28 fun b29 =>
          ∃ (x30 : Int), w25.cell? (b29.add ((x26 : Int).toNat * 1)) = some (.int .i64 x30) ∧
          (BoolK ((x30 : Int) == x7)
            (∃ (a31 : Option Addr) (l31 : Nat) (c31 : Nat), w25.cell? (b8.add 1) = some (.slice a31 l31 c31) ∧
              ((0 ≤ (0 : Int) ∧ (0 : Int) < (l31 : Nat)) ∧
                AddrK a31 fun b32 =>
                ∃ (x33 : Int), w25.cell? (b32.add ((0 : Int).toNat * 1)) = some (.int .i64 x33) ∧
                ((0 ≤ (x33 : Int) ∧ (x33 : Int) < (l5 : Nat)) ∧
                  AddrK a5 fun b34 =>
                  ∃ (a35 : Option Addr) (l35 : Nat) (c35 : Nat), w25.cell? (b34.add ((x33 : Int).toNat * 1)) = some (.slice a35 l35 c35) ∧
                  (Calls Try.prog 38 #[(.slice a35 l35 c35), (.int .i64 (IntKind.wrap .i64 (x26 + 1)))] w25 fun e38 w37 =>
                    ∃ (p36 : Bool), e38 = .returned (.bool p36) ∧
                    (BoolK p36
                      (K true w37)
                      (I23 (IntKind.wrap .i64 (x26 + 1)) w37 ∧ μ24 (IntKind.wrap .i64 (x26 + 1)) w37 < μ24 x26 w25))))))
            (I23 (IntKind.wrap .i64 (x26 + 1)) w25 ∧ μ24 (IntKind.wrap .i64 (x26 + 1)) w25 < μ24 x26 w25))))
      (K false w25)))
def ann95 : Ann := (.two .nil (.two (.two .nil (.two (.two (.any 26 (.take 0 (.take 1 (.take 2 (.take 3 (.take 4 (.take 5 (.take 6 (.take 7 (.take 8 (.take 9 (.take 10 (.take 11 (.take 12 (.take 13 (.take 14 (.take 15 (.take 16 (.take 17 (.take 18 (.take 19 (.take 20 (.take 21 (.take 22 (.one 23 (.take 24 (.take 25 .done))))))))))))))))))))))))))) .nil) .nil)) (.two (.two .nil (.one (.loop [(9, (.one (.int .i64)))] [1, 3, 4] (.two (.two .nil (.two .nil .nil)) (.two (.one (.two .nil (.two (.two .nil .nil) .nil))) .nil))))) (.two .nil .nil))))
noncomputable def code95 : Code := match Try.f95.body with | some c => c | none => .skip
theorem wp95 (s1 : ByteArray) (a2 : Option Addr) (l2 : Nat) (c2 : Nat) (a3 : Option Addr) (l3 : Nat) (c3 : Nat) (x4 : Int) (a5 : Option Addr) (l5 : Nat) (c5 : Nat) (x6 : Int) (x7 : Int) (K : Bool → World → Prop) (w : World) : WP Try.prog tab code95 ann95 (fnQ tab Try.f95.results.toList [(.one .bool)] K) (argE 0 [(.agg #[(.string s1), (.slice a2 l2 c2), (.slice a3 l3 c3), (.int .i64 x4)]), (.slice a5 l5 c5), (.int .i64 x6), (.int .i64 x7)]) w = N95 s1 a2 l2 c2 a3 l3 c3 x4 a5 l5 c5 x6 x7 K w := by kernel_rfl
theorem calls95 (s1 : ByteArray) (a2 : Option Addr) (l2 : Nat) (c2 : Nat) (a3 : Option Addr) (l3 : Nat) (c3 : Nat) (x4 : Int) (a5 : Option Addr) (l5 : Nat) (c5 : Nat) (x6 : Int) (x7 : Int) (K : Bool → World → Prop) (w : World) (h : N95 s1 a2 l2 c2 a3 l3 c3 x4 a5 l5 c5 x6 x7 K w) : Calls Try.prog 95 #[(.agg #[(.string s1), (.slice a2 l2 c2), (.slice a3 l3 c3), (.int .i64 x4)]), (.slice a5 l5 c5), (.int .i64 x6), (.int .i64 x7)] w fun en w' => ∃ (p39 : Bool), en = .returned (.bool p39) ∧ K p39 w' :=
  have e : (fun en w' => ExShs [(.one .bool)] fun vs => en = .returned (tupled vs) ∧ ap [(.one .bool)] K vs fun p => p w') = (fun (en : Ending) (w' : World) => ∃ (p39 : Bool), en = .returned (.bool p39) ∧ K p39 w') := by kernel_rfl
  e ▸ fn_sound tabOk mixed Try.func95 (by kernel_rfl : Try.f95.body = some code95) ann95 [(.agg #[(.string s1), (.slice a2 l2 c2), (.slice a3 l3 c3), (.int .i64 x4)]), (.slice a5 l5 c5), (.int .i64 x6), (.int .i64 x7)] [(.one .bool)] K w (by kernel_rfl) ((wp95 s1 a2 l2 c2 a3 l3 c3 x4 a5 l5 c5 x6 x7 K w).symm ▸ h)
end Go.Proofs.Ytggfnakhmjkoeaa

namespace Go.Proofs.Ytggfnakhmjkoeaa
open Go Go.V Go.Proofs
open Go.RowKit (Below)

theorem c92 (w : World) (a : Option Addr) (l c : Nat) (d : Dm) (h : Dom w a l d) (hf : Full d) :
    Calls Try.prog 92 #[.slice a l c] w fun en w' => ∃ x y, en = .returned (.tuple #[.int .i64 x, .int .i64 y]) ∧ (x = mn d ∧ y = mx d ∧ Ext w w') := by
  refine calls92 _ _ _ _ w (DrewK.mk fun w2 hx => ?_)
  have hl := h.1
  have hlen := hf.vd.len
  have hpos : 0 < d.length := List.length_pos_iff.2 hf.ne
  obtain ⟨b, o, rfl, h0, _⟩ := domAt h w2 hx hpos
  obtain ⟨b', o', hb, _, h1⟩ := domAt h w2 hx (i := d.length - 1) (by omega)
  simp at hb; obtain ⟨rfl, rfl⟩ := hb
  have hw1 : IntKind.wrap .i64 ((l : Int) - 1) = ((l - 1 : Nat) : Int) := by rw [wrap_id] <;> omega
  rw [hw1]
  have h1' : w2.cell? ⟨b, o + (l - 1) * 2 + 1, none⟩ = some (.int .i64 (mx d)) := by
    rw [hl, ← mx_get (by omega)]; exact h1
  refine ⟨by omega, ?_⟩
  simp only [AddrK, add_mk, Int.toNat_zero, Int.toNat_one, Nat.zero_mul, Nat.mul_one, Nat.add_zero, Int.toNat_natCast] at h0 ⊢
  refine ⟨by omega, _, h0, by omega, by omega, _, h1', mn_get hpos, rfl, hx⟩

/-- the value of a domain that has one alone -/
def sinS (d : Dm) : Int × Bool := if mn d = mx d then (mn d, true) else (0, false)
theorem c94 (w : World) (a : Option Addr) (l c : Nat) (d : Dm) (h : Dom w a l d) (hf : Full d) :
    Calls Try.prog 94 #[.slice a l c] w fun en w' => ∃ x p, en = .returned (.tuple #[.int .i64 x, .bool p]) ∧ (x = (sinS d).1 ∧ p = (sinS d).2 ∧ Ext w w') := by
  refine calls94 _ _ _ _ w (DrewK.mk fun w2 hx => ?_)
  have hl := h.1
  have hpos : 0 < d.length := List.length_pos_iff.2 hf.ne
  obtain ⟨b, o, rfl, h0, h1⟩ := domAt h w2 hx hpos
  have em := mn_get hpos
  refine BoolK.mk (fun t => ?_) (fun t => ?_)
  · have hl1 : d.length = 1 := by simp at t; omega
    have eM : d[0].2 = mx d := by
      have := mx_get (d := d) (by omega)
      simp only [hl1] at this; exact this
    refine ⟨by omega, ?_⟩
    simp only [AddrK, add_mk, Int.toNat_zero, Int.toNat_one, Nat.zero_mul, Nat.mul_one, Nat.add_zero] at h0 h1 ⊢
    refine ⟨by omega, _, h0, by omega, by omega, _, h1, BoolK.mk (fun t2 => ?_) (fun t2 => ?_)⟩
    · have e : mn d = mx d := by rw [← em, ← eM]; simpa using t2
      exact ⟨by omega, by omega, _, h0, by rw [sinS, if_pos e]; exact em, by rw [sinS, if_pos e], hx⟩
    · have e : ¬ mn d = mx d := by rw [← em, ← eM]; simpa using t2
      exact ⟨by rw [sinS, if_neg e], by rw [sinS, if_neg e], hx⟩
  · have hl1 : d.length ≠ 1 := by simp at t; omega
    have e : ¬ mn d = mx d := by
      intro e
      cases d with
      | nil => simp at hpos
      | cons p ps =>
        cases ps with
        | nil => exact hl1 rfl
        | cons q qs =>
          have h2 := (List.pairwise_cons.1 hf.vd.pw).1
          have hlast : (p :: q :: qs).getLast? = some ((q :: qs).getLast (by simp)) := by rw [List.getLast?_cons_cons, List.getLast?_eq_some_getLast]
          have em' : mn (p :: q :: qs) = p.1 := rfl
          have eM' : mx (p :: q :: qs) = ((q :: qs).getLast (by simp)).2 := by rw [mx, hlast]
          have hm := List.getLast_mem (l := q :: qs) (by simp)
          have h3 := h2 _ hm
          have h4 := hf.vd.all _ (List.mem_cons_of_mem _ hm)
          have h5 := hf.vd.all p List.mem_cons_self
          omega
    exact ⟨by rw [sinS, if_neg e], by rw [sinS, if_neg e], hx⟩

theorem min_if (x y : Int) : (if y < x then y else x) = min x y := by split <;> omega
theorem max_if (x y : Int) : (if y > x then y else x) = max x y := by split <;> omega

/-- the domains of a propagator's variables, where they stand -/
structure VarsAt (p : PropS) (ls : List Dm) : Prop where
  ok : ∀ j (hj : j < p.vars.length), 0 ≤ p.vars[j] ∧ (p.vars[j]).toNat < ls.length
  full : ∀ j, j < p.vars.length → Full (at' (bsOf p ls) j)
theorem at_bs {p : PropS} {ls : List Dm} {j : Nat} (hj : j < p.vars.length) (hx : (p.vars[j]).toNat < ls.length) : at' (bsOf p ls) j = ls[(p.vars[j]).toNat] := by
  have hlen : (bsOf p ls).length = p.vars.length := by simp [bsOf]
  rw [show at' (bsOf p ls) j = (bsOf p ls)[j]'(by omega) from getD_get (by omega) _]
  simp only [bsOf, List.getElem_map]
  exact getD_get hx _

theorem c93 (w : World) (s : ByteArray) (a2 : Option Addr) (l2 c2 : Nat) (a3 : Option Addr) (l3 c3 : Nat) (x4 : Int) (p : PropS) (h : PropAt w s a2 l2 a3 l3 x4 p)
    (a5 : Option Addr) (l5 c5 : Nat) (ls : List Dm) (hd : Doms w a5 l5 ls) (hV : VarsAt p ls) (h40 : p.vars.length ≤ 40) (hc : p.coefs.length = p.vars.length) (hr : p.coefs.all rng = true) (i : Nat) :
    Calls Try.prog 93 #[.agg #[.string s, .slice a2 l2 c2, .slice a3 l3 c3, .int .i64 x4], .slice a5 l5 c5, .int .i64 i] w fun en w' => ∃ x y, en = .returned (.tuple #[.int .i64 x, .int .i64 y]) ∧
      (x = lowS p.coefs (bsOf p ls) i (bsOf p ls).length ∧ y = highS p.coefs (bsOf p ls) i (bsOf p ls).length ∧ Ext w w') := by
  obtain ⟨pk, pv, pc, pn⟩ := p
  obtain ⟨rfl, hv2, hc2, rfl, _, _⟩ := h
  simp only at hv2 hc2 h40 hc hr ⊢
  have hl2 := hv2.1
  have hl3 := hc2.1
  have hl5 := hd.1
  generalize hbs : bsOf ⟨pk, pv, pc, pn⟩ ls = bs
  have hlen : bs.length = pv.length := by rw [← hbs]; simp [bsOf]
  have hfull : ∀ d ∈ bs, Full d := fun d hdm => by
    obtain ⟨j, hj, rfl⟩ := List.mem_iff_getElem.1 hdm
    have := hV.full j (by simp only; omega)
    rw [hbs, at_get hj] at this; exact this
  refine calls93 _ _ _ _ _ _ _ _ _ _ _ _ _ w ?_
  refine AllocK.mk fun b w8 hb8 hblk hx => ?_
  have hcell := fun (w' : World) (k : Ext w8 w') => cell4 (hblk.ext k)
  simp only [add_mk, Nat.zero_add]
  refine ⟨fun x y j w' => ∃ k : Nat, j = k ∧ k ≤ pv.length ∧ x = lowS pc bs i k ∧ y = highS pc bs i k ∧ Ext w8 w', fun _ _ j _ => pv.length - j.toNat, ⟨⟨0, rfl, by omega, rfl, rfl, Ext.refl _⟩, trivial⟩, ?_⟩
  rintro w11 _ _ _ ⟨k, rfl, hk, rfl, rfl, hB⟩
  have bnd := low_bound i hr hfull k (by omega)
  refine ⟨_, _, _, (hcell _ hB).2.1, BoolK.mk (fun hlt => ?_) (fun hge => ?_)⟩
  · have hlt : k < pv.length := by simp at hlt; omega
    refine BoolK.mk (fun teq => ?_) (fun tne => ?_)
    · have he : k = i := by simp at teq; omega
      rw [wrap_succ (by omega)]
      exact ⟨⟨k + 1, rfl, by omega, by rw [lowS, if_pos he, Int.add_zero], by rw [highS, if_pos he, Int.add_zero], hB⟩, by simp; omega⟩
    · have hne : k ≠ i := by simp at tne; omega
      have hvk := hV.ok k hlt
      simp only at hvk
      have hat := at_bs (p := ⟨pk, pv, pc, pn⟩) hlt hvk.2
      rw [hbs] at hat
      simp only at hat
      have hfk := hV.full k hlt
      rw [hbs, hat] at hfk
      obtain ⟨b1, o1, rfl, g0⟩ := intAt hv2 w11 (hx.trans hB) hlt
      obtain ⟨b2, o2, a20, l20, c20, rfl, g1, gd⟩ := domsAt hd w11 (hx.trans hB) hvk.2
      refine ⟨_, _, _, (hcell _ hB).2.1, by omega, ?_⟩
      simp only [AddrK, add_mk, Int.toNat_natCast, Nat.mul_one]
      refine ⟨_, g0, by omega, _, _, _, g1, (c92 w11 a20 l20 c20 _ gd hfk).mono ?_⟩
      rintro en w23 ⟨x21, x22, rfl, rfl, rfl, hx23⟩
      have hB23 := hB.trans hx23
      refine ⟨_, _, rfl, DrewK.mk fun w25 hx25 => ?_⟩
      have hB25 := hB23.trans hx25
      obtain ⟨b3, o3, rfl, g3⟩ := intAt hc2 w25 (hx.trans hB25) (i := k) (by omega)
      refine ⟨_, _, _, (hcell _ hB25).2.2.1, by omega, ?_⟩
      simp only [add_mk]
      refine ⟨_, g3, _, _, _, (hcell _ hB25).2.2.1, by omega, ?_⟩
      simp only [add_mk]
      refine ⟨_, g3, DrewK.mk fun w32 hx32 => ?_⟩
      have hB32 := hB25.trans hx32
      have g4 := hx32.cell g3
      refine ⟨_, _, _, (hcell _ hB32).2.2.1, by omega, ?_⟩
      simp only [add_mk]
      refine ⟨_, g4, _, _, _, (hcell _ hB32).2.2.1, by omega, ?_⟩
      simp only [add_mk]
      refine ⟨_, g4, ?_⟩
      have hck : pc.getD k 0 = pc[k] := getD_get (by omega) _
      have hrk := rng_of hr k
      rw [hck] at hrk
      have ⟨m0, m1, m2⟩ := hfk.ends
      have s1 := mul_small hrk m0 (by omega)
      have s2 := mul_small (x := mx ls[(pv[k]).toNat]) hrk (by omega) m2
      have e1 : lowS pc bs i (k + 1) = lowS pc bs i k + min (pc[k] * mn ls[(pv[k]).toNat]) (pc[k] * mx ls[(pv[k]).toNat]) := by rw [lowS, if_neg hne, hck, hat]
      have e2 : highS pc bs i (k + 1) = highS pc bs i k + max (pc[k] * mn ls[(pv[k]).toNat]) (pc[k] * mx ls[(pv[k]).toNat]) := by rw [highS, if_neg hne, hck, hat]
      rw [wrap_id (x := pc[k] * mx ls[(pv[k]).toNat]) (by omega) (by omega), wrap_id (x := pc[k] * mn ls[(pv[k]).toNat]) (by omega) (by omega), min_if, max_if, wrap_succ (by omega), wrap_id (by omega) (by omega), wrap_id (by omega) (by omega)]
      exact ⟨⟨k + 1, rfl, by omega, e1.symm, e2.symm, hB32⟩, by simp; omega⟩
  · have : k = pv.length := by simp at hge; omega
    subst this
    exact ⟨by rw [hlen], by rw [hlen], hx.trans hB⟩
end Go.Proofs.Ytggfnakhmjkoeaa

namespace Go.Proofs.Ytggfnakhmjkoeaa
open Go Go.V Go.Proofs
open Go.RowKit (Below)

theorem hasS_vd {d : Dm} (h : VD d) (v : Int) : hasS d v = inD d v := by rw [hasS, (validB_iff d).2 h, Bool.true_and]

theorem c95 (w : World) (s : ByteArray) (a2 : Option Addr) (l2 c2 : Nat) (a3 : Option Addr) (l3 c3 : Nat) (x4 : Int) (p : PropS) (h : PropAt w s a2 l2 a3 l3 x4 p)
    (a5 : Option Addr) (l5 c5 : Nat) (ls : List Dm) (hd : Doms w a5 l5 ls) (hV : VarsAt p ls) (h2 : p.vars.length = 2) (h40 : p.coefs.length ≤ 40) (i v : Nat) (hv : v ≤ 1000) :
    Calls Try.prog 95 #[.agg #[.string s, .slice a2 l2 c2, .slice a3 l3 c3, .int .i64 x4], .slice a5 l5 c5, .int .i64 i, .int .i64 v] w fun en w' => ∃ r, en = .returned (.bool r) ∧ (r = passS .element p.coefs p.n (bsOf p ls) i v ∧ Ext w w') := by
  obtain ⟨pk, pv, pc, pn⟩ := p
  obtain ⟨rfl, hv2, hc2, rfl, _, _⟩ := h
  simp only at hv2 hc2 h40 h2 ⊢
  have hl2 := hv2.1
  have hl3 := hc2.1
  have hl5 := hd.1
  have at0 := at_bs (p := ⟨pk, pv, pc, pn⟩) (ls := ls) (j := 0) (by simp only; omega) (hV.ok 0 (by simp only; omega)).2
  have at1 := at_bs (p := ⟨pk, pv, pc, pn⟩) (ls := ls) (j := 1) (by simp only; omega) (hV.ok 1 (by simp only; omega)).2
  have k0 := hV.ok 0 (by simp only; omega)
  have k1 := hV.ok 1 (by simp only; omega)
  have f0 := hV.full 0 (by simp only; omega)
  have f1 := hV.full 1 (by simp only; omega)
  rw [at0] at f0
  rw [at1] at f1
  simp only at at0 at1 k0 k1 f0 f1
  refine calls95 _ _ _ _ _ _ _ _ _ _ _ _ _ _ w ?_
  refine AllocK.mk fun b w9 hb8 hblk hx => ?_
  have hcell := fun (w' : World) (k : Ext w9 w') => cell4 (hblk.ext k)
  simp only [passS, at0, at1]
  refine BoolK.mk (fun t => ?_) (fun t => ?_)
  · have hi0 : i = 0 := by simpa using t
    rw [if_pos hi0]
    refine DrewK.mk fun w10 hx10 => ?_
    have hB := hx.trans hx10
    refine BoolK.mk (fun t1 => ?_) (fun t1 => ?_)
    · have hv1 : 1 ≤ v := by simp at t1; omega
      rw [decide_eq_true (show 1 ≤ (v : Int) by omega), Bool.true_and]
      simp only [add_mk, Nat.zero_add]
      refine ⟨_, _, _, (hcell _ hx10).2.2.1, BoolK.mk (fun t2 => ?_) (fun t2 => ?_)⟩
      · have hvl : v ≤ pc.length := by simp at t2; omega
        rw [decide_eq_true (show (v : Int) ≤ pc.length by omega), Bool.true_and]
        obtain ⟨b1, o1, rfl, g0⟩ := intAt hv2 w10 hB (i := 1) (by omega)
        obtain ⟨b2, o2, a16, l16, c16, rfl, g1, gd⟩ := domsAt hd w10 hB k1.2
        obtain ⟨b3, o3, rfl, g3⟩ := intAt hc2 w10 hB (i := v - 1) (by omega)
        have hw1 : IntKind.wrap .i64 ((v : Int) - 1) = ((v - 1 : Nat) : Int) := by rw [wrap_id] <;> omega
        rw [hw1]
        refine ⟨_, _, _, (hcell _ hx10).2.1, by omega, ?_⟩
        simp only [AddrK, add_mk, Int.toNat_one, Nat.mul_one]
        refine ⟨_, g0, by omega, _, _, _, g1, _, _, _, (hcell _ hx10).2.2.1, by omega, ?_⟩
        simp only [add_mk, Int.toNat_natCast]
        refine ⟨_, g3, (c38 w10 a16 l16 c16 _ _ gd f1.vd.sm).mono ?_⟩
        rintro en w21 ⟨r, rfl, hr, hx21⟩
        refine ⟨_, rfl, hx21, ?_, hB.trans hx21⟩
        rw [hr, hasS_vd f1.vd, show ((v : Int) - 1).toNat = v - 1 by omega, getD_get (show v - 1 < pc.length by omega)]
      · exact ⟨by rw [decide_eq_false (by simp at t2; omega)]; rfl, hB⟩
    · exact ⟨by rw [decide_eq_false (by simp at t1; omega)]; rfl, hB⟩
  · have hi0 : i ≠ 0 := by simpa using t
    rw [if_neg hi0]
    simp only [add_mk, Nat.zero_add]
    refine ⟨fun x w' => ∃ j : Nat, x = j ∧ j ≤ pc.length ∧ ((List.range pc.length).take j).any (fun k => decide (pc.getD k 0 = v) && inD ls[(pv[0]).toNat] (k + 1)) = false ∧ Ext w9 w', fun x _ => pc.length - x.toNat, ⟨⟨0, rfl, by omega, rfl, Ext.refl _⟩, trivial⟩, ?_⟩
    rintro w25 _ ⟨j, rfl, hj, hall, hB9⟩
    have hB := hx.trans hB9
    refine ⟨_, _, _, (hcell _ hB9).2.2.1, BoolK.mk (fun hlt => ?_) (fun hge => ?_)⟩
    · have hlt : j < pc.length := by simp at hlt; omega
      have hlt' : j < (List.range pc.length).length := by simpa using hlt
      have hstep : ∀ w', Ext w9 w' → (decide (pc.getD j 0 = v) && inD ls[(pv[0]).toNat] (j + 1)) = false → (∃ j' : Nat, IntKind.wrap .i64 ((j : Int) + 1) = j' ∧ j' ≤ pc.length ∧ ((List.range pc.length).take j').any (fun k => decide (pc.getD k 0 = v) && inD ls[(pv[0]).toNat] (k + 1)) = false ∧ Ext w9 w') ∧ pc.length - (IntKind.wrap .i64 ((j : Int) + 1)).toNat < pc.length - (j : Int).toNat := fun w' hw' hh => by
        rw [wrap_succ (by omega)]
        refine ⟨⟨j + 1, rfl, by omega, ?_, hw'⟩, by simp; omega⟩
        rw [any_take hlt', hall, Bool.false_or, List.getElem_range]; exact hh
      obtain ⟨b3, o3, rfl, g3⟩ := intAt hc2 w25 hB (i := j) (by omega)
      have hcj : pc.getD j 0 = pc[j] := getD_get (by omega) _
      refine ⟨_, _, _, (hcell _ hB9).2.2.1, by omega, ?_⟩
      simp only [AddrK, add_mk, Int.toNat_natCast, Nat.mul_one]
      refine ⟨_, g3, BoolK.mk (fun t1 => ?_) (fun t1 => ?_)⟩
      · have t1' : pc[j] = (v : Int) := by simpa using t1
        obtain ⟨b1, o1, rfl, g0⟩ := intAt hv2 w25 hB (i := 0) (by omega)
        obtain ⟨b2, o2, a35, l35, c35, rfl, g1, gd⟩ := domsAt hd w25 hB k0.2
        have hw1 : IntKind.wrap .i64 ((j : Int) + 1) = (j : Int) + 1 := by rw [wrap_id] <;> omega
        refine ⟨_, _, _, (hcell _ hB9).2.1, by omega, ?_⟩
        simp only [add_mk, Int.toNat_zero]
        refine ⟨_, g0, by omega, _, _, _, g1, (c38 w25 a35 l35 c35 _ _ gd f0.vd.sm).mono ?_⟩
        rintro en w37 ⟨r, rfl, hr, hx37⟩
        have hr' : r = inD ls[(pv[0]).toNat] (j + 1) := by rw [hr, hasS_vd f0.vd, hw1]
        refine ⟨_, rfl, BoolK.mk (fun t2 => ?_) (fun t2 => ?_)⟩
        · refine ⟨?_, hB.trans hx37⟩
          rw [any_true hlt' (by rw [List.getElem_range, hcj, decide_eq_true t1', ← hr', t2]; rfl)]
        · exact hstep _ (hB9.trans hx37) (by rw [← hr', t2, Bool.and_false])
      · exact hstep _ hB9 (by rw [hcj, decide_eq_false (by simpa using t1)]; rfl)
    · have : j = pc.length := by simp at hge; omega
      subst this
      rw [List.take_of_length_le (by simp)] at hall
      exact ⟨hall.symm, hB⟩
end Go.Proofs.Ytggfnakhmjkoeaa

namespace Go.Proofs.Ytggfnakhmjkoeaa
open Go Go.V Go.Proofs
open Go.RowKit (Below)
/-! manystrand/manystrandref06.passes -/
def N84 (s1 : ByteArray) (a2 : Option Addr) (l2 : Nat) (c2 : Nat) (a3 : Option Addr) (l3 : Nat) (c3 : Nat) (x4 : Int) (a5 : Option Addr) (l5 : Nat) (c5 : Nat) (x6 : Int) (x7 : Int) (K : Bool → World → Prop) (w : World) : Prop :=
  AllocK w (#[(.string s1), (.slice a2 l2 c2), (.slice a3 l3 c3), (.int .i64 x4)]) 24 fun b8 w9 =>
  ∃ (I10 : Option Addr → Nat → Nat → Option Addr → Nat → Nat → Int → World → Prop) (μ11 : Option Addr → Nat → Nat → Option Addr → Nat → Nat → Int → World → Nat),
  (I10 none 0 0 none 0 0 0 w9 ∧ True) ∧
  ∀ (w12 : World) (a13 : Option Addr) (l13 : Nat) (c13 : Nat) (a14 : Option Addr) (l14 : Nat) (c14 : Nat) (x15 : Int), I10 a13 l13 c13 a14 l14 c14 x15 w12 →
  ∃ (a16 : Option Addr) (l16 : Nat) (c16 : Nat), w12.cell? (b8.add 1) = some (.slice a16 l16 c16) ∧
  (BoolK (decide ((x15 : Int) < (l16 : Nat)))
    (∃ (a17 : Option Addr) (l17 : Nat) (c17 : Nat), w12.cell? (b8.add 1) = some (.slice a17 l17 c17) ∧
      ((0 ≤ (x15 : Int) ∧ (x15 : Int) < (l17 : Nat)) ∧
        AddrK a17 fun b18 =>
        ∃ (x19 : Int), w12.cell? (b18.add ((x15 : Int).toNat * 1)) = some (.int .i64 x19) ∧
        ((0 ≤ (x19 : Int) ∧ (x19 : Int) < (l5 : Nat)) ∧
          AddrK a5 fun b20 =>
          ∃ (a21 : Option Addr) (l21 : Nat) (c21 : Nat), w12.cell? (b20.add ((x19 : Int).toNat * 1)) = some (.slice a21 l21 c21) ∧
          (Calls Try.prog 92 #[(.slice a21 l21 c21)] w12 fun e25 w24 =>
            ∃ (x22 : Int), ∃ (x23 : Int), e25 = .returned (.tuple #[(.int .i64 x22), (.int .i64 x23)]) ∧
            (AllocK w24 (#[(.int .i64 x22)]) 3 fun b26 w27 =>
              ∃ (a28 : Option Addr), ∃ (l28 : Nat), ∃ (c28 : Nat), ∃ (w29 : World), Sem.run Try.prog (Builtin.append_ #[22, 22] 22 #[(.slice a13 l13 c13), (.slice (some b26) 1 1)]) w27 = .ok (.slice a28 l28 c28) w29 ∧
              (AllocK w29 (#[(.int .i64 x23)]) 3 fun b30 w31 =>
                ∃ (a32 : Option Addr), ∃ (l32 : Nat), ∃ (c32 : Nat), ∃ (w33 : World), Sem.run Try.prog (Builtin.append_ #[22, 22] 22 #[(.slice a14 l14 c14), (.slice (some b30) 1 1)]) w31 = .ok (.slice a32 l32 c32) w33 ∧
                (I10 a28 l28 c28 a32 l32 c32 (IntKind.wrap .i64 (x15 + 1)) w33 ∧ μ11 a28 l28 c28 a32 l32 c32 (IntKind.wrap .i64 (x15 + 1)) w33 < μ11 a13 l13 c13 a14 l14 c14 x15 w12)))))))
    (∃ (s34 : ByteArray), w12.cell? b8 = some (.string s34) ∧
      (BoolK ((s34 : ByteArray).toList == ((⟨#[115, 117, 109]⟩ : ByteArray) : ByteArray).toList)
        (∃ (s35 : ByteArray), w12.cell? (b8.add 0) = some (.string s35) ∧
          (∃ (a36 : Option Addr) (l36 : Nat) (c36 : Nat), w12.cell? (b8.add 1) = some (.slice a36 l36 c36) ∧
            (∃ (a37 : Option Addr) (l37 : Nat) (c37 : Nat), w12.cell? (b8.add 2) = some (.slice a37 l37 c37) ∧
              (∃ (x38 : Int), w12.cell? (b8.add 3) = some (.int .i64 x38) ∧
                (Calls Try.prog 93 #[(.agg #[(.string s35), (.slice a36 l36 c36), (.slice a37 l37 c37), (.int .i64 x38)]), (.slice a5 l5 c5), (.int .i64 x6)] w12 fun e42 w41 =>
                  ∃ (x39 : Int), ∃ (x40 : Int), e42 = .returned (.tuple #[(.int .i64 x39), (.int .i64 x40)]) ∧
                  (DrewK w41 fun w43 =>
                    ∃ (x44 : Int), w43.cell? (b8.add 3) = some (.int .i64 x44) ∧
                    (∃ (a45 : Option Addr) (l45 : Nat) (c45 : Nat), w43.cell? (b8.add 2) = some (.slice a45 l45 c45) ∧
                      ((0 ≤ (x6 : Int) ∧ (x6 : Int) < (l45 : Nat)) ∧
                        AddrK a45 fun b46 =>
                        ∃ (x47 : Int), w43.cell? (b46.add ((x6 : Int).toNat * 1)) = some (.int .i64 x47) ∧
                        (BoolK (decide ((IntKind.wrap .i64 (x44 - (IntKind.wrap .i64 (x47 * x7))) : Int) ≥ x39))
                          (∃ (x48 : Int), w43.cell? (b8.add 3) = some (.int .i64 x48) ∧
                            (∃ (a49 : Option Addr) (l49 : Nat) (c49 : Nat), w43.cell? (b8.add 2) = some (.slice a49 l49 c49) ∧
                              ((0 ≤ (x6 : Int) ∧ (x6 : Int) < (l49 : Nat)) ∧
                                AddrK a49 fun b50 =>
                                ∃ (x51 : Int), w43.cell? (b50.add ((x6 : Int).toNat * 1)) = some (.int .i64 x51) ∧
                                (K (decide ((IntKind.wrap .i64 (x48 - (IntKind.wrap .i64 (x51 * x7))) : Int) ≤ x40)) w43))))
                          (K false w43))))))))))
        (BoolK ((s34 : ByteArray).toList == ((⟨#[109, 111, 115, 116]⟩ : ByteArray) : ByteArray).toList)
          (∃ (s52 : ByteArray), w12.cell? (b8.add 0) = some (.string s52) ∧
            (∃ (a53 : Option Addr) (l53 : Nat) (c53 : Nat), w12.cell? (b8.add 1) = some (.slice a53 l53 c53) ∧
              (∃ (a54 : Option Addr) (l54 : Nat) (c54 : Nat), w12.cell? (b8.add 2) = some (.slice a54 l54 c54) ∧
                (∃ (x55 : Int), w12.cell? (b8.add 3) = some (.int .i64 x55) ∧
                  (Calls Try.prog 93 #[(.agg #[(.string s52), (.slice a53 l53 c53), (.slice a54 l54 c54), (.int .i64 x55)]), (.slice a5 l5 c5), (.int .i64 x6)] w12 fun e59 w58 =>
                    ∃ (x56 : Int), ∃ (x57 : Int), e59 = .returned (.tuple #[(.int .i64 x56), (.int .i64 x57)]) ∧
                    (DrewK w58 fun w60 =>
                      ∃ (a61 : Option Addr) (l61 : Nat) (c61 : Nat), w60.cell? (b8.add 2) = some (.slice a61 l61 c61) ∧
                      ((0 ≤ (x6 : Int) ∧ (x6 : Int) < (l61 : Nat)) ∧
                        AddrK a61 fun b62 =>
                        ∃ (x63 : Int), w60.cell? (b62.add ((x6 : Int).toNat * 1)) = some (.int .i64 x63) ∧
                        (∃ (x64 : Int), w60.cell? (b8.add 3) = some (.int .i64 x64) ∧
                          (K (decide ((IntKind.wrap .i64 ((IntKind.wrap .i64 (x63 * x7)) + x56) : Int) ≤ x64)) w60)))))))))
          (BoolK ((s34 : ByteArray).toList == ((⟨#[117, 110, 108, 105, 107, 101]⟩ : ByteArray) : ByteArray).toList)
            (∃ (a65 : Option Addr) (l65 : Nat) (c65 : Nat), w12.cell? (b8.add 1) = some (.slice a65 l65 c65) ∧
              ((0 ≤ (IntKind.wrap .i64 (1 - x6) : Int) ∧ (IntKind.wrap .i64 (1 - x6) : Int) < (l65 : Nat)) ∧
                AddrK a65 fun b66 =>
                ∃ (x67 : Int), w12.cell? (b66.add ((IntKind.wrap .i64 (1 - x6) : Int).toNat * 1)) = some (.int .i64 x67) ∧
                ((0 ≤ (x67 : Int) ∧ (x67 : Int) < (l5 : Nat)) ∧
                  AddrK a5 fun b68 =>
                  ∃ (a69 : Option Addr) (l69 : Nat) (c69 : Nat), w12.cell? (b68.add ((x67 : Int).toNat * 1)) = some (.slice a69 l69 c69) ∧
                  (Calls Try.prog 94 #[(.slice a69 l69 c69)] w12 fun e73 w72 =>
                    ∃ (x70 : Int), ∃ (p71 : Bool), e73 = .returned (.tuple #[(.int .i64 x70), (.bool p71)]) ∧
                    (BoolK (!p71)
                      (K true w72)
                      (BoolK ((x6 : Int) == 0)
                        (∃ (x74 : Int), w72.cell? (b8.add 3) = some (.int .i64 x74) ∧
                          (BoolK ((IntKind.wrap .i64 (x7 + x74) : Int) != x70)
                            (K true w72)
                            (BoolK ((x6 : Int) == 1)
                              (∃ (x75 : Int), w72.cell? (b8.add 3) = some (.int .i64 x75) ∧
                                (K ((IntKind.wrap .i64 (x70 + x75) : Int) != x7) w72))
                              (K false w72))))
                        (BoolK ((x6 : Int) == 1)
                          (∃ (x76 : Int), w72.cell? (b8.add 3) = some (.int .i64 x76) ∧
                            (K ((IntKind.wrap .i64 (x70 + x76) : Int) != x7) w72))
                          (K false w72))))))))
            (BoolK ((s34 : ByteArray).toList == ((⟨#[100, 105, 115, 116, 105, 110, 99, 116]⟩ : ByteArray) : ByteArray).toList)
              (∃ (I77 : Int → World → Prop) (μ78 : Int → World → Nat),
                (I77 0 w12 ∧ True) ∧
                ∀ (w79 : World) (x80 : Int), I77 x80 w79 →
                ∃ (a81 : Option Addr) (l81 : Nat) (c81 : Nat), w79.cell? (b8.add 1) = some (.slice a81 l81 c81) ∧
                (BoolK (decide ((x80 : Int) < (l81 : Nat)))
                  (∃ (a82 : Option Addr) (l82 : Nat) (c82 : Nat), w79.cell? (b8.add 1) = some (.slice a82 l82 c82) ∧
                    ((0 ≤ (x80 : Int) ∧ (x80 : Int) < (l82 : Nat)) ∧
                      AddrK a82 fun b83 =>
                      ∃ (x84 : Int), w79.cell? (b83.add ((x80 : Int).toNat * 1)) = some (.int .i64 x84) ∧
                      ((0 ≤ (x84 : Int) ∧ (x84 : Int) < (l5 : Nat)) ∧
                        AddrK a5 fun b85 =>
                        ∃ (a86 : Option Addr) (l86 : Nat) (c86 : Nat), w79.cell? (b85.add ((x84 : Int).toNat * 1)) = some (.slice a86 l86 c86) ∧
                        (Calls Try.prog 94 #[(.slice a86 l86 c86)] w79 fun e90 w89 =>
                          ∃ (x87 : Int), ∃ (p88 : Bool), e90 = .returned (.tuple #[(.int .i64 x87), (.bool p88)]) ∧
                          (BoolK ((x80 : Int) != x6)
                            (BoolK p88
                              (BoolK ((x87 : Int) == x7)
                                (K false w89)
                                (I77 (IntKind.wrap .i64 (x80 + 1)) w89 ∧ μ78 (IntKind.wrap .i64 (x80 + 1)) w89 < μ78 x80 w79))
                              (I77 (IntKind.wrap .i64 (x80 + 1)) w89 ∧ μ78 (IntKind.wrap .i64 (x80 + 1)) w89 < μ78 x80 w79))
                            (I77 (IntKind.wrap .i64 (x80 + 1)) w89 ∧ μ78 (IntKind.wrap .i64 (x80 + 1)) w89 < μ78 x80 w79))))))
                  (K true w79)))
              (BoolK ((s34 : ByteArray).toList == ((⟨#[112, 114, 111, 100, 117, 99, 116]⟩ : ByteArray) : ByteArray).toList)
                (BoolK ((x6 : Int) == 2)
                  (DrewK w12 fun w91 =>
                    (0 ≤ (0 : Int) ∧ (0 : Int) < (l13 : Nat)) ∧
                    AddrK a13 fun b92 =>
                    ∃ (x93 : Int), w91.cell? (b92.add ((0 : Int).toNat * 1)) = some (.int .i64 x93) ∧
                    ((0 ≤ (1 : Int) ∧ (1 : Int) < (l13 : Nat)) ∧
                      AddrK a13 fun b94 =>
                      ∃ (x95 : Int), w91.cell? (b94.add ((1 : Int).toNat * 1)) = some (.int .i64 x95) ∧
                      (BoolK (decide ((IntKind.wrap .i64 (x93 * x95) : Int) ≤ x7))
                        ((0 ≤ (0 : Int) ∧ (0 : Int) < (l14 : Nat)) ∧
                          AddrK a14 fun b96 =>
                          ∃ (x97 : Int), w91.cell? (b96.add ((0 : Int).toNat * 1)) = some (.int .i64 x97) ∧
                          ((0 ≤ (1 : Int) ∧ (1 : Int) < (l14 : Nat)) ∧
                            AddrK a14 fun b98 =>
                            ∃ (x99 : Int), w91.cell? (b98.add ((1 : Int).toNat * 1)) = some (.int .i64 x99) ∧
                            (K (decide ((x7 : Int) ≤ IntKind.wrap .i64 (x97 * x99))) w91)))
                        (K false w91))))
                  (DrewK w12 fun w100 =>
                    (0 ≤ (IntKind.wrap .i64 (1 - x6) : Int) ∧ (IntKind.wrap .i64 (1 - x6) : Int) < (l13 : Nat)) ∧
                    AddrK a13 fun b101 =>
                    ∃ (x102 : Int), w100.cell? (b101.add ((IntKind.wrap .i64 (1 - x6) : Int).toNat * 1)) = some (.int .i64 x102) ∧
                    ((0 ≤ (2 : Int) ∧ (2 : Int) < (l14 : Nat)) ∧
                      AddrK a14 fun b103 =>
                      ∃ (x104 : Int), w100.cell? (b103.add ((2 : Int).toNat * 1)) = some (.int .i64 x104) ∧
                      (BoolK (decide ((IntKind.wrap .i64 (x7 * x102) : Int) ≤ x104))
                        ((0 ≤ (IntKind.wrap .i64 (1 - x6) : Int) ∧ (IntKind.wrap .i64 (1 - x6) : Int) < (l14 : Nat)) ∧
                          AddrK a14 fun b105 =>
                          ∃ (x106 : Int), w100.cell? (b105.add ((IntKind.wrap .i64 (1 - x6) : Int).toNat * 1)) = some (.int .i64 x106) ∧
                          ((0 ≤ (2 : Int) ∧ (2 : Int) < (l13 : Nat)) ∧
                            AddrK a13 fun b107 =>
                            ∃ (x108 : Int), w100.cell? (b107.add ((2 : Int).toNat * 1)) = some (.int .i64 x108) ∧
                            (K (decide ((IntKind.wrap .i64 (x7 * x106) : Int) ≥ x108)) w100)))
                        (K false w100)))))
                (BoolK ((s34 : ByteArray).toList == ((⟨#[101, 108, 101, 109, 101, 110, 116]⟩ : ByteArray) : ByteArray).toList)
                  (∃ (s109 : ByteArray), w12.cell? (b8.add 0) = some (.string s109) ∧
                    (∃ (a110 : Option Addr) (l110 : Nat) (c110 : Nat), w12.cell? (b8.add 1) = some (.slice a110 l110 c110) ∧
                      (∃ (a111 : Option Addr) (l111 : Nat) (c111 : Nat), w12.cell? (b8.add 2) = some (.slice a111 l111 c111) ∧
                        (∃ (x112 : Int), w12.cell? (b8.add 3) = some (.int .i64 x112) ∧
                          (Calls Try.prog 95 #[(.agg #[(.string s109), (.slice a110 l110 c110), (.slice a111 l111 c111), (.int .i64 x112)]), (.slice a5 l5 c5), (.int .i64 x6), (.int .i64 x7)] w12 fun e115 w114 =>
                            ∃ (p113 : Bool), e115 = .returned (.bool p113) ∧
                            (K p113 w114))))))
                  (BoolK ((s34 : ByteArray).toList == ((⟨#[109, 97, 120]⟩ : ByteArray) : ByteArray).toList)
                    (BoolK ((x6 : Int) == 2)
                      (DrewK w12 fun w116 =>
                        (0 ≤ (0 : Int) ∧ (0 : Int) < (l13 : Nat)) ∧
                        AddrK a13 fun b117 =>
                        ∃ (x118 : Int), w116.cell? (b117.add ((0 : Int).toNat * 1)) = some (.int .i64 x118) ∧
                        ((0 ≤ (1 : Int) ∧ (1 : Int) < (l13 : Nat)) ∧
                          AddrK a13 fun b119 =>
                          ∃ (x120 : Int), w116.cell? (b119.add ((1 : Int).toNat * 1)) = some (.int .i64 x120) ∧
                          (BoolK (decide ((if (x120 : Int) > x118 then x120 else x118 : Int) ≤ x7))
                            ((0 ≤ (0 : Int) ∧ (0 : Int) < (l14 : Nat)) ∧
                              AddrK a14 fun b121 =>
                              ∃ (x122 : Int), w116.cell? (b121.add ((0 : Int).toNat * 1)) = some (.int .i64 x122) ∧
                              ((0 ≤ (1 : Int) ∧ (1 : Int) < (l14 : Nat)) ∧
                                AddrK a14 fun b123 =>
                                ∃ (x124 : Int), w116.cell? (b123.add ((1 : Int).toNat * 1)) = some (.int .i64 x124) ∧
                                (K (decide ((x7 : Int) ≤ if (x124 : Int) > x122 then x124 else x122)) w116)))
                            (K false w116))))
                      (DrewK w12 fun w125 =>
                        (0 ≤ (2 : Int) ∧ (2 : Int) < (l14 : Nat)) ∧
                        AddrK a14 fun b126 =>
                        ∃ (x127 : Int), w125.cell? (b126.add ((2 : Int).toNat * 1)) = some (.int .i64 x127) ∧
                        (BoolK (decide ((x7 : Int) ≤ x127))
                          ((0 ≤ (2 : Int) ∧ (2 : Int) < (l13 : Nat)) ∧
                            AddrK a13 fun b128 =>
                            ∃ (x129 : Int), w125.cell? (b128.add ((2 : Int).toNat * 1)) = some (.int .i64 x129) ∧
                            (BoolK (decide ((x7 : Int) ≥ x129))
                              (K true w125)
                              ((0 ≤ (IntKind.wrap .i64 (1 - x6) : Int) ∧ (IntKind.wrap .i64 (1 - x6) : Int) < (l14 : Nat)) ∧
                                AddrK a14 fun b130 =>
                                ∃ (x131 : Int), w125.cell? (b130.add ((IntKind.wrap .i64 (1 - x6) : Int).toNat * 1)) = some (.int .i64 x131) ∧
                                ((0 ≤ (2 : Int) ∧ (2 : Int) < (l13 : Nat)) ∧
                                  AddrK a13 fun b132 =>
                                  ∃ (x133 : Int), w125.cell? (b132.add ((2 : Int).toNat * 1)) = some (.int .i64 x133) ∧
                                  (K (decide ((x131 : Int) ≥ x133)) w125)))))
                          (K false w125))))
                    (BoolK ((s34 : ByteArray).toList == ((⟨#[114, 101, 105, 102, 121]⟩ : ByteArray) : ByteArray).toList)
                      (∃ (a134 : Option Addr) (l134 : Nat) (c134 : Nat), w12.cell? (b8.add 1) = some (.slice a134 l134 c134) ∧
                        ((0 ≤ (0 : Int) ∧ (0 : Int) < (l134 : Nat)) ∧
                          AddrK a134 fun b135 =>
                          ∃ (x136 : Int), w12.cell? (b135.add ((0 : Int).toNat * 1)) = some (.int .i64 x136) ∧
                          ((0 ≤ (x136 : Int) ∧ (x136 : Int) < (l5 : Nat)) ∧
                            AddrK a5 fun b137 =>
                            ∃ (a138 : Option Addr) (l138 : Nat) (c138 : Nat), w12.cell? (b137.add ((x136 : Int).toNat * 1)) = some (.slice a138 l138 c138) ∧
                            (Calls Try.prog 94 #[(.slice a138 l138 c138)] w12 fun e142 w141 =>
                              ∃ (x139 : Int), ∃ (p140 : Bool), e142 = .returned (.tuple #[(.int .i64 x139), (.bool p140)]) ∧
                              (BoolK ((x6 : Int) == 0)
                                (DrewK w141 fun w143 =>
                                  BoolK ((x7 : Int) == 1)
                                  ((0 ≤ (1 : Int) ∧ (1 : Int) < (l13 : Nat)) ∧
                                    AddrK a13 fun b144 =>
                                    ∃ (x145 : Int), w143.cell? (b144.add ((1 : Int).toNat * 1)) = some (.int .i64 x145) ∧
                                    ((0 ≤ (2 : Int) ∧ (2 : Int) < (l14 : Nat)) ∧
                                      AddrK a14 fun b146 =>
                                      ∃ (x147 : Int), w143.cell? (b146.add ((2 : Int).toNat * 1)) = some (.int .i64 x147) ∧
                                      (∃ (x148 : Int), w143.cell? (b8.add 3) = some (.int .i64 x148) ∧
                                        (BoolK (decide ((x145 : Int) ≤ IntKind.wrap .i64 (x147 + x148)))
                                          (K true w143)
                                          (BoolK ((x7 : Int) == 0)
                                            ((0 ≤ (1 : Int) ∧ (1 : Int) < (l14 : Nat)) ∧
                                              AddrK a14 fun b149 =>
                                              ∃ (x150 : Int), w143.cell? (b149.add ((1 : Int).toNat * 1)) = some (.int .i64 x150) ∧
                                              ((0 ≤ (2 : Int) ∧ (2 : Int) < (l13 : Nat)) ∧
                                                AddrK a13 fun b151 =>
                                                ∃ (x152 : Int), w143.cell? (b151.add ((2 : Int).toNat * 1)) = some (.int .i64 x152) ∧
                                                (∃ (x153 : Int), w143.cell? (b8.add 3) = some (.int .i64 x153) ∧
                                                  (K (decide ((x150 : Int) > IntKind.wrap .i64 (x152 + x153))) w143))))
                                            (K false w143))))))
                                  (BoolK ((x7 : Int) == 0)
                                    ((0 ≤ (1 : Int) ∧ (1 : Int) < (l14 : Nat)) ∧
                                      AddrK a14 fun b154 =>
                                      ∃ (x155 : Int), w143.cell? (b154.add ((1 : Int).toNat * 1)) = some (.int .i64 x155) ∧
                                      ((0 ≤ (2 : Int) ∧ (2 : Int) < (l13 : Nat)) ∧
                                        AddrK a13 fun b156 =>
                                        ∃ (x157 : Int), w143.cell? (b156.add ((2 : Int).toNat * 1)) = some (.int .i64 x157) ∧
                                        (∃ (x158 : Int), w143.cell? (b8.add 3) = some (.int .i64 x158) ∧
                                          (K (decide ((x155 : Int) > IntKind.wrap .i64 (x157 + x158))) w143))))
                                    (K false w143)))
                                (∃ (J159 : Bool → World → Prop),
                                  (∀ (w160 : World) (p161 : Bool), J159 p161 w160 →
                                    BoolK p161
                                    (K true w160)
                                    (BoolK ((x6 : Int) == 1)
                                      (DrewK w160 fun w162 =>
                                        BoolK ((x139 : Int) == 1)
                                        ((0 ≤ (2 : Int) ∧ (2 : Int) < (l14 : Nat)) ∧
                                          AddrK a14 fun b163 =>
                                          ∃ (x164 : Int), w162.cell? (b163.add ((2 : Int).toNat * 1)) = some (.int .i64 x164) ∧
                                          (∃ (x165 : Int), w162.cell? (b8.add 3) = some (.int .i64 x165) ∧
                                            (BoolK (decide ((x7 : Int) ≤ IntKind.wrap .i64 (x164 + x165)))
                                              (K true w162)
                                              (BoolK ((x139 : Int) == 0)
                                                ((0 ≤ (2 : Int) ∧ (2 : Int) < (l13 : Nat)) ∧
                                                  AddrK a13 fun b166 =>
                                                  ∃ (x167 : Int), w162.cell? (b166.add ((2 : Int).toNat * 1)) = some (.int .i64 x167) ∧
                                                  (∃ (x168 : Int), w162.cell? (b8.add 3) = some (.int .i64 x168) ∧
                                                    (K (decide ((x7 : Int) > IntKind.wrap .i64 (x167 + x168))) w162)))
                                                (K false w162)))))
                                        (BoolK ((x139 : Int) == 0)
                                          ((0 ≤ (2 : Int) ∧ (2 : Int) < (l13 : Nat)) ∧
                                            AddrK a13 fun b169 =>
                                            ∃ (x170 : Int), w162.cell? (b169.add ((2 : Int).toNat * 1)) = some (.int .i64 x170) ∧
                                            (∃ (x171 : Int), w162.cell? (b8.add 3) = some (.int .i64 x171) ∧
                                              (K (decide ((x7 : Int) > IntKind.wrap .i64 (x170 + x171))) w162)))
                                          (K false w162)))
                                      (DrewK w160 fun w172 =>
                                        BoolK ((x139 : Int) == 1)
                                        ((0 ≤ (1 : Int) ∧ (1 : Int) < (l13 : Nat)) ∧
                                          AddrK a13 fun b173 =>
                                          ∃ (x174 : Int), w172.cell? (b173.add ((1 : Int).toNat * 1)) = some (.int .i64 x174) ∧
                                          (∃ (x175 : Int), w172.cell? (b8.add 3) = some (.int .i64 x175) ∧
                                            (BoolK (decide ((x174 : Int) ≤ IntKind.wrap .i64 (x7 + x175)))
                                              (K true w172)
                                              (BoolK ((x139 : Int) == 0)
                                                ((0 ≤ (1 : Int) ∧ (1 : Int) < (l14 : Nat)) ∧
                                                  AddrK a14 fun b176 =>
                                                  ∃ (x177 : Int), w172.cell? (b176.add ((1 : Int).toNat * 1)) = some (.int .i64 x177) ∧
                                                  (∃ (x178 : Int), w172.cell? (b8.add 3) = some (.int .i64 x178) ∧
                                                    (K (decide ((x177 : Int) > IntKind.wrap .i64 (x7 + x178))) w172)))
                                                (K false w172)))))
                                        (BoolK ((x139 : Int) == 0)
                                          ((0 ≤ (1 : Int) ∧ (1 : Int) < (l14 : Nat)) ∧
                                            AddrK a14 fun b179 =>
                                            ∃ (x180 : Int), w172.cell? (b179.add ((1 : Int).toNat * 1)) = some (.int .i64 x180) ∧
                                            (∃ (x181 : Int), w172.cell? (b8.add 3) = some (.int .i64 x181) ∧
                                              (K (decide ((x180 : Int) > IntKind.wrap .i64 (x7 + x181))) w172)))
                                          (K false w172))))) ∧
                                  (BoolK (!p140)
                                    (J159 true w141)
                                    (J159 (decide ((x139 : Int) > 1)) w141))))))))
                      (DrewK w12 fun w182 =>
                        ∃ (a183 : Option Addr) (l183 : Nat) (c183 : Nat), w182.cell? (b8.add 2) = some (.slice a183 l183 c183) ∧
                        ((0 ≤ (0 : Int) ∧ (0 : Int) < (l183 : Nat)) ∧
                          AddrK a183 fun b184 =>
                          ∃ (x185 : Int), w182.cell? (b184.add ((0 : Int).toNat * 1)) = some (.int .i64 x185) ∧
                          (∃ (a186 : Option Addr) (l186 : Nat) (c186 : Nat), w182.cell? (b8.add 2) = some (.slice a186 l186 c186) ∧
                            ((0 ≤ (1 : Int) ∧ (1 : Int) < (l186 : Nat)) ∧
                              AddrK a186 fun b187 =>
                              ∃ (x188 : Int), w182.cell? (b187.add ((1 : Int).toNat * 1)) = some (.int .i64 x188) ∧
                              (BoolK ((x6 : Int) == 0)
                                ((0 ≤ (1 : Int) ∧ (1 : Int) < (l14 : Nat)) ∧
                                  AddrK a14 fun b189 =>
                                  ∃ (x190 : Int), w182.cell? (b189.add ((1 : Int).toNat * 1)) = some (.int .i64 x190) ∧
                                  (BoolK (decide ((IntKind.wrap .i64 (x7 + x185) : Int) ≤ x190))
                                    (K true w182)
                                    ((0 ≤ (1 : Int) ∧ (1 : Int) < (l13 : Nat)) ∧
                                      AddrK a13 fun b191 =>
                                      ∃ (x192 : Int), w182.cell? (b191.add ((1 : Int).toNat * 1)) = some (.int .i64 x192) ∧
                                      (K (decide ((IntKind.wrap .i64 (x192 + x188) : Int) ≤ x7)) w182))))
                                ((0 ≤ (0 : Int) ∧ (0 : Int) < (l13 : Nat)) ∧
                                  AddrK a13 fun b193 =>
                                  ∃ (x194 : Int), w182.cell? (b193.add ((0 : Int).toNat * 1)) = some (.int .i64 x194) ∧
                                  (BoolK (decide ((IntKind.wrap .i64 (x194 + x185) : Int) ≤ x7))
                                    (K true w182)
                                    ((0 ≤ (0 : Int) ∧ (0 : Int) < (l14 : Nat)) ∧
                                      AddrK a14 fun b195 =>
                                      ∃ (x196 : Int), w182.cell? (b195.add ((0 : Int).toNat * 1)) = some (.int .i64 x196) ∧
                                      (K (decide ((IntKind.wrap .i64 (x7 + x188) : Int) ≤ x196)) w182)))))))))))))))))))
def ann84 : Ann := (.two .nil (.two .nil (.two (.two .nil (.one (.loop [(9, (.one .slice)), (10, (.one .slice)), (11, (.one (.int .i64)))] [1, 2, 3, 4] (.two (.two .nil (.two .nil .nil)) (.two (.one (.two .nil .nil)) .nil))))) (.two (.two .nil (.one (.two .nil (.two (.two .nil (.two (.any 27 (.take 0 (.take 1 (.take 2 (.take 3 (.take 4 (.take 5 (.take 6 (.take 7 (.take 8 (.take 9 (.take 10 (.take 11 (.take 12 (.take 13 (.take 14 (.take 15 (.take 16 (.take 17 (.take 18 (.take 19 (.take 20 (.take 21 (.take 22 (.take 23 (.take 24 (.take 25 (.take 26 .done)))))))))))))))))))))))))))) .nil)) (.two .nil (.two (.two .nil (.two (.any 13 (.take 0 (.take 1 (.take 2 (.take 3 (.take 4 (.take 5 (.take 6 (.take 7 (.take 8 (.take 9 (.take 10 (.take 11 (.take 12 .done)))))))))))))) .nil)) (.two .nil (.two (.two .nil (.two .nil .nil)) (.two .nil (.two (.two (.two .nil (.one (.loop [(20, (.one (.int .i64)))] [1, 2, 3, 4] (.two (.two .nil (.two .nil .nil)) (.two (.one (.two .nil (.two .nil (.two (.two .nil .nil) .nil)))) .nil))))) (.two .nil .nil)) (.two .nil (.two (.two (.two .nil (.two (.two (.any 21 (.take 0 (.take 1 (.take 2 (.take 3 (.take 4 (.take 5 (.take 6 (.take 7 (.take 8 (.take 9 (.take 10 (.take 11 (.take 12 (.take 13 (.take 14 (.take 15 (.take 16 (.take 17 (.take 18 (.take 19 (.take 20 .done)))))))))))))))))))))) .nil) .nil)) (.two (.any 25 (.take 0 (.take 1 (.take 2 (.take 3 (.take 4 (.take 5 (.take 6 (.take 7 (.take 8 (.take 9 (.take 10 (.take 11 (.take 12 (.take 13 (.take 14 (.take 15 (.take 16 (.take 17 (.take 18 (.take 19 (.take 20 (.take 21 (.take 22 (.take 23 (.take 24 .done)))))))))))))))))))))))))) .nil)) (.two .nil (.two (.two .nil .nil) (.two .nil (.two (.two (.two .nil (.two (.two (.any 21 (.take 0 (.take 1 (.take 2 (.take 3 (.take 4 (.take 5 (.take 6 (.take 7 (.take 8 (.take 9 (.take 10 (.take 11 (.take 12 (.take 13 (.take 14 (.take 15 (.take 16 (.take 17 (.take 18 (.take 19 (.take 20 .done)))))))))))))))))))))) .nil) .nil)) (.two (.any 24 (.take 0 (.take 1 (.take 2 (.take 3 (.take 4 (.take 5 (.take 6 (.take 7 (.take 8 (.take 9 (.take 10 (.take 11 (.take 12 (.take 13 (.take 14 (.take 15 (.take 16 (.take 17 (.take 18 (.take 19 (.take 20 (.take 21 (.take 22 (.take 23 .done))))))))))))))))))))))))) .nil)) (.two .nil (.two (.two .nil (.two (.one (.two .nil (.two (.two (.any 31 (.take 0 (.take 1 (.take 2 (.take 3 (.take 4 (.take 5 (.take 6 (.take 7 (.take 8 (.take 9 (.take 10 (.take 11 (.take 12 (.take 13 (.take 14 (.take 15 (.take 16 (.take 17 (.take 18 (.take 19 (.take 20 (.take 21 (.take 22 (.take 23 (.take 24 (.take 25 (.take 26 (.take 27 (.take 28 (.take 29 (.take 30 .done)))))))))))))))))))))))))))))))) .nil) (.cut [(333, (.one .bool))] [2, 3, 4, 9, 10, 23] .nil (.two (.two .nil .nil) (.two .nil (.two (.two (.any 27 (.take 0 (.take 1 (.take 2 (.take 3 (.take 4 (.take 5 (.take 6 (.take 7 (.take 8 (.take 9 (.take 10 (.take 11 (.take 12 (.take 13 (.take 14 (.take 15 (.take 16 (.take 17 (.take 18 (.take 19 (.take 20 (.take 21 (.take 22 (.take 23 (.take 24 (.take 25 (.take 26 .done)))))))))))))))))))))))))))) .nil) .nil))))))) (.two (.any 27 (.take 0 (.take 1 (.take 2 (.take 3 (.take 4 (.take 5 (.take 6 (.take 7 (.take 8 (.take 9 (.take 10 (.take 11 (.take 12 (.take 13 (.take 14 (.take 15 (.take 16 (.take 17 (.take 18 (.take 19 (.take 20 (.take 21 (.take 22 (.take 23 (.take 24 (.take 25 (.take 26 .done)))))))))))))))))))))))))))) .nil))) .nil)))))))))))))))))) (.two (.any 10 (.take 0 (.take 1 (.take 2 (.take 3 (.take 4 (.take 5 (.take 6 (.take 7 (.take 8 (.take 9 .done))))))))))) (.two (.two .nil (.two (.two .nil .nil) .nil)) (.two .nil .nil)))))))
noncomputable def code84 : Code := match Try.f84.body with | some c => c | none => .skip
theorem wp84 (s1 : ByteArray) (a2 : Option Addr) (l2 : Nat) (c2 : Nat) (a3 : Option Addr) (l3 : Nat) (c3 : Nat) (x4 : Int) (a5 : Option Addr) (l5 : Nat) (c5 : Nat) (x6 : Int) (x7 : Int) (K : Bool → World → Prop) (w : World) : WP Try.prog tab code84 ann84 (fnQ tab Try.f84.results.toList [(.one .bool)] K) (argE 0 [(.agg #[(.string s1), (.slice a2 l2 c2), (.slice a3 l3 c3), (.int .i64 x4)]), (.slice a5 l5 c5), (.int .i64 x6), (.int .i64 x7)]) w = N84 s1 a2 l2 c2 a3 l3 c3 x4 a5 l5 c5 x6 x7 K w := by kernel_rfl
theorem calls84 (s1 : ByteArray) (a2 : Option Addr) (l2 : Nat) (c2 : Nat) (a3 : Option Addr) (l3 : Nat) (c3 : Nat) (x4 : Int) (a5 : Option Addr) (l5 : Nat) (c5 : Nat) (x6 : Int) (x7 : Int) (K : Bool → World → Prop) (w : World) (h : N84 s1 a2 l2 c2 a3 l3 c3 x4 a5 l5 c5 x6 x7 K w) : Calls Try.prog 84 #[(.agg #[(.string s1), (.slice a2 l2 c2), (.slice a3 l3 c3), (.int .i64 x4)]), (.slice a5 l5 c5), (.int .i64 x6), (.int .i64 x7)] w fun en w' => ∃ (p197 : Bool), en = .returned (.bool p197) ∧ K p197 w' :=
  have e : (fun en w' => ExShs [(.one .bool)] fun vs => en = .returned (tupled vs) ∧ ap [(.one .bool)] K vs fun p => p w') = (fun (en : Ending) (w' : World) => ∃ (p197 : Bool), en = .returned (.bool p197) ∧ K p197 w') := by kernel_rfl
  e ▸ fn_sound tabOk mixed Try.func84 (by kernel_rfl : Try.f84.body = some code84) ann84 [(.agg #[(.string s1), (.slice a2 l2 c2), (.slice a3 l3 c3), (.int .i64 x4)]), (.slice a5 l5 c5), (.int .i64 x6), (.int .i64 x7)] [(.one .bool)] K w (by kernel_rfl) ((wp84 s1 a2 l2 c2 a3 l3 c3 x4 a5 l5 c5 x6 x7 K w).symm ▸ h)
end Go.Proofs.Ytggfnakhmjkoeaa

namespace Go.Proofs.Ytggfnakhmjkoeaa
open Go Go.V Go.Proofs
open Go.RowKit (Below)

/-- two rows of the function's own, apart from each other -/
def Two (base : Nat) (w : World) (a : Option Addr) (l c : Nat) (b : Option Addr) (m d : Nat) (xs ys : List Int) : Prop :=
  OwnR base 3 1 eI w a l c xs ∧ OwnR base 3 1 eI w b m d ys ∧ ∀ g, (Value.slice a l c).ownBlock = some g → (Value.slice b m d).ownBlock ≠ some g
theorem Two.swap {base : Nat} {w : World} {a : Option Addr} {l c : Nat} {b : Option Addr} {m d : Nat} {xs ys : List Int} (h : Two base w a l c b m d xs ys) : Two base w b m d a l c ys xs :=
  ⟨h.2.1, h.1, fun g hg hb => h.2.2 g hb hg⟩
theorem Two.ext {base : Nat} {w w' : World} {a : Option Addr} {l c : Nat} {b : Option Addr} {m d : Nat} {xs ys : List Int} (h : Two base w a l c b m d xs ys) (k : Ext w w') : Two base w' a l c b m d xs ys := ⟨h.1.ext k, h.2.1.ext k, h.2.2⟩
theorem Two.push {base : Nat} {w : World} {a : Option Addr} {l c : Nat} {b : Option Addr} {m d : Nat} {xs ys : List Int} (x : Int) (h : Two base w a l c b m d xs ys) (hb : base ≤ w.heap.size) (hl : xs.length ≤ 1000000) {F : Option Addr → Nat → Nat → World → Prop}
    (k : ∀ a' c' w', Two base w' a' (xs.length + 1) c' b m d (xs ++ [x]) ys → Below base w w' → F a' (xs.length + 1) c' w') :
    AllocK w #[.int .i64 x] 3 fun p w1 => ∃ a' l' c' w2, Sem.run Try.prog (Builtin.append_ #[22, 22] 22 #[.slice a l c, .slice (some p) 1 1]) w1 = .ok (.slice a' l' c') w2 ∧ F a' l' c' w2 := by
  refine h.1.push x slt22 hb eI_len eI_one (by omega) rfl fun a' c' w' ho hg hown => k a' c' w' ⟨ho, h.2.1.kept fun g hgb => hg.block g (h.2.1.lt g hgb).2 (fun e => h.2.2 g e.symm hgb), fun g hga hgb => ?_⟩ (h.1.below hb hg)
  rcases hown with e | ⟨g', e, hge⟩
  · exact h.2.2 g (by rw [← e]; exact hga) hgb
  · rw [e] at hga; cases hga
    have := (h.2.1.lt g hgb).2; omega

end Go.Proofs.Ytggfnakhmjkoeaa

namespace Go.Proofs.Ytggfnakhmjkoeaa
open Go Go.V Go.Proofs
open Go.RowKit (Below)

theorem sin_one {d : Dm} {w : Int} : oneB d w = ((sinS d).2 && decide ((sinS d).1 = w)) := by
  unfold oneB sinS
  by_cases h : mn d = mx d
  · rw [if_pos h]
    by_cases h2 : mn d = w
    · simp [h2, ← h]
    · simp [h2]
  · rw [if_neg h]
    by_cases h2 : mn d = w
    · have : ¬ mx d = w := fun e => h (h2.trans e.symm)
      simp [this]
    · simp [h2]

set_option maxHeartbeats 1000000 in
theorem c84 (w : World) (s : ByteArray) (a2 : Option Addr) (l2 c2 : Nat) (a3 : Option Addr) (l3 c3 : Nat) (x4 : Int) (p : PropS) (h : PropAt w s a2 l2 a3 l3 x4 p)
    (a5 : Option Addr) (l5 c5 : Nat) (ls : List Dm) (hd : Doms w a5 l5 ls) (hV : VarsAt p ls) (hk : kindB (kdOf p.kind) p.vars.length p.coefs.length p.coefs p.n = true) (h40 : p.vars.length ≤ 40) (i v : Nat) (hi : i < p.vars.length) (hv : v ≤ 1000) :
    Calls Try.prog 84 #[.agg #[.string s, .slice a2 l2 c2, .slice a3 l3 c3, .int .i64 x4], .slice a5 l5 c5, .int .i64 i, .int .i64 v] w fun en w' => ∃ r, en = .returned (.bool r) ∧ (r = passS (kdOf p.kind) p.coefs p.n (bsOf p ls) i v ∧ Ext w w') := by
  have hP := h
  obtain ⟨rfl, hv2, hc2, rfl, _, _⟩ := h
  have hl2 := hv2.1
  have hl3 := hc2.1
  have hl5 := hd.1
  have hlen : (bsOf p ls).length = p.vars.length := by simp [bsOf]
  have hbget : ∀ j (hj : j < p.vars.length), (bsOf p ls)[j]'(by omega) = at' (bsOf p ls) j := fun j hj => (at_get (by omega)).symm
  refine calls84 _ _ _ _ _ _ _ _ _ _ _ _ _ _ w ?_
  refine AllocK.mk fun b w9 hb8 hblk hx => ?_
  have hcell := fun (w' : World) (k : Ext w9 w') => cell4 (hblk.ext k)
  simp only [add_mk, Nat.zero_add]
  refine ⟨fun a l c a' l' c' x w' => ∃ k : Nat, x = k ∧ k ≤ p.vars.length ∧ Two w9.heap.size w' a l c a' l' c' (((bsOf p ls).take k).map mn) (((bsOf p ls).take k).map mx) ∧ Ext w9 w', fun _ _ _ _ _ _ x _ => p.vars.length - x.toNat,
    ⟨⟨0, rfl, by omega, ⟨OwnR.nil _ _ _ _ _, OwnR.nil _ _ _ _ _, fun g hg => by cases hg⟩, Ext.refl _⟩, trivial⟩, ?_⟩
  rintro w12 a13 l13 c13 a14 l14 c14 _ ⟨k, rfl, hkk, hT, hB⟩
  have hBw := hx.trans hB
  refine ⟨_, _, _, (hcell _ hB).2.1, BoolK.mk (fun hlt => ?_) (fun hge => ?_)⟩
  · have hlt : k < p.vars.length := by simp at hlt; omega
    have hvk := hV.ok k hlt
    obtain ⟨b1, o1, rfl, g0⟩ := intAt hv2 w12 hBw hlt
    obtain ⟨b2, o2, a21, l21, c21, rfl, g1, gd⟩ := domsAt hd w12 hBw hvk.2
    have hfk := hV.full k hlt
    rw [at_bs hlt hvk.2] at hfk
    refine ⟨_, _, _, (hcell _ hB).2.1, by omega, ?_⟩
    simp only [AddrK, add_mk, Int.toNat_natCast, Nat.mul_one]
    refine ⟨_, g0, by omega, _, _, _, g1, (c92 w12 a21 l21 c21 _ gd hfk).mono ?_⟩
    rintro en w24 ⟨x22, x23, rfl, rfl, rfl, hx24⟩
    refine ⟨_, _, rfl, ?_⟩
    have hB24 := hB.trans hx24
    have htl : (((bsOf p ls).take k).map mn).length = k := by simp; omega
    have htl' : (((bsOf p ls).take k).map mx).length = k := by simp; omega
    refine (hT.ext hx24).push _ hB24.size (by omega) fun a28 c28 w29 hT29 hb29 => ?_
    have hB29 := Below.trans hB24 hb29
    refine hT29.swap.push _ hB29.size (by omega) fun a32 c32 w33 hT33 hb33 => ?_
    rw [wrap_succ (by omega)]
    refine ⟨⟨k + 1, rfl, by omega, ?_, Below.trans hB29 hb33⟩, by simp; omega⟩
    have e1 : (bsOf p ls).take (k + 1) = (bsOf p ls).take k ++ [ls[(p.vars[k]).toNat]] := by
      rw [List.take_add_one, List.getElem?_eq_getElem (by omega), hbget k hlt, at_bs hlt hvk.2]; rfl
    rw [e1, List.map_append, List.map_append]
    exact hT33.swap
  have : k = p.vars.length := by simp at hge; omega
  subst this
  rw [List.take_of_length_le (by omega)] at hT
  have hIn := hT.1.ints
  have hIx := hT.2.1.ints
  have hl13 := hIn.1
  have hl14 := hIx.1
  rw [List.length_map] at hl13 hl14
  clear hkk hge hT
  have hend : ∀ j, j < p.vars.length → 0 ≤ mn (at' (bsOf p ls) j) ∧ mn (at' (bsOf p ls) j) ≤ mx (at' (bsOf p ls) j) ∧ mx (at' (bsOf p ls) j) ≤ 1000 := fun j hj => (hV.full j hj).ends
  obtain ⟨bA, oA, rfl, _⟩ := intAt hIn w12 (Ext.refl _) (i := 0) (by simp; omega)
  obtain ⟨bM, oM, rfl, _⟩ := intAt hIx w12 (Ext.refl _) (i := 0) (by simp; omega)
  have hA : ∀ w' (_ : Ext w12 w') j (_ : j < p.vars.length), w'.cell? ⟨bA, oA + j, none⟩ = some (.int .i64 (mn (at' (bsOf p ls) j))) := fun w' k j hj => by
    obtain ⟨b', o', hh, g⟩ := intAt hIn w' k (i := j) (by simp; omega)
    simp at hh; obtain ⟨rfl, rfl⟩ := hh
    rw [g, List.getElem_map, hbget j hj]
  have hM : ∀ w' (_ : Ext w12 w') j (_ : j < p.vars.length), w'.cell? ⟨bM, oM + j, none⟩ = some (.int .i64 (mx (at' (bsOf p ls) j))) := fun w' k j hj => by
    obtain ⟨b', o', hh, g⟩ := intAt hIx w' k (i := j) (by simp; omega)
    simp at hh; obtain ⟨rfl, rfl⟩ := hh
    rw [g, List.getElem_map, hbget j hj]
  obtain ⟨k0, k1, k2, k3, k4, k5, k6, k7, k8⟩ := kd_all p.kind
  have k0' : (p.kind.toList == (⟨#[115, 117, 109]⟩ : ByteArray).toList) = _ := k0
  have k1' : (p.kind.toList == (⟨#[109, 111, 115, 116]⟩ : ByteArray).toList) = _ := k1
  have k2' : (p.kind.toList == (⟨#[117, 110, 108, 105, 107, 101]⟩ : ByteArray).toList) = _ := k2
  have k3' : (p.kind.toList == (⟨#[100, 105, 115, 116, 105, 110, 99, 116]⟩ : ByteArray).toList) = _ := k3
  have k4' : (p.kind.toList == (⟨#[112, 114, 111, 100, 117, 99, 116]⟩ : ByteArray).toList) = _ := k4
  have k5' : (p.kind.toList == (⟨#[109, 97, 120]⟩ : ByteArray).toList) = _ := k5
  have k6' : (p.kind.toList == (⟨#[101, 108, 101, 109, 101, 110, 116]⟩ : ByteArray).toList) = _ := k6
  have k7' : (p.kind.toList == (⟨#[114, 101, 105, 102, 121]⟩ : ByteArray).toList) = _ := k7
  refine ⟨_, (hcell _ hB).1, ?_⟩
  rw [k0', k1', k2', k3', k4', k5', k6', k7']
  clear k0 k1 k2 k3 k4 k5 k6 k7 k8 k0' k1' k2' k3' k4' k5' k6' k7'
  have hC := hcell _ hB
  have r0 := Ext.refl w12
  have lift : ∀ w' (_ : Ext w12 w'), Ext w w' := fun w' k => hBw.trans k
  have cel : ∀ w' (_ : Ext w12 w'), _ := fun w' k => hcell w' (hB.trans k)
  -- sum
  refine BoolK.mk (fun q => ?_) (fun q0 => ?_)
  · have e := of_decide_eq_true q
    rw [e] at hk ⊢
    simp only [kindB, Bool.and_eq_true, decide_eq_true_eq] at hk
    have hnr := of_decide_eq_true hk.2
    have hcr := hk.1.2
    refine ⟨_, hC.1, _, _, _, hC.2.1, _, _, _, hC.2.2.1, _, hC.2.2.2, ?_⟩
    refine (c93 w12 _ _ _ _ _ _ _ _ p (hP.ext hBw) a5 l5 c5 ls (hd.ext (RSl.mono RPair.mono) hBw) hV h40 (by omega) hcr i).mono ?_
    rintro en w41 ⟨x39, x40, rfl, rfl, rfl, hx41⟩
    refine ⟨_, _, rfl, DrewK.mk fun w43 hx43 => ?_⟩
    have hx := hx41.trans hx43
    obtain ⟨b3, o3, rfl, g3⟩ := intAt hc2 w43 (lift _ hx) (i := i) (by omega)
    have hci : p.coefs.getD i 0 = p.coefs[i] := getD_get (by omega) _
    have hm := mul_small (rng_of hcr i) (x := (v : Int)) (by omega) (by omega)
    rw [hci] at hm
    refine ⟨_, (cel _ hx).2.2.2, _, _, _, (cel _ hx).2.2.1, by omega, ?_⟩
    simp only [AddrK, add_mk, Int.toNat_natCast, Nat.mul_one]
    refine ⟨_, g3, ?_⟩
    rw [wrap_id (x := p.coefs[i] * (v : Int)) (by omega) (by omega), wrap_id (x := p.n - p.coefs[i] * (v : Int)) (by omega) (by omega)]
    simp only [passS]; rw [hci]
    refine BoolK.mk (fun t1 => ?_) (fun t1 => ?_)
    · refine ⟨_, (cel _ hx).2.2.2, _, _, _, (cel _ hx).2.2.1, by omega, ?_⟩
      simp only [add_mk]
      refine ⟨_, g3, ?_, lift _ hx⟩
      rw [wrap_id (x := p.coefs[i] * (v : Int)) (by omega) (by omega), wrap_id (x := p.n - p.coefs[i] * (v : Int)) (by omega) (by omega)]
      rw [decide_eq_true (show lowS p.coefs (bsOf p ls) i (bsOf p ls).length ≤ p.n - p.coefs[i] * (v : Int) by simpa using t1), Bool.true_and]
    · exact ⟨by rw [decide_eq_false (by simpa using t1)]; rfl, lift _ hx⟩
  -- most
  refine BoolK.mk (fun q => ?_) (fun q1 => ?_)
  · have e := of_decide_eq_true q
    rw [e] at hk ⊢
    simp only [kindB, Bool.and_eq_true, decide_eq_true_eq] at hk
    have hnr := of_decide_eq_true hk.2
    have hcr := hk.1.2
    refine ⟨_, hC.1, _, _, _, hC.2.1, _, _, _, hC.2.2.1, _, hC.2.2.2, ?_⟩
    refine (c93 w12 _ _ _ _ _ _ _ _ p (hP.ext hBw) a5 l5 c5 ls (hd.ext (RSl.mono RPair.mono) hBw) hV h40 (by omega) hcr i).mono ?_
    rintro en w58 ⟨x39, x40, rfl, rfl, rfl, hx41⟩
    refine ⟨_, _, rfl, DrewK.mk fun w43 hx43 => ?_⟩
    have hx := hx41.trans hx43
    obtain ⟨b3, o3, rfl, g3⟩ := intAt hc2 w43 (lift _ hx) (i := i) (by omega)
    have hci : p.coefs.getD i 0 = p.coefs[i] := getD_get (by omega) _
    have hm := mul_small (rng_of hcr i) (x := (v : Int)) (by omega) (by omega)
    rw [hci] at hm
    have hfull : ∀ d ∈ bsOf p ls, Full d := fun d hdm => by
      obtain ⟨j, hj, rfl⟩ := List.mem_iff_getElem.1 hdm
      have := hV.full j (by omega)
      rw [at_get hj] at this; exact this
    have bnd := low_bound i hcr hfull (bsOf p ls).length (Nat.le_refl _)
    refine ⟨_, _, _, (cel _ hx).2.2.1, by omega, ?_⟩
    simp only [AddrK, add_mk, Int.toNat_natCast, Nat.mul_one]
    refine ⟨_, g3, _, (cel _ hx).2.2.2, ?_, lift _ hx⟩
    rw [wrap_id (x := p.coefs[i] * (v : Int)) (by omega) (by omega), wrap_id (by omega) (by omega)]
    simp only [passS]; rw [hci, decide_eq_decide]; omega
  -- unlike
  refine BoolK.mk (fun q => ?_) (fun q2 => ?_)
  · have e := of_decide_eq_true q
    rw [e] at hk ⊢
    simp only [kindB, Bool.and_eq_true, decide_eq_true_eq] at hk
    have hnr := of_decide_eq_true hk.2
    have hw1 : IntKind.wrap .i64 (1 - (i : Int)) = ((1 - i : Nat) : Int) := by rw [wrap_id] <;> omega
    have hj : 1 - i < p.vars.length := by omega
    have hvk := hV.ok _ hj
    have hfk := hV.full _ hj
    have hends := hend _ hj
    have hat := at_bs hj hvk.2
    obtain ⟨b1, o1, rfl, g0⟩ := intAt hv2 w12 hBw hj
    obtain ⟨b2, o2, a69, l69, c69, rfl, g1, gd⟩ := domsAt hd w12 hBw hvk.2
    rw [hw1]
    refine ⟨_, _, _, hC.2.1, by omega, ?_⟩
    simp only [AddrK, add_mk, Int.toNat_natCast, Nat.mul_one]
    rw [hat] at hfk hends
    refine ⟨_, g0, by omega, _, _, _, g1, (c94 w12 a69 l69 c69 _ gd hfk).mono ?_⟩
    rintro en w72 ⟨x70, p71, rfl, rfl, rfl, hx⟩
    simp only [passS]
    have spec : (if i = 0 then !oneB (at' (bsOf p ls) 1) ((v : Int) + p.n) else !oneB (at' (bsOf p ls) 0) ((v : Int) - p.n)) = (if i = 0 then !((sinS ls[(p.vars[1 - i]).toNat]).2 && decide ((sinS ls[(p.vars[1 - i]).toNat]).1 = (v : Int) + p.n)) else !((sinS ls[(p.vars[1 - i]).toNat]).2 && decide ((sinS ls[(p.vars[1 - i]).toNat]).1 = (v : Int) - p.n))) := by
      rw [← hat, ← sin_one, ← sin_one]
      by_cases hi0 : i = 0
      · rw [if_pos hi0, if_pos hi0, hi0]
      · rw [if_neg hi0, if_neg hi0, show 1 - i = 0 by omega]
    rw [spec]
    have hsb : (sinS ls[(p.vars[1 - i]).toNat]).2 = true → (sinS ls[(p.vars[1 - i]).toNat]).1 = mn ls[(p.vars[1 - i]).toNat] := fun hh => by
      unfold sinS at hh ⊢; split at hh
      · rw [if_pos (by assumption)]
      · cases hh
    generalize sinS ls[(p.vars[1 - i]).toNat] = S at hsb ⊢
    refine ⟨_, _, rfl, BoolK.mk (fun t1 => ?_) (fun t1 => ?_)⟩
    · simp at t1
      exact ⟨by rw [t1]; simp, lift _ hx⟩
    · simp at t1
      have hs1 := hsb t1
      rw [t1, Bool.true_and, Bool.true_and]
      refine BoolK.mk (fun t2 => ?_) (fun t2 => ?_)
      · have hi0 : i = 0 := by simpa using t2
        rw [if_pos hi0]
        refine ⟨_, (cel _ hx).2.2.2, ?_⟩
        rw [wrap_id (by omega) (by omega)]
        refine BoolK.mk (fun t3 => ?_) (fun t3 => ?_)
        · simp at t3
          exact ⟨by rw [decide_eq_false (by omega)]; rfl, lift _ hx⟩
        · simp at t3
          refine BoolK.mk (fun t4 => by simp at t4; omega) (fun _ => ?_)
          exact ⟨by rw [decide_eq_true (by omega)]; rfl, lift _ hx⟩
      · have hi0 : i ≠ 0 := by simpa using t2
        rw [if_neg hi0]
        refine BoolK.mk (fun t4 => ?_) (fun t4 => by simp at t4; omega)
        refine ⟨_, (cel _ hx).2.2.2, ?_, lift _ hx⟩
        rw [wrap_id (by omega) (by omega)]
        rw [Bool.eq_iff_iff]; simp; omega
  -- distinct
  refine BoolK.mk (fun q => ?_) (fun q3 => ?_)
  · have e := of_decide_eq_true q
    rw [e] at hk ⊢
    simp only [passS]
    refine ⟨fun x w' => ∃ j : Nat, x = j ∧ j ≤ p.vars.length ∧ ((List.range (bsOf p ls).length).take j).all (fun j => decide (j = i) || !oneB (at' (bsOf p ls) j) v) = true ∧ Ext w12 w', fun x _ => p.vars.length - x.toNat, ⟨⟨0, rfl, by omega, rfl, r0⟩, trivial⟩, ?_⟩
    rintro w79 _ ⟨j, rfl, hj, hall, hx79⟩
    refine ⟨_, _, _, (cel _ hx79).2.1, BoolK.mk (fun hlt => ?_) (fun hge => ?_)⟩
    · have hlt : j < p.vars.length := by simp at hlt; omega
      have hlt' : j < (List.range (bsOf p ls).length).length := by simp; omega
      have hvk := hV.ok _ hlt
      have hfk := hV.full _ hlt
      have hat := at_bs hlt hvk.2
      obtain ⟨b1, o1, rfl, g0⟩ := intAt hv2 w79 (lift _ hx79) hlt
      obtain ⟨b2, o2, a69, l69, c69, rfl, g1, gd⟩ := domsAt hd w79 (lift _ hx79) hvk.2
      have hstep : ∀ w', Ext w12 w' → (decide (j = i) || !oneB (at' (bsOf p ls) j) v) = true → (∃ j' : Nat, IntKind.wrap .i64 ((j : Int) + 1) = j' ∧ j' ≤ p.vars.length ∧ ((List.range (bsOf p ls).length).take j').all (fun j => decide (j = i) || !oneB (at' (bsOf p ls) j) v) = true ∧ Ext w12 w') ∧ p.vars.length - (IntKind.wrap .i64 ((j : Int) + 1)).toNat < p.vars.length - (j : Int).toNat := fun w' hw' hh => by
        rw [wrap_succ (by omega)]
        refine ⟨⟨j + 1, rfl, by omega, ?_, hw'⟩, by simp; omega⟩
        rw [all_take hlt', hall, Bool.true_and, List.getElem_range]; exact hh
      refine ⟨_, _, _, (cel _ hx79).2.1, by omega, ?_⟩
      simp only [AddrK, add_mk, Int.toNat_natCast, Nat.mul_one]
      rw [hat] at hfk
      refine ⟨_, g0, by omega, _, _, _, g1, (c94 w79 a69 l69 c69 _ gd hfk).mono ?_⟩
      rintro en w89 ⟨x87, p88, rfl, rfl, rfl, hx⟩
      have hx89 := hx79.trans hx
      have hone : oneB (at' (bsOf p ls) j) v = ((sinS ls[(p.vars[j]).toNat]).2 && decide ((sinS ls[(p.vars[j]).toNat]).1 = v)) := by rw [hat]; exact sin_one
      refine ⟨_, _, rfl, BoolK.mk (fun t1 => ?_) (fun t1 => ?_)⟩
      · have hne : j ≠ i := by simp at t1; omega
        refine BoolK.mk (fun t2 => ?_) (fun t2 => ?_)
        · refine BoolK.mk (fun t3 => ?_) (fun t3 => ?_)
          · refine ⟨?_, lift _ hx89⟩
            rw [all_false hlt' (by rw [List.getElem_range, hone, t2, decide_eq_false hne, decide_eq_true (by simpa using t3)]; rfl)]
          · exact hstep _ hx89 (by rw [hone, decide_eq_false (p := (sinS ls[(p.vars[j]).toNat]).1 = v) (by simpa using t3)]; simp)
        · exact hstep _ hx89 (by rw [hone, t2]; simp)
      · have he : j = i := by simp at t1; omega
        exact hstep _ hx89 (by rw [decide_eq_true he]; rfl)
    · have : j = p.vars.length := by simp at hge; omega
      subst this
      rw [List.take_of_length_le (by simp; omega)] at hall
      exact ⟨hall.symm, lift _ hx79⟩
  have hw1 : i ≠ 2 → IntKind.wrap .i64 (1 - (i : Int)) = ((1 - i : Nat) : Int) ∨ 3 ≤ i := fun _ => by
    rcases Nat.lt_or_ge i 3 with h | h
    · left; rw [wrap_id] <;> omega
    · exact .inr h
  -- product
  refine BoolK.mk (fun q => ?_) (fun q4 => ?_)
  · have e := of_decide_eq_true q
    rw [e] at hk ⊢
    simp only [kindB, Bool.and_eq_true, decide_eq_true_eq] at hk
    simp only [passS]
    have e0 := hend 0 (by omega)
    have e1 := hend 1 (by omega)
    have e2 := hend 2 (by omega)
    refine BoolK.mk (fun t => ?_) (fun t => ?_)
    · have hi2 : i = 2 := by simp at t; omega
      rw [if_pos hi2]
      refine DrewK.mk fun w91 hx => ?_
      have p1 := mul_1000 e0.1 (by omega) e1.1 (by omega)
      have p2 := mul_1000 (x := mx (at' (bsOf p ls) 0)) (y := mx (at' (bsOf p ls) 1)) (by omega) (by omega) (by omega) (by omega)
      refine ⟨by omega, ?_⟩
      simp only [AddrK, add_mk, Int.toNat_zero, Int.toNat_one, Nat.mul_one]
      refine ⟨_, hA _ hx 0 (by omega), by omega, _, hA _ hx 1 (by omega), ?_⟩
      rw [wrap_id (by omega) (by omega)]
      refine BoolK.mk (fun t1 => ?_) (fun t1 => ?_)
      · refine ⟨by omega, _, hM _ hx 0 (by omega), by omega, _, hM _ hx 1 (by omega), ?_, lift _ hx⟩
        rw [wrap_id (by omega) (by omega), t1]; rfl
      · exact ⟨by rw [t1]; rfl, lift _ hx⟩
    · have hi2 : i ≠ 2 := by simp at t; omega
      rw [if_neg hi2]
      have hwi : IntKind.wrap .i64 (1 - (i : Int)) = ((1 - i : Nat) : Int) := (hw1 hi2).elim id (fun h => by omega)
      refine DrewK.mk fun w100 hx => ?_
      rw [hwi]
      have e3 := hend (1 - i) (by omega)
      have p1 := mul_1000 (x := (v : Int)) (y := mn (at' (bsOf p ls) (1 - i))) (by omega) (by omega) e3.1 (by omega)
      have p2 := mul_1000 (x := (v : Int)) (y := mx (at' (bsOf p ls) (1 - i))) (by omega) (by omega) (by omega) (by omega)
      refine ⟨by omega, ?_⟩
      simp only [AddrK, add_mk, Int.toNat_natCast, Nat.mul_one]
      refine ⟨_, hA _ hx (1 - i) (by omega), by omega, _, hM _ hx 2 (by omega), ?_⟩
      rw [wrap_id (by omega) (by omega)]
      refine BoolK.mk (fun t1 => ?_) (fun t1 => ?_)
      · refine ⟨by omega, _, hM _ hx (1 - i) (by omega), by omega, _, hA _ hx 2 (by omega), ?_, lift _ hx⟩
        rw [wrap_id (by omega) (by omega), t1]; rfl
      · exact ⟨by rw [t1]; rfl, lift _ hx⟩
  -- element
  refine BoolK.mk (fun q => ?_) (fun q5 => ?_)
  · have e := of_decide_eq_true q
    rw [e] at hk ⊢
    simp only [kindB, Bool.and_eq_true, decide_eq_true_eq] at hk
    refine ⟨_, hC.1, _, _, _, hC.2.1, _, _, _, hC.2.2.1, _, hC.2.2.2, ?_⟩
    refine (c95 w12 _ _ _ _ _ _ _ _ p (hP.ext hBw) a5 l5 c5 ls (hd.ext (RSl.mono RPair.mono) hBw) hV (by omega) (by omega) i v hv).mono ?_
    rintro en w114 ⟨r, rfl, hr, hx⟩
    exact ⟨_, rfl, hr, lift _ hx⟩
  -- max
  refine BoolK.mk (fun q => ?_) (fun q6 => ?_)
  · have e := of_decide_eq_true q
    rw [e] at hk ⊢
    simp only [kindB, Bool.and_eq_true, decide_eq_true_eq] at hk
    simp only [passS]
    refine BoolK.mk (fun t => ?_) (fun t => ?_)
    · have hi2 : i = 2 := by simp at t; omega
      rw [if_pos hi2]
      refine DrewK.mk fun w116 hx => ?_
      refine ⟨by omega, ?_⟩
      simp only [AddrK, add_mk, Int.toNat_zero, Int.toNat_one, Nat.mul_one]
      refine ⟨_, hA _ hx 0 (by omega), by omega, _, hA _ hx 1 (by omega), ?_⟩
      rw [max_if]
      refine BoolK.mk (fun t1 => ?_) (fun t1 => ?_)
      · refine ⟨by omega, _, hM _ hx 0 (by omega), by omega, _, hM _ hx 1 (by omega), ?_, lift _ hx⟩
        rw [max_if, t1]; rfl
      · exact ⟨by rw [t1]; rfl, lift _ hx⟩
    · have hi2 : i ≠ 2 := by simp at t; omega
      rw [if_neg hi2]
      have hwi : IntKind.wrap .i64 (1 - (i : Int)) = ((1 - i : Nat) : Int) := (hw1 hi2).elim id (fun h => by omega)
      refine DrewK.mk fun w125 hx => ?_
      refine ⟨by omega, ?_⟩
      rw [hwi]
      simp only [AddrK, add_mk, Int.toNat_natCast, Nat.mul_one]
      refine ⟨_, hM _ hx 2 (by omega), ?_⟩
      refine BoolK.mk (fun t1 => ?_) (fun t1 => ?_)
      · rw [t1, Bool.true_and]
        refine ⟨by omega, _, hA _ hx 2 (by omega), BoolK.mk (fun t2 => ?_) (fun t2 => ?_)⟩
        · exact ⟨by rw [t2, Bool.or_true], lift _ hx⟩
        · refine ⟨by omega, _, hM _ hx (1 - i) (by omega), by omega, _, hA _ hx 2 (by omega), ?_, lift _ hx⟩
          rw [t2, Bool.or_false]
      · exact ⟨by rw [t1]; rfl, lift _ hx⟩
  -- reify
  refine BoolK.mk (fun q => ?_) (fun q7 => ?_)
  · have e := of_decide_eq_true q
    rw [e] at hk ⊢
    simp only [kindB, Bool.and_eq_true, decide_eq_true_eq] at hk
    have hnr := of_decide_eq_true hk.2
    have e0 := hend 0 (by omega)
    have e1 := hend 1 (by omega)
    have e2 := hend 2 (by omega)
    have hvk := hV.ok 0 (by omega)
    have hfk := hV.full 0 (by omega)
    have hat := at_bs (p := p) (ls := ls) (j := 0) (by omega) hvk.2
    obtain ⟨b1, o1, rfl, g0⟩ := intAt hv2 w12 hBw (i := 0) (by omega)
    obtain ⟨b2, o2, a138, l138, c138, rfl, g1, gd⟩ := domsAt hd w12 hBw hvk.2
    refine ⟨_, _, _, hC.2.1, by omega, ?_⟩
    simp only [AddrK, add_mk, Int.toNat_zero, Int.toNat_one, Int.reduceToNat, Nat.mul_one]
    rw [hat] at hfk
    refine ⟨_, g0, by omega, _, _, _, g1, (c94 w12 a138 l138 c138 _ gd hfk).mono ?_⟩
    rintro en w141 ⟨x139, p140, rfl, hx1, hp1, hx⟩
    rw [← hat] at hx1 hp1
    have hone : ∀ u, oneB (at' (bsOf p ls) 0) u = (p140 && decide (x139 = u)) := fun u => by rw [hx1, hp1]; exact sin_one
    have hx0 : p140 = true → 0 ≤ x139 := fun hh => by
      rw [hp1] at hh; rw [hx1]
      unfold sinS at hh ⊢; split at hh
      · rw [if_pos (by assumption)]; exact e0.1
      · cases hh
    clear hx1 hp1
    refine ⟨_, _, rfl, ?_⟩
    simp only [passS, reifS, hone]
    refine BoolK.mk (fun t => ?_) (fun t => ?_)
    · have hi0 : i = 0 := by simpa using t
      rw [if_pos hi0]
      refine DrewK.mk fun w143 hx3 => ?_
      have hx' := hx.trans hx3
      have fin : ∀ r : Bool, (r = true ↔ ((v : Int) = 1 ∧ mn (at' (bsOf p ls) 1) ≤ mx (at' (bsOf p ls) 2) + p.n) ∨ ((v : Int) = 0 ∧ mx (at' (bsOf p ls) 1) > mn (at' (bsOf p ls) 2) + p.n)) → r = (decide ((v : Int) = 1) && decide (mn (at' (bsOf p ls) 1) ≤ mx (at' (bsOf p ls) 2) + p.n) || decide ((v : Int) = 0) && decide (mx (at' (bsOf p ls) 1) > mn (at' (bsOf p ls) 2) + p.n)) ∧ Ext w w143 := fun r hr => by
        refine ⟨?_, lift _ hx'⟩
        rw [Bool.eq_iff_iff, hr]; simp
      refine BoolK.mk (fun t1 => ?_) (fun t1 => ?_)
      · simp at t1
        refine ⟨by omega, _, hA _ hx' 1 (by omega), by omega, _, hM _ hx' 2 (by omega), _, (cel _ hx').2.2.2, ?_⟩
        rw [wrap_id (by omega) (by omega)]
        refine BoolK.mk (fun t2 => fin _ ?_) (fun t2 => BoolK.mk (fun t3 => ?_) (fun t3 => fin _ ?_))
        · simp at t2; simp; omega
        · simp at t3; omega
        · simp at t2 t3; simp; omega
      · simp at t1
        refine BoolK.mk (fun t3 => ?_) (fun t3 => fin _ ?_)
        · simp at t3
          refine ⟨by omega, _, hM _ hx' 1 (by omega), by omega, _, hA _ hx' 2 (by omega), _, (cel _ hx').2.2.2, ?_⟩
          rw [wrap_id (by omega) (by omega)]
          refine fin _ ?_
          simp; omega
        · simp at t3; simp; omega
    · have hi0 : i ≠ 0 := by simpa using t
      rw [if_neg hi0]
      refine ⟨fun q w160 => w160 = w141 ∧ q = (!p140 || decide (x139 > 1)), ?_, ?_⟩
      · rintro w160 q ⟨rfl, rfl⟩
        refine BoolK.mk (fun t1 => ?_) (fun t1 => ?_)
        · refine ⟨?_, lift _ hx⟩
          have h1 : (p140 && decide (x139 = 1)) = false := by
            simp at t1 ⊢; intro hh; rcases t1 with t1 | t1
            · rw [hh] at t1; cases t1
            · omega
          have h0 : (p140 && decide (x139 = 0)) = false := by
            simp at t1 ⊢; intro hh; rcases t1 with t1 | t1
            · rw [hh] at t1; cases t1
            · omega
          rw [h1, h0]; simp
        · have ht : p140 = true ∧ x139 ≤ 1 := by simpa using t1
          have hp0 := hx0 ht.1
          rw [ht.1]
          simp only [Bool.true_and]
          refine BoolK.mk (fun t2 => ?_) (fun t2 => ?_)
          · have hi1 : i = 1 := by simp at t2; omega
            rw [if_pos hi1]
            refine DrewK.mk fun w162 hx3 => ?_
            have hx' := hx.trans hx3
            refine BoolK.mk (fun t3 => ?_) (fun t3 => ?_)
            · simp at t3
              refine ⟨by omega, _, hM _ hx' 2 (by omega), _, (cel _ hx').2.2.2, ?_⟩
              rw [wrap_id (by omega) (by omega)]
              refine BoolK.mk (fun t4 => ⟨?_, lift _ hx'⟩) (fun t4 => BoolK.mk (fun t5 => ?_) (fun t5 => ⟨?_, lift _ hx'⟩))
              · simp at t4; rw [Bool.eq_iff_iff]; simp; omega
              · simp at t5; omega
              · simp at t4; rw [Bool.eq_iff_iff]; simp; omega
            · simp at t3
              refine BoolK.mk (fun t5 => ?_) (fun t5 => ?_)
              · simp at t5
                refine ⟨by omega, _, hA _ hx' 2 (by omega), _, (cel _ hx').2.2.2, ?_, lift _ hx'⟩
                rw [wrap_id (by omega) (by omega)]
                rw [Bool.eq_iff_iff]; simp; omega
              · simp at t5; omega
          · have hi1 : i ≠ 1 := by simp at t2; omega
            rw [if_neg hi1]
            refine DrewK.mk fun w172 hx3 => ?_
            have hx' := hx.trans hx3
            refine BoolK.mk (fun t3 => ?_) (fun t3 => ?_)
            · simp at t3
              refine ⟨by omega, _, hA _ hx' 1 (by omega), _, (cel _ hx').2.2.2, ?_⟩
              rw [wrap_id (by omega) (by omega)]
              refine BoolK.mk (fun t4 => ⟨?_, lift _ hx'⟩) (fun t4 => BoolK.mk (fun t5 => ?_) (fun t5 => ⟨?_, lift _ hx'⟩))
              · simp at t4; rw [Bool.eq_iff_iff]; simp; omega
              · simp at t5; omega
              · simp at t4; rw [Bool.eq_iff_iff]; simp; omega
            · simp at t3
              refine BoolK.mk (fun t5 => ?_) (fun t5 => ?_)
              · simp at t5
                refine ⟨by omega, _, hM _ hx' 1 (by omega), _, (cel _ hx').2.2.2, ?_, lift _ hx'⟩
                rw [wrap_id (by omega) (by omega)]
                rw [Bool.eq_iff_iff]; simp; omega
              · simp at t5; omega
      · refine BoolK.mk (fun t1 => ?_) (fun t1 => ?_)
        · exact ⟨rfl, by rw [t1]; rfl⟩
        · simp at t1; exact ⟨rfl, by rw [t1]; rfl⟩
  -- apart
  have e : kdOf p.kind = .apart := by
    simp at q0 q1 q2 q3 q4 q5 q6 q7
    cases hh : kdOf p.kind <;> simp_all [kindB]
  rw [e] at hk ⊢
  simp only [kindB, Bool.and_eq_true, decide_eq_true_eq] at hk
  simp only [passS]
  have hcc : ∀ j, j < 2 → 0 ≤ p.coefs.getD j 0 ∧ p.coefs.getD j 0 ≤ 1000000 := fun j hj => by
    have := List.all_eq_true.1 hk.2 p.coefs[j] (List.getElem_mem (by omega))
    rw [getD_get (by omega)]; simpa using this
  have e0 := hend 0 (by omega)
  have e1 := hend 1 (by omega)
  have c0 := hcc 0 (by omega)
  have c1 := hcc 1 (by omega)
  refine DrewK.mk fun w182 hx => ?_
  obtain ⟨b3, o3, rfl, g3⟩ := intAt hc2 w182 (lift _ hx) (i := 0) (by omega)
  obtain ⟨b', o', ha', g4⟩ := intAt hc2 w182 (lift _ hx) (i := 1) (by omega)
  simp at ha'; obtain ⟨rfl, rfl⟩ := ha'
  rw [← getD_get (c := p.coefs) (j := 0) (by omega) 0] at g3
  rw [← getD_get (c := p.coefs) (j := 1) (by omega) 0] at g4
  generalize p.coefs.getD 0 0 = d0 at *
  generalize p.coefs.getD 1 0 = d1 at *
  refine ⟨_, _, _, (cel _ hx).2.2.1, by omega, ?_⟩
  simp only [AddrK, add_mk, Int.toNat_zero, Int.toNat_one, Nat.mul_one]
  refine ⟨_, g3, _, _, _, (cel _ hx).2.2.1, by omega, ?_⟩
  simp only [add_mk]
  refine ⟨_, g4, BoolK.mk (fun t => ?_) (fun t => ?_)⟩
  · have hi0 : i = 0 := by simpa using t
    rw [if_pos hi0]
    refine ⟨by omega, _, hM _ hx 1 (by omega), ?_⟩
    rw [wrap_id (by omega) (by omega)]
    refine BoolK.mk (fun t1 => ?_) (fun t1 => ?_)
    · exact ⟨by rw [t1]; rfl, lift _ hx⟩
    · refine ⟨by omega, _, hA _ hx 1 (by omega), ?_, lift _ hx⟩
      rw [wrap_id (by omega) (by omega), t1]; rfl
  · have hi0 : i ≠ 0 := by simpa using t
    rw [if_neg hi0]
    refine ⟨by omega, _, hA _ hx 0 (by omega), ?_⟩
    rw [wrap_id (by omega) (by omega)]
    refine BoolK.mk (fun t1 => ?_) (fun t1 => ?_)
    · exact ⟨by rw [t1]; rfl, lift _ hx⟩
    · refine ⟨by omega, _, hM _ hx 0 (by omega), ?_, lift _ hx⟩
      rw [wrap_id (by omega) (by omega), t1]; rfl
end Go.Proofs.Ytggfnakhmjkoeaa

namespace Go.Proofs.Ytggfnakhmjkoeaa
open Go Go.V Go.Proofs
open Go.RowKit (Below)
/-! manystrand/manystrandref06.keep -/
def N54 (s1 : ByteArray) (a2 : Option Addr) (l2 : Nat) (c2 : Nat) (a3 : Option Addr) (l3 : Nat) (c3 : Nat) (x4 : Int) (a5 : Option Addr) (l5 : Nat) (c5 : Nat) (K : Option Addr → Nat → Nat → World → Prop) (w : World) : Prop :=
  AllocK w (#[(.string s1), (.slice a2 l2 c2), (.slice a3 l3 c3), (.int .i64 x4)]) 24 fun b6 w7 =>
  ∃ (a8 : Option Addr), ∃ (l8 : Nat), ∃ (c8 : Nat), ∃ (w9 : World), Sem.run Try.prog (Builtin.append_ #[25, 25] 25 #[(.slice none 0 0), (.slice a5 l5 c5)]) w7 = .ok (.slice a8 l8 c8) w9 ∧
  (∃ (I10 : Bool → Int → World → Prop) (μ11 : Bool → Int → World → Nat),
    (I10 false 0 w9 ∧ True) ∧
    ∀ (w12 : World) (p13 : Bool) (x14 : Int), I10 p13 x14 w12 →
    ∃ (a15 : Option Addr) (l15 : Nat) (c15 : Nat), w12.cell? (b6.add 1) = some (.slice a15 l15 c15) ∧
    (BoolK (decide ((x14 : Int) < (l15 : Nat)))
      (BoolK p13
        (I10 true (IntKind.wrap .i64 (x14 + 1)) w12 ∧ μ11 true (IntKind.wrap .i64 (x14 + 1)) w12 < μ11 p13 x14 w12)
        (∃ (a16 : Option Addr) (l16 : Nat) (c16 : Nat), w12.cell? (b6.add 1) = some (.slice a16 l16 c16) ∧
          ((0 ≤ (x14 : Int) ∧ (x14 : Int) < (l16 : Nat)) ∧
            AddrK a16 fun b17 =>
            ∃ (x18 : Int), w12.cell? (b17.add ((x14 : Int).toNat * 1)) = some (.int .i64 x18) ∧
            ((0 ≤ (x18 : Int) ∧ (x18 : Int) < (l5 : Nat)) ∧
              AddrK a5 fun b19 =>
              ∃ (a20 : Option Addr) (l20 : Nat) (c20 : Nat), w12.cell? (b19.add ((x18 : Int).toNat * 1)) = some (.slice a20 l20 c20) ∧
              (I10 (((l20 : Nat) : Int) == 0) (IntKind.wrap .i64 (x14 + 1)) w12 ∧ μ11 (((l20 : Nat) : Int) == 0) (IntKind.wrap .i64 (x14 + 1)) w12 < μ11 p13 x14 w12)))))
      (∃ (I21 : Int → World → Prop) (μ22 : Int → World → Nat),
        (I21 0 w12 ∧ True) ∧
        ∀ (w23 : World) (x24 : Int), I21 x24 w23 →
        ∃ (a25 : Option Addr) (l25 : Nat) (c25 : Nat), w23.cell? (b6.add 1) = some (.slice a25 l25 c25) ∧
        (BoolK (decide ((x24 : Int) < (l25 : Nat)))
          (∃ (a26 : Option Addr) (l26 : Nat) (c26 : Nat), w23.cell? (b6.add 1) = some (.slice a26 l26 c26) ∧
            ((0 ≤ (x24 : Int) ∧ (x24 : Int) < (l26 : Nat)) ∧
              AddrK a26 fun b27 =>
              ∃ (x28 : Int), w23.cell? (b27.add ((x24 : Int).toNat * 1)) = some (.int .i64 x28) ∧
              ((0 ≤ (x28 : Int) ∧ (x28 : Int) < (l8 : Nat)) ∧
                AddrK a8 fun b29 =>
                ∃ (a30 : Option Addr) (l30 : Nat) (c30 : Nat), w23.cell? (b29.add ((x28 : Int).toNat * 1)) = some (.slice a30 l30 c30) ∧
                (Calls Try.prog 83 #[(.slice a30 l30 c30)] w23 fun e33 w32 =>
                  ∃ (r31 : Array Value), e33 = .returned (.agg r31) ∧
                  (AllocK w32 (zeroOf Try.prog 71) 71 fun b34 w35 =>
                    StRow w35 b34 r31 1001 fun w36 =>
                    ∃ (I37 : Int → World → Prop) (μ38 : Int → World → Nat),
                    (I37 0 w36 ∧ True) ∧
                    ∀ (w39 : World) (x40 : Int), I37 x40 w39 →
                    BoolK (decide ((x40 : Int) ≤ 1000))
                    ((0 ≤ (x40 : Int) ∧ (x40 : Int) < (1001 : Nat)) ∧
                      ∃ (p41 : Bool), w39.cell? (b34.add ((x40 : Int).toNat * 1)) = some (.bool p41) ∧
                      (BoolK p41
                        (BoolK (!p13)
                          (∃ (s42 : ByteArray), w39.cell? (b6.add 0) = some (.string s42) ∧
                            (∃ (a43 : Option Addr) (l43 : Nat) (c43 : Nat), w39.cell? (b6.add 1) = some (.slice a43 l43 c43) ∧
                              (∃ (a44 : Option Addr) (l44 : Nat) (c44 : Nat), w39.cell? (b6.add 2) = some (.slice a44 l44 c44) ∧
                                (∃ (x45 : Int), w39.cell? (b6.add 3) = some (.int .i64 x45) ∧
                                  (Calls Try.prog 84 #[(.agg #[(.string s42), (.slice a43 l43 c43), (.slice a44 l44 c44), (.int .i64 x45)]), (.slice a5 l5 c5), (.int .i64 x24), (.int .i64 x40)] w39 fun e48 w47 =>
                                    ∃ (p46 : Bool), e48 = .returned (.bool p46) ∧
                                    ((0 ≤ (x40 : Int) ∧ (x40 : Int) < (1001 : Nat)) ∧
                                      SetK w47 (b34.add ((x40 : Int).toNat * 1)) (.bool p46) fun w49 =>
                                      I37 (IntKind.wrap .i64 (x40 + 1)) w49 ∧ μ38 (IntKind.wrap .i64 (x40 + 1)) w49 < μ38 x40 w39))))))
                          ((0 ≤ (x40 : Int) ∧ (x40 : Int) < (1001 : Nat)) ∧
                            SetK w39 (b34.add ((x40 : Int).toNat * 1)) (.bool false) fun w50 =>
                            I37 (IntKind.wrap .i64 (x40 + 1)) w50 ∧ μ38 (IntKind.wrap .i64 (x40 + 1)) w50 < μ38 x40 w39))
                        ((0 ≤ (x40 : Int) ∧ (x40 : Int) < (1001 : Nat)) ∧
                          SetK w39 (b34.add ((x40 : Int).toNat * 1)) (.bool false) fun w51 =>
                          I37 (IntKind.wrap .i64 (x40 + 1)) w51 ∧ μ38 (IntKind.wrap .i64 (x40 + 1)) w51 < μ38 x40 w39)))
                    (DrewK w39 fun w52 =>
                      ∃ (a53 : Option Addr) (l53 : Nat) (c53 : Nat), w52.cell? (b6.add 1) = some (.slice a53 l53 c53) ∧
                      ((0 ≤ (x24 : Int) ∧ (x24 : Int) < (l53 : Nat)) ∧
                        AddrK a53 fun b54 =>
                        ∃ (x55 : Int), w52.cell? (b54.add ((x24 : Int).toNat * 1)) = some (.int .i64 x55) ∧
                        (∃ (r56 : Array Value), RowAt w52 b34 r56 1001 ∧
                          (Calls Try.prog 66 #[(.agg r56)] w52 fun e59 w58 =>
                            ∃ (a57 : Option Addr), ∃ (l57 : Nat), ∃ (c57 : Nat), e59 = .returned (.slice a57 l57 c57) ∧
                            (Below w52.heap.size w52 w58 ∧
                              ((0 ≤ (x55 : Int) ∧ (x55 : Int) < (l8 : Nat)) ∧
                                AddrK a8 fun b60 =>
                                SetK w58 (b60.add ((x55 : Int).toNat * 1)) (.slice a57 l57 c57) fun w61 =>
                                I21 (IntKind.wrap .i64 (x24 + 1)) w61 ∧ μ22 (IntKind.wrap .i64 (x24 + 1)) w61 < μ22 x24 w23)))))))))))
          (K a8 l8 c8 w23)))))
def ann54 : Ann := (.two .nil (.two .nil (.two .nil (.two (.two .nil (.one (.loop [(6, (.one .bool)), (7, (.one (.int .i64)))] [1, 2, 5] (.two (.two .nil (.two .nil .nil)) (.two (.one .nil) .nil))))) (.two (.two .nil (.one (.loop [(8, (.one (.int .i64)))] [1, 2, 5, 6] (.two (.two .nil (.two .nil .nil)) (.two (.one (.two .nil (.two (.two .nil (.one (.loop [(10, (.one (.int .i64)))] [1, 2, 5, 6, 8, 9] (.two (.two .nil (.two .nil .nil)) (.two (.one .nil) .nil))))) (.any 9 (.take 0 (.take 1 (.take 2 (.take 3 (.take 4 (.take 5 (.take 6 (.one 7 (.take 8 .done))))))))))))) .nil))))) (.two .nil .nil))))))
noncomputable def code54 : Code := match Try.f54.body with | some c => c | none => .skip
theorem wp54 (s1 : ByteArray) (a2 : Option Addr) (l2 : Nat) (c2 : Nat) (a3 : Option Addr) (l3 : Nat) (c3 : Nat) (x4 : Int) (a5 : Option Addr) (l5 : Nat) (c5 : Nat) (K : Option Addr → Nat → Nat → World → Prop) (w : World) : WP Try.prog tab code54 ann54 (fnQ tab Try.f54.results.toList [(.one .slice)] K) (argE 0 [(.agg #[(.string s1), (.slice a2 l2 c2), (.slice a3 l3 c3), (.int .i64 x4)]), (.slice a5 l5 c5)]) w = N54 s1 a2 l2 c2 a3 l3 c3 x4 a5 l5 c5 K w := by kernel_rfl
theorem calls54 (s1 : ByteArray) (a2 : Option Addr) (l2 : Nat) (c2 : Nat) (a3 : Option Addr) (l3 : Nat) (c3 : Nat) (x4 : Int) (a5 : Option Addr) (l5 : Nat) (c5 : Nat) (K : Option Addr → Nat → Nat → World → Prop) (w : World) (h : N54 s1 a2 l2 c2 a3 l3 c3 x4 a5 l5 c5 K w) : Calls Try.prog 54 #[(.agg #[(.string s1), (.slice a2 l2 c2), (.slice a3 l3 c3), (.int .i64 x4)]), (.slice a5 l5 c5)] w fun en w' => ∃ (a62 : Option Addr), ∃ (l62 : Nat), ∃ (c62 : Nat), en = .returned (.slice a62 l62 c62) ∧ K a62 l62 c62 w' :=
  have e : (fun en w' => ExShs [(.one .slice)] fun vs => en = .returned (tupled vs) ∧ ap [(.one .slice)] K vs fun p => p w') = (fun (en : Ending) (w' : World) => ∃ (a62 : Option Addr), ∃ (l62 : Nat), ∃ (c62 : Nat), en = .returned (.slice a62 l62 c62) ∧ K a62 l62 c62 w') := by kernel_rfl
  e ▸ fn_sound tabOk mixed Try.func54 (by kernel_rfl : Try.f54.body = some code54) ann54 [(.agg #[(.string s1), (.slice a2 l2 c2), (.slice a3 l3 c3), (.int .i64 x4)]), (.slice a5 l5 c5)] [(.one .slice)] K w (by kernel_rfl) ((wp54 s1 a2 l2 c2 a3 l3 c3 x4 a5 l5 c5 K w).symm ▸ h)
end Go.Proofs.Ytggfnakhmjkoeaa

namespace Go.Proofs.Ytggfnakhmjkoeaa
open Go Go.V Go.Proofs
open Go.RowKit (Below)

/-- a slice's own words -/
def RRaw (_ : World) (f : Cells) (s : Option Addr × Nat × Nat) : Prop := f 0 = some (.slice s.1 s.2.1 s.2.2)
theorem raw_of {w : World} {a : Option Addr} {l : Nat} {ds : List Dm} (h : Doms w a l ds) :
    ∃ S : List (Option Addr × Nat × Nat), S.length = ds.length ∧ Go.V.Rows 1 RRaw w a l S ∧ ∀ (i : Nat) (s : Option Addr × Nat × Nat) (d : Dm), S[i]? = some s → ds[i]? = some d → Dom w s.1 s.2.1 d := by
  have each : ∀ i, i < ds.length → ∃ s : Option Addr × Nat × Nat, (∀ b o, a = some ⟨b, o, none⟩ → w.cell? ⟨b, o + i, none⟩ = some (.slice s.1 s.2.1 s.2.2)) ∧ Dom w s.1 s.2.1 (ds.getD i []) := fun i hi => by
    obtain ⟨b, o, a', l', c', ha, h0, h1⟩ := domsAt h w (Ext.refl _) hi
    refine ⟨(a', l', c'), fun b' o' ha' => ?_, by rw [getD_get hi]; exact h1⟩
    rw [ha] at ha'; simp at ha'; obtain ⟨rfl, rfl⟩ := ha'; exact h0
  obtain ⟨f, hf⟩ := Go.Deep.choose_lt each
  refine ⟨(List.range ds.length).map f, by simp, ⟨by simp [h.1], ?_⟩, fun i s d hs hd => ?_⟩
  · rcases h.2 with h0 | ⟨b, o, ha, _⟩
    · left; rw [h0]; rfl
    · right
      refine ⟨b, o, ha, fun i s hs => ?_⟩
      have hi := (List.getElem?_eq_some_iff.1 hs).1
      simp at hi
      have : s = f i := by
        have := (List.getElem?_eq_some_iff.1 hs).2
        simpa using this.symm
      subst this
      show w.cell? ⟨b, o + i * 1 + 0, none⟩ = _
      rw [Nat.mul_one, Nat.add_zero]
      exact (hf i hi).1 b o ha
  · have hi := (List.getElem?_eq_some_iff.1 hd).1
    have e1 : s = f i := by
      have := (List.getElem?_eq_some_iff.1 hs).2
      simpa using this.symm
    have e2 : ds.getD i [] = d := by rw [getD_get hi]; exact (List.getElem?_eq_some_iff.1 hd).2
    subst e1; rw [← e2]; exact (hf i hi).2

/-- append(nil, l...) of a list of domains: the lists are shared -/
theorem copyDoms {w : World} {a : Option Addr} {l c : Nat} {ds : List Dm} (h : Doms w a l ds) (hl : ds.length ≤ 1000000) :
    ∃ a' c' w', Sem.run Try.prog (Builtin.append_ #[25, 25] 25 #[.slice none 0 0, .slice a l c]) w = .ok (.slice a' l c') w' ∧ DomsO w.heap.size w' a' l c' ds ∧ Ext w w' := by
  obtain ⟨S, h1, h2, h3⟩ := raw_of h
  obtain ⟨a', c', w', hr, ho, hx⟩ := copyRows (ty := 25) (c := c) slt25 h2 eS_len eS_one (fun f s hs j hj => by
    have : j = 0 := by omega
    subst this; exact hs) (by omega)
  refine ⟨a', c', w', hr, ⟨S, h1, ho, fun i s d hs hd => ?_⟩, hx⟩
  have hd' := h3 i s d hs hd
  refine ⟨hd'.ext RPair.mono hx, (hd'.lt RPair.some0).imp id fun hh p hp e => ?_⟩
  have := hh p hp
  have := (ho.lt p.block e.symm).1
  omega

theorem bs_at' {p : PropS} {l : List Dm} {j : Nat} (hj : j < p.vars.length) : at' (bsOf p l) j = at' l (px p.vars j) := by
  have hlen : (bsOf p l).length = p.vars.length := by simp [bsOf]
  rw [show at' (bsOf p l) j = (bsOf p l)[j]'(by omega) from getD_get (by omega) _]
  simp only [bsOf, List.getElem_map]
  exact getL_px hj
theorem rngs_none {f : Nat → Bool} (h : ∀ v, v < 1001 → f v = false) : rngs f 1001 = [] := by
  have : rngs f 1001 = rngs (fun _ => false) 1001 := rngs_congr fun i hi => h i hi
  rw [this]
  exact (inD_empty (rngs_ok _ 1001 (by omega)).1).2 fun v => by rw [inD_rngs, Bool.and_false]

theorem c54 (w : World) (s : ByteArray) (a2 : Option Addr) (l2 c2 : Nat) (a3 : Option Addr) (l3 c3 : Nat) (x4 : Int) (p : PropS) (h : PropAt w s a2 l2 a3 l3 x4 p)
    (a5 : Option Addr) (l5 c5 : Nat) (ls : List Dm) (hd : Doms w a5 l5 ls) (hvd : ∀ d ∈ ls, VD d) (hp : propB p ls.length = true) :
    Calls Try.prog 54 #[.agg #[.string s, .slice a2 l2 c2, .slice a3 l3 c3, .int .i64 x4], .slice a5 l5 c5] w fun en w' => ∃ a l c, en = .returned (.slice a l c) ∧ (Doms w' a l (keepS p ls) ∧ Ext w w') := by
  have hP := h
  have hl5 : l5 = ls.length := hd.1
  obtain ⟨hn, hall, hk⟩ : (0 ≤ (ls.length : Int) ∧ (ls.length : Int) ≤ 40) ∧ p.vars.all (fun x => decide (0 ≤ x ∧ x < (ls.length : Int))) = true ∧ kindB (kdOf p.kind) p.vars.length p.coefs.length p.coefs p.n = true := by
    simp only [propB, Bool.and_eq_true, decide_eq_true_eq] at hp; exact ⟨hp.1.1, hp.1.2, hp.2⟩
  have hvar : ∀ j (hj : j < p.vars.length), 0 ≤ p.vars[j] ∧ p.vars[j] < ls.length := fun j hj => by
    have := List.all_eq_true.1 hall _ (List.getElem_mem hj)
    simpa using this
  have hv40 : p.vars.length ≤ 40 := by
    cases hkd : kdOf p.kind <;> rw [hkd] at hk <;> simp [kindB] at hk <;> omega
  obtain ⟨rfl, hv2, _, rfl, _, _⟩ := h
  have hl2 : l2 = p.vars.length := hv2.1
  refine calls54 _ _ _ _ _ _ _ _ _ _ _ _ w ?_
  refine AllocK.mk fun b6 w7 hb6 hblk hx7 => ?_
  have hcell := fun (w' : World) (k : Ext w7 w') => cell4 (hblk.ext k)
  obtain ⟨a8, c8, w9, hrun, hout, hx9⟩ := copyDoms (c := c5) (hd.ext (RSl.mono RPair.mono) hx7) (by omega)
  refine ⟨a8, l5, c8, w9, hrun, ?_⟩
  simp only [add_mk, Nat.zero_add]
  have hsz7 := hx7.size
  refine ⟨fun q x w' => ∃ k : Nat, x = k ∧ k ≤ p.vars.length ∧ q = (p.vars.take k).any (fun x => decide (getL ls x = [])) ∧ w' = w9, fun _ x _ => p.vars.length - x.toNat, ⟨⟨0, rfl, by omega, rfl, rfl⟩, trivial⟩, ?_⟩
  rintro w12 q x ⟨k, hxk, hkk, hq, hw12⟩
  subst hxk; subst hw12
  refine ⟨_, _, _, (hcell _ hx9).2.1, BoolK.mk (fun hlt => ?_) (fun hge => ?_)⟩
  · have hlt : k < p.vars.length := by simp at hlt; omega
    have hr := hvar k hlt
    refine BoolK.mk (fun t => ?_) (fun t => ?_)
    · rw [wrap_succ (by omega)]
      exact ⟨⟨k + 1, rfl, by omega, by rw [any_take hlt, ← hq, t]; rfl, rfl⟩, by simp; omega⟩
    · have hxl : (p.vars[k]).toNat < ls.length := by omega
      obtain ⟨bv, ov, rfl, g0⟩ := intAt hv2 w12 (hx7.trans hx9) hlt
      obtain ⟨bl, ol, a20, l20, c20, rfl, g1, hdom⟩ := domsAt hd w12 (hx7.trans hx9) hxl
      have hdl := hdom.1
      have hgl : getL ls p.vars[k] = ls[(p.vars[k]).toNat] := getD_get hxl _
      refine ⟨_, _, _, (hcell _ hx9).2.1, by omega, ?_⟩
      simp only [AddrK, add_mk, Int.toNat_natCast, Nat.mul_one]
      refine ⟨_, g0, by omega, _, _, _, g1, ?_⟩
      rw [wrap_succ (by omega)]
      refine ⟨⟨k + 1, rfl, by omega, ?_, trivial⟩, by simp; omega⟩
      rw [any_take hlt, ← hq, t, Bool.false_or, hgl, hdl, Bool.eq_iff_iff, beq_iff_eq, decide_eq_true_eq, ← List.length_eq_zero_iff]; omega
  have : k = p.vars.length := by simp at hge; omega
  subst this
  rw [List.take_length] at hq
  have hhas : hasEmpty p ls = q := hq.symm
  clear hq hge hkk
  -- the sets, one after the other
  have hnz : 0 < ls.length → ∃ g, a8 = some ⟨g, 0, none⟩ ∧ w7.heap.size ≤ g ∧ g < w12.heap.size := fun h0 => by
    obtain ⟨g, _, ha, hg, hlt, _⟩ := hout.get (i := 0) h0
    exact ⟨g, ha, hg, hlt⟩
  refine ⟨fun x w' => ∃ j : Nat, x = j ∧ j ≤ p.vars.length ∧ DomsO w7.heap.size w' a8 l5 c8 (if q then emptied p.vars ls j else stepsK (passP p ls) p.vars ls j) ∧ Ext w7 w', fun x _ => p.vars.length - x.toNat,
    ⟨⟨0, rfl, by omega, by cases q <;> exact hout, hx9⟩, trivial⟩, ?_⟩
  rintro w23 x24 ⟨j, hxj, hj, ho, hx23⟩
  subst hxj
  refine ⟨_, _, _, (hcell _ hx23).2.1, BoolK.mk (fun hlt => ?_) (fun hge => ?_)⟩
  · have hlt : j < p.vars.length := by simp at hlt; omega
    have hr := hvar j hlt
    have hpd : p.vars.getD j 0 = p.vars[j] := getD_get hlt _
    generalize hO : (if q then emptied p.vars ls j else stepsK (passP p ls) p.vars ls j) = O at ho
    have hOl : O.length = ls.length := by
      rw [← hO]; split
      · exact emptied_len _ _ _
      · exact stepsK_len _ _ _ _
    have hOv : ∀ d ∈ O, VD d := by
      rw [← hO]; split
      · exact emptied_vd _ hvd _
      · exact stepsK_vd _ _ hvd _
    have hxl : (p.vars[j]).toNat < O.length := by omega
    have hxw := hx7.trans hx23
    obtain ⟨bv, ov, rfl, g0⟩ := intAt hv2 w23 hxw hlt
    obtain ⟨g, ⟨a30, l30, c30⟩, hga, hgb, hglt, g1, hdom⟩ := ho.get hxl
    subst hga
    simp only at g1 hdom
    have hvdj := hOv _ (List.getElem_mem hxl)
    refine ⟨_, _, _, (hcell _ hx23).2.1, by omega, ?_⟩
    simp only [AddrK, add_mk, Int.toNat_natCast, Nat.mul_one, Nat.zero_add]
    refine ⟨_, g0, by omega, _, _, _, g1, (c83 w23 a30 l30 c30 _ hdom hvdj).mono ?_⟩
    rintro en w32 ⟨r31, rfl, hr31, hx32⟩
    refine ⟨_, rfl, zero71.alloc fun b34 w35 h34 s34 x35 => hr31.store s34 fun w36 s36 bt36 => ?_⟩
    have hx36 : Ext w23 w36 := bt36.below (hx32.trans x35) (by have := hx32.size; omega)
    have hb34 : w23.heap.size ≤ b34 := by have := hx32.size; omega
    generalize hD : O[(p.vars[j]).toNat] = D at hdom hvdj hr31 s36
    refine ⟨fun x w' => ∃ v : Nat, x = v ∧ v ≤ 1001 ∧ SetAt w' b34 (fun u => inD D u && (decide (v ≤ u) || (!q && passP p ls j u))) ∧ Grow b34 w36 w', fun x _ => 1001 - x.toNat,
      ⟨⟨0, rfl, by omega, s36.congr fun i _ => by simp, Grow.refl _ _⟩, trivial⟩, ?_⟩
    intro w39 x40 hI
    obtain ⟨v, hxv, hv, hs, hg39⟩ := hI
    subst hxv
    have hx39 : Ext w23 w39 := hg39.toExt hx36 hb34
    have hx39' := hx23.trans hx39
    rw [BoolK_iff]
    constructor
    · intro hltv
      have hltv : v < 1001 := by simp at hltv; omega
      have hcellv := hs.cell hltv
      simp only [decide_eq_true (Nat.le_refl v), Bool.true_or, Bool.and_true] at hcellv
      have step : ∀ (w' : World) (r : Bool), SetAt w' b34 (fun u => inD D u && (decide (v ≤ u) || (!q && passP p ls j u))) → Grow b34 w36 w' → r = (inD D v && (!q && passP p ls j v)) → SetK w' ⟨b34, v, none⟩ (.bool r) fun w2 =>
          (∃ v' : Nat, IntKind.wrap .i64 ((v : Int) + 1) = v' ∧ v' ≤ 1001 ∧ SetAt w2 b34 (fun u => inD D u && (decide (v' ≤ u) || (!q && passP p ls j u))) ∧ Grow b34 w36 w2) ∧ 1001 - (IntKind.wrap .i64 ((v : Int) + 1)).toNat < 1001 - (v : Int).toNat := fun w' r hs' hg' hr => by
        rw [wrap_succ (by omega)]
        refine hs'.set (g := fun u => inD D u && (decide (v + 1 ≤ u) || (!q && passP p ls j u))) hltv (fun u => ?_) fun w2 hs2 hb2 => ⟨⟨v + 1, rfl, by omega, hs2, hg'.but hb2⟩, by simp; omega⟩
        by_cases hu : u = v
        · subst hu; rw [if_pos rfl, hr, decide_eq_false (show ¬ u + 1 ≤ u by omega), Bool.false_or]
        · rw [if_neg hu, show decide (v + 1 ≤ u) = decide (v ≤ u) from decide_eq_decide.2 (by omega)]
      refine ⟨by omega, ?_⟩
      simp only [Int.toNat_natCast, add_mk, Nat.zero_add]
      refine ⟨_, hcellv, ?_⟩
      rw [BoolK_iff]
      constructor
      · intro t
        rw [BoolK_iff]
        constructor
        · intro t2
          have hq0 : q = false := by simpa using t2
          have hc := hcell _ hx39'
          refine ⟨_, hc.1, _, _, _, hc.2.1, _, _, _, hc.2.2.1, _, hc.2.2.2, ?_⟩
          have hV : VarsAt p ls := ⟨fun y hy => ⟨(hvar y hy).1, by have := hvar y hy; omega⟩, fun y hy => ⟨by rw [bs_at' hy]; exact VDs.at hvd _, fun e => by
            have : hasEmpty p ls = true := (hasEmpty_iff p ls).2 ⟨y, hy, by rw [← bs_at' hy]; exact e⟩
            rw [hhas, hq0] at this; cases this⟩⟩
          have hx7' := hx7.trans hx39'
          refine (c84 w39 _ _ _ _ _ _ _ _ p (hP.ext hx7') a5 l5 c5 ls (hd.ext (RSl.mono RPair.mono) hx7') hV hk hv40 j v hlt (by omega)).mono ?_
          rintro en w47 ⟨r, rfl, hr2, hx47⟩
          refine ⟨_, rfl, by omega, step w47 r (hs.ext hx47) (hg39.ext hx47) ?_⟩
          rw [t, hq0, hr2]; rfl
        · intro t2
          have hq1 : q = true := by simpa using t2
          exact ⟨by omega, step w39 false hs hg39 (by rw [hq1]; simp)⟩
      · intro t
        exact ⟨by omega, step w39 false hs hg39 (by rw [t]; rfl)⟩
    · intro hgev
      have : v = 1001 := by simp at hgev; omega
      subst this
      refine DrewK.mk fun w52 hx52 => ?_
      have hx52' := hx39.trans hx52
      have hx52w := hxw.trans hx52'
      obtain ⟨b', o', ha', g4⟩ := intAt hv2 w52 hx52w hlt
      simp at ha'; obtain ⟨rfl, rfl⟩ := ha'
      refine ⟨_, _, _, (hcell _ (hx23.trans hx52')).2.1, by omega, ?_⟩
      simp only [add_mk]
      obtain ⟨r56, hr56, hrv⟩ := (hs.ext hx52).row
      refine ⟨_, g4, r56, hr56, (c66 w52 r56 _ hrv).mono ?_⟩
      rintro en w58 ⟨a57, l57, c57, rfl, ho57, hx58⟩
      have hx58' := hx52'.trans hx58
      refine ⟨_, _, _, rfl, hx58, by omega, ?_⟩
      refine (ho.ext RPair.mono hx58').set RPair.leaf (i := (p.vars[j]).toNat) hxl ho57.dom (ho57.apart (Nat.lt_of_lt_of_le hglt hx52'.size)) fun w61 ho61 hbut => ?_
      rw [wrap_succ (by omega)]
      refine ⟨⟨j + 1, rfl, by omega, ?_, hbut.below (hx23.trans hx58') hgb⟩, by simp; omega⟩
      have hset : (if q then emptied p.vars ls (j + 1) else stepsK (passP p ls) p.vars ls (j + 1)) = O.set (p.vars[j]).toNat (rngs (fun u => inD D u && (decide (1001 ≤ u) || (!q && passP p ls j u))) 1001) := by
        cases hqq : q with
        | true =>
          rw [hqq] at hO
          simp only [if_true] at hO ⊢
          rw [emptied, hpd, hO, rngs_none (fun u hu => by rw [decide_eq_false (by omega)]; simp)]
        | false =>
          rw [hqq] at hO
          simp only [Bool.false_eq_true, if_false] at hO ⊢
          rw [stepsK, hpd, hO, show getL O p.vars[j] = D from (getD_get hxl _).trans hD]
          have e : rngs (fun u => inD D u && (decide (1001 ≤ u) || (!false && passP p ls j u))) 1001 = rngs (fun v => inD D v && passP p ls j v) 1001 := rngs_congr fun u hu => by
            rw [decide_eq_false (show ¬ 1001 ≤ u by omega)]; rfl
          rw [e]
      rw [hset]; exact ho61
  · have : j = p.vars.length := by simp at hge; omega
    subst this
    refine ⟨?_, hx7.trans hx23⟩
    rw [keepS, hhas]
    exact ho.doms
end Go.Proofs.Ytggfnakhmjkoeaa

namespace Go.Proofs.Ytggfnakhmjkoeaa
open Go Go.V Go.Proofs
open Go.RowKit (Below)
/-! manystrand/manystrandlaw06.light -/
def N11 (a1 : Option Addr) (l1 : Nat) (_c1 : Nat) (a2 : Option Addr) (l2 : Nat) (_c2 : Nat) (K : Bool → World → Prop) (w : World) : Prop :=
  BoolK (decide (((l1 : Nat) : Int) > 50))
  (K false w)
  (BoolK (decide (((l2 : Nat) : Int) > 110))
    (K false w)
    (∃ (I3 : Int → World → Prop) (μ4 : Int → World → Nat),
      (I3 0 w ∧ True) ∧
      ∀ (w5 : World) (x6 : Int), I3 x6 w5 →
      BoolK (decide ((x6 : Int) < (l1 : Nat)))
      ((0 ≤ (x6 : Int) ∧ (x6 : Int) < (l1 : Nat)) ∧
        AddrK a1 fun b7 =>
        ∃ (a8 : Option Addr) (l8 : Nat) (c8 : Nat), w5.cell? (b7.add ((x6 : Int).toNat * 1)) = some (.slice a8 l8 c8) ∧
        (BoolK (decide (((l8 : Nat) : Int) > 600))
          (K false w5)
          (I3 (IntKind.wrap .i64 (x6 + 1)) w5 ∧ μ4 (IntKind.wrap .i64 (x6 + 1)) w5 < μ4 x6 w5)))
      (∃ (I9 : Int → World → Prop) (μ10 : Int → World → Nat),
        (I9 0 w5 ∧ True) ∧
        ∀ (w11 : World) (x12 : Int), I9 x12 w11 →
        BoolK (decide ((x12 : Int) < (l2 : Nat)))
        ((0 ≤ (x12 : Int) ∧ (x12 : Int) < (l2 : Nat)) ∧
          AddrK a2 fun b13 =>
          ∃ (s14 : ByteArray), w11.cell? ((b13.add ((x12 : Int).toNat * 4)).add 0) = some (.string s14) ∧
          (∃ (a15 : Option Addr) (l15 : Nat) (c15 : Nat), w11.cell? ((b13.add ((x12 : Int).toNat * 4)).add 1) = some (.slice a15 l15 c15) ∧
            (∃ (a16 : Option Addr) (l16 : Nat) (c16 : Nat), w11.cell? ((b13.add ((x12 : Int).toNat * 4)).add 2) = some (.slice a16 l16 c16) ∧
              (∃ (x17 : Int), w11.cell? ((b13.add ((x12 : Int).toNat * 4)).add 3) = some (.int .i64 x17) ∧
                (AllocK w11 (#[.string ⟨#[]⟩, .slice none 0 0, .slice none 0 0, .int .i64 0]) 24 fun b18 w19 =>
                  SetK w19 (b18.add 0) (.string s14) fun w20 =>
                  SetK w20 (b18.add 1) (.slice a15 l15 c15) fun w21 =>
                  SetK w21 (b18.add 2) (.slice a16 l16 c16) fun w22 =>
                  SetK w22 (b18.add 3) (.int .i64 x17) fun w23 =>
                  ∃ (a24 : Option Addr) (l24 : Nat) (c24 : Nat), w23.cell? (b18.add 1) = some (.slice a24 l24 c24) ∧
                  (BoolK (decide (((l24 : Nat) : Int) > 50))
                    (K false w23)
                    (∃ (a25 : Option Addr) (l25 : Nat) (c25 : Nat), w23.cell? (b18.add 2) = some (.slice a25 l25 c25) ∧
                      (BoolK (decide (((l25 : Nat) : Int) > 50))
                        (K false w23)
                        (∃ (s26 : ByteArray), w23.cell? b18 = some (.string s26) ∧
                          (BoolK (decide (((s26.size : Nat) : Int) > 100))
                            (K false w23)
                            (I9 (IntKind.wrap .i64 (x12 + 1)) w23 ∧ μ10 (IntKind.wrap .i64 (x12 + 1)) w23 < μ10 x12 w11)))))))))))
        (K true w11))))
def ann11 : Ann := (.two .nil (.two (.two .nil (.two (.two .nil .nil) .nil)) (.two (.two .nil (.one (.loop [(19, (.one (.int .i64)))] [1, 17, 18] (.two .nil (.two (.two .nil .nil) (.two (.one (.two .nil (.two .nil (.two (.two .nil .nil) .nil)))) .nil)))))) (.two (.two .nil (.one (.loop [(29, (.one (.int .i64)))] [27, 28] (.two .nil (.two (.two .nil .nil) (.two (.one (.two .nil (.two .nil (.two (.two .nil .nil) .nil)))) .nil)))))) (.two .nil .nil)))))
noncomputable def code11 : Code := match Try.f11.body with | some c => c | none => .skip
theorem wp11 (a1 : Option Addr) (l1 : Nat) (c1 : Nat) (a2 : Option Addr) (l2 : Nat) (c2 : Nat) (K : Bool → World → Prop) (w : World) : WP Try.prog tab code11 ann11 (fnQ tab Try.f11.results.toList [(.one .bool)] K) (argE 0 [(.slice a1 l1 c1), (.slice a2 l2 c2)]) w = N11 a1 l1 c1 a2 l2 c2 K w := by kernel_rfl
theorem calls11 (a1 : Option Addr) (l1 : Nat) (c1 : Nat) (a2 : Option Addr) (l2 : Nat) (c2 : Nat) (K : Bool → World → Prop) (w : World) (h : N11 a1 l1 c1 a2 l2 c2 K w) : Calls Try.prog 11 #[(.slice a1 l1 c1), (.slice a2 l2 c2)] w fun en w' => ∃ (p27 : Bool), en = .returned (.bool p27) ∧ K p27 w' :=
  have e : (fun en w' => ExShs [(.one .bool)] fun vs => en = .returned (tupled vs) ∧ ap [(.one .bool)] K vs fun p => p w') = (fun (en : Ending) (w' : World) => ∃ (p27 : Bool), en = .returned (.bool p27) ∧ K p27 w') := by kernel_rfl
  e ▸ fn_sound tabOk mixed Try.func11 (by kernel_rfl : Try.f11.body = some code11) ann11 [(.slice a1 l1 c1), (.slice a2 l2 c2)] [(.one .bool)] K w (by kernel_rfl) ((wp11 a1 l1 c1 a2 l2 c2 K w).symm ▸ h)
end Go.Proofs.Ytggfnakhmjkoeaa

namespace Go.Proofs.Ytggfnakhmjkoeaa
open Go Go.V Go.Proofs
open Go.RowKit (Below)
/-! manystrand/manystrandlaw06.few -/
def N18 (a1 : Option Addr) (l1 : Nat) (c1 : Nat) (a2 : Option Addr) (l2 : Nat) (c2 : Nat) (K : Bool → World → Prop) (w : World) : Prop :=
  ∃ (I3 : Int → Int → World → Prop) (μ4 : Int → Int → World → Nat),
  (I3 0 0 w ∧ True) ∧
  ∀ (w5 : World) (x6 : Int) (x7 : Int), I3 x6 x7 w5 →
  BoolK (decide ((x7 : Int) < (l1 : Nat)))
  ((0 ≤ (x7 : Int) ∧ (x7 : Int) < (l1 : Nat)) ∧
    AddrK a1 fun b8 =>
    ∃ (a9 : Option Addr) (l9 : Nat) (c9 : Nat), w5.cell? (b8.add ((x7 : Int).toNat * 1)) = some (.slice a9 l9 c9) ∧
    (Calls Try.prog 40 #[(.slice a9 l9 c9)] w5 fun e12 w11 =>
      ∃ (x10 : Int), e12 = .returned (.int .i64 x10) ∧
      (I3 (IntKind.wrap .i64 (x6 + x10)) (IntKind.wrap .i64 (x7 + 1)) w11 ∧ μ4 (IntKind.wrap .i64 (x6 + x10)) (IntKind.wrap .i64 (x7 + 1)) w11 < μ4 x6 x7 w5)))
  (∃ (I13 : Int → Int → World → Prop) (μ14 : Int → Int → World → Nat),
    (I13 0 0 w5 ∧ True) ∧
    ∀ (w15 : World) (x16 : Int) (x17 : Int), I13 x16 x17 w15 →
    BoolK (decide ((x17 : Int) < (l2 : Nat)))
    ((0 ≤ (x17 : Int) ∧ (x17 : Int) < (l2 : Nat)) ∧
      AddrK a2 fun b18 =>
      ∃ (s19 : ByteArray), w15.cell? ((b18.add ((x17 : Int).toNat * 4)).add 0) = some (.string s19) ∧
      (∃ (a20 : Option Addr) (l20 : Nat) (c20 : Nat), w15.cell? ((b18.add ((x17 : Int).toNat * 4)).add 1) = some (.slice a20 l20 c20) ∧
        (∃ (a21 : Option Addr) (l21 : Nat) (c21 : Nat), w15.cell? ((b18.add ((x17 : Int).toNat * 4)).add 2) = some (.slice a21 l21 c21) ∧
          (∃ (x22 : Int), w15.cell? ((b18.add ((x17 : Int).toNat * 4)).add 3) = some (.int .i64 x22) ∧
            (AllocK w15 (#[.string ⟨#[]⟩, .slice none 0 0, .slice none 0 0, .int .i64 0]) 24 fun b23 w24 =>
              SetK w24 (b23.add 0) (.string s19) fun w25 =>
              SetK w25 (b23.add 1) (.slice a20 l20 c20) fun w26 =>
              SetK w26 (b23.add 2) (.slice a21 l21 c21) fun w27 =>
              SetK w27 (b23.add 3) (.int .i64 x22) fun w28 =>
              ∃ (a29 : Option Addr) (l29 : Nat) (c29 : Nat), w28.cell? (b23.add 1) = some (.slice a29 l29 c29) ∧
              (I13 (IntKind.wrap .i64 (x16 + (l29 : Nat))) (IntKind.wrap .i64 (x17 + 1)) w28 ∧ μ14 (IntKind.wrap .i64 (x16 + (l29 : Nat))) (IntKind.wrap .i64 (x17 + 1)) w28 < μ14 x16 x17 w15))))))
    (Calls Try.prog 11 #[(.slice a1 l1 c1), (.slice a2 l2 c2)] w15 fun e32 w31 =>
      ∃ (p30 : Bool), e32 = .returned (.bool p30) ∧
      (BoolK p30
        (BoolK (decide ((x6 : Int) ≤ 3100))
          (BoolK (decide ((x16 : Int) ≤ 40))
            (K (decide ((IntKind.wrap .i64 (x6 * x16) : Int) ≤ 16000)) w31)
            (K false w31))
          (K false w31))
        (K false w31))))
def ann18 : Ann := (.two .nil (.two .nil (.two (.two .nil (.one (.loop [(5, (.one (.int .i64))), (13, (.one (.int .i64)))] [0, 1, 6, 11, 12] (.two .nil (.two (.two .nil .nil) (.two (.one (.two .nil .nil)) .nil)))))) (.two (.two .nil (.one (.loop [(6, (.one (.int .i64))), (24, (.one (.int .i64)))] [0, 1, 5, 22, 23] (.two .nil (.two (.two .nil .nil) (.two (.one (.two .nil .nil)) .nil)))))) (.two .nil .nil)))))
noncomputable def code18 : Code := match Try.f18.body with | some c => c | none => .skip
theorem wp18 (a1 : Option Addr) (l1 : Nat) (c1 : Nat) (a2 : Option Addr) (l2 : Nat) (c2 : Nat) (K : Bool → World → Prop) (w : World) : WP Try.prog tab code18 ann18 (fnQ tab Try.f18.results.toList [(.one .bool)] K) (argE 0 [(.slice a1 l1 c1), (.slice a2 l2 c2)]) w = N18 a1 l1 c1 a2 l2 c2 K w := by kernel_rfl
theorem calls18 (a1 : Option Addr) (l1 : Nat) (c1 : Nat) (a2 : Option Addr) (l2 : Nat) (c2 : Nat) (K : Bool → World → Prop) (w : World) (h : N18 a1 l1 c1 a2 l2 c2 K w) : Calls Try.prog 18 #[(.slice a1 l1 c1), (.slice a2 l2 c2)] w fun en w' => ∃ (p33 : Bool), en = .returned (.bool p33) ∧ K p33 w' :=
  have e : (fun en w' => ExShs [(.one .bool)] fun vs => en = .returned (tupled vs) ∧ ap [(.one .bool)] K vs fun p => p w') = (fun (en : Ending) (w' : World) => ∃ (p33 : Bool), en = .returned (.bool p33) ∧ K p33 w') := by kernel_rfl
  e ▸ fn_sound tabOk mixed Try.func18 (by kernel_rfl : Try.f18.body = some code18) ann18 [(.slice a1 l1 c1), (.slice a2 l2 c2)] [(.one .bool)] K w (by kernel_rfl) ((wp18 a1 l1 c1 a2 l2 c2 K w).symm ▸ h)
end Go.Proofs.Ytggfnakhmjkoeaa
