/- A part of the proof: plain forms of functions and laws about them. -/
import Derived.Test.YtbiamhoonhjodabGreatDoorGrorBr
import Derived.Test.YtbiamhoonhjodabGreatDoorProg
import Derived.Shelf.Strings.Count
import Derived.KernelRfl
import Derived.Recover
import Derived.WalkKit
import Derived.Deep.Slices
import Derived.OpenShut
import Derived.Lib.SmallJoins
import Derived.SizedLaws
namespace Go.Proofs.YtbiamhoonhjodabGreatDoor
open Go Go.Proofs
def countLay_ren : Go.Shelf.Ren := ⟨fun | 138 => 63 | 195 => 108 | 218 => 109 | 143 => 65 | 219 => 112 | 217 => 137 | 225 => 138 | 224 => 139 | 267 => 140 | 266 => 162 | 314 => 163 | n => n, fun | 9 => 9 | 3 => 3 | 4 => 4 | 5 => 5 | 0 => 0 | 46 => 95 | 146 => 194 | 51 => 131 | n => n, fun | 1 => 0 | n => n⟩
theorem countLay : Lays.n138 Tryz.prog countLay_ren where
  mixed := by kernel_rfl
  f138 := Tryz.func63.trans (congrArg some (by kernel_rfl))
  f143 := Tryz.func65.trans (congrArg some (by kernel_rfl))
  f195 := Tryz.func108.trans (congrArg some (by kernel_rfl))
  f217 := Tryz.func137.trans (congrArg some (by kernel_rfl))
  f218 := Tryz.func109.trans (congrArg some (by kernel_rfl))
  f219 := Tryz.func112.trans (congrArg some (by kernel_rfl))
  f224 := Tryz.func139.trans (congrArg some (by kernel_rfl))
  f225 := Tryz.func138.trans (congrArg some (by kernel_rfl))
  f266 := Tryz.func162.trans (congrArg some (by kernel_rfl))
  f267 := Tryz.func140.trans (congrArg some (by kernel_rfl))
  f314 := Tryz.func163.trans (congrArg some (by kernel_rfl))
  t0 := Tryz.underlying0
  a0 := Tryz.isAgg0
  z0 := Tryz.sizeOf0
  v0 := Tryz.zeroValue0
  t3 := Tryz.underlying3
  a3 := Tryz.isAgg3
  z3 := Tryz.sizeOf3
  v3 := Tryz.zeroValue3
  t4 := Tryz.underlying4
  a4 := Tryz.isAgg4
  z4 := Tryz.sizeOf4
  v4 := Tryz.zeroValue4
  t5 := Tryz.underlying5
  a5 := Tryz.isAgg5
  z5 := Tryz.sizeOf5
  v5 := Tryz.zeroValue5
  t9 := Tryz.underlying9
  a9 := Tryz.isAgg9
  z9 := Tryz.sizeOf9
  v9 := Tryz.zeroValue9
  t46 := Tryz.underlying95
  a46 := Tryz.isAgg95
  z46 := Tryz.sizeOf95
  v46 := Tryz.zeroValue95
  t51 := Tryz.underlying131
  a51 := Tryz.isAgg131
  z51 := Tryz.sizeOf131
  v51 := Tryz.zeroValue131
  t146 := Tryz.underlying194
  a146 := Tryz.isAgg194
  z146 := Tryz.sizeOf194
  v146 := Tryz.zeroValue194
  g1 := by kernel_rfl
end Go.Proofs.YtbiamhoonhjodabGreatDoor

namespace Go.Proofs.YtbiamhoonhjodabGreatDoor
open Go Go.V Go.Proofs
open Go.RowKit (Below)
theorem idle_one (P : Program) (id : Nat) (ops : Array Oper) {Q : Exit → Act → List Frame → World → Prop} {a a' : Act} {c₀ : Frame} {cs : List Frame} {w : World} (h : ∀ Q : Exit → Act → List Frame → World → Prop, Q .normal a' (c₀ :: cs) w → wpOpsS P ops Q (List.range ops.size) a (c₀ :: cs) w) {y : Code}
    (k : y.wpS P Q a' (c₀ :: cs) w) : (Code.seq (.region id ops false) y).wpS P Q a (c₀ :: cs) w :=
  wpS_seq (wpS_region (h _ k))
def tms (p q : Addr) (a b c d : Value) : Array Value := #[.pointer (some p), .pointer (some q), a, undef, undef, b, c, d, undef, undef, undef, undef, undef, undef, undef, undef, undef]
theorem parse_idle (p q : Addr) (w : World) :
    CallsD Tryz.prog 17 #[.pointer (some p), .pointer (some q)] .returning w fun e u' w' => e = .returned (.tuple #[]) ∧ u' = .returning ∧ w' = w := by
  refine callsD_of_wpS Tryz.func17 rfl fun c₀ cs hu => ?_
  rw [Tryz.ntmps17]
  have e0 : (#[Value.pointer (some p), .pointer (some q)] ++ Array.replicate (17 - 2) undef : Array Value) = tms p q undef undef undef undef := by
    apply Array.ext'; simp [tms, List.replicate]
  change Code.wpS _ _ _ ({ tmps := #[Value.pointer (some p), .pointer (some q)] ++ Array.replicate (17 - 2) undef, defers := [] } : Act) _ _
  rw [e0]
  refine idle_one _ _ _ (a' := { tmps := tms p q .nilIface .nilIface undef undef, defers := [] }) (fun Q hQ => ?_) ?_
  · simp [wpOpsS, go_sem, recoverD, hu, tms] at hQ ⊢
    exact hQ
  refine idle_one _ _ _ (a' := { tmps := tms p q .nilIface .nilIface .nilIface (.bool false), defers := [] }) (fun Q hQ => ?_) ?_
  · simp [wpOpsS, go_sem, tms] at hQ ⊢
    exact hQ
  refine wpS_cond (t := false) rfl ?_
  simp only [Bool.false_eq_true, if_false]
  refine wpS_of_wp (wp_skip ?_)
  refine ⟨rfl, .returning, by cases c₀; simp at hu; subst hu; rfl, .tuple #[], ?_, rfl, rfl, rfl⟩
  simp [results, Tryz.results17]
def knD (g : FuncId) (us : List Value) (m : AMem) : Option (Value × AMem) :=
  match us with
  | [.pointer (some _), .pointer (some _)] => match Nat.beq g 17 with | true => some (.tuple #[], m) | false => none
  | _ => none
def knC (g : FuncId) (us : List Value) (m : AMem) : Option (Value × AMem) :=
  match us with
  | [.string s, .string ⟨⟨[c]⟩⟩] => match Nat.beq g 63 with | true => some (.int .i64 (Lib.countByte s.data.toList c), m) | false => none
  | _ => none
def knP : Bool → FuncId → List Value → AMem → Option (Value × AMem)
  | false => knC
  | true => knD
theorem knC_ok {w0 : World} : CallOk Tryz.prog w0 knC := fun g us m u m' h => by
  unfold knC at h
  split at h
  · rename_i s c
    split at h
    · rename_i hg
      have hg := Nat.eq_of_beq_eq_true hg
      subst hg
      cases h
      refine ⟨Tryz.call63, fun ρ vs w r hm => ?_⟩
      obtain ⟨v1, vs1, rfl, r1, r2⟩ := r.inv_cons
      obtain ⟨v2, vs2, rfl, r3, r4⟩ := r2.inv_cons
      have : vs2 = [] := by have := r4.len; exact List.length_eq_zero_iff.1 this.symm
      subst this
      cases r1; cases r3
      refine Calls.mono (Any.strings_Count_one countLay s c w) ?_
      rintro en w' ⟨rfl, rfl⟩
      exact ⟨ρ, _, Ev.refl hm, VR.int _ _, rfl⟩
    · cases h
  · cases h
theorem knD_ok {w0 : World} : CallOkR Tryz.prog w0 knD := fun g us m u m' h => by
  unfold knD at h
  split at h
  · split at h
    · rename_i hg
      have hg := Nat.eq_of_beq_eq_true hg
      subst hg
      cases h
      refine ⟨Tryz.call17, fun ρ vs w r hm => ?_⟩
      obtain ⟨v1, vs1, rfl, r1, r2⟩ := r.inv_cons
      obtain ⟨v2, vs2, rfl, r3, r4⟩ := r2.inv_cons
      have : vs2 = [] := by have := r4.len; exact List.length_eq_zero_iff.1 this.symm
      subst this
      cases r1; cases r3
      refine CallsD.mono (parse_idle _ _ w) ?_
      rintro en um' w' ⟨rfl, rfl, rfl⟩
      exact ⟨rfl, ρ, .tuple #[], Ev.refl hm, VR.tupleL .nil, rfl⟩
    · cases h
  · cases h
end Go.Proofs.YtbiamhoonhjodabGreatDoor

namespace Go.Proofs.YtbiamhoonhjodabGreatDoor
open Go Go.V Go.Proofs
open Go.RowKit (Below)
theorem awake_ev : okB (callN Tryz.prog etab efns knP 100000 200 false 5 [] emptyM) = true := by kernel_rfl
theorem awake_calls (w : World) : Calls Tryz.prog 5 #[] w fun en w' => en = .returned (.bool true) ∧ Below w.heap.size w w' :=
  true_of_okB (callE := fun _ => callN Tryz.prog etab efns knP 100000 200 false) (fun _ => (callN_ok etabOk emixed efnsOk knC_ok knD_ok 100000 200).1) (fun _ => awake_ev) (fun _ => .nil) w
end Go.Proofs.YtbiamhoonhjodabGreatDoor

namespace Go.Proofs.YtbiamhoonhjodabGreatDoor
open Go Go.V Go.Proofs
open Go.RowKit (Below)
theorem awakeK {w0 w : World} (x : Ext w0 w) : Calls Tryz.prog 5 #[] w fun e w2 => ∃ p, e = .returned (.bool p) ∧ (p = true ∧ Ext w0 w2) := by
  refine (awake_calls w).mono ?_
  rintro e w2 ⟨rfl, h⟩
  exact ⟨_, rfl, rfl, x.trans h⟩
end Go.Proofs.YtbiamhoonhjodabGreatDoor

namespace Go.Proofs.YtbiamhoonhjodabGreatDoor
open Go Go.V Go.Proofs
open Go.RowKit (Below)
/-! manystrand/manystrandlaw05.GraphOrder -/
def N3 (x1 : Int) (a2 : Option Addr) (l2 : Nat) (c2 : Nat) (x3 : Int) (a4 : Option Addr) (l4 : Nat) (c4 : Nat) (x5 : Int) (a6 : Option Addr) (l6 : Nat) (c6 : Nat) (K : Bool → World → Prop) (w : World) : Prop :=
 AllocK w (#[(.int .i64 x1), (.slice a2 l2 c2)]) 24 fun b7 w8 =>
 AllocK w8 (#[(.int .i64 x3), (.slice a4 l4 c4)]) 24 fun b9 w10 =>
 AllocK w10 (#[(.int .i64 x5), (.slice a6 l6 c6)]) 24 fun b11 w12 =>
 ∃ (J13 : Bool → World → Prop),
 (∀ (w14 : World) (p15 : Bool), J13 p15 w14 →
 BoolK p15
 (Calls Tryz.prog 5 #[] w14 fun e18 w17 =>
 ∃ (p16 : Bool), e18 = .returned (.bool p16) ∧
 (K p16 w17))
 (∃ (x19 : Int), w14.cell? (b7.add 0) = some (.int .i64 x19) ∧
 (∃ (a20 : Option Addr) (l20 : Nat) (c20 : Nat), w14.cell? (b7.add 1) = some (.slice a20 l20 c20) ∧
 (∃ (x21 : Int), w14.cell? (b9.add 0) = some (.int .i64 x21) ∧
 (∃ (a22 : Option Addr) (l22 : Nat) (c22 : Nat), w14.cell? (b9.add 1) = some (.slice a22 l22 c22) ∧
 (Calls Tryz.prog 6 #[(.agg #[(.int .i64 x19), (.slice a20 l20 c20)]), (.agg #[(.int .i64 x21), (.slice a22 l22 c22)])] w14 fun e26 w25 =>
 ∃ (x23 : Int), ∃ (x24 : Int), e26 = .returned (.tuple #[(.int .i64 x23), (.int .i64 x24)]) ∧
 (∃ (x27 : Int), w25.cell? (b9.add 0) = some (.int .i64 x27) ∧
 (∃ (a28 : Option Addr) (l28 : Nat) (c28 : Nat), w25.cell? (b9.add 1) = some (.slice a28 l28 c28) ∧
 (∃ (x29 : Int), w25.cell? (b11.add 0) = some (.int .i64 x29) ∧
 (∃ (a30 : Option Addr) (l30 : Nat) (c30 : Nat), w25.cell? (b11.add 1) = some (.slice a30 l30 c30) ∧
 (Calls Tryz.prog 6 #[(.agg #[(.int .i64 x27), (.slice a28 l28 c28)]), (.agg #[(.int .i64 x29), (.slice a30 l30 c30)])] w25 fun e34 w33 =>
 ∃ (x31 : Int), ∃ (x32 : Int), e34 = .returned (.tuple #[(.int .i64 x31), (.int .i64 x32)]) ∧
 (∃ (x35 : Int), w33.cell? (b7.add 0) = some (.int .i64 x35) ∧
 (∃ (a36 : Option Addr) (l36 : Nat) (c36 : Nat), w33.cell? (b7.add 1) = some (.slice a36 l36 c36) ∧
 (∃ (x37 : Int), w33.cell? (b11.add 0) = some (.int .i64 x37) ∧
 (∃ (a38 : Option Addr) (l38 : Nat) (c38 : Nat), w33.cell? (b11.add 1) = some (.slice a38 l38 c38) ∧
 (Calls Tryz.prog 6 #[(.agg #[(.int .i64 x35), (.slice a36 l36 c36)]), (.agg #[(.int .i64 x37), (.slice a38 l38 c38)])] w33 fun e42 w41 =>
 ∃ (x39 : Int), ∃ (x40 : Int), e42 = .returned (.tuple #[(.int .i64 x39), (.int .i64 x40)]) ∧
 (∃ (J43 : Bool → World → Prop),
 (∀ (w44 : World) (p45 : Bool), J43 p45 w44 →
 BoolK p45
 (Calls Tryz.prog 5 #[] w44 fun e48 w47 =>
 ∃ (p46 : Bool), e48 = .returned (.bool p46) ∧
 (K p46 w47))
 (BoolK (decide ((x23 : Int) > 0))
 (Calls Tryz.prog 5 #[] w44 fun e51 w50 =>
 ∃ (p49 : Bool), e51 = .returned (.bool p49) ∧
 (K p49 w50))
 (BoolK (decide ((x31 : Int) > 0))
 (Calls Tryz.prog 5 #[] w44 fun e54 w53 =>
 ∃ (p52 : Bool), e54 = .returned (.bool p52) ∧
 (K p52 w53))
 (BoolK (decide ((x39 : Int) ≤ 0))
 (BoolK ((x23 : Int) == 0)
 (BoolK (((x31 : Int) == 0) == ((x39 : Int) == 0))
 (Calls Tryz.prog 5 #[] w44 fun e57 w56 =>
 ∃ (p55 : Bool), e57 = .returned (.bool p55) ∧
 (K p55 w56))
 (K false w44))
 (BoolK (false == ((x39 : Int) == 0))
 (Calls Tryz.prog 5 #[] w44 fun e60 w59 =>
 ∃ (p58 : Bool), e60 = .returned (.bool p58) ∧
 (K p58 w59))
 (K false w44)))
 (K false w44))))) ∧
 (BoolK ((x24 : Int) != 0)
 (J43 true w41)
 (BoolK ((x32 : Int) != 0)
 (J43 true w41)
 (J43 ((x40 : Int) != 0) w41)))))))))))))))))))) ∧
 (∃ (x61 : Int), w12.cell? (b7.add 0) = some (.int .i64 x61) ∧
 (∃ (a62 : Option Addr) (l62 : Nat) (c62 : Nat), w12.cell? (b7.add 1) = some (.slice a62 l62 c62) ∧
 (Calls Tryz.prog 4 #[(.agg #[(.int .i64 x61), (.slice a62 l62 c62)])] w12 fun e65 w64 =>
 ∃ (p63 : Bool), e65 = .returned (.bool p63) ∧
 (BoolK (!p63)
 (J13 true w64)
 (∃ (x66 : Int), w64.cell? (b9.add 0) = some (.int .i64 x66) ∧
 (∃ (a67 : Option Addr) (l67 : Nat) (c67 : Nat), w64.cell? (b9.add 1) = some (.slice a67 l67 c67) ∧
 (Calls Tryz.prog 4 #[(.agg #[(.int .i64 x66), (.slice a67 l67 c67)])] w64 fun e70 w69 =>
 ∃ (p68 : Bool), e70 = .returned (.bool p68) ∧
 (BoolK (!p68)
 (J13 true w69)
 (∃ (x71 : Int), w69.cell? (b11.add 0) = some (.int .i64 x71) ∧
 (∃ (a72 : Option Addr) (l72 : Nat) (c72 : Nat), w69.cell? (b11.add 1) = some (.slice a72 l72 c72) ∧
 (Calls Tryz.prog 4 #[(.agg #[(.int .i64 x71), (.slice a72 l72 c72)])] w69 fun e75 w74 =>
 ∃ (p73 : Bool), e75 = .returned (.bool p73) ∧
 (BoolK (!p73)
 (J13 true w74)
 (∃ (a76 : Option Addr) (l76 : Nat) (c76 : Nat), w74.cell? (b7.add 1) = some (.slice a76 l76 c76) ∧
 (∃ (a77 : Option Addr) (l77 : Nat) (c77 : Nat), w74.cell? (b9.add 1) = some (.slice a77 l77 c77) ∧
 (∃ (a78 : Option Addr) (l78 : Nat) (c78 : Nat), w74.cell? (b11.add 1) = some (.slice a78 l78 c78) ∧
 (J13 (decide ((IntKind.wrap .i64 ((IntKind.wrap .i64 ((l76 : Nat) + (l77 : Nat))) + (l78 : Nat)) : Int) > 400)) w74))))))))))))))))
def ann3 : Ann := (.two .nil (.two (.cut [(39, (.one .bool))] [3, 4, 5] .nil (.two (.two .nil .nil) .nil)) (.two .nil (.two .nil (.two .nil (.two (.cut [(68, (.one .bool))] [7, 9, 11] .nil (.two (.two .nil .nil) .nil)) (.two .nil .nil)))))))
noncomputable def code3 : Code := match Tryz.f3.body with | some c => c | none => .skip
theorem wp3 (x1 : Int) (a2 : Option Addr) (l2 : Nat) (c2 : Nat) (x3 : Int) (a4 : Option Addr) (l4 : Nat) (c4 : Nat) (x5 : Int) (a6 : Option Addr) (l6 : Nat) (c6 : Nat) (K : Bool → World → Prop) (w : World) : WP Tryz.prog tab code3 ann3 (fnQ tab Tryz.f3.results.toList [(.one .bool)] K) (argE 0 [(.agg #[(.int .i64 x1), (.slice a2 l2 c2)]), (.agg #[(.int .i64 x3), (.slice a4 l4 c4)]), (.agg #[(.int .i64 x5), (.slice a6 l6 c6)])]) w = N3 x1 a2 l2 c2 x3 a4 l4 c4 x5 a6 l6 c6 K w := by kernel_rfl
theorem calls3 (x1 : Int) (a2 : Option Addr) (l2 : Nat) (c2 : Nat) (x3 : Int) (a4 : Option Addr) (l4 : Nat) (c4 : Nat) (x5 : Int) (a6 : Option Addr) (l6 : Nat) (c6 : Nat) (K : Bool → World → Prop) (w : World) (h : N3 x1 a2 l2 c2 x3 a4 l4 c4 x5 a6 l6 c6 K w) : Calls Tryz.prog 3 #[(.agg #[(.int .i64 x1), (.slice a2 l2 c2)]), (.agg #[(.int .i64 x3), (.slice a4 l4 c4)]), (.agg #[(.int .i64 x5), (.slice a6 l6 c6)])] w fun en w' => ∃ (p79 : Bool), en = .returned (.bool p79) ∧ K p79 w' :=
 have e : (fun en w' => ExShs [(.one .bool)] fun vs => en = .returned (tupled vs) ∧ ap [(.one .bool)] K vs fun p => p w') = (fun (en : Ending) (w' : World) => ∃ (p79 : Bool), en = .returned (.bool p79) ∧ K p79 w') := by kernel_rfl
 e ▸ fn_sound tabOk mixed Tryz.func3 (by kernel_rfl : Tryz.f3.body = some code3) ann3 [(.agg #[(.int .i64 x1), (.slice a2 l2 c2)]), (.agg #[(.int .i64 x3), (.slice a4 l4 c4)]), (.agg #[(.int .i64 x5), (.slice a6 l6 c6)])] [(.one .bool)] K w (by kernel_rfl) ((wp3 x1 a2 l2 c2 x3 a4 l4 c4 x5 a6 l6 c6 K w).symm ▸ h)
end Go.Proofs.YtbiamhoonhjodabGreatDoor

namespace Go.Proofs.YtbiamhoonhjodabGreatDoor
open Go Go.V Go.Proofs Go.V.Gr
open Go.RowKit (Below)
set_option maxRecDepth 100000 in
theorem ctr3 (w : World) (r1 r2 r3 : Int) (xs ys zs : List Nd) {a1 a2 a3 : Option Addr} {l1 l2 l3 : Nat} (c1 c2 c3 : Nat) (h1 : RNds w a1 l1 xs) (h2 : RNds w a2 l2 ys) (h3 : RNds w a3 l3 zs) (z1 : Szd xs) (z2 : Szd ys) (z3 : Szd zs) (ht : Tb w) :
    Calls Tryz.prog 3 #[.agg #[.int .i64 r1, .slice a1 l1 c1], .agg #[.int .i64 r2, .slice a2 l2 c2], .agg #[.int .i64 r3, .slice a3 l3 c3]] w fun en w' => ∃ p, en = .returned (.bool p) ∧ (p = true ∧ Ext w w') := by
  refine calls3 _ _ _ _ _ _ _ _ _ _ _ _ _ w ?_
  refine AllocK.mk fun b7 w8 hb7 hB7 x8 => AllocK.mk fun b9 w10 hb9 hB9 x10 => AllocK.mk fun b11 w12 hb11 hB11 x12 => ?_
  have y12 := (x8.trans x10).trans x12
  have hB7 := (hB7.ext x10).ext x12
  have hB9 := hB9.ext x12
  obtain ⟨g0, g1, _⟩ := blkAt2 hB7
  refine ⟨fun p w' => Ext w12 w' ∧ (p = false → LightOk xs ∧ LightOk ys ∧ LightOk zs), ?_, ⟨_, g0, _, _, _, g1, (ctr4 w12 r1 xs c1 (RNds.at h1 y12) z1).mono ?_⟩⟩
  rotate_left
  · rintro en w64 ⟨p, rfl, hp1, x64⟩
    refine ⟨_, rfl, BoolK.mk (fun t => ⟨x64, fun e => by cases e⟩) (fun t => ?_)⟩
    have k1 := hp1 (by simpa using t)
    obtain ⟨g0, g1, _⟩ := blkAt2 (hB9.ext x64)
    refine ⟨_, g0, _, _, _, g1, (ctr4 w64 r2 ys c2 (RNds.at h2 (y12.trans x64)) z2).mono ?_⟩
    rintro en w69 ⟨p, rfl, hp2, x69⟩
    have x69 := x64.trans x69
    refine ⟨_, rfl, BoolK.mk (fun t => ⟨x69, fun e => by cases e⟩) (fun t => ?_)⟩
    have k2 := hp2 (by simpa using t)
    obtain ⟨g0, g1, _⟩ := blkAt2 (hB11.ext x69)
    refine ⟨_, g0, _, _, _, g1, (ctr4 w69 r3 zs c3 (RNds.at h3 (y12.trans x69)) z3).mono ?_⟩
    rintro en w74 ⟨p, rfl, hp3, x74⟩
    have x74 := x69.trans x74
    refine ⟨_, rfl, BoolK.mk (fun t => ⟨x74, fun e => by cases e⟩) (fun t => ?_)⟩
    have k3 := hp3 (by simpa using t)
    obtain ⟨_, g1, _⟩ := blkAt2 (hB7.ext x74)
    obtain ⟨_, g2, _⟩ := blkAt2 (hB9.ext x74)
    obtain ⟨_, g3, _⟩ := blkAt2 (hB11.ext x74)
    exact ⟨_, _, _, g1, _, _, _, g2, _, _, _, g3, x74, fun _ => ⟨k1, k2, k3⟩⟩
  rintro w14 p15 ⟨x14, hlight⟩
  have y14 := y12.trans x14
  refine BoolK.mk (fun _ => awakeK y14) (fun t9 => ?_)
  obtain ⟨k1, k2, k3⟩ := hlight t9
  clear hlight t9 p15
  obtain ⟨f0, f1, _⟩ := blkAt2 (hB7.ext x14)
  obtain ⟨g0, g1, _⟩ := blkAt2 (hB9.ext x14)
  refine ⟨_, f0, _, _, _, f1, _, g0, _, _, _, g1, (ctr6 w14 r1 r2 xs ys c1 c2 (RNds.at h1 y14) (RNds.at h2 y14) k1.lim k2.lim (ht.ext y14)).mono ?_⟩
  rintro en w25 ⟨x23, x24, rfl, x25, o1⟩
  have x25' := x14.trans x25
  have y25 := y12.trans x25'
  obtain ⟨f0, f1, _⟩ := blkAt2 (hB9.ext x25')
  obtain ⟨g0, g1, _⟩ := blkAt2 (hB11.ext x25')
  refine ⟨_, _, rfl, _, f0, _, _, _, f1, _, g0, _, _, _, g1, (ctr6 w25 r2 r3 ys zs c2 c3 (RNds.at h2 y25) (RNds.at h3 y25) k2.lim k3.lim (ht.ext y25)).mono ?_⟩
  rintro en w33 ⟨x31, x32, rfl, x33, o2⟩
  have x33' := x25'.trans x33
  have y33 := y12.trans x33'
  obtain ⟨f0, f1, _⟩ := blkAt2 (hB7.ext x33')
  obtain ⟨g0, g1, _⟩ := blkAt2 (hB11.ext x33')
  refine ⟨_, _, rfl, _, f0, _, _, _, f1, _, g0, _, _, _, g1, (ctr6 w33 r1 r3 xs zs c1 c3 (RNds.at h1 y33) (RNds.at h3 y33) k1.lim k3.lim (ht.ext y33)).mono ?_⟩
  rintro en w41 ⟨x39, x40, rfl, x41, o3⟩
  have y41 := y33.trans x41
  refine ⟨_, _, rfl, fun p w' => w' = w41 ∧ (p = false → x24 = 0 ∧ x32 = 0 ∧ x40 = 0), ?_, ?_⟩
  rotate_left
  · refine BoolK.mk (fun _ => ⟨rfl, fun e => by cases e⟩) (fun t => BoolK.mk (fun _ => ⟨rfl, fun e => by cases e⟩) (fun t2 => ⟨rfl, fun e => ?_⟩))
    exact ⟨by simpa using t, by simpa using t2, by simpa using e⟩
  rintro w44 p45 ⟨rfl, hok⟩
  have aw : Calls Tryz.prog 5 #[] w44 fun e w2 => ∃ p, e = .returned (.bool p) ∧ (p = true ∧ Ext w w2) := awakeK y41
  refine BoolK.mk (fun _ => aw) (fun tp => ?_)
  obtain ⟨e1, e2, e3⟩ := hok tp
  rcases o1 with ⟨ok1, ok2, _, rfl⟩ | ⟨_, e, _⟩
  rotate_left
  · omega
  rcases o2 with ⟨_, ok3, _, rfl⟩ | ⟨_, e, _⟩
  rotate_left
  · omega
  rcases o3 with ⟨_, _, _, rfl⟩ | ⟨_, e, _⟩
  rotate_left
  · omega
  have T : Tri (cGr xs ys r1.toNat r2.toNat) (cGr ys zs r2.toNat r3.toNat) (cGr xs zs r1.toNat r3.toNat) := by
    have v1 := ok1.vl; have v2 := ok2.vl; have v3 := ok3.vl
    have d1 := cG_deep hdC v1 v2 ok1.lt ok2.lt (deep_two ok1.closed ok2.closed ok1.lt ok2.lt (Nat.le_refl _)) zs.length
    have d2 := cG_deep hdC v2 v3 ok2.lt ok3.lt (deep_two ok2.closed ok3.closed ok2.lt ok3.lt (Nat.le_refl _)) xs.length
    have d3 := cG_deep hdC v1 v3 ok1.lt ok3.lt (deep_two ok1.closed ok3.closed ok1.lt ok3.lt (Nat.le_refl _)) ys.length
    rw [show ys.length + zs.length + xs.length = xs.length + ys.length + zs.length by omega] at d2
    rw [show xs.length + zs.length + ys.length = xs.length + ys.length + zs.length by omega] at d3
    have := cG_tri hdC v1 v2 v3 (N := xs.length + ys.length + zs.length) ok1.lt ok2.lt ok3.lt
    rw [d1, d2, d3] at this
    exact this
  generalize cGr xs ys r1.toNat r2.toNat = u at T
  generalize cGr ys zs r2.toNat r3.toNat = v at T
  generalize cGr xs zs r1.toNat r3.toNat = x at T
  obtain ⟨T1, T2⟩ := T
  refine BoolK.mk (fun _ => aw) (fun t1 => BoolK.mk (fun _ => aw) (fun t2 => ?_))
  have t1 := of_decide_eq_false t1
  have t2 := of_decide_eq_false t2
  have hx : x ≤ 0 := by
    by_cases hu : u = 0
    · by_cases hv : v = 0
      · have := T1 hu hv; omega
      · have := T2 (by omega) (by omega) (.inr (by omega)); omega
    · have := T2 (by omega) (by omega) (.inl (by omega)); omega
  refine BoolK.mk (fun _ => ?_) (fun t3 => by have := of_decide_eq_false t3; omega)
  refine BoolK.mk (fun t4 => BoolK.mk (fun _ => aw) (fun t5 => ?_)) (fun t4 => BoolK.mk (fun _ => aw) (fun t5 => ?_))
  · have hu : u = 0 := by simpa using t4
    exfalso
    by_cases hv : v = 0
    · have hx0 := T1 hu hv
      rw [hv, hx0] at t5; simp at t5
    · have hx0 := T2 (by omega) (by omega) (.inr (by omega))
      have a1 : (v == 0) = false := by simpa using hv
      have a2 : (x == 0) = false := by simp; omega
      rw [a1, a2] at t5; simp at t5
  · have hu : u ≠ 0 := by simpa using t4
    exfalso
    have hx0 := T2 (by omega) (by omega) (.inl (by omega))
    have a2 : (x == 0) = false := by simp; omega
    rw [a2] at t5; simp at t5
end Go.Proofs.YtbiamhoonhjodabGreatDoor

namespace Go.V
open Go.RowKit (Below)
def Rd {H : Type} (enc : TypeId × Value → H) (P : Program) (w : World) (t : TypeId) (cs : List Value) : Prop :=
  ∃ fuel x, DataW.trod enc P w 0 (fun _ => true) true fuel t cs = some x
section
variable {H : Type} {enc : TypeId × Value → H} {P : Program} {w : World}
theorem Rd.of {t : TypeId} {v : Value} {d : DataW H} {ps : List MemPlace} (h : DataW.Trod enc P w 0 (fun _ => true) true t v d ps) : Rd enc P w t v.cells.toList := by
  obtain ⟨f, hf⟩ := h; exact ⟨f, _, hf⟩
theorem Rd.int {t : TypeId} {k : IntKind} {cs : List Value} (ht : P.underlying t = some (.int k)) (h : Rd enc P w t cs) : ∃ n, cs = [.int k n] ∧ (Lit.int k n).wf = true := by
  obtain ⟨f, x, h⟩ := h
  obtain ⟨n, h1, _, h2⟩ := DataW.trod_int ht h
  exact ⟨n, h1, h2⟩
theorem Rd.string {t : TypeId} {cs : List Value} (ht : P.underlying t = some .string) (h : Rd enc P w t cs) : ∃ s : ByteArray, cs = [.string s] ∧ s.size ≤ maxLen := by
  obtain ⟨f, x, h⟩ := h
  obtain ⟨s, h1, _, h2⟩ := DataW.trod_string ht h
  exact ⟨s, h1, h2⟩
theorem Rd.array {t e : TypeId} {n : Nat} {cs : List Value} (ht : P.underlying t = some (.array n e)) (h : Rd enc P w t cs) : cs.length = P.cellsOf t ∧ ∀ i, i < n → Rd enc P w e ((cs.drop (i * P.cellsOf e)).take (P.cellsOf e)) := by
  obtain ⟨f, x, h⟩ := h
  obtain ⟨xs, m, _, _, hl, hx, hf⟩ := DataW.trod_array ht h
  refine ⟨hl, fun i hi => ⟨m, xs[i]'(by omega), ?_⟩⟩
  rw [hf i hi, List.getElem?_eq_getElem]
theorem Rd.struct {t : TypeId} {fs : Array Field} {cs : List Value} (ht : P.underlying t = some (.struct fs)) (h : Rd enc P w t cs) : cs.length = P.cellsOf t ∧ ∀ (i : Nat) (f : Field), fs[i]? = some f → Rd enc P w f.type ((cs.drop f.offset).take (P.cellsOf f.type)) := by
  obtain ⟨fu, x, h⟩ := h
  obtain ⟨xs, n, _, _, hl, hlen, hf⟩ := DataW.trod_struct ht h
  refine ⟨hl, fun i f hi => ?_⟩
  have hi' : i < fs.size := (Array.getElem?_eq_some_iff.1 hi).1
  refine ⟨n, xs[i]'(by simpa [hlen] using hi'), ?_⟩
  have := hf i f (by simpa using hi)
  rw [this, List.getElem?_eq_getElem]
theorem Rd.slice {α : Type} {R : World → Cells → α → Prop} {t e : TypeId} {sz : Nat} {cs : List Value} (ht : P.underlying t = some (.slice e)) (hs : P.cellsOf e = sz) (hpos : 0 < sz)
    (hR : ∀ (f : Nat → Option Value) (cs' : List Value), cs'.length = sz → (∀ j, j < sz → f j = cs'[j]?) → Rd enc P w e cs' → ∃ x, R w f x) (h : Rd enc P w t cs) :
    ∃ a l c xs, cs = [.slice a l c] ∧ Rows sz R w a l xs ∧ l ≤ maxLen := by
  obtain ⟨fu, x, h⟩ := h
  rcases Go.Deep.open_slice ht h with ⟨rfl, _⟩ | ⟨a, len, cap, m, n, D, Pl, rfl, hb, hl, hm, hmm, rfl, hx⟩
  · exact ⟨none, 0, 0, [], rfl, Rows.nil _ _ _ _, by simp⟩
  rw [hs] at hx
  have hlm : len ≤ m := by rw [hmm]; split <;> omega
  rcases Nat.eq_zero_or_pos len with h0 | h0
  · subst h0
    exact ⟨some a, 0, cap, [], rfl, Rows.nil _ _ _ _, by simp⟩
  have hspot : a.spot = none := by
    obtain ⟨cs', h1, _⟩ := hx 0 (by omega)
    obtain ⟨_, hlen, hc⟩ := World.cells?_some h1
    have := hc 0 hpos
    rw [Nat.zero_mul, add_mk0, add_mk0, List.getElem?_eq_getElem (by omega)] at this
    exact World.cell?_spot this
  obtain ⟨b, o, s⟩ := a
  simp only at hspot
  subst hspot
  have each : ∀ i, i < len → ∃ x : α, R w (fun j => w.cell? ⟨b, o + i * sz + j, none⟩) x := fun i hi => by
    obtain ⟨cs', h1, h2⟩ := hx i (by omega)
    obtain ⟨_, hlen, hc⟩ := World.cells?_some h1
    refine hR _ cs' hlen (fun j hj => ?_) ⟨n, _, h2⟩
    have := hc j hj
    rw [add_mk, add_mk] at this
    exact this
  have : ∃ xs : List α, xs.length = len ∧ ∀ i x, xs[i]? = some x → R w (fun j => w.cell? ⟨b, o + i * sz + j, none⟩) x := by
    clear hx hlm hmm hl h
    induction len with
    | zero => omega
    | succ k ih =>
      obtain ⟨x, hxk⟩ := each k (by omega)
      rcases Nat.eq_zero_or_pos k with hk | hk
      · subst hk
        refine ⟨[x], rfl, fun i y hy => ?_⟩
        have : i = 0 := by have := (List.getElem?_eq_some_iff.1 hy).1; simp at this; omega
        subst this; simp at hy; subst hy; exact hxk
      · obtain ⟨xs, hl, hxs⟩ := ih hk (fun i hi => each i (by omega))
        refine ⟨xs ++ [x], by simp [hl], fun i y hy => ?_⟩
        rcases Nat.lt_or_ge i xs.length with h | h
        · rw [List.getElem?_append_left h] at hy; exact hxs i y hy
        · rw [List.getElem?_append_right h] at hy
          have hi : i = k := by have := (List.getElem?_eq_some_iff.1 hy).1; simp at this; omega
          subst hi
          rw [hl, Nat.sub_self] at hy; simp at hy; subst hy; exact hxk
  obtain ⟨xs, hl', hxs⟩ := this
  exact ⟨_, len, cap, xs, rfl, ⟨hl'.symm, .inr ⟨b, o, rfl, hxs⟩⟩, by omega⟩
end
end Go.V

namespace Go.V
open Go.RowKit (Below)
def Rz {H : Type} (enc : TypeId × Value → H) (P : Program) (w : World) (t : TypeId) (cs : List Value) : Prop :=
  ∃ fuel x, DataW.trod enc P w 0 (fun _ => true) true fuel t cs = some x ∧ ∀ n ∈ x.1.weights P t, n ≤ reachBytes
section
variable {H : Type} {enc : TypeId × Value → H} {P : Program} {w : World}
theorem Rz.of {ts : List TypeId} {ds : List (DataW H)} (hz : (DataW.weightsEach P ts ds).all (· ≤ reachBytes) = true) {j : Nat} {t : TypeId} {v : Value} {d : DataW H} {ps : List MemPlace} (ht : ts[j]? = some t) (hd : ds[j]? = some d)
    (h : DataW.Trod enc P w 0 (fun _ => true) true t v d ps) : Rz enc P w t v.cells.toList := by
  obtain ⟨f, hf⟩ := h
  exact ⟨f, _, hf, fun n hn => by simpa using List.all_eq_true.1 hz n (DataW.weights_mem_each ht hd n hn)⟩
theorem Rz.int {t : TypeId} {k : IntKind} {cs : List Value} (ht : P.underlying t = some (.int k)) (h : Rz enc P w t cs) : ∃ n, cs = [.int k n] ∧ (Lit.int k n).wf = true := by
  obtain ⟨f, x, h, _⟩ := h
  exact Rd.int ht ⟨f, x, h⟩
theorem Rz.string {t : TypeId} {cs : List Value} (ht : P.underlying t = some .string) (h : Rz enc P w t cs) : ∃ s : ByteArray, cs = [.string s] ∧ s.size ≤ maxLen := by
  obtain ⟨f, x, h, _⟩ := h
  exact Rd.string ht ⟨f, x, h⟩
theorem Rz.fld {t : TypeId} {fs : Array Field} {cs : List Value} (ht : P.underlying t = some (.struct fs)) (h : Rz enc P w t cs) (i : Nat) {f : Field} (hf : fs[i]? = some f) {n : Nat} (hn : P.cellsOf f.type = n) : Rz enc P w f.type ((cs.drop f.offset).take n) := by
  obtain ⟨fu, x, h, hz⟩ := h
  obtain ⟨xs, m, _, rfl, hl, hlen, hff⟩ := DataW.trod_struct ht h
  have hi' : i < fs.size := (Array.getElem?_eq_some_iff.1 hf).1
  have hi2 : i < xs.length := by rw [hlen]; exact hi'
  have e := hff i f hf
  rw [List.getElem?_eq_getElem hi2, hn] at e
  refine ⟨m, _, e, fun k hk => hz k ?_⟩
  simp only [DataW.weights, ht]
  exact DataW.weights_mem_each (j := i) (by rw [List.getElem?_map, Array.getElem?_toList, hf]; rfl) (by rw [List.getElem?_map, List.getElem?_eq_getElem hi2]; rfl) k hk
theorem Rz.len {t : TypeId} {fs : Array Field} {cs : List Value} (ht : P.underlying t = some (.struct fs)) (h : Rz enc P w t cs) : cs.length = P.cellsOf t := by
  obtain ⟨fu, x, h, _⟩ := h
  exact (Rd.struct ht ⟨fu, x, h⟩).1
theorem weightsAll_mem {e : TypeId} : ∀ {ds : List (DataW H)} {d : DataW H}, d ∈ ds → ∀ n ∈ d.weights P e, n ∈ DataW.weightsAll P e ds
  | d0 :: ds, d, h, n, hn => by
    simp only [DataW.weightsAll, List.mem_append]
    rcases List.mem_cons.1 h with rfl | h
    · exact .inl hn
    · exact .inr (weightsAll_mem h n hn)
theorem Rz.slice {α : Type} {R : World → Cells → α → Prop} {t e : TypeId} {sz : Nat} {cs : List Value} (ht : P.underlying t = some (.slice e)) (hs : P.cellsOf e = sz) (hpos : 0 < sz)
    (hR : ∀ (f : Nat → Option Value) (cs' : List Value), cs'.length = sz → (∀ j, j < sz → f j = cs'[j]?) → Rz enc P w e cs' → ∃ x, R w f x) (h : Rz enc P w t cs) :
    ∃ a l c xs, cs = [.slice a l c] ∧ Rows sz R w a l xs ∧ l ≤ maxLen ∧ l * P.bytesOf e ≤ reachBytes ∧ l ≤ c := by
  obtain ⟨fu, x, h, hz⟩ := h
  rcases Go.Deep.open_slice ht h with ⟨rfl, _⟩ | ⟨a, len, cap, m, n, D, Pl, rfl, hb, hl, hm, hmm, rfl, hx⟩
  · exact ⟨none, 0, 0, [], rfl, Rows.nil _ _ _ _, by simp, by simp, by simp⟩
  simp only [DataW.weights, ht] at hz
  have hbytes : len * P.bytesOf e ≤ reachBytes := by
    have := hz _ List.mem_cons_self
    simp only [List.length_map, List.length_range] at this
    exact Nat.le_trans (Nat.mul_le_mul_right _ (by omega)) this
  have hel : ∀ i, i < len → ∀ n ∈ (D i).weights P e, n ≤ reachBytes := fun i hi n hn => hz n (List.mem_cons_of_mem _ (List.mem_append_left _ (weightsAll_mem (List.mem_map.2 ⟨i, List.mem_range.2 hi, rfl⟩) n hn)))
  rw [hs] at hx
  have hlm : len ≤ m := by rw [hmm]; split <;> omega
  rcases Nat.eq_zero_or_pos len with h0 | h0
  · subst h0
    exact ⟨some a, 0, cap, [], rfl, Rows.nil _ _ _ _, by simp, by simp, by simp⟩
  have hspot : a.spot = none := by
    obtain ⟨cs', h1, _⟩ := hx 0 (by omega)
    obtain ⟨_, hlen, hc⟩ := World.cells?_some h1
    have := hc 0 hpos
    rw [Nat.zero_mul, add_mk0, add_mk0, List.getElem?_eq_getElem (by omega)] at this
    exact World.cell?_spot this
  obtain ⟨b, o, s⟩ := a
  simp only at hspot
  subst hspot
  have each : ∀ i, i < len → ∃ x : α, R w (fun j => w.cell? ⟨b, o + i * sz + j, none⟩) x := fun i hi => by
    obtain ⟨cs', h1, h2⟩ := hx i (by omega)
    obtain ⟨_, hlen, hc⟩ := World.cells?_some h1
    refine hR _ cs' hlen (fun j hj => ?_) ⟨n, _, h2, hel i hi⟩
    have := hc j hj
    rw [add_mk, add_mk] at this
    exact this
  have : ∃ xs : List α, xs.length = len ∧ ∀ i x, xs[i]? = some x → R w (fun j => w.cell? ⟨b, o + i * sz + j, none⟩) x := by
    clear hx hlm hmm hl h hz hbytes hel
    induction len with
    | zero => omega
    | succ k ih =>
      obtain ⟨x, hxk⟩ := each k (by omega)
      rcases Nat.eq_zero_or_pos k with hk | hk
      · subst hk
        refine ⟨[x], rfl, fun i y hy => ?_⟩
        have : i = 0 := by have := (List.getElem?_eq_some_iff.1 hy).1; simp at this; omega
        subst this; simp at hy; subst hy; exact hxk
      · obtain ⟨xs, hl, hxs⟩ := ih hk (fun i hi => each i (by omega))
        refine ⟨xs ++ [x], by simp [hl], fun i y hy => ?_⟩
        rcases Nat.lt_or_ge i xs.length with h | h
        · rw [List.getElem?_append_left h] at hy; exact hxs i y hy
        · have hi := (List.getElem?_eq_some_iff.1 hy).1
          simp at hi
          have : i = xs.length := by omega
          subst this
          rw [List.getElem?_concat_length] at hy; cases hy
          rw [hl]; exact hxk
  obtain ⟨xs, hlx, hxs⟩ := this
  exact ⟨_, len, cap, xs, rfl, ⟨hlx.symm, .inr ⟨b, o, rfl, hxs⟩⟩, by omega, hbytes, hl⟩
end
end Go.V

namespace Go.Proofs.YtbiamhoonhjodabGreatDoor
open Go Go.V Go.Proofs Go.V.Gr
open Go.RowKit (Below)
theorem reach_lt : reachBytes ≤ 140737488355328 := by decide
theorem listv2 {cs : List Value} (h : cs.length = 2) : ∃ v0 v1, cs = [v0, v1] := by
  match cs, h with
  | [v0, v1], _ => exact ⟨v0, v1, rfl⟩
theorem listv5 {cs : List Value} (h : cs.length = 5) : ∃ v0 v1 v2 v3 v4, cs = [v0, v1, v2, v3, v4] := by
  match cs, h with
  | [v0, v1, v2, v3, v4], _ => exact ⟨v0, v1, v2, v3, v4, rfl⟩
def RNdZ (w : World) (f : Cells) (x : Nd) : Prop := RNd w f x ∧ x.fs.length ≤ 1000000000000000 ∧ x.ks.length ≤ 1000000000000000
section
variable {H : Type} {enc : TypeId × Value → H} {w : World}
theorem rd_ft (f : Nat → Option Value) (cs : List Value) (hl : cs.length = 2) (hf : ∀ j, j < 2 → f j = cs[j]?) (h : Rz enc Tryz.prog w 36 cs) : ∃ x, RFt w f x := by
  obtain ⟨v0, v1, rfl⟩ := listv2 hl
  have f0 : Rz enc Tryz.prog w 3 [v0] := Rz.fld Tryz.underlying36 h 0 rfl (n := 1) (by kernel_rfl)
  have f1 : Rz enc Tryz.prog w 9 [v1] := Rz.fld Tryz.underlying36 h 1 rfl (n := 1) (by kernel_rfl)
  obtain ⟨n, e1, _⟩ := f0.int Tryz.underlying3
  obtain ⟨s, e0, hs⟩ := f1.string Tryz.underlying9
  cases e0; cases e1
  exact ⟨(n, s), hf 0 (by omega), hf 1 (by omega), hs⟩
theorem rd_int (f : Nat → Option Value) (cs : List Value) (hl : cs.length = 1) (hf : ∀ j, j < 1 → f j = cs[j]?) (h : Rz enc Tryz.prog w 3 cs) : ∃ x, RInt w f x := by
  obtain ⟨n, rfl, _⟩ := h.int Tryz.underlying3
  exact ⟨n, hf 0 (by omega)⟩
theorem rd_nd (f : Nat → Option Value) (cs : List Value) (hl : cs.length = 5) (hf : ∀ j, j < 5 → f j = cs[j]?) (h : Rz enc Tryz.prog w 34 cs) : ∃ x, RNdZ w f x := by
  obtain ⟨v0, v1, v2, v3, v4, rfl⟩ := listv5 hl
  have f0 : Rz enc Tryz.prog w 9 [v0] := Rz.fld Tryz.underlying34 h 0 rfl (n := 1) (by kernel_rfl)
  have f1 : Rz enc Tryz.prog w 3 [v1] := Rz.fld Tryz.underlying34 h 1 rfl (n := 1) (by kernel_rfl)
  have f2 : Rz enc Tryz.prog w 9 [v2] := Rz.fld Tryz.underlying34 h 2 rfl (n := 1) (by kernel_rfl)
  have f3 : Rz enc Tryz.prog w 31 [v3] := Rz.fld Tryz.underlying34 h 3 rfl (n := 1) (by kernel_rfl)
  have f4 : Rz enc Tryz.prog w 32 [v4] := Rz.fld Tryz.underlying34 h 4 rfl (n := 1) (by kernel_rfl)
  obtain ⟨s0, e0, m0⟩ := f0.string Tryz.underlying9
  obtain ⟨n1, e1, m1⟩ := f1.int Tryz.underlying3
  obtain ⟨s2, e2, m2⟩ := f2.string Tryz.underlying9
  obtain ⟨a3, l3, c3, x3, e3, r3, k3, z3, _⟩ := f3.slice (e := 36) Tryz.underlying31 (sz := 2) (by kernel_rfl) (by omega) rd_ft
  obtain ⟨a4, l4, c4, x4, e4, r4, k4, z4, _⟩ := f4.slice (e := 3) Tryz.underlying32 (sz := 1) (by kernel_rfl) (by omega) rd_int
  cases e0; cases e1; cases e2; cases e3; cases e4
  have b3 : Tryz.prog.bytesOf 36 = 24 := by kernel_rfl
  have b4 : Tryz.prog.bytesOf 3 = 8 := by kernel_rfl
  rw [b3] at z3; rw [b4] at z4
  have hr := reach_lt
  have e3 := r3.1; have e4 := r4.1
  exact ⟨⟨s0, n1, s2, x3, x4⟩, ⟨hf 0 (by omega), hf 1 (by omega), hf 2 (by omega), m0, m2, ⟨a3, l3, c3, hf 3 (by omega), r3, k3⟩, ⟨a4, l4, c4, hf 4 (by omega), r4, k4⟩, m1⟩, by show x3.length ≤ _; omega, by show x4.length ≤ _; omega⟩
theorem rd_graph {cs : List Value} (h : Rz enc Tryz.prog w 24 cs) : ∃ r a l c xs, cs = [.int .i64 r, .slice a l c] ∧ RNds w a l xs ∧ Szd xs := by
  have hl : cs.length = 2 := by rw [Rz.len Tryz.underlying24 h]; kernel_rfl
  obtain ⟨v0, v1, rfl⟩ := listv2 hl
  have f0 : Rz enc Tryz.prog w 3 [v0] := Rz.fld Tryz.underlying24 h 0 rfl (n := 1) (by kernel_rfl)
  have f1 : Rz enc Tryz.prog w 22 [v1] := Rz.fld Tryz.underlying24 h 1 rfl (n := 1) (by kernel_rfl)
  obtain ⟨n0, e0, _⟩ := f0.int Tryz.underlying3
  obtain ⟨a, l, c, xs, e1, r1, k1, _⟩ := f1.slice (e := 34) Tryz.underlying22 (sz := 5) (by kernel_rfl) (by omega) rd_nd
  cases e0; cases e1
  refine ⟨n0, a, l, c, xs, rfl, ⟨⟨r1.1, r1.2.imp id fun ⟨b, o, e, h⟩ => ⟨b, o, e, fun i x hx => (h i x hx).1⟩⟩, k1⟩, fun x hx => ?_⟩
  rcases r1.2 with rfl | ⟨b, o, e, h⟩
  · cases hx
  · obtain ⟨i, hi⟩ := List.getElem?_of_mem hx
    exact (h i x hi).2
theorem rd_path {cs : List Value} (h : Rz enc Tryz.prog w 31 cs) : ∃ a l c fs, cs = [.slice a l c] ∧ RL 2 RFt w a l fs ∧ l ≤ c := by
  obtain ⟨a, l, c, xs, e1, r1, k1, _, hc⟩ := h.slice (e := 36) Tryz.underlying31 (sz := 2) (by kernel_rfl) (by omega) rd_ft
  exact ⟨a, l, c, xs, e1, ⟨r1, k1⟩, hc⟩
end
end Go.Proofs.YtbiamhoonhjodabGreatDoor
