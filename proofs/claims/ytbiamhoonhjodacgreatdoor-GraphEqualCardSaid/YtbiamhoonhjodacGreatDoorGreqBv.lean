/- A part of the proof: plain forms of functions and laws about them. -/
import Derived.Test.YtbiamhoonhjodacGreatDoorGreqBu
namespace Go.Proofs.YtbiamhoonhjodacGreatDoor
open Go Go.V Go.Proofs
open Go.RowKit (Below)
/-! manystrand/manystrandlaw05.GraphEqual -/
def N3 (x1 : Int) (a2 : Option Addr) (l2 : Nat) (c2 : Nat) (x3 : Int) (a4 : Option Addr) (l4 : Nat) (c4 : Nat) (K : Bool → World → Prop) (w : World) : Prop :=
 AllocK w (#[(.int .i64 x1), (.slice a2 l2 c2)]) 24 fun b5 w6 =>
 AllocK w6 (#[(.int .i64 x3), (.slice a4 l4 c4)]) 24 fun b7 w8 =>
 ∃ (J9 : Bool → World → Prop),
 (∀ w10 p11, J9 p11 w10 →
 BoolK p11
 (Calls Tryz.prog 5 #[] w10 fun e14 w13 =>
 ∃ p12, e14 = .returned (.bool p12) ∧
 (K p12 w13))
 (∃ x15, w10.cell? (b5.add 0) = some (.int .i64 x15) ∧
 (∃ a16 l16 c16, w10.cell? (b5.add 1) = some (.slice a16 l16 c16) ∧
 (∃ x17, w10.cell? (b7.add 0) = some (.int .i64 x17) ∧
 (∃ a18 l18 c18, w10.cell? (b7.add 1) = some (.slice a18 l18 c18) ∧
 (Calls Tryz.prog 6 #[(.agg #[(.int .i64 x15), (.slice a16 l16 c16)]), (.agg #[(.int .i64 x17), (.slice a18 l18 c18)])] w10 fun e22 w21 =>
 ∃ x19, ∃ x20, e22 = .returned (.tuple #[(.int .i64 x19), (.int .i64 x20)]) ∧
 (∃ x23, w21.cell? (b5.add 0) = some (.int .i64 x23) ∧
 (∃ a24 l24 c24, w21.cell? (b5.add 1) = some (.slice a24 l24 c24) ∧
 (∃ x25, w21.cell? (b7.add 0) = some (.int .i64 x25) ∧
 (∃ a26 l26 c26, w21.cell? (b7.add 1) = some (.slice a26 l26 c26) ∧
 (Calls Tryz.prog 7 #[(.agg #[(.int .i64 x23), (.slice a24 l24 c24)]), (.agg #[(.int .i64 x25), (.slice a26 l26 c26)])] w21 fun e30 w29 =>
 ∃ x27, ∃ x28, e30 = .returned (.tuple #[(.int .i64 x27), (.int .i64 x28)]) ∧
 (∃ x31, w29.cell? (b7.add 0) = some (.int .i64 x31) ∧
 (∃ a32 l32 c32, w29.cell? (b7.add 1) = some (.slice a32 l32 c32) ∧
 (∃ x33, w29.cell? (b5.add 0) = some (.int .i64 x33) ∧
 (∃ a34 l34 c34, w29.cell? (b5.add 1) = some (.slice a34 l34 c34) ∧
 (Calls Tryz.prog 6 #[(.agg #[(.int .i64 x31), (.slice a32 l32 c32)]), (.agg #[(.int .i64 x33), (.slice a34 l34 c34)])] w29 fun e38 w37 =>
 ∃ x35, ∃ x36, e38 = .returned (.tuple #[(.int .i64 x35), (.int .i64 x36)]) ∧
 (∃ x39, w37.cell? (b5.add 0) = some (.int .i64 x39) ∧
 (∃ a40 l40 c40, w37.cell? (b5.add 1) = some (.slice a40 l40 c40) ∧
 (∃ x41, w37.cell? (b7.add 0) = some (.int .i64 x41) ∧
 (∃ a42 l42 c42, w37.cell? (b7.add 1) = some (.slice a42 l42 c42) ∧
 (Calls Tryz.prog 8 #[(.agg #[(.int .i64 x39), (.slice a40 l40 c40)]), (.agg #[(.int .i64 x41), (.slice a42 l42 c42)])] w37 fun e45 w44 =>
 ∃ p43, e45 = .returned (.bool p43) ∧
 (∃ (J46 : World → Prop),
 (∀ w47, J46 w47 →
 BoolK (x20 != 0)
 (Calls Tryz.prog 5 #[] w47 fun e50 w49 =>
 ∃ p48, e50 = .returned (.bool p48) ∧
 (K p48 w49))
 (∃ x51, w47.cell? (b5.add 0) = some (.int .i64 x51) ∧
 (∃ a52 l52 c52, w47.cell? (b5.add 1) = some (.slice a52 l52 c52) ∧
 (Calls Tryz.prog 10 #[(.agg #[(.int .i64 x51), (.slice a52 l52 c52)])] w47 fun e57 w56 =>
 ∃ x53, ∃ a54, ∃ l54, ∃ c54, ∃ x55, e57 = .returned (.tuple #[(.agg #[(.int .i64 x53), (.slice a54 l54 c54)]), (.int .i64 x55)]) ∧
 (AllocK w56 (#[.int .i64 0, .slice none 0 0]) 24 fun b58 w59 =>
 SetK w59 (b58.add 0) (.int .i64 x53) fun w60 =>
 SetK w60 (b58.add 1) (.slice a54 l54 c54) fun w61 =>
 ∃ x62, w61.cell? (b7.add 0) = some (.int .i64 x62) ∧
 (∃ a63 l63 c63, w61.cell? (b7.add 1) = some (.slice a63 l63 c63) ∧
 (Calls Tryz.prog 10 #[(.agg #[(.int .i64 x62), (.slice a63 l63 c63)])] w61 fun e68 w67 =>
 ∃ x64, ∃ a65, ∃ l65, ∃ c65, ∃ x66, e68 = .returned (.tuple #[(.agg #[(.int .i64 x64), (.slice a65 l65 c65)]), (.int .i64 x66)]) ∧
 (AllocK w67 (#[.int .i64 0, .slice none 0 0]) 24 fun b69 w70 =>
 SetK w70 (b69.add 0) (.int .i64 x64) fun w71 =>
 SetK w71 (b69.add 1) (.slice a65 l65 c65) fun w72 =>
 BoolK (x55 == 0)
 (BoolK (x66 == 0)
 (∃ x73, w72.cell? (b58.add 0) = some (.int .i64 x73) ∧
 (∃ a74 l74 c74, w72.cell? (b58.add 1) = some (.slice a74 l74 c74) ∧
 (∃ x75, w72.cell? (b69.add 0) = some (.int .i64 x75) ∧
 (∃ a76 l76 c76, w72.cell? (b69.add 1) = some (.slice a76 l76 c76) ∧
 (Calls Tryz.prog 11 #[(.agg #[(.int .i64 x73), (.slice a74 l74 c74)]), (.agg #[(.int .i64 x75), (.slice a76 l76 c76)])] w72 fun e79 w78 =>
 ∃ p77, e79 = .returned (.bool p77) ∧
 (BoolK (p77 == p43)
 (∃ x80, w78.cell? (b5.add 0) = some (.int .i64 x80) ∧
 (∃ a81 l81 c81, w78.cell? (b5.add 1) = some (.slice a81 l81 c81) ∧
 (∃ x82, w78.cell? (b58.add 0) = some (.int .i64 x82) ∧
 (∃ a83 l83 c83, w78.cell? (b58.add 1) = some (.slice a83 l83 c83) ∧
 (Calls Tryz.prog 8 #[(.agg #[(.int .i64 x80), (.slice a81 l81 c81)]), (.agg #[(.int .i64 x82), (.slice a83 l83 c83)])] w78 fun e86 w85 =>
 ∃ p84, e86 = .returned (.bool p84) ∧
 (BoolK p84
 (Calls Tryz.prog 5 #[] w85 fun e89 w88 =>
 ∃ p87, e89 = .returned (.bool p87) ∧
 (K p87 w88))
 (K false w85)))))))
 (K false w78)))))))
 (K false w72))
 (K false w72))))))))) ∧
 (BoolK (x19 != x27)
 (K false w44)
 (BoolK (x20 != x28)
 (K false w44)
 (BoolK (x35 != IntKind.wrap .i64 (0 - x19))
 (K false w44)
 (BoolK (x36 != x20)
 (K false w44)
 (∃ x90, w44.cell? (b5.add 0) = some (.int .i64 x90) ∧
 (∃ a91 l91 c91, w44.cell? (b5.add 1) = some (.slice a91 l91 c91) ∧
 (∃ x92, w44.cell? (b7.add 0) = some (.int .i64 x92) ∧
 (∃ a93 l93 c93, w44.cell? (b7.add 1) = some (.slice a93 l93 c93) ∧
 (Calls Tryz.prog 9 #[(.agg #[(.int .i64 x90), (.slice a91 l91 c91)]), (.agg #[(.int .i64 x92), (.slice a93 l93 c93)])] w44 fun e96 w95 =>
 ∃ p94, e96 = .returned (.bool p94) ∧
 (BoolK (!(p43 == p94))
 (K false w95)
 (BoolK (x20 == 0)
 (BoolK (!(p43 == (x19 == 0)))
 (K false w95)
 (J46 w95))
 (BoolK (!(p43 == false))
 (K false w95)
 (J46 w95))))))))))))))))))))))))))))))))))) ∧
 (∃ x97, w8.cell? (b5.add 0) = some (.int .i64 x97) ∧
 (∃ a98 l98 c98, w8.cell? (b5.add 1) = some (.slice a98 l98 c98) ∧
 (Calls Tryz.prog 4 #[(.agg #[(.int .i64 x97), (.slice a98 l98 c98)])] w8 fun e101 w100 =>
 ∃ p99, e101 = .returned (.bool p99) ∧
 (BoolK (!p99)
 (J9 true w100)
 (∃ x102, w100.cell? (b7.add 0) = some (.int .i64 x102) ∧
 (∃ a103 l103 c103, w100.cell? (b7.add 1) = some (.slice a103 l103 c103) ∧
 (Calls Tryz.prog 4 #[(.agg #[(.int .i64 x102), (.slice a103 l103 c103)])] w100 fun e106 w105 =>
 ∃ p104, e106 = .returned (.bool p104) ∧
 (BoolK (!p104)
 (J9 true w105)
 (∃ a107 l107 c107, w105.cell? (b5.add 1) = some (.slice a107 l107 c107) ∧
 (∃ a108 l108 c108, w105.cell? (b7.add 1) = some (.slice a108 l108 c108) ∧
 (J9 (decide ((IntKind.wrap .i64 (l107 + l108) : Int) > 400)) w105)))))))))))
def ann3 : Ann := (.two .nil (.two (.cut [(33, (.one .bool))] [2, 3] .nil (.two (.two .nil .nil) .nil)) (.two .nil (.two .nil (.two .nil (.two .nil (.cut [] [2, 3, 6, 11] (.two .nil (.two (.two .nil .nil) .nil)) (.two (.two .nil (.two (.two .nil .nil) .nil)) (.two .nil (.two .nil (.two .nil .nil)))))))))))
noncomputable def code3 : Code := match Tryz.f3.body with | some c => c | none => .skip
theorem calls3 (x1 : Int) (a2 : Option Addr) (l2 : Nat) (c2 : Nat) (x3 : Int) (a4 : Option Addr) (l4 : Nat) (c4 : Nat) (K : Bool → World → Prop) (w : World) (h : N3 x1 a2 l2 c2 x3 a4 l4 c4 K w) : Calls Tryz.prog 3 #[(.agg #[(.int .i64 x1), (.slice a2 l2 c2)]), (.agg #[(.int .i64 x3), (.slice a4 l4 c4)])] w fun en w' => ∃ (p109 : Bool), en = .returned (.bool p109) ∧ K p109 w' :=
 fn_calls tabOk mixed Tryz.func3 (by kernel_rfl : Tryz.f3.body = some code3) ann3 [(.agg #[(.int .i64 x1), (.slice a2 l2 c2)]), (.agg #[(.int .i64 x3), (.slice a4 l4 c4)])] [(.one .bool)] K w (by kernel_rfl) (by kernel_rfl) (by kernel_rfl) h
end Go.Proofs.YtbiamhoonhjodacGreatDoor

namespace Go.Proofs.YtbiamhoonhjodacGreatDoor
open Go Go.V Go.Proofs Go.V.Gr
open Go.RowKit (Below)
theorem cGr_swap {xs ys : List Nd} {i j : Nat} (hx : VL VN1 xs) (hy : VL VN1 ys) (hi : i < xs.length) (hj : j < ys.length) : cGr ys xs j i = - cGr xs ys i j := by
 unfold cGr
 rw [show ys.length + xs.length = xs.length + ys.length by omega]
 exact cG_neg hdC hx hy hi hj
theorem cGr_s (xs ys : List Nd) (i j : Nat) : isS (cGr xs ys i j) := fz_s fun a ha => by
 obtain ⟨t, _, rfl⟩ := List.mem_map.1 ha
 exact cK_s _ _ _ _ _
set_option maxRecDepth 100000 in
theorem ctr3 (w : World) (r1 r2 : Int) (xs ys : List Nd) {a1 a2 : Option Addr} {l1 l2 : Nat} (c1 c2 : Nat) (h1 : RNds w a1 l1 xs) (h2 : RNds w a2 l2 ys) (z1 : Szd xs) (z2 : Szd ys) (ht : Tb w) :
  Calls Tryz.prog 3 #[.agg #[.int .i64 r1, .slice a1 l1 c1], .agg #[.int .i64 r2, .slice a2 l2 c2]] w fun en w' => ∃ p, en = .returned (.bool p) ∧ (p = true ∧ Ext w w') := by
 refine calls3 _ _ _ _ _ _ _ _ _ w ?_
 refine AllocK.mk fun b5 w6 hb5 hB5 x6 => AllocK.mk fun b7 w8 hb7 hB7 x8 => ?_
 have y8 := x6.trans x8
 have hB5 := hB5.ext x8
 obtain ⟨g0, g1, _⟩ := blkAt2 hB5
 refine ⟨fun p w' => Ext w8 w' ∧ (p = false → LightOk xs ∧ LightOk ys), ?_, ⟨_, g0, _, _, _, g1, (ctr4 w8 r1 xs c1 (RNds.at h1 y8) z1).mono ?_⟩⟩
 rotate_left
 ·rintro en w100 ⟨p, rfl, hp1, x100⟩
  refine ⟨_, rfl, BoolK.mk (fun t => ⟨x100, fun e => by cases e⟩) (fun t => ?_)⟩
  have k1 := hp1 (by simpa using t)
  obtain ⟨g0, g1, _⟩ := blkAt2 (hB7.ext x100)
  refine ⟨_, g0, _, _, _, g1, (ctr4 w100 r2 ys c2 (RNds.at h2 (y8.trans x100)) z2).mono ?_⟩
  rintro en w105 ⟨p, rfl, hp2, x105⟩
  have x105 := x100.trans x105
  refine ⟨_, rfl, BoolK.mk (fun t => ⟨x105, fun e => by cases e⟩) (fun t => ?_)⟩
  have k2 := hp2 (by simpa using t)
  obtain ⟨_, g1, _⟩ := blkAt2 (hB5.ext x105)
  obtain ⟨_, g2, _⟩ := blkAt2 (hB7.ext x105)
  exact ⟨_, _, _, g1, _, _, _, g2, x105, fun _ => ⟨k1, k2⟩⟩
 rintro w10 p11 ⟨x10, hlight⟩
 have y10 := y8.trans x10
 refine BoolK.mk (fun _ => awakeK y10) (fun t9 => ?_)
 obtain ⟨k1, k2⟩ := hlight t9
 clear hlight t9 p11
 have B5 : ∀ {w' : World}, Ext w10 w' → w'.cell? ((⟨b5, 0, none⟩ : Addr).add 0) = some (.int .i64 r1) ∧ w'.cell? ((⟨b5, 0, none⟩ : Addr).add 1) = some (.slice a1 l1 c1) := fun x => by
  obtain ⟨g0, g1, _⟩ := blkAt2 (hB5.ext (x10.trans x)); exact ⟨g0, g1⟩
 have B7 : ∀ {w' : World}, Ext w10 w' → w'.cell? ((⟨b7, 0, none⟩ : Addr).add 0) = some (.int .i64 r2) ∧ w'.cell? ((⟨b7, 0, none⟩ : Addr).add 1) = some (.slice a2 l2 c2) := fun x => by
  obtain ⟨g0, g1, _⟩ := blkAt2 (hB7.ext (x10.trans x)); exact ⟨g0, g1⟩
 have N1 : ∀ {w' : World}, Ext w10 w' → RNds w' a1 l1 xs := fun x => RNds.at h1 (y10.trans x)
 have N2 : ∀ {w' : World}, Ext w10 w' → RNds w' a2 l2 ys := fun x => RNds.at h2 (y10.trans x)
 have T : ∀ {w' : World}, Ext w10 w' → Tb w' := fun x => ht.ext (y10.trans x)
 have e0 := Ext.refl w10
 refine ⟨_, (B5 e0).1, _, _, _, (B5 e0).2, _, (B7 e0).1, _, _, _, (B7 e0).2, (ctr6 w10 r1 r2 xs ys c1 c2 (N1 e0) (N2 e0) k1.lim k2.lim (T e0)).mono ?_⟩
 rintro en w21 ⟨x19, x20, rfl, x21, o1⟩
 refine ⟨_, _, rfl, _, (B5 x21).1, _, _, _, (B5 x21).2, _, (B7 x21).1, _, _, _, (B7 x21).2, (ctr7 w21 r1 r2 xs ys c1 c2 (N1 x21) (N2 x21) k1.lim k2.lim).mono ?_⟩
 rintro en w29 ⟨x27, x28, rfl, x29, o2⟩
 have x29 := x21.trans x29
 refine ⟨_, _, rfl, _, (B7 x29).1, _, _, _, (B7 x29).2, _, (B5 x29).1, _, _, _, (B5 x29).2, (ctr6 w29 r2 r1 ys xs c2 c1 (N2 x29) (N1 x29) k2.lim k1.lim (T x29)).mono ?_⟩
 rintro en w37 ⟨x35, x36, rfl, x37, o3⟩
 have x37 := x29.trans x37
 refine ⟨_, _, rfl, _, (B5 x37).1, _, _, _, (B5 x37).2, _, (B7 x37).1, _, _, _, (B7 x37).2, (ctr8 w37 r1 r2 xs ys c1 c2 (N1 x37) (N2 x37) k1.lim.1 k2.lim.1 (T x37)).mono ?_⟩
 rintro en w44 ⟨p43, rfl, hp43, x44⟩
 have x44 := x37.trans x44
 -- what is known
 have K : x19 = x27 ∧ x20 = x28 ∧ x35 = IntKind.wrap .i64 (0 - x19) ∧ x36 = x20 ∧ (x20 = 0 → GrOk r1 xs 1000 ∧ GrOk r2 ys 1000 ∧ (x19 = 0 ↔ Eqv xs ys r1.toNat r2.toNat)) ∧ (x20 ≠ 0 → ¬ (GrOk r1 xs 1000 ∧ GrOk r2 ys 1000)) := by
  rcases o1 with ⟨ok1, ok2, rfl, rfl⟩ | ⟨no, rfl, rfl⟩
  ·rcases o2 with ⟨_, _, rfl, rfl⟩ | ⟨no, _⟩
   rotate_left
   ·exact absurd ⟨ok1, ok2⟩ no
   rcases o3 with ⟨_, _, rfl, rfl⟩ | ⟨no, _⟩
   rotate_left
   ·exact absurd ⟨ok2, ok1⟩ no
   have s := cGr_s xs ys r1.toNat r2.toNat
   refine ⟨rfl, rfl, ?_, rfl, fun _ => ⟨ok1, ok2, cGr_zero ok1.vl ok2.vl ok1.lt ok2.lt⟩, fun h => absurd rfl h⟩
   rw [cGr_swap ok1.vl ok2.vl ok1.lt ok2.lt, wrap_id]
   ·omega
   ·rcases s with s | s | s <;> rw [s] <;> omega
   ·rcases s with s | s | s <;> rw [s] <;> omega
  ·rcases o2 with ⟨ok1, ok2, _⟩ | ⟨_, rfl, rfl⟩
   ·exact absurd ⟨ok1, ok2⟩ no
   rcases o3 with ⟨ok2, ok1, _⟩ | ⟨_, rfl, rfl⟩
   ·exact absurd ⟨ok1, ok2⟩ no
   exact ⟨rfl, rfl, by decide, rfl, fun h => by omega, fun _ => no⟩
 clear o1 o2 o3
 obtain ⟨q1, q2, q3, q4, q5, q6⟩ := K
 refine ⟨_, rfl, fun w' => Ext w10 w', ?_, ?_⟩
 ·intro w47 x47
  refine BoolK.mk (fun _ => awakeK (y10.trans x47)) (fun t => ?_)
  have t : x20 = 0 := by simpa using t
  obtain ⟨ok1, ok2, hiff⟩ := q5 t
  clear q1 q2 q3 q4 q5 q6
  refine ⟨_, (B5 x47).1, _, _, _, (B5 x47).2, (ctr10 w47 r1 xs c1 (N1 x47) k1.lim.1 (T x47)).mono ?_⟩
  rintro en w56 ⟨x53, a54, l54, c54, x55, rfl, o1⟩
  have A1 : Ans w47 w56 xs (some r1.toNat) 50 x53 (a54, l54, c54) x55 := by
   rcases o1 with ⟨_, h⟩ | ⟨h, _⟩
   ·exact h
   ·exact absurd ok1 h
  obtain ⟨x56, rfl, gx, rgx, hgx⟩ := A1.rows
  obtain ⟨i1, e1, rfl, hL1, hG1⟩ : ∃ i, some r1.toNat = some i ∧ x55 = 0 ∧ Least xs i gx ∧ GD w47 w56 (a54, l54, c54) gx := by
   rcases hgx with h | ⟨h, _⟩
   ·exact h
   ·cases h
  cases e1
  have x56 := x47.trans x56
  refine ⟨_, _, _, _, _, rfl, local2 fun b58 w61 hb58 hB58 x61 => ?_⟩
  have x61' := x56.trans x61
  refine ⟨_, (B7 x61').1, _, _, _, (B7 x61').2, (ctr10 w61 r2 ys c2 (N2 x61') k2.lim.1 (T x61')).mono ?_⟩
  rintro en w67 ⟨x64, a65, l65, c65, x66, rfl, o2⟩
  have A2 : Ans w61 w67 ys (some r2.toNat) 50 x64 (a65, l65, c65) x66 := by
   rcases o2 with ⟨_, h⟩ | ⟨h, _⟩
   ·exact h
   ·exact absurd ok2 h
  obtain ⟨x67, rfl, gy, rgy, hgy⟩ := A2.rows
  obtain ⟨i2, e2, rfl, hL2, hG2⟩ : ∃ i, some r2.toNat = some i ∧ x66 = 0 ∧ Least ys i gy ∧ GD w61 w67 (a65, l65, c65) gy := by
   rcases hgy with h | ⟨h, _⟩
   ·exact h
   ·cases h
  cases e2
  refine ⟨_, _, _, _, _, rfl, local2 fun b69 w72 hb69 hB69 x72 => BoolK.mk (fun _ => BoolK.mk (fun _ => ?_) (fun t => by cases t)) (fun t => by cases t)⟩
  have x72' := x61'.trans (x67.trans x72)
  obtain ⟨f0, f1, _⟩ := blkAt2 (hB58.ext (x67.trans x72))
  obtain ⟨k0, k1', _⟩ := blkAt2 hB69
  have rgx' := RNds.at rgx (x61.trans (x67.trans x72))
  have rgy' := RNds.at rgy x72
  refine ⟨_, f0, _, _, _, f1, _, k0, _, _, _, k1', (ctr11 w72 0 0 gx gy c54 c65 rgx' rgy').mono ?_⟩
  rintro en w78 ⟨p77, rfl, hp77, x78⟩
  have x78' := x72'.trans x78
  have hsame : (p77 == p43) = true := by
   have : p77 = true ↔ p43 = true := by
    rw [hp77, hp43]
    constructor
    ·rintro ⟨_, e⟩; exact ⟨ok1, ok2, (hL1.iff hL2).1 e⟩
    ·rintro ⟨_, _, e⟩; exact ⟨rfl, (hL1.iff hL2).2 e⟩
   rw [beq_iff_eq]; exact Bool.eq_iff_iff.2 this
  refine ⟨_, rfl, BoolK.mk (fun _ => ?_) (fun t => by rw [hsame] at t; cases t)⟩
  obtain ⟨f0, f1, _⟩ := blkAt2 (hB58.ext ((x67.trans x72).trans x78))
  have gok := Least.ok hL1 ok1 ok1.lt
  have sx := ok1.sz (by omega) k1.lim.1
  have glim := Least.lim hL1 ok1.closed ok1.lt sx.ks k1.lim.1 k1.lim.2
  refine ⟨_, (B5 x78').1, _, _, _, (B5 x78').2, _, f0, _, _, _, f1, (ctr8 w78 r1 0 xs gx c1 c54 (N1 x78') (RNds.at rgx' x78) k1.lim.1 glim.1 (T x78')).mono ?_⟩
  rintro en w85 ⟨p84, rfl, hp84, x85⟩
  have hp : p84 = true := hp84.2 ⟨ok1, gok, hL1.eqv.symm⟩
  subst hp
  exact ⟨_, rfl, BoolK.mk (fun _ => awakeK (y10.trans (x78'.trans x85))) (fun t => by cases t)⟩
 ·refine BoolK.mk (fun t => ?_) (fun _ => BoolK.mk (fun t => ?_) (fun _ => BoolK.mk (fun t => ?_) (fun _ => BoolK.mk (fun t => ?_) (fun _ => ?_))))
  ·rw [q1] at t; simp at t
  ·rw [q2] at t; simp at t
  ·rw [q3] at t; simp at t
  ·rw [q4] at t; simp at t
  refine ⟨_, (B5 x44).1, _, _, _, (B5 x44).2, _, (B7 x44).1, _, _, _, (B7 x44).2, (ctr9 w44 r1 r2 xs ys c1 c2 (N1 x44) (N2 x44) k1.lim k2.lim).mono ?_⟩
  rintro en w95 ⟨p94, rfl, hp94, x95⟩
  have x95 := x44.trans x95
  have hpp : p43 = p94 := Bool.eq_iff_iff.2 (by rw [hp43, hp94])
  refine ⟨_, rfl, BoolK.mk (fun t => by rw [hpp] at t; simp at t) (fun _ => BoolK.mk (fun t => ?_) (fun t => ?_))⟩
  ·have t : x20 = 0 := by simpa using t
   obtain ⟨ok1, ok2, hiff⟩ := q5 t
   have e : p43 = (x19 == 0) := Bool.eq_iff_iff.2 (by
    rw [hp43, beq_iff_eq, hiff]
    exact ⟨fun h => h.2.2, fun h => ⟨ok1, ok2, h⟩⟩)
   exact BoolK.mk (fun t => by rw [← e] at t; simp at t) (fun _ => x95)
  ·have t : x20 ≠ 0 := by simpa using t
   have e : p43 = false := by
    rw [Bool.eq_false_iff]; intro h
    have := hp43.1 h
    exact q6 t ⟨this.1, this.2.1⟩
   exact BoolK.mk (fun t => by rw [e] at t; simp at t) (fun _ => x95)
end Go.Proofs.YtbiamhoonhjodacGreatDoor
