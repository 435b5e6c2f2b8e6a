/- A part of the proof: plain forms of functions and laws about them. -/
import Derived.Test.YtbiamhoonhjodadGreatDoorGropBv
namespace Go.Proofs.YtbiamhoonhjodadGreatDoor
open Go Go.V Go.Proofs
open Go.RowKit (Below)
/-! manystrand/manystrandlaw05.GraphOpens -/
def N3 (x1 : Int) (a2 : Option Addr) (l2 : Nat) (c2 : Nat) (x3 : Int) (x4 : Int) (K : Bool → World → Prop) (w : World) : Prop :=
 AllocK w (#[(.int .i64 x1), (.slice a2 l2 c2)]) 24 fun b5 w6 =>
 ∃ (J7 : Bool → World → Prop),
 (∀ w8 p9, J7 p9 w8 →
 BoolK p9
 (Calls Tryz.prog 6 #[] w8 fun e12 w11 =>
 ∃ p10, e12 = .returned (.bool p10) ∧
 (K p10 w11))
 (∃ a13 l13 c13, w8.cell? (b5.add 1) = some (.slice a13 l13 c13) ∧
 ((l13 : Int) ≠ 0 ∧
 (∃ x14, w8.cell? b5 = some (.int .i64 x14) ∧
 (AllocK w8 (#[.int .i64 0, .slice none 0 0]) 24 fun b15 w16 =>
 SetK w16 (b15.add 0) (.int .i64 x14) fun w17 =>
 SetK w17 (b15.add 1) (.slice none 0 0) fun w18 =>
 ∃ (I19 : Int → World → Prop) (μ20 : Int → World → Nat),
 (I19 0 w18 ∧ True) ∧
 ∀ w21 x22, I19 x22 w21 →
 BoolK (decide (x22 < 2))
 (∃ a23 l23 c23, w21.cell? (b5.add 1) = some (.slice a23 l23 c23) ∧
 (∃ (I24 : Int → World → Prop) (μ25 : Int → World → Nat),
 (I24 0 w21 ∧ True) ∧
 ∀ w26 x27, I24 x27 w26 →
 BoolK (decide (x27 < l23))
 ((0 ≤ x27 ∧ x27 < l23) ∧
 AddrK a23 fun b28 =>
 ∃ s29, w26.cell? ((b28.add (x27.toNat * 5)).add 0) = some (.string s29) ∧
 (∃ x30, w26.cell? ((b28.add (x27.toNat * 5)).add 1) = some (.int .i64 x30) ∧
 (∃ s31, w26.cell? ((b28.add (x27.toNat * 5)).add 2) = some (.string s31) ∧
 (∃ a32 l32 c32, w26.cell? ((b28.add (x27.toNat * 5)).add 3) = some (.slice a32 l32 c32) ∧
 (∃ a33 l33 c33, w26.cell? ((b28.add (x27.toNat * 5)).add 4) = some (.slice a33 l33 c33) ∧
 (AllocK w26 (#[.string ⟨#[]⟩, .int .i64 0, .string ⟨#[]⟩, .slice none 0 0, .slice none 0 0]) 30 fun b34 w35 =>
 SetK w35 (b34.add 0) (.string s29) fun w36 =>
 SetK w36 (b34.add 1) (.int .i64 x30) fun w37 =>
 SetK w37 (b34.add 2) (.string s31) fun w38 =>
 SetK w38 (b34.add 3) (.slice a32 l32 c32) fun w39 =>
 SetK w39 (b34.add 4) (.slice a33 l33 c33) fun w40 =>
 ∃ a41 l41 c41, w40.cell? (b34.add 4) = some (.slice a41 l41 c41) ∧
 (∃ a42, ∃ l42, ∃ c42, ∃ w43, Sem.run Tryz.prog (Builtin.append_ #[28, 28] 28 #[(.slice none 0 0), (.slice a41 l41 c41)]) w40 = .ok (.slice a42 l42 c42) w43 ∧
 (SetK w43 (b34.add 4) (.slice a42 l42 c42) fun w44 =>
 ∃ a45 l45 c45, w44.cell? (b34.add 4) = some (.slice a45 l45 c45) ∧
 (∃ (I46 : Int → World → Prop) (μ47 : Int → World → Nat),
 (I46 0 w44 ∧ True) ∧
 ∀ w48 x49, I46 x49 w48 →
 BoolK (decide (x49 < l45))
 (∃ a50 l50 c50, w48.cell? (b34.add 4) = some (.slice a50 l50 c50) ∧
 ((0 ≤ x49 ∧ x49 < l50) ∧
 AddrK a50 fun b51 =>
 ∃ x52, w48.cell? (b51.add (x49.toNat * 1)) = some (.int .i64 x52) ∧
 ((2 : Int) ≠ 0 ∧
 (BoolK (((IntKind.wrap .i64 ((IntKind.wrap .i64 ((IntKind.wrap .i64 ((IntKind.wrap .i64 (x22 + x49)) + (IntKind.wrap .i64 x4))) + x52)) + ((IntKind.wrap .i64 x3 : Int).tmod l13)) : Int).tmod 2 : Int) == 0)
 (∃ a53 l53 c53, w48.cell? (b34.add 4) = some (.slice a53 l53 c53) ∧
 ((0 ≤ x49 ∧ x49 < l53) ∧
 AddrK a53 fun b54 =>
 ∃ x55, w48.cell? (b54.add (x49.toNat * 1)) = some (.int .i64 x55) ∧
 ((0 ≤ x49 ∧ x49 < l53) ∧
 AddrK a53 fun b56 =>
 SetK w48 (b56.add (x49.toNat * 1)) (.int .i64 (IntKind.wrap .i64 (x55 + l13))) fun w57 =>
 I46 (IntKind.wrap .i64 (x49 + 1)) w57 ∧ μ47 (IntKind.wrap .i64 (x49 + 1)) w57 < μ47 x49 w48)))
 (I46 (IntKind.wrap .i64 (x49 + 1)) w48 ∧ μ47 (IntKind.wrap .i64 (x49 + 1)) w48 < μ47 x49 w48)))))
 (∃ a58 l58 c58, w48.cell? (b15.add 1) = some (.slice a58 l58 c58) ∧
 (∃ s59, w48.cell? (b34.add 0) = some (.string s59) ∧
 (∃ x60, w48.cell? (b34.add 1) = some (.int .i64 x60) ∧
 (∃ s61, w48.cell? (b34.add 2) = some (.string s61) ∧
 (∃ a62 l62 c62, w48.cell? (b34.add 3) = some (.slice a62 l62 c62) ∧
 (∃ a63 l63 c63, w48.cell? (b34.add 4) = some (.slice a63 l63 c63) ∧
 (AllocK w48 (#[(.string s59), (.int .i64 x60), (.string s61), (.slice a62 l62 c62), (.slice a63 l63 c63)]) 30 fun b64 w65 =>
 ∃ a66, ∃ l66, ∃ c66, ∃ w67, Sem.run Tryz.prog (Builtin.append_ #[22, 22] 22 #[(.slice a58 l58 c58), (.slice (some b64) 1 1)]) w65 = .ok (.slice a66 l66 c66) w67 ∧
 (SetK w67 (b15.add 1) (.slice a66 l66 c66) fun w68 =>
 I24 (IntKind.wrap .i64 (x27 + 1)) w68 ∧ μ25 (IntKind.wrap .i64 (x27 + 1)) w68 < μ25 x27 w26)))))))))))))))))
 (I19 (IntKind.wrap .i64 (x22 + 1)) w26 ∧ μ20 (IntKind.wrap .i64 (x22 + 1)) w26 < μ20 x22 w21)))
 (∃ (J69 : World → Prop),
 (∀ w70, J69 w70 →
 ∃ x71, w70.cell? (b5.add 0) = some (.int .i64 x71) ∧
 (∃ a72 l72 c72, w70.cell? (b5.add 1) = some (.slice a72 l72 c72) ∧
 (Calls Tryz.prog 7 #[(.agg #[(.int .i64 x71), (.slice a72 l72 c72)])] w70 fun e76 w75 =>
 ∃ s73, ∃ x74, e76 = .returned (.tuple #[(.string s73), (.int .i64 x74)]) ∧
 (∃ x77, w75.cell? (b15.add 0) = some (.int .i64 x77) ∧
 (∃ a78 l78 c78, w75.cell? (b15.add 1) = some (.slice a78 l78 c78) ∧
 (Calls Tryz.prog 7 #[(.agg #[(.int .i64 x77), (.slice a78 l78 c78)])] w75 fun e82 w81 =>
 ∃ s79, ∃ x80, e82 = .returned (.tuple #[(.string s79), (.int .i64 x80)]) ∧
 (∃ x83, w81.cell? (b5.add 0) = some (.int .i64 x83) ∧
 (∃ a84 l84 c84, w81.cell? (b5.add 1) = some (.slice a84 l84 c84) ∧
 (∃ x85, w81.cell? (b15.add 0) = some (.int .i64 x85) ∧
 (∃ a86 l86 c86, w81.cell? (b15.add 1) = some (.slice a86 l86 c86) ∧
 (Calls Tryz.prog 8 #[(.agg #[(.int .i64 x83), (.slice a84 l84 c84)]), (.agg #[(.int .i64 x85), (.slice a86 l86 c86)])] w81 fun e89 w88 =>
 ∃ p87, e89 = .returned (.bool p87) ∧
 (BoolK p87
 (BoolK (x74 == 0)
 (BoolK (x80 == 0)
 (BoolK (s73.toList == s79.toList)
 (Calls Tryz.prog 6 #[] w88 fun e92 w91 =>
 ∃ p90, e92 = .returned (.bool p90) ∧
 (K p90 w91))
 (K false w88))
 (K false w88))
 (K false w88))
 (K false w88))))))))))))) ∧
 ((2 : Int) ≠ 0 ∧
 (BoolK ((x4.tmod 2 : Int) == 1)
 (∃ x93, w21.cell? b15 = some (.int .i64 x93) ∧
 (SetK w21 b15 (.int .i64 (IntKind.wrap .i64 (x93 + l13))) fun w94 =>
 J69 w94))
 (J69 w21))))))))) ∧
 (∃ x95, w6.cell? (b5.add 0) = some (.int .i64 x95) ∧
 (∃ a96 l96 c96, w6.cell? (b5.add 1) = some (.slice a96 l96 c96) ∧
 (Calls Tryz.prog 4 #[(.agg #[(.int .i64 x95), (.slice a96 l96 c96)])] w6 fun e99 w98 =>
 ∃ p97, e99 = .returned (.bool p97) ∧
 (BoolK (!p97)
 (J7 true w98)
 (∃ x100, w98.cell? (b5.add 0) = some (.int .i64 x100) ∧
 (∃ a101 l101 c101, w98.cell? (b5.add 1) = some (.slice a101 l101 c101) ∧
 (Calls Tryz.prog 5 #[(.agg #[(.int .i64 x100), (.slice a101 l101 c101)])] w98 fun e104 w103 =>
 ∃ p102, e104 = .returned (.bool p102) ∧
 (BoolK (!p102)
 (J7 true w103)
 (∃ a105 l105 c105, w103.cell? (b5.add 1) = some (.slice a105 l105 c105) ∧
 (J7 (decide ((l105 : Int) ≥ 500)) w103))))))))))
def ann3 : Ann := (.two .nil (.two (.cut [(31, (.one .bool))] [1, 2, 3] .nil (.two (.two .nil .nil) .nil)) (.two .nil (.two .nil (.two .nil (.two (.two .nil (.one (.loop [(10, (.one (.int .i64)))] [2, 3, 7, 8, 9] (.two (.two .nil (.two .nil .nil)) (.two (.one (.two .nil (.one (.loop [(50, (.one (.int .i64)))] [2, 3, 7, 8, 9, 10, 48, 49] (.two .nil (.two (.two .nil .nil) (.two (.one (.two .nil (.two .nil (.two (.two .nil (.one (.loop [(61, (.one (.int .i64)))] [2, 3, 7, 8, 9, 10, 12, 48, 49, 50, 60] (.two .nil (.two (.two .nil .nil) (.two (.one (.two .nil (.two .nil (.two .nil .nil)))) .nil)))))) .nil)))) .nil))))))) .nil))))) (.cut [] [3, 9] (.two .nil (.two .nil .nil)) (.two .nil (.two .nil (.two .nil .nil))))))))))
noncomputable def code3 : Code := match Tryz.f3.body with | some c => c | none => .skip
theorem calls3 (x1 : Int) (a2 : Option Addr) (l2 : Nat) (c2 : Nat) (x3 : Int) (x4 : Int) (K : Bool → World → Prop) (w : World) (h : N3 x1 a2 l2 c2 x3 x4 K w) : Calls Tryz.prog 3 #[(.agg #[(.int .i64 x1), (.slice a2 l2 c2)]), (.int .u8 x3), (.int .u8 x4)] w fun en w' => ∃ (p106 : Bool), en = .returned (.bool p106) ∧ K p106 w' :=
 fn_calls tabOk mixed Tryz.func3 (by kernel_rfl : Tryz.f3.body = some code3) ann3 [(.agg #[(.int .i64 x1), (.slice a2 l2 c2)]), (.int .u8 x3), (.int .u8 x4)] [(.one .bool)] K w (by kernel_rfl) (by kernel_rfl) (by kernel_rfl) h
end Go.Proofs.YtbiamhoonhjodadGreatDoor

namespace Go.Proofs.YtbiamhoonhjodadGreatDoor
open Go Go.V Go.Proofs Go.V.Gr
open Go.RowKit (Below)
set_option maxRecDepth 100000 in
theorem ctr3 (w : World) (root : Int) (xs : List Nd) (n m : Int) {a1 : Option Addr} {l1 : Nat} (c1 : Nat) (h1 : RNds w a1 l1 xs) (z1 : Szd xs) (ht : Tb w) (hm : MaxL w) :
  Calls Tryz.prog 3 #[.agg #[.int .i64 root, .slice a1 l1 c1], .int .u8 n, .int .u8 m] w fun en w' => ∃ p, en = .returned (.bool p) ∧ (p = true ∧ Ext w w') := by
 refine calls3 _ _ _ _ _ _ _ w ?_
 refine AllocK.mk fun b5 w6 hb5 hB5 x6 => ?_
 obtain ⟨_, g1, g0⟩ := blkAt2 hB5
 refine ⟨fun p w' => Ext w6 w' ∧ (p = false → LightOk xs ∧ GrOk root xs 1000 ∧ xs.length < 500), ?_, ⟨_, g0, _, _, _, g1, (ctr4 w6 root xs c1 (RNds.at h1 x6) z1).mono ?_⟩⟩
 rotate_left
 ·rintro en w98 ⟨p, rfl, hp1, x98⟩
  refine ⟨_, rfl, BoolK.mk (fun t => ⟨x98, fun e => by cases e⟩) (fun t => ?_)⟩
  have k1 := hp1 (by simpa using t)
  obtain ⟨_, g1, g0⟩ := blkAt2 (hB5.ext x98)
  refine ⟨_, g0, _, _, _, g1, (ctr5 w98 root xs c1 (RNds.at h1 (x6.trans x98))).mono ?_⟩
  rintro en w103 ⟨p, rfl, hp2, x103⟩
  have x103 := x98.trans x103
  refine ⟨_, rfl, BoolK.mk (fun t => ⟨x103, fun e => by cases e⟩) (fun t => ?_)⟩
  have ok := hp2.1 (by simpa using t)
  obtain ⟨_, g1, g0⟩ := blkAt2 (hB5.ext x103)
  refine ⟨_, _, _, g1, x103, fun e => ⟨k1, ok, ?_⟩⟩
  have e1 := h1.len
  have := of_decide_eq_false e
  omega
 rintro w8 p9 ⟨x8, hlight⟩
 have y8 := x6.trans x8
 refine BoolK.mk (fun _ => awakeK y8) (fun t9 => ?_)
 obtain ⟨lt, ok, h500⟩ := hlight t9
 clear hlight t9 p9
 have hB8 := hB5.ext x8
 have g8 := RNds.at h1 y8
 have hr := ok.root
 have hl1 := h1.len
 subst hl1
 obtain ⟨_, g1, g0⟩ := blkAt2 hB8
 refine ⟨_, _, _, g1, by omega, _, g0, ?_⟩
 refine Bx.new (fun _ => (none : Option Nat)) 1 fun b15 w16 bx u16 e16 hb15 => Bx.setA bx (by simp) fun w17 bx u17 => Bx.setA bx (by simp) fun w18 bx u18 => ?_
 have L18 := (((Mine.refl (ρ := Nat) w8).upd u16).upd u17).upd u18
 generalize setOwn (fun _ => (none : Option Nat)) (some b15) 1 = own0 at bx u16 u17 u18 L18
 have O0 : OP w8 w18 own0 b15 root xs (none, 0, 0) [] [] := ⟨L18, by simpa using bx, RowR.nil _ _ _ _ _ _, rfl, fun q r y e => by simp at e, fun q y e => by simp at e⟩
 refine ⟨fun x w' => ∃ (c : Nat) (own : OwnM Nat) (s : SL) (RW : List Rw) (ys : List Nd), x = c ∧ c ≤ 2 ∧ ys.length = c * xs.length ∧ OP w8 w' own b15 root xs s RW ys, fun x _ => 2 - x.toNat, ⟨⟨0, _, _, _, _, rfl, by omega, by simp, O0⟩, trivial⟩, ?_⟩
 rintro w21 _ ⟨c, own, s, RW, ys, rfl, hc, hys, hO⟩
 refine BoolK.mk (fun t => ?_) (fun t => ?_)
 ·have hc2 : c < 2 := by have := of_decide_eq_true t; omega
  obtain ⟨_, g1, g0⟩ := blkAt2 (hB8.ext hO.loc.below)
  refine ⟨_, _, _, g1, ?_⟩
  refine ⟨fun x w' => ∃ (k : Nat) (own : OwnM Nat) (s : SL) (RW : List Rw) (ys : List Nd), x = k ∧ k ≤ xs.length ∧ ys.length = c * xs.length + k ∧ OP w8 w' own b15 root xs s RW ys, fun x _ => xs.length - x.toNat, ⟨⟨0, _, _, _, _, rfl, by omega, by simpa using hys, hO⟩, trivial⟩, ?_⟩
  clear hO hys s RW ys own
  rintro w26 _ ⟨k, own, s, RW, ys, rfl, hk, hys, hO⟩
  refine BoolK.mk (fun t2 => ?_) (fun t2 => ?_)
  ·have hlt : k < xs.length := by have := of_decide_eq_true t2; omega
   have hx := lt.2 _ (List.getElem_mem hlt)
   obtain ⟨b28, ha, n0, n1, n2, _, _, ⟨a32, l32, c32, n5, n6⟩, ⟨a33, l33, c33, n7, n8⟩, _⟩ := ndAt g8 (Ext.refl w8) hlt
   have X := hO.loc.below
   have hl33 : l33 = xs[k].ks.length := n8.len
   have hx2 := hx.2.1
   refine ⟨⟨by omega, by omega⟩, adK ha ⟨_, X.cell n0, _, X.cell n1, _, X.cell n2, _, _, _, X.cell n5, _, _, _, X.cell n7, ?_⟩⟩
   refine local5 fun b34 w40 hb34 hB34 x40 => ?_
   have uA : Upd own (setOwn own (some b34) 2) 2 w26 w40 := Upd.fresh x40 (by omega) hB34.lt _
   have bxA : Bx (setOwn own (some b34) 2) 2 w40 b34 _ _ := ⟨hB34, by unfold setOwn; rw [if_pos rfl]⟩
   have O40 := hO.upd uA (by decide)
   generalize setOwn own (some b34) 2 = ownA at uA bxA O40
   obtain ⟨a42, c42, w43, q43, o43, x43⟩ := copyRows (P := Tryz.prog) (t := 28) (ty := 28) sltI (enc := eI) (R := RInt) (c := c33) (n8.1.ext RInt.mono O40.loc.below) eI_len eI_one (fun f x hf j hj => by
    have : j = 0 := by omega
    subst this; exact hf) (by omega)
   refine ⟨_, _, _, by rw [add_mk, bxA.blk.cell]; rfl, _, _, _, _, q43, ?_⟩
   obtain ⟨rowK, uK⟩ := RowR.adopt (s := (a42, l33, c42)) o43 (Nat.le_refl _) x43 ownA 3
   have O43 := O40.upd uK (by decide)
   have bx43 := bxA.upd uK (by decide)
   generalize setOwn ownA (sblk (a42, l33, c42)) 3 = ownK at rowK uK O43 bx43
   refine Bx.setA bx43 (by simp) fun w44 bx44 u44 => ?_
   have O44 := O43.upd u44 (by decide)
   have rowK := rowK.upd u44 (by decide)
   refine ⟨_, _, _, by rw [add_mk, bx44.blk.cell]; rfl, ?_⟩
   refine ⟨fun x w' => ∃ (m : Nat) (K : List Int), x = m ∧ m ≤ l33 ∧ OP w8 w' ownK b15 root xs s RW ys ∧ Bx ownK 2 w' b34 #[.string xs[k].kd, .int .i64 xs[k].n, .string xs[k].tx, .slice a32 l32 c32, .slice a42 l33 c42] 30 ∧ RowR ownK 3 3 1 eI w' (a42, l33, c42) K ∧ TwK xs.length xs[k].ks K ∧ (∀ j, m ≤ j → K[j]? = xs[k].ks[j]?), fun x _ => l33 - x.toNat,
    ⟨⟨0, _, rfl, by omega, O44, by simpa using bx44, rowK, ⟨rfl, fun m k' e => ⟨k', e, .inl rfl⟩⟩, fun _ _ => rfl⟩, trivial⟩, ?_⟩
   clear O44 rowK bx44 u44
   rintro w48 _ ⟨m, K, rfl, hmk, O48, bx48, rowK, hTw, hsame⟩
   refine BoolK.mk (fun t3 => ?_) (fun t3 => ?_)
   ·have hml : m < xs[k].ks.length := by have := of_decide_eq_true t3; omega
    have hmK : m < K.length := by rw [hTw.1]; exact hml
    have hKm : K[m] = xs[k].ks[m] := by
     have := hsame m (Nat.le_refl _)
     rw [List.getElem?_eq_getElem hmK, List.getElem?_eq_getElem hml] at this
     exact Option.some.inj this
    obtain ⟨r1, b51, r2, r3⟩ := rowRd eI_f rowK (i := m) hmK
    have cl4 : w48.cell? ((⟨b34, 0, none⟩ : Addr).add 4) = some (.slice a42 l33 c42) := by rw [add_mk, bx48.blk.cell]; rfl
    have hbnd := ok.closed _ (List.getElem_mem hlt) _ (List.getElem_mem hml)
    refine ⟨_, _, _, cl4, r1, adK r2 ⟨_, r3, by decide, BoolK.mk (fun t4 => ?_) (fun t4 => ?_)⟩⟩
    ·refine ⟨_, _, _, cl4, r1, adK r2 ⟨_, r3, r1, ?_⟩⟩
     rw [hKm, wrap_id (by omega) (by omega), wrap_succ (by omega)]
     obtain ⟨b56, v1, v2⟩ := RowR.setk rowK hmK (xs[k].ks[m] + (xs.length : Int)) (F := fun w57 => (∃ (m' : Nat) (K : List Int), ((m + 1 : Nat) : Int) = m' ∧ m' ≤ l33 ∧ OP w8 w57 ownK b15 root xs s RW ys ∧ Bx ownK 2 w57 b34 #[.string xs[k].kd, .int .i64 xs[k].n, .string xs[k].tx, .slice a32 l32 c32, .slice a42 l33 c42] 30 ∧ RowR ownK 3 3 1 eI w57 (a42, l33, c42) K ∧ TwK xs.length xs[k].ks K ∧ (∀ j, m' ≤ j → K[j]? = xs[k].ks[j]?)) ∧ l33 - (((m + 1 : Nat) : Int)).toNat < l33 - ((m : Nat) : Int).toNat) fun w57 hR u57 => by
      refine ⟨⟨m + 1, _, rfl, by omega, O48.upd u57 (by decide), bx48.upd u57 (by decide), hR, ⟨by simpa using hTw.1, fun m' k' e => ?_⟩, fun j hj => ?_⟩, by simp; omega⟩
      ·rw [List.getElem?_set] at e
       by_cases hmm : m = m'
       ·subst hmm
        rw [if_pos rfl, if_pos hmK] at e
        cases e
        exact ⟨_, List.getElem?_eq_getElem hml, .inr rfl⟩
       ·rw [if_neg hmm] at e; exact hTw.2 m' k' e
      ·rw [List.getElem?_set, if_neg (by omega)]; exact hsame j (by omega)
     exact adK v1 v2
    ·rw [wrap_succ (by omega)]
     exact ⟨⟨m + 1, K, rfl, by omega, O48, bx48, rowK, hTw, fun j hj => hsame j (by omega)⟩, by simp; omega⟩
   ·have cl : ∀ j : Nat, w48.cell? ((⟨b34, 0, none⟩ : Addr).add j) = #[Value.string xs[k].kd, .int .i64 xs[k].n, .string xs[k].tx, .slice a32 l32 c32, .slice a42 l33 c42][j]? := fun j => by rw [add_mk, bx48.blk.cell, Nat.zero_add]
    have hcap : ys.length < 1000 := by
     have : c * xs.length ≤ 1 * xs.length := Nat.mul_le_mul_right _ (by omega)
     omega
    refine ⟨_, _, _, O48.cells.2.2, _, cl 0, _, cl 1, _, cl 2, _, _, _, cl 3, _, _, _, cl 4, ?_⟩
    have hF : ∀ k, sblk (a42, l33, c42) = some k → ownK k = some 3 := rowK.2
    have OD := O48.drop hF (by decide)
    have FK := RowR.toF rowK
    generalize dropOwn ownK (sblk (a42, l33, c42)) = ownD at OD FK
    refine RowR.push (⟨xs[k].kd, xs[k].n, xs[k].tx, (a32, l32, c32), (a42, l33, c42)⟩ : Rw) sltN OD.out eN_len eN_one (by rw [OD.len]; omega) rfl fun s' w67 rowO uO => ?_
    refine OD.more hys hlt (y := ⟨xs[k].kd, xs[k].n, xs[k].tx, xs[k].fs, K⟩) ⟨rfl, rfl, rfl, rfl, hTw⟩ rfl rfl rfl n6 FK uO rowO fun w68 O68 => ?_
    rw [wrap_succ (by omega)]
    exact ⟨⟨k + 1, _, _, _, _, rfl, by omega, by simp; omega, O68⟩, by simp; omega⟩
  ·have : k = xs.length := by have := of_decide_eq_false t2; omega
   subst this
   rw [wrap_succ (by omega)]
   exact ⟨⟨c + 1, own, s, RW, ys, rfl, by omega, by rw [hys, Nat.succ_mul], hO⟩, by simp; omega⟩
 have : c = 2 := by have := of_decide_eq_false t; omega
 subst this
 refine ⟨fun w' => ∃ own s RW r, (r = root ∨ r = root + xs.length) ∧ OP w8 w' own b15 r xs s RW ys, ?_, by decide, BoolK.mk (fun t2 => ?_) (fun t2 => ?_)⟩
 ·rintro w70 ⟨own, s, RW, r, hr2, hO⟩
  obtain ⟨okh, heq⟩ := Twi.ok hO.twi ok h500 hys hr2
  have ylen : ys.length ≤ 1000000 := by omega
  have like : ∀ y ∈ ys, y.fs.length + y.ks.length ≤ 5000 := fun y hy => by
   obtain ⟨q, hq⟩ := List.getElem?_of_mem hy
   obtain ⟨x, t1, t2⟩ := hO.twi q y hq
   rw [t2.2.2.2.1, t2.2.2.2.2.1]
   exact (lt.2 x (List.mem_of_getElem? t1)).2.1
  have limh : Lim ys := fun y hy => by have := like y hy; omega
  have X70 := hO.loc.below
  obtain ⟨_, g1, g0⟩ := blkAt2 (hB8.ext X70)
  refine ⟨_, g0, _, _, _, g1, (ctr7 w70 root xs c1 (RNds.at g8 X70) lt.lim.1 (fun x hx => by have := (lt.2 x hx).2.1; omega) (ht.ext (y8.trans X70)) (hm.ext (y8.trans X70))).mono ?_⟩
  rintro en w75 ⟨s73, x74, rfl, hT1, x75⟩
  have O75 := hO.ext x75
  have X75 := O75.loc.below
  refine ⟨_, _, rfl, _, O75.cells.2.1, _, _, _, O75.cells.2.2, (ctr7 w75 r ys s.2.2 (O75.nodes g8 ylen) limh (fun y hy => by have := like y hy; omega) (ht.ext (y8.trans X75)) (hm.ext (y8.trans X75))).mono ?_⟩
  rintro en w81 ⟨s79, x80, rfl, hT2, x81⟩
  have O81 := O75.ext x81
  have X81 := O81.loc.below
  obtain ⟨_, g1, g0⟩ := blkAt2 (hB8.ext X81)
  refine ⟨_, _, rfl, _, g0, _, _, _, g1, _, O81.cells.2.1, _, _, _, O81.cells.2.2, (ctr8 w81 root r xs ys c1 s.2.2 (RNds.at g8 X81) (O81.nodes g8 ylen) lt.lim.1 limh (ht.ext (y8.trans X81))).mono ?_⟩
  rintro en w88 ⟨p87, rfl, hE, x88⟩
  have X88 := X81.trans x88
  have hp : p87 = true := hE.2 ⟨ok, okh, heq⟩
  subst hp
  rcases hT1 with ⟨_, rfl, out1, hL1, hs1, _⟩ | ⟨no, _⟩
  rotate_left
  ·exact absurd ok no
  rcases hT2 with ⟨_, rfl, out2, hL2, hs2, _⟩ | ⟨no, _⟩
  rotate_left
  ·exact absurd okh no
  have e12 : out1 = out2 := Least.uniq hL1 hL2 heq
  have es : s73 = s79 := ba_of_bl (by rw [hs1, hs2, e12])
  refine ⟨_, rfl, BoolK.mk (fun _ => BoolK.mk (fun _ => BoolK.mk (fun _ => BoolK.mk (fun _ => awakeK (y8.trans X88)) (fun t => ?_)) (fun t => by simp at t)) (fun t => by simp at t)) (fun t => by cases t)⟩
  rw [es] at t
  simp at t
 ·refine ⟨_, hO.cells.1, ?_⟩
  rw [wrap_id (by omega) (by omega)]
  exact hO.reroot _ fun w94 O94 => ⟨own, s, RW, _, .inr rfl, O94⟩
 ·exact ⟨own, s, RW, root, .inl rfl, hO⟩
end Go.Proofs.YtbiamhoonhjodadGreatDoor
