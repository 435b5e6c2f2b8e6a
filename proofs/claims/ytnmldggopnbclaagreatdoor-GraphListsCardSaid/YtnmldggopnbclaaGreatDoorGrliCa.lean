/- A part of the proof: plain forms of functions and laws about them. -/
import Derived.Test.YtnmldggopnbclaaGreatDoorGrliBz
namespace Go.Proofs.YtnmldggopnbclaaGreatDoor
open Go Go.V Go.Proofs
open Go.RowKit (Below)
/-! manystrand/manystrandlaw05.GraphLists -/
def N3 (a1 : Option Addr) (l1 : Nat) (c1 : Nat) (x2 : Int) (a3 : Option Addr) (l3 : Nat) (c3 : Nat) (K : Bool → World → Prop) (w : World) : Prop :=
 AllocK w (#[(.int .i64 x2), (.slice a3 l3 c3)]) 25 fun b4 w5 =>
 ∃ (J6 : Bool → World → Prop),
 (∀ w7 p8, J6 p8 w7 →
 BoolK p8
 (Calls Tryz.prog 5 #[] w7 fun e11 w10 =>
 ∃ p9, e11 = .returned (.bool p9) ∧
 (K p9 w10))
 (∃ (I12 : Int → World → Prop) (μ13 : Int → World → Nat),
 (I12 0 w7 ∧ True) ∧
 ∀ w14 x15, I12 x15 w14 →
 BoolK (decide (x15 < l1))
 ((0 ≤ x15 ∧ x15 < l1) ∧
 AddrK a1 fun b16 =>
 ∃ x17, w14.cell? ((b16.add (x15.toNat * 2)).add 0) = some (.int .i64 x17) ∧
 (∃ a18 l18 c18, w14.cell? ((b16.add (x15.toNat * 2)).add 1) = some (.slice a18 l18 c18) ∧
 (AllocK w14 (#[.int .i64 0, .slice none 0 0]) 25 fun b19 w20 =>
 SetK w20 (b19.add 0) (.int .i64 x17) fun w21 =>
 SetK w21 (b19.add 1) (.slice a18 l18 c18) fun w22 =>
 ∃ x23, w22.cell? (b19.add 0) = some (.int .i64 x23) ∧
 (∃ a24 l24 c24, w22.cell? (b19.add 1) = some (.slice a24 l24 c24) ∧
 (Calls Tryz.prog 4 #[(.agg #[(.int .i64 x23), (.slice a24 l24 c24)])] w22 fun e27 w26 =>
 ∃ p25, e27 = .returned (.bool p25) ∧
 (BoolK (!p25)
 (Calls Tryz.prog 5 #[] w26 fun e30 w29 =>
 ∃ p28, e30 = .returned (.bool p28) ∧
 (K p28 w29))
 (I12 (IntKind.wrap .i64 (x15 + 1)) w26 ∧ μ13 (IntKind.wrap .i64 (x15 + 1)) w26 < μ13 x15 w14)))))))
 (Calls Tryz.prog 6 #[(.slice a1 l1 c1)] w14 fun e35 w34 =>
 ∃ x31, ∃ a32, ∃ l32, ∃ c32, ∃ x33, e35 = .returned (.tuple #[(.agg #[(.int .i64 x31), (.slice a32 l32 c32)]), (.int .i64 x33)]) ∧
 (AllocK w34 (#[.int .i64 0, .slice none 0 0]) 25 fun b36 w37 =>
 SetK w37 (b36.add 0) (.int .i64 x31) fun w38 =>
 SetK w38 (b36.add 1) (.slice a32 l32 c32) fun w39 =>
 Calls Tryz.prog 7 #[(.slice a1 l1 c1)] w39 fun e44 w43 =>
 ∃ x40, ∃ a41, ∃ l41, ∃ c41, ∃ x42, e44 = .returned (.tuple #[(.agg #[(.int .i64 x40), (.slice a41 l41 c41)]), (.int .i64 x42)]) ∧
 (AllocK w43 (#[.int .i64 0, .slice none 0 0]) 25 fun b45 w46 =>
 SetK w46 (b45.add 0) (.int .i64 x40) fun w47 =>
 SetK w47 (b45.add 1) (.slice a41 l41 c41) fun w48 =>
 BoolK (x33 != x42)
 (K false w48)
 (∃ x49, w48.cell? (b36.add 0) = some (.int .i64 x49) ∧
 (∃ a50 l50 c50, w48.cell? (b36.add 1) = some (.slice a50 l50 c50) ∧
 (∃ x51, w48.cell? (b45.add 0) = some (.int .i64 x51) ∧
 (∃ a52 l52 c52, w48.cell? (b45.add 1) = some (.slice a52 l52 c52) ∧
 (Calls Tryz.prog 8 #[(.agg #[(.int .i64 x49), (.slice a50 l50 c50)]), (.agg #[(.int .i64 x51), (.slice a52 l52 c52)])] w48 fun e55 w54 =>
 ∃ p53, e55 = .returned (.bool p53) ∧
 (BoolK (!p53)
 (K false w54)
 (∃ (J56 : World → Prop),
 (∀ w57, J56 w57 →
 ∃ x58, w57.cell? (b4.add 0) = some (.int .i64 x58) ∧
 (∃ a59 l59 c59, w57.cell? (b4.add 1) = some (.slice a59 l59 c59) ∧
 (Calls Tryz.prog 9 #[(.agg #[(.int .i64 x58), (.slice a59 l59 c59)])] w57 fun e63 w62 =>
 ∃ a60, ∃ l60, ∃ c60, ∃ x61, e63 = .returned (.tuple #[(.slice a60 l60 c60), (.int .i64 x61)]) ∧
 (∃ x64, w62.cell? (b4.add 0) = some (.int .i64 x64) ∧
 (∃ a65 l65 c65, w62.cell? (b4.add 1) = some (.slice a65 l65 c65) ∧
 (Calls Tryz.prog 11 #[(.agg #[(.int .i64 x64), (.slice a65 l65 c65)])] w62 fun e69 w68 =>
 ∃ a66, ∃ l66, ∃ c66, ∃ x67, e69 = .returned (.tuple #[(.slice a66 l66 c66), (.int .i64 x67)]) ∧
 (BoolK (x61 != x67)
 (K false w68)
 (BoolK ((l60 : Int) != l66)
 (K false w68)
 (∃ (I70 : Int → World → Prop) (μ71 : Int → World → Nat),
 (I70 0 w68 ∧ True) ∧
 ∀ w72 x73, I70 x73 w72 →
 BoolK (decide (x73 < l60))
 (DrewK w72 fun w74 =>
 (0 ≤ x73 ∧ x73 < l60) ∧
 AddrK a60 fun b75 =>
 ∃ x76, w74.cell? ((b75.add (x73.toNat * 2)).add 0) = some (.int .i64 x76) ∧
 (∃ a77 l77 c77, w74.cell? ((b75.add (x73.toNat * 2)).add 1) = some (.slice a77 l77 c77) ∧
 ((0 ≤ x73 ∧ x73 < l66) ∧
 AddrK a66 fun b78 =>
 ∃ x79, w74.cell? ((b78.add (x73.toNat * 2)).add 0) = some (.int .i64 x79) ∧
 (∃ a80 l80 c80, w74.cell? ((b78.add (x73.toNat * 2)).add 1) = some (.slice a80 l80 c80) ∧
 (Calls Tryz.prog 8 #[(.agg #[(.int .i64 x76), (.slice a77 l77 c77)]), (.agg #[(.int .i64 x79), (.slice a80 l80 c80)])] w74 fun e83 w82 =>
 ∃ p81, e83 = .returned (.bool p81) ∧
 (BoolK (!p81)
 (K false w82)
 (I70 (IntKind.wrap .i64 (x73 + 1)) w82 ∧ μ71 (IntKind.wrap .i64 (x73 + 1)) w82 < μ71 x73 w72)))))))
 (Calls Tryz.prog 5 #[] w72 fun e86 w85 =>
 ∃ p84, e86 = .returned (.bool p84) ∧
 (K p84 w85))))))))))) ∧
 (BoolK (x33 == 0)
 (∃ x87, w54.cell? (b36.add 0) = some (.int .i64 x87) ∧
 (∃ a88 l88 c88, w54.cell? (b36.add 1) = some (.slice a88 l88 c88) ∧
 (Calls Tryz.prog 9 #[(.agg #[(.int .i64 x87), (.slice a88 l88 c88)])] w54 fun e92 w91 =>
 ∃ a89, ∃ l89, ∃ c89, ∃ x90, e92 = .returned (.tuple #[(.slice a89 l89 c89), (.int .i64 x90)]) ∧
 (BoolK (x90 != 0)
 (K false w91)
 (BoolK ((l89 : Int) != l1)
 (K false w91)
 (∃ (I93 : Int → World → Prop) (μ94 : Int → World → Nat),
 (I93 0 w91 ∧ True) ∧
 ∀ w95 x96, I93 x96 w95 →
 BoolK (decide (x96 < l89))
 ((0 ≤ x96 ∧ x96 < l1) ∧
 AddrK a1 fun b97 =>
 ∃ x98, w95.cell? ((b97.add (x96.toNat * 2)).add 0) = some (.int .i64 x98) ∧
 (∃ a99 l99 c99, w95.cell? ((b97.add (x96.toNat * 2)).add 1) = some (.slice a99 l99 c99) ∧
 (Calls Tryz.prog 10 #[(.agg #[(.int .i64 x98), (.slice a99 l99 c99)])] w95 fun e104 w103 =>
 ∃ x100, ∃ a101, ∃ l101, ∃ c101, ∃ x102, e104 = .returned (.tuple #[(.agg #[(.int .i64 x100), (.slice a101 l101 c101)]), (.int .i64 x102)]) ∧
 (AllocK w103 (#[.int .i64 0, .slice none 0 0]) 25 fun b105 w106 =>
 SetK w106 (b105.add 0) (.int .i64 x100) fun w107 =>
 SetK w107 (b105.add 1) (.slice a101 l101 c101) fun w108 =>
 DrewK w108 fun w109 =>
 ∃ x110, w109.cell? (b105.add 0) = some (.int .i64 x110) ∧
 (∃ a111 l111 c111, w109.cell? (b105.add 1) = some (.slice a111 l111 c111) ∧
 ((0 ≤ x96 ∧ x96 < l89) ∧
 AddrK a89 fun b112 =>
 ∃ x113, w109.cell? ((b112.add (x96.toNat * 2)).add 0) = some (.int .i64 x113) ∧
 (∃ a114 l114 c114, w109.cell? ((b112.add (x96.toNat * 2)).add 1) = some (.slice a114 l114 c114) ∧
 (Calls Tryz.prog 8 #[(.agg #[(.int .i64 x110), (.slice a111 l111 c111)]), (.agg #[(.int .i64 x113), (.slice a114 l114 c114)])] w109 fun e117 w116 =>
 ∃ p115, e117 = .returned (.bool p115) ∧
 (BoolK (!p115)
 (K false w116)
 (I93 (IntKind.wrap .i64 (x96 + 1)) w116 ∧ μ94 (IntKind.wrap .i64 (x96 + 1)) w116 < μ94 x96 w95))))))))))
 (J56 w95)))))))
 (J56 w54)))))))))))))) ∧
 (BoolK (decide ((l1 : Int) > 20))
 (J6 true w5)
 (∃ x118, w5.cell? (b4.add 0) = some (.int .i64 x118) ∧
 (∃ a119 l119 c119, w5.cell? (b4.add 1) = some (.slice a119 l119 c119) ∧
 (Calls Tryz.prog 4 #[(.agg #[(.int .i64 x118), (.slice a119 l119 c119)])] w5 fun e122 w121 =>
 ∃ p120, e122 = .returned (.bool p120) ∧
 (J6 (!p120) w121)))))
def ann3 : Ann := (.two .nil (.two (.cut [(26, (.one .bool))] [0, 3] .nil (.two (.two .nil .nil) .nil)) (.two (.two .nil (.one (.loop [(30, (.one (.int .i64)))] [0, 3, 28, 29] (.two .nil (.two (.two .nil .nil) (.two (.one (.two .nil (.two .nil (.two (.two .nil .nil) .nil)))) .nil)))))) (.two .nil (.two .nil (.two (.two .nil (.two (.two .nil .nil) .nil)) (.cut [] [3] (.two .nil (.two (.two .nil (.two (.two .nil (.two (.two .nil .nil) .nil)) (.two .nil (.one (.loop [(76, (.one (.int .i64)))] [0, 3, 11, 75] (.two .nil (.two (.two .nil .nil) (.two (.one (.two .nil (.two .nil (.two (.anyC 5 (.take 0 (.take 1 (.take 2 (.take 3 (.take 4 .done)))))) (.two (.two .nil .nil) .nil))))) .nil)))))))) .nil)) (.two .nil (.two .nil (.two (.two .nil (.two (.two .nil .nil) .nil)) (.two (.two .nil (.one (.loop [(117, (.one (.int .i64)))] [16, 17, 116] (.two .nil (.two (.two .nil .nil) (.two (.one (.two .nil (.two (.anyC 8 (.take 0 (.take 1 (.take 2 (.take 3 (.take 4 (.take 5 (.take 6 (.take 7 .done))))))))) (.two (.two .nil .nil) .nil)))) .nil)))))) (.two .nil .nil))))))))))))
noncomputable def code3 : Code := match Tryz.f3.body with | some c => c | none => .skip
theorem calls3 (a1 : Option Addr) (l1 : Nat) (c1 : Nat) (x2 : Int) (a3 : Option Addr) (l3 : Nat) (c3 : Nat) (K : Bool → World → Prop) (w : World) (h : N3 a1 l1 c1 x2 a3 l3 c3 K w) : Calls Tryz.prog 3 #[(.slice a1 l1 c1), (.agg #[(.int .i64 x2), (.slice a3 l3 c3)])] w fun en w' => ∃ (p123 : Bool), en = .returned (.bool p123) ∧ K p123 w' :=
 fn_calls tabOk mixed Tryz.func3 (by kernel_rfl : Tryz.f3.body = some code3) ann3 [(.slice a1 l1 c1), (.agg #[(.int .i64 x2), (.slice a3 l3 c3)])] [(.one .bool)] K w (by kernel_rfl) (by kernel_rfl) (by kernel_rfl) h
end Go.Proofs.YtnmldggopnbclaaGreatDoor

namespace Go.Proofs.YtnmldggopnbclaaGreatDoor
open Go Go.V Go.Proofs Go.V.Gr
open Go.RowKit (Below)
theorem ItP.uniq {root : Int} {xs : List Nd} {e e' : Int} {o o' : List (List Nd)} (h : ItP root xs e o) (k : ItP root xs e' o') : e = e' ∧ o = o' := by
 rcases h with ⟨n, rfl, rfl⟩ | ⟨g, ⟨gs, h1, rfl, h3, h4⟩ | ⟨h1, rfl, rfl⟩⟩ <;> rcases k with ⟨n', rfl, rfl⟩ | ⟨g', ⟨gs', k1, rfl, k3, k4⟩ | ⟨k1, rfl, rfl⟩⟩
 ·exact ⟨rfl, rfl⟩
 ·exact absurd g' n
 ·exact absurd g' n
 ·exact absurd g n'
 ·refine ⟨rfl, ?_⟩
  have hl := h1.uniq_len k1
  apply List.ext_getElem (by omega)
  intro j p1 p2
  have e1 := List.getElem?_eq_getElem (l := gs) (i := j) (by omega)
  have e2 := List.getElem?_eq_getElem (l := gs') (i := j) (by omega)
  exact Least.uniq (h4 j _ _ e1 (List.getElem?_eq_getElem p1)) (k4 j _ _ e2 (List.getElem?_eq_getElem p2)) (ListAt.uniq h1 k1 j _ _ e1 e2)
 ·exact absurd ⟨gs, h1⟩ k1
 ·exact absurd g n'
 ·exact absurd ⟨gs', k1⟩ h1
 ·exact ⟨rfl, rfl⟩
theorem Big.gr {xs : List Nd} (h : Big xs) {i : Nat} (hi : i < xs.length) : GrOk (i : Int) xs xs.length := ⟨Nat.le_refl _, ⟨by omega, by omega⟩, h.nds⟩
set_option maxRecDepth 100000 in
theorem ctr3 (w : World) (gs : List (Int × List Nd)) {a1 : Option Addr} {l1 : Nat} (c1 : Nat) (h : RL 2 RGr w a1 l1 gs) (zg : ∀ g ∈ gs, Szd g.2) (root : Int) (xs : List Nd) {a3 : Option Addr} {l3 : Nat} (c3 : Nat) (hx : RNds w a3 l3 xs) (zx : Szd xs) (ht : Tb w) :
  Calls Tryz.prog 3 #[.slice a1 l1 c1, .agg #[.int .i64 root, .slice a3 l3 c3]] w fun en w' => ∃ p, en = .returned (.bool p) ∧ (p = true ∧ Ext w w') := by
 refine calls3 _ _ _ _ _ _ _ _ w ?_
 have hl := h.len
 subst hl
 refine AllocK.mk fun b4 w5 hb4 hB4 x5 => ?_
 obtain ⟨g0, g1, _⟩ := blkAt2 hB4
 refine ⟨fun p w' => Ext w5 w' ∧ (p = false → gs.length ≤ 20 ∧ LightOk xs), ?_, BoolK.mk (fun t => ⟨Ext.refl w5, fun e => by cases e⟩) (fun t => ⟨_, g0, _, _, _, g1, (ctr4 w5 root xs c3 (RNds.at hx x5) zx).mono ?_⟩)⟩
 rotate_left
 ·rintro en w121 ⟨p, rfl, hp, x121⟩
  refine ⟨_, rfl, x121, fun e => ⟨?_, hp (by simpa using e)⟩⟩
  have := of_decide_eq_false t; omega
 rintro w7 p8 ⟨x7, hJ⟩
 have y7 := x5.trans x7
 refine BoolK.mk (fun _ => awakeK y7) (fun t => ?_)
 obtain ⟨hn, hlx⟩ := hJ t
 clear hJ t p8
 refine ⟨fun x w' => ∃ k : Nat, x = k ∧ k ≤ gs.length ∧ Ext w7 w' ∧ ∀ (j : Nat) g, j < k → gs[j]? = some g → LightOk g.2, fun x _ => gs.length - x.toNat, ⟨⟨0, rfl, by omega, Ext.refl w7, fun j g hj => by omega⟩, trivial⟩, ?_⟩
 rintro w14 _ ⟨k, rfl, hkl, x14, hall⟩
 refine BoolK.mk (fun t => ?_) (fun t => ?_)
 ·have hlt : k < gs.length := by have := of_decide_eq_true t; omega
  obtain ⟨b16, ha, q0, a18, l18, c18, q1, q2⟩ := grAt h (y7.trans x14) hlt
  refine ⟨⟨by omega, by omega⟩, adK ha ⟨_, q0, _, _, _, q1, local2 fun b19 w22 hb19 hB19 x22 => ?_⟩⟩
  obtain ⟨d0, d1, _⟩ := blkAt2 hB19
  refine ⟨_, d0, _, _, _, d1, (ctr4 w22 gs[k].1 gs[k].2 c18 (RNds.at q2 x22) (zg _ (List.getElem_mem hlt))).mono ?_⟩
  rintro en w26 ⟨p, rfl, hp, x26⟩
  have x26' := (x14.trans x22).trans x26
  refine ⟨_, rfl, BoolK.mk (fun _ => awakeK (y7.trans x26')) (fun t2 => ?_)⟩
  rw [wrap_succ (by omega)]
  refine ⟨⟨k + 1, rfl, by omega, x26', fun j g hj e => ?_⟩, by simp; omega⟩
  rcases Nat.lt_or_ge j k with hjk | hjk
  ·exact hall j g hjk e
  ·have : j = k := by omega
   subst this
   rw [List.getElem?_eq_getElem hlt] at e
   cases e; exact hp (by simpa using t2)
 have hkk : k = gs.length := by have := of_decide_eq_false t; omega
 subst hkk
 have lightA : ∀ g ∈ gs, LightOk g.2 := fun g hg => by
  obtain ⟨j, hj⟩ := List.getElem?_of_mem hg
  exact hall j g (List.getElem?_eq_some_iff.1 hj).1 hj
 clear hall t
 have y14 := y7.trans x14
 have atG : ∀ {w'}, Ext w w' → RL 2 RGr w' a1 gs.length gs := fun x => ⟨h.1.ext RGr.mono x, h.2⟩
 refine (ctr6 w14 gs c1 (atG y14) lightA hn (ht.ext y14)).mono ?_
 rintro en w34 ⟨x31, a32, l32, c32, e33, rfl, ⟨rfl, outA, hA, hNA⟩, x34⟩
 refine ⟨_, _, _, _, _, rfl, local2 fun b36 w39 hb36 hB36 x39 => ?_⟩
 have y39 := (y14.trans x34).trans x39
 refine (ctr7 w39 gs c1 (atG y39) lightA hn).mono ?_
 rintro en w43 ⟨x40, a41, l41, c41, e42, rfl, ⟨rfl, outB, hB, hNB⟩, x43⟩
 obtain ⟨rfl, rfl⟩ := hA.uniq hB
 refine ⟨_, _, _, _, _, rfl, local2 fun b45 w48 hb45 hB45 x48 => BoolK.mk (fun t => by simp at t) (fun _ => ?_)⟩
 have y48 := (y39.trans x43).trans x48
 have hB36 := hB36.ext (x43.trans x48)
 obtain ⟨d0, d1, _⟩ := blkAt2 hB36
 obtain ⟨e0, e1, _⟩ := blkAt2 hB45
 have hNA48 := RNds.at hNA ((x39.trans x43).trans x48)
 refine ⟨_, d0, _, _, _, d1, _, e0, _, _, _, e1, (ctr8 w48 0 0 outA outA c32 c41 hNA48 (RNds.at hNB x48)).mono ?_⟩
 rintro en w54 ⟨p53, rfl, hp53, x54⟩
 have hp53 : p53 = true := hp53.2 ⟨rfl, rfl⟩
 subst hp53
 have y54 := y48.trans x54
 refine ⟨_, rfl, BoolK.mk (fun t => by cases t) (fun _ => ?_)⟩
 refine ⟨fun w' => Ext w7 w' ∧ Ext w w', ?_, BoolK.mk (fun t => ?_) (fun t => ⟨((((x14.trans x34).trans x39).trans x43).trans x48).trans x54, y54⟩)⟩
 ·-- the items of the graph
  rintro w57 ⟨x57, y57⟩
  obtain ⟨g0, g1, _⟩ := blkAt2 (hB4.ext (x7.trans x57))
  have hk5 := bigW hlx
  refine ⟨_, g0, _, _, _, g1, (ctr9 w57 root xs c3 (RNds.at hx y57) hk5 (ht.ext y57)).mono ?_⟩
  rintro en w62 ⟨a60, l60, c60, e61, rfl, ⟨m, hm, hM⟩, x62⟩
  have y62 := y57.trans x62
  obtain ⟨g0, g1, _⟩ := blkAt2 (hB4.ext ((x7.trans x57).trans x62))
  refine ⟨_, _, _, _, rfl, _, g0, _, _, _, g1, (ctr11 w62 root xs c3 (RNds.at hx y62) hk5 hlx.lim.2).mono ?_⟩
  rintro en w68 ⟨a66, l66, c66, e67, rfl, ⟨n, hn', hN⟩, x68⟩
  obtain ⟨rfl, rfl⟩ := hm.uniq hn'
  have el : l60 = m.length := by have := hM.len; simpa using this
  have el' : l66 = m.length := by have := hN.len; simpa using this
  subst el; subst el'
  refine ⟨_, _, _, _, rfl, BoolK.mk (fun t => by simp at t) (fun _ => BoolK.mk (fun t => by simp at t) (fun _ => ?_))⟩
  have hM := (⟨hM.1.ext RGr.mono x68, hM.2⟩ : RL 2 RGr w68 a60 m.length (m.map fun g => ((0 : Int), g)))
  have hmx := hM.2
  simp only [maxLen] at hmx
  refine ⟨fun x w' => ∃ k : Nat, x = k ∧ k ≤ m.length ∧ Ext w68 w', fun x _ => m.length - x.toNat, ⟨⟨0, rfl, by omega, Ext.refl w68⟩, trivial⟩, ?_⟩
  rintro w72 _ ⟨k, rfl, hk, x72⟩
  refine BoolK.mk (fun t => ?_) (fun t => awakeK ((y62.trans x68).trans x72))
  have hlt : k < m.length := by have := of_decide_eq_true t; omega
  refine DrewK.mk fun w74 x74 => ?_
  have x74' := x72.trans x74
  obtain ⟨b75, ha, q0, a77, l77, c77, q1, q2⟩ := grAt hM x74' (i := k) (by simpa using hlt)
  obtain ⟨b78, hb, r0, a80, l80, c80, r1, r2⟩ := grAt hN x74' (i := k) (by simpa using hlt)
  simp only [List.getElem_map] at q0 q2 r0 r2
  refine ⟨⟨by omega, by omega⟩, adK ha ⟨_, q0, _, _, _, q1, ⟨by omega, by omega⟩, adK hb ⟨_, r0, _, _, _, r1, (ctr8 w74 0 0 m[k] m[k] c77 c80 q2 r2).mono ?_⟩⟩⟩
  rintro en w82 ⟨p81, rfl, hp81, x82⟩
  have hp81 : p81 = true := hp81.2 ⟨rfl, rfl⟩
  subst hp81
  refine ⟨_, rfl, BoolK.mk (fun t => by cases t) (fun _ => ?_)⟩
  rw [wrap_succ (by omega)]
  exact ⟨⟨k + 1, rfl, by omega, x74'.trans x82⟩, by simp; omega⟩
 ·-- the items of the list
  have t : e33 = 0 := by simpa using t
  subst t
  rcases hA with ⟨_, e, _⟩ | ⟨okA, G, at_, o, big, hGl, hL, hLo, ⟨_, e, _⟩ | ⟨ho, _, rfl⟩⟩
  ·cases e
  ·cases e
  have okG := big.gr hL.lt
  have okO := Least.ok hLo okG hL.lt
  have okO : GrOk 0 outA 1000 := ⟨ho, okO.root, okO.nds⟩
  have hkO := least_ksC hLo big.closed hL.lt big.ks
  have hLO : ListAt outA 0 (grL gs) := hL.of_eqv okO.closed okO.lt (Least.eqv hLo).symm
  obtain ⟨d0, d1, _⟩ := blkAt2 (hB36.ext x54)
  refine ⟨_, d0, _, _, _, d1, (ctr9 w54 0 outA c32 (RNds.at hNA48 x54) hkO (ht.ext y54)).mono ?_⟩
  rintro en w91 ⟨a89, l89, c89, e90, rfl, ⟨m, hm, hM⟩, x91⟩
  rcases hm with ⟨no, _⟩ | ⟨_, ⟨gs2, h1, rfl, h3, h4⟩ | ⟨h1, _⟩⟩
  ·exact absurd okO no
  rotate_left
  ·exact absurd ⟨_, hLO⟩ h1
  have hl2 : gs2.length = gs.length := by rw [h1.uniq_len hLO, grL_len]
  have el : l89 = gs.length := by have := hM.len; simp at this; omega
  subst el
  refine ⟨_, _, _, _, rfl, BoolK.mk (fun t => by simp at t) (fun _ => BoolK.mk (fun t => by simp at t) (fun _ => ?_))⟩
  have y91 := y54.trans x91
  refine ⟨fun x w' => ∃ k : Nat, x = k ∧ k ≤ gs.length ∧ Ext w91 w', fun x _ => gs.length - x.toNat, ⟨⟨0, rfl, by omega, Ext.refl w91⟩, trivial⟩, ?_⟩
  rintro w95 _ ⟨k, rfl, hk, x95⟩
  refine BoolK.mk (fun t => ?_) (fun t => ⟨((((((x14.trans x34).trans x39).trans x43).trans x48).trans x54).trans x91).trans x95, y91.trans x95⟩)
  have hlt : k < gs.length := by have := of_decide_eq_true t; omega
  have lk := lightA _ (List.getElem_mem hlt)
  have okk := okA _ (List.getElem_mem hlt)
  obtain ⟨b97, ha, q0, a99, l99, c99, q1, q2⟩ := grAt h (y91.trans x95) hlt
  refine ⟨⟨by omega, by omega⟩, adK ha ⟨_, q0, _, _, _, q1, (ctr10 w95 gs[k].1 gs[k].2 c99 q2 lk.lim.1 lk.lim.2).mono ?_⟩⟩
  rintro en w103 ⟨x100, a101, l101, c101, x102, rfl, hans⟩
  rcases hans with ⟨_, x103, rfl, ⟨i0, e1, rfl, out, hLk, hG⟩ | ⟨e, _⟩⟩ | ⟨nok, _⟩
  rotate_left
  ·cases e
  ·exact absurd okk nok
  cases e1
  refine ⟨_, _, _, _, _, rfl, local2 fun b105 w108 hb105 hB105 x108 => DrewK.mk fun w109 x109 => ?_⟩
  obtain ⟨f0, f1, _⟩ := blkAt2 (hB105.ext x109)
  have x109' := ((x95.trans x103).trans x108).trans x109
  obtain ⟨b112, hb, r0, a114, l114, c114, r1, r2⟩ := grAt hM x109' (i := k) (by simp; omega)
  simp only [List.getElem_map] at r0 r2
  have e1 := List.getElem?_eq_getElem (l := gs2) (i := k) (by omega)
  have e2 := grL_get hlt
  have heq : out = m[k]'(by omega) := Least.uniq hLk (h4 k _ _ e1 (List.getElem?_eq_getElem (by omega))) (ListAt.uniq hLO h1 k _ _ e2 e1)
  refine ⟨_, f0, _, _, _, f1, ⟨by omega, by omega⟩, adK hb ⟨_, r0, _, _, _, r1, (ctr8 w109 0 0 out (m[k]'(by omega)) c101 c114 ((hG.ext (x108.trans x109)).nodes) r2).mono ?_⟩⟩
  rintro en w116 ⟨p115, rfl, hp115, x116⟩
  have hp115 : p115 = true := hp115.2 ⟨rfl, heq⟩
  subst hp115
  refine ⟨_, rfl, BoolK.mk (fun t => by cases t) (fun _ => ?_)⟩
  rw [wrap_succ (by omega)]
  exact ⟨⟨k + 1, rfl, by omega, x109'.trans x116⟩, by simp; omega⟩
end Go.Proofs.YtnmldggopnbclaaGreatDoor
