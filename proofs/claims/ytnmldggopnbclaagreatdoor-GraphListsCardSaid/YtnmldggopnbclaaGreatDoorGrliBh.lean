/- A part of the proof: plain forms of functions and laws about them. -/
import Derived.Test.YtnmldggopnbclaaGreatDoorGrliBg
namespace Go.Proofs.YtnmldggopnbclaaGreatDoor
open Go Go.V Go.Proofs
open Go.RowKit (Below)
/-! manystrand/graph.isCons -/
def N41 (s1 : ByteArray) (x2 : Int) (s3 : ByteArray) (a4 : Option Addr) (l4 : Nat) (c4 : Nat) (a5 : Option Addr) (l5 : Nat) (c5 : Nat) (K : Bool → World → Prop) (w : World) : Prop :=
 AllocK w (#[(.string s1), (.int .i64 x2), (.string s3), (.slice a4 l4 c4), (.slice a5 l5 c5)]) 39 fun b6 w7 =>
 DrewK w7 fun w8 =>
 ∃ s9, w8.cell? b6 = some (.string s9) ∧
 (BoolK (s9.toList == (⟨#[114, 101, 99]⟩ : ByteArray).toList)
 (∃ s10, w8.cell? (b6.add 2) = some (.string s10) ∧
 (BoolK (s10.toList == (⟨#[124]⟩ : ByteArray).toList)
 (∃ a11 l11 c11, w8.cell? (b6.add 3) = some (.slice a11 l11 c11) ∧
 (Calls Tryz.prog 18 #[] w8 fun e14 w13 =>
 ∃ a12, ∃ l12, ∃ c12, e14 = .returned (.slice a12 l12 c12) ∧
 (Cel w8 w13 ∧
 (Calls Tryz.prog 69 #[(.slice a11 l11 c11), (.slice a12 l12 c12)] w13 fun e17 w16 =>
 ∃ p15, e17 = .returned (.bool p15) ∧
 (K p15 w16)))))
 (K false w8)))
 (K false w8))
def ann41 : Ann := (.two .nil (.two (.anyC 12 (.take 0 (.take 1 (.take 2 (.take 3 (.take 4 (.take 5 (.take 6 (.take 7 (.take 8 (.take 9 (.take 10 (.one 11 .done))))))))))))) .nil))
noncomputable def code41 : Code := match Tryz.f41.body with | some c => c | none => .skip
theorem calls41 (s1 : ByteArray) (x2 : Int) (s3 : ByteArray) (a4 : Option Addr) (l4 : Nat) (c4 : Nat) (a5 : Option Addr) (l5 : Nat) (c5 : Nat) (K : Bool → World → Prop) (w : World) (h : N41 s1 x2 s3 a4 l4 c4 a5 l5 c5 K w) : Calls Tryz.prog 41 #[(.agg #[(.string s1), (.int .i64 x2), (.string s3), (.slice a4 l4 c4), (.slice a5 l5 c5)])] w fun en w' => ∃ (p18 : Bool), en = .returned (.bool p18) ∧ K p18 w' :=
 fn_calls tabOk mixed Tryz.func41 (by kernel_rfl : Tryz.f41.body = some code41) ann41 [(.agg #[(.string s1), (.int .i64 x2), (.string s3), (.slice a4 l4 c4), (.slice a5 l5 c5)])] [(.one .bool)] K w (by kernel_rfl) (by kernel_rfl) (by kernel_rfl) h
end Go.Proofs.YtnmldggopnbclaaGreatDoor

namespace Go.Proofs.YtnmldggopnbclaaGreatDoor
open Go Go.V Go.Proofs
open Go.RowKit (Below)
/-! manystrand/graph.isNil -/
def N42 (s1 : ByteArray) (x2 : Int) (s3 : ByteArray) (a4 : Option Addr) (l4 : Nat) (c4 : Nat) (a5 : Option Addr) (l5 : Nat) (c5 : Nat) (K : Bool → World → Prop) (w : World) : Prop :=
 AllocK w (#[(.string s1), (.int .i64 x2), (.string s3), (.slice a4 l4 c4), (.slice a5 l5 c5)]) 39 fun b6 w7 =>
 ∃ s8, w7.cell? b6 = some (.string s8) ∧
 (BoolK (s8.toList == (⟨#[114, 101, 99]⟩ : ByteArray).toList)
 (∃ s9, w7.cell? (b6.add 2) = some (.string s9) ∧
 (BoolK (s9.toList == (⟨#[110, 105, 108]⟩ : ByteArray).toList)
 (∃ a10 l10 c10, w7.cell? (b6.add 3) = some (.slice a10 l10 c10) ∧
 (K ((l10 : Int) == 0) w7))
 (K false w7)))
 (K false w7))
def ann42 : Ann := (.two .nil (.two .nil .nil))
noncomputable def code42 : Code := match Tryz.f42.body with | some c => c | none => .skip
theorem calls42 (s1 : ByteArray) (x2 : Int) (s3 : ByteArray) (a4 : Option Addr) (l4 : Nat) (c4 : Nat) (a5 : Option Addr) (l5 : Nat) (c5 : Nat) (K : Bool → World → Prop) (w : World) (h : N42 s1 x2 s3 a4 l4 c4 a5 l5 c5 K w) : Calls Tryz.prog 42 #[(.agg #[(.string s1), (.int .i64 x2), (.string s3), (.slice a4 l4 c4), (.slice a5 l5 c5)])] w fun en w' => ∃ (p11 : Bool), en = .returned (.bool p11) ∧ K p11 w' :=
 fn_calls tabOk mixed Tryz.func42 (by kernel_rfl : Tryz.f42.body = some code42) ann42 [(.agg #[(.string s1), (.int .i64 x2), (.string s3), (.slice a4 l4 c4), (.slice a5 l5 c5)])] [(.one .bool)] K w (by kernel_rfl) (by kernel_rfl) (by kernel_rfl) h
end Go.Proofs.YtnmldggopnbclaaGreatDoor

namespace Go.Proofs.YtnmldggopnbclaaGreatDoor
open Go Go.V Go.Proofs
open Go.RowKit (Below)
/-! manystrand/graph.pair -/
def N18 (K : Option Addr → Nat → Nat → World → Prop) (w : World) : Prop :=
 AllocK w (#[(.int .i64 1), (.string (⟨#[]⟩ : ByteArray)), (.int .i64 2), (.string (⟨#[]⟩ : ByteArray))]) 41 fun b1 w2 =>
 K (some b1) 2 2 w2
def ann18 : Ann := (.two .nil (.two .nil .nil))
noncomputable def code18 : Code := match Tryz.f18.body with | some c => c | none => .skip
theorem calls18 (K : Option Addr → Nat → Nat → World → Prop) (w : World) (h : N18 K w) : Calls Tryz.prog 18 #[] w fun en w' => ∃ (a3 : Option Addr), ∃ (l3 : Nat), ∃ (c3 : Nat), en = .returned (.slice a3 l3 c3) ∧ K a3 l3 c3 w' :=
 fn_calls tabOk mixed Tryz.func18 (by kernel_rfl : Tryz.f18.body = some code18) ann18 [] [(.one .slice)] K w (by kernel_rfl) (by kernel_rfl) (by kernel_rfl) h
end Go.Proofs.YtnmldggopnbclaaGreatDoor

namespace Go.Proofs.YtnmldggopnbclaaGreatDoor
open Go Go.V Go.Proofs
open Go.RowKit (Below)
/-! manystrand/graph.chain -/
def N24 (a1 : Option Addr) (l1 : Nat) (_c1 : Nat) (x2 : Int) (K : Option Addr → Nat → Nat → Bool → World → Prop) (w : World) : Prop :=
 ∃ m3, ∃ w4, Sem.run Tryz.prog (Instr.makeMap 86 none) w = .ok (.map m3) w4 ∧
 (∃ (J5 : Int → Option Addr → Nat → Nat → World → Prop),
 (∀ w6 x7 a8 l8 c8, J5 x7 a8 l8 c8 w6 →
 (0 ≤ x7 ∧ x7 < l1) ∧
 AddrK a1 fun b9 =>
 ∃ s10, w6.cell? ((b9.add (x7.toNat * 5)).add 0) = some (.string s10) ∧
 (∃ x11, w6.cell? ((b9.add (x7.toNat * 5)).add 1) = some (.int .i64 x11) ∧
 (∃ s12, w6.cell? ((b9.add (x7.toNat * 5)).add 2) = some (.string s12) ∧
 (∃ a13 l13 c13, w6.cell? ((b9.add (x7.toNat * 5)).add 3) = some (.slice a13 l13 c13) ∧
 (∃ a14 l14 c14, w6.cell? ((b9.add (x7.toNat * 5)).add 4) = some (.slice a14 l14 c14) ∧
 (Calls Tryz.prog 42 #[(.agg #[(.string s10), (.int .i64 x11), (.string s12), (.slice a13 l13 c13), (.slice a14 l14 c14)])] w6 fun e17 w16 =>
 ∃ p15, e17 = .returned (.bool p15) ∧
 (K a8 l8 c8 p15 w16))))))) ∧
 (∃ (I18 : Int → Option Addr → Nat → Nat → World → Prop) (μ19 : Int → Option Addr → Nat → Nat → World → Nat),
 (I18 x2 none 0 0 w4 ∧ True) ∧
 ∀ w20 x21 a22 l22 c22, I18 x21 a22 l22 c22 w20 →
 (0 ≤ x21 ∧ x21 < l1) ∧
 AddrK a1 fun b23 =>
 ∃ s24, w20.cell? ((b23.add (x21.toNat * 5)).add 0) = some (.string s24) ∧
 (∃ x25, w20.cell? ((b23.add (x21.toNat * 5)).add 1) = some (.int .i64 x25) ∧
 (∃ s26, w20.cell? ((b23.add (x21.toNat * 5)).add 2) = some (.string s26) ∧
 (∃ a27 l27 c27, w20.cell? ((b23.add (x21.toNat * 5)).add 3) = some (.slice a27 l27 c27) ∧
 (∃ a28 l28 c28, w20.cell? ((b23.add (x21.toNat * 5)).add 4) = some (.slice a28 l28 c28) ∧
 (Calls Tryz.prog 41 #[(.agg #[(.string s24), (.int .i64 x25), (.string s26), (.slice a27 l27 c27), (.slice a28 l28 c28)])] w20 fun e31 w30 =>
 ∃ p29, e31 = .returned (.bool p29) ∧
 (BoolK p29
 (∃ p32, ∃ w33, Sem.run Tryz.prog (Instr.lookup 86 (.map m3) (.int .i64 x21) false) w30 = .ok (.bool p32) w33 ∧
 (BoolK (!p32)
 (∃ w34, Sem.run Tryz.prog (Instr.mapUpdate 86 (.map m3) (.int .i64 x21) (.bool true)) w33 = .ok () w34 ∧
 (AllocK w34 (#[(.int .i64 x21)]) 3 fun b35 w36 =>
 ∃ a37, ∃ l37, ∃ c37, ∃ w38, Sem.run Tryz.prog (Builtin.append_ #[37, 37] 37 #[(.slice a22 l22 c22), (.slice (some b35) 1 1)]) w36 = .ok (.slice a37 l37 c37) w38 ∧
 ((0 ≤ x21 ∧ x21 < l1) ∧
 AddrK a1 fun b39 =>
 ∃ a40 l40 c40, w38.cell? ((b39.add (x21.toNat * 5)).add 4) = some (.slice a40 l40 c40) ∧
 ((0 ≤ (1 : Int) ∧ (1 : Int) < l40) ∧
 AddrK a40 fun b41 =>
 ∃ x42, w38.cell? (b41.add ((1 : Int).toNat * 1)) = some (.int .i64 x42) ∧
 (I18 x42 a37 l37 c37 w38 ∧ μ19 x42 a37 l37 c37 w38 < μ19 x21 a22 l22 c22 w20)))))
 (J5 x21 a22 l22 c22 w33)))
 (J5 x21 a22 l22 c22 w30)))))))))
def ann24 : Ann := (.two .nil (.two .nil (.two .nil (.cut [(1, (.one (.int .i64))), (6, (.one .slice))] [0] (.one (.loop [(1, (.one (.int .i64))), (6, (.one .slice))] [0, 7] (.two (.two .nil (.two .nil .nil)) (.one (.two .nil (.two .nil .nil)))))) (.two .nil .nil)))))
noncomputable def code24 : Code := match Tryz.f24.body with | some c => c | none => .skip
theorem calls24 (a1 : Option Addr) (l1 : Nat) (c1 : Nat) (x2 : Int) (K : Option Addr → Nat → Nat → Bool → World → Prop) (w : World) (h : N24 a1 l1 c1 x2 K w) : Calls Tryz.prog 24 #[(.slice a1 l1 c1), (.int .i64 x2)] w fun en w' => ∃ (a43 : Option Addr), ∃ (l43 : Nat), ∃ (c43 : Nat), ∃ (p44 : Bool), en = .returned (.tuple #[(.slice a43 l43 c43), (.bool p44)]) ∧ K a43 l43 c43 p44 w' :=
 fn_calls tabOk mixed Tryz.func24 (by kernel_rfl : Tryz.f24.body = some code24) ann24 [(.slice a1 l1 c1), (.int .i64 x2)] [(.one .slice), (.one .bool)] K w (by kernel_rfl) (by kernel_rfl) (by kernel_rfl) h
end Go.Proofs.YtnmldggopnbclaaGreatDoor

namespace Go.Proofs.YtnmldggopnbclaaGreatDoor
open Go Go.V Go.Proofs
open Go.RowKit (Below)
/-! slices.Equal[[]manystrand/api.Feat,manystrand/api.Feat] -/
def N69 (a1 : Option Addr) (l1 : Nat) (_c1 : Nat) (a2 : Option Addr) (l2 : Nat) (_c2 : Nat) (K : Bool → World → Prop) (w : World) : Prop :=
 BoolK ((l1 : Int) != l2)
 (K false w)
 (∃ (I3 : Int → World → Prop) (μ4 : Int → World → Nat),
 (I3 0 w ∧ True) ∧
 ∀ w5 x6, I3 x6 w5 →
 BoolK (decide (x6 < l1))
 (DrewK w5 fun w7 =>
 (0 ≤ x6 ∧ x6 < l1) ∧
 AddrK a1 fun b8 =>
 ∃ x9, w7.cell? ((b8.add (x6.toNat * 2)).add 0) = some (.int .i64 x9) ∧
 (∃ s10, w7.cell? ((b8.add (x6.toNat * 2)).add 1) = some (.string s10) ∧
 ((0 ≤ x6 ∧ x6 < l2) ∧
 AddrK a2 fun b11 =>
 ∃ x12, w7.cell? ((b11.add (x6.toNat * 2)).add 0) = some (.int .i64 x12) ∧
 (∃ s13, w7.cell? ((b11.add (x6.toNat * 2)).add 1) = some (.string s13) ∧
 (BoolK (!((x9 == x12) && ((s10 == s13) && (true))))
 (K false w7)
 (I3 (IntKind.wrap .i64 (x6 + 1)) w7 ∧ μ4 (IntKind.wrap .i64 (x6 + 1)) w7 < μ4 x6 w5))))))
 (K true w5))
def ann69 : Ann := (.two .nil (.two (.two .nil (.two (.two .nil .nil) .nil)) (.two (.two .nil (.one (.loop [(13, (.one (.int .i64)))] [0, 1, 12] (.two .nil (.two (.two .nil .nil) (.two (.one (.two .nil (.two (.anyC 9 (.take 0 (.take 1 (.take 2 (.take 3 (.take 4 (.take 5 (.take 6 (.take 7 (.take 8 .done)))))))))) (.two (.two .nil .nil) .nil)))) .nil)))))) (.two .nil .nil))))
noncomputable def code69 : Code := match Tryz.f69.body with | some c => c | none => .skip
theorem calls69 (a1 : Option Addr) (l1 : Nat) (c1 : Nat) (a2 : Option Addr) (l2 : Nat) (c2 : Nat) (K : Bool → World → Prop) (w : World) (h : N69 a1 l1 c1 a2 l2 c2 K w) : Calls Tryz.prog 69 #[(.slice a1 l1 c1), (.slice a2 l2 c2)] w fun en w' => ∃ (p14 : Bool), en = .returned (.bool p14) ∧ K p14 w' :=
 fn_calls tabOk mixed Tryz.func69 (by kernel_rfl : Tryz.f69.body = some code69) ann69 [(.slice a1 l1 c1), (.slice a2 l2 c2)] [(.one .bool)] K w (by kernel_rfl) (by kernel_rfl) (by kernel_rfl) h
end Go.Proofs.YtnmldggopnbclaaGreatDoor

namespace Go.Proofs.YtnmldggopnbclaaGreatDoor
open Go Go.V Go.Proofs Go.V.Gr
open Go.RowKit (Below)
def pairL : List Ft := [(1, ⟨#[]⟩), (2, ⟨#[]⟩)]
theorem ctr18 (w : World) : Calls Tryz.prog 18 #[] w fun en w' => ∃ a l c, en = .returned (.slice a l c) ∧ (RL 2 RFt w' a l pairL ∧ Ext w w') := by
 refine calls18 _ w ?_
 refine AllocK.mk fun b w2 hb hB hx => ⟨⟨⟨rfl, .inr ⟨b, 0, rfl, fun i x hi => ?_⟩⟩, by simp [maxLen]⟩, hx⟩
 match i, hi with
 | 0, hi => cases hi; exact ⟨(hB.cell _).trans rfl, (hB.cell _).trans rfl, by decide⟩
 | 1, hi => cases hi; exact ⟨(hB.cell _).trans rfl, (hB.cell _).trans rfl, by decide⟩
 | i + 2, hi => simp [pairL] at hi
theorem ctr69 (w : World) {a1 a2 : Option Addr} {l1 l2 : Nat} (c1 c2 : Nat) {fs gs : List Ft} (h1 : RL 2 RFt w a1 l1 fs) (h2 : RL 2 RFt w a2 l2 gs) :
  Calls Tryz.prog 69 #[.slice a1 l1 c1, .slice a2 l2 c2] w fun en w' => ∃ p, en = .returned (.bool p) ∧ (p = decide (fs = gs) ∧ Ext w w') := by
 refine calls69 _ _ _ _ _ _ _ w ?_
 have e1 := h1.len; have e2 := h2.len
 have m1 := h1.2
 simp only [maxLen] at m1
 refine BoolK.mk (fun t => ?_) (fun t => ?_)
 ·have t : (l1 : Int) ≠ l2 := by simpa using t
  exact ⟨by symm; rw [decide_eq_false_iff_not]; rintro rfl; omega, Ext.refl w⟩
 have hll : fs.length = gs.length := by
  have t : (l1 : Int) = l2 := by simpa using t
  omega
 refine ⟨fun i w' => ∃ k : Nat, i = k ∧ k ≤ fs.length ∧ Ext w w' ∧ ∀ j (f : Ft), j < k → fs[j]? = some f → gs[j]? = some f, fun i _ => fs.length - i.toNat, ⟨⟨0, rfl, by omega, Ext.refl w, fun j f hj => by omega⟩, trivial⟩, ?_⟩
 rintro w5 _ ⟨k, rfl, hk, x5, hall⟩
 refine BoolK.mk (fun t => ?_) (fun t => ?_)
 ·have hlt : k < fs.length := by have := of_decide_eq_true t; omega
  have hlt' : k < gs.length := by omega
  refine DrewK.mk fun w7 x7 => ?_
  have x7 := x5.trans x7
  obtain ⟨b1, ha, q0, q1, _⟩ := ftAt h1 x7 hlt
  obtain ⟨b3, hc, r0, r1, _⟩ := ftAt h2 x7 hlt'
  refine ⟨⟨by omega, by omega⟩, adK ha ⟨_, q0, _, q1, ⟨by omega, by omega⟩, adK hc ⟨_, r0, _, r1, BoolK.mk (fun t1 => ?_) (fun t1 => ?_)⟩⟩⟩
  ·refine ⟨?_, x7⟩
   symm; rw [decide_eq_false_iff_not]
   rintro rfl
   simp only [Bool.and_true, Bool.not_eq_true', Bool.and_eq_false_iff, beq_eq_false_iff_ne, ne_eq, not_true_eq_false, false_or] at t1
   exact absurd (ba_eq.2 rfl) (by rw [t1]; decide)
  ·have he : fs[k] = gs[k] := by
    simp only [Bool.not_eq_false', Bool.and_true, Bool.and_eq_true, beq_iff_eq, ba_eq] at t1
    exact Prod.ext t1.1 t1.2
   rw [wrap_succ (by omega)]
   refine ⟨⟨k + 1, rfl, by omega, x7, fun j f hj hf => ?_⟩, by simp; omega⟩
   rcases Nat.lt_or_ge j k with h | h
   ·exact hall j f h hf
   ·have : j = k := by omega
    subst this
    rw [List.getElem?_eq_getElem hlt] at hf
    rw [List.getElem?_eq_getElem hlt', ← he]; exact hf
 ·have : k = fs.length := by have := of_decide_eq_false t; omega
  subst this
  refine ⟨?_, x5⟩
  symm; rw [decide_eq_true_eq]
  apply List.ext_getElem hll
  intro j p1 p2
  have := hall j fs[j] p1 (List.getElem?_eq_getElem p1)
  rw [List.getElem?_eq_getElem p2] at this
  exact (Option.some.inj this).symm
theorem ctr41 (w : World) (x : Nd) {a4 a5 : Option Addr} {l4 l5 : Nat} (c4 c5 : Nat) (hf : RL 2 RFt w a4 l4 x.fs) :
  Calls Tryz.prog 41 #[.agg #[.string x.kd, .int .i64 x.n, .string x.tx, .slice a4 l4 c4, .slice a5 l5 c5]] w fun en w' => ∃ p, en = .returned (.bool p) ∧ (p = isConsD x ∧ Ext w w') := by
 refine calls41 _ _ _ _ _ _ _ _ _ _ w ?_
 refine AllocK.mk fun b w7 hb hB x7 => DrewK.mk fun w8 x8 => ?_
 have y8 := x7.trans x8
 obtain ⟨g0, _, g2, g3, _⟩ := blkAt5 hB x8
 refine ⟨_, g0, BoolK.mk (fun t => ⟨_, g2, BoolK.mk (fun t2 => ⟨_, _, _, g3, ?_⟩) (fun t2 => ⟨?_, y8⟩)⟩) (fun t => ⟨?_, y8⟩)⟩
 ·refine (ctr18 w8).mono ?_
  rintro en w13 ⟨a12, l12, c12, rfl, hp, x13⟩
  refine ⟨_, _, _, rfl, Below.cel x13, (ctr69 w13 c4 c12 (hf.ext RFt.mono (y8.trans x13)) hp).mono ?_⟩
  rintro en w16 ⟨p, rfl, rfl, x16⟩
  refine ⟨_, rfl, ?_, (y8.trans x13).trans x16⟩
  have k1 : x.kd = kRecT := tl_iff.1 t
  have k2 : x.tx = kBar := tl_iff.1 t2
  unfold isConsD
  rw [decide_eq_true k1, decide_eq_true k2, Bool.true_and, Bool.true_and]; rfl
 ·have k2 : x.tx ≠ kBar := tl_no t2
  unfold isConsD
  rw [decide_eq_false k2]; simp
 ·have k1 : x.kd ≠ kRecT := tl_no t
  unfold isConsD
  rw [decide_eq_false k1]; simp
theorem ctr42 (w : World) (x : Nd) {a4 a5 : Option Addr} {l4 l5 : Nat} (c4 c5 : Nat) (hf : RL 2 RFt w a4 l4 x.fs) :
  Calls Tryz.prog 42 #[.agg #[.string x.kd, .int .i64 x.n, .string x.tx, .slice a4 l4 c4, .slice a5 l5 c5]] w fun en w' => ∃ p, en = .returned (.bool p) ∧ (p = isNilD x ∧ Ext w w') := by
 refine calls42 _ _ _ _ _ _ _ _ _ _ w ?_
 refine AllocK.mk fun b w7 hb hB x7 => ?_
 obtain ⟨g0, _, g2, g3, _⟩ := blkAt5 hB (Ext.refl w7)
 refine ⟨_, g0, BoolK.mk (fun t => ⟨_, g2, BoolK.mk (fun t2 => ⟨_, _, _, g3, ?_, x7⟩) (fun t2 => ⟨?_, x7⟩)⟩) (fun t => ⟨?_, x7⟩)⟩
 ·have k1 : x.kd = kRecT := tl_iff.1 t
  have k2 : x.tx = kNil := tl_iff.1 t2
  unfold isNilD
  rw [decide_eq_true k1, decide_eq_true k2, Bool.true_and, Bool.true_and, Bool.eq_iff_iff, decide_eq_true_eq]
  exact len0 hf.len
 ·have k2 : x.tx ≠ kNil := tl_no t2
  unfold isNilD
  rw [decide_eq_false k2]; simp
 ·have k1 : x.kd ≠ kRecT := tl_no t
  unfold isNilD
  rw [decide_eq_false k1]; simp
def eBo (b : Bool) : Value := .bool b
theorem mtB : MapT Tryz.prog 86 3 4 eK eBo false := ⟨Tryz.underlying86, keyInt Tryz.underlying3, Tryz.zeroValue4⟩
structure ChR (xs : List Nd) (i k : Nat) : Prop where
 cons : ∀ j, j < k → isConsD (nd xs (tl xs i j)) = true
 apart : ∀ a b, a < k → b < k → tl xs i a = tl xs i b → a = b
 lt : ∀ j, j ≤ k → tl xs i j < xs.length
def tlL (xs : List Nd) (i k : Nat) : List Int := zs ((List.range k).map (tl xs i))
theorem tlL_len {xs : List Nd} {i k : Nat} : (tlL xs i k).length = k := by simp [tlL, zs]
theorem tlL_mem {xs : List Nd} {i k v : Nat} : (v : Int) ∈ tlL xs i k ↔ ∃ j, j < k ∧ v = tl xs i j := by
 unfold tlL zs
 simp only [List.mem_map, List.mem_range]
 constructor
 ·rintro ⟨x, ⟨j, hj, rfl⟩, e⟩; exact ⟨j, hj, by omega⟩
 ·rintro ⟨j, hj, rfl⟩; exact ⟨_, ⟨j, hj, rfl⟩, rfl⟩
theorem tlL_snoc {xs : List Nd} {i k : Nat} : tlL xs i (k + 1) = tlL xs i k ++ [((tl xs i k : Nat) : Int)] := by
 unfold tlL zs
 rw [List.range_succ]; simp
theorem ChR.zero {xs : List Nd} {i : Nat} (hi : i < xs.length) : ChR xs i 0 := by
 refine ⟨fun j hj => by omega, fun a b ha => by omega, fun j hj => ?_⟩
 have : j = 0 := by omega
 subst this; exact hi
theorem ChR.le {xs : List Nd} {i k : Nat} (h : ChR xs i k) : k ≤ xs.length := by
 have := len_le_of_sub ((List.range k).map (tl xs i)) (List.range xs.length) ?_ fun x hx => ?_
 ·simpa using this
 ·rw [List.nodup_iff_pairwise_ne, List.pairwise_map]
  refine List.Pairwise.imp_of_mem ?_ (List.nodup_range (n := k))
  intro a b ha hb hab e
  exact hab (h.apart a b (List.mem_range.1 ha) (List.mem_range.1 hb) e)
 ·obtain ⟨j, hj, rfl⟩ := List.mem_map.1 hx
  exact List.mem_range.2 (h.lt j (by have := List.mem_range.1 hj; omega))
set_option maxRecDepth 100000 in
theorem ctr24 (w : World) {xs : List Nd} {a1 : Option Addr} {l1 : Nat} (c1 : Nat) (h : RNds w a1 l1 xs) (hV : VL VN1 xs) (hn : xs.length ≤ 1000000) {i : Nat} (hi : i < xs.length) :
  Calls Tryz.prog 24 #[.slice a1 l1 c1, .int .i64 (i : Int)] w fun en w' => ∃ a l c p, en = .returned (.tuple #[.slice a l c, .bool p]) ∧
   ((∃ k, ChR xs i k ∧ IC w' a l c (tlL xs i k) ∧ (∀ p, a = some p → w.heap.size ≤ p.block) ∧ p = isNilD (nd xs (tl xs i k)) ∧ (isConsD (nd xs (tl xs i k)) = false ∨ ∃ j, j < k ∧ tl xs i k = tl xs i j)) ∧ Ext w w') := by
 refine calls24 _ _ _ _ _ w ?_
 have hl := h.len
 obtain ⟨w4, q4, m4, x4⟩ := MapF.make (P := Tryz.prog) (t := 86) (enc := eK) eBo false w
 have hbm : w.heap.size < w4.heap.size := m4.lt
 have u4 : Upd (fun _ => (none : Option Nat)) (setOwn (fun _ => (none : Option Nat)) (some w.heap.size) 1) 1 w w4 := Upd.fresh x4 (Nat.le_refl _) hbm 1
 have L4 := (Mine.refl (ρ := Nat) w).upd u4
 have ob : setOwn (fun _ => (none : Option Nat)) (some w.heap.size) 1 w.heap.size = some 1 := by unfold setOwn; rw [if_pos rfl]
 generalize hbme : w.heap.size = bm at *
 refine ⟨some bm, w4, q4, ?_⟩
 have node : ∀ {w' : World} {k : Nat}, Ext w w' → k < xs.length → (0 ≤ ((k : Nat) : Int) ∧ ((k : Nat) : Int) < (l1 : Nat)) ∧ ∃ b, a1 = some b ∧ w'.cell? ((b.add (((k : Nat) : Int).toNat * 5)).add 0) = some (.string (nd xs k).kd) ∧ w'.cell? ((b.add (((k : Nat) : Int).toNat * 5)).add 1) = some (.int .i64 (nd xs k).n) ∧ w'.cell? ((b.add (((k : Nat) : Int).toNat * 5)).add 2) = some (.string (nd xs k).tx) ∧
   (∃ a l c, w'.cell? ((b.add (((k : Nat) : Int).toNat * 5)).add 3) = some (.slice a l c) ∧ RL 2 RFt w' a l (nd xs k).fs) ∧ (∃ a l c, w'.cell? ((b.add (((k : Nat) : Int).toNat * 5)).add 4) = some (.slice a l c) ∧ RL 1 RInt w' a l (nd xs k).ks) := fun x hk => by
  obtain ⟨b, ha, n0, n1, n2, n3, n4, n5, n7, _⟩ := ndAt h x hk
  rw [nd_get hk]
  exact ⟨⟨by omega, by omega⟩, b, ha, n0, n1, n2, n5, n7⟩
 refine ⟨fun x a l c w' => ∃ (k : Nat) (own : OwnM Nat), x = ((tl xs i k : Nat) : Int) ∧ ChR xs i k ∧ Mine own w w' ∧ RowR own 0 3 1 eI w' (a, l, c) (tlL xs i k) ∧ (isConsD (nd xs (tl xs i k)) = false ∨ ∃ j, j < k ∧ tl xs i k = tl xs i j), ?_,
  fun x a l c w' => ∃ (k : Nat) (own : OwnM Nat), x = ((tl xs i k : Nat) : Int) ∧ ChR xs i k ∧ Mine own w w' ∧ own bm = some 1 ∧ MapF eK eBo false w' bm (fun v => decide (v ∈ tlL xs i k)) ∧ RowR own 0 3 1 eI w' (a, l, c) (tlL xs i k), fun _ _ l _ _ => xs.length - l,
  ⟨⟨0, _, rfl, ChR.zero hi, L4, ob, m4.congr fun v => by simp [tlL, zs], RowR.nil _ _ _ _ _ _⟩, trivial⟩, ?_⟩
 ·rintro w6 _ a8 l8 c8 ⟨k, own, rfl, C, L, R, hend⟩
  obtain ⟨p1, b9, p2, p3, p4, p5, ⟨a13, l13, c13, p6, p7⟩, ⟨a14, l14, c14, p8, p9⟩⟩ := node L.below (C.lt k (Nat.le_refl _))
  refine ⟨p1, adK p2 ⟨_, p3, _, p4, _, p5, _, _, _, p6, _, _, _, p8, (ctr42 w6 (nd xs (tl xs i k)) c13 c14 p7).mono ?_⟩⟩
  rintro en w16 ⟨p, rfl, rfl, x16⟩
  refine ⟨_, rfl, ⟨k, C, IC.ext ⟨OwnR.ints R.1, ?_⟩ x16, ?_, rfl, hend⟩, L.below.trans x16⟩
  ·rcases R.1.2.2 with ⟨e, _⟩ | ⟨g, cap, cur, e, _, _, h3, _⟩
   ·cases e; exact Nat.le_refl _
   ·simp only [Value.slice.injEq] at e; obtain ⟨_, e1, rfl⟩ := e; rw [e1]; exact h3
  ·intro p hp
   refine Classical.byContradiction fun hn => ?_
   have h0 := R.2 p.block (by rw [hp]; rfl)
   rw [L.fr.free p.block (by omega) rfl] at h0; cases h0
 ·rintro w20 _ a22 l22 c22 ⟨k, own, rfl, C, L, ob, M, R⟩
  have hkl := C.lt k (Nat.le_refl _)
  have hlen : l22 = k := by have := R.len; rw [tlL_len] at this; exact this
  obtain ⟨p1, b9, p2, p3, p4, p5, ⟨a13, l13, c13, p6, p7⟩, ⟨a14, l14, c14, p8, p9⟩⟩ := node L.below hkl
  refine ⟨p1, adK p2 ⟨_, p3, _, p4, _, p5, _, _, _, p6, _, _, _, p8, (ctr41 w20 (nd xs (tl xs i k)) c13 c14 p7).mono ?_⟩⟩
  rintro en w30 ⟨p, rfl, hp, x30⟩
  have L30 := L.ext x30
  have M30 := M.ext x30
  have R30 := R.ext x30
  refine ⟨_, rfl, BoolK.mk (fun t => ?_) (fun t => ⟨k, own, rfl, C, L30, R30, .inl (by rw [← hp]; exact t)⟩)⟩
  have hcons : isConsD (nd xs (tl xs i k)) = true := by rw [← hp]; exact t
  refine ⟨_, w30, M30.lookup mtB ((tl xs i k : Nat) : Int), BoolK.mk (fun t2 => ?_) (fun t2 => ?_)⟩
  ·have hnin : ((tl xs i k : Nat) : Int) ∉ tlL xs i k := by simpa using t2
   obtain ⟨w34, q34, M34, g34⟩ := M30.update mtB ((tl xs i k : Nat) : Int) true
   have u34 : Upd own own 1 w30 w34 := Upd.of_but g34 ob
   refine ⟨w34, q34, ?_⟩
   have R34 := R30.upd u34 (by decide)
   have L34 := L30.upd u34
   have C' : ChR xs i (k + 1) := by
    obtain ⟨n, hn⟩ := hV.nd hkl
    have h2 := cons_ks hn hcons
    refine ⟨fun j hj => ?_, fun a b ha hb e => ?_, fun j hj => ?_⟩
    ·rcases Nat.lt_or_ge j k with h | h
     ·exact C.cons j h
     ·have : j = k := by omega
      subst this; exact hcons
    ·rcases Nat.lt_or_ge a k with h1 | h1 <;> rcases Nat.lt_or_ge b k with h2 | h2
     ·exact C.apart a b h1 h2 e
     ·have : b = k := by omega
      subst this
      exact absurd (tlL_mem.2 ⟨a, h1, e.symm⟩) hnin
     ·have : a = k := by omega
      subst this
      exact absurd (tlL_mem.2 ⟨b, h2, e⟩) hnin
     ·omega
    ·rcases Nat.lt_or_ge j (k + 1) with h | h
     ·exact C.lt j (by omega)
     ·have : j = k + 1 := by omega
      subst this
      exact kid_lt hV.c hkl (by rw [h2]; omega)
   have hle := C'.le
   refine RowR.push ((tl xs i k : Nat) : Int) sltI R34 eI_len eI_one (by rw [tlL_len]; omega) rfl fun s' w38 R38 u38 => ?_
   rw [← tlL_snoc] at R38
   have L38 := L34.upd u38
   have M38 : MapF eK eBo false w38 bm (fun v => decide (v ∈ tlL xs i (k + 1))) := by
    refine (M34.heap (u38.block bm M34.lt (by rw [ob]; decide))).congr fun v => ?_
    unfold V.upd
    rw [tlL_snoc]
    by_cases e : v = ((tl xs i k : Nat) : Int)
    ·rw [if_pos e, e]; simp
    ·rw [if_neg e, decide_eq_decide]; simp [e]
   obtain ⟨n, hn⟩ := hV.nd hkl
   have h2 := cons_ks hn hcons
   obtain ⟨p1, b39, p2, _, _, _, _, ⟨a40, l40, c40, p8, p9⟩⟩ := node L38.below hkl
   have e40 := p9.len
   obtain ⟨b41, r1, r2⟩ := ksAt p9 (Ext.refl w38) (i := 1) (by omega)
   have kv : (nd xs (tl xs i k)).ks[1]'(by omega) = ((tl xs i (k + 1) : Nat) : Int) := by
    rw [tl, kid, List.getElem?_eq_getElem (by omega), Option.getD_some]
    have := hV.c (nd xs (tl xs i k)) (by rw [nd_get hkl]; exact List.getElem_mem hkl) _ (List.getElem_mem (n := 1) (by omega))
    omega
   rw [kv] at r2
   have hm : xs.length - s'.2.1 < xs.length - l22 := by
    have h5 : s'.2.1 = k + 1 := by have := R38.len; rw [tlL_len] at this; exact this
    rw [h5, hlen]; omega
   exact ⟨p1, adK p2 ⟨_, _, _, p8, ⟨by omega, by omega⟩, adK r1 ⟨_, r2, ⟨k + 1, _, rfl, C', L38, by rw [u38.same bm M34.lt]; exact ob, M38, R38⟩, hm⟩⟩⟩
  ·have hin : ((tl xs i k : Nat) : Int) ∈ tlL xs i k := by simpa using t2
   exact ⟨k, own, rfl, C, L30, R30, .inr (tlL_mem.1 hin)⟩
end Go.Proofs.YtnmldggopnbclaaGreatDoor

namespace Go.Proofs.YtnmldggopnbclaaGreatDoor
open Go Go.V Go.Proofs
open Go.RowKit (Below)
/-! manystrand/graph.Items -/
def N9 (x1 : Int) (a2 : Option Addr) (l2 : Nat) (c2 : Nat) (K : Option Addr → Nat → Nat → Int → World → Prop) (w : World) : Prop :=
 AllocK w (#[(.int .i64 x1), (.slice a2 l2 c2)]) 25 fun b3 w4 =>
 ∃ x5, w4.cell? (b3.add 0) = some (.int .i64 x5) ∧
 (∃ a6 l6 c6, w4.cell? (b3.add 1) = some (.slice a6 l6 c6) ∧
 (Calls Tryz.prog 15 #[(.agg #[(.int .i64 x5), (.slice a6 l6 c6)])] w4 fun e9 w8 =>
 ∃ p7, e9 = .returned (.bool p7) ∧
 (BoolK (!p7)
 (K none 0 0 50 w8)
 (∃ a10 l10 c10, w8.cell? (b3.add 1) = some (.slice a10 l10 c10) ∧
 (∃ x11, w8.cell? b3 = some (.int .i64 x11) ∧
 (Calls Tryz.prog 24 #[(.slice a10 l10 c10), (.int .i64 x11)] w8 fun e15 w14 =>
 ∃ a12, ∃ l12, ∃ c12, ∃ p13, e15 = .returned (.tuple #[(.slice a12 l12 c12), (.bool p13)]) ∧
 (BoolK (!p13)
 (K none 0 0 5 w14)
 (∃ (I16 : Option Addr → Nat → Nat → Int → World → Prop) (μ17 : Option Addr → Nat → Nat → Int → World → Nat),
 (I16 none 0 0 0 w14 ∧ True) ∧
 ∀ w18 a19 l19 c19 x20, I16 a19 l19 c19 x20 w18 →
 BoolK (decide (x20 < l12))
 ((0 ≤ x20 ∧ x20 < l12) ∧
 AddrK a12 fun b21 =>
 ∃ x22, w18.cell? (b21.add (x20.toNat * 1)) = some (.int .i64 x22) ∧
 (DrewK w18 fun w23 =>
 ∃ a24 l24 c24, w23.cell? (b3.add 1) = some (.slice a24 l24 c24) ∧
 (∃ a25 l25 c25, w23.cell? (b3.add 1) = some (.slice a25 l25 c25) ∧
 ((0 ≤ x22 ∧ x22 < l25) ∧
 AddrK a25 fun b26 =>
 ∃ a27 l27 c27, w23.cell? ((b26.add (x22.toNat * 5)).add 4) = some (.slice a27 l27 c27) ∧
 ((0 ≤ (0 : Int) ∧ (0 : Int) < l27) ∧
 AddrK a27 fun b28 =>
 ∃ x29, w23.cell? (b28.add ((0 : Int).toNat * 1)) = some (.int .i64 x29) ∧
 (Calls Tryz.prog 16 #[(.slice a24 l24 c24), (.int .i64 x29)] w23 fun e33 w32 =>
 ∃ x30, ∃ a31, ∃ l31, ∃ c31, e33 = .returned (.agg #[(.int .i64 x30), (.slice a31 l31 c31)]) ∧
 (AllocK w32 (#[(.int .i64 x30), (.slice a31 l31 c31)]) 25 fun b34 w35 =>
 ∃ a36, ∃ l36, ∃ c36, ∃ w37, Sem.run Tryz.prog (Builtin.append_ #[22, 22] 22 #[(.slice a19 l19 c19), (.slice (some b34) 1 1)]) w35 = .ok (.slice a36 l36 c36) w37 ∧
 (I16 a36 l36 c36 (IntKind.wrap .i64 (x20 + 1)) w37 ∧ μ17 a36 l36 c36 (IntKind.wrap .i64 (x20 + 1)) w37 < μ17 a19 l19 c19 x20 w18))))))))
 (K a19 l19 c19 0 w18)))))))))
def ann9 : Ann := (.two .nil (.two (.two .nil (.two (.two .nil .nil) .nil)) (.two .nil (.two (.two .nil (.two (.two .nil .nil) .nil)) (.two .nil (.two (.two .nil (.one (.loop [(6, (.one .slice)), (24, (.one (.int .i64)))] [1, 22, 23] (.two .nil (.two (.two .nil .nil) (.two (.one (.two .nil (.anyC 13 (.take 0 (.take 1 (.take 2 (.take 3 (.take 4 (.take 5 (.take 6 (.take 7 (.take 8 (.take 9 (.take 10 (.one 11 (.one 12 .done)))))))))))))))) .nil)))))) (.two .nil .nil)))))))
noncomputable def code9 : Code := match Tryz.f9.body with | some c => c | none => .skip
theorem calls9 (x1 : Int) (a2 : Option Addr) (l2 : Nat) (c2 : Nat) (K : Option Addr → Nat → Nat → Int → World → Prop) (w : World) (h : N9 x1 a2 l2 c2 K w) : Calls Tryz.prog 9 #[(.agg #[(.int .i64 x1), (.slice a2 l2 c2)])] w fun en w' => ∃ (a38 : Option Addr), ∃ (l38 : Nat), ∃ (c38 : Nat), ∃ (x39 : Int), en = .returned (.tuple #[(.slice a38 l38 c38), (.int .i64 x39)]) ∧ K a38 l38 c38 x39 w' :=
 fn_calls tabOk mixed Tryz.func9 (by kernel_rfl : Tryz.f9.body = some code9) ann9 [(.agg #[(.int .i64 x1), (.slice a2 l2 c2)])] [(.one .slice), (.one (.int .i64))] K w (by kernel_rfl) (by kernel_rfl) (by kernel_rfl) h
end Go.Proofs.YtnmldggopnbclaaGreatDoor

namespace Go.Proofs.YtnmldggopnbclaaGreatDoor
open Go Go.V Go.Proofs Go.V.Gr
open Go.RowKit (Below)
def ItP (root : Int) (xs : List Nd) (e : Int) (outs : List (List Nd)) : Prop :=
 (¬ GrOk root xs 1000 ∧ e = 50 ∧ outs = []) ∨
 (GrOk root xs 1000 ∧ ((∃ gs, ListAt xs root.toNat gs ∧ e = 0 ∧ outs.length = gs.length ∧ ∀ (j : Nat) g o, gs[j]? = some g → outs[j]? = some o → Least g.1 g.2 o) ∨ ((¬ ∃ gs, ListAt xs root.toNat gs) ∧ e = 5 ∧ outs = [])))
theorem RGr.nil (w : World) : RL 2 RGr w none 0 (([] : List (List Nd)).map fun g => ((0 : Int), g)) := ⟨Go.V.Rows.nil _ _ _ _, by simp [maxLen]⟩
theorem itemsL_get {xs : List Nd} {i k j : Nat} {g : List Nd × Nat} (e : (itemsL xs i k)[j]? = some g) : j < k ∧ g = (xs, Gr.kid xs (tl xs i j) 0) := by
 unfold itemsL at e
 rw [List.getElem?_map] at e
 obtain ⟨j', e1, rfl⟩ := Option.map_eq_some_iff.1 e
 have := (List.getElem?_eq_some_iff.1 e1).1
 simp only [List.length_range] at this
 rw [List.getElem?_range this] at e1
 cases e1
 exact ⟨this, rfl⟩
set_option maxRecDepth 100000 in
theorem ctr9 (w : World) (root : Int) (xs : List Nd) {a : Option Addr} {l : Nat} (c : Nat) (h : RNds w a l xs) (hk5 : ∀ x ∈ xs, x.ks.length ≤ 5000) (ht : Tb w) :
  Calls Tryz.prog 9 #[.agg #[.int .i64 root, .slice a l c]] w fun en w' => ∃ a l c e, en = .returned (.tuple #[.slice a l c, .int .i64 e]) ∧
   ((∃ outs, ItP root xs e outs ∧ RL 2 RGr w' a l (outs.map fun g => ((0 : Int), g))) ∧ Ext w w') := by
 refine calls9 _ _ _ _ _ w ?_
 refine AllocK.mk fun b3 w4 hb3 hB3 x4 => ?_
 obtain ⟨g0, g1, _⟩ := blkAt2 hB3
 refine ⟨_, g0, _, _, _, g1, (ctr15 w4 root xs c (RNds.at h x4)).mono ?_⟩
 rintro en w8 ⟨p, rfl, hp, x8⟩
 have y8 := x4.trans x8
 refine ⟨_, rfl, BoolK.mk (fun t => ⟨⟨[], .inl ⟨fun ok => ?_, rfl, rfl⟩, RGr.nil w8⟩, y8⟩) (fun t => ?_)⟩
 ·rw [hp.2 ok] at t; cases t
 have ok := hp.1 (by simpa using t)
 have hmo := ok.most
 have big := Big.of ok hk5
 have hcl := ok.closed
 obtain ⟨_, g1, g0⟩ := blkAt2 (hB3.ext x8)
 have hilt := ok.lt
 have hroot : root = ((root.toNat : Nat) : Int) := by have := ok.root; omega
 refine ⟨_, _, _, g1, _, g0, ?_⟩
 rw [hroot]
 refine (ctr24 w8 c (RNds.at h y8) (GrOk.vl ok) (by omega) hilt).mono ?_
 rintro en w14 ⟨a12, l12, c12, p13, rfl, ⟨k, C, hI, _, hp13, hend⟩, x14⟩
 have y14 := y8.trans x14
 have l12e : l12 = k := by have := hI.len; rw [tlL_len] at this; exact this
 subst l12e
 have hle := C.le
 refine ⟨_, _, _, _, rfl, BoolK.mk (fun t => ⟨⟨[], .inr ⟨by rw [← hroot]; exact ok, .inr ⟨?_, rfl, rfl⟩⟩, RGr.nil w14⟩, y14⟩) (fun t => ?_)⟩
 ·rintro ⟨gs, hg⟩
  rw [Int.toNat_natCast] at hg
  have t : p13 = false := by simpa using t
  exact listAt_not hg C.cons (by rw [← hp13]; exact t) hend
 have t : p13 = true := by simpa using t
 rw [t] at hp13
 have hL := listAt_of big.nds C.lt C.cons hp13.symm
 refine ⟨fun a l c x w' => ∃ (m : Nat) (own : OwnM Nat) (SS : List SL) (outs : List (List Nd)), x = m ∧ m ≤ l12 ∧ GL w14 w' own (a, l, c) SS outs ∧ outs.length = m ∧ ∀ (j : Nat) o, outs[j]? = some o → Least xs (Gr.kid xs (tl xs root.toNat j) 0) o, fun _ _ _ x _ => l12 - x.toNat,
  ⟨⟨0, _, _, _, rfl, by omega, GL.start w14, rfl, fun j o e => by simp at e⟩, trivial⟩, ?_⟩
 rintro w18 a19 l19 c19 _ ⟨m, own, SS, outs, rfl, hm, G, hol, hLe⟩
 refine BoolK.mk (fun t2 => ?_) (fun t2 => ?_)
 ·have hlt : m < l12 := by have := of_decide_eq_true t2; omega
  obtain ⟨b21, q1, q2⟩ := hI.at_ G.loc.below (i := m) (by rw [tlL_len]; exact hlt)
  have hv : (tlL xs root.toNat l12)[m]'(by rw [tlL_len]; exact hlt) = ((tl xs root.toNat m : Nat) : Int) := by simp [tlL, zs]
  rw [hv] at q2
  refine ⟨⟨by omega, by omega⟩, adK q1 ⟨_, q2, DrewK.mk fun w23 x23 => ?_⟩⟩
  have G23 := G.ext x23
  have y23 := y14.trans G23.loc.below
  have ht' := C.lt m (by omega)
  have hN := RNds.at h y23
  have hl := h.len
  obtain ⟨_, g1, _⟩ := blkAt2 (hB3.ext ((x8.trans x14).trans G23.loc.below))
  obtain ⟨b26, ha, _, _, _, _, _, _, ⟨a27, l27, c27, n7, n8⟩, _⟩ := ndAt h y23 ht'
  have h2 := cons_ks (ok.nds _ (List.getElem_mem ht')) (by have := C.cons m hlt; rwa [nd_get ht'] at this)
  have e27 := n8.len
  obtain ⟨b28, s1, s2⟩ := ksAt n8 (Ext.refl w23) (i := 0) (by omega)
  have hv0 : xs[tl xs root.toNat m].ks[0]'(by omega) = ((Gr.kid xs (tl xs root.toNat m) 0 : Nat) : Int) := by
   have hb := hcl _ (List.getElem_mem ht') _ (List.getElem_mem (show 0 < xs[tl xs root.toNat m].ks.length by omega))
   rw [Gr.kid, nd_get ht', List.getElem?_eq_getElem (by omega), Option.getD_some]; omega
  rw [hv0] at s2
  refine ⟨_, _, _, g1, _, _, _, g1, ⟨by omega, by omega⟩, adK ha ⟨_, _, _, n7, ⟨by omega, by omega⟩, adK s1 ⟨_, s2, ?_⟩⟩⟩
  have hkl : Gr.kid xs (tl xs root.toNat m) 0 < xs.length := kid_lt hcl ht' (by rw [nd_get ht']; omega)
  refine (ctr16 w23 c hN hcl (big.sz (by omega)) big.w (ht.ext y23) hkl).mono ?_
  rintro en w32 ⟨x30, a31, l31, c31, rfl, rfl, out, hLo, hG⟩
  have G32 := G23.ext hG.below
  refine ⟨_, _, _, _, rfl, ?_⟩
  refine RowR.push ((a31, l31, c31) : SL) sltG G32.out eG_len eG_one (by rw [G32.len, hol]; omega) rfl fun s' w37 ro uo => ?_
  rw [wrap_succ (by omega)]
  refine ⟨⟨m + 1, _, _, outs ++ [out], rfl, by omega, G32.more (NU.of_GD hG G23.loc.top) uo ro, by simp [hol], fun j o e => ?_⟩, by simp; omega⟩
  rcases Nat.lt_or_ge j outs.length with hj | hj
  ·rw [List.getElem?_append_left hj] at e; exact hLe j o e
  ·have : j = outs.length := by have := (List.getElem?_eq_some_iff.1 e).1; simp at this; omega
   subst this
   rw [List.getElem?_concat_length] at e
   cases e; rw [hol]; exact hLo
 ·have : m = l12 := by have := of_decide_eq_false t2; omega
  subst this
  refine ⟨⟨outs, .inr ⟨by rw [← hroot]; exact ok, .inl ⟨_, by rw [Int.toNat_natCast]; exact hL, rfl, by simp [itemsL, hol], fun j g o e1 e2 => ?_⟩⟩, G.rows (by simp only [maxLen]; omega)⟩, y14.trans G.loc.below⟩
  obtain ⟨_, rfl⟩ := itemsL_get e1
  exact hLe j o e2
end Go.Proofs.YtnmldggopnbclaaGreatDoor

namespace Go.Proofs.YtnmldggopnbclaaGreatDoor
open Go Go.V Go.Proofs
open Go.RowKit (Below)
/-! manystrand/manystrandref05.visit -/
def N40 (x1 : Int) (a2 : Option Addr) (l2 : Nat) (c2 : Nat) (a3 : Option Addr) (l3 : Nat) (c3 : Nat) (a4 : Option Addr) (l4 : Nat) (c4 : Nat) (x5 : Int) (o6 : Option Addr) (K : Int → World → Prop) (w : World) : Prop :=
 AllocK w (#[(.int .i64 x1), (.slice a2 l2 c2)]) 25 fun b7 w8 =>
 (0 ≤ x5 ∧ x5 < l3) ∧
 AddrK a3 fun b9 =>
 ∃ x10, w8.cell? (b9.add (x5.toNat * 1)) = some (.int .i64 x10) ∧
 ((0 ≤ x10 ∧ x10 < l4) ∧
 AddrK a4 fun b11 =>
 ∃ x12, w8.cell? (b11.add (x10.toNat * 1)) = some (.int .i64 x12) ∧
 (BoolK (decide (x12 > 0))
 ((0 ≤ x5 ∧ x5 < l3) ∧
 AddrK a3 fun b13 =>
 ∃ x14, w8.cell? (b13.add (x5.toNat * 1)) = some (.int .i64 x14) ∧
 ((0 ≤ x14 ∧ x14 < l4) ∧
 AddrK a4 fun b15 =>
 ∃ x16, w8.cell? (b15.add (x14.toNat * 1)) = some (.int .i64 x16) ∧
 (K (IntKind.wrap .i64 (x16 - 1)) w8)))
 (∃ a17 l17 c17, w8.cell? (b7.add 1) = some (.slice a17 l17 c17) ∧
 ((0 ≤ x5 ∧ x5 < l17) ∧
 AddrK a17 fun b18 =>
 ∃ s19, w8.cell? ((b18.add (x5.toNat * 5)).add 0) = some (.string s19) ∧
 (∃ x20, w8.cell? ((b18.add (x5.toNat * 5)).add 1) = some (.int .i64 x20) ∧
 (∃ s21, w8.cell? ((b18.add (x5.toNat * 5)).add 2) = some (.string s21) ∧
 (∃ a22 l22 c22, w8.cell? ((b18.add (x5.toNat * 5)).add 3) = some (.slice a22 l22 c22) ∧
 (∃ a23 l23 c23, w8.cell? ((b18.add (x5.toNat * 5)).add 4) = some (.slice a23 l23 c23) ∧
 (AllocK w8 (#[.string ⟨#[]⟩, .int .i64 0, .string ⟨#[]⟩, .slice none 0 0, .slice none 0 0]) 39 fun b24 w25 =>
 SetK w25 (b24.add 0) (.string s19) fun w26 =>
 SetK w26 (b24.add 1) (.int .i64 x20) fun w27 =>
 SetK w27 (b24.add 2) (.string s21) fun w28 =>
 SetK w28 (b24.add 3) (.slice a22 l22 c22) fun w29 =>
 SetK w29 (b24.add 4) (.slice a23 l23 c23) fun w30 =>
 AddrK o6 fun b31 =>
 ∃ a32 l32 c32, w30.cell? (b31.add 1) = some (.slice a32 l32 c32) ∧
 ((0 ≤ x5 ∧ x5 < l3) ∧
 AddrK a3 fun b33 =>
 ∃ x34, w30.cell? (b33.add (x5.toNat * 1)) = some (.int .i64 x34) ∧
 ((0 ≤ x34 ∧ x34 < l4) ∧
 AddrK a4 fun b35 =>
 SetK w30 (b35.add (x34.toNat * 1)) (.int .i64 (IntKind.wrap .i64 (l32 + 1))) fun w36 =>
 DrewK w36 fun w37 =>
 AddrK o6 fun b38 =>
 ∃ a39 l39 c39, w37.cell? (b38.add 1) = some (.slice a39 l39 c39) ∧
 (∃ s40, w37.cell? b24 = some (.string s40) ∧
 (∃ x41, w37.cell? (b24.add 1) = some (.int .i64 x41) ∧
 (∃ s42, w37.cell? (b24.add 2) = some (.string s42) ∧
 (∃ a43 l43 c43, w37.cell? (b24.add 3) = some (.slice a43 l43 c43) ∧
 (∃ a44, ∃ l44, ∃ c44, ∃ w45, Sem.run Tryz.prog (Builtin.append_ #[36, 36] 36 #[(.slice none 0 0), (.slice a43 l43 c43)]) w37 = .ok (.slice a44 l44 c44) w45 ∧
 (Cel w37 w45 ∧
 (AllocK w45 (#[(.string s40), (.int .i64 x41), (.string s42), (.slice a44 l44 c44), (.slice none 0 0)]) 39 fun b46 w47 =>
 Cel w37 w47 ∧
 (∃ a48, ∃ l48, ∃ c48, ∃ w49, Sem.run Tryz.prog (Builtin.append_ #[23, 23] 23 #[(.slice a39 l39 c39), (.slice (some b46) 1 1)]) w47 = .ok (.slice a48 l48 c48) w49 ∧
 (AddrK o6 fun b50 =>
 SetK w49 (b50.add 1) (.slice a48 l48 c48) fun w51 =>
 ∃ (I52 : Option Addr → Nat → Nat → Int → World → Prop) (μ53 : Option Addr → Nat → Nat → Int → World → Nat),
 (I52 none 0 0 0 w51 ∧ True) ∧
 ∀ w54 a55 l55 c55 x56, I52 a55 l55 c55 x56 w54 →
 ∃ a57 l57 c57, w54.cell? (b24.add 4) = some (.slice a57 l57 c57) ∧
 (BoolK (decide (x56 < l57))
 (DrewK w54 fun w58 =>
 ∃ x59, w58.cell? (b7.add 0) = some (.int .i64 x59) ∧
 (∃ a60 l60 c60, w58.cell? (b7.add 1) = some (.slice a60 l60 c60) ∧
 (∃ a61 l61 c61, w58.cell? (b24.add 4) = some (.slice a61 l61 c61) ∧
 ((0 ≤ x56 ∧ x56 < l61) ∧
 AddrK a61 fun b62 =>
 ∃ x63, w58.cell? (b62.add (x56.toNat * 1)) = some (.int .i64 x63) ∧
 (Calls Tryz.prog 40 #[(.agg #[(.int .i64 x59), (.slice a60 l60 c60)]), (.slice a3 l3 c3), (.slice a4 l4 c4), (.int .i64 x63), (.pointer o6)] w58 fun e66 w65 =>
 ∃ x64, e66 = .returned (.int .i64 x64) ∧
 (AllocK w65 (#[(.int .i64 x64)]) 3 fun b67 w68 =>
 ∃ a69, ∃ l69, ∃ c69, ∃ w70, Sem.run Tryz.prog (Builtin.append_ #[37, 37] 37 #[(.slice a55 l55 c55), (.slice (some b67) 1 1)]) w68 = .ok (.slice a69 l69 c69) w70 ∧
 (I52 a69 l69 c69 (IntKind.wrap .i64 (x56 + 1)) w70 ∧ μ53 a69 l69 c69 (IntKind.wrap .i64 (x56 + 1)) w70 < μ53 a55 l55 c55 x56 w54)))))))
 (AddrK o6 fun b71 =>
 ∃ a72 l72 c72, w54.cell? (b71.add 1) = some (.slice a72 l72 c72) ∧
 ((0 ≤ (l32 : Int) ∧ (l32 : Int) < l72) ∧
 AddrK a72 fun b73 =>
 SetK w54 ((b73.add ((l32 : Int).toNat * 5)).add 4) (.slice a55 l55 c55) fun w74 =>
 K l32 w74)))))))))))))))))))))))
def ann40 : Ann := (.two .nil (.two (.two .nil (.two (.two .nil .nil) .nil)) (.two .nil (.two .nil (.two .nil (.two (.anyC 20 (.take 0 (.take 1 (.take 2 (.take 3 (.take 4 (.take 5 (.take 6 (.take 7 (.take 8 (.take 9 (.take 10 (.take 11 (.take 12 (.one 13 (.take 14 (.one 15 (.one 16 (.take 17 (.take 18 (.one 19 .done))))))))))))))))))))) (.two .nil (.two (.two .nil (.one (.loop [(13, (.one .slice)), (14, (.one (.int .i64)))] [1, 2, 4, 5, 11, 12] (.two (.two .nil (.two .nil .nil)) (.two (.one (.anyC 12 (.take 0 (.take 1 (.take 2 (.take 3 (.take 4 (.take 5 (.take 6 (.take 7 (.take 8 (.take 9 (.one 10 (.one 11 .done)))))))))))))) .nil))))) (.two .nil (.two .nil .nil))))))))))
noncomputable def code40 : Code := match Tryz.f40.body with | some c => c | none => .skip
theorem calls40 (x1 : Int) (a2 : Option Addr) (l2 : Nat) (c2 : Nat) (a3 : Option Addr) (l3 : Nat) (c3 : Nat) (a4 : Option Addr) (l4 : Nat) (c4 : Nat) (x5 : Int) (o6 : Option Addr) (K : Int → World → Prop) (w : World) (h : N40 x1 a2 l2 c2 a3 l3 c3 a4 l4 c4 x5 o6 K w) : Calls Tryz.prog 40 #[(.agg #[(.int .i64 x1), (.slice a2 l2 c2)]), (.slice a3 l3 c3), (.slice a4 l4 c4), (.int .i64 x5), (.pointer o6)] w fun en w' => ∃ (x75 : Int), en = .returned (.int .i64 x75) ∧ K x75 w' :=
 fn_calls tabOk mixed Tryz.func40 (by kernel_rfl : Tryz.f40.body = some code40) ann40 [(.agg #[(.int .i64 x1), (.slice a2 l2 c2)]), (.slice a3 l3 c3), (.slice a4 l4 c4), (.int .i64 x5), (.pointer o6)] [(.one (.int .i64))] K w (by kernel_rfl) (by kernel_rfl) (by kernel_rfl) h
end Go.Proofs.YtnmldggopnbclaaGreatDoor

namespace Go.Proofs.YtnmldggopnbclaaGreatDoor
open Go Go.V Go.Proofs Go.V.Gr
open Go.RowKit (Below)
theorem AllocK.and {w : World} {cs : Array Value} {t : Nat} {P Q : Addr → World → Prop} (h : AllocK w cs t P) (k : AllocK w cs t Q) : AllocK w cs t fun b w => P b w ∧ Q b w := ⟨h, k⟩
def ByOk (xs : List Nd) (cl : List Int) (vs : List Nat) (bys : List Int) : Prop :=
 ∀ i, i < xs.length → (ga bys (ga cl i).toNat = 0 ∧ ¬ Seen xs vs i) ∨ ∃ (q v : Nat), vs[q]? = some v ∧ Eqv xs xs v i ∧ ga bys (ga cl i).toNat = (q : Int) + 1
structure WS (w0 w : World) (own : OwnM Nat) (b14 b12 : Nat) (xs : List Nd) (cl : List Int) (vs : List Nat) (RW : List Rw) (s : SL) (K : List (List Int)) (bys : List Int) : Prop where
 loc : Mine own w0 w
 box : Bx own 2 w b14 #[.int .i64 0, .slice s.1 s.2.1 s.2.2] 25
 by_ : RowR own 1 3 1 eI w (some ⟨b12, 0, none⟩, xs.length + 1, xs.length + 1) bys
 byk : ByOk xs cl vs bys
 out : RowR own 0 39 5 eN w s RW
 lenR : RW.length = vs.length
 lenK : K.length = vs.length
 nds : ∀ (q : Nat) (r : Rw) (v : Nat) (k : List Int), RW[q]? = some r → vs[q]? = some v → K[q]? = some k → r.kd = (nd xs v).kd ∧ r.n = (nd xs v).n ∧ r.tx = (nd xs v).tx ∧
  RowR own (11 + 3 * q) 41 2 eFt w r.sf (nd xs v).fs ∧ RowR own (10 + 3 * q) 3 1 eI w r.sk k
structure Kq (own own' : OwnM Nat) (n0 : Nat) (w w' : World) : Prop where
 fr : Fr own own' w w'
 row : ∀ b r, 10 ≤ r → r < 10 + 3 * n0 → b < w.heap.size → own b = some r → own' b = some r ∧ w'.heap[b]? = w.heap[b]?
section
variable {w0 w w' w'' : World} {own own' own'' : OwnM Nat} {b14 b12 : Nat} {xs : List Nd} {cl : List Int} {vs : List Nat} {RW : List Rw} {s : SL} {K : List (List Int)} {n0 : Nat} {bys : List Int}
theorem WS.ext (h : WS w0 w own b14 b12 xs cl vs RW s K bys) (x : Ext w w') : WS w0 w' own b14 b12 xs cl vs RW s K bys :=
 ⟨h.loc.ext x, h.box.ext x, h.by_.ext x, h.byk, h.out.ext x, h.lenR, h.lenK, fun q r v k e1 e2 e3 => by
  obtain ⟨f1, f2, f3, f5, f6⟩ := h.nds q r v k e1 e2 e3
  exact ⟨f1, f2, f3, f5.ext x, f6.ext x⟩⟩
theorem WS.updK {n : Nat} {r : Rw} (h : WS w0 w own b14 b12 xs cl vs RW s K bys) (u : Upd own own' (10 + 3 * n) w w') (hr : RW[n]? = some r) (h0 : r.sk = (none, 0, 0)) (hk : K[n]? = some []) : WS w0 w' own' b14 b12 xs cl vs RW s K bys :=
 ⟨h.loc.upd u, h.box.upd u (by omega), h.by_.upd u (by omega), h.byk, h.out.upd u (by omega), h.lenR, h.lenK, fun q r' v k e1 e2 e3 => by
  obtain ⟨f1, f2, f3, f5, f6⟩ := h.nds q r' v k e1 e2 e3
  refine ⟨f1, f2, f3, f5.upd u (by omega), ?_⟩
  by_cases e : q = n
  ·subst e
   rw [hr] at e1; rw [hk] at e3
   cases e1; cases e3
   rw [h0]; exact RowR.nil _ _ _ _ _ _
  ·exact f6.upd u (by omega)⟩
theorem WS.more {s' : SL} {i : Nat} {r : Rw} {w1 w2 w3 w4 : World} {own2 own3 : OwnM Nat} {bys' : List Int} (h : WS w0 w1 own b14 b12 xs cl vs RW s K bys) (ub : Upd own own 1 w1 w2) (hby : RowR own 1 3 1 eI w2 (some ⟨b12, 0, none⟩, xs.length + 1, xs.length + 1) bys') (hbk : ByOk xs cl (vs ++ [i]) bys')
  (h1 : r.kd = (nd xs i).kd) (h2 : r.n = (nd xs i).n) (h3 : r.tx = (nd xs i).tx) (hk0 : r.sk = (none, 0, 0)) (uf : Upd own own2 (11 + 3 * vs.length) w2 w3) (hf : RowR own2 (11 + 3 * vs.length) 41 2 eFt w3 r.sf (nd xs i).fs)
  (uo : Upd own2 own3 0 w3 w4) (ho : RowR own3 0 39 5 eN w4 s' (RW ++ [r])) (u2 : Upd own3 own3 2 w4 w') (hb : Bx own3 2 w' b14 #[.int .i64 0, .slice s'.1 s'.2.1 s'.2.2] 25) :
  WS w0 w' own3 b14 b12 xs cl (vs ++ [i]) (RW ++ [r]) s' (K ++ [[]]) bys' := by
 refine ⟨(((h.loc.upd ub).upd uf).upd uo).upd u2, hb, ((hby.upd uf (by omega)).upd uo (by decide)).upd u2 (by decide), hbk, ho.upd u2 (by decide), by simp [h.lenR], by simp [h.lenK], fun q r2 v2 k2 e1 e2 e3 => ?_⟩
 rcases Nat.lt_or_ge q vs.length with hq | hq
 ·rw [List.getElem?_append_left (by rw [h.lenR]; exact hq)] at e1
  rw [List.getElem?_append_left hq] at e2
  rw [List.getElem?_append_left (by rw [h.lenK]; exact hq)] at e3
  obtain ⟨g1, g2, g3, g5, g6⟩ := h.nds q r2 v2 k2 e1 e2 e3
  exact ⟨g1, g2, g3, (((g5.upd ub (by omega)).upd uf (by omega)).upd uo (by omega)).upd u2 (by omega), (((g6.upd ub (by omega)).upd uf (by omega)).upd uo (by omega)).upd u2 (by omega)⟩
 ·have hq2 : q = vs.length := by have := (List.getElem?_eq_some_iff.1 e2).1; simp at this; omega
  subst hq2
  rw [← h.lenR, List.getElem?_concat_length] at e1
  rw [List.getElem?_concat_length] at e2
  rw [← h.lenK, List.getElem?_concat_length] at e3
  cases e1; cases e2; cases e3
  exact ⟨h1, h2, h3, (hf.upd uo (by omega)).upd u2 (by omega), by rw [hk0]; exact RowR.nil _ _ _ _ _ _⟩
theorem flat_setN : ∀ (RW : List Rw) (n : Nat) (r : Rw) (s : SL), RW[n]? = some r → (RW.flatMap eN).set (n * 5 + 4) (.slice s.1 s.2.1 s.2.2) = (RW.set n { r with sk := s }).flatMap eN
 | [], _, _, _, h => by simp at h
 | x :: RW, 0, r, s, h => by simp at h; subst h; simp [eN]
 | x :: RW, n + 1, r, s, h => by
  have e : (n + 1) * 5 + 4 = (n * 5 + 4) + 5 := by omega
  have := flat_setN RW n r s (by simpa using h)
  rw [e, List.set_cons_succ, List.flatMap_cons, List.flatMap_cons, ← this]
  simp [eN]
theorem WS.fill {n : Nat} {r : Rw} {k0 k : List Int} {sk : SL} (h : WS w0 w own b14 b12 xs cl vs RW s K bys) (hr : RW[n]? = some r) (hk0 : K[n]? = some k0) (hk : RowR own (10 + 3 * n) 3 1 eI w sk k) {F : World → Prop}
  (kk : ∀ w', WS w0 w' own b14 b12 xs cl vs (RW.set n { r with sk := sk }) s (K.set n k) bys → Upd own own 0 w w' → F w') : ∃ b, s.1 = some b ∧ SetK w ((b.add (((n : Nat) : Int).toNat * 5)).add 4) (.slice sk.1 sk.2.1 sk.2.2) F := by
 have hn : n < RW.length := (List.getElem?_eq_some_iff.1 hr).1
 have hnK : n < K.length := (List.getElem?_eq_some_iff.1 hk0).1
 have hout := h.out
 obtain ⟨g, l, c, e1, _⟩ := hout.at_ eN_len hn
 refine ⟨⟨g, 0, none⟩, by rw [e1], ?_⟩
 rw [add_mk, add_mk, Int.toNat_natCast, Nat.zero_add]
 have hout' := hout
 rw [e1] at hout'
 refine RowR.set (ys := RW.set n { r with sk := sk }) hout' (n * 5 + 4) _ (by omega) (by simp) (flat_setN RW n r sk hr) fun w' ho u => ?_
 rw [← e1] at ho
 refine kk w' ⟨h.loc.upd u, h.box.upd u (by decide), h.by_.upd u (by decide), h.byk, ho, by simpa using h.lenR, by simpa using h.lenK, fun q r2 v2 k2 f1 f2 f3 => ?_⟩ u
 rw [List.getElem?_set] at f1 f3
 by_cases hq : n = q
 ·subst hq
  rw [if_pos rfl, if_pos hn] at f1
  rw [if_pos rfl, if_pos hnK] at f3
  cases f1; cases f3
  obtain ⟨g1, g2, g3, g5, g6⟩ := h.nds n r v2 k0 hr f2 hk0
  exact ⟨g1, g2, g3, g5.upd u (by omega), hk.upd u (by omega)⟩
 ·rw [if_neg hq] at f1 f3
  obtain ⟨g1, g2, g3, g5, g6⟩ := h.nds q r2 v2 k2 f1 f2 f3
  exact ⟨g1, g2, g3, g5.upd u (by omega), g6.upd u (by omega)⟩
theorem Kq.refl (own : OwnM Nat) (n0 : Nat) (w : World) : Kq own own n0 w w := ⟨Fr.refl _ _, fun _ _ _ _ _ h => ⟨h, rfl⟩⟩
theorem Kq.ext (x : Ext w w') : Kq own own n0 w w' := ⟨Fr.of_ext _ x, fun b _ _ _ hb h => ⟨h, x.block b hb⟩⟩
theorem Kq.trans (h : Kq own own' n0 w w') (k : Kq own' own'' n0 w' w'') : Kq own own'' n0 w w'' :=
 ⟨h.fr.trans k.fr, fun b r h1 h2 hb e => by
  obtain ⟨e1, e2⟩ := h.row b r h1 h2 hb e
  obtain ⟨e3, e4⟩ := k.row b r h1 h2 (Nat.lt_of_lt_of_le hb h.fr.size) e1
  exact ⟨e3, e4.trans e2⟩⟩
theorem Kq.upd {r : Nat} (u : Upd own own' r w w') (hr : r < 10 ∨ 10 + 3 * n0 ≤ r) : Kq own own' n0 w w' :=
 ⟨u.fr, fun b r2 h1 h2 hb e => ⟨by rw [u.same b hb]; exact e, u.block b hb (by rw [e]; simp; omega)⟩⟩
theorem Kq.mono {n1 : Nat} (h : Kq own own' n0 w w') (hn : n1 ≤ n0) : Kq own own' n1 w w' := ⟨h.fr, fun b r h1 h2 h3 => h.row b r h1 (by omega) h3⟩
theorem RowR.kq {α : Type} {r : Nat} {e : TypeId} {sz : Nat} {enc : α → List Value} {s : SL} {xs : List α} (h : RowR own r e sz enc w s xs) (k : Kq own own' n0 w w') (h1 : 10 ≤ r) (h2 : r < 10 + 3 * n0) : RowR own' r e sz enc w' s xs :=
 ⟨h.1.kept fun b hb => (k.row b r h1 h2 (h.1.lt b hb).2 (h.2 b hb)).2, fun b hb => (k.row b r h1 h2 (h.1.lt b hb).2 (h.2 b hb)).1⟩
theorem ByOk.put (h : ByOk xs cl vs bys) (hcl : Cls xs cl) (hcb : ∀ v ∈ cl, 1 ≤ v ∧ v ≤ xs.length) (hl : bys.length = xs.length + 1) {i : Nat} (hi : i < xs.length) : ByOk xs cl (vs ++ [i]) (bys.set (ga cl i).toNat ((vs.length : Int) + 1)) := by
 have hb : ∀ j, j < xs.length → 1 ≤ ga cl j ∧ ga cl j ≤ xs.length := fun j hj => by
  rw [ga_get (by rw [hcl.1]; exact hj)]; exact hcb _ (List.getElem_mem _)
 intro j hj
 have h1 := hb i hi; have h2 := hb j hj
 have hlt : (ga cl i).toNat < bys.length := by omega
 by_cases e : ga cl j = ga cl i
 ·refine .inr ⟨vs.length, i, by simp, (hcl.2 i j hi hj).1 e.symm, ?_⟩
  rw [ga_set hlt, e, if_pos rfl]
 ·rw [ga_set hlt, if_neg (by omega)]
  rcases h j hj with ⟨h3, h4⟩ | ⟨q, v, h3, h4, h5⟩
  ·refine .inl ⟨h3, fun hs => ?_⟩
   obtain ⟨v, hv, ev⟩ := hs
   rcases List.mem_append.1 hv with hv | hv
   ·exact h4 ⟨v, hv, ev⟩
   ·simp at hv; subst hv
    exact e ((hcl.2 v j hi hj).2 ev).symm
  ·exact .inr ⟨q, v, by rw [List.getElem?_append_left (List.getElem?_eq_some_iff.1 h3).1]; exact h3, h4, h5⟩
end
end Go.Proofs.YtnmldggopnbclaaGreatDoor

namespace Go.Proofs.YtnmldggopnbclaaGreatDoor
open Go Go.V Go.Proofs Go.V.Gr
open Go.RowKit (Below)
theorem intsAt {w w' : World} {a : Option Addr} {l : Nat} {cl : List Int} (h : Ints w a l cl) (k : Ext w w') {i : Nat} (hi : i < cl.length) :
  ∃ b, a = some b ∧ w'.cell? (b.add (((i : Nat) : Int).toNat * 1)) = some (.int .i64 (ga cl i)) := by
 obtain ⟨b, o, ha, h0⟩ := (Rows.ext RInt.mono h k).get hi
 exact ⟨_, ha, by rw [Int.toNat_natCast, add_mk, ga_get hi]; exact h0⟩
def VisitD (w0 : World) (own : OwnM Nat) (b14 b12 : Nat) (xs : List Nd) (cl : List Int) (vs : List Nat) (RW : List Rw) (K : List (List Int)) (i : Nat) (w : World) (r : Int) (w' : World) : Prop :=
 ∃ own' vs' RW' s' K' bys', WS w0 w' own' b14 b12 xs cl vs' RW' s' K' bys' ∧ Dfs xs [i] vs vs' ∧ Kq own own' vs.length w w' ∧ (∃ q : Nat, r = q ∧ ∃ v, vs'[q]? = some v ∧ Eqv xs xs v i) ∧
  (∀ q, q < vs.length → K'[q]? = K[q]? ∧ RW'[q]? = RW[q]?) ∧ ∀ q, vs.length ≤ q → (∀ M, Fil xs vs' K' q M) ∧ ∀ v k, vs'[q]? = some v → K'[q]? = some k → k.length = (nd xs v).ks.length
set_option maxRecDepth 100000 in
theorem ctr40 {xs : List Nd} {cl : List Int} {w0 : World} {a2 a3 : Option Addr} {l2 l3 : Nat} (root : Int) (c2 c3 c4 : Nat) {b12 b14 : Nat} (hN : RNds w0 a2 l2 xs) (hI : Ints w0 a3 l3 cl) (hc : Closed xs) (hz : Sz xs) (hcl : Cls xs cl) (hcb : ∀ v ∈ cl, 1 ≤ v ∧ v ≤ xs.length) :
  ∀ (d : Nat) (w : World) (own : OwnM Nat) (vs : List Nat) (RW : List Rw) (s : SL) (K : List (List Int)) (bys : List Int) (i : Nat),
  WS w0 w own b14 b12 xs cl vs RW s K bys → i < xs.length → Apart xs vs → (∀ v ∈ vs, v < xs.length) → xs.length + 1 - vs.length ≤ d →
  Calls Tryz.prog 40 #[.agg #[.int .i64 root, .slice a2 l2 c2], .slice a3 l3 c3, .slice (some ⟨b12, 0, none⟩) (xs.length + 1) c4, .int .i64 (i : Int), .pointer (some ⟨b14, 0, none⟩)] w fun en w' =>
   ∃ r, en = .returned (.int .i64 r) ∧ VisitD w0 own b14 b12 xs cl vs RW K i w r w' := by
 intro d
 induction d with
 | zero =>
  intro w own vs RW s K bys i _ _ ha hv hd
  have := vs_len ha hv; omega
 | succ d ih =>
  intro w own vs RW s K bys i h hi ha hv hd
  have hn := hz.len
  have hvl := vs_len ha hv
  have hl1 := hN.len
  have hl3 := hI.1
  refine calls40 _ _ _ _ _ _ _ _ _ _ _ _ _ w ?_
  refine AllocK.mk fun b7 w8 hb7 hB7 x8 => ?_
  have u7 : Ub own w8 b7 _ _ := ⟨hB7, h.loc.top b7 (by omega)⟩
  have h8 := h.ext x8
  have hil : i < cl.length := by rw [hcl.1]; exact hi
  have hcbi := hcb _ (List.getElem_mem hil)
  rw [← ga_get hil] at hcbi
  obtain ⟨c, hce⟩ : ∃ c : Nat, ga cl i = (c : Int) := ⟨(ga cl i).toNat, by omega⟩
  have hctn : (ga cl i).toNat = c := by omega
  have hbl : bys.length = xs.length + 1 := h.by_.len.symm
  have gcl : ∀ {w'}, Ext w0 w' → ∃ b, a3 = some b ∧ w'.cell? (b.add (((i : Nat) : Int).toNat * 1)) = some (.int .i64 (c : Int)) := fun x => by
   have := intsAt hI x hil; rwa [hce] at this
  have y8 := h8.loc.below
  obtain ⟨bc, ec, qc⟩ := gcl y8
  have gby8 := RowR.geti h8.by_ (i := c) (by omega)
  refine ⟨⟨by omega, by omega⟩, adK ec ⟨_, qc, ⟨by omega, by omega⟩, adK rfl ⟨_, gby8, ?_⟩⟩⟩
  have hbk := h.byk i hi
  rw [hctn] at hbk
  rcases hbk with ⟨hb0, hns⟩ | ⟨q, v, f2, ev, hbq⟩
  rotate_left
  ·refine BoolK.mk (fun _ => ?_) (fun t => by have := of_decide_eq_false t; omega)
   have hql := (List.getElem?_eq_some_iff.1 f2).1
   refine ⟨⟨by omega, by omega⟩, adK ec ⟨_, qc, ⟨by omega, by omega⟩, adK rfl ⟨_, gby8, ?_⟩⟩⟩
   refine ⟨own, vs, RW, s, K, bys, h8, .hit ⟨v, List.mem_of_getElem? f2, ev⟩ (.nil _), Kq.ext x8, ⟨q, by rw [wrap_id (by omega) (by omega)]; omega, v, f2, ev⟩, fun q _ => ⟨rfl, rfl⟩, fun q hq => ⟨fun M v k e1 => ?_, fun v k e1 => ?_⟩⟩
   ·rw [List.getElem?_eq_none hq] at e1; cases e1
   ·rw [List.getElem?_eq_none hq] at e1; cases e1
  refine BoolK.mk (fun t => by have := of_decide_eq_true t; omega) (fun _ => ?_)
  have hlt : vs.length < xs.length := by
   have := vs_len (ha.push hns) (fun v hv' => by
    rcases List.mem_append.1 hv' with h | h
    ·exact hv v h
    ·simp at h; subst h; exact hi)
   simp at this; omega
  have hsl : s.2.1 = vs.length := by rw [h.out.len, h.lenR]
  obtain ⟨bN, haN, n0, n1, n2, n3, n4, ⟨a3', l3', c3', n5, n6⟩, ⟨a4', l4', c4', n7, n8⟩, _⟩ := ndAt hN (Ext.refl w0) hi
  have g7 : ∀ {w'} {own' : OwnM Nat}, Ub own' w' b7 #[.int .i64 root, .slice a2 l2 c2] 25 → w'.cell? ((⟨b7, 0, none⟩ : Addr).add 0) = some (.int .i64 root) ∧ w'.cell? ((⟨b7, 0, none⟩ : Addr).add 1) = some (.slice a2 l2 c2) := fun u => ⟨by rw [add_mk, u.blk.cell]; rfl, by rw [add_mk, u.blk.cell]; rfl⟩
  refine ⟨_, _, _, (g7 u7).2, ⟨by omega, by omega⟩, adK haN ⟨_, y8.cell n0, _, y8.cell n1, _, y8.cell n2, _, _, _, y8.cell n5, _, _, _, y8.cell n7, ?_⟩⟩
  have hfl := hz.fs _ (List.getElem_mem hi)
  have hkl := hz.ks _ (List.getElem_mem hi)
  have hl4 : l4' = xs[i].ks.length := n8.len
  refine local5 fun b24 w30 hb24 hB24 x30 => ?_
  have h30 := h8.ext x30
  have u24 : Ub own w30 b24 _ _ := ⟨hB24, h8.loc.top b24 (by omega)⟩
  have u7 := u7.ext x30
  have gbox : ∀ {w'} {own' : OwnM Nat} {vs' RW' s' K' bys'}, WS w0 w' own' b14 b12 xs cl vs' RW' s' K' bys' → w'.cell? ((⟨b14, 0, none⟩ : Addr).add 1) = some (.slice s'.1 s'.2.1 s'.2.2) := fun h => by rw [add_mk, h.box.blk.cell]; rfl
  obtain ⟨bc2, ec2, qc2⟩ := gcl h30.loc.below
  refine adK rfl ⟨_, _, _, gbox h30, ⟨by omega, by omega⟩, adK ec2 ⟨_, qc2, ⟨by omega, by omega⟩, adK rfl ?_⟩⟩
  have wl : IntKind.wrap .i64 (((s.2.1 : Nat) : Int) + 1) = ((vs.length : Nat) : Int) + 1 := by rw [hsl, wrap_id (by omega) (by omega)]
  rw [wl]
  refine RowR.seti h30.by_ (i := c) (by omega) _ fun w36 r36 u36 => DrewK.mk fun w37 x37 => ?_
  have hbk' := h.byk.put hcl hcb hbl hi
  rw [hctn] at hbk'
  have bx36 := h30.box.upd u36 (by decide)
  have u36' : Upd own own 1 w30 w37 := ⟨x37.os.trans u36.os, x37.tape.trans u36.tape, x37.output.trans u36.output, Nat.le_trans u36.size x37.size, fun k hk hk2 => (x37.block k (Nat.lt_of_lt_of_le hk u36.size)).trans (u36.block k hk hk2), u36.same, fun ht k hk => u36.top ht k (Nat.le_trans x37.size hk)⟩
  have u24 := (u24.fr u36.fr).ext x37
  have u7 := (u7.fr u36.fr).ext x37
  have r37 := r36.ext x37
  have out37 := h30.out.upd u36' (by decide)
  have box37 := bx36.ext x37
  have y37 : Ext w0 w37 := (h30.loc.upd u36').below
  refine adK rfl ⟨_, _, _, by rw [add_mk, box37.blk.cell]; rfl, _, by rw [u24.blk.cell]; rfl, _, by rw [add_mk, u24.blk.cell]; rfl, _, by rw [add_mk, u24.blk.cell]; rfl, _, _, _, by rw [add_mk, u24.blk.cell]; rfl, ?_⟩
  have hR : ∀ f x, RFt w37 f x → ∀ j, j < 2 → f j = (eFt x)[j]? := fun f x hx j hj => by
   rcases j with _ | _ | j
   ·exact hx.1
   ·exact hx.2.1
   ·omega
  obtain ⟨a44, c44, w45, q45, o45, x45⟩ := copyRows (P := Tryz.prog) (t := 36) (ty := 36) (c := c3') sltF (n6.1.ext RFt.mono y37) eFt_len eFt_one hR (by omega)
  refine ⟨_, _, _, _, q45, Below.cel x45, AllocK.and (AllocK.mk fun b46 w47 _ _ x47 => Below.cel (x45.trans x47)) ?_⟩
  obtain ⟨rowF, uF⟩ := RowR.adopt (s := (a44, l3', c44)) o45 (Nat.le_refl _) x45 own (11 + 3 * vs.length)
  have u24 := u24.fr uF.fr
  have u7 := u7.fr uF.fr
  have box45 := box37.upd uF (by omega)
  have out45 := out37.upd uF (by omega)
  have hkpF : Kq own (setOwn own (sblk (a44, l3', c44)) (11 + 3 * vs.length)) vs.length w w45 := ((Kq.ext (x8.trans x30)).trans (Kq.upd u36' (by omega))).trans (Kq.upd uF (by omega))
  generalize setOwn own (sblk (a44, l3', c44)) (11 + 3 * vs.length) = ownF at rowF uF u24 u7 box45 out45 hkpF
  generalize hraw : (⟨xs[i].kd, xs[i].n, xs[i].tx, (a44, l3', c44), (none, 0, 0)⟩ : Rw) = raw
  refine RowR.push raw sltN out45 eN_len eN_one (by rw [h.lenR]; omega) (by rw [← hraw]; rfl) fun s' w49 rowO uO => ?_
  have box49 := box45.upd uO (by decide)
  have u24 := u24.fr uO.fr
  have u7 := u7.fr uO.fr
  have hkpO := hkpF.trans (Kq.upd (n0 := vs.length) uO (by omega))
  generalize setOwn ownF (sblk s') 0 = ownO at rowO uO box49 u24 u7 hkpO
  refine adK rfl (Bx.setA box49 (by simp) fun w51 box51 u51 => ?_)
  have u24 := u24.fr u51.fr
  have u7 := u7.fr u51.fr
  have hkp51 := hkpO.trans (Kq.upd (n0 := vs.length) u51 (by omega))
  have h51 : WS w0 w51 ownO b14 b12 xs cl (vs ++ [i]) (RW ++ [raw]) s' (K ++ [[]]) (bys.set c ((vs.length : Int) + 1)) :=
   h30.more u36' r37 hbk' (by rw [← hraw, nd_get hi]) (by rw [← hraw, nd_get hi]) (by rw [← hraw, nd_get hi]) (by rw [← hraw]) uF (by rw [← hraw, nd_get hi]; exact rowF) uO rowO u51 (by simpa using box51)
  have hd2 : xs.length + 1 - (vs.length + 1) ≤ d := by omega
  have hkidl : (Gr.kids xs i).length = l4' := by rw [kids_len, nd_get hi]; exact hl4.symm
  have haB : Apart xs (vs ++ [i]) := ha.push hns
  have hvB : ∀ v ∈ vs ++ [i], v < xs.length := fun v hv' => by
   rcases List.mem_append.1 hv' with h | h
   ·exact hv v h
   ·simp at h; subst h; exact hi
  have hkin : ∀ k ∈ Gr.kids xs i, k < xs.length := fun k hk => by
   obtain ⟨m', hm', e⟩ := List.getElem_of_mem hk
   have e2 := kids_get (by rw [← kids_len]; exact hm')
   rw [List.getElem?_eq_getElem hm', e] at e2
   cases e2; exact kid_lt hc hi (by rw [← kids_len]; exact hm')
  refine ⟨fun a l c x w' => ∃ (m : Nat) (own' : OwnM Nat) (vs' : List Nat) (RW' : List Rw) (s2 : SL) (K' : List (List Int)) (bys' : List Int) (kk : List Int), x = m ∧ m ≤ l4' ∧ WS w0 w' own' b14 b12 xs cl vs' RW' s2 K' bys' ∧ Dfs xs ((Gr.kids xs i).take m) (vs ++ [i]) vs' ∧ Kq ownO own' vs.length w51 w' ∧
    Ub own' w' b7 #[.int .i64 root, .slice a2 l2 c2] 25 ∧ Ub own' w' b24 #[.string xs[i].kd, .int .i64 xs[i].n, .string xs[i].tx, .slice a3' l3' c3', .slice a4' l4' c4'] 39 ∧
    RW'[vs.length]? = some raw ∧ K'[vs.length]? = some [] ∧ (∀ q, q < vs.length → K'[q]? = K[q]? ∧ RW'[q]? = RW[q]?) ∧ RowR own' (10 + 3 * vs.length) 3 1 eI w' (a, l, c) kk ∧ kk.length = m ∧ (∀ m', m' < m → ∃ p : Nat, kk[m']? = some (p : Int) ∧ ∃ u, vs'[p]? = some u ∧ Eqv xs xs u (kid xs i m')) ∧
    (∀ q, vs.length < q → (∀ M, Fil xs vs' K' q M) ∧ ∀ v k, vs'[q]? = some v → K'[q]? = some k → k.length = (nd xs v).ks.length), fun _ _ _ x _ => l4' - x.toNat,
   ⟨⟨0, _, _, _, _, _, _, [], rfl, by omega, h51, .nil _, Kq.refl _ _ _, u7, u24, by rw [← h.lenR, List.getElem?_concat_length], by rw [← h.lenK, List.getElem?_concat_length], fun q hq => ⟨by rw [List.getElem?_append_left (by rw [h.lenK]; exact hq)], by rw [List.getElem?_append_left (by rw [h.lenR]; exact hq)]⟩, RowR.nil _ _ _ _ _ _, rfl, fun m' hm => by omega,
    fun q hq => ⟨fun M v k e1 => ?_, fun v k e1 => ?_⟩⟩, trivial⟩, ?_⟩
  ·rw [List.getElem?_eq_none (by simp; omega)] at e1; cases e1
  ·rw [List.getElem?_eq_none (by simp; omega)] at e1; cases e1
  rintro w54 a55 l55 c55 _ ⟨m, own', vs', RW', s2, K', bys', kk, rfl, hm, hV, hD, hKp, v7, v24, hRn, hKn, hold, hkk, hkkl, hFn, hFq⟩
  have haV := hD.apart haB
  have hvV := hD.lt hc (fun k hk => hkin k (List.mem_of_mem_take hk)) hvB
  obtain ⟨tl, htl⟩ := hD.grow
  have hvl' : vs.length + 1 ≤ vs'.length := by rw [htl]; simp
  have hvi : vs'[vs.length]? = some i := by rw [htl, List.append_assoc, List.getElem?_append_right (Nat.le_refl _)]; simp
  refine ⟨_, _, _, by rw [add_mk, v24.blk.cell]; rfl, BoolK.mk (fun t => ?_) (fun t => ?_)⟩
  ·have hmlt : m < l4' := by have := of_decide_eq_true t; omega
   have hmk4 : m < xs[i].ks.length := by omega
   refine DrewK.mk fun w58 x58 => ?_
   have hV := hV.ext x58
   have v7 := v7.ext x58
   have v24 := v24.ext x58
   have hkk := hkk.ext x58
   obtain ⟨b72, ha2, z0⟩ := ksAt n8 hV.loc.below hmk4
   have hkid := hc _ (List.getElem_mem hi) _ (List.getElem_mem hmk4)
   have hkg : (Gr.kids xs i)[m]? = some (kid xs i m) := kids_get (by rw [nd_get hi]; exact hmk4)
   have hkv : xs[i].ks[m] = ((kid xs i m : Nat) : Int) := by
    rw [kid, nd_get hi, List.getElem?_eq_getElem hmk4]
    show _ = ((xs[i].ks[m].toNat : Nat) : Int)
    omega
   have hkl2 : kid xs i m < xs.length := kid_lt hc hi (by rw [nd_get hi]; exact hmk4)
   rw [hkv] at z0
   refine ⟨_, (g7 v7).1, _, _, _, (g7 v7).2, _, _, _, by rw [add_mk, v24.blk.cell]; rfl, ⟨by omega, by omega⟩, adK ha2 ⟨_, z0, ?_⟩⟩
   refine (ih w58 own' vs' RW' s2 K' bys' (kid xs i m) hV hkl2 haV hvV (by omega)).mono ?_
   rintro en w65 ⟨r, rfl, own2, vs2, RW2, s3, K2, bys2, hV2, hD2, hKp2, ⟨qr, rfl, vr, hvr, evr⟩, hold2, hF2⟩
   have hkk2 := RowR.kq hkk hKp2 (by omega) (by omega)
   have v7 := v7.fr hKp2.fr
   have v24 := v24.fr hKp2.fr
   refine ⟨_, rfl, ?_⟩
   refine RowR.push ((qr : Nat) : Int) sltI hkk2 eI_len eI_one (by rw [hkkl]; omega) rfl fun s5 w70 rowK uK => ?_
   obtain ⟨hK2, hR2⟩ := hold2 vs.length (by omega)
   obtain ⟨tl2, htl2⟩ := hD2.grow
   have hV3 := hV2.updK uK (by rw [hR2]; exact hRn) (by rw [← hraw]) (by rw [hK2]; exact hKn)
   have v7 := v7.fr uK.fr
   have v24 := v24.fr uK.fr
   have hkp3 := ((hKp.trans (Kq.ext x58)).trans (hKp2.mono (by omega))).trans (Kq.upd (n0 := vs.length) uK (by omega))
   rw [wrap_succ (by omega)]
   refine ⟨⟨m + 1, _, vs2, RW2, s3, K2, bys2, _, rfl, by omega, hV3, ?_, hkp3, v7, v24, by rw [hR2]; exact hRn, by rw [hK2]; exact hKn, fun q hq => ?_, rowK, by simp [hkkl], fun m' hm' => ?_, fun q hq => ?_⟩, by simp; omega⟩
   ·rw [List.take_add_one, hkg]; exact hD.append hD2
   ·obtain ⟨g1, g2⟩ := hold2 q (by omega)
    obtain ⟨g3, g4⟩ := hold q hq
    exact ⟨by rw [g1, g3], by rw [g2, g4]⟩
   ·by_cases e : m' = m
    ·subst e
     exact ⟨qr, by rw [← hkkl, List.getElem?_concat_length], vr, hvr, evr⟩
    ·obtain ⟨pp, f1, u, f2, f3⟩ := hFn m' (by omega)
     exact ⟨pp, by rw [List.getElem?_append_left (by omega)]; exact f1, u, by rw [htl2, List.getElem?_append_left (List.getElem?_eq_some_iff.1 f2).1]; exact f2, f3⟩
   ·rcases Nat.lt_or_ge q vs'.length with h1 | h1
    ·obtain ⟨g1, g2⟩ := hFq q hq
     refine ⟨fun M => ?_, fun v k e1 e2 => ?_⟩
     ·rw [htl2]; exact (g1 M).grow h1 (hold2 q h1).1
     ·rw [htl2, List.getElem?_append_left h1] at e1
      rw [(hold2 q h1).1] at e2
      exact g2 v k e1 e2
    ·exact hF2 q h1
  ·have hml : m = l4' := by have := of_decide_eq_false t; omega
   subst hml
   rw [← hkidl, List.take_length] at hD
   have hs2 : s2.2.1 = vs'.length := by rw [hV.out.len, hV.lenR]
   obtain ⟨b73, e73, set73⟩ := hV.fill (n := vs.length) (sk := (a55, l55, c55)) hRn hKn hkk (F := fun w74 => VisitD w0 own b14 b12 xs cl vs RW K i w ((s.2.1 : Nat) : Int) w74) fun w74 h74 u74 => by
    refine ⟨own', vs', _, s2, _, bys', h74, .new hns hD (.nil _), (hkp51.trans hKp).trans (Kq.upd u74 (by omega)), ⟨vs.length, by rw [hsl], i, hvi, Eqv.refl _ _⟩, fun q hq => ?_, fun q hq => ?_⟩
    ·obtain ⟨g3, g4⟩ := hold q hq
     exact ⟨by rw [List.getElem?_set, if_neg (by omega), g3], by rw [List.getElem?_set, if_neg (by omega), g4]⟩
    ·have hnK : vs.length < K'.length := (List.getElem?_eq_some_iff.1 hKn).1
     rcases Nat.lt_or_ge vs.length q with h1 | h1
     ·obtain ⟨g1, g2⟩ := hFq q h1
      have eK : (K'.set vs.length kk)[q]? = K'[q]? := by rw [List.getElem?_set, if_neg (by omega)]
      exact ⟨fun M v k e1 e2 => g1 M v k e1 (by rw [← eK]; exact e2), fun v k e1 e2 => g2 v k e1 (by rw [← eK]; exact e2)⟩
     ·have hq2 : q = vs.length := by omega
      subst hq2
      have eK : (K'.set vs.length kk)[vs.length]? = some kk := by rw [List.getElem?_set, if_pos rfl, if_pos hnK]
      refine ⟨fun M v k e1 e2 m2 hm2 _ => ?_, fun v k e1 e2 => ?_⟩
      ·rw [eK] at e2; cases e2
       rw [hvi] at e1; cases e1
       exact hFn m2 (by omega)
      ·rw [eK] at e2; cases e2
       rw [hvi] at e1; cases e1
       rw [nd_get hi]; omega
   refine adK rfl ⟨_, _, _, gbox hV, ⟨by omega, by omega⟩, adK e73 ?_⟩
   rw [hsl] at set73 ⊢
   exact set73
end Go.Proofs.YtnmldggopnbclaaGreatDoor

namespace Go.Proofs.YtnmldggopnbclaaGreatDoor
open Go Go.V Go.Proofs
open Go.RowKit (Below)
/-! manystrand/manystrandref05.Joined -/
def N22 (x1 : Int) (a2 : Option Addr) (l2 : Nat) (c2 : Nat) (K : Int → Option Addr → Nat → Nat → World → Prop) (w : World) : Prop :=
 AllocK w (#[(.int .i64 x1), (.slice a2 l2 c2)]) 25 fun b3 w4 =>
 AllocK w4 (#[.int .i64 0, .slice none 0 0]) 25 fun b5 w6 =>
 ∃ a7 l7 c7, w6.cell? (b3.add 1) = some (.slice a7 l7 c7) ∧
 (Calls Tryz.prog 39 #[(.slice a7 l7 c7)] w6 fun e10 w9 =>
 ∃ a8, ∃ l8, ∃ c8, e10 = .returned (.slice a8 l8 c8) ∧
 (∃ a11 l11 c11, w9.cell? (b3.add 1) = some (.slice a11 l11 c11) ∧
 ((0 ≤ (IntKind.wrap .i64 (l11 + 1) : Int) ∧ (IntKind.wrap .i64 (l11 + 1) : Int) ≤ IntKind.wrap .i64 (l11 + 1) ∧ ((8 : Nat) : Int) * (IntKind.wrap .i64 (l11 + 1)) ≤ 281474976710656 ∧ (IntKind.wrap .i64 (l11 + 1) : Int) ≤ 9223372036854775807) ∧
 AllocK w9 (madeCells (#[.int .i64 0]) ((IntKind.wrap .i64 (l11 + 1) : Int).toNat * 1)) 3 fun b12 w13 =>
 AllocK w13 (#[.int .i64 0, .slice none 0 0]) 25 fun b14 w15 =>
 ∃ x16, w15.cell? (b3.add 0) = some (.int .i64 x16) ∧
 (∃ a17 l17 c17, w15.cell? (b3.add 1) = some (.slice a17 l17 c17) ∧
 (∃ x18, w15.cell? b3 = some (.int .i64 x18) ∧
 (Calls Tryz.prog 40 #[(.agg #[(.int .i64 x16), (.slice a17 l17 c17)]), (.slice a8 l8 c8), (.slice (some b12) ((IntKind.wrap .i64 (l11 + 1) : Int).toNat) ((IntKind.wrap .i64 (l11 + 1) : Int).toNat)), (.int .i64 x18), (.pointer (some b14))] w15 fun e21 w20 =>
 ∃ x19, e21 = .returned (.int .i64 x19) ∧
 (∃ x22, w20.cell? (b14.add 0) = some (.int .i64 x22) ∧
 (∃ a23 l23 c23, w20.cell? (b14.add 1) = some (.slice a23 l23 c23) ∧
 (SetK w20 (b5.add 0) (.int .i64 x22) fun w24 =>
 SetK w24 (b5.add 1) (.slice a23 l23 c23) fun w25 =>
 ∃ x26, w25.cell? (b5.add 0) = some (.int .i64 x26) ∧
 (∃ a27 l27 c27, w25.cell? (b5.add 1) = some (.slice a27 l27 c27) ∧
 (K x26 a27 l27 c27 w25)))))))))))
def ann22 : Ann := (.two .nil (.two .nil (.two .nil (.two .nil (.two .nil (.two .nil .nil))))))
noncomputable def code22 : Code := match Tryz.f22.body with | some c => c | none => .skip
theorem calls22 (x1 : Int) (a2 : Option Addr) (l2 : Nat) (c2 : Nat) (K : Int → Option Addr → Nat → Nat → World → Prop) (w : World) (h : N22 x1 a2 l2 c2 K w) : Calls Tryz.prog 22 #[(.agg #[(.int .i64 x1), (.slice a2 l2 c2)])] w fun en w' => ∃ (x28 : Int), ∃ (a29 : Option Addr), ∃ (l29 : Nat), ∃ (c29 : Nat), en = .returned (.agg #[(.int .i64 x28), (.slice a29 l29 c29)]) ∧ K x28 a29 l29 c29 w' :=
 fn_calls tabOk mixed Tryz.func22 (by kernel_rfl : Tryz.f22.body = some code22) ann22 [(.agg #[(.int .i64 x1), (.slice a2 l2 c2)])] [(.agg [(.int .i64), .slice])] K w (by kernel_rfl) (by kernel_rfl) (by kernel_rfl) h
end Go.Proofs.YtnmldggopnbclaaGreatDoor

namespace Go.Proofs.YtnmldggopnbclaaGreatDoor
open Go Go.V Go.Proofs Go.V.Gr
open Go.RowKit (Below)
theorem VN.isG {w : World} {own : OwnM Nat} {xs : List Nd} {vs : List Nat} {RW : List Rw} {s : SL} {K : List (List Int)} (h : VN w own xs vs RW s K) (hF : ∀ q M, Fil xs vs K q M) : IsG xs vs (outOf xs vs K) := by
 have hk : ∀ q (hq : q < vs.length), (K[q]?.getD []).length = (nd xs vs[q]).ks.length := fun q hq => by
  obtain ⟨_, _, _, g4, _⟩ := h.nds q (RW[q]'(by rw [h.lenR]; exact hq)) vs[q] (K[q]'(by rw [h.lenK]; exact hq)) (List.getElem?_eq_getElem _) (List.getElem?_eq_getElem _) (List.getElem?_eq_getElem _)
  rw [List.getElem?_eq_getElem (by rw [h.lenK]; exact hq)]; exact g4
 have hnd : ∀ q (hq : q < vs.length), nd (outOf xs vs K) q = { nd xs vs[q] with ks := K[q]?.getD [] } := fun q hq => by
  have e : (outOf xs vs K)[q]? = _ := outOf_get (K := K) (xs := xs) hq
  unfold nd at e ⊢
  rw [e]; rfl
 refine ⟨outOf_len, fun q hq => ?_, fun q hq m hm => ?_⟩
 ·rw [hnd q hq]; exact hd_mk rfl rfl rfl rfl (hk q hq)
 ·rw [hnd q hq] at hm ⊢
  have hKq : q < K.length := by rw [h.lenK]; exact hq
  rw [List.getElem?_eq_getElem hKq] at hm ⊢
  obtain ⟨p, e1, u, e2, e3⟩ := hF q (m + 1) vs[q] K[q] (List.getElem?_eq_getElem hq) (List.getElem?_eq_getElem hKq) m hm (by omega)
  obtain ⟨hp, e4⟩ := List.getElem?_eq_some_iff.1 e2
  exact ⟨p, e1, hp, by rw [e4]; exact e3⟩
set_option maxRecDepth 100000 in
theorem ctr22 (w : World) {a1 : Option Addr} {l1 : Nat} (c1 : Nat) {xs : List Nd} (h : RNds w a1 l1 xs) (hc : Closed xs) (hz : Sz xs) (hw : ∀ x ∈ xs, NdW x) (hd : ∀ x ∈ xs, DOk x ∧ ZOk x) {i : Nat} (hi : i < xs.length) :
  Calls Tryz.prog 22 #[.agg #[.int .i64 (i : Int), .slice a1 l1 c1]] w fun en w' => ∃ x a l c, en = .returned (.agg #[.int .i64 x, .slice a l c]) ∧
   (x = 0 ∧ ∃ out, Least xs i out ∧ GD w w' (a, l, c) out) := by
 refine calls22 _ _ _ _ _ w ?_
 have hn := hz.len
 have hl1 := h.len
 refine AllocK.mk fun b3 w4 hb3 hB3 x4 => AllocK.mk fun b5 w6 hb5 hB5 x6 => ?_
 have hB3 := hB3.ext x6
 have y6 := x4.trans x6
 obtain ⟨g0, g1, g2⟩ := blkAt2 hB3
 refine ⟨_, _, _, g1, (ctr39 w6 c1 (RNds.at h y6) hc hz hd).mono ?_⟩
 rintro en w9 ⟨a8, l8, c8, rfl, cl, hcl, hcb, hI, x9⟩
 have y9 := y6.trans x9
 have hB3 := hB3.ext x9
 have hB5 := hB5.ext x9
 have hN := RNds.at h y9
 have wl : IntKind.wrap .i64 (((l1 : Nat) : Int) + 1) = ((xs.length + 1 : Nat) : Int) := by rw [hl1, wrap_succ (by omega)]
 obtain ⟨g0, g1, g2⟩ := blkAt2 hB3
 refine ⟨_, _, _, rfl, _, _, _, g1, ?_⟩
 rw [wl]
 refine ⟨⟨by omega, by omega, by omega, by omega⟩, ?_⟩
 rw [Int.toNat_natCast]
 refine RowR.make (x := (0 : Int)) (enc := eI) rfl (by simp only [maxLen]; omega) (fun _ => (none : Option Nat)) 1 fun b12 w13 r12 u12 x13 hb12 => ?_
 have L13 := (Mine.refl (ρ := Nat) w9).upd u12
 generalize setOwn (fun _ => (none : Option Nat)) (some b12) 1 = own12 at r12 u12 L13
 refine Bx.new own12 2 fun b14 w15 x14 u14 x15 hb14 => ?_
 have L15 := L13.upd u14
 have r15 := r12.upd u14 (by decide)
 generalize setOwn own12 (some b14) 2 = own14 at r15 x14 u14 L15
 obtain ⟨g0, g1, g2⟩ := blkAt2 (hB3.ext L15.below)
 have S15 : WS w9 w15 own14 b14 b12 xs cl [] [] (none, 0, 0) [] (List.replicate (xs.length + 1) 0) :=
  ⟨L15, x14, r15, fun i hi => .inl ⟨ga_rep, fun ⟨v, hv, _⟩ => by cases hv⟩, RowR.nil _ _ _ _ _ _, rfl, rfl, fun q r v k e => by simp at e⟩
 refine ⟨_, g0, _, _, _, g1, _, g2, ?_⟩
 refine (ctr40 (i : Int) c1 c8 (xs.length + 1) hN hI hc hz hcl hcb (xs.length + 1) w15 own14 [] [] (none, 0, 0) [] _ i S15 hi (fun a b x y e => by simp at e) (fun v hv => by simp at hv) (by simp)).mono ?_
 rintro en w20 ⟨r, rfl, own', vs', RW', s', K', bys', V, D, kp, _, _, hF⟩
 have hvV := D.lt hc (by simpa using hi) (by simp)
 have haV := D.apart (fun a b x y e => by simp at e)
 have hvl := vs_len haV hvV
 have N20 : VN w20 own' xs vs' RW' s' K' := ⟨V.out, V.lenR, V.lenK, fun q r v k e1 e2 e3 => by
  obtain ⟨f1, f2, f3, f5, f6⟩ := V.nds q r v k e1 e2 e3
  exact ⟨f1, f2, f3, (hF q (by simp)).2 v k e2 e3, f5, f6⟩⟩
 have G := N20.isG fun q M => (hF q (by simp)).1 M
 have R := fun w' (N : VN w' own' xs vs' RW' s' K') => N.nodes hw (RNds.wf h) hvV (by simp only [maxLen]; omega) hz
 have GD20 : GD w9 w20 s' (outOf xs vs' K') := ⟨own', xs, vs', RW', K', N20, V.loc, R⟩
 refine ⟨_, rfl, _, by rw [add_mk, V.box.blk.cell]; rfl, _, _, _, by rw [add_mk, V.box.blk.cell]; rfl, ?_⟩
 refine setTwo (hB5.ext V.loc.below) fun w23 hB23 k23 => ?_
 obtain ⟨f0, f1, _⟩ := blkAt2 hB23
 have hbw : w.heap.size ≤ b5 := by have := x4.size; omega
 exact ⟨_, f0, _, _, _, f1, rfl, _, ⟨vs', D, G⟩, GD20.but k23 hB5.lt y9 hbw⟩
theorem GrOk.d {root : Int} {xs : List Nd} {most : Nat} (h : GrOk root xs most) (hl : Lim xs) : ∀ x ∈ xs, DOk x ∧ ZOk x := fun x hx => (h.nds x hx).d (hl x hx).1
end Go.Proofs.YtnmldggopnbclaaGreatDoor

namespace Go.Proofs.YtnmldggopnbclaaGreatDoor
open Go Go.V Go.Proofs
open Go.RowKit (Below)
/-! manystrand/manystrandref05.IsNil -/
def N25 (s1 : ByteArray) (x2 : Int) (s3 : ByteArray) (a4 : Option Addr) (l4 : Nat) (c4 : Nat) (a5 : Option Addr) (l5 : Nat) (c5 : Nat) (K : Bool → World → Prop) (w : World) : Prop :=
 AllocK w (#[(.string s1), (.int .i64 x2), (.string s3), (.slice a4 l4 c4), (.slice a5 l5 c5)]) 39 fun b6 w7 =>
 ∃ s8, w7.cell? b6 = some (.string s8) ∧
 (BoolK (s8.toList == (⟨#[114, 101, 99]⟩ : ByteArray).toList)
 (∃ s9, w7.cell? (b6.add 2) = some (.string s9) ∧
 (BoolK (s9.toList == (⟨#[110, 105, 108]⟩ : ByteArray).toList)
 (∃ a10 l10 c10, w7.cell? (b6.add 3) = some (.slice a10 l10 c10) ∧
 (K ((l10 : Int) == 0) w7))
 (K false w7)))
 (K false w7))
def ann25 : Ann := (.two .nil (.two .nil .nil))
noncomputable def code25 : Code := match Tryz.f25.body with | some c => c | none => .skip
theorem calls25 (s1 : ByteArray) (x2 : Int) (s3 : ByteArray) (a4 : Option Addr) (l4 : Nat) (c4 : Nat) (a5 : Option Addr) (l5 : Nat) (c5 : Nat) (K : Bool → World → Prop) (w : World) (h : N25 s1 x2 s3 a4 l4 c4 a5 l5 c5 K w) : Calls Tryz.prog 25 #[(.agg #[(.string s1), (.int .i64 x2), (.string s3), (.slice a4 l4 c4), (.slice a5 l5 c5)])] w fun en w' => ∃ (p11 : Bool), en = .returned (.bool p11) ∧ K p11 w' :=
 fn_calls tabOk mixed Tryz.func25 (by kernel_rfl : Tryz.f25.body = some code25) ann25 [(.agg #[(.string s1), (.int .i64 x2), (.string s3), (.slice a4 l4 c4), (.slice a5 l5 c5)])] [(.one .bool)] K w (by kernel_rfl) (by kernel_rfl) (by kernel_rfl) h
end Go.Proofs.YtnmldggopnbclaaGreatDoor

namespace Go.Proofs.YtnmldggopnbclaaGreatDoor
open Go Go.V Go.Proofs
open Go.RowKit (Below)
/-! manystrand/manystrandref05.IsPair -/
def N26 (s1 : ByteArray) (x2 : Int) (s3 : ByteArray) (a4 : Option Addr) (l4 : Nat) (c4 : Nat) (a5 : Option Addr) (l5 : Nat) (c5 : Nat) (K : Bool → World → Prop) (w : World) : Prop :=
 AllocK w (#[(.string s1), (.int .i64 x2), (.string s3), (.slice a4 l4 c4), (.slice a5 l5 c5)]) 39 fun b6 w7 =>
 ∃ s8, w7.cell? b6 = some (.string s8) ∧
 (BoolK (s8.toList == (⟨#[114, 101, 99]⟩ : ByteArray).toList)
 (∃ s9, w7.cell? (b6.add 2) = some (.string s9) ∧
 (BoolK (s9.toList == (⟨#[124]⟩ : ByteArray).toList)
 (∃ a10 l10 c10, w7.cell? (b6.add 3) = some (.slice a10 l10 c10) ∧
 (BoolK ((l10 : Int) == 2)
 (∃ a11 l11 c11, w7.cell? (b6.add 3) = some (.slice a11 l11 c11) ∧
 ((0 ≤ (0 : Int) ∧ (0 : Int) < l11) ∧
 AddrK a11 fun b12 =>
 ∃ x13, w7.cell? (b12.add ((0 : Int).toNat * 2)) = some (.int .i64 x13) ∧
 (BoolK (x13 == 1)
 (∃ a14 l14 c14, w7.cell? (b6.add 3) = some (.slice a14 l14 c14) ∧
 ((0 ≤ (1 : Int) ∧ (1 : Int) < l14) ∧
 AddrK a14 fun b15 =>
 ∃ x16, w7.cell? (b15.add ((1 : Int).toNat * 2)) = some (.int .i64 x16) ∧
 (K (x16 == 2) w7)))
 (K false w7))))
 (K false w7)))
 (K false w7)))
 (K false w7))
def ann26 : Ann := (.two .nil (.two .nil .nil))
noncomputable def code26 : Code := match Tryz.f26.body with | some c => c | none => .skip
theorem calls26 (s1 : ByteArray) (x2 : Int) (s3 : ByteArray) (a4 : Option Addr) (l4 : Nat) (c4 : Nat) (a5 : Option Addr) (l5 : Nat) (c5 : Nat) (K : Bool → World → Prop) (w : World) (h : N26 s1 x2 s3 a4 l4 c4 a5 l5 c5 K w) : Calls Tryz.prog 26 #[(.agg #[(.string s1), (.int .i64 x2), (.string s3), (.slice a4 l4 c4), (.slice a5 l5 c5)])] w fun en w' => ∃ (p17 : Bool), en = .returned (.bool p17) ∧ K p17 w' :=
 fn_calls tabOk mixed Tryz.func26 (by kernel_rfl : Tryz.f26.body = some code26) ann26 [(.agg #[(.string s1), (.int .i64 x2), (.string s3), (.slice a4 l4 c4), (.slice a5 l5 c5)])] [(.one .bool)] K w (by kernel_rfl) (by kernel_rfl) (by kernel_rfl) h
end Go.Proofs.YtnmldggopnbclaaGreatDoor

namespace Go.Proofs.YtnmldggopnbclaaGreatDoor
open Go Go.V Go.Proofs
open Go.RowKit (Below)
/-! manystrand/manystrandref05.Items -/
def N11 (x1 : Int) (a2 : Option Addr) (l2 : Nat) (c2 : Nat) (K : Option Addr → Nat → Nat → Int → World → Prop) (w : World) : Prop :=
 AllocK w (#[(.int .i64 x1), (.slice a2 l2 c2)]) 25 fun b3 w4 =>
 ∃ x5, w4.cell? (b3.add 0) = some (.int .i64 x5) ∧
 (∃ a6 l6 c6, w4.cell? (b3.add 1) = some (.slice a6 l6 c6) ∧
 (Calls Tryz.prog 19 #[(.agg #[(.int .i64 x5), (.slice a6 l6 c6)])] w4 fun e9 w8 =>
 ∃ p7, e9 = .returned (.bool p7) ∧
 (BoolK (!p7)
 (K none 0 0 50 w8)
 (∃ x10, w8.cell? (b3.add 0) = some (.int .i64 x10) ∧
 (∃ a11 l11 c11, w8.cell? (b3.add 1) = some (.slice a11 l11 c11) ∧
 (Calls Tryz.prog 22 #[(.agg #[(.int .i64 x10), (.slice a11 l11 c11)])] w8 fun e15 w14 =>
 ∃ x12, ∃ a13, ∃ l13, ∃ c13, e15 = .returned (.agg #[(.int .i64 x12), (.slice a13 l13 c13)]) ∧
 (SetK w14 (b3.add 0) (.int .i64 x12) fun w16 =>
 SetK w16 (b3.add 1) (.slice a13 l13 c13) fun w17 =>
 ∃ x18, w17.cell? b3 = some (.int .i64 x18) ∧
 (∃ (I19 : Option Addr → Nat → Nat → Int → Int → World → Prop) (μ20 : Option Addr → Nat → Nat → Int → Int → World → Nat),
 (I19 none 0 0 x18 0 w17 ∧ True) ∧
 ∀ w21 a22 l22 c22 x23 x24, I19 a22 l22 c22 x23 x24 w21 →
 ∃ a25 l25 c25, w21.cell? (b3.add 1) = some (.slice a25 l25 c25) ∧
 (BoolK (decide (x24 ≤ l25))
 (∃ a26 l26 c26, w21.cell? (b3.add 1) = some (.slice a26 l26 c26) ∧
 ((0 ≤ x23 ∧ x23 < l26) ∧
 AddrK a26 fun b27 =>
 ∃ s28, w21.cell? ((b27.add (x23.toNat * 5)).add 0) = some (.string s28) ∧
 (∃ x29, w21.cell? ((b27.add (x23.toNat * 5)).add 1) = some (.int .i64 x29) ∧
 (∃ s30, w21.cell? ((b27.add (x23.toNat * 5)).add 2) = some (.string s30) ∧
 (∃ a31 l31 c31, w21.cell? ((b27.add (x23.toNat * 5)).add 3) = some (.slice a31 l31 c31) ∧
 (∃ a32 l32 c32, w21.cell? ((b27.add (x23.toNat * 5)).add 4) = some (.slice a32 l32 c32) ∧
 (AllocK w21 (#[.string ⟨#[]⟩, .int .i64 0, .string ⟨#[]⟩, .slice none 0 0, .slice none 0 0]) 39 fun b33 w34 =>
 SetK w34 (b33.add 0) (.string s28) fun w35 =>
 SetK w35 (b33.add 1) (.int .i64 x29) fun w36 =>
 SetK w36 (b33.add 2) (.string s30) fun w37 =>
 SetK w37 (b33.add 3) (.slice a31 l31 c31) fun w38 =>
 SetK w38 (b33.add 4) (.slice a32 l32 c32) fun w39 =>
 ∃ s40, w39.cell? (b33.add 0) = some (.string s40) ∧
 (∃ x41, w39.cell? (b33.add 1) = some (.int .i64 x41) ∧
 (∃ s42, w39.cell? (b33.add 2) = some (.string s42) ∧
 (∃ a43 l43 c43, w39.cell? (b33.add 3) = some (.slice a43 l43 c43) ∧
 (∃ a44 l44 c44, w39.cell? (b33.add 4) = some (.slice a44 l44 c44) ∧
 (Calls Tryz.prog 25 #[(.agg #[(.string s40), (.int .i64 x41), (.string s42), (.slice a43 l43 c43), (.slice a44 l44 c44)])] w39 fun e47 w46 =>
 ∃ p45, e47 = .returned (.bool p45) ∧
 (BoolK p45
 (K a22 l22 c22 0 w46)
 (∃ s48, w46.cell? (b33.add 0) = some (.string s48) ∧
 (∃ x49, w46.cell? (b33.add 1) = some (.int .i64 x49) ∧
 (∃ s50, w46.cell? (b33.add 2) = some (.string s50) ∧
 (∃ a51 l51 c51, w46.cell? (b33.add 3) = some (.slice a51 l51 c51) ∧
 (∃ a52 l52 c52, w46.cell? (b33.add 4) = some (.slice a52 l52 c52) ∧
 (Calls Tryz.prog 26 #[(.agg #[(.string s48), (.int .i64 x49), (.string s50), (.slice a51 l51 c51), (.slice a52 l52 c52)])] w46 fun e55 w54 =>
 ∃ p53, e55 = .returned (.bool p53) ∧
 (BoolK (!p53)
 (K none 0 0 5 w54)
 (DrewK w54 fun w56 =>
 ∃ a57 l57 c57, w56.cell? (b33.add 4) = some (.slice a57 l57 c57) ∧
 ((0 ≤ (0 : Int) ∧ (0 : Int) < l57) ∧
 AddrK a57 fun b58 =>
 ∃ x59, w56.cell? (b58.add ((0 : Int).toNat * 1)) = some (.int .i64 x59) ∧
 (∃ a60 l60 c60, w56.cell? (b3.add 1) = some (.slice a60 l60 c60) ∧
 (Calls Tryz.prog 22 #[(.agg #[(.int .i64 x59), (.slice a60 l60 c60)])] w56 fun e64 w63 =>
 ∃ x61, ∃ a62, ∃ l62, ∃ c62, e64 = .returned (.agg #[(.int .i64 x61), (.slice a62 l62 c62)]) ∧
 (AllocK w63 (#[(.int .i64 x61), (.slice a62 l62 c62)]) 25 fun b65 w66 =>
 ∃ a67, ∃ l67, ∃ c67, ∃ w68, Sem.run Tryz.prog (Builtin.append_ #[22, 22] 22 #[(.slice a22 l22 c22), (.slice (some b65) 1 1)]) w66 = .ok (.slice a67 l67 c67) w68 ∧
 (∃ a69 l69 c69, w68.cell? (b33.add 4) = some (.slice a69 l69 c69) ∧
 ((0 ≤ (1 : Int) ∧ (1 : Int) < l69) ∧
 AddrK a69 fun b70 =>
 ∃ x71, w68.cell? (b70.add ((1 : Int).toNat * 1)) = some (.int .i64 x71) ∧
 (I19 a67 l67 c67 x71 (IntKind.wrap .i64 (x24 + 1)) w68 ∧ μ20 a67 l67 c67 x71 (IntKind.wrap .i64 (x24 + 1)) w68 < μ20 a22 l22 c22 x23 x24 w21))))))))))))))))))))))))))))
 (K none 0 0 5 w21))))))))))
def ann11 : Ann := (.two .nil (.two (.two .nil (.two (.two .nil .nil) .nil)) (.two .nil (.two .nil (.two .nil (.two (.two .nil (.one (.loop [(4, (.one .slice)), (5, (.one (.int .i64))), (6, (.one (.int .i64)))] [1] (.two (.two .nil (.two .nil .nil)) (.two (.one (.two .nil (.two (.two .nil (.two (.two .nil .nil) .nil)) (.two (.two .nil (.two (.two .nil .nil) .nil)) (.two (.anyC 10 (.take 0 (.take 1 (.take 2 (.take 3 (.take 4 (.take 5 (.take 6 (.take 7 (.one 8 (.one 9 .done))))))))))) .nil))))) .nil))))) (.two .nil .nil)))))))
noncomputable def code11 : Code := match Tryz.f11.body with | some c => c | none => .skip
theorem calls11 (x1 : Int) (a2 : Option Addr) (l2 : Nat) (c2 : Nat) (K : Option Addr → Nat → Nat → Int → World → Prop) (w : World) (h : N11 x1 a2 l2 c2 K w) : Calls Tryz.prog 11 #[(.agg #[(.int .i64 x1), (.slice a2 l2 c2)])] w fun en w' => ∃ (a72 : Option Addr), ∃ (l72 : Nat), ∃ (c72 : Nat), ∃ (x73 : Int), en = .returned (.tuple #[(.slice a72 l72 c72), (.int .i64 x73)]) ∧ K a72 l72 c72 x73 w' :=
 fn_calls tabOk mixed Tryz.func11 (by kernel_rfl : Tryz.f11.body = some code11) ann11 [(.agg #[(.int .i64 x1), (.slice a2 l2 c2)])] [(.one .slice), (.one (.int .i64))] K w (by kernel_rfl) (by kernel_rfl) (by kernel_rfl) h
end Go.Proofs.YtnmldggopnbclaaGreatDoor

namespace Go.Proofs.YtnmldggopnbclaaGreatDoor
open Go Go.V Go.Proofs Go.V.Gr
open Go.RowKit (Below)
theorem ctr25 (w : World) (x : Nd) {a4 a5 : Option Addr} {l4 l5 : Nat} (c4 c5 : Nat) (hf : RL 2 RFt w a4 l4 x.fs) :
  Calls Tryz.prog 25 #[.agg #[.string x.kd, .int .i64 x.n, .string x.tx, .slice a4 l4 c4, .slice a5 l5 c5]] w fun en w' => ∃ p, en = .returned (.bool p) ∧ (p = isNilD x ∧ Ext w w') := by
 refine calls25 _ _ _ _ _ _ _ _ _ _ w ?_
 refine AllocK.mk fun b w7 hb hB x7 => ?_
 obtain ⟨g0, _, g2, g3, _⟩ := blkAt5 hB (Ext.refl w7)
 refine ⟨_, g0, BoolK.mk (fun t => ⟨_, g2, BoolK.mk (fun t2 => ⟨_, _, _, g3, ?_, x7⟩) (fun t2 => ⟨?_, x7⟩)⟩) (fun t => ⟨?_, x7⟩)⟩
 ·have k1 : x.kd = kRecT := tl_iff.1 t
  have k2 : x.tx = kNil := tl_iff.1 t2
  unfold isNilD
  rw [decide_eq_true k1, decide_eq_true k2, Bool.true_and, Bool.true_and, Bool.eq_iff_iff, decide_eq_true_eq]
  exact len0 hf.len
 ·have k2 : x.tx ≠ kNil := tl_no t2
  unfold isNilD
  rw [decide_eq_false k2]; simp
 ·have k1 : x.kd ≠ kRecT := tl_no t
  unfold isNilD
  rw [decide_eq_false k1]; simp
theorem feat_num {f : Ft} (h : featD f = true) (h1 : f.1 ≠ 0) : f.2 = ⟨#[]⟩ := by
 unfold featD at h
 rw [if_pos h1] at h
 exact (of_decide_eq_true h).2.2
theorem ctr26 (w : World) (x : Nd) {a4 a5 : Option Addr} {l4 l5 : Nat} (c4 c5 : Nat) (hf : RL 2 RFt w a4 l4 x.fs) (hft : ∀ f ∈ x.fs, featD f = true) :
    Calls Tryz.prog 26 #[.agg #[.string x.kd, .int .i64 x.n, .string x.tx, .slice a4 l4 c4, .slice a5 l5 c5]] w fun en w' => ∃ p, en = .returned (.bool p) ∧ (p = isConsD x ∧ Ext w w') := by
  refine calls26 _ _ _ _ _ _ _ _ _ _ w ?_
  have e4 := hf.len
  refine AllocK.mk fun b w7 hb hB x7 => ?_
  obtain ⟨g0, _, g2, g3, _⟩ := blkAt5 hB (Ext.refl w7)
  refine ⟨_, g0, BoolK.mk (fun t => ⟨_, g2, BoolK.mk (fun t2 => ⟨_, _, _, g3, BoolK.mk (fun t3 => ?_) (fun t3 => ⟨?_, x7⟩)⟩) (fun t2 => ⟨?_, x7⟩)⟩) (fun t => ⟨?_, x7⟩)⟩
  · have k1 : x.kd = kRecT := tl_iff.1 t
    have k2 : x.tx = kBar := tl_iff.1 t2
    have h2 : x.fs.length = 2 := by have : (l4 : Int) = 2 := by simpa using t3
                                    omega
    have hx : isConsD x = decide (x.fs = [(1, ⟨#[]⟩), (2, ⟨#[]⟩)]) := by
      unfold isConsD
      rw [decide_eq_true k1, decide_eq_true k2, Bool.true_and, Bool.true_and]
    obtain ⟨f0, f1, hfs⟩ : ∃ f0 f1, x.fs = [f0, f1] := by
      match hh : x.fs, h2 with
      | [f0, f1], _ => exact ⟨f0, f1, rfl⟩
    have e0 : x.fs[0]'(by omega) = f0 := by simp [hfs]
    have e1 : x.fs[1]'(by omega) = f1 := by simp [hfs]
    obtain ⟨b12, ha, q0, _, _⟩ := ftAt hf x7 (i := 0) (by omega)
    obtain ⟨b15, ha', q1, _, _⟩ := ftAt hf x7 (i := 1) (by omega)
    rw [e0] at q0
    rw [e1] at q1
    refine ⟨_, _, _, g3, ⟨by omega, by omega⟩, adK ha ⟨_, by rw [add_mk0] at q0; exact q0, BoolK.mk (fun t4 => ⟨_, _, _, g3, ⟨by omega, by omega⟩, adK ha' ⟨_, by rw [add_mk0] at q1; exact q1, ?_, x7⟩⟩) (fun t4 => ⟨?_, x7⟩)⟩⟩
    · have t4 : f0.1 = 1 := by simpa using t4
      rw [hx, hfs]
      have z0 := feat_num (hft f0 (by rw [hfs]; simp)) (by omega)
      by_cases t5 : f1.1 = 2
      · have z1 := feat_num (hft f1 (by rw [hfs]; simp)) (by omega)
        have h0 : f0 = (1, ⟨#[]⟩) := Prod.ext t4 z0
        have h1 : f1 = (2, ⟨#[]⟩) := Prod.ext t5 z1
        rw [h0, h1]; simp
      · have : decide ([f0, f1] = [((1 : Int), (⟨#[]⟩ : ByteArray)), (2, ⟨#[]⟩)]) = false := decide_eq_false fun e => by
          simp only [List.cons.injEq, and_true] at e
          exact t5 (by rw [e.2])
        rw [this]; simpa using t5
    · have t4 : f0.1 ≠ 1 := by simpa using t4
      rw [hx, hfs]
      symm
      refine decide_eq_false fun e => ?_
      simp only [List.cons.injEq, and_true] at e
      exact t4 (by rw [e.1])
  · have h2 : x.fs.length ≠ 2 := fun e => by rw [e4, e] at t3; simp at t3
    unfold isConsD
    symm
    rw [Bool.and_eq_false_iff]
    exact .inr (decide_eq_false fun e => h2 (by rw [e]; rfl))
  · have k2 : x.tx ≠ kBar := tl_no t2
    unfold isConsD
    rw [decide_eq_false k2]; simp
  · have k1 : x.kd ≠ kRecT := tl_no t
    unfold isConsD
    rw [decide_eq_false k1]; simp
theorem NdOk.feats {x : Nd} {n : Int} (h : NdOk x n) : ∀ f ∈ x.fs, featD f = true := by
 intro f hf
 rcases h with ⟨_, _, h3, _⟩ | ⟨_, _, h3, _⟩ | ⟨_, _, h3, _⟩ | ⟨_, _, _, _, h5, _⟩
 ·rw [h3] at hf; cases hf
 ·rw [h3] at hf; cases hf
 ·rw [h3] at hf; cases hf
 ·obtain ⟨i, hi⟩ := List.getElem?_of_mem hf
  exact (h5 i f hi).1
set_option maxRecDepth 100000 in
theorem ctr11 (w : World) (root : Int) (xs : List Nd) {a : Option Addr} {l : Nat} (c : Nat) (h : RNds w a l xs) (hk5 : ∀ x ∈ xs, x.ks.length ≤ 5000) (hlt : LimT xs) :
  Calls Tryz.prog 11 #[.agg #[.int .i64 root, .slice a l c]] w fun en w' => ∃ a l c e, en = .returned (.tuple #[.slice a l c, .int .i64 e]) ∧
   ((∃ outs, ItP root xs e outs ∧ RL 2 RGr w' a l (outs.map fun g => ((0 : Int), g))) ∧ Ext w w') := by
 refine calls11 _ _ _ _ _ w ?_
 refine Bx.new (fun _ => (none : Option Nat)) 2 fun b3 w4 bx u4 x4 hb3 => ?_
 have L4 := (Mine.refl (ρ := Nat) w).upd u4
 generalize setOwn (fun _ => (none : Option Nat)) (some b3) 2 = own4 at bx u4 L4
 obtain ⟨g0, g1, _⟩ := blkAt2 bx.blk
 refine ⟨_, g0, _, _, _, g1, (ctr19 w4 root xs c (RNds.at h x4) hlt).mono ?_⟩
 rintro en w8 ⟨p, rfl, hp, x8⟩
 have y8 := x4.trans x8
 refine ⟨_, rfl, BoolK.mk (fun t => ⟨⟨[], .inl ⟨fun ok => ?_, rfl, rfl⟩, RGr.nil w8⟩, y8⟩) (fun t => ?_)⟩
 ·rw [hp.2 ok] at t; cases t
 have ok := hp.1 (by simpa using t)
 have hmo := ok.most
 have big := Big.of ok hk5
 have hcl := ok.closed
 have bx := bx.ext x8
 have L8 := L4.ext x8
 obtain ⟨g0, g1, _⟩ := blkAt2 bx.blk
 have hilt := ok.lt
 have hroot : root = ((root.toNat : Nat) : Int) := by have := ok.root; omega
 refine ⟨_, g0, _, _, _, g1, ?_⟩
 rw [hroot]
 refine (ctr22 w8 c (RNds.at h y8) hcl (big.sz (by omega)) big.w big.d hilt).mono ?_
 rintro en w14 ⟨x12, a13, l13, c13, rfl, rfl, G0, hL0, hG0⟩
 have bx := bx.ext hG0.below
 have L14 := L8.ext hG0.below
 have N14 : NU own4 w14 (a13, l13, c13) G0 := NU.of_GD hG0 L8.top
 refine ⟨_, _, _, _, rfl, Bx.setA bx (by simp) fun w16 bx u16 => Bx.setA bx (by simp) fun w17 bx u17 => ?_⟩
 have bx : Bx own4 2 w17 b3 #[.int .i64 0, .slice a13 l13 c13] 25 := by simpa using bx
 have L17 := (L14.upd u16).upd u17
 have N17 := (N14.fr u16.fr).fr u17.fr
 have ok0 := Least.ok hL0 ok hilt
 have hm0 := ok0.most
 have big0 := Big.of ok0 (least_ks hL0 ok hilt hk5)
 have hcl0 := ok0.closed
 have hp0 := Least.pos hL0
 have hl13 : l13 = G0.length := N14.now.len
 subst hl13
 have cells : ∀ {w' : World} {own' : OwnM Nat}, Bx own' 2 w' b3 #[.int .i64 0, .slice a13 G0.length c13] 25 → w'.cell? ((⟨b3, 0, none⟩ : Addr).add 1) = some (.slice a13 G0.length c13) ∧ w'.cell? (⟨b3, 0, none⟩ : Addr) = some (.int .i64 0) := fun b => ⟨(blkAt2 b.blk).2.1, (blkAt2 b.blk).2.2⟩
 -- lists of the least graph are lists of the graph
 have back : ∀ {gs}, ListAt G0 0 gs → ListAt xs root.toNat gs := fun hg => hg.of_eqv hcl hilt (Least.eqv hL0)
 have forth : ∀ {gs}, ListAt xs root.toNat gs → ListAt G0 0 gs := fun hg => hg.of_eqv hcl0 hp0 (Least.eqv hL0).symm
 refine ⟨_, (cells bx).2, ?_⟩
 refine ⟨fun a l c x n w' => ∃ (k : Nat) (own : OwnM Nat) (SS : List SL) (outs : List (List Nd)), n = k ∧ k ≤ G0.length + 1 ∧ x = ((tl G0 0 k : Nat) : Int) ∧ GL w w' own (a, l, c) SS outs ∧ Bx own 2 w' b3 #[.int .i64 0, .slice a13 G0.length c13] 25 ∧ NU own w' (a13, G0.length, c13) G0 ∧ outs.length = k ∧
   (∀ j, j ≤ k → tl G0 0 j < G0.length) ∧ (∀ j, j < k → isConsD (nd G0 (tl G0 0 j)) = true) ∧ ∀ (j : Nat) o, outs[j]? = some o → Least G0 (Gr.kid G0 (tl G0 0 j) 0) o, fun _ _ _ _ n _ => G0.length + 1 - n.toNat,
  ⟨⟨0, own4, [], [], rfl, by omega, rfl, ⟨L17, RowR.nil _ _ _ _ _ _, rfl, fun j r g e => by simp at e⟩, bx, N17, rfl, fun j hj => by
   have : j = 0 := by omega
   subst this; exact hp0, fun j hj => by omega, fun j o e => by simp at e⟩, trivial⟩, ?_⟩
 clear bx N17 L17 u16 u17 g0 g1
 rintro w21 a22 l22 c22 _ _ ⟨k, own, SS, outs, rfl, hk, rfl, G, bx, N, hol, htl, hcons, hLe⟩
 have Y21 := G.loc.below
 refine ⟨_, _, _, (cells bx).1, BoolK.mk (fun t2 => ?_) (fun t2 => ?_)⟩
 ·have hkle : k ≤ G0.length := by have := of_decide_eq_true t2; omega
  have htk := htl k (Nat.le_refl _)
  have hnd : nd G0 (tl G0 0 k) = G0[tl G0 0 k] := nd_get htk
  obtain ⟨b27, ha, n0, n1, n2, _, _, ⟨a31, l31, c31, n5, n6⟩, ⟨a32, l32, c32, n7, n8⟩, _⟩ := ndAt N (Ext.refl _) htk
  have C := UF.now own w21
  have ndok := ok0.nds _ (List.getElem_mem htk)
  refine ⟨_, _, _, (cells bx).1, ⟨by omega, by omega⟩, adK ha ⟨_, C _ _ n0, _, C _ _ n1, _, C _ _ n2, _, _, _, C _ _ n5, _, _, _, C _ _ n7, ?_⟩⟩
  refine local5 fun b33 w39 hb33 hB33 x39 => ?_
  have fb33 : own b33 = none := G.loc.top b33 (by omega)
  obtain ⟨f0, f1, f2, f3, f4⟩ := blkAt5 hB33 (Ext.refl w39)
  have f0' : w39.cell? ((⟨b33, 0, none⟩ : Addr).add 0) = some (.string G0[tl G0 0 k].kd) := by rw [add_mk0]; exact f0
  have hf := (RL.cel RFt.celM n6 C).ext RFt.mono x39
  refine ⟨_, f0', _, f1, _, f2, _, _, _, f3, _, _, _, f4, (ctr25 w39 G0[tl G0 0 k] c31 c32 hf).mono ?_⟩
  rintro en w46 ⟨p45, rfl, hp45, x46⟩
  rw [← hnd] at hp45
  refine ⟨_, rfl, BoolK.mk (fun t3 => ?_) (fun t3 => ?_)⟩
  ·-- the list ends
   have hn : isNilD (nd G0 (tl G0 0 k)) = true := by rw [← hp45]; exact t3
   have G46 := (G.ext x39).ext x46
   refine ⟨⟨outs, .inr ⟨by rw [← hroot]; exact ok, .inl ⟨_, by rw [Int.toNat_natCast]; exact back (listAt_of big0.nds htl hcons hn), rfl, by simp [itemsL, hol], fun j g o e1 e2 => ?_⟩⟩, G46.rows (by simp only [maxLen]; omega)⟩, G46.loc.below⟩
   obtain ⟨_, rfl⟩ := itemsL_get e1
   exact hLe j o e2
  have hn : isNilD (nd G0 (tl G0 0 k)) = false := by rw [← hp45]; exact t3
  obtain ⟨f0, f1, f2, f3, f4⟩ := blkAt5 hB33 x46
  have f0' : w46.cell? ((⟨b33, 0, none⟩ : Addr).add 0) = some (.string G0[tl G0 0 k].kd) := by rw [add_mk0]; exact f0
  refine ⟨_, f0', _, f1, _, f2, _, _, _, f3, _, _, _, f4, (ctr26 w46 G0[tl G0 0 k] c31 c32 (hf.ext RFt.mono x46) (NdOk.feats ndok)).mono ?_⟩
  rintro en w54 ⟨p53, rfl, hp53, x54⟩
  rw [← hnd] at hp53
  have x54' := (x39.trans x46).trans x54
  refine ⟨_, rfl, BoolK.mk (fun t4 => ?_) (fun t4 => ?_)⟩
  ·have t4 : p53 = false := by simpa using t4
   refine ⟨⟨[], .inr ⟨by rw [← hroot]; exact ok, .inr ⟨?_, rfl, rfl⟩⟩, RGr.nil w54⟩, Y21.trans x54'⟩
   rintro ⟨gs, hg⟩
   rw [Int.toNat_natCast] at hg
   exact listAt_not (forth hg) hcons hn (.inl (by rw [← hp53]; exact t4))
  have hc : isConsD (nd G0 (tl G0 0 k)) = true := by rw [← hp53]; simpa using t4
  have h2 : G0[tl G0 0 k].ks.length = 2 := by rw [← hnd]; exact cons_ks (by rw [hnd]; exact ndok) hc
  refine DrewK.mk fun w56 x56 => ?_
  have x56' := x54'.trans x56
  have G56 := G.ext x56'
  have N56 := N.fr (Fr.of_ext own x56')
  have bx56 := bx.ext x56'
  have e32 := n8.len
  have kidv : ∀ m (hm : m < 2), G0[tl G0 0 k].ks[m]'(by omega) = ((Gr.kid G0 (tl G0 0 k) m : Nat) : Int) := fun m hm => by
   have hb := hcl0 _ (List.getElem_mem htk) _ (List.getElem_mem (show m < G0[tl G0 0 k].ks.length by omega))
   rw [Gr.kid, hnd, List.getElem?_eq_getElem (by omega), Option.getD_some]; omega
  have kidl : ∀ m, m < 2 → Gr.kid G0 (tl G0 0 k) m < G0.length := fun m hm => kid_lt hcl0 htk (by rw [hnd, h2]; exact hm)
  have hB56 := (hB33.ext x46).ext (x54.trans x56)
  obtain ⟨b58, s1, s2⟩ := ksAt (RL.cel RInt.celM n8 (UF.fr' (Fr.of_ext own x56'))) (Ext.refl w56) (i := 0) (by omega)
  rw [kidv 0 (by omega)] at s2
  refine ⟨_, _, _, (blkAt5 hB56 (Ext.refl _)).2.2.2.2, ⟨by omega, by omega⟩, adK s1 ⟨_, s2, _, _, _, (cells bx56).1, ?_⟩⟩
  refine (ctr22 w56 c13 N56.now hcl0 (big0.sz (by omega)) big0.w big0.d (kidl 0 (by omega))).mono ?_
  rintro en w63 ⟨x61, a62, l62, c62, rfl, rfl, out, hLo, hG⟩
  have G63 := G56.ext hG.below
  refine ⟨_, _, _, _, rfl, ?_⟩
  refine RowR.push ((a62, l62, c62) : SL) sltG G63.out eG_len eG_one (by rw [G63.len, hol]; omega) rfl fun s' w68 ro uo => ?_
  have F68 := (Fr.of_ext own (x56'.trans hG.below)).trans uo.fr
  have hB68 := Fr.blk (hB56.ext hG.below) uo.fr fb33
  obtain ⟨b70, v1, v2⟩ := ksAt (RL.cel RInt.celM n8 (UF.fr' F68)) (Ext.refl w68) (i := 1) (by omega)
  rw [kidv 1 (by omega)] at v2
  refine ⟨_, _, _, (blkAt5 hB68 (Ext.refl _)).2.2.2.2, ⟨by omega, by omega⟩, adK v1 ⟨_, v2, ?_⟩⟩
  rw [wrap_succ (by omega)]
  refine ⟨⟨k + 1, _, _, outs ++ [out], rfl, by omega, rfl, G63.more (NU.of_GD hG G56.loc.top) uo ro, (bx56.ext hG.below).upd uo (by decide), (N56.fr (Fr.of_ext own hG.below)).fr uo.fr, by simp [hol], fun j hj => ?_, fun j hj => ?_, fun j o e => ?_⟩, by simp; omega⟩
  ·rcases Nat.lt_or_ge j (k + 1) with h | h
   ·exact htl j (by omega)
   ·have : j = k + 1 := by omega
    subst this; exact kidl 1 (by omega)
  ·rcases Nat.lt_or_ge j k with h | h
   ·exact hcons j h
   ·have : j = k := by omega
    subst this; exact hc
  ·rcases Nat.lt_or_ge j outs.length with hj | hj
   ·rw [List.getElem?_append_left hj] at e; exact hLe j o e
   ·have : j = outs.length := by have := (List.getElem?_eq_some_iff.1 e).1; simp at this; omega
    subst this
    rw [List.getElem?_concat_length] at e
    cases e; rw [hol]; exact hLo
 ·have hkk : k = G0.length + 1 := by have := of_decide_eq_false t2; omega
  refine ⟨⟨[], .inr ⟨by rw [← hroot]; exact ok, .inr ⟨?_, rfl, rfl⟩⟩, RGr.nil w21⟩, Y21⟩
  rintro ⟨gs, hg⟩
  rw [Int.toNat_natCast] at hg
  have hs := ListAt.short (forth hg)
  have hz := (forth hg).at_ gs.length (Nat.le_refl _)
  rw [List.drop_length] at hz
  have := hz.isNil
  rw [cons_nil (hcons gs.length (by omega))] at this; cases this
end Go.Proofs.YtnmldggopnbclaaGreatDoor

namespace Go.Proofs.YtnmldggopnbclaaGreatDoor
open Go Go.V Go.Proofs
open Go.RowKit (Below)
/-! manystrand/graph.List -/
def N6 (a1 : Option Addr) (l1 : Nat) (_c1 : Nat) (K : Int → Option Addr → Nat → Nat → Int → World → Prop) (w : World) : Prop :=
 AllocK w (#[.int .i64 0, .slice none 0 0]) 25 fun b2 w3 =>
 ∃ (I4 : Int → World → Prop) (μ5 : Int → World → Nat),
 (I4 0 w3 ∧ True) ∧
 ∀ w6 x7, I4 x7 w6 →
 BoolK (decide (x7 < l1))
 ((0 ≤ x7 ∧ x7 < l1) ∧
 AddrK a1 fun b8 =>
 ∃ x9, w6.cell? ((b8.add (x7.toNat * 2)).add 0) = some (.int .i64 x9) ∧
 (∃ a10 l10 c10, w6.cell? ((b8.add (x7.toNat * 2)).add 1) = some (.slice a10 l10 c10) ∧
 (AllocK w6 (#[.int .i64 0, .slice none 0 0]) 25 fun b11 w12 =>
 SetK w12 (b11.add 0) (.int .i64 x9) fun w13 =>
 SetK w13 (b11.add 1) (.slice a10 l10 c10) fun w14 =>
 ∃ x15, w14.cell? (b11.add 0) = some (.int .i64 x15) ∧
 (∃ a16 l16 c16, w14.cell? (b11.add 1) = some (.slice a16 l16 c16) ∧
 (Calls Tryz.prog 15 #[(.agg #[(.int .i64 x15), (.slice a16 l16 c16)])] w14 fun e19 w18 =>
 ∃ p17, e19 = .returned (.bool p17) ∧
 (BoolK (!p17)
 (SetK w18 (b2.add 0) (.int .i64 0) fun w20 =>
 SetK w20 (b2.add 1) (.slice none 0 0) fun w21 =>
 ∃ x22, w21.cell? (b2.add 0) = some (.int .i64 x22) ∧
 (∃ a23 l23 c23, w21.cell? (b2.add 1) = some (.slice a23 l23 c23) ∧
 (K x22 a23 l23 c23 50 w21)))
 (I4 (IntKind.wrap .i64 (x7 + 1)) w18 ∧ μ5 (IntKind.wrap .i64 (x7 + 1)) w18 < μ5 x7 w6)))))))
 (∃ (I24 : Option Addr → Nat → Nat → Option Addr → Nat → Nat → Int → World → Prop) (μ25 : Option Addr → Nat → Nat → Option Addr → Nat → Nat → Int → World → Nat),
 (I24 none 0 0 none 0 0 0 w6 ∧ True) ∧
 ∀ w26 a27 l27 c27 a28 l28 c28 x29, I24 a27 l27 c27 a28 l28 c28 x29 w26 →
 BoolK (decide (x29 < l1))
 ((0 ≤ x29 ∧ x29 < l1) ∧
 AddrK a1 fun b30 =>
 ∃ x31, w26.cell? ((b30.add (x29.toNat * 2)).add 0) = some (.int .i64 x31) ∧
 (∃ a32 l32 c32, w26.cell? ((b30.add (x29.toNat * 2)).add 1) = some (.slice a32 l32 c32) ∧
 (AllocK w26 (#[.int .i64 0, .slice none 0 0]) 25 fun b33 w34 =>
 SetK w34 (b33.add 0) (.int .i64 x31) fun w35 =>
 SetK w35 (b33.add 1) (.slice a32 l32 c32) fun w36 =>
 ∃ a37 l37 c37, w36.cell? (b33.add 1) = some (.slice a37 l37 c37) ∧
 (∃ x38, w36.cell? b33 = some (.int .i64 x38) ∧
 (Calls Tryz.prog 16 #[(.slice a37 l37 c37), (.int .i64 x38)] w36 fun e42 w41 =>
 ∃ x39, ∃ a40, ∃ l40, ∃ c40, e42 = .returned (.agg #[(.int .i64 x39), (.slice a40 l40 c40)]) ∧
 (AllocK w41 (#[.int .i64 0, .slice none 0 0]) 25 fun b43 w44 =>
 SetK w44 (b43.add 0) (.int .i64 x39) fun w45 =>
 SetK w45 (b43.add 1) (.slice a40 l40 c40) fun w46 =>
 ∃ x47, w46.cell? (b43.add 0) = some (.int .i64 x47) ∧
 (∃ a48 l48 c48, w46.cell? (b43.add 1) = some (.slice a48 l48 c48) ∧
 (Calls Tryz.prog 17 #[(.slice a27 l27 c27), (.agg #[(.int .i64 x47), (.slice a48 l48 c48)])] w46 fun e52 w51 =>
 ∃ a49, ∃ l49, ∃ c49, ∃ x50, e52 = .returned (.tuple #[(.slice a49 l49 c49), (.int .i64 x50)]) ∧
 (AllocK w51 (#[(.int .i64 x50)]) 3 fun b53 w54 =>
 ∃ a55, ∃ l55, ∃ c55, ∃ w56, Sem.run Tryz.prog (Builtin.append_ #[37, 37] 37 #[(.slice a28 l28 c28), (.slice (some b53) 1 1)]) w54 = .ok (.slice a55 l55 c55) w56 ∧
 (I24 a49 l49 c49 a55 l55 c55 (IntKind.wrap .i64 (x29 + 1)) w56 ∧ μ25 a49 l49 c49 a55 l55 c55 (IntKind.wrap .i64 (x29 + 1)) w56 < μ25 a27 l27 c27 a28 l28 c28 x29 w26))))))))))
 (AllocK w26 (#[(.string (⟨#[114, 101, 99]⟩ : ByteArray)), (.int .i64 0), (.string (⟨#[110, 105, 108]⟩ : ByteArray)), (.slice none 0 0), (.slice none 0 0)]) 39 fun b57 w58 =>
 ∃ a59, ∃ l59, ∃ c59, ∃ w60, Sem.run Tryz.prog (Builtin.append_ #[23, 23] 23 #[(.slice a27 l27 c27), (.slice (some b57) 1 1)]) w58 = .ok (.slice a59 l59 c59) w60 ∧
 (∃ (I61 : Option Addr → Nat → Nat → Int → Int → World → Prop) (μ62 : Option Addr → Nat → Nat → Int → Int → World → Nat),
 (I61 a59 l59 c59 (IntKind.wrap .i64 (l59 - 1)) (IntKind.wrap .i64 (l28 - 1)) w60 ∧ True) ∧
 ∀ w63 a64 l64 c64 x65 x66, I61 a64 l64 c64 x65 x66 w63 →
 BoolK (decide (x66 ≥ 0))
 (DrewK w63 fun w67 =>
 (0 ≤ x66 ∧ x66 < l28) ∧
 AddrK a28 fun b68 =>
 ∃ x69, w67.cell? (b68.add (x66.toNat * 1)) = some (.int .i64 x69) ∧
 ((Calls Tryz.prog 18 #[] w67 fun e72 w71 =>
 ∃ a70, ∃ l70, ∃ c70, e72 = .returned (.slice a70 l70 c70) ∧
 (Cel w67 w71 ∧
 (AllocK w71 (#[(.int .i64 x69), (.int .i64 x65)]) 3 fun b73 w74 =>
 AllocK w74 (#[(.string (⟨#[114, 101, 99]⟩ : ByteArray)), (.int .i64 0), (.string (⟨#[124]⟩ : ByteArray)), (.slice a70 l70 c70), (.slice (some b73) 2 2)]) 39 fun b75 w76 =>
 ∃ a77, ∃ l77, ∃ c77, ∃ w78, Sem.run Tryz.prog (Builtin.append_ #[23, 23] 23 #[(.slice a64 l64 c64), (.slice (some b75) 1 1)]) w76 = .ok (.slice a77 l77 c77) w78 ∧
 (I61 a77 l77 c77 (IntKind.wrap .i64 (l77 - 1)) (IntKind.wrap .i64 (x66 - 1)) w78 ∧ μ62 a77 l77 c77 (IntKind.wrap .i64 (l77 - 1)) (IntKind.wrap .i64 (x66 - 1)) w78 < μ62 a64 l64 c64 x65 x66 w63)))) ∧
 (AllocK w67 (#[(.int .i64 x69), (.int .i64 x65)]) 3 fun b79 w80 =>
 Calls Tryz.prog 18 #[] w80 fun e83 w82 =>
 ∃ a81, ∃ l81, ∃ c81, e83 = .returned (.slice a81 l81 c81) ∧
 (Cel w67 w82 ∧
 (AllocK w82 (#[(.string (⟨#[114, 101, 99]⟩ : ByteArray)), (.int .i64 0), (.string (⟨#[124]⟩ : ByteArray)), (.slice a81 l81 c81), (.slice (some b79) 2 2)]) 39 fun b84 w85 =>
 ∃ a86, ∃ l86, ∃ c86, ∃ w87, Sem.run Tryz.prog (Builtin.append_ #[23, 23] 23 #[(.slice a64 l64 c64), (.slice (some b84) 1 1)]) w85 = .ok (.slice a86 l86 c86) w87 ∧
 (I61 a86 l86 c86 (IntKind.wrap .i64 (l86 - 1)) (IntKind.wrap .i64 (x66 - 1)) w87 ∧ μ62 a86 l86 c86 (IntKind.wrap .i64 (l86 - 1)) (IntKind.wrap .i64 (x66 - 1)) w87 < μ62 a64 l64 c64 x65 x66 w63))))))
 (Calls Tryz.prog 16 #[(.slice a64 l64 c64), (.int .i64 x65)] w63 fun e91 w90 =>
 ∃ x88, ∃ a89, ∃ l89, ∃ c89, e91 = .returned (.agg #[(.int .i64 x88), (.slice a89 l89 c89)]) ∧
 (AllocK w90 (#[.int .i64 0, .slice none 0 0]) 25 fun b92 w93 =>
 SetK w93 (b92.add 0) (.int .i64 x88) fun w94 =>
 SetK w94 (b92.add 1) (.slice a89 l89 c89) fun w95 =>
 ∃ a96 l96 c96, w95.cell? (b92.add 1) = some (.slice a96 l96 c96) ∧
 (BoolK (decide ((l96 : Int) > 1000))
 (SetK w95 (b2.add 0) (.int .i64 0) fun w97 =>
 SetK w97 (b2.add 1) (.slice none 0 0) fun w98 =>
 ∃ x99, w98.cell? (b2.add 0) = some (.int .i64 x99) ∧
 (∃ a100 l100 c100, w98.cell? (b2.add 1) = some (.slice a100 l100 c100) ∧
 (K x99 a100 l100 c100 4 w98)))
 (∃ x101, w95.cell? (b92.add 0) = some (.int .i64 x101) ∧
 (∃ a102 l102 c102, w95.cell? (b92.add 1) = some (.slice a102 l102 c102) ∧
 (SetK w95 (b2.add 0) (.int .i64 x101) fun w103 =>
 SetK w103 (b2.add 1) (.slice a102 l102 c102) fun w104 =>
 ∃ x105, w104.cell? (b2.add 0) = some (.int .i64 x105) ∧
 (∃ a106 l106 c106, w104.cell? (b2.add 1) = some (.slice a106 l106 c106) ∧
 (K x105 a106 l106 c106 0 w104)))))))))))
def ann6 : Ann := (.two .nil (.two (.two .nil (.one (.loop [(17, (.one (.int .i64)))] [0, 2, 15, 16] (.two .nil (.two (.two .nil .nil) (.two (.one (.two .nil (.two .nil (.two (.two .nil .nil) .nil)))) .nil)))))) (.two .nil (.two .nil (.two (.two .nil (.one (.loop [(6, (.one .slice)), (7, (.one .slice)), (28, (.one (.int .i64)))] [2, 26, 27] (.two .nil (.two (.two .nil .nil) (.two (.one (.two .nil (.two .nil (.two .nil (.two .nil .nil))))) .nil)))))) (.two .nil (.two .nil (.two (.two .nil (.one (.loop [(6, (.one .slice)), (12, (.one (.int .i64))), (13, (.one (.int .i64)))] [2, 7] (.two (.two .nil (.two .nil .nil)) (.two (.one (.two (.anyC 10 (.take 0 (.take 2 (.take 3 (.take 4 (.take 5 (.take 6 (.both 1 (.one 7 (.take 8 (.one 9 .done))) (.one 7 (.one 1 (.take 8 (.one 9 .done)))))))))))) .nil)) .nil))))) (.two .nil (.two (.two .nil (.two (.two .nil .nil) .nil)) (.two .nil .nil)))))))))))
noncomputable def code6 : Code := match Tryz.f6.body with | some c => c | none => .skip
theorem calls6 (a1 : Option Addr) (l1 : Nat) (c1 : Nat) (K : Int → Option Addr → Nat → Nat → Int → World → Prop) (w : World) (h : N6 a1 l1 c1 K w) : Calls Tryz.prog 6 #[(.slice a1 l1 c1)] w fun en w' => ∃ (x107 : Int), ∃ (a108 : Option Addr), ∃ (l108 : Nat), ∃ (c108 : Nat), ∃ (x109 : Int), en = .returned (.tuple #[(.agg #[(.int .i64 x107), (.slice a108 l108 c108)]), (.int .i64 x109)]) ∧ K x107 a108 l108 c108 x109 w' :=
 fn_calls tabOk mixed Tryz.func6 (by kernel_rfl : Tryz.f6.body = some code6) ann6 [(.slice a1 l1 c1)] [(.agg [(.int .i64), .slice]), (.one (.int .i64))] K w (by kernel_rfl) (by kernel_rfl) (by kernel_rfl) h
end Go.Proofs.YtnmldggopnbclaaGreatDoor

namespace Go.Proofs.YtnmldggopnbclaaGreatDoor
open Go Go.V Go.Proofs
open Go.RowKit (Below)
/-! manystrand/manystrandref05.Pair -/
def N21 (K : Option Addr → Nat → Nat → World → Prop) (w : World) : Prop :=
 AllocK w (#[(.int .i64 1), (.string (⟨#[]⟩ : ByteArray)), (.int .i64 2), (.string (⟨#[]⟩ : ByteArray))]) 41 fun b1 w2 =>
 K (some b1) 2 2 w2
def ann21 : Ann := (.two .nil (.two .nil .nil))
noncomputable def code21 : Code := match Tryz.f21.body with | some c => c | none => .skip
theorem calls21 (K : Option Addr → Nat → Nat → World → Prop) (w : World) (h : N21 K w) : Calls Tryz.prog 21 #[] w fun en w' => ∃ (a3 : Option Addr), ∃ (l3 : Nat), ∃ (c3 : Nat), en = .returned (.slice a3 l3 c3) ∧ K a3 l3 c3 w' :=
 fn_calls tabOk mixed Tryz.func21 (by kernel_rfl : Tryz.f21.body = some code21) ann21 [] [(.one .slice)] K w (by kernel_rfl) (by kernel_rfl) (by kernel_rfl) h
end Go.Proofs.YtnmldggopnbclaaGreatDoor

namespace Go.Proofs.YtnmldggopnbclaaGreatDoor
open Go Go.V Go.Proofs Go.V.Gr
open Go.RowKit (Below)
theorem litRow {w : World} {b : Nat} {x y : Int} (hB : Blk w b #[.int .i64 x, .int .i64 y] 3) : OwnR 0 3 1 eI w (some ⟨b, 0, none⟩) 2 2 [x, y] :=
 ⟨rfl, rfl, .inr ⟨b, 2, _, rfl, Nat.zero_le _, hB, Nat.le_refl _, by simp [maxLen], rfl, rfl⟩⟩
theorem pairRow {w : World} {b : Nat} {own : OwnM Nat} (hB : Blk w b #[.int .i64 1, .string ⟨#[]⟩, .int .i64 2, .string ⟨#[]⟩] 41) (hf : own b = none) : RL 2 RFt (UF own w) (some ⟨b, 0, none⟩) 2 pairL := by
 have hc : ∀ i, (UF own w).cell? ⟨b, i, none⟩ = w.cell? ⟨b, i, none⟩ := fun i => cutW_cell (by simp [hf])
 refine ⟨⟨rfl, .inr ⟨b, 0, rfl, fun i x hi => ?_⟩⟩, by simp [maxLen]⟩
 match i, hi with
 | 0, hi => cases hi; exact ⟨(hc _).trans ((hB.cell _).trans rfl), (hc _).trans ((hB.cell _).trans rfl), by decide⟩
 | 1, hi => cases hi; exact ⟨(hc _).trans ((hB.cell _).trans rfl), (hc _).trans ((hB.cell _).trans rfl), by decide⟩
 | i + 2, hi => simp [pairL] at hi
theorem p18 (w : World) : Calls Tryz.prog 18 #[] w fun en w' => ∃ a l c, en = .returned (.slice a l c) ∧ ∃ b, a = some ⟨b, 0, none⟩ ∧ l = 2 ∧ b = w.heap.size ∧ Blk w' b #[.int .i64 1, .string ⟨#[]⟩, .int .i64 2, .string ⟨#[]⟩] 41 ∧ Ext w w' := by
 refine calls18 _ w ?_
 exact AllocK.mk fun b w2 hb hB hx => ⟨b, rfl, rfl, hb, hB, hx⟩
theorem p21 (w : World) : Calls Tryz.prog 21 #[] w fun en w' => ∃ a l c, en = .returned (.slice a l c) ∧ ∃ b, a = some ⟨b, 0, none⟩ ∧ l = 2 ∧ b = w.heap.size ∧ Blk w' b #[.int .i64 1, .string ⟨#[]⟩, .int .i64 2, .string ⟨#[]⟩] 41 ∧ Ext w w' := by
 refine calls21 _ w ?_
 exact AllocK.mk fun b w2 hb hB hx => ⟨b, rfl, rfl, hb, hB, hx⟩
theorem wf0 : (Lit.int .i64 0).wf = true := by decide
theorem bigW {xs : List Nd} (h : LightOk xs) : ∀ x ∈ xs, x.ks.length ≤ 5000 := fun x hx => by have := (h.2 x hx).2.1; omega
structure LJ (w0 w : World) (own : OwnM Nat) (b2 : Nat) (xs : List Nd) (RW : List Rw) (s r : SL) (rs : List Int) : Prop where
 nds : JU w0 w own xs RW s
 rts : RowR own 1 3 1 eI w r rs
 box : Bx own 2 w b2 #[.int .i64 0, .slice none 0 0] 25
theorem LJ.ext {w0 w w' : World} {own : OwnM Nat} {b2 : Nat} {xs : List Nd} {RW : List Rw} {s r : SL} {rs : List Int} (h : LJ w0 w own b2 xs RW s r rs) (x : Ext w w') : LJ w0 w' own b2 xs RW s r rs := ⟨h.nds.ext x, h.rts.ext x, h.box.ext x⟩
theorem LJ.cons {w0 w w' : World} {own own' : OwnM Nat} {b2 b p : Nat} {xs : List Nd} {RW : List Rw} {s r : SL} {rs : List Int} {x y : Int} (h : LJ w0 w own b2 xs RW s r rs) (hp : Blk w p #[.int .i64 1, .string ⟨#[]⟩, .int .i64 2, .string ⟨#[]⟩] 41) (fp : own p = none)
  (hk : RowR own (10 + xs.length) 3 1 eI w (some ⟨b, 0, none⟩, 2, 2) [x, y]) {c : Nat} {s' : SL} (u : Upd own own' 0 w w') (ho : RowR own' 0 39 5 eN w' s' (RW ++ [⟨kRec, 0, kBar, (some ⟨p, 0, none⟩, 2, c), (some ⟨b, 0, none⟩, 2, 2)⟩])) :
  LJ w0 w' own' b2 (xs ++ [consN x y]) (RW ++ [⟨kRec, 0, kBar, (some ⟨p, 0, none⟩, 2, c), (some ⟨b, 0, none⟩, 2, 2)⟩]) s' r rs :=
 ⟨h.nds.more (x := consN x y) rfl rfl rfl (by simp only [consN, maxLen]; decide) (by simp only [consN, maxLen]; decide) wf0 (pairRow hp fp) hk (by simp [consN, maxLen]) u ho, h.rts.upd u (by decide), h.box.upd u (by decide)⟩
set_option maxRecDepth 100000 in
theorem ctr6 (w : World) (gs : List (Int × List Nd)) {a : Option Addr} {l : Nat} (c : Nat) (h : RL 2 RGr w a l gs) (hk : ∀ g ∈ gs, LightOk g.2) (hn : gs.length ≤ 20) (ht : Tb w) :
  Calls Tryz.prog 6 #[.slice a l c] w fun en w' => ∃ x a l c e, en = .returned (.tuple #[.agg #[.int .i64 x, .slice a l c], .int .i64 e]) ∧
   ((x = 0 ∧ ∃ out, LsP gs e out ∧ RNds w' a l out) ∧ Ext w w') := by
 refine calls6 _ _ _ _ w ?_
 have hl := h.len
 subst hl
 refine Bx.new (fun _ => (none : Option Nat)) 2 fun b2 w3 bx u3 x3 hb2 => ?_
 have L3 := (Mine.refl (ρ := Nat) w).upd u3
 generalize setOwn (fun _ => (none : Option Nat)) (some b2) 2 = own3 at bx u3 L3
 -- the answer is put into its box
 have put : ∀ {w' : World} {own : OwnM Nat} {cs : Array Value} {x' : Int} {a' : Option Addr} {l' c' : Nat} {F : World → Prop}, Mine own w w' → Bx own 2 w' b2 cs 25 → cs.size = 2 →
   (∀ w'', Ext w w'' → Fr own own w' w'' → w''.cell? ((⟨b2, 0, none⟩ : Addr).add 0) = some (.int .i64 x') → w''.cell? ((⟨b2, 0, none⟩ : Addr).add 1) = some (.slice a' l' c') → F w'') →
   SetK w' ((⟨b2, 0, none⟩ : Addr).add 0) (.int .i64 x') fun w'' => SetK w'' ((⟨b2, 0, none⟩ : Addr).add 1) (.slice a' l' c') F := fun {w' own cs x' a' l' c' F} L bx hcs k => by
  obtain ⟨v0, v1, rfl⟩ : ∃ v0 v1, cs = #[v0, v1] := by
   obtain ⟨cl⟩ := cs
   obtain ⟨v0, v1, e⟩ := listv2 (cs := cl) hcs
   exact ⟨v0, v1, by rw [e]⟩
  refine Bx.setA bx (by simp) fun w1 bx u1 => Bx.setA bx (by simp) fun w2 bx u2 => ?_
  have bx : Bx own 2 w2 b2 #[.int .i64 x', .slice a' l' c'] 25 := by simpa using bx
  exact k w2 ((L.upd u1).upd u2).below (u1.fr.trans u2.fr) (blkAt2 bx.blk).1 (blkAt2 bx.blk).2.1
 refine ⟨fun x w' => ∃ k : Nat, x = k ∧ k ≤ gs.length ∧ Ext w3 w' ∧ ∀ (j : Nat) g, j < k → gs[j]? = some g → GrOk g.1 g.2 1000, fun x _ => gs.length - x.toNat, ⟨⟨0, rfl, by omega, Ext.refl w3, fun j g hj => by omega⟩, trivial⟩, ?_⟩
 rintro w6 _ ⟨k, rfl, hkl, x6, hall⟩
 refine BoolK.mk (fun t => ?_) (fun t => ?_)
 ·have hlt : k < gs.length := by have := of_decide_eq_true t; omega
  obtain ⟨b8, ha, q0, a10, l10, c10, q1, q2⟩ := grAt h (x3.trans x6) hlt
  refine ⟨⟨by omega, by omega⟩, adK ha ⟨_, q0, _, _, _, q1, local2 fun b11 w14 hb11 hB11 x14 => ?_⟩⟩
  obtain ⟨d0, d1, _⟩ := blkAt2 hB11
  refine ⟨_, d0, _, _, _, d1, (ctr15 w14 gs[k].1 gs[k].2 c10 (RNds.at q2 x14)).mono ?_⟩
  rintro en w18 ⟨p, rfl, hp, x18⟩
  have x18' := (x6.trans x14).trans x18
  refine ⟨_, rfl, BoolK.mk (fun t2 => ?_) (fun t2 => ?_)⟩
  ·refine put (L3.ext x18') (bx.ext x18') rfl fun w21 X _ c0 c1 => ⟨_, c0, _, _, _, c1, ⟨rfl, [], .inl ⟨fun all => ?_, rfl, rfl⟩, nds_none w21⟩, X⟩
   rw [hp.2 (all _ (List.getElem_mem hlt))] at t2; cases t2
  ·rw [wrap_succ (by omega)]
   refine ⟨⟨k + 1, rfl, by omega, x18', fun j g hj e => ?_⟩, by simp; omega⟩
   rcases Nat.lt_or_ge j k with hjk | hjk
   ·exact hall j g hjk e
   ·have : j = k := by omega
    subst this
    rw [List.getElem?_eq_getElem hlt] at e
    cases e; exact hp.1 (by simpa using t2)
 have hkk : k = gs.length := by have := of_decide_eq_false t; omega
 subst hkk
 have ok : ∀ (j : Nat) (hj : j < gs.length), GrOk gs[j].1 gs[j].2 1000 := fun j hj => hall j _ hj (List.getElem?_eq_getElem hj)
 have okA : ∀ g ∈ gs, GrOk g.1 g.2 1000 := fun g hg => by
  obtain ⟨j, hj, rfl⟩ := List.getElem_of_mem hg
  exact ok j hj
 clear hall t
 have L6 := L3.ext x6
 have bx6 := bx.ext x6
 refine ⟨fun a l c a' l' c' x w' => ∃ (k : Nat) (own : OwnM Nat) (xs : List Nd) (RW : List Rw) (rs : List Int), x = k ∧ k ≤ gs.length ∧ LJ w w' own b2 xs RW (a, l, c) (a', l', c') rs ∧ Big xs ∧ xs.length ≤ k * 1000 ∧ Rts xs ((grL gs).take k) rs, fun _ _ _ _ _ _ x _ => gs.length - x.toNat,
  ⟨⟨0, own3, [], [], [], rfl, by omega, ⟨⟨L6, RowR.nil _ _ _ _ _ _, rfl, fun q r x e => by simp at e⟩, RowR.nil _ _ _ _ _ _, bx6⟩, Big.nil, by simp, Rts.nil _⟩, trivial⟩, ?_⟩
 rintro w26 a27 l27 c27 a28 l28 c28 _ ⟨k, own, xs, RW, rs, rfl, hkl, J, big, hxl, R⟩
 refine BoolK.mk (fun t => ?_) (fun t => ?_)
 ·have hlt : k < gs.length := by have := of_decide_eq_true t; omega
  have ok := ok k hlt
  have hmo := ok.most
  have hk5 := bigW (hk _ (List.getElem_mem hlt))
  have hroot : gs[k].1 = ((gs[k].1.toNat : Nat) : Int) := by have := ok.root; omega
  obtain ⟨b30, ha, q0, a32, l32, c32, q1, q2⟩ := grAt h J.nds.loc.below hlt
  refine ⟨⟨by omega, by omega⟩, adK ha ⟨_, q0, _, _, _, q1, local2 fun b33 w36 hb33 hB33 x36 => ?_⟩⟩
  obtain ⟨_, d1, d0⟩ := blkAt2 hB33
  have J36 := J.ext x36
  refine ⟨_, _, _, d1, _, d0, ?_⟩
  have bigk := Big.of ok hk5
  rw [hroot]
  refine (ctr16 w36 c32 (RNds.at q2 x36) ok.closed (bigk.sz (by omega)) bigk.w (ht.ext J36.nds.loc.below) ok.lt).mono ?_
  rintro en w41 ⟨x39, a40, l40, c40, rfl, rfl, out, hLo, hG⟩
  have J41 := J36.ext hG.below
  have N41 : NU own w41 (a40, l40, c40) out := NU.of_GD hG J36.nds.loc.top
  have oko := Least.ok hLo ok ok.lt
  have hmoo := oko.most
  have bigo := Big.of oko (least_ks hLo ok ok.lt hk5)
  refine ⟨_, _, _, _, rfl, local2 fun b43 w46 hb43 hB43 x46 => ?_⟩
  obtain ⟨e0, e1, _⟩ := blkAt2 hB43
  have J46 := J41.ext x46
  have N46 := N41.fr (Fr.of_ext own x46)
  have hcap : xs.length ≤ 20 * 1000 := Nat.le_trans hxl (Nat.mul_le_mul_right _ (by omega))
  refine ⟨_, e0, _, _, _, e1, (u17 0 J46.nds N46 (bigo.sz (by omega)) (by omega) oko.closed ⟨by omega, by omega⟩).mono ?_⟩
  rintro en w51 ⟨a49, l49, c49, x50, rfl, rfl, own', RW', J51, K51⟩
  have rts51 := RowR.kj J46.rts K51 (by omega) (by omega)
  have bx51 := Bx.kj J46.box K51 (by omega) (by omega)
  refine ⟨_, _, _, _, rfl, ?_⟩
  refine RowR.push ((xs.length : Int) + 0) sltI rts51 eI_len eI_one (by rw [R.len]; simp [grL]; omega) rfl fun s' w56 ro uo => ?_
  rw [wrap_succ (by omega)]
  refine ⟨⟨k + 1, _, _, _, _, rfl, by omega, ⟨J51.upd uo (by decide) (fun q _ => by omega), ro, bx51.upd uo (by decide)⟩, big.app bigo, by rw [app_len, Nat.succ_mul]; omega, ?_⟩, by simp; omega⟩
  rw [List.take_add_one, grL_get hlt]
  exact R.snoc big.closed oko.closed (Least.pos hLo) (Least.eqv hLo)
 have hkk : k = gs.length := by have := of_decide_eq_false t; omega
 subst hkk
 have hcap : xs.length ≤ 20 * 1000 := Nat.le_trans hxl (Nat.mul_le_mul_right _ (by omega))
 rw [List.take_of_length_le (by rw [grL_len]; omega)] at R
 have hrl : rs.length = gs.length := by rw [R.len, grL_len]
 have hrl2 : l28 = gs.length := by have := J.rts.len; rw [hrl] at this; exact this
 refine RowR.push (⟨kRec, 0, kNil, (none, 0, 0), (none, 0, 0)⟩ : Rw) sltN J.nds.out eN_len eN_one (by rw [J.nds.len]; omega) rfl fun s' w60 ro uo => ?_
 have J60 : LJ w w60 _ b2 (xs ++ [nilN]) _ s' (a28, l28, c28) rs := ⟨J.nds.more (x := nilN) rfl rfl rfl (by simp only [nilN, maxLen]; decide) (by simp only [nilN, maxLen]; decide) wf0 ⟨Go.V.Rows.nil _ _ _ _, by simp [maxLen]⟩ (RowR.nil _ _ _ _ _ _) (by simp [nilN, maxLen]) uo ro, J.rts.upd uo (by decide), J.box.upd uo (by decide)⟩
 generalize setOwn own (sblk s') 0 = own60 at J60
 clear ro uo
 have hs' : s'.2.1 = xs.length + 1 := by rw [J60.nds.out.len, J60.nds.len]; simp
 refine ⟨fun a l c x y w' => ∃ (m i : Nat) (own : OwnM Nat) (ys : List Nd) (RW : List Rw), x = i ∧ y = (m : Int) - 1 ∧ m ≤ gs.length ∧ LJ w w' own b2 ys RW (a, l, c) (a28, l28, c28) rs ∧ Big ys ∧ ys.length + m ≤ xs.length + 1 + gs.length ∧ ListAt ys i ((grL gs).drop m) ∧ Rts ys (grL gs) rs, fun _ _ _ _ y _ => (y + 1).toNat,
  ⟨⟨gs.length, xs.length, own60, xs ++ [nilN], RW ++ [⟨kRec, 0, kNil, (none, 0, 0), (none, 0, 0)⟩], ?_, ?_, by omega, J60, big.snoc (nilN_ok _) (by simp [nilN]), by simp, ?_, R.behind big.closed _⟩, trivial⟩, ?_⟩
 ·rw [hs', wrap_id (by omega) (by omega)]; omega
 ·rw [hrl2, wrap_id (by omega) (by omega)]
 ·rw [List.drop_of_length_le (by rw [grL_len]; omega)]; exact ListAt.nilS xs
 clear J60 R big J
 rintro w63 a64 l64 c64 _ _ ⟨m, i, own, ys, RW, rfl, rfl, hm, J, big, hyl, hL, R⟩
 have hil := hL.lt
 refine BoolK.mk (fun t => ?_) (fun t => ?_)
 ·have hm1 : 0 < m := by have := of_decide_eq_true t; omega
  obtain ⟨j, rfl⟩ : ∃ j, m = j + 1 := ⟨m - 1, by omega⟩
  have hjr : j < rs.length := by omega
  have ej : (((j + 1 : Nat) : Int) - 1) = ((j : Nat) : Int) := by omega
  rw [ej]
  refine DrewK.mk fun w67 x67 => ?_
  have J67 := J.ext x67
  obtain ⟨b68, p1, p2⟩ := rowInt J67.rts hjr
  obtain ⟨n, hrn, hnl, hev⟩ := R.at_ j _ rs[j] (grL_get (by omega)) (List.getElem?_eq_getElem hjr)
  rw [hrn] at p2
  -- the next state
  have hdrop : (grL gs).drop j = (gs[j].2, gs[j].1.toNat) :: (grL gs).drop (j + 1) := by
   rw [List.drop_eq_getElem_cons (by rw [grL_len]; omega)]
   congr 1
   have := grL_get (gs := gs) (j := j) (by omega)
   rw [List.getElem?_eq_getElem (by rw [grL_len]; omega)] at this
   exact Option.some.inj this
  have next : ∀ {own' : OwnM Nat} {RW' : List Rw} {s' : SL} {w' : World}, LJ w w' own' b2 (ys ++ [consN n i]) RW' s' (a28, l28, c28) rs →
    (∃ (m' i' : Nat) (own : OwnM Nat) (ys : List Nd) (RW : List Rw), IntKind.wrap .i64 ((s'.2.1 : Int) - 1) = i' ∧ IntKind.wrap .i64 (((j : Nat) : Int) - 1) = (m' : Int) - 1 ∧ m' ≤ gs.length ∧ LJ w w' own b2 ys RW s' (a28, l28, c28) rs ∧ Big ys ∧ ys.length + m' ≤ xs.length + 1 + gs.length ∧ ListAt ys i' ((grL gs).drop m') ∧ Rts ys (grL gs) rs) ∧
     (IntKind.wrap .i64 (((j : Nat) : Int) - 1) + 1).toNat < (((j : Nat) : Int) + 1).toNat := fun {own' RW' s' w'} J' => by
   have hs : s'.2.1 = ys.length + 1 := by rw [J'.nds.out.len, J'.nds.len]; simp
   have e2 : IntKind.wrap .i64 (((j : Nat) : Int) - 1) = (j : Int) - 1 := wrap_id (by omega) (by omega)
   refine ⟨⟨j, ys.length, own', _, RW', by rw [hs, wrap_id (by omega) (by omega)]; omega, e2, by omega, J', big.snoc (consN_ok ⟨by omega, by omega⟩ ⟨by omega, by omega⟩) (by simp [consN]), by simp; omega, ?_, R.behind big.closed _⟩, by rw [e2]; omega⟩
   rw [hdrop]
   exact ListAt.consS big.closed hL hnl hev
  refine ⟨⟨by omega, by omega⟩, adK p1 ⟨_, p2, ?_, ?_⟩⟩
  ·refine (p18 w67).mono ?_
   rintro en w71 ⟨_, _, c70, rfl, bp, rfl, rfl, hbp, hBp, x71⟩
   have J71 := J67.ext x71
   have fp : own bp = none := J67.nds.loc.top bp (by omega)
   refine ⟨_, _, _, rfl, Below.cel x71, AllocK.mk fun b73 w74 hb73 hB73 x74 => ?_⟩
   have u73 : Upd own (setOwn own (some b73) (10 + ys.length)) (10 + ys.length) w71 w74 := Upd.fresh x74 (by omega) hB73.lt _
   have rk : RowR (setOwn own (some b73) (10 + ys.length)) (10 + ys.length) 3 1 eI w74 (some ⟨b73, 0, none⟩, 2, 2) [(n : Int), (i : Int)] := ⟨litRow hB73, fun k hk => by cases hk; unfold setOwn; rw [if_pos rfl]⟩
   have J74 : LJ w w74 _ b2 ys RW (a64, l64, c64) (a28, l28, c28) rs := ⟨J71.nds.upd u73 (by omega) (fun q hq => by omega), J71.rts.upd u73 (by omega), J71.box.upd u73 (by omega)⟩
   have fp' : setOwn own (some b73) (10 + ys.length) bp = none := by
    have := hBp.lt
    unfold setOwn; rw [if_neg (by intro e; cases e; omega)]; exact fp
   generalize setOwn own (some b73) (10 + ys.length) = own2 at u73 rk J74 fp'
   refine RowR.push (⟨kRec, 0, kBar, (some ⟨bp, 0, none⟩, 2, c70), (some ⟨b73, 0, none⟩, 2, 2)⟩ : Rw) sltN J74.nds.out eN_len eN_one (by rw [J74.nds.len]; omega) rfl fun s' w78 ro uo => ?_
   exact next (J74.cons (hBp.ext x74) fp' rk uo ro)
  ·refine AllocK.mk fun b79 w80 hb79 hB79 x80 => ?_
   have u79 : Upd own (setOwn own (some b79) (10 + ys.length)) (10 + ys.length) w67 w80 := Upd.fresh x80 (by omega) hB79.lt _
   have rk : RowR (setOwn own (some b79) (10 + ys.length)) (10 + ys.length) 3 1 eI w80 (some ⟨b79, 0, none⟩, 2, 2) [(n : Int), (i : Int)] := ⟨litRow hB79, fun k hk => by cases hk; unfold setOwn; rw [if_pos rfl]⟩
   have J80 : LJ w w80 _ b2 ys RW (a64, l64, c64) (a28, l28, c28) rs := ⟨J67.nds.upd u79 (by omega) (fun q hq => by omega), J67.rts.upd u79 (by omega), J67.box.upd u79 (by omega)⟩
   generalize setOwn own (some b79) (10 + ys.length) = own2 at u79 rk J80
   refine (p18 w80).mono ?_
   rintro en w82 ⟨_, _, c81, rfl, bp, rfl, rfl, hbp, hBp, x82⟩
   have J82 := J80.ext x82
   have fp : own2 bp = none := J80.nds.loc.top bp (by omega)
   refine ⟨_, _, _, rfl, Below.cel (x80.trans x82), ?_⟩
   refine RowR.push (⟨kRec, 0, kBar, (some ⟨bp, 0, none⟩, 2, c81), (some ⟨b79, 0, none⟩, 2, 2)⟩ : Rw) sltN J82.nds.out eN_len eN_one (by rw [J82.nds.len]; omega) rfl fun s' w87 ro uo => ?_
   exact next (J82.cons hBp fp (rk.ext x82) uo ro)
 ·have hm0 : m = 0 := by have := of_decide_eq_false t; omega
  subst hm0
  rw [List.drop_zero] at hL
  refine (ctr16 w63 c64 (J.nds.rows (by simp only [maxLen]; omega)) big.closed (big.sz (by omega)) big.w (ht.ext J.nds.loc.below) hil).mono ?_
  rintro en w90 ⟨x88, a89, l89, c89, rfl, rfl, out, hLo, hG⟩
  have J90 := J.ext hG.below
  have N90 : NU own w90 (a89, l89, c89) out := NU.of_GD hG J.nds.loc.top
  have e89 : l89 = out.length := N90.now.len
  subst e89
  refine ⟨_, _, _, _, rfl, local2 fun b92 w95 hb92 hB92 x95 => ?_⟩
  have J95 := J90.ext x95
  have N95 := N90.fr (Fr.of_ext own x95)
  obtain ⟨d0, d1, _⟩ := blkAt2 hB92
  refine ⟨_, _, _, d1, BoolK.mk (fun t2 => ?_) (fun t2 => ⟨_, d0, _, _, _, d1, ?_⟩)⟩
  ·have t2 : 1000 < out.length := by have := of_decide_eq_true t2; omega
   exact put J95.nds.loc J95.box rfl fun w98 X _ c0 c1 => ⟨_, c0, _, _, _, c1, ⟨rfl, [], .inr ⟨okA, ys, i, out, big, by omega, hL, hLo, .inl ⟨t2, rfl, rfl⟩⟩, nds_none w98⟩, X⟩
  ·have t2 : out.length ≤ 1000 := by have := of_decide_eq_false t2; omega
   exact put J95.nds.loc J95.box rfl fun w98 X F98 c0 c1 => ⟨_, c0, _, _, _, c1, ⟨rfl, out, .inr ⟨okA, ys, i, out, big, by omega, hL, hLo, .inr ⟨t2, rfl, rfl⟩⟩, (N95.fr F98).now⟩, X⟩
end Go.Proofs.YtnmldggopnbclaaGreatDoor

namespace Go.Proofs.YtnmldggopnbclaaGreatDoor
open Go Go.V Go.Proofs
open Go.RowKit (Below)
/-! manystrand/manystrandref05.joined -/
def N20 (x1 : Int) (a2 : Option Addr) (l2 : Nat) (c2 : Nat) (x3 : Int) (a4 : Option Addr) (l4 : Nat) (c4 : Nat) (K : Option Addr → Nat → Nat → Int → Int → World → Prop) (w : World) : Prop :=
 AllocK w (#[(.int .i64 x1), (.slice a2 l2 c2)]) 25 fun b5 w6 =>
 AllocK w6 (#[(.int .i64 x3), (.slice a4 l4 c4)]) 25 fun b7 w8 =>
 ∃ a9 l9 c9, w8.cell? (b5.add 1) = some (.slice a9 l9 c9) ∧
 (∃ a10, ∃ l10, ∃ c10, ∃ w11, Sem.run Tryz.prog (Builtin.append_ #[23, 23] 23 #[(.slice none 0 0), (.slice a9 l9 c9)]) w8 = .ok (.slice a10 l10 c10) w11 ∧
 (∃ (I12 : Option Addr → Nat → Nat → Int → World → Prop) (μ13 : Option Addr → Nat → Nat → Int → World → Nat),
 (I12 a10 l10 c10 0 w11 ∧ True) ∧
 ∀ w14 a15 l15 c15 x16, I12 a15 l15 c15 x16 w14 →
 ∃ a17 l17 c17, w14.cell? (b7.add 1) = some (.slice a17 l17 c17) ∧
 (BoolK (decide (x16 < l17))
 (∃ a18 l18 c18, w14.cell? (b7.add 1) = some (.slice a18 l18 c18) ∧
 ((0 ≤ x16 ∧ x16 < l18) ∧
 AddrK a18 fun b19 =>
 ∃ s20, w14.cell? ((b19.add (x16.toNat * 5)).add 0) = some (.string s20) ∧
 (∃ x21, w14.cell? ((b19.add (x16.toNat * 5)).add 1) = some (.int .i64 x21) ∧
 (∃ s22, w14.cell? ((b19.add (x16.toNat * 5)).add 2) = some (.string s22) ∧
 (∃ a23 l23 c23, w14.cell? ((b19.add (x16.toNat * 5)).add 3) = some (.slice a23 l23 c23) ∧
 (∃ a24 l24 c24, w14.cell? ((b19.add (x16.toNat * 5)).add 4) = some (.slice a24 l24 c24) ∧
 (AllocK w14 (#[.string ⟨#[]⟩, .int .i64 0, .string ⟨#[]⟩, .slice none 0 0, .slice none 0 0]) 39 fun b25 w26 =>
 SetK w26 (b25.add 0) (.string s20) fun w27 =>
 SetK w27 (b25.add 1) (.int .i64 x21) fun w28 =>
 SetK w28 (b25.add 2) (.string s22) fun w29 =>
 SetK w29 (b25.add 3) (.slice a23 l23 c23) fun w30 =>
 SetK w30 (b25.add 4) (.slice a24 l24 c24) fun w31 =>
 ∃ a32 l32 c32, w31.cell? (b25.add 4) = some (.slice a32 l32 c32) ∧
 (∃ a33, ∃ l33, ∃ c33, ∃ w34, Sem.run Tryz.prog (Builtin.append_ #[37, 37] 37 #[(.slice none 0 0), (.slice a32 l32 c32)]) w31 = .ok (.slice a33 l33 c33) w34 ∧
 (SetK w34 (b25.add 4) (.slice a33 l33 c33) fun w35 =>
 ∃ (I36 : Int → World → Prop) (μ37 : Int → World → Nat),
 (I36 0 w35 ∧ True) ∧
 ∀ w38 x39, I36 x39 w38 →
 ∃ a40 l40 c40, w38.cell? (b25.add 4) = some (.slice a40 l40 c40) ∧
 (BoolK (decide (x39 < l40))
 (DrewK w38 fun w41 =>
 ∃ a42 l42 c42, w41.cell? (b25.add 4) = some (.slice a42 l42 c42) ∧
 ((0 ≤ x39 ∧ x39 < l42) ∧
 AddrK a42 fun b43 =>
 ∃ x44, w41.cell? (b43.add (x39.toNat * 1)) = some (.int .i64 x44) ∧
 (∃ a45 l45 c45, w41.cell? (b5.add 1) = some (.slice a45 l45 c45) ∧
 ((0 ≤ x39 ∧ x39 < l42) ∧
 AddrK a42 fun b46 =>
 SetK w41 (b46.add (x39.toNat * 1)) (.int .i64 (IntKind.wrap .i64 (x44 + l45))) fun w47 =>
 I36 (IntKind.wrap .i64 (x39 + 1)) w47 ∧ μ37 (IntKind.wrap .i64 (x39 + 1)) w47 < μ37 x39 w38))))
 (∃ s48, w38.cell? (b25.add 0) = some (.string s48) ∧
 (∃ x49, w38.cell? (b25.add 1) = some (.int .i64 x49) ∧
 (∃ s50, w38.cell? (b25.add 2) = some (.string s50) ∧
 (∃ a51 l51 c51, w38.cell? (b25.add 3) = some (.slice a51 l51 c51) ∧
 (∃ a52 l52 c52, w38.cell? (b25.add 4) = some (.slice a52 l52 c52) ∧
 (AllocK w38 (#[(.string s48), (.int .i64 x49), (.string s50), (.slice a51 l51 c51), (.slice a52 l52 c52)]) 39 fun b53 w54 =>
 ∃ a55, ∃ l55, ∃ c55, ∃ w56, Sem.run Tryz.prog (Builtin.append_ #[23, 23] 23 #[(.slice a15 l15 c15), (.slice (some b53) 1 1)]) w54 = .ok (.slice a55 l55 c55) w56 ∧
 (I12 a55 l55 c55 (IntKind.wrap .i64 (x16 + 1)) w56 ∧ μ13 a55 l55 c55 (IntKind.wrap .i64 (x16 + 1)) w56 < μ13 a15 l15 c15 x16 w14)))))))))))))))))
 (DrewK w14 fun w57 =>
 ∃ x58, w57.cell? b5 = some (.int .i64 x58) ∧
 (∃ x59, w57.cell? b7 = some (.int .i64 x59) ∧
 (∃ a60 l60 c60, w57.cell? (b5.add 1) = some (.slice a60 l60 c60) ∧
 (K a15 l15 c15 x58 (IntKind.wrap .i64 (x59 + l60)) w57)))))))
def ann20 : Ann := (.two .nil (.two .nil (.two (.two .nil (.one (.loop [(7, (.one .slice)), (8, (.one (.int .i64)))] [2, 3] (.two (.two .nil (.two .nil .nil)) (.two (.one (.two .nil (.two .nil (.two (.two .nil (.one (.loop [(10, (.one (.int .i64)))] [2, 3, 7, 8, 9] (.two (.two .nil (.two .nil .nil)) (.two (.one (.anyC 10 (.take 0 (.take 1 (.take 2 (.take 3 (.take 4 (.take 5 (.take 6 (.take 7 (.take 8 (.take 9 .done)))))))))))) .nil))))) .nil)))) .nil))))) (.two (.anyC 12 (.take 0 (.take 1 (.take 2 (.take 3 (.take 4 (.take 5 (.take 6 (.take 7 (.take 8 (.take 9 (.take 10 (.take 11 .done))))))))))))) .nil))))
noncomputable def code20 : Code := match Tryz.f20.body with | some c => c | none => .skip
theorem calls20 (x1 : Int) (a2 : Option Addr) (l2 : Nat) (c2 : Nat) (x3 : Int) (a4 : Option Addr) (l4 : Nat) (c4 : Nat) (K : Option Addr → Nat → Nat → Int → Int → World → Prop) (w : World) (h : N20 x1 a2 l2 c2 x3 a4 l4 c4 K w) : Calls Tryz.prog 20 #[(.agg #[(.int .i64 x1), (.slice a2 l2 c2)]), (.agg #[(.int .i64 x3), (.slice a4 l4 c4)])] w fun en w' => ∃ (a61 : Option Addr), ∃ (l61 : Nat), ∃ (c61 : Nat), ∃ (x62 : Int), ∃ (x63 : Int), en = .returned (.tuple #[(.slice a61 l61 c61), (.int .i64 x62), (.int .i64 x63)]) ∧ K a61 l61 c61 x62 x63 w' :=
 fn_calls tabOk mixed Tryz.func20 (by kernel_rfl : Tryz.f20.body = some code20) ann20 [(.agg #[(.int .i64 x1), (.slice a2 l2 c2)]), (.agg #[(.int .i64 x3), (.slice a4 l4 c4)])] [(.one .slice), (.one (.int .i64)), (.one (.int .i64))] K w (by kernel_rfl) (by kernel_rfl) (by kernel_rfl) h
end Go.Proofs.YtnmldggopnbclaaGreatDoor

namespace Go.Proofs.YtnmldggopnbclaaGreatDoor
open Go Go.V Go.Proofs Go.V.Gr
open Go.RowKit (Below)
def RRw (_ : World) (f : Cells) (r : Rw) : Prop := ∀ j, j < 5 → f j = (eN r)[j]?
theorem RRw.celM : CelM RRw := fun w w' f g r _ h hr j hj => by
 obtain ⟨u, hu⟩ : ∃ u, (eN r)[j]? = some u := ⟨_, List.getElem?_eq_getElem (by rw [eN_len]; exact hj)⟩
 rw [hu]; exact h j u ((hr j hj).trans hu)
theorem pickRw {w : World} {a : Option Addr} {l : Nat} {xs : List Nd} (h : RNds w a l xs) : ∃ RW : List Rw, RW.length = xs.length ∧ Go.V.Rows 5 RRw w a l RW ∧
  ∀ (q : Nat) (r : Rw) (x : Nd), RW[q]? = some r → xs[q]? = some x → r.kd = x.kd ∧ r.n = x.n ∧ r.tx = x.tx ∧ x.kd.size ≤ maxLen ∧ x.tx.size ≤ maxLen ∧ (Lit.int .i64 x.n).wf = true ∧ RL 2 RFt w r.sf.1 r.sf.2.1 x.fs ∧ RL 1 RInt w r.sk.1 r.sk.2.1 x.ks := by
 have hl := h.len
 rcases h.1.2 with e | ⟨b, o, ha, hx⟩
 ·subst e; exact ⟨[], rfl, ⟨hl, .inl rfl⟩, fun q r x e => by simp at e⟩
 ·have pick : ∀ i : Fin xs.length, ∃ r : Rw, RRw w (fun j => w.cell? ⟨b, o + i.val * 5 + j, none⟩) r ∧ (r.kd = xs[i].kd ∧ r.n = xs[i].n ∧ r.tx = xs[i].tx ∧ xs[i].kd.size ≤ maxLen ∧ xs[i].tx.size ≤ maxLen ∧ (Lit.int .i64 xs[i].n).wf = true ∧ RL 2 RFt w r.sf.1 r.sf.2.1 xs[i].fs ∧ RL 1 RInt w r.sk.1 r.sk.2.1 xs[i].ks) := fun i => by
   obtain ⟨h0, h1, h2, h3, h4, ⟨a', l', c', h5, h6⟩, ⟨a'', l'', c'', h7, h8⟩, h9⟩ := hx i.val xs[i] (List.getElem?_eq_getElem i.isLt)
   refine ⟨⟨xs[i].kd, xs[i].n, xs[i].tx, (a', l', c'), (a'', l'', c'')⟩, fun j hj => ?_, rfl, rfl, rfl, h3, h4, h9, h6, h8⟩
   match j, hj with
   | 0, _ => exact h0
   | 1, _ => exact h1
   | 2, _ => exact h2
   | 3, _ => exact h5
   | 4, _ => exact h7
   | j + 5, hj => omega
  obtain ⟨f, hf⟩ := Classical.axiomOfChoice pick
  refine ⟨List.ofFn f, by simp, ⟨by simpa using hl, .inr ⟨b, o, ha, fun i r hi => ?_⟩⟩, fun q r x e1 e2 => ?_⟩
  ·have hil : i < xs.length := by have := (List.getElem?_eq_some_iff.1 hi).1; simpa using this
   rw [List.getElem?_eq_getElem (by simpa using hil)] at hi
   simp only [List.getElem_ofFn, Option.some.injEq] at hi
   subst hi
   exact (hf ⟨i, hil⟩).1
  ·have hil : q < xs.length := (List.getElem?_eq_some_iff.1 e2).1
   rw [List.getElem?_eq_getElem (by simpa using hil)] at e1
   simp only [List.getElem_ofFn, Option.some.injEq] at e1
   rw [List.getElem?_eq_getElem hil] at e2
   cases e2; subst e1
   exact (hf ⟨q, hil⟩).2
structure JM (v w0 w : World) (own : OwnM Nat) (xs : List Nd) (RW : List Rw) (s : SL) : Prop where
 loc : Mine own w0 w
 out : RowR own 0 39 5 eN w s RW
 len : RW.length = xs.length
 nds : ∀ (q : Nat) (r : Rw) (x : Nd), RW[q]? = some r → xs[q]? = some x → r.kd = x.kd ∧ r.n = x.n ∧ r.tx = x.tx ∧ x.kd.size ≤ maxLen ∧ x.tx.size ≤ maxLen ∧ (Lit.int .i64 x.n).wf = true ∧
  RL 2 RFt v r.sf.1 r.sf.2.1 x.fs ∧ (RL 1 RInt v r.sk.1 r.sk.2.1 x.ks ∨ (RowR own (10 + q) 3 1 eI w r.sk x.ks ∧ x.ks.length ≤ maxLen))
section
variable {v w0 w w' : World} {own own' : OwnM Nat} {xs : List Nd} {RW : List Rw} {s : SL}
theorem JM.ext (h : JM v w0 w own xs RW s) (x : Ext w w') : JM v w0 w' own xs RW s := ⟨h.loc.ext x, h.out.ext x, h.len, fun q r y e1 e2 => by
 obtain ⟨f1, f2, f3, f4, f5, f6, f7, f8⟩ := h.nds q r y e1 e2
 exact ⟨f1, f2, f3, f4, f5, f6, f7, f8.imp id fun g => ⟨g.1.ext x, g.2⟩⟩⟩
theorem JM.upd {r : Nat} (h : JM v w0 w own xs RW s) (u : Upd own own' r w w') (h0 : r ≠ 0) (h1 : ∀ q, q < xs.length → r ≠ 10 + q) : JM v w0 w' own' xs RW s := ⟨h.loc.upd u, h.out.upd u (fun e => h0 e.symm), h.len, fun q r' y e1 e2 => by
 obtain ⟨f1, f2, f3, f4, f5, f6, f7, f8⟩ := h.nds q r' y e1 e2
 exact ⟨f1, f2, f3, f4, f5, f6, f7, f8.imp id fun g => ⟨g.1.upd u (fun e => h1 q (List.getElem?_eq_some_iff.1 e2).1 e.symm), g.2⟩⟩⟩
theorem JM.rowsAt (h : JM v w0 w own xs RW s) (hm : xs.length ≤ maxLen) (k : ∀ b, b < w.heap.size → own b ≠ none → w'.heap[b]? = w.heap[b]?) (hv : Cel v w') : RNds w' s.1 s.2.1 xs := by
 have ho := h.out.frame k
 refine ⟨ho.1.rows eN_len RNd h.len.symm fun f q r y hr hy hf => ?_, by rw [h.out.len, h.len]; exact hm⟩
 obtain ⟨f1, f2, f3, f4, f5, f6, f7, f8⟩ := h.nds q r y hr hy
 refine ⟨by rw [hf 0 (by omega), ← f1]; rfl, by rw [hf 1 (by omega), ← f2]; rfl, by rw [hf 2 (by omega), ← f3]; rfl, f4, f5, ⟨_, _, _, by rw [hf 3 (by omega)]; rfl, RL.cel RFt.celM f7 hv⟩, ⟨_, _, _, by rw [hf 4 (by omega)]; rfl, ?_⟩, f6⟩
 rcases f8 with f8 | ⟨f8, f9⟩
 ·exact RL.cel RInt.celM f8 hv
 ·exact ⟨OwnR.ints (f8.frame k).1, by rw [f8.len]; exact f9⟩
theorem JM.more {s' : SL} {r : Rw} {x : Nd} (h : JM v w0 w own xs RW s) (h1 : r.kd = x.kd) (h2 : r.n = x.n) (h3 : r.tx = x.tx) (h4 : x.kd.size ≤ maxLen) (h5 : x.tx.size ≤ maxLen) (h6 : (Lit.int .i64 x.n).wf = true) (h7 : RL 2 RFt v r.sf.1 r.sf.2.1 x.fs)
  (h8 : RowR own (10 + xs.length) 3 1 eI w r.sk x.ks) (h9 : x.ks.length ≤ maxLen) (u : Upd own own' 0 w w') (ho : RowR own' 0 39 5 eN w' s' (RW ++ [r])) : JM v w0 w' own' (xs ++ [x]) (RW ++ [r]) s' := by
 refine ⟨h.loc.upd u, ho, by simp [h.len], fun q r2 y e1 e2 => ?_⟩
 rcases Nat.lt_or_ge q xs.length with hq | hq
 ·rw [List.getElem?_append_left (by rw [h.len]; exact hq)] at e1
  rw [List.getElem?_append_left hq] at e2
  obtain ⟨f1, f2, f3, f4, f5, f6, f7, f8⟩ := h.nds q r2 y e1 e2
  exact ⟨f1, f2, f3, f4, f5, f6, f7, f8.imp id fun g => ⟨g.1.upd u (by omega), g.2⟩⟩
 ·have hq2 : q = xs.length := by have := (List.getElem?_eq_some_iff.1 e2).1; simp at this; omega
  subst hq2
  rw [← h.len, List.getElem?_concat_length] at e1
  rw [List.getElem?_concat_length] at e2
  cases e1; cases e2
  exact ⟨h1, h2, h3, h4, h5, h6, h7, .inr ⟨h8.upd u (by omega), h9⟩⟩
end
set_option maxRecDepth 100000 in
theorem j20 (v w : World) (r r' : Int) {xs ys : List Nd} {a2 a4 : Option Addr} {l2 l4 : Nat} (c2 c4 : Nat) (hx : RNds v a2 l2 xs) (hy : RNds v a4 l4 ys) (hv : Cel v w) (hzx : Sz xs) (hz : Sz ys) (hc : Closed ys) (hr' : 0 ≤ r' ∧ r' ≤ 1000000) :
  Calls Tryz.prog 20 #[.agg #[.int .i64 r, .slice a2 l2 c2], .agg #[.int .i64 r', .slice a4 l4 c4]] w fun en w' => ∃ a l c x y, en = .returned (.tuple #[.slice a l c, .int .i64 x, .int .i64 y]) ∧
   ((x = r ∧ y = r' + (xs.length : Int) ∧ ∃ w0 own RW, Ext w w0 ∧ JM v w0 w' own (app xs ys) RW (a, l, c)) ∧ Ext w w') := by
 refine calls20 _ _ _ _ _ _ _ _ _ w ?_
 have hl2 := hx.len; have hl4 := hy.len
 have n2 := hzx.len; have n4 := hz.len
 refine AllocK.mk fun b5 w6 hb5 hB5 x6 => AllocK.mk fun b7 w8 hb7 hB7 x8 => ?_
 have hB5 := hB5.ext x8
 have y8 := x6.trans x8
 obtain ⟨RW0, hRl, hRr, hRn⟩ := pickRw hx
 obtain ⟨a10, c10, w11, q11, o11, x11⟩ := copyRows (P := Tryz.prog) (t := 23) (ty := 23) sltN (enc := eN) (R := RRw) (c := c2) (rows_cel RRw.celM hRr (hv.trans (Below.cel y8))) eN_len eN_one (fun f x hf j hj => hf j hj) (by rw [hRl]; omega)
 refine ⟨_, _, _, (blkAt2 hB5).2.1, _, _, _, _, q11, ?_⟩
 obtain ⟨r11, u11⟩ := RowR.adopt (s := (a10, l2, c10)) o11 (Nat.le_refl _) x11 (fun _ => (none : Option Nat)) 0
 have L11 := (Mine.refl (ρ := Nat) w8).upd u11
 have J11 : JM v w8 w11 _ xs RW0 (a10, l2, c10) := ⟨L11, r11, hRl, fun q r x e1 e2 => by
  obtain ⟨f1, f2, f3, f4, f5, f6, f7, f8⟩ := hRn q r x e1 e2
  exact ⟨f1, f2, f3, f4, f5, f6, f7, .inl f8⟩⟩
 generalize setOwn (fun _ => (none : Option Nat)) (sblk (a10, l2, c10)) 0 = own at J11
 clear L11 r11 u11
 refine ⟨fun a l c i w' => ∃ (k : Nat) (own' : OwnM Nat) (RW' : List Rw), i = k ∧ k ≤ ys.length ∧ JM v w8 w' own' (xs ++ (ys.take k).map (shift xs.length)) RW' (a, l, c), fun _ _ _ i _ => ys.length - i.toNat,
  ⟨⟨0, own, RW0, rfl, by omega, by simpa using J11⟩, trivial⟩, ?_⟩
 clear J11
 rintro w14 a15 l15 c15 _ ⟨k, own1, RW1, rfl, hk, J⟩
 have at5 : ∀ {w'}, Ext w8 w' → w'.cell? ((⟨b5, 0, none⟩ : Addr).add 1) = some (.slice a2 l2 c2) ∧ w'.cell? (⟨b5, 0, none⟩ : Addr) = some (.int .i64 r) := fun x => ⟨(blkAt2 (hB5.ext x)).2.1, (blkAt2 (hB5.ext x)).2.2⟩
 have at7 : ∀ {w'}, Ext w8 w' → w'.cell? ((⟨b7, 0, none⟩ : Addr).add 1) = some (.slice a4 l4 c4) ∧ w'.cell? (⟨b7, 0, none⟩ : Addr) = some (.int .i64 r') := fun x => ⟨(blkAt2 (hB7.ext x)).2.1, (blkAt2 (hB7.ext x)).2.2⟩
 refine ⟨_, _, _, (at7 J.loc.below).1, BoolK.mk (fun t => ?_) (fun t => ?_)⟩
 ·have hlt : k < ys.length := by have := of_decide_eq_true t; omega
  have hym := List.getElem_mem hlt
  have hks := hz.ks _ hym
  obtain ⟨b19, ha, n0, n1, n2', n3, n4', ⟨a23, l23, c23, n5, n6⟩, ⟨a24, l24, c24, n7, n8⟩, nw⟩ := ndAt hy (Ext.refl v) hlt
  have y14 := J.loc.below
  have z14 := hv.trans (Below.cel (y8.trans y14))
  have e24 := n8.len
  refine ⟨_, _, _, (at7 y14).1, ⟨by omega, by omega⟩, adK ha ⟨_, z14 _ _ n0, _, z14 _ _ n1, _, z14 _ _ n2', _, _, _, z14 _ _ n5, _, _, _, z14 _ _ n7, ?_⟩⟩
  refine local5 fun b25 w31 hb25 hB25 x31 => ?_
  have u25 : Upd own1 (setOwn own1 (some b25) 5) 5 w14 w31 := Upd.fresh x31 (by omega) hB25.lt _
  have bx25 : Bx (setOwn own1 (some b25) 5) 5 w31 b25 _ _ := ⟨hB25, by unfold setOwn; rw [if_pos rfl]⟩
  have J := J.upd u25 (by decide) (fun q _ => by omega)
  generalize setOwn own1 (some b25) 5 = own2 at J bx25
  clear u25
  have hxk : (xs ++ (ys.take k).map (shift xs.length)).length = xs.length + k := by simp; omega
  obtain ⟨a33, c33, w34, q34, o34, x34⟩ := copyRows (P := Tryz.prog) (t := 37) (ty := 37) sltI (enc := eI) (R := RInt) (c := c24) (rows_cel RInt.celM n8.1 (hv.trans (Below.cel (y8.trans J.loc.below)))) eI_len eI_one (fun f x hf j hj => by
   have : j = 0 := by omega
   subst this; exact hf) (by omega)
  refine ⟨_, _, _, (blkAt5 bx25.blk (Ext.refl w31)).2.2.2.2, _, _, _, _, q34, ?_⟩
  obtain ⟨r34, u34⟩ := RowR.adopt (s := (a33, l24, c33)) o34 (Nat.le_refl _) x34 own2 (10 + (xs.length + k))
  have J := J.upd u34 (by omega) (fun q hq => by omega)
  have bx25 := bx25.upd u34 (by omega)
  generalize setOwn own2 (sblk (a33, l24, c33)) (10 + (xs.length + k)) = own3 at J bx25 r34
  clear u34
  refine Bx.setA bx25 (by simp) fun w35 bx35 u35 => ?_
  have J := J.upd u35 (by omega) (fun q _ => by omega)
  have r35 := r34.upd u35 (by omega)
  clear u35
  have bx35 : Bx own3 5 w35 b25 #[.string ys[k].kd, .int .i64 ys[k].n, .string ys[k].tx, .slice a23 l23 c23, .slice a33 l24 c33] 39 := by simpa using bx35
  refine ⟨fun i w' => ∃ (m : Nat) (kk : List Int), i = m ∧ m ≤ l24 ∧ JM v w8 w' own3 (xs ++ (ys.take k).map (shift xs.length)) RW1 (a15, l15, c15) ∧ Bx own3 5 w' b25 #[.string ys[k].kd, .int .i64 ys[k].n, .string ys[k].tx, .slice a23 l23 c23, .slice a33 l24 c33] 39 ∧
    RowR own3 (10 + (xs.length + k)) 3 1 eI w' (a33, l24, c33) kk ∧ kk.length = l24 ∧ (∀ j, j < m → kk[j]? = (ys[k].ks[j]?).map fun v => (xs.length : Int) + v) ∧ ∀ j, m ≤ j → kk[j]? = ys[k].ks[j]?, fun i _ => l24 - i.toNat,
   ⟨⟨0, _, rfl, by omega, J, bx35, r35, by omega, fun j hj => by omega, fun j _ => rfl⟩, trivial⟩, ?_⟩
  clear J bx25 bx35 r34 r35
  rintro w38 _ ⟨m, kk, rfl, hm, J, bx25, rk, hkl, hk1, hk2⟩
  refine ⟨_, _, _, (blkAt5 bx25.blk (Ext.refl w38)).2.2.2.2, BoolK.mk (fun t => ?_) (fun t => ?_)⟩
  ·have hmlt : m < l24 := by have := of_decide_eq_true t; omega
   have hmk : m < ys[k].ks.length := by omega
   refine DrewK.mk fun w41 x41 => ?_
   have J := J.ext x41
   have bx25 := bx25.ext x41
   have rk := rk.ext x41
   have hkb := hc _ hym _ (List.getElem_mem hmk)
   have hkm : kk[m]'(by omega) = ys[k].ks[m] := by
    have := hk2 m (Nat.le_refl _)
    rw [List.getElem?_eq_getElem (by omega), List.getElem?_eq_getElem hmk] at this
    exact Option.some.inj this
   obtain ⟨b43, o43, ea, ec⟩ := (OwnR.ints rk.1).get (i := m) (by omega)
   have ec : w41.cell? ((⟨b43, o43, none⟩ : Addr).add (((m : Nat) : Int).toNat * 1)) = some (.int .i64 ys[k].ks[m]) := by
    rw [Int.toNat_natCast, add_mk, ← hkm]; exact ec
   obtain ⟨b46, eb, st⟩ := RowR.setk rk (i := m) (by omega) (IntKind.wrap .i64 (ys[k].ks[m] + ((l2 : Nat) : Int))) (F := fun w47 => (∃ (m' : Nat) (kk : List Int), IntKind.wrap .i64 (((m : Nat) : Int) + 1) = m' ∧ m' ≤ l24 ∧ JM v w8 w47 own3 (xs ++ (ys.take k).map (shift xs.length)) RW1 (a15, l15, c15) ∧ Bx own3 5 w47 b25 #[.string ys[k].kd, .int .i64 ys[k].n, .string ys[k].tx, .slice a23 l23 c23, .slice a33 l24 c33] 39 ∧
     RowR own3 (10 + (xs.length + k)) 3 1 eI w47 (a33, l24, c33) kk ∧ kk.length = l24 ∧ (∀ j, j < m' → kk[j]? = (ys[k].ks[j]?).map fun v => (xs.length : Int) + v) ∧ ∀ j, m' ≤ j → kk[j]? = ys[k].ks[j]?) ∧ l24 - (IntKind.wrap .i64 (((m : Nat) : Int) + 1)).toNat < l24 - ((m : Nat) : Int).toNat) fun w47 rk' u47 => by
    rw [wrap_succ (by omega)]
    refine ⟨⟨m + 1, _, rfl, by omega, J.upd u47 (by omega) (fun q hq => by omega), bx25.upd u47 (by omega), rk', by simpa using hkl, fun j hj => ?_, fun j hj => ?_⟩, by simp; omega⟩
    ·rw [List.getElem?_set]
     by_cases e : m = j
     ·subst e
      rw [if_pos rfl, if_pos (by omega), List.getElem?_eq_getElem hmk, hl2, wrap_id (by omega) (by omega)]
      simp only [Option.map_some]; congr 1; omega
     ·rw [if_neg e]; exact hk1 j (by omega)
    ·rw [List.getElem?_set, if_neg (by omega)]; exact hk2 j (by omega)
   refine ⟨_, _, _, (blkAt5 bx25.blk (Ext.refl w41)).2.2.2.2, ⟨by omega, by omega⟩, adK ea ⟨_, ec, _, _, _, (at5 J.loc.below).1, ⟨by omega, by omega⟩, adK eb st⟩⟩
  ·have hml : m = l24 := by have := of_decide_eq_false t; omega
   subst hml
   have hks2 : kk = (shift xs.length ys[k]).ks := by
    apply List.ext_getElem?
    intro j
    rw [shift, List.getElem?_map]
    rcases Nat.lt_or_ge j m with hj | hj
    ·exact hk1 j hj
    ·rw [List.getElem?_eq_none (by omega), List.getElem?_eq_none (by omega)]; rfl
   subst hks2
   obtain ⟨f0, f1, f2, f3, f4⟩ := blkAt5 bx25.blk (Ext.refl w38)
   refine ⟨_, by simpa [add_mk] using f0, _, f1, _, f2, _, _, _, f3, _, _, _, f4, ?_⟩
   refine RowR.push (⟨ys[k].kd, ys[k].n, ys[k].tx, (a23, l23, c23), (a33, m, c33)⟩ : Rw) sltN J.out eN_len eN_one (by rw [J.len, hxk]; omega) rfl fun s' w56 ro uo => ?_
   rw [wrap_succ (by omega)]
   have ht : xs ++ (ys.take (k + 1)).map (shift xs.length) = (xs ++ (ys.take k).map (shift xs.length)) ++ [shift xs.length ys[k]] := by
    rw [List.take_add_one, List.getElem?_eq_getElem hlt, List.map_append]; simp
   have J2 := J.more (x := shift xs.length ys[k]) rfl rfl rfl n3 n4' nw n6 (by rw [hxk]; exact rk) (by simp [shift, maxLen]; omega) uo ro
   rw [← ht] at J2
   exact ⟨⟨k + 1, _, _, rfl, by omega, J2⟩, by simp; omega⟩
 ·have hkl : k = ys.length := by have := of_decide_eq_false t; omega
  subst hkl
  rw [List.take_length] at J
  refine DrewK.mk fun w57 x57 => ?_
  have J := J.ext x57
  have y57 := J.loc.below
  refine ⟨_, (at5 y57).2, _, (at7 y57).2, _, _, _, (at5 y57).1, ⟨rfl, ?_, w8, own1, RW1, y8, J⟩, y8.trans y57⟩
  rw [hl2, wrap_id (by omega) (by omega)]
end Go.Proofs.YtnmldggopnbclaaGreatDoor

namespace Go.Proofs.YtnmldggopnbclaaGreatDoor
open Go Go.V Go.Proofs
open Go.RowKit (Below)
/-! manystrand/manystrandref05.Least -/
def N10 (x1 : Int) (a2 : Option Addr) (l2 : Nat) (c2 : Nat) (K : Int → Option Addr → Nat → Nat → Int → World → Prop) (w : World) : Prop :=
 AllocK w (#[(.int .i64 x1), (.slice a2 l2 c2)]) 25 fun b3 w4 =>
 AllocK w4 (#[.int .i64 0, .slice none 0 0]) 25 fun b5 w6 =>
 ∃ x7, w6.cell? (b3.add 0) = some (.int .i64 x7) ∧
 (∃ a8 l8 c8, w6.cell? (b3.add 1) = some (.slice a8 l8 c8) ∧
 (Calls Tryz.prog 19 #[(.agg #[(.int .i64 x7), (.slice a8 l8 c8)])] w6 fun e11 w10 =>
 ∃ p9, e11 = .returned (.bool p9) ∧
 (BoolK (!p9)
 (SetK w10 (b5.add 0) (.int .i64 0) fun w12 =>
 SetK w12 (b5.add 1) (.slice none 0 0) fun w13 =>
 ∃ x14, w13.cell? (b5.add 0) = some (.int .i64 x14) ∧
 (∃ a15 l15 c15, w13.cell? (b5.add 1) = some (.slice a15 l15 c15) ∧
 (K x14 a15 l15 c15 50 w13)))
 (∃ x16, w10.cell? (b3.add 0) = some (.int .i64 x16) ∧
 (∃ a17 l17 c17, w10.cell? (b3.add 1) = some (.slice a17 l17 c17) ∧
 (Calls Tryz.prog 22 #[(.agg #[(.int .i64 x16), (.slice a17 l17 c17)])] w10 fun e21 w20 =>
 ∃ x18, ∃ a19, ∃ l19, ∃ c19, e21 = .returned (.agg #[(.int .i64 x18), (.slice a19 l19 c19)]) ∧
 (SetK w20 (b5.add 0) (.int .i64 x18) fun w22 =>
 SetK w22 (b5.add 1) (.slice a19 l19 c19) fun w23 =>
 ∃ x24, w23.cell? (b5.add 0) = some (.int .i64 x24) ∧
 (∃ a25 l25 c25, w23.cell? (b5.add 1) = some (.slice a25 l25 c25) ∧
 (K x24 a25 l25 c25 0 w23)))))))))
def ann10 : Ann := (.two .nil (.two (.two .nil (.two (.two .nil .nil) .nil)) (.two .nil .nil)))
noncomputable def code10 : Code := match Tryz.f10.body with | some c => c | none => .skip
theorem calls10 (x1 : Int) (a2 : Option Addr) (l2 : Nat) (c2 : Nat) (K : Int → Option Addr → Nat → Nat → Int → World → Prop) (w : World) (h : N10 x1 a2 l2 c2 K w) : Calls Tryz.prog 10 #[(.agg #[(.int .i64 x1), (.slice a2 l2 c2)])] w fun en w' => ∃ (x26 : Int), ∃ (a27 : Option Addr), ∃ (l27 : Nat), ∃ (c27 : Nat), ∃ (x28 : Int), en = .returned (.tuple #[(.agg #[(.int .i64 x26), (.slice a27 l27 c27)]), (.int .i64 x28)]) ∧ K x26 a27 l27 c27 x28 w' :=
 fn_calls tabOk mixed Tryz.func10 (by kernel_rfl : Tryz.f10.body = some code10) ann10 [(.agg #[(.int .i64 x1), (.slice a2 l2 c2)])] [(.agg [(.int .i64), .slice]), (.one (.int .i64))] K w (by kernel_rfl) (by kernel_rfl) (by kernel_rfl) h
end Go.Proofs.YtnmldggopnbclaaGreatDoor

namespace Go.Proofs.YtnmldggopnbclaaGreatDoor
open Go Go.V Go.Proofs Go.V.Gr
open Go.RowKit (Below)
theorem ctr10 (w : World) (root : Int) (xs : List Nd) {a : Option Addr} {l : Nat} (c : Nat) (h : RNds w a l xs) (hl : Lim xs) (hlt : LimT xs) :
  Calls Tryz.prog 10 #[.agg #[.int .i64 root, .slice a l c]] w fun en w' => ∃ x a' l' c' e, en = .returned (.tuple #[.agg #[.int .i64 x, .slice a' l' c'], .int .i64 e]) ∧
   ((GrOk root xs 1000 ∧ Ans w w' xs (some root.toNat) 50 x (a', l', c') e) ∨ (¬ GrOk root xs 1000 ∧ Ans w w' xs none 50 x (a', l', c') e)) := by
 refine calls10 _ _ _ _ _ w ?_
 refine AllocK.mk fun b3 w4 hb3 hB3 x4 => AllocK.mk fun b5 w6 hb5 hB5 x6 => ?_
 have hB3 := hB3.ext x6
 have y6 := x4.trans x6
 obtain ⟨g0, g1, g2⟩ := blkAt2 hB3
 refine ⟨_, g0, _, _, _, g1, (ctr19 w6 root xs c (RNds.at h y6) hlt).mono ?_⟩
 rintro en w10 ⟨p, rfl, hp, x10⟩
 have y10 := y6.trans x10
 have hB3 := hB3.ext x10
 have hB5 := hB5.ext x10
 have hbw : w.heap.size ≤ b5 := by have := x4.size; omega
 obtain ⟨g0, g1, g2⟩ := blkAt2 hB3
 refine ⟨_, rfl, BoolK.mk (fun t => ?_) (fun t => ?_)⟩
 ·refine setTwo hB5 fun w13 hB13 k13 => ?_
  obtain ⟨f0, f1, _⟩ := blkAt2 hB13
  exact ⟨_, f0, _, _, _, f1, .inr ⟨fun e => (by rw [hp.2 e] at t; cases t), k13.below y10 hbw, rfl, .inr ⟨rfl, rfl, rfl⟩⟩⟩
 ·have ok := hp.1 (by simpa using t)
  have hr : root = ((root.toNat : Nat) : Int) := by have := ok.root; omega
  refine ⟨_, g0, _, _, _, g1, ?_⟩
  have := ctr22 w10 c (RNds.at h y10) ok.closed (ok.sz (by omega) hl) (ok.w hl) (ok.d hl) ok.lt
  rw [← hr] at this
  refine this.mono ?_
  rintro en w20 ⟨x, a', l', c', rfl, rfl, out, hL, hG⟩
  refine ⟨_, _, _, _, rfl, ?_⟩
  refine setTwo (hB5.ext hG.below) fun w23 hB23 k23 => ?_
  obtain ⟨f0, f1, _⟩ := blkAt2 hB23
  exact ⟨_, f0, _, _, _, f1, .inl ⟨ok, k23.below (y10.trans hG.below) hbw, rfl, .inl ⟨_, rfl, rfl, out, hL, hG.but k23 hB5.lt y10 hbw⟩⟩⟩
end Go.Proofs.YtnmldggopnbclaaGreatDoor

namespace Go.Proofs.YtnmldggopnbclaaGreatDoor
open Go Go.V Go.Proofs
open Go.RowKit (Below)
/-! manystrand/manystrandref05.List -/
def N7 (a1 : Option Addr) (l1 : Nat) (_c1 : Nat) (K : Int → Option Addr → Nat → Nat → Int → World → Prop) (w : World) : Prop :=
 AllocK w (#[.int .i64 0, .slice none 0 0]) 25 fun b2 w3 =>
 AllocK w3 (#[(.string (⟨#[114, 101, 99]⟩ : ByteArray)), (.int .i64 0), (.string (⟨#[110, 105, 108]⟩ : ByteArray)), (.slice none 0 0), (.slice none 0 0)]) 39 fun b4 w5 =>
 AllocK w5 (#[.int .i64 0, .slice none 0 0]) 25 fun b6 w7 =>
 SetK w7 (b6.add 0) (.int .i64 0) fun w8 =>
 SetK w8 (b6.add 1) (.slice (some b4) 1 1) fun w9 =>
 ∃ (I10 : Int → World → Prop) (μ11 : Int → World → Nat),
 (I10 (IntKind.wrap .i64 (l1 - 1)) w9 ∧ True) ∧
 ∀ w12 x13, I10 x13 w12 →
 BoolK (decide (x13 ≥ 0))
 ((0 ≤ x13 ∧ x13 < l1) ∧
 AddrK a1 fun b14 =>
 ∃ x15, w12.cell? ((b14.add (x13.toNat * 2)).add 0) = some (.int .i64 x15) ∧
 (∃ a16 l16 c16, w12.cell? ((b14.add (x13.toNat * 2)).add 1) = some (.slice a16 l16 c16) ∧
 (Calls Tryz.prog 19 #[(.agg #[(.int .i64 x15), (.slice a16 l16 c16)])] w12 fun e19 w18 =>
 ∃ p17, e19 = .returned (.bool p17) ∧
 (BoolK (!p17)
 (SetK w18 (b2.add 0) (.int .i64 0) fun w20 =>
 SetK w20 (b2.add 1) (.slice none 0 0) fun w21 =>
 ∃ x22, w21.cell? (b2.add 0) = some (.int .i64 x22) ∧
 (∃ a23 l23 c23, w21.cell? (b2.add 1) = some (.slice a23 l23 c23) ∧
 (K x22 a23 l23 c23 50 w21)))
 ((0 ≤ x13 ∧ x13 < l1) ∧
 AddrK a1 fun b24 =>
 ∃ x25, w18.cell? ((b24.add (x13.toNat * 2)).add 0) = some (.int .i64 x25) ∧
 (∃ a26 l26 c26, w18.cell? ((b24.add (x13.toNat * 2)).add 1) = some (.slice a26 l26 c26) ∧
 (Calls Tryz.prog 10 #[(.agg #[(.int .i64 x25), (.slice a26 l26 c26)])] w18 fun e31 w30 =>
 ∃ x27, ∃ a28, ∃ l28, ∃ c28, ∃ x29, e31 = .returned (.tuple #[(.agg #[(.int .i64 x27), (.slice a28 l28 c28)]), (.int .i64 x29)]) ∧
 (AllocK w30 (#[.int .i64 0, .slice none 0 0]) 25 fun b32 w33 =>
 SetK w33 (b32.add 0) (.int .i64 x27) fun w34 =>
 SetK w34 (b32.add 1) (.slice a28 l28 c28) fun w35 =>
 ∃ x36, w35.cell? (b6.add 0) = some (.int .i64 x36) ∧
 (∃ a37 l37 c37, w35.cell? (b6.add 1) = some (.slice a37 l37 c37) ∧
 (∃ x38, w35.cell? (b32.add 0) = some (.int .i64 x38) ∧
 (∃ a39 l39 c39, w35.cell? (b32.add 1) = some (.slice a39 l39 c39) ∧
 (Calls Tryz.prog 20 #[(.agg #[(.int .i64 x36), (.slice a37 l37 c37)]), (.agg #[(.int .i64 x38), (.slice a39 l39 c39)])] w35 fun e44 w43 =>
 ∃ a40, ∃ l40, ∃ c40, ∃ x41, ∃ x42, e44 = .returned (.tuple #[(.slice a40 l40 c40), (.int .i64 x41), (.int .i64 x42)]) ∧
 (Calls Tryz.prog 21 #[] w43 fun e47 w46 =>
 ∃ a45, ∃ l45, ∃ c45, e47 = .returned (.slice a45 l45 c45) ∧
 (AllocK w46 (#[(.int .i64 x42), (.int .i64 x41)]) 3 fun b48 w49 =>
 AllocK w49 (#[(.string (⟨#[114, 101, 99]⟩ : ByteArray)), (.int .i64 0), (.string (⟨#[124]⟩ : ByteArray)), (.slice a45 l45 c45), (.slice (some b48) 2 2)]) 39 fun b50 w51 =>
 ∃ a52, ∃ l52, ∃ c52, ∃ w53, Sem.run Tryz.prog (Builtin.append_ #[23, 23] 23 #[(.slice a40 l40 c40), (.slice (some b50) 1 1)]) w51 = .ok (.slice a52 l52 c52) w53 ∧
 (SetK w53 (b6.add 0) (.int .i64 l40) fun w54 =>
 SetK w54 (b6.add 1) (.slice a52 l52 c52) fun w55 =>
 I10 (IntKind.wrap .i64 (x13 - 1)) w55 ∧ μ11 (IntKind.wrap .i64 (x13 - 1)) w55 < μ11 x13 w12)))))))))))))))
 (∃ x56, w12.cell? (b6.add 0) = some (.int .i64 x56) ∧
 (∃ a57 l57 c57, w12.cell? (b6.add 1) = some (.slice a57 l57 c57) ∧
 (Calls Tryz.prog 22 #[(.agg #[(.int .i64 x56), (.slice a57 l57 c57)])] w12 fun e61 w60 =>
 ∃ x58, ∃ a59, ∃ l59, ∃ c59, e61 = .returned (.agg #[(.int .i64 x58), (.slice a59 l59 c59)]) ∧
 (AllocK w60 (#[.int .i64 0, .slice none 0 0]) 25 fun b62 w63 =>
 SetK w63 (b62.add 0) (.int .i64 x58) fun w64 =>
 SetK w64 (b62.add 1) (.slice a59 l59 c59) fun w65 =>
 ∃ a66 l66 c66, w65.cell? (b62.add 1) = some (.slice a66 l66 c66) ∧
 (BoolK (decide ((l66 : Int) > 1000))
 (SetK w65 (b2.add 0) (.int .i64 0) fun w67 =>
 SetK w67 (b2.add 1) (.slice none 0 0) fun w68 =>
 ∃ x69, w68.cell? (b2.add 0) = some (.int .i64 x69) ∧
 (∃ a70 l70 c70, w68.cell? (b2.add 1) = some (.slice a70 l70 c70) ∧
 (K x69 a70 l70 c70 4 w68)))
 (∃ x71, w65.cell? (b62.add 0) = some (.int .i64 x71) ∧
 (∃ a72 l72 c72, w65.cell? (b62.add 1) = some (.slice a72 l72 c72) ∧
 (SetK w65 (b2.add 0) (.int .i64 x71) fun w73 =>
 SetK w73 (b2.add 1) (.slice a72 l72 c72) fun w74 =>
 ∃ x75, w74.cell? (b2.add 0) = some (.int .i64 x75) ∧
 (∃ a76 l76 c76, w74.cell? (b2.add 1) = some (.slice a76 l76 c76) ∧
 (K x75 a76 l76 c76 0 w74))))))))))
def ann7 : Ann := (.two .nil (.two .nil (.two (.two .nil (.one (.loop [(5, (.one (.int .i64)))] [0, 2, 4] (.two (.two .nil (.two .nil .nil)) (.two (.one (.two (.two .nil (.two (.two .nil .nil) .nil)) (.two .nil (.two .nil .nil)))) .nil))))) (.two .nil (.two (.two .nil (.two (.two .nil .nil) .nil)) (.two .nil .nil))))))
noncomputable def code7 : Code := match Tryz.f7.body with | some c => c | none => .skip
theorem calls7 (a1 : Option Addr) (l1 : Nat) (c1 : Nat) (K : Int → Option Addr → Nat → Nat → Int → World → Prop) (w : World) (h : N7 a1 l1 c1 K w) : Calls Tryz.prog 7 #[(.slice a1 l1 c1)] w fun en w' => ∃ (x77 : Int), ∃ (a78 : Option Addr), ∃ (l78 : Nat), ∃ (c78 : Nat), ∃ (x79 : Int), en = .returned (.tuple #[(.agg #[(.int .i64 x77), (.slice a78 l78 c78)]), (.int .i64 x79)]) ∧ K x77 a78 l78 c78 x79 w' :=
 fn_calls tabOk mixed Tryz.func7 (by kernel_rfl : Tryz.f7.body = some code7) ann7 [(.slice a1 l1 c1)] [(.agg [(.int .i64), .slice]), (.one (.int .i64))] K w (by kernel_rfl) (by kernel_rfl) (by kernel_rfl) h
end Go.Proofs.YtnmldggopnbclaaGreatDoor

namespace Go.Proofs.YtnmldggopnbclaaGreatDoor
open Go Go.V Go.Proofs Go.V.Gr
open Go.RowKit (Below)
theorem pairRowC {w : World} {b : Nat} {keep : Nat → Bool} (hB : Blk w b #[.int .i64 1, .string ⟨#[]⟩, .int .i64 2, .string ⟨#[]⟩] 41) (hf : keep b = true) : RL 2 RFt (cutW w keep) (some ⟨b, 0, none⟩) 2 pairL := by
 have hc : ∀ i, (cutW w keep).cell? ⟨b, i, none⟩ = w.cell? ⟨b, i, none⟩ := fun i => cutW_cell hf
 refine ⟨⟨rfl, .inr ⟨b, 0, rfl, fun i x hi => ?_⟩⟩, by simp [maxLen]⟩
 match i, hi with
 | 0, hi => cases hi; exact ⟨(hc _).trans ((hB.cell _).trans rfl), (hc _).trans ((hB.cell _).trans rfl), by decide⟩
 | 1, hi => cases hi; exact ⟨(hc _).trans ((hB.cell _).trans rfl), (hc _).trans ((hB.cell _).trans rfl), by decide⟩
 | i + 2, hi => simp [pairL] at hi
theorem nilRow {w : World} {b : Nat} {own : OwnM Nat} (hB : Blk w b #[.string kRec, .int .i64 0, .string kNil, .slice none 0 0, .slice none 0 0] 39) (hf : own b = none) (c : Nat) : NU own w (some ⟨b, 0, none⟩, 1, c) [nilN] := by
 have hc : ∀ i, (UF own w).cell? ⟨b, i, none⟩ = w.cell? ⟨b, i, none⟩ := fun i => cutW_cell (by simp [hf])
 refine ⟨⟨rfl, .inr ⟨b, 0, rfl, fun i x hi => ?_⟩⟩, by simp [maxLen]⟩
 match i, hi with
 | 0, hi =>
  cases hi
  exact ⟨(hc _).trans ((hB.cell _).trans rfl), (hc _).trans ((hB.cell _).trans rfl), (hc _).trans ((hB.cell _).trans rfl), by simp only [nilN, maxLen]; decide, by simp only [nilN, maxLen]; decide,
   ⟨none, 0, 0, (hc _).trans ((hB.cell _).trans rfl), ⟨Go.V.Rows.nil _ _ _ _, by simp [maxLen]⟩⟩, ⟨none, 0, 0, (hc _).trans ((hB.cell _).trans rfl), ⟨Go.V.Rows.nil _ _ _ _, by simp [maxLen]⟩⟩, wf0⟩
 | i + 1, hi => simp at hi
theorem JM.mono {v v' w0 w : World} {own : OwnM Nat} {xs : List Nd} {RW : List Rw} {s : SL} (h : JM v w0 w own xs RW s) (k : Cel v v') : JM v' w0 w own xs RW s :=
 ⟨h.loc, h.out, h.len, fun q r y e1 e2 => by
  obtain ⟨f1, f2, f3, f4, f5, f6, f7, f8⟩ := h.nds q r y e1 e2
  exact ⟨f1, f2, f3, f4, f5, f6, RL.cel RFt.celM f7 k, f8.imp (fun g => RL.cel RInt.celM g k) id⟩⟩
set_option maxRecDepth 100000 in
theorem ctr7 (w : World) (gs : List (Int × List Nd)) {a : Option Addr} {l : Nat} (c : Nat) (h : RL 2 RGr w a l gs) (hk : ∀ g ∈ gs, LightOk g.2) (hn : gs.length ≤ 20) :
  Calls Tryz.prog 7 #[.slice a l c] w fun en w' => ∃ x a l c e, en = .returned (.tuple #[.agg #[.int .i64 x, .slice a l c], .int .i64 e]) ∧
   ((x = 0 ∧ ∃ out, LsP gs e out ∧ RNds w' a l out) ∧ Ext w w') := by
 refine calls7 _ _ _ _ w ?_
 have hl := h.len
 subst hl
 refine Bx.new (fun _ => (none : Option Nat)) 2 fun b2 w3 bx2 u3 x3 hb2 => ?_
 have L3 := (Mine.refl (ρ := Nat) w).upd u3
 generalize setOwn (fun _ => (none : Option Nat)) (some b2) 2 = own3 at bx2 u3 L3
 refine AllocK.mk fun b4 w5 hb4 hB4 x5 => ?_
 have fb4 : own3 b4 = none := L3.top b4 (by omega)
 have L5 := L3.ext x5
 have bx2 := bx2.ext x5
 refine Bx.new own3 3 fun b6 w7 bx6 u7 x7 hb6 => ?_
 have L7 := L5.upd u7
 have bx2 := bx2.upd u7 (by decide)
 have hlt4 := hB4.lt
 have hB4 := hB4.ext x7
 have fb4 : setOwn own3 (some b6) 3 b4 = none := by
  unfold setOwn; rw [if_neg (by intro e; cases e; omega)]; exact fb4
 generalize setOwn own3 (some b6) 3 = own at bx2 bx6 u7 L7 fb4
 refine Bx.setA bx6 (by simp) fun w8 bx6 u8 => Bx.setA bx6 (by simp) fun w9 bx6 u9 => ?_
 have bx6 : Bx own 3 w9 b6 #[.int .i64 ((0 : Nat) : Int), .slice (some ⟨b4, 0, none⟩) 1 1] 25 := by simpa using bx6
 have bx2 := (bx2.upd u8 (by decide)).upd u9 (by decide)
 have L9 := (L7.upd u8).upd u9
 have hB9 := Fr.blk (Fr.blk hB4 u8.fr fb4) u9.fr fb4
 have N9 : NU own w9 (some ⟨b4, 0, none⟩, 1, 1) [nilN] := nilRow hB9 fb4 1
 clear u3 u7 u8 u9 L3 L5 L7 hB4 hB9 x5 x7
 have put : ∀ {w' : World} {x' : Int} {a' : Option Addr} {l' c' : Nat} {F : World → Prop}, Mine own w w' → Bx own 2 w' b2 #[.int .i64 0, .slice none 0 0] 25 →
   (∀ w'', Ext w w'' → Fr own own w' w'' → w''.cell? ((⟨b2, 0, none⟩ : Addr).add 0) = some (.int .i64 x') → w''.cell? ((⟨b2, 0, none⟩ : Addr).add 1) = some (.slice a' l' c') → F w'') →
   SetK w' ((⟨b2, 0, none⟩ : Addr).add 0) (.int .i64 x') fun w'' => SetK w'' ((⟨b2, 0, none⟩ : Addr).add 1) (.slice a' l' c') F := fun {w' x' a' l' c' F} L bx k => by
  refine Bx.setA bx (by simp) fun w1 bx u1 => Bx.setA bx (by simp) fun w2 bx u2 => ?_
  have bx : Bx own 2 w2 b2 #[.int .i64 x', .slice a' l' c'] 25 := by simpa using bx
  exact k w2 ((L.upd u1).upd u2).below (u1.fr.trans u2.fr) (blkAt2 bx.blk).1 (blkAt2 bx.blk).2.1
 refine ⟨fun x w' => ∃ (m i : Nat) (ys : List Nd) (s : SL), x = (m : Int) - 1 ∧ m ≤ gs.length ∧ Mine own w w' ∧ Bx own 2 w' b2 #[.int .i64 0, .slice none 0 0] 25 ∧ Bx own 3 w' b6 #[.int .i64 (i : Int), .slice s.1 s.2.1 s.2.2] 25 ∧ NU own w' s ys ∧ Big ys ∧
   ys.length ≤ (gs.length - m) * 1001 + 1 ∧ ListAt ys i ((grL gs).drop m) ∧ ∀ (j : Nat) (g : Int × List Nd), m ≤ j → gs[j]? = some g → GrOk g.1 g.2 1000, fun x _ => (x + 1).toNat,
  ⟨⟨gs.length, 0, [nilN], (some ⟨b4, 0, none⟩, 1, 1), wrap_id (by omega) (by omega), by omega, L9, bx2, bx6, N9, by simpa using Big.nil.snoc (nilN_ok _) (by simp [nilN]), by simp, ?_, fun j g hj e => ?_⟩, trivial⟩, ?_⟩
 ·rw [List.drop_of_length_le (by rw [grL_len]; omega)]; exact ListAt.nilS []
 ·have := (List.getElem?_eq_some_iff.1 e).1; omega
 clear L9 bx2 bx6 N9 fb4 hb4 hb6
 rintro w12 _ ⟨m, i, ys, s, rfl, hm, L, bx2, bx6, N, big, hyl, hL, hall⟩
 have hil := hL.lt
 have hcap : ys.length ≤ 20 * 1001 + 1 := Nat.le_trans hyl (Nat.add_le_add_right (Nat.mul_le_mul_right _ (by omega)) 1)
 refine BoolK.mk (fun t => ?_) (fun t => ?_)
 ·have hm1 : 0 < m := by have := of_decide_eq_true t; omega
  obtain ⟨j, rfl⟩ : ∃ j, m = j + 1 := ⟨m - 1, by omega⟩
  have hlt : j < gs.length := by omega
  have ej : (((j + 1 : Nat) : Int) - 1) = ((j : Nat) : Int) := by omega
  rw [ej]
  have hlight := hk _ (List.getElem_mem hlt)
  obtain ⟨b14, ha, q0, a16, l16, c16, q1, q2⟩ := grAt h L.below hlt
  refine ⟨⟨by omega, by omega⟩, adK ha ⟨_, q0, _, _, _, q1, (ctr19 w12 gs[j].1 gs[j].2 c16 q2 hlight.lim.2).mono ?_⟩⟩
  rintro en w18 ⟨p, rfl, hp, x18⟩
  have L18 := L.ext x18
  refine ⟨_, rfl, BoolK.mk (fun t2 => ?_) (fun t2 => ?_)⟩
  ·refine put L18 (bx2.ext x18) fun w21 X _ c0 c1 => ⟨_, c0, _, _, _, c1, ⟨rfl, [], .inl ⟨fun all => ?_, rfl, rfl⟩, nds_none w21⟩, X⟩
   rw [hp.2 (all _ (List.getElem_mem hlt))] at t2; cases t2
  have ok := hp.1 (by simpa using t2)
  have hk5 := bigW hlight
  obtain ⟨b24, ha', r0, a26, l26, c26, r1, r2⟩ := grAt h L18.below hlt
  refine ⟨⟨by omega, by omega⟩, adK ha' ⟨_, r0, _, _, _, r1, (ctr10 w18 gs[j].1 gs[j].2 c26 r2 hlight.lim.1 hlight.lim.2).mono ?_⟩⟩
  rintro en w30 ⟨x27, a28, l28, c28, x29, rfl, hans⟩
  rcases hans with ⟨_, x30, rfl, ⟨i0, e1, rfl, out, hLo, hG⟩ | ⟨e, _⟩⟩ | ⟨nok, _⟩
  rotate_left
  ·cases e
  ·exact absurd ok nok
  cases e1
  have oko := Least.ok hLo ok ok.lt
  have hmoo := oko.most
  have bigo := Big.of oko (least_ks hLo ok ok.lt hk5)
  have N30 : NU own w30 (a28, l28, c28) out := NU.of_GD hG L18.top
  refine ⟨_, _, _, _, _, rfl, local2 fun b32 w35 hb32 hB32 x35 => ?_⟩
  have x35' := (x18.trans x30).trans x35
  have L35 := L.ext x35'
  have bx2 := bx2.ext x35'
  have bx6 := bx6.ext x35'
  have N35 := N.fr (Fr.of_ext own x35')
  have O35 := N30.fr (Fr.of_ext own x35)
  obtain ⟨d0, d1, _⟩ := blkAt2 hB32
  obtain ⟨e0, e1, _⟩ := blkAt2 bx6.blk
  refine ⟨_, e0, _, _, _, e1, _, d0, _, _, _, d1, (j20 (UF own w35) w35 (i : Int) 0 s.2.2 c28 N35 O35 (UF.now own w35) (big.sz (by omega)) (bigo.sz (by omega)) oko.closed ⟨by omega, by omega⟩).mono ?_⟩
  rintro en w43 ⟨a40, l40, c40, x41, x42, rfl, ⟨e41, e42, w0, ownJ, RW, xw0, J⟩, x43⟩
  subst e41; subst e42
  refine ⟨_, _, _, _, _, rfl, (p21 w43).mono ?_⟩
  rintro en w46 ⟨_, _, c45, rfl, bp, rfl, rfl, hbp, hBp, x46⟩
  refine ⟨_, _, _, rfl, AllocK.mk fun b48 w49 hb48 hB48 x49 => ?_⟩
  have J46 := J.ext x46
  have u48 : Upd ownJ (setOwn ownJ (some b48) (10 + (app ys out).length)) (10 + (app ys out).length) w46 w49 := Upd.fresh x49 (by omega) hB48.lt _
  have hz0 : (0 : Int) + (ys.length : Int) = ((ys.length : Nat) : Int) := by omega
  rw [hz0] at hB48
  have rk : RowR (setOwn ownJ (some b48) (10 + (app ys out).length)) (10 + (app ys out).length) 3 1 eI w49 (some ⟨b48, 0, none⟩, 2, 2) [((ys.length : Nat) : Int), (i : Int)] := ⟨litRow hB48, fun k hk => by cases hk; unfold setOwn; rw [if_pos rfl]⟩
  have J49 := J46.upd u48 (by omega) (fun q hq => by omega)
  have fpJ : setOwn ownJ (some b48) (10 + (app ys out).length) bp = none := by
   have := hBp.lt
   unfold setOwn; rw [if_neg (by intro e; cases e; omega)]; exact J.loc.top bp (by omega)
  have fpO : own bp = none := L35.top bp (by have := x43.size; omega)
  have X49 : Ext w35 w49 := (x43.trans x46).trans x49
  have freeJ : ∀ k, k < w35.heap.size → setOwn ownJ (some b48) (10 + (app ys out).length) k = none := fun k hk => J49.loc.fr.free k (Nat.lt_of_lt_of_le hk xw0.size) rfl
  generalize setOwn ownJ (some b48) (10 + (app ys out).length) = own2 at u48 rk J49 fpJ freeJ
  have hv : Cel (UF own w35) (cutW w49 fun k => (own k).isNone && (own2 k).isNone) := by
   refine cutW_cel fun k hk hlt => ?_
   have hk : own k = none := by simpa using hk
   rw [cutW_block, X49.block k hlt, hk, freeJ k hlt]
   simp
  have J49 := JM.mono J49 hv
  have hal : (app ys out).length = ys.length + out.length := app_len ys out
  refine RowR.push (⟨kRec, 0, kBar, (some ⟨bp, 0, none⟩, 2, c45), (some ⟨b48, 0, none⟩, 2, 2)⟩ : Rw) sltN J49.out eN_len eN_one (by rw [J49.len]; omega) rfl fun s' w53 ro uo => ?_
  have J53 := J49.more (x := consN ((ys.length : Nat) : Int) (i : Int)) rfl rfl rfl (by simp only [consN, maxLen]; decide) (by simp only [consN, maxLen]; decide) wf0 (pairRowC (hBp.ext x49) (by simp [fpO, fpJ])) rk (by simp [consN, maxLen]) uo ro
  have X53 : Ext w35 w53 := xw0.trans J53.loc.below
  have hv3 : Cel (cutW w49 fun k => (own k).isNone && (own2 k).isNone) (UF own w53) := by
   refine cutW_cel fun k hk hlt => ?_
   simp only [Bool.and_eq_true, Option.isNone_iff_eq_none] at hk
   unfold UF
   rw [cutW_block, uo.fr.block k hlt hk.2, hk.1]
   simp
  have N53 : NU own w53 s' (app ys out ++ [consN ((ys.length : Nat) : Int) (i : Int)]) := by
   refine J53.rowsAt (by simp only [List.length_append, List.length_cons, List.length_nil, maxLen]; omega) (fun b hb hne => ?_) hv3
   have hge : w35.heap.size ≤ b := Classical.byContradiction fun hn => hne (J53.loc.fr.free b (Nat.lt_of_lt_of_le (by omega) xw0.size) rfl)
   unfold UF
   rw [cutW_block, L35.top b hge]
   simp
  have L53 := L35.ext X53
  have bx2 := bx2.ext X53
  have bx6 := bx6.ext X53
  have e40 : l40 = (app ys out).length := by have := J.out.len; rw [J.len] at this; exact this
  refine Bx.setA bx6 (by simp) fun w54 bx6 u54 => Bx.setA bx6 (by simp) fun w55 bx6 u55 => ?_
  rw [e40] at bx6
  have bx6 : Bx own 3 w55 b6 #[.int .i64 (((app ys out).length : Nat) : Int), .slice s'.1 s'.2.1 s'.2.2] 25 := by simpa using bx6
  have e2 : IntKind.wrap .i64 (((j : Nat) : Int) - 1) = (j : Int) - 1 := wrap_id (by omega) (by omega)
  have hdrop : (grL gs).drop j = (gs[j].2, gs[j].1.toNat) :: (grL gs).drop (j + 1) := by
   rw [List.drop_eq_getElem_cons (by rw [grL_len]; omega)]
   congr 1
   have := grL_get (gs := gs) (j := j) (by omega)
   rw [List.getElem?_eq_getElem (by rw [grL_len]; omega)] at this
   exact Option.some.inj this
  have bigA := big.app bigo
  have hp0 := Least.pos hLo
  refine ⟨⟨j, (app ys out).length, _, s', e2, by omega, (L53.upd u54).upd u55, (bx2.upd u54 (by decide)).upd u55 (by decide), bx6, (N53.fr u54.fr).fr u55.fr, bigA.snoc (consN_ok ⟨by omega, by omega⟩ ⟨by omega, by omega⟩) (by simp [consN]), ?_, ?_, fun k g hk e => ?_⟩, by rw [e2]; show ((j : Int) - 1 + 1).toNat < ((j : Int) + 1).toNat; omega⟩
  ·have : (gs.length - j) * 1001 = (gs.length - (j + 1)) * 1001 + 1001 := by rw [show gs.length - j = (gs.length - (j + 1)) + 1 by omega, Nat.succ_mul]
   simp only [List.length_append, List.length_cons, List.length_nil]; omega
  ·rw [hdrop]
   exact ListAt.consS bigA.closed (hL.behind big.closed _) (by omega) ((app_right (xs := ys) oko.closed hp0).symm.trans (Least.eqv hLo))
  ·rcases Nat.lt_or_ge j k with hjk | hjk
   ·exact hall k g (by omega) e
   ·have : k = j := by omega
    subst this
    rw [List.getElem?_eq_getElem hlt] at e
    cases e; exact ok
 ·have hm0 : m = 0 := by have := of_decide_eq_false t; omega
  subst hm0
  rw [List.drop_zero] at hL
  have okA : ∀ g ∈ gs, GrOk g.1 g.2 1000 := fun g hg => by
   obtain ⟨j, hj⟩ := List.getElem?_of_mem hg
   exact hall j g (by omega) hj
  obtain ⟨e0, e1, _⟩ := blkAt2 bx6.blk
  refine ⟨_, e0, _, _, _, e1, (ctr22 w12 s.2.2 N.now big.closed (big.sz (by omega)) big.w big.d hil).mono ?_⟩
  rintro en w60 ⟨x58, a59, l59, c59, rfl, rfl, out, hLo, hG⟩
  have L60 := L.ext hG.below
  have N60 : NU own w60 (a59, l59, c59) out := NU.of_GD hG L.top
  have e59 : l59 = out.length := N60.now.len
  subst e59
  refine ⟨_, _, _, _, rfl, local2 fun b62 w65 hb62 hB62 x65 => ?_⟩
  have L65 := L60.ext x65
  have N65 := N60.fr (Fr.of_ext own x65)
  have bx65 := (bx2.ext hG.below).ext x65
  obtain ⟨d0, d1, _⟩ := blkAt2 hB62
  refine ⟨_, _, _, d1, BoolK.mk (fun t2 => ?_) (fun t2 => ⟨_, d0, _, _, _, d1, ?_⟩)⟩
  ·have t2 : 1000 < out.length := by have := of_decide_eq_true t2; omega
   exact put L65 bx65 fun w98 X _ c0 c1 => ⟨_, c0, _, _, _, c1, ⟨rfl, [], .inr ⟨okA, ys, i, out, big, by omega, hL, hLo, .inl ⟨t2, rfl, rfl⟩⟩, nds_none w98⟩, X⟩
  ·have t2 : out.length ≤ 1000 := by have := of_decide_eq_false t2; omega
   exact put L65 bx65 fun w98 X F98 c0 c1 => ⟨_, c0, _, _, _, c1, ⟨rfl, out, .inr ⟨okA, ys, i, out, big, by omega, hL, hLo, .inr ⟨t2, rfl, rfl⟩⟩, (N65.fr F98).now⟩, X⟩
end Go.Proofs.YtnmldggopnbclaaGreatDoor
