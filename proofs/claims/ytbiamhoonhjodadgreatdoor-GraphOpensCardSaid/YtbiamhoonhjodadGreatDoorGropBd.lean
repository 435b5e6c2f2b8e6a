/- A part of the proof: plain forms of functions and laws about them. -/
import Derived.Test.YtbiamhoonhjodadGreatDoorGropBc
import Derived.Test.YtbiamhoonhjodadGreatDoorProg
import Derived.Shelf.Strings.OnBuilder
import Derived.Shelf.Strings.Replace
import Derived.KernelRfl
namespace Go.Proofs.YtbiamhoonhjodadGreatDoor
open Go Go.V Go.Proofs
open Go.RowKit (Below)
/-! manystrand/graph.isTuple -/
def N65 (s1 : ByteArray) (x2 : Int) (s3 : ByteArray) (a4 : Option Addr) (l4 : Nat) (c4 : Nat) (a5 : Option Addr) (l5 : Nat) (c5 : Nat) (K : Bool → World → Prop) (w : World) : Prop :=
 AllocK w (#[(.string s1), (.int .i64 x2), (.string s3), (.slice a4 l4 c4), (.slice a5 l5 c5)]) 30 fun b6 w7 =>
 ∃ s8, w7.cell? b6 = some (.string s8) ∧
 (BoolK (!(s8.toList == (⟨#[114, 101, 99]⟩ : ByteArray).toList))
 (K false w7)
 (∃ s9, w7.cell? (b6.add 2) = some (.string s9) ∧
 (BoolK (!(s9.toList == (⟨#[35]⟩ : ByteArray).toList))
 (K false w7)
 (∃ a10 l10 c10, w7.cell? (b6.add 3) = some (.slice a10 l10 c10) ∧
 (BoolK (decide ((l10 : Int) < 2))
 (K false w7)
 (∃ a11 l11 c11, w7.cell? (b6.add 3) = some (.slice a11 l11 c11) ∧
 (∃ (I12 : Int → World → Prop) (μ13 : Int → World → Nat),
 (I12 0 w7 ∧ True) ∧
 ∀ w14 x15, I12 x15 w14 →
 BoolK (decide (x15 < l11))
 ((0 ≤ x15 ∧ x15 < l11) ∧
 AddrK a11 fun b16 =>
 ∃ x17, w14.cell? ((b16.add (x15.toNat * 2)).add 0) = some (.int .i64 x17) ∧
 (∃ s18, w14.cell? ((b16.add (x15.toNat * 2)).add 1) = some (.string s18) ∧
 (AllocK w14 (#[.int .i64 0, .string ⟨#[]⟩]) 37 fun b19 w20 =>
 SetK w20 (b19.add 0) (.int .i64 x17) fun w21 =>
 SetK w21 (b19.add 1) (.string s18) fun w22 =>
 ∃ x23, w22.cell? b19 = some (.int .i64 x23) ∧
 (BoolK (x23 != IntKind.wrap .i64 (x15 + 1))
 (K false w22)
 (I12 (IntKind.wrap .i64 (x15 + 1)) w22 ∧ μ13 (IntKind.wrap .i64 (x15 + 1)) w22 < μ13 x15 w14)))))
 (K true w14))))))))
def ann65 : Ann := (.two .nil (.two (.two .nil (.two (.two .nil .nil) .nil)) (.two (.two .nil (.one (.loop [(22, (.one (.int .i64)))] [20, 21] (.two .nil (.two (.two .nil .nil) (.two (.one (.two .nil (.two .nil (.two (.two .nil .nil) .nil)))) .nil)))))) (.two .nil .nil))))
noncomputable def code65 : Code := match Tryz.f65.body with | some c => c | none => .skip
theorem calls65 (s1 : ByteArray) (x2 : Int) (s3 : ByteArray) (a4 : Option Addr) (l4 : Nat) (c4 : Nat) (a5 : Option Addr) (l5 : Nat) (c5 : Nat) (K : Bool → World → Prop) (w : World) (h : N65 s1 x2 s3 a4 l4 c4 a5 l5 c5 K w) : Calls Tryz.prog 65 #[(.agg #[(.string s1), (.int .i64 x2), (.string s3), (.slice a4 l4 c4), (.slice a5 l5 c5)])] w fun en w' => ∃ (p24 : Bool), en = .returned (.bool p24) ∧ K p24 w' :=
 fn_calls tabOk mixed Tryz.func65 (by kernel_rfl : Tryz.f65.body = some code65) ann65 [(.agg #[(.string s1), (.int .i64 x2), (.string s3), (.slice a4 l4 c4), (.slice a5 l5 c5)])] [(.one .bool)] K w (by kernel_rfl) (by kernel_rfl) (by kernel_rfl) h
end Go.Proofs.YtbiamhoonhjodadGreatDoor

namespace Go.Proofs.YtbiamhoonhjodadGreatDoor
open Go Go.V Go.Proofs
open Go.RowKit (Below)
/-! manystrand/graph.isCons -/
def N62 (s1 : ByteArray) (x2 : Int) (s3 : ByteArray) (a4 : Option Addr) (l4 : Nat) (c4 : Nat) (a5 : Option Addr) (l5 : Nat) (c5 : Nat) (K : Bool → World → Prop) (w : World) : Prop :=
 AllocK w (#[(.string s1), (.int .i64 x2), (.string s3), (.slice a4 l4 c4), (.slice a5 l5 c5)]) 30 fun b6 w7 =>
 DrewK w7 fun w8 =>
 ∃ s9, w8.cell? b6 = some (.string s9) ∧
 (BoolK (s9.toList == (⟨#[114, 101, 99]⟩ : ByteArray).toList)
 (∃ s10, w8.cell? (b6.add 2) = some (.string s10) ∧
 (BoolK (s10.toList == (⟨#[124]⟩ : ByteArray).toList)
 (∃ a11 l11 c11, w8.cell? (b6.add 3) = some (.slice a11 l11 c11) ∧
 (Calls Tryz.prog 75 #[] w8 fun e14 w13 =>
 ∃ a12, ∃ l12, ∃ c12, e14 = .returned (.slice a12 l12 c12) ∧
 (Cel w8 w13 ∧
 (Calls Tryz.prog 85 #[(.slice a11 l11 c11), (.slice a12 l12 c12)] w13 fun e17 w16 =>
 ∃ p15, e17 = .returned (.bool p15) ∧
 (K p15 w16)))))
 (K false w8)))
 (K false w8))
def ann62 : Ann := (.two .nil (.two (.anyC 12 (.take 0 (.take 1 (.take 2 (.take 3 (.take 4 (.take 5 (.take 6 (.take 7 (.take 8 (.take 9 (.take 10 (.one 11 .done))))))))))))) .nil))
noncomputable def code62 : Code := match Tryz.f62.body with | some c => c | none => .skip
theorem calls62 (s1 : ByteArray) (x2 : Int) (s3 : ByteArray) (a4 : Option Addr) (l4 : Nat) (c4 : Nat) (a5 : Option Addr) (l5 : Nat) (c5 : Nat) (K : Bool → World → Prop) (w : World) (h : N62 s1 x2 s3 a4 l4 c4 a5 l5 c5 K w) : Calls Tryz.prog 62 #[(.agg #[(.string s1), (.int .i64 x2), (.string s3), (.slice a4 l4 c4), (.slice a5 l5 c5)])] w fun en w' => ∃ (p18 : Bool), en = .returned (.bool p18) ∧ K p18 w' :=
 fn_calls tabOk mixed Tryz.func62 (by kernel_rfl : Tryz.f62.body = some code62) ann62 [(.agg #[(.string s1), (.int .i64 x2), (.string s3), (.slice a4 l4 c4), (.slice a5 l5 c5)])] [(.one .bool)] K w (by kernel_rfl) (by kernel_rfl) (by kernel_rfl) h
end Go.Proofs.YtbiamhoonhjodadGreatDoor

namespace Go.Proofs.YtbiamhoonhjodadGreatDoor
open Go Go.V Go.Proofs
open Go.RowKit (Below)
/-! manystrand/graph.isNil -/
def N86 (s1 : ByteArray) (x2 : Int) (s3 : ByteArray) (a4 : Option Addr) (l4 : Nat) (c4 : Nat) (a5 : Option Addr) (l5 : Nat) (c5 : Nat) (K : Bool → World → Prop) (w : World) : Prop :=
 AllocK w (#[(.string s1), (.int .i64 x2), (.string s3), (.slice a4 l4 c4), (.slice a5 l5 c5)]) 30 fun b6 w7 =>
 ∃ s8, w7.cell? b6 = some (.string s8) ∧
 (BoolK (s8.toList == (⟨#[114, 101, 99]⟩ : ByteArray).toList)
 (∃ s9, w7.cell? (b6.add 2) = some (.string s9) ∧
 (BoolK (s9.toList == (⟨#[110, 105, 108]⟩ : ByteArray).toList)
 (∃ a10 l10 c10, w7.cell? (b6.add 3) = some (.slice a10 l10 c10) ∧
 (K ((l10 : Int) == 0) w7))
 (K false w7)))
 (K false w7))
def ann86 : Ann := (.two .nil (.two .nil .nil))
noncomputable def code86 : Code := match Tryz.f86.body with | some c => c | none => .skip
theorem calls86 (s1 : ByteArray) (x2 : Int) (s3 : ByteArray) (a4 : Option Addr) (l4 : Nat) (c4 : Nat) (a5 : Option Addr) (l5 : Nat) (c5 : Nat) (K : Bool → World → Prop) (w : World) (h : N86 s1 x2 s3 a4 l4 c4 a5 l5 c5 K w) : Calls Tryz.prog 86 #[(.agg #[(.string s1), (.int .i64 x2), (.string s3), (.slice a4 l4 c4), (.slice a5 l5 c5)])] w fun en w' => ∃ (p11 : Bool), en = .returned (.bool p11) ∧ K p11 w' :=
 fn_calls tabOk mixed Tryz.func86 (by kernel_rfl : Tryz.f86.body = some code86) ann86 [(.agg #[(.string s1), (.int .i64 x2), (.string s3), (.slice a4 l4 c4), (.slice a5 l5 c5)])] [(.one .bool)] K w (by kernel_rfl) (by kernel_rfl) (by kernel_rfl) h
end Go.Proofs.YtbiamhoonhjodadGreatDoor

namespace Go.Proofs.YtbiamhoonhjodadGreatDoor
open Go Go.V Go.Proofs
open Go.RowKit (Below)
/-! manystrand/graph.pair -/
def N75 (K : Option Addr → Nat → Nat → World → Prop) (w : World) : Prop :=
 AllocK w (#[(.int .i64 1), (.string (⟨#[]⟩ : ByteArray)), (.int .i64 2), (.string (⟨#[]⟩ : ByteArray))]) 37 fun b1 w2 =>
 K (some b1) 2 2 w2
def ann75 : Ann := (.two .nil (.two .nil .nil))
noncomputable def code75 : Code := match Tryz.f75.body with | some c => c | none => .skip
theorem calls75 (K : Option Addr → Nat → Nat → World → Prop) (w : World) (h : N75 K w) : Calls Tryz.prog 75 #[] w fun en w' => ∃ (a3 : Option Addr), ∃ (l3 : Nat), ∃ (c3 : Nat), en = .returned (.slice a3 l3 c3) ∧ K a3 l3 c3 w' :=
 fn_calls tabOk mixed Tryz.func75 (by kernel_rfl : Tryz.f75.body = some code75) ann75 [] [(.one .slice)] K w (by kernel_rfl) (by kernel_rfl) (by kernel_rfl) h
end Go.Proofs.YtbiamhoonhjodadGreatDoor

namespace Go.Proofs.YtbiamhoonhjodadGreatDoor
open Go Go.V Go.Proofs
open Go.RowKit (Below)
/-! manystrand/graph.chain -/
def N63 (a1 : Option Addr) (l1 : Nat) (_c1 : Nat) (x2 : Int) (K : Option Addr → Nat → Nat → Bool → World → Prop) (w : World) : Prop :=
 ∃ m3, ∃ w4, Sem.run Tryz.prog (Instr.makeMap 123 none) w = .ok (.map m3) w4 ∧
 (∃ (J5 : Int → Option Addr → Nat → Nat → World → Prop),
 (∀ w6 x7 a8 l8 c8, J5 x7 a8 l8 c8 w6 →
 (0 ≤ x7 ∧ x7 < l1) ∧
 AddrK a1 fun b9 =>
 ∃ s10, w6.cell? ((b9.add (x7.toNat * 5)).add 0) = some (.string s10) ∧
 (∃ x11, w6.cell? ((b9.add (x7.toNat * 5)).add 1) = some (.int .i64 x11) ∧
 (∃ s12, w6.cell? ((b9.add (x7.toNat * 5)).add 2) = some (.string s12) ∧
 (∃ a13 l13 c13, w6.cell? ((b9.add (x7.toNat * 5)).add 3) = some (.slice a13 l13 c13) ∧
 (∃ a14 l14 c14, w6.cell? ((b9.add (x7.toNat * 5)).add 4) = some (.slice a14 l14 c14) ∧
 (Calls Tryz.prog 86 #[(.agg #[(.string s10), (.int .i64 x11), (.string s12), (.slice a13 l13 c13), (.slice a14 l14 c14)])] w6 fun e17 w16 =>
 ∃ p15, e17 = .returned (.bool p15) ∧
 (K a8 l8 c8 p15 w16))))))) ∧
 (∃ (I18 : Int → Option Addr → Nat → Nat → World → Prop) (μ19 : Int → Option Addr → Nat → Nat → World → Nat),
 (I18 x2 none 0 0 w4 ∧ True) ∧
 ∀ w20 x21 a22 l22 c22, I18 x21 a22 l22 c22 w20 →
 (0 ≤ x21 ∧ x21 < l1) ∧
 AddrK a1 fun b23 =>
 ∃ s24, w20.cell? ((b23.add (x21.toNat * 5)).add 0) = some (.string s24) ∧
 (∃ x25, w20.cell? ((b23.add (x21.toNat * 5)).add 1) = some (.int .i64 x25) ∧
 (∃ s26, w20.cell? ((b23.add (x21.toNat * 5)).add 2) = some (.string s26) ∧
 (∃ a27 l27 c27, w20.cell? ((b23.add (x21.toNat * 5)).add 3) = some (.slice a27 l27 c27) ∧
 (∃ a28 l28 c28, w20.cell? ((b23.add (x21.toNat * 5)).add 4) = some (.slice a28 l28 c28) ∧
 (Calls Tryz.prog 62 #[(.agg #[(.string s24), (.int .i64 x25), (.string s26), (.slice a27 l27 c27), (.slice a28 l28 c28)])] w20 fun e31 w30 =>
 ∃ p29, e31 = .returned (.bool p29) ∧
 (BoolK p29
 (∃ p32, ∃ w33, Sem.run Tryz.prog (Instr.lookup 123 (.map m3) (.int .i64 x21) false) w30 = .ok (.bool p32) w33 ∧
 (BoolK (!p32)
 (∃ w34, Sem.run Tryz.prog (Instr.mapUpdate 123 (.map m3) (.int .i64 x21) (.bool true)) w33 = .ok () w34 ∧
 (AllocK w34 (#[(.int .i64 x21)]) 3 fun b35 w36 =>
 ∃ a37, ∃ l37, ∃ c37, ∃ w38, Sem.run Tryz.prog (Builtin.append_ #[28, 28] 28 #[(.slice a22 l22 c22), (.slice (some b35) 1 1)]) w36 = .ok (.slice a37 l37 c37) w38 ∧
 ((0 ≤ x21 ∧ x21 < l1) ∧
 AddrK a1 fun b39 =>
 ∃ a40 l40 c40, w38.cell? ((b39.add (x21.toNat * 5)).add 4) = some (.slice a40 l40 c40) ∧
 ((0 ≤ (1 : Int) ∧ (1 : Int) < l40) ∧
 AddrK a40 fun b41 =>
 ∃ x42, w38.cell? (b41.add ((1 : Int).toNat * 1)) = some (.int .i64 x42) ∧
 (I18 x42 a37 l37 c37 w38 ∧ μ19 x42 a37 l37 c37 w38 < μ19 x21 a22 l22 c22 w20)))))
 (J5 x21 a22 l22 c22 w33)))
 (J5 x21 a22 l22 c22 w30)))))))))
def ann63 : Ann := (.two .nil (.two .nil (.two .nil (.cut [(1, (.one (.int .i64))), (6, (.one .slice))] [0] (.one (.loop [(1, (.one (.int .i64))), (6, (.one .slice))] [0, 7] (.two (.two .nil (.two .nil .nil)) (.one (.two .nil (.two .nil .nil)))))) (.two .nil .nil)))))
noncomputable def code63 : Code := match Tryz.f63.body with | some c => c | none => .skip
theorem calls63 (a1 : Option Addr) (l1 : Nat) (c1 : Nat) (x2 : Int) (K : Option Addr → Nat → Nat → Bool → World → Prop) (w : World) (h : N63 a1 l1 c1 x2 K w) : Calls Tryz.prog 63 #[(.slice a1 l1 c1), (.int .i64 x2)] w fun en w' => ∃ (a43 : Option Addr), ∃ (l43 : Nat), ∃ (c43 : Nat), ∃ (p44 : Bool), en = .returned (.tuple #[(.slice a43 l43 c43), (.bool p44)]) ∧ K a43 l43 c43 p44 w' :=
 fn_calls tabOk mixed Tryz.func63 (by kernel_rfl : Tryz.f63.body = some code63) ann63 [(.slice a1 l1 c1), (.int .i64 x2)] [(.one .slice), (.one .bool)] K w (by kernel_rfl) (by kernel_rfl) (by kernel_rfl) h
end Go.Proofs.YtbiamhoonhjodadGreatDoor

namespace Go.Proofs.YtbiamhoonhjodadGreatDoor
open Go Go.V Go.Proofs
open Go.RowKit (Below)
/-! slices.Equal[[]manystrand/api.Feat,manystrand/api.Feat] -/
def N85 (a1 : Option Addr) (l1 : Nat) (_c1 : Nat) (a2 : Option Addr) (l2 : Nat) (_c2 : Nat) (K : Bool → World → Prop) (w : World) : Prop :=
 BoolK ((l1 : Int) != l2)
 (K false w)
 (∃ (I3 : Int → World → Prop) (μ4 : Int → World → Nat),
 (I3 0 w ∧ True) ∧
 ∀ w5 x6, I3 x6 w5 →
 BoolK (decide (x6 < l1))
 (DrewK w5 fun w7 =>
 (0 ≤ x6 ∧ x6 < l1) ∧
 AddrK a1 fun b8 =>
 ∃ x9, w7.cell? ((b8.add (x6.toNat * 2)).add 0) = some (.int .i64 x9) ∧
 (∃ s10, w7.cell? ((b8.add (x6.toNat * 2)).add 1) = some (.string s10) ∧
 ((0 ≤ x6 ∧ x6 < l2) ∧
 AddrK a2 fun b11 =>
 ∃ x12, w7.cell? ((b11.add (x6.toNat * 2)).add 0) = some (.int .i64 x12) ∧
 (∃ s13, w7.cell? ((b11.add (x6.toNat * 2)).add 1) = some (.string s13) ∧
 (BoolK (!((x9 == x12) && ((s10 == s13) && (true))))
 (K false w7)
 (I3 (IntKind.wrap .i64 (x6 + 1)) w7 ∧ μ4 (IntKind.wrap .i64 (x6 + 1)) w7 < μ4 x6 w5))))))
 (K true w5))
def ann85 : Ann := (.two .nil (.two (.two .nil (.two (.two .nil .nil) .nil)) (.two (.two .nil (.one (.loop [(13, (.one (.int .i64)))] [0, 1, 12] (.two .nil (.two (.two .nil .nil) (.two (.one (.two .nil (.two (.anyC 9 (.take 0 (.take 1 (.take 2 (.take 3 (.take 4 (.take 5 (.take 6 (.take 7 (.take 8 .done)))))))))) (.two (.two .nil .nil) .nil)))) .nil)))))) (.two .nil .nil))))
noncomputable def code85 : Code := match Tryz.f85.body with | some c => c | none => .skip
theorem calls85 (a1 : Option Addr) (l1 : Nat) (c1 : Nat) (a2 : Option Addr) (l2 : Nat) (c2 : Nat) (K : Bool → World → Prop) (w : World) (h : N85 a1 l1 c1 a2 l2 c2 K w) : Calls Tryz.prog 85 #[(.slice a1 l1 c1), (.slice a2 l2 c2)] w fun en w' => ∃ (p14 : Bool), en = .returned (.bool p14) ∧ K p14 w' :=
 fn_calls tabOk mixed Tryz.func85 (by kernel_rfl : Tryz.f85.body = some code85) ann85 [(.slice a1 l1 c1), (.slice a2 l2 c2)] [(.one .bool)] K w (by kernel_rfl) (by kernel_rfl) (by kernel_rfl) h
end Go.Proofs.YtbiamhoonhjodadGreatDoor

namespace Go.Proofs.YtbiamhoonhjodadGreatDoor
open Go Go.V Go.Proofs Go.V.Gr
open Go.RowKit (Below)
def pairL : List Ft := [(1, ⟨#[]⟩), (2, ⟨#[]⟩)]
theorem ctr75 (w : World) : Calls Tryz.prog 75 #[] w fun en w' => ∃ a l c, en = .returned (.slice a l c) ∧ (RL 2 RFt w' a l pairL ∧ Ext w w') := by
 refine calls75 _ w ?_
 refine AllocK.mk fun b w2 hb hB hx => ⟨⟨⟨rfl, .inr ⟨b, 0, rfl, fun i x hi => ?_⟩⟩, by simp [maxLen]⟩, hx⟩
 match i, hi with
 | 0, hi => cases hi; exact ⟨(hB.cell _).trans rfl, (hB.cell _).trans rfl, by decide⟩
 | 1, hi => cases hi; exact ⟨(hB.cell _).trans rfl, (hB.cell _).trans rfl, by decide⟩
 | i + 2, hi => simp [pairL] at hi
theorem ctr85 (w : World) {a1 a2 : Option Addr} {l1 l2 : Nat} (c1 c2 : Nat) {fs gs : List Ft} (h1 : RL 2 RFt w a1 l1 fs) (h2 : RL 2 RFt w a2 l2 gs) :
  Calls Tryz.prog 85 #[.slice a1 l1 c1, .slice a2 l2 c2] w fun en w' => ∃ p, en = .returned (.bool p) ∧ (p = decide (fs = gs) ∧ Ext w w') := by
 refine calls85 _ _ _ _ _ _ _ w ?_
 have e1 := h1.len; have e2 := h2.len
 have m1 := h1.2
 simp only [maxLen] at m1
 refine BoolK.mk (fun t => ?_) (fun t => ?_)
 ·have t : (l1 : Int) ≠ l2 := by simpa using t
  exact ⟨by symm; rw [decide_eq_false_iff_not]; rintro rfl; omega, Ext.refl w⟩
 have hll : fs.length = gs.length := by
  have t : (l1 : Int) = l2 := by simpa using t
  omega
 refine ⟨fun i w' => ∃ k : Nat, i = k ∧ k ≤ fs.length ∧ Ext w w' ∧ ∀ j (f : Ft), j < k → fs[j]? = some f → gs[j]? = some f, fun i _ => fs.length - i.toNat, ⟨⟨0, rfl, by omega, Ext.refl w, fun j f hj => by omega⟩, trivial⟩, ?_⟩
 rintro w5 _ ⟨k, rfl, hk, x5, hall⟩
 refine BoolK.mk (fun t => ?_) (fun t => ?_)
 ·have hlt : k < fs.length := by have := of_decide_eq_true t; omega
  have hlt' : k < gs.length := by omega
  refine DrewK.mk fun w7 x7 => ?_
  have x7 := x5.trans x7
  obtain ⟨b1, ha, q0, q1, _⟩ := ftAt h1 x7 hlt
  obtain ⟨b3, hc, r0, r1, _⟩ := ftAt h2 x7 hlt'
  refine ⟨⟨by omega, by omega⟩, adK ha ⟨_, q0, _, q1, ⟨by omega, by omega⟩, adK hc ⟨_, r0, _, r1, BoolK.mk (fun t1 => ?_) (fun t1 => ?_)⟩⟩⟩
  ·refine ⟨?_, x7⟩
   symm; rw [decide_eq_false_iff_not]
   rintro rfl
   simp only [Bool.and_true, Bool.not_eq_true', Bool.and_eq_false_iff, beq_eq_false_iff_ne, ne_eq, not_true_eq_false, false_or] at t1
   exact absurd (ba_eq.2 rfl) (by rw [t1]; decide)
  ·have he : fs[k] = gs[k] := by
    simp only [Bool.not_eq_false', Bool.and_true, Bool.and_eq_true, beq_iff_eq, ba_eq] at t1
    exact Prod.ext t1.1 t1.2
   rw [wrap_succ (by omega)]
   refine ⟨⟨k + 1, rfl, by omega, x7, fun j f hj hf => ?_⟩, by simp; omega⟩
   rcases Nat.lt_or_ge j k with h | h
   ·exact hall j f h hf
   ·have : j = k := by omega
    subst this
    rw [List.getElem?_eq_getElem hlt] at hf
    rw [List.getElem?_eq_getElem hlt', ← he]; exact hf
 ·have : k = fs.length := by have := of_decide_eq_false t; omega
  subst this
  refine ⟨?_, x5⟩
  symm; rw [decide_eq_true_eq]
  apply List.ext_getElem hll
  intro j p1 p2
  have := hall j fs[j] p1 (List.getElem?_eq_getElem p1)
  rw [List.getElem?_eq_getElem p2] at this
  exact (Option.some.inj this).symm
theorem ctr62 (w : World) (x : Nd) {a4 a5 : Option Addr} {l4 l5 : Nat} (c4 c5 : Nat) (hf : RL 2 RFt w a4 l4 x.fs) :
  Calls Tryz.prog 62 #[.agg #[.string x.kd, .int .i64 x.n, .string x.tx, .slice a4 l4 c4, .slice a5 l5 c5]] w fun en w' => ∃ p, en = .returned (.bool p) ∧ (p = isConsD x ∧ Ext w w') := by
 refine calls62 _ _ _ _ _ _ _ _ _ _ w ?_
 refine AllocK.mk fun b w7 hb hB x7 => DrewK.mk fun w8 x8 => ?_
 have y8 := x7.trans x8
 obtain ⟨g0, _, g2, g3, _⟩ := blkAt5 hB x8
 refine ⟨_, g0, BoolK.mk (fun t => ⟨_, g2, BoolK.mk (fun t2 => ⟨_, _, _, g3, ?_⟩) (fun t2 => ⟨?_, y8⟩)⟩) (fun t => ⟨?_, y8⟩)⟩
 ·refine (ctr75 w8).mono ?_
  rintro en w13 ⟨a12, l12, c12, rfl, hp, x13⟩
  refine ⟨_, _, _, rfl, Below.cel x13, (ctr85 w13 c4 c12 (hf.ext RFt.mono (y8.trans x13)) hp).mono ?_⟩
  rintro en w16 ⟨p, rfl, rfl, x16⟩
  refine ⟨_, rfl, ?_, (y8.trans x13).trans x16⟩
  have k1 : x.kd = kRecT := tl_iff.1 t
  have k2 : x.tx = kBar := tl_iff.1 t2
  unfold isConsD
  rw [decide_eq_true k1, decide_eq_true k2, Bool.true_and, Bool.true_and]; rfl
 ·have k2 : x.tx ≠ kBar := tl_no t2
  unfold isConsD
  rw [decide_eq_false k2]; simp
 ·have k1 : x.kd ≠ kRecT := tl_no t
  unfold isConsD
  rw [decide_eq_false k1]; simp
theorem ctr86 (w : World) (x : Nd) {a4 a5 : Option Addr} {l4 l5 : Nat} (c4 c5 : Nat) (hf : RL 2 RFt w a4 l4 x.fs) :
  Calls Tryz.prog 86 #[.agg #[.string x.kd, .int .i64 x.n, .string x.tx, .slice a4 l4 c4, .slice a5 l5 c5]] w fun en w' => ∃ p, en = .returned (.bool p) ∧ (p = isNilD x ∧ Ext w w') := by
 refine calls86 _ _ _ _ _ _ _ _ _ _ w ?_
 refine AllocK.mk fun b w7 hb hB x7 => ?_
 obtain ⟨g0, _, g2, g3, _⟩ := blkAt5 hB (Ext.refl w7)
 refine ⟨_, g0, BoolK.mk (fun t => ⟨_, g2, BoolK.mk (fun t2 => ⟨_, _, _, g3, ?_, x7⟩) (fun t2 => ⟨?_, x7⟩)⟩) (fun t => ⟨?_, x7⟩)⟩
 ·have k1 : x.kd = kRecT := tl_iff.1 t
  have k2 : x.tx = kNil := tl_iff.1 t2
  unfold isNilD
  rw [decide_eq_true k1, decide_eq_true k2, Bool.true_and, Bool.true_and, Bool.eq_iff_iff, decide_eq_true_eq]
  exact len0 hf.len
 ·have k2 : x.tx ≠ kNil := tl_no t2
  unfold isNilD
  rw [decide_eq_false k2]; simp
 ·have k1 : x.kd ≠ kRecT := tl_no t
  unfold isNilD
  rw [decide_eq_false k1]; simp
theorem ctr65 (w : World) (x : Nd) {a4 a5 : Option Addr} {l4 l5 : Nat} (c4 c5 : Nat) (hf : RL 2 RFt w a4 l4 x.fs) :
  Calls Tryz.prog 65 #[.agg #[.string x.kd, .int .i64 x.n, .string x.tx, .slice a4 l4 c4, .slice a5 l5 c5]] w fun en w' => ∃ p, en = .returned (.bool p) ∧ (p = isTupD x ∧ Ext w w') := by
 refine calls65 _ _ _ _ _ _ _ _ _ _ w ?_
 have e4 := hf.len; have m4 := hf.2
 simp only [maxLen] at m4
 refine AllocK.mk fun b w7 hb hB x7 => ?_
 obtain ⟨g0, _, g2, g3, _⟩ := blkAt5 hB (Ext.refl w7)
 refine ⟨_, g0, BoolK.mk (fun t => ⟨?_, x7⟩) (fun t => ⟨_, g2, BoolK.mk (fun t2 => ⟨?_, x7⟩) (fun t2 => ⟨_, _, _, g3, BoolK.mk (fun t3 => ⟨?_, x7⟩) (fun t3 => ⟨_, _, _, g3, ?_⟩)⟩)⟩)⟩
 ·have k1 : x.kd ≠ kRec := tl_no (t := kRec) (by rw [Bool.not_eq_true'] at t; exact t)
  unfold isTupD
  rw [decide_eq_false k1]; simp
 ·have k2 : x.tx ≠ kHash := tl_no (t := kHash) (by rw [Bool.not_eq_true'] at t2; exact t2)
  unfold isTupD
  rw [decide_eq_false k2]; simp
 ·have t3 := of_decide_eq_true t3
  unfold isTupD
  rw [decide_eq_false (p := 2 ≤ x.fs.length) (by omega)]; simp
 have k1 : x.kd = kRec := (tl_iff (t := kRec)).1 (by rw [Bool.not_eq_false'] at t; exact t)
 have k2 : x.tx = kHash := (tl_iff (t := kHash)).1 (by rw [Bool.not_eq_false'] at t2; exact t2)
 have t3 := of_decide_eq_false t3
 have hT : isTupD x = (List.range x.fs.length).all fun i => decide ((x.fs[i]?.getD (0, ⟨#[]⟩)).1 = (i : Int) + 1) := by
  unfold isTupD
  rw [decide_eq_true k1, decide_eq_true k2, decide_eq_true (p := 2 ≤ x.fs.length) (by omega)]; simp
 rw [hT]
 refine ⟨fun i w' => ∃ k : Nat, i = k ∧ k ≤ x.fs.length ∧ Ext w w' ∧ ∀ j, j < k → (x.fs[j]?.getD (0, ⟨#[]⟩)).1 = (j : Int) + 1, fun i _ => x.fs.length - i.toNat, ⟨⟨0, rfl, by omega, x7, fun j hj => by omega⟩, trivial⟩, ?_⟩
 rintro w14 _ ⟨k, rfl, hk, x14, hall⟩
 refine BoolK.mk (fun t4 => ?_) (fun t4 => ?_)
 ·have hlt : k < x.fs.length := by have := of_decide_eq_true t4; omega
  obtain ⟨b1, ha, q0, q1, _⟩ := ftAt hf x14 hlt
  refine ⟨⟨by omega, by omega⟩, adK ha ⟨_, q0, _, q1, local2 fun b19 w22 hb19 hB19 x22 => ?_⟩⟩
  have x22 := x14.trans x22
  obtain ⟨_, _, f0⟩ := blkAt2 hB19
  have hg : (x.fs[k]?.getD (0, ⟨#[]⟩)).1 = x.fs[k].1 := by rw [List.getElem?_eq_getElem hlt]; rfl
  rw [wrap_succ (by omega)]
  refine ⟨_, f0, BoolK.mk (fun t5 => ⟨?_, x22⟩) (fun t5 => ⟨⟨k + 1, rfl, by omega, x22, fun j hj => ?_⟩, by simp; omega⟩)⟩
  ·have t5 : x.fs[k].1 ≠ ((k + 1 : Nat) : Int) := by simpa using t5
   symm; rw [Bool.eq_false_iff]; intro h
   have := of_decide_eq_true (List.all_eq_true.1 h k (List.mem_range.2 hlt))
   rw [hg] at this
   exact t5 (by rw [this]; omega)
  ·have t5 : x.fs[k].1 = ((k + 1 : Nat) : Int) := by simpa using t5
   rcases Nat.lt_or_ge j k with h | h
   ·exact hall j h
   ·have : j = k := by omega
    subst this
    rw [hg, t5]; omega
 ·have : k = x.fs.length := by have := of_decide_eq_false t4; omega
  subst this
  exact ⟨(List.all_eq_true.2 fun j hj => decide_eq_true (hall j (List.mem_range.1 hj))).symm, x14⟩
/-! ### chain -/
def eBo (b : Bool) : Value := .bool b
theorem mtB : MapT Tryz.prog 123 3 4 eK eBo false := ⟨Tryz.underlying123, keyInt Tryz.underlying3, Tryz.zeroValue4⟩
structure ChR (xs : List Nd) (i k : Nat) : Prop where
 cons : ∀ j, j < k → isConsD (nd xs (tl xs i j)) = true
 apart : ∀ a b, a < k → b < k → tl xs i a = tl xs i b → a = b
 lt : ∀ j, j ≤ k → tl xs i j < xs.length
def tlL (xs : List Nd) (i k : Nat) : List Int := zs ((List.range k).map (tl xs i))
theorem tlL_len {xs : List Nd} {i k : Nat} : (tlL xs i k).length = k := by simp [tlL, zs]
theorem tlL_mem {xs : List Nd} {i k v : Nat} : (v : Int) ∈ tlL xs i k ↔ ∃ j, j < k ∧ v = tl xs i j := by
 unfold tlL zs
 simp only [List.mem_map, List.mem_range]
 constructor
 ·rintro ⟨x, ⟨j, hj, rfl⟩, e⟩; exact ⟨j, hj, by omega⟩
 ·rintro ⟨j, hj, rfl⟩; exact ⟨_, ⟨j, hj, rfl⟩, rfl⟩
theorem tlL_snoc {xs : List Nd} {i k : Nat} : tlL xs i (k + 1) = tlL xs i k ++ [((tl xs i k : Nat) : Int)] := by
 unfold tlL zs
 rw [List.range_succ]; simp
theorem ChR.zero {xs : List Nd} {i : Nat} (hi : i < xs.length) : ChR xs i 0 := by
 refine ⟨fun j hj => by omega, fun a b ha => by omega, fun j hj => ?_⟩
 have : j = 0 := by omega
 subst this; exact hi
theorem ChR.le {xs : List Nd} {i k : Nat} (h : ChR xs i k) : k ≤ xs.length := by
 have := len_le_of_sub ((List.range k).map (tl xs i)) (List.range xs.length) ?_ fun x hx => ?_
 ·simpa using this
 ·rw [List.nodup_iff_pairwise_ne, List.pairwise_map]
  refine List.Pairwise.imp_of_mem ?_ (List.nodup_range (n := k))
  intro a b ha hb hab e
  exact hab (h.apart a b (List.mem_range.1 ha) (List.mem_range.1 hb) e)
 ·obtain ⟨j, hj, rfl⟩ := List.mem_map.1 hx
  exact List.mem_range.2 (h.lt j (by have := List.mem_range.1 hj; omega))
set_option maxRecDepth 100000 in
theorem ctr63 (w : World) {xs : List Nd} {a1 : Option Addr} {l1 : Nat} (c1 : Nat) (h : RNds w a1 l1 xs) (hV : VL VN1 xs) (hn : xs.length ≤ 1000000) {i : Nat} (hi : i < xs.length) :
  Calls Tryz.prog 63 #[.slice a1 l1 c1, .int .i64 (i : Int)] w fun en w' => ∃ a l c p, en = .returned (.tuple #[.slice a l c, .bool p]) ∧
   ((∃ k, ChR xs i k ∧ IC w' a l c (tlL xs i k) ∧ (∀ p, a = some p → w.heap.size ≤ p.block) ∧ p = isNilD (nd xs (tl xs i k)) ∧ (isConsD (nd xs (tl xs i k)) = false ∨ ∃ j, j < k ∧ tl xs i k = tl xs i j)) ∧ Ext w w') := by
 refine calls63 _ _ _ _ _ w ?_
 have hl := h.len
 obtain ⟨w4, q4, m4, x4⟩ := MapF.make (P := Tryz.prog) (t := 123) (enc := eK) eBo false w
 have hbm : w.heap.size < w4.heap.size := m4.lt
 have u4 : Upd (fun _ => (none : Option Nat)) (setOwn (fun _ => (none : Option Nat)) (some w.heap.size) 1) 1 w w4 := Upd.fresh x4 (Nat.le_refl _) hbm 1
 have L4 := (Mine.refl (ρ := Nat) w).upd u4
 have ob : setOwn (fun _ => (none : Option Nat)) (some w.heap.size) 1 w.heap.size = some 1 := by unfold setOwn; rw [if_pos rfl]
 generalize hbme : w.heap.size = bm at *
 refine ⟨some bm, w4, q4, ?_⟩
 have node : ∀ {w' : World} {k : Nat}, Ext w w' → k < xs.length → (0 ≤ ((k : Nat) : Int) ∧ ((k : Nat) : Int) < (l1 : Nat)) ∧ ∃ b, a1 = some b ∧ w'.cell? ((b.add (((k : Nat) : Int).toNat * 5)).add 0) = some (.string (nd xs k).kd) ∧ w'.cell? ((b.add (((k : Nat) : Int).toNat * 5)).add 1) = some (.int .i64 (nd xs k).n) ∧ w'.cell? ((b.add (((k : Nat) : Int).toNat * 5)).add 2) = some (.string (nd xs k).tx) ∧
   (∃ a l c, w'.cell? ((b.add (((k : Nat) : Int).toNat * 5)).add 3) = some (.slice a l c) ∧ RL 2 RFt w' a l (nd xs k).fs) ∧ (∃ a l c, w'.cell? ((b.add (((k : Nat) : Int).toNat * 5)).add 4) = some (.slice a l c) ∧ RL 1 RInt w' a l (nd xs k).ks) := fun x hk => by
  obtain ⟨b, ha, n0, n1, n2, n3, n4, n5, n7, _⟩ := ndAt h x hk
  rw [nd_get hk]
  exact ⟨⟨by omega, by omega⟩, b, ha, n0, n1, n2, n5, n7⟩
 refine ⟨fun x a l c w' => ∃ (k : Nat) (own : OwnM Nat), x = ((tl xs i k : Nat) : Int) ∧ ChR xs i k ∧ Mine own w w' ∧ RowR own 0 3 1 eI w' (a, l, c) (tlL xs i k) ∧ (isConsD (nd xs (tl xs i k)) = false ∨ ∃ j, j < k ∧ tl xs i k = tl xs i j), ?_,
  fun x a l c w' => ∃ (k : Nat) (own : OwnM Nat), x = ((tl xs i k : Nat) : Int) ∧ ChR xs i k ∧ Mine own w w' ∧ own bm = some 1 ∧ MapF eK eBo false w' bm (fun v => decide (v ∈ tlL xs i k)) ∧ RowR own 0 3 1 eI w' (a, l, c) (tlL xs i k), fun _ _ l _ _ => xs.length - l,
  ⟨⟨0, _, rfl, ChR.zero hi, L4, ob, m4.congr fun v => by simp [tlL, zs], RowR.nil _ _ _ _ _ _⟩, trivial⟩, ?_⟩
 ·rintro w6 _ a8 l8 c8 ⟨k, own, rfl, C, L, R, hend⟩
  obtain ⟨p1, b9, p2, p3, p4, p5, ⟨a13, l13, c13, p6, p7⟩, ⟨a14, l14, c14, p8, p9⟩⟩ := node L.below (C.lt k (Nat.le_refl _))
  refine ⟨p1, adK p2 ⟨_, p3, _, p4, _, p5, _, _, _, p6, _, _, _, p8, (ctr86 w6 (nd xs (tl xs i k)) c13 c14 p7).mono ?_⟩⟩
  rintro en w16 ⟨p, rfl, rfl, x16⟩
  refine ⟨_, rfl, ⟨k, C, IC.ext ⟨OwnR.ints R.1, ?_⟩ x16, ?_, rfl, hend⟩, L.below.trans x16⟩
  ·rcases R.1.2.2 with ⟨e, _⟩ | ⟨g, cap, cur, e, _, _, h3, _⟩
   ·cases e; exact Nat.le_refl _
   ·simp only [Value.slice.injEq] at e; obtain ⟨_, e1, rfl⟩ := e; rw [e1]; exact h3
  ·intro p hp
   refine Classical.byContradiction fun hn => ?_
   have h0 := R.2 p.block (by rw [hp]; rfl)
   rw [L.fr.free p.block (by omega) rfl] at h0; cases h0
 ·rintro w20 _ a22 l22 c22 ⟨k, own, rfl, C, L, ob, M, R⟩
  have hkl := C.lt k (Nat.le_refl _)
  have hlen : l22 = k := by have := R.len; rw [tlL_len] at this; exact this
  obtain ⟨p1, b9, p2, p3, p4, p5, ⟨a13, l13, c13, p6, p7⟩, ⟨a14, l14, c14, p8, p9⟩⟩ := node L.below hkl
  refine ⟨p1, adK p2 ⟨_, p3, _, p4, _, p5, _, _, _, p6, _, _, _, p8, (ctr62 w20 (nd xs (tl xs i k)) c13 c14 p7).mono ?_⟩⟩
  rintro en w30 ⟨p, rfl, hp, x30⟩
  have L30 := L.ext x30
  have M30 := M.ext x30
  have R30 := R.ext x30
  refine ⟨_, rfl, BoolK.mk (fun t => ?_) (fun t => ⟨k, own, rfl, C, L30, R30, .inl (by rw [← hp]; exact t)⟩)⟩
  have hcons : isConsD (nd xs (tl xs i k)) = true := by rw [← hp]; exact t
  refine ⟨_, w30, M30.lookup mtB ((tl xs i k : Nat) : Int), BoolK.mk (fun t2 => ?_) (fun t2 => ?_)⟩
  ·have hnin : ((tl xs i k : Nat) : Int) ∉ tlL xs i k := by simpa using t2
   obtain ⟨w34, q34, M34, g34⟩ := M30.update mtB ((tl xs i k : Nat) : Int) true
   have u34 : Upd own own 1 w30 w34 := Upd.of_but g34 ob
   refine ⟨w34, q34, ?_⟩
   have R34 := R30.upd u34 (by decide)
   have L34 := L30.upd u34
   have C' : ChR xs i (k + 1) := by
    obtain ⟨n, hn⟩ := hV.nd hkl
    have h2 := cons_ks hn hcons
    refine ⟨fun j hj => ?_, fun a b ha hb e => ?_, fun j hj => ?_⟩
    ·rcases Nat.lt_or_ge j k with h | h
     ·exact C.cons j h
     ·have : j = k := by omega
      subst this; exact hcons
    ·rcases Nat.lt_or_ge a k with h1 | h1 <;> rcases Nat.lt_or_ge b k with h2 | h2
     ·exact C.apart a b h1 h2 e
     ·have : b = k := by omega
      subst this
      exact absurd (tlL_mem.2 ⟨a, h1, e.symm⟩) hnin
     ·have : a = k := by omega
      subst this
      exact absurd (tlL_mem.2 ⟨b, h2, e⟩) hnin
     ·omega
    ·rcases Nat.lt_or_ge j (k + 1) with h | h
     ·exact C.lt j (by omega)
     ·have : j = k + 1 := by omega
      subst this
      exact kid_lt hV.c hkl (by rw [h2]; omega)
   have hle := C'.le
   refine RowR.push ((tl xs i k : Nat) : Int) sltI R34 eI_len eI_one (by rw [tlL_len]; omega) rfl fun s' w38 R38 u38 => ?_
   rw [← tlL_snoc] at R38
   have L38 := L34.upd u38
   have M38 : MapF eK eBo false w38 bm (fun v => decide (v ∈ tlL xs i (k + 1))) := by
    refine (M34.heap (u38.block bm M34.lt (by rw [ob]; decide))).congr fun v => ?_
    unfold V.upd
    rw [tlL_snoc]
    by_cases e : v = ((tl xs i k : Nat) : Int)
    ·rw [if_pos e, e]; simp
    ·rw [if_neg e, decide_eq_decide]; simp [e]
   obtain ⟨n, hn⟩ := hV.nd hkl
   have h2 := cons_ks hn hcons
   obtain ⟨p1, b39, p2, _, _, _, _, ⟨a40, l40, c40, p8, p9⟩⟩ := node L38.below hkl
   have e40 := p9.len
   obtain ⟨b41, r1, r2⟩ := ksAt p9 (Ext.refl w38) (i := 1) (by omega)
   have kv : (nd xs (tl xs i k)).ks[1]'(by omega) = ((tl xs i (k + 1) : Nat) : Int) := by
    rw [tl, kid, List.getElem?_eq_getElem (by omega), Option.getD_some]
    have := hV.c (nd xs (tl xs i k)) (by rw [nd_get hkl]; exact List.getElem_mem hkl) _ (List.getElem_mem (n := 1) (by omega))
    omega
   rw [kv] at r2
   have hm : xs.length - s'.2.1 < xs.length - l22 := by
    have h5 : s'.2.1 = k + 1 := by have := R38.len; rw [tlL_len] at this; exact this
    rw [h5, hlen]; omega
   exact ⟨p1, adK p2 ⟨_, _, _, p8, ⟨by omega, by omega⟩, adK r1 ⟨_, r2, ⟨k + 1, _, rfl, C', L38, by rw [u38.same bm M34.lt]; exact ob, M38, R38⟩, hm⟩⟩⟩
  ·have hin : ((tl xs i k : Nat) : Int) ∈ tlL xs i k := by simpa using t2
   exact ⟨k, own, rfl, C, L30, R30, .inr (tlL_mem.1 hin)⟩
end Go.Proofs.YtbiamhoonhjodadGreatDoor

namespace Go.Proofs.YtbiamhoonhjodadGreatDoor
open Go Go.Proofs
def joinLay_ren : Go.Shelf.Ren := ⟨fun | 156 => 64 | 165 => 55 | 166 => 57 | 169 => 59 | 240 => 79 | 241 => 80 | 276 => 102 | 277 => 103 | n => n, fun | 31 => 43 | 9 => 9 | 3 => 3 | 4 => 4 | 0 => 0 | 20 => 20 | 72 => 98 | 76 => 102 | 70 => 95 | 37 => 96 | 75 => 101 | 127 => 119 | 164 => 135 | 5 => 5 | 80 => 106 | n => n, fun n => n⟩
theorem joinLay : Lays.n156 Tryz.prog joinLay_ren where
 mixed := by kernel_rfl
 f156 := Tryz.func64.trans (congrArg some (by kernel_rfl))
 f165 := Tryz.func55.trans (congrArg some (by kernel_rfl))
 f166 := Tryz.func57.trans (congrArg some (by kernel_rfl))
 f169 := Tryz.func59.trans (congrArg some (by kernel_rfl))
 f240 := Tryz.func79.trans (congrArg some (by kernel_rfl))
 f241 := Tryz.func80.trans (congrArg some (by kernel_rfl))
 f276 := Tryz.func102.trans (congrArg some (by kernel_rfl))
 f277 := Tryz.func103.trans (congrArg some (by kernel_rfl))
 t0 := Tryz.underlying0
 a0 := Tryz.isAgg0
 z0 := Tryz.sizeOf0
 v0 := Tryz.zeroValue0
 t3 := Tryz.underlying3
 a3 := Tryz.isAgg3
 z3 := Tryz.sizeOf3
 v3 := Tryz.zeroValue3
 t4 := Tryz.underlying4
 a4 := Tryz.isAgg4
 z4 := Tryz.sizeOf4
 v4 := Tryz.zeroValue4
 t9 := Tryz.underlying9
 a9 := Tryz.isAgg9
 z9 := Tryz.sizeOf9
 v9 := Tryz.zeroValue9
 t20 := Tryz.underlying20
 a20 := Tryz.isAgg20
 z20 := Tryz.sizeOf20
 v20 := Tryz.zeroValue20
 t31 := Tryz.underlying43
 a31 := Tryz.isAgg43
 z31 := Tryz.sizeOf43
 v31 := Tryz.zeroValue43
 t37 := Tryz.underlying96
 a37 := Tryz.isAgg96
 z37 := Tryz.sizeOf96
 v37 := Tryz.zeroValue96
 t70 := Tryz.underlying95
 a70 := Tryz.isAgg95
 z70 := Tryz.sizeOf95
 v70 := Tryz.zeroValue95
 t72 := Tryz.underlying98
 a72 := Tryz.isAgg98
 z72 := Tryz.sizeOf98
 v72 := Tryz.zeroValue98
 t75 := Tryz.underlying101
 a75 := Tryz.isAgg101
 z75 := Tryz.sizeOf101
 v75 := Tryz.zeroValue101
 t76 := Tryz.underlying102
 a76 := Tryz.isAgg102
 z76 := Tryz.sizeOf102
 v76 := Tryz.zeroValue102
 t127 := Tryz.underlying119
 a127 := Tryz.isAgg119
 z127 := Tryz.sizeOf119
 v127 := Tryz.zeroValue119
 t164 := Tryz.underlying135
 a164 := Tryz.isAgg135
 z164 := Tryz.sizeOf135
 v164 := Tryz.zeroValue135
theorem joinX : Builder.Extra Tryz.prog joinLay_ren where
 sizeBuilder := by kernel_rfl
 liesBuilder := by kernel_rfl
 t5 := Tryz.underlying5
 a5 := Tryz.isAgg5
 z5 := Tryz.sizeOf5
 v5 := Tryz.zeroValue5
 infoByte := by kernel_rfl
 cellsByte := by kernel_rfl
 sizeByte := by kernel_rfl
 neB5 := by decide
def replLay_ren : Go.Shelf.Ren := ⟨fun | 154 => 26 | 138 => 54 | 165 => 55 | 143 => 56 | 166 => 57 | 197 => 58 | 169 => 59 | 195 => 77 | 218 => 78 | 240 => 79 | 241 => 80 | 219 => 81 | 260 => 82 | 276 => 102 | 277 => 103 | 217 => 104 | 225 => 105 | 224 => 106 | 267 => 107 | 266 => 125 | 314 => 126 | n => n, fun | 9 => 9 | 3 => 3 | 4 => 4 | 72 => 98 | 0 => 0 | 76 => 102 | 105 => 104 | 21 => 21 | 5 => 5 | 70 => 95 | 20 => 20 | 37 => 96 | 75 => 101 | 127 => 119 | 164 => 135 | 46 => 138 | 119 => 139 | 139 => 142 | 138 => 141 | 146 => 161 | 51 => 160 | 80 => 106 | n => n, fun | 1 => 0 | 3 => 1 | 4 => 2 | n => n⟩
theorem replLay : Lays.n154 Tryz.prog replLay_ren where
 mixed := by kernel_rfl
 f138 := Tryz.func54.trans (congrArg some (by kernel_rfl))
 f143 := Tryz.func56.trans (congrArg some (by kernel_rfl))
 f154 := Tryz.func26.trans (congrArg some (by kernel_rfl))
 f165 := Tryz.func55.trans (congrArg some (by kernel_rfl))
 f166 := Tryz.func57.trans (congrArg some (by kernel_rfl))
 f169 := Tryz.func59.trans (congrArg some (by kernel_rfl))
 f195 := Tryz.func77.trans (congrArg some (by kernel_rfl))
 f197 := Tryz.func58.trans (congrArg some (by kernel_rfl))
 f217 := Tryz.func104.trans (congrArg some (by kernel_rfl))
 f218 := Tryz.func78.trans (congrArg some (by kernel_rfl))
 f219 := Tryz.func81.trans (congrArg some (by kernel_rfl))
 f224 := Tryz.func106.trans (congrArg some (by kernel_rfl))
 f225 := Tryz.func105.trans (congrArg some (by kernel_rfl))
 f240 := Tryz.func79.trans (congrArg some (by kernel_rfl))
 f241 := Tryz.func80.trans (congrArg some (by kernel_rfl))
 f260 := Tryz.func82.trans (congrArg some (by kernel_rfl))
 f266 := Tryz.func125.trans (congrArg some (by kernel_rfl))
 f267 := Tryz.func107.trans (congrArg some (by kernel_rfl))
 f276 := Tryz.func102.trans (congrArg some (by kernel_rfl))
 f277 := Tryz.func103.trans (congrArg some (by kernel_rfl))
 f314 := Tryz.func126.trans (congrArg some (by kernel_rfl))
 t0 := Tryz.underlying0
 a0 := Tryz.isAgg0
 z0 := Tryz.sizeOf0
 v0 := Tryz.zeroValue0
 t3 := Tryz.underlying3
 a3 := Tryz.isAgg3
 z3 := Tryz.sizeOf3
 v3 := Tryz.zeroValue3
 t4 := Tryz.underlying4
 a4 := Tryz.isAgg4
 z4 := Tryz.sizeOf4
 v4 := Tryz.zeroValue4
 t5 := Tryz.underlying5
 a5 := Tryz.isAgg5
 z5 := Tryz.sizeOf5
 v5 := Tryz.zeroValue5
 t9 := Tryz.underlying9
 a9 := Tryz.isAgg9
 z9 := Tryz.sizeOf9
 v9 := Tryz.zeroValue9
 t20 := Tryz.underlying20
 a20 := Tryz.isAgg20
 z20 := Tryz.sizeOf20
 v20 := Tryz.zeroValue20
 t21 := Tryz.underlying21
 a21 := Tryz.isAgg21
 z21 := Tryz.sizeOf21
 v21 := Tryz.zeroValue21
 t37 := Tryz.underlying96
 a37 := Tryz.isAgg96
 z37 := Tryz.sizeOf96
 v37 := Tryz.zeroValue96
 t46 := Tryz.underlying138
 a46 := Tryz.isAgg138
 z46 := Tryz.sizeOf138
 v46 := Tryz.zeroValue138
 t51 := Tryz.underlying160
 a51 := Tryz.isAgg160
 z51 := Tryz.sizeOf160
 v51 := Tryz.zeroValue160
 t70 := Tryz.underlying95
 a70 := Tryz.isAgg95
 z70 := Tryz.sizeOf95
 v70 := Tryz.zeroValue95
 t72 := Tryz.underlying98
 a72 := Tryz.isAgg98
 z72 := Tryz.sizeOf98
 v72 := Tryz.zeroValue98
 t75 := Tryz.underlying101
 a75 := Tryz.isAgg101
 z75 := Tryz.sizeOf101
 v75 := Tryz.zeroValue101
 t76 := Tryz.underlying102
 a76 := Tryz.isAgg102
 z76 := Tryz.sizeOf102
 v76 := Tryz.zeroValue102
 t105 := Tryz.underlying104
 a105 := Tryz.isAgg104
 z105 := Tryz.sizeOf104
 v105 := Tryz.zeroValue104
 t119 := Tryz.underlying139
 a119 := Tryz.isAgg139
 z119 := Tryz.sizeOf139
 t127 := Tryz.underlying119
 a127 := Tryz.isAgg119
 z127 := Tryz.sizeOf119
 v127 := Tryz.zeroValue119
 t138 := Tryz.underlying141
 a138 := Tryz.isAgg141
 z138 := Tryz.sizeOf141
 v138 := Tryz.zeroValue141
 t139 := Tryz.underlying142
 a139 := Tryz.isAgg142
 z139 := Tryz.sizeOf142
 v139 := Tryz.zeroValue142
 t146 := Tryz.underlying161
 a146 := Tryz.isAgg161
 z146 := Tryz.sizeOf161
 v146 := Tryz.zeroValue161
 t164 := Tryz.underlying135
 a164 := Tryz.isAgg135
 z164 := Tryz.sizeOf135
 v164 := Tryz.zeroValue135
 g1 := by kernel_rfl
 g3 := by kernel_rfl
 g4 := by kernel_rfl
theorem replX : Builder.Extra Tryz.prog replLay_ren where
 sizeBuilder := by kernel_rfl
 liesBuilder := by kernel_rfl
 t5 := Tryz.underlying5
 a5 := Tryz.isAgg5
 z5 := Tryz.sizeOf5
 v5 := Tryz.zeroValue5
 infoByte := by kernel_rfl
 cellsByte := by kernel_rfl
 sizeByte := by kernel_rfl
 neB5 := by decide
end Go.Proofs.YtbiamhoonhjodadGreatDoor

namespace Go.Proofs.YtbiamhoonhjodadGreatDoor
open Go Go.V Go.Proofs
open Go.RowKit (Below)
/-! (*manystrand/graph.writer).shared -/
def N29 (o1 : Option Addr) (x2 : Int) (K : Bool → World → Prop) (w : World) : Prop :=
 AddrK o1 fun b3 =>
 ∃ a4 l4 c4, w.cell? (b3.add 2) = some (.slice a4 l4 c4) ∧
 ((0 ≤ x2 ∧ x2 < l4) ∧
 AddrK a4 fun b5 =>
 ∃ x6, w.cell? (b5.add (x2.toNat * 1)) = some (.int .i64 x6) ∧
 (BoolK (decide (x6 > 1))
 (AddrK o1 fun b7 =>
 ∃ a8 l8 c8, w.cell? (b7.add 1) = some (.slice a8 l8 c8) ∧
 ((0 ≤ x2 ∧ x2 < l8) ∧
 AddrK a8 fun b9 =>
 ∃ a10 l10 c10, w.cell? ((b9.add (x2.toNat * 5)).add 3) = some (.slice a10 l10 c10) ∧
 (K (decide ((l10 : Int) > 0)) w)))
 (K false w)))
def ann29 : Ann := (.two .nil (.two .nil .nil))
noncomputable def code29 : Code := match Tryz.f29.body with | some c => c | none => .skip
theorem calls29 (o1 : Option Addr) (x2 : Int) (K : Bool → World → Prop) (w : World) (h : N29 o1 x2 K w) : Calls Tryz.prog 29 #[(.pointer o1), (.int .i64 x2)] w fun en w' => ∃ (p11 : Bool), en = .returned (.bool p11) ∧ K p11 w' :=
 fn_calls tabOk mixed Tryz.func29 (by kernel_rfl : Tryz.f29.body = some code29) ann29 [(.pointer o1), (.int .i64 x2)] [(.one .bool)] K w (by kernel_rfl) (by kernel_rfl) (by kernel_rfl) h
end Go.Proofs.YtbiamhoonhjodadGreatDoor

namespace Go.V.Gr
open Go Go.V
theorem itoa_pos (n : Nat) : Lib.itoa (n : Int) = Lib.decDigits n := by rw [Lib.itoa, if_neg (by omega)]; rfl
theorem itoa_minus {n : Int} (h : n < 0) : Lib.itoa n = 45 :: Lib.itoa (-n) := by
 rw [Lib.itoa, if_pos h, Lib.itoa, if_neg (by omega)]
 congr 2; omega
theorem no_minus {n : Int} (h : 0 ≤ n) : (Lib.itoa n).count 45 = 0 := by
 obtain ⟨m, rfl⟩ : ∃ m : Nat, n = m := ⟨n.toNat, by omega⟩
 rw [itoa_pos, List.count_eq_zero]
 intro hm
 have := decDigits_all m 45 hm
 revert this; decide
end Go.V.Gr
namespace Go.Proofs.YtbiamhoonhjodadGreatDoor
open Go Go.V Go.Proofs Go.V.Gr
open Go.RowKit (Below)
theorem replace_num (n : Int) : Lib.replace (Lib.itoa n) [45] [126] 1 = numT n := by
 have hne : (([45] : List UInt8) == [126]) = false := by decide
 unfold numT
 rw [Lib.replace, hne]
 simp only [Bool.false_eq_true, if_false]
 by_cases h : n < 0
 ·rw [if_pos h, itoa_minus h]
  have hc : Lib.count (45 :: Lib.itoa (-n)) [45] = 1 := by
   rw [Lib.count_one, List.count_cons, no_minus (by omega)]; rfl
  have hk : Lib.replaceNum (45 :: Lib.itoa (-n)) [45] 1 = 1 := by
   unfold Lib.replaceNum; rw [hc]; rfl
  have hi : Lib.index (45 :: Lib.itoa (-n)) [45] = ((0 : Nat) : Int) := by
   rw [Lib.index, if_pos (by simp [List.isPrefixOf])]; rfl
  rw [hk, Lib.replaceK_hit _ _ 0 _ 0 hi]
  simp [Lib.replaceK]
 ·rw [if_neg h]
  have hc : Lib.count (Lib.itoa n) [45] = 0 := by rw [Lib.count_one, no_minus (by omega)]
  have hk : Lib.replaceNum (Lib.itoa n) [45] 1 = 0 := by
   unfold Lib.replaceNum; rw [hc]; rfl
  rw [hk]; rfl
def MaxL (w : World) : Prop := ∃ m : Int, w.cell? ⟨replLay_ren.g 1, 0, none⟩ = some (.int .i64 m)
theorem MaxL.ext {w w' : World} (h : MaxL w) (x : Ext w w') : MaxL w' := by obtain ⟨m, hm⟩ := h; exact ⟨m, x.cell hm⟩
theorem szA (p q : ByteArray) : (p ++ q).size = p.size + q.size := by rw [← bl_size, ← bl_size, ← bl_size, bl_append, List.length_append]
theorem xtr26 (w : World) {n : Int} (hn : i64 n) (s : ByteArray) (hs : bl s = Lib.itoa n) (hm : MaxL w) :
  Calls Tryz.prog 26 #[.string s, .string ⟨#[45]⟩, .string ⟨#[126]⟩, .int .i64 1] w fun en w' => ∃ t, en = .returned (.string t) ∧ (bl t = numT n ∧ Ext w w') := by
 obtain ⟨m, hm⟩ := hm
 have hsz : s.size ≤ 21 := by rw [← bl_size, hs]; exact itoa_len hn
 have hc : Lib.countB s ⟨#[45]⟩ ≤ s.size := Lib.countB_le ⟨#[45]⟩ (by decide) s.size s (Nat.le_refl _)
 have h1 : (⟨#[126]⟩ : ByteArray).size = 1 := rfl
 refine Calls.mono (Any.strings_Replace replLay replX s ⟨#[45]⟩ ⟨#[126]⟩ 1 m w (by omega) hm (by decide) (by rw [h1]; omega)) ?_
 rintro en w' ⟨rfl, x⟩
 refine ⟨_, rfl, ?_, x⟩
 have e : bl (⟨(Lib.replace s.data.toList [45] [126] 1).toArray⟩ : ByteArray) = Lib.replace (bl s) [45] [126] 1 := by simp [bl]
 exact e.trans (by rw [hs, replace_num])
theorem xtr64 (w : World) {base : Nat} {a : Option Addr} {l c : Nat} {ps : List ByteArray} (h : OwnR base 9 1 eSt w a l c ps) (sep : ByteArray) (hn : ps.length ≤ 1000000) (hl : (Lib.join (ps.map bl) (bl sep)).length ≤ 140737488355328) :
  Calls Tryz.prog 64 #[.slice a l c, .string sep] w fun en w' => ∃ t, en = .returned (.string t) ∧ (bl t = Lib.join (ps.map bl) (bl sep) ∧ Ext w w') := by
 have fin : ∀ {en w'}, (en = Ending.returned (.string ⟨(Lib.join (ps.map (·.data.toList)) sep.data.toList).toArray⟩) ∧ Below w.heap.size w w') → ∃ t, en = .returned (.string t) ∧ (bl t = Lib.join (ps.map bl) (bl sep) ∧ Ext w w') := by
  rintro en w' ⟨rfl, x⟩
  exact ⟨_, rfl, by simp only [bl]; rfl, x⟩
 have hlen := h.1
 rcases h.2.2 with ⟨e, h0⟩ | ⟨g, cap, cur, e, _, hg, h3, _⟩
 ·have hp : ps = [] := List.length_eq_zero_iff.1 h0
  subst hp
  cases e
  refine Calls.mono (Any.strings_Join_none joinLay joinX none 0 sep w) ?_
  rintro en w' ⟨rfl, rfl⟩
  exact ⟨_, rfl, by simp [Lib.join, bl], Ext.refl _⟩
 ·simp only [Value.slice.injEq] at e
  obtain ⟨rfl, rfl, rfl⟩ := e
  refine Calls.mono (Any.strings_Join joinLay joinX g 0 c ps sep w (fun j x hx => ?_) (Array.getElem?_eq_some_iff.1 hg).1 (by omega) h3 hl) fun en w' hh => fin hh
  obtain ⟨g', e', _, _, hc⟩ := h.cellAt eSt_len hx
  cases e'
  have := hc 0 (by omega)
  rw [Nat.mul_one, Nat.add_zero] at this
  rw [Nat.zero_add, this]; rfl
theorem rowRd {α ρ : Type} {own : OwnM ρ} {r : ρ} {w : World} {e : TypeId} {enc : α → List Value} {f : α → Value} (he : ∀ x, enc x = [f x]) {s : SL} {xs : List α} (h : RowR own r e 1 enc w s xs) {i : Nat} (hi : i < xs.length) :
  (0 ≤ ((i : Nat) : Int) ∧ ((i : Nat) : Int) < (s.2.1 : Nat)) ∧ ∃ b, s.1 = some b ∧ w.cell? (b.add (((i : Nat) : Int).toNat * 1)) = some (f xs[i]) := by
 have hl := h.len
 obtain ⟨g, l, c, e1, _, _, hc⟩ := h.at_ (fun x => by rw [he]; rfl) hi
 subst e1
 refine ⟨⟨by omega, by simp only at hl ⊢; omega⟩, _, rfl, ?_⟩
 have := hc 0 (by omega)
 rw [Nat.mul_one, Nat.add_zero] at this
 rw [Int.toNat_natCast, Nat.mul_one, add_mk, Nat.zero_add, this, he]; rfl
theorem flat_one' {α : Type} {enc : α → List Value} {f : α → Value} (he : ∀ x, enc x = [f x]) (xs : List α) : xs.flatMap enc = xs.map f := by
 induction xs with
 | nil => rfl
 | cons x xs ih => rw [List.flatMap_cons, ih, he]; rfl
theorem rowWr {α ρ : Type} {own : OwnM ρ} {r : ρ} {w : World} {e : TypeId} {enc : α → List Value} {f : α → Value} (he : ∀ x, enc x = [f x]) {s : SL} {xs : List α} (h : RowR own r e 1 enc w s xs) {i : Nat} (hi : i < xs.length) (v : α) {F : World → Prop}
  (k : ∀ w', RowR own r e 1 enc w' s (xs.set i v) → Upd own own r w w' → F w') : ∃ b, s.1 = some b ∧ SetK w (b.add (((i : Nat) : Int).toNat * 1)) (f v) F := by
 obtain ⟨g, l, c, e1, _⟩ := h.at_ (fun x => by rw [he]; rfl) hi
 subst e1
 refine ⟨_, rfl, ?_⟩
 rw [Int.toNat_natCast, Nat.mul_one, add_mk, Nat.zero_add]
 exact RowR.set h i _ (by omega) (by simp) (by rw [flat_one' he, flat_one' he, List.map_set]) k
theorem eSt_f (x : ByteArray) : eSt x = [(Value.string) x] := rfl
theorem eI_f (x : Int) : eI x = [(Value.int .i64) x] := rfl
def nmB (n : Nat) : ByteArray := if n = 0 then ⟨#[]⟩ else ⟨(nameT n).toArray⟩
theorem nmB_pos {n : Nat} (h : n ≠ 0) : bl (nmB n) = nameT n := by unfold nmB; rw [if_neg h]; simp [bl]
theorem nmB_ne {n : Nat} (h : n ≠ 0) : nmB n ≠ ⟨#[]⟩ := fun e => by
 have := nmB_pos h; rw [e] at this; simp [bl, nameT] at this
structure Wr (w0 w : World) (own : OwnM Nat) (bw : Nat) (l : List Nd) (root : Int) (sn sp sm : SL) (st : TS) : Prop where
 loc : Mine own w0 w
 box : Bx own 0 w bw #[.int .i64 root, .slice sn.1 sn.2.1 sn.2.2, .slice sp.1 sp.2.1 sp.2.2, .slice sm.1 sm.2.1 sm.2.2, .int .i64 (st.cnt : Nat)] 45
 nds : RNds w0 sn.1 sn.2.1 l
 plc : RowR own 1 3 1 eI w sp (zs ((List.range l.length).map (plc l)))
 nms : RowR own 2 9 1 eSt w sm (st.nm.map nmB)
section
variable {w0 w w' : World} {own : OwnM Nat} {bw : Nat} {l : List Nd} {root : Int} {sn sp sm : SL} {st : TS}
theorem Wr.ext (h : Wr w0 w own bw l root sn sp sm st) (x : Ext w w') : Wr w0 w' own bw l root sn sp sm st :=
 ⟨h.loc.ext x, h.box.ext x, h.nds, h.plc.ext x, h.nms.ext x⟩
theorem Wr.grow {base : Nat} (h : Wr w0 w own bw l root sn sp sm st) (x : Below base w w') (hb : w0.heap.size ≤ base) (ho : ∀ k, base ≤ k → own k = none) : Wr w0 w' own bw l root sn sp sm st := by
 have fr : ∀ c, c < w.heap.size → own c ≠ none → w'.heap[c]? = w.heap[c]? := fun c _ hc => x.block c (Classical.byContradiction fun hn => hc (ho c (by omega)))
 have y := h.loc.below
 refine ⟨⟨⟨x.os.trans y.os, x.tape.trans y.tape, x.output.trans y.output, Nat.le_trans y.size x.size, fun c hc _ => (x.block c (by omega)).trans (y.block c hc), fun c hc _ => h.loc.fr.free c hc rfl⟩, fun c hc => h.loc.top c (Nat.le_trans x.size hc)⟩, ⟨?_, h.box.own⟩, h.nds, h.plc.frame fr, h.nms.frame fr⟩
 exact (fr bw h.box.blk.lt (by rw [h.box.own]; simp)).trans h.box.blk
theorem Wr.cells (h : Wr w0 w own bw l root sn sp sm st) : w.cell? ((⟨bw, 0, none⟩ : Addr).add 1) = some (.slice sn.1 sn.2.1 sn.2.2) ∧ w.cell? ((⟨bw, 0, none⟩ : Addr).add 2) = some (.slice sp.1 sp.2.1 sp.2.2) ∧
  w.cell? ((⟨bw, 0, none⟩ : Addr).add 3) = some (.slice sm.1 sm.2.1 sm.2.2) ∧ w.cell? ((⟨bw, 0, none⟩ : Addr).add 4) = some (.int .i64 (st.cnt : Nat)) := by
 refine ⟨?_, ?_, ?_, ?_⟩ <;> rw [add_mk, h.box.blk.cell] <;> rfl
theorem Wr.node (h : Wr w0 w own bw l root sn sp sm st) (x : Ext w0 w') {i : Nat} (hi : i < l.length) :
  (0 ≤ ((i : Nat) : Int) ∧ ((i : Nat) : Int) < (sn.2.1 : Nat)) ∧ ∃ b, sn.1 = some b ∧ w'.cell? ((b.add (((i : Nat) : Int).toNat * 5)).add 0) = some (.string (nd l i).kd) ∧ w'.cell? ((b.add (((i : Nat) : Int).toNat * 5)).add 1) = some (.int .i64 (nd l i).n) ∧ w'.cell? ((b.add (((i : Nat) : Int).toNat * 5)).add 2) = some (.string (nd l i).tx) ∧
   (∃ a l' c, w'.cell? ((b.add (((i : Nat) : Int).toNat * 5)).add 3) = some (.slice a l' c) ∧ RL 2 RFt w' a l' (nd l i).fs) ∧ (∃ a l' c, w'.cell? ((b.add (((i : Nat) : Int).toNat * 5)).add 4) = some (.slice a l' c) ∧ RL 1 RInt w' a l' (nd l i).ks) := by
 have hl := h.nds.len
 obtain ⟨b, ha, n0, n1, n2, n3, n4, n5, n7, _⟩ := ndAt h.nds x hi
 rw [nd_get hi]
 exact ⟨⟨by omega, by omega⟩, b, ha, n0, n1, n2, n5, n7⟩
theorem Wr.place (h : Wr w0 w own bw l root sn sp sm st) {i : Nat} (hi : i < l.length) : (0 ≤ ((i : Nat) : Int) ∧ ((i : Nat) : Int) < (sp.2.1 : Nat)) ∧ ∃ b, sp.1 = some b ∧ w.cell? (b.add (((i : Nat) : Int).toNat * 1)) = some (.int .i64 (Gr.plc l i : Nat)) := by
 obtain ⟨p1, b, p2, p3⟩ := rowRd eI_f h.plc (i := i) (by simp [zs]; exact hi)
 refine ⟨p1, b, p2, ?_⟩
 rw [p3]; simp [zs]
theorem Wr.name_ (h : Wr w0 w own bw l root sn sp sm st) (ok : TOk l st) {i : Nat} (hi : i < l.length) : (0 ≤ ((i : Nat) : Int) ∧ ((i : Nat) : Int) < (sm.2.1 : Nat)) ∧ ∃ b, sm.1 = some b ∧ w.cell? (b.add (((i : Nat) : Int).toNat * 1)) = some (.string (nmB (st.nam i))) := by
 have hl := ok.len
 obtain ⟨p1, b, p2, p3⟩ := rowRd eSt_f h.nms (i := i) (by simp; omega)
 refine ⟨p1, b, p2, ?_⟩
 rw [p3]
 unfold TS.nam
 simp [List.getElem?_eq_getElem (show i < st.nm.length by omega)]
theorem ctr29 (h : Wr w0 w own bw l root sn sp sm st) {i : Nat} (hi : i < l.length) :
  Calls Tryz.prog 29 #[.pointer (some ⟨bw, 0, none⟩), .int .i64 (i : Int)] w fun en w' => ∃ p, en = .returned (.bool p) ∧ (p = (decide (1 < Gr.plc l i) && decide ((nd l i).fs ≠ [])) ∧ w' = w) := by
 refine calls29 _ _ _ w ?_
 obtain ⟨c1, c2, c3, c4⟩ := h.cells
 obtain ⟨p1, b5, p2, p3⟩ := h.place hi
 unfold N29
 refine adK rfl ?_
 refine ⟨_, _, _, c2, p1, adK p2 ⟨_, p3, BoolK.mk (fun t => ?_) (fun t => ?_)⟩⟩
 ·have t := of_decide_eq_true t
  obtain ⟨q1, b9, q2, _, _, _, ⟨a10, l10, c10, q6, q7⟩, _⟩ := h.node h.loc.below hi
  have e := q7.len
  refine adK rfl ?_
  refine ⟨_, _, _, c1, q1, adK q2 ⟨_, _, _, q6, ?_, rfl⟩⟩
  rw [decide_eq_true (p := 1 < Gr.plc l i) (by omega), Bool.true_and, decide_eq_decide, e]
  constructor
  ·intro h e; rw [e] at h; simp at h
  ·intro h
   have := List.length_pos_iff.2 h
   omega
 ·have t := of_decide_eq_false t
  refine ⟨?_, rfl⟩
  rw [decide_eq_false (p := 1 < Gr.plc l i) (by omega)]; rfl
end
end Go.Proofs.YtbiamhoonhjodadGreatDoor

namespace Go.Proofs.YtbiamhoonhjodadGreatDoor
open Go Go.V Go.Proofs
open Go.RowKit (Below)
/-! (*manystrand/graph.writer).record -/
def N30 (o1 : Option Addr) (x2 : Int) (K : ByteArray → World → Prop) (w : World) : Prop :=
 AddrK o1 fun b3 =>
 ∃ a4 l4 c4, w.cell? (b3.add 1) = some (.slice a4 l4 c4) ∧
 ((0 ≤ x2 ∧ x2 < l4) ∧
 AddrK a4 fun b5 =>
 ∃ s6, w.cell? ((b5.add (x2.toNat * 5)).add 0) = some (.string s6) ∧
 (∃ x7, w.cell? ((b5.add (x2.toNat * 5)).add 1) = some (.int .i64 x7) ∧
 (∃ s8, w.cell? ((b5.add (x2.toNat * 5)).add 2) = some (.string s8) ∧
 (∃ a9 l9 c9, w.cell? ((b5.add (x2.toNat * 5)).add 3) = some (.slice a9 l9 c9) ∧
 (∃ a10 l10 c10, w.cell? ((b5.add (x2.toNat * 5)).add 4) = some (.slice a10 l10 c10) ∧
 (AllocK w (#[.string ⟨#[]⟩, .int .i64 0, .string ⟨#[]⟩, .slice none 0 0, .slice none 0 0]) 30 fun b11 w12 =>
 SetK w12 (b11.add 0) (.string s6) fun w13 =>
 SetK w13 (b11.add 1) (.int .i64 x7) fun w14 =>
 SetK w14 (b11.add 2) (.string s8) fun w15 =>
 SetK w15 (b11.add 3) (.slice a9 l9 c9) fun w16 =>
 SetK w16 (b11.add 4) (.slice a10 l10 c10) fun w17 =>
 ∃ s18, w17.cell? (b11.add 0) = some (.string s18) ∧
 (∃ x19, w17.cell? (b11.add 1) = some (.int .i64 x19) ∧
 (∃ s20, w17.cell? (b11.add 2) = some (.string s20) ∧
 (∃ a21 l21 c21, w17.cell? (b11.add 3) = some (.slice a21 l21 c21) ∧
 (∃ a22 l22 c22, w17.cell? (b11.add 4) = some (.slice a22 l22 c22) ∧
 (Calls Tryz.prog 62 #[(.agg #[(.string s18), (.int .i64 x19), (.string s20), (.slice a21 l21 c21), (.slice a22 l22 c22)])] w17 fun e25 w24 =>
 ∃ p23, e25 = .returned (.bool p23) ∧
 (BoolK p23
 (AddrK o1 fun b26 =>
 ∃ a27 l27 c27, w24.cell? (b26.add 1) = some (.slice a27 l27 c27) ∧
 (Calls Tryz.prog 63 #[(.slice a27 l27 c27), (.int .i64 x2)] w24 fun e31 w30 =>
 ∃ a28, ∃ l28, ∃ c28, ∃ p29, e31 = .returned (.tuple #[(.slice a28 l28 c28), (.bool p29)]) ∧
 (0 ≤ (1 : Int) ∧
 (((1 : Int).toNat ≤ l28 ∧ l28 ≤ c28) ∧
 (∃ (I32 : Bool → Int → World → Prop) (μ33 : Bool → Int → World → Nat),
 (I32 p29 0 w30 ∧ True) ∧
 ∀ w34 p35 x36, I32 p35 x36 w34 →
 BoolK (decide (x36 < (l28 - (1 : Int).toNat : Nat)))
 ((0 ≤ x36 ∧ x36 < (l28 - (1 : Int).toNat : Nat)) ∧
 AddrK (if c28 = (1 : Int).toNat then a28 else (a28).map (·.add ((1 : Int).toNat * 1))) fun b37 =>
 ∃ x38, w34.cell? (b37.add (x36.toNat * 1)) = some (.int .i64 x38) ∧
 (BoolK p35
 (Calls Tryz.prog 29 #[(.pointer o1), (.int .i64 x38)] w34 fun e41 w40 =>
 ∃ p39, e41 = .returned (.bool p39) ∧
 (I32 (!p39) (IntKind.wrap .i64 (x36 + 1)) w40 ∧ μ33 (!p39) (IntKind.wrap .i64 (x36 + 1)) w40 < μ33 p35 x36 w34))
 (I32 false (IntKind.wrap .i64 (x36 + 1)) w34 ∧ μ33 false (IntKind.wrap .i64 (x36 + 1)) w34 < μ33 p35 x36 w34)))
 (BoolK (!p35)
 (DrewK w34 fun w42 =>
 ∃ v43, Cel v43 w42 ∧
 (∃ a44 l44 c44, v43.cell? (b11.add 4) = some (.slice a44 l44 c44) ∧
 ((0 ≤ (0 : Int) ∧ (0 : Int) < l44) ∧
 AddrK a44 fun b45 =>
 ∃ x46, v43.cell? (b45.add ((0 : Int).toNat * 1)) = some (.int .i64 x46) ∧
 (∃ a47 l47 c47, v43.cell? (b11.add 4) = some (.slice a47 l47 c47) ∧
 ((0 ≤ (1 : Int) ∧ (1 : Int) < l47) ∧
 AddrK a47 fun b48 =>
 ∃ x49, v43.cell? (b48.add ((1 : Int).toNat * 1)) = some (.int .i64 x49) ∧
 (Calls Tryz.prog 13 #[(.pointer o1), (.int .i64 x46)] w42 fun e52 w51 =>
 ∃ s50, e52 = .returned (.string s50) ∧
 (Cel v43 w51 ∧
 ((((⟨#[40]⟩ : ByteArray).size + s50.size : Nat) : Int) ≤ IntKind.i64.max ∧
 (((((⟨#[40]⟩ : ByteArray) ++ s50 : ByteArray).size + (⟨#[124]⟩ : ByteArray).size : Nat) : Int) ≤ IntKind.i64.max ∧
 (Calls Tryz.prog 13 #[(.pointer o1), (.int .i64 x49)] w51 fun e55 w54 =>
 ∃ s53, e55 = .returned (.string s53) ∧
 ((((((⟨#[40]⟩ : ByteArray) ++ s50 : ByteArray) ++ (⟨#[124]⟩ : ByteArray) : ByteArray).size + s53.size : Nat) : Int) ≤ IntKind.i64.max ∧
 (((((((⟨#[40]⟩ : ByteArray) ++ s50 : ByteArray) ++ (⟨#[124]⟩ : ByteArray) : ByteArray) ++ s53 : ByteArray).size + (⟨#[41]⟩ : ByteArray).size : Nat) : Int) ≤ IntKind.i64.max ∧
 (K (((((⟨#[40]⟩ : ByteArray) ++ s50 : ByteArray) ++ (⟨#[124]⟩ : ByteArray) : ByteArray) ++ s53 : ByteArray) ++ (⟨#[41]⟩ : ByteArray)) w54)))))))))))))
 (∃ (I56 : Option Addr → Nat → Nat → Int → World → Prop) (μ57 : Option Addr → Nat → Nat → Int → World → Nat),
 (I56 none 0 0 0 w34 ∧ True) ∧
 ∀ w58 a59 l59 c59 x60, I56 a59 l59 c59 x60 w58 →
 BoolK (decide (x60 < l28))
 ((0 ≤ x60 ∧ x60 < l28) ∧
 AddrK a28 fun b61 =>
 ∃ x62, w58.cell? (b61.add (x60.toNat * 1)) = some (.int .i64 x62) ∧
 (AddrK o1 fun b63 =>
 ∃ a64 l64 c64, w58.cell? (b63.add 1) = some (.slice a64 l64 c64) ∧
 ((0 ≤ x62 ∧ x62 < l64) ∧
 AddrK a64 fun b65 =>
 ∃ a66 l66 c66, w58.cell? ((b65.add (x62.toNat * 5)).add 4) = some (.slice a66 l66 c66) ∧
 ((0 ≤ (0 : Int) ∧ (0 : Int) < l66) ∧
 AddrK a66 fun b67 =>
 ∃ x68, w58.cell? (b67.add ((0 : Int).toNat * 1)) = some (.int .i64 x68) ∧
 (Calls Tryz.prog 13 #[(.pointer o1), (.int .i64 x68)] w58 fun e71 w70 =>
 ∃ s69, e71 = .returned (.string s69) ∧
 (AllocK w70 (#[(.string s69)]) 9 fun b72 w73 =>
 ∃ a74, ∃ l74, ∃ c74, ∃ w75, Sem.run Tryz.prog (Builtin.append_ #[43, 43] 43 #[(.slice a59 l59 c59), (.slice (some b72) 1 1)]) w73 = .ok (.slice a74 l74 c74) w75 ∧
 (I56 a74 l74 c74 (IntKind.wrap .i64 (x60 + 1)) w75 ∧ μ57 a74 l74 c74 (IntKind.wrap .i64 (x60 + 1)) w75 < μ57 a59 l59 c59 x60 w58)))))))
 (Calls Tryz.prog 64 #[(.slice a59 l59 c59), (.string (⟨#[32]⟩ : ByteArray))] w58 fun e78 w77 =>
 ∃ s76, e78 = .returned (.string s76) ∧
 ((((⟨#[91]⟩ : ByteArray).size + s76.size : Nat) : Int) ≤ IntKind.i64.max ∧
 (((((⟨#[91]⟩ : ByteArray) ++ s76 : ByteArray).size + (⟨#[93]⟩ : ByteArray).size : Nat) : Int) ≤ IntKind.i64.max ∧
 (K (((⟨#[91]⟩ : ByteArray) ++ s76 : ByteArray) ++ (⟨#[93]⟩ : ByteArray)) w77)))))))))))
 (∃ s79, w24.cell? (b11.add 0) = some (.string s79) ∧
 (∃ x80, w24.cell? (b11.add 1) = some (.int .i64 x80) ∧
 (∃ s81, w24.cell? (b11.add 2) = some (.string s81) ∧
 (∃ a82 l82 c82, w24.cell? (b11.add 3) = some (.slice a82 l82 c82) ∧
 (∃ a83 l83 c83, w24.cell? (b11.add 4) = some (.slice a83 l83 c83) ∧
 (Calls Tryz.prog 65 #[(.agg #[(.string s79), (.int .i64 x80), (.string s81), (.slice a82 l82 c82), (.slice a83 l83 c83)])] w24 fun e86 w85 =>
 ∃ p84, e86 = .returned (.bool p84) ∧
 (∃ a87 l87 c87, w85.cell? (b11.add 4) = some (.slice a87 l87 c87) ∧
 (∃ (I88 : Option Addr → Nat → Nat → Int → World → Prop) (μ89 : Option Addr → Nat → Nat → Int → World → Nat),
 (I88 none 0 0 0 w85 ∧ True) ∧
 ∀ w90 a91 l91 c91 x92, I88 a91 l91 c91 x92 w90 →
 BoolK (decide (x92 < l87))
 ((0 ≤ x92 ∧ x92 < l87) ∧
 AddrK a87 fun b93 =>
 ∃ x94, w90.cell? (b93.add (x92.toNat * 1)) = some (.int .i64 x94) ∧
 (Calls Tryz.prog 13 #[(.pointer o1), (.int .i64 x94)] w90 fun e97 w96 =>
 ∃ s95, e97 = .returned (.string s95) ∧
 (∃ (J98 : ByteArray → World → Prop),
 (∀ w99 s100, J98 s100 w99 →
 AllocK w99 (#[(.string s100)]) 9 fun b101 w102 =>
 ∃ a103, ∃ l103, ∃ c103, ∃ w104, Sem.run Tryz.prog (Builtin.append_ #[43, 43] 43 #[(.slice a91 l91 c91), (.slice (some b101) 1 1)]) w102 = .ok (.slice a103 l103 c103) w104 ∧
 (I88 a103 l103 c103 (IntKind.wrap .i64 (x92 + 1)) w104 ∧ μ89 a103 l103 c103 (IntKind.wrap .i64 (x92 + 1)) w104 < μ89 a91 l91 c91 x92 w90)) ∧
 (BoolK (!p84)
 (∃ a105 l105 c105, w96.cell? (b11.add 3) = some (.slice a105 l105 c105) ∧
 ((0 ≤ x92 ∧ x92 < l105) ∧
 AddrK a105 fun b106 =>
 ∃ x107, w96.cell? ((b106.add (x92.toNat * 2)).add 0) = some (.int .i64 x107) ∧
 (∃ s108, w96.cell? ((b106.add (x92.toNat * 2)).add 1) = some (.string s108) ∧
 (Calls Tryz.prog 66 #[(.agg #[(.int .i64 x107), (.string s108)])] w96 fun e111 w110 =>
 ∃ s109, e111 = .returned (.string s109) ∧
 (((s109.size + (⟨#[58]⟩ : ByteArray).size : Nat) : Int) ≤ IntKind.i64.max ∧
 ((((s109 ++ (⟨#[58]⟩ : ByteArray) : ByteArray).size + s95.size : Nat) : Int) ≤ IntKind.i64.max ∧
 (J98 ((s109 ++ (⟨#[58]⟩ : ByteArray) : ByteArray) ++ s95) w110)))))))
 (J98 s95 w96)))))
 (BoolK p84
 (Calls Tryz.prog 64 #[(.slice a91 l91 c91), (.string (⟨#[35]⟩ : ByteArray))] w90 fun e114 w113 =>
 ∃ s112, e114 = .returned (.string s112) ∧
 ((((⟨#[40]⟩ : ByteArray).size + s112.size : Nat) : Int) ≤ IntKind.i64.max ∧
 (((((⟨#[40]⟩ : ByteArray) ++ s112 : ByteArray).size + (⟨#[41]⟩ : ByteArray).size : Nat) : Int) ≤ IntKind.i64.max ∧
 (K (((⟨#[40]⟩ : ByteArray) ++ s112 : ByteArray) ++ (⟨#[41]⟩ : ByteArray)) w113))))
 (∃ s115, w90.cell? (b11.add 2) = some (.string s115) ∧
 (Calls Tryz.prog 28 #[(.string s115)] w90 fun e118 w117 =>
 ∃ s116, e118 = .returned (.string s116) ∧
 (((s116.size + (⟨#[40]⟩ : ByteArray).size : Nat) : Int) ≤ IntKind.i64.max ∧
 (Calls Tryz.prog 64 #[(.slice a91 l91 c91), (.string (⟨#[32]⟩ : ByteArray))] w117 fun e121 w120 =>
 ∃ s119, e121 = .returned (.string s119) ∧
 ((((s116 ++ (⟨#[40]⟩ : ByteArray) : ByteArray).size + s119.size : Nat) : Int) ≤ IntKind.i64.max ∧
 (((((s116 ++ (⟨#[40]⟩ : ByteArray) : ByteArray) ++ s119 : ByteArray).size + (⟨#[41]⟩ : ByteArray).size : Nat) : Int) ≤ IntKind.i64.max ∧
 (K (((s116 ++ (⟨#[40]⟩ : ByteArray) : ByteArray) ++ s119 : ByteArray) ++ (⟨#[41]⟩ : ByteArray)) w120))))))))))))))))))))))))))))
def ann30 : Ann := (.two .nil (.two .nil (.two (.two .nil (.two (.two .nil (.two (.two .nil (.one (.loop [(7, (.one .bool)), (41, (.one (.int .i64)))] [0, 5, 6, 39, 40] (.two .nil (.two (.two .nil .nil) (.two (.one (.two .nil .nil)) .nil)))))) (.two (.two .nil (.two (.two (.anyD 17 (.take 0 (.take 1 (.take 2 (.take 3 (.take 4 (.take 8 (.take 9 (.take 10 (.take 11 (.take 12 (.one 5 (.take 6 (.take 7 (.one 13 (.take 14 (.take 15 (.take 16 .done)))))))))))))))))) .nil) .nil)) (.two .nil (.two (.two .nil (.one (.loop [(10, (.one .slice)), (73, (.one (.int .i64)))] [0, 71, 72] (.two .nil (.two (.two .nil .nil) (.two (.one (.two .nil .nil)) .nil)))))) (.two .nil .nil)))))) .nil)) (.two .nil (.two .nil (.two (.two .nil (.one (.loop [(13, (.one .slice)), (103, (.one (.int .i64)))] [0, 5, 14, 101, 102] (.two .nil (.two (.two .nil .nil) (.two (.one (.two .nil (.two .nil (.cut [(17, (.one .str))] [0, 5, 13, 14, 101, 102, 103] (.two .nil (.two .nil .nil)) .nil)))) .nil)))))) (.two (.two .nil (.two (.two .nil .nil) .nil)) (.two .nil .nil))))))))
noncomputable def code30 : Code := match Tryz.f30.body with | some c => c | none => .skip
theorem calls30 (o1 : Option Addr) (x2 : Int) (K : ByteArray → World → Prop) (w : World) (h : N30 o1 x2 K w) : Calls Tryz.prog 30 #[(.pointer o1), (.int .i64 x2)] w fun en w' => ∃ (s122 : ByteArray), en = .returned (.string s122) ∧ K s122 w' :=
 fn_calls tabOk mixed Tryz.func30 (by kernel_rfl : Tryz.f30.body = some code30) ann30 [(.pointer o1), (.int .i64 x2)] [(.one .str)] K w (by kernel_rfl) (by kernel_rfl) (by kernel_rfl) h
end Go.Proofs.YtbiamhoonhjodadGreatDoor

namespace Go.Proofs.YtbiamhoonhjodadGreatDoor
open Go Go.V Go.Proofs Go.V.Gr
open Go.RowKit (Below)
structure Kb (own : OwnM Nat) (base : Nat) (w w' : World) : Prop where
 os : w'.os = w.os
 tape : w'.tape = w.tape
 output : w'.output = w.output
 size : w.heap.size ≤ w'.heap.size
 block : ∀ k, k < base → k < w.heap.size → own k = none → w'.heap[k]? = w.heap[k]?
theorem Kb.refl (own : OwnM Nat) (base : Nat) (w : World) : Kb own base w w := ⟨rfl, rfl, rfl, Nat.le_refl _, fun _ _ _ _ => rfl⟩
theorem Kb.fr {own : OwnM Nat} {base : Nat} {a b c : World} (h : Kb own base a b) (k : Fr own own b c) : Kb own base a c :=
 ⟨k.os.trans h.os, k.tape.trans h.tape, k.output.trans h.output, Nat.le_trans h.size k.size, fun i h1 h2 h3 => (k.block i (Nat.lt_of_lt_of_le h2 h.size) h3).trans (h.block i h1 h2 h3)⟩
theorem Kb.below {own : OwnM Nat} {base : Nat} {a b c : World} (h : Kb own base a b) (k : Below base b c) : Kb own base a c :=
 ⟨k.os.trans h.os, k.tape.trans h.tape, k.output.trans h.output, Nat.le_trans h.size k.size, fun i h1 h2 h3 => (k.block i h1).trans (h.block i h1 h2 h3)⟩
theorem Kb.toFr {own : OwnM Nat} {base : Nat} {w a b : World} (h : Kb own base a b) (x : Fr own own w a) (hb : w.heap.size ≤ base) : Fr own own w b :=
 ⟨h.os.trans x.os, h.tape.trans x.tape, h.output.trans x.output, Nat.le_trans x.size h.size, fun k h1 h2 => (h.block k (by omega) (Nat.lt_of_lt_of_le h1 x.size) h2).trans (x.block k h1 h2), fun _ _ h => h⟩
theorem sltSt : SlT Tryz.prog 43 9 1 16 := slOk.ok (by kernel_rfl : slOk Tryz.prog 43 9 1 16 = true)
theorem eSt_one (x : ByteArray) (u : Value) (h : u ∈ eSt x) : u.oneCell' = true := by simp [eSt] at h; subst h; rfl
theorem zip_snoc {α β γ : Type} (g : α → β → γ) : ∀ {fs : List α} {ps : List β} {p : β} (h : ps.length < fs.length), List.zipWith g fs (ps ++ [p]) = List.zipWith g fs ps ++ [g fs[ps.length] p]
 | [], _, _, h => by simp at h
 | f :: fs, [], p, _ => by simp
 | f :: fs, q :: ps, p, h => by
  simp only [List.cons_append, List.zipWith_cons_cons, List.length_cons, List.getElem_cons_succ]
  rw [zip_snoc g (by simpa using h)]
theorem join_two (a b : List UInt8) (c : UInt8) : Lib.join [a, b] [c] = a ++ c :: b := by simp [Lib.join, List.intercalate]
def NodeC (w0 : World) (own : OwnM Nat) (bw : Nat) (l : List Nd) (root : Int) (sn sp sm : SL) (f : Nat) : Prop :=
 ∀ (st : TS) (i : Nat) (w : World), Wr w0 w own bw l root sn sp sm st → TOk l st → i < l.length → bnd l (un l st) i ≤ f →
  Calls Tryz.prog 13 #[.pointer (some ⟨bw, 0, none⟩), .int .i64 (i : Int)] w fun en w' => ∃ t, en = .returned (.string t) ∧
   (bl t = (tellF l f st i).1 ∧ Wr w0 w' own bw l root sn sp sm (tellF l f st i).2 ∧ Fr own own w w')
section
variable {w0 w w' : World} {own : OwnM Nat} {bw : Nat} {l : List Nd} {root : Int} {sn sp sm : SL} {st : TS}
theorem Wr.free (h : Wr w0 w own bw l root sn sp sm st) {k : Nat} (hk : k < w0.heap.size) : own k = none := h.loc.fr.free k hk rfl
theorem chain_flag (g : LG l) {i k : Nat} (C : ChR l i k) (h0 : 0 < k) (hend : isConsD (nd l (tl l i k)) = false ∨ ∃ j, j < k ∧ tl l i k = tl l i j) {p : Bool}
  (hp : p = (isNilD (nd l (tl l i k)) && (List.range (k - 1)).all fun j => decide (plc l (tl l i (j + 1)) ≤ 1))) : (p = true → chainD l i = some ((List.range k).map (tl l i))) ∧ (p = false → chainD l i = none) := by
 have hall : ((List.range (k - 1)).all fun j => decide (plc l (tl l i (j + 1)) ≤ 1)) = true ↔ ∀ j, 0 < j → j < k → plc l (tl l i j) ≤ 1 := by
  rw [List.all_eq_true]
  constructor
  ·intro h j h1 h2
   have := of_decide_eq_true (h (j - 1) (List.mem_range.2 (by omega)))
   rwa [show j - 1 + 1 = j by omega] at this
  ·intro h j hj
   exact decide_eq_true (h (j + 1) (by omega) (by have := List.mem_range.1 hj; omega))
 constructor
 ·intro e
  rw [e] at hp
  have hp := hp.symm
  rw [Bool.and_eq_true] at hp
  exact (chain_yes C.lt C.apart C.cons hp.1 h0).1 (hall.1 hp.2)
 ·intro e
  rw [e] at hp
  have hp := hp.symm
  rw [Bool.and_eq_false_iff] at hp
  by_cases hn : isNilD (nd l (tl l i k)) = true
  ·cases h : chainD l i with
   | none => rfl
   | some vs =>
    exfalso
    obtain ⟨q0, _, q2, q3, q4⟩ := chainD_iff.1 h
    have hv : vs.length = k := by
     rcases Nat.lt_trichotomy vs.length k with h1 | h1 | h1
     ·rw [cons_nil (C.cons _ h1)] at q4; cases q4
     ·exact h1
     ·rw [cons_nil (q3 k h1).1] at hn; cases hn
    rw [hv] at q3
    have := hall.2 fun j h1 h2 => (q3 j h2).2 h1
    rcases hp with hp | hp
    ·rw [hn] at hp; cases hp
    ·rw [this] at hp; cases hp
  ·have hn : isNilD (nd l (tl l i k)) = false := by simpa using hn
   rcases hend with h | ⟨j, hj, e⟩
   ·exact chain_no C.cons (.inl ⟨h, hn⟩)
   ·exact chain_no C.cons (.inr ⟨j, hj, e⟩)
theorem kids_two (g : LG l) {i : Nat} (hi : i < l.length) (hc : isConsD (nd l i) = true) : kids l i = [Gr.kid l i 0, Gr.kid l i 1] := by
 have h2 := cons_ks (g.nd hi) hc
 apply List.ext_getElem?
 intro m
 match m with
 | 0 => rw [kids_get (by omega)]; rfl
 | 1 => rw [kids_get (by omega)]; rfl
 | m + 2 => rw [List.getElem?_eq_none (by rw [kids_len]; omega)]; rfl
theorem kid_val (g : LG l) {i m : Nat} (hi : i < l.length) (hm : m < (nd l i).ks.length) : (nd l i).ks[m] = ((Gr.kid l i m : Nat) : Int) := by
 rw [Gr.kid, List.getElem?_eq_getElem hm, Option.getD_some]
 have := g.ok.closed (nd l i) (by rw [nd_get hi]; exact List.getElem_mem hi) _ (List.getElem_mem hm)
 omega
theorem tellsW_take {f : TS → Nat → List UInt8 × TS} {st : TS} {ks : List Nat} {m : Nat} (hm : m < ks.length) : tellsW f st (ks.take (m + 1)) = ((tellsW f st (ks.take m)).1 ++ [(f (tellsW f st (ks.take m)).2 ks[m]).1], (f (tellsW f st (ks.take m)).2 ks[m]).2) := by
 rw [List.take_add_one, List.getElem?_eq_getElem hm]
 exact tellsW_snoc
set_option maxRecDepth 100000 in
theorem ctr30 (g : LG l) (hk5 : ∀ x ∈ l, x.ks.length ≤ 5000) (ht : Tb w0) {f : Nat} (IH : NodeC w0 own bw l root sn sp sm f) (h : Wr w0 w own bw l root sn sp sm st) (ok : TOk l st) {i : Nat} (hi : i < l.length) (hl : leafT (nd l i) = none)
  (hb : ∀ k ∈ bodyKs l i, bnd l (un l st) k ≤ f) (hmax : (wrapT l i (tellsW (tellF l f) st (bodyKs l i)).1).length ≤ 3000000000000) :
  Calls Tryz.prog 30 #[.pointer (some ⟨bw, 0, none⟩), .int .i64 (i : Int)] w fun en w' => ∃ t, en = .returned (.string t) ∧
   (bl t = wrapT l i (tellsW (tellF l f) st (bodyKs l i)).1 ∧ Wr w0 w' own bw l root sn sp sm (tellsW (tellF l f) st (bodyKs l i)).2 ∧ Fr own own w w') := by
 refine calls30 _ _ _ w ?_
 unfold N30
 refine adK rfl ?_
 have hm1 := g.ok.most
 have hrec := leaf_rec hl
 have nok := g.nd hi
 have hlens := nok.lens
 have hks5 : (nd l i).ks.length ≤ 5000 := by rw [nd_get hi]; exact hk5 _ (List.getElem_mem hi)
 -- how far one may go
 have un_le : ∀ {ks : List Nat}, (∀ k ∈ ks, k ∈ bodyKs l i) → Grw l st (tellsW (tellF l f) st ks).2 := fun hks => tellsW_grow (P := fun k => k < l.length) (fun st k h hk => tellF_grow g f st k h hk) ok fun k hk => body_lt g hi (hks k hk)
 have call : ∀ {w1 : World} {st1 : TS} {k : Nat}, Wr w0 w1 own bw l root sn sp sm st1 → Grw l st st1 → k ∈ bodyKs l i → Calls Tryz.prog 13 #[.pointer (some ⟨bw, 0, none⟩), .int .i64 (k : Int)] w1 fun en w' => ∃ t, en = .returned (.string t) ∧
   ((bl t = (tellF l f st1 k).1 ∧ t.size ≤ 3000000000000) ∧ Wr w0 w' own bw l root sn sp sm (tellF l f st1 k).2 ∧ Fr own own w1 w') := fun hw gr hk => by
  refine (IH _ _ _ hw gr.ok (body_lt g hi hk) (Nat.le_trans (bnd_mono gr.un) (hb _ hk))).mono ?_
  rintro en w2 ⟨t, rfl, h1, h2, h3⟩
  refine ⟨_, rfl, ⟨h1, ?_⟩, h2, h3⟩
  rw [← bl_size, h1]; exact tellF_max g hk5 gr.ok (body_lt g hi hk)
 obtain ⟨c1, c2, c3, c4⟩ := h.cells
 obtain ⟨p1, b5, p2, p3, p4, p5, ⟨a9, l9, c9, p6, p7⟩, ⟨a10, l10, c10, p8, p9⟩⟩ := h.node h.loc.below hi
 refine ⟨_, _, _, c1, p1, adK p2 ⟨_, p3, _, p4, _, p5, _, _, _, p6, _, _, _, p8, ?_⟩⟩
 refine local5 fun b11 w17 hb11 hB11 x17 => ?_
 have ob11 : own b11 = none := h.loc.top b11 (by omega)
 obtain ⟨f0, f1, f2, f3, f4⟩ := blkAt5 hB11 (Ext.refl w17)
 refine ⟨_, by simpa [add_mk] using f0, _, f1, _, f2, _, _, _, f3, _, _, _, f4, ?_⟩
 have p7' := p7.ext RFt.mono x17
 have e9 := p7.len; have e10 := p9.len
 refine (ctr62 w17 (nd l i) c9 c10 p7').mono ?_
 rintro en w24 ⟨p23, rfl, hp23, x24a⟩
 have x24 := x17.trans x24a
 have h24 := h.ext x24
 have hB24 := hB11.ext x24a
 have free0 : ∀ {k : Nat}, w.heap.size ≤ k → own k = none := fun hk => h.loc.top _ hk
 -- the node's own lists, where they lie
 have kids0 : ∀ {w1 : World}, Ext w0 w1 → ∀ m, m < (nd l i).ks.length → ∃ b, a10 = some b ∧ b.block < w.heap.size ∧ own b.block = none ∧ (b.add (((m : Nat) : Int).toNat * 1)).block = b.block ∧ w1.cell? (b.add (((m : Nat) : Int).toNat * 1)) = some (.int .i64 (Gr.kid l i m : Nat)) := fun {w1} x m hm => by
  obtain ⟨_, b5', q2, _, _, _, _, ⟨a10', l10', c10', q8, q9⟩⟩ := h.node (Ext.refl w0) hi
  obtain ⟨_, b5'', q2', _, _, _, _, ⟨a10'', l10'', c10'', q8', q9'⟩⟩ := h.node h.loc.below hi
  rw [q2] at p2; cases p2
  have e := h.loc.below.cell q8
  rw [p8] at e; cases e
  obtain ⟨b, o, ha, hc⟩ := q9.1.get hm
  have hc : w0.cell? ⟨b, o + m * 1 + 0, none⟩ = _ := hc
  have hlt := block_lt_of_cell hc
  have hv := kid_val g hi hm
  refine ⟨⟨b, o, none⟩, ha, Nat.lt_of_lt_of_le hlt h.loc.below.size, h.free hlt, by rw [add_mk], ?_⟩
  rw [Int.toNat_natCast, add_mk, ← hv]
  exact x.cell hc
 refine ⟨_, rfl, BoolK.mk (fun t => ?_) (fun t => ?_)⟩
 ·have hcons : isConsD (nd l i) = true := by rw [← hp23]; exact t
  have hk2 := kids_two g hi hcons
  have hks2 := cons_ks nok hcons
  refine adK rfl ?_
  refine ⟨_, _, _, h24.cells.1, (ctr63 w24 sn.2.2 (RNds.at h24.nds h24.loc.below) g.ok.vl (by omega) hi).mono ?_⟩
  rintro en w30 ⟨a28, l28, c28, p29, rfl, ⟨k, C, hI, hfresh, hp29, hend⟩, x30⟩
  have x30' := x24.trans x30
  have h30 := h.ext x30'
  have hkpos : 0 < k := by
   rcases Nat.eq_zero_or_pos k with e | e
   ·subst e
    rcases hend with e | ⟨j, hj, _⟩
    ·rw [tl, hcons] at e; cases e
    ·omega
   ·exact e
  have l28e : l28 = k := by have := hI.len; rw [tlL_len] at this; exact this
  have hle := C.le
  refine ⟨_, _, _, _, rfl, by omega, ⟨by simp; omega, hI.2⟩, ?_⟩
  have hD : IC w30 (if c28 = (1 : Int).toNat then a28 else a28.map (·.add ((1 : Int).toNat * 1))) (l28 - (1 : Int).toNat) (c28 - (1 : Int).toNat) ((tlL l i k).drop 1) := hI.drop (k := 1) (by omega)
  have dl : l28 - (1 : Int).toNat = k - 1 := by rw [l28e]; rfl
  refine ⟨fun p x w' => ∃ m : Nat, x = m ∧ m ≤ k - 1 ∧ w30 = w' ∧ p = (isNilD (nd l (tl l i k)) && (List.range m).all fun j => decide (plc l (tl l i (j + 1)) ≤ 1)), fun _ x _ => k - 1 - x.toNat, ⟨⟨0, rfl, by omega, rfl, by rw [hp29]; simp⟩, trivial⟩, ?_⟩
  rintro _ p35 _ ⟨m, rfl, hm, rfl, hp35⟩
  rw [dl]
  refine BoolK.mk (fun t1 => ?_) (fun t1 => ?_)
  ·have hlt : m < k - 1 := by have := of_decide_eq_true t1; omega
   obtain ⟨b37, q1, q2⟩ := hD.at_ (Ext.refl w30) (i := m) (by rw [List.length_drop, tlL_len]; omega)
   have hv : ((tlL l i k).drop 1)[m]'(by rw [List.length_drop, tlL_len]; omega) = ((tl l i (m + 1) : Nat) : Int) := by
    simp only [tlL, zs, List.getElem_drop, List.getElem_map, List.getElem_range]
    rw [Nat.add_comm]
   rw [hv] at q2
   have hmc := C.cons (m + 1) (by omega)
   have hfs : (nd l (tl l i (m + 1))).fs ≠ [] := by
    simp only [isConsD, Bool.and_eq_true, decide_eq_true_eq] at hmc
    rw [hmc.2]; simp
   have hall : ((List.range (m + 1)).all fun j => decide (plc l (tl l i (j + 1)) ≤ 1)) = (((List.range m).all fun j => decide (plc l (tl l i (j + 1)) ≤ 1)) && decide (plc l (tl l i (m + 1)) ≤ 1)) := by
    rw [List.range_succ, List.all_append]; simp
   have hm' : k - 1 - (((m + 1 : Nat) : Int)).toNat < k - 1 - ((m : Nat) : Int).toNat := by simp; omega
   rw [wrap_succ (by omega)]
   refine ⟨⟨by omega, by omega⟩, adK q1 ⟨_, q2, BoolK.mk (fun t2 => ?_) (fun t2 => ⟨⟨m + 1, rfl, by omega, rfl, ?_⟩, hm'⟩)⟩⟩
   ·refine (ctr29 h30 (C.lt (m + 1) (by omega))).mono ?_
    rintro en w40 ⟨p39, rfl, hp39, rfl⟩
    refine ⟨_, rfl, ⟨m + 1, rfl, by omega, rfl, ?_⟩, hm'⟩
    rw [t2] at hp35
    have e := hp35.symm
    rw [Bool.and_eq_true] at e
    rw [hall, e.1, e.2, hp39, decide_eq_true hfs, Bool.and_true, Bool.true_and, Bool.true_and, ← decide_not, decide_eq_decide]; omega
   ·rw [t2] at hp35
    rw [hall, ← Bool.and_assoc, ← hp35]; rfl
  ·have hmk : m = k - 1 := by have := of_decide_eq_false t1; omega
   subst hmk
   obtain ⟨fl1, fl2⟩ := chain_flag g C hkpos hend hp35
   refine BoolK.mk (fun t2 => DrewK.mk fun w42 x42a => ?_) (fun t2 => ?_)
   ·-- no chain
    have hch := fl2 (by simpa using t2)
    have hbk : bodyKs l i = [Gr.kid l i 0, Gr.kid l i 1] := by unfold bodyKs; rw [hch]; exact hk2
    have hwr : ∀ a b, wrapT l i [a, b] = 40 :: ((a ++ 124 :: b) ++ [41]) := fun a b => by
     unfold wrapT; rw [hch]; simp only [hcons, if_true]; rw [join_two]
    rw [hbk] at hmax ⊢
    have x42 := x30'.trans x42a
    have h42 := h.ext x42
    have hB42 := hB24.ext (x30.trans x42a)
    have keepb : (fun k => (own k).isNone) b11 = true := by simp [ob11]
    obtain ⟨b45, r1, r2, r3, r4, r5⟩ := kids0 h42.loc.below 0 (by omega)
    obtain ⟨b48, s1, s2, s3, s4, s5⟩ := kids0 h42.loc.below 1 (by omega)
    refine ⟨cutW w42 fun k => (own k).isNone, cutW_cel fun k _ _ => rfl, ?_⟩
    have f4 : (cutW w42 fun k => (own k).isNone).cell? ((⟨b11, 0, none⟩ : Addr).add 4) = some (.slice a10 l10 c10) := by rw [cutW_cell (by rw [add_mk]; exact keepb)]; exact (blkAt5 hB42 (Ext.refl _)).2.2.2.2
    refine ⟨_, _, _, f4, ⟨by omega, by omega⟩, adK r1 ⟨(Gr.kid l i 0 : Nat), by rw [cutW_cell (by show (own (b45.add (((0 : Nat) : Int).toNat * 1)).block).isNone = true; rw [r4, r3]; rfl)]; exact r5, _, _, _, f4, ⟨by omega, by omega⟩, adK s1 ⟨(Gr.kid l i 1 : Nat), by rw [cutW_cell (by show (own (b48.add (((1 : Nat) : Int).toNat * 1)).block).isNone = true; rw [s4, s3]; rfl)]; exact s5, ?_⟩⟩⟩
    refine (call h42 (Grw.refl ok) (by rw [hbk]; simp)).mono ?_
    rintro en w51 ⟨t50, rfl, ⟨ht50, hz50⟩, h51, F51⟩
    have z1 : ∀ b : UInt8, (⟨#[b]⟩ : ByteArray).size = 1 := fun _ => rfl
    refine ⟨_, rfl, cutW_cel fun k hk hlt => F51.block k hlt (by simpa using hk), by rw [i64max, z1]; omega, by rw [i64max, szA, z1, z1]; omega, ?_⟩
    have gr1 := tellF_grow g f st (Gr.kid l i 0) ok (body_lt g hi (by rw [hbk]; simp))
    refine (call h51 gr1 (by rw [hbk]; simp)).mono ?_
    rintro en w54 ⟨t53, rfl, ⟨ht53, hz53⟩, h54, F54⟩
    refine ⟨_, rfl, by rw [i64max, szA, szA, z1, z1]; omega, by rw [i64max, szA, szA, szA, z1, z1, z1]; omega, ?_, h54, ((Fr.of_ext own x42).trans F51).trans F54⟩
    have b40 : ∀ b : UInt8, bl (⟨#[b]⟩ : ByteArray) = [b] := fun _ => rfl
    show bl _ = wrapT l i [(tellF l f st (Gr.kid l i 0)).1, (tellF l f (tellF l f st (Gr.kid l i 0)).2 (Gr.kid l i 1)).1]
    rw [hwr]
    simp only [bl_append, b40, ht50, ht53]
    simp
   ·-- a chain
    have hch := fl1 (by simpa using t2)
    have hbk : bodyKs l i = ((List.range k).map (tl l i)).map fun v => Gr.kid l v 0 := by unfold bodyKs; rw [hch]
    have hbl : (bodyKs l i).length = k := by rw [hbk]; simp
    have hbg : ∀ m (hm : m < k), (bodyKs l i)[m]'(by omega) = Gr.kid l (tl l i m) 0 := fun m hm => by simp [hbk]
    have hwr : ∀ ps, wrapT l i ps = 91 :: (Lib.join ps [32] ++ [93]) := fun ps => by unfold wrapT; rw [hch]
    rw [hwr] at hmax
    rw [hwr]
    refine ⟨fun a l' c x w' => ∃ (m : Nat) (ps : List ByteArray), x = m ∧ m ≤ k ∧ Wr w0 w' own bw l root sn sp sm (tellsW (tellF l f) st ((bodyKs l i).take m)).2 ∧ OwnR w30.heap.size 9 1 eSt w' a l' c ps ∧ ps.map bl = (tellsW (tellF l f) st ((bodyKs l i).take m)).1 ∧ Kb own w30.heap.size w30 w', fun _ _ _ x _ => k - x.toNat,
     ⟨⟨0, [], rfl, by omega, h30, OwnR.nil _ _ _ _ _, rfl, Kb.refl _ _ _⟩, trivial⟩, ?_⟩
    rintro w57 a58 l58 c58 _ ⟨m, ps, rfl, hm, h57, hO, hps, K57⟩
    have hpsl : ps.length = m := by
     have := congrArg List.length hps
     rw [List.length_map, tellsW_len, List.length_take] at this; omega
    have xs30 : w.heap.size ≤ w30.heap.size := x30'.size
    refine BoolK.mk (fun t3 => ?_) (fun t3 => ?_)
    ·have hlt : m < k := by have := of_decide_eq_true t3; omega
     have hI57 : IC w57 a28 l28 c28 (tlL l i k) := by
      refine ⟨Rows.block RInt.leaf hI.1 ?_, hI.2⟩
      rcases Rows.lt RInt.some0 hI.1 with e | e
      ·exact .inl e
      ·right
       intro p hp
       have hlt := e p hp
       exact K57.block _ hlt hlt (free0 (Nat.le_trans x24.size (hfresh p hp)))
     obtain ⟨b60, q1, q2⟩ := hI57.at_ (Ext.refl w57) (i := m) (by rw [tlL_len]; exact hlt)
     have hv : (tlL l i k)[m]'(by rw [tlL_len]; exact hlt) = ((tl l i m : Nat) : Int) := by simp [tlL, zs]
     rw [hv] at q2
     have htm := C.lt m (by omega)
     have hcm := cons_ks (g.nd htm) (C.cons m hlt)
     obtain ⟨r1, b64, r2, _, _, _, _, ⟨a65, l65, c65, r8, r9⟩⟩ := h57.node h57.loc.below htm
     have e65 := r9.len
     obtain ⟨b66, s1, s2⟩ := ksAt r9 (Ext.refl w57) (i := 0) (by omega)
     rw [kid_val g htm (by omega)] at s2
     refine ⟨⟨by omega, by omega⟩, adK q1 ⟨_, q2, adK rfl ⟨_, _, _, h57.cells.1, r1, adK r2 ⟨_, _, _, r8, ⟨by omega, by omega⟩, adK s1 ⟨_, s2, ?_⟩⟩⟩⟩⟩
     have gr := un_le (ks := (bodyKs l i).take m) fun k hk => List.mem_of_mem_take hk
     have hmem : Gr.kid l (tl l i m) 0 ∈ bodyKs l i := by rw [← hbg m hlt]; exact List.getElem_mem _
     refine (call h57 gr hmem).mono ?_
     rintro en w69 ⟨t68, rfl, ⟨ht68, hz68⟩, h69, F69⟩
     have hO69 := hO.kept fun b hb => F69.block b (hO.lt b hb).2 (free0 (by have := (hO.lt b hb).1; omega))
     have K69 := K57.fr F69
     refine ⟨_, rfl, OwnR.push t68 sltSt hO69 K69.size eSt_len eSt_one (by omega) rfl fun a' c' w' g1 g2 _ => ?_⟩
     have B74 := hO69.below K69.size g2
     have hnext := tellsW_take (f := tellF l f) (st := st) (ks := bodyKs l i) (m := m) (by omega)
     rw [hbg m hlt] at hnext
     rw [wrap_succ (by omega)]
     refine ⟨⟨m + 1, ps ++ [t68], rfl, by omega, ?_, g1, ?_, K69.below B74⟩, by simp; omega⟩
     ·rw [hnext]
      exact h69.grow B74 (Nat.le_trans h.loc.below.size xs30) fun k hk => free0 (by omega)
     ·rw [hnext, List.map_append, hps]; simp [ht68]
    ·have hmk : m = k := by have := of_decide_eq_false t3; omega
     subst hmk
     have htake : (bodyKs l i).take m = bodyKs l i := List.take_of_length_le (by omega)
     rw [htake] at hps h57
     have hj : Lib.join (ps.map bl) (bl (⟨#[32]⟩ : ByteArray)) = Lib.join (tellsW (tellF l f) st (bodyKs l i)).1 [32] := by rw [hps]; rfl
     have hjl : (Lib.join (tellsW (tellF l f) st (bodyKs l i)).1 [32]).length ≤ 3000000000000 := by simp at hmax; omega
     refine (xtr64 w57 hO ⟨#[32]⟩ (by omega) (by rw [hj]; omega)).mono ?_
     rintro en w76 ⟨t75, rfl, ht75, x76⟩
     rw [hj] at ht75
     have hz75 : t75.size ≤ 3000000000000 := by rw [← bl_size, ht75]; exact hjl
     have z1 : ∀ b : UInt8, (⟨#[b]⟩ : ByteArray).size = 1 := fun _ => rfl
     have b40 : ∀ b : UInt8, bl (⟨#[b]⟩ : ByteArray) = [b] := fun _ => rfl
     refine ⟨_, rfl, by rw [i64max, z1]; omega, by rw [i64max, szA, z1, z1]; omega, ?_, h57.ext x76, (K57.fr (Fr.of_ext own x76)).toFr (Fr.of_ext own x30') xs30⟩
     simp only [bl_append, b40, ht75]
     simp
 ·have hcons : isConsD (nd l i) = false := by rw [← hp23]; exact t
  have hch : chainD l i = none := by rw [chainD, if_neg (by rw [hcons]; decide)]
  have hbk : bodyKs l i = kids l i := by unfold bodyKs; rw [hch]
  have hkd : (nd l i).kd = kRec := by
   rcases nok with hh | hh | hh | hh
   ·exact absurd hh.1 hrec.1
   ·exact absurd hh.1 hrec.2.1
   ·exact absurd hh.1 hrec.2.2.1
   ·exact hh.1
  have hro := (NdOk.rec_iff hkd).1 nok
  obtain ⟨f0, f1, f2, f3, f4⟩ := blkAt5 hB24 (Ext.refl w24)
  refine ⟨_, by simpa [add_mk] using f0, _, f1, _, f2, _, _, _, f3, _, _, _, f4, (ctr65 w24 (nd l i) c9 c10 (p7.ext RFt.mono x24)).mono ?_⟩
  rintro en w84 ⟨p83, rfl, hp83, x84a⟩
  have x84 := x24.trans x84a
  have h84 := h.ext x84
  have hB84 := hB24.ext x84a
  refine ⟨_, rfl, _, _, _, (blkAt5 hB84 (Ext.refl w84)).2.2.2.2, ?_⟩
  have xs84 : w.heap.size ≤ w84.heap.size := x84.size
  -- the texts of the parts
  let PS : Nat → List (List UInt8) := fun m => if p83 then (tellsW (tellF l f) st ((kids l i).take m)).1 else List.zipWith (fun f p => featT f ++ 58 :: p) (nd l i).fs (tellsW (tellF l f) st ((kids l i).take m)).1
  have feats0 : RL 2 RFt w0 a9 l9 (nd l i).fs := by
   obtain ⟨_, b5', q2, _, _, _, ⟨a9', l9', c9', q6, q7⟩, _⟩ := h.node (Ext.refl w0) hi
   rw [q2] at p2; cases p2
   have e := h.loc.below.cell q6
   rw [p6] at e; cases e
   exact q7
  refine ⟨fun a l' c x w' => ∃ (m : Nat) (ps : List ByteArray), x = m ∧ m ≤ (nd l i).ks.length ∧ Wr w0 w' own bw l root sn sp sm (tellsW (tellF l f) st ((kids l i).take m)).2 ∧ OwnR w84.heap.size 9 1 eSt w' a l' c ps ∧ ps.map bl = PS m ∧ ps.length = m ∧ Kb own w84.heap.size w84 w', fun _ _ _ x _ => (nd l i).ks.length - x.toNat,
   ⟨⟨0, [], rfl, by omega, h84, OwnR.nil _ _ _ _ _, by show ([] : List (List UInt8)) = if p83 then ([] : List (List UInt8)) else List.zipWith _ _ []; split <;> simp, rfl, Kb.refl _ _ _⟩, trivial⟩, ?_⟩
  rintro w89 a90 l90 c90 _ ⟨m, ps, rfl, hm, h89, hO, hps, hpsl, K89⟩
  have hB89 : ∀ {w1 : World}, Kb own w84.heap.size w84 w1 → Blk w1 b11 _ _ := fun K => (K.block b11 hB84.lt hB84.lt ob11).trans hB84
  refine BoolK.mk (fun t3 => ?_) (fun t3 => ?_)
  ·have hlt : m < (nd l i).ks.length := by have := of_decide_eq_true t3; omega
   have hltf : m < (nd l i).fs.length := by omega
   obtain ⟨b92, q1, _, _, _, q5⟩ := kids0 h89.loc.below m hlt
   have hml : m < (kids l i).length := by rw [kids_len]; exact hlt
   have hkm : (kids l i)[m] = Gr.kid l i m := by
    have := kids_get hlt
    rw [List.getElem?_eq_getElem hml] at this
    exact Option.some.inj this
   refine ⟨⟨by omega, by omega⟩, adK q1 ⟨_, q5, ?_⟩⟩
   have gr := un_le (ks := (kids l i).take m) fun k hk => by rw [hbk]; exact List.mem_of_mem_take hk
   refine (call h89 gr (by rw [hbk, ← hkm]; exact List.getElem_mem hml)).mono ?_
   rintro en w95 ⟨t94, rfl, ⟨ht94, hz94⟩, h95, F95⟩
   have K95 := K89.fr F95
   have hO95 := hO.kept fun b hb => F95.block b (hO.lt b hb).2 (free0 (by have := (hO.lt b hb).1; omega))
   have hnext := tellsW_take (f := tellF l f) (st := st) (ks := kids l i) (m := m) hml
   rw [hkm] at hnext
   have hfd : featD (nd l i).fs[m] = true := (hro.2.2.2.1 m _ (List.getElem?_eq_getElem hltf)).1
   refine ⟨_, rfl, fun s w' => Ext w95 w' ∧ bl s = if p83 then bl t94 else featT (nd l i).fs[m] ++ 58 :: bl t94, ?_, ?_⟩
   ·rintro w98 s99 ⟨x98, hs99⟩
    have hO98 := hO95.ext x98
    have K98 := K95.fr (Fr.of_ext own x98)
    refine OwnR.push s99 sltSt hO98 K98.size eSt_len eSt_one (by omega) rfl fun a' c' w' g1 g2 _ => ?_
    have B := hO98.below K98.size g2
    rw [wrap_succ (by omega)]
    refine ⟨⟨m + 1, ps ++ [s99], rfl, by omega, ?_, g1, ?_, by simp [hpsl], K98.below B⟩, by simp; omega⟩
    ·rw [hnext]
     exact (h95.ext x98).grow B (Nat.le_trans h.loc.below.size xs84) fun k hk => free0 (by omega)
    ·show _ = if p83 then (tellsW (tellF l f) st ((kids l i).take (m + 1))).1 else List.zipWith _ _ (tellsW (tellF l f) st ((kids l i).take (m + 1))).1
     have hps : ps.map bl = if p83 then (tellsW (tellF l f) st ((kids l i).take m)).1 else List.zipWith _ _ (tellsW (tellF l f) st ((kids l i).take m)).1 := hps
     rw [hnext, List.map_append, hps]
     simp only [List.map_cons, List.map_nil, hs99, ht94]
     have htl : (tellsW (tellF l f) st ((kids l i).take m)).1.length = m := by rw [tellsW_len, List.length_take]; omega
     cases p83
     ·simp only [Bool.false_eq_true, if_false]
      rw [zip_snoc _ (by rw [htl]; exact hltf)]
      simp only [htl]
     ·simp only [if_true]
   ·refine BoolK.mk (fun t4 => ?_) (fun t4 => ?_)
    ·have t4 : p83 = false := by simpa using t4
     obtain ⟨_, _, _, f3, _⟩ := blkAt5 (hB89 K95) (Ext.refl w95)
     obtain ⟨b105, r1, r2, r3, _⟩ := ftAt feats0 h95.loc.below hltf
     refine ⟨_, _, _, f3, ⟨by omega, by omega⟩, adK r1 ⟨_, r2, _, r3, (ctr66 w95 (nd l i).fs[m] hfd (ht.ext h95.loc.below)).mono ?_⟩⟩
     rintro en w109 ⟨t108, rfl, ht108, x109⟩
     have hz108 : t108.size ≤ 122 := by rw [← bl_size, ht108]; exact featT_len hfd
     have z1 : ∀ b : UInt8, (⟨#[b]⟩ : ByteArray).size = 1 := fun _ => rfl
     have b40 : ∀ b : UInt8, bl (⟨#[b]⟩ : ByteArray) = [b] := fun _ => rfl
     refine ⟨_, rfl, by rw [i64max, z1]; omega, by rw [i64max, szA, z1]; omega, x109, ?_⟩
     rw [t4]
     simp only [bl_append, b40, ht108, Bool.false_eq_true, if_false]
     simp
    ·have t4 : p83 = true := by simpa using t4
     exact ⟨Ext.refl _, by rw [t4]; rfl⟩
  ·have hmk : m = (nd l i).ks.length := by have := of_decide_eq_false t3; omega
   have htake : (kids l i).take m = kids l i := List.take_of_length_le (by rw [kids_len]; omega)
   rw [htake] at h89
   have hps : ps.map bl = if p83 then (tellsW (tellF l f) st ((kids l i).take m)).1 else List.zipWith _ _ (tellsW (tellF l f) st ((kids l i).take m)).1 := hps
   rw [htake] at hps
   rw [hbk] at hmax ⊢
   have z1 : ∀ b : UInt8, (⟨#[b]⟩ : ByteArray).size = 1 := fun _ => rfl
   have b40 : ∀ b : UInt8, bl (⟨#[b]⟩ : ByteArray) = [b] := fun _ => rfl
   refine BoolK.mk (fun t4 => ?_) (fun t4 => ?_)
   ·have htup : isTupD (nd l i) = true := by rw [← hp83]; exact t4
    have hwr : ∀ ps, wrapT l i ps = 40 :: (Lib.join ps [35] ++ [41]) := fun ps => by
     unfold wrapT; rw [hch]; simp only [hcons, htup, if_true, Bool.false_eq_true, if_false]
    rw [hwr] at hmax
    rw [hwr]
    rw [t4] at hps
    simp only [if_true] at hps
    have hj : Lib.join (ps.map bl) (bl (⟨#[35]⟩ : ByteArray)) = Lib.join (tellsW (tellF l f) st (kids l i)).1 [35] := by rw [hps]; rfl
    have hjl : (Lib.join (tellsW (tellF l f) st (kids l i)).1 [35]).length ≤ 3000000000000 := by simp at hmax; omega
    refine (xtr64 w89 hO ⟨#[35]⟩ (by omega) (by rw [hj]; omega)).mono ?_
    rintro en w112 ⟨t111, rfl, ht111, x112⟩
    rw [hj] at ht111
    have hz : t111.size ≤ 3000000000000 := by rw [← bl_size, ht111]; exact hjl
    refine ⟨_, rfl, by rw [i64max, z1]; omega, by rw [i64max, szA, z1, z1]; omega, ?_, h89.ext x112, (K89.fr (Fr.of_ext own x112)).toFr (Fr.of_ext own x84) xs84⟩
    simp only [bl_append, b40, ht111]
    simp
   ·have htup : isTupD (nd l i) = false := by rw [← hp83]; exact t4
    have hwr : ∀ ps, wrapT l i ps = quoteA (nd l i).tx ++ (40 :: (Lib.join (List.zipWith (fun f p => featT f ++ 58 :: p) (nd l i).fs ps) [32] ++ [41])) := fun ps => by
     unfold wrapT; rw [hch]; simp only [hcons, htup, Bool.false_eq_true, if_false]
    rw [hwr] at hmax
    rw [hwr]
    rw [t4] at hps
    simp only [Bool.false_eq_true, if_false] at hps
    obtain ⟨_, _, f2, _, _⟩ := blkAt5 (hB89 K89) (Ext.refl w89)
    refine ⟨_, f2, (ctr28 w89 (nd l i).tx hro.2.1).mono ?_⟩
    rintro en w116 ⟨t115, rfl, ht115, x116⟩
    have hz115 : t115.size ≤ 122 := by rw [← bl_size, ht115]; exact quoteA_len (prS_of hro.2.1).2
    have hj : Lib.join (ps.map bl) (bl (⟨#[32]⟩ : ByteArray)) = Lib.join (List.zipWith (fun f p => featT f ++ 58 :: p) (nd l i).fs (tellsW (tellF l f) st (kids l i)).1) [32] := by rw [hps]; rfl
    have hjl : (Lib.join (List.zipWith (fun f p => featT f ++ 58 :: p) (nd l i).fs (tellsW (tellF l f) st (kids l i)).1) [32]).length ≤ 3000000000000 := by simp at hmax; omega
    refine ⟨_, rfl, by rw [i64max, z1]; omega, (xtr64 w116 (hO.ext x116) ⟨#[32]⟩ (by omega) (by rw [hj]; omega)).mono ?_⟩
    rintro en w119 ⟨t118, rfl, ht118, x119⟩
    rw [hj] at ht118
    have hz : t118.size ≤ 3000000000000 := by rw [← bl_size, ht118]; exact hjl
    have x119 := x116.trans x119
    refine ⟨_, rfl, by rw [i64max, szA, z1]; omega, by rw [i64max, szA, szA, z1, z1]; omega, ?_, h89.ext x119, (K89.fr (Fr.of_ext own x119)).toFr (Fr.of_ext own x84) xs84⟩
    simp only [bl_append, b40, ht115, ht118]
    simp
end
end Go.Proofs.YtbiamhoonhjodadGreatDoor

namespace Go.Proofs.YtbiamhoonhjodadGreatDoor
open Go Go.V Go.Proofs
open Go.RowKit (Below)
/-! (*manystrand/graph.writer).node -/
def N13 (o1 : Option Addr) (x2 : Int) (K : ByteArray → World → Prop) (w : World) : Prop :=
 AddrK o1 fun b3 =>
 ∃ a4 l4 c4, w.cell? (b3.add 1) = some (.slice a4 l4 c4) ∧
 ((0 ≤ x2 ∧ x2 < l4) ∧
 AddrK a4 fun b5 =>
 ∃ s6, w.cell? ((b5.add (x2.toNat * 5)).add 0) = some (.string s6) ∧
 (∃ x7, w.cell? ((b5.add (x2.toNat * 5)).add 1) = some (.int .i64 x7) ∧
 (∃ s8, w.cell? ((b5.add (x2.toNat * 5)).add 2) = some (.string s8) ∧
 (∃ a9 l9 c9, w.cell? ((b5.add (x2.toNat * 5)).add 3) = some (.slice a9 l9 c9) ∧
 (∃ a10 l10 c10, w.cell? ((b5.add (x2.toNat * 5)).add 4) = some (.slice a10 l10 c10) ∧
 (AllocK w (#[.string ⟨#[]⟩, .int .i64 0, .string ⟨#[]⟩, .slice none 0 0, .slice none 0 0]) 30 fun b11 w12 =>
 SetK w12 (b11.add 0) (.string s6) fun w13 =>
 SetK w13 (b11.add 1) (.int .i64 x7) fun w14 =>
 SetK w14 (b11.add 2) (.string s8) fun w15 =>
 SetK w15 (b11.add 3) (.slice a9 l9 c9) fun w16 =>
 SetK w16 (b11.add 4) (.slice a10 l10 c10) fun w17 =>
 ∃ s18, w17.cell? b11 = some (.string s18) ∧
 (BoolK (s18.toList == (⟨#[105, 110, 116]⟩ : ByteArray).toList)
 (∃ x19, w17.cell? (b11.add 1) = some (.int .i64 x19) ∧
 (Calls Tryz.prog 27 #[(.int .i64 x19)] w17 fun e22 w21 =>
 ∃ s20, e22 = .returned (.string s20) ∧
 (Calls Tryz.prog 26 #[(.string s20), (.string (⟨#[45]⟩ : ByteArray)), (.string (⟨#[126]⟩ : ByteArray)), (.int .i64 1)] w21 fun e25 w24 =>
 ∃ s23, e25 = .returned (.string s23) ∧
 (K s23 w24))))
 (BoolK (s18.toList == (⟨#[118, 97, 114]⟩ : ByteArray).toList)
 (∃ x26, w17.cell? (b11.add 1) = some (.int .i64 x26) ∧
 (Calls Tryz.prog 27 #[(.int .i64 x26)] w17 fun e29 w28 =>
 ∃ s27, e29 = .returned (.string s27) ∧
 ((((⟨#[95]⟩ : ByteArray).size + s27.size : Nat) : Int) ≤ IntKind.i64.max ∧
 (K ((⟨#[95]⟩ : ByteArray) ++ s27) w28))))
 (BoolK (s18.toList == (⟨#[114, 101, 102]⟩ : ByteArray).toList)
 (DrewK w17 fun w30 =>
 ∃ s31, w30.cell? (b11.add 2) = some (.string s31) ∧
 ((((⟨#[60]⟩ : ByteArray).size + s31.size : Nat) : Int) ≤ IntKind.i64.max ∧
 (((((⟨#[60]⟩ : ByteArray) ++ s31 : ByteArray).size + (⟨#[32]⟩ : ByteArray).size : Nat) : Int) ≤ IntKind.i64.max ∧
 (∃ x32, w30.cell? (b11.add 1) = some (.int .i64 x32) ∧
 (Calls Tryz.prog 27 #[(.int .i64 x32)] w30 fun e35 w34 =>
 ∃ s33, e35 = .returned (.string s33) ∧
 (Cel w30 w34 ∧
 ((((((⟨#[60]⟩ : ByteArray) ++ s31 : ByteArray) ++ (⟨#[32]⟩ : ByteArray) : ByteArray).size + s33.size : Nat) : Int) ≤ IntKind.i64.max ∧
 (((((((⟨#[60]⟩ : ByteArray) ++ s31 : ByteArray) ++ (⟨#[32]⟩ : ByteArray) : ByteArray) ++ s33 : ByteArray).size + (⟨#[62]⟩ : ByteArray).size : Nat) : Int) ≤ IntKind.i64.max ∧
 (K (((((⟨#[60]⟩ : ByteArray) ++ s31 : ByteArray) ++ (⟨#[32]⟩ : ByteArray) : ByteArray) ++ s33 : ByteArray) ++ (⟨#[62]⟩ : ByteArray)) w34)))))))))
 (∃ a36 l36 c36, w17.cell? (b11.add 3) = some (.slice a36 l36 c36) ∧
 (BoolK ((l36 : Int) == 0)
 (∃ s37, w17.cell? (b11.add 2) = some (.string s37) ∧
 (Calls Tryz.prog 28 #[(.string s37)] w17 fun e40 w39 =>
 ∃ s38, e40 = .returned (.string s38) ∧
 (K s38 w39)))
 (AddrK o1 fun b41 =>
 ∃ a42 l42 c42, w17.cell? (b41.add 3) = some (.slice a42 l42 c42) ∧
 ((0 ≤ x2 ∧ x2 < l42) ∧
 AddrK a42 fun b43 =>
 ∃ s44, w17.cell? (b43.add (x2.toNat * 1)) = some (.string s44) ∧
 (BoolK (!(s44.toList == (⟨#[]⟩ : ByteArray).toList))
 (AddrK o1 fun b45 =>
 ∃ a46 l46 c46, w17.cell? (b45.add 3) = some (.slice a46 l46 c46) ∧
 ((0 ≤ x2 ∧ x2 < l46) ∧
 AddrK a46 fun b47 =>
 ∃ s48, w17.cell? (b47.add (x2.toNat * 1)) = some (.string s48) ∧
 (K s48 w17)))
 (∃ (J49 : ByteArray → World → Prop),
 (∀ w50 s51, J49 s51 w50 →
 Calls Tryz.prog 30 #[(.pointer o1), (.int .i64 x2)] w50 fun e54 w53 =>
 ∃ s52, e54 = .returned (.string s52) ∧
 (((s51.size + s52.size : Nat) : Int) ≤ IntKind.i64.max ∧
 (K (s51 ++ s52) w53))) ∧
 (Calls Tryz.prog 29 #[(.pointer o1), (.int .i64 x2)] w17 fun e57 w56 =>
 ∃ p55, e57 = .returned (.bool p55) ∧
 (BoolK p55
 (AddrK o1 fun b58 =>
 ∃ x59, w56.cell? (b58.add 4) = some (.int .i64 x59) ∧
 (AddrK o1 fun b60 =>
 SetK w56 (b60.add 4) (.int .i64 (IntKind.wrap .i64 (x59 + 1))) fun w61 =>
 DrewK w61 fun w62 =>
 AddrK o1 fun b63 =>
 ∃ a64 l64 c64, w62.cell? (b63.add 3) = some (.slice a64 l64 c64) ∧
 (AddrK o1 fun b65 =>
 ∃ x66, w62.cell? (b65.add 4) = some (.int .i64 x66) ∧
 (Calls Tryz.prog 27 #[(.int .i64 x66)] w62 fun e69 w68 =>
 ∃ s67, e69 = .returned (.string s67) ∧
 (Cel w62 w68 ∧
 ((((⟨#[67]⟩ : ByteArray).size + s67.size : Nat) : Int) ≤ IntKind.i64.max ∧
 ((0 ≤ x2 ∧ x2 < l64) ∧
 AddrK a64 fun b70 =>
 SetK w68 (b70.add (x2.toNat * 1)) (.string ((⟨#[67]⟩ : ByteArray) ++ s67)) fun w71 =>
 AddrK o1 fun b72 =>
 ∃ a73 l73 c73, w71.cell? (b72.add 3) = some (.slice a73 l73 c73) ∧
 ((0 ≤ x2 ∧ x2 < l73) ∧
 AddrK a73 fun b74 =>
 ∃ s75, w71.cell? (b74.add (x2.toNat * 1)) = some (.string s75) ∧
 (((s75.size + (⟨#[61]⟩ : ByteArray).size : Nat) : Int) ≤ IntKind.i64.max ∧
 (J49 (s75 ++ (⟨#[61]⟩ : ByteArray)) w71))))))))))
 (J49 (⟨#[]⟩ : ByteArray) w56))))))))))))))))))
def ann13 : Ann := (.two .nil (.two .nil (.two (.two .nil (.one (.two .nil (.two (.two .nil .nil) (.two .nil (.two (.two .nil .nil) (.two .nil (.two (.two (.anyC 10 (.take 0 (.take 1 (.take 2 (.take 3 (.take 4 (.take 5 (.one 6 (.take 7 (.take 8 (.take 9 .done))))))))))) .nil) .nil)))))))) (.two (.two .nil (.two (.two .nil .nil) .nil)) (.two (.two .nil (.two (.two .nil .nil) .nil)) (.two .nil (.cut [(6, (.one .str))] [0, 1] (.two .nil (.two (.two .nil (.two (.anyC 12 (.take 0 (.take 1 (.take 2 (.take 3 (.take 4 (.take 5 (.take 6 (.take 7 (.take 8 (.one 9 (.take 10 (.take 11 .done))))))))))))) .nil)) .nil)) (.two .nil .nil))))))))
noncomputable def code13 : Code := match Tryz.f13.body with | some c => c | none => .skip
theorem calls13 (o1 : Option Addr) (x2 : Int) (K : ByteArray → World → Prop) (w : World) (h : N13 o1 x2 K w) : Calls Tryz.prog 13 #[(.pointer o1), (.int .i64 x2)] w fun en w' => ∃ (s76 : ByteArray), en = .returned (.string s76) ∧ K s76 w' :=
 fn_calls tabOk mixed Tryz.func13 (by kernel_rfl : Tryz.f13.body = some code13) ann13 [(.pointer o1), (.int .i64 x2)] [(.one .str)] K w (by kernel_rfl) (by kernel_rfl) (by kernel_rfl) h
end Go.Proofs.YtbiamhoonhjodadGreatDoor

namespace Go.Proofs.YtbiamhoonhjodadGreatDoor
open Go Go.V Go.Proofs Go.V.Gr
open Go.RowKit (Below)
section
variable {l : List Nd} {f : Nat} {st : TS} {i : Nat}
theorem tellF_leaf {s : List UInt8} (h : leafT (nd l i) = some s) : tellF l (f + 1) st i = (s, st) := by rw [tellF, h]
theorem tellF_named (h : leafT (nd l i) = none) (hn : st.nam i ≠ 0) : tellF l (f + 1) st i = (nameT (st.nam i), st) := by rw [tellF, h]; simp only [if_pos hn]
theorem tellF_shared (h : leafT (nd l i) = none) (hn : st.nam i = 0) (hp : 1 < plc l i) :
  tellF l (f + 1) st i = (nameT (st.cnt + 1) ++ 61 :: wrapT l i (tellsW (tellF l f) (st.name i) (bodyKs l i)).1, (tellsW (tellF l f) (st.name i) (bodyKs l i)).2) := by
 rw [tellF, h]; simp only [if_neg (show ¬ st.nam i ≠ 0 by omega), if_pos hp]
theorem tellF_plain (h : leafT (nd l i) = none) (hn : st.nam i = 0) (hp : ¬ 1 < plc l i) :
  tellF l (f + 1) st i = (wrapT l i (tellsW (tellF l f) st (bodyKs l i)).1, (tellsW (tellF l f) st (bodyKs l i)).2) := by
 rw [tellF, h]; simp only [if_neg (show ¬ st.nam i ≠ 0 by omega), if_neg hp]
end
theorem ba_of_bl {s t : ByteArray} (h : bl s = bl t) : s = t := by
 have : s.data = t.data := Array.toList_inj.1 h
 cases s; cases t; simp only at this; rw [this]
section
variable {w0 w w' : World} {own : OwnM Nat} {bw : Nat} {l : List Nd} {root : Int} {sn sp sm : SL} {st : TS}
set_option maxRecDepth 100000 in
theorem node_step (g : LG l) (hk5 : ∀ x ∈ l, x.ks.length ≤ 5000) (ht : Tb w0) (hmx : MaxL w0) {f : Nat} (IH : NodeC w0 own bw l root sn sp sm f) : NodeC w0 own bw l root sn sp sm (f + 1) := by
 intro st i w h ok hi hb
 refine calls13 _ _ _ w ?_
 unfold N13
 refine adK rfl ?_
 have nok := g.nd hi
 have hm1 := g.ok.most
 have hcn := ok.cnt
 have hmax := tellF_max g hk5 (f := f + 1) ok hi
 obtain ⟨c1, c2, c3, c4⟩ := h.cells
 obtain ⟨p1, b5, p2, p3, p4, p5, ⟨a9, l9, c9, p6, p7⟩, ⟨a10, l10, c10, p8, p9⟩⟩ := h.node h.loc.below hi
 refine ⟨_, _, _, c1, p1, adK p2 ⟨_, p3, _, p4, _, p5, _, _, _, p6, _, _, _, p8, ?_⟩⟩
 refine local5 fun b11 w17 hb11 hB11 x17 => ?_
 obtain ⟨f0, f1, f2, f3, f4⟩ := blkAt5 hB11 (Ext.refl w17)
 have h17 := h.ext x17
 have b40 : ∀ b : UInt8, bl (⟨#[b]⟩ : ByteArray) = [b] := fun _ => rfl
 have z1 : ∀ b : UInt8, (⟨#[b]⟩ : ByteArray).size = 1 := fun _ => rfl
 have small : ∀ {n : Int} {s : ByteArray}, -999999999999999999 ≤ n → n ≤ 999999999999999999 → bl s = Lib.itoa n → s.size ≤ 21 := fun h1 h2 e => by rw [← bl_size, e]; exact itoa_len ⟨by omega, by omega⟩
 refine ⟨_, f0, BoolK.mk (fun t => ?_) (fun t => ?_)⟩
 ·have k1 : (nd l i).kd = kInt := tl_iff.1 t
  have n1 := (NdOk.int_iff k1).1 nok
  have hn : i64 (nd l i).n := ⟨by omega, by omega⟩
  have hlf : leafT (nd l i) = some (numT (nd l i).n) := by unfold leafT; rw [if_pos k1]
  rw [tellF_leaf hlf]
  refine ⟨_, f1, (ctr27 w17 hn (ht.ext h17.loc.below)).mono ?_⟩
  rintro en w21 ⟨s20, rfl, hs20, x21⟩
  refine ⟨_, rfl, (xtr26 w21 hn s20 hs20 (hmx.ext (h17.loc.below.trans x21))).mono ?_⟩
  rintro en w24 ⟨s23, rfl, hs23, x24⟩
  exact ⟨_, rfl, hs23, h17.ext (x21.trans x24), Fr.of_ext own (x17.trans (x21.trans x24))⟩
 have k1 : (nd l i).kd ≠ kInt := tl_no t
 refine BoolK.mk (fun t => ?_) (fun t => ?_)
 ·have k2 : (nd l i).kd = kVar := tl_iff.1 t
  have n1 := (NdOk.var_iff k2).1 nok
  have hn : i64 (nd l i).n := ⟨by omega, by omega⟩
  have hlf : leafT (nd l i) = some (95 :: Lib.itoa (nd l i).n) := by unfold leafT; rw [if_neg k1, if_pos k2]
  rw [tellF_leaf hlf]
  refine ⟨_, f1, (ctr27 w17 hn (ht.ext h17.loc.below)).mono ?_⟩
  rintro en w28 ⟨s27, rfl, hs27, x28⟩
  have hz := small (by omega) (by omega) hs27
  refine ⟨_, rfl, by rw [i64max, z1]; omega, ?_, h17.ext x28, Fr.of_ext own (x17.trans x28)⟩
  rw [bl_append, b40, hs27]; rfl
 have k2 : (nd l i).kd ≠ kVar := tl_no t
 refine BoolK.mk (fun t => ?_) (fun t => ?_)
 ·have k3 : (nd l i).kd = kRef := tl_iff.1 t
  have n1 := (NdOk.ref_iff k3).1 nok
  have hn : i64 (nd l i).n := ⟨by omega, by omega⟩
  have hlf : leafT (nd l i) = some (60 :: (bl (nd l i).tx ++ 32 :: (Lib.itoa (nd l i).n ++ [62]))) := by unfold leafT; rw [if_neg k1, if_neg k2, if_pos k3]
  rw [tellF_leaf hlf]
  refine DrewK.mk fun w30 x30 => ?_
  obtain ⟨_, g1, g2, _, _⟩ := blkAt5 hB11 x30
  have h30 := h17.ext x30
  have hz := (prS_sort n1.1).2
  refine ⟨_, g2, by rw [i64max, z1]; omega, by rw [i64max, szA, z1, z1]; omega, _, g1, (ctr27 w30 hn (ht.ext h30.loc.below)).mono ?_⟩
  rintro en w34 ⟨s33, rfl, hs33, x34⟩
  have hz' := small (by omega) (by omega) hs33
  refine ⟨_, rfl, Below.cel x34, by rw [i64max, szA, szA, z1, z1]; omega, by rw [i64max, szA, szA, szA, z1, z1, z1]; omega, ?_, h30.ext x34, Fr.of_ext own ((x17.trans x30).trans x34)⟩
  simp only [bl_append, b40, hs33]
  simp
 have k3 : (nd l i).kd ≠ kRef := tl_no t
 have e9 := p7.len
 refine ⟨_, _, _, f3, BoolK.mk (fun t => ?_) (fun t => ?_)⟩
 ·have t : (l9 : Int) = 0 := by simpa using t
  have hfs : (nd l i).fs = [] := List.length_eq_zero_iff.1 (by omega)
  have hrec : (nd l i).kd = kRec := by
   rcases nok with h | h | h | h
   ·exact absurd h.1 k1
   ·exact absurd h.1 k2
   ·exact absurd h.1 k3
   ·exact h.1
  have hro := (NdOk.rec_iff hrec).1 nok
  have hlf : leafT (nd l i) = some (quoteA (nd l i).tx) := by unfold leafT; rw [if_neg k1, if_neg k2, if_neg k3, if_pos hfs]
  rw [tellF_leaf hlf]
  refine ⟨_, f2, (ctr28 w17 (nd l i).tx hro.2.1).mono ?_⟩
  rintro en w39 ⟨t38, rfl, ht38, x39⟩
  exact ⟨_, rfl, ht38, h17.ext x39, Fr.of_ext own (x17.trans x39)⟩
 have hfs : (nd l i).fs ≠ [] := by
  intro e
  rw [e] at e9
  simp only [List.length_nil] at e9
  have t : ¬ (l9 : Int) = 0 := by simpa using t
  omega
 have hl : leafT (nd l i) = none := by unfold leafT; rw [if_neg k1, if_neg k2, if_neg k3, if_neg hfs]
 obtain ⟨q1, b43, q2, q3⟩ := h17.name_ ok hi
 refine adK rfl ⟨_, _, _, h17.cells.2.2.1, q1, adK q2 ⟨_, q3, BoolK.mk (fun t => ?_) (fun t => ?_)⟩⟩
 ·have h0 : st.nam i ≠ 0 := by
   intro e
   rw [e] at t
   revert t; simp [nmB]
  refine adK rfl ⟨_, _, _, h17.cells.2.2.1, q1, adK q2 ⟨_, q3, ?_⟩⟩
  rw [tellF_named hl h0]
  exact ⟨nmB_pos h0, h17, Fr.of_ext own x17⟩
 have h0 : st.nam i = 0 := by
  refine Classical.byContradiction fun hn => ?_
  have t : ((nmB (st.nam i)).toList == (⟨#[]⟩ : ByteArray).toList) = true := by simpa using t
  exact nmB_ne hn (tl_iff.1 t)
 refine ⟨fun s w' => ∃ st1, Wr w0 w' own bw l root sn sp sm st1 ∧ TOk l st1 ∧ Fr own own w w' ∧ (∀ k ∈ bodyKs l i, bnd l (un l st1) k ≤ f) ∧ tellF l (f + 1) st i = (bl s ++ wrapT l i (tellsW (tellF l f) st1 (bodyKs l i)).1, (tellsW (tellF l f) st1 (bodyKs l i)).2), ?_, ?_⟩
 ·rintro w50 s51 ⟨st1, h50, ok1, F50, hb1, e1⟩
  rw [e1] at hmax ⊢
  simp only [List.length_append, bl_size] at hmax
  refine (ctr30 g hk5 ht IH h50 ok1 hi hl hb1 (by omega)).mono ?_
  rintro en w53 ⟨s52, rfl, hs52, h53, F53⟩
  refine ⟨_, rfl, ?_, ?_, h53, F50.trans F53⟩
  ·have := bl_size s52
   rw [hs52] at this
   rw [i64max]; omega
  ·rw [bl_append, hs52]
 ·refine (ctr29 h17 hi).mono ?_
  rintro en w56 ⟨p55, rfl, hp55, rfl⟩
  rw [decide_eq_true hfs, Bool.and_true] at hp55
  refine ⟨_, rfl, BoolK.mk (fun t => ?_) (fun t => ?_)⟩
  ·have hp : 1 < plc l i := of_decide_eq_true (by rw [← hp55]; exact t)
   have hun := un_name ok.len hi hp h0
   refine adK rfl ⟨_, h17.cells.2.2.2, adK rfl ?_⟩
   refine Bx.setA h17.box (by simp) fun w61 hbx u61 => ?_
   have hw : IntKind.wrap .i64 ((st.cnt : Int) + 1) = ((st.cnt + 1 : Nat) : Int) := by rw [wrap_succ (by omega)]
   rw [hw] at hbx
   have h61 : Wr w0 w61 own bw l root sn sp sm ⟨st.cnt + 1, st.nm⟩ := ⟨h17.loc.upd u61, by simpa using hbx, h17.nds, h17.plc.upd u61 (by decide), h17.nms.upd u61 (by decide)⟩
   refine DrewK.mk fun w62 x62 => ?_
   have h62 := h61.ext x62
   have F62 : Fr own own w w62 := ((Fr.of_ext own x17).trans u61.fr).trans (Fr.of_ext own x62)
   refine adK rfl ⟨_, _, _, h62.cells.2.2.1, adK rfl ⟨_, h62.cells.2.2.2, (ctr27 w62 (n := ((st.cnt + 1 : Nat) : Int)) ⟨by omega, by omega⟩ (ht.ext h62.loc.below)).mono ?_⟩⟩
   rintro en w68 ⟨s67, rfl, hs67, x68⟩
   have hz := small (n := ((st.cnt + 1 : Nat) : Int)) (by omega) (by omega) hs67
   have h68 := h62.ext x68
   have hnm : (⟨#[67]⟩ : ByteArray) ++ s67 = nmB (st.cnt + 1) := ba_of_bl (by rw [nmB_pos (by omega), bl_append, b40, hs67]; rfl)
   have hil : i < st.nm.length := by rw [ok.len]; exact hi
   obtain ⟨b70, r1, r2⟩ := rowWr eSt_f h68.nms (i := i) (by simpa using hil) ((⟨#[67]⟩ : ByteArray) ++ s67) (F := fun w71 =>
    AddrK (some (⟨bw, 0, none⟩ : Addr)) fun b72 => ∃ a73 l73 c73, w71.cell? (b72.add 3) = some (.slice a73 l73 c73) ∧ ((0 ≤ (i : Int) ∧ (i : Int) < l73) ∧ AddrK a73 fun b74 => ∃ s75, w71.cell? (b74.add ((i : Int).toNat * 1)) = some (.string s75) ∧ (((s75.size + (⟨#[61]⟩ : ByteArray).size : Nat) : Int) ≤ IntKind.i64.max ∧
     (fun s w' => ∃ st1, Wr w0 w' own bw l root sn sp sm st1 ∧ TOk l st1 ∧ Fr own own w w' ∧ (∀ k ∈ bodyKs l i, bnd l (un l st1) k ≤ f) ∧ tellF l (f + 1) st i = (bl s ++ wrapT l i (tellsW (tellF l f) st1 (bodyKs l i)).1, (tellsW (tellF l f) st1 (bodyKs l i)).2)) (s75 ++ (⟨#[61]⟩ : ByteArray)) w71))) fun w71 hR u71 => by
    have ok1 := ok.name hi hp h0
    have hR' : RowR own 2 9 1 eSt w71 sm ((st.name i).nm.map nmB) := by
     rw [hnm, ← List.map_set] at hR; exact hR
    have h71 : Wr w0 w71 own bw l root sn sp sm (st.name i) := ⟨h68.loc.upd u71, h68.box.upd u71 (by decide), h68.nds, h68.plc.upd u71 (by decide), hR'⟩
    obtain ⟨v1, b74, v2, v3⟩ := h71.name_ ok1 hi
    have hnn : (st.name i).nam i = st.cnt + 1 := by rw [TS.nam_name hil, if_pos rfl]
    rw [hnn, ← hnm] at v3
    refine adK rfl ⟨_, _, _, h71.cells.2.2.1, v1, adK v2 ⟨_, v3, by rw [i64max, szA, z1, z1]; omega, _, h71, ok1, (F62.trans (Fr.of_ext own x68)).trans u71.fr, fun k hk => ?_, ?_⟩⟩
    ·have := bnd_body g hi hl hk hb fun _ => by omega
     rw [if_pos hp] at this
     rwa [show un l (st.name i) = un l st - 1 by omega]
    ·rw [tellF_shared hl h0 hp, bl_append, hnm, nmB_pos (by omega), b40]
     simp
   refine ⟨_, rfl, Below.cel x68, by rw [i64max, z1]; omega, ⟨by omega, ?_⟩, adK r1 r2⟩
   exact q1.2
  ·have hp : ¬ 1 < plc l i := of_decide_eq_false (by rw [← hp55]; exact t)
   refine ⟨st, h17, ok, Fr.of_ext own x17, fun k hk => ?_, ?_⟩
   ·have := bnd_body g hi hl hk hb fun h => absurd h hp
    rwa [if_neg hp] at this
   ·rw [tellF_plain hl h0 hp]; rfl
theorem node_all (g : LG l) (hk5 : ∀ x ∈ l, x.ks.length ≤ 5000) (ht : Tb w0) (hmx : MaxL w0) : ∀ f, NodeC w0 own bw l root sn sp sm f
 | 0 => fun st i w h ok hi hb => by have := bnd_pos l (un l st) i; omega
 | f + 1 => node_step g hk5 ht hmx (node_all g hk5 ht hmx f)
end
end Go.Proofs.YtbiamhoonhjodadGreatDoor

namespace Go.Proofs.YtbiamhoonhjodadGreatDoor
open Go Go.V Go.Proofs
open Go.RowKit (Below)
/-! manystrand/graph.Text -/
def N7 (x1 : Int) (a2 : Option Addr) (l2 : Nat) (c2 : Nat) (K : ByteArray → Int → World → Prop) (w : World) : Prop :=
 AllocK w (#[(.int .i64 x1), (.slice a2 l2 c2)]) 24 fun b3 w4 =>
 ∃ x5, w4.cell? (b3.add 0) = some (.int .i64 x5) ∧
 (∃ a6 l6 c6, w4.cell? (b3.add 1) = some (.slice a6 l6 c6) ∧
 (Calls Tryz.prog 12 #[(.agg #[(.int .i64 x5), (.slice a6 l6 c6)])] w4 fun e11 w10 =>
 ∃ x7, ∃ a8, ∃ l8, ∃ c8, ∃ x9, e11 = .returned (.tuple #[(.agg #[(.int .i64 x7), (.slice a8 l8 c8)]), (.int .i64 x9)]) ∧
 (AllocK w10 (#[.int .i64 0, .slice none 0 0]) 24 fun b12 w13 =>
 SetK w13 (b12.add 0) (.int .i64 x7) fun w14 =>
 SetK w14 (b12.add 1) (.slice a8 l8 c8) fun w15 =>
 BoolK (x9 != 0)
 (K (⟨#[]⟩ : ByteArray) x9 w15)
 (∃ (J16 : Option Addr → World → Prop),
 (∀ w17 o18, J16 o18 w17 →
 DrewK w17 fun w19 =>
 AddrK o18 fun b20 =>
 ∃ a21 l21 c21, w19.cell? (b20.add 2) = some (.slice a21 l21 c21) ∧
 (∃ x22, w19.cell? b12 = some (.int .i64 x22) ∧
 ((0 ≤ x22 ∧ x22 < l21) ∧
 AddrK a21 fun b23 =>
 ∃ x24, w19.cell? (b23.add (x22.toNat * 1)) = some (.int .i64 x24) ∧
 ((0 ≤ x22 ∧ x22 < l21) ∧
 AddrK a21 fun b25 =>
 SetK w19 (b25.add (x22.toNat * 1)) (.int .i64 (IntKind.wrap .i64 (x24 + 1))) fun w26 =>
 ∃ a27 l27 c27, w26.cell? (b12.add 1) = some (.slice a27 l27 c27) ∧
 (∃ (I28 : Int → World → Prop) (μ29 : Int → World → Nat),
 (I28 0 w26 ∧ True) ∧
 ∀ w30 x31, I28 x31 w30 →
 BoolK (decide (x31 < l27))
 ((0 ≤ x31 ∧ x31 < l27) ∧
 AddrK a27 fun b32 =>
 ∃ s33, w30.cell? ((b32.add (x31.toNat * 5)).add 0) = some (.string s33) ∧
 (∃ x34, w30.cell? ((b32.add (x31.toNat * 5)).add 1) = some (.int .i64 x34) ∧
 (∃ s35, w30.cell? ((b32.add (x31.toNat * 5)).add 2) = some (.string s35) ∧
 (∃ a36 l36 c36, w30.cell? ((b32.add (x31.toNat * 5)).add 3) = some (.slice a36 l36 c36) ∧
 (∃ a37 l37 c37, w30.cell? ((b32.add (x31.toNat * 5)).add 4) = some (.slice a37 l37 c37) ∧
 (AllocK w30 (#[.string ⟨#[]⟩, .int .i64 0, .string ⟨#[]⟩, .slice none 0 0, .slice none 0 0]) 30 fun b38 w39 =>
 SetK w39 (b38.add 0) (.string s33) fun w40 =>
 SetK w40 (b38.add 1) (.int .i64 x34) fun w41 =>
 SetK w41 (b38.add 2) (.string s35) fun w42 =>
 SetK w42 (b38.add 3) (.slice a36 l36 c36) fun w43 =>
 SetK w43 (b38.add 4) (.slice a37 l37 c37) fun w44 =>
 ∃ a45 l45 c45, w44.cell? (b38.add 4) = some (.slice a45 l45 c45) ∧
 (∃ (I46 : Int → World → Prop) (μ47 : Int → World → Nat),
 (I46 0 w44 ∧ True) ∧
 ∀ w48 x49, I46 x49 w48 →
 BoolK (decide (x49 < l45))
 ((0 ≤ x49 ∧ x49 < l45) ∧
 AddrK a45 fun b50 =>
 ∃ x51, w48.cell? (b50.add (x49.toNat * 1)) = some (.int .i64 x51) ∧
 (AddrK o18 fun b52 =>
 ∃ a53 l53 c53, w48.cell? (b52.add 2) = some (.slice a53 l53 c53) ∧
 ((0 ≤ x51 ∧ x51 < l53) ∧
 AddrK a53 fun b54 =>
 ∃ x55, w48.cell? (b54.add (x51.toNat * 1)) = some (.int .i64 x55) ∧
 ((0 ≤ x51 ∧ x51 < l53) ∧
 AddrK a53 fun b56 =>
 SetK w48 (b56.add (x51.toNat * 1)) (.int .i64 (IntKind.wrap .i64 (x55 + 1))) fun w57 =>
 I46 (IntKind.wrap .i64 (x49 + 1)) w57 ∧ μ47 (IntKind.wrap .i64 (x49 + 1)) w57 < μ47 x49 w48))))
 (I28 (IntKind.wrap .i64 (x31 + 1)) w48 ∧ μ29 (IntKind.wrap .i64 (x31 + 1)) w48 < μ29 x31 w30))))))))
 (∃ x58, w30.cell? b12 = some (.int .i64 x58) ∧
 (Calls Tryz.prog 13 #[(.pointer o18), (.int .i64 x58)] w30 fun e61 w60 =>
 ∃ s59, e61 = .returned (.string s59) ∧
 (K s59 0 w60)))))))) ∧
 (DrewK w15 fun w62 =>
 ∃ x63, w62.cell? (b12.add 0) = some (.int .i64 x63) ∧
 (∃ a64 l64 c64, w62.cell? (b12.add 1) = some (.slice a64 l64 c64) ∧
 (∃ a65 l65 c65, w62.cell? (b12.add 1) = some (.slice a65 l65 c65) ∧
 (∃ a66 l66 c66, w62.cell? (b12.add 1) = some (.slice a66 l66 c66) ∧
 (((0 ≤ (l65 : Int) ∧ (l65 : Int) ≤ l65 ∧ ((8 : Nat) : Int) * l65 ≤ 281474976710656 ∧ (l65 : Int) ≤ 9223372036854775807) ∧
 AllocK w62 (madeCells (#[.int .i64 0]) ((l65 : Int).toNat * 1)) 3 fun b67 w68 =>
 Cel w62 w68 ∧
 ((0 ≤ (l66 : Int) ∧ (l66 : Int) ≤ l66 ∧ ((16 : Nat) : Int) * l66 ≤ 281474976710656 ∧ (l66 : Int) ≤ 9223372036854775807) ∧
 AllocK w68 (madeCells (#[.string ⟨#[]⟩]) ((l66 : Int).toNat * 1)) 9 fun b69 w70 =>
 Cel w62 w70 ∧
 (AllocK w70 (#[(.int .i64 x63), (.slice a64 l64 c64), (.slice (some b67) ((l65 : Int).toNat) ((l65 : Int).toNat)), (.slice (some b69) ((l66 : Int).toNat) ((l66 : Int).toNat)), (.int .i64 0)]) 45 fun b71 w72 =>
 J16 (some b71) w72))) ∧
 ((0 ≤ (l66 : Int) ∧ (l66 : Int) ≤ l66 ∧ ((16 : Nat) : Int) * l66 ≤ 281474976710656 ∧ (l66 : Int) ≤ 9223372036854775807) ∧
 AllocK w62 (madeCells (#[.string ⟨#[]⟩]) ((l66 : Int).toNat * 1)) 9 fun b73 w74 =>
 Cel w62 w74 ∧
 ((0 ≤ (l65 : Int) ∧ (l65 : Int) ≤ l65 ∧ ((8 : Nat) : Int) * l65 ≤ 281474976710656 ∧ (l65 : Int) ≤ 9223372036854775807) ∧
 AllocK w74 (madeCells (#[.int .i64 0]) ((l65 : Int).toNat * 1)) 3 fun b75 w76 =>
 Cel w62 w76 ∧
 (AllocK w76 (#[(.int .i64 x63), (.slice a64 l64 c64), (.slice (some b75) ((l65 : Int).toNat) ((l65 : Int).toNat)), (.slice (some b73) ((l66 : Int).toNat) ((l66 : Int).toNat)), (.int .i64 0)]) 45 fun b77 w78 =>
 J16 (some b77) w78))))))))))))
def ann7 : Ann := (.two .nil (.two .nil (.two (.two .nil (.two (.two .nil .nil) .nil)) (.cut [(6, (.one .ptr))] [4] (.anyC 12 (.take 0 (.take 1 (.take 2 (.take 3 (.take 5 (.take 6 (.take 7 (.both 4 (.one 8 (.take 9 (.one 10 (.take 11 .done)))) (.one 8 (.one 4 (.take 9 (.one 10 (.take 11 .done)))))))))))))) (.two (.anyC 10 (.take 0 (.take 1 (.take 2 (.take 3 (.take 4 (.take 5 (.take 6 (.take 7 (.take 8 (.take 9 .done))))))))))) (.two (.two .nil (.one (.loop [(43, (.one (.int .i64)))] [4, 6, 41, 42] (.two .nil (.two (.two .nil .nil) (.two (.one (.two .nil (.two .nil (.one (.loop [(50, (.one (.int .i64)))] [4, 6, 41, 42, 43, 48, 49] (.two .nil (.two (.two .nil .nil) (.two (.one (.two .nil .nil)) .nil)))))))) .nil)))))) (.two .nil .nil)))))))
noncomputable def code7 : Code := match Tryz.f7.body with | some c => c | none => .skip
theorem calls7 (x1 : Int) (a2 : Option Addr) (l2 : Nat) (c2 : Nat) (K : ByteArray → Int → World → Prop) (w : World) (h : N7 x1 a2 l2 c2 K w) : Calls Tryz.prog 7 #[(.agg #[(.int .i64 x1), (.slice a2 l2 c2)])] w fun en w' => ∃ (s79 : ByteArray), ∃ (x80 : Int), en = .returned (.tuple #[(.string s79), (.int .i64 x80)]) ∧ K s79 x80 w' :=
 fn_calls tabOk mixed Tryz.func7 (by kernel_rfl : Tryz.f7.body = some code7) ann7 [(.agg #[(.int .i64 x1), (.slice a2 l2 c2)])] [(.one .str), (.one (.int .i64))] K w (by kernel_rfl) (by kernel_rfl) (by kernel_rfl) h
end Go.Proofs.YtbiamhoonhjodadGreatDoor

namespace Go.Proofs.YtbiamhoonhjodadGreatDoor
open Go Go.V Go.Proofs Go.V.Gr
open Go.RowKit (Below)
def cn (l : List Nd) (k m i : Nat) : Nat := (if i = 0 then 1 else 0) + ((List.range k).map fun j => (kids l j).count i).sum + ((kids l k).take m).count i
theorem cn_zero (l : List Nd) (i : Nat) : cn l 0 0 i = if i = 0 then 1 else 0 := by simp [cn]
theorem cn_end (l : List Nd) (i : Nat) : cn l l.length 0 i = plc l i := by simp [cn, plc]
theorem cn_next (l : List Nd) (k i : Nat) : cn l k (kids l k).length i = cn l (k + 1) 0 i := by
 unfold cn
 rw [List.range_succ, List.map_append, List.sum_append, List.take_of_length_le (Nat.le_refl _)]
 simp; omega
theorem cn_step {l : List Nd} {k m : Nat} (hm : m < (kids l k).length) (i : Nat) : cn l k (m + 1) i = if i = (kids l k)[m] then cn l k m i + 1 else cn l k m i := by
 unfold cn
 generalize (if i = 0 then 1 else 0) + ((List.range k).map fun j => (kids l j).count i).sum = z
 rw [List.take_add_one, List.getElem?_eq_getElem hm, List.count_append]
 simp only [Option.toList_some, List.count_singleton]
 by_cases e : i = (kids l k)[m]
 ·rw [if_pos e, if_pos (by rw [e]; simp)]; omega
 ·rw [if_neg e, if_neg (by simpa using fun h => e h.symm)]; omega
theorem sum_le {f : Nat → Nat} {B : Nat} : ∀ {n : Nat}, (∀ j, j < n → f j ≤ B) → ((List.range n).map f).sum ≤ n * B
 | 0, _ => by simp
 | n + 1, h => by
  rw [List.range_succ, List.map_append, List.sum_append, Nat.succ_mul]
  have h1 := sum_le (n := n) fun j hj => h j (by omega)
  have h2 := h n (by omega)
  simp; omega
theorem cn_le {l : List Nd} (hk : ∀ x ∈ l, x.ks.length ≤ 5000) {k m i : Nat} (hkl : k < l.length) (hn : l.length ≤ 1000) : cn l k m i ≤ 5010001 := by
 have one : ∀ j, j < l.length → (kids l j).length ≤ 5000 := fun j hj => by rw [kids_len, nd_get hj]; exact hk _ (List.getElem_mem hj)
 have h1 := sum_le (f := fun j => (kids l j).count i) (B := 5000) (n := k) fun j hj => Nat.le_trans List.count_le_length (one j (by omega))
 have h2 : ((kids l k).take m).count i ≤ 5000 := Nat.le_trans List.count_le_length (Nat.le_trans (by rw [List.length_take]; omega) (one k hkl))
 unfold cn
 have h3 : k * 5000 ≤ 1000 * 5000 := Nat.mul_le_mul_right _ (by omega)
 split <;> omega
theorem bump {n v : Nat} {p q : Nat → Nat} (hv : v < n) (h : ∀ i, q i = if i = v then p i + 1 else p i) : (zs ((List.range n).map p)).set v ((p v + 1 : Nat) : Int) = zs ((List.range n).map q) := by
 apply List.ext_getElem?
 intro i
 rw [List.getElem?_set]
 by_cases e : v = i
 ·subst e
  simp [zs, h, hv]
 ·rw [if_neg e]
  simp only [zs, List.getElem?_map]
  rcases Nat.lt_or_ge i n with hi | hi
  ·rw [List.getElem?_range hi]
   simp [h, show ¬ i = v from fun e' => e e'.symm]
  ·rw [List.getElem?_eq_none (by simpa using hi)]; rfl
structure PW (w0 w : World) (own : OwnM Nat) (bw : Nat) (l : List Nd) (root : Int) (sn sp sm : SL) (p : Nat → Nat) : Prop where
 loc : Mine own w0 w
 box : Bx own 0 w bw #[.int .i64 root, .slice sn.1 sn.2.1 sn.2.2, .slice sp.1 sp.2.1 sp.2.2, .slice sm.1 sm.2.1 sm.2.2, .int .i64 0] 45
 nds : RNds w0 sn.1 sn.2.1 l
 plc : RowR own 1 3 1 eI w sp (zs ((List.range l.length).map p))
 nms : RowR own 2 9 1 eSt w sm ((TS.start l).nm.map nmB)
section
variable {w0 w w' : World} {own : OwnM Nat} {bw : Nat} {l : List Nd} {root : Int} {sn sp sm : SL} {p : Nat → Nat}
theorem PW.ext (h : PW w0 w own bw l root sn sp sm p) (x : Ext w w') : PW w0 w' own bw l root sn sp sm p := ⟨h.loc.ext x, h.box.ext x, h.nds, h.plc.ext x, h.nms.ext x⟩
theorem PW.cell (h : PW w0 w own bw l root sn sp sm p) : w.cell? ((⟨bw, 0, none⟩ : Addr).add 2) = some (.slice sp.1 sp.2.1 sp.2.2) := by rw [add_mk, h.box.blk.cell]; rfl
theorem PW.get (h : PW w0 w own bw l root sn sp sm p) {i : Nat} (hi : i < l.length) : (0 ≤ ((i : Nat) : Int) ∧ ((i : Nat) : Int) < (sp.2.1 : Nat)) ∧ ∃ b, sp.1 = some b ∧ w.cell? (b.add (((i : Nat) : Int).toNat * 1)) = some (.int .i64 (p i : Nat)) := by
 obtain ⟨p1, b, p2, p3⟩ := rowRd eI_f h.plc (i := i) (by simp [zs]; exact hi)
 refine ⟨p1, b, p2, ?_⟩
 rw [p3]; simp [zs]
theorem PW.put (h : PW w0 w own bw l root sn sp sm p) {v : Nat} (hv : v < l.length) {q : Nat → Nat} (hq : ∀ i, q i = if i = v then p i + 1 else p i) {F : World → Prop} (k : ∀ w', PW w0 w' own bw l root sn sp sm q → F w') :
  AddrK sp.1 fun b => SetK w (b.add (((v : Nat) : Int).toNat * 1)) (.int .i64 ((p v + 1 : Nat) : Int)) F := by
 obtain ⟨b, h1, h2⟩ := rowWr (F := F) eI_f h.plc (i := v) (by simp [zs]; exact hv) _ fun w' hR u => k w' ⟨h.loc.upd u, h.box.upd u (by decide), h.nds, by rw [bump hv hq] at hR; exact hR, h.nms.upd u (by decide)⟩
 exact adK h1 h2
theorem PW.done (h : PW w0 w own bw l root sn sp sm (cn l l.length 0)) : Wr w0 w own bw l root sn sp sm (TS.start l) := by
 refine ⟨h.loc, h.box, h.nds, ?_, h.nms⟩
 have e : cn l l.length 0 = Gr.plc l := funext fun i => cn_end l i
 rw [← e]; exact h.plc
end
theorem Least.LG {root : Int} {xs out : List Nd} {i : Nat} (h : Least xs i out) (g : GrOk root xs 1000) (hi : i < xs.length) : LG out := ⟨Least.ok h g hi, fun _ h0 hq => Least.up h g.closed h0 hq⟩
theorem Least.ks {root : Int} {xs out : List Nd} {i : Nat} {m : Nat} (h : Least xs i out) (g : GrOk root xs 1000) (hi : i < xs.length) (hk : ∀ x ∈ xs, x.ks.length ≤ m) : ∀ x ∈ out, x.ks.length ≤ m := by
 obtain ⟨vs, d, G⟩ := h
 have hvV := d.lt g.closed (by simpa using hi) (by simp)
 intro x hx
 obtain ⟨q, hq, rfl⟩ := List.getElem_of_mem hx
 have hq' : q < vs.length := by rw [← G.len]; exact hq
 have hv := hvV _ (List.getElem_mem hq')
 have hh := G.hd q hq'
 rw [nd_get hq, nd_get hv] at hh
 rw [hd_len hh]
 exact hk _ (List.getElem_mem hv)
set_option maxRecDepth 100000 in
theorem ctr7 (w : World) (root : Int) (xs : List Nd) {a : Option Addr} {l : Nat} (c : Nat) (h : RNds w a l xs) (hl : Lim xs) (hk : ∀ x ∈ xs, x.ks.length ≤ 5000) (ht : Tb w) (hm : MaxL w) :
  Calls Tryz.prog 7 #[.agg #[.int .i64 root, .slice a l c]] w fun en w' => ∃ s e, en = .returned (.tuple #[.string s, .int .i64 e]) ∧
   (((GrOk root xs 1000 ∧ e = 0 ∧ ∃ out, Least xs root.toNat out ∧ bl s = textD out ∧ s.size ≤ 3000000000000) ∨ (¬ GrOk root xs 1000 ∧ e = 50 ∧ s = ⟨#[]⟩)) ∧ Ext w w') := by
 refine calls7 _ _ _ _ _ w ?_
 refine AllocK.mk fun b3 w4 hb3 hB3 x4 => ?_
 obtain ⟨_, g1, g0⟩ := blkAt2 hB3
 refine ⟨_, g0, _, _, _, g1, (ctr12 w4 root xs c (RNds.at h x4) hl (ht.ext x4)).mono ?_⟩
 rintro en w10 ⟨x7, a8, l8, c8, x9, rfl, hans⟩
 refine ⟨_, _, _, _, _, rfl, local2 fun b12 w15 hb12 hB12 x15 => ?_⟩
 rcases hans with ⟨ok, x10, rfl, ⟨i, e1, rfl, out, hL, hG⟩ | ⟨e, _⟩⟩ | ⟨nok, x10, rfl, ⟨i, e, _⟩ | ⟨_, rfl, hs⟩⟩
 rotate_left
 ·cases e
 ·cases e
 ·refine BoolK.mk (fun _ => ⟨.inr ⟨nok, rfl, rfl⟩, (x4.trans x10).trans x15⟩) (fun t => ?_)
  simp at t
 cases e1
 refine BoolK.mk (fun t => ?_) (fun _ => ?_)
 ·simp at t
 have y15 := (x4.trans x10).trans x15
 have g := Least.LG hL ok ok.lt
 have hk5 := Least.ks hL ok ok.lt hk
 have hpos := Least.pos hL
 have hmo := g.ok.most
 have hnd := hG.ext x15 |>.nodes
 have e8 : l8 = out.length := hnd.len
 subst e8
 refine ⟨fun o w' => ∃ w62 own bw sp sm, Ext w15 w62 ∧ o = some ⟨bw, 0, none⟩ ∧ PW w62 w' own bw out 0 (a8, out.length, c8) sp sm (fun _ => 0), ?_, ?_⟩
 ·rintro w17 _ ⟨w62, own, bw, sp, sm, x62, rfl, hP⟩
  refine DrewK.mk fun w19 x19 => ?_
  have hP := hP.ext x19
  obtain ⟨d0, d1, d2⟩ := blkAt2 (hB12.ext (x62.trans hP.loc.below))
  obtain ⟨p1, b23, p2, p3⟩ := hP.get hpos
  refine adK rfl ⟨_, _, _, hP.cell, ((0 : Nat) : Int), d2, p1, adK p2 ⟨_, p3, p1, ?_⟩⟩
  rw [show IntKind.wrap .i64 (((0 : Nat) : Int) + 1) = ((0 + 1 : Nat) : Int) from rfl]
  refine hP.put hpos (q := cn out 0 0) (fun i => by rw [cn_zero]) fun w26 hP26 => ?_
  obtain ⟨d0, d1, d2⟩ := blkAt2 (hB12.ext (x62.trans hP26.loc.below))
  refine ⟨_, _, _, d1, fun x w' => ∃ k : Nat, x = k ∧ k ≤ out.length ∧ PW w62 w' own bw out 0 (a8, out.length, c8) sp sm (cn out k 0), fun x _ => out.length - x.toNat, ⟨⟨0, rfl, by omega, hP26⟩, trivial⟩, ?_⟩
  rintro w30 _ ⟨k, rfl, hk, h30⟩
  refine BoolK.mk (fun t => ?_) (fun t => ?_)
  ·have hlt : k < out.length := by have := of_decide_eq_true t; omega
   obtain ⟨b32, ha, n0, n1, n2, _, _, ⟨a36, l36, c36, n5, n6⟩, ⟨a37, l37, c37, n7, n8⟩, _⟩ := ndAt h30.nds (Ext.refl w62) hlt
   have X := h30.loc.below
   refine ⟨⟨by omega, by omega⟩, adK ha ⟨_, X.cell n0, _, X.cell n1, _, X.cell n2, _, _, _, X.cell n5, _, _, _, X.cell n7, ?_⟩⟩
   refine local5 fun b38 w44 hb38 hB38 x44 => ?_
   obtain ⟨_, _, _, _, f4⟩ := blkAt5 hB38 (Ext.refl w44)
   have el : l37 = (kids out k).length := by rw [kids_len, nd_get hlt]; exact n8.len
   refine ⟨_, _, _, f4, fun x w' => ∃ m : Nat, x = m ∧ m ≤ (kids out k).length ∧ PW w62 w' own bw out 0 (a8, out.length, c8) sp sm (cn out k m), fun x _ => (kids out k).length - x.toNat, ⟨⟨0, rfl, by omega, h30.ext x44⟩, trivial⟩, ?_⟩
   rintro w48 _ ⟨m, rfl, hmk, h48⟩
   refine BoolK.mk (fun t2 => ?_) (fun t2 => ?_)
   ·have hlt2 : m < (kids out k).length := by have := of_decide_eq_true t2; omega
    have hk5k : out[k].ks.length ≤ 5000 := hk5 _ (List.getElem_mem hlt)
    have hml : m < out[k].ks.length := by rw [← nd_get hlt, ← kids_len]; exact hlt2
    obtain ⟨b50, r1, r2⟩ := ksAt n8 h48.loc.below (i := m) hml
    have hv : out[k].ks[m] = (((kids out k)[m] : Nat) : Int) := by
     have h1 := kids_get (l := out) (i := k) (m := m) (by rw [nd_get hlt]; exact hml)
     rw [List.getElem?_eq_getElem hlt2] at h1
     have h2 := kid_val g hlt (m := m) (by rw [nd_get hlt]; exact hml)
     simp only [nd_get hlt] at h2
     rw [h2, Option.some.inj h1]
    rw [hv] at r2
    have hvl : (kids out k)[m] < out.length := g.kid hlt (List.getElem_mem hlt2)
    obtain ⟨s1, b54, s2, s3⟩ := h48.get hvl
    have hle := cn_le hk5 (k := k) (m := m) (i := (kids out k)[m]) hlt hmo
    refine ⟨⟨by omega, by omega⟩, adK r1 ⟨_, r2, adK rfl ⟨_, _, _, h48.cell, s1, adK s2 ⟨_, s3, s1, ?_⟩⟩⟩⟩
    rw [wrap_succ (by omega), wrap_succ (by omega)]
    refine h48.put hvl (q := cn out k (m + 1)) (cn_step hlt2) fun w57 h57 => ⟨⟨m + 1, rfl, by omega, h57⟩, by simp; omega⟩
   ·have : m = (kids out k).length := by have := of_decide_eq_false t2; omega
    subst this
    rw [wrap_succ (by omega)]
    refine ⟨⟨k + 1, rfl, by omega, ?_⟩, by simp; omega⟩
    have e : cn out k (kids out k).length = cn out (k + 1) 0 := funext fun i => cn_next out k i
    rw [e] at h48; exact h48
  ·have : k = out.length := by have := of_decide_eq_false t; omega
   subst this
   have hW := h30.done
   obtain ⟨d0, d1, d2⟩ := blkAt2 (hB12.ext (x62.trans h30.loc.below))
   have yw := y15.trans x62
   refine ⟨((0 : Nat) : Int), d2, (node_all g hk5 (ht.ext yw) (hm.ext yw) _ _ 0 _ hW (start_ok out) hpos (Nat.le_refl _)).mono ?_⟩
   rintro en w60 ⟨s, rfl, hs, hW60, _⟩
   refine ⟨_, rfl, .inl ⟨ok, rfl, out, hL, hs, ?_⟩, yw.trans hW60.loc.below⟩
   rw [← bl_size, hs]
   exact tellF_max g hk5 (start_ok out) hpos
 ·refine DrewK.mk fun w62 x62 => ?_
  obtain ⟨d0, d1, d2⟩ := blkAt2 (hB12.ext x62)
  have h62 : RNds w62 a8 out.length out := (hG.ext (x15.trans x62)).nodes
  have hp : ∀ b, List.replicate ((out.length : Int)).toNat (b : Int) = List.replicate out.length b := fun b => by simp
  have L0 := Mine.refl (ρ := Nat) w62
  have bd : (0 : Int) ≤ (out.length : Int) ∧ (out.length : Int) ≤ (out.length : Int) ∧ (8 : Int) * (out.length : Int) ≤ 281474976710656 ∧ (out.length : Int) ≤ 9223372036854775807 := by omega
  have zP : zs ((List.range out.length).map fun _ => 0) = List.replicate ((out.length : Int)).toNat (0 : Int) := by
   rw [Int.toNat_natCast]
   apply List.ext_getElem?
   intro i
   simp only [zs, List.getElem?_map, List.getElem?_replicate]
   rcases Nat.lt_or_ge i out.length with hi | hi
   ·rw [List.getElem?_range hi, if_pos hi]; rfl
   ·rw [List.getElem?_eq_none (by simpa using hi), if_neg (by omega)]; rfl
  have zM : (TS.start out).nm.map nmB = List.replicate ((out.length : Int)).toNat (⟨#[]⟩ : ByteArray) := by
   rw [Int.toNat_natCast]; simp [TS.start, nmB]
  refine ⟨_, d2, _, _, _, d1, _, _, _, d1, _, _, _, d1, ⟨⟨by omega, by omega, by omega, by omega⟩, ?_⟩, ⟨⟨by omega, by omega, by omega, by omega⟩, ?_⟩⟩
  ·refine RowR.make (enc := eI) (x := (0 : Int)) rfl (by simp [maxLen]; omega) (fun _ => (none : Option Nat)) 1 fun b67 w68 R1 u1 e1 hb67 => ⟨Below.cel e1, ⟨⟨by omega, by omega, by omega, by omega⟩, ?_⟩⟩
   refine RowR.make (enc := eSt) (x := (⟨#[]⟩ : ByteArray)) rfl (by simp [maxLen]; omega) (setOwn (fun _ => (none : Option Nat)) (some b67) 1) 2 fun b69 w70 R2 u2 e2 hb69 => ⟨Below.cel (e1.trans e2), ?_⟩
   refine Bx.new (setOwn (setOwn (fun _ => (none : Option Nat)) (some b67) 1) (some b69) 2) 0 fun b71 w72 hB u3 e3 hb71 => ?_
   have h1 := (R1.upd u2 (by decide)).upd u3 (by decide)
   have h2 := R2.upd u3 (by decide)
   rw [← zP] at h1
   rw [← zM] at h2
   exact ⟨w62, _, b71, (some ⟨b67, 0, none⟩, _, _), (some ⟨b69, 0, none⟩, _, _), x62, rfl, ((L0.upd u1).upd u2).upd u3, hB, h62, h1, h2⟩
  ·refine RowR.make (enc := eSt) (x := (⟨#[]⟩ : ByteArray)) rfl (by simp [maxLen]; omega) (fun _ => (none : Option Nat)) 2 fun b73 w74 R1 u1 e1 hb73 => ⟨Below.cel e1, ⟨⟨by omega, by omega, by omega, by omega⟩, ?_⟩⟩
   refine RowR.make (enc := eI) (x := (0 : Int)) rfl (by simp [maxLen]; omega) (setOwn (fun _ => (none : Option Nat)) (some b73) 2) 1 fun b75 w76 R2 u2 e2 hb75 => ⟨Below.cel (e1.trans e2), ?_⟩
   refine Bx.new (setOwn (setOwn (fun _ => (none : Option Nat)) (some b73) 2) (some b75) 1) 0 fun b77 w78 hB u3 e3 hb77 => ?_
   have h1 := (R1.upd u2 (by decide)).upd u3 (by decide)
   have h2 := R2.upd u3 (by decide)
   rw [← zM] at h1
   rw [← zP] at h2
   exact ⟨w62, _, b77, (some ⟨b75, 0, none⟩, _, _), (some ⟨b73, 0, none⟩, _, _), x62, rfl, ((L0.upd u1).upd u2).upd u3, hB, h62, h2, h1⟩
end Go.Proofs.YtbiamhoonhjodadGreatDoor

namespace Go.Proofs.YtbiamhoonhjodadGreatDoor
open Go Go.V Go.Proofs
open Go.RowKit (Below)
/-! manystrand/graph.joined -/
def N14 (a1 : Option Addr) (l1 : Nat) (c1 : Nat) (x2 : Int) (a3 : Option Addr) (l3 : Nat) (c3 : Nat) (K : Option Addr → Nat → Nat → Int → World → Prop) (w : World) : Prop :=
 AllocK w (#[(.int .i64 x2), (.slice a3 l3 c3)]) 24 fun b4 w5 =>
 ∃ a6 l6 c6, w5.cell? (b4.add 1) = some (.slice a6 l6 c6) ∧
 (∃ (I7 : Option Addr → Nat → Nat → Int → World → Prop) (μ8 : Option Addr → Nat → Nat → Int → World → Nat),
 (I7 a1 l1 c1 0 w5 ∧ True) ∧
 ∀ w9 a10 l10 c10 x11, I7 a10 l10 c10 x11 w9 →
 BoolK (decide (x11 < l6))
 ((0 ≤ x11 ∧ x11 < l6) ∧
 AddrK a6 fun b12 =>
 ∃ s13, w9.cell? ((b12.add (x11.toNat * 5)).add 0) = some (.string s13) ∧
 (∃ x14, w9.cell? ((b12.add (x11.toNat * 5)).add 1) = some (.int .i64 x14) ∧
 (∃ s15, w9.cell? ((b12.add (x11.toNat * 5)).add 2) = some (.string s15) ∧
 (∃ a16 l16 c16, w9.cell? ((b12.add (x11.toNat * 5)).add 3) = some (.slice a16 l16 c16) ∧
 (∃ a17 l17 c17, w9.cell? ((b12.add (x11.toNat * 5)).add 4) = some (.slice a17 l17 c17) ∧
 (AllocK w9 (#[.string ⟨#[]⟩, .int .i64 0, .string ⟨#[]⟩, .slice none 0 0, .slice none 0 0]) 30 fun b18 w19 =>
 SetK w19 (b18.add 0) (.string s13) fun w20 =>
 SetK w20 (b18.add 1) (.int .i64 x14) fun w21 =>
 SetK w21 (b18.add 2) (.string s15) fun w22 =>
 SetK w22 (b18.add 3) (.slice a16 l16 c16) fun w23 =>
 SetK w23 (b18.add 4) (.slice a17 l17 c17) fun w24 =>
 ∃ a25 l25 c25, w24.cell? (b18.add 4) = some (.slice a25 l25 c25) ∧
 ((0 ≤ (l25 : Int) ∧ (l25 : Int) ≤ l25 ∧ ((8 : Nat) : Int) * l25 ≤ 281474976710656 ∧ (l25 : Int) ≤ 9223372036854775807) ∧
 AllocK w24 (madeCells (#[.int .i64 0]) ((l25 : Int).toNat * 1)) 3 fun b26 w27 =>
 ∃ a28 l28 c28, w27.cell? (b18.add 4) = some (.slice a28 l28 c28) ∧
 (∃ (I29 : Int → World → Prop) (μ30 : Int → World → Nat),
 (I29 0 w27 ∧ True) ∧
 ∀ w31 x32, I29 x32 w31 →
 BoolK (decide (x32 < l28))
 ((0 ≤ x32 ∧ x32 < l28) ∧
 AddrK a28 fun b33 =>
 ∃ x34, w31.cell? (b33.add (x32.toNat * 1)) = some (.int .i64 x34) ∧
 ((0 ≤ x32 ∧ x32 < ((l25 : Int).toNat : Nat)) ∧
 SetK w31 (b26.add (x32.toNat * 1)) (.int .i64 (IntKind.wrap .i64 (l1 + x34))) fun w35 =>
 I29 (IntKind.wrap .i64 (x32 + 1)) w35 ∧ μ30 (IntKind.wrap .i64 (x32 + 1)) w35 < μ30 x32 w31))
 (SetK w31 (b18.add 4) (.slice (some b26) ((l25 : Int).toNat) ((l25 : Int).toNat)) fun w36 =>
 ∃ s37, w36.cell? (b18.add 0) = some (.string s37) ∧
 (∃ x38, w36.cell? (b18.add 1) = some (.int .i64 x38) ∧
 (∃ s39, w36.cell? (b18.add 2) = some (.string s39) ∧
 (∃ a40 l40 c40, w36.cell? (b18.add 3) = some (.slice a40 l40 c40) ∧
 (∃ a41 l41 c41, w36.cell? (b18.add 4) = some (.slice a41 l41 c41) ∧
 (AllocK w36 (#[(.string s37), (.int .i64 x38), (.string s39), (.slice a40 l40 c40), (.slice a41 l41 c41)]) 30 fun b42 w43 =>
 ∃ a44, ∃ l44, ∃ c44, ∃ w45, Sem.run Tryz.prog (Builtin.append_ #[22, 22] 22 #[(.slice a10 l10 c10), (.slice (some b42) 1 1)]) w43 = .ok (.slice a44 l44 c44) w45 ∧
 (I7 a44 l44 c44 (IntKind.wrap .i64 (x11 + 1)) w45 ∧ μ8 a44 l44 c44 (IntKind.wrap .i64 (x11 + 1)) w45 < μ8 a10 l10 c10 x11 w9)))))))))))))))
 (DrewK w9 fun w46 =>
 ∃ x47, w46.cell? b4 = some (.int .i64 x47) ∧
 (K a10 l10 c10 (IntKind.wrap .i64 (l1 + x47)) w46)))
def ann14 : Ann := (.two .nil (.two .nil (.two (.two .nil (.one (.loop [(0, (.one .slice)), (17, (.one (.int .i64)))] [3, 6, 15, 16] (.two .nil (.two (.two .nil .nil) (.two (.one (.two .nil (.two .nil (.two (.two .nil (.one (.loop [(28, (.one (.int .i64)))] [0, 3, 6, 8, 9, 15, 16, 17, 26, 27] (.two .nil (.two (.two .nil .nil) (.two (.one (.two .nil .nil)) .nil)))))) (.two .nil .nil))))) .nil)))))) (.two (.anyC 7 (.take 0 (.take 1 (.take 2 (.take 3 (.take 4 (.take 5 (.take 6 .done)))))))) .nil))))
noncomputable def code14 : Code := match Tryz.f14.body with | some c => c | none => .skip
theorem calls14 (a1 : Option Addr) (l1 : Nat) (c1 : Nat) (x2 : Int) (a3 : Option Addr) (l3 : Nat) (c3 : Nat) (K : Option Addr → Nat → Nat → Int → World → Prop) (w : World) (h : N14 a1 l1 c1 x2 a3 l3 c3 K w) : Calls Tryz.prog 14 #[(.slice a1 l1 c1), (.agg #[(.int .i64 x2), (.slice a3 l3 c3)])] w fun en w' => ∃ (a48 : Option Addr), ∃ (l48 : Nat), ∃ (c48 : Nat), ∃ (x49 : Int), en = .returned (.tuple #[(.slice a48 l48 c48), (.int .i64 x49)]) ∧ K a48 l48 c48 x49 w' :=
 fn_calls tabOk mixed Tryz.func14 (by kernel_rfl : Tryz.f14.body = some code14) ann14 [(.slice a1 l1 c1), (.agg #[(.int .i64 x2), (.slice a3 l3 c3)])] [(.one .slice), (.one (.int .i64))] K w (by kernel_rfl) (by kernel_rfl) (by kernel_rfl) h
end Go.Proofs.YtbiamhoonhjodadGreatDoor

namespace Go.V.Gr
open Go Go.V
def shift (n : Nat) (x : Nd) : Nd := { x with ks := x.ks.map fun k => (n : Int) + k }
def app (xs ys : List Nd) : List Nd := xs ++ ys.map (shift xs.length)
theorem shift_hd (n : Nat) (x : Nd) : (shift n x).hd = x.hd := by simp [shift, Nd.hd]
theorem app_len (xs ys : List Nd) : (app xs ys).length = xs.length + ys.length := by simp [app]
theorem nd_left {xs ys : List Nd} {i : Nat} (h : i < xs.length) : nd (app xs ys) i = nd xs i := by
 rw [nd, nd, app, List.getElem?_append_left h]
theorem nd_right {xs ys : List Nd} {j : Nat} (h : j < ys.length) : nd (app xs ys) (xs.length + j) = shift xs.length (nd ys j) := by
 rw [nd, nd, app, List.getElem?_append_right (by omega), Nat.add_sub_cancel_left, List.getElem?_map, List.getElem?_eq_getElem h]; rfl
theorem app_closed {xs ys : List Nd} (hx : Closed xs) (hy : Closed ys) : Closed (app xs ys) := by
 intro x hm k hk
 rw [app_len]
 rcases List.mem_append.1 hm with h | h
 ·have := hx x h k hk; omega
 ·obtain ⟨y, hy', rfl⟩ := List.mem_map.1 h
  obtain ⟨k', hk', rfl⟩ := List.mem_map.1 hk
  have := hy y hy' k' hk'; omega
theorem app_left {xs ys : List Nd} (hx : Closed xs) {i : Nat} (hi : i < xs.length) : Eqv xs (app xs ys) i i :=
 Eqv.map (fun i => i) (fun i => i < xs.length) (fun i hi => ⟨by rw [nd_left hi], fun m hm => ⟨kid_lt hx hi hm, by simp only [kid, nd_left hi]⟩⟩) hi
theorem app_right {xs ys : List Nd} (hy : Closed ys) {j : Nat} (hj : j < ys.length) : Eqv ys (app xs ys) j (xs.length + j) :=
 Eqv.map (fun j => xs.length + j) (fun j => j < ys.length) (fun j hj => ⟨by rw [nd_right hj, shift_hd], fun m hm => ⟨kid_lt hy hj hm, by
  have h1 := nd_get hj
  rw [kid, kid, nd_right hj, shift, List.getElem?_map]
  rw [List.getElem?_eq_getElem hm]
  have hk : 0 ≤ (nd ys j).ks[m] := by
   have := hy (nd ys j) (by rw [h1]; exact List.getElem_mem _) _ (List.getElem_mem hm); omega
  simp only [Option.map_some, Option.getD_some]; omega⟩⟩) hj
end Go.V.Gr
namespace Go.Proofs.YtbiamhoonhjodadGreatDoor
open Go Go.V Go.Proofs Go.V.Gr
open Go.RowKit (Below)
theorem app_sz {xs ys : List Nd} (hx : Sz xs) (hy : Sz ys) (h : xs.length + ys.length ≤ 1000000) : Sz (app xs ys) := by
 refine ⟨by rw [app_len]; exact h, fun x hm => ?_, fun x hm => ?_⟩
 all_goals rcases List.mem_append.1 hm with h | h
 ·exact hx.fs x h
 ·obtain ⟨y, hy', rfl⟩ := List.mem_map.1 h; exact hy.fs y hy'
 ·exact hx.ks x h
 ·obtain ⟨y, hy', rfl⟩ := List.mem_map.1 h; simpa [shift] using hy.ks y hy'
theorem app_w {xs ys : List Nd} (hx : ∀ x ∈ xs, NdW x) (hy : ∀ x ∈ ys, NdW x) : ∀ x ∈ app xs ys, NdW x := by
 intro x hm
 rcases List.mem_append.1 hm with h | h
 ·exact hx x h
 ·obtain ⟨y, hy', rfl⟩ := List.mem_map.1 h
  have W := hy y hy'
  exact ⟨⟨W.hd.kd, W.hd.n, W.hd.tx, W.hd.fs, W.hd.len⟩, ⟨W.key.kd, by simpa [shift] using W.key.ks⟩⟩
theorem app_eqv {xs ys : List Nd} (hx : Closed xs) (hy : Closed ys) {i j : Nat} (hi : i < xs.length) (hj : j < ys.length) : Eqv (app xs ys) (app xs ys) i (xs.length + j) ↔ Eqv xs ys i j :=
 ⟨fun e => ((app_left hx hi).trans e).trans (app_right hy hj).symm, fun e => ((app_left hx hi).symm.trans e).trans (app_right hy hj)⟩
theorem app_nil (ys : List Nd) : app [] ys = ys := by
 have : ∀ y : Nd, shift 0 y = y := fun y => by
  simp only [shift, Int.natCast_zero, Int.zero_add, List.map_id']
 simp only [app, List.nil_append, List.length_nil]
 rw [List.map_congr_left (g := id) fun y _ => this y, List.map_id]
structure JN (w0 w : World) (own : OwnM Nat) (xs : List Nd) (RW : List Rw) (s : SL) : Prop where
 loc : Mine own w0 w
 out : RowR own 0 30 5 eN w s RW
 len : RW.length = xs.length
 nds : ∀ (q : Nat) (r : Rw) (x : Nd), RW[q]? = some r → xs[q]? = some x → r.kd = x.kd ∧ r.n = x.n ∧ r.tx = x.tx ∧ x.kd.size ≤ maxLen ∧ x.tx.size ≤ maxLen ∧ (Lit.int .i64 x.n).wf = true ∧
  RL 2 RFt w0 r.sf.1 r.sf.2.1 x.fs ∧ RowR own (10 + q) 3 1 eI w r.sk x.ks ∧ x.ks.length ≤ maxLen
section
variable {w0 w w' : World} {own own' : OwnM Nat} {xs : List Nd} {RW : List Rw} {s : SL}
theorem JN.start (w : World) : JN w w (fun _ => none) [] [] (none, 0, 0) := ⟨Mine.refl w, RowR.nil _ _ _ _ _ _, rfl, fun q r x e => by simp at e⟩
theorem JN.ext (h : JN w0 w own xs RW s) (x : Ext w w') : JN w0 w' own xs RW s := ⟨h.loc.ext x, h.out.ext x, h.len, fun q r y e1 e2 => by
 obtain ⟨f1, f2, f3, f4, f5, f6, f7, f8, f9⟩ := h.nds q r y e1 e2
 exact ⟨f1, f2, f3, f4, f5, f6, f7, f8.ext x, f9⟩⟩
theorem JN.upd {r : Nat} (h : JN w0 w own xs RW s) (u : Upd own own' r w w') (h0 : r ≠ 0) (h1 : ∀ q, q < xs.length → r ≠ 10 + q) : JN w0 w' own' xs RW s := ⟨h.loc.upd u, h.out.upd u (fun e => h0 e.symm), h.len, fun q r' y e1 e2 => by
 obtain ⟨f1, f2, f3, f4, f5, f6, f7, f8, f9⟩ := h.nds q r' y e1 e2
 exact ⟨f1, f2, f3, f4, f5, f6, f7, f8.upd u (fun e => h1 q (List.getElem?_eq_some_iff.1 e2).1 e.symm), f9⟩⟩
theorem JN.rows (h : JN w0 w own xs RW s) (hm : xs.length ≤ maxLen) : RNds w s.1 s.2.1 xs := by
 refine ⟨h.out.1.rows eN_len RNd h.len.symm fun f q r y hr hy hf => ?_, by rw [h.out.len, h.len]; exact hm⟩
 obtain ⟨f1, f2, f3, f4, f5, f6, f7, f8, f9⟩ := h.nds q r y hr hy
 refine ⟨by rw [hf 0 (by omega), ← f1]; rfl, by rw [hf 1 (by omega), ← f2]; rfl, by rw [hf 2 (by omega), ← f3]; rfl, f4, f5, ⟨_, _, _, by rw [hf 3 (by omega)]; rfl, f7.ext RFt.mono h.loc.below⟩, ⟨_, _, _, by rw [hf 4 (by omega)]; rfl, OwnR.ints f8.1, ?_⟩, f6⟩
 rw [f8.len]; exact f9
theorem JN.more {s' : SL} {r : Rw} {x : Nd} (h : JN w0 w own xs RW s) (h1 : r.kd = x.kd) (h2 : r.n = x.n) (h3 : r.tx = x.tx) (h4 : x.kd.size ≤ maxLen) (h5 : x.tx.size ≤ maxLen) (h6 : (Lit.int .i64 x.n).wf = true) (h7 : RL 2 RFt w0 r.sf.1 r.sf.2.1 x.fs)
  (h8 : RowR own (10 + xs.length) 3 1 eI w r.sk x.ks) (h9 : x.ks.length ≤ maxLen) (u : Upd own own' 0 w w') (ho : RowR own' 0 30 5 eN w' s' (RW ++ [r])) : JN w0 w' own' (xs ++ [x]) (RW ++ [r]) s' := by
 refine ⟨h.loc.upd u, ho, by simp [h.len], fun q r2 y e1 e2 => ?_⟩
 rcases Nat.lt_or_ge q xs.length with hq | hq
 ·rw [List.getElem?_append_left (by rw [h.len]; exact hq)] at e1
  rw [List.getElem?_append_left hq] at e2
  obtain ⟨f1, f2, f3, f4, f5, f6, f7, f8, f9⟩ := h.nds q r2 y e1 e2
  exact ⟨f1, f2, f3, f4, f5, f6, f7, f8.upd u (by omega), f9⟩
 ·have hq2 : q = xs.length := by have := (List.getElem?_eq_some_iff.1 e2).1; simp at this; omega
  subst hq2
  rw [← h.len, List.getElem?_concat_length] at e1
  rw [List.getElem?_concat_length] at e2
  cases e1; cases e2
  exact ⟨h1, h2, h3, h4, h5, h6, h7, h8.upd u (by omega), h9⟩
end
set_option maxRecDepth 100000 in
theorem ctr14 {w0 w : World} {own : OwnM Nat} {xs ys : List Nd} {RW : List Rw} {s : SL} (root : Int) {a3 : Option Addr} {l3 : Nat} (c3 : Nat) (h : JN w0 w own xs RW s) (hy : RNds w0 a3 l3 ys) (hz : Sz ys) (hxl : xs.length ≤ 1000000) (hc : Closed ys) (hr : 0 ≤ root ∧ root ≤ 1000000) :
  Calls Tryz.prog 14 #[.slice s.1 s.2.1 s.2.2, .agg #[.int .i64 root, .slice a3 l3 c3]] w fun en w' => ∃ a l c x, en = .returned (.tuple #[.slice a l c, .int .i64 x]) ∧
   (x = (xs.length : Int) + root ∧ ∃ own' RW', JN w0 w' own' (app xs ys) RW' (a, l, c) ∧ Fr own own' w w') := by
 refine calls14 _ _ _ _ _ _ _ _ w ?_
 have hn := hz.len
 have hl3 := hy.len
 have hs1 : s.2.1 = xs.length := by rw [h.out.len, h.len]
 refine AllocK.mk fun b4 w5 hb4 hB4 x5 => ?_
 have h5 := h.ext x5
 have u4 : Ub own w5 b4 _ _ := ⟨hB4, h.loc.top b4 (by omega)⟩
 refine ⟨_, _, _, (blkAt2 hB4).2.1, ?_⟩
 refine ⟨fun a l c i w' => ∃ (k : Nat) (own' : OwnM Nat) (RW' : List Rw), i = k ∧ k ≤ ys.length ∧ JN w0 w' own' (xs ++ (ys.take k).map (shift xs.length)) RW' (a, l, c) ∧ Ub own' w' b4 #[.int .i64 root, .slice a3 l3 c3] 24 ∧ Fr own own' w w', fun _ _ _ i _ => ys.length - i.toNat, ⟨⟨0, own, RW, rfl, by omega, by simpa using h5, u4, Fr.of_ext own x5⟩, trivial⟩, ?_⟩
 rintro w9 a10 l10 c10 _ ⟨k, own1, RW1, rfl, hk, J, u4, F9⟩
 refine BoolK.mk (fun t => ?_) (fun t => ?_)
 ·have hlt : k < ys.length := by have := of_decide_eq_true t; omega
  have hym := List.getElem_mem hlt
  have hks := hz.ks _ hym
  obtain ⟨b12, ha, n0, n1, n2, n3, n4, ⟨a16, l16, c16, n5, n6⟩, ⟨a17, l17, c17, n7, n8⟩, nw⟩ := ndAt hy (Ext.refl w0) hlt
  have y9 := J.loc.below
  have e17 := n8.len
  refine ⟨⟨by omega, by omega⟩, adK ha ⟨_, y9.cell n0, _, y9.cell n1, _, y9.cell n2, _, _, _, y9.cell n5, _, _, _, y9.cell n7, ?_⟩⟩
  refine local5 fun b18 w24 hb18 hB18 x24 => ?_
  have u18 : Upd own1 (setOwn own1 (some b18) 5) 5 w9 w24 := Upd.fresh x24 (by omega) hB18.lt _
  have bx18 : Bx (setOwn own1 (some b18) 5) 5 w24 b18 _ _ := ⟨hB18, by unfold setOwn; rw [if_pos rfl]⟩
  have J := J.upd u18 (by decide) (fun q _ => by omega)
  have u4 := u4.fr u18.fr
  have F24 := F9.trans u18.fr
  generalize setOwn own1 (some b18) 5 = own2 at J u4 bx18 F24
  clear u18
  refine ⟨_, _, _, (blkAt5 bx18.blk (Ext.refl w24)).2.2.2.2, ⟨by omega, by omega, by omega, by omega⟩, ?_⟩
  rw [Int.toNat_natCast]
  have hxk : (xs ++ (ys.take k).map (shift xs.length)).length = xs.length + k := by simp; omega
  refine RowR.make (x := (0 : Int)) (enc := eI) rfl (by simp only [maxLen]; omega) own2 (10 + (xs.length + k)) fun b26 w27 r26 u26 x27 hb26 => ?_
  have J := J.upd u26 (by omega) (fun q hq => by omega)
  have u4 := u4.fr u26.fr
  have bx18 := bx18.upd u26 (by omega)
  have F27 := F24.trans u26.fr
  generalize setOwn own2 (some b26) (10 + (xs.length + k)) = own3 at J u4 bx18 r26 F27
  clear u26
  refine ⟨_, _, _, (blkAt5 bx18.blk (Ext.refl w27)).2.2.2.2, ?_⟩
  refine ⟨fun i w' => ∃ (m : Nat) (kk : List Int), i = m ∧ m ≤ l17 ∧ JN w0 w' own3 (xs ++ (ys.take k).map (shift xs.length)) RW1 (a10, l10, c10) ∧ Ub own3 w' b4 #[.int .i64 root, .slice a3 l3 c3] 24 ∧ Bx own3 5 w' b18 #[.string ys[k].kd, .int .i64 ys[k].n, .string ys[k].tx, .slice a16 l16 c16, .slice a17 l17 c17] 30 ∧
    RowR own3 (10 + (xs.length + k)) 3 1 eI w' (some ⟨b26, 0, none⟩, l17, l17) kk ∧ kk.length = l17 ∧ Fr own own3 w w' ∧ ∀ j, j < m → kk[j]? = (ys[k].ks[j]?).map fun v => (xs.length : Int) + v, fun i _ => l17 - i.toNat,
   ⟨⟨0, _, rfl, by omega, J, u4, bx18, r26, by simp, F27, fun j hj => by omega⟩, trivial⟩, ?_⟩
  clear J u4 bx18 r26 F27
  rintro w31 _ ⟨m, kk, rfl, hm, J, u4, bx18, rk, hkl, F31, hkk⟩
  refine BoolK.mk (fun t => ?_) (fun t => ?_)
  ·have hmlt : m < l17 := by have := of_decide_eq_true t; omega
   have hmk : m < ys[k].ks.length := by omega
   obtain ⟨b33, ha2, q0⟩ := ksAt n8 J.loc.below hmk
   have hkb := hc _ hym _ (List.getElem_mem hmk)
   refine ⟨⟨by omega, by omega⟩, adK ha2 ⟨_, q0, ⟨by omega, by omega⟩, ?_⟩⟩
   rw [hs1, wrap_id (x := (xs.length : Nat) + ys[k].ks[m]) (by omega) (by omega), wrap_succ (by omega)]
   refine RowR.seti rk (by omega) _ fun w35 rk' u35 => ?_
   refine ⟨⟨m + 1, _, rfl, by omega, J.upd u35 (by omega) (fun q hq => by omega), u4.fr u35.fr, bx18.upd u35 (by omega), rk', by simpa using hkl, F31.trans u35.fr, fun j hj => ?_⟩, by simp; omega⟩
   rw [List.getElem?_set]
   by_cases e : m = j
   ·subst e
    rw [if_pos rfl, if_pos (by omega), List.getElem?_eq_getElem hmk]; rfl
   ·rw [if_neg e]; exact hkk j (by omega)
  ·have hml : m = l17 := by have := of_decide_eq_false t; omega
   subst hml
   have hks2 : kk = (shift xs.length ys[k]).ks := by
    apply List.ext_getElem?
    intro j
    rw [shift, List.getElem?_map]
    rcases Nat.lt_or_ge j m with hj | hj
    ·exact hkk j hj
    ·rw [List.getElem?_eq_none (by omega), List.getElem?_eq_none (by omega)]; rfl
   subst hks2
   refine Bx.setA bx18 (by simp) fun w36 bx36 u36 => ?_
   have J := J.upd u36 (by omega) (fun q _ => by omega)
   have u4 := u4.fr u36.fr
   have rk := rk.upd u36 (by omega)
   obtain ⟨f0, f1, f2, f3, f4⟩ := blkAt5 (v0 := .string ys[k].kd) (v1 := .int .i64 ys[k].n) (v2 := .string ys[k].tx) (v3 := .slice a16 l16 c16) (v4 := .slice (some ⟨b26, 0, none⟩) m m) (by simpa using bx36.blk) (Ext.refl w36)
   refine ⟨_, by simpa [add_mk] using f0, _, f1, _, f2, _, _, _, f3, _, _, _, f4, ?_⟩
   refine RowR.push (⟨ys[k].kd, ys[k].n, ys[k].tx, (a16, l16, c16), (some ⟨b26, 0, none⟩, m, m)⟩ : Rw) sltN J.out eN_len eN_one (by rw [J.len, hxk]; omega) rfl fun s' w45 ro uo => ?_
   rw [wrap_succ (by omega)]
   have ht : xs ++ (ys.take (k + 1)).map (shift xs.length) = (xs ++ (ys.take k).map (shift xs.length)) ++ [shift xs.length ys[k]] := by
    rw [List.take_add_one, List.getElem?_eq_getElem hlt, List.map_append]; simp
   have J2 := J.more (x := shift xs.length ys[k]) rfl rfl rfl n3 n4 nw n6 (by rw [hxk]; exact rk) (by simp [shift, maxLen]; omega) uo ro
   rw [← ht] at J2
   exact ⟨⟨k + 1, _, _, rfl, by omega, J2, u4.fr uo.fr, (F31.trans u36.fr).trans uo.fr⟩, by simp; omega⟩
 ·have hkl : k = ys.length := by have := of_decide_eq_false t; omega
  subst hkl
  rw [List.take_length] at J
  refine DrewK.mk fun w46 x46 => ⟨_, (blkAt2 (u4.blk.ext x46)).2.2, ?_⟩
  rw [hs1, wrap_id (by omega) (by omega)]
  exact ⟨rfl, own1, RW1, J.ext x46, F9.trans (Fr.of_ext _ x46)⟩
end Go.Proofs.YtbiamhoonhjodadGreatDoor

namespace Go.Proofs.YtbiamhoonhjodadGreatDoor
open Go Go.V Go.Proofs
open Go.RowKit (Below)
/-! manystrand/graph.Equal -/
def N8 (x1 : Int) (a2 : Option Addr) (l2 : Nat) (c2 : Nat) (x3 : Int) (a4 : Option Addr) (l4 : Nat) (c4 : Nat) (K : Bool → World → Prop) (w : World) : Prop :=
 AllocK w (#[(.int .i64 x1), (.slice a2 l2 c2)]) 24 fun b5 w6 =>
 AllocK w6 (#[(.int .i64 x3), (.slice a4 l4 c4)]) 24 fun b7 w8 =>
 ∃ x9, w8.cell? (b5.add 0) = some (.int .i64 x9) ∧
 (∃ a10 l10 c10, w8.cell? (b5.add 1) = some (.slice a10 l10 c10) ∧
 (Calls Tryz.prog 5 #[(.agg #[(.int .i64 x9), (.slice a10 l10 c10)])] w8 fun e13 w12 =>
 ∃ p11, e13 = .returned (.bool p11) ∧
 (BoolK (!p11)
 (K false w12)
 (∃ x14, w12.cell? (b7.add 0) = some (.int .i64 x14) ∧
 (∃ a15 l15 c15, w12.cell? (b7.add 1) = some (.slice a15 l15 c15) ∧
 (Calls Tryz.prog 5 #[(.agg #[(.int .i64 x14), (.slice a15 l15 c15)])] w12 fun e18 w17 =>
 ∃ p16, e18 = .returned (.bool p16) ∧
 (BoolK (!p16)
 (K false w17)
 (∃ x19, w17.cell? (b5.add 0) = some (.int .i64 x19) ∧
 (∃ a20 l20 c20, w17.cell? (b5.add 1) = some (.slice a20 l20 c20) ∧
 (Calls Tryz.prog 14 #[(.slice none 0 0), (.agg #[(.int .i64 x19), (.slice a20 l20 c20)])] w17 fun e24 w23 =>
 ∃ a21, ∃ l21, ∃ c21, ∃ x22, e24 = .returned (.tuple #[(.slice a21 l21 c21), (.int .i64 x22)]) ∧
 (∃ x25, w23.cell? (b7.add 0) = some (.int .i64 x25) ∧
 (∃ a26 l26 c26, w23.cell? (b7.add 1) = some (.slice a26 l26 c26) ∧
 (Calls Tryz.prog 14 #[(.slice a21 l21 c21), (.agg #[(.int .i64 x25), (.slice a26 l26 c26)])] w23 fun e30 w29 =>
 ∃ a27, ∃ l27, ∃ c27, ∃ x28, e30 = .returned (.tuple #[(.slice a27 l27 c27), (.int .i64 x28)]) ∧
 (Calls Tryz.prog 15 #[(.slice a27 l27 c27)] w29 fun e33 w32 =>
 ∃ a31, ∃ l31, ∃ c31, e33 = .returned (.slice a31 l31 c31) ∧
 (DrewK w32 fun w34 =>
 (0 ≤ x22 ∧ x22 < l31) ∧
 AddrK a31 fun b35 =>
 ∃ x36, w34.cell? (b35.add (x22.toNat * 1)) = some (.int .i64 x36) ∧
 ((0 ≤ x28 ∧ x28 < l31) ∧
 AddrK a31 fun b37 =>
 ∃ x38, w34.cell? (b37.add (x28.toNat * 1)) = some (.int .i64 x38) ∧
 (K (x36 == x38) w34)))))))))))))))))
def ann8 : Ann := (.two .nil (.two (.two .nil (.two (.two .nil .nil) .nil)) (.two .nil (.two .nil (.two .nil (.two (.anyC 10 (.take 0 (.take 1 (.take 2 (.take 3 (.take 4 (.take 5 (.take 6 (.take 7 (.take 8 (.take 9 .done))))))))))) .nil))))))
noncomputable def code8 : Code := match Tryz.f8.body with | some c => c | none => .skip
theorem calls8 (x1 : Int) (a2 : Option Addr) (l2 : Nat) (c2 : Nat) (x3 : Int) (a4 : Option Addr) (l4 : Nat) (c4 : Nat) (K : Bool → World → Prop) (w : World) (h : N8 x1 a2 l2 c2 x3 a4 l4 c4 K w) : Calls Tryz.prog 8 #[(.agg #[(.int .i64 x1), (.slice a2 l2 c2)]), (.agg #[(.int .i64 x3), (.slice a4 l4 c4)])] w fun en w' => ∃ (p39 : Bool), en = .returned (.bool p39) ∧ K p39 w' :=
 fn_calls tabOk mixed Tryz.func8 (by kernel_rfl : Tryz.f8.body = some code8) ann8 [(.agg #[(.int .i64 x1), (.slice a2 l2 c2)]), (.agg #[(.int .i64 x3), (.slice a4 l4 c4)])] [(.one .bool)] K w (by kernel_rfl) (by kernel_rfl) (by kernel_rfl) h
end Go.Proofs.YtbiamhoonhjodadGreatDoor

namespace Go.Proofs.YtbiamhoonhjodadGreatDoor
open Go Go.V Go.Proofs Go.V.Gr
open Go.RowKit (Below)
theorem ctr8 (w : World) (r r' : Int) (xs ys : List Nd) {a a' : Option Addr} {l l' : Nat} (c c' : Nat) (hx : RNds w a l xs) (hy : RNds w a' l' ys) (hlx : Lim xs) (hly : Lim ys) (ht : Tb w) :
  Calls Tryz.prog 8 #[.agg #[.int .i64 r, .slice a l c], .agg #[.int .i64 r', .slice a' l' c']] w fun en w' => ∃ p, en = .returned (.bool p) ∧ ((p = true ↔ GrOk r xs 1000 ∧ GrOk r' ys 1000 ∧ Eqv xs ys r.toNat r'.toNat) ∧ Ext w w') := by
 refine calls8 _ _ _ _ _ _ _ _ _ w ?_
 refine AllocK.mk fun b5 w6 hb5 hB5 x6 => AllocK.mk fun b7 w8 hb7 hB7 x8 => ?_
 have y8 := x6.trans x8
 obtain ⟨g0, g1, _⟩ := blkAt2 (hB5.ext x8)
 refine ⟨_, g0, _, _, _, g1, (ctr5 w8 r xs c (RNds.at hx y8)).mono ?_⟩
 rintro en w12 ⟨p, rfl, hp, x12⟩
 have y12 := y8.trans x12
 obtain ⟨k0, k1, _⟩ := blkAt2 (hB7.ext x12)
 refine ⟨_, rfl, BoolK.mk (fun t => ⟨not_iff_false fun e => ?_, y12⟩) (fun t => ⟨_, k0, _, _, _, k1, (ctr5 w12 r' ys c' (RNds.at hy y12)).mono ?_⟩)⟩
 ·rw [hp.2 e.1] at t; cases t
 have ok := hp.1 (by simpa using t)
 clear hp t p
 rintro en w17 ⟨p, rfl, hp, x17⟩
 have y17 := y12.trans x17
 refine ⟨_, rfl, BoolK.mk (fun t => ⟨not_iff_false fun e => ?_, y17⟩) (fun t => ?_)⟩
 ·rw [hp.2 e.2.1] at t; cases t
 have ok' := hp.1 (by simpa using t)
 clear hp t p
 have sx := ok.sz (by omega) hlx
 have sy := ok'.sz (by omega) hly
 have hm := ok.most; have hm' := ok'.most
 have hr := ok.root; have hr' := ok'.root
 obtain ⟨g0, g1, _⟩ := blkAt2 (hB5.ext ((x8.trans x12).trans x17))
 refine ⟨_, g0, _, _, _, g1, (ctr14 (w0 := w17) r c (JN.start w17) (RNds.at hx y17) sx (by simp) ok.closed (by omega)).mono ?_⟩
 rintro en w23 ⟨a21, l21, c21, x22, rfl, rfl, own1, RW1, J1, _⟩
 rw [app_nil] at J1
 have x23 := J1.loc.below
 obtain ⟨k0, k1, _⟩ := blkAt2 (hB7.ext ((x12.trans x17).trans x23))
 refine ⟨_, _, _, _, rfl, _, k0, _, _, _, k1, (ctr14 r' c' J1 (RNds.at hy y17) sy (by omega) ok'.closed (by omega)).mono ?_⟩
 rintro en w29 ⟨a27, l27, c27, x28, rfl, rfl, own2, RW2, J2, _⟩
 have x29 := J2.loc.below
 have sA := app_sz sx sy (by omega)
 refine ⟨_, _, _, _, rfl, (ctr15 w29 c27 (J2.rows (by rw [app_len]; simp only [maxLen]; omega)) (app_closed ok.closed ok'.closed) sA (app_w (ok.w hlx) (ok'.w hly)) (ht.ext (y17.trans x29))).mono ?_⟩
 rintro en w32 ⟨a31, l31, c31, rfl, cl, hcl, _, hO, x32⟩
 refine ⟨_, _, _, rfl, DrewK.mk fun w34 x34 => ?_⟩
 have hcll : cl.length = xs.length + ys.length := by rw [hcl.1, app_len]
 have hI : Ints w32 a31 l31 cl := OwnR.ints hO
 have hl31 := hI.1
 have e1 : ((([] : List Nd).length : Nat) : Int) + r = ((r.toNat : Nat) : Int) := by simp; omega
 have e2 : ((xs.length : Nat) : Int) + r' = ((xs.length + r'.toNat : Nat) : Int) := by omega
 rw [e1, e2]
 have q1 : r.toNat < cl.length := by omega
 have q2 : xs.length + r'.toNat < cl.length := by omega
 obtain ⟨b1, o1, h1, v1⟩ := (Rows.ext RInt.mono hI x34).get q1
 obtain ⟨b2, o2, h2, v2⟩ := (Rows.ext RInt.mono hI x34).get q2
 refine ⟨⟨by omega, by omega⟩, adK h1 ⟨ga cl r.toNat, by rw [Int.toNat_natCast, add_mk, ga_get q1]; simpa [RInt] using v1, ⟨by omega, by omega⟩, adK h2 ⟨ga cl (xs.length + r'.toNat), by rw [Int.toNat_natCast, add_mk, ga_get q2]; simpa [RInt] using v2, ?_, ((y17.trans x29).trans x32).trans x34⟩⟩⟩
 have key := hcl.2 r.toNat (xs.length + r'.toNat) (by rw [app_len]; omega) (by rw [app_len]; omega)
 rw [app_eqv ok.closed ok'.closed ok.lt ok'.lt] at key
 rw [beq_iff_eq]
 exact ⟨fun e => ⟨ok, ok', key.1 e⟩, fun e => key.2 e.2.2⟩
end Go.Proofs.YtbiamhoonhjodadGreatDoor

namespace Go.Proofs.YtbiamhoonhjodadGreatDoor
open Go Go.V Go.Proofs Go.V.Gr
open Go.RowKit (Below)
/-! ### Memory that is given away -/
def dropOwn (own : OwnM Nat) (o : Option Nat) : OwnM Nat := fun k => if o = some k then none else own k
section
variable {w0 w w' : World} {own : OwnM Nat} {r r2 : Nat} {o : Option Nat}
theorem drop_none {k : Nat} (h : own k = none) : dropOwn own o k = none := by unfold dropOwn; split; rfl; exact h
theorem drop_ne (ho : ∀ k, o = some k → own k = some r) {b : Nat} (hb : own b = some r2) (hne : r2 ≠ r) : dropOwn own o b = some r2 := by
 unfold dropOwn
 rw [if_neg, hb]
 intro e
 have := ho b e
 rw [hb] at this
 exact hne (Option.some.inj this)
theorem Mine.drop (h : Mine own w0 w) (o : Option Nat) : Mine (dropOwn own o) w0 w :=
 ⟨⟨h.fr.os, h.fr.tape, h.fr.output, h.fr.size, h.fr.block, fun k hk _ => drop_none (h.fr.free k hk rfl)⟩, fun k hk => drop_none (h.top k hk)⟩
theorem RowR.drop {α : Type} {e : TypeId} {sz : Nat} {enc : α → List Value} {s : SL} {xs : List α} (h : RowR own r2 e sz enc w s xs) (ho : ∀ k, o = some k → own k = some r) (hne : r2 ≠ r) : RowR (dropOwn own o) r2 e sz enc w s xs :=
 ⟨h.1, fun k hk => drop_ne ho (h.2 k hk) hne⟩
theorem Bx.drop {b t : Nat} {cs : Array Value} (h : Bx own r2 w b cs t) (ho : ∀ k, o = some k → own k = some r) (hne : r2 ≠ r) : Bx (dropOwn own o) r2 w b cs t := ⟨h.blk, drop_ne ho h.own hne⟩
theorem FRow.drop {α : Type} {e : TypeId} {enc : α → List Value} {s : SL} {xs : List α} (h : FRow own e enc w s xs) (o : Option Nat) : FRow (dropOwn own o) e enc w s xs := ⟨h.row, fun k hk => drop_none (h.free k hk)⟩
theorem RowR.toF {α : Type} {e : TypeId} {enc : α → List Value} {s : SL} {xs : List α} (h : RowR own r e 1 enc w s xs) : FRow (dropOwn own (sblk s)) e enc w s xs := ⟨h.1, fun k hk => by unfold dropOwn; rw [if_pos hk]⟩
end
/-! ### Twice -/
def TwK (n : Nat) (a b : List Int) : Prop := b.length = a.length ∧ ∀ (m : Nat) (k' : Int), b[m]? = some k' → ∃ k, a[m]? = some k ∧ (k' = k ∨ k' = k + n)
def TwN (n : Nat) (x y : Nd) : Prop := y.kd = x.kd ∧ y.n = x.n ∧ y.tx = x.tx ∧ y.fs = x.fs ∧ TwK n x.ks y.ks
def Twi (xs ys : List Nd) : Prop := ∀ (q : Nat) (y : Nd), ys[q]? = some y → ∃ x, xs[q % xs.length]? = some x ∧ TwN xs.length x y
section
variable {xs ys : List Nd}
theorem Twi.snoc (h : Twi xs ys) {c k : Nat} (hl : ys.length = c * xs.length + k) (hk : k < xs.length) {y : Nd} (hy : TwN xs.length xs[k] y) : Twi xs (ys ++ [y]) := by
 intro q z hz
 rcases Nat.lt_or_ge q ys.length with hq | hq
 ·rw [List.getElem?_append_left hq] at hz; exact h q z hz
 ·have : q = ys.length := by have := (List.getElem?_eq_some_iff.1 hz).1; simp at this; omega
  subst this
  rw [List.getElem?_concat_length] at hz
  cases hz
  have e : ys.length % xs.length = k := by rw [hl, Nat.mul_comm, Nat.mul_add_mod, Nat.mod_eq_of_lt hk]
  exact ⟨xs[k], by rw [e]; exact List.getElem?_eq_getElem hk, hy⟩
theorem TwN.hd {n : Nat} {x y : Nd} (h : TwN n x y) : y.hd = x.hd := hd_mk h.1 h.2.1 h.2.2.1 h.2.2.2.1 h.2.2.2.2.1
theorem Twi.ok (h : Twi xs ys) {root r : Int} (g : GrOk root xs 1000) (h5 : xs.length < 500) (hl : ys.length = 2 * xs.length) (hr : r = root ∨ r = root + xs.length) : GrOk r ys 1000 ∧ Eqv xs ys root.toNat r.toNat := by
 have hroot := g.root
 have at_ : ∀ q (hq : q < ys.length), ∃ hx : q % xs.length < xs.length, TwN xs.length xs[q % xs.length] ys[q] := fun q hq => by
  obtain ⟨x, h1, h2⟩ := h q ys[q] (List.getElem?_eq_getElem hq)
  obtain ⟨h3, rfl⟩ := List.getElem?_eq_some_iff.1 h1
  exact ⟨h3, h2⟩
 have ksb : ∀ q (hq : q < ys.length), ∀ k ∈ ys[q].ks, 0 ≤ k ∧ k < ys.length := fun q hq k hk => by
  obtain ⟨hx, t⟩ := at_ q hq
  obtain ⟨m, hm⟩ := List.getElem?_of_mem hk
  obtain ⟨k0, h1, h2⟩ := t.2.2.2.2.2 m k hm
  have := g.closed _ (List.getElem_mem hx) k0 (List.mem_of_getElem? h1)
  omega
 refine ⟨⟨by omega, by omega, fun y hy => ?_⟩, ?_⟩
 ·obtain ⟨q, hq, rfl⟩ := List.getElem_of_mem hy
  obtain ⟨hx, t⟩ := at_ q hq
  exact (g.nds _ (List.getElem_mem hx)).of_hd t.hd (ksb q hq)
 ·have key : Eqv ys xs r.toNat (r.toNat % xs.length) := by
   refine Eqv.map (fun q => q % xs.length) (fun q => q < ys.length) (fun q hq => ?_) (by omega)
   obtain ⟨hx, t⟩ := at_ q hq
   rw [nd_get hq, nd_get hx]
   refine ⟨t.hd, fun m hm => ?_⟩
   obtain ⟨k0, h1, h2⟩ := t.2.2.2.2.2 m _ (List.getElem?_eq_getElem hm)
   have hb := g.closed _ (List.getElem_mem hx) k0 (List.mem_of_getElem? h1)
   have hb2 := ksb q hq _ (List.getElem_mem hm)
   have e1 : Gr.kid ys q m = (ys[q].ks[m]).toNat := by rw [Gr.kid, nd_get hq, List.getElem?_eq_getElem hm]; rfl
   have e2 : Gr.kid xs (q % xs.length) m = k0.toNat := by rw [Gr.kid, nd_get hx, h1]; rfl
   rw [e1, e2]
   refine ⟨by omega, ?_⟩
   rcases h2 with h2 | h2
   ·rw [h2, Nat.mod_eq_of_lt (by omega)]
   ·rw [h2, show (k0 + (xs.length : Int)).toNat = k0.toNat + xs.length by omega, Nat.add_mod_right, Nat.mod_eq_of_lt (by omega)]
  have e : r.toNat % xs.length = root.toNat := by
   rcases hr with hr | hr
   ·rw [hr, Nat.mod_eq_of_lt (by omega)]
   ·rw [hr, show (root + (xs.length : Int)).toNat = root.toNat + xs.length by omega, Nat.add_mod_right, Nat.mod_eq_of_lt (by omega)]
  rw [e] at key
  exact key.symm
end
/-! ### What is in memory while the second graph is being made -/
structure OP (w0 w : World) (own : OwnM Nat) (b15 : Nat) (root : Int) (xs : List Nd) (s : SL) (RW : List Rw) (ys : List Nd) : Prop where
 loc : Mine own w0 w
 box : Bx own 1 w b15 #[.int .i64 root, .slice s.1 s.2.1 s.2.2] 24
 out : RowR own 0 30 5 eN w s RW
 len : RW.length = ys.length
 nds : ∀ (q : Nat) (r : Rw) (y : Nd), RW[q]? = some r → ys[q]? = some y → r.kd = y.kd ∧ r.n = y.n ∧ r.tx = y.tx ∧ RL 2 RFt w0 r.sf.1 r.sf.2.1 y.fs ∧ FRow own 3 eI w r.sk y.ks
 twi : Twi xs ys
section
variable {w0 w w' : World} {own own' : OwnM Nat} {b15 : Nat} {root : Int} {xs ys : List Nd} {s : SL} {RW : List Rw}
theorem OP.ext (h : OP w0 w own b15 root xs s RW ys) (x : Ext w w') : OP w0 w' own b15 root xs s RW ys :=
 ⟨h.loc.ext x, h.box.ext x, h.out.ext x, h.len, fun q r y e1 e2 => by
  obtain ⟨f1, f2, f3, f4, f5⟩ := h.nds q r y e1 e2
  exact ⟨f1, f2, f3, f4, f5.ext x⟩, h.twi⟩
theorem OP.upd {r : Nat} (h : OP w0 w own b15 root xs s RW ys) (u : Upd own own' r w w') (hr : 2 ≤ r) : OP w0 w' own' b15 root xs s RW ys :=
 ⟨h.loc.upd u, h.box.upd u (by omega), h.out.upd u (by omega), h.len, fun q r y e1 e2 => by
  obtain ⟨f1, f2, f3, f4, f5⟩ := h.nds q r y e1 e2
  exact ⟨f1, f2, f3, f4, f5.upd u⟩, h.twi⟩
theorem OP.drop {o : Option Nat} {r : Nat} (h : OP w0 w own b15 root xs s RW ys) (ho : ∀ k, o = some k → own k = some r) (hr : 2 ≤ r) : OP w0 w (dropOwn own o) b15 root xs s RW ys :=
 ⟨Mine.drop h.loc o, Bx.drop h.box ho (by omega), RowR.drop h.out ho (by omega), h.len, fun q r y e1 e2 => by
  obtain ⟨f1, f2, f3, f4, f5⟩ := h.nds q r y e1 e2
  exact ⟨f1, f2, f3, f4, FRow.drop f5 o⟩, h.twi⟩
theorem OP.cells (h : OP w0 w own b15 root xs s RW ys) : w.cell? (⟨b15, 0, none⟩ : Addr) = some (.int .i64 root) ∧ w.cell? ((⟨b15, 0, none⟩ : Addr).add 0) = some (.int .i64 root) ∧ w.cell? ((⟨b15, 0, none⟩ : Addr).add 1) = some (.slice s.1 s.2.1 s.2.2) := by
 have h := h.box.blk
 exact ⟨by rw [h.cell]; rfl, by rw [add_mk, h.cell]; rfl, by rw [add_mk, h.cell]; rfl⟩
theorem OP.nodes {a : Option Addr} {l : Nat} (h : OP w0 w own b15 root xs s RW ys) (hx : RNds w0 a l xs) (hn : ys.length ≤ 1000000) : RNds w s.1 s.2.1 ys := by
 refine ⟨h.out.1.rows eN_len RNd h.len.symm fun f q r y hr hy hf => ?_, by have := h.out.len; rw [this, h.len]; simp only [maxLen]; omega⟩
 obtain ⟨g1, g2, g3, g4, g5⟩ := h.nds q r y hr hy
 obtain ⟨x, t1, t2⟩ := h.twi q y hy
 obtain ⟨hq, rfl⟩ := List.getElem?_eq_some_iff.1 t1
 obtain ⟨_, _, _, _, _, k1, k2, _, ⟨_, l4, _, _, k3⟩, k4⟩ := ndAt hx (Ext.refl w0) hq
 refine ⟨by rw [hf 0 (by omega), ← g1]; rfl, by rw [hf 1 (by omega), ← g2]; rfl, by rw [hf 2 (by omega), ← g3]; rfl, by rw [t2.1]; exact k1, by rw [t2.2.2.1]; exact k2, ⟨_, _, _, by rw [hf 3 (by omega)]; rfl, g4.ext RFt.mono h.loc.below⟩,
  ⟨_, _, _, by rw [hf 4 (by omega)]; rfl, OwnR.ints g5.row, ?_⟩, by rw [t2.2.1]; exact k4⟩
 have e1 : r.sk.2.1 = y.ks.length := g5.row.1
 rw [e1, t2.2.2.2.2.1, ← k3.len]
 exact k3.2
theorem OP.more {s' : SL} {r : Rw} {y : Nd} {c k : Nat} (h : OP w0 w own b15 root xs s RW ys) (hl : ys.length = c * xs.length + k) (hk : k < xs.length) (hy : TwN xs.length xs[k] y) (h1 : r.kd = y.kd) (h2 : r.n = y.n) (h3 : r.tx = y.tx)
  (hf : RL 2 RFt w0 r.sf.1 r.sf.2.1 y.fs) (hs : FRow own 3 eI w r.sk y.ks) (u : Upd own own' 0 w w') (ho : RowR own' 0 30 5 eN w' s' (RW ++ [r])) {F : World → Prop}
  (kk : ∀ w'', OP w0 w'' own' b15 root xs s' (RW ++ [r]) (ys ++ [y]) → F w'') : SetK w' ((⟨b15, 0, none⟩ : Addr).add 1) (.slice s'.1 s'.2.1 s'.2.2) F := by
 refine Bx.setA (h.box.upd u (by decide)) (by simp) fun w'' hb u2 => kk w'' ⟨(h.loc.upd u).upd u2, by simpa using hb, ho.upd u2 (by decide), by simp [h.len], fun q r2 y2 e1 e2 => ?_, h.twi.snoc hl hk hy⟩
 rcases Nat.lt_or_ge q ys.length with hq | hq
 ·rw [List.getElem?_append_left (by rw [h.len]; exact hq)] at e1
  rw [List.getElem?_append_left hq] at e2
  obtain ⟨f1, f2, f3, f4, f5⟩ := h.nds q r2 y2 e1 e2
  exact ⟨f1, f2, f3, f4, (f5.upd u).upd u2⟩
 ·have : q = ys.length := by have := (List.getElem?_eq_some_iff.1 e2).1; simp at this; omega
  subst this
  rw [← h.len, List.getElem?_concat_length] at e1
  rw [List.getElem?_concat_length] at e2
  cases e1; cases e2
  exact ⟨h1, h2, h3, hf, (hs.upd u).upd u2⟩
theorem OP.reroot (h : OP w0 w own b15 root xs s RW ys) (r : Int) {F : World → Prop} (kk : ∀ w'', OP w0 w'' own b15 r xs s RW ys → F w'') : SetK w ⟨b15, 0, none⟩ (.int .i64 r) F :=
 Bx.set h.box (by simp) fun w'' hb u2 => kk w'' ⟨h.loc.upd u2, by simpa using hb, h.out.upd u2 (by decide), h.len, fun q r2 y2 e1 e2 => by
  obtain ⟨f1, f2, f3, f4, f5⟩ := h.nds q r2 y2 e1 e2
  exact ⟨f1, f2, f3, f4, f5.upd u2⟩, h.twi⟩
end
end Go.Proofs.YtbiamhoonhjodadGreatDoor
