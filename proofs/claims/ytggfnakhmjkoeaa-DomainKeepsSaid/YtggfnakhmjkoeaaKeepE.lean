/- A part of the proof: plain forms of functions and laws about them. -/
import Derived.Test.YtggfnakhmjkoeaaKeepD
namespace Go.Proofs.Ytggfnakhmjkoeaa
open Go Go.V Go.Proofs
open Go.RowKit (Below)
section
variable {H : Type} {enc : TypeId × Value → H} {w : World}

theorem ints_of {a : Option Addr} {l : Nat} {d : List Int} (h : Go.V.Rows 1 RInt64 w a l d) : Ints w a l d := ⟨h.1, h.2.imp id fun ⟨b, o, ha, hx⟩ => ⟨b, o, ha, fun i x hi => (hx i x hi).1⟩⟩
theorem dom_of {a : Option Addr} {l : Nat} {d : Dm} (h : Go.V.Rows 2 RPair64 w a l d) : Dom w a l d := ⟨h.1, h.2.imp id fun ⟨b, o, ha, hx⟩ => ⟨b, o, ha, fun i x hi => (hx i x hi).1⟩⟩
theorem sm_of {a : Option Addr} {l : Nat} {d : Dm} (h : Go.V.Rows 2 RPair64 w a l d) (hl : l ≤ maxLen) : Sm d := ⟨by have := h.1; simp only [maxLen] at hl; omega, fun p hp => by
    obtain ⟨i, hi, rfl⟩ := List.mem_iff_getElem.1 hp
    obtain ⟨_, _, _, _, _, h2⟩ := h.get hi
    exact ⟨h2.2, h2.1⟩⟩
theorem doms_of {a : Option Addr} {l : Nat} {ds : List Dm} (h : Go.V.Rows 1 RDom w a l ds) : Doms w a l ds ∧ ∀ d ∈ ds, Sm d := by
  refine ⟨⟨h.1, h.2.imp id ?_⟩, ?_⟩
  · rintro ⟨b, o, ha, hx⟩
    refine ⟨b, o, ha, fun i x hi => ?_⟩
    obtain ⟨a, l, c, h0, h1, _⟩ := hx i x hi
    exact ⟨a, l, c, h0, dom_of h1⟩
  · intro d hd
    obtain ⟨i, hi, rfl⟩ := List.mem_iff_getElem.1 hd
    obtain ⟨_, _, _, a, l, c, _, h1, h2⟩ := h.get hi
    exact sm_of h1 h2

theorem list4 {cs : List Value} (h : cs.length = 4) : ∃ a b c d, cs = [a, b, c, d] := by
  match cs, h with
  | [a, b, c, d], _ => exact ⟨a, b, c, d, rfl⟩
/-- the cells of a propagator that comes in -/
theorem rd_prop {cs : List Value} (h : Rd enc Try.prog w 24 cs) : ∃ s a2 l2 c2 a3 l3 c3 n vs xs, cs = [.string s, .slice a2 l2 c2, .slice a3 l3 c3, .int .i64 n] ∧ PropAt w s a2 l2 a3 l3 n ⟨s, vs, xs, n⟩ ∧ I64 n := by
  obtain ⟨hl, hf⟩ := h.struct (fs := #[{ name := "Kind", type := 9, offset := 0, embedded := false, tag := "", pkgPath := "", byteOffset := 0 }, { name := "Vars", type := 22, offset := 1, embedded := false, tag := "", pkgPath := "", byteOffset := 16 },
    { name := "Coefs", type := 22, offset := 2, embedded := false, tag := "", pkgPath := "", byteOffset := 40 }, { name := "N", type := 3, offset := 3, embedded := false, tag := "", pkgPath := "", byteOffset := 64 }]) (by kernel_rfl)
  have c24 : Try.prog.cellsOf 24 = 4 := by kernel_rfl
  have c9 : Try.prog.cellsOf 9 = 1 := by kernel_rfl
  have c22 : Try.prog.cellsOf 22 = 1 := by kernel_rfl
  have c3 : Try.prog.cellsOf 3 = 1 := by kernel_rfl
  rw [c24] at hl
  have f0 : Rd enc Try.prog w 9 ((cs.drop 0).take (Try.prog.cellsOf 9)) := hf 0 { name := "Kind", type := 9, offset := 0, embedded := false, tag := "", pkgPath := "", byteOffset := 0 } rfl
  have f1 : Rd enc Try.prog w 22 ((cs.drop 1).take (Try.prog.cellsOf 22)) := hf 1 { name := "Vars", type := 22, offset := 1, embedded := false, tag := "", pkgPath := "", byteOffset := 16 } rfl
  have f2 : Rd enc Try.prog w 22 ((cs.drop 2).take (Try.prog.cellsOf 22)) := hf 2 { name := "Coefs", type := 22, offset := 2, embedded := false, tag := "", pkgPath := "", byteOffset := 40 } rfl
  have f3 : Rd enc Try.prog w 3 ((cs.drop 3).take (Try.prog.cellsOf 3)) := hf 3 { name := "N", type := 3, offset := 3, embedded := false, tag := "", pkgPath := "", byteOffset := 64 } rfl
  rw [c9] at f0
  rw [c22] at f1 f2
  rw [c3] at f3
  obtain ⟨v0, v1, v2, v3, rfl⟩ := list4 hl
  obtain ⟨s, e0, _⟩ := f0.string (by kernel_rfl)
  obtain ⟨a2, l2, c2, vs, e1, h1, m1⟩ := rd_ints f1
  obtain ⟨a3, l3, c3, xs, e2, h2, m2⟩ := rd_ints f2
  obtain ⟨n, e3, hw⟩ := f3.int (k := .i64) (by kernel_rfl)
  simp at e0 e1 e2 e3
  subst e0; subst e1; subst e2; subst e3
  have k1 := h1.1
  have k2 := h2.1
  simp only [maxLen] at m1 m2
  exact ⟨s, a2, l2, c2, a3, l3, c3, n, vs, xs, rfl, ⟨rfl, ints_of h1, ints_of h2, rfl, by simp only; omega, by simp only; omega⟩, i64_of hw⟩
theorem rd_prop1 (f : Nat → Option Value) (cs : List Value) (hl : cs.length = 4) (hf : ∀ j, j < 4 → f j = cs[j]?) (h : Rd enc Try.prog w 24 cs) : ∃ x, RProp w f x := by
  obtain ⟨s, a2, l2, c2, a3, l3, c3, n, vs, xs, rfl, hP, _⟩ := rd_prop h
  exact ⟨_, s, a2, l2, c2, a3, l3, c3, n, hf 0 (by omega), hf 1 (by omega), hf 2 (by omega), hf 3 (by omega), hP⟩
theorem rd_props {cs : List Value} (h : Rd enc Try.prog w 27 cs) : ∃ a l c xs, cs = [.slice a l c] ∧ Props w a l xs ∧ l ≤ maxLen :=
  h.slice (e := 24) (by kernel_rfl) (by kernel_rfl) (by omega) rd_prop1
end

/-- what light grants -/
def Light (ls : List Dm) (ps : List PropS) : Prop := ls.length ≤ 50 ∧ ps.length ≤ 110 ∧ (∀ d ∈ ls, d.length ≤ 600) ∧ ∀ p ∈ ps, p.vars.length ≤ 50 ∧ p.coefs.length ≤ 50

theorem c11 (w : World) (a1 : Option Addr) (l1 c1 : Nat) (a2 : Option Addr) (l2 c2 : Nat) (ls : List Dm) (ps : List PropS) (hd : Doms w a1 l1 ls) (hp : Props w a2 l2 ps) :
    Calls Try.prog 11 #[.slice a1 l1 c1, .slice a2 l2 c2] w fun en w' => ∃ p, en = .returned (.bool p) ∧ ((p = true → Light ls ps) ∧ Ext w w') := by
  refine calls11 _ _ _ _ _ _ _ w ?_
  have e1 := hd.1
  have e2 := hp.1
  refine BoolK.mk (fun _ => ⟨(fun h => by cases h), Ext.refl w⟩) (fun t => ?_)
  simp at t
  refine BoolK.mk (fun _ => ⟨(fun h => by cases h), Ext.refl w⟩) (fun t2 => ?_)
  simp at t2
  refine ⟨fun i w' => ∃ k : Nat, i = k ∧ k ≤ ls.length ∧ (ls.take k).all (fun d => decide (d.length ≤ 600)) = true ∧ Ext w w', fun i _ => ls.length - i.toNat, ⟨⟨0, rfl, by omega, rfl, Ext.refl w⟩, trivial⟩, ?_⟩
  rintro w4 i ⟨k, rfl, hk, hv, hB⟩
  refine BoolK.mk (fun hlt => ?_) (fun hge => ?_)
  · have hlt : k < ls.length := by simp at hlt; omega
    obtain ⟨b1, o1, a, l, c, rfl, h0, h1⟩ := domsAt hd w4 hB hlt
    have hl := h1.1
    refine ⟨by omega, ?_⟩
    simp only [AddrK, Int.toNat_natCast, add_mk, Nat.mul_one]
    refine ⟨_, _, _, h0, BoolK.mk (fun _ => ⟨(fun h => by cases h), hB⟩) (fun t => ?_)⟩
    simp at t
    rw [wrap_succ (by omega)]
    exact ⟨⟨k + 1, rfl, by omega, by rw [all_take hlt, hv, decide_eq_true (by omega)]; rfl, hB⟩, by simp; omega⟩
  have : k = ls.length := by simp at hge; omega
  subst this
  rw [List.take_length] at hv
  refine ⟨fun i w' => ∃ k : Nat, i = k ∧ k ≤ ps.length ∧ (ps.take k).all (fun p => decide (p.vars.length ≤ 50 ∧ p.coefs.length ≤ 50)) = true ∧ Ext w w', fun i _ => ps.length - i.toNat, ⟨⟨0, rfl, by omega, rfl, hB⟩, trivial⟩, ?_⟩
  clear hB hk hge
  rintro w11 i ⟨k, rfl, hk, hv2, hB⟩
  refine BoolK.mk (fun hlt => ?_) (fun hge => ?_)
  · have hlt : k < ps.length := by simp at hlt; omega
    obtain ⟨b1, o1, s, a2', l2', c2', a3, l3, c3, x4, rfl, h0, h1, h2, h3, hP⟩ := propAt hp w11 hB hlt
    have hl2 := hP.vars.1
    have hl3 := hP.coefs.1
    refine ⟨by omega, ?_⟩
    simp only [AddrK, Int.toNat_natCast, add_mk, Nat.add_zero]
    refine ⟨_, h0, _, _, _, h1, _, _, _, h2, _, h3, ?_⟩
    refine local4 (fun b w20 hb hblk hx => ?_)
    obtain ⟨g0, g1, g2, g3⟩ := cell4 hblk
    have hx' := hB.trans hx
    simp only [add_mk, Nat.zero_add]
    refine ⟨_, _, _, g1, BoolK.mk (fun _ => ⟨(fun h => by cases h), hx'⟩) (fun t => ?_)⟩
    simp at t
    refine ⟨_, _, _, g2, BoolK.mk (fun _ => ⟨(fun h => by cases h), hx'⟩) (fun t2 => ?_)⟩
    simp at t2
    refine ⟨_, g0, BoolK.mk (fun _ => ⟨(fun h => by cases h), hx'⟩) (fun t3 => ?_)⟩
    rw [wrap_succ (by omega)]
    exact ⟨⟨k + 1, rfl, by omega, by rw [all_take hlt, hv2, decide_eq_true (by omega)]; rfl, hx'⟩, by simp; omega⟩
  have : k = ps.length := by simp at hge; omega
  subst this
  rw [List.take_length] at hv2
  refine ⟨fun _ => ⟨by omega, by omega, fun d hd => by simpa using List.all_eq_true.1 hv d hd, fun p hp => by simpa using List.all_eq_true.1 hv2 p hp⟩, hB⟩

theorem c18 (w : World) (a1 : Option Addr) (l1 c1 : Nat) (a2 : Option Addr) (l2 c2 : Nat) (ls : List Dm) (ps : List PropS) (hd : Doms w a1 l1 ls) (hs : ∀ d ∈ ls, Sm d) (hl1 : l1 ≤ maxLen) (hp : Props w a2 l2 ps) (hl2 : l2 ≤ maxLen) :
    Calls Try.prog 18 #[.slice a1 l1 c1, .slice a2 l2 c2] w fun en w' => ∃ p, en = .returned (.bool p) ∧ ((p = true → Light ls ps) ∧ Ext w w') := by
  refine calls18 _ _ _ _ _ _ _ w ?_
  have e1 := hd.1
  have e2 := hp.1
  simp only [maxLen] at hl1 hl2
  refine ⟨fun _ i w' => ∃ k : Nat, i = k ∧ k ≤ ls.length ∧ Ext w w', fun _ i _ => ls.length - i.toNat, ⟨⟨0, rfl, by omega, Ext.refl w⟩, trivial⟩, ?_⟩
  rintro w5 x6 _ ⟨k, rfl, hk, hB⟩
  refine BoolK.mk (fun hlt => ?_) (fun hge => ?_)
  · have hlt : k < ls.length := by simp at hlt; omega
    obtain ⟨b1, o1, a, l, c, rfl, h0, h1⟩ := domsAt hd w5 hB hlt
    refine ⟨by omega, ?_⟩
    simp only [AddrK, Int.toNat_natCast, add_mk, Nat.mul_one]
    refine ⟨_, _, _, h0, (c40 w5 a l c _ h1 (hs _ (List.getElem_mem _))).mono ?_⟩
    rintro en w11 ⟨n, rfl, rfl, hx⟩
    refine ⟨_, rfl, ?_⟩
    rw [wrap_succ (n := k) (by omega)]
    exact ⟨⟨k + 1, rfl, by omega, hB.trans hx⟩, by simp; omega⟩
  refine ⟨fun _ i w' => ∃ k : Nat, i = k ∧ k ≤ ps.length ∧ Ext w w', fun _ i _ => ps.length - i.toNat, ⟨⟨0, rfl, by omega, hB⟩, trivial⟩, ?_⟩
  clear hB hk hge
  rintro w15 x16 _ ⟨k, rfl, hk, hB⟩
  refine BoolK.mk (fun hlt => ?_) (fun hge => ?_)
  · have hlt : k < ps.length := by simp at hlt; omega
    obtain ⟨b1, o1, s, a2', l2', c2', a3, l3, c3, x4, rfl, h0, h1, h2, h3, hP⟩ := propAt hp w15 hB hlt
    refine ⟨by omega, ?_⟩
    simp only [AddrK, Int.toNat_natCast, add_mk, Nat.add_zero]
    refine ⟨_, h0, _, _, _, h1, _, _, _, h2, _, h3, ?_⟩
    refine local4 (fun b w20 hb hblk hx => ?_)
    obtain ⟨g0, g1, g2, g3⟩ := cell4 hblk
    simp only [add_mk, Nat.zero_add]
    refine ⟨_, _, _, g1, ?_⟩
    rw [wrap_succ (n := k) (by omega)]
    exact ⟨⟨k + 1, rfl, by omega, hB.trans hx⟩, by simp; omega⟩
  refine (c11 w15 a1 l1 c1 a2 l2 c2 ls ps (hd.ext (RSl.mono RPair.mono) hB) (hp.ext RProp.mono hB)).mono ?_
  rintro en w31 ⟨p, rfl, hL, hx⟩
  have hB' := hB.trans hx
  refine ⟨_, rfl, BoolK.mk (fun t => ?_) (fun _ => ⟨(fun h => by cases h), hB'⟩)⟩
  refine BoolK.mk (fun _ => ?_) (fun _ => ⟨(fun h => by cases h), hB'⟩)
  refine BoolK.mk (fun _ => ?_) (fun _ => ⟨(fun h => by cases h), hB'⟩)
  exact ⟨fun _ => hL t, hB'⟩
end Go.Proofs.Ytggfnakhmjkoeaa

namespace Go.Proofs.Ytggfnakhmjkoeaa
open Go Go.V Go.Proofs
open Go.RowKit (Below)
/-! manystrand/domain.Narrow -/
def N13 (s1 : ByteArray) (a2 : Option Addr) (l2 : Nat) (c2 : Nat) (a3 : Option Addr) (l3 : Nat) (c3 : Nat) (x4 : Int) (a5 : Option Addr) (l5 : Nat) (c5 : Nat) (K : Option Addr → Nat → Nat → Int → World → Prop) (w : World) : Prop :=
  AllocK w (#[(.string s1), (.slice a2 l2 c2), (.slice a3 l3 c3), (.int .i64 x4)]) 24 fun b6 w7 =>
  Calls Try.prog 50 #[(.slice a5 l5 c5)] w7 fun e10 w9 =>
  ∃ (p8 : Bool), e10 = .returned (.bool p8) ∧
  (BoolK (!p8)
    (K none 0 0 2 w9)
    (∃ (s11 : ByteArray), w9.cell? (b6.add 0) = some (.string s11) ∧
      (∃ (a12 : Option Addr) (l12 : Nat) (c12 : Nat), w9.cell? (b6.add 1) = some (.slice a12 l12 c12) ∧
        (∃ (a13 : Option Addr) (l13 : Nat) (c13 : Nat), w9.cell? (b6.add 2) = some (.slice a13 l13 c13) ∧
          (∃ (x14 : Int), w9.cell? (b6.add 3) = some (.int .i64 x14) ∧
            (Calls Try.prog 16 #[(.agg #[(.string s11), (.slice a12 l12 c12), (.slice a13 l13 c13), (.int .i64 x14)]), (.int .i64 (l5 : Nat))] w9 fun e17 w16 =>
              ∃ (p15 : Bool), e17 = .returned (.bool p15) ∧
              (BoolK (!p15)
                (K none 0 0 2 w16)
                (∃ (s18 : ByteArray), w16.cell? (b6.add 0) = some (.string s18) ∧
                  (∃ (a19 : Option Addr) (l19 : Nat) (c19 : Nat), w16.cell? (b6.add 1) = some (.slice a19 l19 c19) ∧
                    (∃ (a20 : Option Addr) (l20 : Nat) (c20 : Nat), w16.cell? (b6.add 2) = some (.slice a20 l20 c20) ∧
                      (∃ (x21 : Int), w16.cell? (b6.add 3) = some (.int .i64 x21) ∧
                        (Calls Try.prog 51 #[(.agg #[(.string s18), (.slice a19 l19 c19), (.slice a20 l20 c20), (.int .i64 x21)]), (.slice a5 l5 c5)] w16 fun e25 w24 =>
                          ∃ (a22 : Option Addr), ∃ (l22 : Nat), ∃ (c22 : Nat), ∃ (p23 : Bool), e25 = .returned (.tuple #[(.slice a22 l22 c22), (.bool p23)]) ∧
                          (K a22 l22 c22 0 w24)))))))))))))
def ann13 : Ann := (.two .nil (.two (.two .nil (.two (.two .nil .nil) .nil)) (.two .nil (.two .nil .nil))))
noncomputable def code13 : Code := match Try.f13.body with | some c => c | none => .skip
theorem wp13 (s1 : ByteArray) (a2 : Option Addr) (l2 : Nat) (c2 : Nat) (a3 : Option Addr) (l3 : Nat) (c3 : Nat) (x4 : Int) (a5 : Option Addr) (l5 : Nat) (c5 : Nat) (K : Option Addr → Nat → Nat → Int → World → Prop) (w : World) : WP Try.prog tab code13 ann13 (fnQ tab Try.f13.results.toList [(.one .slice), (.one (.int .i64))] K) (argE 0 [(.agg #[(.string s1), (.slice a2 l2 c2), (.slice a3 l3 c3), (.int .i64 x4)]), (.slice a5 l5 c5)]) w = N13 s1 a2 l2 c2 a3 l3 c3 x4 a5 l5 c5 K w := by kernel_rfl
theorem calls13 (s1 : ByteArray) (a2 : Option Addr) (l2 : Nat) (c2 : Nat) (a3 : Option Addr) (l3 : Nat) (c3 : Nat) (x4 : Int) (a5 : Option Addr) (l5 : Nat) (c5 : Nat) (K : Option Addr → Nat → Nat → Int → World → Prop) (w : World) (h : N13 s1 a2 l2 c2 a3 l3 c3 x4 a5 l5 c5 K w) : Calls Try.prog 13 #[(.agg #[(.string s1), (.slice a2 l2 c2), (.slice a3 l3 c3), (.int .i64 x4)]), (.slice a5 l5 c5)] w fun en w' => ∃ (a26 : Option Addr), ∃ (l26 : Nat), ∃ (c26 : Nat), ∃ (x27 : Int), en = .returned (.tuple #[(.slice a26 l26 c26), (.int .i64 x27)]) ∧ K a26 l26 c26 x27 w' :=
  have e : (fun en w' => ExShs [(.one .slice), (.one (.int .i64))] fun vs => en = .returned (tupled vs) ∧ ap [(.one .slice), (.one (.int .i64))] K vs fun p => p w') = (fun (en : Ending) (w' : World) => ∃ (a26 : Option Addr), ∃ (l26 : Nat), ∃ (c26 : Nat), ∃ (x27 : Int), en = .returned (.tuple #[(.slice a26 l26 c26), (.int .i64 x27)]) ∧ K a26 l26 c26 x27 w') := by kernel_rfl
  e ▸ fn_sound tabOk mixed Try.func13 (by kernel_rfl : Try.f13.body = some code13) ann13 [(.agg #[(.string s1), (.slice a2 l2 c2), (.slice a3 l3 c3), (.int .i64 x4)]), (.slice a5 l5 c5)] [(.one .slice), (.one (.int .i64))] K w (by kernel_rfl) ((wp13 s1 a2 l2 c2 a3 l3 c3 x4 a5 l5 c5 K w).symm ▸ h)
end Go.Proofs.Ytggfnakhmjkoeaa

namespace Go.Proofs.Ytggfnakhmjkoeaa
open Go Go.V Go.Proofs
open Go.RowKit (Below)
/-! manystrand/manystrandref06.Narrow -/
def N14 (s1 : ByteArray) (a2 : Option Addr) (l2 : Nat) (c2 : Nat) (a3 : Option Addr) (l3 : Nat) (c3 : Nat) (x4 : Int) (a5 : Option Addr) (l5 : Nat) (c5 : Nat) (K : Option Addr → Nat → Nat → Int → World → Prop) (w : World) : Prop :=
  AllocK w (#[(.string s1), (.slice a2 l2 c2), (.slice a3 l3 c3), (.int .i64 x4)]) 24 fun b6 w7 =>
  Calls Try.prog 52 #[(.slice a5 l5 c5)] w7 fun e10 w9 =>
  ∃ (p8 : Bool), e10 = .returned (.bool p8) ∧
  (BoolK (!p8)
    (K none 0 0 2 w9)
    (∃ (s11 : ByteArray), w9.cell? (b6.add 0) = some (.string s11) ∧
      (∃ (a12 : Option Addr) (l12 : Nat) (c12 : Nat), w9.cell? (b6.add 1) = some (.slice a12 l12 c12) ∧
        (∃ (a13 : Option Addr) (l13 : Nat) (c13 : Nat), w9.cell? (b6.add 2) = some (.slice a13 l13 c13) ∧
          (∃ (x14 : Int), w9.cell? (b6.add 3) = some (.int .i64 x14) ∧
            (Calls Try.prog 17 #[(.agg #[(.string s11), (.slice a12 l12 c12), (.slice a13 l13 c13), (.int .i64 x14)]), (.int .i64 (l5 : Nat))] w9 fun e17 w16 =>
              ∃ (p15 : Bool), e17 = .returned (.bool p15) ∧
              (BoolK (!p15)
                (K none 0 0 2 w16)
                (∃ (s18 : ByteArray), w16.cell? (b6.add 0) = some (.string s18) ∧
                  (∃ (a19 : Option Addr) (l19 : Nat) (c19 : Nat), w16.cell? (b6.add 1) = some (.slice a19 l19 c19) ∧
                    (∃ (a20 : Option Addr) (l20 : Nat) (c20 : Nat), w16.cell? (b6.add 2) = some (.slice a20 l20 c20) ∧
                      (∃ (x21 : Int), w16.cell? (b6.add 3) = some (.int .i64 x21) ∧
                        (Calls Try.prog 54 #[(.agg #[(.string s18), (.slice a19 l19 c19), (.slice a20 l20 c20), (.int .i64 x21)]), (.slice a5 l5 c5)] w16 fun e24 w23 =>
                          ∃ (a22 : Option Addr), ∃ (l22 : Nat), ∃ (c22 : Nat), e24 = .returned (.slice a22 l22 c22) ∧
                          (Calls Try.prog 53 #[(.slice a22 l22 c22)] w23 fun e27 w26 =>
                            ∃ (a25 : Option Addr), ∃ (l25 : Nat), ∃ (c25 : Nat), e27 = .returned (.slice a25 l25 c25) ∧
                            (K a25 l25 c25 0 w26))))))))))))))
def ann14 : Ann := (.two .nil (.two (.two .nil (.two (.two .nil .nil) .nil)) (.two .nil .nil)))
noncomputable def code14 : Code := match Try.f14.body with | some c => c | none => .skip
theorem wp14 (s1 : ByteArray) (a2 : Option Addr) (l2 : Nat) (c2 : Nat) (a3 : Option Addr) (l3 : Nat) (c3 : Nat) (x4 : Int) (a5 : Option Addr) (l5 : Nat) (c5 : Nat) (K : Option Addr → Nat → Nat → Int → World → Prop) (w : World) : WP Try.prog tab code14 ann14 (fnQ tab Try.f14.results.toList [(.one .slice), (.one (.int .i64))] K) (argE 0 [(.agg #[(.string s1), (.slice a2 l2 c2), (.slice a3 l3 c3), (.int .i64 x4)]), (.slice a5 l5 c5)]) w = N14 s1 a2 l2 c2 a3 l3 c3 x4 a5 l5 c5 K w := by kernel_rfl
theorem calls14 (s1 : ByteArray) (a2 : Option Addr) (l2 : Nat) (c2 : Nat) (a3 : Option Addr) (l3 : Nat) (c3 : Nat) (x4 : Int) (a5 : Option Addr) (l5 : Nat) (c5 : Nat) (K : Option Addr → Nat → Nat → Int → World → Prop) (w : World) (h : N14 s1 a2 l2 c2 a3 l3 c3 x4 a5 l5 c5 K w) : Calls Try.prog 14 #[(.agg #[(.string s1), (.slice a2 l2 c2), (.slice a3 l3 c3), (.int .i64 x4)]), (.slice a5 l5 c5)] w fun en w' => ∃ (a28 : Option Addr), ∃ (l28 : Nat), ∃ (c28 : Nat), ∃ (x29 : Int), en = .returned (.tuple #[(.slice a28 l28 c28), (.int .i64 x29)]) ∧ K a28 l28 c28 x29 w' :=
  have e : (fun en w' => ExShs [(.one .slice), (.one (.int .i64))] fun vs => en = .returned (tupled vs) ∧ ap [(.one .slice), (.one (.int .i64))] K vs fun p => p w') = (fun (en : Ending) (w' : World) => ∃ (a28 : Option Addr), ∃ (l28 : Nat), ∃ (c28 : Nat), ∃ (x29 : Int), en = .returned (.tuple #[(.slice a28 l28 c28), (.int .i64 x29)]) ∧ K a28 l28 c28 x29 w') := by kernel_rfl
  e ▸ fn_sound tabOk mixed Try.func14 (by kernel_rfl : Try.f14.body = some code14) ann14 [(.agg #[(.string s1), (.slice a2 l2 c2), (.slice a3 l3 c3), (.int .i64 x4)]), (.slice a5 l5 c5)] [(.one .slice), (.one (.int .i64))] K w (by kernel_rfl) ((wp14 s1 a2 l2 c2 a3 l3 c3 x4 a5 l5 c5 K w).symm ▸ h)
end Go.Proofs.Ytggfnakhmjkoeaa

namespace Go.Proofs.Ytggfnakhmjkoeaa
open Go Go.V Go.Proofs
open Go.RowKit (Below)

/-- what Narrow answers -/
def NarRes (p : PropS) (ls : List Dm) (w' : World) (a : Option Addr) (l _c : Nat) (e : Int) : Prop :=
  if allVB ls && propB p ls.length then e = 0 ∧ Doms w' a l (keepS p ls) else e = 2 ∧ a = none ∧ l = 0

section
variable (w : World) (s : ByteArray) (a2 : Option Addr) (l2 c2 : Nat) (a3 : Option Addr) (l3 c3 : Nat) (x4 : Int) (p : PropS) (h : PropAt w s a2 l2 a3 l3 x4 p)
    (a5 : Option Addr) (l5 c5 : Nat) (ls : List Dm) (hd : Doms w a5 l5 ls) (hl : ls.length ≤ 9223372036854775807) (hs : ∀ d ∈ ls, Sm d)
include h hd hl hs
theorem c13 : Calls Try.prog 13 #[.agg #[.string s, .slice a2 l2 c2, .slice a3 l3 c3, .int .i64 x4], .slice a5 l5 c5] w fun en w' => ∃ a l c e, en = .returned (.tuple #[.slice a l c, .int .i64 e]) ∧ (NarRes p ls w' a l c e ∧ Ext w w') := by
  have hl5 := hd.1
  refine calls13 _ _ _ _ _ _ _ _ _ _ _ _ w ?_
  refine AllocK.mk fun b6 w7 hb6 hblk hx7 => ?_
  have hcell := fun (w' : World) (k : Ext w7 w') => cell4 (hblk.ext k)
  refine (c50 w7 a5 l5 c5 ls (hd.ext (RSl.mono RPair.mono) hx7) hl hs).mono ?_
  rintro en w9 ⟨q, rfl, rfl, hx9⟩
  have hB9 := hx7.trans hx9
  refine ⟨_, rfl, BoolK.mk (fun t => ?_) (fun t => ?_)⟩
  · simp at t; exact ⟨by rw [NarRes, t]; exact ⟨rfl, rfl, rfl⟩, hB9⟩
  simp at t
  simp only [add_mk, Nat.zero_add]
  have hc := hcell _ hx9
  refine ⟨_, hc.1, _, _, _, hc.2.1, _, _, _, hc.2.2.1, _, hc.2.2.2, ?_⟩
  rw [hl5]
  refine (c16 w9 _ _ _ _ _ _ _ _ _ p (h.ext hB9)).mono ?_
  rintro en w16 ⟨q, rfl, rfl, hx16⟩
  have hB16 := hB9.trans hx16
  refine ⟨_, rfl, BoolK.mk (fun t2 => ?_) (fun t2 => ?_)⟩
  · simp at t2; exact ⟨by rw [NarRes, t2, Bool.and_false]; exact ⟨rfl, rfl, rfl⟩, hB16⟩
  simp at t2
  have hc := hcell _ (hx9.trans hx16)
  refine ⟨_, hc.1, _, _, _, hc.2.1, _, _, _, hc.2.2.1, _, hc.2.2.2, ?_⟩
  rw [← hl5]
  refine (c51 w16 _ _ _ _ _ _ _ _ p (h.ext hB16) a5 l5 c5 ls (hd.ext (RSl.mono RPair.mono) hB16) (allVB_of t).1 t2).mono ?_
  rintro en w24 ⟨a, l, c, q, rfl, ho, _, hx24⟩
  refine ⟨_, _, _, _, rfl, ?_, hB16.trans hx24⟩
  rw [NarRes, t, t2]
  exact ⟨rfl, ho.doms⟩

theorem c14 : Calls Try.prog 14 #[.agg #[.string s, .slice a2 l2 c2, .slice a3 l3 c3, .int .i64 x4], .slice a5 l5 c5] w fun en w' => ∃ a l c e, en = .returned (.tuple #[.slice a l c, .int .i64 e]) ∧ (NarRes p ls w' a l c e ∧ Ext w w') := by
  have hl5 := hd.1
  refine calls14 _ _ _ _ _ _ _ _ _ _ _ _ w ?_
  refine AllocK.mk fun b6 w7 hb6 hblk hx7 => ?_
  have hcell := fun (w' : World) (k : Ext w7 w') => cell4 (hblk.ext k)
  refine (c52 w7 a5 l5 c5 ls (hd.ext (RSl.mono RPair.mono) hx7) hl hs).mono ?_
  rintro en w9 ⟨q, rfl, rfl, hx9⟩
  have hB9 := hx7.trans hx9
  refine ⟨_, rfl, BoolK.mk (fun t => ?_) (fun t => ?_)⟩
  · simp at t; exact ⟨by rw [NarRes, t]; exact ⟨rfl, rfl, rfl⟩, hB9⟩
  simp at t
  simp only [add_mk, Nat.zero_add]
  have hc := hcell _ hx9
  refine ⟨_, hc.1, _, _, _, hc.2.1, _, _, _, hc.2.2.1, _, hc.2.2.2, ?_⟩
  rw [hl5]
  refine (c17 w9 _ _ _ _ _ _ _ _ _ p (h.ext hB9)).mono ?_
  rintro en w16 ⟨q, rfl, rfl, hx16⟩
  have hB16 := hB9.trans hx16
  refine ⟨_, rfl, BoolK.mk (fun t2 => ?_) (fun t2 => ?_)⟩
  · simp at t2; exact ⟨by rw [NarRes, t2, Bool.and_false]; exact ⟨rfl, rfl, rfl⟩, hB16⟩
  simp at t2
  have hc := hcell _ (hx9.trans hx16)
  refine ⟨_, hc.1, _, _, _, hc.2.1, _, _, _, hc.2.2.1, _, hc.2.2.2, ?_⟩
  rw [← hl5]
  have hvd := (allVB_of t).1
  have h40 := (allVB_of t).2
  refine (c54 w16 _ _ _ _ _ _ _ _ p (h.ext hB16) a5 l5 c5 ls (hd.ext (RSl.mono RPair.mono) hB16) hvd t2).mono ?_
  rintro en w23 ⟨a, l, c, rfl, ho, hx23⟩
  refine ⟨_, _, _, rfl, ?_⟩
  have hkv := keepS_vd p hvd
  refine (c53 w23 a l c _ ho (by rw [keepS_len]; omega) (fun d hd => by have := (hkv d hd).len; omega)).mono ?_
  rintro en w26 ⟨a', l', c', rfl, ho', hx26⟩
  refine ⟨_, _, _, rfl, ?_, (hB16.trans hx23).trans hx26⟩
  rw [NarRes, t, t2]
  exact ⟨rfl, ho'.doms⟩
end
end Go.Proofs.Ytggfnakhmjkoeaa

namespace Go.Proofs.Ytggfnakhmjkoeaa
open Go Go.V Go.Proofs
open Go.RowKit (Below)
/-! manystrand/manystrandlaw06.DomainNarrows -/
def N3 (s1 : ByteArray) (a2 : Option Addr) (l2 : Nat) (c2 : Nat) (a3 : Option Addr) (l3 : Nat) (c3 : Nat) (x4 : Int) (a5 : Option Addr) (l5 : Nat) (c5 : Nat) (x6 : Int) (K : Bool → World → Prop) (w : World) : Prop :=
  AllocK w (#[(.string s1), (.slice a2 l2 c2), (.slice a3 l3 c3), (.int .i64 x4)]) 24 fun b7 w8 =>
  ∃ (s9 : ByteArray), w8.cell? (b7.add 0) = some (.string s9) ∧
  (∃ (a10 : Option Addr) (l10 : Nat) (c10 : Nat), w8.cell? (b7.add 1) = some (.slice a10 l10 c10) ∧
    (∃ (a11 : Option Addr) (l11 : Nat) (c11 : Nat), w8.cell? (b7.add 2) = some (.slice a11 l11 c11) ∧
      (∃ (x12 : Int), w8.cell? (b7.add 3) = some (.int .i64 x12) ∧
        (AllocK w8 (#[(.string s9), (.slice a10 l10 c10), (.slice a11 l11 c11), (.int .i64 x12)]) 24 fun b13 w14 =>
          Calls Try.prog 11 #[(.slice a5 l5 c5), (.slice (some b13) 1 1)] w14 fun e17 w16 =>
          ∃ (p15 : Bool), e17 = .returned (.bool p15) ∧
          (BoolK (!p15)
            (Calls Try.prog 12 #[] w16 fun e20 w19 =>
              ∃ (p18 : Bool), e20 = .returned (.bool p18) ∧
              (K p18 w19))
            (∃ (s21 : ByteArray), w16.cell? (b7.add 0) = some (.string s21) ∧
              (∃ (a22 : Option Addr) (l22 : Nat) (c22 : Nat), w16.cell? (b7.add 1) = some (.slice a22 l22 c22) ∧
                (∃ (a23 : Option Addr) (l23 : Nat) (c23 : Nat), w16.cell? (b7.add 2) = some (.slice a23 l23 c23) ∧
                  (∃ (x24 : Int), w16.cell? (b7.add 3) = some (.int .i64 x24) ∧
                    (Calls Try.prog 13 #[(.agg #[(.string s21), (.slice a22 l22 c22), (.slice a23 l23 c23), (.int .i64 x24)]), (.slice a5 l5 c5)] w16 fun e28 w27 =>
                      ∃ (a25 : Option Addr), ∃ (l25 : Nat), ∃ (c25 : Nat), ∃ (x26 : Int), e28 = .returned (.tuple #[(.slice a25 l25 c25), (.int .i64 x26)]) ∧
                      (∃ (s29 : ByteArray), w27.cell? (b7.add 0) = some (.string s29) ∧
                        (∃ (a30 : Option Addr) (l30 : Nat) (c30 : Nat), w27.cell? (b7.add 1) = some (.slice a30 l30 c30) ∧
                          (∃ (a31 : Option Addr) (l31 : Nat) (c31 : Nat), w27.cell? (b7.add 2) = some (.slice a31 l31 c31) ∧
                            (∃ (x32 : Int), w27.cell? (b7.add 3) = some (.int .i64 x32) ∧
                              (Calls Try.prog 14 #[(.agg #[(.string s29), (.slice a30 l30 c30), (.slice a31 l31 c31), (.int .i64 x32)]), (.slice a5 l5 c5)] w27 fun e36 w35 =>
                                ∃ (a33 : Option Addr), ∃ (l33 : Nat), ∃ (c33 : Nat), ∃ (x34 : Int), e36 = .returned (.tuple #[(.slice a33 l33 c33), (.int .i64 x34)]) ∧
                                (DrewK w35 fun w37 =>
                                  BoolK ((x26 : Int) == x34)
                                  (Calls Try.prog 15 #[(.slice a25 l25 c25), (.slice a33 l33 c33)] w37 fun e40 w39 =>
                                    ∃ (p38 : Bool), e40 = .returned (.bool p38) ∧
                                    (Below w37.heap.size w37 w39 ∧
                                      (BoolK p38
                                        ((∃ (s41 : ByteArray), w39.cell? (b7.add 0) = some (.string s41) ∧
                                            (∃ (a42 : Option Addr) (l42 : Nat) (c42 : Nat), w39.cell? (b7.add 1) = some (.slice a42 l42 c42) ∧
                                              (∃ (a43 : Option Addr) (l43 : Nat) (c43 : Nat), w39.cell? (b7.add 2) = some (.slice a43 l43 c43) ∧
                                                (∃ (x44 : Int), w39.cell? (b7.add 3) = some (.int .i64 x44) ∧
                                                  (Below w37.heap.size w37 w39 ∧
                                                    ((Calls Try.prog 16 #[(.agg #[(.string s41), (.slice a42 l42 c42), (.slice a43 l43 c43), (.int .i64 x44)]), (.int .i64 x6)] w39 fun e47 w46 =>
                                                        ∃ (p45 : Bool), e47 = .returned (.bool p45) ∧
                                                        (Below w37.heap.size w37 w46 ∧
                                                          (∃ (s48 : ByteArray), w46.cell? (b7.add 0) = some (.string s48) ∧
                                                            (∃ (a49 : Option Addr) (l49 : Nat) (c49 : Nat), w46.cell? (b7.add 1) = some (.slice a49 l49 c49) ∧
                                                              (∃ (a50 : Option Addr) (l50 : Nat) (c50 : Nat), w46.cell? (b7.add 2) = some (.slice a50 l50 c50) ∧
                                                              (∃ (x51 : Int), w46.cell? (b7.add 3) = some (.int .i64 x51) ∧
                                                              (Below w37.heap.size w37 w46 ∧
                                                              (Calls Try.prog 17 #[(.agg #[(.string s48), (.slice a49 l49 c49), (.slice a50 l50 c50), (.int .i64 x51)]), (.int .i64 x6)] w46 fun e54 w53 =>
                                                              ∃ (p52 : Bool), e54 = .returned (.bool p52) ∧
                                                              (Below w37.heap.size w37 w53 ∧
                                                              (BoolK (p45 == p52)
                                                              (Calls Try.prog 12 #[] w53 fun e57 w56 =>
                                                              ∃ (p55 : Bool), e57 = .returned (.bool p55) ∧
                                                              (Below w37.heap.size w37 w56 ∧
                                                              (K p55 w56)))
                                                              (K false w53))))))))))) ∧
                                                      (∃ (s58 : ByteArray), w39.cell? (b7.add 0) = some (.string s58) ∧
                                                        (∃ (a59 : Option Addr) (l59 : Nat) (c59 : Nat), w39.cell? (b7.add 1) = some (.slice a59 l59 c59) ∧
                                                          (∃ (a60 : Option Addr) (l60 : Nat) (c60 : Nat), w39.cell? (b7.add 2) = some (.slice a60 l60 c60) ∧
                                                            (∃ (x61 : Int), w39.cell? (b7.add 3) = some (.int .i64 x61) ∧
                                                              (Below w37.heap.size w37 w39 ∧
                                                              (Calls Try.prog 16 #[(.agg #[(.string s41), (.slice a42 l42 c42), (.slice a43 l43 c43), (.int .i64 x44)]), (.int .i64 x6)] w39 fun e64 w63 =>
                                                              ∃ (p62 : Bool), e64 = .returned (.bool p62) ∧
                                                              (Below w37.heap.size w37 w63 ∧
                                                              (Calls Try.prog 17 #[(.agg #[(.string s58), (.slice a59 l59 c59), (.slice a60 l60 c60), (.int .i64 x61)]), (.int .i64 x6)] w63 fun e67 w66 =>
                                                              ∃ (p65 : Bool), e67 = .returned (.bool p65) ∧
                                                              (Below w37.heap.size w37 w66 ∧
                                                              (BoolK (p62 == p65)
                                                              (Calls Try.prog 12 #[] w66 fun e70 w69 =>
                                                              ∃ (p68 : Bool), e70 = .returned (.bool p68) ∧
                                                              (Below w37.heap.size w37 w69 ∧
                                                              (K p68 w69)))
                                                              (K false w66))))))))))))))))) ∧
                                          (∃ (s71 : ByteArray), w39.cell? (b7.add 0) = some (.string s71) ∧
                                            (∃ (a72 : Option Addr) (l72 : Nat) (c72 : Nat), w39.cell? (b7.add 1) = some (.slice a72 l72 c72) ∧
                                              (∃ (a73 : Option Addr) (l73 : Nat) (c73 : Nat), w39.cell? (b7.add 2) = some (.slice a73 l73 c73) ∧
                                                (∃ (x74 : Int), w39.cell? (b7.add 3) = some (.int .i64 x74) ∧
                                                  (Below w37.heap.size w37 w39 ∧
                                                    (∃ (s75 : ByteArray), w39.cell? (b7.add 0) = some (.string s75) ∧
                                                      (∃ (a76 : Option Addr) (l76 : Nat) (c76 : Nat), w39.cell? (b7.add 1) = some (.slice a76 l76 c76) ∧
                                                        (∃ (a77 : Option Addr) (l77 : Nat) (c77 : Nat), w39.cell? (b7.add 2) = some (.slice a77 l77 c77) ∧
                                                          (∃ (x78 : Int), w39.cell? (b7.add 3) = some (.int .i64 x78) ∧
                                                            (Below w37.heap.size w37 w39 ∧
                                                              (Calls Try.prog 16 #[(.agg #[(.string s75), (.slice a76 l76 c76), (.slice a77 l77 c77), (.int .i64 x78)]), (.int .i64 x6)] w39 fun e81 w80 =>
                                                              ∃ (p79 : Bool), e81 = .returned (.bool p79) ∧
                                                              (Below w37.heap.size w37 w80 ∧
                                                              (Calls Try.prog 17 #[(.agg #[(.string s71), (.slice a72 l72 c72), (.slice a73 l73 c73), (.int .i64 x74)]), (.int .i64 x6)] w80 fun e84 w83 =>
                                                              ∃ (p82 : Bool), e84 = .returned (.bool p82) ∧
                                                              (Below w37.heap.size w37 w83 ∧
                                                              (BoolK (p79 == p82)
                                                              (Calls Try.prog 12 #[] w83 fun e87 w86 =>
                                                              ∃ (p85 : Bool), e87 = .returned (.bool p85) ∧
                                                              (Below w37.heap.size w37 w86 ∧
                                                              (K p85 w86)))
                                                              (K false w83)))))))))))))))))
                                        (((K false w39) ∧
                                            (K false w39)) ∧
                                          (K false w39)))))
                                  (((K false w37) ∧
                                      (K false w37)) ∧
                                    (K false w37))))))))))))))))))
def ann3 : Ann := (.two .nil (.two (.two .nil (.two (.two .nil .nil) .nil)) (.two .nil (.two .nil (.two (.any 21 (.take 0 (.take 1 (.take 2 (.take 3 (.take 4 (.take 5 (.one 6 (.take 7 (.take 8 (.take 10 (.take 13 (.both 9 (.both 11 (.one 12 (.one 14 (.take 15 (.take 16 (.take 17 (.one 18 (.take 19 (.take 20 .done)))))))) (.one 12 (.one 11 (.one 14 (.take 15 (.take 16 (.take 17 (.one 18 (.take 19 (.take 20 .done)))))))))) (.one 12 (.one 9 (.one 11 (.one 14 (.take 15 (.take 16 (.take 17 (.one 18 (.take 19 (.take 20 .done))))))))))))))))))))))) .nil)))))
noncomputable def code3 : Code := match Try.f3.body with | some c => c | none => .skip
theorem wp3 (s1 : ByteArray) (a2 : Option Addr) (l2 : Nat) (c2 : Nat) (a3 : Option Addr) (l3 : Nat) (c3 : Nat) (x4 : Int) (a5 : Option Addr) (l5 : Nat) (c5 : Nat) (x6 : Int) (K : Bool → World → Prop) (w : World) : WP Try.prog tab code3 ann3 (fnQ tab Try.f3.results.toList [(.one .bool)] K) (argE 0 [(.agg #[(.string s1), (.slice a2 l2 c2), (.slice a3 l3 c3), (.int .i64 x4)]), (.slice a5 l5 c5), (.int .i64 x6)]) w = N3 s1 a2 l2 c2 a3 l3 c3 x4 a5 l5 c5 x6 K w := by kernel_rfl
theorem calls3 (s1 : ByteArray) (a2 : Option Addr) (l2 : Nat) (c2 : Nat) (a3 : Option Addr) (l3 : Nat) (c3 : Nat) (x4 : Int) (a5 : Option Addr) (l5 : Nat) (c5 : Nat) (x6 : Int) (K : Bool → World → Prop) (w : World) (h : N3 s1 a2 l2 c2 a3 l3 c3 x4 a5 l5 c5 x6 K w) : Calls Try.prog 3 #[(.agg #[(.string s1), (.slice a2 l2 c2), (.slice a3 l3 c3), (.int .i64 x4)]), (.slice a5 l5 c5), (.int .i64 x6)] w fun en w' => ∃ (p88 : Bool), en = .returned (.bool p88) ∧ K p88 w' :=
  have e : (fun en w' => ExShs [(.one .bool)] fun vs => en = .returned (tupled vs) ∧ ap [(.one .bool)] K vs fun p => p w') = (fun (en : Ending) (w' : World) => ∃ (p88 : Bool), en = .returned (.bool p88) ∧ K p88 w') := by kernel_rfl
  e ▸ fn_sound tabOk mixed Try.func3 (by kernel_rfl : Try.f3.body = some code3) ann3 [(.agg #[(.string s1), (.slice a2 l2 c2), (.slice a3 l3 c3), (.int .i64 x4)]), (.slice a5 l5 c5), (.int .i64 x6)] [(.one .bool)] K w (by kernel_rfl) ((wp3 s1 a2 l2 c2 a3 l3 c3 x4 a5 l5 c5 x6 K w).symm ▸ h)
end Go.Proofs.Ytggfnakhmjkoeaa

namespace Go.Proofs.Ytggfnakhmjkoeaa
open Go Go.V Go.Proofs
open Go.RowKit (Below)

theorem NarRes.doms {p : PropS} {ls : List Dm} {w' : World} {a : Option Addr} {l c : Nat} {e : Int} (h : NarRes p ls w' a l c e) : e = (if allVB ls && propB p ls.length then 0 else 2) ∧ Doms w' a l (if allVB ls && propB p ls.length then keepS p ls else []) := by
  unfold NarRes at h
  split at h
  · rename_i hh; rw [if_pos hh, if_pos hh]; exact h
  · rename_i hh; rw [if_neg hh, if_neg hh]; obtain ⟨rfl, rfl, rfl⟩ := h; exact ⟨rfl, Go.V.Rows.nil _ _ _ _⟩

theorem c3 (w : World) (s : ByteArray) (a2 : Option Addr) (l2 c2 : Nat) (a3 : Option Addr) (l3 c3 : Nat) (x4 : Int) (p : PropS) (h : PropAt w s a2 l2 a3 l3 x4 p)
    (a5 : Option Addr) (l5 c5 : Nat) (ls : List Dm) (hd : Doms w a5 l5 ls) (hs : ∀ d ∈ ls, Sm d) (n : Int) :
    Calls Try.prog 3 #[.agg #[.string s, .slice a2 l2 c2, .slice a3 l3 c3, .int .i64 x4], .slice a5 l5 c5, .int .i64 n] w fun en w' => en = .returned (.bool true) ∧ Ext w w' := by
  have key : ∀ (K : Bool → World → Prop), (∀ w', Ext w w' → K true w') → N3 s a2 l2 c2 a3 l3 c3 x4 a5 l5 c5 n K w := fun K hK => by
    refine AllocK.mk fun b7 w8 hb7 hblk hx8 => ?_
    have hcell := fun (w' : World) (k : Ext w8 w') => cell4 (hblk.ext k)
    simp only [add_mk, Nat.zero_add]
    have hc := hcell w8 (Ext.refl _)
    refine ⟨_, hc.1, _, _, _, hc.2.1, _, _, _, hc.2.2.1, _, hc.2.2.2, AllocK.mk fun b13 w14 hb13 hblk13 hx14 => ?_⟩
    have hB14 := hx8.trans hx14
    have hPs : Props w14 (some ⟨b13, 0, none⟩) 1 [p] := Rows.lit hblk13 [p] fun i q hi => by
      have : i = 0 := by have := (List.getElem?_eq_some_iff.1 hi).1; simp at this; omega
      subst this; simp at hi; subst hi
      exact ⟨_, _, _, _, _, _, _, _, rfl, rfl, rfl, rfl, h.ext hB14⟩
    refine (c11 w14 a5 l5 c5 _ 1 1 ls [p] (hd.ext (RSl.mono RPair.mono) hB14) hPs).mono ?_
    rintro en w16 ⟨q, rfl, hL, hx16⟩
    have hB16 := hB14.trans hx16
    have h16 := hx14.trans hx16
    refine ⟨_, rfl, BoolK.mk (fun _ => ?_) (fun t => ?_)⟩
    · refine (c12 w16).mono ?_
      rintro en w9 ⟨q, rfl, rfl, hx⟩
      exact ⟨_, rfl, hK _ (hB16.trans hx)⟩
    have hL := hL (by simpa using t)
    have hl : ls.length ≤ 9223372036854775807 := by have := hL.1; omega
    have hc := hcell _ h16
    refine ⟨_, hc.1, _, _, _, hc.2.1, _, _, _, hc.2.2.1, _, hc.2.2.2, ?_⟩
    refine (c13 w16 _ _ _ _ _ _ _ _ p (h.ext hB16) a5 l5 c5 ls (hd.ext (RSl.mono RPair.mono) hB16) hl hs).mono ?_
    rintro en w27 ⟨a25, l25, c25, x26, rfl, r1, hx27⟩
    have hB27 := hB16.trans hx27
    have h27 := h16.trans hx27
    have hc := hcell _ h27
    refine ⟨_, _, _, _, rfl, _, hc.1, _, _, _, hc.2.1, _, _, _, hc.2.2.1, _, hc.2.2.2, ?_⟩
    refine (c14 w27 _ _ _ _ _ _ _ _ p (h.ext hB27) a5 l5 c5 ls (hd.ext (RSl.mono RPair.mono) hB27) hl hs).mono ?_
    rintro en w35 ⟨a33, l33, c33, x34, rfl, r2, hx35⟩
    obtain ⟨e1, d1⟩ := r1.doms
    obtain ⟨e2, d2⟩ := r2.doms
    refine ⟨_, _, _, _, rfl, DrewK.mk fun w37 hx37 => ?_⟩
    have he : (x26 == x34) = true := by rw [e1, e2]; simp
    refine BoolK.mk (fun _ => ?_) (fun t => by rw [he] at t; cases t)
    have hB37 := (hB27.trans hx35).trans hx37
    have h37 := (h27.trans hx35).trans hx37
    have hlen : ∀ d ∈ (if allVB ls && propB p ls.length then keepS p ls else []), d.length ≤ 9223372036854775807 := fun d hdm => by
      split at hdm
      · rename_i hh
        simp only [Bool.and_eq_true] at hh
        have := (keepS_vd p (allVB_of hh.1).1 d hdm).len; omega
      · cases hdm
    have hlen2 : (if allVB ls && propB p ls.length then keepS p ls else []).length ≤ 9223372036854775807 := by
      split
      · rw [keepS_len]; exact hl
      · simp
    refine (c15 w37 _ _ _ _ _ _ _ _ (d1.ext (RSl.mono RPair.mono) (hx35.trans hx37)) (d2.ext (RSl.mono RPair.mono) hx37) hlen2 hlen).mono ?_
    rintro en w39 ⟨q, rfl, hq, hx39⟩
    have hq : q = true := by rw [hq]; exact decide_eq_true rfl
    subst hq
    have h39 := h37.trans hx39
    have hB39 := hB37.trans hx39
    have hc := hcell _ h39
    have h16' : ∀ w0 (_ : Ext w39 w0) (K : Ending → World → Prop), (∀ w', Ext w0 w' → K (.returned (.bool (propB p n))) w') → Calls Try.prog 16 #[.agg #[.string s, .slice a2 l2 c2, .slice a3 l3 c3, .int .i64 x4], .int .i64 n] w0 K := fun w0 k K hK => by
      refine (c16 w0 _ _ _ _ _ _ _ _ n p (h.ext (hB39.trans k))).mono ?_
      rintro en w' ⟨q, rfl, rfl, hx⟩; exact hK w' hx
    have h17' : ∀ w0 (_ : Ext w39 w0) (K : Ending → World → Prop), (∀ w', Ext w0 w' → K (.returned (.bool (propB p n))) w') → Calls Try.prog 17 #[.agg #[.string s, .slice a2 l2 c2, .slice a3 l3 c3, .int .i64 x4], .int .i64 n] w0 K := fun w0 k K hK => by
      refine (c17 w0 _ _ _ _ _ _ _ _ n p (h.ext (hB39.trans k))).mono ?_
      rintro en w' ⟨q, rfl, rfl, hx⟩; exact hK w' hx
    have aw : ∀ w0 (_ : Ext w39 w0), Calls Try.prog 12 #[] w0 fun e w' => ∃ q, e = .returned (.bool q) ∧ (Below w37.heap.size w37 w' ∧ K q w') := fun w0 k => by
      refine (c12 w0).mono ?_
      rintro en w9 ⟨q, rfl, rfl, hx⟩
      exact ⟨_, rfl, hx39.trans (k.trans hx), hK _ (hB39.trans (k.trans hx))⟩
    have X : ∀ w0, Ext w39 w0 → Below w37.heap.size w37 w0 := fun w0 k => hx39.trans k
    have r39 := Ext.refl w39
    refine ⟨_, rfl, hx39, BoolK.mk (fun _ => ⟨⟨_, hc.1, _, _, _, hc.2.1, _, _, _, hc.2.2.1, _, hc.2.2.2, hx39, ?_, ?_⟩, ?_⟩) (fun t => by cases t)⟩
    · refine h16' w39 r39 _ fun w46 k46 => ⟨_, rfl, X _ k46, ?_⟩
      have hc := hcell _ (h39.trans k46)
      refine ⟨_, hc.1, _, _, _, hc.2.1, _, _, _, hc.2.2.1, _, hc.2.2.2, X _ k46, h17' w46 k46 _ fun w53 k53 => ⟨_, rfl, X _ (k46.trans k53), BoolK.mk (fun _ => aw _ (k46.trans k53)) (fun t => by simp at t)⟩⟩
    · refine ⟨_, hc.1, _, _, _, hc.2.1, _, _, _, hc.2.2.1, _, hc.2.2.2, hx39, h16' w39 r39 _ fun w63 k63 => ⟨_, rfl, X _ k63, h17' w63 k63 _ fun w66 k66 => ⟨_, rfl, X _ (k63.trans k66), BoolK.mk (fun _ => aw _ (k63.trans k66)) (fun t => by simp at t)⟩⟩⟩
    · refine ⟨_, hc.1, _, _, _, hc.2.1, _, _, _, hc.2.2.1, _, hc.2.2.2, hx39, _, hc.1, _, _, _, hc.2.1, _, _, _, hc.2.2.1, _, hc.2.2.2, hx39, h16' w39 r39 _ fun w63 k63 => ⟨_, rfl, X _ k63, h17' w63 k63 _ fun w66 k66 => ⟨_, rfl, X _ (k63.trans k66), BoolK.mk (fun _ => aw _ (k63.trans k66)) (fun t => by simp at t)⟩⟩⟩
  refine (calls3 _ _ _ _ _ _ _ _ _ _ _ _ (fun q w' => q = true ∧ Ext w w') w (key _ fun w' hx => ⟨rfl, hx⟩)).mono ?_
  rintro en w' ⟨q, rfl, rfl, hx⟩
  exact ⟨rfl, hx⟩
end Go.Proofs.Ytggfnakhmjkoeaa

namespace Go.Proofs.Ytggfnakhmjkoeaa
open Go Go.V Go.Proofs
open Go.RowKit (Below)

theorem mn_le {d : Dm} (h : VD d) {v : Int} (hv : inD d v = true) : mn d ≤ v := by
  simp only [inD, List.any_eq_true, inR, Bool.and_eq_true, decide_eq_true_eq] at hv
  obtain ⟨p, hp, h1, _⟩ := hv
  cases d with
  | nil => cases hp
  | cons q qs =>
    show q.1 ≤ v
    rcases List.mem_cons.1 hp with rfl | hp
    · exact h1
    · have := (List.pairwise_cons.1 h.pw).1 p hp
      have := h.all q List.mem_cons_self
      omega
theorem le_mx {d : Dm} (h : VD d) {v : Int} (hv : inD d v = true) : v ≤ mx d := by
  simp only [inD, List.any_eq_true, inR, Bool.and_eq_true, decide_eq_true_eq] at hv
  obtain ⟨p, hp, _, h2⟩ := hv
  cases hl : d.getLast? with
  | none => rw [List.getLast?_eq_none_iff.1 hl] at hp; cases hp
  | some q =>
    have e : mx d = q.2 := by rw [mx, hl]
    rw [e]
    have hs := split_last hl
    rw [hs] at hp
    have hpw := h.pw
    rw [hs, List.pairwise_append] at hpw
    have hq := h.all q (List.mem_of_getLast? hl)
    rcases List.mem_append.1 hp with hp | hp
    · have := hpw.2.2 p hp q (by simp); omega
    · simp at hp; subst hp; exact h2
theorem mn_in {d : Dm} (h : Full d) : inD d (mn d) = true := by
  cases d with
  | nil => exact absurd rfl h.ne
  | cons q qs =>
    have := h.vd.all q List.mem_cons_self
    simp only [inD, List.any_cons, inR, mn, List.head?_cons, Bool.or_eq_true, Bool.and_eq_true, decide_eq_true_eq]
    left; omega
theorem mx_in {d : Dm} (h : Full d) : inD d (mx d) = true := by
  cases hl : d.getLast? with
  | none => exact absurd (List.getLast?_eq_none_iff.1 hl) h.ne
  | some q =>
    have e : mx d = q.2 := by rw [mx, hl]
    have hm := List.mem_of_getLast? hl
    have := h.vd.all q hm
    rw [e]
    simp only [inD, List.any_eq_true, inR, Bool.and_eq_true, decide_eq_true_eq]
    exact ⟨q, hm, by omega, by omega⟩
/-- one domain within another -/
structure In2 (d e : Dm) : Prop where
  low : Full d
  up : Full e
  sub : ∀ v, inD d v = true → inD e v = true
theorem In2.ends {d e : Dm} (h : In2 d e) : 0 ≤ mn e ∧ mn e ≤ mn d ∧ mn d ≤ mx d ∧ mx d ≤ mx e ∧ mx e ≤ 1000 := by
  have h1 := mn_le h.up.vd (h.sub _ (mn_in h.low))
  have h2 := le_mx h.up.vd (h.sub _ (mx_in h.low))
  have h3 := h.low.ends
  have h4 := h.up.ends
  omega
theorem In2.one {d e : Dm} (h : In2 d e) {v : Int} (hv : oneB e v = true) : oneB d v = true := by
  have := h.ends
  simp only [oneB, Bool.and_eq_true, decide_eq_true_eq] at hv ⊢
  omega
theorem mul_mono (c : Int) {a b a' b' : Int} (h1 : a' ≤ a) (h2 : a ≤ b) (h3 : b ≤ b') : min (c * a') (c * b') ≤ min (c * a) (c * b) ∧ max (c * a) (c * b) ≤ max (c * a') (c * b') := by
  rcases Int.le_total 0 c with hc | hc
  · have e1 := Int.mul_le_mul_of_nonneg_left h1 hc
    have e2 := Int.mul_le_mul_of_nonneg_left h2 hc
    have e3 := Int.mul_le_mul_of_nonneg_left h3 hc
    omega
  · have e1 := Int.mul_le_mul_of_nonpos_left hc h1
    have e2 := Int.mul_le_mul_of_nonpos_left hc h2
    have e3 := Int.mul_le_mul_of_nonpos_left hc h3
    omega
theorem low_mono (c : List Int) (bs cs : List Dm) (i : Nat) (h : ∀ j, j < bs.length → In2 (at' bs j) (at' cs j)) : ∀ j, j ≤ bs.length → lowS c cs i j ≤ lowS c bs i j ∧ highS c bs i j ≤ highS c cs i j
  | 0, _ => by simp [lowS, highS]
  | j + 1, hj => by
    have ih := low_mono c bs cs i h j (by omega)
    have e := (h j (by omega)).ends
    have m := mul_mono (c.getD j 0) e.2.1 e.2.2.1 e.2.2.2.1
    simp only [lowS, highS]
    split <;> omega

theorem pass_mono (k : Kd) (c : List Int) (N : Int) (bs cs : List Dm) (hl : bs.length = cs.length) (h : ∀ j, j < bs.length → In2 (at' bs j) (at' cs j)) (hk : ∃ n, kindB k bs.length c.length c n = true) (i : Nat) (hi : i < bs.length) (v : Int) (hv : 0 ≤ v) :
    passS k c N bs i v = true → passS k c N cs i v = true := by
  obtain ⟨n, hk⟩ := hk
  have one : ∀ j w, j < bs.length → oneB (at' bs j) w = false → oneB (at' cs j) w = false := fun j w hj hh => by
    rw [Bool.eq_false_iff] at hh ⊢
    exact fun hc => hh ((h j hj).one hc)
  cases k with
  | sum =>
    have := low_mono c bs cs i h bs.length (Nat.le_refl _)
    simp only [passS, Bool.and_eq_true, decide_eq_true_eq, ← hl]; omega
  | most =>
    have := low_mono c bs cs i h bs.length (Nat.le_refl _)
    simp only [passS, decide_eq_true_eq, ← hl]; omega
  | unlike =>
    simp only [kindB, Bool.and_eq_true, decide_eq_true_eq] at hk
    simp only [passS]
    split
    · intro hh; simp only [Bool.not_eq_true'] at hh ⊢; exact one 1 _ (by omega) hh
    · intro hh; simp only [Bool.not_eq_true'] at hh ⊢; exact one 0 _ (by omega) hh
  | distinct =>
    simp only [passS, List.all_eq_true, List.mem_range, Bool.or_eq_true, Bool.not_eq_true', ← hl]
    intro hh j hj
    exact (hh j hj).imp id (one j _ hj)
  | product =>
    simp only [kindB, Bool.and_eq_true, decide_eq_true_eq] at hk
    have e0 := (h 0 (by omega)).ends
    have e1 := (h 1 (by omega)).ends
    have e2 := (h 2 (by omega)).ends
    simp only [passS]
    split
    · simp only [Bool.and_eq_true, decide_eq_true_eq]
      have m1 : mn (at' cs 0) * mn (at' cs 1) ≤ mn (at' bs 0) * mn (at' bs 1) := Int.mul_le_mul e0.2.1 e1.2.1 e1.1 (by omega)
      have m2 : mx (at' bs 0) * mx (at' bs 1) ≤ mx (at' cs 0) * mx (at' cs 1) := Int.mul_le_mul e0.2.2.2.1 e1.2.2.2.1 (by omega) (by omega)
      omega
    · have e3 := (h (1 - i) (by omega)).ends
      simp only [Bool.and_eq_true, decide_eq_true_eq]
      have m1 : v * mn (at' cs (1 - i)) ≤ v * mn (at' bs (1 - i)) := Int.mul_le_mul_of_nonneg_left e3.2.1 hv
      have m2 : v * mx (at' bs (1 - i)) ≤ v * mx (at' cs (1 - i)) := Int.mul_le_mul_of_nonneg_left e3.2.2.2.1 hv
      omega
  | element =>
    simp only [kindB, Bool.and_eq_true, decide_eq_true_eq] at hk
    simp only [passS]
    split
    · simp only [Bool.and_eq_true]
      exact fun hh => ⟨hh.1, hh.2.1, (h 1 (by omega)).sub _ hh.2.2⟩
    · simp only [List.any_eq_true, Bool.and_eq_true]
      rintro ⟨j, hj, h1, h2⟩
      exact ⟨j, hj, h1, (h 0 (by omega)).sub _ h2⟩
  | max =>
    simp only [kindB, Bool.and_eq_true, decide_eq_true_eq] at hk
    have e0 := (h 0 (by omega)).ends
    have e1 := (h 1 (by omega)).ends
    have e2 := (h 2 (by omega)).ends
    simp only [passS]
    split
    · simp only [Bool.and_eq_true, decide_eq_true_eq]; omega
    · have e3 := (h (1 - i) (by omega)).ends
      simp only [Bool.and_eq_true, Bool.or_eq_true, decide_eq_true_eq]; omega
  | reify =>
    simp only [kindB, Bool.and_eq_true, decide_eq_true_eq] at hk
    have e1 := (h 1 (by omega)).ends
    have e2 := (h 2 (by omega)).ends
    have o1 : oneB (at' cs 0) 1 = true → oneB (at' bs 0) 1 = true := (h 0 (by omega)).one
    have o0 : oneB (at' cs 0) 0 = true → oneB (at' bs 0) 0 = true := (h 0 (by omega)).one
    simp only [passS, reifS]
    split
    · simp only [Bool.and_eq_true, Bool.or_eq_true, decide_eq_true_eq]; omega
    · split
      · simp only [Bool.and_eq_true, Bool.not_eq_true', Bool.and_eq_false_iff, decide_eq_false_iff_not]
        rintro ⟨h1, h2⟩
        refine ⟨?_, ?_⟩
        · rcases h1 with h1 | h1
          · left; rw [Bool.eq_false_iff] at h1 ⊢; exact fun hc => h1 (o1 hc)
          · right; omega
        · rcases h2 with h2 | h2
          · left; rw [Bool.eq_false_iff] at h2 ⊢; exact fun hc => h2 (o0 hc)
          · right; omega
      · simp only [Bool.and_eq_true, Bool.not_eq_true', Bool.and_eq_false_iff, decide_eq_false_iff_not]
        rintro ⟨h1, h2⟩
        refine ⟨?_, ?_⟩
        · rcases h1 with h1 | h1
          · left; rw [Bool.eq_false_iff] at h1 ⊢; exact fun hc => h1 (o1 hc)
          · right; omega
        · rcases h2 with h2 | h2
          · left; rw [Bool.eq_false_iff] at h2 ⊢; exact fun hc => h2 (o0 hc)
          · right; omega
  | apart =>
    simp only [kindB, Bool.and_eq_true, decide_eq_true_eq] at hk
    have e0 := (h 0 (by omega)).ends
    have e1 := (h 1 (by omega)).ends
    simp only [passS]
    split
    · simp only [Bool.or_eq_true, decide_eq_true_eq]; omega
    · simp only [Bool.or_eq_true, decide_eq_true_eq]; omega
  | other => simp [kindB] at hk

theorem bs_at {p : PropS} {l : List Dm} {j : Nat} (hj : j < p.vars.length) : at' (bsOf p l) j = at' l (px p.vars j) := by
  have hlen : (bsOf p l).length = p.vars.length := by simp [bsOf]
  rw [show at' (bsOf p l) j = (bsOf p l)[j]'(by omega) from getD_get (by omega) _]
  simp only [bsOf, List.getElem_map]
  exact getL_px hj

/-- What a propagator keeps of less is less. -/
theorem keep_mono (p : PropS) {l m : List Dm} (hl : VDs l) (hm : VDs m) (hlen : l.length = m.length) (hp : propB p l.length = true) (hs : Sub l m) : Sub (keepS p l) (keepS p m) := by
  have hv := varsOk_of hp
  have hv' : VarsOk p.vars m.length := by rw [← hlen]; exact hv
  intro x v h
  obtain ⟨h1, h2⟩ := (keep_mem p l hl hv x v).1 h
  refine (keep_mem p m hm hv' x v).2 ⟨hs x v h1, ?_⟩
  have hsub0 : ∀ y, at' m y = [] → at' l y = [] := fun y hy => (inD_empty (hl.at y)).2 fun u => by
    rw [Bool.eq_false_iff]; intro hu
    have := hs y u hu
    unfold InS at this; rw [hy] at this; cases this
  by_cases hem : hasEmpty p m = true
  · obtain ⟨j, hj, hje⟩ := (hasEmpty_iff p m).1 hem
    have hel : hasEmpty p l = true := (hasEmpty_iff p l).2 ⟨j, hj, hsub0 _ hje⟩
    rw [if_pos hel] at h2
    rw [if_pos hem]; exact h2
  · rw [if_neg hem]
    intro j hj hjx
    by_cases hel : hasEmpty p l = true
    · rw [if_pos hel] at h2; exact absurd hjx (h2 j hj)
    · rw [if_neg hel] at h2
      have full : ∀ (z : List Dm), VDs z → ¬ hasEmpty p z = true → ∀ y, y < p.vars.length → Full (at' z (px p.vars y)) := fun z hz hne y hy => ⟨hz.at _, fun e => hne ((hasEmpty_iff p z).2 ⟨y, hy, e⟩)⟩
      have hb : (bsOf p l).length = p.vars.length := by simp [bsOf]
      have hb' : (bsOf p m).length = p.vars.length := by simp [bsOf]
      simp only [propB, Bool.and_eq_true] at hp
      refine pass_mono _ _ _ (bsOf p l) (bsOf p m) (by omega) (fun y hy => ?_) ⟨p.n, by rw [hb]; exact hp.2⟩ j (by omega) v (h1.bound hl).1 (h2 j hj hjx)
      rw [hb] at hy
      rw [bs_at hy, bs_at hy]
      exact ⟨full l hl hel y hy, full m hm hem y hy, fun u hu => hs _ _ hu⟩

/-! ### Fixpoints -/
/-- all of ps keep l whole, and no domain is empty -/
structure FixP (ps : List PropS) (z : List Dm) : Prop where
  vd : VDs z
  keep : ∀ p ∈ ps, keepS p z = z
  ok : failedB z = false
theorem failed_sub {z l : List Dm} (hz : VDs z) (hlen : z.length = l.length) (hs : Sub z l) (hf : failedB l = true) : failedB z = true := by
  simp only [failedB, List.any_eq_true, decide_eq_true_eq] at hf ⊢
  obtain ⟨d, hd, rfl⟩ := hf
  obtain ⟨i, hi, he⟩ := List.mem_iff_getElem.1 hd
  refine ⟨z[i]'(by omega), List.getElem_mem _, ?_⟩
  refine (inD_empty (hz _ (List.getElem_mem _))).2 fun v => ?_
  rw [Bool.eq_false_iff]; intro hv
  have h1 : InS z i v := by unfold InS; rw [at_get (by omega)]; exact hv
  have := hs i v h1
  unfold InS at this; rw [at_get hi, he] at this; cases this

theorem rnd_some : ∀ {ps : List PropS} {l l' : List Dm} {q q' : Bool}, VDs l → (∀ p ∈ ps, propB p l.length = true) → rnd ps l q = some (l', q') →
    VDs l' ∧ l'.length = l.length ∧ Sub l' l ∧ (∀ z, FixP ps z → z.length = l.length → Sub z l → Sub z l') ∧ (q' = false → q = false ∧ l' = l ∧ ∀ p ∈ ps, keepS p l = l)
  | [], l, l', q, q', hl, _, h => by
    rw [rnd] at h; cases h
    exact ⟨hl, rfl, Sub.refl _, fun z _ _ hs => hs, fun e => ⟨e, rfl, by simp⟩⟩
  | p :: ps, l, l', q, q', hl, hp, h => by
    rw [rnd] at h
    split at h
    · cases h
    have hpp := hp p List.mem_cons_self
    have hok := varsOk_of hpp
    obtain ⟨h1, h2, h3, h4, h5⟩ := rnd_some (keepS_vd p hl) (fun p' hp' => by rw [keepS_len]; exact hp p' (List.mem_cons_of_mem _ hp')) h
    have hs0 : Sub (keepS p l) l := fun x v hh => keep_sub p l hl hok hh
    refine ⟨h1, h2.trans (keepS_len p l), h3.trans hs0, fun z hz hzl hzs => ?_, fun e => ?_⟩
    · refine h4 z ⟨hz.vd, fun p' hp' => hz.keep p' (List.mem_cons_of_mem _ hp'), hz.ok⟩ (by rw [keepS_len]; exact hzl) ?_
      have := keep_mono p hz.vd hl hzl (by rw [hzl]; exact hpp) hzs
      rwa [hz.keep p List.mem_cons_self] at this
    · obtain ⟨e1, e2, e3⟩ := h5 e
      have hq : q = false ∧ lessS p l = false := by simpa using e1
      have hk : keepS p l = l := by
        apply Classical.byContradiction; intro hne
        have := (less_iff p l hl hok).2 hne
        rw [hq.2] at this; cases this
      refine ⟨hq.1, by rw [e2, hk], fun p' hp' => ?_⟩
      rcases List.mem_cons.1 hp' with rfl | hp'
      · exact hk
      · have := e3 p' hp'; rwa [hk] at this
theorem rnd_none : ∀ {ps : List PropS} {l : List Dm} {q : Bool}, VDs l → (∀ p ∈ ps, propB p l.length = true) → rnd ps l q = none → ∀ z, FixP ps z → z.length = l.length → Sub z l → False
  | [], l, q, _, _, h => by rw [rnd] at h; cases h
  | p :: ps, l, q, hl, hp, h => fun z hz hzl hzs => by
    rw [rnd] at h
    split at h
    · rename_i hf
      have := failed_sub hz.vd hzl hzs hf
      rw [hz.ok] at this; cases this
    have hpp := hp p List.mem_cons_self
    refine rnd_none (keepS_vd p hl) (fun p' hp' => by rw [keepS_len]; exact hp p' (List.mem_cons_of_mem _ hp')) h z ⟨hz.vd, fun p' hp' => hz.keep p' (List.mem_cons_of_mem _ hp'), hz.ok⟩ (by rw [keepS_len]; exact hzl) ?_
    have := keep_mono p hz.vd hl hzl (by rw [hzl]; exact hpp) hzs
    rwa [hz.keep p List.mem_cons_self] at this

/-- What Fix answers is the greatest fixpoint below, or there is none. -/
theorem fix_sound {ps : List PropS} {l : List Dm} {r : Option (List Dm)} (h : FixR ps l r) : VDs l → (∀ p ∈ ps, propB p l.length = true) →
    (∀ m, r = some m → FixP ps m ∧ m.length = l.length ∧ Sub m l) ∧ ∀ z, FixP ps z → z.length = l.length → Sub z l → ∃ m, r = some m ∧ Sub z m := by
  induction h with
  | fail h =>
    intro hl hp
    exact ⟨(fun m hm => by cases hm), fun z hz hzl hzs => (rnd_none hl hp h z hz hzl hzs).elim⟩
  | @stop l l' h =>
    intro hl hp
    obtain ⟨h1, h2, h3, h4, h5⟩ := rnd_some hl hp h
    obtain ⟨_, rfl, hk⟩ := h5 rfl
    constructor
    · intro m hm
      split at hm
      · cases hm
      · rename_i hf; cases hm
        exact ⟨⟨hl, hk, by simpa using hf⟩, rfl, Sub.refl _⟩
    · intro z hz hzl hzs
      split
      · rename_i hf
        have := failed_sub hz.vd hzl hzs hf
        rw [hz.ok] at this; cases this
      · exact ⟨_, rfl, hzs⟩
  | @more l l' r h _ ih =>
    intro hl hp
    obtain ⟨h1, h2, h3, h4, _⟩ := rnd_some hl hp h
    obtain ⟨k1, k2⟩ := ih h1 (fun p hp' => by rw [h2]; exact hp p hp')
    refine ⟨fun m hm => ?_, fun z hz hzl hzs => k2 z hz (by omega) (h4 z hz hzl hzs)⟩
    obtain ⟨a, b, c⟩ := k1 m hm
    exact ⟨a, by omega, c.trans h3⟩
end Go.Proofs.Ytggfnakhmjkoeaa

namespace Go.Proofs.Ytggfnakhmjkoeaa
open Go Go.V Go.Proofs
open Go.RowKit (Below)
/-! manystrand/manystrandlaw06.DomainShrinks -/
def N5 (a1 : Option Addr) (l1 : Nat) (c1 : Nat) (a2 : Option Addr) (l2 : Nat) (c2 : Nat) (a3 : Option Addr) (l3 : Nat) (_c3 : Nat) (K : Bool → World → Prop) (w : World) : Prop :=
  ∃ (J4 : Bool → World → Prop),
  (∀ (w5 : World) (p6 : Bool), J4 p6 w5 →
    BoolK p6
    (Calls Try.prog 12 #[] w5 fun e9 w8 =>
      ∃ (p7 : Bool), e9 = .returned (.bool p7) ∧
      (K p7 w8))
    (∃ (I10 : Option Addr → Nat → Nat → Int → World → Prop) (μ11 : Option Addr → Nat → Nat → Int → World → Nat),
      (I10 none 0 0 0 w5 ∧ True) ∧
      ∀ (w12 : World) (a13 : Option Addr) (l13 : Nat) (c13 : Nat) (x14 : Int), I10 a13 l13 c13 x14 w12 →
      BoolK (decide ((x14 : Int) < (l2 : Nat)))
      (DrewK w12 fun w15 =>
        (0 ≤ (x14 : Int) ∧ (x14 : Int) < (l2 : Nat)) ∧
        AddrK a2 fun b16 =>
        ∃ (a17 : Option Addr) (l17 : Nat) (c17 : Nat), w15.cell? (b16.add ((x14 : Int).toNat * 1)) = some (.slice a17 l17 c17) ∧
        ((0 ≤ (x14 : Int) ∧ (x14 : Int) < (l3 : Nat)) ∧
          AddrK a3 fun b18 =>
          ∃ (a19 : Option Addr) (l19 : Nat) (c19 : Nat), w15.cell? (b18.add ((x14 : Int).toNat * 1)) = some (.slice a19 l19 c19) ∧
          (Calls Try.prog 23 #[(.slice a17 l17 c17), (.slice a19 l19 c19)] w15 fun e23 w22 =>
            ∃ (a20 : Option Addr), ∃ (l20 : Nat), ∃ (c20 : Nat), ∃ (x21 : Int), e23 = .returned (.tuple #[(.slice a20 l20 c20), (.int .i64 x21)]) ∧
            (Below w15.heap.size w15 w22 ∧
              (BoolK ((x21 : Int) != 0)
                (Calls Try.prog 12 #[] w22 fun e26 w25 =>
                  ∃ (p24 : Bool), e26 = .returned (.bool p24) ∧
                  (K p24 w25))
                (AllocK w22 (#[(.slice a20 l20 c20)]) 38 fun b27 w28 =>
                  ∃ (a29 : Option Addr), ∃ (l29 : Nat), ∃ (c29 : Nat), ∃ (w30 : World), Sem.run Try.prog (Builtin.append_ #[25, 25] 25 #[(.slice a13 l13 c13), (.slice (some b27) 1 1)]) w28 = .ok (.slice a29 l29 c29) w30 ∧
                  (I10 a29 l29 c29 (IntKind.wrap .i64 (x14 + 1)) w30 ∧ μ11 a29 l29 c29 (IntKind.wrap .i64 (x14 + 1)) w30 < μ11 a13 l13 c13 x14 w12)))))))
      (Calls Try.prog 19 #[(.slice a1 l1 c1), (.slice a2 l2 c2)] w12 fun e34 w33 =>
        ∃ (a31 : Option Addr), ∃ (l31 : Nat), ∃ (c31 : Nat), ∃ (x32 : Int), e34 = .returned (.tuple #[(.slice a31 l31 c31), (.int .i64 x32)]) ∧
        (Calls Try.prog 19 #[(.slice a1 l1 c1), (.slice a13 l13 c13)] w33 fun e38 w37 =>
          ∃ (a35 : Option Addr), ∃ (l35 : Nat), ∃ (c35 : Nat), ∃ (x36 : Int), e38 = .returned (.tuple #[(.slice a35 l35 c35), (.int .i64 x36)]) ∧
          (∃ (J39 : Bool → World → Prop),
            (∀ (w40 : World) (p41 : Bool), J39 p41 w40 →
              BoolK p41
              (BoolK ((x32 : Int) != 60)
                (BoolK (((x32 : Int) == 2) == ((x36 : Int) == 2))
                  (Calls Try.prog 12 #[] w40 fun e44 w43 =>
                    ∃ (p42 : Bool), e44 = .returned (.bool p42) ∧
                    (K p42 w43))
                  (K false w40))
                (BoolK ((x36 : Int) == 60)
                  (BoolK (((x32 : Int) == 2) == ((x36 : Int) == 2))
                    (Calls Try.prog 12 #[] w40 fun e47 w46 =>
                      ∃ (p45 : Bool), e47 = .returned (.bool p45) ∧
                      (K p45 w46))
                    (K false w40))
                  (K false w40)))
              (BoolK (((l31 : Nat) : Int) != (l35 : Nat))
                (K false w40)
                (∃ (I48 : Int → World → Prop) (μ49 : Int → World → Nat),
                  (I48 0 w40 ∧ True) ∧
                  ∀ (w50 : World) (x51 : Int), I48 x51 w50 →
                  BoolK (decide ((x51 : Int) < (l31 : Nat)))
                  (DrewK w50 fun w52 =>
                    (0 ≤ (x51 : Int) ∧ (x51 : Int) < (l35 : Nat)) ∧
                    AddrK a35 fun b53 =>
                    ∃ (a54 : Option Addr) (l54 : Nat) (c54 : Nat), w52.cell? (b53.add ((x51 : Int).toNat * 1)) = some (.slice a54 l54 c54) ∧
                    ((0 ≤ (x51 : Int) ∧ (x51 : Int) < (l31 : Nat)) ∧
                      AddrK a31 fun b55 =>
                      ∃ (a56 : Option Addr) (l56 : Nat) (c56 : Nat), w52.cell? (b55.add ((x51 : Int).toNat * 1)) = some (.slice a56 l56 c56) ∧
                      (Calls Try.prog 24 #[(.slice a54 l54 c54), (.slice a56 l56 c56)] w52 fun e60 w59 =>
                        ∃ (a57 : Option Addr), ∃ (l57 : Nat), ∃ (c57 : Nat), ∃ (x58 : Int), e60 = .returned (.tuple #[(.slice a57 l57 c57), (.int .i64 x58)]) ∧
                        (Below w52.heap.size w52 w59 ∧
                          (BoolK ((x58 : Int) != 0)
                            (K false w59)
                            (BoolK (decide (((l57 : Nat) : Int) > 0))
                              (K false w59)
                              (I48 (IntKind.wrap .i64 (x51 + 1)) w59 ∧ μ49 (IntKind.wrap .i64 (x51 + 1)) w59 < μ49 x51 w50)))))))
                  (Calls Try.prog 12 #[] w50 fun e63 w62 =>
                    ∃ (p61 : Bool), e63 = .returned (.bool p61) ∧
                    (K p61 w62))))) ∧
            (BoolK ((x32 : Int) != 0)
              (J39 true w37)
              (J39 ((x36 : Int) != 0) w37))))))) ∧
  (Calls Try.prog 18 #[(.slice a2 l2 c2), (.slice a1 l1 c1)] w fun e66 w65 =>
    ∃ (p64 : Bool), e66 = .returned (.bool p64) ∧
    (BoolK (!p64)
      (J4 true w65)
      (J4 (((l3 : Nat) : Int) != (l2 : Nat)) w65)))
def ann5 : Ann := (.two .nil (.two (.cut [(28, (.one .bool))] [0, 1, 2] .nil (.two (.two .nil .nil) .nil)) (.two .nil (.two (.two .nil (.one (.loop [(7, (.one .slice)), (32, (.one (.int .i64)))] [0, 1, 2, 31] (.two .nil (.two (.two .nil .nil) (.two (.one (.two .nil (.two (.any 14 (.take 0 (.take 1 (.take 2 (.take 3 (.take 4 (.take 5 (.take 6 (.take 7 (.one 8 (.take 9 (.take 10 (.take 11 (.take 12 (.take 13 .done))))))))))))))) (.two (.two .nil (.two (.two .nil .nil) .nil)) .nil)))) .nil)))))) (.two .nil (.two .nil (.two (.cut [(72, (.one .bool))] [11, 12, 13, 14] .nil (.two (.two .nil .nil) .nil)) (.two (.two .nil (.two (.two .nil .nil) .nil)) (.two (.two .nil (.one (.loop [(96, (.one (.int .i64)))] [11, 13, 95] (.two .nil (.two (.two .nil .nil) (.two (.one (.two .nil (.two (.any 14 (.take 0 (.take 1 (.take 2 (.take 3 (.take 4 (.take 5 (.take 6 (.take 7 (.one 8 (.take 9 (.take 10 (.take 11 (.take 12 (.take 13 .done))))))))))))))) (.two .nil (.two (.two .nil .nil) .nil))))) .nil)))))) (.two .nil .nil))))))))))
noncomputable def code5 : Code := match Try.f5.body with | some c => c | none => .skip
theorem wp5 (a1 : Option Addr) (l1 : Nat) (c1 : Nat) (a2 : Option Addr) (l2 : Nat) (c2 : Nat) (a3 : Option Addr) (l3 : Nat) (c3 : Nat) (K : Bool → World → Prop) (w : World) : WP Try.prog tab code5 ann5 (fnQ tab Try.f5.results.toList [(.one .bool)] K) (argE 0 [(.slice a1 l1 c1), (.slice a2 l2 c2), (.slice a3 l3 c3)]) w = N5 a1 l1 c1 a2 l2 c2 a3 l3 c3 K w := by kernel_rfl
theorem calls5 (a1 : Option Addr) (l1 : Nat) (c1 : Nat) (a2 : Option Addr) (l2 : Nat) (c2 : Nat) (a3 : Option Addr) (l3 : Nat) (c3 : Nat) (K : Bool → World → Prop) (w : World) (h : N5 a1 l1 c1 a2 l2 c2 a3 l3 c3 K w) : Calls Try.prog 5 #[(.slice a1 l1 c1), (.slice a2 l2 c2), (.slice a3 l3 c3)] w fun en w' => ∃ (p67 : Bool), en = .returned (.bool p67) ∧ K p67 w' :=
  have e : (fun en w' => ExShs [(.one .bool)] fun vs => en = .returned (tupled vs) ∧ ap [(.one .bool)] K vs fun p => p w') = (fun (en : Ending) (w' : World) => ∃ (p67 : Bool), en = .returned (.bool p67) ∧ K p67 w') := by kernel_rfl
  e ▸ fn_sound tabOk mixed Try.func5 (by kernel_rfl : Try.f5.body = some code5) ann5 [(.slice a1 l1 c1), (.slice a2 l2 c2), (.slice a3 l3 c3)] [(.one .bool)] K w (by kernel_rfl) ((wp5 a1 l1 c1 a2 l2 c2 a3 l3 c3 K w).symm ▸ h)
end Go.Proofs.Ytggfnakhmjkoeaa

namespace Go.Proofs.Ytggfnakhmjkoeaa
open Go Go.V Go.Proofs
open Go.RowKit (Below)

theorem bothS_some {rule : Bool → Bool → Bool} {d e r : Dm} (h : bothS rule d e = some r) : VD d ∧ VD e ∧ VD r ∧ r = rngs (fun v => rule (inD d v) (inD e v)) 1001 := by
  unfold bothS at h
  split at h
  · rename_i hv
    simp only [Bool.and_eq_true, validB_iff] at hv
    cases h
    exact ⟨hv.1, hv.2, (rngs_ok _ 1001 (by omega)).1, rfl⟩
  · cases h
theorem meet_sub {d e r : Dm} (h : bothS rMeet d e = some r) {v : Int} (hv : inD r v = true) : inD d v = true := by
  obtain ⟨_, _, _, rfl⟩ := bothS_some h
  rw [inD_rngs, Bool.and_eq_true, decide_eq_true_eq] at hv
  have h2 := hv.2
  rw [show ((v.toNat : Nat) : Int) = v by omega, rMeet, Bool.and_eq_true] at h2
  exact h2.1
theorem minus_nil {d e : Dm} (hd : VD d) (he : VD e) (h : ∀ v, inD d v = true → inD e v = true) : bothS rMinus d e = some [] := by
  unfold bothS
  rw [(validB_iff d).2 hd, (validB_iff e).2 he]
  have : rngs (fun v => rMinus (inD d v) (inD e v)) 1001 = [] := (inD_empty (rngs_ok _ 1001 (by omega)).1).2 fun v => by
    rw [inD_rngs]
    cases hh : inD d ((v.toNat : Nat) : Int) with
    | false => simp [rMinus]
    | true => rw [h _ hh]; simp [rMinus]
  rw [this]; rfl
theorem usable_eq {ps : List PropS} {l m : List Dm} (hl : VDs l) (hm : VDs m) (h : l.length = m.length) : usableB ps l = usableB ps m := by
  have e : ∀ z : List Dm, VDs z → allVB z = decide (z.length ≤ 40) := fun z hz => by
    have : z.all validB = true := List.all_eq_true.2 fun d hd => (validB_iff d).2 (hz d hd)
    rw [allVB, this]; rfl
  rw [usableB, usableB, e l hl, e m hm, h]
theorem usable_props {ps : List PropS} {l : List Dm} (h : usableB ps l = true) : VDs l ∧ ∀ p ∈ ps, propB p l.length = true := by
  simp only [usableB, Bool.and_eq_true, decide_eq_true_eq, List.all_eq_true] at h
  exact ⟨(allVB_of h.1).1, h.2.2⟩

theorem c5 (w : World) (a1 : Option Addr) (l1 c1 : Nat) (a2 : Option Addr) (l2 c2 : Nat) (a3 : Option Addr) (l3 c3 : Nat) (ps : List PropS) (ls ms : List Dm)
    (hp : Props w a1 l1 ps) (hpl : l1 ≤ maxLen) (hd : Doms w a2 l2 ls) (hdl : l2 ≤ maxLen) (hds : ∀ d ∈ ls, Sm d) (hm : Doms w a3 l3 ms) (hms : ∀ d ∈ ms, Sm d) :
    Calls Try.prog 5 #[.slice a1 l1 c1, .slice a2 l2 c2, .slice a3 l3 c3] w fun en w' => en = .returned (.bool true) ∧ Ext w w' := by
  have el := hd.1
  have em := hm.1
  have key : ∀ (K : Bool → World → Prop), (∀ w', Ext w w' → K true w') → N5 a1 l1 c1 a2 l2 c2 a3 l3 c3 K w := fun K hK => by
    have awake : ∀ w0, Ext w w0 → Calls Try.prog 12 #[] w0 fun e w' => ∃ p, e = .returned (.bool p) ∧ K p w' := fun w0 h0 => by
      refine (c12 w0).mono ?_
      rintro en w9 ⟨p, rfl, rfl, hx⟩
      exact ⟨_, rfl, hK _ (h0.trans hx)⟩
    refine ⟨fun q w5 => Ext w w5 ∧ (q = false → Light ls ps ∧ ls.length = ms.length), ?_, ?_⟩
    · rintro w5 q ⟨hB, hq⟩
      refine BoolK.mk (fun _ => awake w5 hB) (fun t => ?_)
      obtain ⟨hL, hlen⟩ := hq t
      have hl50 := hL.1
      refine ⟨fun a l c i w' => ∃ (k : Nat) (sm : List Dm), i = k ∧ k ≤ ls.length ∧ sm.length = k ∧ DomsO w5.heap.size w' a l c sm ∧ (∀ i, i < k → bothS rMeet (at' ls i) (at' ms i) = some (at' sm i)) ∧ Ext w5 w', fun _ _ _ i _ => ls.length - i.toNat,
        ⟨⟨0, [], rfl, by omega, rfl, RowsO.nil _ _ _ _ _, fun i hi => by omega, Ext.refl _⟩, trivial⟩, ?_⟩
      rintro w12 a13 l13 c13 _ ⟨k, sm, rfl, hk, hsl, ho, hall, hB12⟩
      have hB12' := hB.trans hB12
      refine BoolK.mk (fun hlt => ?_) (fun hge => ?_)
      · have hlt : k < ls.length := by simp at hlt; omega
        refine DrewK.mk fun w15 hx15 => ?_
        have hB15 := hB12'.trans hx15
        obtain ⟨b1, o1, a17, l17, c17, rfl, h0, h1⟩ := domsAt hd w15 hB15 hlt
        obtain ⟨b2, o2, a19, l19, c19, rfl, g0, g1⟩ := domsAt hm w15 hB15 (i := k) (by omega)
        refine ⟨by omega, ?_⟩
        simp only [AddrK, Int.toNat_natCast, add_mk, Nat.mul_one]
        refine ⟨_, _, _, h0, by omega, _, _, _, g0, ?_⟩
        refine (c23 w15 a17 l17 c17 a19 l19 c19 _ _ h1 g1 (hds _ (List.getElem_mem _)).1 (hms _ (List.getElem_mem _)).1).mono ?_
        rintro en w22 ⟨a20, l20, c20, x21, rfl, hres, hx22⟩
        refine ⟨_, _, _, _, rfl, hx22, ?_⟩
        have hB22 := hB15.trans hx22
        cases hr : bothS rMeet ls[k] ms[k] with
        | none =>
          rw [hr] at hres
          obtain ⟨rfl, rfl, rfl⟩ := hres
          exact BoolK.mk (fun _ => awake w22 hB22) (fun t => by simp at t)
        | some r =>
          rw [hr] at hres
          obtain ⟨rfl, hor, hrl⟩ := hres
          refine BoolK.mk (fun t => by simp at t) (fun _ => ?_)
          refine RowsO.push RPair.mono RPair.leaf RPair.some0 slt25 (ho.ext RPair.mono (hx15.trans hx22)) ((hB12.trans hx15).trans hx22).size (by rw [hsl]; omega) hor.dom ?_ fun a4 c4 w' ho' hb' => ?_
          · obtain ⟨S, _, hS, _⟩ := ho
            exact .inr fun p hp e => by have := (hS.lt _ e.symm).2; have := (hor.lt p.block (by rw [hp]; rfl)).1; have := hx15.size; omega
          · rw [wrap_succ (by omega)]
            refine ⟨⟨k + 1, sm ++ [r], rfl, by omega, by simp [hsl], ho', fun i hi => ?_, Below.trans ((hB12.trans hx15).trans hx22) hb'⟩, by simp; omega⟩
            rcases Nat.lt_or_ge i k with hik | hik
            · have e1 : at' (sm ++ [r]) i = at' sm i := by rw [at_get (by simp; omega), at_get (by omega), List.getElem_append_left (by omega)]
              rw [e1]; exact hall i hik
            · have : i = k := by omega
              subst this
              have e1 : at' (sm ++ [r]) i = r := by rw [at_get (by simp; omega), List.getElem_append_right (by omega)]; simp [hsl]
              rw [e1, at_get hlt, at_get (by omega), hr]
      have : k = ls.length := by simp at hge; omega
      subst this
      -- small is within l
      have hVl : VDs ls := fun d hdm => by
        obtain ⟨i, hi, rfl⟩ := List.mem_iff_getElem.1 hdm
        have := bothS_some (hall i hi); rw [at_get hi] at this; exact this.1
      have hVs : VDs sm := fun d hdm => by
        obtain ⟨i, hi, rfl⟩ := List.mem_iff_getElem.1 hdm
        have := bothS_some (hall i (by omega)); rw [at_get (l := sm) hi] at this; exact this.2.2.1
      have hsub : Sub sm ls := fun x v hx => meet_sub (hall x (by have := hx.lt; omega)) hx
      refine (c19 w12 a1 l1 c1 ps (hp.ext RProp.mono hB12') a2 l2 c2 ls (hd.ext (RSl.mono RPair.mono) hB12') (by omega) hds).mono ?_
      rintro en w33 ⟨a31, l31, c31, x32, rfl, res1, hx33⟩
      refine ⟨_, _, _, _, rfl, ?_⟩
      have hB33 := hB12'.trans hx33
      refine (c19 w33 a1 l1 c1 ps (hp.ext RProp.mono hB33) a13 l13 c13 sm (ho.doms.ext (RSl.mono RPair.mono) hx33) (by omega) (fun d hd => (hVs d hd).sm)).mono ?_
      rintro en w37 ⟨a35, l35, c35, x36, rfl, res2, hx37⟩
      refine ⟨_, _, _, _, rfl, ?_⟩
      have hB37 := hB33.trans hx37
      have hU := usable_eq (ps := ps) hVl hVs hsl.symm
      refine ⟨fun q w40 => w40 = w37 ∧ q = ((x32 != 0) || (x36 != 0)), ?_, ?_⟩
      · rintro w40 q ⟨rfl, rfl⟩
        rcases res1 with ⟨u1, rfl, rfl, rfl⟩ | ⟨u1, r1, f1, res1⟩
        · rcases res2 with ⟨_, rfl, rfl, rfl⟩ | ⟨u2, _⟩
          · refine BoolK.mk (fun _ => BoolK.mk (fun _ => BoolK.mk (fun _ => awake w40 hB37) (fun t => by simp at t)) (fun t => by simp at t)) (fun t => by simp at t)
          · rw [← hU, u1] at u2; cases u2
        · rcases res2 with ⟨u2, _⟩ | ⟨u2, r2, f2, res2⟩
          · rw [← hU, u1] at u2; cases u2
          have ⟨_, hpr1⟩ := usable_props u1
          have ⟨_, hpr2⟩ := usable_props u2
          have S1 := fix_sound f1 hVl hpr1
          have S2 := fix_sound f2 hVs hpr2
          rcases res1 with ⟨rfl, rfl, rfl, rfl⟩ | ⟨A, rfl, VA, LA, rfl, oA⟩
          · rcases res2 with ⟨rfl, rfl, rfl, rfl⟩ | ⟨B, rfl, VB, LB, rfl, oB⟩
            · refine BoolK.mk (fun _ => BoolK.mk (fun t => by simp at t) (fun _ => BoolK.mk (fun _ => BoolK.mk (fun _ => awake w40 hB37) (fun t => by simp at t)) (fun t => by simp at t))) (fun t => by simp at t)
            · obtain ⟨hB1, hB2, hB3⟩ := S2.1 B rfl
              obtain ⟨m, hm0, _⟩ := S1.2 B hB1 (by omega) (hB3.trans hsub)
              cases hm0
          · rcases res2 with ⟨rfl, rfl, rfl, rfl⟩ | ⟨B, rfl, VB, LB, rfl, oB⟩
            · refine BoolK.mk (fun _ => BoolK.mk (fun _ => BoolK.mk (fun _ => awake w40 hB37) (fun t => by simp at t)) (fun t => by simp at t)) (fun t => by simp at t)
            · obtain ⟨hB1, hB2, hB3⟩ := S2.1 B rfl
              obtain ⟨m, hm0, hBA⟩ := S1.2 B hB1 (by omega) (hB3.trans hsub)
              cases hm0
              have lA := oA.len
              have lB := oB.len
              refine BoolK.mk (fun t => by simp at t) (fun _ => ?_)
              refine BoolK.mk (fun t => by simp at t; omega) (fun _ => ?_)
              have dA := oA.doms.ext (RSl.mono RPair.mono) hx37
              have dB := oB.doms
              refine ⟨fun i w' => ∃ k : Nat, i = k ∧ k ≤ l31 ∧ Ext w40 w', fun i _ => l31 - i.toNat, ⟨⟨0, rfl, by omega, Ext.refl _⟩, trivial⟩, ?_⟩
              rintro w50 _ ⟨k, rfl, hk, hB50⟩
              refine BoolK.mk (fun hlt => ?_) (fun hge => ?_)
              · have hlt : k < l31 := by simp at hlt; omega
                refine DrewK.mk fun w52 hx52 => ?_
                have hB52 := hB50.trans hx52
                obtain ⟨b1, o1, a54, l54, c54, rfl, h0, h1⟩ := domsAt dB w52 hB52 (i := k) (by omega)
                obtain ⟨b2, o2, a56, l56, c56, rfl, g0, g1⟩ := domsAt dA w52 hB52 (i := k) (by omega)
                refine ⟨by omega, ?_⟩
                simp only [AddrK, Int.toNat_natCast, add_mk, Nat.mul_one]
                refine ⟨_, _, _, h0, by omega, _, _, _, g0, ?_⟩
                have vB := VB _ (List.getElem_mem (show k < B.length by omega))
                have vA := VA _ (List.getElem_mem (show k < A.length by omega))
                have hn : bothS rMinus B[k] A[k] = some [] := minus_nil vB vA fun v hv => by
                  have := hBA k v (by unfold InS; rw [at_get (by omega)]; exact hv)
                  unfold InS at this; rwa [at_get (by omega)] at this
                refine (c24 w52 a54 l54 c54 a56 l56 c56 _ _ h1 g1 vB.sm.1 vA.sm.1).mono ?_
                rintro en w59 ⟨a57, l57, c57, x58, rfl, hres, hx59⟩
                rw [hn] at hres
                obtain ⟨rfl, hor, _⟩ := hres
                have hl57 : l57 = 0 := hor.1
                subst hl57
                refine ⟨_, _, _, _, rfl, hx59, BoolK.mk (fun t => by simp at t) (fun _ => BoolK.mk (fun t => by simp at t) (fun _ => ?_))⟩
                rw [wrap_succ (by omega)]
                exact ⟨⟨k + 1, rfl, by omega, hB52.trans hx59⟩, by simp; omega⟩
              · exact awake w50 (hB37.trans hB50)
      · refine BoolK.mk (fun t => ⟨rfl, by rw [t]; rfl⟩) (fun t => ⟨rfl, by rw [t]; rfl⟩)
    · refine (c18 w a2 l2 c2 a1 l1 c1 ls ps hd hds hdl hp hpl).mono ?_
      rintro en w65 ⟨q, rfl, hq, hx⟩
      refine ⟨_, rfl, BoolK.mk (fun _ => ⟨hx, fun h => by cases h⟩) (fun t => ⟨hx, fun h => ⟨hq (by simpa using t), ?_⟩⟩)⟩
      simp at h; omega
  refine (calls5 _ _ _ _ _ _ _ _ _ (fun p w' => p = true ∧ Ext w w') w (key _ fun w' hx => ⟨rfl, hx⟩)).mono ?_
  rintro en w' ⟨p, rfl, rfl, hx⟩
  exact ⟨rfl, hx⟩
end Go.Proofs.Ytggfnakhmjkoeaa

namespace Go.Proofs.Ytggfnakhmjkoeaa
open Go Go.V Go.Proofs
open Go.RowKit (Below)
/-! manystrand/manystrandref06.Failed -/
def N47 (a1 : Option Addr) (l1 : Nat) (_c1 : Nat) (K : Bool → World → Prop) (w : World) : Prop :=
  ∃ (I2 : Int → World → Prop) (μ3 : Int → World → Nat),
  (I2 0 w ∧ True) ∧
  ∀ (w4 : World) (x5 : Int), I2 x5 w4 →
  BoolK (decide ((x5 : Int) < (l1 : Nat)))
  ((0 ≤ (x5 : Int) ∧ (x5 : Int) < (l1 : Nat)) ∧
    AddrK a1 fun b6 =>
    ∃ (a7 : Option Addr) (l7 : Nat) (c7 : Nat), w4.cell? (b6.add ((x5 : Int).toNat * 1)) = some (.slice a7 l7 c7) ∧
    (BoolK (((l7 : Nat) : Int) == 0)
      (K true w4)
      (I2 (IntKind.wrap .i64 (x5 + 1)) w4 ∧ μ3 (IntKind.wrap .i64 (x5 + 1)) w4 < μ3 x5 w4)))
  (K false w4)
def ann47 : Ann := (.two .nil (.two (.two .nil (.one (.loop [(3, (.one (.int .i64)))] [0] (.two (.two .nil (.two .nil .nil)) (.two (.one (.two .nil (.two (.two .nil .nil) .nil))) .nil))))) (.two .nil .nil)))
noncomputable def code47 : Code := match Try.f47.body with | some c => c | none => .skip
theorem wp47 (a1 : Option Addr) (l1 : Nat) (c1 : Nat) (K : Bool → World → Prop) (w : World) : WP Try.prog tab code47 ann47 (fnQ tab Try.f47.results.toList [(.one .bool)] K) (argE 0 [(.slice a1 l1 c1)]) w = N47 a1 l1 c1 K w := by kernel_rfl
theorem calls47 (a1 : Option Addr) (l1 : Nat) (c1 : Nat) (K : Bool → World → Prop) (w : World) (h : N47 a1 l1 c1 K w) : Calls Try.prog 47 #[(.slice a1 l1 c1)] w fun en w' => ∃ (p8 : Bool), en = .returned (.bool p8) ∧ K p8 w' :=
  have e : (fun en w' => ExShs [(.one .bool)] fun vs => en = .returned (tupled vs) ∧ ap [(.one .bool)] K vs fun p => p w') = (fun (en : Ending) (w' : World) => ∃ (p8 : Bool), en = .returned (.bool p8) ∧ K p8 w') := by kernel_rfl
  e ▸ fn_sound tabOk mixed Try.func47 (by kernel_rfl : Try.f47.body = some code47) ann47 [(.slice a1 l1 c1)] [(.one .bool)] K w (by kernel_rfl) ((wp47 a1 l1 c1 K w).symm ▸ h)
end Go.Proofs.Ytggfnakhmjkoeaa

namespace Go.Proofs.Ytggfnakhmjkoeaa
open Go Go.V Go.Proofs
open Go.RowKit (Below)
/-! manystrand/manystrandref06.ValidProps -/
def N59 (a1 : Option Addr) (l1 : Nat) (_c1 : Nat) (x2 : Int) (K : Bool → World → Prop) (w : World) : Prop :=
  ∃ (I3 : Int → World → Prop) (μ4 : Int → World → Nat),
  (I3 0 w ∧ True) ∧
  ∀ (w5 : World) (x6 : Int), I3 x6 w5 →
  BoolK (decide ((x6 : Int) < (l1 : Nat)))
  ((0 ≤ (x6 : Int) ∧ (x6 : Int) < (l1 : Nat)) ∧
    AddrK a1 fun b7 =>
    ∃ (s8 : ByteArray), w5.cell? ((b7.add ((x6 : Int).toNat * 4)).add 0) = some (.string s8) ∧
    (∃ (a9 : Option Addr) (l9 : Nat) (c9 : Nat), w5.cell? ((b7.add ((x6 : Int).toNat * 4)).add 1) = some (.slice a9 l9 c9) ∧
      (∃ (a10 : Option Addr) (l10 : Nat) (c10 : Nat), w5.cell? ((b7.add ((x6 : Int).toNat * 4)).add 2) = some (.slice a10 l10 c10) ∧
        (∃ (x11 : Int), w5.cell? ((b7.add ((x6 : Int).toNat * 4)).add 3) = some (.int .i64 x11) ∧
          (Calls Try.prog 17 #[(.agg #[(.string s8), (.slice a9 l9 c9), (.slice a10 l10 c10), (.int .i64 x11)]), (.int .i64 x2)] w5 fun e14 w13 =>
            ∃ (p12 : Bool), e14 = .returned (.bool p12) ∧
            (BoolK (!p12)
              (K false w13)
              (I3 (IntKind.wrap .i64 (x6 + 1)) w13 ∧ μ4 (IntKind.wrap .i64 (x6 + 1)) w13 < μ4 x6 w5)))))))
  (K (decide (((l1 : Nat) : Int) ≤ 100)) w5)
def ann59 : Ann := (.two .nil (.two (.two .nil (.one (.loop [(5, (.one (.int .i64)))] [0, 1] (.two (.two .nil (.two .nil .nil)) (.two (.one (.two .nil (.two (.two .nil .nil) .nil))) .nil))))) (.two .nil .nil)))
noncomputable def code59 : Code := match Try.f59.body with | some c => c | none => .skip
theorem wp59 (a1 : Option Addr) (l1 : Nat) (c1 : Nat) (x2 : Int) (K : Bool → World → Prop) (w : World) : WP Try.prog tab code59 ann59 (fnQ tab Try.f59.results.toList [(.one .bool)] K) (argE 0 [(.slice a1 l1 c1), (.int .i64 x2)]) w = N59 a1 l1 c1 x2 K w := by kernel_rfl
theorem calls59 (a1 : Option Addr) (l1 : Nat) (c1 : Nat) (x2 : Int) (K : Bool → World → Prop) (w : World) (h : N59 a1 l1 c1 x2 K w) : Calls Try.prog 59 #[(.slice a1 l1 c1), (.int .i64 x2)] w fun en w' => ∃ (p15 : Bool), en = .returned (.bool p15) ∧ K p15 w' :=
  have e : (fun en w' => ExShs [(.one .bool)] fun vs => en = .returned (tupled vs) ∧ ap [(.one .bool)] K vs fun p => p w') = (fun (en : Ending) (w' : World) => ∃ (p15 : Bool), en = .returned (.bool p15) ∧ K p15 w') := by kernel_rfl
  e ▸ fn_sound tabOk mixed Try.func59 (by kernel_rfl : Try.f59.body = some code59) ann59 [(.slice a1 l1 c1), (.int .i64 x2)] [(.one .bool)] K w (by kernel_rfl) ((wp59 a1 l1 c1 x2 K w).symm ▸ h)
end Go.Proofs.Ytggfnakhmjkoeaa

namespace Go.Proofs.Ytggfnakhmjkoeaa
open Go Go.V Go.Proofs
open Go.RowKit (Below)
/-! manystrand/manystrandref06.Fix -/
def N20 (a1 : Option Addr) (l1 : Nat) (c1 : Nat) (a2 : Option Addr) (l2 : Nat) (c2 : Nat) (K : Option Addr → Nat → Nat → Int → World → Prop) (w : World) : Prop :=
  Calls Try.prog 52 #[(.slice a2 l2 c2)] w fun e5 w4 =>
  ∃ (p3 : Bool), e5 = .returned (.bool p3) ∧
  (BoolK (!p3)
    (K none 0 0 2 w4)
    (Calls Try.prog 59 #[(.slice a1 l1 c1), (.int .i64 (l2 : Nat))] w4 fun e8 w7 =>
      ∃ (p6 : Bool), e8 = .returned (.bool p6) ∧
      (BoolK (!p6)
        (K none 0 0 2 w7)
        (∃ (I9 : Option Addr → Nat → Nat → World → Prop) (μ10 : Option Addr → Nat → Nat → World → Nat),
          (I9 a2 l2 c2 w7 ∧ True) ∧
          ∀ (w11 : World) (a12 : Option Addr) (l12 : Nat) (c12 : Nat), I9 a12 l12 c12 w11 →
          Calls Try.prog 47 #[(.slice a12 l12 c12)] w11 fun e15 w14 =>
          ∃ (p13 : Bool), e15 = .returned (.bool p13) ∧
          (BoolK p13
            (K none 0 0 60 w14)
            (∃ (I16 : Option Addr → Nat → Nat → Int → World → Prop) (μ17 : Option Addr → Nat → Nat → Int → World → Nat),
              (I16 a12 l12 c12 0 w14 ∧ True) ∧
              ∀ (w18 : World) (a19 : Option Addr) (l19 : Nat) (c19 : Nat) (x20 : Int), I16 a19 l19 c19 x20 w18 →
              BoolK (decide ((x20 : Int) < (l1 : Nat)))
              ((0 ≤ (x20 : Int) ∧ (x20 : Int) < (l1 : Nat)) ∧
                AddrK a1 fun b21 =>
                ∃ (s22 : ByteArray), w18.cell? ((b21.add ((x20 : Int).toNat * 4)).add 0) = some (.string s22) ∧
                (∃ (a23 : Option Addr) (l23 : Nat) (c23 : Nat), w18.cell? ((b21.add ((x20 : Int).toNat * 4)).add 1) = some (.slice a23 l23 c23) ∧
                  (∃ (a24 : Option Addr) (l24 : Nat) (c24 : Nat), w18.cell? ((b21.add ((x20 : Int).toNat * 4)).add 2) = some (.slice a24 l24 c24) ∧
                    (∃ (x25 : Int), w18.cell? ((b21.add ((x20 : Int).toNat * 4)).add 3) = some (.int .i64 x25) ∧
                      (Calls Try.prog 54 #[(.agg #[(.string s22), (.slice a23 l23 c23), (.slice a24 l24 c24), (.int .i64 x25)]), (.slice a19 l19 c19)] w18 fun e28 w27 =>
                        ∃ (a26 : Option Addr), ∃ (l26 : Nat), ∃ (c26 : Nat), e28 = .returned (.slice a26 l26 c26) ∧
                        (I16 a26 l26 c26 (IntKind.wrap .i64 (x20 + 1)) w27 ∧ μ17 a26 l26 c26 (IntKind.wrap .i64 (x20 + 1)) w27 < μ17 a19 l19 c19 x20 w18))))))
              (Calls Try.prog 15 #[(.slice a12 l12 c12), (.slice a19 l19 c19)] w18 fun e31 w30 =>
                ∃ (p29 : Bool), e31 = .returned (.bool p29) ∧
                (BoolK p29
                  (Calls Try.prog 53 #[(.slice a12 l12 c12)] w30 fun e34 w33 =>
                    ∃ (a32 : Option Addr), ∃ (l32 : Nat), ∃ (c32 : Nat), e34 = .returned (.slice a32 l32 c32) ∧
                    (K a32 l32 c32 0 w33))
                  (I9 a19 l19 c19 w30 ∧ μ10 a19 l19 c19 w30 < μ10 a12 l12 c12 w11)))))))))
def ann20 : Ann := (.two .nil (.two (.two .nil (.two (.two .nil .nil) .nil)) (.one (.loop [(1, (.one .slice))] [0] (.one (.two (.two .nil (.two (.two .nil .nil) .nil)) (.two .nil (.two (.two .nil (.one (.loop [(6, (.one .slice)), (7, (.one (.int .i64)))] [0, 1] (.two (.two .nil (.two .nil .nil)) (.two (.one .nil) .nil))))) (.two (.two .nil (.two (.two .nil .nil) .nil)) .nil)))))))))
noncomputable def code20 : Code := match Try.f20.body with | some c => c | none => .skip
theorem wp20 (a1 : Option Addr) (l1 : Nat) (c1 : Nat) (a2 : Option Addr) (l2 : Nat) (c2 : Nat) (K : Option Addr → Nat → Nat → Int → World → Prop) (w : World) : WP Try.prog tab code20 ann20 (fnQ tab Try.f20.results.toList [(.one .slice), (.one (.int .i64))] K) (argE 0 [(.slice a1 l1 c1), (.slice a2 l2 c2)]) w = N20 a1 l1 c1 a2 l2 c2 K w := by kernel_rfl
theorem calls20 (a1 : Option Addr) (l1 : Nat) (c1 : Nat) (a2 : Option Addr) (l2 : Nat) (c2 : Nat) (K : Option Addr → Nat → Nat → Int → World → Prop) (w : World) (h : N20 a1 l1 c1 a2 l2 c2 K w) : Calls Try.prog 20 #[(.slice a1 l1 c1), (.slice a2 l2 c2)] w fun en w' => ∃ (a35 : Option Addr), ∃ (l35 : Nat), ∃ (c35 : Nat), ∃ (x36 : Int), en = .returned (.tuple #[(.slice a35 l35 c35), (.int .i64 x36)]) ∧ K a35 l35 c35 x36 w' :=
  have e : (fun en w' => ExShs [(.one .slice), (.one (.int .i64))] fun vs => en = .returned (tupled vs) ∧ ap [(.one .slice), (.one (.int .i64))] K vs fun p => p w') = (fun (en : Ending) (w' : World) => ∃ (a35 : Option Addr), ∃ (l35 : Nat), ∃ (c35 : Nat), ∃ (x36 : Int), en = .returned (.tuple #[(.slice a35 l35 c35), (.int .i64 x36)]) ∧ K a35 l35 c35 x36 w') := by kernel_rfl
  e ▸ fn_sound tabOk mixed Try.func20 (by kernel_rfl : Try.f20.body = some code20) ann20 [(.slice a1 l1 c1), (.slice a2 l2 c2)] [(.one .slice), (.one (.int .i64))] K w (by kernel_rfl) ((wp20 a1 l1 c1 a2 l2 c2 K w).symm ▸ h)
end Go.Proofs.Ytggfnakhmjkoeaa

namespace Go.Proofs.Ytggfnakhmjkoeaa
open Go Go.V Go.Proofs
open Go.RowKit (Below)
/-! manystrand/domain.Stable -/
def N21 (a1 : Option Addr) (l1 : Nat) (c1 : Nat) (a2 : Option Addr) (l2 : Nat) (c2 : Nat) (K : Bool → World → Prop) (w : World) : Prop :=
  Calls Try.prog 56 #[(.slice a1 l1 c1), (.slice a2 l2 c2)] w fun e5 w4 =>
  ∃ (p3 : Bool), e5 = .returned (.bool p3) ∧
  (BoolK (!p3)
    (K false w4)
    (Calls Try.prog 58 #[(.slice a2 l2 c2)] w4 fun e8 w7 =>
      ∃ (p6 : Bool), e8 = .returned (.bool p6) ∧
      (BoolK p6
        (K false w7)
        (∃ (I9 : Int → World → Prop) (μ10 : Int → World → Nat),
          (I9 0 w7 ∧ True) ∧
          ∀ (w11 : World) (x12 : Int), I9 x12 w11 →
          BoolK (decide ((x12 : Int) < (l1 : Nat)))
          ((0 ≤ (x12 : Int) ∧ (x12 : Int) < (l1 : Nat)) ∧
            AddrK a1 fun b13 =>
            ∃ (s14 : ByteArray), w11.cell? ((b13.add ((x12 : Int).toNat * 4)).add 0) = some (.string s14) ∧
            (∃ (a15 : Option Addr) (l15 : Nat) (c15 : Nat), w11.cell? ((b13.add ((x12 : Int).toNat * 4)).add 1) = some (.slice a15 l15 c15) ∧
              (∃ (a16 : Option Addr) (l16 : Nat) (c16 : Nat), w11.cell? ((b13.add ((x12 : Int).toNat * 4)).add 2) = some (.slice a16 l16 c16) ∧
                (∃ (x17 : Int), w11.cell? ((b13.add ((x12 : Int).toNat * 4)).add 3) = some (.int .i64 x17) ∧
                  (AllocK w11 (#[.string ⟨#[]⟩, .slice none 0 0, .slice none 0 0, .int .i64 0]) 24 fun b18 w19 =>
                    SetK w19 (b18.add 0) (.string s14) fun w20 =>
                    SetK w20 (b18.add 1) (.slice a15 l15 c15) fun w21 =>
                    SetK w21 (b18.add 2) (.slice a16 l16 c16) fun w22 =>
                    SetK w22 (b18.add 3) (.int .i64 x17) fun w23 =>
                    ∃ (s24 : ByteArray), w23.cell? (b18.add 0) = some (.string s24) ∧
                    (∃ (a25 : Option Addr) (l25 : Nat) (c25 : Nat), w23.cell? (b18.add 1) = some (.slice a25 l25 c25) ∧
                      (∃ (a26 : Option Addr) (l26 : Nat) (c26 : Nat), w23.cell? (b18.add 2) = some (.slice a26 l26 c26) ∧
                        (∃ (x27 : Int), w23.cell? (b18.add 3) = some (.int .i64 x27) ∧
                          (Calls Try.prog 51 #[(.agg #[(.string s24), (.slice a25 l25 c25), (.slice a26 l26 c26), (.int .i64 x27)]), (.slice a2 l2 c2)] w23 fun e31 w30 =>
                            ∃ (a28 : Option Addr), ∃ (l28 : Nat), ∃ (c28 : Nat), ∃ (p29 : Bool), e31 = .returned (.tuple #[(.slice a28 l28 c28), (.bool p29)]) ∧
                            (BoolK p29
                              (K false w30)
                              (I9 (IntKind.wrap .i64 (x12 + 1)) w30 ∧ μ10 (IntKind.wrap .i64 (x12 + 1)) w30 < μ10 x12 w11)))))))))))
          (K true w11)))))
def ann21 : Ann := (.two .nil (.two (.two .nil (.two (.two .nil .nil) .nil)) (.two (.two .nil (.one (.loop [(19, (.one (.int .i64)))] [1, 17, 18] (.two .nil (.two (.two .nil .nil) (.two (.one (.two .nil (.two .nil (.two .nil (.two (.two .nil .nil) .nil))))) .nil)))))) (.two .nil .nil))))
noncomputable def code21 : Code := match Try.f21.body with | some c => c | none => .skip
theorem wp21 (a1 : Option Addr) (l1 : Nat) (c1 : Nat) (a2 : Option Addr) (l2 : Nat) (c2 : Nat) (K : Bool → World → Prop) (w : World) : WP Try.prog tab code21 ann21 (fnQ tab Try.f21.results.toList [(.one .bool)] K) (argE 0 [(.slice a1 l1 c1), (.slice a2 l2 c2)]) w = N21 a1 l1 c1 a2 l2 c2 K w := by kernel_rfl
theorem calls21 (a1 : Option Addr) (l1 : Nat) (c1 : Nat) (a2 : Option Addr) (l2 : Nat) (c2 : Nat) (K : Bool → World → Prop) (w : World) (h : N21 a1 l1 c1 a2 l2 c2 K w) : Calls Try.prog 21 #[(.slice a1 l1 c1), (.slice a2 l2 c2)] w fun en w' => ∃ (p32 : Bool), en = .returned (.bool p32) ∧ K p32 w' :=
  have e : (fun en w' => ExShs [(.one .bool)] fun vs => en = .returned (tupled vs) ∧ ap [(.one .bool)] K vs fun p => p w') = (fun (en : Ending) (w' : World) => ∃ (p32 : Bool), en = .returned (.bool p32) ∧ K p32 w') := by kernel_rfl
  e ▸ fn_sound tabOk mixed Try.func21 (by kernel_rfl : Try.f21.body = some code21) ann21 [(.slice a1 l1 c1), (.slice a2 l2 c2)] [(.one .bool)] K w (by kernel_rfl) ((wp21 a1 l1 c1 a2 l2 c2 K w).symm ▸ h)
end Go.Proofs.Ytggfnakhmjkoeaa

namespace Go.Proofs.Ytggfnakhmjkoeaa
open Go Go.V Go.Proofs
open Go.RowKit (Below)
/-! manystrand/manystrandref06.Stable -/
def N22 (a1 : Option Addr) (l1 : Nat) (c1 : Nat) (a2 : Option Addr) (l2 : Nat) (c2 : Nat) (K : Bool → World → Prop) (w : World) : Prop :=
  Calls Try.prog 52 #[(.slice a2 l2 c2)] w fun e5 w4 =>
  ∃ (p3 : Bool), e5 = .returned (.bool p3) ∧
  (BoolK (!p3)
    (K false w4)
    (Calls Try.prog 59 #[(.slice a1 l1 c1), (.int .i64 (l2 : Nat))] w4 fun e8 w7 =>
      ∃ (p6 : Bool), e8 = .returned (.bool p6) ∧
      (BoolK (!p6)
        (K false w7)
        (Calls Try.prog 47 #[(.slice a2 l2 c2)] w7 fun e11 w10 =>
          ∃ (p9 : Bool), e11 = .returned (.bool p9) ∧
          (BoolK p9
            (K false w10)
            (∃ (I12 : Int → World → Prop) (μ13 : Int → World → Nat),
              (I12 0 w10 ∧ True) ∧
              ∀ (w14 : World) (x15 : Int), I12 x15 w14 →
              BoolK (decide ((x15 : Int) < (l1 : Nat)))
              ((0 ≤ (x15 : Int) ∧ (x15 : Int) < (l1 : Nat)) ∧
                AddrK a1 fun b16 =>
                ∃ (s17 : ByteArray), w14.cell? ((b16.add ((x15 : Int).toNat * 4)).add 0) = some (.string s17) ∧
                (∃ (a18 : Option Addr) (l18 : Nat) (c18 : Nat), w14.cell? ((b16.add ((x15 : Int).toNat * 4)).add 1) = some (.slice a18 l18 c18) ∧
                  (∃ (a19 : Option Addr) (l19 : Nat) (c19 : Nat), w14.cell? ((b16.add ((x15 : Int).toNat * 4)).add 2) = some (.slice a19 l19 c19) ∧
                    (∃ (x20 : Int), w14.cell? ((b16.add ((x15 : Int).toNat * 4)).add 3) = some (.int .i64 x20) ∧
                      (Calls Try.prog 54 #[(.agg #[(.string s17), (.slice a18 l18 c18), (.slice a19 l19 c19), (.int .i64 x20)]), (.slice a2 l2 c2)] w14 fun e23 w22 =>
                        ∃ (a21 : Option Addr), ∃ (l21 : Nat), ∃ (c21 : Nat), e23 = .returned (.slice a21 l21 c21) ∧
                        (Calls Try.prog 15 #[(.slice a2 l2 c2), (.slice a21 l21 c21)] w22 fun e26 w25 =>
                          ∃ (p24 : Bool), e26 = .returned (.bool p24) ∧
                          (BoolK (!p24)
                            (K false w25)
                            (I12 (IntKind.wrap .i64 (x15 + 1)) w25 ∧ μ13 (IntKind.wrap .i64 (x15 + 1)) w25 < μ13 x15 w14))))))))
              (K true w14)))))))
def ann22 : Ann := (.two .nil (.two (.two .nil (.two (.two .nil .nil) .nil)) (.two (.two .nil (.one (.loop [(5, (.one (.int .i64)))] [0, 1] (.two (.two .nil (.two .nil .nil)) (.two (.one (.two .nil (.two (.two .nil .nil) .nil))) .nil))))) (.two .nil .nil))))
noncomputable def code22 : Code := match Try.f22.body with | some c => c | none => .skip
theorem wp22 (a1 : Option Addr) (l1 : Nat) (c1 : Nat) (a2 : Option Addr) (l2 : Nat) (c2 : Nat) (K : Bool → World → Prop) (w : World) : WP Try.prog tab code22 ann22 (fnQ tab Try.f22.results.toList [(.one .bool)] K) (argE 0 [(.slice a1 l1 c1), (.slice a2 l2 c2)]) w = N22 a1 l1 c1 a2 l2 c2 K w := by kernel_rfl
theorem calls22 (a1 : Option Addr) (l1 : Nat) (c1 : Nat) (a2 : Option Addr) (l2 : Nat) (c2 : Nat) (K : Bool → World → Prop) (w : World) (h : N22 a1 l1 c1 a2 l2 c2 K w) : Calls Try.prog 22 #[(.slice a1 l1 c1), (.slice a2 l2 c2)] w fun en w' => ∃ (p27 : Bool), en = .returned (.bool p27) ∧ K p27 w' :=
  have e : (fun en w' => ExShs [(.one .bool)] fun vs => en = .returned (tupled vs) ∧ ap [(.one .bool)] K vs fun p => p w') = (fun (en : Ending) (w' : World) => ∃ (p27 : Bool), en = .returned (.bool p27) ∧ K p27 w') := by kernel_rfl
  e ▸ fn_sound tabOk mixed Try.func22 (by kernel_rfl : Try.f22.body = some code22) ann22 [(.slice a1 l1 c1), (.slice a2 l2 c2)] [(.one .bool)] K w (by kernel_rfl) ((wp22 a1 l1 c1 a2 l2 c2 K w).symm ▸ h)
end Go.Proofs.Ytggfnakhmjkoeaa

namespace Go.Proofs.Ytggfnakhmjkoeaa
open Go Go.V Go.Proofs
open Go.RowKit (Below)

theorem c47 (w : World) (a : Option Addr) (l c : Nat) (ds : List Dm) (h : Doms w a l ds) (hl : ds.length ≤ 9223372036854775807) :
    Calls Try.prog 47 #[.slice a l c] w fun en w' => ∃ p, en = .returned (.bool p) ∧ (p = failedB ds ∧ Ext w w') := by
  refine calls47 a l c _ w ?_
  have e1 := h.1
  refine ⟨fun i w' => ∃ k : Nat, i = k ∧ k ≤ ds.length ∧ (ds.take k).any (fun d => decide (d = [])) = false ∧ Ext w w', fun i _ => ds.length - i.toNat, ⟨⟨0, rfl, by omega, rfl, Ext.refl w⟩, trivial⟩, ?_⟩
  rintro w4 i ⟨k, rfl, hk, hv, hB⟩
  refine BoolK.mk (fun hlt => ?_) (fun hge => ?_)
  · have hlt : k < ds.length := by simp at hlt; omega
    obtain ⟨b1, o1, a1, l1, c1, rfl, h0, h1⟩ := domsAt h w4 hB hlt
    have hl1 := h1.1
    refine ⟨by omega, ?_⟩
    simp only [AddrK, Int.toNat_natCast, add_mk, Nat.mul_one]
    refine ⟨_, _, _, h0, BoolK.mk (fun t => ?_) (fun t => ?_)⟩
    · have he : ds[k] = [] := by apply List.length_eq_zero_iff.1; simp at t; omega
      exact ⟨(any_true (p := fun d => decide (d = [])) hlt (by rw [he]; rfl)).symm, hB⟩
    · have he : ds[k] ≠ [] := fun e => by rw [e] at hl1; simp at t; simp at hl1; omega
      rw [wrap_succ (by omega)]
      exact ⟨⟨k + 1, rfl, by omega, by rw [any_take hlt, hv, decide_eq_false he]; rfl, hB⟩, by simp; omega⟩
  · have : k = ds.length := by simp at hge; omega
    subst this
    rw [List.take_length] at hv
    exact ⟨hv.symm, hB⟩

def vpropsB (ps : List PropS) (n : Int) : Bool := (ps.all fun p => propB p n) && decide (ps.length ≤ 100)
theorem usable_split (ps : List PropS) (ls : List Dm) : usableB ps ls = (allVB ls && vpropsB ps ls.length) := by
  rw [usableB, vpropsB]; congr 1; exact Bool.and_comm _ _

theorem c59 (w : World) (a : Option Addr) (l c : Nat) (ps : List PropS) (hp : Props w a l ps) (n : Int) (hlp : ps.length ≤ 9223372036854775807) :
    Calls Try.prog 59 #[.slice a l c, .int .i64 n] w fun en w' => ∃ p, en = .returned (.bool p) ∧ (p = vpropsB ps n ∧ Ext w w') := by
  refine calls59 _ _ _ _ _ w ?_
  have e1 := hp.1
  refine ⟨fun i w' => ∃ k : Nat, i = k ∧ k ≤ ps.length ∧ (ps.take k).all (fun p => propB p n) = true ∧ Ext w w', fun i _ => ps.length - i.toNat, ⟨⟨0, rfl, by omega, rfl, Ext.refl _⟩, trivial⟩, ?_⟩
  rintro w8 i ⟨k, rfl, hk, hv, hB⟩
  refine BoolK.mk (fun hlt => ?_) (fun hge => ?_)
  · have hlt : k < ps.length := by simp at hlt; omega
    obtain ⟨b1, o1, s, a2', l2', c2', a3, l3, c3, x4, rfl, h0, h1, h2, h3, hP⟩ := propAt hp w8 hB hlt
    refine ⟨by omega, ?_⟩
    simp only [AddrK, Int.toNat_natCast, add_mk, Nat.add_zero]
    refine ⟨_, h0, _, _, _, h1, _, _, _, h2, _, h3, ?_⟩
    refine (c17 w8 _ _ _ _ _ _ _ _ n _ hP).mono ?_
    rintro en w26 ⟨q, rfl, rfl, hx26⟩
    refine ⟨_, rfl, BoolK.mk (fun t => ?_) (fun t => ?_)⟩
    · simp at t; exact ⟨by rw [vpropsB, all_false (p := fun p => propB p n) hlt t]; rfl, hB.trans hx26⟩
    · simp at t
      rw [wrap_succ (by omega)]
      exact ⟨⟨k + 1, rfl, by omega, by rw [all_take hlt, hv, t]; rfl, hB.trans hx26⟩, by simp; omega⟩
  · have : k = ps.length := by simp at hge; omega
    subst this
    rw [List.take_length] at hv
    refine ⟨?_, hB⟩
    rw [vpropsB, hv, Bool.true_and, decide_eq_decide, e1]; omega

/-! ### One round -/
noncomputable def kall (ps : List PropS) (l : List Dm) : List Dm := ps.foldl (fun l p => keepS p l) l
theorem kall_vd : ∀ (ps : List PropS) {l : List Dm}, VDs l → VDs (kall ps l)
  | [], _, h => h
  | p :: ps, _, h => kall_vd ps (keepS_vd p h)
theorem kall_len : ∀ (ps : List PropS) (l : List Dm), (kall ps l).length = l.length
  | [], _ => rfl
  | p :: ps, l => (kall_len ps (keepS p l)).trans (keepS_len p l)
theorem kall_sub : ∀ (ps : List PropS) {l : List Dm}, VDs l → (∀ p ∈ ps, propB p l.length = true) → Sub (kall ps l) l
  | [], _, _, _ => Sub.refl _
  | p :: ps, l, h, hp => (kall_sub ps (keepS_vd p h) (fun q hq => by rw [keepS_len]; exact hp q (List.mem_cons_of_mem _ hq))).trans
      fun _ _ hh => keep_sub p l h (varsOk_of (hp p List.mem_cons_self)) hh
theorem kall_fix : ∀ (ps : List PropS) {l : List Dm}, VDs l → (∀ p ∈ ps, propB p l.length = true) → kall ps l = l → ∀ p ∈ ps, keepS p l = l
  | [], _, _, _, _ => by simp
  | p :: ps, l, h, hp, e => by
    have hp' : ∀ q ∈ ps, propB q (keepS p l).length = true := fun q hq => by rw [keepS_len]; exact hp q (List.mem_cons_of_mem _ hq)
    have s1 : Sub l (keepS p l) := by
      have := kall_sub ps (keepS_vd p h) hp'
      rw [show kall ps (keepS p l) = l from e] at this; exact this
    have hk : keepS p l = l := doms_ext (keepS_vd p h) h (keepS_len p l) fun x v => ⟨fun hh => keep_sub p l h (varsOk_of (hp p List.mem_cons_self)) hh, fun hh => s1 x v hh⟩
    intro q hq
    rcases List.mem_cons.1 hq with rfl | hq
    · exact hk
    · refine kall_fix ps h (fun q hq => hp q (List.mem_cons_of_mem _ hq)) ?_ q hq
      have : kall ps (keepS p l) = l := e
      rwa [hk] at this
theorem kall_keep : ∀ (ps : List PropS) {l z : List Dm}, VDs l → (∀ p ∈ ps, propB p l.length = true) → FixP ps z → z.length = l.length → Sub z l → Sub z (kall ps l)
  | [], _, _, _, _, _, _, hs => hs
  | p :: ps, l, z, h, hp, hz, hl, hs => by
    refine kall_keep ps (keepS_vd p h) (fun q hq => by rw [keepS_len]; exact hp q (List.mem_cons_of_mem _ hq)) ⟨hz.vd, fun q hq => hz.keep q (List.mem_cons_of_mem _ hq), hz.ok⟩ (by rw [keepS_len]; exact hl) ?_
    have := keep_mono p hz.vd h hl (by rw [hl]; exact hp p List.mem_cons_self) hs
    rwa [hz.keep p List.mem_cons_self] at this
theorem kall_siz {ps : List PropS} {l : List Dm} (h : VDs l) (hp : ∀ p ∈ ps, propB p l.length = true) (hne : kall ps l ≠ l) : siz (kall ps l) < siz l := by
  have hs := kall_sub ps h hp
  have h1 := siz_le (kall_len ps l) hs
  rcases Nat.lt_or_ge (siz (kall ps l)) (siz l) with hh | hh
  · exact hh
  · exact absurd (siz_eq (kall_vd ps h) h (kall_len ps l) hs hh) hne

/-- r is the greatest fixpoint below l, or there is none -/
structure Gr (ps : List PropS) (l : List Dm) (r : Option (List Dm)) : Prop where
  fix : ∀ m, r = some m → FixP ps m ∧ m.length = l.length ∧ Sub m l
  top : ∀ z, FixP ps z → z.length = l.length → Sub z l → ∃ m, r = some m ∧ Sub z m
theorem Gr.uniq {ps : List PropS} {l : List Dm} {r s : Option (List Dm)} (h : Gr ps l r) (k : Gr ps l s) : r = s := by
  cases r with
  | none =>
    cases s with
    | none => rfl
    | some m =>
      obtain ⟨h1, h2, h3⟩ := k.fix m rfl
      obtain ⟨_, hh, _⟩ := h.top m h1 h2 h3; cases hh
  | some m =>
    obtain ⟨h1, h2, h3⟩ := h.fix m rfl
    obtain ⟨m', e, h4⟩ := k.top m h1 h2 h3
    subst e
    obtain ⟨k1, k2, k3⟩ := k.fix m' rfl
    obtain ⟨m2, e2, h5⟩ := h.top m' k1 k2 k3
    cases e2
    rw [doms_ext h1.vd k1.vd (h2.trans k2.symm) fun x v => ⟨fun hh => h4 x v hh, fun hh => h5 x v hh⟩]
theorem FixP.perm {ps qs : List PropS} {z : List Dm} (h : FixP ps z) (hs : ∀ p, p ∈ qs → p ∈ ps) : FixP qs z := ⟨h.vd, fun p hp => h.keep p (hs p hp), h.ok⟩
theorem Gr.perm {ps qs : List PropS} {l : List Dm} {r : Option (List Dm)} (h : Gr ps l r) (hs : ∀ p, p ∈ qs ↔ p ∈ ps) : Gr qs l r :=
  ⟨fun m hm => by obtain ⟨h1, h2⟩ := h.fix m hm; exact ⟨h1.perm fun p hp => (hs p).1 hp, h2⟩, fun z hz => h.top z (hz.perm fun p hp => (hs p).2 hp)⟩

/-- what both answer -/
def GrRes (ps : List PropS) (ls : List Dm) (w' : World) (a : Option Addr) (l : Nat) (e : Int) : Prop :=
  (usableB ps ls = false ∧ a = none ∧ l = 0 ∧ e = 2) ∨
  (usableB ps ls = true ∧ ∃ r, Gr ps ls r ∧ ((r = none ∧ a = none ∧ l = 0 ∧ e = 60) ∨ ∃ m, r = some m ∧ VDs m ∧ m.length = ls.length ∧ e = 0 ∧ Doms w' a l m))
theorem FixRes.gr {ps : List PropS} {ls : List Dm} {base : Nat} {w' : World} {a : Option Addr} {l c : Nat} {e : Int} (h : FixRes ps ls base w' a l c e) : GrRes ps ls w' a l e := by
  rcases h with h | ⟨hu, r, hr, h⟩
  · exact .inl h
  · obtain ⟨h1, h2⟩ := usable_props hu
    obtain ⟨k1, k2⟩ := fix_sound hr h1 h2
    refine .inr ⟨hu, r, ⟨k1, k2⟩, h.imp id ?_⟩
    rintro ⟨m, e1, e2, e3, e4, e5⟩
    exact ⟨m, e1, e2, e3, e4, e5.doms⟩

theorem c20 (w : World) (a : Option Addr) (l c : Nat) (ps : List PropS) (hp : Props w a l ps) (a2 : Option Addr) (l2 c2 : Nat) (ls : List Dm) (h : Doms w a2 l2 ls) (hl : ls.length ≤ 9223372036854775807) (hs : ∀ d ∈ ls, Sm d) (hlp : ps.length ≤ 9223372036854775807) :
    Calls Try.prog 20 #[.slice a l c, .slice a2 l2 c2] w fun en w' => ∃ a' l' c' e, en = .returned (.tuple #[.slice a' l' c', .int .i64 e]) ∧ (GrRes ps ls w' a' l' e ∧ Ext w w') := by
  refine calls20 _ _ _ _ _ _ _ w ?_
  have e2 := h.1
  have ep := hp.1
  refine (c52 w a2 l2 c2 ls h hl hs).mono ?_
  rintro en w4 ⟨q, rfl, rfl, hx4⟩
  refine ⟨_, rfl, BoolK.mk (fun t => ?_) (fun t => ?_)⟩
  · simp at t; exact ⟨.inl ⟨by rw [usable_split, t]; rfl, rfl, rfl, rfl⟩, hx4⟩
  simp at t
  rw [e2]
  refine (c59 w4 a l c ps (hp.ext RProp.mono hx4) _ hlp).mono ?_
  rintro en w7 ⟨q, rfl, rfl, hx7⟩
  have hx7' := hx4.trans hx7
  refine ⟨_, rfl, BoolK.mk (fun t2 => ?_) (fun t2 => ?_)⟩
  · simp at t2; exact ⟨.inl ⟨by rw [usable_split, t, t2]; rfl, rfl, rfl, rfl⟩, hx7'⟩
  simp at t2
  have hu : usableB ps ls = true := by rw [usable_split, t, t2]; rfl
  obtain ⟨hVD, hpr⟩ := usable_props hu
  refine ⟨fun a l c w' => ∃ m, Doms w' a l m ∧ VDs m ∧ m.length = ls.length ∧ Sub m ls ∧ (∀ z, FixP ps z → z.length = ls.length → Sub z ls → Sub z m) ∧ Ext w w', fun a l _ w' => meas w' a l false,
    ⟨⟨ls, by rw [← e2]; exact h.ext (RSl.mono RPair.mono) hx7', hVD, rfl, Sub.refl _, fun _ _ _ hh => hh, hx7'⟩, trivial⟩, ?_⟩
  rintro w11 a12 l12 c12 ⟨m, hm, hV, hL, hS, hT, hB⟩
  have em := hm.1
  refine (c47 w11 a12 l12 c12 m hm (by omega)).mono ?_
  rintro en w14 ⟨q, rfl, rfl, hx14⟩
  have hB14 := hB.trans hx14
  refine ⟨_, rfl, BoolK.mk (fun t3 => ?_) (fun t3 => ?_)⟩
  · refine ⟨.inr ⟨hu, none, ⟨(fun m hm => by cases hm), fun z hz hzl hzs => ?_⟩, .inl ⟨rfl, rfl, rfl, rfl⟩⟩, hB14⟩
    have := failed_sub hz.vd (hzl.trans hL.symm) (hT z hz hzl hzs) t3
    rw [hz.ok] at this; cases this
  have hm14 := hm.ext (RSl.mono RPair.mono) hx14
  refine ⟨fun a l c x w' => ∃ j : Nat, x = j ∧ j ≤ ps.length ∧ Doms w' a l (kall (ps.take j) m) ∧ Ext w14 w', fun _ _ _ x _ => ps.length - x.toNat, ⟨⟨0, rfl, by omega, hm14, Ext.refl _⟩, trivial⟩, ?_⟩
  rintro w18 a19 l19 c19 _ ⟨j, rfl, hj, hD, hx18⟩
  have hB18 := hB14.trans hx18
  have hpr' : ∀ p ∈ ps.take j, propB p m.length = true := fun p hp => by rw [hL]; exact hpr p (List.mem_of_mem_take hp)
  refine BoolK.mk (fun hlt => ?_) (fun hge => ?_)
  · have hlt : j < ps.length := by simp at hlt; omega
    obtain ⟨b1, o1, s, a2', l2', c2', a3, l3, c3, x4, rfl, h0, h1, h2, h3, hP⟩ := propAt hp w18 hB18 hlt
    refine ⟨by omega, ?_⟩
    simp only [AddrK, Int.toNat_natCast, add_mk, Nat.add_zero]
    refine ⟨_, h0, _, _, _, h1, _, _, _, h2, _, h3, ?_⟩
    refine (c54 w18 _ _ _ _ _ _ _ _ _ hP a19 l19 c19 _ hD (kall_vd _ hV) (by rw [kall_len, hL]; exact hpr _ (List.getElem_mem hlt))).mono ?_
    rintro en w27 ⟨a26, l26, c26, rfl, hD', hx27⟩
    refine ⟨_, _, _, rfl, ?_⟩
    rw [wrap_succ (by omega)]
    refine ⟨⟨j + 1, rfl, by omega, ?_, hx18.trans hx27⟩, by simp; omega⟩
    have e1 : ps.take (j + 1) = ps.take j ++ [ps[j]] := by rw [List.take_add_one, List.getElem?_eq_getElem hlt]; rfl
    rw [e1, kall, List.foldl_append]; exact hD'
  · have : j = ps.length := by simp at hge; omega
    subst this
    rw [List.take_length] at hD hpr'
    refine (c15 w18 _ _ _ _ _ _ _ _ (hm14.ext (RSl.mono RPair.mono) hx18) hD (by omega) (fun d hd => by have := (hV d hd).len; omega)).mono ?_
    rintro en w30 ⟨q, rfl, rfl, hx30⟩
    have hB30 := hB18.trans hx30
    refine ⟨_, rfl, BoolK.mk (fun t4 => ?_) (fun t4 => ?_)⟩
    · have t4 := (of_decide_eq_true t4).symm
      refine (c53 w30 a12 l12 c12 m (hm14.ext (RSl.mono RPair.mono) (hx18.trans hx30)) (by have := (allVB_of t).2; omega) (fun d hd => by have := (hV d hd).len; omega)).mono ?_
      rintro en w33 ⟨a32, l32, c32, rfl, hD', hx33⟩
      refine ⟨_, _, _, rfl, .inr ⟨hu, some m, ⟨fun m' hm' => ?_, fun z hz hzl hzs => ⟨m, rfl, hT z hz hzl hzs⟩⟩, .inr ⟨m, rfl, hV, hL, rfl, hD'.doms⟩⟩, hB30.trans hx33⟩
      cases hm'
      exact ⟨⟨hV, kall_fix ps hV hpr' t4, t3⟩, hL, hS⟩
    · have t4 : kall ps m ≠ m := fun e => of_decide_eq_false t4 e.symm
      have hD30 := hD.ext (RSl.mono RPair.mono) hx30
      refine ⟨⟨kall ps m, hD30, kall_vd ps hV, (kall_len ps m).trans hL, (kall_sub ps hV hpr').trans hS, fun z hz hzl hzs => kall_keep ps hV hpr' hz (hzl.trans hL.symm) (hT z hz hzl hzs), hB30⟩, ?_⟩
      show meas w30 a19 l19 false < meas w11 a12 l12 false
      rw [meas_eq hD30, meas_eq hm]
      have := kall_siz hV hpr' t4
      simp; omega

/-! ### Stable -/
noncomputable def stableB (ps : List PropS) (ls : List Dm) : Bool := usableB ps ls && (!failedB ls && ps.all fun p => decide (keepS p ls = ls))
theorem c21 (w : World) (a : Option Addr) (l c : Nat) (ps : List PropS) (hp : Props w a l ps) (a2 : Option Addr) (l2 c2 : Nat) (ls : List Dm) (h : Doms w a2 l2 ls) (hl : ls.length ≤ 9223372036854775807) (hs : ∀ d ∈ ls, Sm d) :
    Calls Try.prog 21 #[.slice a l c, .slice a2 l2 c2] w fun en w' => ∃ p, en = .returned (.bool p) ∧ (p = stableB ps ls ∧ Ext w w') := by
  refine calls21 _ _ _ _ _ _ _ w ?_
  have e1 := h.1
  have ep := hp.1
  refine (c56 w a l c ps hp a2 l2 c2 ls h hl hs).mono ?_
  rintro en w4 ⟨q, rfl, rfl, hx4⟩
  refine ⟨_, rfl, BoolK.mk (fun t => ?_) (fun t => ?_)⟩
  · simp at t; exact ⟨by rw [stableB, t]; rfl, hx4⟩
  simp at t
  obtain ⟨hVD, hpr⟩ := usable_props t
  have h100 : ps.length ≤ 100 := by simp only [usableB, Bool.and_eq_true, decide_eq_true_eq] at t; exact t.2.1
  refine (c58 w4 a2 l2 c2 ls (h.ext (RSl.mono RPair.mono) hx4) hl).mono ?_
  rintro en w7 ⟨q, rfl, rfl, hx7⟩
  have hx7' := hx4.trans hx7
  refine ⟨_, rfl, BoolK.mk (fun t2 => ?_) (fun t2 => ?_)⟩
  · exact ⟨by rw [stableB, t, t2]; rfl, hx7'⟩
  have hst : stableB ps ls = ps.all fun p => decide (keepS p ls = ls) := by rw [stableB, t, t2]; rfl
  rw [hst]
  refine ⟨fun i w' => ∃ k : Nat, i = k ∧ k ≤ ps.length ∧ (ps.take k).all (fun p => decide (keepS p ls = ls)) = true ∧ Ext w w', fun i _ => ps.length - i.toNat, ⟨⟨0, rfl, by omega, rfl, hx7'⟩, trivial⟩, ?_⟩
  rintro w11 i ⟨k, rfl, hk, hv, hB⟩
  refine BoolK.mk (fun hlt => ?_) (fun hge => ?_)
  · have hlt : k < ps.length := by simp at hlt; omega
    obtain ⟨b1, o1, s, a2', l2', c2', a3, l3, c3, x4, rfl, h0, h1, h2, h3, hP⟩ := propAt hp w11 hB hlt
    refine ⟨by omega, ?_⟩
    simp only [AddrK, Int.toNat_natCast, add_mk, Nat.add_zero]
    refine ⟨_, h0, _, _, _, h1, _, _, _, h2, _, h3, ?_⟩
    refine local4 (fun b w23 hb hblk hx => ?_)
    obtain ⟨g0, g1, g2, g3⟩ := cell4 hblk
    simp only [add_mk, Nat.zero_add]
    refine ⟨_, g0, _, _, _, g1, _, _, _, g2, _, g3, ?_⟩
    have hB23 := hB.trans hx
    have hpk := hpr _ (List.getElem_mem hlt)
    refine (c51 w23 _ _ _ _ _ _ _ _ _ (hP.ext hx) a2 l2 c2 ls (h.ext (RSl.mono RPair.mono) hB23) hVD hpk).mono ?_
    rintro en w30 ⟨a28, l28, c28, q, rfl, _, rfl, hx30⟩
    have hB30 := hB23.trans hx30
    have hiff := less_iff ps[k] ls hVD (varsOk_of hpk)
    refine ⟨_, _, _, _, rfl, BoolK.mk (fun t3 => ?_) (fun t3 => ?_)⟩
    · exact ⟨(all_false (p := fun p => decide (keepS p ls = ls)) hlt (decide_eq_false (hiff.1 t3))).symm, hB30⟩
    · have hk' : keepS ps[k] ls = ls := Classical.byContradiction fun hne => by rw [hiff.2 hne] at t3; cases t3
      rw [wrap_succ (by omega)]
      exact ⟨⟨k + 1, rfl, by omega, by rw [all_take hlt, hv, decide_eq_true hk']; rfl, hB30⟩, by simp; omega⟩
  · have : k = ps.length := by simp at hge; omega
    subst this
    rw [List.take_length] at hv
    exact ⟨hv.symm, hB⟩

theorem c22 (w : World) (a : Option Addr) (l c : Nat) (ps : List PropS) (hp : Props w a l ps) (a2 : Option Addr) (l2 c2 : Nat) (ls : List Dm) (h : Doms w a2 l2 ls) (hl : ls.length ≤ 9223372036854775807) (hs : ∀ d ∈ ls, Sm d) (hlp : ps.length ≤ 9223372036854775807) :
    Calls Try.prog 22 #[.slice a l c, .slice a2 l2 c2] w fun en w' => ∃ p, en = .returned (.bool p) ∧ (p = stableB ps ls ∧ Ext w w') := by
  refine calls22 _ _ _ _ _ _ _ w ?_
  have e1 := h.1
  have ep := hp.1
  refine (c52 w a2 l2 c2 ls h hl hs).mono ?_
  rintro en w4 ⟨q, rfl, rfl, hx4⟩
  refine ⟨_, rfl, BoolK.mk (fun t => ?_) (fun t => ?_)⟩
  · simp at t; exact ⟨by rw [stableB, usable_split, t]; rfl, hx4⟩
  simp at t
  rw [e1]
  refine (c59 w4 a l c ps (hp.ext RProp.mono hx4) _ hlp).mono ?_
  rintro en w7 ⟨q, rfl, rfl, hx7⟩
  have hx7' := hx4.trans hx7
  refine ⟨_, rfl, BoolK.mk (fun t2 => ?_) (fun t2 => ?_)⟩
  · simp at t2; exact ⟨by rw [stableB, usable_split, t, t2]; rfl, hx7'⟩
  simp at t2
  have hu : usableB ps ls = true := by rw [usable_split, t, t2]; rfl
  obtain ⟨hVD, hpr⟩ := usable_props hu
  rw [← e1]
  refine (c47 w7 a2 l2 c2 ls (h.ext (RSl.mono RPair.mono) hx7') hl).mono ?_
  rintro en w10 ⟨q, rfl, rfl, hx10⟩
  have hx10' := hx7'.trans hx10
  refine ⟨_, rfl, BoolK.mk (fun t3 => ?_) (fun t3 => ?_)⟩
  · exact ⟨by rw [stableB, hu, t3]; rfl, hx10'⟩
  have hst : stableB ps ls = ps.all fun p => decide (keepS p ls = ls) := by rw [stableB, hu, t3]; rfl
  rw [hst]
  refine ⟨fun i w' => ∃ k : Nat, i = k ∧ k ≤ ps.length ∧ (ps.take k).all (fun p => decide (keepS p ls = ls)) = true ∧ Ext w w', fun i _ => ps.length - i.toNat, ⟨⟨0, rfl, by omega, rfl, hx10'⟩, trivial⟩, ?_⟩
  rintro w14 i ⟨k, rfl, hk, hv, hB⟩
  refine BoolK.mk (fun hlt => ?_) (fun hge => ?_)
  · have hlt : k < ps.length := by simp at hlt; omega
    obtain ⟨b1, o1, s, a2', l2', c2', a3, l3, c3, x4, rfl, h0, h1, h2, h3, hP⟩ := propAt hp w14 hB hlt
    refine ⟨by omega, ?_⟩
    simp only [AddrK, Int.toNat_natCast, add_mk, Nat.add_zero]
    refine ⟨_, h0, _, _, _, h1, _, _, _, h2, _, h3, ?_⟩
    have hpk := hpr _ (List.getElem_mem hlt)
    refine (c54 w14 _ _ _ _ _ _ _ _ _ hP a2 l2 c2 ls (h.ext (RSl.mono RPair.mono) hB) hVD hpk).mono ?_
    rintro en w22 ⟨a21, l21, c21, rfl, hD, hx22⟩
    have hB22 := hB.trans hx22
    refine ⟨_, _, _, rfl, ?_⟩
    refine (c15 w22 _ _ _ _ _ _ _ _ (h.ext (RSl.mono RPair.mono) hB22) hD hl (fun d hd => by have := (hVD d hd).len; omega)).mono ?_
    rintro en w25 ⟨q, rfl, rfl, hx25⟩
    have hB25 := hB22.trans hx25
    refine ⟨_, rfl, BoolK.mk (fun t4 => ?_) (fun t4 => ?_)⟩
    · simp at t4
      exact ⟨(all_false (p := fun p => decide (keepS p ls = ls)) hlt (decide_eq_false fun e => t4 e.symm)).symm, hB25⟩
    · simp at t4
      rw [wrap_succ (by omega)]
      exact ⟨⟨k + 1, rfl, by omega, by rw [all_take hlt, hv, decide_eq_true t4.symm]; rfl, hB25⟩, by simp; omega⟩
  · have : k = ps.length := by simp at hge; omega
    subst this
    rw [List.take_length] at hv
    exact ⟨hv.symm, hB⟩
end Go.Proofs.Ytggfnakhmjkoeaa

namespace Go.Proofs.Ytggfnakhmjkoeaa
open Go Go.V Go.Proofs
open Go.RowKit (Below)

def sing (v : Int) : Dm := [(v, v)]
def singles (vs : List Int) : List Dm := vs.map sing
theorem mn_sing (v : Int) : mn (sing v) = v := by simp [mn, sing]
theorem mx_sing (v : Int) : mx (sing v) = v := by simp [mx, sing]
theorem one_sing (v u : Int) : oneB (sing v) u = decide (v = u) := by rw [oneB, mn_sing, mx_sing, Bool.and_self]
theorem in_sing (v u : Int) : inD (sing v) u = decide (u = v) := by
  rw [Bool.eq_iff_iff]
  simp only [inD, sing, List.any_cons, List.any_nil, Bool.or_false, inR, Bool.and_eq_true, decide_eq_true_eq]; omega
theorem singles_len (vs : List Int) : (singles vs).length = vs.length := by simp [singles]
theorem at_singles {vs : List Int} {j : Nat} (hj : j < vs.length) : at' (singles vs) j = sing (vs.getD j 0) := by
  rw [show at' (singles vs) j = (singles vs)[j]'(by rw [singles_len]; exact hj) from getD_get (by rw [singles_len]; exact hj) _, getD_get hj]
  simp [singles]
theorem low_sing (c xs : List Int) (i : Nat) : ∀ m, m ≤ xs.length → lowS c (singles xs) i m = dotS c xs m - (if i < m then c.getD i 0 * xs.getD i 0 else 0) ∧ highS c (singles xs) i m = dotS c xs m - (if i < m then c.getD i 0 * xs.getD i 0 else 0)
  | 0, _ => by simp [lowS, highS, dotS]
  | m + 1, hm => by
    have ih := low_sing c xs i m (by omega)
    rw [lowS, highS, dotS, ih.1, ih.2, at_singles (by omega), mn_sing, mx_sing, Int.min_self, Int.max_self]
    by_cases h : m = i
    · subst h; rw [if_pos rfl, if_neg (Nat.lt_irrefl m), if_pos (by omega)]; omega
    · rw [if_neg h]
      by_cases h2 : i < m
      · rw [if_pos h2, if_pos (by omega)]; omega
      · rw [if_neg h2, if_neg (by omega)]; omega

theorem pass_single (k : Kd) (c : List Int) (n : Int) (xs : List Int) (hk : kindB k xs.length c.length c n = true) :
    (∀ j, j < xs.length → passS k c n (singles xs) j (xs.getD j 0) = true) ↔ holdsK k c n xs = true := by
  have hl := singles_len xs
  cases k with
  | sum =>
    simp only [kindB, Bool.and_eq_true, decide_eq_true_eq] at hk
    simp only [passS, holdsK, Bool.and_eq_true, decide_eq_true_eq, hl]
    have key : ∀ j, j < xs.length → ((lowS c (singles xs) j xs.length ≤ n - c.getD j 0 * xs.getD j 0 ∧ n - c.getD j 0 * xs.getD j 0 ≤ highS c (singles xs) j xs.length) ↔ dotS c xs xs.length = n) := fun j hj => by
      have := low_sing c xs j xs.length (Nat.le_refl _)
      rw [this.1, this.2, if_pos hj]; omega
    exact ⟨fun h => (key 0 (by omega)).1 (h 0 (by omega)), fun h j hj => (key j hj).2 h⟩
  | most =>
    simp only [kindB, Bool.and_eq_true, decide_eq_true_eq] at hk
    simp only [passS, holdsK, decide_eq_true_eq, hl]
    have key : ∀ j, j < xs.length → (lowS c (singles xs) j xs.length ≤ n - c.getD j 0 * xs.getD j 0 ↔ dotS c xs xs.length ≤ n) := fun j hj => by
      have := low_sing c xs j xs.length (Nat.le_refl _)
      rw [this.1, if_pos hj]; omega
    exact ⟨fun h => (key 0 (by omega)).1 (h 0 (by omega)), fun h j hj => (key j hj).2 h⟩
  | unlike =>
    simp only [kindB, Bool.and_eq_true, decide_eq_true_eq] at hk
    simp only [passS, holdsK]
    rw [at_singles (by omega), at_singles (by omega), Bool.not_eq_true', decide_eq_false_iff_not]
    constructor
    · intro h
      have := h 0 (by omega)
      rw [if_pos rfl, one_sing, Bool.not_eq_true', decide_eq_false_iff_not] at this; omega
    · intro h j hj
      split
      · rename_i h0; subst h0; rw [one_sing, Bool.not_eq_true', decide_eq_false_iff_not]; omega
      · have : j = 1 := by omega
        subst this; rw [one_sing, Bool.not_eq_true', decide_eq_false_iff_not]; omega
  | distinct =>
    simp only [passS, holdsK, distB, List.all_eq_true, List.mem_range, Bool.or_eq_true, decide_eq_true_eq, Bool.not_eq_true', hl]
    have e : ∀ i, i < xs.length → at' (singles xs) i = sing (xs.getD i 0) := fun i hi => at_singles hi
    constructor
    · intro h i hi j hj
      rcases h i hi j (by omega) with h | h
      · omega
      · rw [e j (by omega), one_sing, decide_eq_false_iff_not] at h
        rw [beq_eq_false_iff_ne]; exact fun he => h he.symm
    · intro h i hi j hj
      rcases Nat.lt_trichotomy j i with hlt | heq | hgt
      · right; rw [e j hj, one_sing, decide_eq_false_iff_not]
        have := h i hi j hlt; rw [beq_eq_false_iff_ne] at this; exact fun he => this he.symm
      · exact .inl heq
      · right; rw [e j hj, one_sing, decide_eq_false_iff_not]
        have := h j hj i hgt; rw [beq_eq_false_iff_ne] at this; exact this
  | product =>
    simp only [kindB, Bool.and_eq_true, decide_eq_true_eq] at hk
    have e : ∀ i, i < 3 → at' (singles xs) i = sing (xs.getD i 0) := fun i hi => at_singles (by omega)
    simp only [passS, holdsK, decide_eq_true_eq]
    constructor
    · intro h
      have := h 2 (by omega)
      rw [if_pos rfl, e 0 (by omega), e 1 (by omega)] at this
      simp only [mn_sing, mx_sing, Bool.and_eq_true, decide_eq_true_eq] at this; omega
    · intro h j hj
      split
      · rename_i h2; subst h2
        rw [e 0 (by omega), e 1 (by omega)]
        simp only [mn_sing, mx_sing, Bool.and_eq_true, decide_eq_true_eq]; omega
      · rw [e 2 (by omega), e (1 - j) (by omega)]
        simp only [mn_sing, mx_sing, Bool.and_eq_true, decide_eq_true_eq]
        rcases (show j = 0 ∨ j = 1 by omega) with rfl | rfl
        · rw [show 1 - 0 = 1 from rfl, h]; omega
        · rw [show 1 - 1 = 0 from rfl, Int.mul_comm (xs.getD 1 0), h]; omega
  | element =>
    simp only [kindB, Bool.and_eq_true, decide_eq_true_eq] at hk
    have e : ∀ i, i < 2 → at' (singles xs) i = sing (xs.getD i 0) := fun i hi => at_singles (by omega)
    simp only [passS, holdsK]
    rw [e 0 (by omega), e 1 (by omega)]
    constructor
    · intro h
      have := h 0 (by omega)
      rw [if_pos rfl, in_sing] at this; exact this
    · intro h j hj
      split
      · rename_i h2; subst h2; rw [in_sing]; exact h
      · have : j = 1 := by omega
        subst this
        simp only [Bool.and_eq_true, decide_eq_true_eq] at h
        rw [List.any_eq_true]
        refine ⟨(xs.getD 0 0 - 1).toNat, List.mem_range.2 (by omega), ?_⟩
        rw [in_sing, Bool.and_eq_true, decide_eq_true_eq, decide_eq_true_eq]
        exact ⟨h.2.2, by omega⟩
  | max =>
    simp only [kindB, Bool.and_eq_true, decide_eq_true_eq] at hk
    have e : ∀ i, i < 3 → at' (singles xs) i = sing (xs.getD i 0) := fun i hi => at_singles (by omega)
    simp only [passS, holdsK, decide_eq_true_eq]
    constructor
    · intro h
      have := h 2 (by omega)
      rw [if_pos rfl, e 0 (by omega), e 1 (by omega)] at this
      simp only [mn_sing, mx_sing, Bool.and_eq_true, decide_eq_true_eq] at this
      split <;> omega
    · intro h j hj
      split
      · rename_i h2; subst h2
        rw [e 0 (by omega), e 1 (by omega)]
        simp only [mn_sing, mx_sing, Bool.and_eq_true, decide_eq_true_eq]
        split at h <;> omega
      · rw [e 2 (by omega), e (1 - j) (by omega)]
        simp only [mn_sing, mx_sing, Bool.and_eq_true, Bool.or_eq_true, decide_eq_true_eq]
        rcases (show j = 0 ∨ j = 1 by omega) with rfl | rfl
        · rw [show 1 - 0 = 1 from rfl]; split at h <;> omega
        · rw [show 1 - 1 = 0 from rfl]; split at h <;> omega
  | reify =>
    simp only [kindB, Bool.and_eq_true, decide_eq_true_eq] at hk
    have e : ∀ i, i < 3 → at' (singles xs) i = sing (xs.getD i 0) := fun i hi => at_singles (by omega)
    simp only [passS, holdsK, decide_eq_true_eq, reifS]
    rw [e 0 (by omega), e 1 (by omega), e 2 (by omega)]
    simp only [mn_sing, mx_sing, one_sing]
    constructor
    · intro h
      have := h 0 (by omega)
      rw [if_pos rfl] at this
      simp only [Bool.or_eq_true, Bool.and_eq_true, decide_eq_true_eq] at this
      split <;> omega
    · intro h j hj
      rcases (show j = 0 ∨ j = 1 ∨ j = 2 by omega) with rfl | rfl | rfl
      · rw [if_pos rfl]
        simp only [Bool.or_eq_true, Bool.and_eq_true, decide_eq_true_eq]
        split at h <;> omega
      · rw [if_neg (by omega), if_pos rfl]
        simp only [Bool.and_eq_true, Bool.not_eq_true', Bool.and_eq_false_iff, decide_eq_false_iff_not]
        split at h <;> omega
      · rw [if_neg (by omega), if_neg (by omega)]
        simp only [Bool.and_eq_true, Bool.not_eq_true', Bool.and_eq_false_iff, decide_eq_false_iff_not]
        split at h <;> omega
  | apart =>
    simp only [kindB, Bool.and_eq_true, decide_eq_true_eq] at hk
    have e : ∀ i, i < 2 → at' (singles xs) i = sing (xs.getD i 0) := fun i hi => at_singles (by omega)
    simp only [passS, holdsK]
    rw [e 0 (by omega), e 1 (by omega)]
    simp only [mn_sing, mx_sing]
    constructor
    · intro h
      have := h 0 (by omega)
      rw [if_pos rfl] at this; exact this
    · intro h j hj
      split
      · rename_i h2; subst h2; exact h
      · have : j = 1 := by omega
        subst this
        simp only [Bool.or_eq_true, decide_eq_true_eq] at h ⊢; exact h
  | other => simp [kindB] at hk

theorem vd_sing {v : Int} (h : 0 ≤ v ∧ v ≤ 1000) : VD (sing v) := ⟨fun p hp => by simp [sing] at hp; subst hp; simp; omega, by simp [sing]⟩
theorem vds_singles {vs : List Int} (h : ∀ v ∈ vs, 0 ≤ v ∧ v ≤ 1000) : VDs (singles vs) := fun d hd => by
  obtain ⟨v, hv, rfl⟩ := List.mem_map.1 hd
  exact vd_sing (h v hv)
theorem ins_singles (vs : List Int) (x : Nat) (v : Int) : InS (singles vs) x v ↔ (x < vs.length ∧ v = vs.getD x 0) := by
  constructor
  · intro h
    have hx := h.lt
    rw [singles_len] at hx
    unfold InS at h
    rw [at_singles hx, in_sing, decide_eq_true_eq] at h
    exact ⟨hx, h⟩
  · rintro ⟨hx, h⟩
    unfold InS
    rw [at_singles hx, in_sing, decide_eq_true_eq]; exact h
theorem bs_singles {p : PropS} {vs : List Int} (hv : VarsOk p.vars vs.length) : bsOf p (singles vs) = singles (xsOf p vs) := by
  simp only [bsOf, xsOf, singles, List.map_map]
  apply List.map_congr_left
  intro x hx
  obtain ⟨j, hj, rfl⟩ := List.mem_iff_getElem.1 hx
  have hlt := hv j hj
  rw [px, getD_get hj] at hlt
  show getL (singles vs) p.vars[j] = sing (vs.getD p.vars[j].toNat 0)
  rw [getL_at, at_singles hlt]
theorem single_ne {p : PropS} {vs : List Int} (hv : VarsOk p.vars vs.length) : hasEmpty p (singles vs) = false := by
  rw [Bool.eq_false_iff]; intro h
  obtain ⟨j, hj, he⟩ := (hasEmpty_iff p _).1 h
  rw [at_singles (hv j hj)] at he; simp [sing] at he
theorem keep_single_mem {p : PropS} {vs : List Int} (hp : propB p vs.length = true) (hb : ∀ v ∈ vs, 0 ≤ v ∧ v ≤ 1000) (x : Nat) (v : Int) :
    InS (keepS p (singles vs)) x v ↔ (InS (singles vs) x v ∧ ∀ j, j < p.vars.length → px p.vars j = x → passS (kdOf p.kind) p.coefs p.n (singles (xsOf p vs)) j v = true) := by
  have hv := varsOk_of hp
  rw [keep_mem p _ (vds_singles hb) (by rw [singles_len]; exact hv), single_ne hv]
  simp only [Bool.false_eq_true, if_false, passP, bs_singles hv]
theorem xs_get {p : PropS} {vs : List Int} {j : Nat} (hj : j < p.vars.length) : (xsOf p vs).getD j 0 = vs.getD (px p.vars j) 0 := by
  rw [getD_get (by simpa [xsOf] using hj), px, getD_get hj]; simp [xsOf]
/-- A propagator that holds for values keeps them. -/
theorem keep_single_eq {p : PropS} {vs : List Int} (hp : propB p vs.length = true) (hb : ∀ v ∈ vs, 0 ≤ v ∧ v ≤ 1000) (hh : holdsK (kdOf p.kind) p.coefs p.n (xsOf p vs) = true) : keepS p (singles vs) = singles vs := by
  have hk : kindB (kdOf p.kind) (xsOf p vs).length p.coefs.length p.coefs p.n = true := by
    simp only [propB, Bool.and_eq_true] at hp; simpa [xsOf] using hp.2
  refine doms_ext (keepS_vd p (vds_singles hb)) (vds_singles hb) (keepS_len p _) fun x v => ?_
  rw [keep_single_mem hp hb]
  constructor
  · exact fun h => h.1
  · intro h
    refine ⟨h, fun j hj hjx => ?_⟩
    have := (pass_single _ _ _ _ hk).2 hh j (by simpa [xsOf] using hj)
    obtain ⟨_, hv⟩ := (ins_singles vs x v).1 h
    rw [xs_get hj, hjx] at this
    rw [hv]; exact this
/-- One that does not hold leaves nothing somewhere. -/
theorem keep_single_failed {p : PropS} {vs : List Int} (hp : propB p vs.length = true) (hb : ∀ v ∈ vs, 0 ≤ v ∧ v ≤ 1000) : failedB (keepS p (singles vs)) = !holdsK (kdOf p.kind) p.coefs p.n (xsOf p vs) := by
  have hk : kindB (kdOf p.kind) (xsOf p vs).length p.coefs.length p.coefs p.n = true := by
    simp only [propB, Bool.and_eq_true] at hp; simpa [xsOf] using hp.2
  cases hh : holdsK (kdOf p.kind) p.coefs p.n (xsOf p vs) with
  | true =>
    rw [keep_single_eq hp hb hh]
    rw [Bool.not_true, Bool.eq_false_iff]; intro h
    simp only [failedB, List.any_eq_true, decide_eq_true_eq] at h
    obtain ⟨d, hd, rfl⟩ := h
    obtain ⟨v, _, hv⟩ := List.mem_map.1 hd
    simp [sing] at hv
  | false =>
    have hn : ¬ ∀ j, j < (xsOf p vs).length → passS (kdOf p.kind) p.coefs p.n (singles (xsOf p vs)) j ((xsOf p vs).getD j 0) = true := fun h => by
      rw [(pass_single _ _ _ _ hk).1 h] at hh; cases hh
    obtain ⟨j, hj'⟩ := Classical.not_forall.1 hn
    obtain ⟨hj, hpass⟩ := Classical.not_imp.1 hj'
    have hj : j < p.vars.length := by simpa [xsOf] using hj
    have hlt := varsOk_of hp j hj
    rw [Bool.not_false]
    simp only [failedB, List.any_eq_true, decide_eq_true_eq]
    refine ⟨at' (keepS p (singles vs)) (px p.vars j), ?_, ?_⟩
    · rw [at_get (by rw [keepS_len, singles_len]; exact hlt)]; exact List.getElem_mem _
    · refine (inD_empty (VDs.at (keepS_vd p (vds_singles hb)) _)).2 fun v => ?_
      rw [Bool.eq_false_iff]; intro h
      have h : InS (keepS p (singles vs)) (px p.vars j) v := h
      obtain ⟨h1, h2⟩ := (keep_single_mem hp hb _ _).1 h
      obtain ⟨_, hv⟩ := (ins_singles vs _ v).1 h1
      apply hpass
      rw [xs_get hj, ← hv]; exact h2 j hj rfl
end Go.Proofs.Ytggfnakhmjkoeaa

namespace Go.Proofs.Ytggfnakhmjkoeaa
open Go Go.V Go.Proofs
open Go.RowKit (Below)
/-! manystrand/manystrandref06.Holds -/
def N46 (s1 : ByteArray) (a2 : Option Addr) (l2 : Nat) (c2 : Nat) (a3 : Option Addr) (l3 : Nat) (c3 : Nat) (x4 : Int) (a5 : Option Addr) (l5 : Nat) (_c5 : Nat) (K : Bool → World → Prop) (w : World) : Prop :=
  AllocK w (#[(.string s1), (.slice a2 l2 c2), (.slice a3 l3 c3), (.int .i64 x4)]) 24 fun b6 w7 =>
  ∃ (s8 : ByteArray), w7.cell? (b6.add 0) = some (.string s8) ∧
  (∃ (a9 : Option Addr) (l9 : Nat) (c9 : Nat), w7.cell? (b6.add 1) = some (.slice a9 l9 c9) ∧
    (∃ (a10 : Option Addr) (l10 : Nat) (c10 : Nat), w7.cell? (b6.add 2) = some (.slice a10 l10 c10) ∧
      (∃ (x11 : Int), w7.cell? (b6.add 3) = some (.int .i64 x11) ∧
        (Calls Try.prog 17 #[(.agg #[(.string s8), (.slice a9 l9 c9), (.slice a10 l10 c10), (.int .i64 x11)]), (.int .i64 (l5 : Nat))] w7 fun e14 w13 =>
          ∃ (p12 : Bool), e14 = .returned (.bool p12) ∧
          (BoolK (!p12)
            (K false w13)
            (∃ (I15 : Option Addr → Nat → Nat → Int → World → Prop) (μ16 : Option Addr → Nat → Nat → Int → World → Nat),
              (I15 none 0 0 0 w13 ∧ True) ∧
              ∀ (w17 : World) (a18 : Option Addr) (l18 : Nat) (c18 : Nat) (x19 : Int), I15 a18 l18 c18 x19 w17 →
              ∃ (a20 : Option Addr) (l20 : Nat) (c20 : Nat), w17.cell? (b6.add 1) = some (.slice a20 l20 c20) ∧
              (BoolK (decide ((x19 : Int) < (l20 : Nat)))
                (∃ (a21 : Option Addr) (l21 : Nat) (c21 : Nat), w17.cell? (b6.add 1) = some (.slice a21 l21 c21) ∧
                  ((0 ≤ (x19 : Int) ∧ (x19 : Int) < (l21 : Nat)) ∧
                    AddrK a21 fun b22 =>
                    ∃ (x23 : Int), w17.cell? (b22.add ((x19 : Int).toNat * 1)) = some (.int .i64 x23) ∧
                    ((0 ≤ (x23 : Int) ∧ (x23 : Int) < (l5 : Nat)) ∧
                      AddrK a5 fun b24 =>
                      ∃ (x25 : Int), w17.cell? (b24.add ((x23 : Int).toNat * 1)) = some (.int .i64 x25) ∧
                      (AllocK w17 (#[(.int .i64 x25)]) 3 fun b26 w27 =>
                        ∃ (a28 : Option Addr), ∃ (l28 : Nat), ∃ (c28 : Nat), ∃ (w29 : World), Sem.run Try.prog (Builtin.append_ #[22, 22] 22 #[(.slice a18 l18 c18), (.slice (some b26) 1 1)]) w27 = .ok (.slice a28 l28 c28) w29 ∧
                        (I15 a28 l28 c28 (IntKind.wrap .i64 (x19 + 1)) w29 ∧ μ16 a28 l28 c28 (IntKind.wrap .i64 (x19 + 1)) w29 < μ16 a18 l18 c18 x19 w17)))))
                (∃ (s30 : ByteArray), w17.cell? b6 = some (.string s30) ∧
                  (BoolK ((s30 : ByteArray).toList == ((⟨#[115, 117, 109]⟩ : ByteArray) : ByteArray).toList)
                    (DrewK w17 fun w31 =>
                      ∃ (a32 : Option Addr) (l32 : Nat) (c32 : Nat), w31.cell? (b6.add 2) = some (.slice a32 l32 c32) ∧
                      (∃ (x33 : Int), w31.cell? (b6.add 3) = some (.int .i64 x33) ∧
                        (Calls Try.prog 76 #[(.slice a32 l32 c32), (.slice a18 l18 c18)] w31 fun e37 w36 =>
                          ∃ (x34 : Int), ∃ (x35 : Int), e37 = .returned (.agg #[(.int .i64 x34), (.int .i64 x35)]) ∧
                          (Below w31.heap.size w31 w36 ∧
                            (Calls Try.prog 75 #[(.agg #[(.int .i64 x34), (.int .i64 x35)]), (.int .i64 x33)] w36 fun e40 w39 =>
                              ∃ (x38 : Int), e40 = .returned (.int .i64 x38) ∧
                              (Below w31.heap.size w31 w39 ∧
                                (K ((x38 : Int) == 0) w39)))))))
                    (BoolK ((s30 : ByteArray).toList == ((⟨#[109, 111, 115, 116]⟩ : ByteArray) : ByteArray).toList)
                      (DrewK w17 fun w41 =>
                        ∃ (a42 : Option Addr) (l42 : Nat) (c42 : Nat), w41.cell? (b6.add 2) = some (.slice a42 l42 c42) ∧
                        (∃ (x43 : Int), w41.cell? (b6.add 3) = some (.int .i64 x43) ∧
                          (Calls Try.prog 76 #[(.slice a42 l42 c42), (.slice a18 l18 c18)] w41 fun e47 w46 =>
                            ∃ (x44 : Int), ∃ (x45 : Int), e47 = .returned (.agg #[(.int .i64 x44), (.int .i64 x45)]) ∧
                            (Below w41.heap.size w41 w46 ∧
                              (Calls Try.prog 75 #[(.agg #[(.int .i64 x44), (.int .i64 x45)]), (.int .i64 x43)] w46 fun e50 w49 =>
                                ∃ (x48 : Int), e50 = .returned (.int .i64 x48) ∧
                                (Below w41.heap.size w41 w49 ∧
                                  (K (decide ((x48 : Int) ≤ 0)) w49)))))))
                      (BoolK ((s30 : ByteArray).toList == ((⟨#[117, 110, 108, 105, 107, 101]⟩ : ByteArray) : ByteArray).toList)
                        (DrewK w17 fun w51 =>
                          ∃ (x52 : Int), w51.cell? (b6.add 3) = some (.int .i64 x52) ∧
                          (AllocK w51 (#[(.int .i64 (-1)), (.int .i64 1)]) 3 fun b53 w54 =>
                            Below w51.heap.size w51 w54 ∧
                            (Calls Try.prog 76 #[(.slice (some b53) 2 2), (.slice a18 l18 c18)] w54 fun e58 w57 =>
                              ∃ (x55 : Int), ∃ (x56 : Int), e58 = .returned (.agg #[(.int .i64 x55), (.int .i64 x56)]) ∧
                              (Below w51.heap.size w51 w57 ∧
                                (Calls Try.prog 75 #[(.agg #[(.int .i64 x55), (.int .i64 x56)]), (.int .i64 x52)] w57 fun e61 w60 =>
                                  ∃ (x59 : Int), e61 = .returned (.int .i64 x59) ∧
                                  (Below w51.heap.size w51 w60 ∧
                                    (K ((x59 : Int) != 0) w60)))))))
                        (BoolK ((s30 : ByteArray).toList == ((⟨#[100, 105, 115, 116, 105, 110, 99, 116]⟩ : ByteArray) : ByteArray).toList)
                          (∃ (I62 : Int → World → Prop) (μ63 : Int → World → Nat),
                            (I62 0 w17 ∧ True) ∧
                            ∀ (w64 : World) (x65 : Int), I62 x65 w64 →
                            BoolK (decide ((x65 : Int) < (l18 : Nat)))
                            (∃ (I66 : Int → World → Prop) (μ67 : Int → World → Nat),
                              (I66 0 w64 ∧ True) ∧
                              ∀ (w68 : World) (x69 : Int), I66 x69 w68 →
                              BoolK (decide ((x69 : Int) < x65))
                              (DrewK w68 fun w70 =>
                                (0 ≤ (x65 : Int) ∧ (x65 : Int) < (l18 : Nat)) ∧
                                AddrK a18 fun b71 =>
                                ∃ (x72 : Int), w70.cell? (b71.add ((x65 : Int).toNat * 1)) = some (.int .i64 x72) ∧
                                ((0 ≤ (x69 : Int) ∧ (x69 : Int) < (l18 : Nat)) ∧
                                  AddrK a18 fun b73 =>
                                  ∃ (x74 : Int), w70.cell? (b73.add ((x69 : Int).toNat * 1)) = some (.int .i64 x74) ∧
                                  (BoolK ((x72 : Int) == x74)
                                    (K false w70)
                                    (I66 (IntKind.wrap .i64 (x69 + 1)) w70 ∧ μ67 (IntKind.wrap .i64 (x69 + 1)) w70 < μ67 x69 w68))))
                              (I62 (IntKind.wrap .i64 (x65 + 1)) w68 ∧ μ63 (IntKind.wrap .i64 (x65 + 1)) w68 < μ63 x65 w64))
                            (K true w64))
                          (BoolK ((s30 : ByteArray).toList == ((⟨#[112, 114, 111, 100, 117, 99, 116]⟩ : ByteArray) : ByteArray).toList)
                            (DrewK w17 fun w75 =>
                              (0 ≤ (0 : Int) ∧ (0 : Int) < (l18 : Nat)) ∧
                              AddrK a18 fun b76 =>
                              ∃ (x77 : Int), w75.cell? (b76.add ((0 : Int).toNat * 1)) = some (.int .i64 x77) ∧
                              ((0 ≤ (1 : Int) ∧ (1 : Int) < (l18 : Nat)) ∧
                                AddrK a18 fun b78 =>
                                ∃ (x79 : Int), w75.cell? (b78.add ((1 : Int).toNat * 1)) = some (.int .i64 x79) ∧
                                ((0 ≤ (2 : Int) ∧ (2 : Int) < (l18 : Nat)) ∧
                                  AddrK a18 fun b80 =>
                                  ∃ (x81 : Int), w75.cell? (b80.add ((2 : Int).toNat * 1)) = some (.int .i64 x81) ∧
                                  (Calls Try.prog 77 #[(.int .i64 x77), (.int .i64 x79), (.int .i64 x81)] w75 fun e84 w83 =>
                                    ∃ (p82 : Bool), e84 = .returned (.bool p82) ∧
                                    (Below w75.heap.size w75 w83 ∧
                                      (K p82 w83))))))
                            (BoolK ((s30 : ByteArray).toList == ((⟨#[101, 108, 101, 109, 101, 110, 116]⟩ : ByteArray) : ByteArray).toList)
                              (DrewK w17 fun w85 =>
                                (0 ≤ (0 : Int) ∧ (0 : Int) < (l18 : Nat)) ∧
                                AddrK a18 fun b86 =>
                                ∃ (x87 : Int), w85.cell? (b86.add ((0 : Int).toNat * 1)) = some (.int .i64 x87) ∧
                                (BoolK (decide ((x87 : Int) ≥ 1))
                                  ((0 ≤ (0 : Int) ∧ (0 : Int) < (l18 : Nat)) ∧
                                    AddrK a18 fun b88 =>
                                    ∃ (x89 : Int), w85.cell? (b88.add ((0 : Int).toNat * 1)) = some (.int .i64 x89) ∧
                                    (∃ (a90 : Option Addr) (l90 : Nat) (c90 : Nat), w85.cell? (b6.add 2) = some (.slice a90 l90 c90) ∧
                                      (BoolK (decide ((x89 : Int) ≤ (l90 : Nat)))
                                        (∃ (a91 : Option Addr) (l91 : Nat) (c91 : Nat), w85.cell? (b6.add 2) = some (.slice a91 l91 c91) ∧
                                          ((0 ≤ (0 : Int) ∧ (0 : Int) < (l18 : Nat)) ∧
                                            AddrK a18 fun b92 =>
                                            ∃ (x93 : Int), w85.cell? (b92.add ((0 : Int).toNat * 1)) = some (.int .i64 x93) ∧
                                            ((0 ≤ (IntKind.wrap .i64 (x93 - 1) : Int) ∧ (IntKind.wrap .i64 (x93 - 1) : Int) < (l91 : Nat)) ∧
                                              AddrK a91 fun b94 =>
                                              ∃ (x95 : Int), w85.cell? (b94.add ((IntKind.wrap .i64 (x93 - 1) : Int).toNat * 1)) = some (.int .i64 x95) ∧
                                              ((0 ≤ (1 : Int) ∧ (1 : Int) < (l18 : Nat)) ∧
                                                AddrK a18 fun b96 =>
                                                ∃ (x97 : Int), w85.cell? (b96.add ((1 : Int).toNat * 1)) = some (.int .i64 x97) ∧
                                                (K ((x95 : Int) == x97) w85)))))
                                        (K false w85))))
                                  (K false w85)))
                              (BoolK ((s30 : ByteArray).toList == ((⟨#[109, 97, 120]⟩ : ByteArray) : ByteArray).toList)
                                (DrewK w17 fun w98 =>
                                  (0 ≤ (2 : Int) ∧ (2 : Int) < (l18 : Nat)) ∧
                                  AddrK a18 fun b99 =>
                                  ∃ (x100 : Int), w98.cell? (b99.add ((2 : Int).toNat * 1)) = some (.int .i64 x100) ∧
                                  ((0 ≤ (0 : Int) ∧ (0 : Int) < (l18 : Nat)) ∧
                                    AddrK a18 fun b101 =>
                                    ∃ (x102 : Int), w98.cell? (b101.add ((0 : Int).toNat * 1)) = some (.int .i64 x102) ∧
                                    ((0 ≤ (1 : Int) ∧ (1 : Int) < (l18 : Nat)) ∧
                                      AddrK a18 fun b103 =>
                                      ∃ (x104 : Int), w98.cell? (b103.add ((1 : Int).toNat * 1)) = some (.int .i64 x104) ∧
                                      (K ((x100 : Int) == if (x104 : Int) > x102 then x104 else x102) w98))))
                                (BoolK ((s30 : ByteArray).toList == ((⟨#[114, 101, 105, 102, 121]⟩ : ByteArray) : ByteArray).toList)
                                  (DrewK w17 fun w105 =>
                                    (0 ≤ (0 : Int) ∧ (0 : Int) < (l18 : Nat)) ∧
                                    AddrK a18 fun b106 =>
                                    ∃ (x107 : Int), w105.cell? (b106.add ((0 : Int).toNat * 1)) = some (.int .i64 x107) ∧
                                    (BoolK ((x107 : Int) == 1)
                                      ((0 ≤ (1 : Int) ∧ (1 : Int) < (l18 : Nat)) ∧
                                        AddrK a18 fun b108 =>
                                        ∃ (x109 : Int), w105.cell? (b108.add ((1 : Int).toNat * 1)) = some (.int .i64 x109) ∧
                                        ((0 ≤ (2 : Int) ∧ (2 : Int) < (l18 : Nat)) ∧
                                          AddrK a18 fun b110 =>
                                          ∃ (x111 : Int), w105.cell? (b110.add ((2 : Int).toNat * 1)) = some (.int .i64 x111) ∧
                                          (∃ (x112 : Int), w105.cell? (b6.add 3) = some (.int .i64 x112) ∧
                                            (Calls Try.prog 78 #[(.int .i64 x109), (.int .i64 x111), (.int .i64 x112)] w105 fun e115 w114 =>
                                              ∃ (p113 : Bool), e115 = .returned (.bool p113) ∧
                                              (Below w105.heap.size w105 w114 ∧
                                                (BoolK p113
                                                  (((K true w114) ∧
                                                      (K true w114)) ∧
                                                    (((K true w114) ∧
                                                        (K true w114)) ∧
                                                      ((K true w114) ∧
                                                        (K true w114))))
                                                  ((0 ≤ (0 : Int) ∧ (0 : Int) < (l18 : Nat)) ∧
                                                    AddrK a18 fun b116 =>
                                                    ∃ (x117 : Int), w114.cell? (b116.add ((0 : Int).toNat * 1)) = some (.int .i64 x117) ∧
                                                    (Below w105.heap.size w105 w114 ∧
                                                      (BoolK ((x117 : Int) == 0)
                                                        ((0 ≤ (1 : Int) ∧ (1 : Int) < (l18 : Nat)) ∧
                                                          AddrK a18 fun b118 =>
                                                          (0 ≤ (2 : Int) ∧ (2 : Int) < (l18 : Nat)) ∧
                                                          AddrK a18 fun b119 =>
                                                          (∃ (x120 : Int), w114.cell? (b118.add ((1 : Int).toNat * 1)) = some (.int .i64 x120) ∧
                                                            (Below w105.heap.size w105 w114 ∧
                                                              ((∃ (x121 : Int), w114.cell? (b119.add ((2 : Int).toNat * 1)) = some (.int .i64 x121) ∧
                                                              (Below w105.heap.size w105 w114 ∧
                                                              (∃ (x122 : Int), w114.cell? (b6.add 3) = some (.int .i64 x122) ∧
                                                              (Below w105.heap.size w105 w114 ∧
                                                              (Calls Try.prog 78 #[(.int .i64 x120), (.int .i64 x121), (.int .i64 x122)] w114 fun e125 w124 =>
                                                              ∃ (p123 : Bool), e125 = .returned (.bool p123) ∧
                                                              (Below w105.heap.size w105 w124 ∧
                                                              (K (!p123) w124))))))) ∧
                                                              (∃ (x126 : Int), w114.cell? (b6.add 3) = some (.int .i64 x126) ∧
                                                              (Below w105.heap.size w105 w114 ∧
                                                              (∃ (x127 : Int), w114.cell? (b119.add ((2 : Int).toNat * 1)) = some (.int .i64 x127) ∧
                                                              (Below w105.heap.size w105 w114 ∧
                                                              (Calls Try.prog 78 #[(.int .i64 x120), (.int .i64 x127), (.int .i64 x126)] w114 fun e130 w129 =>
                                                              ∃ (p128 : Bool), e130 = .returned (.bool p128) ∧
                                                              (Below w105.heap.size w105 w129 ∧
                                                              (K (!p128) w129)))))))))) ∧
                                                          ((∃ (x131 : Int), w114.cell? (b119.add ((2 : Int).toNat * 1)) = some (.int .i64 x131) ∧
                                                              (Below w105.heap.size w105 w114 ∧
                                                              ((∃ (x132 : Int), w114.cell? (b118.add ((1 : Int).toNat * 1)) = some (.int .i64 x132) ∧
                                                              (Below w105.heap.size w105 w114 ∧
                                                              (∃ (x133 : Int), w114.cell? (b6.add 3) = some (.int .i64 x133) ∧
                                                              (Below w105.heap.size w105 w114 ∧
                                                              (Calls Try.prog 78 #[(.int .i64 x132), (.int .i64 x131), (.int .i64 x133)] w114 fun e136 w135 =>
                                                              ∃ (p134 : Bool), e136 = .returned (.bool p134) ∧
                                                              (Below w105.heap.size w105 w135 ∧
                                                              (K (!p134) w135))))))) ∧
                                                              (∃ (x137 : Int), w114.cell? (b6.add 3) = some (.int .i64 x137) ∧
                                                              (Below w105.heap.size w105 w114 ∧
                                                              (∃ (x138 : Int), w114.cell? (b118.add ((1 : Int).toNat * 1)) = some (.int .i64 x138) ∧
                                                              (Below w105.heap.size w105 w114 ∧
                                                              (Calls Try.prog 78 #[(.int .i64 x138), (.int .i64 x131), (.int .i64 x137)] w114 fun e141 w140 =>
                                                              ∃ (p139 : Bool), e141 = .returned (.bool p139) ∧
                                                              (Below w105.heap.size w105 w140 ∧
                                                              (K (!p139) w140)))))))))) ∧
                                                            (∃ (x142 : Int), w114.cell? (b6.add 3) = some (.int .i64 x142) ∧
                                                              (Below w105.heap.size w105 w114 ∧
                                                              ((∃ (x143 : Int), w114.cell? (b118.add ((1 : Int).toNat * 1)) = some (.int .i64 x143) ∧
                                                              (Below w105.heap.size w105 w114 ∧
                                                              (∃ (x144 : Int), w114.cell? (b119.add ((2 : Int).toNat * 1)) = some (.int .i64 x144) ∧
                                                              (Below w105.heap.size w105 w114 ∧
                                                              (Calls Try.prog 78 #[(.int .i64 x143), (.int .i64 x144), (.int .i64 x142)] w114 fun e147 w146 =>
                                                              ∃ (p145 : Bool), e147 = .returned (.bool p145) ∧
                                                              (Below w105.heap.size w105 w146 ∧
                                                              (K (!p145) w146))))))) ∧
                                                              (∃ (x148 : Int), w114.cell? (b119.add ((2 : Int).toNat * 1)) = some (.int .i64 x148) ∧
                                                              (Below w105.heap.size w105 w114 ∧
                                                              (∃ (x149 : Int), w114.cell? (b118.add ((1 : Int).toNat * 1)) = some (.int .i64 x149) ∧
                                                              (Below w105.heap.size w105 w114 ∧
                                                              (Calls Try.prog 78 #[(.int .i64 x149), (.int .i64 x148), (.int .i64 x142)] w114 fun e152 w151 =>
                                                              ∃ (p150 : Bool), e152 = .returned (.bool p150) ∧
                                                              (Below w105.heap.size w105 w151 ∧
                                                              (K (!p150) w151))))))))))))
                                                        (((K false w114) ∧
                                                            (K false w114)) ∧
                                                          (((K false w114) ∧
                                                              (K false w114)) ∧
                                                            ((K false w114) ∧
                                                              (K false w114)))))))))))))
                                      ((0 ≤ (0 : Int) ∧ (0 : Int) < (l18 : Nat)) ∧
                                        AddrK a18 fun b153 =>
                                        ∃ (x154 : Int), w105.cell? (b153.add ((0 : Int).toNat * 1)) = some (.int .i64 x154) ∧
                                        (Below w105.heap.size w105 w105 ∧
                                          (BoolK ((x154 : Int) == 0)
                                            ((0 ≤ (1 : Int) ∧ (1 : Int) < (l18 : Nat)) ∧
                                              AddrK a18 fun b155 =>
                                              (0 ≤ (2 : Int) ∧ (2 : Int) < (l18 : Nat)) ∧
                                              AddrK a18 fun b156 =>
                                              (∃ (x157 : Int), w105.cell? (b155.add ((1 : Int).toNat * 1)) = some (.int .i64 x157) ∧
                                                (Below w105.heap.size w105 w105 ∧
                                                  ((∃ (x158 : Int), w105.cell? (b156.add ((2 : Int).toNat * 1)) = some (.int .i64 x158) ∧
                                                      (Below w105.heap.size w105 w105 ∧
                                                        (∃ (x159 : Int), w105.cell? (b6.add 3) = some (.int .i64 x159) ∧
                                                          (Below w105.heap.size w105 w105 ∧
                                                            (Calls Try.prog 78 #[(.int .i64 x157), (.int .i64 x158), (.int .i64 x159)] w105 fun e162 w161 =>
                                                              ∃ (p160 : Bool), e162 = .returned (.bool p160) ∧
                                                              (Below w105.heap.size w105 w161 ∧
                                                              (K (!p160) w161))))))) ∧
                                                    (∃ (x163 : Int), w105.cell? (b6.add 3) = some (.int .i64 x163) ∧
                                                      (Below w105.heap.size w105 w105 ∧
                                                        (∃ (x164 : Int), w105.cell? (b156.add ((2 : Int).toNat * 1)) = some (.int .i64 x164) ∧
                                                          (Below w105.heap.size w105 w105 ∧
                                                            (Calls Try.prog 78 #[(.int .i64 x157), (.int .i64 x164), (.int .i64 x163)] w105 fun e167 w166 =>
                                                              ∃ (p165 : Bool), e167 = .returned (.bool p165) ∧
                                                              (Below w105.heap.size w105 w166 ∧
                                                              (K (!p165) w166)))))))))) ∧
                                              ((∃ (x168 : Int), w105.cell? (b156.add ((2 : Int).toNat * 1)) = some (.int .i64 x168) ∧
                                                  (Below w105.heap.size w105 w105 ∧
                                                    ((∃ (x169 : Int), w105.cell? (b155.add ((1 : Int).toNat * 1)) = some (.int .i64 x169) ∧
                                                        (Below w105.heap.size w105 w105 ∧
                                                          (∃ (x170 : Int), w105.cell? (b6.add 3) = some (.int .i64 x170) ∧
                                                            (Below w105.heap.size w105 w105 ∧
                                                              (Calls Try.prog 78 #[(.int .i64 x169), (.int .i64 x168), (.int .i64 x170)] w105 fun e173 w172 =>
                                                              ∃ (p171 : Bool), e173 = .returned (.bool p171) ∧
                                                              (Below w105.heap.size w105 w172 ∧
                                                              (K (!p171) w172))))))) ∧
                                                      (∃ (x174 : Int), w105.cell? (b6.add 3) = some (.int .i64 x174) ∧
                                                        (Below w105.heap.size w105 w105 ∧
                                                          (∃ (x175 : Int), w105.cell? (b155.add ((1 : Int).toNat * 1)) = some (.int .i64 x175) ∧
                                                            (Below w105.heap.size w105 w105 ∧
                                                              (Calls Try.prog 78 #[(.int .i64 x175), (.int .i64 x168), (.int .i64 x174)] w105 fun e178 w177 =>
                                                              ∃ (p176 : Bool), e178 = .returned (.bool p176) ∧
                                                              (Below w105.heap.size w105 w177 ∧
                                                              (K (!p176) w177)))))))))) ∧
                                                (∃ (x179 : Int), w105.cell? (b6.add 3) = some (.int .i64 x179) ∧
                                                  (Below w105.heap.size w105 w105 ∧
                                                    ((∃ (x180 : Int), w105.cell? (b155.add ((1 : Int).toNat * 1)) = some (.int .i64 x180) ∧
                                                        (Below w105.heap.size w105 w105 ∧
                                                          (∃ (x181 : Int), w105.cell? (b156.add ((2 : Int).toNat * 1)) = some (.int .i64 x181) ∧
                                                            (Below w105.heap.size w105 w105 ∧
                                                              (Calls Try.prog 78 #[(.int .i64 x180), (.int .i64 x181), (.int .i64 x179)] w105 fun e184 w183 =>
                                                              ∃ (p182 : Bool), e184 = .returned (.bool p182) ∧
                                                              (Below w105.heap.size w105 w183 ∧
                                                              (K (!p182) w183))))))) ∧
                                                      (∃ (x185 : Int), w105.cell? (b156.add ((2 : Int).toNat * 1)) = some (.int .i64 x185) ∧
                                                        (Below w105.heap.size w105 w105 ∧
                                                          (∃ (x186 : Int), w105.cell? (b155.add ((1 : Int).toNat * 1)) = some (.int .i64 x186) ∧
                                                            (Below w105.heap.size w105 w105 ∧
                                                              (Calls Try.prog 78 #[(.int .i64 x186), (.int .i64 x185), (.int .i64 x179)] w105 fun e189 w188 =>
                                                              ∃ (p187 : Bool), e189 = .returned (.bool p187) ∧
                                                              (Below w105.heap.size w105 w188 ∧
                                                              (K (!p187) w188))))))))))))
                                            (((K false w105) ∧
                                                (K false w105)) ∧
                                              (((K false w105) ∧
                                                  (K false w105)) ∧
                                                ((K false w105) ∧
                                                  (K false w105)))))))))
                                  (DrewK w17 fun w190 =>
                                    (0 ≤ (0 : Int) ∧ (0 : Int) < (l18 : Nat)) ∧
                                    AddrK a18 fun b191 =>
                                    ∃ (x192 : Int), w190.cell? (b191.add ((0 : Int).toNat * 1)) = some (.int .i64 x192) ∧
                                    ((0 ≤ (1 : Int) ∧ (1 : Int) < (l18 : Nat)) ∧
                                      AddrK a18 fun b193 =>
                                      ∃ (x194 : Int), w190.cell? (b193.add ((1 : Int).toNat * 1)) = some (.int .i64 x194) ∧
                                      (∃ (a195 : Option Addr) (l195 : Nat) (c195 : Nat), w190.cell? (b6.add 2) = some (.slice a195 l195 c195) ∧
                                        ((0 ≤ (0 : Int) ∧ (0 : Int) < (l195 : Nat)) ∧
                                          AddrK a195 fun b196 =>
                                          ∃ (x197 : Int), w190.cell? (b196.add ((0 : Int).toNat * 1)) = some (.int .i64 x197) ∧
                                          (Calls Try.prog 78 #[(.int .i64 x192), (.int .i64 x194), (.int .i64 (IntKind.wrap .i64 (0 - x197)))] w190 fun e200 w199 =>
                                            ∃ (p198 : Bool), e200 = .returned (.bool p198) ∧
                                            (Below w190.heap.size w190 w199 ∧
                                              (BoolK p198
                                                (((K true w199) ∧
                                                    ((K true w199) ∧
                                                      (K true w199))) ∧
                                                  (((K true w199) ∧
                                                      ((K true w199) ∧
                                                        (K true w199))) ∧
                                                    (((K true w199) ∧
                                                        (K true w199)) ∧
                                                      (((K true w199) ∧
                                                          (K true w199)) ∧
                                                        ((K true w199) ∧
                                                          (K true w199))))))
                                                ((0 ≤ (1 : Int) ∧ (1 : Int) < (l18 : Nat)) ∧
                                                  AddrK a18 fun b201 =>
                                                  (0 ≤ (0 : Int) ∧ (0 : Int) < (l18 : Nat)) ∧
                                                  AddrK a18 fun b202 =>
                                                  (∃ (x203 : Int), w199.cell? (b201.add ((1 : Int).toNat * 1)) = some (.int .i64 x203) ∧
                                                    (Below w190.heap.size w190 w199 ∧
                                                      ((∃ (x204 : Int), w199.cell? (b202.add ((0 : Int).toNat * 1)) = some (.int .i64 x204) ∧
                                                          (Below w190.heap.size w190 w199 ∧
                                                            (∃ (a205 : Option Addr) (l205 : Nat) (c205 : Nat), w199.cell? (b6.add 2) = some (.slice a205 l205 c205) ∧
                                                              (Below w190.heap.size w190 w199 ∧
                                                              ((0 ≤ (1 : Int) ∧ (1 : Int) < (l205 : Nat)) ∧
                                                              AddrK a205 fun b206 =>
                                                              ∃ (x207 : Int), w199.cell? (b206.add ((1 : Int).toNat * 1)) = some (.int .i64 x207) ∧
                                                              (Below w190.heap.size w190 w199 ∧
                                                              (Calls Try.prog 78 #[(.int .i64 x203), (.int .i64 x204), (.int .i64 (IntKind.wrap .i64 (0 - x207)))] w199 fun e210 w209 =>
                                                              ∃ (p208 : Bool), e210 = .returned (.bool p208) ∧
                                                              (Below w190.heap.size w190 w209 ∧
                                                              (K p208 w209))))))))) ∧
                                                        (∃ (a211 : Option Addr) (l211 : Nat) (c211 : Nat), w199.cell? (b6.add 2) = some (.slice a211 l211 c211) ∧
                                                          (Below w190.heap.size w190 w199 ∧
                                                            ((0 ≤ (1 : Int) ∧ (1 : Int) < (l211 : Nat)) ∧
                                                              AddrK a211 fun b212 =>
                                                              (∃ (x213 : Int), w199.cell? (b202.add ((0 : Int).toNat * 1)) = some (.int .i64 x213) ∧
                                                              (Below w190.heap.size w190 w199 ∧
                                                              (∃ (x214 : Int), w199.cell? (b212.add ((1 : Int).toNat * 1)) = some (.int .i64 x214) ∧
                                                              (Below w190.heap.size w190 w199 ∧
                                                              (Calls Try.prog 78 #[(.int .i64 x203), (.int .i64 x213), (.int .i64 (IntKind.wrap .i64 (0 - x214)))] w199 fun e217 w216 =>
                                                              ∃ (p215 : Bool), e217 = .returned (.bool p215) ∧
                                                              (Below w190.heap.size w190 w216 ∧
                                                              (K p215 w216))))))) ∧
                                                              (∃ (x218 : Int), w199.cell? (b212.add ((1 : Int).toNat * 1)) = some (.int .i64 x218) ∧
                                                              (Below w190.heap.size w190 w199 ∧
                                                              (∃ (x219 : Int), w199.cell? (b202.add ((0 : Int).toNat * 1)) = some (.int .i64 x219) ∧
                                                              (Below w190.heap.size w190 w199 ∧
                                                              (Calls Try.prog 78 #[(.int .i64 x203), (.int .i64 x219), (.int .i64 (IntKind.wrap .i64 (0 - x218)))] w199 fun e222 w221 =>
                                                              ∃ (p220 : Bool), e222 = .returned (.bool p220) ∧
                                                              (Below w190.heap.size w190 w221 ∧
                                                              (K p220 w221))))))))))))) ∧
                                                  ((∃ (x223 : Int), w199.cell? (b202.add ((0 : Int).toNat * 1)) = some (.int .i64 x223) ∧
                                                      (Below w190.heap.size w190 w199 ∧
                                                        ((∃ (x224 : Int), w199.cell? (b201.add ((1 : Int).toNat * 1)) = some (.int .i64 x224) ∧
                                                            (Below w190.heap.size w190 w199 ∧
                                                              (∃ (a225 : Option Addr) (l225 : Nat) (c225 : Nat), w199.cell? (b6.add 2) = some (.slice a225 l225 c225) ∧
                                                              (Below w190.heap.size w190 w199 ∧
                                                              ((0 ≤ (1 : Int) ∧ (1 : Int) < (l225 : Nat)) ∧
                                                              AddrK a225 fun b226 =>
                                                              ∃ (x227 : Int), w199.cell? (b226.add ((1 : Int).toNat * 1)) = some (.int .i64 x227) ∧
                                                              (Below w190.heap.size w190 w199 ∧
                                                              (Calls Try.prog 78 #[(.int .i64 x224), (.int .i64 x223), (.int .i64 (IntKind.wrap .i64 (0 - x227)))] w199 fun e230 w229 =>
                                                              ∃ (p228 : Bool), e230 = .returned (.bool p228) ∧
                                                              (Below w190.heap.size w190 w229 ∧
                                                              (K p228 w229))))))))) ∧
                                                          (∃ (a231 : Option Addr) (l231 : Nat) (c231 : Nat), w199.cell? (b6.add 2) = some (.slice a231 l231 c231) ∧
                                                            (Below w190.heap.size w190 w199 ∧
                                                              ((0 ≤ (1 : Int) ∧ (1 : Int) < (l231 : Nat)) ∧
                                                              AddrK a231 fun b232 =>
                                                              (∃ (x233 : Int), w199.cell? (b201.add ((1 : Int).toNat * 1)) = some (.int .i64 x233) ∧
                                                              (Below w190.heap.size w190 w199 ∧
                                                              (∃ (x234 : Int), w199.cell? (b232.add ((1 : Int).toNat * 1)) = some (.int .i64 x234) ∧
                                                              (Below w190.heap.size w190 w199 ∧
                                                              (Calls Try.prog 78 #[(.int .i64 x233), (.int .i64 x223), (.int .i64 (IntKind.wrap .i64 (0 - x234)))] w199 fun e237 w236 =>
                                                              ∃ (p235 : Bool), e237 = .returned (.bool p235) ∧
                                                              (Below w190.heap.size w190 w236 ∧
                                                              (K p235 w236))))))) ∧
                                                              (∃ (x238 : Int), w199.cell? (b232.add ((1 : Int).toNat * 1)) = some (.int .i64 x238) ∧
                                                              (Below w190.heap.size w190 w199 ∧
                                                              (∃ (x239 : Int), w199.cell? (b201.add ((1 : Int).toNat * 1)) = some (.int .i64 x239) ∧
                                                              (Below w190.heap.size w190 w199 ∧
                                                              (Calls Try.prog 78 #[(.int .i64 x239), (.int .i64 x223), (.int .i64 (IntKind.wrap .i64 (0 - x238)))] w199 fun e242 w241 =>
                                                              ∃ (p240 : Bool), e242 = .returned (.bool p240) ∧
                                                              (Below w190.heap.size w190 w241 ∧
                                                              (K p240 w241))))))))))))) ∧
                                                    (∃ (a243 : Option Addr) (l243 : Nat) (c243 : Nat), w199.cell? (b6.add 2) = some (.slice a243 l243 c243) ∧
                                                      (Below w190.heap.size w190 w199 ∧
                                                        ((0 ≤ (1 : Int) ∧ (1 : Int) < (l243 : Nat)) ∧
                                                          AddrK a243 fun b244 =>
                                                          (∃ (x245 : Int), w199.cell? (b201.add ((1 : Int).toNat * 1)) = some (.int .i64 x245) ∧
                                                            (Below w190.heap.size w190 w199 ∧
                                                              ((∃ (x246 : Int), w199.cell? (b202.add ((0 : Int).toNat * 1)) = some (.int .i64 x246) ∧
                                                              (Below w190.heap.size w190 w199 ∧
                                                              (∃ (x247 : Int), w199.cell? (b244.add ((1 : Int).toNat * 1)) = some (.int .i64 x247) ∧
                                                              (Below w190.heap.size w190 w199 ∧
                                                              (Calls Try.prog 78 #[(.int .i64 x245), (.int .i64 x246), (.int .i64 (IntKind.wrap .i64 (0 - x247)))] w199 fun e250 w249 =>
                                                              ∃ (p248 : Bool), e250 = .returned (.bool p248) ∧
                                                              (Below w190.heap.size w190 w249 ∧
                                                              (K p248 w249))))))) ∧
                                                              (∃ (x251 : Int), w199.cell? (b244.add ((1 : Int).toNat * 1)) = some (.int .i64 x251) ∧
                                                              (Below w190.heap.size w190 w199 ∧
                                                              (∃ (x252 : Int), w199.cell? (b202.add ((0 : Int).toNat * 1)) = some (.int .i64 x252) ∧
                                                              (Below w190.heap.size w190 w199 ∧
                                                              (Calls Try.prog 78 #[(.int .i64 x245), (.int .i64 x252), (.int .i64 (IntKind.wrap .i64 (0 - x251)))] w199 fun e255 w254 =>
                                                              ∃ (p253 : Bool), e255 = .returned (.bool p253) ∧
                                                              (Below w190.heap.size w190 w254 ∧
                                                              (K p253 w254)))))))))) ∧
                                                          ((∃ (x256 : Int), w199.cell? (b202.add ((0 : Int).toNat * 1)) = some (.int .i64 x256) ∧
                                                              (Below w190.heap.size w190 w199 ∧
                                                              ((∃ (x257 : Int), w199.cell? (b201.add ((1 : Int).toNat * 1)) = some (.int .i64 x257) ∧
                                                              (Below w190.heap.size w190 w199 ∧
                                                              (∃ (x258 : Int), w199.cell? (b244.add ((1 : Int).toNat * 1)) = some (.int .i64 x258) ∧
                                                              (Below w190.heap.size w190 w199 ∧
                                                              (Calls Try.prog 78 #[(.int .i64 x257), (.int .i64 x256), (.int .i64 (IntKind.wrap .i64 (0 - x258)))] w199 fun e261 w260 =>
                                                              ∃ (p259 : Bool), e261 = .returned (.bool p259) ∧
                                                              (Below w190.heap.size w190 w260 ∧
                                                              (K p259 w260))))))) ∧
                                                              (∃ (x262 : Int), w199.cell? (b244.add ((1 : Int).toNat * 1)) = some (.int .i64 x262) ∧
                                                              (Below w190.heap.size w190 w199 ∧
                                                              (∃ (x263 : Int), w199.cell? (b201.add ((1 : Int).toNat * 1)) = some (.int .i64 x263) ∧
                                                              (Below w190.heap.size w190 w199 ∧
                                                              (Calls Try.prog 78 #[(.int .i64 x263), (.int .i64 x256), (.int .i64 (IntKind.wrap .i64 (0 - x262)))] w199 fun e266 w265 =>
                                                              ∃ (p264 : Bool), e266 = .returned (.bool p264) ∧
                                                              (Below w190.heap.size w190 w265 ∧
                                                              (K p264 w265)))))))))) ∧
                                                            (∃ (x267 : Int), w199.cell? (b244.add ((1 : Int).toNat * 1)) = some (.int .i64 x267) ∧
                                                              (Below w190.heap.size w190 w199 ∧
                                                              ((∃ (x268 : Int), w199.cell? (b201.add ((1 : Int).toNat * 1)) = some (.int .i64 x268) ∧
                                                              (Below w190.heap.size w190 w199 ∧
                                                              (∃ (x269 : Int), w199.cell? (b202.add ((0 : Int).toNat * 1)) = some (.int .i64 x269) ∧
                                                              (Below w190.heap.size w190 w199 ∧
                                                              (Calls Try.prog 78 #[(.int .i64 x268), (.int .i64 x269), (.int .i64 (IntKind.wrap .i64 (0 - x267)))] w199 fun e272 w271 =>
                                                              ∃ (p270 : Bool), e272 = .returned (.bool p270) ∧
                                                              (Below w190.heap.size w190 w271 ∧
                                                              (K p270 w271))))))) ∧
                                                              (∃ (x273 : Int), w199.cell? (b202.add ((0 : Int).toNat * 1)) = some (.int .i64 x273) ∧
                                                              (Below w190.heap.size w190 w199 ∧
                                                              (∃ (x274 : Int), w199.cell? (b201.add ((1 : Int).toNat * 1)) = some (.int .i64 x274) ∧
                                                              (Below w190.heap.size w190 w199 ∧
                                                              (Calls Try.prog 78 #[(.int .i64 x274), (.int .i64 x273), (.int .i64 (IntKind.wrap .i64 (0 - x267)))] w199 fun e277 w276 =>
                                                              ∃ (p275 : Bool), e277 = .returned (.bool p275) ∧
                                                              (Below w190.heap.size w190 w276 ∧
                                                              (K p275 w276)))))))))))))))))))))))))))))))))))))))
def ann46 : Ann := (.two .nil (.two (.two .nil (.two (.two .nil .nil) .nil)) (.two .nil (.two (.two .nil (.one (.loop [(5, (.one .slice)), (6, (.one (.int .i64)))] [1, 2] (.two (.two .nil (.two .nil .nil)) (.two (.one .nil) .nil))))) (.two (.two .nil (.one (.two .nil (.two (.two (.any 9 (.take 0 (.take 1 (.take 2 (.take 4 (.take 5 (.one 3 (.one 6 (.take 7 (.take 8 .done)))))))))) .nil) (.two .nil (.two (.two (.any 9 (.take 0 (.take 1 (.take 2 (.take 4 (.take 5 (.one 3 (.one 6 (.take 7 (.take 8 .done)))))))))) .nil) (.two .nil (.two (.two (.any 8 (.take 1 (.take 3 (.take 4 (.one 0 (.one 2 (.one 5 (.take 6 (.take 7 .done))))))))) .nil) (.two .nil (.two (.two (.two .nil (.one (.loop [(7, (.one (.int .i64)))] [5] (.two (.two .nil (.two .nil .nil)) (.two (.one (.two .nil (.one (.loop [(8, (.one (.int .i64)))] [5, 7] (.two (.two .nil (.two .nil .nil)) (.two (.one (.two (.any 9 (.take 0 (.take 1 (.take 2 (.take 3 (.take 4 (.take 5 (.take 6 (.take 7 (.take 8 .done)))))))))) (.two (.two .nil .nil) .nil))) .nil)))))) .nil))))) (.two .nil .nil)) (.two .nil (.two (.two (.any 11 (.take 0 (.take 1 (.take 2 (.take 3 (.take 4 (.take 5 (.take 6 (.take 7 (.take 8 (.one 9 (.take 10 .done)))))))))))) .nil) (.two .nil (.two (.two (.any 28 (.take 0 (.take 1 (.take 2 (.take 3 (.take 4 (.take 5 (.take 6 (.take 7 (.take 8 (.take 9 (.take 10 (.take 11 (.take 12 (.take 13 (.take 14 (.take 15 (.take 16 (.take 17 (.take 18 (.take 19 (.take 20 (.take 21 (.take 22 (.take 23 (.take 24 (.take 25 (.take 26 (.take 27 .done))))))))))))))))))))))))))))) .nil) (.two .nil (.two (.two (.any 12 (.take 0 (.take 1 (.take 2 (.take 3 (.take 4 (.take 5 (.take 6 (.take 7 (.take 8 (.take 9 (.take 10 (.take 11 .done))))))))))))) .nil) (.two .nil (.two (.two (.any 34 (.take 0 (.take 1 (.take 2 (.take 3 (.take 4 (.take 5 (.take 6 (.take 7 (.take 8 (.take 9 (.take 10 (.take 11 (.take 12 (.one 13 (.take 14 (.take 15 (.take 16 (.take 17 (.one 18 (.take 19 (.take 20 (.take 21 (.take 22 (.take 24 (.take 25 (.take 27 (.both 23 (.both 26 (.one 28 (.one 29 (.take 30 (.take 31 (.take 32 (.take 33 .done)))))) (.one 28 (.one 26 (.one 29 (.take 30 (.take 31 (.take 32 (.take 33 .done)))))))) (.both 26 (.both 23 (.one 28 (.one 29 (.take 30 (.take 31 (.take 32 (.take 33 .done)))))) (.one 28 (.one 23 (.one 29 (.take 30 (.take 31 (.take 32 (.take 33 .done)))))))) (.one 28 (.both 23 (.one 26 (.one 29 (.take 30 (.take 31 (.take 32 (.take 33 .done)))))) (.one 26 (.one 23 (.one 29 (.take 30 (.take 31 (.take 32 (.take 33 .done)))))))))))))))))))))))))))))))))))))) .nil) .nil)))))))))))))))))) (.two (.any 27 (.take 0 (.take 1 (.take 2 (.take 3 (.take 4 (.take 5 (.take 6 (.take 7 (.take 8 (.take 9 (.take 10 (.one 11 (.take 12 (.take 13 (.take 14 (.take 16 (.take 17 (.take 19 (.both 15 (.both 18 (.one 20 (.take 21 (.one 22 (.take 23 (.one 24 (.take 25 (.take 26 .done))))))) (.one 20 (.take 21 (.both 18 (.one 22 (.take 23 (.one 24 (.take 25 (.take 26 .done))))) (.one 22 (.take 23 (.one 18 (.one 24 (.take 25 (.take 26 .done)))))))))) (.both 18 (.both 15 (.one 20 (.take 21 (.one 22 (.take 23 (.one 24 (.take 25 (.take 26 .done))))))) (.one 20 (.take 21 (.both 15 (.one 22 (.take 23 (.one 24 (.take 25 (.take 26 .done))))) (.one 22 (.take 23 (.one 15 (.one 24 (.take 25 (.take 26 .done)))))))))) (.one 20 (.take 21 (.both 15 (.both 18 (.one 22 (.take 23 (.one 24 (.take 25 (.take 26 .done))))) (.one 22 (.take 23 (.one 18 (.one 24 (.take 25 (.take 26 .done))))))) (.both 18 (.both 15 (.one 22 (.take 23 (.one 24 (.take 25 (.take 26 .done))))) (.one 22 (.take 23 (.one 15 (.one 24 (.take 25 (.take 26 .done))))))) (.one 22 (.take 23 (.both 15 (.one 18 (.one 24 (.take 25 (.take 26 .done)))) (.one 18 (.one 15 (.one 24 (.take 25 (.take 26 .done))))))))))))))))))))))))))))))))) .nil))))))
noncomputable def code46 : Code := match Try.f46.body with | some c => c | none => .skip
theorem wp46 (s1 : ByteArray) (a2 : Option Addr) (l2 : Nat) (c2 : Nat) (a3 : Option Addr) (l3 : Nat) (c3 : Nat) (x4 : Int) (a5 : Option Addr) (l5 : Nat) (c5 : Nat) (K : Bool → World → Prop) (w : World) : WP Try.prog tab code46 ann46 (fnQ tab Try.f46.results.toList [(.one .bool)] K) (argE 0 [(.agg #[(.string s1), (.slice a2 l2 c2), (.slice a3 l3 c3), (.int .i64 x4)]), (.slice a5 l5 c5)]) w = N46 s1 a2 l2 c2 a3 l3 c3 x4 a5 l5 c5 K w := by kernel_rfl
theorem calls46 (s1 : ByteArray) (a2 : Option Addr) (l2 : Nat) (c2 : Nat) (a3 : Option Addr) (l3 : Nat) (c3 : Nat) (x4 : Int) (a5 : Option Addr) (l5 : Nat) (c5 : Nat) (K : Bool → World → Prop) (w : World) (h : N46 s1 a2 l2 c2 a3 l3 c3 x4 a5 l5 c5 K w) : Calls Try.prog 46 #[(.agg #[(.string s1), (.slice a2 l2 c2), (.slice a3 l3 c3), (.int .i64 x4)]), (.slice a5 l5 c5)] w fun en w' => ∃ (p278 : Bool), en = .returned (.bool p278) ∧ K p278 w' :=
  have e : (fun en w' => ExShs [(.one .bool)] fun vs => en = .returned (tupled vs) ∧ ap [(.one .bool)] K vs fun p => p w') = (fun (en : Ending) (w' : World) => ∃ (p278 : Bool), en = .returned (.bool p278) ∧ K p278 w') := by kernel_rfl
  e ▸ fn_sound tabOk mixed Try.func46 (by kernel_rfl : Try.f46.body = some code46) ann46 [(.agg #[(.string s1), (.slice a2 l2 c2), (.slice a3 l3 c3), (.int .i64 x4)]), (.slice a5 l5 c5)] [(.one .bool)] K w (by kernel_rfl) ((wp46 s1 a2 l2 c2 a3 l3 c3 x4 a5 l5 c5 K w).symm ▸ h)
end Go.Proofs.Ytggfnakhmjkoeaa

namespace Go.Proofs.Ytggfnakhmjkoeaa
open Go Go.V Go.Proofs
open Go.RowKit (Below)

set_option maxRecDepth 100000 in
theorem c46 (w : World) (s : ByteArray) (a2 : Option Addr) (l2 c2 : Nat) (a3 : Option Addr) (l3 c3 : Nat) (x4 : Int) (p : PropS) (h : PropAt w s a2 l2 a3 l3 x4 p)
    (a5 : Option Addr) (l5 c5 : Nat) (vs : List Int) (hvs : Ints w a5 l5 vs) (hvb : ∀ x ∈ vs, -9223372036854775808 ≤ x ∧ x ≤ 9223372036854775807) :
    Calls Try.prog 46 #[.agg #[.string s, .slice a2 l2 c2, .slice a3 l3 c3, .int .i64 x4], .slice a5 l5 c5] w fun en w' => ∃ r, en = .returned (.bool r) ∧ (r = holdsS p vs ∧ Ext w w') := by
  have hP := h
  obtain ⟨pk, pv, pc, pn⟩ := p
  obtain ⟨rfl, hv2, hc, hx4, hl2, hl3⟩ := h
  simp only at hv2 hc hl2 hl3 hx4
  subst hx4
  have hl5 : l5 = vs.length := hvs.1
  have hl2' : l2 = pv.length := hv2.1
  have hl3' : l3 = pc.length := hc.1
  refine calls46 _ _ _ _ _ _ _ _ _ _ _ _ w ?_
  refine AllocK.mk fun b w7 hb hblk hx7 => ?_
  have hcell := fun (w' : World) (k : Ext w7 w') => blk4 (hblk.ext k)
  have hc7 := hcell w7 (Ext.refl _)
  refine ⟨_, hc7.1, _, _, _, hc7.2.1, _, _, _, hc7.2.2.1, _, hc7.2.2.2, ?_⟩
  rw [hl5]
  refine (c17 w7 _ _ _ _ _ _ _ _ _ _ (hP.ext hx7)).mono ?_
  rintro en w13 ⟨q, rfl, rfl, hx13⟩
  have hB13 := hx7.trans hx13
  refine ⟨_, rfl, BoolK.mk (fun t => ?_) (fun t => ?_)⟩
  · simp at t; exact ⟨by rw [holdsS, t]; rfl, hB13⟩
  have hpr : propB ⟨pk, pv, pc, pn⟩ vs.length = true := by simpa using t
  have hS : holdsS ⟨pk, pv, pc, pn⟩ vs = holdsK (kdOf pk) pc pn (xsOf ⟨pk, pv, pc, pn⟩ vs) := by rw [holdsS, hpr, Bool.true_and]
  rw [hS]
  have hxlen : (xsOf ⟨pk, pv, pc, pn⟩ vs).length = pv.length := by simp [xsOf]
  have hxget : ∀ (i : Nat) (hi : i < pv.length), (xsOf ⟨pk, pv, pc, pn⟩ vs).getD i 0 = vs.getD pv[i].toNat 0 := fun i hi => by
    rw [getD_get (by rw [hxlen]; exact hi)]; simp [xsOf]
  have hvar : ∀ i (hi : i < pv.length), 0 ≤ pv[i] ∧ pv[i] < (vs.length : Int) := fun i hi => by
    simp only [propB, Bool.and_eq_true, List.all_eq_true] at hpr
    simpa using hpr.1.2 _ (List.getElem_mem hi)
  have hxb : ∀ y ∈ xsOf ⟨pk, pv, pc, pn⟩ vs, -9223372036854775808 ≤ y ∧ y ≤ 9223372036854775807 := fun y hy => by
    obtain ⟨i, hi, rfl⟩ := List.mem_iff_getElem.1 hy
    rw [hxlen] at hi
    have := hxget i hi
    rw [getD_get (by rw [hxlen]; exact hi)] at this
    rw [this]
    have hv := hvar i hi
    rw [getD_get (show pv[i].toNat < vs.length by omega)]
    exact hvb _ (List.getElem_mem _)
  have hk : kindB (kdOf pk) pv.length pc.length pc pn = true := by
    simp only [propB, Bool.and_eq_true] at hpr; exact hpr.2
  generalize xsOf ⟨pk, pv, pc, pn⟩ vs = xs at hxlen hxget hxb ⊢
  have hv40 : pv.length ≤ 40 := by
    revert hk; cases kdOf pk <;> simp [kindB] <;> omega
  have hv1 : 1 ≤ pv.length := by
    revert hk; cases kdOf pk <;> simp [kindB] <;> omega
  refine ⟨fun a l c i w' => ∃ k : Nat, i = k ∧ k ≤ pv.length ∧ OwnR w13.heap.size 3 1 eI w' a l c (xs.take k) ∧ Ext w13 w', fun _ _ _ i _ => pv.length - i.toNat,
    ⟨⟨0, rfl, by omega, OwnR.nil _ _ _ _ _, Ext.refl _⟩, trivial⟩, ?_⟩
  rintro w21 a18 l18 c18 _ ⟨k, rfl, hkl, ho, hx21⟩
  have hB21 := hB13.trans hx21
  have h21 := hx13.trans hx21
  have hc21 := hcell w21 h21
  refine ⟨_, _, _, hc21.2.1, BoolK.mk (fun hlt => ⟨_, _, _, hc21.2.1, ?_⟩) (fun hge => ?_)⟩
  · have hlt : k < pv.length := by simp at hlt; omega
    obtain ⟨b1, o1, rfl, g1⟩ := intAt hv2 w21 hB21 hlt
    have hvk := hvar k hlt
    obtain ⟨b2, o2, rfl, g2⟩ := intAt hvs w21 hB21 (i := pv[k].toNat) (by omega)
    refine ⟨by omega, ?_⟩
    simp only [AddrK, Int.toNat_natCast, add_mk, Nat.mul_one]
    refine ⟨_, g1, by omega, _, g2, ?_⟩
    refine OwnR.push (vs[pv[k].toNat]'(by omega)) slt22 ho hx21.size eI_len eI_one (by rw [List.length_take]; omega) rfl fun a' c' w' ho' hg _ => ?_
    rw [wrap_succ (by omega)]
    refine ⟨⟨k + 1, rfl, by omega, ?_, Below.trans hx21 (ho.below hx21.size hg)⟩, by simp; omega⟩
    have htk : xs.take (k + 1) = xs.take k ++ [vs[pv[k].toNat]'(by omega)] := by
      rw [List.take_add_one, List.getElem?_eq_getElem (by omega)]
      have := hxget k hlt
      rw [getD_get (show k < xs.length by omega), getD_get (show pv[k].toNat < vs.length by omega)] at this
      rw [this]; rfl
    rw [htk]
    have hlen : (xs.take k).length + 1 = (xs.take k ++ [vs[pv[k].toNat]'(by omega)]).length := by simp
    exact ho'
  have : k = pv.length := by simp at hge; omega
  subst this
  rw [show xs.take pv.length = xs from List.take_of_length_le (by omega)] at ho
  have hI := ho.ints
  have hl18 : l18 = xs.length := ho.1
  obtain ⟨g18, rfl, hg18, _⟩ := ho.cellAt eI_len (i := 0) (List.getElem?_eq_getElem (by omega))
  have X : ∀ (i : Nat) (_ : i < pv.length) (w' : World), Ext w21 w' → w'.cell? ⟨g18, i, none⟩ = some (.int .i64 (xs.getD i 0)) := fun i hi w' hw => by
    obtain ⟨b', o', hb', g⟩ := intAt hI w' hw (i := i) (by omega)
    simp at hb'; obtain ⟨rfl, rfl⟩ := hb'
    rw [getD_get (show i < xs.length by omega)]; simpa using g
  have XA : ∀ (i : Nat) (_ : i < pv.length) (w' : World), Ext w21 w' → w'.cell? ((⟨g18, 0, none⟩ : Addr).add i) = some (.int .i64 (xs.getD i 0)) := fun i hi w' hw => by rw [add_mk, Nat.zero_add]; exact X i hi w' hw
  have X0 : 0 < pv.length → ∀ w', Ext w21 w' → w'.cell? ((⟨g18, 0, none⟩ : Addr).add ((0 : Int).toNat * 1)) = some (.int .i64 (xs.getD 0 0)) := fun hi w' hw => by rw [add_mk]; exact X 0 hi w' hw
  have X1 : 1 < pv.length → ∀ w', Ext w21 w' → w'.cell? ((⟨g18, 0, none⟩ : Addr).add ((1 : Int).toNat * 1)) = some (.int .i64 (xs.getD 1 0)) := fun hi w' hw => by rw [add_mk]; exact X 1 hi w' hw
  have X2 : 2 < pv.length → ∀ w', Ext w21 w' → w'.cell? ((⟨g18, 0, none⟩ : Addr).add ((2 : Int).toNat * 1)) = some (.int .i64 (xs.getD 2 0)) := fun hi w' hw => by rw [add_mk]; exact X 2 hi w' hw
  have XB : ∀ i, i < pv.length → -9223372036854775808 ≤ xs.getD i 0 ∧ xs.getD i 0 ≤ 9223372036854775807 := fun i hi => by
    rw [getD_get (show i < xs.length by omega)]; exact hxb _ (List.getElem_mem _)
  have Ks : ∀ w', Ext w21 w' → w'.cell? ⟨b, 0, none⟩ = some (.string pk) := fun w' hw => by have := (hcell w' (h21.trans hw)).1; rwa [add_mk0] at this
  have Cc := fun (w' : World) (hw : Ext w21 w') => (hcell w' (h21.trans hw)).2.2.1
  have Nn := fun (w' : World) (hw : Ext w21 w') => (hcell w' (h21.trans hw)).2.2.2
  obtain ⟨k0, k1, k2, k3, k4, k5, k6, k7, k8⟩ := kd_all pk
  have k0' : (pk.toList == (⟨#[115, 117, 109]⟩ : ByteArray).toList) = _ := k0
  have k1' : (pk.toList == (⟨#[109, 111, 115, 116]⟩ : ByteArray).toList) = _ := k1
  have k2' : (pk.toList == (⟨#[117, 110, 108, 105, 107, 101]⟩ : ByteArray).toList) = _ := k2
  have k3' : (pk.toList == (⟨#[100, 105, 115, 116, 105, 110, 99, 116]⟩ : ByteArray).toList) = _ := k3
  have k4' : (pk.toList == (⟨#[112, 114, 111, 100, 117, 99, 116]⟩ : ByteArray).toList) = _ := k4
  have k5' : (pk.toList == (⟨#[109, 97, 120]⟩ : ByteArray).toList) = _ := k5
  have k6' : (pk.toList == (⟨#[101, 108, 101, 109, 101, 110, 116]⟩ : ByteArray).toList) = _ := k6
  have k7' : (pk.toList == (⟨#[114, 101, 105, 102, 121]⟩ : ByteArray).toList) = _ := k7
  refine ⟨_, Ks _ (Ext.refl _), ?_⟩
  rw [k0', k1', k2', k3', k4', k5', k6', k7']
  clear k0 k1 k2 k3 k4 k5 k6 k7 k8 k0' k2' k3' k4' k5' k6' k7'
  have r30 := Ext.refl w21
  have le1 : ∀ a b : Int, cmpI a b ≤ 0 ↔ a ≤ b := fun a b => by
    rw [cmpI]; split
    · omega
    split <;> omega
  have eq1 : ∀ a b : Int, cmpI a b = 0 ↔ a = b := fun a b => by
    rw [cmpI]; split
    · omega
    split <;> omega
  -- sum
  refine BoolK.mk (fun q => ?_) (fun q0 => ?_)
  · have e := of_decide_eq_true q
    rw [e] at hk ⊢
    simp only [kindB, Bool.and_eq_true, decide_eq_true_eq] at hk
    have hcb : ∀ y ∈ pc, -1000000 ≤ y ∧ y ≤ 1000000 := fun y hy => of_decide_eq_true (List.all_eq_true.1 hk.1.2 y hy)
    have hnb : -1000000 ≤ pn ∧ pn ≤ 1000000 := of_decide_eq_true hk.2
    refine DrewK.mk fun w31 hx31 => ⟨_, _, _, Cc _ hx31, _, Nn _ hx31, ?_⟩
    refine (c76 w31 _ _ _ _ _ _ pc xs (hc.ext RInt.mono (hB21.trans hx31)) (hI.ext RInt.mono hx31) (by omega) (by omega) hcb hxb).mono ?_
    rintro en w36 ⟨h, l, rfl, hW, hx36⟩
    refine ⟨_, _, rfl, hx36, (c75 w36 _ _ _ _ hW (by omega)).mono ?_⟩
    rintro en w39 ⟨x, rfl, rfl, hx39⟩
    refine ⟨_, rfl, hx36.trans hx39, ?_, hB21.trans (hx31.trans (hx36.trans hx39))⟩
    simp only [holdsK]
    rw [Bool.eq_iff_iff, beq_iff_eq, decide_eq_true_eq]; exact eq1 _ _
  -- most
  refine BoolK.mk (fun q => ?_) (fun q1 => ?_)
  · have e := of_decide_eq_true q
    rw [e] at hk ⊢
    simp only [kindB, Bool.and_eq_true, decide_eq_true_eq] at hk
    have hcb : ∀ y ∈ pc, -1000000 ≤ y ∧ y ≤ 1000000 := fun y hy => of_decide_eq_true (List.all_eq_true.1 hk.1.2 y hy)
    have hnb : -1000000 ≤ pn ∧ pn ≤ 1000000 := of_decide_eq_true hk.2
    refine DrewK.mk fun w31 hx31 => ⟨_, _, _, Cc _ hx31, _, Nn _ hx31, ?_⟩
    refine (c76 w31 _ _ _ _ _ _ pc xs (hc.ext RInt.mono (hB21.trans hx31)) (hI.ext RInt.mono hx31) (by omega) (by omega) hcb hxb).mono ?_
    rintro en w36 ⟨h, l, rfl, hW, hx36⟩
    refine ⟨_, _, rfl, hx36, (c75 w36 _ _ _ _ hW (by omega)).mono ?_⟩
    rintro en w39 ⟨x, rfl, rfl, hx39⟩
    refine ⟨_, rfl, hx36.trans hx39, ?_, hB21.trans (hx31.trans (hx36.trans hx39))⟩
    simp only [holdsK]
    rw [decide_eq_decide]; exact le1 _ _
  -- unlike
  refine BoolK.mk (fun q => ?_) (fun q2 => ?_)
  · have e := of_decide_eq_true q
    rw [e] at hk ⊢
    simp only [kindB, Bool.and_eq_true, decide_eq_true_eq] at hk
    have hnr : -1000000 ≤ pn ∧ pn ≤ 1000000 := of_decide_eq_true hk.2
    refine DrewK.mk fun w51 hx51 => ⟨_, Nn _ hx51, AllocK.mk fun b53 w54 _ hbk54 hx54 => ⟨hx54, ?_⟩⟩
    refine (c76 w54 _ 2 2 _ _ _ [-1, 1] xs (ints2_lit hbk54) (hI.ext RInt.mono (hx51.trans hx54)) (by simp; omega) (by omega) (by simp) hxb).mono ?_
    rintro en w57 ⟨h, l, rfl, hW, hx57⟩
    refine ⟨_, _, rfl, hx54.trans hx57, (c75 w57 _ _ _ _ hW (by omega)).mono ?_⟩
    rintro en w60 ⟨x, rfl, rfl, hx60⟩
    refine ⟨_, rfl, hx54.trans (hx57.trans hx60), ?_, hB21.trans (hx51.trans (hx54.trans (hx57.trans hx60)))⟩
    simp only [holdsK]
    have hd : dotS [-1, 1] xs xs.length = -1 * xs.getD 0 0 + 1 * xs.getD 1 0 := by rw [show xs.length = 2 by omega]; simp [dotS]
    rw [hd, Bool.eq_iff_iff, Bool.not_eq_true', decide_eq_false_iff_not, bne_iff_ne, ne_eq, eq1]; omega
  -- distinct
  refine BoolK.mk (fun q => ?_) (fun q3 => ?_)
  · have e := of_decide_eq_true q
    rw [e] at hk ⊢
    simp only [holdsK]
    refine ⟨fun i w' => ∃ k : Nat, i = k ∧ k ≤ pv.length ∧ distB xs k = true ∧ Ext w21 w', fun i _ => pv.length - i.toNat, ⟨⟨0, rfl, by omega, rfl, r30⟩, trivial⟩, ?_⟩
    rintro w76 _ ⟨k, rfl, hkl, hd, hx76⟩
    refine BoolK.mk (fun hlt => ?_) (fun hge => ?_)
    · have hlt : k < pv.length := by simp at hlt; omega
      refine ⟨fun i w' => ∃ j : Nat, i = j ∧ j ≤ k ∧ (List.range j).all (fun j => !(xs.getD k 0 == xs.getD j 0)) = true ∧ Ext w76 w', fun i _ => k - i.toNat, ⟨⟨0, rfl, by omega, rfl, Ext.refl _⟩, trivial⟩, ?_⟩
      rintro w80 _ ⟨j, rfl, hj, hd2, hx80⟩
      refine BoolK.mk (fun hlt2 => ?_) (fun hge2 => ?_)
      · have hlt2 : j < k := by simp at hlt2; omega
        refine DrewK.mk fun w82 hx82 => ?_
        have hx' := hx76.trans (hx80.trans hx82)
        simp only [Int.toNat_natCast, Nat.mul_one]
        refine ⟨by omega, _, XA k hlt _ hx', by omega, _, XA j (by omega) _ hx', BoolK.mk (fun t => ?_) (fun t => ?_)⟩
        · refine ⟨?_, hB21.trans hx'⟩
          symm
          refine range_all_false (f := fun i => (List.range i).all fun j => !(xs.getD i 0 == xs.getD j 0)) (k := k) (by omega) ?_
          exact range_all_false (f := fun j => !(xs.getD k 0 == xs.getD j 0)) hlt2 (by rw [t]; rfl)
        · rw [wrap_succ (by omega)]
          exact ⟨⟨j + 1, rfl, by omega, by rw [range_all_succ, hd2, t]; rfl, hx80.trans hx82⟩, by simp; omega⟩
      · have : j = k := by simp at hge2; omega
        subst this
        rw [wrap_succ (by omega)]
        refine ⟨⟨j + 1, rfl, by omega, ?_, hx76.trans hx80⟩, by simp; omega⟩
        rw [distB, range_all_succ]
        rw [distB] at hd
        rw [hd, hd2]; rfl
    · have : k = pv.length := by simp at hge; omega
      subst this
      rw [hxlen]
      exact ⟨hd.symm, hB21.trans hx76⟩
  -- product
  refine BoolK.mk (fun q => ?_) (fun q4 => ?_)
  · have e := of_decide_eq_true q
    rw [e] at hk ⊢
    simp only [kindB, Bool.and_eq_true, decide_eq_true_eq] at hk
    refine DrewK.mk fun w85 hx85 => ⟨by omega, _, X0 (by omega) _ hx85, by omega, _, X1 (by omega) _ hx85, by omega, _, X2 (by omega) _ hx85, ?_⟩
    refine (c77 w85 _ _ _ (XB 0 (by omega)) (XB 1 (by omega)) (XB 2 (by omega))).mono ?_
    rintro en w91 ⟨q, rfl, rfl, hx91⟩
    exact ⟨_, rfl, hx91, rfl, hB21.trans (hx85.trans hx91)⟩
  -- element
  refine BoolK.mk (fun q => ?_) (fun q5 => ?_)
  · have e := of_decide_eq_true q
    rw [e] at hk ⊢
    simp only [kindB, Bool.and_eq_true, decide_eq_true_eq] at hk
    simp only [holdsK]
    refine DrewK.mk fun w97 hx97 => ⟨by omega, _, X0 (by omega) _ hx97, BoolK.mk (fun t => ⟨by omega, _, X0 (by omega) _ hx97, _, _, _, Cc _ hx97, BoolK.mk (fun t2 => ⟨_, _, _, Cc _ hx97, by omega, _, X0 (by omega) _ hx97, ?_⟩) (fun t2 => ?_)⟩) (fun t => ?_)⟩
    · have t : 1 ≤ xs.getD 0 0 := by simpa using t
      have t2 : xs.getD 0 0 ≤ pc.length := by rw [← hl3']; simpa using t2
      rw [wrap_id (by omega) (by omega)]
      obtain ⟨b1, o1, rfl, g1⟩ := intAt hc w97 (hB21.trans hx97) (i := (xs.getD 0 0 - 1).toNat) (by omega)
      refine ⟨by omega, ?_⟩
      simp only [AddrK]
      rw [add_mk, Nat.mul_one]
      refine ⟨_, g1, by omega, _, X1 (by omega) _ hx97, ?_, hB21.trans hx97⟩
      rw [decide_eq_true t, decide_eq_true t2, Bool.true_and, Bool.true_and, getD_get (show (xs.getD 0 0 - 1).toNat < pc.length by omega)]
      rfl
    · have t2 : ¬ xs.getD 0 0 ≤ pc.length := by rw [← hl3']; simpa using t2
      exact ⟨by rw [decide_eq_false t2, Bool.false_and, Bool.and_false], hB21.trans hx97⟩
    · have t : ¬ 1 ≤ xs.getD 0 0 := by simpa using t
      exact ⟨by rw [decide_eq_false t, Bool.false_and], hB21.trans hx97⟩
  -- max
  refine BoolK.mk (fun q => ?_) (fun q6 => ?_)
  · have e := of_decide_eq_true q
    rw [e] at hk ⊢
    simp only [kindB, Bool.and_eq_true, decide_eq_true_eq] at hk
    simp only [holdsK]
    exact DrewK.mk fun w97 hx97 => ⟨by omega, _, X2 (by omega) _ hx97, by omega, _, X0 (by omega) _ hx97, by omega, _, X1 (by omega) _ hx97, rfl, hB21.trans hx97⟩
  -- reify
  have A0 : 0 ≤ (0 : Int) ∧ (0 : Int) < ((l18 : Nat) : Int) := by omega
  have Y0 := X0 (by omega)
  refine BoolK.mk (fun q => ?_) (fun q7 => ?_)
  · have e := of_decide_eq_true q
    rw [e] at hk ⊢
    simp only [kindB, Bool.and_eq_true, decide_eq_true_eq] at hk
    have hnr : -1000000 ≤ pn ∧ pn ≤ 1000000 := of_decide_eq_true hk.2
    simp only [holdsK]
    have A1 : 0 ≤ (1 : Int) ∧ (1 : Int) < ((l18 : Nat) : Int) := by omega
    have A2 : 0 ≤ (2 : Int) ∧ (2 : Int) < ((l18 : Nat) : Int) := by omega
    have Y1 := X1 (by omega); have Y2 := X2 (by omega)
    clear X0 X1 X2 hcell hblk
    refine DrewK.mk fun w105 hx105 => ⟨A0, _, Y0 _ hx105, ?_⟩
    have L : ∀ w', Ext w105 w' → xs.getD 0 0 = 0 → Calls Try.prog 78 #[.int .i64 (xs.getD 1 0), .int .i64 (xs.getD 2 0), .int .i64 pn] w' fun en w'' => ∃ q, en = .returned (.bool q) ∧ (Below w105.heap.size w105 w'' ∧ ((!q) = decide (xs.getD 0 0 = if xs.getD 1 0 ≤ xs.getD 2 0 + pn then 1 else 0) ∧ Ext w w'')) := fun w' hw h0 => by
      refine (c78 w' _ _ _ (XB 1 (by omega)) (XB 2 (by omega)) (by omega)).mono ?_
      rintro en w'' ⟨x, rfl, rfl, hx''⟩
      refine ⟨_, rfl, hw.trans hx'', ?_, hB21.trans (hx105.trans (hw.trans hx''))⟩
      rw [h0, Bool.eq_iff_iff, Bool.not_eq_true', decide_eq_false_iff_not, decide_eq_true_eq]
      split <;> omega
    refine BoolK.mk (fun t => ?_) (fun t => ?_)
    · have t : xs.getD 0 0 = 1 := by simpa using t
      refine ⟨A1, _, Y1 _ hx105, A2, _, Y2 _ hx105, _, Nn _ hx105, (c78 w105 _ _ _ (XB 1 (by omega)) (XB 2 (by omega)) (by omega)).mono ?_⟩
      rintro en w114 ⟨x, rfl, rfl, hx114⟩
      have hx' := hx105.trans hx114
      refine ⟨_, rfl, hx114, BoolK.mk (fun t2 => ?_) (fun t2 => ?_)⟩
      · have t2 := of_decide_eq_true t2
        have kT : (true = decide (xs.getD 0 0 = if xs.getD 1 0 ≤ xs.getD 2 0 + pn then 1 else 0)) ∧ Ext w w114 := ⟨by rw [if_pos t2, t]; rfl, hB21.trans hx'⟩
        repeat' first | exact kT | apply And.intro
      · have t2 := of_decide_eq_false t2
        refine ⟨A0, _, Y0 _ hx', hx114, BoolK.mk (fun t3 => ?_) (fun t3 => ?_)⟩
        · have : xs.getD 0 0 = 0 := by simpa using t3
          omega
        · have kF : (false = decide (xs.getD 0 0 = if xs.getD 1 0 ≤ xs.getD 2 0 + pn then 1 else 0)) ∧ Ext w w114 := ⟨by rw [if_neg t2, t]; rfl, hB21.trans hx'⟩
          repeat' first | exact kF | apply And.intro
    · have t : xs.getD 0 0 ≠ 1 := by simpa using t
      refine ⟨A0, _, Y0 _ hx105, Ext.refl _, BoolK.mk (fun t3 => ?_) (fun t3 => ?_)⟩
      · have t3 : xs.getD 0 0 = 0 := by simpa using t3
        have LL := L w105 (Ext.refl _) t3
        have y1 := Y1 _ hx105; have y2 := Y2 _ hx105; have nn := Nn _ hx105
        have r105 := Ext.refl w105
        repeat' first
          | exact LL
          | exact A1
          | exact A2
          | exact r105
          | refine ⟨_, y1, ?_⟩
          | refine ⟨_, y2, ?_⟩
          | refine ⟨_, nn, ?_⟩
          | apply And.intro
      · have t3 : xs.getD 0 0 ≠ 0 := by simpa using t3
        have kF : (false = decide (xs.getD 0 0 = if xs.getD 1 0 ≤ xs.getD 2 0 + pn then 1 else 0)) ∧ Ext w w105 := ⟨by symm; rw [decide_eq_false_iff_not]; split <;> omega, hB21.trans hx105⟩
        repeat' first | exact kF | apply And.intro
  -- apart
  have e : kdOf pk = .apart := by
    simp at q0 q1 q2 q3 q4 q5 q6 q7
    cases hh : kdOf pk <;> simp_all [kindB]
  rw [e] at hk ⊢
  simp only [kindB, Bool.and_eq_true, decide_eq_true_eq] at hk
  simp only [holdsK]
  obtain ⟨e0, e1, rfl⟩ : ∃ x y, pc = [x, y] := by
    match pc, hk.1.2 with
    | [x, y], _ => exact ⟨x, y, rfl⟩
    | [], h1 => simp at h1
    | [_], h1 => simp at h1
    | _ :: _ :: _ :: _, h1 => simp at h1
  have hcc : (0 ≤ e0 ∧ e0 ≤ 1000000) ∧ (0 ≤ e1 ∧ e1 ≤ 1000000) := by simpa using hk.2
  obtain ⟨bc, oc, rfl, _⟩ := intAt hc w (Ext.refl w) (i := 0) (by simp)
  have C0 : ∀ w', Ext w21 w' → w'.cell? ((⟨bc, oc, none⟩ : Addr).add ((0 : Int).toNat * 1)) = some (.int .i64 e0) := fun w' hw => by
    obtain ⟨b', o', hb', g⟩ := intAt hc w' (hB21.trans hw) (i := 0) (by simp)
    simp at hb'; obtain ⟨rfl, rfl⟩ := hb'
    rw [add_mk]; exact g
  have C1 : ∀ w', Ext w21 w' → w'.cell? ((⟨bc, oc, none⟩ : Addr).add ((1 : Int).toNat * 1)) = some (.int .i64 e1) := fun w' hw => by
    obtain ⟨b', o', hb', g⟩ := intAt hc w' (hB21.trans hw) (i := 1) (by simp)
    simp at hb'; obtain ⟨rfl, rfl⟩ := hb'
    rw [add_mk]; exact g
  have l3two : l3 = 2 := hl3'
  subst l3two
  have Y1 := X1 (by omega)
  have A1 : 0 ≤ (1 : Int) ∧ (1 : Int) < ((l18 : Nat) : Int) := by omega
  have B0 : 0 ≤ (0 : Int) ∧ (0 : Int) < ((2 : Nat) : Int) := by omega
  have B1 : 0 ≤ (1 : Int) ∧ (1 : Int) < ((2 : Nat) : Int) := by omega
  clear X0 X1 X2 hcell hblk
  refine DrewK.mk fun w119 hx119 => ⟨A0, _, Y0 _ hx119, A1, _, Y1 _ hx119, _, _, _, Cc _ hx119, B0, _, C0 _ hx119, ?_⟩
  have wn0 : IntKind.wrap .i64 (0 - e0) = -e0 := by rw [wrap_id] <;> omega
  have wn1 : IntKind.wrap .i64 (0 - e1) = -e1 := by rw [wrap_id] <;> omega
  simp only [wn0]
  refine (c78 w119 _ _ _ (XB 0 (by omega)) (XB 1 (by omega)) (by omega)).mono ?_
  rintro en w126 ⟨x, rfl, rfl, hx126⟩
  have hx' := hx119.trans hx126
  refine ⟨_, rfl, hx126, ?_⟩
  refine BoolK.mk (fun t => ?_) (fun t => ?_)
  · have t := of_decide_eq_true t
    have kT : (true = (decide (xs.getD 0 0 + [e0, e1].getD 0 0 ≤ xs.getD 1 0) || decide (xs.getD 1 0 + [e0, e1].getD 1 0 ≤ xs.getD 0 0)) ∧ Ext w w126) := ⟨by rw [show ([e0, e1] : List Int).getD 0 0 = e0 from rfl, decide_eq_true (by omega)]; rfl, hB21.trans hx'⟩
    repeat' first | exact kT | apply And.intro
  · have t := of_decide_eq_false t
    have LL : Calls Try.prog 78 #[.int .i64 (xs.getD 1 0), .int .i64 (xs.getD 0 0), .int .i64 (IntKind.wrap .i64 (0 - e1))] w126 fun en w'' => ∃ q, en = .returned (.bool q) ∧ (Below w119.heap.size w119 w'' ∧ (q = (decide (xs.getD 0 0 + [e0, e1].getD 0 0 ≤ xs.getD 1 0) || decide (xs.getD 1 0 + [e0, e1].getD 1 0 ≤ xs.getD 0 0)) ∧ Ext w w'')) := by
      rw [wn1]
      refine (c78 w126 _ _ _ (XB 1 (by omega)) (XB 0 (by omega)) (by omega)).mono ?_
      rintro en w'' ⟨x, rfl, rfl, hx''⟩
      refine ⟨_, rfl, hx126.trans hx'', ?_, hB21.trans (hx119.trans (hx126.trans hx''))⟩
      rw [show ([e0, e1] : List Int).getD 0 0 = e0 from rfl, show ([e0, e1] : List Int).getD 1 0 = e1 from rfl, decide_eq_false (p := xs.getD 0 0 + e0 ≤ xs.getD 1 0) (by omega), Bool.false_or, decide_eq_decide]
      omega
    have y0 := Y0 _ hx'; have y1 := Y1 _ hx'; have cc := Cc _ hx'; have q1 := C1 _ hx'
    repeat' first
      | exact LL
      | exact A0
      | exact A1
      | exact B1
      | exact hx126
      | refine ⟨_, y0, ?_⟩
      | refine ⟨_, y1, ?_⟩
      | refine ⟨_, q1, ?_⟩
      | refine ⟨_, _, _, cc, ?_⟩
      | apply And.intro
end Go.Proofs.Ytggfnakhmjkoeaa

namespace Go.Proofs.Ytggfnakhmjkoeaa
open Go Go.V Go.Proofs
open Go.RowKit (Below)
/-! manystrand/manystrandlaw06.DomainHolds -/
def N8 (s1 : ByteArray) (a2 : Option Addr) (l2 : Nat) (c2 : Nat) (a3 : Option Addr) (l3 : Nat) (c3 : Nat) (x4 : Int) (a5 : Option Addr) (l5 : Nat) (c5 : Nat) (K : Bool → World → Prop) (w : World) : Prop :=
  AllocK w (#[(.string s1), (.slice a2 l2 c2), (.slice a3 l3 c3), (.int .i64 x4)]) 24 fun b6 w7 =>
  ∃ (J8 : Bool → World → Prop),
  (∀ (w9 : World) (p10 : Bool), J8 p10 w9 →
    BoolK p10
    (Calls Try.prog 12 #[] w9 fun e13 w12 =>
      ∃ (p11 : Bool), e13 = .returned (.bool p11) ∧
      (K p11 w12))
    (DrewK w9 fun w14 =>
      ∃ (s15 : ByteArray), w14.cell? (b6.add 0) = some (.string s15) ∧
      (∃ (a16 : Option Addr) (l16 : Nat) (c16 : Nat), w14.cell? (b6.add 1) = some (.slice a16 l16 c16) ∧
        (∃ (a17 : Option Addr) (l17 : Nat) (c17 : Nat), w14.cell? (b6.add 2) = some (.slice a17 l17 c17) ∧
          (∃ (x18 : Int), w14.cell? (b6.add 3) = some (.int .i64 x18) ∧
            (∃ (s19 : ByteArray), w14.cell? (b6.add 0) = some (.string s19) ∧
              (∃ (a20 : Option Addr) (l20 : Nat) (c20 : Nat), w14.cell? (b6.add 1) = some (.slice a20 l20 c20) ∧
                (∃ (a21 : Option Addr) (l21 : Nat) (c21 : Nat), w14.cell? (b6.add 2) = some (.slice a21 l21 c21) ∧
                  (∃ (x22 : Int), w14.cell? (b6.add 3) = some (.int .i64 x22) ∧
                    (Calls Try.prog 45 #[(.agg #[(.string s15), (.slice a16 l16 c16), (.slice a17 l17 c17), (.int .i64 x18)]), (.slice a5 l5 c5)] w14 fun e25 w24 =>
                      ∃ (p23 : Bool), e25 = .returned (.bool p23) ∧
                      (Below w14.heap.size w14 w24 ∧
                        (Calls Try.prog 46 #[(.agg #[(.string s19), (.slice a20 l20 c20), (.slice a21 l21 c21), (.int .i64 x22)]), (.slice a5 l5 c5)] w24 fun e28 w27 =>
                          ∃ (p26 : Bool), e28 = .returned (.bool p26) ∧
                          (Below w14.heap.size w14 w27 ∧
                            (BoolK (p23 == p26)
                              (Calls Try.prog 12 #[] w27 fun e31 w30 =>
                                ∃ (p29 : Bool), e31 = .returned (.bool p29) ∧
                                (Below w14.heap.size w14 w30 ∧
                                  (K p29 w30)))
                              (K false w27))))))))))))))) ∧
  (∃ (s32 : ByteArray), w7.cell? (b6.add 0) = some (.string s32) ∧
    (∃ (a33 : Option Addr) (l33 : Nat) (c33 : Nat), w7.cell? (b6.add 1) = some (.slice a33 l33 c33) ∧
      (∃ (a34 : Option Addr) (l34 : Nat) (c34 : Nat), w7.cell? (b6.add 2) = some (.slice a34 l34 c34) ∧
        (∃ (x35 : Int), w7.cell? (b6.add 3) = some (.int .i64 x35) ∧
          (AllocK w7 (#[(.string s32), (.slice a33 l33 c33), (.slice a34 l34 c34), (.int .i64 x35)]) 24 fun b36 w37 =>
            Calls Try.prog 11 #[(.slice none 0 0), (.slice (some b36) 1 1)] w37 fun e40 w39 =>
            ∃ (p38 : Bool), e40 = .returned (.bool p38) ∧
            (BoolK (!p38)
              (J8 true w39)
              (J8 (decide (((l5 : Nat) : Int) > 100)) w39)))))))
def ann8 : Ann := (.two .nil (.two (.cut [(13, (.one .bool))] [1, 2] .nil (.two (.two .nil .nil) .nil)) (.two (.any 11 (.take 0 (.take 1 (.take 3 (.take 4 (.one 2 (.one 5 (.take 6 (.take 7 (.one 8 (.take 9 (.take 10 .done)))))))))))) .nil)))
noncomputable def code8 : Code := match Try.f8.body with | some c => c | none => .skip
theorem wp8 (s1 : ByteArray) (a2 : Option Addr) (l2 : Nat) (c2 : Nat) (a3 : Option Addr) (l3 : Nat) (c3 : Nat) (x4 : Int) (a5 : Option Addr) (l5 : Nat) (c5 : Nat) (K : Bool → World → Prop) (w : World) : WP Try.prog tab code8 ann8 (fnQ tab Try.f8.results.toList [(.one .bool)] K) (argE 0 [(.agg #[(.string s1), (.slice a2 l2 c2), (.slice a3 l3 c3), (.int .i64 x4)]), (.slice a5 l5 c5)]) w = N8 s1 a2 l2 c2 a3 l3 c3 x4 a5 l5 c5 K w := by kernel_rfl
theorem calls8 (s1 : ByteArray) (a2 : Option Addr) (l2 : Nat) (c2 : Nat) (a3 : Option Addr) (l3 : Nat) (c3 : Nat) (x4 : Int) (a5 : Option Addr) (l5 : Nat) (c5 : Nat) (K : Bool → World → Prop) (w : World) (h : N8 s1 a2 l2 c2 a3 l3 c3 x4 a5 l5 c5 K w) : Calls Try.prog 8 #[(.agg #[(.string s1), (.slice a2 l2 c2), (.slice a3 l3 c3), (.int .i64 x4)]), (.slice a5 l5 c5)] w fun en w' => ∃ (p41 : Bool), en = .returned (.bool p41) ∧ K p41 w' :=
  have e : (fun en w' => ExShs [(.one .bool)] fun vs => en = .returned (tupled vs) ∧ ap [(.one .bool)] K vs fun p => p w') = (fun (en : Ending) (w' : World) => ∃ (p41 : Bool), en = .returned (.bool p41) ∧ K p41 w') := by kernel_rfl
  e ▸ fn_sound tabOk mixed Try.func8 (by kernel_rfl : Try.f8.body = some code8) ann8 [(.agg #[(.string s1), (.slice a2 l2 c2), (.slice a3 l3 c3), (.int .i64 x4)]), (.slice a5 l5 c5)] [(.one .bool)] K w (by kernel_rfl) ((wp8 s1 a2 l2 c2 a3 l3 c3 x4 a5 l5 c5 K w).symm ▸ h)
end Go.Proofs.Ytggfnakhmjkoeaa

namespace Go.Proofs.Ytggfnakhmjkoeaa
open Go Go.V Go.Proofs
open Go.RowKit (Below)

theorem c8 (w : World) (s : ByteArray) (a2 : Option Addr) (l2 c2 : Nat) (a3 : Option Addr) (l3 c3 : Nat) (x4 : Int) (p : PropS) (h : PropAt w s a2 l2 a3 l3 x4 p)
    (a5 : Option Addr) (l5 c5 : Nat) (vs : List Int) (hvs : Ints w a5 l5 vs) (hvb : ∀ x ∈ vs, -9223372036854775808 ≤ x ∧ x ≤ 9223372036854775807) :
    Calls Try.prog 8 #[.agg #[.string s, .slice a2 l2 c2, .slice a3 l3 c3, .int .i64 x4], .slice a5 l5 c5] w fun en w' => en = .returned (.bool true) ∧ Ext w w' := by
  have key : ∀ (K : Bool → World → Prop), (∀ w', Ext w w' → K true w') → N8 s a2 l2 c2 a3 l3 c3 x4 a5 l5 c5 K w := fun K hK => by
    refine AllocK.mk fun b w7 hb hblk hx7 => ?_
    have hcell := fun (w' : World) (k : Ext w7 w') => blk4 (hblk.ext k)
    refine ⟨fun _ w' => Ext w7 w', ?_, ?_⟩
    · rintro w9 q hx9
      have hB9 := hx7.trans hx9
      refine BoolK.mk (fun _ => ?_) (fun _ => DrewK.mk fun w14 hx14 => ?_)
      · refine (c12 w9).mono ?_
        rintro en w9' ⟨q, rfl, rfl, hx⟩
        exact ⟨_, rfl, hK _ (hB9.trans hx)⟩
      have hc := hcell w14 (hx9.trans hx14)
      have hB14 := hB9.trans hx14
      refine ⟨_, hc.1, _, _, _, hc.2.1, _, _, _, hc.2.2.1, _, hc.2.2.2, _, hc.1, _, _, _, hc.2.1, _, _, _, hc.2.2.1, _, hc.2.2.2, ?_⟩
      refine (c45 w14 _ _ _ _ _ _ _ _ p (h.ext hB14) _ _ _ vs (hvs.ext RInt.mono hB14) hvb).mono ?_
      rintro en w24 ⟨q1, rfl, rfl, hx24⟩
      refine ⟨_, rfl, hx24, (c46 w24 _ _ _ _ _ _ _ _ p (h.ext (hB14.trans hx24)) _ _ _ vs (hvs.ext RInt.mono (hB14.trans hx24)) hvb).mono ?_⟩
      rintro en w27 ⟨q2, rfl, rfl, hx27⟩
      refine ⟨_, rfl, hx24.trans hx27, BoolK.mk (fun _ => ?_) (fun t => by simp at t)⟩
      refine (c12 w27).mono ?_
      rintro en w30 ⟨q, rfl, rfl, hx⟩
      exact ⟨_, rfl, (hx24.trans hx27).trans hx, hK _ (hB14.trans ((hx24.trans hx27).trans hx))⟩
    · have hc := hcell w7 (Ext.refl _)
      refine ⟨_, hc.1, _, _, _, hc.2.1, _, _, _, hc.2.2.1, _, hc.2.2.2, AllocK.mk fun b36 w37 _ hblk37 hx37 => ?_⟩
      have hPs : Props w37 (some ⟨b36, 0, none⟩) 1 [p] := Rows.lit hblk37 [p] fun i q hi => by
        have : i = 0 := by have := (List.getElem?_eq_some_iff.1 hi).1; simp at this; omega
        subst this; simp at hi; subst hi
        exact ⟨_, _, _, _, _, _, _, _, rfl, rfl, rfl, rfl, h.ext (hx7.trans hx37)⟩
      refine (c11 w37 _ _ _ _ _ _ [] [p] (Go.V.Rows.nil _ _ _ _) hPs).mono ?_
      rintro en w39 ⟨q, rfl, _, hx39⟩
      exact ⟨_, rfl, BoolK.mk (fun _ => hx37.trans hx39) (fun _ => hx37.trans hx39)⟩
  refine (calls8 _ _ _ _ _ _ _ _ _ _ _ (fun q w' => q = true ∧ Ext w w') w (key _ fun w' hx => ⟨rfl, hx⟩)).mono ?_
  rintro en w' ⟨q, rfl, rfl, hx⟩
  exact ⟨rfl, hx⟩
theorem i64s_of {w : World} {a : Option Addr} {l : Nat} {d : List Int} (h : Go.V.Rows 1 RInt64 w a l d) : ∀ x ∈ d, -9223372036854775808 ≤ x ∧ x ≤ 9223372036854775807 := fun x hx => by
  rcases h.2 with h0 | ⟨b, o, _, hh⟩
  · subst h0; cases hx
  · obtain ⟨i, hi⟩ := List.mem_iff_getElem?.1 hx
    exact (hh i x hi).2
end Go.Proofs.Ytggfnakhmjkoeaa

namespace Go.Proofs.Ytggfnakhmjkoeaa
open Go Go.V Go.Proofs
open Go.RowKit (Below)
/-! manystrand/manystrandlaw06.DomainFixes -/
def N4 (a1 : Option Addr) (l1 : Nat) (c1 : Nat) (a2 : Option Addr) (l2 : Nat) (c2 : Nat) (x3 : Int) (K : Bool → World → Prop) (w : World) : Prop :=
  Calls Try.prog 18 #[(.slice a2 l2 c2), (.slice a1 l1 c1)] w fun e6 w5 =>
  ∃ (p4 : Bool), e6 = .returned (.bool p4) ∧
  (BoolK (!p4)
    (Calls Try.prog 12 #[] w5 fun e9 w8 =>
      ∃ (p7 : Bool), e9 = .returned (.bool p7) ∧
      (K p7 w8))
    (Calls Try.prog 19 #[(.slice a1 l1 c1), (.slice a2 l2 c2)] w5 fun e13 w12 =>
      ∃ (a10 : Option Addr), ∃ (l10 : Nat), ∃ (c10 : Nat), ∃ (x11 : Int), e13 = .returned (.tuple #[(.slice a10 l10 c10), (.int .i64 x11)]) ∧
      (Calls Try.prog 20 #[(.slice a1 l1 c1), (.slice a2 l2 c2)] w12 fun e17 w16 =>
        ∃ (a14 : Option Addr), ∃ (l14 : Nat), ∃ (c14 : Nat), ∃ (x15 : Int), e17 = .returned (.tuple #[(.slice a14 l14 c14), (.int .i64 x15)]) ∧
        (BoolK ((x11 : Int) != x15)
          (K false w16)
          (Calls Try.prog 15 #[(.slice a10 l10 c10), (.slice a14 l14 c14)] w16 fun e20 w19 =>
            ∃ (p18 : Bool), e20 = .returned (.bool p18) ∧
            (BoolK (!p18)
              (K false w19)
              (Calls Try.prog 21 #[(.slice a1 l1 c1), (.slice a2 l2 c2)] w19 fun e23 w22 =>
                ∃ (p21 : Bool), e23 = .returned (.bool p21) ∧
                (Calls Try.prog 22 #[(.slice a1 l1 c1), (.slice a2 l2 c2)] w22 fun e26 w25 =>
                  ∃ (p24 : Bool), e26 = .returned (.bool p24) ∧
                  (BoolK (!(p21 == p24))
                    (K false w25)
                    (∃ (I27 : Option Addr → Nat → Nat → Int → World → Prop) (μ28 : Option Addr → Nat → Nat → Int → World → Nat),
                      (I27 none 0 0 0 w25 ∧ True) ∧
                      ∀ (w29 : World) (a30 : Option Addr) (l30 : Nat) (c30 : Nat) (x31 : Int), I27 a30 l30 c30 x31 w29 →
                      BoolK (decide ((x31 : Int) < (l1 : Nat)))
                      (((l1 : Nat) : Int) ≠ 0 ∧
                        ((0 ≤ ((IntKind.wrap .i64 ((IntKind.wrap .i64 ((IntKind.wrap .i64 ((l1 : Nat) - 1)) - x31)) + (IntKind.wrap .i64 x3)) : Int).tmod (l1 : Nat) : Int) ∧ ((IntKind.wrap .i64 ((IntKind.wrap .i64 ((IntKind.wrap .i64 ((l1 : Nat) - 1)) - x31)) + (IntKind.wrap .i64 x3)) : Int).tmod (l1 : Nat) : Int) < (l1 : Nat)) ∧
                          AddrK a1 fun b32 =>
                          ∃ (s33 : ByteArray), w29.cell? ((b32.add (((IntKind.wrap .i64 ((IntKind.wrap .i64 ((IntKind.wrap .i64 ((l1 : Nat) - 1)) - x31)) + (IntKind.wrap .i64 x3)) : Int).tmod (l1 : Nat) : Int).toNat * 4)).add 0) = some (.string s33) ∧
                          (∃ (a34 : Option Addr) (l34 : Nat) (c34 : Nat), w29.cell? ((b32.add (((IntKind.wrap .i64 ((IntKind.wrap .i64 ((IntKind.wrap .i64 ((l1 : Nat) - 1)) - x31)) + (IntKind.wrap .i64 x3)) : Int).tmod (l1 : Nat) : Int).toNat * 4)).add 1) = some (.slice a34 l34 c34) ∧
                            (∃ (a35 : Option Addr) (l35 : Nat) (c35 : Nat), w29.cell? ((b32.add (((IntKind.wrap .i64 ((IntKind.wrap .i64 ((IntKind.wrap .i64 ((l1 : Nat) - 1)) - x31)) + (IntKind.wrap .i64 x3)) : Int).tmod (l1 : Nat) : Int).toNat * 4)).add 2) = some (.slice a35 l35 c35) ∧
                              (∃ (x36 : Int), w29.cell? ((b32.add (((IntKind.wrap .i64 ((IntKind.wrap .i64 ((IntKind.wrap .i64 ((l1 : Nat) - 1)) - x31)) + (IntKind.wrap .i64 x3)) : Int).tmod (l1 : Nat) : Int).toNat * 4)).add 3) = some (.int .i64 x36) ∧
                                (AllocK w29 (#[(.string s33), (.slice a34 l34 c34), (.slice a35 l35 c35), (.int .i64 x36)]) 24 fun b37 w38 =>
                                  ∃ (a39 : Option Addr), ∃ (l39 : Nat), ∃ (c39 : Nat), ∃ (w40 : World), Sem.run Try.prog (Builtin.append_ #[27, 27] 27 #[(.slice a30 l30 c30), (.slice (some b37) 1 1)]) w38 = .ok (.slice a39 l39 c39) w40 ∧
                                  (I27 a39 l39 c39 (IntKind.wrap .i64 (x31 + 1)) w40 ∧ μ28 a39 l39 c39 (IntKind.wrap .i64 (x31 + 1)) w40 < μ28 a30 l30 c30 x31 w29)))))))
                      (Calls Try.prog 19 #[(.slice a30 l30 c30), (.slice a2 l2 c2)] w29 fun e44 w43 =>
                        ∃ (a41 : Option Addr), ∃ (l41 : Nat), ∃ (c41 : Nat), ∃ (x42 : Int), e44 = .returned (.tuple #[(.slice a41 l41 c41), (.int .i64 x42)]) ∧
                        (BoolK ((x42 : Int) != x11)
                          (K false w43)
                          (Calls Try.prog 15 #[(.slice a10 l10 c10), (.slice a41 l41 c41)] w43 fun e47 w46 =>
                            ∃ (p45 : Bool), e47 = .returned (.bool p45) ∧
                            (BoolK (!p45)
                              (K false w46)
                              (BoolK ((x11 : Int) != 0)
                                (Calls Try.prog 12 #[] w46 fun e50 w49 =>
                                  ∃ (p48 : Bool), e50 = .returned (.bool p48) ∧
                                  (K p48 w49))
                                (Calls Try.prog 19 #[(.slice a30 l30 c30), (.slice a10 l10 c10)] w46 fun e54 w53 =>
                                  ∃ (a51 : Option Addr), ∃ (l51 : Nat), ∃ (c51 : Nat), ∃ (x52 : Int), e54 = .returned (.tuple #[(.slice a51 l51 c51), (.int .i64 x52)]) ∧
                                  (BoolK ((x52 : Int) == 0)
                                    (Calls Try.prog 15 #[(.slice a10 l10 c10), (.slice a51 l51 c51)] w53 fun e57 w56 =>
                                      ∃ (p55 : Bool), e57 = .returned (.bool p55) ∧
                                      (BoolK p55
                                        (Calls Try.prog 21 #[(.slice a1 l1 c1), (.slice a10 l10 c10)] w56 fun e60 w59 =>
                                          ∃ (p58 : Bool), e60 = .returned (.bool p58) ∧
                                          (BoolK p58
                                            (Calls Try.prog 12 #[] w59 fun e63 w62 =>
                                              ∃ (p61 : Bool), e63 = .returned (.bool p61) ∧
                                              (K p61 w62))
                                            (K false w59)))
                                        (K false w56)))
                                    (K false w53))))))))))))))))))
def ann4 : Ann := (.two .nil (.two (.two .nil (.two (.two .nil .nil) .nil)) (.two .nil (.two .nil (.two (.two .nil (.two (.two .nil .nil) .nil)) (.two .nil (.two (.two .nil (.one (.loop [(11, (.one .slice)), (54, (.one (.int .i64)))] [0, 1, 2, 7, 8, 53] (.two .nil (.two (.two .nil .nil) (.two (.one (.two .nil .nil)) .nil)))))) (.two .nil (.two (.two .nil (.two (.two .nil .nil) .nil)) (.two (.two .nil (.two (.two .nil .nil) .nil)) (.two .nil (.two .nil .nil))))))))))))
noncomputable def code4 : Code := match Try.f4.body with | some c => c | none => .skip
theorem wp4 (a1 : Option Addr) (l1 : Nat) (c1 : Nat) (a2 : Option Addr) (l2 : Nat) (c2 : Nat) (x3 : Int) (K : Bool → World → Prop) (w : World) : WP Try.prog tab code4 ann4 (fnQ tab Try.f4.results.toList [(.one .bool)] K) (argE 0 [(.slice a1 l1 c1), (.slice a2 l2 c2), (.int .u8 x3)]) w = N4 a1 l1 c1 a2 l2 c2 x3 K w := by kernel_rfl
theorem calls4 (a1 : Option Addr) (l1 : Nat) (c1 : Nat) (a2 : Option Addr) (l2 : Nat) (c2 : Nat) (x3 : Int) (K : Bool → World → Prop) (w : World) (h : N4 a1 l1 c1 a2 l2 c2 x3 K w) : Calls Try.prog 4 #[(.slice a1 l1 c1), (.slice a2 l2 c2), (.int .u8 x3)] w fun en w' => ∃ (p64 : Bool), en = .returned (.bool p64) ∧ K p64 w' :=
  have e : (fun en w' => ExShs [(.one .bool)] fun vs => en = .returned (tupled vs) ∧ ap [(.one .bool)] K vs fun p => p w') = (fun (en : Ending) (w' : World) => ∃ (p64 : Bool), en = .returned (.bool p64) ∧ K p64 w') := by kernel_rfl
  e ▸ fn_sound tabOk mixed Try.func4 (by kernel_rfl : Try.f4.body = some code4) ann4 [(.slice a1 l1 c1), (.slice a2 l2 c2), (.int .u8 x3)] [(.one .bool)] K w (by kernel_rfl) ((wp4 a1 l1 c1 a2 l2 c2 x3 K w).symm ▸ h)
end Go.Proofs.Ytggfnakhmjkoeaa

namespace Go.Proofs.Ytggfnakhmjkoeaa
open Go Go.V Go.Proofs
open Go.RowKit (Below)

theorem u8_of {n : Int} (h : (Lit.int .u8 n).wf = true) : 0 ≤ n ∧ n ≤ 255 := by
  simp [Lit.wf, IntKind.min, IntKind.max, IntKind.signed, IntKind.bits] at h
  omega
/-- a propagator's own words -/
structure RawP where
  s : ByteArray
  v : Option Addr × Nat × Nat
  c : Option Addr × Nat × Nat
  n : Int
def eR (x : RawP) : List Value := [.string x.s, .slice x.v.1 x.v.2.1 x.v.2.2, .slice x.c.1 x.c.2.1 x.c.2.2, .int .i64 x.n]
theorem eR_len (x : RawP) : (eR x).length = 4 := rfl
theorem eR_one (x : RawP) (u : Value) (h : u ∈ eR x) : u.oneCell' = true := by
  simp [eR] at h; rcases h with rfl | rfl | rfl | rfl <;> rfl
theorem slt27 : SlT Try.prog 27 24 4 72 := slOk.ok (by kernel_rfl : slOk Try.prog 27 24 4 72 = true)
/-- the list qs, its own row of raw propagators -/
def PropsO (base : Nat) (w0 w : World) (a : Option Addr) (l c : Nat) (qs : List PropS) : Prop :=
  ∃ S : List RawP, S.length = qs.length ∧ OwnR base 24 4 eR w a l c S ∧ ∀ (i : Nat) (s : RawP) (q : PropS), S[i]? = some s → qs[i]? = some q → PropAt w0 s.s s.v.1 s.v.2.1 s.c.1 s.c.2.1 s.n q
theorem PropsO.props {base : Nat} {w0 w : World} {a : Option Addr} {l c : Nat} {qs : List PropS} (h : PropsO base w0 w a l c qs) (k : Ext w0 w) : Props w a l qs := by
  obtain ⟨S, h1, h2, h3⟩ := h
  refine h2.rows eR_len RProp h1.symm fun f i x y hx hy hf => ⟨x.s, x.v.1, x.v.2.1, x.v.2.2, x.c.1, x.c.2.1, x.c.2.2, x.n, ?_, ?_, ?_, ?_, (h3 i x y hx hy).ext k⟩
  · rw [hf 0 (by omega)]; rfl
  · rw [hf 1 (by omega)]; rfl
  · rw [hf 2 (by omega)]; rfl
  · rw [hf 3 (by omega)]; rfl

/-- the list turned round -/
def turned (ps : List PropS) (t : Nat) : List PropS := (List.range ps.length).map fun i => ps.getD ((ps.length - 1 - i + t) % ps.length) ⟨⟨#[]⟩, [], [], 0⟩
theorem turned_len (ps : List PropS) (t : Nat) : (turned ps t).length = ps.length := by simp [turned]
theorem turned_mem (ps : List PropS) (t : Nat) (p : PropS) : p ∈ turned ps t ↔ p ∈ ps := by
  rw [turned, List.mem_map]
  constructor
  · rintro ⟨i, hi, rfl⟩
    rw [List.mem_range] at hi
    have hm : (ps.length - 1 - i + t) % ps.length < ps.length := Nat.mod_lt _ (by omega)
    rw [getD_get hm]; exact List.getElem_mem hm
  · intro hp
    obtain ⟨j, hj, rfl⟩ := List.mem_iff_getElem.1 hp
    have hd := Nat.div_add_mod (ps.length - 1 + t - j) ps.length
    have hm : (ps.length - 1 + t - j) % ps.length < ps.length := Nat.mod_lt _ (by omega)
    refine ⟨(ps.length - 1 + t - j) % ps.length, List.mem_range.2 hm, ?_⟩
    rcases Nat.lt_or_ge t 0 with h | _
    · omega
    have e : (ps.length - 1 - (ps.length - 1 + t - j) % ps.length + t) = j + ps.length * ((ps.length - 1 + t - j) / ps.length) := by omega
    rw [e, Nat.add_mul_mod_self_left, Nat.mod_eq_of_lt hj, getD_get hj]
theorem usable_perm {ps qs : List PropS} {ls : List Dm} (hl : qs.length = ps.length) (hs : ∀ p, p ∈ qs ↔ p ∈ ps) : usableB qs ls = usableB ps ls := by
  rw [usableB, usableB, hl]
  congr 2
  rw [Bool.eq_iff_iff, List.all_eq_true, List.all_eq_true]
  exact ⟨fun h p hp => h p ((hs p).2 hp), fun h p hp => h p ((hs p).1 hp)⟩

theorem GrRes.eq {ps : List PropS} {ls : List Dm} {w1 w2 : World} {a1 a2 : Option Addr} {l1 l2 : Nat} {e1 e2 : Int} (h : GrRes ps ls w1 a1 l1 e1) (k : GrRes ps ls w2 a2 l2 e2) :
    e1 = e2 ∧ ∃ m, Doms w1 a1 l1 m ∧ Doms w2 a2 l2 m ∧ VDs m ∧ (e1 = 0 → usableB ps ls = true ∧ Gr ps ls (some m)) ∧ m.length ≤ ls.length := by
  rcases h with ⟨u, rfl, rfl, rfl⟩ | ⟨u, r, hr, h⟩
  · rcases k with ⟨_, rfl, rfl, rfl⟩ | ⟨u2, _⟩
    · exact ⟨rfl, [], Go.V.Rows.nil _ _ _ _, Go.V.Rows.nil _ _ _ _, by simp [VDs], by omega, by simp⟩
    · rw [u] at u2; cases u2
  · rcases k with ⟨u2, _⟩ | ⟨_, s, hs, k⟩
    · rw [u] at u2; cases u2
    have := hr.uniq hs
    subst this
    rcases h with ⟨rfl, rfl, rfl, rfl⟩ | ⟨m, rfl, hv, hl, rfl, hd⟩
    · rcases k with ⟨_, rfl, rfl, rfl⟩ | ⟨m, e, _⟩
      · exact ⟨rfl, [], Go.V.Rows.nil _ _ _ _, Go.V.Rows.nil _ _ _ _, by simp [VDs], by omega, by simp⟩
      · cases e
    · rcases k with ⟨e, _⟩ | ⟨m', e, hv', hl', rfl, hd'⟩
      · cases e
      · cases e
        exact ⟨rfl, m, hd, hd', hv, fun _ => ⟨u, hr⟩, by omega⟩
theorem Gr.self {ps : List PropS} {m : List Dm} (h : FixP ps m) : Gr ps m (some m) := ⟨fun m' hm => by cases hm; exact ⟨h, rfl, Sub.refl _⟩, fun z _ _ hs => ⟨m, rfl, hs⟩⟩

set_option maxRecDepth 100000 in
theorem c4 (w : World) (a1 : Option Addr) (l1 c1 : Nat) (a2 : Option Addr) (l2 c2 : Nat) (x3 : Int) (ps : List PropS) (ls : List Dm)
    (hp : Props w a1 l1 ps) (hpl : l1 ≤ maxLen) (hd : Doms w a2 l2 ls) (hdl : l2 ≤ maxLen) (hds : ∀ d ∈ ls, Sm d) (hx3 : 0 ≤ x3 ∧ x3 ≤ 255) :
    Calls Try.prog 4 #[.slice a1 l1 c1, .slice a2 l2 c2, .int .u8 x3] w fun en w' => en = .returned (.bool true) ∧ Ext w w' := by
  have el := hd.1
  have ep := hp.1
  have key : ∀ (K : Bool → World → Prop), (∀ w', Ext w w' → K true w') → N4 a1 l1 c1 a2 l2 c2 x3 K w := fun K hK => by
    have awake : ∀ w0, Ext w w0 → Calls Try.prog 12 #[] w0 fun e w' => ∃ p, e = .returned (.bool p) ∧ K p w' := fun w0 h0 => by
      refine (c12 w0).mono ?_
      rintro en w9 ⟨p, rfl, rfl, hx⟩
      exact ⟨_, rfl, hK _ (h0.trans hx)⟩
    refine (c18 w a2 l2 c2 a1 l1 c1 ls ps hd hds hdl hp hpl).mono ?_
    rintro en w5 ⟨q, rfl, hq, hx5⟩
    refine ⟨_, rfl, BoolK.mk (fun _ => awake w5 hx5) (fun t => ?_)⟩
    have hL : Light ls ps := hq (by simpa using t)
    have hl50 := hL.1
    have hp110 := hL.2.1
    have hlL : ls.length ≤ 9223372036854775807 := by omega
    refine (c19 w5 a1 l1 c1 ps (hp.ext RProp.mono hx5) a2 l2 c2 ls (hd.ext (RSl.mono RPair.mono) hx5) hlL hds).mono ?_
    rintro en w12 ⟨a10, l10, c10, x11, rfl, r1, hx12⟩
    have hB12 := hx5.trans hx12
    refine ⟨_, _, _, _, rfl, ?_⟩
    refine (c20 w12 a1 l1 c1 ps (hp.ext RProp.mono hB12) a2 l2 c2 ls (hd.ext (RSl.mono RPair.mono) hB12) hlL hds (by omega)).mono ?_
    rintro en w16 ⟨a14, l14, c14, x15, rfl, r2, hx16⟩
    have hB16 := hB12.trans hx16
    obtain ⟨rfl, m, dm1, dm2, vm, hm0, hml⟩ := r1.gr.eq r2
    refine ⟨_, _, _, _, rfl, BoolK.mk (fun t => by simp at t) (fun _ => ?_)⟩
    have dm16 := dm1.ext (RSl.mono RPair.mono) hx16
    have hmd : ∀ d ∈ m, d.length ≤ 9223372036854775807 := fun d hd => by have := (vm d hd).len; omega
    refine (c15 w16 _ _ _ _ _ _ _ _ dm16 dm2 (by omega) hmd).mono ?_
    rintro en w19 ⟨q, rfl, rfl, hx19⟩
    have hB19 := hB16.trans hx19
    refine ⟨_, rfl, BoolK.mk (fun t => by simp at t) (fun _ => ?_)⟩
    refine (c21 w19 a1 l1 c1 ps (hp.ext RProp.mono hB19) a2 l2 c2 ls (hd.ext (RSl.mono RPair.mono) hB19) hlL hds).mono ?_
    rintro en w22 ⟨q, rfl, rfl, hx22⟩
    have hB22 := hB19.trans hx22
    refine ⟨_, rfl, ?_⟩
    refine (c22 w22 a1 l1 c1 ps (hp.ext RProp.mono hB22) a2 l2 c2 ls (hd.ext (RSl.mono RPair.mono) hB22) hlL hds (by omega)).mono ?_
    rintro en w25 ⟨q, rfl, rfl, hx25⟩
    have hB25 := hB22.trans hx25
    have dm25 := dm16.ext (RSl.mono RPair.mono) ((hx19.trans hx22).trans hx25)
    refine ⟨_, rfl, BoolK.mk (fun t => by simp at t) (fun _ => ?_)⟩
    refine ⟨fun a l c i w' => ∃ k : Nat, i = k ∧ k ≤ ps.length ∧ PropsO w25.heap.size w25 w' a l c ((turned ps x3.toNat).take k) ∧ Ext w25 w', fun _ _ _ i _ => ps.length - i.toNat,
      ⟨⟨0, rfl, by omega, ⟨[], rfl, OwnR.nil _ _ _ _ _, by simp⟩, Ext.refl _⟩, trivial⟩, ?_⟩
    rintro w29 a30 l30 c30 _ ⟨k, rfl, hk, hO, hx29⟩
    have hB29 := hB25.trans hx29
    refine BoolK.mk (fun hlt => ?_) (fun hge => ?_)
    · have hlt : k < ps.length := by simp at hlt; omega
      have hmod : (ps.length - 1 - k + x3.toNat) % ps.length < ps.length := Nat.mod_lt _ (by omega)
      have w1 : IntKind.wrap .i64 ((l1 : Int) - 1) = ((ps.length - 1 : Nat) : Int) := by rw [wrap_id] <;> omega
      have w2 : IntKind.wrap .i64 (((ps.length - 1 : Nat) : Int) - (k : Int)) = ((ps.length - 1 - k : Nat) : Int) := by rw [wrap_id] <;> omega
      have w3 : IntKind.wrap .i64 x3 = (x3.toNat : Int) := by rw [wrap_id] <;> omega
      have w4 : IntKind.wrap .i64 (((ps.length - 1 - k : Nat) : Int) + (x3.toNat : Int)) = ((ps.length - 1 - k + x3.toNat : Nat) : Int) := by rw [wrap_id] <;> omega
      have w5 : (((ps.length - 1 - k + x3.toNat : Nat) : Int)).tmod (l1 : Int) = (((ps.length - 1 - k + x3.toNat) % ps.length : Nat) : Int) := by rw [ep]; rfl
      simp only [w1, w2, w3, w4, w5]
      generalize hi : (ps.length - 1 - k + x3.toNat) % ps.length = i at hmod
      obtain ⟨b1, o1, s, a2', l2', c2', a3, l3, c3, x4, rfl, h0, h1, h2, h3, hP⟩ := propAt hp w25 hB25 hmod
      refine ⟨by omega, by omega, ?_⟩
      simp only [AddrK, Int.toNat_natCast, add_mk, Nat.add_zero]
      refine ⟨_, hx29.cell h0, _, _, _, hx29.cell h1, _, _, _, hx29.cell h2, _, hx29.cell h3, ?_⟩
      obtain ⟨S, hS1, hS2, hS3⟩ := hO
      have hlen : ((turned ps x3.toNat).take k).length = k := by rw [List.length_take, turned_len]; omega
      refine OwnR.push ⟨s, (a2', l2', c2'), (a3, l3, c3), x4⟩ slt27 hS2 hx29.size eR_len eR_one (by rw [hS1, hlen]; omega) rfl fun a' c' w' ho hg _ => ?_
      have hx' := hS2.below hx29.size hg
      rw [wrap_succ (by omega)]
      have htk : (turned ps x3.toNat).take (k + 1) = (turned ps x3.toNat).take k ++ [ps[i]] := by
        rw [List.take_add_one]
        have : (turned ps x3.toNat)[k]? = some ps[i] := by
          rw [turned, List.getElem?_map, List.getElem?_range hlt, Option.map_some, hi, getD_get hmod]
        rw [this]; rfl
      refine ⟨⟨k + 1, rfl, by omega, ⟨S ++ [⟨s, (a2', l2', c2'), (a3, l3, c3), x4⟩], ?_, ho, fun j sj q hs hq => ?_⟩, Below.trans hx29 hx'⟩, by simp; omega⟩
      · rw [htk, List.length_append, List.length_append, hS1]; rfl
      · rw [htk] at hq
        rcases Nat.lt_or_ge j S.length with hj | hj
        · rw [List.getElem?_append_left hj] at hs
          rw [List.getElem?_append_left (by omega)] at hq
          exact hS3 j sj q hs hq
        · have hj' : j = S.length := by have := (List.getElem?_eq_some_iff.1 hs).1; simp at this; omega
          subst hj'
          rw [List.getElem?_append_right (Nat.le_refl _), Nat.sub_self] at hs
          rw [hS1, List.getElem?_append_right (Nat.le_refl _), Nat.sub_self] at hq
          simp at hs hq; subst hs; subst hq; exact hP
    · have : k = ps.length := by simp at hge; omega
      subst this
      have htk : (turned ps x3.toNat).take ps.length = turned ps x3.toNat := List.take_of_length_le (by rw [turned_len]; omega)
      rw [htk] at hO
      have hQ := hO.props hx29
      have hmem := turned_mem ps x3.toNat
      have hql := turned_len ps x3.toNat
      have huq := fun z => usable_perm (ls := z) hql hmem
      generalize turned ps x3.toNat = qs at hQ hmem hql huq
      have e30 := hQ.1
      refine (c19 w29 a30 l30 c30 qs hQ a2 l2 c2 ls (hd.ext (RSl.mono RPair.mono) hB29) hlL hds).mono ?_
      rintro en w43 ⟨a41, l41, c41, x42, rfl, r3, hx43⟩
      have hB43 := hB29.trans hx43
      have r3' : GrRes ps ls w43 a41 l41 x42 := by
        rcases r3.gr with ⟨u, h⟩ | ⟨u, r, hr, h⟩
        · exact .inl ⟨by rw [← huq]; exact u, h⟩
        · exact .inr ⟨by rw [← huq]; exact u, r, hr.perm fun p => (hmem p).symm, h⟩
      obtain ⟨rfl, m', dm3, dm4, vm', hm0', hml'⟩ := r1.gr.eq r3'
      have hmm : m = m' := Doms.uniq dm1 dm3
      subst hmm
      refine ⟨_, _, _, _, rfl, BoolK.mk (fun t => by simp at t) (fun _ => ?_)⟩
      have dm43 := dm25.ext (RSl.mono RPair.mono) (hx29.trans hx43)
      refine (c15 w43 _ _ _ _ _ _ _ _ dm43 dm4 (by omega) hmd).mono ?_
      rintro en w46 ⟨q, rfl, rfl, hx46⟩
      have hB46 := hB43.trans hx46
      refine ⟨_, rfl, BoolK.mk (fun t => by simp at t) (fun _ => BoolK.mk (fun _ => awake w46 hB46) (fun t => ?_))⟩
      have hx0 : x11 = 0 := by simpa using t
      obtain ⟨hu, hGr⟩ := hm0 hx0
      have hF := (hGr.fix m rfl).1
      have hml2 := (hGr.fix m rfl).2.1
      have hum : usableB ps m = true := by rw [← usable_eq (usable_props hu).1 vm hml2.symm]; exact hu
      have dm46 := dm43.ext (RSl.mono RPair.mono) hx46
      refine (c19 w46 a30 l30 c30 qs (hQ.ext RProp.mono (hx43.trans hx46)) a10 l10 c10 m dm46 (by omega) (fun d hd => (vm d hd).sm)).mono ?_
      rintro en w53 ⟨a51, l51, c51, x52, rfl, r4, hx53⟩
      have hB53 := hB46.trans hx53
      have r4' : ∃ a l, x52 = 0 ∧ a51 = a ∧ l51 = l ∧ Doms w53 a l m := by
        rcases r4.gr with ⟨u, _⟩ | ⟨u, r, hr, h⟩
        · rw [huq, hum] at u; cases u
        · have := hr.uniq (Gr.self (hF.perm fun p hp => (hmem p).1 hp))
          subst this
          rcases h with ⟨e, _⟩ | ⟨m2, e, _, _, rfl, hd2⟩
          · cases e
          · cases e; exact ⟨_, _, rfl, rfl, rfl, hd2⟩
      obtain ⟨_, _, rfl, rfl, rfl, dm5⟩ := r4'
      refine ⟨_, _, _, _, rfl, BoolK.mk (fun _ => ?_) (fun t => by simp at t)⟩
      have dm53 := dm46.ext (RSl.mono RPair.mono) hx53
      refine (c15 w53 _ _ _ _ _ _ _ _ dm53 dm5 (by omega) hmd).mono ?_
      rintro en w56 ⟨q, rfl, rfl, hx56⟩
      have hB56 := hB53.trans hx56
      refine ⟨_, rfl, BoolK.mk (fun _ => ?_) (fun t => by simp at t)⟩
      refine (c21 w56 a1 l1 c1 ps (hp.ext RProp.mono hB56) a10 l10 c10 m (dm53.ext (RSl.mono RPair.mono) hx56) (by omega) (fun d hd => (vm d hd).sm)).mono ?_
      rintro en w59 ⟨q, rfl, hq, hx59⟩
      have hst : stableB ps m = true := by
        rw [stableB, hum, hF.ok, Bool.true_and, Bool.not_false, Bool.true_and, List.all_eq_true]
        exact fun p hp => decide_eq_true (hF.keep p hp)
      rw [hst] at hq
      subst hq
      exact ⟨_, rfl, BoolK.mk (fun _ => awake w59 (hB56.trans hx59)) (fun t => by cases t)⟩
  refine (calls4 _ _ _ _ _ _ _ (fun q w' => q = true ∧ Ext w w') w (key _ fun w' hx => ⟨rfl, hx⟩)).mono ?_
  rintro en w' ⟨q, rfl, rfl, hx⟩
  exact ⟨rfl, hx⟩
end Go.Proofs.Ytggfnakhmjkoeaa
