/- A part of the proof: plain forms of functions and laws about them. -/
import Derived.Test.YtggfnakhmjkoeaaEntaD
namespace Go.Proofs.Ytggfnakhmjkoeaa
open Go Go.V Go.Proofs
open Go.RowKit (Below)

theorem c92 (w : World) (a : Option Addr) (l c : Nat) (d : Dm) (h : Dom w a l d) (hf : Full d) :
    Calls Try.prog 92 #[.slice a l c] w fun en w' => ∃ x y, en = .returned (.tuple #[.int .i64 x, .int .i64 y]) ∧ (x = mn d ∧ y = mx d ∧ Ext w w') := by
  refine calls92 _ _ _ _ w (DrewK.mk fun w2 hx => ?_)
  have hl := h.1
  have hlen := hf.vd.len
  have hpos : 0 < d.length := List.length_pos_iff.2 hf.ne
  obtain ⟨b, o, rfl, h0, _⟩ := domAt h w2 hx hpos
  obtain ⟨b', o', hb, _, h1⟩ := domAt h w2 hx (i := d.length - 1) (by omega)
  simp at hb; obtain ⟨rfl, rfl⟩ := hb
  have hw1 : IntKind.wrap .i64 ((l : Int) - 1) = ((l - 1 : Nat) : Int) := by rw [wrap_id] <;> omega
  rw [hw1]
  have h1' : w2.cell? ⟨b, o + (l - 1) * 2 + 1, none⟩ = some (.int .i64 (mx d)) := by
    rw [hl, ← mx_get (by omega)]; exact h1
  refine ⟨by omega, ?_⟩
  simp only [AddrK, add_mk, Int.toNat_zero, Int.toNat_one, Nat.zero_mul, Nat.mul_one, Nat.add_zero, Int.toNat_natCast] at h0 ⊢
  refine ⟨by omega, _, h0, by omega, by omega, _, h1', mn_get hpos, rfl, hx⟩

/-- the value of a domain that has one alone -/
def sinS (d : Dm) : Int × Bool := if mn d = mx d then (mn d, true) else (0, false)
theorem c94 (w : World) (a : Option Addr) (l c : Nat) (d : Dm) (h : Dom w a l d) (hf : Full d) :
    Calls Try.prog 94 #[.slice a l c] w fun en w' => ∃ x p, en = .returned (.tuple #[.int .i64 x, .bool p]) ∧ (x = (sinS d).1 ∧ p = (sinS d).2 ∧ Ext w w') := by
  refine calls94 _ _ _ _ w (DrewK.mk fun w2 hx => ?_)
  have hl := h.1
  have hpos : 0 < d.length := List.length_pos_iff.2 hf.ne
  obtain ⟨b, o, rfl, h0, h1⟩ := domAt h w2 hx hpos
  have em := mn_get hpos
  refine BoolK.mk (fun t => ?_) (fun t => ?_)
  · have hl1 : d.length = 1 := by simp at t; omega
    have eM : d[0].2 = mx d := by
      have := mx_get (d := d) (by omega)
      simp only [hl1] at this; exact this
    refine ⟨by omega, ?_⟩
    simp only [AddrK, add_mk, Int.toNat_zero, Int.toNat_one, Nat.zero_mul, Nat.mul_one, Nat.add_zero] at h0 h1 ⊢
    refine ⟨by omega, _, h0, by omega, by omega, _, h1, BoolK.mk (fun t2 => ?_) (fun t2 => ?_)⟩
    · have e : mn d = mx d := by rw [← em, ← eM]; simpa using t2
      exact ⟨by omega, by omega, _, h0, by rw [sinS, if_pos e]; exact em, by rw [sinS, if_pos e], hx⟩
    · have e : ¬ mn d = mx d := by rw [← em, ← eM]; simpa using t2
      exact ⟨by rw [sinS, if_neg e], by rw [sinS, if_neg e], hx⟩
  · have hl1 : d.length ≠ 1 := by simp at t; omega
    have e : ¬ mn d = mx d := by
      intro e
      cases d with
      | nil => simp at hpos
      | cons p ps =>
        cases ps with
        | nil => exact hl1 rfl
        | cons q qs =>
          have h2 := (List.pairwise_cons.1 hf.vd.pw).1
          have hlast : (p :: q :: qs).getLast? = some ((q :: qs).getLast (by simp)) := by rw [List.getLast?_cons_cons, List.getLast?_eq_some_getLast]
          have em' : mn (p :: q :: qs) = p.1 := rfl
          have eM' : mx (p :: q :: qs) = ((q :: qs).getLast (by simp)).2 := by rw [mx, hlast]
          have hm := List.getLast_mem (l := q :: qs) (by simp)
          have h3 := h2 _ hm
          have h4 := hf.vd.all _ (List.mem_cons_of_mem _ hm)
          have h5 := hf.vd.all p List.mem_cons_self
          omega
    exact ⟨by rw [sinS, if_neg e], by rw [sinS, if_neg e], hx⟩

theorem min_if (x y : Int) : (if y < x then y else x) = min x y := by split <;> omega
theorem max_if (x y : Int) : (if y > x then y else x) = max x y := by split <;> omega

/-- the domains of a propagator's variables, where they stand -/
structure VarsAt (p : PropS) (ls : List Dm) : Prop where
  ok : ∀ j (hj : j < p.vars.length), 0 ≤ p.vars[j] ∧ (p.vars[j]).toNat < ls.length
  full : ∀ j, j < p.vars.length → Full (at' (bsOf p ls) j)
theorem at_bs {p : PropS} {ls : List Dm} {j : Nat} (hj : j < p.vars.length) (hx : (p.vars[j]).toNat < ls.length) : at' (bsOf p ls) j = ls[(p.vars[j]).toNat] := by
  have hlen : (bsOf p ls).length = p.vars.length := by simp [bsOf]
  rw [show at' (bsOf p ls) j = (bsOf p ls)[j]'(by omega) from getD_get (by omega) _]
  simp only [bsOf, List.getElem_map]
  exact getD_get hx _

theorem c93 (w : World) (s : ByteArray) (a2 : Option Addr) (l2 c2 : Nat) (a3 : Option Addr) (l3 c3 : Nat) (x4 : Int) (p : PropS) (h : PropAt w s a2 l2 a3 l3 x4 p)
    (a5 : Option Addr) (l5 c5 : Nat) (ls : List Dm) (hd : Doms w a5 l5 ls) (hV : VarsAt p ls) (h40 : p.vars.length ≤ 40) (hc : p.coefs.length = p.vars.length) (hr : p.coefs.all rng = true) (i : Nat) :
    Calls Try.prog 93 #[.agg #[.string s, .slice a2 l2 c2, .slice a3 l3 c3, .int .i64 x4], .slice a5 l5 c5, .int .i64 i] w fun en w' => ∃ x y, en = .returned (.tuple #[.int .i64 x, .int .i64 y]) ∧
      (x = lowS p.coefs (bsOf p ls) i (bsOf p ls).length ∧ y = highS p.coefs (bsOf p ls) i (bsOf p ls).length ∧ Ext w w') := by
  obtain ⟨pk, pv, pc, pn⟩ := p
  obtain ⟨rfl, hv2, hc2, rfl, _, _⟩ := h
  simp only at hv2 hc2 h40 hc hr ⊢
  have hl2 := hv2.1
  have hl3 := hc2.1
  have hl5 := hd.1
  generalize hbs : bsOf ⟨pk, pv, pc, pn⟩ ls = bs
  have hlen : bs.length = pv.length := by rw [← hbs]; simp [bsOf]
  have hfull : ∀ d ∈ bs, Full d := fun d hdm => by
    obtain ⟨j, hj, rfl⟩ := List.mem_iff_getElem.1 hdm
    have := hV.full j (by simp only; omega)
    rw [hbs, at_get hj] at this; exact this
  refine calls93 _ _ _ _ _ _ _ _ _ _ _ _ _ w ?_
  refine AllocK.mk fun b w8 hb8 hblk hx => ?_
  have hcell := fun (w' : World) (k : Ext w8 w') => cell4 (hblk.ext k)
  simp only [add_mk, Nat.zero_add]
  refine ⟨fun x y j w' => ∃ k : Nat, j = k ∧ k ≤ pv.length ∧ x = lowS pc bs i k ∧ y = highS pc bs i k ∧ Ext w8 w', fun _ _ j _ => pv.length - j.toNat, ⟨⟨0, rfl, by omega, rfl, rfl, Ext.refl _⟩, trivial⟩, ?_⟩
  rintro w11 _ _ _ ⟨k, rfl, hk, rfl, rfl, hB⟩
  have bnd := low_bound i hr hfull k (by omega)
  refine ⟨_, _, _, (hcell _ hB).2.1, BoolK.mk (fun hlt => ?_) (fun hge => ?_)⟩
  · have hlt : k < pv.length := by simp at hlt; omega
    refine BoolK.mk (fun teq => ?_) (fun tne => ?_)
    · have he : k = i := by simp at teq; omega
      rw [wrap_succ (by omega)]
      exact ⟨⟨k + 1, rfl, by omega, by rw [lowS, if_pos he, Int.add_zero], by rw [highS, if_pos he, Int.add_zero], hB⟩, by simp; omega⟩
    · have hne : k ≠ i := by simp at tne; omega
      have hvk := hV.ok k hlt
      simp only at hvk
      have hat := at_bs (p := ⟨pk, pv, pc, pn⟩) hlt hvk.2
      rw [hbs] at hat
      simp only at hat
      have hfk := hV.full k hlt
      rw [hbs, hat] at hfk
      obtain ⟨b1, o1, rfl, g0⟩ := intAt hv2 w11 (hx.trans hB) hlt
      obtain ⟨b2, o2, a20, l20, c20, rfl, g1, gd⟩ := domsAt hd w11 (hx.trans hB) hvk.2
      refine ⟨_, _, _, (hcell _ hB).2.1, by omega, ?_⟩
      simp only [AddrK, add_mk, Int.toNat_natCast, Nat.mul_one]
      refine ⟨_, g0, by omega, _, _, _, g1, (c92 w11 a20 l20 c20 _ gd hfk).mono ?_⟩
      rintro en w23 ⟨x21, x22, rfl, rfl, rfl, hx23⟩
      have hB23 := hB.trans hx23
      refine ⟨_, _, rfl, DrewK.mk fun w25 hx25 => ?_⟩
      have hB25 := hB23.trans hx25
      obtain ⟨b3, o3, rfl, g3⟩ := intAt hc2 w25 (hx.trans hB25) (i := k) (by omega)
      refine ⟨_, _, _, (hcell _ hB25).2.2.1, by omega, ?_⟩
      simp only [add_mk]
      refine ⟨_, g3, _, _, _, (hcell _ hB25).2.2.1, by omega, ?_⟩
      simp only [add_mk]
      refine ⟨_, g3, DrewK.mk fun w32 hx32 => ?_⟩
      have hB32 := hB25.trans hx32
      have g4 := hx32.cell g3
      refine ⟨_, _, _, (hcell _ hB32).2.2.1, by omega, ?_⟩
      simp only [add_mk]
      refine ⟨_, g4, _, _, _, (hcell _ hB32).2.2.1, by omega, ?_⟩
      simp only [add_mk]
      refine ⟨_, g4, ?_⟩
      have hck : pc.getD k 0 = pc[k] := getD_get (by omega) _
      have hrk := rng_of hr k
      rw [hck] at hrk
      have ⟨m0, m1, m2⟩ := hfk.ends
      have s1 := mul_small hrk m0 (by omega)
      have s2 := mul_small (x := mx ls[(pv[k]).toNat]) hrk (by omega) m2
      have e1 : lowS pc bs i (k + 1) = lowS pc bs i k + min (pc[k] * mn ls[(pv[k]).toNat]) (pc[k] * mx ls[(pv[k]).toNat]) := by rw [lowS, if_neg hne, hck, hat]
      have e2 : highS pc bs i (k + 1) = highS pc bs i k + max (pc[k] * mn ls[(pv[k]).toNat]) (pc[k] * mx ls[(pv[k]).toNat]) := by rw [highS, if_neg hne, hck, hat]
      rw [wrap_id (x := pc[k] * mx ls[(pv[k]).toNat]) (by omega) (by omega), wrap_id (x := pc[k] * mn ls[(pv[k]).toNat]) (by omega) (by omega), min_if, max_if, wrap_succ (by omega), wrap_id (by omega) (by omega), wrap_id (by omega) (by omega)]
      exact ⟨⟨k + 1, rfl, by omega, e1.symm, e2.symm, hB32⟩, by simp; omega⟩
  · have : k = pv.length := by simp at hge; omega
    subst this
    exact ⟨by rw [hlen], by rw [hlen], hx.trans hB⟩
end Go.Proofs.Ytggfnakhmjkoeaa

namespace Go.Proofs.Ytggfnakhmjkoeaa
open Go Go.V Go.Proofs
open Go.RowKit (Below)

theorem hasS_vd {d : Dm} (h : VD d) (v : Int) : hasS d v = inD d v := by rw [hasS, (validB_iff d).2 h, Bool.true_and]

theorem c95 (w : World) (s : ByteArray) (a2 : Option Addr) (l2 c2 : Nat) (a3 : Option Addr) (l3 c3 : Nat) (x4 : Int) (p : PropS) (h : PropAt w s a2 l2 a3 l3 x4 p)
    (a5 : Option Addr) (l5 c5 : Nat) (ls : List Dm) (hd : Doms w a5 l5 ls) (hV : VarsAt p ls) (h2 : p.vars.length = 2) (h40 : p.coefs.length ≤ 40) (i v : Nat) (hv : v ≤ 1000) :
    Calls Try.prog 95 #[.agg #[.string s, .slice a2 l2 c2, .slice a3 l3 c3, .int .i64 x4], .slice a5 l5 c5, .int .i64 i, .int .i64 v] w fun en w' => ∃ r, en = .returned (.bool r) ∧ (r = passS .element p.coefs p.n (bsOf p ls) i v ∧ Ext w w') := by
  obtain ⟨pk, pv, pc, pn⟩ := p
  obtain ⟨rfl, hv2, hc2, rfl, _, _⟩ := h
  simp only at hv2 hc2 h40 h2 ⊢
  have hl2 := hv2.1
  have hl3 := hc2.1
  have hl5 := hd.1
  have at0 := at_bs (p := ⟨pk, pv, pc, pn⟩) (ls := ls) (j := 0) (by simp only; omega) (hV.ok 0 (by simp only; omega)).2
  have at1 := at_bs (p := ⟨pk, pv, pc, pn⟩) (ls := ls) (j := 1) (by simp only; omega) (hV.ok 1 (by simp only; omega)).2
  have k0 := hV.ok 0 (by simp only; omega)
  have k1 := hV.ok 1 (by simp only; omega)
  have f0 := hV.full 0 (by simp only; omega)
  have f1 := hV.full 1 (by simp only; omega)
  rw [at0] at f0
  rw [at1] at f1
  simp only at at0 at1 k0 k1 f0 f1
  refine calls95 _ _ _ _ _ _ _ _ _ _ _ _ _ _ w ?_
  refine AllocK.mk fun b w9 hb8 hblk hx => ?_
  have hcell := fun (w' : World) (k : Ext w9 w') => cell4 (hblk.ext k)
  simp only [passS, at0, at1]
  refine BoolK.mk (fun t => ?_) (fun t => ?_)
  · have hi0 : i = 0 := by simpa using t
    rw [if_pos hi0]
    refine DrewK.mk fun w10 hx10 => ?_
    have hB := hx.trans hx10
    refine BoolK.mk (fun t1 => ?_) (fun t1 => ?_)
    · have hv1 : 1 ≤ v := by simp at t1; omega
      rw [decide_eq_true (show 1 ≤ (v : Int) by omega), Bool.true_and]
      simp only [add_mk, Nat.zero_add]
      refine ⟨_, _, _, (hcell _ hx10).2.2.1, BoolK.mk (fun t2 => ?_) (fun t2 => ?_)⟩
      · have hvl : v ≤ pc.length := by simp at t2; omega
        rw [decide_eq_true (show (v : Int) ≤ pc.length by omega), Bool.true_and]
        obtain ⟨b1, o1, rfl, g0⟩ := intAt hv2 w10 hB (i := 1) (by omega)
        obtain ⟨b2, o2, a16, l16, c16, rfl, g1, gd⟩ := domsAt hd w10 hB k1.2
        obtain ⟨b3, o3, rfl, g3⟩ := intAt hc2 w10 hB (i := v - 1) (by omega)
        have hw1 : IntKind.wrap .i64 ((v : Int) - 1) = ((v - 1 : Nat) : Int) := by rw [wrap_id] <;> omega
        rw [hw1]
        refine ⟨_, _, _, (hcell _ hx10).2.1, by omega, ?_⟩
        simp only [AddrK, add_mk, Int.toNat_one, Nat.mul_one]
        refine ⟨_, g0, by omega, _, _, _, g1, _, _, _, (hcell _ hx10).2.2.1, by omega, ?_⟩
        simp only [add_mk, Int.toNat_natCast]
        refine ⟨_, g3, (c38 w10 a16 l16 c16 _ _ gd f1.vd.sm).mono ?_⟩
        rintro en w21 ⟨r, rfl, hr, hx21⟩
        refine ⟨_, rfl, hx21, ?_, hB.trans hx21⟩
        rw [hr, hasS_vd f1.vd, show ((v : Int) - 1).toNat = v - 1 by omega, getD_get (show v - 1 < pc.length by omega)]
      · exact ⟨by rw [decide_eq_false (by simp at t2; omega)]; rfl, hB⟩
    · exact ⟨by rw [decide_eq_false (by simp at t1; omega)]; rfl, hB⟩
  · have hi0 : i ≠ 0 := by simpa using t
    rw [if_neg hi0]
    simp only [add_mk, Nat.zero_add]
    refine ⟨fun x w' => ∃ j : Nat, x = j ∧ j ≤ pc.length ∧ ((List.range pc.length).take j).any (fun k => decide (pc.getD k 0 = v) && inD ls[(pv[0]).toNat] (k + 1)) = false ∧ Ext w9 w', fun x _ => pc.length - x.toNat, ⟨⟨0, rfl, by omega, rfl, Ext.refl _⟩, trivial⟩, ?_⟩
    rintro w25 _ ⟨j, rfl, hj, hall, hB9⟩
    have hB := hx.trans hB9
    refine ⟨_, _, _, (hcell _ hB9).2.2.1, BoolK.mk (fun hlt => ?_) (fun hge => ?_)⟩
    · have hlt : j < pc.length := by simp at hlt; omega
      have hlt' : j < (List.range pc.length).length := by simpa using hlt
      have hstep : ∀ w', Ext w9 w' → (decide (pc.getD j 0 = v) && inD ls[(pv[0]).toNat] (j + 1)) = false → (∃ j' : Nat, IntKind.wrap .i64 ((j : Int) + 1) = j' ∧ j' ≤ pc.length ∧ ((List.range pc.length).take j').any (fun k => decide (pc.getD k 0 = v) && inD ls[(pv[0]).toNat] (k + 1)) = false ∧ Ext w9 w') ∧ pc.length - (IntKind.wrap .i64 ((j : Int) + 1)).toNat < pc.length - (j : Int).toNat := fun w' hw' hh => by
        rw [wrap_succ (by omega)]
        refine ⟨⟨j + 1, rfl, by omega, ?_, hw'⟩, by simp; omega⟩
        rw [any_take hlt', hall, Bool.false_or, List.getElem_range]; exact hh
      obtain ⟨b3, o3, rfl, g3⟩ := intAt hc2 w25 hB (i := j) (by omega)
      have hcj : pc.getD j 0 = pc[j] := getD_get (by omega) _
      refine ⟨_, _, _, (hcell _ hB9).2.2.1, by omega, ?_⟩
      simp only [AddrK, add_mk, Int.toNat_natCast, Nat.mul_one]
      refine ⟨_, g3, BoolK.mk (fun t1 => ?_) (fun t1 => ?_)⟩
      · have t1' : pc[j] = (v : Int) := by simpa using t1
        obtain ⟨b1, o1, rfl, g0⟩ := intAt hv2 w25 hB (i := 0) (by omega)
        obtain ⟨b2, o2, a35, l35, c35, rfl, g1, gd⟩ := domsAt hd w25 hB k0.2
        have hw1 : IntKind.wrap .i64 ((j : Int) + 1) = (j : Int) + 1 := by rw [wrap_id] <;> omega
        refine ⟨_, _, _, (hcell _ hB9).2.1, by omega, ?_⟩
        simp only [add_mk, Int.toNat_zero]
        refine ⟨_, g0, by omega, _, _, _, g1, (c38 w25 a35 l35 c35 _ _ gd f0.vd.sm).mono ?_⟩
        rintro en w37 ⟨r, rfl, hr, hx37⟩
        have hr' : r = inD ls[(pv[0]).toNat] (j + 1) := by rw [hr, hasS_vd f0.vd, hw1]
        refine ⟨_, rfl, BoolK.mk (fun t2 => ?_) (fun t2 => ?_)⟩
        · refine ⟨?_, hB.trans hx37⟩
          rw [any_true hlt' (by rw [List.getElem_range, hcj, decide_eq_true t1', ← hr', t2]; rfl)]
        · exact hstep _ (hB9.trans hx37) (by rw [← hr', t2, Bool.and_false])
      · exact hstep _ hB9 (by rw [hcj, decide_eq_false (by simpa using t1)]; rfl)
    · have : j = pc.length := by simp at hge; omega
      subst this
      rw [List.take_of_length_le (by simp)] at hall
      exact ⟨hall.symm, hB⟩
end Go.Proofs.Ytggfnakhmjkoeaa

namespace Go.Proofs.Ytggfnakhmjkoeaa
open Go Go.V Go.Proofs
open Go.RowKit (Below)
/-! manystrand/manystrandref06.passes -/
def N84 (s1 : ByteArray) (a2 : Option Addr) (l2 : Nat) (c2 : Nat) (a3 : Option Addr) (l3 : Nat) (c3 : Nat) (x4 : Int) (a5 : Option Addr) (l5 : Nat) (c5 : Nat) (x6 : Int) (x7 : Int) (K : Bool → World → Prop) (w : World) : Prop :=
  AllocK w (#[(.string s1), (.slice a2 l2 c2), (.slice a3 l3 c3), (.int .i64 x4)]) 24 fun b8 w9 =>
  ∃ (I10 : Option Addr → Nat → Nat → Option Addr → Nat → Nat → Int → World → Prop) (μ11 : Option Addr → Nat → Nat → Option Addr → Nat → Nat → Int → World → Nat),
  (I10 none 0 0 none 0 0 0 w9 ∧ True) ∧
  ∀ (w12 : World) (a13 : Option Addr) (l13 : Nat) (c13 : Nat) (a14 : Option Addr) (l14 : Nat) (c14 : Nat) (x15 : Int), I10 a13 l13 c13 a14 l14 c14 x15 w12 →
  ∃ (a16 : Option Addr) (l16 : Nat) (c16 : Nat), w12.cell? (b8.add 1) = some (.slice a16 l16 c16) ∧
  (BoolK (decide ((x15 : Int) < (l16 : Nat)))
    (∃ (a17 : Option Addr) (l17 : Nat) (c17 : Nat), w12.cell? (b8.add 1) = some (.slice a17 l17 c17) ∧
      ((0 ≤ (x15 : Int) ∧ (x15 : Int) < (l17 : Nat)) ∧
        AddrK a17 fun b18 =>
        ∃ (x19 : Int), w12.cell? (b18.add ((x15 : Int).toNat * 1)) = some (.int .i64 x19) ∧
        ((0 ≤ (x19 : Int) ∧ (x19 : Int) < (l5 : Nat)) ∧
          AddrK a5 fun b20 =>
          ∃ (a21 : Option Addr) (l21 : Nat) (c21 : Nat), w12.cell? (b20.add ((x19 : Int).toNat * 1)) = some (.slice a21 l21 c21) ∧
          (Calls Try.prog 92 #[(.slice a21 l21 c21)] w12 fun e25 w24 =>
            ∃ (x22 : Int), ∃ (x23 : Int), e25 = .returned (.tuple #[(.int .i64 x22), (.int .i64 x23)]) ∧
            (AllocK w24 (#[(.int .i64 x22)]) 3 fun b26 w27 =>
              ∃ (a28 : Option Addr), ∃ (l28 : Nat), ∃ (c28 : Nat), ∃ (w29 : World), Sem.run Try.prog (Builtin.append_ #[22, 22] 22 #[(.slice a13 l13 c13), (.slice (some b26) 1 1)]) w27 = .ok (.slice a28 l28 c28) w29 ∧
              (AllocK w29 (#[(.int .i64 x23)]) 3 fun b30 w31 =>
                ∃ (a32 : Option Addr), ∃ (l32 : Nat), ∃ (c32 : Nat), ∃ (w33 : World), Sem.run Try.prog (Builtin.append_ #[22, 22] 22 #[(.slice a14 l14 c14), (.slice (some b30) 1 1)]) w31 = .ok (.slice a32 l32 c32) w33 ∧
                (I10 a28 l28 c28 a32 l32 c32 (IntKind.wrap .i64 (x15 + 1)) w33 ∧ μ11 a28 l28 c28 a32 l32 c32 (IntKind.wrap .i64 (x15 + 1)) w33 < μ11 a13 l13 c13 a14 l14 c14 x15 w12)))))))
    (∃ (s34 : ByteArray), w12.cell? b8 = some (.string s34) ∧
      (BoolK ((s34 : ByteArray).toList == ((⟨#[115, 117, 109]⟩ : ByteArray) : ByteArray).toList)
        (∃ (s35 : ByteArray), w12.cell? (b8.add 0) = some (.string s35) ∧
          (∃ (a36 : Option Addr) (l36 : Nat) (c36 : Nat), w12.cell? (b8.add 1) = some (.slice a36 l36 c36) ∧
            (∃ (a37 : Option Addr) (l37 : Nat) (c37 : Nat), w12.cell? (b8.add 2) = some (.slice a37 l37 c37) ∧
              (∃ (x38 : Int), w12.cell? (b8.add 3) = some (.int .i64 x38) ∧
                (Calls Try.prog 93 #[(.agg #[(.string s35), (.slice a36 l36 c36), (.slice a37 l37 c37), (.int .i64 x38)]), (.slice a5 l5 c5), (.int .i64 x6)] w12 fun e42 w41 =>
                  ∃ (x39 : Int), ∃ (x40 : Int), e42 = .returned (.tuple #[(.int .i64 x39), (.int .i64 x40)]) ∧
                  (DrewK w41 fun w43 =>
                    ∃ (x44 : Int), w43.cell? (b8.add 3) = some (.int .i64 x44) ∧
                    (∃ (a45 : Option Addr) (l45 : Nat) (c45 : Nat), w43.cell? (b8.add 2) = some (.slice a45 l45 c45) ∧
                      ((0 ≤ (x6 : Int) ∧ (x6 : Int) < (l45 : Nat)) ∧
                        AddrK a45 fun b46 =>
                        ∃ (x47 : Int), w43.cell? (b46.add ((x6 : Int).toNat * 1)) = some (.int .i64 x47) ∧
                        (BoolK (decide ((IntKind.wrap .i64 (x44 - (IntKind.wrap .i64 (x47 * x7))) : Int) ≥ x39))
                          (∃ (x48 : Int), w43.cell? (b8.add 3) = some (.int .i64 x48) ∧
                            (∃ (a49 : Option Addr) (l49 : Nat) (c49 : Nat), w43.cell? (b8.add 2) = some (.slice a49 l49 c49) ∧
                              ((0 ≤ (x6 : Int) ∧ (x6 : Int) < (l49 : Nat)) ∧
                                AddrK a49 fun b50 =>
                                ∃ (x51 : Int), w43.cell? (b50.add ((x6 : Int).toNat * 1)) = some (.int .i64 x51) ∧
                                (K (decide ((IntKind.wrap .i64 (x48 - (IntKind.wrap .i64 (x51 * x7))) : Int) ≤ x40)) w43))))
                          (K false w43))))))))))
        (BoolK ((s34 : ByteArray).toList == ((⟨#[109, 111, 115, 116]⟩ : ByteArray) : ByteArray).toList)
          (∃ (s52 : ByteArray), w12.cell? (b8.add 0) = some (.string s52) ∧
            (∃ (a53 : Option Addr) (l53 : Nat) (c53 : Nat), w12.cell? (b8.add 1) = some (.slice a53 l53 c53) ∧
              (∃ (a54 : Option Addr) (l54 : Nat) (c54 : Nat), w12.cell? (b8.add 2) = some (.slice a54 l54 c54) ∧
                (∃ (x55 : Int), w12.cell? (b8.add 3) = some (.int .i64 x55) ∧
                  (Calls Try.prog 93 #[(.agg #[(.string s52), (.slice a53 l53 c53), (.slice a54 l54 c54), (.int .i64 x55)]), (.slice a5 l5 c5), (.int .i64 x6)] w12 fun e59 w58 =>
                    ∃ (x56 : Int), ∃ (x57 : Int), e59 = .returned (.tuple #[(.int .i64 x56), (.int .i64 x57)]) ∧
                    (DrewK w58 fun w60 =>
                      ∃ (a61 : Option Addr) (l61 : Nat) (c61 : Nat), w60.cell? (b8.add 2) = some (.slice a61 l61 c61) ∧
                      ((0 ≤ (x6 : Int) ∧ (x6 : Int) < (l61 : Nat)) ∧
                        AddrK a61 fun b62 =>
                        ∃ (x63 : Int), w60.cell? (b62.add ((x6 : Int).toNat * 1)) = some (.int .i64 x63) ∧
                        (∃ (x64 : Int), w60.cell? (b8.add 3) = some (.int .i64 x64) ∧
                          (K (decide ((IntKind.wrap .i64 ((IntKind.wrap .i64 (x63 * x7)) + x56) : Int) ≤ x64)) w60)))))))))
          (BoolK ((s34 : ByteArray).toList == ((⟨#[117, 110, 108, 105, 107, 101]⟩ : ByteArray) : ByteArray).toList)
            (∃ (a65 : Option Addr) (l65 : Nat) (c65 : Nat), w12.cell? (b8.add 1) = some (.slice a65 l65 c65) ∧
              ((0 ≤ (IntKind.wrap .i64 (1 - x6) : Int) ∧ (IntKind.wrap .i64 (1 - x6) : Int) < (l65 : Nat)) ∧
                AddrK a65 fun b66 =>
                ∃ (x67 : Int), w12.cell? (b66.add ((IntKind.wrap .i64 (1 - x6) : Int).toNat * 1)) = some (.int .i64 x67) ∧
                ((0 ≤ (x67 : Int) ∧ (x67 : Int) < (l5 : Nat)) ∧
                  AddrK a5 fun b68 =>
                  ∃ (a69 : Option Addr) (l69 : Nat) (c69 : Nat), w12.cell? (b68.add ((x67 : Int).toNat * 1)) = some (.slice a69 l69 c69) ∧
                  (Calls Try.prog 94 #[(.slice a69 l69 c69)] w12 fun e73 w72 =>
                    ∃ (x70 : Int), ∃ (p71 : Bool), e73 = .returned (.tuple #[(.int .i64 x70), (.bool p71)]) ∧
                    (BoolK (!p71)
                      (K true w72)
                      (BoolK ((x6 : Int) == 0)
                        (∃ (x74 : Int), w72.cell? (b8.add 3) = some (.int .i64 x74) ∧
                          (BoolK ((IntKind.wrap .i64 (x7 + x74) : Int) != x70)
                            (K true w72)
                            (BoolK ((x6 : Int) == 1)
                              (∃ (x75 : Int), w72.cell? (b8.add 3) = some (.int .i64 x75) ∧
                                (K ((IntKind.wrap .i64 (x70 + x75) : Int) != x7) w72))
                              (K false w72))))
                        (BoolK ((x6 : Int) == 1)
                          (∃ (x76 : Int), w72.cell? (b8.add 3) = some (.int .i64 x76) ∧
                            (K ((IntKind.wrap .i64 (x70 + x76) : Int) != x7) w72))
                          (K false w72))))))))
            (BoolK ((s34 : ByteArray).toList == ((⟨#[100, 105, 115, 116, 105, 110, 99, 116]⟩ : ByteArray) : ByteArray).toList)
              (∃ (I77 : Int → World → Prop) (μ78 : Int → World → Nat),
                (I77 0 w12 ∧ True) ∧
                ∀ (w79 : World) (x80 : Int), I77 x80 w79 →
                ∃ (a81 : Option Addr) (l81 : Nat) (c81 : Nat), w79.cell? (b8.add 1) = some (.slice a81 l81 c81) ∧
                (BoolK (decide ((x80 : Int) < (l81 : Nat)))
                  (∃ (a82 : Option Addr) (l82 : Nat) (c82 : Nat), w79.cell? (b8.add 1) = some (.slice a82 l82 c82) ∧
                    ((0 ≤ (x80 : Int) ∧ (x80 : Int) < (l82 : Nat)) ∧
                      AddrK a82 fun b83 =>
                      ∃ (x84 : Int), w79.cell? (b83.add ((x80 : Int).toNat * 1)) = some (.int .i64 x84) ∧
                      ((0 ≤ (x84 : Int) ∧ (x84 : Int) < (l5 : Nat)) ∧
                        AddrK a5 fun b85 =>
                        ∃ (a86 : Option Addr) (l86 : Nat) (c86 : Nat), w79.cell? (b85.add ((x84 : Int).toNat * 1)) = some (.slice a86 l86 c86) ∧
                        (Calls Try.prog 94 #[(.slice a86 l86 c86)] w79 fun e90 w89 =>
                          ∃ (x87 : Int), ∃ (p88 : Bool), e90 = .returned (.tuple #[(.int .i64 x87), (.bool p88)]) ∧
                          (BoolK ((x80 : Int) != x6)
                            (BoolK p88
                              (BoolK ((x87 : Int) == x7)
                                (K false w89)
                                (I77 (IntKind.wrap .i64 (x80 + 1)) w89 ∧ μ78 (IntKind.wrap .i64 (x80 + 1)) w89 < μ78 x80 w79))
                              (I77 (IntKind.wrap .i64 (x80 + 1)) w89 ∧ μ78 (IntKind.wrap .i64 (x80 + 1)) w89 < μ78 x80 w79))
                            (I77 (IntKind.wrap .i64 (x80 + 1)) w89 ∧ μ78 (IntKind.wrap .i64 (x80 + 1)) w89 < μ78 x80 w79))))))
                  (K true w79)))
              (BoolK ((s34 : ByteArray).toList == ((⟨#[112, 114, 111, 100, 117, 99, 116]⟩ : ByteArray) : ByteArray).toList)
                (BoolK ((x6 : Int) == 2)
                  (DrewK w12 fun w91 =>
                    (0 ≤ (0 : Int) ∧ (0 : Int) < (l13 : Nat)) ∧
                    AddrK a13 fun b92 =>
                    ∃ (x93 : Int), w91.cell? (b92.add ((0 : Int).toNat * 1)) = some (.int .i64 x93) ∧
                    ((0 ≤ (1 : Int) ∧ (1 : Int) < (l13 : Nat)) ∧
                      AddrK a13 fun b94 =>
                      ∃ (x95 : Int), w91.cell? (b94.add ((1 : Int).toNat * 1)) = some (.int .i64 x95) ∧
                      (BoolK (decide ((IntKind.wrap .i64 (x93 * x95) : Int) ≤ x7))
                        ((0 ≤ (0 : Int) ∧ (0 : Int) < (l14 : Nat)) ∧
                          AddrK a14 fun b96 =>
                          ∃ (x97 : Int), w91.cell? (b96.add ((0 : Int).toNat * 1)) = some (.int .i64 x97) ∧
                          ((0 ≤ (1 : Int) ∧ (1 : Int) < (l14 : Nat)) ∧
                            AddrK a14 fun b98 =>
                            ∃ (x99 : Int), w91.cell? (b98.add ((1 : Int).toNat * 1)) = some (.int .i64 x99) ∧
                            (K (decide ((x7 : Int) ≤ IntKind.wrap .i64 (x97 * x99))) w91)))
                        (K false w91))))
                  (DrewK w12 fun w100 =>
                    (0 ≤ (IntKind.wrap .i64 (1 - x6) : Int) ∧ (IntKind.wrap .i64 (1 - x6) : Int) < (l13 : Nat)) ∧
                    AddrK a13 fun b101 =>
                    ∃ (x102 : Int), w100.cell? (b101.add ((IntKind.wrap .i64 (1 - x6) : Int).toNat * 1)) = some (.int .i64 x102) ∧
                    ((0 ≤ (2 : Int) ∧ (2 : Int) < (l14 : Nat)) ∧
                      AddrK a14 fun b103 =>
                      ∃ (x104 : Int), w100.cell? (b103.add ((2 : Int).toNat * 1)) = some (.int .i64 x104) ∧
                      (BoolK (decide ((IntKind.wrap .i64 (x7 * x102) : Int) ≤ x104))
                        ((0 ≤ (IntKind.wrap .i64 (1 - x6) : Int) ∧ (IntKind.wrap .i64 (1 - x6) : Int) < (l14 : Nat)) ∧
                          AddrK a14 fun b105 =>
                          ∃ (x106 : Int), w100.cell? (b105.add ((IntKind.wrap .i64 (1 - x6) : Int).toNat * 1)) = some (.int .i64 x106) ∧
                          ((0 ≤ (2 : Int) ∧ (2 : Int) < (l13 : Nat)) ∧
                            AddrK a13 fun b107 =>
                            ∃ (x108 : Int), w100.cell? (b107.add ((2 : Int).toNat * 1)) = some (.int .i64 x108) ∧
                            (K (decide ((IntKind.wrap .i64 (x7 * x106) : Int) ≥ x108)) w100)))
                        (K false w100)))))
                (BoolK ((s34 : ByteArray).toList == ((⟨#[101, 108, 101, 109, 101, 110, 116]⟩ : ByteArray) : ByteArray).toList)
                  (∃ (s109 : ByteArray), w12.cell? (b8.add 0) = some (.string s109) ∧
                    (∃ (a110 : Option Addr) (l110 : Nat) (c110 : Nat), w12.cell? (b8.add 1) = some (.slice a110 l110 c110) ∧
                      (∃ (a111 : Option Addr) (l111 : Nat) (c111 : Nat), w12.cell? (b8.add 2) = some (.slice a111 l111 c111) ∧
                        (∃ (x112 : Int), w12.cell? (b8.add 3) = some (.int .i64 x112) ∧
                          (Calls Try.prog 95 #[(.agg #[(.string s109), (.slice a110 l110 c110), (.slice a111 l111 c111), (.int .i64 x112)]), (.slice a5 l5 c5), (.int .i64 x6), (.int .i64 x7)] w12 fun e115 w114 =>
                            ∃ (p113 : Bool), e115 = .returned (.bool p113) ∧
                            (K p113 w114))))))
                  (BoolK ((s34 : ByteArray).toList == ((⟨#[109, 97, 120]⟩ : ByteArray) : ByteArray).toList)
                    (BoolK ((x6 : Int) == 2)
                      (DrewK w12 fun w116 =>
                        (0 ≤ (0 : Int) ∧ (0 : Int) < (l13 : Nat)) ∧
                        AddrK a13 fun b117 =>
                        ∃ (x118 : Int), w116.cell? (b117.add ((0 : Int).toNat * 1)) = some (.int .i64 x118) ∧
                        ((0 ≤ (1 : Int) ∧ (1 : Int) < (l13 : Nat)) ∧
                          AddrK a13 fun b119 =>
                          ∃ (x120 : Int), w116.cell? (b119.add ((1 : Int).toNat * 1)) = some (.int .i64 x120) ∧
                          (BoolK (decide ((if (x120 : Int) > x118 then x120 else x118 : Int) ≤ x7))
                            ((0 ≤ (0 : Int) ∧ (0 : Int) < (l14 : Nat)) ∧
                              AddrK a14 fun b121 =>
                              ∃ (x122 : Int), w116.cell? (b121.add ((0 : Int).toNat * 1)) = some (.int .i64 x122) ∧
                              ((0 ≤ (1 : Int) ∧ (1 : Int) < (l14 : Nat)) ∧
                                AddrK a14 fun b123 =>
                                ∃ (x124 : Int), w116.cell? (b123.add ((1 : Int).toNat * 1)) = some (.int .i64 x124) ∧
                                (K (decide ((x7 : Int) ≤ if (x124 : Int) > x122 then x124 else x122)) w116)))
                            (K false w116))))
                      (DrewK w12 fun w125 =>
                        (0 ≤ (2 : Int) ∧ (2 : Int) < (l14 : Nat)) ∧
                        AddrK a14 fun b126 =>
                        ∃ (x127 : Int), w125.cell? (b126.add ((2 : Int).toNat * 1)) = some (.int .i64 x127) ∧
                        (BoolK (decide ((x7 : Int) ≤ x127))
                          ((0 ≤ (2 : Int) ∧ (2 : Int) < (l13 : Nat)) ∧
                            AddrK a13 fun b128 =>
                            ∃ (x129 : Int), w125.cell? (b128.add ((2 : Int).toNat * 1)) = some (.int .i64 x129) ∧
                            (BoolK (decide ((x7 : Int) ≥ x129))
                              (K true w125)
                              ((0 ≤ (IntKind.wrap .i64 (1 - x6) : Int) ∧ (IntKind.wrap .i64 (1 - x6) : Int) < (l14 : Nat)) ∧
                                AddrK a14 fun b130 =>
                                ∃ (x131 : Int), w125.cell? (b130.add ((IntKind.wrap .i64 (1 - x6) : Int).toNat * 1)) = some (.int .i64 x131) ∧
                                ((0 ≤ (2 : Int) ∧ (2 : Int) < (l13 : Nat)) ∧
                                  AddrK a13 fun b132 =>
                                  ∃ (x133 : Int), w125.cell? (b132.add ((2 : Int).toNat * 1)) = some (.int .i64 x133) ∧
                                  (K (decide ((x131 : Int) ≥ x133)) w125)))))
                          (K false w125))))
                    (BoolK ((s34 : ByteArray).toList == ((⟨#[114, 101, 105, 102, 121]⟩ : ByteArray) : ByteArray).toList)
                      (∃ (a134 : Option Addr) (l134 : Nat) (c134 : Nat), w12.cell? (b8.add 1) = some (.slice a134 l134 c134) ∧
                        ((0 ≤ (0 : Int) ∧ (0 : Int) < (l134 : Nat)) ∧
                          AddrK a134 fun b135 =>
                          ∃ (x136 : Int), w12.cell? (b135.add ((0 : Int).toNat * 1)) = some (.int .i64 x136) ∧
                          ((0 ≤ (x136 : Int) ∧ (x136 : Int) < (l5 : Nat)) ∧
                            AddrK a5 fun b137 =>
                            ∃ (a138 : Option Addr) (l138 : Nat) (c138 : Nat), w12.cell? (b137.add ((x136 : Int).toNat * 1)) = some (.slice a138 l138 c138) ∧
                            (Calls Try.prog 94 #[(.slice a138 l138 c138)] w12 fun e142 w141 =>
                              ∃ (x139 : Int), ∃ (p140 : Bool), e142 = .returned (.tuple #[(.int .i64 x139), (.bool p140)]) ∧
                              (BoolK ((x6 : Int) == 0)
                                (DrewK w141 fun w143 =>
                                  BoolK ((x7 : Int) == 1)
                                  ((0 ≤ (1 : Int) ∧ (1 : Int) < (l13 : Nat)) ∧
                                    AddrK a13 fun b144 =>
                                    ∃ (x145 : Int), w143.cell? (b144.add ((1 : Int).toNat * 1)) = some (.int .i64 x145) ∧
                                    ((0 ≤ (2 : Int) ∧ (2 : Int) < (l14 : Nat)) ∧
                                      AddrK a14 fun b146 =>
                                      ∃ (x147 : Int), w143.cell? (b146.add ((2 : Int).toNat * 1)) = some (.int .i64 x147) ∧
                                      (∃ (x148 : Int), w143.cell? (b8.add 3) = some (.int .i64 x148) ∧
                                        (BoolK (decide ((x145 : Int) ≤ IntKind.wrap .i64 (x147 + x148)))
                                          (K true w143)
                                          (BoolK ((x7 : Int) == 0)
                                            ((0 ≤ (1 : Int) ∧ (1 : Int) < (l14 : Nat)) ∧
                                              AddrK a14 fun b149 =>
                                              ∃ (x150 : Int), w143.cell? (b149.add ((1 : Int).toNat * 1)) = some (.int .i64 x150) ∧
                                              ((0 ≤ (2 : Int) ∧ (2 : Int) < (l13 : Nat)) ∧
                                                AddrK a13 fun b151 =>
                                                ∃ (x152 : Int), w143.cell? (b151.add ((2 : Int).toNat * 1)) = some (.int .i64 x152) ∧
                                                (∃ (x153 : Int), w143.cell? (b8.add 3) = some (.int .i64 x153) ∧
                                                  (K (decide ((x150 : Int) > IntKind.wrap .i64 (x152 + x153))) w143))))
                                            (K false w143))))))
                                  (BoolK ((x7 : Int) == 0)
                                    ((0 ≤ (1 : Int) ∧ (1 : Int) < (l14 : Nat)) ∧
                                      AddrK a14 fun b154 =>
                                      ∃ (x155 : Int), w143.cell? (b154.add ((1 : Int).toNat * 1)) = some (.int .i64 x155) ∧
                                      ((0 ≤ (2 : Int) ∧ (2 : Int) < (l13 : Nat)) ∧
                                        AddrK a13 fun b156 =>
                                        ∃ (x157 : Int), w143.cell? (b156.add ((2 : Int).toNat * 1)) = some (.int .i64 x157) ∧
                                        (∃ (x158 : Int), w143.cell? (b8.add 3) = some (.int .i64 x158) ∧
                                          (K (decide ((x155 : Int) > IntKind.wrap .i64 (x157 + x158))) w143))))
                                    (K false w143)))
                                (∃ (J159 : Bool → World → Prop),
                                  (∀ (w160 : World) (p161 : Bool), J159 p161 w160 →
                                    BoolK p161
                                    (K true w160)
                                    (BoolK ((x6 : Int) == 1)
                                      (DrewK w160 fun w162 =>
                                        BoolK ((x139 : Int) == 1)
                                        ((0 ≤ (2 : Int) ∧ (2 : Int) < (l14 : Nat)) ∧
                                          AddrK a14 fun b163 =>
                                          ∃ (x164 : Int), w162.cell? (b163.add ((2 : Int).toNat * 1)) = some (.int .i64 x164) ∧
                                          (∃ (x165 : Int), w162.cell? (b8.add 3) = some (.int .i64 x165) ∧
                                            (BoolK (decide ((x7 : Int) ≤ IntKind.wrap .i64 (x164 + x165)))
                                              (K true w162)
                                              (BoolK ((x139 : Int) == 0)
                                                ((0 ≤ (2 : Int) ∧ (2 : Int) < (l13 : Nat)) ∧
                                                  AddrK a13 fun b166 =>
                                                  ∃ (x167 : Int), w162.cell? (b166.add ((2 : Int).toNat * 1)) = some (.int .i64 x167) ∧
                                                  (∃ (x168 : Int), w162.cell? (b8.add 3) = some (.int .i64 x168) ∧
                                                    (K (decide ((x7 : Int) > IntKind.wrap .i64 (x167 + x168))) w162)))
                                                (K false w162)))))
                                        (BoolK ((x139 : Int) == 0)
                                          ((0 ≤ (2 : Int) ∧ (2 : Int) < (l13 : Nat)) ∧
                                            AddrK a13 fun b169 =>
                                            ∃ (x170 : Int), w162.cell? (b169.add ((2 : Int).toNat * 1)) = some (.int .i64 x170) ∧
                                            (∃ (x171 : Int), w162.cell? (b8.add 3) = some (.int .i64 x171) ∧
                                              (K (decide ((x7 : Int) > IntKind.wrap .i64 (x170 + x171))) w162)))
                                          (K false w162)))
                                      (DrewK w160 fun w172 =>
                                        BoolK ((x139 : Int) == 1)
                                        ((0 ≤ (1 : Int) ∧ (1 : Int) < (l13 : Nat)) ∧
                                          AddrK a13 fun b173 =>
                                          ∃ (x174 : Int), w172.cell? (b173.add ((1 : Int).toNat * 1)) = some (.int .i64 x174) ∧
                                          (∃ (x175 : Int), w172.cell? (b8.add 3) = some (.int .i64 x175) ∧
                                            (BoolK (decide ((x174 : Int) ≤ IntKind.wrap .i64 (x7 + x175)))
                                              (K true w172)
                                              (BoolK ((x139 : Int) == 0)
                                                ((0 ≤ (1 : Int) ∧ (1 : Int) < (l14 : Nat)) ∧
                                                  AddrK a14 fun b176 =>
                                                  ∃ (x177 : Int), w172.cell? (b176.add ((1 : Int).toNat * 1)) = some (.int .i64 x177) ∧
                                                  (∃ (x178 : Int), w172.cell? (b8.add 3) = some (.int .i64 x178) ∧
                                                    (K (decide ((x177 : Int) > IntKind.wrap .i64 (x7 + x178))) w172)))
                                                (K false w172)))))
                                        (BoolK ((x139 : Int) == 0)
                                          ((0 ≤ (1 : Int) ∧ (1 : Int) < (l14 : Nat)) ∧
                                            AddrK a14 fun b179 =>
                                            ∃ (x180 : Int), w172.cell? (b179.add ((1 : Int).toNat * 1)) = some (.int .i64 x180) ∧
                                            (∃ (x181 : Int), w172.cell? (b8.add 3) = some (.int .i64 x181) ∧
                                              (K (decide ((x180 : Int) > IntKind.wrap .i64 (x7 + x181))) w172)))
                                          (K false w172))))) ∧
                                  (BoolK (!p140)
                                    (J159 true w141)
                                    (J159 (decide ((x139 : Int) > 1)) w141))))))))
                      (DrewK w12 fun w182 =>
                        ∃ (a183 : Option Addr) (l183 : Nat) (c183 : Nat), w182.cell? (b8.add 2) = some (.slice a183 l183 c183) ∧
                        ((0 ≤ (0 : Int) ∧ (0 : Int) < (l183 : Nat)) ∧
                          AddrK a183 fun b184 =>
                          ∃ (x185 : Int), w182.cell? (b184.add ((0 : Int).toNat * 1)) = some (.int .i64 x185) ∧
                          (∃ (a186 : Option Addr) (l186 : Nat) (c186 : Nat), w182.cell? (b8.add 2) = some (.slice a186 l186 c186) ∧
                            ((0 ≤ (1 : Int) ∧ (1 : Int) < (l186 : Nat)) ∧
                              AddrK a186 fun b187 =>
                              ∃ (x188 : Int), w182.cell? (b187.add ((1 : Int).toNat * 1)) = some (.int .i64 x188) ∧
                              (BoolK ((x6 : Int) == 0)
                                ((0 ≤ (1 : Int) ∧ (1 : Int) < (l14 : Nat)) ∧
                                  AddrK a14 fun b189 =>
                                  ∃ (x190 : Int), w182.cell? (b189.add ((1 : Int).toNat * 1)) = some (.int .i64 x190) ∧
                                  (BoolK (decide ((IntKind.wrap .i64 (x7 + x185) : Int) ≤ x190))
                                    (K true w182)
                                    ((0 ≤ (1 : Int) ∧ (1 : Int) < (l13 : Nat)) ∧
                                      AddrK a13 fun b191 =>
                                      ∃ (x192 : Int), w182.cell? (b191.add ((1 : Int).toNat * 1)) = some (.int .i64 x192) ∧
                                      (K (decide ((IntKind.wrap .i64 (x192 + x188) : Int) ≤ x7)) w182))))
                                ((0 ≤ (0 : Int) ∧ (0 : Int) < (l13 : Nat)) ∧
                                  AddrK a13 fun b193 =>
                                  ∃ (x194 : Int), w182.cell? (b193.add ((0 : Int).toNat * 1)) = some (.int .i64 x194) ∧
                                  (BoolK (decide ((IntKind.wrap .i64 (x194 + x185) : Int) ≤ x7))
                                    (K true w182)
                                    ((0 ≤ (0 : Int) ∧ (0 : Int) < (l14 : Nat)) ∧
                                      AddrK a14 fun b195 =>
                                      ∃ (x196 : Int), w182.cell? (b195.add ((0 : Int).toNat * 1)) = some (.int .i64 x196) ∧
                                      (K (decide ((IntKind.wrap .i64 (x7 + x188) : Int) ≤ x196)) w182)))))))))))))))))))
def ann84 : Ann := (.two .nil (.two .nil (.two (.two .nil (.one (.loop [(9, (.one .slice)), (10, (.one .slice)), (11, (.one (.int .i64)))] [1, 2, 3, 4] (.two (.two .nil (.two .nil .nil)) (.two (.one (.two .nil .nil)) .nil))))) (.two (.two .nil (.one (.two .nil (.two (.two .nil (.two (.any 27 (.take 0 (.take 1 (.take 2 (.take 3 (.take 4 (.take 5 (.take 6 (.take 7 (.take 8 (.take 9 (.take 10 (.take 11 (.take 12 (.take 13 (.take 14 (.take 15 (.take 16 (.take 17 (.take 18 (.take 19 (.take 20 (.take 21 (.take 22 (.take 23 (.take 24 (.take 25 (.take 26 .done)))))))))))))))))))))))))))) .nil)) (.two .nil (.two (.two .nil (.two (.any 13 (.take 0 (.take 1 (.take 2 (.take 3 (.take 4 (.take 5 (.take 6 (.take 7 (.take 8 (.take 9 (.take 10 (.take 11 (.take 12 .done)))))))))))))) .nil)) (.two .nil (.two (.two .nil (.two .nil .nil)) (.two .nil (.two (.two (.two .nil (.one (.loop [(20, (.one (.int .i64)))] [1, 2, 3, 4] (.two (.two .nil (.two .nil .nil)) (.two (.one (.two .nil (.two .nil (.two (.two .nil .nil) .nil)))) .nil))))) (.two .nil .nil)) (.two .nil (.two (.two (.two .nil (.two (.two (.any 21 (.take 0 (.take 1 (.take 2 (.take 3 (.take 4 (.take 5 (.take 6 (.take 7 (.take 8 (.take 9 (.take 10 (.take 11 (.take 12 (.take 13 (.take 14 (.take 15 (.take 16 (.take 17 (.take 18 (.take 19 (.take 20 .done)))))))))))))))))))))) .nil) .nil)) (.two (.any 25 (.take 0 (.take 1 (.take 2 (.take 3 (.take 4 (.take 5 (.take 6 (.take 7 (.take 8 (.take 9 (.take 10 (.take 11 (.take 12 (.take 13 (.take 14 (.take 15 (.take 16 (.take 17 (.take 18 (.take 19 (.take 20 (.take 21 (.take 22 (.take 23 (.take 24 .done)))))))))))))))))))))))))) .nil)) (.two .nil (.two (.two .nil .nil) (.two .nil (.two (.two (.two .nil (.two (.two (.any 21 (.take 0 (.take 1 (.take 2 (.take 3 (.take 4 (.take 5 (.take 6 (.take 7 (.take 8 (.take 9 (.take 10 (.take 11 (.take 12 (.take 13 (.take 14 (.take 15 (.take 16 (.take 17 (.take 18 (.take 19 (.take 20 .done)))))))))))))))))))))) .nil) .nil)) (.two (.any 24 (.take 0 (.take 1 (.take 2 (.take 3 (.take 4 (.take 5 (.take 6 (.take 7 (.take 8 (.take 9 (.take 10 (.take 11 (.take 12 (.take 13 (.take 14 (.take 15 (.take 16 (.take 17 (.take 18 (.take 19 (.take 20 (.take 21 (.take 22 (.take 23 .done))))))))))))))))))))))))) .nil)) (.two .nil (.two (.two .nil (.two (.one (.two .nil (.two (.two (.any 31 (.take 0 (.take 1 (.take 2 (.take 3 (.take 4 (.take 5 (.take 6 (.take 7 (.take 8 (.take 9 (.take 10 (.take 11 (.take 12 (.take 13 (.take 14 (.take 15 (.take 16 (.take 17 (.take 18 (.take 19 (.take 20 (.take 21 (.take 22 (.take 23 (.take 24 (.take 25 (.take 26 (.take 27 (.take 28 (.take 29 (.take 30 .done)))))))))))))))))))))))))))))))) .nil) (.cut [(333, (.one .bool))] [2, 3, 4, 9, 10, 23] .nil (.two (.two .nil .nil) (.two .nil (.two (.two (.any 27 (.take 0 (.take 1 (.take 2 (.take 3 (.take 4 (.take 5 (.take 6 (.take 7 (.take 8 (.take 9 (.take 10 (.take 11 (.take 12 (.take 13 (.take 14 (.take 15 (.take 16 (.take 17 (.take 18 (.take 19 (.take 20 (.take 21 (.take 22 (.take 23 (.take 24 (.take 25 (.take 26 .done)))))))))))))))))))))))))))) .nil) .nil))))))) (.two (.any 27 (.take 0 (.take 1 (.take 2 (.take 3 (.take 4 (.take 5 (.take 6 (.take 7 (.take 8 (.take 9 (.take 10 (.take 11 (.take 12 (.take 13 (.take 14 (.take 15 (.take 16 (.take 17 (.take 18 (.take 19 (.take 20 (.take 21 (.take 22 (.take 23 (.take 24 (.take 25 (.take 26 .done)))))))))))))))))))))))))))) .nil))) .nil)))))))))))))))))) (.two (.any 10 (.take 0 (.take 1 (.take 2 (.take 3 (.take 4 (.take 5 (.take 6 (.take 7 (.take 8 (.take 9 .done))))))))))) (.two (.two .nil (.two (.two .nil .nil) .nil)) (.two .nil .nil)))))))
noncomputable def code84 : Code := match Try.f84.body with | some c => c | none => .skip
theorem wp84 (s1 : ByteArray) (a2 : Option Addr) (l2 : Nat) (c2 : Nat) (a3 : Option Addr) (l3 : Nat) (c3 : Nat) (x4 : Int) (a5 : Option Addr) (l5 : Nat) (c5 : Nat) (x6 : Int) (x7 : Int) (K : Bool → World → Prop) (w : World) : WP Try.prog tab code84 ann84 (fnQ tab Try.f84.results.toList [(.one .bool)] K) (argE 0 [(.agg #[(.string s1), (.slice a2 l2 c2), (.slice a3 l3 c3), (.int .i64 x4)]), (.slice a5 l5 c5), (.int .i64 x6), (.int .i64 x7)]) w = N84 s1 a2 l2 c2 a3 l3 c3 x4 a5 l5 c5 x6 x7 K w := by kernel_rfl
theorem calls84 (s1 : ByteArray) (a2 : Option Addr) (l2 : Nat) (c2 : Nat) (a3 : Option Addr) (l3 : Nat) (c3 : Nat) (x4 : Int) (a5 : Option Addr) (l5 : Nat) (c5 : Nat) (x6 : Int) (x7 : Int) (K : Bool → World → Prop) (w : World) (h : N84 s1 a2 l2 c2 a3 l3 c3 x4 a5 l5 c5 x6 x7 K w) : Calls Try.prog 84 #[(.agg #[(.string s1), (.slice a2 l2 c2), (.slice a3 l3 c3), (.int .i64 x4)]), (.slice a5 l5 c5), (.int .i64 x6), (.int .i64 x7)] w fun en w' => ∃ (p197 : Bool), en = .returned (.bool p197) ∧ K p197 w' :=
  have e : (fun en w' => ExShs [(.one .bool)] fun vs => en = .returned (tupled vs) ∧ ap [(.one .bool)] K vs fun p => p w') = (fun (en : Ending) (w' : World) => ∃ (p197 : Bool), en = .returned (.bool p197) ∧ K p197 w') := by kernel_rfl
  e ▸ fn_sound tabOk mixed Try.func84 (by kernel_rfl : Try.f84.body = some code84) ann84 [(.agg #[(.string s1), (.slice a2 l2 c2), (.slice a3 l3 c3), (.int .i64 x4)]), (.slice a5 l5 c5), (.int .i64 x6), (.int .i64 x7)] [(.one .bool)] K w (by kernel_rfl) ((wp84 s1 a2 l2 c2 a3 l3 c3 x4 a5 l5 c5 x6 x7 K w).symm ▸ h)
end Go.Proofs.Ytggfnakhmjkoeaa

namespace Go.Proofs.Ytggfnakhmjkoeaa
open Go Go.V Go.Proofs
open Go.RowKit (Below)

/-- two rows of the function's own, apart from each other -/
def Two (base : Nat) (w : World) (a : Option Addr) (l c : Nat) (b : Option Addr) (m d : Nat) (xs ys : List Int) : Prop :=
  OwnR base 3 1 eI w a l c xs ∧ OwnR base 3 1 eI w b m d ys ∧ ∀ g, (Value.slice a l c).ownBlock = some g → (Value.slice b m d).ownBlock ≠ some g
theorem Two.swap {base : Nat} {w : World} {a : Option Addr} {l c : Nat} {b : Option Addr} {m d : Nat} {xs ys : List Int} (h : Two base w a l c b m d xs ys) : Two base w b m d a l c ys xs :=
  ⟨h.2.1, h.1, fun g hg hb => h.2.2 g hb hg⟩
theorem Two.ext {base : Nat} {w w' : World} {a : Option Addr} {l c : Nat} {b : Option Addr} {m d : Nat} {xs ys : List Int} (h : Two base w a l c b m d xs ys) (k : Ext w w') : Two base w' a l c b m d xs ys := ⟨h.1.ext k, h.2.1.ext k, h.2.2⟩
theorem Two.push {base : Nat} {w : World} {a : Option Addr} {l c : Nat} {b : Option Addr} {m d : Nat} {xs ys : List Int} (x : Int) (h : Two base w a l c b m d xs ys) (hb : base ≤ w.heap.size) (hl : xs.length ≤ 1000000) {F : Option Addr → Nat → Nat → World → Prop}
    (k : ∀ a' c' w', Two base w' a' (xs.length + 1) c' b m d (xs ++ [x]) ys → Below base w w' → F a' (xs.length + 1) c' w') :
    AllocK w #[.int .i64 x] 3 fun p w1 => ∃ a' l' c' w2, Sem.run Try.prog (Builtin.append_ #[22, 22] 22 #[.slice a l c, .slice (some p) 1 1]) w1 = .ok (.slice a' l' c') w2 ∧ F a' l' c' w2 := by
  refine h.1.push x slt22 hb eI_len eI_one (by omega) rfl fun a' c' w' ho hg hown => k a' c' w' ⟨ho, h.2.1.kept fun g hgb => hg.block g (h.2.1.lt g hgb).2 (fun e => h.2.2 g e.symm hgb), fun g hga hgb => ?_⟩ (h.1.below hb hg)
  rcases hown with e | ⟨g', e, hge⟩
  · exact h.2.2 g (by rw [← e]; exact hga) hgb
  · rw [e] at hga; cases hga
    have := (h.2.1.lt g hgb).2; omega

end Go.Proofs.Ytggfnakhmjkoeaa

namespace Go.Proofs.Ytggfnakhmjkoeaa
open Go Go.V Go.Proofs
open Go.RowKit (Below)

theorem sin_one {d : Dm} {w : Int} : oneB d w = ((sinS d).2 && decide ((sinS d).1 = w)) := by
  unfold oneB sinS
  by_cases h : mn d = mx d
  · rw [if_pos h]
    by_cases h2 : mn d = w
    · simp [h2, ← h]
    · simp [h2]
  · rw [if_neg h]
    by_cases h2 : mn d = w
    · have : ¬ mx d = w := fun e => h (h2.trans e.symm)
      simp [this]
    · simp [h2]

set_option maxHeartbeats 1000000 in
theorem c84 (w : World) (s : ByteArray) (a2 : Option Addr) (l2 c2 : Nat) (a3 : Option Addr) (l3 c3 : Nat) (x4 : Int) (p : PropS) (h : PropAt w s a2 l2 a3 l3 x4 p)
    (a5 : Option Addr) (l5 c5 : Nat) (ls : List Dm) (hd : Doms w a5 l5 ls) (hV : VarsAt p ls) (hk : kindB (kdOf p.kind) p.vars.length p.coefs.length p.coefs p.n = true) (h40 : p.vars.length ≤ 40) (i v : Nat) (hi : i < p.vars.length) (hv : v ≤ 1000) :
    Calls Try.prog 84 #[.agg #[.string s, .slice a2 l2 c2, .slice a3 l3 c3, .int .i64 x4], .slice a5 l5 c5, .int .i64 i, .int .i64 v] w fun en w' => ∃ r, en = .returned (.bool r) ∧ (r = passS (kdOf p.kind) p.coefs p.n (bsOf p ls) i v ∧ Ext w w') := by
  have hP := h
  obtain ⟨rfl, hv2, hc2, rfl, _, _⟩ := h
  have hl2 := hv2.1
  have hl3 := hc2.1
  have hl5 := hd.1
  have hlen : (bsOf p ls).length = p.vars.length := by simp [bsOf]
  have hbget : ∀ j (hj : j < p.vars.length), (bsOf p ls)[j]'(by omega) = at' (bsOf p ls) j := fun j hj => (at_get (by omega)).symm
  refine calls84 _ _ _ _ _ _ _ _ _ _ _ _ _ _ w ?_
  refine AllocK.mk fun b w9 hb8 hblk hx => ?_
  have hcell := fun (w' : World) (k : Ext w9 w') => cell4 (hblk.ext k)
  simp only [add_mk, Nat.zero_add]
  refine ⟨fun a l c a' l' c' x w' => ∃ k : Nat, x = k ∧ k ≤ p.vars.length ∧ Two w9.heap.size w' a l c a' l' c' (((bsOf p ls).take k).map mn) (((bsOf p ls).take k).map mx) ∧ Ext w9 w', fun _ _ _ _ _ _ x _ => p.vars.length - x.toNat,
    ⟨⟨0, rfl, by omega, ⟨OwnR.nil _ _ _ _ _, OwnR.nil _ _ _ _ _, fun g hg => by cases hg⟩, Ext.refl _⟩, trivial⟩, ?_⟩
  rintro w12 a13 l13 c13 a14 l14 c14 _ ⟨k, rfl, hkk, hT, hB⟩
  have hBw := hx.trans hB
  refine ⟨_, _, _, (hcell _ hB).2.1, BoolK.mk (fun hlt => ?_) (fun hge => ?_)⟩
  · have hlt : k < p.vars.length := by simp at hlt; omega
    have hvk := hV.ok k hlt
    obtain ⟨b1, o1, rfl, g0⟩ := intAt hv2 w12 hBw hlt
    obtain ⟨b2, o2, a21, l21, c21, rfl, g1, gd⟩ := domsAt hd w12 hBw hvk.2
    have hfk := hV.full k hlt
    rw [at_bs hlt hvk.2] at hfk
    refine ⟨_, _, _, (hcell _ hB).2.1, by omega, ?_⟩
    simp only [AddrK, add_mk, Int.toNat_natCast, Nat.mul_one]
    refine ⟨_, g0, by omega, _, _, _, g1, (c92 w12 a21 l21 c21 _ gd hfk).mono ?_⟩
    rintro en w24 ⟨x22, x23, rfl, rfl, rfl, hx24⟩
    refine ⟨_, _, rfl, ?_⟩
    have hB24 := hB.trans hx24
    have htl : (((bsOf p ls).take k).map mn).length = k := by simp; omega
    have htl' : (((bsOf p ls).take k).map mx).length = k := by simp; omega
    refine (hT.ext hx24).push _ hB24.size (by omega) fun a28 c28 w29 hT29 hb29 => ?_
    have hB29 := Below.trans hB24 hb29
    refine hT29.swap.push _ hB29.size (by omega) fun a32 c32 w33 hT33 hb33 => ?_
    rw [wrap_succ (by omega)]
    refine ⟨⟨k + 1, rfl, by omega, ?_, Below.trans hB29 hb33⟩, by simp; omega⟩
    have e1 : (bsOf p ls).take (k + 1) = (bsOf p ls).take k ++ [ls[(p.vars[k]).toNat]] := by
      rw [List.take_add_one, List.getElem?_eq_getElem (by omega), hbget k hlt, at_bs hlt hvk.2]; rfl
    rw [e1, List.map_append, List.map_append]
    exact hT33.swap
  have : k = p.vars.length := by simp at hge; omega
  subst this
  rw [List.take_of_length_le (by omega)] at hT
  have hIn := hT.1.ints
  have hIx := hT.2.1.ints
  have hl13 := hIn.1
  have hl14 := hIx.1
  rw [List.length_map] at hl13 hl14
  clear hkk hge hT
  have hend : ∀ j, j < p.vars.length → 0 ≤ mn (at' (bsOf p ls) j) ∧ mn (at' (bsOf p ls) j) ≤ mx (at' (bsOf p ls) j) ∧ mx (at' (bsOf p ls) j) ≤ 1000 := fun j hj => (hV.full j hj).ends
  obtain ⟨bA, oA, rfl, _⟩ := intAt hIn w12 (Ext.refl _) (i := 0) (by simp; omega)
  obtain ⟨bM, oM, rfl, _⟩ := intAt hIx w12 (Ext.refl _) (i := 0) (by simp; omega)
  have hA : ∀ w' (_ : Ext w12 w') j (_ : j < p.vars.length), w'.cell? ⟨bA, oA + j, none⟩ = some (.int .i64 (mn (at' (bsOf p ls) j))) := fun w' k j hj => by
    obtain ⟨b', o', hh, g⟩ := intAt hIn w' k (i := j) (by simp; omega)
    simp at hh; obtain ⟨rfl, rfl⟩ := hh
    rw [g, List.getElem_map, hbget j hj]
  have hM : ∀ w' (_ : Ext w12 w') j (_ : j < p.vars.length), w'.cell? ⟨bM, oM + j, none⟩ = some (.int .i64 (mx (at' (bsOf p ls) j))) := fun w' k j hj => by
    obtain ⟨b', o', hh, g⟩ := intAt hIx w' k (i := j) (by simp; omega)
    simp at hh; obtain ⟨rfl, rfl⟩ := hh
    rw [g, List.getElem_map, hbget j hj]
  obtain ⟨k0, k1, k2, k3, k4, k5, k6, k7, k8⟩ := kd_all p.kind
  have k0' : (p.kind.toList == (⟨#[115, 117, 109]⟩ : ByteArray).toList) = _ := k0
  have k1' : (p.kind.toList == (⟨#[109, 111, 115, 116]⟩ : ByteArray).toList) = _ := k1
  have k2' : (p.kind.toList == (⟨#[117, 110, 108, 105, 107, 101]⟩ : ByteArray).toList) = _ := k2
  have k3' : (p.kind.toList == (⟨#[100, 105, 115, 116, 105, 110, 99, 116]⟩ : ByteArray).toList) = _ := k3
  have k4' : (p.kind.toList == (⟨#[112, 114, 111, 100, 117, 99, 116]⟩ : ByteArray).toList) = _ := k4
  have k5' : (p.kind.toList == (⟨#[109, 97, 120]⟩ : ByteArray).toList) = _ := k5
  have k6' : (p.kind.toList == (⟨#[101, 108, 101, 109, 101, 110, 116]⟩ : ByteArray).toList) = _ := k6
  have k7' : (p.kind.toList == (⟨#[114, 101, 105, 102, 121]⟩ : ByteArray).toList) = _ := k7
  refine ⟨_, (hcell _ hB).1, ?_⟩
  rw [k0', k1', k2', k3', k4', k5', k6', k7']
  clear k0 k1 k2 k3 k4 k5 k6 k7 k8 k0' k1' k2' k3' k4' k5' k6' k7'
  have hC := hcell _ hB
  have r0 := Ext.refl w12
  have lift : ∀ w' (_ : Ext w12 w'), Ext w w' := fun w' k => hBw.trans k
  have cel : ∀ w' (_ : Ext w12 w'), _ := fun w' k => hcell w' (hB.trans k)
  -- sum
  refine BoolK.mk (fun q => ?_) (fun q0 => ?_)
  · have e := of_decide_eq_true q
    rw [e] at hk ⊢
    simp only [kindB, Bool.and_eq_true, decide_eq_true_eq] at hk
    have hnr := of_decide_eq_true hk.2
    have hcr := hk.1.2
    refine ⟨_, hC.1, _, _, _, hC.2.1, _, _, _, hC.2.2.1, _, hC.2.2.2, ?_⟩
    refine (c93 w12 _ _ _ _ _ _ _ _ p (hP.ext hBw) a5 l5 c5 ls (hd.ext (RSl.mono RPair.mono) hBw) hV h40 (by omega) hcr i).mono ?_
    rintro en w41 ⟨x39, x40, rfl, rfl, rfl, hx41⟩
    refine ⟨_, _, rfl, DrewK.mk fun w43 hx43 => ?_⟩
    have hx := hx41.trans hx43
    obtain ⟨b3, o3, rfl, g3⟩ := intAt hc2 w43 (lift _ hx) (i := i) (by omega)
    have hci : p.coefs.getD i 0 = p.coefs[i] := getD_get (by omega) _
    have hm := mul_small (rng_of hcr i) (x := (v : Int)) (by omega) (by omega)
    rw [hci] at hm
    refine ⟨_, (cel _ hx).2.2.2, _, _, _, (cel _ hx).2.2.1, by omega, ?_⟩
    simp only [AddrK, add_mk, Int.toNat_natCast, Nat.mul_one]
    refine ⟨_, g3, ?_⟩
    rw [wrap_id (x := p.coefs[i] * (v : Int)) (by omega) (by omega), wrap_id (x := p.n - p.coefs[i] * (v : Int)) (by omega) (by omega)]
    simp only [passS]; rw [hci]
    refine BoolK.mk (fun t1 => ?_) (fun t1 => ?_)
    · refine ⟨_, (cel _ hx).2.2.2, _, _, _, (cel _ hx).2.2.1, by omega, ?_⟩
      simp only [add_mk]
      refine ⟨_, g3, ?_, lift _ hx⟩
      rw [wrap_id (x := p.coefs[i] * (v : Int)) (by omega) (by omega), wrap_id (x := p.n - p.coefs[i] * (v : Int)) (by omega) (by omega)]
      rw [decide_eq_true (show lowS p.coefs (bsOf p ls) i (bsOf p ls).length ≤ p.n - p.coefs[i] * (v : Int) by simpa using t1), Bool.true_and]
    · exact ⟨by rw [decide_eq_false (by simpa using t1)]; rfl, lift _ hx⟩
  -- most
  refine BoolK.mk (fun q => ?_) (fun q1 => ?_)
  · have e := of_decide_eq_true q
    rw [e] at hk ⊢
    simp only [kindB, Bool.and_eq_true, decide_eq_true_eq] at hk
    have hnr := of_decide_eq_true hk.2
    have hcr := hk.1.2
    refine ⟨_, hC.1, _, _, _, hC.2.1, _, _, _, hC.2.2.1, _, hC.2.2.2, ?_⟩
    refine (c93 w12 _ _ _ _ _ _ _ _ p (hP.ext hBw) a5 l5 c5 ls (hd.ext (RSl.mono RPair.mono) hBw) hV h40 (by omega) hcr i).mono ?_
    rintro en w58 ⟨x39, x40, rfl, rfl, rfl, hx41⟩
    refine ⟨_, _, rfl, DrewK.mk fun w43 hx43 => ?_⟩
    have hx := hx41.trans hx43
    obtain ⟨b3, o3, rfl, g3⟩ := intAt hc2 w43 (lift _ hx) (i := i) (by omega)
    have hci : p.coefs.getD i 0 = p.coefs[i] := getD_get (by omega) _
    have hm := mul_small (rng_of hcr i) (x := (v : Int)) (by omega) (by omega)
    rw [hci] at hm
    have hfull : ∀ d ∈ bsOf p ls, Full d := fun d hdm => by
      obtain ⟨j, hj, rfl⟩ := List.mem_iff_getElem.1 hdm
      have := hV.full j (by omega)
      rw [at_get hj] at this; exact this
    have bnd := low_bound i hcr hfull (bsOf p ls).length (Nat.le_refl _)
    refine ⟨_, _, _, (cel _ hx).2.2.1, by omega, ?_⟩
    simp only [AddrK, add_mk, Int.toNat_natCast, Nat.mul_one]
    refine ⟨_, g3, _, (cel _ hx).2.2.2, ?_, lift _ hx⟩
    rw [wrap_id (x := p.coefs[i] * (v : Int)) (by omega) (by omega), wrap_id (by omega) (by omega)]
    simp only [passS]; rw [hci, decide_eq_decide]; omega
  -- unlike
  refine BoolK.mk (fun q => ?_) (fun q2 => ?_)
  · have e := of_decide_eq_true q
    rw [e] at hk ⊢
    simp only [kindB, Bool.and_eq_true, decide_eq_true_eq] at hk
    have hnr := of_decide_eq_true hk.2
    have hw1 : IntKind.wrap .i64 (1 - (i : Int)) = ((1 - i : Nat) : Int) := by rw [wrap_id] <;> omega
    have hj : 1 - i < p.vars.length := by omega
    have hvk := hV.ok _ hj
    have hfk := hV.full _ hj
    have hends := hend _ hj
    have hat := at_bs hj hvk.2
    obtain ⟨b1, o1, rfl, g0⟩ := intAt hv2 w12 hBw hj
    obtain ⟨b2, o2, a69, l69, c69, rfl, g1, gd⟩ := domsAt hd w12 hBw hvk.2
    rw [hw1]
    refine ⟨_, _, _, hC.2.1, by omega, ?_⟩
    simp only [AddrK, add_mk, Int.toNat_natCast, Nat.mul_one]
    rw [hat] at hfk hends
    refine ⟨_, g0, by omega, _, _, _, g1, (c94 w12 a69 l69 c69 _ gd hfk).mono ?_⟩
    rintro en w72 ⟨x70, p71, rfl, rfl, rfl, hx⟩
    simp only [passS]
    have spec : (if i = 0 then !oneB (at' (bsOf p ls) 1) ((v : Int) + p.n) else !oneB (at' (bsOf p ls) 0) ((v : Int) - p.n)) = (if i = 0 then !((sinS ls[(p.vars[1 - i]).toNat]).2 && decide ((sinS ls[(p.vars[1 - i]).toNat]).1 = (v : Int) + p.n)) else !((sinS ls[(p.vars[1 - i]).toNat]).2 && decide ((sinS ls[(p.vars[1 - i]).toNat]).1 = (v : Int) - p.n))) := by
      rw [← hat, ← sin_one, ← sin_one]
      by_cases hi0 : i = 0
      · rw [if_pos hi0, if_pos hi0, hi0]
      · rw [if_neg hi0, if_neg hi0, show 1 - i = 0 by omega]
    rw [spec]
    have hsb : (sinS ls[(p.vars[1 - i]).toNat]).2 = true → (sinS ls[(p.vars[1 - i]).toNat]).1 = mn ls[(p.vars[1 - i]).toNat] := fun hh => by
      unfold sinS at hh ⊢; split at hh
      · rw [if_pos (by assumption)]
      · cases hh
    generalize sinS ls[(p.vars[1 - i]).toNat] = S at hsb ⊢
    refine ⟨_, _, rfl, BoolK.mk (fun t1 => ?_) (fun t1 => ?_)⟩
    · simp at t1
      exact ⟨by rw [t1]; simp, lift _ hx⟩
    · simp at t1
      have hs1 := hsb t1
      rw [t1, Bool.true_and, Bool.true_and]
      refine BoolK.mk (fun t2 => ?_) (fun t2 => ?_)
      · have hi0 : i = 0 := by simpa using t2
        rw [if_pos hi0]
        refine ⟨_, (cel _ hx).2.2.2, ?_⟩
        rw [wrap_id (by omega) (by omega)]
        refine BoolK.mk (fun t3 => ?_) (fun t3 => ?_)
        · simp at t3
          exact ⟨by rw [decide_eq_false (by omega)]; rfl, lift _ hx⟩
        · simp at t3
          refine BoolK.mk (fun t4 => by simp at t4; omega) (fun _ => ?_)
          exact ⟨by rw [decide_eq_true (by omega)]; rfl, lift _ hx⟩
      · have hi0 : i ≠ 0 := by simpa using t2
        rw [if_neg hi0]
        refine BoolK.mk (fun t4 => ?_) (fun t4 => by simp at t4; omega)
        refine ⟨_, (cel _ hx).2.2.2, ?_, lift _ hx⟩
        rw [wrap_id (by omega) (by omega)]
        rw [Bool.eq_iff_iff]; simp; omega
  -- distinct
  refine BoolK.mk (fun q => ?_) (fun q3 => ?_)
  · have e := of_decide_eq_true q
    rw [e] at hk ⊢
    simp only [passS]
    refine ⟨fun x w' => ∃ j : Nat, x = j ∧ j ≤ p.vars.length ∧ ((List.range (bsOf p ls).length).take j).all (fun j => decide (j = i) || !oneB (at' (bsOf p ls) j) v) = true ∧ Ext w12 w', fun x _ => p.vars.length - x.toNat, ⟨⟨0, rfl, by omega, rfl, r0⟩, trivial⟩, ?_⟩
    rintro w79 _ ⟨j, rfl, hj, hall, hx79⟩
    refine ⟨_, _, _, (cel _ hx79).2.1, BoolK.mk (fun hlt => ?_) (fun hge => ?_)⟩
    · have hlt : j < p.vars.length := by simp at hlt; omega
      have hlt' : j < (List.range (bsOf p ls).length).length := by simp; omega
      have hvk := hV.ok _ hlt
      have hfk := hV.full _ hlt
      have hat := at_bs hlt hvk.2
      obtain ⟨b1, o1, rfl, g0⟩ := intAt hv2 w79 (lift _ hx79) hlt
      obtain ⟨b2, o2, a69, l69, c69, rfl, g1, gd⟩ := domsAt hd w79 (lift _ hx79) hvk.2
      have hstep : ∀ w', Ext w12 w' → (decide (j = i) || !oneB (at' (bsOf p ls) j) v) = true → (∃ j' : Nat, IntKind.wrap .i64 ((j : Int) + 1) = j' ∧ j' ≤ p.vars.length ∧ ((List.range (bsOf p ls).length).take j').all (fun j => decide (j = i) || !oneB (at' (bsOf p ls) j) v) = true ∧ Ext w12 w') ∧ p.vars.length - (IntKind.wrap .i64 ((j : Int) + 1)).toNat < p.vars.length - (j : Int).toNat := fun w' hw' hh => by
        rw [wrap_succ (by omega)]
        refine ⟨⟨j + 1, rfl, by omega, ?_, hw'⟩, by simp; omega⟩
        rw [all_take hlt', hall, Bool.true_and, List.getElem_range]; exact hh
      refine ⟨_, _, _, (cel _ hx79).2.1, by omega, ?_⟩
      simp only [AddrK, add_mk, Int.toNat_natCast, Nat.mul_one]
      rw [hat] at hfk
      refine ⟨_, g0, by omega, _, _, _, g1, (c94 w79 a69 l69 c69 _ gd hfk).mono ?_⟩
      rintro en w89 ⟨x87, p88, rfl, rfl, rfl, hx⟩
      have hx89 := hx79.trans hx
      have hone : oneB (at' (bsOf p ls) j) v = ((sinS ls[(p.vars[j]).toNat]).2 && decide ((sinS ls[(p.vars[j]).toNat]).1 = v)) := by rw [hat]; exact sin_one
      refine ⟨_, _, rfl, BoolK.mk (fun t1 => ?_) (fun t1 => ?_)⟩
      · have hne : j ≠ i := by simp at t1; omega
        refine BoolK.mk (fun t2 => ?_) (fun t2 => ?_)
        · refine BoolK.mk (fun t3 => ?_) (fun t3 => ?_)
          · refine ⟨?_, lift _ hx89⟩
            rw [all_false hlt' (by rw [List.getElem_range, hone, t2, decide_eq_false hne, decide_eq_true (by simpa using t3)]; rfl)]
          · exact hstep _ hx89 (by rw [hone, decide_eq_false (p := (sinS ls[(p.vars[j]).toNat]).1 = v) (by simpa using t3)]; simp)
        · exact hstep _ hx89 (by rw [hone, t2]; simp)
      · have he : j = i := by simp at t1; omega
        exact hstep _ hx89 (by rw [decide_eq_true he]; rfl)
    · have : j = p.vars.length := by simp at hge; omega
      subst this
      rw [List.take_of_length_le (by simp; omega)] at hall
      exact ⟨hall.symm, lift _ hx79⟩
  have hw1 : i ≠ 2 → IntKind.wrap .i64 (1 - (i : Int)) = ((1 - i : Nat) : Int) ∨ 3 ≤ i := fun _ => by
    rcases Nat.lt_or_ge i 3 with h | h
    · left; rw [wrap_id] <;> omega
    · exact .inr h
  -- product
  refine BoolK.mk (fun q => ?_) (fun q4 => ?_)
  · have e := of_decide_eq_true q
    rw [e] at hk ⊢
    simp only [kindB, Bool.and_eq_true, decide_eq_true_eq] at hk
    simp only [passS]
    have e0 := hend 0 (by omega)
    have e1 := hend 1 (by omega)
    have e2 := hend 2 (by omega)
    refine BoolK.mk (fun t => ?_) (fun t => ?_)
    · have hi2 : i = 2 := by simp at t; omega
      rw [if_pos hi2]
      refine DrewK.mk fun w91 hx => ?_
      have p1 := mul_1000 e0.1 (by omega) e1.1 (by omega)
      have p2 := mul_1000 (x := mx (at' (bsOf p ls) 0)) (y := mx (at' (bsOf p ls) 1)) (by omega) (by omega) (by omega) (by omega)
      refine ⟨by omega, ?_⟩
      simp only [AddrK, add_mk, Int.toNat_zero, Int.toNat_one, Nat.mul_one]
      refine ⟨_, hA _ hx 0 (by omega), by omega, _, hA _ hx 1 (by omega), ?_⟩
      rw [wrap_id (by omega) (by omega)]
      refine BoolK.mk (fun t1 => ?_) (fun t1 => ?_)
      · refine ⟨by omega, _, hM _ hx 0 (by omega), by omega, _, hM _ hx 1 (by omega), ?_, lift _ hx⟩
        rw [wrap_id (by omega) (by omega), t1]; rfl
      · exact ⟨by rw [t1]; rfl, lift _ hx⟩
    · have hi2 : i ≠ 2 := by simp at t; omega
      rw [if_neg hi2]
      have hwi : IntKind.wrap .i64 (1 - (i : Int)) = ((1 - i : Nat) : Int) := (hw1 hi2).elim id (fun h => by omega)
      refine DrewK.mk fun w100 hx => ?_
      rw [hwi]
      have e3 := hend (1 - i) (by omega)
      have p1 := mul_1000 (x := (v : Int)) (y := mn (at' (bsOf p ls) (1 - i))) (by omega) (by omega) e3.1 (by omega)
      have p2 := mul_1000 (x := (v : Int)) (y := mx (at' (bsOf p ls) (1 - i))) (by omega) (by omega) (by omega) (by omega)
      refine ⟨by omega, ?_⟩
      simp only [AddrK, add_mk, Int.toNat_natCast, Nat.mul_one]
      refine ⟨_, hA _ hx (1 - i) (by omega), by omega, _, hM _ hx 2 (by omega), ?_⟩
      rw [wrap_id (by omega) (by omega)]
      refine BoolK.mk (fun t1 => ?_) (fun t1 => ?_)
      · refine ⟨by omega, _, hM _ hx (1 - i) (by omega), by omega, _, hA _ hx 2 (by omega), ?_, lift _ hx⟩
        rw [wrap_id (by omega) (by omega), t1]; rfl
      · exact ⟨by rw [t1]; rfl, lift _ hx⟩
  -- element
  refine BoolK.mk (fun q => ?_) (fun q5 => ?_)
  · have e := of_decide_eq_true q
    rw [e] at hk ⊢
    simp only [kindB, Bool.and_eq_true, decide_eq_true_eq] at hk
    refine ⟨_, hC.1, _, _, _, hC.2.1, _, _, _, hC.2.2.1, _, hC.2.2.2, ?_⟩
    refine (c95 w12 _ _ _ _ _ _ _ _ p (hP.ext hBw) a5 l5 c5 ls (hd.ext (RSl.mono RPair.mono) hBw) hV (by omega) (by omega) i v hv).mono ?_
    rintro en w114 ⟨r, rfl, hr, hx⟩
    exact ⟨_, rfl, hr, lift _ hx⟩
  -- max
  refine BoolK.mk (fun q => ?_) (fun q6 => ?_)
  · have e := of_decide_eq_true q
    rw [e] at hk ⊢
    simp only [kindB, Bool.and_eq_true, decide_eq_true_eq] at hk
    simp only [passS]
    refine BoolK.mk (fun t => ?_) (fun t => ?_)
    · have hi2 : i = 2 := by simp at t; omega
      rw [if_pos hi2]
      refine DrewK.mk fun w116 hx => ?_
      refine ⟨by omega, ?_⟩
      simp only [AddrK, add_mk, Int.toNat_zero, Int.toNat_one, Nat.mul_one]
      refine ⟨_, hA _ hx 0 (by omega), by omega, _, hA _ hx 1 (by omega), ?_⟩
      rw [max_if]
      refine BoolK.mk (fun t1 => ?_) (fun t1 => ?_)
      · refine ⟨by omega, _, hM _ hx 0 (by omega), by omega, _, hM _ hx 1 (by omega), ?_, lift _ hx⟩
        rw [max_if, t1]; rfl
      · exact ⟨by rw [t1]; rfl, lift _ hx⟩
    · have hi2 : i ≠ 2 := by simp at t; omega
      rw [if_neg hi2]
      have hwi : IntKind.wrap .i64 (1 - (i : Int)) = ((1 - i : Nat) : Int) := (hw1 hi2).elim id (fun h => by omega)
      refine DrewK.mk fun w125 hx => ?_
      refine ⟨by omega, ?_⟩
      rw [hwi]
      simp only [AddrK, add_mk, Int.toNat_natCast, Nat.mul_one]
      refine ⟨_, hM _ hx 2 (by omega), ?_⟩
      refine BoolK.mk (fun t1 => ?_) (fun t1 => ?_)
      · rw [t1, Bool.true_and]
        refine ⟨by omega, _, hA _ hx 2 (by omega), BoolK.mk (fun t2 => ?_) (fun t2 => ?_)⟩
        · exact ⟨by rw [t2, Bool.or_true], lift _ hx⟩
        · refine ⟨by omega, _, hM _ hx (1 - i) (by omega), by omega, _, hA _ hx 2 (by omega), ?_, lift _ hx⟩
          rw [t2, Bool.or_false]
      · exact ⟨by rw [t1]; rfl, lift _ hx⟩
  -- reify
  refine BoolK.mk (fun q => ?_) (fun q7 => ?_)
  · have e := of_decide_eq_true q
    rw [e] at hk ⊢
    simp only [kindB, Bool.and_eq_true, decide_eq_true_eq] at hk
    have hnr := of_decide_eq_true hk.2
    have e0 := hend 0 (by omega)
    have e1 := hend 1 (by omega)
    have e2 := hend 2 (by omega)
    have hvk := hV.ok 0 (by omega)
    have hfk := hV.full 0 (by omega)
    have hat := at_bs (p := p) (ls := ls) (j := 0) (by omega) hvk.2
    obtain ⟨b1, o1, rfl, g0⟩ := intAt hv2 w12 hBw (i := 0) (by omega)
    obtain ⟨b2, o2, a138, l138, c138, rfl, g1, gd⟩ := domsAt hd w12 hBw hvk.2
    refine ⟨_, _, _, hC.2.1, by omega, ?_⟩
    simp only [AddrK, add_mk, Int.toNat_zero, Int.toNat_one, Int.reduceToNat, Nat.mul_one]
    rw [hat] at hfk
    refine ⟨_, g0, by omega, _, _, _, g1, (c94 w12 a138 l138 c138 _ gd hfk).mono ?_⟩
    rintro en w141 ⟨x139, p140, rfl, hx1, hp1, hx⟩
    rw [← hat] at hx1 hp1
    have hone : ∀ u, oneB (at' (bsOf p ls) 0) u = (p140 && decide (x139 = u)) := fun u => by rw [hx1, hp1]; exact sin_one
    have hx0 : p140 = true → 0 ≤ x139 := fun hh => by
      rw [hp1] at hh; rw [hx1]
      unfold sinS at hh ⊢; split at hh
      · rw [if_pos (by assumption)]; exact e0.1
      · cases hh
    clear hx1 hp1
    refine ⟨_, _, rfl, ?_⟩
    simp only [passS, reifS, hone]
    refine BoolK.mk (fun t => ?_) (fun t => ?_)
    · have hi0 : i = 0 := by simpa using t
      rw [if_pos hi0]
      refine DrewK.mk fun w143 hx3 => ?_
      have hx' := hx.trans hx3
      have fin : ∀ r : Bool, (r = true ↔ ((v : Int) = 1 ∧ mn (at' (bsOf p ls) 1) ≤ mx (at' (bsOf p ls) 2) + p.n) ∨ ((v : Int) = 0 ∧ mx (at' (bsOf p ls) 1) > mn (at' (bsOf p ls) 2) + p.n)) → r = (decide ((v : Int) = 1) && decide (mn (at' (bsOf p ls) 1) ≤ mx (at' (bsOf p ls) 2) + p.n) || decide ((v : Int) = 0) && decide (mx (at' (bsOf p ls) 1) > mn (at' (bsOf p ls) 2) + p.n)) ∧ Ext w w143 := fun r hr => by
        refine ⟨?_, lift _ hx'⟩
        rw [Bool.eq_iff_iff, hr]; simp
      refine BoolK.mk (fun t1 => ?_) (fun t1 => ?_)
      · simp at t1
        refine ⟨by omega, _, hA _ hx' 1 (by omega), by omega, _, hM _ hx' 2 (by omega), _, (cel _ hx').2.2.2, ?_⟩
        rw [wrap_id (by omega) (by omega)]
        refine BoolK.mk (fun t2 => fin _ ?_) (fun t2 => BoolK.mk (fun t3 => ?_) (fun t3 => fin _ ?_))
        · simp at t2; simp; omega
        · simp at t3; omega
        · simp at t2 t3; simp; omega
      · simp at t1
        refine BoolK.mk (fun t3 => ?_) (fun t3 => fin _ ?_)
        · simp at t3
          refine ⟨by omega, _, hM _ hx' 1 (by omega), by omega, _, hA _ hx' 2 (by omega), _, (cel _ hx').2.2.2, ?_⟩
          rw [wrap_id (by omega) (by omega)]
          refine fin _ ?_
          simp; omega
        · simp at t3; simp; omega
    · have hi0 : i ≠ 0 := by simpa using t
      rw [if_neg hi0]
      refine ⟨fun q w160 => w160 = w141 ∧ q = (!p140 || decide (x139 > 1)), ?_, ?_⟩
      · rintro w160 q ⟨rfl, rfl⟩
        refine BoolK.mk (fun t1 => ?_) (fun t1 => ?_)
        · refine ⟨?_, lift _ hx⟩
          have h1 : (p140 && decide (x139 = 1)) = false := by
            simp at t1 ⊢; intro hh; rcases t1 with t1 | t1
            · rw [hh] at t1; cases t1
            · omega
          have h0 : (p140 && decide (x139 = 0)) = false := by
            simp at t1 ⊢; intro hh; rcases t1 with t1 | t1
            · rw [hh] at t1; cases t1
            · omega
          rw [h1, h0]; simp
        · have ht : p140 = true ∧ x139 ≤ 1 := by simpa using t1
          have hp0 := hx0 ht.1
          rw [ht.1]
          simp only [Bool.true_and]
          refine BoolK.mk (fun t2 => ?_) (fun t2 => ?_)
          · have hi1 : i = 1 := by simp at t2; omega
            rw [if_pos hi1]
            refine DrewK.mk fun w162 hx3 => ?_
            have hx' := hx.trans hx3
            refine BoolK.mk (fun t3 => ?_) (fun t3 => ?_)
            · simp at t3
              refine ⟨by omega, _, hM _ hx' 2 (by omega), _, (cel _ hx').2.2.2, ?_⟩
              rw [wrap_id (by omega) (by omega)]
              refine BoolK.mk (fun t4 => ⟨?_, lift _ hx'⟩) (fun t4 => BoolK.mk (fun t5 => ?_) (fun t5 => ⟨?_, lift _ hx'⟩))
              · simp at t4; rw [Bool.eq_iff_iff]; simp; omega
              · simp at t5; omega
              · simp at t4; rw [Bool.eq_iff_iff]; simp; omega
            · simp at t3
              refine BoolK.mk (fun t5 => ?_) (fun t5 => ?_)
              · simp at t5
                refine ⟨by omega, _, hA _ hx' 2 (by omega), _, (cel _ hx').2.2.2, ?_, lift _ hx'⟩
                rw [wrap_id (by omega) (by omega)]
                rw [Bool.eq_iff_iff]; simp; omega
              · simp at t5; omega
          · have hi1 : i ≠ 1 := by simp at t2; omega
            rw [if_neg hi1]
            refine DrewK.mk fun w172 hx3 => ?_
            have hx' := hx.trans hx3
            refine BoolK.mk (fun t3 => ?_) (fun t3 => ?_)
            · simp at t3
              refine ⟨by omega, _, hA _ hx' 1 (by omega), _, (cel _ hx').2.2.2, ?_⟩
              rw [wrap_id (by omega) (by omega)]
              refine BoolK.mk (fun t4 => ⟨?_, lift _ hx'⟩) (fun t4 => BoolK.mk (fun t5 => ?_) (fun t5 => ⟨?_, lift _ hx'⟩))
              · simp at t4; rw [Bool.eq_iff_iff]; simp; omega
              · simp at t5; omega
              · simp at t4; rw [Bool.eq_iff_iff]; simp; omega
            · simp at t3
              refine BoolK.mk (fun t5 => ?_) (fun t5 => ?_)
              · simp at t5
                refine ⟨by omega, _, hM _ hx' 1 (by omega), _, (cel _ hx').2.2.2, ?_, lift _ hx'⟩
                rw [wrap_id (by omega) (by omega)]
                rw [Bool.eq_iff_iff]; simp; omega
              · simp at t5; omega
      · refine BoolK.mk (fun t1 => ?_) (fun t1 => ?_)
        · exact ⟨rfl, by rw [t1]; rfl⟩
        · simp at t1; exact ⟨rfl, by rw [t1]; rfl⟩
  -- apart
  have e : kdOf p.kind = .apart := by
    simp at q0 q1 q2 q3 q4 q5 q6 q7
    cases hh : kdOf p.kind <;> simp_all [kindB]
  rw [e] at hk ⊢
  simp only [kindB, Bool.and_eq_true, decide_eq_true_eq] at hk
  simp only [passS]
  have hcc : ∀ j, j < 2 → 0 ≤ p.coefs.getD j 0 ∧ p.coefs.getD j 0 ≤ 1000000 := fun j hj => by
    have := List.all_eq_true.1 hk.2 p.coefs[j] (List.getElem_mem (by omega))
    rw [getD_get (by omega)]; simpa using this
  have e0 := hend 0 (by omega)
  have e1 := hend 1 (by omega)
  have c0 := hcc 0 (by omega)
  have c1 := hcc 1 (by omega)
  refine DrewK.mk fun w182 hx => ?_
  obtain ⟨b3, o3, rfl, g3⟩ := intAt hc2 w182 (lift _ hx) (i := 0) (by omega)
  obtain ⟨b', o', ha', g4⟩ := intAt hc2 w182 (lift _ hx) (i := 1) (by omega)
  simp at ha'; obtain ⟨rfl, rfl⟩ := ha'
  rw [← getD_get (c := p.coefs) (j := 0) (by omega) 0] at g3
  rw [← getD_get (c := p.coefs) (j := 1) (by omega) 0] at g4
  generalize p.coefs.getD 0 0 = d0 at *
  generalize p.coefs.getD 1 0 = d1 at *
  refine ⟨_, _, _, (cel _ hx).2.2.1, by omega, ?_⟩
  simp only [AddrK, add_mk, Int.toNat_zero, Int.toNat_one, Nat.mul_one]
  refine ⟨_, g3, _, _, _, (cel _ hx).2.2.1, by omega, ?_⟩
  simp only [add_mk]
  refine ⟨_, g4, BoolK.mk (fun t => ?_) (fun t => ?_)⟩
  · have hi0 : i = 0 := by simpa using t
    rw [if_pos hi0]
    refine ⟨by omega, _, hM _ hx 1 (by omega), ?_⟩
    rw [wrap_id (by omega) (by omega)]
    refine BoolK.mk (fun t1 => ?_) (fun t1 => ?_)
    · exact ⟨by rw [t1]; rfl, lift _ hx⟩
    · refine ⟨by omega, _, hA _ hx 1 (by omega), ?_, lift _ hx⟩
      rw [wrap_id (by omega) (by omega), t1]; rfl
  · have hi0 : i ≠ 0 := by simpa using t
    rw [if_neg hi0]
    refine ⟨by omega, _, hA _ hx 0 (by omega), ?_⟩
    rw [wrap_id (by omega) (by omega)]
    refine BoolK.mk (fun t1 => ?_) (fun t1 => ?_)
    · exact ⟨by rw [t1]; rfl, lift _ hx⟩
    · refine ⟨by omega, _, hM _ hx 0 (by omega), ?_, lift _ hx⟩
      rw [wrap_id (by omega) (by omega), t1]; rfl
end Go.Proofs.Ytggfnakhmjkoeaa

namespace Go.Proofs.Ytggfnakhmjkoeaa
open Go Go.V Go.Proofs
open Go.RowKit (Below)
/-! manystrand/manystrandref06.keep -/
def N54 (s1 : ByteArray) (a2 : Option Addr) (l2 : Nat) (c2 : Nat) (a3 : Option Addr) (l3 : Nat) (c3 : Nat) (x4 : Int) (a5 : Option Addr) (l5 : Nat) (c5 : Nat) (K : Option Addr → Nat → Nat → World → Prop) (w : World) : Prop :=
  AllocK w (#[(.string s1), (.slice a2 l2 c2), (.slice a3 l3 c3), (.int .i64 x4)]) 24 fun b6 w7 =>
  ∃ (a8 : Option Addr), ∃ (l8 : Nat), ∃ (c8 : Nat), ∃ (w9 : World), Sem.run Try.prog (Builtin.append_ #[25, 25] 25 #[(.slice none 0 0), (.slice a5 l5 c5)]) w7 = .ok (.slice a8 l8 c8) w9 ∧
  (∃ (I10 : Bool → Int → World → Prop) (μ11 : Bool → Int → World → Nat),
    (I10 false 0 w9 ∧ True) ∧
    ∀ (w12 : World) (p13 : Bool) (x14 : Int), I10 p13 x14 w12 →
    ∃ (a15 : Option Addr) (l15 : Nat) (c15 : Nat), w12.cell? (b6.add 1) = some (.slice a15 l15 c15) ∧
    (BoolK (decide ((x14 : Int) < (l15 : Nat)))
      (BoolK p13
        (I10 true (IntKind.wrap .i64 (x14 + 1)) w12 ∧ μ11 true (IntKind.wrap .i64 (x14 + 1)) w12 < μ11 p13 x14 w12)
        (∃ (a16 : Option Addr) (l16 : Nat) (c16 : Nat), w12.cell? (b6.add 1) = some (.slice a16 l16 c16) ∧
          ((0 ≤ (x14 : Int) ∧ (x14 : Int) < (l16 : Nat)) ∧
            AddrK a16 fun b17 =>
            ∃ (x18 : Int), w12.cell? (b17.add ((x14 : Int).toNat * 1)) = some (.int .i64 x18) ∧
            ((0 ≤ (x18 : Int) ∧ (x18 : Int) < (l5 : Nat)) ∧
              AddrK a5 fun b19 =>
              ∃ (a20 : Option Addr) (l20 : Nat) (c20 : Nat), w12.cell? (b19.add ((x18 : Int).toNat * 1)) = some (.slice a20 l20 c20) ∧
              (I10 (((l20 : Nat) : Int) == 0) (IntKind.wrap .i64 (x14 + 1)) w12 ∧ μ11 (((l20 : Nat) : Int) == 0) (IntKind.wrap .i64 (x14 + 1)) w12 < μ11 p13 x14 w12)))))
      (∃ (I21 : Int → World → Prop) (μ22 : Int → World → Nat),
        (I21 0 w12 ∧ True) ∧
        ∀ (w23 : World) (x24 : Int), I21 x24 w23 →
        ∃ (a25 : Option Addr) (l25 : Nat) (c25 : Nat), w23.cell? (b6.add 1) = some (.slice a25 l25 c25) ∧
        (BoolK (decide ((x24 : Int) < (l25 : Nat)))
          (∃ (a26 : Option Addr) (l26 : Nat) (c26 : Nat), w23.cell? (b6.add 1) = some (.slice a26 l26 c26) ∧
            ((0 ≤ (x24 : Int) ∧ (x24 : Int) < (l26 : Nat)) ∧
              AddrK a26 fun b27 =>
              ∃ (x28 : Int), w23.cell? (b27.add ((x24 : Int).toNat * 1)) = some (.int .i64 x28) ∧
              ((0 ≤ (x28 : Int) ∧ (x28 : Int) < (l8 : Nat)) ∧
                AddrK a8 fun b29 =>
                ∃ (a30 : Option Addr) (l30 : Nat) (c30 : Nat), w23.cell? (b29.add ((x28 : Int).toNat * 1)) = some (.slice a30 l30 c30) ∧
                (Calls Try.prog 83 #[(.slice a30 l30 c30)] w23 fun e33 w32 =>
                  ∃ (r31 : Array Value), e33 = .returned (.agg r31) ∧
                  (AllocK w32 (zeroOf Try.prog 71) 71 fun b34 w35 =>
                    StRow w35 b34 r31 1001 fun w36 =>
                    ∃ (I37 : Int → World → Prop) (μ38 : Int → World → Nat),
                    (I37 0 w36 ∧ True) ∧
                    ∀ (w39 : World) (x40 : Int), I37 x40 w39 →
                    BoolK (decide ((x40 : Int) ≤ 1000))
                    ((0 ≤ (x40 : Int) ∧ (x40 : Int) < (1001 : Nat)) ∧
                      ∃ (p41 : Bool), w39.cell? (b34.add ((x40 : Int).toNat * 1)) = some (.bool p41) ∧
                      (BoolK p41
                        (BoolK (!p13)
                          (∃ (s42 : ByteArray), w39.cell? (b6.add 0) = some (.string s42) ∧
                            (∃ (a43 : Option Addr) (l43 : Nat) (c43 : Nat), w39.cell? (b6.add 1) = some (.slice a43 l43 c43) ∧
                              (∃ (a44 : Option Addr) (l44 : Nat) (c44 : Nat), w39.cell? (b6.add 2) = some (.slice a44 l44 c44) ∧
                                (∃ (x45 : Int), w39.cell? (b6.add 3) = some (.int .i64 x45) ∧
                                  (Calls Try.prog 84 #[(.agg #[(.string s42), (.slice a43 l43 c43), (.slice a44 l44 c44), (.int .i64 x45)]), (.slice a5 l5 c5), (.int .i64 x24), (.int .i64 x40)] w39 fun e48 w47 =>
                                    ∃ (p46 : Bool), e48 = .returned (.bool p46) ∧
                                    ((0 ≤ (x40 : Int) ∧ (x40 : Int) < (1001 : Nat)) ∧
                                      SetK w47 (b34.add ((x40 : Int).toNat * 1)) (.bool p46) fun w49 =>
                                      I37 (IntKind.wrap .i64 (x40 + 1)) w49 ∧ μ38 (IntKind.wrap .i64 (x40 + 1)) w49 < μ38 x40 w39))))))
                          ((0 ≤ (x40 : Int) ∧ (x40 : Int) < (1001 : Nat)) ∧
                            SetK w39 (b34.add ((x40 : Int).toNat * 1)) (.bool false) fun w50 =>
                            I37 (IntKind.wrap .i64 (x40 + 1)) w50 ∧ μ38 (IntKind.wrap .i64 (x40 + 1)) w50 < μ38 x40 w39))
                        ((0 ≤ (x40 : Int) ∧ (x40 : Int) < (1001 : Nat)) ∧
                          SetK w39 (b34.add ((x40 : Int).toNat * 1)) (.bool false) fun w51 =>
                          I37 (IntKind.wrap .i64 (x40 + 1)) w51 ∧ μ38 (IntKind.wrap .i64 (x40 + 1)) w51 < μ38 x40 w39)))
                    (DrewK w39 fun w52 =>
                      ∃ (a53 : Option Addr) (l53 : Nat) (c53 : Nat), w52.cell? (b6.add 1) = some (.slice a53 l53 c53) ∧
                      ((0 ≤ (x24 : Int) ∧ (x24 : Int) < (l53 : Nat)) ∧
                        AddrK a53 fun b54 =>
                        ∃ (x55 : Int), w52.cell? (b54.add ((x24 : Int).toNat * 1)) = some (.int .i64 x55) ∧
                        (∃ (r56 : Array Value), RowAt w52 b34 r56 1001 ∧
                          (Calls Try.prog 66 #[(.agg r56)] w52 fun e59 w58 =>
                            ∃ (a57 : Option Addr), ∃ (l57 : Nat), ∃ (c57 : Nat), e59 = .returned (.slice a57 l57 c57) ∧
                            (Below w52.heap.size w52 w58 ∧
                              ((0 ≤ (x55 : Int) ∧ (x55 : Int) < (l8 : Nat)) ∧
                                AddrK a8 fun b60 =>
                                SetK w58 (b60.add ((x55 : Int).toNat * 1)) (.slice a57 l57 c57) fun w61 =>
                                I21 (IntKind.wrap .i64 (x24 + 1)) w61 ∧ μ22 (IntKind.wrap .i64 (x24 + 1)) w61 < μ22 x24 w23)))))))))))
          (K a8 l8 c8 w23)))))
def ann54 : Ann := (.two .nil (.two .nil (.two .nil (.two (.two .nil (.one (.loop [(6, (.one .bool)), (7, (.one (.int .i64)))] [1, 2, 5] (.two (.two .nil (.two .nil .nil)) (.two (.one .nil) .nil))))) (.two (.two .nil (.one (.loop [(8, (.one (.int .i64)))] [1, 2, 5, 6] (.two (.two .nil (.two .nil .nil)) (.two (.one (.two .nil (.two (.two .nil (.one (.loop [(10, (.one (.int .i64)))] [1, 2, 5, 6, 8, 9] (.two (.two .nil (.two .nil .nil)) (.two (.one .nil) .nil))))) (.any 9 (.take 0 (.take 1 (.take 2 (.take 3 (.take 4 (.take 5 (.take 6 (.one 7 (.take 8 .done))))))))))))) .nil))))) (.two .nil .nil))))))
noncomputable def code54 : Code := match Try.f54.body with | some c => c | none => .skip
theorem wp54 (s1 : ByteArray) (a2 : Option Addr) (l2 : Nat) (c2 : Nat) (a3 : Option Addr) (l3 : Nat) (c3 : Nat) (x4 : Int) (a5 : Option Addr) (l5 : Nat) (c5 : Nat) (K : Option Addr → Nat → Nat → World → Prop) (w : World) : WP Try.prog tab code54 ann54 (fnQ tab Try.f54.results.toList [(.one .slice)] K) (argE 0 [(.agg #[(.string s1), (.slice a2 l2 c2), (.slice a3 l3 c3), (.int .i64 x4)]), (.slice a5 l5 c5)]) w = N54 s1 a2 l2 c2 a3 l3 c3 x4 a5 l5 c5 K w := by kernel_rfl
theorem calls54 (s1 : ByteArray) (a2 : Option Addr) (l2 : Nat) (c2 : Nat) (a3 : Option Addr) (l3 : Nat) (c3 : Nat) (x4 : Int) (a5 : Option Addr) (l5 : Nat) (c5 : Nat) (K : Option Addr → Nat → Nat → World → Prop) (w : World) (h : N54 s1 a2 l2 c2 a3 l3 c3 x4 a5 l5 c5 K w) : Calls Try.prog 54 #[(.agg #[(.string s1), (.slice a2 l2 c2), (.slice a3 l3 c3), (.int .i64 x4)]), (.slice a5 l5 c5)] w fun en w' => ∃ (a62 : Option Addr), ∃ (l62 : Nat), ∃ (c62 : Nat), en = .returned (.slice a62 l62 c62) ∧ K a62 l62 c62 w' :=
  have e : (fun en w' => ExShs [(.one .slice)] fun vs => en = .returned (tupled vs) ∧ ap [(.one .slice)] K vs fun p => p w') = (fun (en : Ending) (w' : World) => ∃ (a62 : Option Addr), ∃ (l62 : Nat), ∃ (c62 : Nat), en = .returned (.slice a62 l62 c62) ∧ K a62 l62 c62 w') := by kernel_rfl
  e ▸ fn_sound tabOk mixed Try.func54 (by kernel_rfl : Try.f54.body = some code54) ann54 [(.agg #[(.string s1), (.slice a2 l2 c2), (.slice a3 l3 c3), (.int .i64 x4)]), (.slice a5 l5 c5)] [(.one .slice)] K w (by kernel_rfl) ((wp54 s1 a2 l2 c2 a3 l3 c3 x4 a5 l5 c5 K w).symm ▸ h)
end Go.Proofs.Ytggfnakhmjkoeaa

namespace Go.Proofs.Ytggfnakhmjkoeaa
open Go Go.V Go.Proofs
open Go.RowKit (Below)

/-- a slice's own words -/
def RRaw (_ : World) (f : Cells) (s : Option Addr × Nat × Nat) : Prop := f 0 = some (.slice s.1 s.2.1 s.2.2)
theorem raw_of {w : World} {a : Option Addr} {l : Nat} {ds : List Dm} (h : Doms w a l ds) :
    ∃ S : List (Option Addr × Nat × Nat), S.length = ds.length ∧ Go.V.Rows 1 RRaw w a l S ∧ ∀ (i : Nat) (s : Option Addr × Nat × Nat) (d : Dm), S[i]? = some s → ds[i]? = some d → Dom w s.1 s.2.1 d := by
  have each : ∀ i, i < ds.length → ∃ s : Option Addr × Nat × Nat, (∀ b o, a = some ⟨b, o, none⟩ → w.cell? ⟨b, o + i, none⟩ = some (.slice s.1 s.2.1 s.2.2)) ∧ Dom w s.1 s.2.1 (ds.getD i []) := fun i hi => by
    obtain ⟨b, o, a', l', c', ha, h0, h1⟩ := domsAt h w (Ext.refl _) hi
    refine ⟨(a', l', c'), fun b' o' ha' => ?_, by rw [getD_get hi]; exact h1⟩
    rw [ha] at ha'; simp at ha'; obtain ⟨rfl, rfl⟩ := ha'; exact h0
  obtain ⟨f, hf⟩ := Go.Deep.choose_lt each
  refine ⟨(List.range ds.length).map f, by simp, ⟨by simp [h.1], ?_⟩, fun i s d hs hd => ?_⟩
  · rcases h.2 with h0 | ⟨b, o, ha, _⟩
    · left; rw [h0]; rfl
    · right
      refine ⟨b, o, ha, fun i s hs => ?_⟩
      have hi := (List.getElem?_eq_some_iff.1 hs).1
      simp at hi
      have : s = f i := by
        have := (List.getElem?_eq_some_iff.1 hs).2
        simpa using this.symm
      subst this
      show w.cell? ⟨b, o + i * 1 + 0, none⟩ = _
      rw [Nat.mul_one, Nat.add_zero]
      exact (hf i hi).1 b o ha
  · have hi := (List.getElem?_eq_some_iff.1 hd).1
    have e1 : s = f i := by
      have := (List.getElem?_eq_some_iff.1 hs).2
      simpa using this.symm
    have e2 : ds.getD i [] = d := by rw [getD_get hi]; exact (List.getElem?_eq_some_iff.1 hd).2
    subst e1; rw [← e2]; exact (hf i hi).2

/-- append(nil, l...) of a list of domains: the lists are shared -/
theorem copyDoms {w : World} {a : Option Addr} {l c : Nat} {ds : List Dm} (h : Doms w a l ds) (hl : ds.length ≤ 1000000) :
    ∃ a' c' w', Sem.run Try.prog (Builtin.append_ #[25, 25] 25 #[.slice none 0 0, .slice a l c]) w = .ok (.slice a' l c') w' ∧ DomsO w.heap.size w' a' l c' ds ∧ Ext w w' := by
  obtain ⟨S, h1, h2, h3⟩ := raw_of h
  obtain ⟨a', c', w', hr, ho, hx⟩ := copyRows (ty := 25) (c := c) slt25 h2 eS_len eS_one (fun f s hs j hj => by
    have : j = 0 := by omega
    subst this; exact hs) (by omega)
  refine ⟨a', c', w', hr, ⟨S, h1, ho, fun i s d hs hd => ?_⟩, hx⟩
  have hd' := h3 i s d hs hd
  refine ⟨hd'.ext RPair.mono hx, (hd'.lt RPair.some0).imp id fun hh p hp e => ?_⟩
  have := hh p hp
  have := (ho.lt p.block e.symm).1
  omega

theorem bs_at' {p : PropS} {l : List Dm} {j : Nat} (hj : j < p.vars.length) : at' (bsOf p l) j = at' l (px p.vars j) := by
  have hlen : (bsOf p l).length = p.vars.length := by simp [bsOf]
  rw [show at' (bsOf p l) j = (bsOf p l)[j]'(by omega) from getD_get (by omega) _]
  simp only [bsOf, List.getElem_map]
  exact getL_px hj
theorem rngs_none {f : Nat → Bool} (h : ∀ v, v < 1001 → f v = false) : rngs f 1001 = [] := by
  have : rngs f 1001 = rngs (fun _ => false) 1001 := rngs_congr fun i hi => h i hi
  rw [this]
  exact (inD_empty (rngs_ok _ 1001 (by omega)).1).2 fun v => by rw [inD_rngs, Bool.and_false]

theorem c54 (w : World) (s : ByteArray) (a2 : Option Addr) (l2 c2 : Nat) (a3 : Option Addr) (l3 c3 : Nat) (x4 : Int) (p : PropS) (h : PropAt w s a2 l2 a3 l3 x4 p)
    (a5 : Option Addr) (l5 c5 : Nat) (ls : List Dm) (hd : Doms w a5 l5 ls) (hvd : ∀ d ∈ ls, VD d) (hp : propB p ls.length = true) :
    Calls Try.prog 54 #[.agg #[.string s, .slice a2 l2 c2, .slice a3 l3 c3, .int .i64 x4], .slice a5 l5 c5] w fun en w' => ∃ a l c, en = .returned (.slice a l c) ∧ (Doms w' a l (keepS p ls) ∧ Ext w w') := by
  have hP := h
  have hl5 : l5 = ls.length := hd.1
  obtain ⟨hn, hall, hk⟩ : (0 ≤ (ls.length : Int) ∧ (ls.length : Int) ≤ 40) ∧ p.vars.all (fun x => decide (0 ≤ x ∧ x < (ls.length : Int))) = true ∧ kindB (kdOf p.kind) p.vars.length p.coefs.length p.coefs p.n = true := by
    simp only [propB, Bool.and_eq_true, decide_eq_true_eq] at hp; exact ⟨hp.1.1, hp.1.2, hp.2⟩
  have hvar : ∀ j (hj : j < p.vars.length), 0 ≤ p.vars[j] ∧ p.vars[j] < ls.length := fun j hj => by
    have := List.all_eq_true.1 hall _ (List.getElem_mem hj)
    simpa using this
  have hv40 : p.vars.length ≤ 40 := by
    cases hkd : kdOf p.kind <;> rw [hkd] at hk <;> simp [kindB] at hk <;> omega
  obtain ⟨rfl, hv2, _, rfl, _, _⟩ := h
  have hl2 : l2 = p.vars.length := hv2.1
  refine calls54 _ _ _ _ _ _ _ _ _ _ _ _ w ?_
  refine AllocK.mk fun b6 w7 hb6 hblk hx7 => ?_
  have hcell := fun (w' : World) (k : Ext w7 w') => cell4 (hblk.ext k)
  obtain ⟨a8, c8, w9, hrun, hout, hx9⟩ := copyDoms (c := c5) (hd.ext (RSl.mono RPair.mono) hx7) (by omega)
  refine ⟨a8, l5, c8, w9, hrun, ?_⟩
  simp only [add_mk, Nat.zero_add]
  have hsz7 := hx7.size
  refine ⟨fun q x w' => ∃ k : Nat, x = k ∧ k ≤ p.vars.length ∧ q = (p.vars.take k).any (fun x => decide (getL ls x = [])) ∧ w' = w9, fun _ x _ => p.vars.length - x.toNat, ⟨⟨0, rfl, by omega, rfl, rfl⟩, trivial⟩, ?_⟩
  rintro w12 q x ⟨k, hxk, hkk, hq, hw12⟩
  subst hxk; subst hw12
  refine ⟨_, _, _, (hcell _ hx9).2.1, BoolK.mk (fun hlt => ?_) (fun hge => ?_)⟩
  · have hlt : k < p.vars.length := by simp at hlt; omega
    have hr := hvar k hlt
    refine BoolK.mk (fun t => ?_) (fun t => ?_)
    · rw [wrap_succ (by omega)]
      exact ⟨⟨k + 1, rfl, by omega, by rw [any_take hlt, ← hq, t]; rfl, rfl⟩, by simp; omega⟩
    · have hxl : (p.vars[k]).toNat < ls.length := by omega
      obtain ⟨bv, ov, rfl, g0⟩ := intAt hv2 w12 (hx7.trans hx9) hlt
      obtain ⟨bl, ol, a20, l20, c20, rfl, g1, hdom⟩ := domsAt hd w12 (hx7.trans hx9) hxl
      have hdl := hdom.1
      have hgl : getL ls p.vars[k] = ls[(p.vars[k]).toNat] := getD_get hxl _
      refine ⟨_, _, _, (hcell _ hx9).2.1, by omega, ?_⟩
      simp only [AddrK, add_mk, Int.toNat_natCast, Nat.mul_one]
      refine ⟨_, g0, by omega, _, _, _, g1, ?_⟩
      rw [wrap_succ (by omega)]
      refine ⟨⟨k + 1, rfl, by omega, ?_, trivial⟩, by simp; omega⟩
      rw [any_take hlt, ← hq, t, Bool.false_or, hgl, hdl, Bool.eq_iff_iff, beq_iff_eq, decide_eq_true_eq, ← List.length_eq_zero_iff]; omega
  have : k = p.vars.length := by simp at hge; omega
  subst this
  rw [List.take_length] at hq
  have hhas : hasEmpty p ls = q := hq.symm
  clear hq hge hkk
  -- the sets, one after the other
  have hnz : 0 < ls.length → ∃ g, a8 = some ⟨g, 0, none⟩ ∧ w7.heap.size ≤ g ∧ g < w12.heap.size := fun h0 => by
    obtain ⟨g, _, ha, hg, hlt, _⟩ := hout.get (i := 0) h0
    exact ⟨g, ha, hg, hlt⟩
  refine ⟨fun x w' => ∃ j : Nat, x = j ∧ j ≤ p.vars.length ∧ DomsO w7.heap.size w' a8 l5 c8 (if q then emptied p.vars ls j else stepsK (passP p ls) p.vars ls j) ∧ Ext w7 w', fun x _ => p.vars.length - x.toNat,
    ⟨⟨0, rfl, by omega, by cases q <;> exact hout, hx9⟩, trivial⟩, ?_⟩
  rintro w23 x24 ⟨j, hxj, hj, ho, hx23⟩
  subst hxj
  refine ⟨_, _, _, (hcell _ hx23).2.1, BoolK.mk (fun hlt => ?_) (fun hge => ?_)⟩
  · have hlt : j < p.vars.length := by simp at hlt; omega
    have hr := hvar j hlt
    have hpd : p.vars.getD j 0 = p.vars[j] := getD_get hlt _
    generalize hO : (if q then emptied p.vars ls j else stepsK (passP p ls) p.vars ls j) = O at ho
    have hOl : O.length = ls.length := by
      rw [← hO]; split
      · exact emptied_len _ _ _
      · exact stepsK_len _ _ _ _
    have hOv : ∀ d ∈ O, VD d := by
      rw [← hO]; split
      · exact emptied_vd _ hvd _
      · exact stepsK_vd _ _ hvd _
    have hxl : (p.vars[j]).toNat < O.length := by omega
    have hxw := hx7.trans hx23
    obtain ⟨bv, ov, rfl, g0⟩ := intAt hv2 w23 hxw hlt
    obtain ⟨g, ⟨a30, l30, c30⟩, hga, hgb, hglt, g1, hdom⟩ := ho.get hxl
    subst hga
    simp only at g1 hdom
    have hvdj := hOv _ (List.getElem_mem hxl)
    refine ⟨_, _, _, (hcell _ hx23).2.1, by omega, ?_⟩
    simp only [AddrK, add_mk, Int.toNat_natCast, Nat.mul_one, Nat.zero_add]
    refine ⟨_, g0, by omega, _, _, _, g1, (c83 w23 a30 l30 c30 _ hdom hvdj).mono ?_⟩
    rintro en w32 ⟨r31, rfl, hr31, hx32⟩
    refine ⟨_, rfl, zero71.alloc fun b34 w35 h34 s34 x35 => hr31.store s34 fun w36 s36 bt36 => ?_⟩
    have hx36 : Ext w23 w36 := bt36.below (hx32.trans x35) (by have := hx32.size; omega)
    have hb34 : w23.heap.size ≤ b34 := by have := hx32.size; omega
    generalize hD : O[(p.vars[j]).toNat] = D at hdom hvdj hr31 s36
    refine ⟨fun x w' => ∃ v : Nat, x = v ∧ v ≤ 1001 ∧ SetAt w' b34 (fun u => inD D u && (decide (v ≤ u) || (!q && passP p ls j u))) ∧ Grow b34 w36 w', fun x _ => 1001 - x.toNat,
      ⟨⟨0, rfl, by omega, s36.congr fun i _ => by simp, Grow.refl _ _⟩, trivial⟩, ?_⟩
    intro w39 x40 hI
    obtain ⟨v, hxv, hv, hs, hg39⟩ := hI
    subst hxv
    have hx39 : Ext w23 w39 := hg39.toExt hx36 hb34
    have hx39' := hx23.trans hx39
    rw [BoolK_iff]
    constructor
    · intro hltv
      have hltv : v < 1001 := by simp at hltv; omega
      have hcellv := hs.cell hltv
      simp only [decide_eq_true (Nat.le_refl v), Bool.true_or, Bool.and_true] at hcellv
      have step : ∀ (w' : World) (r : Bool), SetAt w' b34 (fun u => inD D u && (decide (v ≤ u) || (!q && passP p ls j u))) → Grow b34 w36 w' → r = (inD D v && (!q && passP p ls j v)) → SetK w' ⟨b34, v, none⟩ (.bool r) fun w2 =>
          (∃ v' : Nat, IntKind.wrap .i64 ((v : Int) + 1) = v' ∧ v' ≤ 1001 ∧ SetAt w2 b34 (fun u => inD D u && (decide (v' ≤ u) || (!q && passP p ls j u))) ∧ Grow b34 w36 w2) ∧ 1001 - (IntKind.wrap .i64 ((v : Int) + 1)).toNat < 1001 - (v : Int).toNat := fun w' r hs' hg' hr => by
        rw [wrap_succ (by omega)]
        refine hs'.set (g := fun u => inD D u && (decide (v + 1 ≤ u) || (!q && passP p ls j u))) hltv (fun u => ?_) fun w2 hs2 hb2 => ⟨⟨v + 1, rfl, by omega, hs2, hg'.but hb2⟩, by simp; omega⟩
        by_cases hu : u = v
        · subst hu; rw [if_pos rfl, hr, decide_eq_false (show ¬ u + 1 ≤ u by omega), Bool.false_or]
        · rw [if_neg hu, show decide (v + 1 ≤ u) = decide (v ≤ u) from decide_eq_decide.2 (by omega)]
      refine ⟨by omega, ?_⟩
      simp only [Int.toNat_natCast, add_mk, Nat.zero_add]
      refine ⟨_, hcellv, ?_⟩
      rw [BoolK_iff]
      constructor
      · intro t
        rw [BoolK_iff]
        constructor
        · intro t2
          have hq0 : q = false := by simpa using t2
          have hc := hcell _ hx39'
          refine ⟨_, hc.1, _, _, _, hc.2.1, _, _, _, hc.2.2.1, _, hc.2.2.2, ?_⟩
          have hV : VarsAt p ls := ⟨fun y hy => ⟨(hvar y hy).1, by have := hvar y hy; omega⟩, fun y hy => ⟨by rw [bs_at' hy]; exact VDs.at hvd _, fun e => by
            have : hasEmpty p ls = true := (hasEmpty_iff p ls).2 ⟨y, hy, by rw [← bs_at' hy]; exact e⟩
            rw [hhas, hq0] at this; cases this⟩⟩
          have hx7' := hx7.trans hx39'
          refine (c84 w39 _ _ _ _ _ _ _ _ p (hP.ext hx7') a5 l5 c5 ls (hd.ext (RSl.mono RPair.mono) hx7') hV hk hv40 j v hlt (by omega)).mono ?_
          rintro en w47 ⟨r, rfl, hr2, hx47⟩
          refine ⟨_, rfl, by omega, step w47 r (hs.ext hx47) (hg39.ext hx47) ?_⟩
          rw [t, hq0, hr2]; rfl
        · intro t2
          have hq1 : q = true := by simpa using t2
          exact ⟨by omega, step w39 false hs hg39 (by rw [hq1]; simp)⟩
      · intro t
        exact ⟨by omega, step w39 false hs hg39 (by rw [t]; rfl)⟩
    · intro hgev
      have : v = 1001 := by simp at hgev; omega
      subst this
      refine DrewK.mk fun w52 hx52 => ?_
      have hx52' := hx39.trans hx52
      have hx52w := hxw.trans hx52'
      obtain ⟨b', o', ha', g4⟩ := intAt hv2 w52 hx52w hlt
      simp at ha'; obtain ⟨rfl, rfl⟩ := ha'
      refine ⟨_, _, _, (hcell _ (hx23.trans hx52')).2.1, by omega, ?_⟩
      simp only [add_mk]
      obtain ⟨r56, hr56, hrv⟩ := (hs.ext hx52).row
      refine ⟨_, g4, r56, hr56, (c66 w52 r56 _ hrv).mono ?_⟩
      rintro en w58 ⟨a57, l57, c57, rfl, ho57, hx58⟩
      have hx58' := hx52'.trans hx58
      refine ⟨_, _, _, rfl, hx58, by omega, ?_⟩
      refine (ho.ext RPair.mono hx58').set RPair.leaf (i := (p.vars[j]).toNat) hxl ho57.dom (ho57.apart (Nat.lt_of_lt_of_le hglt hx52'.size)) fun w61 ho61 hbut => ?_
      rw [wrap_succ (by omega)]
      refine ⟨⟨j + 1, rfl, by omega, ?_, hbut.below (hx23.trans hx58') hgb⟩, by simp; omega⟩
      have hset : (if q then emptied p.vars ls (j + 1) else stepsK (passP p ls) p.vars ls (j + 1)) = O.set (p.vars[j]).toNat (rngs (fun u => inD D u && (decide (1001 ≤ u) || (!q && passP p ls j u))) 1001) := by
        cases hqq : q with
        | true =>
          rw [hqq] at hO
          simp only [if_true] at hO ⊢
          rw [emptied, hpd, hO, rngs_none (fun u hu => by rw [decide_eq_false (by omega)]; simp)]
        | false =>
          rw [hqq] at hO
          simp only [Bool.false_eq_true, if_false] at hO ⊢
          rw [stepsK, hpd, hO, show getL O p.vars[j] = D from (getD_get hxl _).trans hD]
          have e : rngs (fun u => inD D u && (decide (1001 ≤ u) || (!false && passP p ls j u))) 1001 = rngs (fun v => inD D v && passP p ls j v) 1001 := rngs_congr fun u hu => by
            rw [decide_eq_false (show ¬ 1001 ≤ u by omega)]; rfl
          rw [e]
      rw [hset]; exact ho61
  · have : j = p.vars.length := by simp at hge; omega
    subst this
    refine ⟨?_, hx7.trans hx23⟩
    rw [keepS, hhas]
    exact ho.doms
end Go.Proofs.Ytggfnakhmjkoeaa

namespace Go.Proofs.Ytggfnakhmjkoeaa
open Go Go.V Go.Proofs
open Go.RowKit (Below)
/-! manystrand/manystrandlaw06.light -/
def N11 (a1 : Option Addr) (l1 : Nat) (_c1 : Nat) (a2 : Option Addr) (l2 : Nat) (_c2 : Nat) (K : Bool → World → Prop) (w : World) : Prop :=
  BoolK (decide (((l1 : Nat) : Int) > 50))
  (K false w)
  (BoolK (decide (((l2 : Nat) : Int) > 110))
    (K false w)
    (∃ (I3 : Int → World → Prop) (μ4 : Int → World → Nat),
      (I3 0 w ∧ True) ∧
      ∀ (w5 : World) (x6 : Int), I3 x6 w5 →
      BoolK (decide ((x6 : Int) < (l1 : Nat)))
      ((0 ≤ (x6 : Int) ∧ (x6 : Int) < (l1 : Nat)) ∧
        AddrK a1 fun b7 =>
        ∃ (a8 : Option Addr) (l8 : Nat) (c8 : Nat), w5.cell? (b7.add ((x6 : Int).toNat * 1)) = some (.slice a8 l8 c8) ∧
        (BoolK (decide (((l8 : Nat) : Int) > 600))
          (K false w5)
          (I3 (IntKind.wrap .i64 (x6 + 1)) w5 ∧ μ4 (IntKind.wrap .i64 (x6 + 1)) w5 < μ4 x6 w5)))
      (∃ (I9 : Int → World → Prop) (μ10 : Int → World → Nat),
        (I9 0 w5 ∧ True) ∧
        ∀ (w11 : World) (x12 : Int), I9 x12 w11 →
        BoolK (decide ((x12 : Int) < (l2 : Nat)))
        ((0 ≤ (x12 : Int) ∧ (x12 : Int) < (l2 : Nat)) ∧
          AddrK a2 fun b13 =>
          ∃ (s14 : ByteArray), w11.cell? ((b13.add ((x12 : Int).toNat * 4)).add 0) = some (.string s14) ∧
          (∃ (a15 : Option Addr) (l15 : Nat) (c15 : Nat), w11.cell? ((b13.add ((x12 : Int).toNat * 4)).add 1) = some (.slice a15 l15 c15) ∧
            (∃ (a16 : Option Addr) (l16 : Nat) (c16 : Nat), w11.cell? ((b13.add ((x12 : Int).toNat * 4)).add 2) = some (.slice a16 l16 c16) ∧
              (∃ (x17 : Int), w11.cell? ((b13.add ((x12 : Int).toNat * 4)).add 3) = some (.int .i64 x17) ∧
                (AllocK w11 (#[.string ⟨#[]⟩, .slice none 0 0, .slice none 0 0, .int .i64 0]) 24 fun b18 w19 =>
                  SetK w19 (b18.add 0) (.string s14) fun w20 =>
                  SetK w20 (b18.add 1) (.slice a15 l15 c15) fun w21 =>
                  SetK w21 (b18.add 2) (.slice a16 l16 c16) fun w22 =>
                  SetK w22 (b18.add 3) (.int .i64 x17) fun w23 =>
                  ∃ (a24 : Option Addr) (l24 : Nat) (c24 : Nat), w23.cell? (b18.add 1) = some (.slice a24 l24 c24) ∧
                  (BoolK (decide (((l24 : Nat) : Int) > 50))
                    (K false w23)
                    (∃ (a25 : Option Addr) (l25 : Nat) (c25 : Nat), w23.cell? (b18.add 2) = some (.slice a25 l25 c25) ∧
                      (BoolK (decide (((l25 : Nat) : Int) > 50))
                        (K false w23)
                        (∃ (s26 : ByteArray), w23.cell? b18 = some (.string s26) ∧
                          (BoolK (decide (((s26.size : Nat) : Int) > 100))
                            (K false w23)
                            (I9 (IntKind.wrap .i64 (x12 + 1)) w23 ∧ μ10 (IntKind.wrap .i64 (x12 + 1)) w23 < μ10 x12 w11)))))))))))
        (K true w11))))
def ann11 : Ann := (.two .nil (.two (.two .nil (.two (.two .nil .nil) .nil)) (.two (.two .nil (.one (.loop [(19, (.one (.int .i64)))] [1, 17, 18] (.two .nil (.two (.two .nil .nil) (.two (.one (.two .nil (.two .nil (.two (.two .nil .nil) .nil)))) .nil)))))) (.two (.two .nil (.one (.loop [(29, (.one (.int .i64)))] [27, 28] (.two .nil (.two (.two .nil .nil) (.two (.one (.two .nil (.two .nil (.two (.two .nil .nil) .nil)))) .nil)))))) (.two .nil .nil)))))
noncomputable def code11 : Code := match Try.f11.body with | some c => c | none => .skip
theorem wp11 (a1 : Option Addr) (l1 : Nat) (c1 : Nat) (a2 : Option Addr) (l2 : Nat) (c2 : Nat) (K : Bool → World → Prop) (w : World) : WP Try.prog tab code11 ann11 (fnQ tab Try.f11.results.toList [(.one .bool)] K) (argE 0 [(.slice a1 l1 c1), (.slice a2 l2 c2)]) w = N11 a1 l1 c1 a2 l2 c2 K w := by kernel_rfl
theorem calls11 (a1 : Option Addr) (l1 : Nat) (c1 : Nat) (a2 : Option Addr) (l2 : Nat) (c2 : Nat) (K : Bool → World → Prop) (w : World) (h : N11 a1 l1 c1 a2 l2 c2 K w) : Calls Try.prog 11 #[(.slice a1 l1 c1), (.slice a2 l2 c2)] w fun en w' => ∃ (p27 : Bool), en = .returned (.bool p27) ∧ K p27 w' :=
  have e : (fun en w' => ExShs [(.one .bool)] fun vs => en = .returned (tupled vs) ∧ ap [(.one .bool)] K vs fun p => p w') = (fun (en : Ending) (w' : World) => ∃ (p27 : Bool), en = .returned (.bool p27) ∧ K p27 w') := by kernel_rfl
  e ▸ fn_sound tabOk mixed Try.func11 (by kernel_rfl : Try.f11.body = some code11) ann11 [(.slice a1 l1 c1), (.slice a2 l2 c2)] [(.one .bool)] K w (by kernel_rfl) ((wp11 a1 l1 c1 a2 l2 c2 K w).symm ▸ h)
end Go.Proofs.Ytggfnakhmjkoeaa

namespace Go.Proofs.Ytggfnakhmjkoeaa
open Go Go.V Go.Proofs
open Go.RowKit (Below)
/-! manystrand/manystrandlaw06.few -/
def N18 (a1 : Option Addr) (l1 : Nat) (c1 : Nat) (a2 : Option Addr) (l2 : Nat) (c2 : Nat) (K : Bool → World → Prop) (w : World) : Prop :=
  ∃ (I3 : Int → Int → World → Prop) (μ4 : Int → Int → World → Nat),
  (I3 0 0 w ∧ True) ∧
  ∀ (w5 : World) (x6 : Int) (x7 : Int), I3 x6 x7 w5 →
  BoolK (decide ((x7 : Int) < (l1 : Nat)))
  ((0 ≤ (x7 : Int) ∧ (x7 : Int) < (l1 : Nat)) ∧
    AddrK a1 fun b8 =>
    ∃ (a9 : Option Addr) (l9 : Nat) (c9 : Nat), w5.cell? (b8.add ((x7 : Int).toNat * 1)) = some (.slice a9 l9 c9) ∧
    (Calls Try.prog 40 #[(.slice a9 l9 c9)] w5 fun e12 w11 =>
      ∃ (x10 : Int), e12 = .returned (.int .i64 x10) ∧
      (I3 (IntKind.wrap .i64 (x6 + x10)) (IntKind.wrap .i64 (x7 + 1)) w11 ∧ μ4 (IntKind.wrap .i64 (x6 + x10)) (IntKind.wrap .i64 (x7 + 1)) w11 < μ4 x6 x7 w5)))
  (∃ (I13 : Int → Int → World → Prop) (μ14 : Int → Int → World → Nat),
    (I13 0 0 w5 ∧ True) ∧
    ∀ (w15 : World) (x16 : Int) (x17 : Int), I13 x16 x17 w15 →
    BoolK (decide ((x17 : Int) < (l2 : Nat)))
    ((0 ≤ (x17 : Int) ∧ (x17 : Int) < (l2 : Nat)) ∧
      AddrK a2 fun b18 =>
      ∃ (s19 : ByteArray), w15.cell? ((b18.add ((x17 : Int).toNat * 4)).add 0) = some (.string s19) ∧
      (∃ (a20 : Option Addr) (l20 : Nat) (c20 : Nat), w15.cell? ((b18.add ((x17 : Int).toNat * 4)).add 1) = some (.slice a20 l20 c20) ∧
        (∃ (a21 : Option Addr) (l21 : Nat) (c21 : Nat), w15.cell? ((b18.add ((x17 : Int).toNat * 4)).add 2) = some (.slice a21 l21 c21) ∧
          (∃ (x22 : Int), w15.cell? ((b18.add ((x17 : Int).toNat * 4)).add 3) = some (.int .i64 x22) ∧
            (AllocK w15 (#[.string ⟨#[]⟩, .slice none 0 0, .slice none 0 0, .int .i64 0]) 24 fun b23 w24 =>
              SetK w24 (b23.add 0) (.string s19) fun w25 =>
              SetK w25 (b23.add 1) (.slice a20 l20 c20) fun w26 =>
              SetK w26 (b23.add 2) (.slice a21 l21 c21) fun w27 =>
              SetK w27 (b23.add 3) (.int .i64 x22) fun w28 =>
              ∃ (a29 : Option Addr) (l29 : Nat) (c29 : Nat), w28.cell? (b23.add 1) = some (.slice a29 l29 c29) ∧
              (I13 (IntKind.wrap .i64 (x16 + (l29 : Nat))) (IntKind.wrap .i64 (x17 + 1)) w28 ∧ μ14 (IntKind.wrap .i64 (x16 + (l29 : Nat))) (IntKind.wrap .i64 (x17 + 1)) w28 < μ14 x16 x17 w15))))))
    (Calls Try.prog 11 #[(.slice a1 l1 c1), (.slice a2 l2 c2)] w15 fun e32 w31 =>
      ∃ (p30 : Bool), e32 = .returned (.bool p30) ∧
      (BoolK p30
        (BoolK (decide ((x6 : Int) ≤ 3100))
          (BoolK (decide ((x16 : Int) ≤ 40))
            (K (decide ((IntKind.wrap .i64 (x6 * x16) : Int) ≤ 16000)) w31)
            (K false w31))
          (K false w31))
        (K false w31))))
def ann18 : Ann := (.two .nil (.two .nil (.two (.two .nil (.one (.loop [(5, (.one (.int .i64))), (13, (.one (.int .i64)))] [0, 1, 6, 11, 12] (.two .nil (.two (.two .nil .nil) (.two (.one (.two .nil .nil)) .nil)))))) (.two (.two .nil (.one (.loop [(6, (.one (.int .i64))), (24, (.one (.int .i64)))] [0, 1, 5, 22, 23] (.two .nil (.two (.two .nil .nil) (.two (.one (.two .nil .nil)) .nil)))))) (.two .nil .nil)))))
noncomputable def code18 : Code := match Try.f18.body with | some c => c | none => .skip
theorem wp18 (a1 : Option Addr) (l1 : Nat) (c1 : Nat) (a2 : Option Addr) (l2 : Nat) (c2 : Nat) (K : Bool → World → Prop) (w : World) : WP Try.prog tab code18 ann18 (fnQ tab Try.f18.results.toList [(.one .bool)] K) (argE 0 [(.slice a1 l1 c1), (.slice a2 l2 c2)]) w = N18 a1 l1 c1 a2 l2 c2 K w := by kernel_rfl
theorem calls18 (a1 : Option Addr) (l1 : Nat) (c1 : Nat) (a2 : Option Addr) (l2 : Nat) (c2 : Nat) (K : Bool → World → Prop) (w : World) (h : N18 a1 l1 c1 a2 l2 c2 K w) : Calls Try.prog 18 #[(.slice a1 l1 c1), (.slice a2 l2 c2)] w fun en w' => ∃ (p33 : Bool), en = .returned (.bool p33) ∧ K p33 w' :=
  have e : (fun en w' => ExShs [(.one .bool)] fun vs => en = .returned (tupled vs) ∧ ap [(.one .bool)] K vs fun p => p w') = (fun (en : Ending) (w' : World) => ∃ (p33 : Bool), en = .returned (.bool p33) ∧ K p33 w') := by kernel_rfl
  e ▸ fn_sound tabOk mixed Try.func18 (by kernel_rfl : Try.f18.body = some code18) ann18 [(.slice a1 l1 c1), (.slice a2 l2 c2)] [(.one .bool)] K w (by kernel_rfl) ((wp18 a1 l1 c1 a2 l2 c2 K w).symm ▸ h)
end Go.Proofs.Ytggfnakhmjkoeaa

namespace Go.Proofs.Ytggfnakhmjkoeaa
open Go Go.V Go.Proofs
open Go.RowKit (Below)
section
variable {H : Type} {enc : TypeId × Value → H} {w : World}

theorem ints_of {a : Option Addr} {l : Nat} {d : List Int} (h : Go.V.Rows 1 RInt64 w a l d) : Ints w a l d := ⟨h.1, h.2.imp id fun ⟨b, o, ha, hx⟩ => ⟨b, o, ha, fun i x hi => (hx i x hi).1⟩⟩
theorem dom_of {a : Option Addr} {l : Nat} {d : Dm} (h : Go.V.Rows 2 RPair64 w a l d) : Dom w a l d := ⟨h.1, h.2.imp id fun ⟨b, o, ha, hx⟩ => ⟨b, o, ha, fun i x hi => (hx i x hi).1⟩⟩
theorem sm_of {a : Option Addr} {l : Nat} {d : Dm} (h : Go.V.Rows 2 RPair64 w a l d) (hl : l ≤ maxLen) : Sm d := ⟨by have := h.1; simp only [maxLen] at hl; omega, fun p hp => by
    obtain ⟨i, hi, rfl⟩ := List.mem_iff_getElem.1 hp
    obtain ⟨_, _, _, _, _, h2⟩ := h.get hi
    exact ⟨h2.2, h2.1⟩⟩
theorem doms_of {a : Option Addr} {l : Nat} {ds : List Dm} (h : Go.V.Rows 1 RDom w a l ds) : Doms w a l ds ∧ ∀ d ∈ ds, Sm d := by
  refine ⟨⟨h.1, h.2.imp id ?_⟩, ?_⟩
  · rintro ⟨b, o, ha, hx⟩
    refine ⟨b, o, ha, fun i x hi => ?_⟩
    obtain ⟨a, l, c, h0, h1, _⟩ := hx i x hi
    exact ⟨a, l, c, h0, dom_of h1⟩
  · intro d hd
    obtain ⟨i, hi, rfl⟩ := List.mem_iff_getElem.1 hd
    obtain ⟨_, _, _, a, l, c, _, h1, h2⟩ := h.get hi
    exact sm_of h1 h2

theorem list4 {cs : List Value} (h : cs.length = 4) : ∃ a b c d, cs = [a, b, c, d] := by
  match cs, h with
  | [a, b, c, d], _ => exact ⟨a, b, c, d, rfl⟩
/-- the cells of a propagator that comes in -/
theorem rd_prop {cs : List Value} (h : Rd enc Try.prog w 24 cs) : ∃ s a2 l2 c2 a3 l3 c3 n vs xs, cs = [.string s, .slice a2 l2 c2, .slice a3 l3 c3, .int .i64 n] ∧ PropAt w s a2 l2 a3 l3 n ⟨s, vs, xs, n⟩ ∧ I64 n := by
  obtain ⟨hl, hf⟩ := h.struct (fs := #[{ name := "Kind", type := 9, offset := 0, embedded := false, tag := "", pkgPath := "", byteOffset := 0 }, { name := "Vars", type := 22, offset := 1, embedded := false, tag := "", pkgPath := "", byteOffset := 16 },
    { name := "Coefs", type := 22, offset := 2, embedded := false, tag := "", pkgPath := "", byteOffset := 40 }, { name := "N", type := 3, offset := 3, embedded := false, tag := "", pkgPath := "", byteOffset := 64 }]) (by kernel_rfl)
  have c24 : Try.prog.cellsOf 24 = 4 := by kernel_rfl
  have c9 : Try.prog.cellsOf 9 = 1 := by kernel_rfl
  have c22 : Try.prog.cellsOf 22 = 1 := by kernel_rfl
  have c3 : Try.prog.cellsOf 3 = 1 := by kernel_rfl
  rw [c24] at hl
  have f0 : Rd enc Try.prog w 9 ((cs.drop 0).take (Try.prog.cellsOf 9)) := hf 0 { name := "Kind", type := 9, offset := 0, embedded := false, tag := "", pkgPath := "", byteOffset := 0 } rfl
  have f1 : Rd enc Try.prog w 22 ((cs.drop 1).take (Try.prog.cellsOf 22)) := hf 1 { name := "Vars", type := 22, offset := 1, embedded := false, tag := "", pkgPath := "", byteOffset := 16 } rfl
  have f2 : Rd enc Try.prog w 22 ((cs.drop 2).take (Try.prog.cellsOf 22)) := hf 2 { name := "Coefs", type := 22, offset := 2, embedded := false, tag := "", pkgPath := "", byteOffset := 40 } rfl
  have f3 : Rd enc Try.prog w 3 ((cs.drop 3).take (Try.prog.cellsOf 3)) := hf 3 { name := "N", type := 3, offset := 3, embedded := false, tag := "", pkgPath := "", byteOffset := 64 } rfl
  rw [c9] at f0
  rw [c22] at f1 f2
  rw [c3] at f3
  obtain ⟨v0, v1, v2, v3, rfl⟩ := list4 hl
  obtain ⟨s, e0, _⟩ := f0.string (by kernel_rfl)
  obtain ⟨a2, l2, c2, vs, e1, h1, m1⟩ := rd_ints f1
  obtain ⟨a3, l3, c3, xs, e2, h2, m2⟩ := rd_ints f2
  obtain ⟨n, e3, hw⟩ := f3.int (k := .i64) (by kernel_rfl)
  simp at e0 e1 e2 e3
  subst e0; subst e1; subst e2; subst e3
  have k1 := h1.1
  have k2 := h2.1
  simp only [maxLen] at m1 m2
  exact ⟨s, a2, l2, c2, a3, l3, c3, n, vs, xs, rfl, ⟨rfl, ints_of h1, ints_of h2, rfl, by simp only; omega, by simp only; omega⟩, i64_of hw⟩
theorem rd_prop1 (f : Nat → Option Value) (cs : List Value) (hl : cs.length = 4) (hf : ∀ j, j < 4 → f j = cs[j]?) (h : Rd enc Try.prog w 24 cs) : ∃ x, RProp w f x := by
  obtain ⟨s, a2, l2, c2, a3, l3, c3, n, vs, xs, rfl, hP, _⟩ := rd_prop h
  exact ⟨_, s, a2, l2, c2, a3, l3, c3, n, hf 0 (by omega), hf 1 (by omega), hf 2 (by omega), hf 3 (by omega), hP⟩
theorem rd_props {cs : List Value} (h : Rd enc Try.prog w 27 cs) : ∃ a l c xs, cs = [.slice a l c] ∧ Props w a l xs ∧ l ≤ maxLen :=
  h.slice (e := 24) (by kernel_rfl) (by kernel_rfl) (by omega) rd_prop1
end

/-- what light grants -/
def Light (ls : List Dm) (ps : List PropS) : Prop := ls.length ≤ 50 ∧ ps.length ≤ 110 ∧ (∀ d ∈ ls, d.length ≤ 600) ∧ ∀ p ∈ ps, p.vars.length ≤ 50 ∧ p.coefs.length ≤ 50

theorem c11 (w : World) (a1 : Option Addr) (l1 c1 : Nat) (a2 : Option Addr) (l2 c2 : Nat) (ls : List Dm) (ps : List PropS) (hd : Doms w a1 l1 ls) (hp : Props w a2 l2 ps) :
    Calls Try.prog 11 #[.slice a1 l1 c1, .slice a2 l2 c2] w fun en w' => ∃ p, en = .returned (.bool p) ∧ ((p = true → Light ls ps) ∧ Ext w w') := by
  refine calls11 _ _ _ _ _ _ _ w ?_
  have e1 := hd.1
  have e2 := hp.1
  refine BoolK.mk (fun _ => ⟨(fun h => by cases h), Ext.refl w⟩) (fun t => ?_)
  simp at t
  refine BoolK.mk (fun _ => ⟨(fun h => by cases h), Ext.refl w⟩) (fun t2 => ?_)
  simp at t2
  refine ⟨fun i w' => ∃ k : Nat, i = k ∧ k ≤ ls.length ∧ (ls.take k).all (fun d => decide (d.length ≤ 600)) = true ∧ Ext w w', fun i _ => ls.length - i.toNat, ⟨⟨0, rfl, by omega, rfl, Ext.refl w⟩, trivial⟩, ?_⟩
  rintro w4 i ⟨k, rfl, hk, hv, hB⟩
  refine BoolK.mk (fun hlt => ?_) (fun hge => ?_)
  · have hlt : k < ls.length := by simp at hlt; omega
    obtain ⟨b1, o1, a, l, c, rfl, h0, h1⟩ := domsAt hd w4 hB hlt
    have hl := h1.1
    refine ⟨by omega, ?_⟩
    simp only [AddrK, Int.toNat_natCast, add_mk, Nat.mul_one]
    refine ⟨_, _, _, h0, BoolK.mk (fun _ => ⟨(fun h => by cases h), hB⟩) (fun t => ?_)⟩
    simp at t
    rw [wrap_succ (by omega)]
    exact ⟨⟨k + 1, rfl, by omega, by rw [all_take hlt, hv, decide_eq_true (by omega)]; rfl, hB⟩, by simp; omega⟩
  have : k = ls.length := by simp at hge; omega
  subst this
  rw [List.take_length] at hv
  refine ⟨fun i w' => ∃ k : Nat, i = k ∧ k ≤ ps.length ∧ (ps.take k).all (fun p => decide (p.vars.length ≤ 50 ∧ p.coefs.length ≤ 50)) = true ∧ Ext w w', fun i _ => ps.length - i.toNat, ⟨⟨0, rfl, by omega, rfl, hB⟩, trivial⟩, ?_⟩
  clear hB hk hge
  rintro w11 i ⟨k, rfl, hk, hv2, hB⟩
  refine BoolK.mk (fun hlt => ?_) (fun hge => ?_)
  · have hlt : k < ps.length := by simp at hlt; omega
    obtain ⟨b1, o1, s, a2', l2', c2', a3, l3, c3, x4, rfl, h0, h1, h2, h3, hP⟩ := propAt hp w11 hB hlt
    have hl2 := hP.vars.1
    have hl3 := hP.coefs.1
    refine ⟨by omega, ?_⟩
    simp only [AddrK, Int.toNat_natCast, add_mk, Nat.add_zero]
    refine ⟨_, h0, _, _, _, h1, _, _, _, h2, _, h3, ?_⟩
    refine local4 (fun b w20 hb hblk hx => ?_)
    obtain ⟨g0, g1, g2, g3⟩ := cell4 hblk
    have hx' := hB.trans hx
    simp only [add_mk, Nat.zero_add]
    refine ⟨_, _, _, g1, BoolK.mk (fun _ => ⟨(fun h => by cases h), hx'⟩) (fun t => ?_)⟩
    simp at t
    refine ⟨_, _, _, g2, BoolK.mk (fun _ => ⟨(fun h => by cases h), hx'⟩) (fun t2 => ?_)⟩
    simp at t2
    refine ⟨_, g0, BoolK.mk (fun _ => ⟨(fun h => by cases h), hx'⟩) (fun t3 => ?_)⟩
    rw [wrap_succ (by omega)]
    exact ⟨⟨k + 1, rfl, by omega, by rw [all_take hlt, hv2, decide_eq_true (by omega)]; rfl, hx'⟩, by simp; omega⟩
  have : k = ps.length := by simp at hge; omega
  subst this
  rw [List.take_length] at hv2
  refine ⟨fun _ => ⟨by omega, by omega, fun d hd => by simpa using List.all_eq_true.1 hv d hd, fun p hp => by simpa using List.all_eq_true.1 hv2 p hp⟩, hB⟩

theorem c18 (w : World) (a1 : Option Addr) (l1 c1 : Nat) (a2 : Option Addr) (l2 c2 : Nat) (ls : List Dm) (ps : List PropS) (hd : Doms w a1 l1 ls) (hs : ∀ d ∈ ls, Sm d) (hl1 : l1 ≤ maxLen) (hp : Props w a2 l2 ps) (hl2 : l2 ≤ maxLen) :
    Calls Try.prog 18 #[.slice a1 l1 c1, .slice a2 l2 c2] w fun en w' => ∃ p, en = .returned (.bool p) ∧ ((p = true → Light ls ps) ∧ Ext w w') := by
  refine calls18 _ _ _ _ _ _ _ w ?_
  have e1 := hd.1
  have e2 := hp.1
  simp only [maxLen] at hl1 hl2
  refine ⟨fun _ i w' => ∃ k : Nat, i = k ∧ k ≤ ls.length ∧ Ext w w', fun _ i _ => ls.length - i.toNat, ⟨⟨0, rfl, by omega, Ext.refl w⟩, trivial⟩, ?_⟩
  rintro w5 x6 _ ⟨k, rfl, hk, hB⟩
  refine BoolK.mk (fun hlt => ?_) (fun hge => ?_)
  · have hlt : k < ls.length := by simp at hlt; omega
    obtain ⟨b1, o1, a, l, c, rfl, h0, h1⟩ := domsAt hd w5 hB hlt
    refine ⟨by omega, ?_⟩
    simp only [AddrK, Int.toNat_natCast, add_mk, Nat.mul_one]
    refine ⟨_, _, _, h0, (c40 w5 a l c _ h1 (hs _ (List.getElem_mem _))).mono ?_⟩
    rintro en w11 ⟨n, rfl, rfl, hx⟩
    refine ⟨_, rfl, ?_⟩
    rw [wrap_succ (n := k) (by omega)]
    exact ⟨⟨k + 1, rfl, by omega, hB.trans hx⟩, by simp; omega⟩
  refine ⟨fun _ i w' => ∃ k : Nat, i = k ∧ k ≤ ps.length ∧ Ext w w', fun _ i _ => ps.length - i.toNat, ⟨⟨0, rfl, by omega, hB⟩, trivial⟩, ?_⟩
  clear hB hk hge
  rintro w15 x16 _ ⟨k, rfl, hk, hB⟩
  refine BoolK.mk (fun hlt => ?_) (fun hge => ?_)
  · have hlt : k < ps.length := by simp at hlt; omega
    obtain ⟨b1, o1, s, a2', l2', c2', a3, l3, c3, x4, rfl, h0, h1, h2, h3, hP⟩ := propAt hp w15 hB hlt
    refine ⟨by omega, ?_⟩
    simp only [AddrK, Int.toNat_natCast, add_mk, Nat.add_zero]
    refine ⟨_, h0, _, _, _, h1, _, _, _, h2, _, h3, ?_⟩
    refine local4 (fun b w20 hb hblk hx => ?_)
    obtain ⟨g0, g1, g2, g3⟩ := cell4 hblk
    simp only [add_mk, Nat.zero_add]
    refine ⟨_, _, _, g1, ?_⟩
    rw [wrap_succ (n := k) (by omega)]
    exact ⟨⟨k + 1, rfl, by omega, hB.trans hx⟩, by simp; omega⟩
  refine (c11 w15 a1 l1 c1 a2 l2 c2 ls ps (hd.ext (RSl.mono RPair.mono) hB) (hp.ext RProp.mono hB)).mono ?_
  rintro en w31 ⟨p, rfl, hL, hx⟩
  have hB' := hB.trans hx
  refine ⟨_, rfl, BoolK.mk (fun t => ?_) (fun _ => ⟨(fun h => by cases h), hB'⟩)⟩
  refine BoolK.mk (fun _ => ?_) (fun _ => ⟨(fun h => by cases h), hB'⟩)
  refine BoolK.mk (fun _ => ?_) (fun _ => ⟨(fun h => by cases h), hB'⟩)
  exact ⟨fun _ => hL t, hB'⟩
end Go.Proofs.Ytggfnakhmjkoeaa

namespace Go.Proofs.Ytggfnakhmjkoeaa
open Go Go.V Go.Proofs
open Go.RowKit (Below)
/-! manystrand/domain.Narrow -/
def N13 (s1 : ByteArray) (a2 : Option Addr) (l2 : Nat) (c2 : Nat) (a3 : Option Addr) (l3 : Nat) (c3 : Nat) (x4 : Int) (a5 : Option Addr) (l5 : Nat) (c5 : Nat) (K : Option Addr → Nat → Nat → Int → World → Prop) (w : World) : Prop :=
  AllocK w (#[(.string s1), (.slice a2 l2 c2), (.slice a3 l3 c3), (.int .i64 x4)]) 24 fun b6 w7 =>
  Calls Try.prog 50 #[(.slice a5 l5 c5)] w7 fun e10 w9 =>
  ∃ (p8 : Bool), e10 = .returned (.bool p8) ∧
  (BoolK (!p8)
    (K none 0 0 2 w9)
    (∃ (s11 : ByteArray), w9.cell? (b6.add 0) = some (.string s11) ∧
      (∃ (a12 : Option Addr) (l12 : Nat) (c12 : Nat), w9.cell? (b6.add 1) = some (.slice a12 l12 c12) ∧
        (∃ (a13 : Option Addr) (l13 : Nat) (c13 : Nat), w9.cell? (b6.add 2) = some (.slice a13 l13 c13) ∧
          (∃ (x14 : Int), w9.cell? (b6.add 3) = some (.int .i64 x14) ∧
            (Calls Try.prog 16 #[(.agg #[(.string s11), (.slice a12 l12 c12), (.slice a13 l13 c13), (.int .i64 x14)]), (.int .i64 (l5 : Nat))] w9 fun e17 w16 =>
              ∃ (p15 : Bool), e17 = .returned (.bool p15) ∧
              (BoolK (!p15)
                (K none 0 0 2 w16)
                (∃ (s18 : ByteArray), w16.cell? (b6.add 0) = some (.string s18) ∧
                  (∃ (a19 : Option Addr) (l19 : Nat) (c19 : Nat), w16.cell? (b6.add 1) = some (.slice a19 l19 c19) ∧
                    (∃ (a20 : Option Addr) (l20 : Nat) (c20 : Nat), w16.cell? (b6.add 2) = some (.slice a20 l20 c20) ∧
                      (∃ (x21 : Int), w16.cell? (b6.add 3) = some (.int .i64 x21) ∧
                        (Calls Try.prog 51 #[(.agg #[(.string s18), (.slice a19 l19 c19), (.slice a20 l20 c20), (.int .i64 x21)]), (.slice a5 l5 c5)] w16 fun e25 w24 =>
                          ∃ (a22 : Option Addr), ∃ (l22 : Nat), ∃ (c22 : Nat), ∃ (p23 : Bool), e25 = .returned (.tuple #[(.slice a22 l22 c22), (.bool p23)]) ∧
                          (K a22 l22 c22 0 w24)))))))))))))
def ann13 : Ann := (.two .nil (.two (.two .nil (.two (.two .nil .nil) .nil)) (.two .nil (.two .nil .nil))))
noncomputable def code13 : Code := match Try.f13.body with | some c => c | none => .skip
theorem wp13 (s1 : ByteArray) (a2 : Option Addr) (l2 : Nat) (c2 : Nat) (a3 : Option Addr) (l3 : Nat) (c3 : Nat) (x4 : Int) (a5 : Option Addr) (l5 : Nat) (c5 : Nat) (K : Option Addr → Nat → Nat → Int → World → Prop) (w : World) : WP Try.prog tab code13 ann13 (fnQ tab Try.f13.results.toList [(.one .slice), (.one (.int .i64))] K) (argE 0 [(.agg #[(.string s1), (.slice a2 l2 c2), (.slice a3 l3 c3), (.int .i64 x4)]), (.slice a5 l5 c5)]) w = N13 s1 a2 l2 c2 a3 l3 c3 x4 a5 l5 c5 K w := by kernel_rfl
theorem calls13 (s1 : ByteArray) (a2 : Option Addr) (l2 : Nat) (c2 : Nat) (a3 : Option Addr) (l3 : Nat) (c3 : Nat) (x4 : Int) (a5 : Option Addr) (l5 : Nat) (c5 : Nat) (K : Option Addr → Nat → Nat → Int → World → Prop) (w : World) (h : N13 s1 a2 l2 c2 a3 l3 c3 x4 a5 l5 c5 K w) : Calls Try.prog 13 #[(.agg #[(.string s1), (.slice a2 l2 c2), (.slice a3 l3 c3), (.int .i64 x4)]), (.slice a5 l5 c5)] w fun en w' => ∃ (a26 : Option Addr), ∃ (l26 : Nat), ∃ (c26 : Nat), ∃ (x27 : Int), en = .returned (.tuple #[(.slice a26 l26 c26), (.int .i64 x27)]) ∧ K a26 l26 c26 x27 w' :=
  have e : (fun en w' => ExShs [(.one .slice), (.one (.int .i64))] fun vs => en = .returned (tupled vs) ∧ ap [(.one .slice), (.one (.int .i64))] K vs fun p => p w') = (fun (en : Ending) (w' : World) => ∃ (a26 : Option Addr), ∃ (l26 : Nat), ∃ (c26 : Nat), ∃ (x27 : Int), en = .returned (.tuple #[(.slice a26 l26 c26), (.int .i64 x27)]) ∧ K a26 l26 c26 x27 w') := by kernel_rfl
  e ▸ fn_sound tabOk mixed Try.func13 (by kernel_rfl : Try.f13.body = some code13) ann13 [(.agg #[(.string s1), (.slice a2 l2 c2), (.slice a3 l3 c3), (.int .i64 x4)]), (.slice a5 l5 c5)] [(.one .slice), (.one (.int .i64))] K w (by kernel_rfl) ((wp13 s1 a2 l2 c2 a3 l3 c3 x4 a5 l5 c5 K w).symm ▸ h)
end Go.Proofs.Ytggfnakhmjkoeaa

namespace Go.Proofs.Ytggfnakhmjkoeaa
open Go Go.V Go.Proofs
open Go.RowKit (Below)
/-! manystrand/manystrandref06.Narrow -/
def N14 (s1 : ByteArray) (a2 : Option Addr) (l2 : Nat) (c2 : Nat) (a3 : Option Addr) (l3 : Nat) (c3 : Nat) (x4 : Int) (a5 : Option Addr) (l5 : Nat) (c5 : Nat) (K : Option Addr → Nat → Nat → Int → World → Prop) (w : World) : Prop :=
  AllocK w (#[(.string s1), (.slice a2 l2 c2), (.slice a3 l3 c3), (.int .i64 x4)]) 24 fun b6 w7 =>
  Calls Try.prog 52 #[(.slice a5 l5 c5)] w7 fun e10 w9 =>
  ∃ (p8 : Bool), e10 = .returned (.bool p8) ∧
  (BoolK (!p8)
    (K none 0 0 2 w9)
    (∃ (s11 : ByteArray), w9.cell? (b6.add 0) = some (.string s11) ∧
      (∃ (a12 : Option Addr) (l12 : Nat) (c12 : Nat), w9.cell? (b6.add 1) = some (.slice a12 l12 c12) ∧
        (∃ (a13 : Option Addr) (l13 : Nat) (c13 : Nat), w9.cell? (b6.add 2) = some (.slice a13 l13 c13) ∧
          (∃ (x14 : Int), w9.cell? (b6.add 3) = some (.int .i64 x14) ∧
            (Calls Try.prog 17 #[(.agg #[(.string s11), (.slice a12 l12 c12), (.slice a13 l13 c13), (.int .i64 x14)]), (.int .i64 (l5 : Nat))] w9 fun e17 w16 =>
              ∃ (p15 : Bool), e17 = .returned (.bool p15) ∧
              (BoolK (!p15)
                (K none 0 0 2 w16)
                (∃ (s18 : ByteArray), w16.cell? (b6.add 0) = some (.string s18) ∧
                  (∃ (a19 : Option Addr) (l19 : Nat) (c19 : Nat), w16.cell? (b6.add 1) = some (.slice a19 l19 c19) ∧
                    (∃ (a20 : Option Addr) (l20 : Nat) (c20 : Nat), w16.cell? (b6.add 2) = some (.slice a20 l20 c20) ∧
                      (∃ (x21 : Int), w16.cell? (b6.add 3) = some (.int .i64 x21) ∧
                        (Calls Try.prog 54 #[(.agg #[(.string s18), (.slice a19 l19 c19), (.slice a20 l20 c20), (.int .i64 x21)]), (.slice a5 l5 c5)] w16 fun e24 w23 =>
                          ∃ (a22 : Option Addr), ∃ (l22 : Nat), ∃ (c22 : Nat), e24 = .returned (.slice a22 l22 c22) ∧
                          (Calls Try.prog 53 #[(.slice a22 l22 c22)] w23 fun e27 w26 =>
                            ∃ (a25 : Option Addr), ∃ (l25 : Nat), ∃ (c25 : Nat), e27 = .returned (.slice a25 l25 c25) ∧
                            (K a25 l25 c25 0 w26))))))))))))))
def ann14 : Ann := (.two .nil (.two (.two .nil (.two (.two .nil .nil) .nil)) (.two .nil .nil)))
noncomputable def code14 : Code := match Try.f14.body with | some c => c | none => .skip
theorem wp14 (s1 : ByteArray) (a2 : Option Addr) (l2 : Nat) (c2 : Nat) (a3 : Option Addr) (l3 : Nat) (c3 : Nat) (x4 : Int) (a5 : Option Addr) (l5 : Nat) (c5 : Nat) (K : Option Addr → Nat → Nat → Int → World → Prop) (w : World) : WP Try.prog tab code14 ann14 (fnQ tab Try.f14.results.toList [(.one .slice), (.one (.int .i64))] K) (argE 0 [(.agg #[(.string s1), (.slice a2 l2 c2), (.slice a3 l3 c3), (.int .i64 x4)]), (.slice a5 l5 c5)]) w = N14 s1 a2 l2 c2 a3 l3 c3 x4 a5 l5 c5 K w := by kernel_rfl
theorem calls14 (s1 : ByteArray) (a2 : Option Addr) (l2 : Nat) (c2 : Nat) (a3 : Option Addr) (l3 : Nat) (c3 : Nat) (x4 : Int) (a5 : Option Addr) (l5 : Nat) (c5 : Nat) (K : Option Addr → Nat → Nat → Int → World → Prop) (w : World) (h : N14 s1 a2 l2 c2 a3 l3 c3 x4 a5 l5 c5 K w) : Calls Try.prog 14 #[(.agg #[(.string s1), (.slice a2 l2 c2), (.slice a3 l3 c3), (.int .i64 x4)]), (.slice a5 l5 c5)] w fun en w' => ∃ (a28 : Option Addr), ∃ (l28 : Nat), ∃ (c28 : Nat), ∃ (x29 : Int), en = .returned (.tuple #[(.slice a28 l28 c28), (.int .i64 x29)]) ∧ K a28 l28 c28 x29 w' :=
  have e : (fun en w' => ExShs [(.one .slice), (.one (.int .i64))] fun vs => en = .returned (tupled vs) ∧ ap [(.one .slice), (.one (.int .i64))] K vs fun p => p w') = (fun (en : Ending) (w' : World) => ∃ (a28 : Option Addr), ∃ (l28 : Nat), ∃ (c28 : Nat), ∃ (x29 : Int), en = .returned (.tuple #[(.slice a28 l28 c28), (.int .i64 x29)]) ∧ K a28 l28 c28 x29 w') := by kernel_rfl
  e ▸ fn_sound tabOk mixed Try.func14 (by kernel_rfl : Try.f14.body = some code14) ann14 [(.agg #[(.string s1), (.slice a2 l2 c2), (.slice a3 l3 c3), (.int .i64 x4)]), (.slice a5 l5 c5)] [(.one .slice), (.one (.int .i64))] K w (by kernel_rfl) ((wp14 s1 a2 l2 c2 a3 l3 c3 x4 a5 l5 c5 K w).symm ▸ h)
end Go.Proofs.Ytggfnakhmjkoeaa

namespace Go.Proofs.Ytggfnakhmjkoeaa
open Go Go.V Go.Proofs
open Go.RowKit (Below)

/-- what Narrow answers -/
def NarRes (p : PropS) (ls : List Dm) (w' : World) (a : Option Addr) (l _c : Nat) (e : Int) : Prop :=
  if allVB ls && propB p ls.length then e = 0 ∧ Doms w' a l (keepS p ls) else e = 2 ∧ a = none ∧ l = 0

section
variable (w : World) (s : ByteArray) (a2 : Option Addr) (l2 c2 : Nat) (a3 : Option Addr) (l3 c3 : Nat) (x4 : Int) (p : PropS) (h : PropAt w s a2 l2 a3 l3 x4 p)
    (a5 : Option Addr) (l5 c5 : Nat) (ls : List Dm) (hd : Doms w a5 l5 ls) (hl : ls.length ≤ 9223372036854775807) (hs : ∀ d ∈ ls, Sm d)
include h hd hl hs
theorem c13 : Calls Try.prog 13 #[.agg #[.string s, .slice a2 l2 c2, .slice a3 l3 c3, .int .i64 x4], .slice a5 l5 c5] w fun en w' => ∃ a l c e, en = .returned (.tuple #[.slice a l c, .int .i64 e]) ∧ (NarRes p ls w' a l c e ∧ Ext w w') := by
  have hl5 := hd.1
  refine calls13 _ _ _ _ _ _ _ _ _ _ _ _ w ?_
  refine AllocK.mk fun b6 w7 hb6 hblk hx7 => ?_
  have hcell := fun (w' : World) (k : Ext w7 w') => cell4 (hblk.ext k)
  refine (c50 w7 a5 l5 c5 ls (hd.ext (RSl.mono RPair.mono) hx7) hl hs).mono ?_
  rintro en w9 ⟨q, rfl, rfl, hx9⟩
  have hB9 := hx7.trans hx9
  refine ⟨_, rfl, BoolK.mk (fun t => ?_) (fun t => ?_)⟩
  · simp at t; exact ⟨by rw [NarRes, t]; exact ⟨rfl, rfl, rfl⟩, hB9⟩
  simp at t
  simp only [add_mk, Nat.zero_add]
  have hc := hcell _ hx9
  refine ⟨_, hc.1, _, _, _, hc.2.1, _, _, _, hc.2.2.1, _, hc.2.2.2, ?_⟩
  rw [hl5]
  refine (c16 w9 _ _ _ _ _ _ _ _ _ p (h.ext hB9)).mono ?_
  rintro en w16 ⟨q, rfl, rfl, hx16⟩
  have hB16 := hB9.trans hx16
  refine ⟨_, rfl, BoolK.mk (fun t2 => ?_) (fun t2 => ?_)⟩
  · simp at t2; exact ⟨by rw [NarRes, t2, Bool.and_false]; exact ⟨rfl, rfl, rfl⟩, hB16⟩
  simp at t2
  have hc := hcell _ (hx9.trans hx16)
  refine ⟨_, hc.1, _, _, _, hc.2.1, _, _, _, hc.2.2.1, _, hc.2.2.2, ?_⟩
  rw [← hl5]
  refine (c51 w16 _ _ _ _ _ _ _ _ p (h.ext hB16) a5 l5 c5 ls (hd.ext (RSl.mono RPair.mono) hB16) (allVB_of t).1 t2).mono ?_
  rintro en w24 ⟨a, l, c, q, rfl, ho, _, hx24⟩
  refine ⟨_, _, _, _, rfl, ?_, hB16.trans hx24⟩
  rw [NarRes, t, t2]
  exact ⟨rfl, ho.doms⟩

theorem c14 : Calls Try.prog 14 #[.agg #[.string s, .slice a2 l2 c2, .slice a3 l3 c3, .int .i64 x4], .slice a5 l5 c5] w fun en w' => ∃ a l c e, en = .returned (.tuple #[.slice a l c, .int .i64 e]) ∧ (NarRes p ls w' a l c e ∧ Ext w w') := by
  have hl5 := hd.1
  refine calls14 _ _ _ _ _ _ _ _ _ _ _ _ w ?_
  refine AllocK.mk fun b6 w7 hb6 hblk hx7 => ?_
  have hcell := fun (w' : World) (k : Ext w7 w') => cell4 (hblk.ext k)
  refine (c52 w7 a5 l5 c5 ls (hd.ext (RSl.mono RPair.mono) hx7) hl hs).mono ?_
  rintro en w9 ⟨q, rfl, rfl, hx9⟩
  have hB9 := hx7.trans hx9
  refine ⟨_, rfl, BoolK.mk (fun t => ?_) (fun t => ?_)⟩
  · simp at t; exact ⟨by rw [NarRes, t]; exact ⟨rfl, rfl, rfl⟩, hB9⟩
  simp at t
  simp only [add_mk, Nat.zero_add]
  have hc := hcell _ hx9
  refine ⟨_, hc.1, _, _, _, hc.2.1, _, _, _, hc.2.2.1, _, hc.2.2.2, ?_⟩
  rw [hl5]
  refine (c17 w9 _ _ _ _ _ _ _ _ _ p (h.ext hB9)).mono ?_
  rintro en w16 ⟨q, rfl, rfl, hx16⟩
  have hB16 := hB9.trans hx16
  refine ⟨_, rfl, BoolK.mk (fun t2 => ?_) (fun t2 => ?_)⟩
  · simp at t2; exact ⟨by rw [NarRes, t2, Bool.and_false]; exact ⟨rfl, rfl, rfl⟩, hB16⟩
  simp at t2
  have hc := hcell _ (hx9.trans hx16)
  refine ⟨_, hc.1, _, _, _, hc.2.1, _, _, _, hc.2.2.1, _, hc.2.2.2, ?_⟩
  rw [← hl5]
  have hvd := (allVB_of t).1
  have h40 := (allVB_of t).2
  refine (c54 w16 _ _ _ _ _ _ _ _ p (h.ext hB16) a5 l5 c5 ls (hd.ext (RSl.mono RPair.mono) hB16) hvd t2).mono ?_
  rintro en w23 ⟨a, l, c, rfl, ho, hx23⟩
  refine ⟨_, _, _, rfl, ?_⟩
  have hkv := keepS_vd p hvd
  refine (c53 w23 a l c _ ho (by rw [keepS_len]; omega) (fun d hd => by have := (hkv d hd).len; omega)).mono ?_
  rintro en w26 ⟨a', l', c', rfl, ho', hx26⟩
  refine ⟨_, _, _, rfl, ?_, (hB16.trans hx23).trans hx26⟩
  rw [NarRes, t, t2]
  exact ⟨rfl, ho'.doms⟩
end
end Go.Proofs.Ytggfnakhmjkoeaa

namespace Go.Proofs.Ytggfnakhmjkoeaa
open Go Go.V Go.Proofs
open Go.RowKit (Below)
/-! manystrand/manystrandlaw06.DomainNarrows -/
def N3 (s1 : ByteArray) (a2 : Option Addr) (l2 : Nat) (c2 : Nat) (a3 : Option Addr) (l3 : Nat) (c3 : Nat) (x4 : Int) (a5 : Option Addr) (l5 : Nat) (c5 : Nat) (x6 : Int) (K : Bool → World → Prop) (w : World) : Prop :=
  AllocK w (#[(.string s1), (.slice a2 l2 c2), (.slice a3 l3 c3), (.int .i64 x4)]) 24 fun b7 w8 =>
  ∃ (s9 : ByteArray), w8.cell? (b7.add 0) = some (.string s9) ∧
  (∃ (a10 : Option Addr) (l10 : Nat) (c10 : Nat), w8.cell? (b7.add 1) = some (.slice a10 l10 c10) ∧
    (∃ (a11 : Option Addr) (l11 : Nat) (c11 : Nat), w8.cell? (b7.add 2) = some (.slice a11 l11 c11) ∧
      (∃ (x12 : Int), w8.cell? (b7.add 3) = some (.int .i64 x12) ∧
        (AllocK w8 (#[(.string s9), (.slice a10 l10 c10), (.slice a11 l11 c11), (.int .i64 x12)]) 24 fun b13 w14 =>
          Calls Try.prog 11 #[(.slice a5 l5 c5), (.slice (some b13) 1 1)] w14 fun e17 w16 =>
          ∃ (p15 : Bool), e17 = .returned (.bool p15) ∧
          (BoolK (!p15)
            (Calls Try.prog 12 #[] w16 fun e20 w19 =>
              ∃ (p18 : Bool), e20 = .returned (.bool p18) ∧
              (K p18 w19))
            (∃ (s21 : ByteArray), w16.cell? (b7.add 0) = some (.string s21) ∧
              (∃ (a22 : Option Addr) (l22 : Nat) (c22 : Nat), w16.cell? (b7.add 1) = some (.slice a22 l22 c22) ∧
                (∃ (a23 : Option Addr) (l23 : Nat) (c23 : Nat), w16.cell? (b7.add 2) = some (.slice a23 l23 c23) ∧
                  (∃ (x24 : Int), w16.cell? (b7.add 3) = some (.int .i64 x24) ∧
                    (Calls Try.prog 13 #[(.agg #[(.string s21), (.slice a22 l22 c22), (.slice a23 l23 c23), (.int .i64 x24)]), (.slice a5 l5 c5)] w16 fun e28 w27 =>
                      ∃ (a25 : Option Addr), ∃ (l25 : Nat), ∃ (c25 : Nat), ∃ (x26 : Int), e28 = .returned (.tuple #[(.slice a25 l25 c25), (.int .i64 x26)]) ∧
                      (∃ (s29 : ByteArray), w27.cell? (b7.add 0) = some (.string s29) ∧
                        (∃ (a30 : Option Addr) (l30 : Nat) (c30 : Nat), w27.cell? (b7.add 1) = some (.slice a30 l30 c30) ∧
                          (∃ (a31 : Option Addr) (l31 : Nat) (c31 : Nat), w27.cell? (b7.add 2) = some (.slice a31 l31 c31) ∧
                            (∃ (x32 : Int), w27.cell? (b7.add 3) = some (.int .i64 x32) ∧
                              (Calls Try.prog 14 #[(.agg #[(.string s29), (.slice a30 l30 c30), (.slice a31 l31 c31), (.int .i64 x32)]), (.slice a5 l5 c5)] w27 fun e36 w35 =>
                                ∃ (a33 : Option Addr), ∃ (l33 : Nat), ∃ (c33 : Nat), ∃ (x34 : Int), e36 = .returned (.tuple #[(.slice a33 l33 c33), (.int .i64 x34)]) ∧
                                (DrewK w35 fun w37 =>
                                  BoolK ((x26 : Int) == x34)
                                  (Calls Try.prog 15 #[(.slice a25 l25 c25), (.slice a33 l33 c33)] w37 fun e40 w39 =>
                                    ∃ (p38 : Bool), e40 = .returned (.bool p38) ∧
                                    (Below w37.heap.size w37 w39 ∧
                                      (BoolK p38
                                        ((∃ (s41 : ByteArray), w39.cell? (b7.add 0) = some (.string s41) ∧
                                            (∃ (a42 : Option Addr) (l42 : Nat) (c42 : Nat), w39.cell? (b7.add 1) = some (.slice a42 l42 c42) ∧
                                              (∃ (a43 : Option Addr) (l43 : Nat) (c43 : Nat), w39.cell? (b7.add 2) = some (.slice a43 l43 c43) ∧
                                                (∃ (x44 : Int), w39.cell? (b7.add 3) = some (.int .i64 x44) ∧
                                                  (Below w37.heap.size w37 w39 ∧
                                                    ((Calls Try.prog 16 #[(.agg #[(.string s41), (.slice a42 l42 c42), (.slice a43 l43 c43), (.int .i64 x44)]), (.int .i64 x6)] w39 fun e47 w46 =>
                                                        ∃ (p45 : Bool), e47 = .returned (.bool p45) ∧
                                                        (Below w37.heap.size w37 w46 ∧
                                                          (∃ (s48 : ByteArray), w46.cell? (b7.add 0) = some (.string s48) ∧
                                                            (∃ (a49 : Option Addr) (l49 : Nat) (c49 : Nat), w46.cell? (b7.add 1) = some (.slice a49 l49 c49) ∧
                                                              (∃ (a50 : Option Addr) (l50 : Nat) (c50 : Nat), w46.cell? (b7.add 2) = some (.slice a50 l50 c50) ∧
                                                              (∃ (x51 : Int), w46.cell? (b7.add 3) = some (.int .i64 x51) ∧
                                                              (Below w37.heap.size w37 w46 ∧
                                                              (Calls Try.prog 17 #[(.agg #[(.string s48), (.slice a49 l49 c49), (.slice a50 l50 c50), (.int .i64 x51)]), (.int .i64 x6)] w46 fun e54 w53 =>
                                                              ∃ (p52 : Bool), e54 = .returned (.bool p52) ∧
                                                              (Below w37.heap.size w37 w53 ∧
                                                              (BoolK (p45 == p52)
                                                              (Calls Try.prog 12 #[] w53 fun e57 w56 =>
                                                              ∃ (p55 : Bool), e57 = .returned (.bool p55) ∧
                                                              (Below w37.heap.size w37 w56 ∧
                                                              (K p55 w56)))
                                                              (K false w53))))))))))) ∧
                                                      (∃ (s58 : ByteArray), w39.cell? (b7.add 0) = some (.string s58) ∧
                                                        (∃ (a59 : Option Addr) (l59 : Nat) (c59 : Nat), w39.cell? (b7.add 1) = some (.slice a59 l59 c59) ∧
                                                          (∃ (a60 : Option Addr) (l60 : Nat) (c60 : Nat), w39.cell? (b7.add 2) = some (.slice a60 l60 c60) ∧
                                                            (∃ (x61 : Int), w39.cell? (b7.add 3) = some (.int .i64 x61) ∧
                                                              (Below w37.heap.size w37 w39 ∧
                                                              (Calls Try.prog 16 #[(.agg #[(.string s41), (.slice a42 l42 c42), (.slice a43 l43 c43), (.int .i64 x44)]), (.int .i64 x6)] w39 fun e64 w63 =>
                                                              ∃ (p62 : Bool), e64 = .returned (.bool p62) ∧
                                                              (Below w37.heap.size w37 w63 ∧
                                                              (Calls Try.prog 17 #[(.agg #[(.string s58), (.slice a59 l59 c59), (.slice a60 l60 c60), (.int .i64 x61)]), (.int .i64 x6)] w63 fun e67 w66 =>
                                                              ∃ (p65 : Bool), e67 = .returned (.bool p65) ∧
                                                              (Below w37.heap.size w37 w66 ∧
                                                              (BoolK (p62 == p65)
                                                              (Calls Try.prog 12 #[] w66 fun e70 w69 =>
                                                              ∃ (p68 : Bool), e70 = .returned (.bool p68) ∧
                                                              (Below w37.heap.size w37 w69 ∧
                                                              (K p68 w69)))
                                                              (K false w66))))))))))))))))) ∧
                                          (∃ (s71 : ByteArray), w39.cell? (b7.add 0) = some (.string s71) ∧
                                            (∃ (a72 : Option Addr) (l72 : Nat) (c72 : Nat), w39.cell? (b7.add 1) = some (.slice a72 l72 c72) ∧
                                              (∃ (a73 : Option Addr) (l73 : Nat) (c73 : Nat), w39.cell? (b7.add 2) = some (.slice a73 l73 c73) ∧
                                                (∃ (x74 : Int), w39.cell? (b7.add 3) = some (.int .i64 x74) ∧
                                                  (Below w37.heap.size w37 w39 ∧
                                                    (∃ (s75 : ByteArray), w39.cell? (b7.add 0) = some (.string s75) ∧
                                                      (∃ (a76 : Option Addr) (l76 : Nat) (c76 : Nat), w39.cell? (b7.add 1) = some (.slice a76 l76 c76) ∧
                                                        (∃ (a77 : Option Addr) (l77 : Nat) (c77 : Nat), w39.cell? (b7.add 2) = some (.slice a77 l77 c77) ∧
                                                          (∃ (x78 : Int), w39.cell? (b7.add 3) = some (.int .i64 x78) ∧
                                                            (Below w37.heap.size w37 w39 ∧
                                                              (Calls Try.prog 16 #[(.agg #[(.string s75), (.slice a76 l76 c76), (.slice a77 l77 c77), (.int .i64 x78)]), (.int .i64 x6)] w39 fun e81 w80 =>
                                                              ∃ (p79 : Bool), e81 = .returned (.bool p79) ∧
                                                              (Below w37.heap.size w37 w80 ∧
                                                              (Calls Try.prog 17 #[(.agg #[(.string s71), (.slice a72 l72 c72), (.slice a73 l73 c73), (.int .i64 x74)]), (.int .i64 x6)] w80 fun e84 w83 =>
                                                              ∃ (p82 : Bool), e84 = .returned (.bool p82) ∧
                                                              (Below w37.heap.size w37 w83 ∧
                                                              (BoolK (p79 == p82)
                                                              (Calls Try.prog 12 #[] w83 fun e87 w86 =>
                                                              ∃ (p85 : Bool), e87 = .returned (.bool p85) ∧
                                                              (Below w37.heap.size w37 w86 ∧
                                                              (K p85 w86)))
                                                              (K false w83)))))))))))))))))
                                        (((K false w39) ∧
                                            (K false w39)) ∧
                                          (K false w39)))))
                                  (((K false w37) ∧
                                      (K false w37)) ∧
                                    (K false w37))))))))))))))))))
def ann3 : Ann := (.two .nil (.two (.two .nil (.two (.two .nil .nil) .nil)) (.two .nil (.two .nil (.two (.any 21 (.take 0 (.take 1 (.take 2 (.take 3 (.take 4 (.take 5 (.one 6 (.take 7 (.take 8 (.take 10 (.take 13 (.both 9 (.both 11 (.one 12 (.one 14 (.take 15 (.take 16 (.take 17 (.one 18 (.take 19 (.take 20 .done)))))))) (.one 12 (.one 11 (.one 14 (.take 15 (.take 16 (.take 17 (.one 18 (.take 19 (.take 20 .done)))))))))) (.one 12 (.one 9 (.one 11 (.one 14 (.take 15 (.take 16 (.take 17 (.one 18 (.take 19 (.take 20 .done))))))))))))))))))))))) .nil)))))
noncomputable def code3 : Code := match Try.f3.body with | some c => c | none => .skip
theorem wp3 (s1 : ByteArray) (a2 : Option Addr) (l2 : Nat) (c2 : Nat) (a3 : Option Addr) (l3 : Nat) (c3 : Nat) (x4 : Int) (a5 : Option Addr) (l5 : Nat) (c5 : Nat) (x6 : Int) (K : Bool → World → Prop) (w : World) : WP Try.prog tab code3 ann3 (fnQ tab Try.f3.results.toList [(.one .bool)] K) (argE 0 [(.agg #[(.string s1), (.slice a2 l2 c2), (.slice a3 l3 c3), (.int .i64 x4)]), (.slice a5 l5 c5), (.int .i64 x6)]) w = N3 s1 a2 l2 c2 a3 l3 c3 x4 a5 l5 c5 x6 K w := by kernel_rfl
theorem calls3 (s1 : ByteArray) (a2 : Option Addr) (l2 : Nat) (c2 : Nat) (a3 : Option Addr) (l3 : Nat) (c3 : Nat) (x4 : Int) (a5 : Option Addr) (l5 : Nat) (c5 : Nat) (x6 : Int) (K : Bool → World → Prop) (w : World) (h : N3 s1 a2 l2 c2 a3 l3 c3 x4 a5 l5 c5 x6 K w) : Calls Try.prog 3 #[(.agg #[(.string s1), (.slice a2 l2 c2), (.slice a3 l3 c3), (.int .i64 x4)]), (.slice a5 l5 c5), (.int .i64 x6)] w fun en w' => ∃ (p88 : Bool), en = .returned (.bool p88) ∧ K p88 w' :=
  have e : (fun en w' => ExShs [(.one .bool)] fun vs => en = .returned (tupled vs) ∧ ap [(.one .bool)] K vs fun p => p w') = (fun (en : Ending) (w' : World) => ∃ (p88 : Bool), en = .returned (.bool p88) ∧ K p88 w') := by kernel_rfl
  e ▸ fn_sound tabOk mixed Try.func3 (by kernel_rfl : Try.f3.body = some code3) ann3 [(.agg #[(.string s1), (.slice a2 l2 c2), (.slice a3 l3 c3), (.int .i64 x4)]), (.slice a5 l5 c5), (.int .i64 x6)] [(.one .bool)] K w (by kernel_rfl) ((wp3 s1 a2 l2 c2 a3 l3 c3 x4 a5 l5 c5 x6 K w).symm ▸ h)
end Go.Proofs.Ytggfnakhmjkoeaa

namespace Go.Proofs.Ytggfnakhmjkoeaa
open Go Go.V Go.Proofs
open Go.RowKit (Below)

theorem NarRes.doms {p : PropS} {ls : List Dm} {w' : World} {a : Option Addr} {l c : Nat} {e : Int} (h : NarRes p ls w' a l c e) : e = (if allVB ls && propB p ls.length then 0 else 2) ∧ Doms w' a l (if allVB ls && propB p ls.length then keepS p ls else []) := by
  unfold NarRes at h
  split at h
  · rename_i hh; rw [if_pos hh, if_pos hh]; exact h
  · rename_i hh; rw [if_neg hh, if_neg hh]; obtain ⟨rfl, rfl, rfl⟩ := h; exact ⟨rfl, Go.V.Rows.nil _ _ _ _⟩

theorem c3 (w : World) (s : ByteArray) (a2 : Option Addr) (l2 c2 : Nat) (a3 : Option Addr) (l3 c3 : Nat) (x4 : Int) (p : PropS) (h : PropAt w s a2 l2 a3 l3 x4 p)
    (a5 : Option Addr) (l5 c5 : Nat) (ls : List Dm) (hd : Doms w a5 l5 ls) (hs : ∀ d ∈ ls, Sm d) (n : Int) :
    Calls Try.prog 3 #[.agg #[.string s, .slice a2 l2 c2, .slice a3 l3 c3, .int .i64 x4], .slice a5 l5 c5, .int .i64 n] w fun en w' => en = .returned (.bool true) ∧ Ext w w' := by
  have key : ∀ (K : Bool → World → Prop), (∀ w', Ext w w' → K true w') → N3 s a2 l2 c2 a3 l3 c3 x4 a5 l5 c5 n K w := fun K hK => by
    refine AllocK.mk fun b7 w8 hb7 hblk hx8 => ?_
    have hcell := fun (w' : World) (k : Ext w8 w') => cell4 (hblk.ext k)
    simp only [add_mk, Nat.zero_add]
    have hc := hcell w8 (Ext.refl _)
    refine ⟨_, hc.1, _, _, _, hc.2.1, _, _, _, hc.2.2.1, _, hc.2.2.2, AllocK.mk fun b13 w14 hb13 hblk13 hx14 => ?_⟩
    have hB14 := hx8.trans hx14
    have hPs : Props w14 (some ⟨b13, 0, none⟩) 1 [p] := Rows.lit hblk13 [p] fun i q hi => by
      have : i = 0 := by have := (List.getElem?_eq_some_iff.1 hi).1; simp at this; omega
      subst this; simp at hi; subst hi
      exact ⟨_, _, _, _, _, _, _, _, rfl, rfl, rfl, rfl, h.ext hB14⟩
    refine (c11 w14 a5 l5 c5 _ 1 1 ls [p] (hd.ext (RSl.mono RPair.mono) hB14) hPs).mono ?_
    rintro en w16 ⟨q, rfl, hL, hx16⟩
    have hB16 := hB14.trans hx16
    have h16 := hx14.trans hx16
    refine ⟨_, rfl, BoolK.mk (fun _ => ?_) (fun t => ?_)⟩
    · refine (c12 w16).mono ?_
      rintro en w9 ⟨q, rfl, rfl, hx⟩
      exact ⟨_, rfl, hK _ (hB16.trans hx)⟩
    have hL := hL (by simpa using t)
    have hl : ls.length ≤ 9223372036854775807 := by have := hL.1; omega
    have hc := hcell _ h16
    refine ⟨_, hc.1, _, _, _, hc.2.1, _, _, _, hc.2.2.1, _, hc.2.2.2, ?_⟩
    refine (c13 w16 _ _ _ _ _ _ _ _ p (h.ext hB16) a5 l5 c5 ls (hd.ext (RSl.mono RPair.mono) hB16) hl hs).mono ?_
    rintro en w27 ⟨a25, l25, c25, x26, rfl, r1, hx27⟩
    have hB27 := hB16.trans hx27
    have h27 := h16.trans hx27
    have hc := hcell _ h27
    refine ⟨_, _, _, _, rfl, _, hc.1, _, _, _, hc.2.1, _, _, _, hc.2.2.1, _, hc.2.2.2, ?_⟩
    refine (c14 w27 _ _ _ _ _ _ _ _ p (h.ext hB27) a5 l5 c5 ls (hd.ext (RSl.mono RPair.mono) hB27) hl hs).mono ?_
    rintro en w35 ⟨a33, l33, c33, x34, rfl, r2, hx35⟩
    obtain ⟨e1, d1⟩ := r1.doms
    obtain ⟨e2, d2⟩ := r2.doms
    refine ⟨_, _, _, _, rfl, DrewK.mk fun w37 hx37 => ?_⟩
    have he : (x26 == x34) = true := by rw [e1, e2]; simp
    refine BoolK.mk (fun _ => ?_) (fun t => by rw [he] at t; cases t)
    have hB37 := (hB27.trans hx35).trans hx37
    have h37 := (h27.trans hx35).trans hx37
    have hlen : ∀ d ∈ (if allVB ls && propB p ls.length then keepS p ls else []), d.length ≤ 9223372036854775807 := fun d hdm => by
      split at hdm
      · rename_i hh
        simp only [Bool.and_eq_true] at hh
        have := (keepS_vd p (allVB_of hh.1).1 d hdm).len; omega
      · cases hdm
    have hlen2 : (if allVB ls && propB p ls.length then keepS p ls else []).length ≤ 9223372036854775807 := by
      split
      · rw [keepS_len]; exact hl
      · simp
    refine (c15 w37 _ _ _ _ _ _ _ _ (d1.ext (RSl.mono RPair.mono) (hx35.trans hx37)) (d2.ext (RSl.mono RPair.mono) hx37) hlen2 hlen).mono ?_
    rintro en w39 ⟨q, rfl, hq, hx39⟩
    have hq : q = true := by rw [hq]; exact decide_eq_true rfl
    subst hq
    have h39 := h37.trans hx39
    have hB39 := hB37.trans hx39
    have hc := hcell _ h39
    have h16' : ∀ w0 (_ : Ext w39 w0) (K : Ending → World → Prop), (∀ w', Ext w0 w' → K (.returned (.bool (propB p n))) w') → Calls Try.prog 16 #[.agg #[.string s, .slice a2 l2 c2, .slice a3 l3 c3, .int .i64 x4], .int .i64 n] w0 K := fun w0 k K hK => by
      refine (c16 w0 _ _ _ _ _ _ _ _ n p (h.ext (hB39.trans k))).mono ?_
      rintro en w' ⟨q, rfl, rfl, hx⟩; exact hK w' hx
    have h17' : ∀ w0 (_ : Ext w39 w0) (K : Ending → World → Prop), (∀ w', Ext w0 w' → K (.returned (.bool (propB p n))) w') → Calls Try.prog 17 #[.agg #[.string s, .slice a2 l2 c2, .slice a3 l3 c3, .int .i64 x4], .int .i64 n] w0 K := fun w0 k K hK => by
      refine (c17 w0 _ _ _ _ _ _ _ _ n p (h.ext (hB39.trans k))).mono ?_
      rintro en w' ⟨q, rfl, rfl, hx⟩; exact hK w' hx
    have aw : ∀ w0 (_ : Ext w39 w0), Calls Try.prog 12 #[] w0 fun e w' => ∃ q, e = .returned (.bool q) ∧ (Below w37.heap.size w37 w' ∧ K q w') := fun w0 k => by
      refine (c12 w0).mono ?_
      rintro en w9 ⟨q, rfl, rfl, hx⟩
      exact ⟨_, rfl, hx39.trans (k.trans hx), hK _ (hB39.trans (k.trans hx))⟩
    have X : ∀ w0, Ext w39 w0 → Below w37.heap.size w37 w0 := fun w0 k => hx39.trans k
    have r39 := Ext.refl w39
    refine ⟨_, rfl, hx39, BoolK.mk (fun _ => ⟨⟨_, hc.1, _, _, _, hc.2.1, _, _, _, hc.2.2.1, _, hc.2.2.2, hx39, ?_, ?_⟩, ?_⟩) (fun t => by cases t)⟩
    · refine h16' w39 r39 _ fun w46 k46 => ⟨_, rfl, X _ k46, ?_⟩
      have hc := hcell _ (h39.trans k46)
      refine ⟨_, hc.1, _, _, _, hc.2.1, _, _, _, hc.2.2.1, _, hc.2.2.2, X _ k46, h17' w46 k46 _ fun w53 k53 => ⟨_, rfl, X _ (k46.trans k53), BoolK.mk (fun _ => aw _ (k46.trans k53)) (fun t => by simp at t)⟩⟩
    · refine ⟨_, hc.1, _, _, _, hc.2.1, _, _, _, hc.2.2.1, _, hc.2.2.2, hx39, h16' w39 r39 _ fun w63 k63 => ⟨_, rfl, X _ k63, h17' w63 k63 _ fun w66 k66 => ⟨_, rfl, X _ (k63.trans k66), BoolK.mk (fun _ => aw _ (k63.trans k66)) (fun t => by simp at t)⟩⟩⟩
    · refine ⟨_, hc.1, _, _, _, hc.2.1, _, _, _, hc.2.2.1, _, hc.2.2.2, hx39, _, hc.1, _, _, _, hc.2.1, _, _, _, hc.2.2.1, _, hc.2.2.2, hx39, h16' w39 r39 _ fun w63 k63 => ⟨_, rfl, X _ k63, h17' w63 k63 _ fun w66 k66 => ⟨_, rfl, X _ (k63.trans k66), BoolK.mk (fun _ => aw _ (k63.trans k66)) (fun t => by simp at t)⟩⟩⟩
  refine (calls3 _ _ _ _ _ _ _ _ _ _ _ _ (fun q w' => q = true ∧ Ext w w') w (key _ fun w' hx => ⟨rfl, hx⟩)).mono ?_
  rintro en w' ⟨q, rfl, rfl, hx⟩
  exact ⟨rfl, hx⟩
end Go.Proofs.Ytggfnakhmjkoeaa

namespace Go.Proofs.Ytggfnakhmjkoeaa
open Go Go.V Go.Proofs
open Go.RowKit (Below)

theorem mn_le {d : Dm} (h : VD d) {v : Int} (hv : inD d v = true) : mn d ≤ v := by
  simp only [inD, List.any_eq_true, inR, Bool.and_eq_true, decide_eq_true_eq] at hv
  obtain ⟨p, hp, h1, _⟩ := hv
  cases d with
  | nil => cases hp
  | cons q qs =>
    show q.1 ≤ v
    rcases List.mem_cons.1 hp with rfl | hp
    · exact h1
    · have := (List.pairwise_cons.1 h.pw).1 p hp
      have := h.all q List.mem_cons_self
      omega
theorem le_mx {d : Dm} (h : VD d) {v : Int} (hv : inD d v = true) : v ≤ mx d := by
  simp only [inD, List.any_eq_true, inR, Bool.and_eq_true, decide_eq_true_eq] at hv
  obtain ⟨p, hp, _, h2⟩ := hv
  cases hl : d.getLast? with
  | none => rw [List.getLast?_eq_none_iff.1 hl] at hp; cases hp
  | some q =>
    have e : mx d = q.2 := by rw [mx, hl]
    rw [e]
    have hs := split_last hl
    rw [hs] at hp
    have hpw := h.pw
    rw [hs, List.pairwise_append] at hpw
    have hq := h.all q (List.mem_of_getLast? hl)
    rcases List.mem_append.1 hp with hp | hp
    · have := hpw.2.2 p hp q (by simp); omega
    · simp at hp; subst hp; exact h2
theorem mn_in {d : Dm} (h : Full d) : inD d (mn d) = true := by
  cases d with
  | nil => exact absurd rfl h.ne
  | cons q qs =>
    have := h.vd.all q List.mem_cons_self
    simp only [inD, List.any_cons, inR, mn, List.head?_cons, Bool.or_eq_true, Bool.and_eq_true, decide_eq_true_eq]
    left; omega
theorem mx_in {d : Dm} (h : Full d) : inD d (mx d) = true := by
  cases hl : d.getLast? with
  | none => exact absurd (List.getLast?_eq_none_iff.1 hl) h.ne
  | some q =>
    have e : mx d = q.2 := by rw [mx, hl]
    have hm := List.mem_of_getLast? hl
    have := h.vd.all q hm
    rw [e]
    simp only [inD, List.any_eq_true, inR, Bool.and_eq_true, decide_eq_true_eq]
    exact ⟨q, hm, by omega, by omega⟩
/-- one domain within another -/
structure In2 (d e : Dm) : Prop where
  low : Full d
  up : Full e
  sub : ∀ v, inD d v = true → inD e v = true
theorem In2.ends {d e : Dm} (h : In2 d e) : 0 ≤ mn e ∧ mn e ≤ mn d ∧ mn d ≤ mx d ∧ mx d ≤ mx e ∧ mx e ≤ 1000 := by
  have h1 := mn_le h.up.vd (h.sub _ (mn_in h.low))
  have h2 := le_mx h.up.vd (h.sub _ (mx_in h.low))
  have h3 := h.low.ends
  have h4 := h.up.ends
  omega
theorem In2.one {d e : Dm} (h : In2 d e) {v : Int} (hv : oneB e v = true) : oneB d v = true := by
  have := h.ends
  simp only [oneB, Bool.and_eq_true, decide_eq_true_eq] at hv ⊢
  omega
theorem mul_mono (c : Int) {a b a' b' : Int} (h1 : a' ≤ a) (h2 : a ≤ b) (h3 : b ≤ b') : min (c * a') (c * b') ≤ min (c * a) (c * b) ∧ max (c * a) (c * b) ≤ max (c * a') (c * b') := by
  rcases Int.le_total 0 c with hc | hc
  · have e1 := Int.mul_le_mul_of_nonneg_left h1 hc
    have e2 := Int.mul_le_mul_of_nonneg_left h2 hc
    have e3 := Int.mul_le_mul_of_nonneg_left h3 hc
    omega
  · have e1 := Int.mul_le_mul_of_nonpos_left hc h1
    have e2 := Int.mul_le_mul_of_nonpos_left hc h2
    have e3 := Int.mul_le_mul_of_nonpos_left hc h3
    omega
theorem low_mono (c : List Int) (bs cs : List Dm) (i : Nat) (h : ∀ j, j < bs.length → In2 (at' bs j) (at' cs j)) : ∀ j, j ≤ bs.length → lowS c cs i j ≤ lowS c bs i j ∧ highS c bs i j ≤ highS c cs i j
  | 0, _ => by simp [lowS, highS]
  | j + 1, hj => by
    have ih := low_mono c bs cs i h j (by omega)
    have e := (h j (by omega)).ends
    have m := mul_mono (c.getD j 0) e.2.1 e.2.2.1 e.2.2.2.1
    simp only [lowS, highS]
    split <;> omega

theorem pass_mono (k : Kd) (c : List Int) (N : Int) (bs cs : List Dm) (hl : bs.length = cs.length) (h : ∀ j, j < bs.length → In2 (at' bs j) (at' cs j)) (hk : ∃ n, kindB k bs.length c.length c n = true) (i : Nat) (hi : i < bs.length) (v : Int) (hv : 0 ≤ v) :
    passS k c N bs i v = true → passS k c N cs i v = true := by
  obtain ⟨n, hk⟩ := hk
  have one : ∀ j w, j < bs.length → oneB (at' bs j) w = false → oneB (at' cs j) w = false := fun j w hj hh => by
    rw [Bool.eq_false_iff] at hh ⊢
    exact fun hc => hh ((h j hj).one hc)
  cases k with
  | sum =>
    have := low_mono c bs cs i h bs.length (Nat.le_refl _)
    simp only [passS, Bool.and_eq_true, decide_eq_true_eq, ← hl]; omega
  | most =>
    have := low_mono c bs cs i h bs.length (Nat.le_refl _)
    simp only [passS, decide_eq_true_eq, ← hl]; omega
  | unlike =>
    simp only [kindB, Bool.and_eq_true, decide_eq_true_eq] at hk
    simp only [passS]
    split
    · intro hh; simp only [Bool.not_eq_true'] at hh ⊢; exact one 1 _ (by omega) hh
    · intro hh; simp only [Bool.not_eq_true'] at hh ⊢; exact one 0 _ (by omega) hh
  | distinct =>
    simp only [passS, List.all_eq_true, List.mem_range, Bool.or_eq_true, Bool.not_eq_true', ← hl]
    intro hh j hj
    exact (hh j hj).imp id (one j _ hj)
  | product =>
    simp only [kindB, Bool.and_eq_true, decide_eq_true_eq] at hk
    have e0 := (h 0 (by omega)).ends
    have e1 := (h 1 (by omega)).ends
    have e2 := (h 2 (by omega)).ends
    simp only [passS]
    split
    · simp only [Bool.and_eq_true, decide_eq_true_eq]
      have m1 : mn (at' cs 0) * mn (at' cs 1) ≤ mn (at' bs 0) * mn (at' bs 1) := Int.mul_le_mul e0.2.1 e1.2.1 e1.1 (by omega)
      have m2 : mx (at' bs 0) * mx (at' bs 1) ≤ mx (at' cs 0) * mx (at' cs 1) := Int.mul_le_mul e0.2.2.2.1 e1.2.2.2.1 (by omega) (by omega)
      omega
    · have e3 := (h (1 - i) (by omega)).ends
      simp only [Bool.and_eq_true, decide_eq_true_eq]
      have m1 : v * mn (at' cs (1 - i)) ≤ v * mn (at' bs (1 - i)) := Int.mul_le_mul_of_nonneg_left e3.2.1 hv
      have m2 : v * mx (at' bs (1 - i)) ≤ v * mx (at' cs (1 - i)) := Int.mul_le_mul_of_nonneg_left e3.2.2.2.1 hv
      omega
  | element =>
    simp only [kindB, Bool.and_eq_true, decide_eq_true_eq] at hk
    simp only [passS]
    split
    · simp only [Bool.and_eq_true]
      exact fun hh => ⟨hh.1, hh.2.1, (h 1 (by omega)).sub _ hh.2.2⟩
    · simp only [List.any_eq_true, Bool.and_eq_true]
      rintro ⟨j, hj, h1, h2⟩
      exact ⟨j, hj, h1, (h 0 (by omega)).sub _ h2⟩
  | max =>
    simp only [kindB, Bool.and_eq_true, decide_eq_true_eq] at hk
    have e0 := (h 0 (by omega)).ends
    have e1 := (h 1 (by omega)).ends
    have e2 := (h 2 (by omega)).ends
    simp only [passS]
    split
    · simp only [Bool.and_eq_true, decide_eq_true_eq]; omega
    · have e3 := (h (1 - i) (by omega)).ends
      simp only [Bool.and_eq_true, Bool.or_eq_true, decide_eq_true_eq]; omega
  | reify =>
    simp only [kindB, Bool.and_eq_true, decide_eq_true_eq] at hk
    have e1 := (h 1 (by omega)).ends
    have e2 := (h 2 (by omega)).ends
    have o1 : oneB (at' cs 0) 1 = true → oneB (at' bs 0) 1 = true := (h 0 (by omega)).one
    have o0 : oneB (at' cs 0) 0 = true → oneB (at' bs 0) 0 = true := (h 0 (by omega)).one
    simp only [passS, reifS]
    split
    · simp only [Bool.and_eq_true, Bool.or_eq_true, decide_eq_true_eq]; omega
    · split
      · simp only [Bool.and_eq_true, Bool.not_eq_true', Bool.and_eq_false_iff, decide_eq_false_iff_not]
        rintro ⟨h1, h2⟩
        refine ⟨?_, ?_⟩
        · rcases h1 with h1 | h1
          · left; rw [Bool.eq_false_iff] at h1 ⊢; exact fun hc => h1 (o1 hc)
          · right; omega
        · rcases h2 with h2 | h2
          · left; rw [Bool.eq_false_iff] at h2 ⊢; exact fun hc => h2 (o0 hc)
          · right; omega
      · simp only [Bool.and_eq_true, Bool.not_eq_true', Bool.and_eq_false_iff, decide_eq_false_iff_not]
        rintro ⟨h1, h2⟩
        refine ⟨?_, ?_⟩
        · rcases h1 with h1 | h1
          · left; rw [Bool.eq_false_iff] at h1 ⊢; exact fun hc => h1 (o1 hc)
          · right; omega
        · rcases h2 with h2 | h2
          · left; rw [Bool.eq_false_iff] at h2 ⊢; exact fun hc => h2 (o0 hc)
          · right; omega
  | apart =>
    simp only [kindB, Bool.and_eq_true, decide_eq_true_eq] at hk
    have e0 := (h 0 (by omega)).ends
    have e1 := (h 1 (by omega)).ends
    simp only [passS]
    split
    · simp only [Bool.or_eq_true, decide_eq_true_eq]; omega
    · simp only [Bool.or_eq_true, decide_eq_true_eq]; omega
  | other => simp [kindB] at hk

theorem bs_at {p : PropS} {l : List Dm} {j : Nat} (hj : j < p.vars.length) : at' (bsOf p l) j = at' l (px p.vars j) := by
  have hlen : (bsOf p l).length = p.vars.length := by simp [bsOf]
  rw [show at' (bsOf p l) j = (bsOf p l)[j]'(by omega) from getD_get (by omega) _]
  simp only [bsOf, List.getElem_map]
  exact getL_px hj

/-- What a propagator keeps of less is less. -/
theorem keep_mono (p : PropS) {l m : List Dm} (hl : VDs l) (hm : VDs m) (hlen : l.length = m.length) (hp : propB p l.length = true) (hs : Sub l m) : Sub (keepS p l) (keepS p m) := by
  have hv := varsOk_of hp
  have hv' : VarsOk p.vars m.length := by rw [← hlen]; exact hv
  intro x v h
  obtain ⟨h1, h2⟩ := (keep_mem p l hl hv x v).1 h
  refine (keep_mem p m hm hv' x v).2 ⟨hs x v h1, ?_⟩
  have hsub0 : ∀ y, at' m y = [] → at' l y = [] := fun y hy => (inD_empty (hl.at y)).2 fun u => by
    rw [Bool.eq_false_iff]; intro hu
    have := hs y u hu
    unfold InS at this; rw [hy] at this; cases this
  by_cases hem : hasEmpty p m = true
  · obtain ⟨j, hj, hje⟩ := (hasEmpty_iff p m).1 hem
    have hel : hasEmpty p l = true := (hasEmpty_iff p l).2 ⟨j, hj, hsub0 _ hje⟩
    rw [if_pos hel] at h2
    rw [if_pos hem]; exact h2
  · rw [if_neg hem]
    intro j hj hjx
    by_cases hel : hasEmpty p l = true
    · rw [if_pos hel] at h2; exact absurd hjx (h2 j hj)
    · rw [if_neg hel] at h2
      have full : ∀ (z : List Dm), VDs z → ¬ hasEmpty p z = true → ∀ y, y < p.vars.length → Full (at' z (px p.vars y)) := fun z hz hne y hy => ⟨hz.at _, fun e => hne ((hasEmpty_iff p z).2 ⟨y, hy, e⟩)⟩
      have hb : (bsOf p l).length = p.vars.length := by simp [bsOf]
      have hb' : (bsOf p m).length = p.vars.length := by simp [bsOf]
      simp only [propB, Bool.and_eq_true] at hp
      refine pass_mono _ _ _ (bsOf p l) (bsOf p m) (by omega) (fun y hy => ?_) ⟨p.n, by rw [hb]; exact hp.2⟩ j (by omega) v (h1.bound hl).1 (h2 j hj hjx)
      rw [hb] at hy
      rw [bs_at hy, bs_at hy]
      exact ⟨full l hl hel y hy, full m hm hem y hy, fun u hu => hs _ _ hu⟩

/-! ### Fixpoints -/
/-- all of ps keep l whole, and no domain is empty -/
structure FixP (ps : List PropS) (z : List Dm) : Prop where
  vd : VDs z
  keep : ∀ p ∈ ps, keepS p z = z
  ok : failedB z = false
theorem failed_sub {z l : List Dm} (hz : VDs z) (hlen : z.length = l.length) (hs : Sub z l) (hf : failedB l = true) : failedB z = true := by
  simp only [failedB, List.any_eq_true, decide_eq_true_eq] at hf ⊢
  obtain ⟨d, hd, rfl⟩ := hf
  obtain ⟨i, hi, he⟩ := List.mem_iff_getElem.1 hd
  refine ⟨z[i]'(by omega), List.getElem_mem _, ?_⟩
  refine (inD_empty (hz _ (List.getElem_mem _))).2 fun v => ?_
  rw [Bool.eq_false_iff]; intro hv
  have h1 : InS z i v := by unfold InS; rw [at_get (by omega)]; exact hv
  have := hs i v h1
  unfold InS at this; rw [at_get hi, he] at this; cases this

theorem rnd_some : ∀ {ps : List PropS} {l l' : List Dm} {q q' : Bool}, VDs l → (∀ p ∈ ps, propB p l.length = true) → rnd ps l q = some (l', q') →
    VDs l' ∧ l'.length = l.length ∧ Sub l' l ∧ (∀ z, FixP ps z → z.length = l.length → Sub z l → Sub z l') ∧ (q' = false → q = false ∧ l' = l ∧ ∀ p ∈ ps, keepS p l = l)
  | [], l, l', q, q', hl, _, h => by
    rw [rnd] at h; cases h
    exact ⟨hl, rfl, Sub.refl _, fun z _ _ hs => hs, fun e => ⟨e, rfl, by simp⟩⟩
  | p :: ps, l, l', q, q', hl, hp, h => by
    rw [rnd] at h
    split at h
    · cases h
    have hpp := hp p List.mem_cons_self
    have hok := varsOk_of hpp
    obtain ⟨h1, h2, h3, h4, h5⟩ := rnd_some (keepS_vd p hl) (fun p' hp' => by rw [keepS_len]; exact hp p' (List.mem_cons_of_mem _ hp')) h
    have hs0 : Sub (keepS p l) l := fun x v hh => keep_sub p l hl hok hh
    refine ⟨h1, h2.trans (keepS_len p l), h3.trans hs0, fun z hz hzl hzs => ?_, fun e => ?_⟩
    · refine h4 z ⟨hz.vd, fun p' hp' => hz.keep p' (List.mem_cons_of_mem _ hp'), hz.ok⟩ (by rw [keepS_len]; exact hzl) ?_
      have := keep_mono p hz.vd hl hzl (by rw [hzl]; exact hpp) hzs
      rwa [hz.keep p List.mem_cons_self] at this
    · obtain ⟨e1, e2, e3⟩ := h5 e
      have hq : q = false ∧ lessS p l = false := by simpa using e1
      have hk : keepS p l = l := by
        apply Classical.byContradiction; intro hne
        have := (less_iff p l hl hok).2 hne
        rw [hq.2] at this; cases this
      refine ⟨hq.1, by rw [e2, hk], fun p' hp' => ?_⟩
      rcases List.mem_cons.1 hp' with rfl | hp'
      · exact hk
      · have := e3 p' hp'; rwa [hk] at this
theorem rnd_none : ∀ {ps : List PropS} {l : List Dm} {q : Bool}, VDs l → (∀ p ∈ ps, propB p l.length = true) → rnd ps l q = none → ∀ z, FixP ps z → z.length = l.length → Sub z l → False
  | [], l, q, _, _, h => by rw [rnd] at h; cases h
  | p :: ps, l, q, hl, hp, h => fun z hz hzl hzs => by
    rw [rnd] at h
    split at h
    · rename_i hf
      have := failed_sub hz.vd hzl hzs hf
      rw [hz.ok] at this; cases this
    have hpp := hp p List.mem_cons_self
    refine rnd_none (keepS_vd p hl) (fun p' hp' => by rw [keepS_len]; exact hp p' (List.mem_cons_of_mem _ hp')) h z ⟨hz.vd, fun p' hp' => hz.keep p' (List.mem_cons_of_mem _ hp'), hz.ok⟩ (by rw [keepS_len]; exact hzl) ?_
    have := keep_mono p hz.vd hl hzl (by rw [hzl]; exact hpp) hzs
    rwa [hz.keep p List.mem_cons_self] at this

/-- What Fix answers is the greatest fixpoint below, or there is none. -/
theorem fix_sound {ps : List PropS} {l : List Dm} {r : Option (List Dm)} (h : FixR ps l r) : VDs l → (∀ p ∈ ps, propB p l.length = true) →
    (∀ m, r = some m → FixP ps m ∧ m.length = l.length ∧ Sub m l) ∧ ∀ z, FixP ps z → z.length = l.length → Sub z l → ∃ m, r = some m ∧ Sub z m := by
  induction h with
  | fail h =>
    intro hl hp
    exact ⟨(fun m hm => by cases hm), fun z hz hzl hzs => (rnd_none hl hp h z hz hzl hzs).elim⟩
  | @stop l l' h =>
    intro hl hp
    obtain ⟨h1, h2, h3, h4, h5⟩ := rnd_some hl hp h
    obtain ⟨_, rfl, hk⟩ := h5 rfl
    constructor
    · intro m hm
      split at hm
      · cases hm
      · rename_i hf; cases hm
        exact ⟨⟨hl, hk, by simpa using hf⟩, rfl, Sub.refl _⟩
    · intro z hz hzl hzs
      split
      · rename_i hf
        have := failed_sub hz.vd hzl hzs hf
        rw [hz.ok] at this; cases this
      · exact ⟨_, rfl, hzs⟩
  | @more l l' r h _ ih =>
    intro hl hp
    obtain ⟨h1, h2, h3, h4, _⟩ := rnd_some hl hp h
    obtain ⟨k1, k2⟩ := ih h1 (fun p hp' => by rw [h2]; exact hp p hp')
    refine ⟨fun m hm => ?_, fun z hz hzl hzs => k2 z hz (by omega) (h4 z hz hzl hzs)⟩
    obtain ⟨a, b, c⟩ := k1 m hm
    exact ⟨a, by omega, c.trans h3⟩
end Go.Proofs.Ytggfnakhmjkoeaa

namespace Go.Proofs.Ytggfnakhmjkoeaa
open Go Go.V Go.Proofs
open Go.RowKit (Below)
/-! manystrand/manystrandlaw06.DomainShrinks -/
def N5 (a1 : Option Addr) (l1 : Nat) (c1 : Nat) (a2 : Option Addr) (l2 : Nat) (c2 : Nat) (a3 : Option Addr) (l3 : Nat) (_c3 : Nat) (K : Bool → World → Prop) (w : World) : Prop :=
  ∃ (J4 : Bool → World → Prop),
  (∀ (w5 : World) (p6 : Bool), J4 p6 w5 →
    BoolK p6
    (Calls Try.prog 12 #[] w5 fun e9 w8 =>
      ∃ (p7 : Bool), e9 = .returned (.bool p7) ∧
      (K p7 w8))
    (∃ (I10 : Option Addr → Nat → Nat → Int → World → Prop) (μ11 : Option Addr → Nat → Nat → Int → World → Nat),
      (I10 none 0 0 0 w5 ∧ True) ∧
      ∀ (w12 : World) (a13 : Option Addr) (l13 : Nat) (c13 : Nat) (x14 : Int), I10 a13 l13 c13 x14 w12 →
      BoolK (decide ((x14 : Int) < (l2 : Nat)))
      (DrewK w12 fun w15 =>
        (0 ≤ (x14 : Int) ∧ (x14 : Int) < (l2 : Nat)) ∧
        AddrK a2 fun b16 =>
        ∃ (a17 : Option Addr) (l17 : Nat) (c17 : Nat), w15.cell? (b16.add ((x14 : Int).toNat * 1)) = some (.slice a17 l17 c17) ∧
        ((0 ≤ (x14 : Int) ∧ (x14 : Int) < (l3 : Nat)) ∧
          AddrK a3 fun b18 =>
          ∃ (a19 : Option Addr) (l19 : Nat) (c19 : Nat), w15.cell? (b18.add ((x14 : Int).toNat * 1)) = some (.slice a19 l19 c19) ∧
          (Calls Try.prog 23 #[(.slice a17 l17 c17), (.slice a19 l19 c19)] w15 fun e23 w22 =>
            ∃ (a20 : Option Addr), ∃ (l20 : Nat), ∃ (c20 : Nat), ∃ (x21 : Int), e23 = .returned (.tuple #[(.slice a20 l20 c20), (.int .i64 x21)]) ∧
            (Below w15.heap.size w15 w22 ∧
              (BoolK ((x21 : Int) != 0)
                (Calls Try.prog 12 #[] w22 fun e26 w25 =>
                  ∃ (p24 : Bool), e26 = .returned (.bool p24) ∧
                  (K p24 w25))
                (AllocK w22 (#[(.slice a20 l20 c20)]) 38 fun b27 w28 =>
                  ∃ (a29 : Option Addr), ∃ (l29 : Nat), ∃ (c29 : Nat), ∃ (w30 : World), Sem.run Try.prog (Builtin.append_ #[25, 25] 25 #[(.slice a13 l13 c13), (.slice (some b27) 1 1)]) w28 = .ok (.slice a29 l29 c29) w30 ∧
                  (I10 a29 l29 c29 (IntKind.wrap .i64 (x14 + 1)) w30 ∧ μ11 a29 l29 c29 (IntKind.wrap .i64 (x14 + 1)) w30 < μ11 a13 l13 c13 x14 w12)))))))
      (Calls Try.prog 19 #[(.slice a1 l1 c1), (.slice a2 l2 c2)] w12 fun e34 w33 =>
        ∃ (a31 : Option Addr), ∃ (l31 : Nat), ∃ (c31 : Nat), ∃ (x32 : Int), e34 = .returned (.tuple #[(.slice a31 l31 c31), (.int .i64 x32)]) ∧
        (Calls Try.prog 19 #[(.slice a1 l1 c1), (.slice a13 l13 c13)] w33 fun e38 w37 =>
          ∃ (a35 : Option Addr), ∃ (l35 : Nat), ∃ (c35 : Nat), ∃ (x36 : Int), e38 = .returned (.tuple #[(.slice a35 l35 c35), (.int .i64 x36)]) ∧
          (∃ (J39 : Bool → World → Prop),
            (∀ (w40 : World) (p41 : Bool), J39 p41 w40 →
              BoolK p41
              (BoolK ((x32 : Int) != 60)
                (BoolK (((x32 : Int) == 2) == ((x36 : Int) == 2))
                  (Calls Try.prog 12 #[] w40 fun e44 w43 =>
                    ∃ (p42 : Bool), e44 = .returned (.bool p42) ∧
                    (K p42 w43))
                  (K false w40))
                (BoolK ((x36 : Int) == 60)
                  (BoolK (((x32 : Int) == 2) == ((x36 : Int) == 2))
                    (Calls Try.prog 12 #[] w40 fun e47 w46 =>
                      ∃ (p45 : Bool), e47 = .returned (.bool p45) ∧
                      (K p45 w46))
                    (K false w40))
                  (K false w40)))
              (BoolK (((l31 : Nat) : Int) != (l35 : Nat))
                (K false w40)
                (∃ (I48 : Int → World → Prop) (μ49 : Int → World → Nat),
                  (I48 0 w40 ∧ True) ∧
                  ∀ (w50 : World) (x51 : Int), I48 x51 w50 →
                  BoolK (decide ((x51 : Int) < (l31 : Nat)))
                  (DrewK w50 fun w52 =>
                    (0 ≤ (x51 : Int) ∧ (x51 : Int) < (l35 : Nat)) ∧
                    AddrK a35 fun b53 =>
                    ∃ (a54 : Option Addr) (l54 : Nat) (c54 : Nat), w52.cell? (b53.add ((x51 : Int).toNat * 1)) = some (.slice a54 l54 c54) ∧
                    ((0 ≤ (x51 : Int) ∧ (x51 : Int) < (l31 : Nat)) ∧
                      AddrK a31 fun b55 =>
                      ∃ (a56 : Option Addr) (l56 : Nat) (c56 : Nat), w52.cell? (b55.add ((x51 : Int).toNat * 1)) = some (.slice a56 l56 c56) ∧
                      (Calls Try.prog 24 #[(.slice a54 l54 c54), (.slice a56 l56 c56)] w52 fun e60 w59 =>
                        ∃ (a57 : Option Addr), ∃ (l57 : Nat), ∃ (c57 : Nat), ∃ (x58 : Int), e60 = .returned (.tuple #[(.slice a57 l57 c57), (.int .i64 x58)]) ∧
                        (Below w52.heap.size w52 w59 ∧
                          (BoolK ((x58 : Int) != 0)
                            (K false w59)
                            (BoolK (decide (((l57 : Nat) : Int) > 0))
                              (K false w59)
                              (I48 (IntKind.wrap .i64 (x51 + 1)) w59 ∧ μ49 (IntKind.wrap .i64 (x51 + 1)) w59 < μ49 x51 w50)))))))
                  (Calls Try.prog 12 #[] w50 fun e63 w62 =>
                    ∃ (p61 : Bool), e63 = .returned (.bool p61) ∧
                    (K p61 w62))))) ∧
            (BoolK ((x32 : Int) != 0)
              (J39 true w37)
              (J39 ((x36 : Int) != 0) w37))))))) ∧
  (Calls Try.prog 18 #[(.slice a2 l2 c2), (.slice a1 l1 c1)] w fun e66 w65 =>
    ∃ (p64 : Bool), e66 = .returned (.bool p64) ∧
    (BoolK (!p64)
      (J4 true w65)
      (J4 (((l3 : Nat) : Int) != (l2 : Nat)) w65)))
def ann5 : Ann := (.two .nil (.two (.cut [(28, (.one .bool))] [0, 1, 2] .nil (.two (.two .nil .nil) .nil)) (.two .nil (.two (.two .nil (.one (.loop [(7, (.one .slice)), (32, (.one (.int .i64)))] [0, 1, 2, 31] (.two .nil (.two (.two .nil .nil) (.two (.one (.two .nil (.two (.any 14 (.take 0 (.take 1 (.take 2 (.take 3 (.take 4 (.take 5 (.take 6 (.take 7 (.one 8 (.take 9 (.take 10 (.take 11 (.take 12 (.take 13 .done))))))))))))))) (.two (.two .nil (.two (.two .nil .nil) .nil)) .nil)))) .nil)))))) (.two .nil (.two .nil (.two (.cut [(72, (.one .bool))] [11, 12, 13, 14] .nil (.two (.two .nil .nil) .nil)) (.two (.two .nil (.two (.two .nil .nil) .nil)) (.two (.two .nil (.one (.loop [(96, (.one (.int .i64)))] [11, 13, 95] (.two .nil (.two (.two .nil .nil) (.two (.one (.two .nil (.two (.any 14 (.take 0 (.take 1 (.take 2 (.take 3 (.take 4 (.take 5 (.take 6 (.take 7 (.one 8 (.take 9 (.take 10 (.take 11 (.take 12 (.take 13 .done))))))))))))))) (.two .nil (.two (.two .nil .nil) .nil))))) .nil)))))) (.two .nil .nil))))))))))
noncomputable def code5 : Code := match Try.f5.body with | some c => c | none => .skip
theorem wp5 (a1 : Option Addr) (l1 : Nat) (c1 : Nat) (a2 : Option Addr) (l2 : Nat) (c2 : Nat) (a3 : Option Addr) (l3 : Nat) (c3 : Nat) (K : Bool → World → Prop) (w : World) : WP Try.prog tab code5 ann5 (fnQ tab Try.f5.results.toList [(.one .bool)] K) (argE 0 [(.slice a1 l1 c1), (.slice a2 l2 c2), (.slice a3 l3 c3)]) w = N5 a1 l1 c1 a2 l2 c2 a3 l3 c3 K w := by kernel_rfl
theorem calls5 (a1 : Option Addr) (l1 : Nat) (c1 : Nat) (a2 : Option Addr) (l2 : Nat) (c2 : Nat) (a3 : Option Addr) (l3 : Nat) (c3 : Nat) (K : Bool → World → Prop) (w : World) (h : N5 a1 l1 c1 a2 l2 c2 a3 l3 c3 K w) : Calls Try.prog 5 #[(.slice a1 l1 c1), (.slice a2 l2 c2), (.slice a3 l3 c3)] w fun en w' => ∃ (p67 : Bool), en = .returned (.bool p67) ∧ K p67 w' :=
  have e : (fun en w' => ExShs [(.one .bool)] fun vs => en = .returned (tupled vs) ∧ ap [(.one .bool)] K vs fun p => p w') = (fun (en : Ending) (w' : World) => ∃ (p67 : Bool), en = .returned (.bool p67) ∧ K p67 w') := by kernel_rfl
  e ▸ fn_sound tabOk mixed Try.func5 (by kernel_rfl : Try.f5.body = some code5) ann5 [(.slice a1 l1 c1), (.slice a2 l2 c2), (.slice a3 l3 c3)] [(.one .bool)] K w (by kernel_rfl) ((wp5 a1 l1 c1 a2 l2 c2 a3 l3 c3 K w).symm ▸ h)
end Go.Proofs.Ytggfnakhmjkoeaa

namespace Go.Proofs.Ytggfnakhmjkoeaa
open Go Go.V Go.Proofs
open Go.RowKit (Below)

theorem bothS_some {rule : Bool → Bool → Bool} {d e r : Dm} (h : bothS rule d e = some r) : VD d ∧ VD e ∧ VD r ∧ r = rngs (fun v => rule (inD d v) (inD e v)) 1001 := by
  unfold bothS at h
  split at h
  · rename_i hv
    simp only [Bool.and_eq_true, validB_iff] at hv
    cases h
    exact ⟨hv.1, hv.2, (rngs_ok _ 1001 (by omega)).1, rfl⟩
  · cases h
theorem meet_sub {d e r : Dm} (h : bothS rMeet d e = some r) {v : Int} (hv : inD r v = true) : inD d v = true := by
  obtain ⟨_, _, _, rfl⟩ := bothS_some h
  rw [inD_rngs, Bool.and_eq_true, decide_eq_true_eq] at hv
  have h2 := hv.2
  rw [show ((v.toNat : Nat) : Int) = v by omega, rMeet, Bool.and_eq_true] at h2
  exact h2.1
theorem minus_nil {d e : Dm} (hd : VD d) (he : VD e) (h : ∀ v, inD d v = true → inD e v = true) : bothS rMinus d e = some [] := by
  unfold bothS
  rw [(validB_iff d).2 hd, (validB_iff e).2 he]
  have : rngs (fun v => rMinus (inD d v) (inD e v)) 1001 = [] := (inD_empty (rngs_ok _ 1001 (by omega)).1).2 fun v => by
    rw [inD_rngs]
    cases hh : inD d ((v.toNat : Nat) : Int) with
    | false => simp [rMinus]
    | true => rw [h _ hh]; simp [rMinus]
  rw [this]; rfl
theorem usable_eq {ps : List PropS} {l m : List Dm} (hl : VDs l) (hm : VDs m) (h : l.length = m.length) : usableB ps l = usableB ps m := by
  have e : ∀ z : List Dm, VDs z → allVB z = decide (z.length ≤ 40) := fun z hz => by
    have : z.all validB = true := List.all_eq_true.2 fun d hd => (validB_iff d).2 (hz d hd)
    rw [allVB, this]; rfl
  rw [usableB, usableB, e l hl, e m hm, h]
theorem usable_props {ps : List PropS} {l : List Dm} (h : usableB ps l = true) : VDs l ∧ ∀ p ∈ ps, propB p l.length = true := by
  simp only [usableB, Bool.and_eq_true, decide_eq_true_eq, List.all_eq_true] at h
  exact ⟨(allVB_of h.1).1, h.2.2⟩

theorem c5 (w : World) (a1 : Option Addr) (l1 c1 : Nat) (a2 : Option Addr) (l2 c2 : Nat) (a3 : Option Addr) (l3 c3 : Nat) (ps : List PropS) (ls ms : List Dm)
    (hp : Props w a1 l1 ps) (hpl : l1 ≤ maxLen) (hd : Doms w a2 l2 ls) (hdl : l2 ≤ maxLen) (hds : ∀ d ∈ ls, Sm d) (hm : Doms w a3 l3 ms) (hms : ∀ d ∈ ms, Sm d) :
    Calls Try.prog 5 #[.slice a1 l1 c1, .slice a2 l2 c2, .slice a3 l3 c3] w fun en w' => en = .returned (.bool true) ∧ Ext w w' := by
  have el := hd.1
  have em := hm.1
  have key : ∀ (K : Bool → World → Prop), (∀ w', Ext w w' → K true w') → N5 a1 l1 c1 a2 l2 c2 a3 l3 c3 K w := fun K hK => by
    have awake : ∀ w0, Ext w w0 → Calls Try.prog 12 #[] w0 fun e w' => ∃ p, e = .returned (.bool p) ∧ K p w' := fun w0 h0 => by
      refine (c12 w0).mono ?_
      rintro en w9 ⟨p, rfl, rfl, hx⟩
      exact ⟨_, rfl, hK _ (h0.trans hx)⟩
    refine ⟨fun q w5 => Ext w w5 ∧ (q = false → Light ls ps ∧ ls.length = ms.length), ?_, ?_⟩
    · rintro w5 q ⟨hB, hq⟩
      refine BoolK.mk (fun _ => awake w5 hB) (fun t => ?_)
      obtain ⟨hL, hlen⟩ := hq t
      have hl50 := hL.1
      refine ⟨fun a l c i w' => ∃ (k : Nat) (sm : List Dm), i = k ∧ k ≤ ls.length ∧ sm.length = k ∧ DomsO w5.heap.size w' a l c sm ∧ (∀ i, i < k → bothS rMeet (at' ls i) (at' ms i) = some (at' sm i)) ∧ Ext w5 w', fun _ _ _ i _ => ls.length - i.toNat,
        ⟨⟨0, [], rfl, by omega, rfl, RowsO.nil _ _ _ _ _, fun i hi => by omega, Ext.refl _⟩, trivial⟩, ?_⟩
      rintro w12 a13 l13 c13 _ ⟨k, sm, rfl, hk, hsl, ho, hall, hB12⟩
      have hB12' := hB.trans hB12
      refine BoolK.mk (fun hlt => ?_) (fun hge => ?_)
      · have hlt : k < ls.length := by simp at hlt; omega
        refine DrewK.mk fun w15 hx15 => ?_
        have hB15 := hB12'.trans hx15
        obtain ⟨b1, o1, a17, l17, c17, rfl, h0, h1⟩ := domsAt hd w15 hB15 hlt
        obtain ⟨b2, o2, a19, l19, c19, rfl, g0, g1⟩ := domsAt hm w15 hB15 (i := k) (by omega)
        refine ⟨by omega, ?_⟩
        simp only [AddrK, Int.toNat_natCast, add_mk, Nat.mul_one]
        refine ⟨_, _, _, h0, by omega, _, _, _, g0, ?_⟩
        refine (c23 w15 a17 l17 c17 a19 l19 c19 _ _ h1 g1 (hds _ (List.getElem_mem _)).1 (hms _ (List.getElem_mem _)).1).mono ?_
        rintro en w22 ⟨a20, l20, c20, x21, rfl, hres, hx22⟩
        refine ⟨_, _, _, _, rfl, hx22, ?_⟩
        have hB22 := hB15.trans hx22
        cases hr : bothS rMeet ls[k] ms[k] with
        | none =>
          rw [hr] at hres
          obtain ⟨rfl, rfl, rfl⟩ := hres
          exact BoolK.mk (fun _ => awake w22 hB22) (fun t => by simp at t)
        | some r =>
          rw [hr] at hres
          obtain ⟨rfl, hor, hrl⟩ := hres
          refine BoolK.mk (fun t => by simp at t) (fun _ => ?_)
          refine RowsO.push RPair.mono RPair.leaf RPair.some0 slt25 (ho.ext RPair.mono (hx15.trans hx22)) ((hB12.trans hx15).trans hx22).size (by rw [hsl]; omega) hor.dom ?_ fun a4 c4 w' ho' hb' => ?_
          · obtain ⟨S, _, hS, _⟩ := ho
            exact .inr fun p hp e => by have := (hS.lt _ e.symm).2; have := (hor.lt p.block (by rw [hp]; rfl)).1; have := hx15.size; omega
          · rw [wrap_succ (by omega)]
            refine ⟨⟨k + 1, sm ++ [r], rfl, by omega, by simp [hsl], ho', fun i hi => ?_, Below.trans ((hB12.trans hx15).trans hx22) hb'⟩, by simp; omega⟩
            rcases Nat.lt_or_ge i k with hik | hik
            · have e1 : at' (sm ++ [r]) i = at' sm i := by rw [at_get (by simp; omega), at_get (by omega), List.getElem_append_left (by omega)]
              rw [e1]; exact hall i hik
            · have : i = k := by omega
              subst this
              have e1 : at' (sm ++ [r]) i = r := by rw [at_get (by simp; omega), List.getElem_append_right (by omega)]; simp [hsl]
              rw [e1, at_get hlt, at_get (by omega), hr]
      have : k = ls.length := by simp at hge; omega
      subst this
      -- small is within l
      have hVl : VDs ls := fun d hdm => by
        obtain ⟨i, hi, rfl⟩ := List.mem_iff_getElem.1 hdm
        have := bothS_some (hall i hi); rw [at_get hi] at this; exact this.1
      have hVs : VDs sm := fun d hdm => by
        obtain ⟨i, hi, rfl⟩ := List.mem_iff_getElem.1 hdm
        have := bothS_some (hall i (by omega)); rw [at_get (l := sm) hi] at this; exact this.2.2.1
      have hsub : Sub sm ls := fun x v hx => meet_sub (hall x (by have := hx.lt; omega)) hx
      refine (c19 w12 a1 l1 c1 ps (hp.ext RProp.mono hB12') a2 l2 c2 ls (hd.ext (RSl.mono RPair.mono) hB12') (by omega) hds).mono ?_
      rintro en w33 ⟨a31, l31, c31, x32, rfl, res1, hx33⟩
      refine ⟨_, _, _, _, rfl, ?_⟩
      have hB33 := hB12'.trans hx33
      refine (c19 w33 a1 l1 c1 ps (hp.ext RProp.mono hB33) a13 l13 c13 sm (ho.doms.ext (RSl.mono RPair.mono) hx33) (by omega) (fun d hd => (hVs d hd).sm)).mono ?_
      rintro en w37 ⟨a35, l35, c35, x36, rfl, res2, hx37⟩
      refine ⟨_, _, _, _, rfl, ?_⟩
      have hB37 := hB33.trans hx37
      have hU := usable_eq (ps := ps) hVl hVs hsl.symm
      refine ⟨fun q w40 => w40 = w37 ∧ q = ((x32 != 0) || (x36 != 0)), ?_, ?_⟩
      · rintro w40 q ⟨rfl, rfl⟩
        rcases res1 with ⟨u1, rfl, rfl, rfl⟩ | ⟨u1, r1, f1, res1⟩
        · rcases res2 with ⟨_, rfl, rfl, rfl⟩ | ⟨u2, _⟩
          · refine BoolK.mk (fun _ => BoolK.mk (fun _ => BoolK.mk (fun _ => awake w40 hB37) (fun t => by simp at t)) (fun t => by simp at t)) (fun t => by simp at t)
          · rw [← hU, u1] at u2; cases u2
        · rcases res2 with ⟨u2, _⟩ | ⟨u2, r2, f2, res2⟩
          · rw [← hU, u1] at u2; cases u2
          have ⟨_, hpr1⟩ := usable_props u1
          have ⟨_, hpr2⟩ := usable_props u2
          have S1 := fix_sound f1 hVl hpr1
          have S2 := fix_sound f2 hVs hpr2
          rcases res1 with ⟨rfl, rfl, rfl, rfl⟩ | ⟨A, rfl, VA, LA, rfl, oA⟩
          · rcases res2 with ⟨rfl, rfl, rfl, rfl⟩ | ⟨B, rfl, VB, LB, rfl, oB⟩
            · refine BoolK.mk (fun _ => BoolK.mk (fun t => by simp at t) (fun _ => BoolK.mk (fun _ => BoolK.mk (fun _ => awake w40 hB37) (fun t => by simp at t)) (fun t => by simp at t))) (fun t => by simp at t)
            · obtain ⟨hB1, hB2, hB3⟩ := S2.1 B rfl
              obtain ⟨m, hm0, _⟩ := S1.2 B hB1 (by omega) (hB3.trans hsub)
              cases hm0
          · rcases res2 with ⟨rfl, rfl, rfl, rfl⟩ | ⟨B, rfl, VB, LB, rfl, oB⟩
            · refine BoolK.mk (fun _ => BoolK.mk (fun _ => BoolK.mk (fun _ => awake w40 hB37) (fun t => by simp at t)) (fun t => by simp at t)) (fun t => by simp at t)
            · obtain ⟨hB1, hB2, hB3⟩ := S2.1 B rfl
              obtain ⟨m, hm0, hBA⟩ := S1.2 B hB1 (by omega) (hB3.trans hsub)
              cases hm0
              have lA := oA.len
              have lB := oB.len
              refine BoolK.mk (fun t => by simp at t) (fun _ => ?_)
              refine BoolK.mk (fun t => by simp at t; omega) (fun _ => ?_)
              have dA := oA.doms.ext (RSl.mono RPair.mono) hx37
              have dB := oB.doms
              refine ⟨fun i w' => ∃ k : Nat, i = k ∧ k ≤ l31 ∧ Ext w40 w', fun i _ => l31 - i.toNat, ⟨⟨0, rfl, by omega, Ext.refl _⟩, trivial⟩, ?_⟩
              rintro w50 _ ⟨k, rfl, hk, hB50⟩
              refine BoolK.mk (fun hlt => ?_) (fun hge => ?_)
              · have hlt : k < l31 := by simp at hlt; omega
                refine DrewK.mk fun w52 hx52 => ?_
                have hB52 := hB50.trans hx52
                obtain ⟨b1, o1, a54, l54, c54, rfl, h0, h1⟩ := domsAt dB w52 hB52 (i := k) (by omega)
                obtain ⟨b2, o2, a56, l56, c56, rfl, g0, g1⟩ := domsAt dA w52 hB52 (i := k) (by omega)
                refine ⟨by omega, ?_⟩
                simp only [AddrK, Int.toNat_natCast, add_mk, Nat.mul_one]
                refine ⟨_, _, _, h0, by omega, _, _, _, g0, ?_⟩
                have vB := VB _ (List.getElem_mem (show k < B.length by omega))
                have vA := VA _ (List.getElem_mem (show k < A.length by omega))
                have hn : bothS rMinus B[k] A[k] = some [] := minus_nil vB vA fun v hv => by
                  have := hBA k v (by unfold InS; rw [at_get (by omega)]; exact hv)
                  unfold InS at this; rwa [at_get (by omega)] at this
                refine (c24 w52 a54 l54 c54 a56 l56 c56 _ _ h1 g1 vB.sm.1 vA.sm.1).mono ?_
                rintro en w59 ⟨a57, l57, c57, x58, rfl, hres, hx59⟩
                rw [hn] at hres
                obtain ⟨rfl, hor, _⟩ := hres
                have hl57 : l57 = 0 := hor.1
                subst hl57
                refine ⟨_, _, _, _, rfl, hx59, BoolK.mk (fun t => by simp at t) (fun _ => BoolK.mk (fun t => by simp at t) (fun _ => ?_))⟩
                rw [wrap_succ (by omega)]
                exact ⟨⟨k + 1, rfl, by omega, hB52.trans hx59⟩, by simp; omega⟩
              · exact awake w50 (hB37.trans hB50)
      · refine BoolK.mk (fun t => ⟨rfl, by rw [t]; rfl⟩) (fun t => ⟨rfl, by rw [t]; rfl⟩)
    · refine (c18 w a2 l2 c2 a1 l1 c1 ls ps hd hds hdl hp hpl).mono ?_
      rintro en w65 ⟨q, rfl, hq, hx⟩
      refine ⟨_, rfl, BoolK.mk (fun _ => ⟨hx, fun h => by cases h⟩) (fun t => ⟨hx, fun h => ⟨hq (by simpa using t), ?_⟩⟩)⟩
      simp at h; omega
  refine (calls5 _ _ _ _ _ _ _ _ _ (fun p w' => p = true ∧ Ext w w') w (key _ fun w' hx => ⟨rfl, hx⟩)).mono ?_
  rintro en w' ⟨p, rfl, rfl, hx⟩
  exact ⟨rfl, hx⟩
end Go.Proofs.Ytggfnakhmjkoeaa

namespace Go.Proofs.Ytggfnakhmjkoeaa
open Go Go.V Go.Proofs
open Go.RowKit (Below)
/-! manystrand/manystrandref06.Failed -/
def N47 (a1 : Option Addr) (l1 : Nat) (_c1 : Nat) (K : Bool → World → Prop) (w : World) : Prop :=
  ∃ (I2 : Int → World → Prop) (μ3 : Int → World → Nat),
  (I2 0 w ∧ True) ∧
  ∀ (w4 : World) (x5 : Int), I2 x5 w4 →
  BoolK (decide ((x5 : Int) < (l1 : Nat)))
  ((0 ≤ (x5 : Int) ∧ (x5 : Int) < (l1 : Nat)) ∧
    AddrK a1 fun b6 =>
    ∃ (a7 : Option Addr) (l7 : Nat) (c7 : Nat), w4.cell? (b6.add ((x5 : Int).toNat * 1)) = some (.slice a7 l7 c7) ∧
    (BoolK (((l7 : Nat) : Int) == 0)
      (K true w4)
      (I2 (IntKind.wrap .i64 (x5 + 1)) w4 ∧ μ3 (IntKind.wrap .i64 (x5 + 1)) w4 < μ3 x5 w4)))
  (K false w4)
def ann47 : Ann := (.two .nil (.two (.two .nil (.one (.loop [(3, (.one (.int .i64)))] [0] (.two (.two .nil (.two .nil .nil)) (.two (.one (.two .nil (.two (.two .nil .nil) .nil))) .nil))))) (.two .nil .nil)))
noncomputable def code47 : Code := match Try.f47.body with | some c => c | none => .skip
theorem wp47 (a1 : Option Addr) (l1 : Nat) (c1 : Nat) (K : Bool → World → Prop) (w : World) : WP Try.prog tab code47 ann47 (fnQ tab Try.f47.results.toList [(.one .bool)] K) (argE 0 [(.slice a1 l1 c1)]) w = N47 a1 l1 c1 K w := by kernel_rfl
theorem calls47 (a1 : Option Addr) (l1 : Nat) (c1 : Nat) (K : Bool → World → Prop) (w : World) (h : N47 a1 l1 c1 K w) : Calls Try.prog 47 #[(.slice a1 l1 c1)] w fun en w' => ∃ (p8 : Bool), en = .returned (.bool p8) ∧ K p8 w' :=
  have e : (fun en w' => ExShs [(.one .bool)] fun vs => en = .returned (tupled vs) ∧ ap [(.one .bool)] K vs fun p => p w') = (fun (en : Ending) (w' : World) => ∃ (p8 : Bool), en = .returned (.bool p8) ∧ K p8 w') := by kernel_rfl
  e ▸ fn_sound tabOk mixed Try.func47 (by kernel_rfl : Try.f47.body = some code47) ann47 [(.slice a1 l1 c1)] [(.one .bool)] K w (by kernel_rfl) ((wp47 a1 l1 c1 K w).symm ▸ h)
end Go.Proofs.Ytggfnakhmjkoeaa

namespace Go.Proofs.Ytggfnakhmjkoeaa
open Go Go.V Go.Proofs
open Go.RowKit (Below)
/-! manystrand/manystrandref06.ValidProps -/
def N59 (a1 : Option Addr) (l1 : Nat) (_c1 : Nat) (x2 : Int) (K : Bool → World → Prop) (w : World) : Prop :=
  ∃ (I3 : Int → World → Prop) (μ4 : Int → World → Nat),
  (I3 0 w ∧ True) ∧
  ∀ (w5 : World) (x6 : Int), I3 x6 w5 →
  BoolK (decide ((x6 : Int) < (l1 : Nat)))
  ((0 ≤ (x6 : Int) ∧ (x6 : Int) < (l1 : Nat)) ∧
    AddrK a1 fun b7 =>
    ∃ (s8 : ByteArray), w5.cell? ((b7.add ((x6 : Int).toNat * 4)).add 0) = some (.string s8) ∧
    (∃ (a9 : Option Addr) (l9 : Nat) (c9 : Nat), w5.cell? ((b7.add ((x6 : Int).toNat * 4)).add 1) = some (.slice a9 l9 c9) ∧
      (∃ (a10 : Option Addr) (l10 : Nat) (c10 : Nat), w5.cell? ((b7.add ((x6 : Int).toNat * 4)).add 2) = some (.slice a10 l10 c10) ∧
        (∃ (x11 : Int), w5.cell? ((b7.add ((x6 : Int).toNat * 4)).add 3) = some (.int .i64 x11) ∧
          (Calls Try.prog 17 #[(.agg #[(.string s8), (.slice a9 l9 c9), (.slice a10 l10 c10), (.int .i64 x11)]), (.int .i64 x2)] w5 fun e14 w13 =>
            ∃ (p12 : Bool), e14 = .returned (.bool p12) ∧
            (BoolK (!p12)
              (K false w13)
              (I3 (IntKind.wrap .i64 (x6 + 1)) w13 ∧ μ4 (IntKind.wrap .i64 (x6 + 1)) w13 < μ4 x6 w5)))))))
  (K (decide (((l1 : Nat) : Int) ≤ 100)) w5)
def ann59 : Ann := (.two .nil (.two (.two .nil (.one (.loop [(5, (.one (.int .i64)))] [0, 1] (.two (.two .nil (.two .nil .nil)) (.two (.one (.two .nil (.two (.two .nil .nil) .nil))) .nil))))) (.two .nil .nil)))
noncomputable def code59 : Code := match Try.f59.body with | some c => c | none => .skip
theorem wp59 (a1 : Option Addr) (l1 : Nat) (c1 : Nat) (x2 : Int) (K : Bool → World → Prop) (w : World) : WP Try.prog tab code59 ann59 (fnQ tab Try.f59.results.toList [(.one .bool)] K) (argE 0 [(.slice a1 l1 c1), (.int .i64 x2)]) w = N59 a1 l1 c1 x2 K w := by kernel_rfl
theorem calls59 (a1 : Option Addr) (l1 : Nat) (c1 : Nat) (x2 : Int) (K : Bool → World → Prop) (w : World) (h : N59 a1 l1 c1 x2 K w) : Calls Try.prog 59 #[(.slice a1 l1 c1), (.int .i64 x2)] w fun en w' => ∃ (p15 : Bool), en = .returned (.bool p15) ∧ K p15 w' :=
  have e : (fun en w' => ExShs [(.one .bool)] fun vs => en = .returned (tupled vs) ∧ ap [(.one .bool)] K vs fun p => p w') = (fun (en : Ending) (w' : World) => ∃ (p15 : Bool), en = .returned (.bool p15) ∧ K p15 w') := by kernel_rfl
  e ▸ fn_sound tabOk mixed Try.func59 (by kernel_rfl : Try.f59.body = some code59) ann59 [(.slice a1 l1 c1), (.int .i64 x2)] [(.one .bool)] K w (by kernel_rfl) ((wp59 a1 l1 c1 x2 K w).symm ▸ h)
end Go.Proofs.Ytggfnakhmjkoeaa

namespace Go.Proofs.Ytggfnakhmjkoeaa
open Go Go.V Go.Proofs
open Go.RowKit (Below)
/-! manystrand/manystrandref06.Fix -/
def N20 (a1 : Option Addr) (l1 : Nat) (c1 : Nat) (a2 : Option Addr) (l2 : Nat) (c2 : Nat) (K : Option Addr → Nat → Nat → Int → World → Prop) (w : World) : Prop :=
  Calls Try.prog 52 #[(.slice a2 l2 c2)] w fun e5 w4 =>
  ∃ (p3 : Bool), e5 = .returned (.bool p3) ∧
  (BoolK (!p3)
    (K none 0 0 2 w4)
    (Calls Try.prog 59 #[(.slice a1 l1 c1), (.int .i64 (l2 : Nat))] w4 fun e8 w7 =>
      ∃ (p6 : Bool), e8 = .returned (.bool p6) ∧
      (BoolK (!p6)
        (K none 0 0 2 w7)
        (∃ (I9 : Option Addr → Nat → Nat → World → Prop) (μ10 : Option Addr → Nat → Nat → World → Nat),
          (I9 a2 l2 c2 w7 ∧ True) ∧
          ∀ (w11 : World) (a12 : Option Addr) (l12 : Nat) (c12 : Nat), I9 a12 l12 c12 w11 →
          Calls Try.prog 47 #[(.slice a12 l12 c12)] w11 fun e15 w14 =>
          ∃ (p13 : Bool), e15 = .returned (.bool p13) ∧
          (BoolK p13
            (K none 0 0 60 w14)
            (∃ (I16 : Option Addr → Nat → Nat → Int → World → Prop) (μ17 : Option Addr → Nat → Nat → Int → World → Nat),
              (I16 a12 l12 c12 0 w14 ∧ True) ∧
              ∀ (w18 : World) (a19 : Option Addr) (l19 : Nat) (c19 : Nat) (x20 : Int), I16 a19 l19 c19 x20 w18 →
              BoolK (decide ((x20 : Int) < (l1 : Nat)))
              ((0 ≤ (x20 : Int) ∧ (x20 : Int) < (l1 : Nat)) ∧
                AddrK a1 fun b21 =>
                ∃ (s22 : ByteArray), w18.cell? ((b21.add ((x20 : Int).toNat * 4)).add 0) = some (.string s22) ∧
                (∃ (a23 : Option Addr) (l23 : Nat) (c23 : Nat), w18.cell? ((b21.add ((x20 : Int).toNat * 4)).add 1) = some (.slice a23 l23 c23) ∧
                  (∃ (a24 : Option Addr) (l24 : Nat) (c24 : Nat), w18.cell? ((b21.add ((x20 : Int).toNat * 4)).add 2) = some (.slice a24 l24 c24) ∧
                    (∃ (x25 : Int), w18.cell? ((b21.add ((x20 : Int).toNat * 4)).add 3) = some (.int .i64 x25) ∧
                      (Calls Try.prog 54 #[(.agg #[(.string s22), (.slice a23 l23 c23), (.slice a24 l24 c24), (.int .i64 x25)]), (.slice a19 l19 c19)] w18 fun e28 w27 =>
                        ∃ (a26 : Option Addr), ∃ (l26 : Nat), ∃ (c26 : Nat), e28 = .returned (.slice a26 l26 c26) ∧
                        (I16 a26 l26 c26 (IntKind.wrap .i64 (x20 + 1)) w27 ∧ μ17 a26 l26 c26 (IntKind.wrap .i64 (x20 + 1)) w27 < μ17 a19 l19 c19 x20 w18))))))
              (Calls Try.prog 15 #[(.slice a12 l12 c12), (.slice a19 l19 c19)] w18 fun e31 w30 =>
                ∃ (p29 : Bool), e31 = .returned (.bool p29) ∧
                (BoolK p29
                  (Calls Try.prog 53 #[(.slice a12 l12 c12)] w30 fun e34 w33 =>
                    ∃ (a32 : Option Addr), ∃ (l32 : Nat), ∃ (c32 : Nat), e34 = .returned (.slice a32 l32 c32) ∧
                    (K a32 l32 c32 0 w33))
                  (I9 a19 l19 c19 w30 ∧ μ10 a19 l19 c19 w30 < μ10 a12 l12 c12 w11)))))))))
def ann20 : Ann := (.two .nil (.two (.two .nil (.two (.two .nil .nil) .nil)) (.one (.loop [(1, (.one .slice))] [0] (.one (.two (.two .nil (.two (.two .nil .nil) .nil)) (.two .nil (.two (.two .nil (.one (.loop [(6, (.one .slice)), (7, (.one (.int .i64)))] [0, 1] (.two (.two .nil (.two .nil .nil)) (.two (.one .nil) .nil))))) (.two (.two .nil (.two (.two .nil .nil) .nil)) .nil)))))))))
noncomputable def code20 : Code := match Try.f20.body with | some c => c | none => .skip
theorem wp20 (a1 : Option Addr) (l1 : Nat) (c1 : Nat) (a2 : Option Addr) (l2 : Nat) (c2 : Nat) (K : Option Addr → Nat → Nat → Int → World → Prop) (w : World) : WP Try.prog tab code20 ann20 (fnQ tab Try.f20.results.toList [(.one .slice), (.one (.int .i64))] K) (argE 0 [(.slice a1 l1 c1), (.slice a2 l2 c2)]) w = N20 a1 l1 c1 a2 l2 c2 K w := by kernel_rfl
theorem calls20 (a1 : Option Addr) (l1 : Nat) (c1 : Nat) (a2 : Option Addr) (l2 : Nat) (c2 : Nat) (K : Option Addr → Nat → Nat → Int → World → Prop) (w : World) (h : N20 a1 l1 c1 a2 l2 c2 K w) : Calls Try.prog 20 #[(.slice a1 l1 c1), (.slice a2 l2 c2)] w fun en w' => ∃ (a35 : Option Addr), ∃ (l35 : Nat), ∃ (c35 : Nat), ∃ (x36 : Int), en = .returned (.tuple #[(.slice a35 l35 c35), (.int .i64 x36)]) ∧ K a35 l35 c35 x36 w' :=
  have e : (fun en w' => ExShs [(.one .slice), (.one (.int .i64))] fun vs => en = .returned (tupled vs) ∧ ap [(.one .slice), (.one (.int .i64))] K vs fun p => p w') = (fun (en : Ending) (w' : World) => ∃ (a35 : Option Addr), ∃ (l35 : Nat), ∃ (c35 : Nat), ∃ (x36 : Int), en = .returned (.tuple #[(.slice a35 l35 c35), (.int .i64 x36)]) ∧ K a35 l35 c35 x36 w') := by kernel_rfl
  e ▸ fn_sound tabOk mixed Try.func20 (by kernel_rfl : Try.f20.body = some code20) ann20 [(.slice a1 l1 c1), (.slice a2 l2 c2)] [(.one .slice), (.one (.int .i64))] K w (by kernel_rfl) ((wp20 a1 l1 c1 a2 l2 c2 K w).symm ▸ h)
end Go.Proofs.Ytggfnakhmjkoeaa

namespace Go.Proofs.Ytggfnakhmjkoeaa
open Go Go.V Go.Proofs
open Go.RowKit (Below)
/-! manystrand/domain.Stable -/
def N21 (a1 : Option Addr) (l1 : Nat) (c1 : Nat) (a2 : Option Addr) (l2 : Nat) (c2 : Nat) (K : Bool → World → Prop) (w : World) : Prop :=
  Calls Try.prog 56 #[(.slice a1 l1 c1), (.slice a2 l2 c2)] w fun e5 w4 =>
  ∃ (p3 : Bool), e5 = .returned (.bool p3) ∧
  (BoolK (!p3)
    (K false w4)
    (Calls Try.prog 58 #[(.slice a2 l2 c2)] w4 fun e8 w7 =>
      ∃ (p6 : Bool), e8 = .returned (.bool p6) ∧
      (BoolK p6
        (K false w7)
        (∃ (I9 : Int → World → Prop) (μ10 : Int → World → Nat),
          (I9 0 w7 ∧ True) ∧
          ∀ (w11 : World) (x12 : Int), I9 x12 w11 →
          BoolK (decide ((x12 : Int) < (l1 : Nat)))
          ((0 ≤ (x12 : Int) ∧ (x12 : Int) < (l1 : Nat)) ∧
            AddrK a1 fun b13 =>
            ∃ (s14 : ByteArray), w11.cell? ((b13.add ((x12 : Int).toNat * 4)).add 0) = some (.string s14) ∧
            (∃ (a15 : Option Addr) (l15 : Nat) (c15 : Nat), w11.cell? ((b13.add ((x12 : Int).toNat * 4)).add 1) = some (.slice a15 l15 c15) ∧
              (∃ (a16 : Option Addr) (l16 : Nat) (c16 : Nat), w11.cell? ((b13.add ((x12 : Int).toNat * 4)).add 2) = some (.slice a16 l16 c16) ∧
                (∃ (x17 : Int), w11.cell? ((b13.add ((x12 : Int).toNat * 4)).add 3) = some (.int .i64 x17) ∧
                  (AllocK w11 (#[.string ⟨#[]⟩, .slice none 0 0, .slice none 0 0, .int .i64 0]) 24 fun b18 w19 =>
                    SetK w19 (b18.add 0) (.string s14) fun w20 =>
                    SetK w20 (b18.add 1) (.slice a15 l15 c15) fun w21 =>
                    SetK w21 (b18.add 2) (.slice a16 l16 c16) fun w22 =>
                    SetK w22 (b18.add 3) (.int .i64 x17) fun w23 =>
                    ∃ (s24 : ByteArray), w23.cell? (b18.add 0) = some (.string s24) ∧
                    (∃ (a25 : Option Addr) (l25 : Nat) (c25 : Nat), w23.cell? (b18.add 1) = some (.slice a25 l25 c25) ∧
                      (∃ (a26 : Option Addr) (l26 : Nat) (c26 : Nat), w23.cell? (b18.add 2) = some (.slice a26 l26 c26) ∧
                        (∃ (x27 : Int), w23.cell? (b18.add 3) = some (.int .i64 x27) ∧
                          (Calls Try.prog 51 #[(.agg #[(.string s24), (.slice a25 l25 c25), (.slice a26 l26 c26), (.int .i64 x27)]), (.slice a2 l2 c2)] w23 fun e31 w30 =>
                            ∃ (a28 : Option Addr), ∃ (l28 : Nat), ∃ (c28 : Nat), ∃ (p29 : Bool), e31 = .returned (.tuple #[(.slice a28 l28 c28), (.bool p29)]) ∧
                            (BoolK p29
                              (K false w30)
                              (I9 (IntKind.wrap .i64 (x12 + 1)) w30 ∧ μ10 (IntKind.wrap .i64 (x12 + 1)) w30 < μ10 x12 w11)))))))))))
          (K true w11)))))
def ann21 : Ann := (.two .nil (.two (.two .nil (.two (.two .nil .nil) .nil)) (.two (.two .nil (.one (.loop [(19, (.one (.int .i64)))] [1, 17, 18] (.two .nil (.two (.two .nil .nil) (.two (.one (.two .nil (.two .nil (.two .nil (.two (.two .nil .nil) .nil))))) .nil)))))) (.two .nil .nil))))
noncomputable def code21 : Code := match Try.f21.body with | some c => c | none => .skip
theorem wp21 (a1 : Option Addr) (l1 : Nat) (c1 : Nat) (a2 : Option Addr) (l2 : Nat) (c2 : Nat) (K : Bool → World → Prop) (w : World) : WP Try.prog tab code21 ann21 (fnQ tab Try.f21.results.toList [(.one .bool)] K) (argE 0 [(.slice a1 l1 c1), (.slice a2 l2 c2)]) w = N21 a1 l1 c1 a2 l2 c2 K w := by kernel_rfl
theorem calls21 (a1 : Option Addr) (l1 : Nat) (c1 : Nat) (a2 : Option Addr) (l2 : Nat) (c2 : Nat) (K : Bool → World → Prop) (w : World) (h : N21 a1 l1 c1 a2 l2 c2 K w) : Calls Try.prog 21 #[(.slice a1 l1 c1), (.slice a2 l2 c2)] w fun en w' => ∃ (p32 : Bool), en = .returned (.bool p32) ∧ K p32 w' :=
  have e : (fun en w' => ExShs [(.one .bool)] fun vs => en = .returned (tupled vs) ∧ ap [(.one .bool)] K vs fun p => p w') = (fun (en : Ending) (w' : World) => ∃ (p32 : Bool), en = .returned (.bool p32) ∧ K p32 w') := by kernel_rfl
  e ▸ fn_sound tabOk mixed Try.func21 (by kernel_rfl : Try.f21.body = some code21) ann21 [(.slice a1 l1 c1), (.slice a2 l2 c2)] [(.one .bool)] K w (by kernel_rfl) ((wp21 a1 l1 c1 a2 l2 c2 K w).symm ▸ h)
end Go.Proofs.Ytggfnakhmjkoeaa

namespace Go.Proofs.Ytggfnakhmjkoeaa
open Go Go.V Go.Proofs
open Go.RowKit (Below)
/-! manystrand/manystrandref06.Stable -/
def N22 (a1 : Option Addr) (l1 : Nat) (c1 : Nat) (a2 : Option Addr) (l2 : Nat) (c2 : Nat) (K : Bool → World → Prop) (w : World) : Prop :=
  Calls Try.prog 52 #[(.slice a2 l2 c2)] w fun e5 w4 =>
  ∃ (p3 : Bool), e5 = .returned (.bool p3) ∧
  (BoolK (!p3)
    (K false w4)
    (Calls Try.prog 59 #[(.slice a1 l1 c1), (.int .i64 (l2 : Nat))] w4 fun e8 w7 =>
      ∃ (p6 : Bool), e8 = .returned (.bool p6) ∧
      (BoolK (!p6)
        (K false w7)
        (Calls Try.prog 47 #[(.slice a2 l2 c2)] w7 fun e11 w10 =>
          ∃ (p9 : Bool), e11 = .returned (.bool p9) ∧
          (BoolK p9
            (K false w10)
            (∃ (I12 : Int → World → Prop) (μ13 : Int → World → Nat),
              (I12 0 w10 ∧ True) ∧
              ∀ (w14 : World) (x15 : Int), I12 x15 w14 →
              BoolK (decide ((x15 : Int) < (l1 : Nat)))
              ((0 ≤ (x15 : Int) ∧ (x15 : Int) < (l1 : Nat)) ∧
                AddrK a1 fun b16 =>
                ∃ (s17 : ByteArray), w14.cell? ((b16.add ((x15 : Int).toNat * 4)).add 0) = some (.string s17) ∧
                (∃ (a18 : Option Addr) (l18 : Nat) (c18 : Nat), w14.cell? ((b16.add ((x15 : Int).toNat * 4)).add 1) = some (.slice a18 l18 c18) ∧
                  (∃ (a19 : Option Addr) (l19 : Nat) (c19 : Nat), w14.cell? ((b16.add ((x15 : Int).toNat * 4)).add 2) = some (.slice a19 l19 c19) ∧
                    (∃ (x20 : Int), w14.cell? ((b16.add ((x15 : Int).toNat * 4)).add 3) = some (.int .i64 x20) ∧
                      (Calls Try.prog 54 #[(.agg #[(.string s17), (.slice a18 l18 c18), (.slice a19 l19 c19), (.int .i64 x20)]), (.slice a2 l2 c2)] w14 fun e23 w22 =>
                        ∃ (a21 : Option Addr), ∃ (l21 : Nat), ∃ (c21 : Nat), e23 = .returned (.slice a21 l21 c21) ∧
                        (Calls Try.prog 15 #[(.slice a2 l2 c2), (.slice a21 l21 c21)] w22 fun e26 w25 =>
                          ∃ (p24 : Bool), e26 = .returned (.bool p24) ∧
                          (BoolK (!p24)
                            (K false w25)
                            (I12 (IntKind.wrap .i64 (x15 + 1)) w25 ∧ μ13 (IntKind.wrap .i64 (x15 + 1)) w25 < μ13 x15 w14))))))))
              (K true w14)))))))
def ann22 : Ann := (.two .nil (.two (.two .nil (.two (.two .nil .nil) .nil)) (.two (.two .nil (.one (.loop [(5, (.one (.int .i64)))] [0, 1] (.two (.two .nil (.two .nil .nil)) (.two (.one (.two .nil (.two (.two .nil .nil) .nil))) .nil))))) (.two .nil .nil))))
noncomputable def code22 : Code := match Try.f22.body with | some c => c | none => .skip
theorem wp22 (a1 : Option Addr) (l1 : Nat) (c1 : Nat) (a2 : Option Addr) (l2 : Nat) (c2 : Nat) (K : Bool → World → Prop) (w : World) : WP Try.prog tab code22 ann22 (fnQ tab Try.f22.results.toList [(.one .bool)] K) (argE 0 [(.slice a1 l1 c1), (.slice a2 l2 c2)]) w = N22 a1 l1 c1 a2 l2 c2 K w := by kernel_rfl
theorem calls22 (a1 : Option Addr) (l1 : Nat) (c1 : Nat) (a2 : Option Addr) (l2 : Nat) (c2 : Nat) (K : Bool → World → Prop) (w : World) (h : N22 a1 l1 c1 a2 l2 c2 K w) : Calls Try.prog 22 #[(.slice a1 l1 c1), (.slice a2 l2 c2)] w fun en w' => ∃ (p27 : Bool), en = .returned (.bool p27) ∧ K p27 w' :=
  have e : (fun en w' => ExShs [(.one .bool)] fun vs => en = .returned (tupled vs) ∧ ap [(.one .bool)] K vs fun p => p w') = (fun (en : Ending) (w' : World) => ∃ (p27 : Bool), en = .returned (.bool p27) ∧ K p27 w') := by kernel_rfl
  e ▸ fn_sound tabOk mixed Try.func22 (by kernel_rfl : Try.f22.body = some code22) ann22 [(.slice a1 l1 c1), (.slice a2 l2 c2)] [(.one .bool)] K w (by kernel_rfl) ((wp22 a1 l1 c1 a2 l2 c2 K w).symm ▸ h)
end Go.Proofs.Ytggfnakhmjkoeaa

namespace Go.Proofs.Ytggfnakhmjkoeaa
open Go Go.V Go.Proofs
open Go.RowKit (Below)

theorem c47 (w : World) (a : Option Addr) (l c : Nat) (ds : List Dm) (h : Doms w a l ds) (hl : ds.length ≤ 9223372036854775807) :
    Calls Try.prog 47 #[.slice a l c] w fun en w' => ∃ p, en = .returned (.bool p) ∧ (p = failedB ds ∧ Ext w w') := by
  refine calls47 a l c _ w ?_
  have e1 := h.1
  refine ⟨fun i w' => ∃ k : Nat, i = k ∧ k ≤ ds.length ∧ (ds.take k).any (fun d => decide (d = [])) = false ∧ Ext w w', fun i _ => ds.length - i.toNat, ⟨⟨0, rfl, by omega, rfl, Ext.refl w⟩, trivial⟩, ?_⟩
  rintro w4 i ⟨k, rfl, hk, hv, hB⟩
  refine BoolK.mk (fun hlt => ?_) (fun hge => ?_)
  · have hlt : k < ds.length := by simp at hlt; omega
    obtain ⟨b1, o1, a1, l1, c1, rfl, h0, h1⟩ := domsAt h w4 hB hlt
    have hl1 := h1.1
    refine ⟨by omega, ?_⟩
    simp only [AddrK, Int.toNat_natCast, add_mk, Nat.mul_one]
    refine ⟨_, _, _, h0, BoolK.mk (fun t => ?_) (fun t => ?_)⟩
    · have he : ds[k] = [] := by apply List.length_eq_zero_iff.1; simp at t; omega
      exact ⟨(any_true (p := fun d => decide (d = [])) hlt (by rw [he]; rfl)).symm, hB⟩
    · have he : ds[k] ≠ [] := fun e => by rw [e] at hl1; simp at t; simp at hl1; omega
      rw [wrap_succ (by omega)]
      exact ⟨⟨k + 1, rfl, by omega, by rw [any_take hlt, hv, decide_eq_false he]; rfl, hB⟩, by simp; omega⟩
  · have : k = ds.length := by simp at hge; omega
    subst this
    rw [List.take_length] at hv
    exact ⟨hv.symm, hB⟩

def vpropsB (ps : List PropS) (n : Int) : Bool := (ps.all fun p => propB p n) && decide (ps.length ≤ 100)
theorem usable_split (ps : List PropS) (ls : List Dm) : usableB ps ls = (allVB ls && vpropsB ps ls.length) := by
  rw [usableB, vpropsB]; congr 1; exact Bool.and_comm _ _

theorem c59 (w : World) (a : Option Addr) (l c : Nat) (ps : List PropS) (hp : Props w a l ps) (n : Int) (hlp : ps.length ≤ 9223372036854775807) :
    Calls Try.prog 59 #[.slice a l c, .int .i64 n] w fun en w' => ∃ p, en = .returned (.bool p) ∧ (p = vpropsB ps n ∧ Ext w w') := by
  refine calls59 _ _ _ _ _ w ?_
  have e1 := hp.1
  refine ⟨fun i w' => ∃ k : Nat, i = k ∧ k ≤ ps.length ∧ (ps.take k).all (fun p => propB p n) = true ∧ Ext w w', fun i _ => ps.length - i.toNat, ⟨⟨0, rfl, by omega, rfl, Ext.refl _⟩, trivial⟩, ?_⟩
  rintro w8 i ⟨k, rfl, hk, hv, hB⟩
  refine BoolK.mk (fun hlt => ?_) (fun hge => ?_)
  · have hlt : k < ps.length := by simp at hlt; omega
    obtain ⟨b1, o1, s, a2', l2', c2', a3, l3, c3, x4, rfl, h0, h1, h2, h3, hP⟩ := propAt hp w8 hB hlt
    refine ⟨by omega, ?_⟩
    simp only [AddrK, Int.toNat_natCast, add_mk, Nat.add_zero]
    refine ⟨_, h0, _, _, _, h1, _, _, _, h2, _, h3, ?_⟩
    refine (c17 w8 _ _ _ _ _ _ _ _ n _ hP).mono ?_
    rintro en w26 ⟨q, rfl, rfl, hx26⟩
    refine ⟨_, rfl, BoolK.mk (fun t => ?_) (fun t => ?_)⟩
    · simp at t; exact ⟨by rw [vpropsB, all_false (p := fun p => propB p n) hlt t]; rfl, hB.trans hx26⟩
    · simp at t
      rw [wrap_succ (by omega)]
      exact ⟨⟨k + 1, rfl, by omega, by rw [all_take hlt, hv, t]; rfl, hB.trans hx26⟩, by simp; omega⟩
  · have : k = ps.length := by simp at hge; omega
    subst this
    rw [List.take_length] at hv
    refine ⟨?_, hB⟩
    rw [vpropsB, hv, Bool.true_and, decide_eq_decide, e1]; omega

/-! ### One round -/
noncomputable def kall (ps : List PropS) (l : List Dm) : List Dm := ps.foldl (fun l p => keepS p l) l
theorem kall_vd : ∀ (ps : List PropS) {l : List Dm}, VDs l → VDs (kall ps l)
  | [], _, h => h
  | p :: ps, _, h => kall_vd ps (keepS_vd p h)
theorem kall_len : ∀ (ps : List PropS) (l : List Dm), (kall ps l).length = l.length
  | [], _ => rfl
  | p :: ps, l => (kall_len ps (keepS p l)).trans (keepS_len p l)
theorem kall_sub : ∀ (ps : List PropS) {l : List Dm}, VDs l → (∀ p ∈ ps, propB p l.length = true) → Sub (kall ps l) l
  | [], _, _, _ => Sub.refl _
  | p :: ps, l, h, hp => (kall_sub ps (keepS_vd p h) (fun q hq => by rw [keepS_len]; exact hp q (List.mem_cons_of_mem _ hq))).trans
      fun _ _ hh => keep_sub p l h (varsOk_of (hp p List.mem_cons_self)) hh
theorem kall_fix : ∀ (ps : List PropS) {l : List Dm}, VDs l → (∀ p ∈ ps, propB p l.length = true) → kall ps l = l → ∀ p ∈ ps, keepS p l = l
  | [], _, _, _, _ => by simp
  | p :: ps, l, h, hp, e => by
    have hp' : ∀ q ∈ ps, propB q (keepS p l).length = true := fun q hq => by rw [keepS_len]; exact hp q (List.mem_cons_of_mem _ hq)
    have s1 : Sub l (keepS p l) := by
      have := kall_sub ps (keepS_vd p h) hp'
      rw [show kall ps (keepS p l) = l from e] at this; exact this
    have hk : keepS p l = l := doms_ext (keepS_vd p h) h (keepS_len p l) fun x v => ⟨fun hh => keep_sub p l h (varsOk_of (hp p List.mem_cons_self)) hh, fun hh => s1 x v hh⟩
    intro q hq
    rcases List.mem_cons.1 hq with rfl | hq
    · exact hk
    · refine kall_fix ps h (fun q hq => hp q (List.mem_cons_of_mem _ hq)) ?_ q hq
      have : kall ps (keepS p l) = l := e
      rwa [hk] at this
theorem kall_keep : ∀ (ps : List PropS) {l z : List Dm}, VDs l → (∀ p ∈ ps, propB p l.length = true) → FixP ps z → z.length = l.length → Sub z l → Sub z (kall ps l)
  | [], _, _, _, _, _, _, hs => hs
  | p :: ps, l, z, h, hp, hz, hl, hs => by
    refine kall_keep ps (keepS_vd p h) (fun q hq => by rw [keepS_len]; exact hp q (List.mem_cons_of_mem _ hq)) ⟨hz.vd, fun q hq => hz.keep q (List.mem_cons_of_mem _ hq), hz.ok⟩ (by rw [keepS_len]; exact hl) ?_
    have := keep_mono p hz.vd h hl (by rw [hl]; exact hp p List.mem_cons_self) hs
    rwa [hz.keep p List.mem_cons_self] at this
theorem kall_siz {ps : List PropS} {l : List Dm} (h : VDs l) (hp : ∀ p ∈ ps, propB p l.length = true) (hne : kall ps l ≠ l) : siz (kall ps l) < siz l := by
  have hs := kall_sub ps h hp
  have h1 := siz_le (kall_len ps l) hs
  rcases Nat.lt_or_ge (siz (kall ps l)) (siz l) with hh | hh
  · exact hh
  · exact absurd (siz_eq (kall_vd ps h) h (kall_len ps l) hs hh) hne

/-- r is the greatest fixpoint below l, or there is none -/
structure Gr (ps : List PropS) (l : List Dm) (r : Option (List Dm)) : Prop where
  fix : ∀ m, r = some m → FixP ps m ∧ m.length = l.length ∧ Sub m l
  top : ∀ z, FixP ps z → z.length = l.length → Sub z l → ∃ m, r = some m ∧ Sub z m
theorem Gr.uniq {ps : List PropS} {l : List Dm} {r s : Option (List Dm)} (h : Gr ps l r) (k : Gr ps l s) : r = s := by
  cases r with
  | none =>
    cases s with
    | none => rfl
    | some m =>
      obtain ⟨h1, h2, h3⟩ := k.fix m rfl
      obtain ⟨_, hh, _⟩ := h.top m h1 h2 h3; cases hh
  | some m =>
    obtain ⟨h1, h2, h3⟩ := h.fix m rfl
    obtain ⟨m', e, h4⟩ := k.top m h1 h2 h3
    subst e
    obtain ⟨k1, k2, k3⟩ := k.fix m' rfl
    obtain ⟨m2, e2, h5⟩ := h.top m' k1 k2 k3
    cases e2
    rw [doms_ext h1.vd k1.vd (h2.trans k2.symm) fun x v => ⟨fun hh => h4 x v hh, fun hh => h5 x v hh⟩]
theorem FixP.perm {ps qs : List PropS} {z : List Dm} (h : FixP ps z) (hs : ∀ p, p ∈ qs → p ∈ ps) : FixP qs z := ⟨h.vd, fun p hp => h.keep p (hs p hp), h.ok⟩
theorem Gr.perm {ps qs : List PropS} {l : List Dm} {r : Option (List Dm)} (h : Gr ps l r) (hs : ∀ p, p ∈ qs ↔ p ∈ ps) : Gr qs l r :=
  ⟨fun m hm => by obtain ⟨h1, h2⟩ := h.fix m hm; exact ⟨h1.perm fun p hp => (hs p).1 hp, h2⟩, fun z hz => h.top z (hz.perm fun p hp => (hs p).2 hp)⟩

/-- what both answer -/
def GrRes (ps : List PropS) (ls : List Dm) (w' : World) (a : Option Addr) (l : Nat) (e : Int) : Prop :=
  (usableB ps ls = false ∧ a = none ∧ l = 0 ∧ e = 2) ∨
  (usableB ps ls = true ∧ ∃ r, Gr ps ls r ∧ ((r = none ∧ a = none ∧ l = 0 ∧ e = 60) ∨ ∃ m, r = some m ∧ VDs m ∧ m.length = ls.length ∧ e = 0 ∧ Doms w' a l m))
theorem FixRes.gr {ps : List PropS} {ls : List Dm} {base : Nat} {w' : World} {a : Option Addr} {l c : Nat} {e : Int} (h : FixRes ps ls base w' a l c e) : GrRes ps ls w' a l e := by
  rcases h with h | ⟨hu, r, hr, h⟩
  · exact .inl h
  · obtain ⟨h1, h2⟩ := usable_props hu
    obtain ⟨k1, k2⟩ := fix_sound hr h1 h2
    refine .inr ⟨hu, r, ⟨k1, k2⟩, h.imp id ?_⟩
    rintro ⟨m, e1, e2, e3, e4, e5⟩
    exact ⟨m, e1, e2, e3, e4, e5.doms⟩

theorem c20 (w : World) (a : Option Addr) (l c : Nat) (ps : List PropS) (hp : Props w a l ps) (a2 : Option Addr) (l2 c2 : Nat) (ls : List Dm) (h : Doms w a2 l2 ls) (hl : ls.length ≤ 9223372036854775807) (hs : ∀ d ∈ ls, Sm d) (hlp : ps.length ≤ 9223372036854775807) :
    Calls Try.prog 20 #[.slice a l c, .slice a2 l2 c2] w fun en w' => ∃ a' l' c' e, en = .returned (.tuple #[.slice a' l' c', .int .i64 e]) ∧ (GrRes ps ls w' a' l' e ∧ Ext w w') := by
  refine calls20 _ _ _ _ _ _ _ w ?_
  have e2 := h.1
  have ep := hp.1
  refine (c52 w a2 l2 c2 ls h hl hs).mono ?_
  rintro en w4 ⟨q, rfl, rfl, hx4⟩
  refine ⟨_, rfl, BoolK.mk (fun t => ?_) (fun t => ?_)⟩
  · simp at t; exact ⟨.inl ⟨by rw [usable_split, t]; rfl, rfl, rfl, rfl⟩, hx4⟩
  simp at t
  rw [e2]
  refine (c59 w4 a l c ps (hp.ext RProp.mono hx4) _ hlp).mono ?_
  rintro en w7 ⟨q, rfl, rfl, hx7⟩
  have hx7' := hx4.trans hx7
  refine ⟨_, rfl, BoolK.mk (fun t2 => ?_) (fun t2 => ?_)⟩
  · simp at t2; exact ⟨.inl ⟨by rw [usable_split, t, t2]; rfl, rfl, rfl, rfl⟩, hx7'⟩
  simp at t2
  have hu : usableB ps ls = true := by rw [usable_split, t, t2]; rfl
  obtain ⟨hVD, hpr⟩ := usable_props hu
  refine ⟨fun a l c w' => ∃ m, Doms w' a l m ∧ VDs m ∧ m.length = ls.length ∧ Sub m ls ∧ (∀ z, FixP ps z → z.length = ls.length → Sub z ls → Sub z m) ∧ Ext w w', fun a l _ w' => meas w' a l false,
    ⟨⟨ls, by rw [← e2]; exact h.ext (RSl.mono RPair.mono) hx7', hVD, rfl, Sub.refl _, fun _ _ _ hh => hh, hx7'⟩, trivial⟩, ?_⟩
  rintro w11 a12 l12 c12 ⟨m, hm, hV, hL, hS, hT, hB⟩
  have em := hm.1
  refine (c47 w11 a12 l12 c12 m hm (by omega)).mono ?_
  rintro en w14 ⟨q, rfl, rfl, hx14⟩
  have hB14 := hB.trans hx14
  refine ⟨_, rfl, BoolK.mk (fun t3 => ?_) (fun t3 => ?_)⟩
  · refine ⟨.inr ⟨hu, none, ⟨(fun m hm => by cases hm), fun z hz hzl hzs => ?_⟩, .inl ⟨rfl, rfl, rfl, rfl⟩⟩, hB14⟩
    have := failed_sub hz.vd (hzl.trans hL.symm) (hT z hz hzl hzs) t3
    rw [hz.ok] at this; cases this
  have hm14 := hm.ext (RSl.mono RPair.mono) hx14
  refine ⟨fun a l c x w' => ∃ j : Nat, x = j ∧ j ≤ ps.length ∧ Doms w' a l (kall (ps.take j) m) ∧ Ext w14 w', fun _ _ _ x _ => ps.length - x.toNat, ⟨⟨0, rfl, by omega, hm14, Ext.refl _⟩, trivial⟩, ?_⟩
  rintro w18 a19 l19 c19 _ ⟨j, rfl, hj, hD, hx18⟩
  have hB18 := hB14.trans hx18
  have hpr' : ∀ p ∈ ps.take j, propB p m.length = true := fun p hp => by rw [hL]; exact hpr p (List.mem_of_mem_take hp)
  refine BoolK.mk (fun hlt => ?_) (fun hge => ?_)
  · have hlt : j < ps.length := by simp at hlt; omega
    obtain ⟨b1, o1, s, a2', l2', c2', a3, l3, c3, x4, rfl, h0, h1, h2, h3, hP⟩ := propAt hp w18 hB18 hlt
    refine ⟨by omega, ?_⟩
    simp only [AddrK, Int.toNat_natCast, add_mk, Nat.add_zero]
    refine ⟨_, h0, _, _, _, h1, _, _, _, h2, _, h3, ?_⟩
    refine (c54 w18 _ _ _ _ _ _ _ _ _ hP a19 l19 c19 _ hD (kall_vd _ hV) (by rw [kall_len, hL]; exact hpr _ (List.getElem_mem hlt))).mono ?_
    rintro en w27 ⟨a26, l26, c26, rfl, hD', hx27⟩
    refine ⟨_, _, _, rfl, ?_⟩
    rw [wrap_succ (by omega)]
    refine ⟨⟨j + 1, rfl, by omega, ?_, hx18.trans hx27⟩, by simp; omega⟩
    have e1 : ps.take (j + 1) = ps.take j ++ [ps[j]] := by rw [List.take_add_one, List.getElem?_eq_getElem hlt]; rfl
    rw [e1, kall, List.foldl_append]; exact hD'
  · have : j = ps.length := by simp at hge; omega
    subst this
    rw [List.take_length] at hD hpr'
    refine (c15 w18 _ _ _ _ _ _ _ _ (hm14.ext (RSl.mono RPair.mono) hx18) hD (by omega) (fun d hd => by have := (hV d hd).len; omega)).mono ?_
    rintro en w30 ⟨q, rfl, rfl, hx30⟩
    have hB30 := hB18.trans hx30
    refine ⟨_, rfl, BoolK.mk (fun t4 => ?_) (fun t4 => ?_)⟩
    · have t4 := (of_decide_eq_true t4).symm
      refine (c53 w30 a12 l12 c12 m (hm14.ext (RSl.mono RPair.mono) (hx18.trans hx30)) (by have := (allVB_of t).2; omega) (fun d hd => by have := (hV d hd).len; omega)).mono ?_
      rintro en w33 ⟨a32, l32, c32, rfl, hD', hx33⟩
      refine ⟨_, _, _, rfl, .inr ⟨hu, some m, ⟨fun m' hm' => ?_, fun z hz hzl hzs => ⟨m, rfl, hT z hz hzl hzs⟩⟩, .inr ⟨m, rfl, hV, hL, rfl, hD'.doms⟩⟩, hB30.trans hx33⟩
      cases hm'
      exact ⟨⟨hV, kall_fix ps hV hpr' t4, t3⟩, hL, hS⟩
    · have t4 : kall ps m ≠ m := fun e => of_decide_eq_false t4 e.symm
      have hD30 := hD.ext (RSl.mono RPair.mono) hx30
      refine ⟨⟨kall ps m, hD30, kall_vd ps hV, (kall_len ps m).trans hL, (kall_sub ps hV hpr').trans hS, fun z hz hzl hzs => kall_keep ps hV hpr' hz (hzl.trans hL.symm) (hT z hz hzl hzs), hB30⟩, ?_⟩
      show meas w30 a19 l19 false < meas w11 a12 l12 false
      rw [meas_eq hD30, meas_eq hm]
      have := kall_siz hV hpr' t4
      simp; omega

/-! ### Stable -/
noncomputable def stableB (ps : List PropS) (ls : List Dm) : Bool := usableB ps ls && (!failedB ls && ps.all fun p => decide (keepS p ls = ls))
theorem c21 (w : World) (a : Option Addr) (l c : Nat) (ps : List PropS) (hp : Props w a l ps) (a2 : Option Addr) (l2 c2 : Nat) (ls : List Dm) (h : Doms w a2 l2 ls) (hl : ls.length ≤ 9223372036854775807) (hs : ∀ d ∈ ls, Sm d) :
    Calls Try.prog 21 #[.slice a l c, .slice a2 l2 c2] w fun en w' => ∃ p, en = .returned (.bool p) ∧ (p = stableB ps ls ∧ Ext w w') := by
  refine calls21 _ _ _ _ _ _ _ w ?_
  have e1 := h.1
  have ep := hp.1
  refine (c56 w a l c ps hp a2 l2 c2 ls h hl hs).mono ?_
  rintro en w4 ⟨q, rfl, rfl, hx4⟩
  refine ⟨_, rfl, BoolK.mk (fun t => ?_) (fun t => ?_)⟩
  · simp at t; exact ⟨by rw [stableB, t]; rfl, hx4⟩
  simp at t
  obtain ⟨hVD, hpr⟩ := usable_props t
  have h100 : ps.length ≤ 100 := by simp only [usableB, Bool.and_eq_true, decide_eq_true_eq] at t; exact t.2.1
  refine (c58 w4 a2 l2 c2 ls (h.ext (RSl.mono RPair.mono) hx4) hl).mono ?_
  rintro en w7 ⟨q, rfl, rfl, hx7⟩
  have hx7' := hx4.trans hx7
  refine ⟨_, rfl, BoolK.mk (fun t2 => ?_) (fun t2 => ?_)⟩
  · exact ⟨by rw [stableB, t, t2]; rfl, hx7'⟩
  have hst : stableB ps ls = ps.all fun p => decide (keepS p ls = ls) := by rw [stableB, t, t2]; rfl
  rw [hst]
  refine ⟨fun i w' => ∃ k : Nat, i = k ∧ k ≤ ps.length ∧ (ps.take k).all (fun p => decide (keepS p ls = ls)) = true ∧ Ext w w', fun i _ => ps.length - i.toNat, ⟨⟨0, rfl, by omega, rfl, hx7'⟩, trivial⟩, ?_⟩
  rintro w11 i ⟨k, rfl, hk, hv, hB⟩
  refine BoolK.mk (fun hlt => ?_) (fun hge => ?_)
  · have hlt : k < ps.length := by simp at hlt; omega
    obtain ⟨b1, o1, s, a2', l2', c2', a3, l3, c3, x4, rfl, h0, h1, h2, h3, hP⟩ := propAt hp w11 hB hlt
    refine ⟨by omega, ?_⟩
    simp only [AddrK, Int.toNat_natCast, add_mk, Nat.add_zero]
    refine ⟨_, h0, _, _, _, h1, _, _, _, h2, _, h3, ?_⟩
    refine local4 (fun b w23 hb hblk hx => ?_)
    obtain ⟨g0, g1, g2, g3⟩ := cell4 hblk
    simp only [add_mk, Nat.zero_add]
    refine ⟨_, g0, _, _, _, g1, _, _, _, g2, _, g3, ?_⟩
    have hB23 := hB.trans hx
    have hpk := hpr _ (List.getElem_mem hlt)
    refine (c51 w23 _ _ _ _ _ _ _ _ _ (hP.ext hx) a2 l2 c2 ls (h.ext (RSl.mono RPair.mono) hB23) hVD hpk).mono ?_
    rintro en w30 ⟨a28, l28, c28, q, rfl, _, rfl, hx30⟩
    have hB30 := hB23.trans hx30
    have hiff := less_iff ps[k] ls hVD (varsOk_of hpk)
    refine ⟨_, _, _, _, rfl, BoolK.mk (fun t3 => ?_) (fun t3 => ?_)⟩
    · exact ⟨(all_false (p := fun p => decide (keepS p ls = ls)) hlt (decide_eq_false (hiff.1 t3))).symm, hB30⟩
    · have hk' : keepS ps[k] ls = ls := Classical.byContradiction fun hne => by rw [hiff.2 hne] at t3; cases t3
      rw [wrap_succ (by omega)]
      exact ⟨⟨k + 1, rfl, by omega, by rw [all_take hlt, hv, decide_eq_true hk']; rfl, hB30⟩, by simp; omega⟩
  · have : k = ps.length := by simp at hge; omega
    subst this
    rw [List.take_length] at hv
    exact ⟨hv.symm, hB⟩

theorem c22 (w : World) (a : Option Addr) (l c : Nat) (ps : List PropS) (hp : Props w a l ps) (a2 : Option Addr) (l2 c2 : Nat) (ls : List Dm) (h : Doms w a2 l2 ls) (hl : ls.length ≤ 9223372036854775807) (hs : ∀ d ∈ ls, Sm d) (hlp : ps.length ≤ 9223372036854775807) :
    Calls Try.prog 22 #[.slice a l c, .slice a2 l2 c2] w fun en w' => ∃ p, en = .returned (.bool p) ∧ (p = stableB ps ls ∧ Ext w w') := by
  refine calls22 _ _ _ _ _ _ _ w ?_
  have e1 := h.1
  have ep := hp.1
  refine (c52 w a2 l2 c2 ls h hl hs).mono ?_
  rintro en w4 ⟨q, rfl, rfl, hx4⟩
  refine ⟨_, rfl, BoolK.mk (fun t => ?_) (fun t => ?_)⟩
  · simp at t; exact ⟨by rw [stableB, usable_split, t]; rfl, hx4⟩
  simp at t
  rw [e1]
  refine (c59 w4 a l c ps (hp.ext RProp.mono hx4) _ hlp).mono ?_
  rintro en w7 ⟨q, rfl, rfl, hx7⟩
  have hx7' := hx4.trans hx7
  refine ⟨_, rfl, BoolK.mk (fun t2 => ?_) (fun t2 => ?_)⟩
  · simp at t2; exact ⟨by rw [stableB, usable_split, t, t2]; rfl, hx7'⟩
  simp at t2
  have hu : usableB ps ls = true := by rw [usable_split, t, t2]; rfl
  obtain ⟨hVD, hpr⟩ := usable_props hu
  rw [← e1]
  refine (c47 w7 a2 l2 c2 ls (h.ext (RSl.mono RPair.mono) hx7') hl).mono ?_
  rintro en w10 ⟨q, rfl, rfl, hx10⟩
  have hx10' := hx7'.trans hx10
  refine ⟨_, rfl, BoolK.mk (fun t3 => ?_) (fun t3 => ?_)⟩
  · exact ⟨by rw [stableB, hu, t3]; rfl, hx10'⟩
  have hst : stableB ps ls = ps.all fun p => decide (keepS p ls = ls) := by rw [stableB, hu, t3]; rfl
  rw [hst]
  refine ⟨fun i w' => ∃ k : Nat, i = k ∧ k ≤ ps.length ∧ (ps.take k).all (fun p => decide (keepS p ls = ls)) = true ∧ Ext w w', fun i _ => ps.length - i.toNat, ⟨⟨0, rfl, by omega, rfl, hx10'⟩, trivial⟩, ?_⟩
  rintro w14 i ⟨k, rfl, hk, hv, hB⟩
  refine BoolK.mk (fun hlt => ?_) (fun hge => ?_)
  · have hlt : k < ps.length := by simp at hlt; omega
    obtain ⟨b1, o1, s, a2', l2', c2', a3, l3, c3, x4, rfl, h0, h1, h2, h3, hP⟩ := propAt hp w14 hB hlt
    refine ⟨by omega, ?_⟩
    simp only [AddrK, Int.toNat_natCast, add_mk, Nat.add_zero]
    refine ⟨_, h0, _, _, _, h1, _, _, _, h2, _, h3, ?_⟩
    have hpk := hpr _ (List.getElem_mem hlt)
    refine (c54 w14 _ _ _ _ _ _ _ _ _ hP a2 l2 c2 ls (h.ext (RSl.mono RPair.mono) hB) hVD hpk).mono ?_
    rintro en w22 ⟨a21, l21, c21, rfl, hD, hx22⟩
    have hB22 := hB.trans hx22
    refine ⟨_, _, _, rfl, ?_⟩
    refine (c15 w22 _ _ _ _ _ _ _ _ (h.ext (RSl.mono RPair.mono) hB22) hD hl (fun d hd => by have := (hVD d hd).len; omega)).mono ?_
    rintro en w25 ⟨q, rfl, rfl, hx25⟩
    have hB25 := hB22.trans hx25
    refine ⟨_, rfl, BoolK.mk (fun t4 => ?_) (fun t4 => ?_)⟩
    · simp at t4
      exact ⟨(all_false (p := fun p => decide (keepS p ls = ls)) hlt (decide_eq_false fun e => t4 e.symm)).symm, hB25⟩
    · simp at t4
      rw [wrap_succ (by omega)]
      exact ⟨⟨k + 1, rfl, by omega, by rw [all_take hlt, hv, decide_eq_true t4.symm]; rfl, hB25⟩, by simp; omega⟩
  · have : k = ps.length := by simp at hge; omega
    subst this
    rw [List.take_length] at hv
    exact ⟨hv.symm, hB⟩
end Go.Proofs.Ytggfnakhmjkoeaa

namespace Go.Proofs.Ytggfnakhmjkoeaa
open Go Go.V Go.Proofs
open Go.RowKit (Below)
/-! manystrand/domain.Entailed -/
def N48 (s1 : ByteArray) (a2 : Option Addr) (l2 : Nat) (c2 : Nat) (a3 : Option Addr) (l3 : Nat) (c3 : Nat) (x4 : Int) (a5 : Option Addr) (l5 : Nat) (c5 : Nat) (K : Bool → Int → World → Prop) (w : World) : Prop :=
  AllocK w (#[(.string s1), (.slice a2 l2 c2), (.slice a3 l3 c3), (.int .i64 x4)]) 24 fun b6 w7 =>
  Calls Try.prog 50 #[(.slice a5 l5 c5)] w7 fun e10 w9 =>
  ∃ (p8 : Bool), e10 = .returned (.bool p8) ∧
  (BoolK (!p8)
    (K false 2 w9)
    (∃ (s11 : ByteArray), w9.cell? (b6.add 0) = some (.string s11) ∧
      (∃ (a12 : Option Addr) (l12 : Nat) (c12 : Nat), w9.cell? (b6.add 1) = some (.slice a12 l12 c12) ∧
        (∃ (a13 : Option Addr) (l13 : Nat) (c13 : Nat), w9.cell? (b6.add 2) = some (.slice a13 l13 c13) ∧
          (∃ (x14 : Int), w9.cell? (b6.add 3) = some (.int .i64 x14) ∧
            (Calls Try.prog 16 #[(.agg #[(.string s11), (.slice a12 l12 c12), (.slice a13 l13 c13), (.int .i64 x14)]), (.int .i64 (l5 : Nat))] w9 fun e17 w16 =>
              ∃ (p15 : Bool), e17 = .returned (.bool p15) ∧
              (BoolK (!p15)
                (K false 2 w16)
                (Calls Try.prog 58 #[(.slice a5 l5 c5)] w16 fun e20 w19 =>
                  ∃ (p18 : Bool), e20 = .returned (.bool p18) ∧
                  (BoolK p18
                    (K true 0 w19)
                    ((0 ≤ ((l5 : Nat) : Int) ∧ ((l5 : Nat) : Int) ≤ (l5 : Nat) ∧ ((1 : Nat) : Int) * (l5 : Nat) ≤ 281474976710656 ∧ ((l5 : Nat) : Int) ≤ 9223372036854775807) ∧
                      AllocK w19 (madeCells (#[.bool false]) (((l5 : Nat) : Int).toNat * 1)) 4 fun b21 w22 =>
                      ∃ (a23 : Option Addr) (l23 : Nat) (c23 : Nat), w22.cell? (b6.add 1) = some (.slice a23 l23 c23) ∧
                      (∃ (I24 : Option Addr → Nat → Nat → Int → Int → World → Prop) (μ25 : Option Addr → Nat → Nat → Int → Int → World → Nat),
                        (I24 none 0 0 1 0 w22 ∧ True) ∧
                        ∀ (w26 : World) (a27 : Option Addr) (l27 : Nat) (c27 : Nat) (x28 : Int) (x29 : Int), I24 a27 l27 c27 x28 x29 w26 →
                        BoolK (decide ((x29 : Int) < (l23 : Nat)))
                        ((0 ≤ (x29 : Int) ∧ (x29 : Int) < (l23 : Nat)) ∧
                          AddrK a23 fun b30 =>
                          ∃ (x31 : Int), w26.cell? (b30.add ((x29 : Int).toNat * 1)) = some (.int .i64 x31) ∧
                          ((0 ≤ (x31 : Int) ∧ (x31 : Int) < (((l5 : Nat) : Int).toNat : Nat)) ∧
                            ∃ (p32 : Bool), w26.cell? (b21.add ((x31 : Int).toNat * 1)) = some (.bool p32) ∧
                            (BoolK (!p32)
                              ((0 ≤ (x31 : Int) ∧ (x31 : Int) < (((l5 : Nat) : Int).toNat : Nat)) ∧
                                SetK w26 (b21.add ((x31 : Int).toNat * 1)) (.bool true) fun w33 =>
                                AllocK w33 (#[(.int .i64 x31)]) 3 fun b34 w35 =>
                                ∃ (a36 : Option Addr), ∃ (l36 : Nat), ∃ (c36 : Nat), ∃ (w37 : World), Sem.run Try.prog (Builtin.append_ #[22, 22] 22 #[(.slice a27 l27 c27), (.slice (some b34) 1 1)]) w35 = .ok (.slice a36 l36 c36) w37 ∧
                                ((0 ≤ (x31 : Int) ∧ (x31 : Int) < (l5 : Nat)) ∧
                                  AddrK a5 fun b38 =>
                                  ∃ (a39 : Option Addr) (l39 : Nat) (c39 : Nat), w37.cell? (b38.add ((x31 : Int).toNat * 1)) = some (.slice a39 l39 c39) ∧
                                  (Calls Try.prog 39 #[(.slice a39 l39 c39)] w37 fun e42 w41 =>
                                    ∃ (x40 : Int), e42 = .returned (.int .i64 x40) ∧
                                    (BoolK (decide ((IntKind.wrap .i64 (x28 * x40) : Int) > 10000))
                                      (K false 4 w41)
                                      (I24 a36 l36 c36 (IntKind.wrap .i64 (x28 * x40)) (IntKind.wrap .i64 (x29 + 1)) w41 ∧ μ25 a36 l36 c36 (IntKind.wrap .i64 (x28 * x40)) (IntKind.wrap .i64 (x29 + 1)) w41 < μ25 a27 l27 c27 x28 x29 w26)))))
                              (I24 a27 l27 c27 x28 (IntKind.wrap .i64 (x29 + 1)) w26 ∧ μ25 a27 l27 c27 x28 (IntKind.wrap .i64 (x29 + 1)) w26 < μ25 a27 l27 c27 x28 x29 w26))))
                        ((0 ≤ ((l5 : Nat) : Int) ∧ ((l5 : Nat) : Int) ≤ (l5 : Nat) ∧ ((8 : Nat) : Int) * (l5 : Nat) ≤ 281474976710656 ∧ ((l5 : Nat) : Int) ≤ 9223372036854775807) ∧
                          AllocK w26 (madeCells (#[.int .i64 0]) (((l5 : Nat) : Int).toNat * 1)) 3 fun b43 w44 =>
                          ∃ (s45 : ByteArray), w44.cell? (b6.add 0) = some (.string s45) ∧
                          (∃ (a46 : Option Addr) (l46 : Nat) (c46 : Nat), w44.cell? (b6.add 1) = some (.slice a46 l46 c46) ∧
                            (∃ (a47 : Option Addr) (l47 : Nat) (c47 : Nat), w44.cell? (b6.add 2) = some (.slice a47 l47 c47) ∧
                              (∃ (x48 : Int), w44.cell? (b6.add 3) = some (.int .i64 x48) ∧
                                (Calls Try.prog 79 #[(.agg #[(.string s45), (.slice a46 l46 c46), (.slice a47 l47 c47), (.int .i64 x48)]), (.slice a5 l5 c5), (.slice a27 l27 c27), (.slice (some b43) (((l5 : Nat) : Int).toNat) (((l5 : Nat) : Int).toNat))] w44 fun e51 w50 =>
                                  ∃ (p49 : Bool), e51 = .returned (.bool p49) ∧
                                  (K p49 0 w50)))))))))))))))))
def ann48 : Ann := (.two .nil (.two (.two .nil (.two (.two .nil .nil) .nil)) (.two (.two .nil (.two (.two .nil .nil) .nil)) (.two .nil (.two .nil (.two .nil (.two (.two .nil (.one (.loop [(6, (.one .slice)), (8, (.one (.int .i64))), (30, (.one (.int .i64)))] [1, 2, 7, 28, 29] (.two .nil (.two (.two .nil .nil) (.two (.one (.two .nil (.two .nil (.two (.two .nil (.two .nil (.two .nil (.two .nil (.two (.two .nil .nil) .nil))))) .nil)))) .nil)))))) (.two .nil (.two .nil .nil)))))))))
noncomputable def code48 : Code := match Try.f48.body with | some c => c | none => .skip
theorem wp48 (s1 : ByteArray) (a2 : Option Addr) (l2 : Nat) (c2 : Nat) (a3 : Option Addr) (l3 : Nat) (c3 : Nat) (x4 : Int) (a5 : Option Addr) (l5 : Nat) (c5 : Nat) (K : Bool → Int → World → Prop) (w : World) : WP Try.prog tab code48 ann48 (fnQ tab Try.f48.results.toList [(.one .bool), (.one (.int .i64))] K) (argE 0 [(.agg #[(.string s1), (.slice a2 l2 c2), (.slice a3 l3 c3), (.int .i64 x4)]), (.slice a5 l5 c5)]) w = N48 s1 a2 l2 c2 a3 l3 c3 x4 a5 l5 c5 K w := by kernel_rfl
theorem calls48 (s1 : ByteArray) (a2 : Option Addr) (l2 : Nat) (c2 : Nat) (a3 : Option Addr) (l3 : Nat) (c3 : Nat) (x4 : Int) (a5 : Option Addr) (l5 : Nat) (c5 : Nat) (K : Bool → Int → World → Prop) (w : World) (h : N48 s1 a2 l2 c2 a3 l3 c3 x4 a5 l5 c5 K w) : Calls Try.prog 48 #[(.agg #[(.string s1), (.slice a2 l2 c2), (.slice a3 l3 c3), (.int .i64 x4)]), (.slice a5 l5 c5)] w fun en w' => ∃ (p52 : Bool), ∃ (x53 : Int), en = .returned (.tuple #[(.bool p52), (.int .i64 x53)]) ∧ K p52 x53 w' :=
  have e : (fun en w' => ExShs [(.one .bool), (.one (.int .i64))] fun vs => en = .returned (tupled vs) ∧ ap [(.one .bool), (.one (.int .i64))] K vs fun p => p w') = (fun (en : Ending) (w' : World) => ∃ (p52 : Bool), ∃ (x53 : Int), en = .returned (.tuple #[(.bool p52), (.int .i64 x53)]) ∧ K p52 x53 w') := by kernel_rfl
  e ▸ fn_sound tabOk mixed Try.func48 (by kernel_rfl : Try.f48.body = some code48) ann48 [(.agg #[(.string s1), (.slice a2 l2 c2), (.slice a3 l3 c3), (.int .i64 x4)]), (.slice a5 l5 c5)] [(.one .bool), (.one (.int .i64))] K w (by kernel_rfl) ((wp48 s1 a2 l2 c2 a3 l3 c3 x4 a5 l5 c5 K w).symm ▸ h)
end Go.Proofs.Ytggfnakhmjkoeaa

namespace Go.Proofs.Ytggfnakhmjkoeaa
open Go Go.V Go.Proofs
open Go.RowKit (Below)
/-! manystrand/manystrandref06.Entailed -/
def N49 (s1 : ByteArray) (a2 : Option Addr) (l2 : Nat) (c2 : Nat) (a3 : Option Addr) (l3 : Nat) (c3 : Nat) (x4 : Int) (a5 : Option Addr) (l5 : Nat) (c5 : Nat) (K : Bool → Int → World → Prop) (w : World) : Prop :=
  AllocK w (#[(.string s1), (.slice a2 l2 c2), (.slice a3 l3 c3), (.int .i64 x4)]) 24 fun b6 w7 =>
  Calls Try.prog 52 #[(.slice a5 l5 c5)] w7 fun e10 w9 =>
  ∃ (p8 : Bool), e10 = .returned (.bool p8) ∧
  (BoolK (!p8)
    (K false 2 w9)
    (∃ (s11 : ByteArray), w9.cell? (b6.add 0) = some (.string s11) ∧
      (∃ (a12 : Option Addr) (l12 : Nat) (c12 : Nat), w9.cell? (b6.add 1) = some (.slice a12 l12 c12) ∧
        (∃ (a13 : Option Addr) (l13 : Nat) (c13 : Nat), w9.cell? (b6.add 2) = some (.slice a13 l13 c13) ∧
          (∃ (x14 : Int), w9.cell? (b6.add 3) = some (.int .i64 x14) ∧
            (Calls Try.prog 17 #[(.agg #[(.string s11), (.slice a12 l12 c12), (.slice a13 l13 c13), (.int .i64 x14)]), (.int .i64 (l5 : Nat))] w9 fun e17 w16 =>
              ∃ (p15 : Bool), e17 = .returned (.bool p15) ∧
              (BoolK (!p15)
                (K false 2 w16)
                (Calls Try.prog 47 #[(.slice a5 l5 c5)] w16 fun e20 w19 =>
                  ∃ (p18 : Bool), e20 = .returned (.bool p18) ∧
                  (BoolK p18
                    (K true 0 w19)
                    (∃ (I21 : Option Addr → Nat → Nat → Int → World → Prop) (μ22 : Option Addr → Nat → Nat → Int → World → Nat),
                      (I21 none 0 0 0 w19 ∧ True) ∧
                      ∀ (w23 : World) (a24 : Option Addr) (l24 : Nat) (c24 : Nat) (x25 : Int), I21 a24 l24 c24 x25 w23 →
                      BoolK (decide ((x25 : Int) < (l5 : Nat)))
                      (∃ (I26 : Option Addr → Nat → Nat → Int → World → Prop) (μ27 : Option Addr → Nat → Nat → Int → World → Nat),
                        (I26 a24 l24 c24 0 w23 ∧ True) ∧
                        ∀ (w28 : World) (a29 : Option Addr) (l29 : Nat) (c29 : Nat) (x30 : Int), I26 a29 l29 c29 x30 w28 →
                        ∃ (a31 : Option Addr) (l31 : Nat) (c31 : Nat), w28.cell? (b6.add 1) = some (.slice a31 l31 c31) ∧
                        (BoolK (decide ((x30 : Int) < (l31 : Nat)))
                          (∃ (J32 : Bool → World → Prop),
                            (∀ (w33 : World) (p34 : Bool), J32 p34 w33 →
                              BoolK p34
                              (AllocK w33 (#[(.int .i64 x25)]) 3 fun b35 w36 =>
                                ∃ (a37 : Option Addr), ∃ (l37 : Nat), ∃ (c37 : Nat), ∃ (w38 : World), Sem.run Try.prog (Builtin.append_ #[22, 22] 22 #[(.slice a29 l29 c29), (.slice (some b35) 1 1)]) w36 = .ok (.slice a37 l37 c37) w38 ∧
                                (I26 a37 l37 c37 (IntKind.wrap .i64 (x30 + 1)) w38 ∧ μ27 a37 l37 c37 (IntKind.wrap .i64 (x30 + 1)) w38 < μ27 a29 l29 c29 x30 w28))
                              (I26 a29 l29 c29 (IntKind.wrap .i64 (x30 + 1)) w33 ∧ μ27 a29 l29 c29 (IntKind.wrap .i64 (x30 + 1)) w33 < μ27 a29 l29 c29 x30 w28)) ∧
                            (∃ (a39 : Option Addr) (l39 : Nat) (c39 : Nat), w28.cell? (b6.add 1) = some (.slice a39 l39 c39) ∧
                              ((0 ≤ (x30 : Int) ∧ (x30 : Int) < (l39 : Nat)) ∧
                                AddrK a39 fun b40 =>
                                ∃ (x41 : Int), w28.cell? (b40.add ((x30 : Int).toNat * 1)) = some (.int .i64 x41) ∧
                                (BoolK ((x41 : Int) == x25)
                                  (BoolK (((l29 : Nat) : Int) == 0)
                                    (J32 true w28)
                                    ((0 ≤ (IntKind.wrap .i64 ((l29 : Nat) - 1) : Int) ∧ (IntKind.wrap .i64 ((l29 : Nat) - 1) : Int) < (l29 : Nat)) ∧
                                      AddrK a29 fun b42 =>
                                      ∃ (x43 : Int), w28.cell? (b42.add ((IntKind.wrap .i64 ((l29 : Nat) - 1) : Int).toNat * 1)) = some (.int .i64 x43) ∧
                                      (J32 ((x43 : Int) != x25) w28)))
                                  (J32 false w28)))))
                          (I21 a29 l29 c29 (IntKind.wrap .i64 (x25 + 1)) w28 ∧ μ22 a29 l29 c29 (IntKind.wrap .i64 (x25 + 1)) w28 < μ22 a24 l24 c24 x25 w23)))
                      (∃ (I44 : Int → Int → World → Prop) (μ45 : Int → Int → World → Nat),
                        (I44 1 0 w23 ∧ True) ∧
                        ∀ (w46 : World) (x47 : Int) (x48 : Int), I44 x47 x48 w46 →
                        BoolK (decide ((x48 : Int) < (l24 : Nat)))
                        ((0 ≤ (x48 : Int) ∧ (x48 : Int) < (l24 : Nat)) ∧
                          AddrK a24 fun b49 =>
                          ∃ (x50 : Int), w46.cell? (b49.add ((x48 : Int).toNat * 1)) = some (.int .i64 x50) ∧
                          ((0 ≤ (x50 : Int) ∧ (x50 : Int) < (l5 : Nat)) ∧
                            AddrK a5 fun b51 =>
                            ∃ (a52 : Option Addr) (l52 : Nat) (c52 : Nat), w46.cell? (b51.add ((x50 : Int).toNat * 1)) = some (.slice a52 l52 c52) ∧
                            (Calls Try.prog 40 #[(.slice a52 l52 c52)] w46 fun e55 w54 =>
                              ∃ (x53 : Int), e55 = .returned (.int .i64 x53) ∧
                              (BoolK (decide ((IntKind.wrap .i64 (x47 * x53) : Int) > 10000))
                                (K false 4 w54)
                                (I44 (IntKind.wrap .i64 (x47 * x53)) (IntKind.wrap .i64 (x48 + 1)) w54 ∧ μ45 (IntKind.wrap .i64 (x47 * x53)) (IntKind.wrap .i64 (x48 + 1)) w54 < μ45 x47 x48 w46)))))
                        ((0 ≤ ((l5 : Nat) : Int) ∧ ((l5 : Nat) : Int) ≤ (l5 : Nat) ∧ ((8 : Nat) : Int) * (l5 : Nat) ≤ 281474976710656 ∧ ((l5 : Nat) : Int) ≤ 9223372036854775807) ∧
                          AllocK w46 (madeCells (#[.int .i64 0]) (((l5 : Nat) : Int).toNat * 1)) 3 fun b56 w57 =>
                          ∃ (s58 : ByteArray), w57.cell? (b6.add 0) = some (.string s58) ∧
                          (∃ (a59 : Option Addr) (l59 : Nat) (c59 : Nat), w57.cell? (b6.add 1) = some (.slice a59 l59 c59) ∧
                            (∃ (a60 : Option Addr) (l60 : Nat) (c60 : Nat), w57.cell? (b6.add 2) = some (.slice a60 l60 c60) ∧
                              (∃ (x61 : Int), w57.cell? (b6.add 3) = some (.int .i64 x61) ∧
                                (Calls Try.prog 80 #[(.agg #[(.string s58), (.slice a59 l59 c59), (.slice a60 l60 c60), (.int .i64 x61)]), (.slice a5 l5 c5), (.slice a24 l24 c24), (.slice (some b56) (((l5 : Nat) : Int).toNat) (((l5 : Nat) : Int).toNat))] w57 fun e64 w63 =>
                                  ∃ (p62 : Bool), e64 = .returned (.bool p62) ∧
                                  (K p62 0 w63)))))))))))))))))
def ann49 : Ann := (.two .nil (.two (.two .nil (.two (.two .nil .nil) .nil)) (.two (.two .nil (.two (.two .nil .nil) .nil)) (.two .nil (.two (.two .nil (.one (.loop [(6, (.one .slice)), (7, (.one (.int .i64)))] [1, 2] (.two (.two .nil (.two .nil .nil)) (.two (.one (.two .nil (.one (.loop [(6, (.one .slice)), (8, (.one (.int .i64)))] [1, 2, 7] (.two (.two .nil (.two .nil .nil)) (.two (.one (.cut [(58, (.one .bool))] [1, 2, 6, 7, 8] .nil (.two .nil .nil))) .nil)))))) .nil))))) (.two .nil (.two (.two .nil (.one (.loop [(9, (.one (.int .i64))), (10, (.one (.int .i64)))] [1, 2, 6] (.two (.two .nil (.two .nil .nil)) (.two (.one (.two .nil (.two .nil (.two (.two .nil .nil) .nil)))) .nil))))) (.two .nil (.two .nil .nil)))))))))
noncomputable def code49 : Code := match Try.f49.body with | some c => c | none => .skip
theorem wp49 (s1 : ByteArray) (a2 : Option Addr) (l2 : Nat) (c2 : Nat) (a3 : Option Addr) (l3 : Nat) (c3 : Nat) (x4 : Int) (a5 : Option Addr) (l5 : Nat) (c5 : Nat) (K : Bool → Int → World → Prop) (w : World) : WP Try.prog tab code49 ann49 (fnQ tab Try.f49.results.toList [(.one .bool), (.one (.int .i64))] K) (argE 0 [(.agg #[(.string s1), (.slice a2 l2 c2), (.slice a3 l3 c3), (.int .i64 x4)]), (.slice a5 l5 c5)]) w = N49 s1 a2 l2 c2 a3 l3 c3 x4 a5 l5 c5 K w := by kernel_rfl
theorem calls49 (s1 : ByteArray) (a2 : Option Addr) (l2 : Nat) (c2 : Nat) (a3 : Option Addr) (l3 : Nat) (c3 : Nat) (x4 : Int) (a5 : Option Addr) (l5 : Nat) (c5 : Nat) (K : Bool → Int → World → Prop) (w : World) (h : N49 s1 a2 l2 c2 a3 l3 c3 x4 a5 l5 c5 K w) : Calls Try.prog 49 #[(.agg #[(.string s1), (.slice a2 l2 c2), (.slice a3 l3 c3), (.int .i64 x4)]), (.slice a5 l5 c5)] w fun en w' => ∃ (p65 : Bool), ∃ (x66 : Int), en = .returned (.tuple #[(.bool p65), (.int .i64 x66)]) ∧ K p65 x66 w' :=
  have e : (fun en w' => ExShs [(.one .bool), (.one (.int .i64))] fun vs => en = .returned (tupled vs) ∧ ap [(.one .bool), (.one (.int .i64))] K vs fun p => p w') = (fun (en : Ending) (w' : World) => ∃ (p65 : Bool), ∃ (x66 : Int), en = .returned (.tuple #[(.bool p65), (.int .i64 x66)]) ∧ K p65 x66 w') := by kernel_rfl
  e ▸ fn_sound tabOk mixed Try.func49 (by kernel_rfl : Try.f49.body = some code49) ann49 [(.agg #[(.string s1), (.slice a2 l2 c2), (.slice a3 l3 c3), (.int .i64 x4)]), (.slice a5 l5 c5)] [(.one .bool), (.one (.int .i64))] K w (by kernel_rfl) ((wp49 s1 a2 l2 c2 a3 l3 c3 x4 a5 l5 c5 K w).symm ▸ h)
end Go.Proofs.Ytggfnakhmjkoeaa
