/- A part of the proof: plain forms of functions and laws about them. -/
import Derived.Test.YtggfnakhmjkoeaaFixeD
namespace Go.Proofs.Ytggfnakhmjkoeaa
open Go Go.V Go.Proofs
open Go.RowKit (Below)
/-! manystrand/manystrandlaw06.DomainFixes -/
def N4 (a1 : Option Addr) (l1 : Nat) (c1 : Nat) (a2 : Option Addr) (l2 : Nat) (c2 : Nat) (x3 : Int) (K : Bool → World → Prop) (w : World) : Prop :=
  Calls Try.prog 18 #[(.slice a2 l2 c2), (.slice a1 l1 c1)] w fun e6 w5 =>
  ∃ (p4 : Bool), e6 = .returned (.bool p4) ∧
  (BoolK (!p4)
    (Calls Try.prog 12 #[] w5 fun e9 w8 =>
      ∃ (p7 : Bool), e9 = .returned (.bool p7) ∧
      (K p7 w8))
    (Calls Try.prog 19 #[(.slice a1 l1 c1), (.slice a2 l2 c2)] w5 fun e13 w12 =>
      ∃ (a10 : Option Addr), ∃ (l10 : Nat), ∃ (c10 : Nat), ∃ (x11 : Int), e13 = .returned (.tuple #[(.slice a10 l10 c10), (.int .i64 x11)]) ∧
      (Calls Try.prog 20 #[(.slice a1 l1 c1), (.slice a2 l2 c2)] w12 fun e17 w16 =>
        ∃ (a14 : Option Addr), ∃ (l14 : Nat), ∃ (c14 : Nat), ∃ (x15 : Int), e17 = .returned (.tuple #[(.slice a14 l14 c14), (.int .i64 x15)]) ∧
        (BoolK ((x11 : Int) != x15)
          (K false w16)
          (Calls Try.prog 15 #[(.slice a10 l10 c10), (.slice a14 l14 c14)] w16 fun e20 w19 =>
            ∃ (p18 : Bool), e20 = .returned (.bool p18) ∧
            (BoolK (!p18)
              (K false w19)
              (Calls Try.prog 21 #[(.slice a1 l1 c1), (.slice a2 l2 c2)] w19 fun e23 w22 =>
                ∃ (p21 : Bool), e23 = .returned (.bool p21) ∧
                (Calls Try.prog 22 #[(.slice a1 l1 c1), (.slice a2 l2 c2)] w22 fun e26 w25 =>
                  ∃ (p24 : Bool), e26 = .returned (.bool p24) ∧
                  (BoolK (!(p21 == p24))
                    (K false w25)
                    (∃ (I27 : Option Addr → Nat → Nat → Int → World → Prop) (μ28 : Option Addr → Nat → Nat → Int → World → Nat),
                      (I27 none 0 0 0 w25 ∧ True) ∧
                      ∀ (w29 : World) (a30 : Option Addr) (l30 : Nat) (c30 : Nat) (x31 : Int), I27 a30 l30 c30 x31 w29 →
                      BoolK (decide ((x31 : Int) < (l1 : Nat)))
                      (((l1 : Nat) : Int) ≠ 0 ∧
                        ((0 ≤ ((IntKind.wrap .i64 ((IntKind.wrap .i64 ((IntKind.wrap .i64 ((l1 : Nat) - 1)) - x31)) + (IntKind.wrap .i64 x3)) : Int).tmod (l1 : Nat) : Int) ∧ ((IntKind.wrap .i64 ((IntKind.wrap .i64 ((IntKind.wrap .i64 ((l1 : Nat) - 1)) - x31)) + (IntKind.wrap .i64 x3)) : Int).tmod (l1 : Nat) : Int) < (l1 : Nat)) ∧
                          AddrK a1 fun b32 =>
                          ∃ (s33 : ByteArray), w29.cell? ((b32.add (((IntKind.wrap .i64 ((IntKind.wrap .i64 ((IntKind.wrap .i64 ((l1 : Nat) - 1)) - x31)) + (IntKind.wrap .i64 x3)) : Int).tmod (l1 : Nat) : Int).toNat * 4)).add 0) = some (.string s33) ∧
                          (∃ (a34 : Option Addr) (l34 : Nat) (c34 : Nat), w29.cell? ((b32.add (((IntKind.wrap .i64 ((IntKind.wrap .i64 ((IntKind.wrap .i64 ((l1 : Nat) - 1)) - x31)) + (IntKind.wrap .i64 x3)) : Int).tmod (l1 : Nat) : Int).toNat * 4)).add 1) = some (.slice a34 l34 c34) ∧
                            (∃ (a35 : Option Addr) (l35 : Nat) (c35 : Nat), w29.cell? ((b32.add (((IntKind.wrap .i64 ((IntKind.wrap .i64 ((IntKind.wrap .i64 ((l1 : Nat) - 1)) - x31)) + (IntKind.wrap .i64 x3)) : Int).tmod (l1 : Nat) : Int).toNat * 4)).add 2) = some (.slice a35 l35 c35) ∧
                              (∃ (x36 : Int), w29.cell? ((b32.add (((IntKind.wrap .i64 ((IntKind.wrap .i64 ((IntKind.wrap .i64 ((l1 : Nat) - 1)) - x31)) + (IntKind.wrap .i64 x3)) : Int).tmod (l1 : Nat) : Int).toNat * 4)).add 3) = some (.int .i64 x36) ∧
                                (AllocK w29 (#[(.string s33), (.slice a34 l34 c34), (.slice a35 l35 c35), (.int .i64 x36)]) 24 fun b37 w38 =>
                                  ∃ (a39 : Option Addr), ∃ (l39 : Nat), ∃ (c39 : Nat), ∃ (w40 : World), Sem.run Try.prog (Builtin.append_ #[27, 27] 27 #[(.slice a30 l30 c30), (.slice (some b37) 1 1)]) w38 = .ok (.slice a39 l39 c39) w40 ∧
                                  (I27 a39 l39 c39 (IntKind.wrap .i64 (x31 + 1)) w40 ∧ μ28 a39 l39 c39 (IntKind.wrap .i64 (x31 + 1)) w40 < μ28 a30 l30 c30 x31 w29)))))))
                      (Calls Try.prog 19 #[(.slice a30 l30 c30), (.slice a2 l2 c2)] w29 fun e44 w43 =>
                        ∃ (a41 : Option Addr), ∃ (l41 : Nat), ∃ (c41 : Nat), ∃ (x42 : Int), e44 = .returned (.tuple #[(.slice a41 l41 c41), (.int .i64 x42)]) ∧
                        (BoolK ((x42 : Int) != x11)
                          (K false w43)
                          (Calls Try.prog 15 #[(.slice a10 l10 c10), (.slice a41 l41 c41)] w43 fun e47 w46 =>
                            ∃ (p45 : Bool), e47 = .returned (.bool p45) ∧
                            (BoolK (!p45)
                              (K false w46)
                              (BoolK ((x11 : Int) != 0)
                                (Calls Try.prog 12 #[] w46 fun e50 w49 =>
                                  ∃ (p48 : Bool), e50 = .returned (.bool p48) ∧
                                  (K p48 w49))
                                (Calls Try.prog 19 #[(.slice a30 l30 c30), (.slice a10 l10 c10)] w46 fun e54 w53 =>
                                  ∃ (a51 : Option Addr), ∃ (l51 : Nat), ∃ (c51 : Nat), ∃ (x52 : Int), e54 = .returned (.tuple #[(.slice a51 l51 c51), (.int .i64 x52)]) ∧
                                  (BoolK ((x52 : Int) == 0)
                                    (Calls Try.prog 15 #[(.slice a10 l10 c10), (.slice a51 l51 c51)] w53 fun e57 w56 =>
                                      ∃ (p55 : Bool), e57 = .returned (.bool p55) ∧
                                      (BoolK p55
                                        (Calls Try.prog 21 #[(.slice a1 l1 c1), (.slice a10 l10 c10)] w56 fun e60 w59 =>
                                          ∃ (p58 : Bool), e60 = .returned (.bool p58) ∧
                                          (BoolK p58
                                            (Calls Try.prog 12 #[] w59 fun e63 w62 =>
                                              ∃ (p61 : Bool), e63 = .returned (.bool p61) ∧
                                              (K p61 w62))
                                            (K false w59)))
                                        (K false w56)))
                                    (K false w53))))))))))))))))))
def ann4 : Ann := (.two .nil (.two (.two .nil (.two (.two .nil .nil) .nil)) (.two .nil (.two .nil (.two (.two .nil (.two (.two .nil .nil) .nil)) (.two .nil (.two (.two .nil (.one (.loop [(11, (.one .slice)), (54, (.one (.int .i64)))] [0, 1, 2, 7, 8, 53] (.two .nil (.two (.two .nil .nil) (.two (.one (.two .nil .nil)) .nil)))))) (.two .nil (.two (.two .nil (.two (.two .nil .nil) .nil)) (.two (.two .nil (.two (.two .nil .nil) .nil)) (.two .nil (.two .nil .nil))))))))))))
noncomputable def code4 : Code := match Try.f4.body with | some c => c | none => .skip
theorem wp4 (a1 : Option Addr) (l1 : Nat) (c1 : Nat) (a2 : Option Addr) (l2 : Nat) (c2 : Nat) (x3 : Int) (K : Bool → World → Prop) (w : World) : WP Try.prog tab code4 ann4 (fnQ tab Try.f4.results.toList [(.one .bool)] K) (argE 0 [(.slice a1 l1 c1), (.slice a2 l2 c2), (.int .u8 x3)]) w = N4 a1 l1 c1 a2 l2 c2 x3 K w := by kernel_rfl
theorem calls4 (a1 : Option Addr) (l1 : Nat) (c1 : Nat) (a2 : Option Addr) (l2 : Nat) (c2 : Nat) (x3 : Int) (K : Bool → World → Prop) (w : World) (h : N4 a1 l1 c1 a2 l2 c2 x3 K w) : Calls Try.prog 4 #[(.slice a1 l1 c1), (.slice a2 l2 c2), (.int .u8 x3)] w fun en w' => ∃ (p64 : Bool), en = .returned (.bool p64) ∧ K p64 w' :=
  have e : (fun en w' => ExShs [(.one .bool)] fun vs => en = .returned (tupled vs) ∧ ap [(.one .bool)] K vs fun p => p w') = (fun (en : Ending) (w' : World) => ∃ (p64 : Bool), en = .returned (.bool p64) ∧ K p64 w') := by kernel_rfl
  e ▸ fn_sound tabOk mixed Try.func4 (by kernel_rfl : Try.f4.body = some code4) ann4 [(.slice a1 l1 c1), (.slice a2 l2 c2), (.int .u8 x3)] [(.one .bool)] K w (by kernel_rfl) ((wp4 a1 l1 c1 a2 l2 c2 x3 K w).symm ▸ h)
end Go.Proofs.Ytggfnakhmjkoeaa

namespace Go.Proofs.Ytggfnakhmjkoeaa
open Go Go.V Go.Proofs
open Go.RowKit (Below)

theorem u8_of {n : Int} (h : (Lit.int .u8 n).wf = true) : 0 ≤ n ∧ n ≤ 255 := by
  simp [Lit.wf, IntKind.min, IntKind.max, IntKind.signed, IntKind.bits] at h
  omega
/-- a propagator's own words -/
structure RawP where
  s : ByteArray
  v : Option Addr × Nat × Nat
  c : Option Addr × Nat × Nat
  n : Int
def eR (x : RawP) : List Value := [.string x.s, .slice x.v.1 x.v.2.1 x.v.2.2, .slice x.c.1 x.c.2.1 x.c.2.2, .int .i64 x.n]
theorem eR_len (x : RawP) : (eR x).length = 4 := rfl
theorem eR_one (x : RawP) (u : Value) (h : u ∈ eR x) : u.oneCell' = true := by
  simp [eR] at h; rcases h with rfl | rfl | rfl | rfl <;> rfl
theorem slt27 : SlT Try.prog 27 24 4 72 := slOk.ok (by kernel_rfl : slOk Try.prog 27 24 4 72 = true)
/-- the list qs, its own row of raw propagators -/
def PropsO (base : Nat) (w0 w : World) (a : Option Addr) (l c : Nat) (qs : List PropS) : Prop :=
  ∃ S : List RawP, S.length = qs.length ∧ OwnR base 24 4 eR w a l c S ∧ ∀ (i : Nat) (s : RawP) (q : PropS), S[i]? = some s → qs[i]? = some q → PropAt w0 s.s s.v.1 s.v.2.1 s.c.1 s.c.2.1 s.n q
theorem PropsO.props {base : Nat} {w0 w : World} {a : Option Addr} {l c : Nat} {qs : List PropS} (h : PropsO base w0 w a l c qs) (k : Ext w0 w) : Props w a l qs := by
  obtain ⟨S, h1, h2, h3⟩ := h
  refine h2.rows eR_len RProp h1.symm fun f i x y hx hy hf => ⟨x.s, x.v.1, x.v.2.1, x.v.2.2, x.c.1, x.c.2.1, x.c.2.2, x.n, ?_, ?_, ?_, ?_, (h3 i x y hx hy).ext k⟩
  · rw [hf 0 (by omega)]; rfl
  · rw [hf 1 (by omega)]; rfl
  · rw [hf 2 (by omega)]; rfl
  · rw [hf 3 (by omega)]; rfl

/-- the list turned round -/
def turned (ps : List PropS) (t : Nat) : List PropS := (List.range ps.length).map fun i => ps.getD ((ps.length - 1 - i + t) % ps.length) ⟨⟨#[]⟩, [], [], 0⟩
theorem turned_len (ps : List PropS) (t : Nat) : (turned ps t).length = ps.length := by simp [turned]
theorem turned_mem (ps : List PropS) (t : Nat) (p : PropS) : p ∈ turned ps t ↔ p ∈ ps := by
  rw [turned, List.mem_map]
  constructor
  · rintro ⟨i, hi, rfl⟩
    rw [List.mem_range] at hi
    have hm : (ps.length - 1 - i + t) % ps.length < ps.length := Nat.mod_lt _ (by omega)
    rw [getD_get hm]; exact List.getElem_mem hm
  · intro hp
    obtain ⟨j, hj, rfl⟩ := List.mem_iff_getElem.1 hp
    have hd := Nat.div_add_mod (ps.length - 1 + t - j) ps.length
    have hm : (ps.length - 1 + t - j) % ps.length < ps.length := Nat.mod_lt _ (by omega)
    refine ⟨(ps.length - 1 + t - j) % ps.length, List.mem_range.2 hm, ?_⟩
    rcases Nat.lt_or_ge t 0 with h | _
    · omega
    have e : (ps.length - 1 - (ps.length - 1 + t - j) % ps.length + t) = j + ps.length * ((ps.length - 1 + t - j) / ps.length) := by omega
    rw [e, Nat.add_mul_mod_self_left, Nat.mod_eq_of_lt hj, getD_get hj]
theorem usable_perm {ps qs : List PropS} {ls : List Dm} (hl : qs.length = ps.length) (hs : ∀ p, p ∈ qs ↔ p ∈ ps) : usableB qs ls = usableB ps ls := by
  rw [usableB, usableB, hl]
  congr 2
  rw [Bool.eq_iff_iff, List.all_eq_true, List.all_eq_true]
  exact ⟨fun h p hp => h p ((hs p).2 hp), fun h p hp => h p ((hs p).1 hp)⟩

theorem GrRes.eq {ps : List PropS} {ls : List Dm} {w1 w2 : World} {a1 a2 : Option Addr} {l1 l2 : Nat} {e1 e2 : Int} (h : GrRes ps ls w1 a1 l1 e1) (k : GrRes ps ls w2 a2 l2 e2) :
    e1 = e2 ∧ ∃ m, Doms w1 a1 l1 m ∧ Doms w2 a2 l2 m ∧ VDs m ∧ (e1 = 0 → usableB ps ls = true ∧ Gr ps ls (some m)) ∧ m.length ≤ ls.length := by
  rcases h with ⟨u, rfl, rfl, rfl⟩ | ⟨u, r, hr, h⟩
  · rcases k with ⟨_, rfl, rfl, rfl⟩ | ⟨u2, _⟩
    · exact ⟨rfl, [], Go.V.Rows.nil _ _ _ _, Go.V.Rows.nil _ _ _ _, by simp [VDs], by omega, by simp⟩
    · rw [u] at u2; cases u2
  · rcases k with ⟨u2, _⟩ | ⟨_, s, hs, k⟩
    · rw [u] at u2; cases u2
    have := hr.uniq hs
    subst this
    rcases h with ⟨rfl, rfl, rfl, rfl⟩ | ⟨m, rfl, hv, hl, rfl, hd⟩
    · rcases k with ⟨_, rfl, rfl, rfl⟩ | ⟨m, e, _⟩
      · exact ⟨rfl, [], Go.V.Rows.nil _ _ _ _, Go.V.Rows.nil _ _ _ _, by simp [VDs], by omega, by simp⟩
      · cases e
    · rcases k with ⟨e, _⟩ | ⟨m', e, hv', hl', rfl, hd'⟩
      · cases e
      · cases e
        exact ⟨rfl, m, hd, hd', hv, fun _ => ⟨u, hr⟩, by omega⟩
theorem Gr.self {ps : List PropS} {m : List Dm} (h : FixP ps m) : Gr ps m (some m) := ⟨fun m' hm => by cases hm; exact ⟨h, rfl, Sub.refl _⟩, fun z _ _ hs => ⟨m, rfl, hs⟩⟩

set_option maxRecDepth 100000 in
theorem c4 (w : World) (a1 : Option Addr) (l1 c1 : Nat) (a2 : Option Addr) (l2 c2 : Nat) (x3 : Int) (ps : List PropS) (ls : List Dm)
    (hp : Props w a1 l1 ps) (hpl : l1 ≤ maxLen) (hd : Doms w a2 l2 ls) (hdl : l2 ≤ maxLen) (hds : ∀ d ∈ ls, Sm d) (hx3 : 0 ≤ x3 ∧ x3 ≤ 255) :
    Calls Try.prog 4 #[.slice a1 l1 c1, .slice a2 l2 c2, .int .u8 x3] w fun en w' => en = .returned (.bool true) ∧ Ext w w' := by
  have el := hd.1
  have ep := hp.1
  have key : ∀ (K : Bool → World → Prop), (∀ w', Ext w w' → K true w') → N4 a1 l1 c1 a2 l2 c2 x3 K w := fun K hK => by
    have awake : ∀ w0, Ext w w0 → Calls Try.prog 12 #[] w0 fun e w' => ∃ p, e = .returned (.bool p) ∧ K p w' := fun w0 h0 => by
      refine (c12 w0).mono ?_
      rintro en w9 ⟨p, rfl, rfl, hx⟩
      exact ⟨_, rfl, hK _ (h0.trans hx)⟩
    refine (c18 w a2 l2 c2 a1 l1 c1 ls ps hd hds hdl hp hpl).mono ?_
    rintro en w5 ⟨q, rfl, hq, hx5⟩
    refine ⟨_, rfl, BoolK.mk (fun _ => awake w5 hx5) (fun t => ?_)⟩
    have hL : Light ls ps := hq (by simpa using t)
    have hl50 := hL.1
    have hp110 := hL.2.1
    have hlL : ls.length ≤ 9223372036854775807 := by omega
    refine (c19 w5 a1 l1 c1 ps (hp.ext RProp.mono hx5) a2 l2 c2 ls (hd.ext (RSl.mono RPair.mono) hx5) hlL hds).mono ?_
    rintro en w12 ⟨a10, l10, c10, x11, rfl, r1, hx12⟩
    have hB12 := hx5.trans hx12
    refine ⟨_, _, _, _, rfl, ?_⟩
    refine (c20 w12 a1 l1 c1 ps (hp.ext RProp.mono hB12) a2 l2 c2 ls (hd.ext (RSl.mono RPair.mono) hB12) hlL hds (by omega)).mono ?_
    rintro en w16 ⟨a14, l14, c14, x15, rfl, r2, hx16⟩
    have hB16 := hB12.trans hx16
    obtain ⟨rfl, m, dm1, dm2, vm, hm0, hml⟩ := r1.gr.eq r2
    refine ⟨_, _, _, _, rfl, BoolK.mk (fun t => by simp at t) (fun _ => ?_)⟩
    have dm16 := dm1.ext (RSl.mono RPair.mono) hx16
    have hmd : ∀ d ∈ m, d.length ≤ 9223372036854775807 := fun d hd => by have := (vm d hd).len; omega
    refine (c15 w16 _ _ _ _ _ _ _ _ dm16 dm2 (by omega) hmd).mono ?_
    rintro en w19 ⟨q, rfl, rfl, hx19⟩
    have hB19 := hB16.trans hx19
    refine ⟨_, rfl, BoolK.mk (fun t => by simp at t) (fun _ => ?_)⟩
    refine (c21 w19 a1 l1 c1 ps (hp.ext RProp.mono hB19) a2 l2 c2 ls (hd.ext (RSl.mono RPair.mono) hB19) hlL hds).mono ?_
    rintro en w22 ⟨q, rfl, rfl, hx22⟩
    have hB22 := hB19.trans hx22
    refine ⟨_, rfl, ?_⟩
    refine (c22 w22 a1 l1 c1 ps (hp.ext RProp.mono hB22) a2 l2 c2 ls (hd.ext (RSl.mono RPair.mono) hB22) hlL hds (by omega)).mono ?_
    rintro en w25 ⟨q, rfl, rfl, hx25⟩
    have hB25 := hB22.trans hx25
    have dm25 := dm16.ext (RSl.mono RPair.mono) ((hx19.trans hx22).trans hx25)
    refine ⟨_, rfl, BoolK.mk (fun t => by simp at t) (fun _ => ?_)⟩
    refine ⟨fun a l c i w' => ∃ k : Nat, i = k ∧ k ≤ ps.length ∧ PropsO w25.heap.size w25 w' a l c ((turned ps x3.toNat).take k) ∧ Ext w25 w', fun _ _ _ i _ => ps.length - i.toNat,
      ⟨⟨0, rfl, by omega, ⟨[], rfl, OwnR.nil _ _ _ _ _, by simp⟩, Ext.refl _⟩, trivial⟩, ?_⟩
    rintro w29 a30 l30 c30 _ ⟨k, rfl, hk, hO, hx29⟩
    have hB29 := hB25.trans hx29
    refine BoolK.mk (fun hlt => ?_) (fun hge => ?_)
    · have hlt : k < ps.length := by simp at hlt; omega
      have hmod : (ps.length - 1 - k + x3.toNat) % ps.length < ps.length := Nat.mod_lt _ (by omega)
      have w1 : IntKind.wrap .i64 ((l1 : Int) - 1) = ((ps.length - 1 : Nat) : Int) := by rw [wrap_id] <;> omega
      have w2 : IntKind.wrap .i64 (((ps.length - 1 : Nat) : Int) - (k : Int)) = ((ps.length - 1 - k : Nat) : Int) := by rw [wrap_id] <;> omega
      have w3 : IntKind.wrap .i64 x3 = (x3.toNat : Int) := by rw [wrap_id] <;> omega
      have w4 : IntKind.wrap .i64 (((ps.length - 1 - k : Nat) : Int) + (x3.toNat : Int)) = ((ps.length - 1 - k + x3.toNat : Nat) : Int) := by rw [wrap_id] <;> omega
      have w5 : (((ps.length - 1 - k + x3.toNat : Nat) : Int)).tmod (l1 : Int) = (((ps.length - 1 - k + x3.toNat) % ps.length : Nat) : Int) := by rw [ep]; rfl
      simp only [w1, w2, w3, w4, w5]
      generalize hi : (ps.length - 1 - k + x3.toNat) % ps.length = i at hmod
      obtain ⟨b1, o1, s, a2', l2', c2', a3, l3, c3, x4, rfl, h0, h1, h2, h3, hP⟩ := propAt hp w25 hB25 hmod
      refine ⟨by omega, by omega, ?_⟩
      simp only [AddrK, Int.toNat_natCast, add_mk, Nat.add_zero]
      refine ⟨_, hx29.cell h0, _, _, _, hx29.cell h1, _, _, _, hx29.cell h2, _, hx29.cell h3, ?_⟩
      obtain ⟨S, hS1, hS2, hS3⟩ := hO
      have hlen : ((turned ps x3.toNat).take k).length = k := by rw [List.length_take, turned_len]; omega
      refine OwnR.push ⟨s, (a2', l2', c2'), (a3, l3, c3), x4⟩ slt27 hS2 hx29.size eR_len eR_one (by rw [hS1, hlen]; omega) rfl fun a' c' w' ho hg _ => ?_
      have hx' := hS2.below hx29.size hg
      rw [wrap_succ (by omega)]
      have htk : (turned ps x3.toNat).take (k + 1) = (turned ps x3.toNat).take k ++ [ps[i]] := by
        rw [List.take_add_one]
        have : (turned ps x3.toNat)[k]? = some ps[i] := by
          rw [turned, List.getElem?_map, List.getElem?_range hlt, Option.map_some, hi, getD_get hmod]
        rw [this]; rfl
      refine ⟨⟨k + 1, rfl, by omega, ⟨S ++ [⟨s, (a2', l2', c2'), (a3, l3, c3), x4⟩], ?_, ho, fun j sj q hs hq => ?_⟩, Below.trans hx29 hx'⟩, by simp; omega⟩
      · rw [htk, List.length_append, List.length_append, hS1]; rfl
      · rw [htk] at hq
        rcases Nat.lt_or_ge j S.length with hj | hj
        · rw [List.getElem?_append_left hj] at hs
          rw [List.getElem?_append_left (by omega)] at hq
          exact hS3 j sj q hs hq
        · have hj' : j = S.length := by have := (List.getElem?_eq_some_iff.1 hs).1; simp at this; omega
          subst hj'
          rw [List.getElem?_append_right (Nat.le_refl _), Nat.sub_self] at hs
          rw [hS1, List.getElem?_append_right (Nat.le_refl _), Nat.sub_self] at hq
          simp at hs hq; subst hs; subst hq; exact hP
    · have : k = ps.length := by simp at hge; omega
      subst this
      have htk : (turned ps x3.toNat).take ps.length = turned ps x3.toNat := List.take_of_length_le (by rw [turned_len]; omega)
      rw [htk] at hO
      have hQ := hO.props hx29
      have hmem := turned_mem ps x3.toNat
      have hql := turned_len ps x3.toNat
      have huq := fun z => usable_perm (ls := z) hql hmem
      generalize turned ps x3.toNat = qs at hQ hmem hql huq
      have e30 := hQ.1
      refine (c19 w29 a30 l30 c30 qs hQ a2 l2 c2 ls (hd.ext (RSl.mono RPair.mono) hB29) hlL hds).mono ?_
      rintro en w43 ⟨a41, l41, c41, x42, rfl, r3, hx43⟩
      have hB43 := hB29.trans hx43
      have r3' : GrRes ps ls w43 a41 l41 x42 := by
        rcases r3.gr with ⟨u, h⟩ | ⟨u, r, hr, h⟩
        · exact .inl ⟨by rw [← huq]; exact u, h⟩
        · exact .inr ⟨by rw [← huq]; exact u, r, hr.perm fun p => (hmem p).symm, h⟩
      obtain ⟨rfl, m', dm3, dm4, vm', hm0', hml'⟩ := r1.gr.eq r3'
      have hmm : m = m' := Doms.uniq dm1 dm3
      subst hmm
      refine ⟨_, _, _, _, rfl, BoolK.mk (fun t => by simp at t) (fun _ => ?_)⟩
      have dm43 := dm25.ext (RSl.mono RPair.mono) (hx29.trans hx43)
      refine (c15 w43 _ _ _ _ _ _ _ _ dm43 dm4 (by omega) hmd).mono ?_
      rintro en w46 ⟨q, rfl, rfl, hx46⟩
      have hB46 := hB43.trans hx46
      refine ⟨_, rfl, BoolK.mk (fun t => by simp at t) (fun _ => BoolK.mk (fun _ => awake w46 hB46) (fun t => ?_))⟩
      have hx0 : x11 = 0 := by simpa using t
      obtain ⟨hu, hGr⟩ := hm0 hx0
      have hF := (hGr.fix m rfl).1
      have hml2 := (hGr.fix m rfl).2.1
      have hum : usableB ps m = true := by rw [← usable_eq (usable_props hu).1 vm hml2.symm]; exact hu
      have dm46 := dm43.ext (RSl.mono RPair.mono) hx46
      refine (c19 w46 a30 l30 c30 qs (hQ.ext RProp.mono (hx43.trans hx46)) a10 l10 c10 m dm46 (by omega) (fun d hd => (vm d hd).sm)).mono ?_
      rintro en w53 ⟨a51, l51, c51, x52, rfl, r4, hx53⟩
      have hB53 := hB46.trans hx53
      have r4' : ∃ a l, x52 = 0 ∧ a51 = a ∧ l51 = l ∧ Doms w53 a l m := by
        rcases r4.gr with ⟨u, _⟩ | ⟨u, r, hr, h⟩
        · rw [huq, hum] at u; cases u
        · have := hr.uniq (Gr.self (hF.perm fun p hp => (hmem p).1 hp))
          subst this
          rcases h with ⟨e, _⟩ | ⟨m2, e, _, _, rfl, hd2⟩
          · cases e
          · cases e; exact ⟨_, _, rfl, rfl, rfl, hd2⟩
      obtain ⟨_, _, rfl, rfl, rfl, dm5⟩ := r4'
      refine ⟨_, _, _, _, rfl, BoolK.mk (fun _ => ?_) (fun t => by simp at t)⟩
      have dm53 := dm46.ext (RSl.mono RPair.mono) hx53
      refine (c15 w53 _ _ _ _ _ _ _ _ dm53 dm5 (by omega) hmd).mono ?_
      rintro en w56 ⟨q, rfl, rfl, hx56⟩
      have hB56 := hB53.trans hx56
      refine ⟨_, rfl, BoolK.mk (fun _ => ?_) (fun t => by simp at t)⟩
      refine (c21 w56 a1 l1 c1 ps (hp.ext RProp.mono hB56) a10 l10 c10 m (dm53.ext (RSl.mono RPair.mono) hx56) (by omega) (fun d hd => (vm d hd).sm)).mono ?_
      rintro en w59 ⟨q, rfl, hq, hx59⟩
      have hst : stableB ps m = true := by
        rw [stableB, hum, hF.ok, Bool.true_and, Bool.not_false, Bool.true_and, List.all_eq_true]
        exact fun p hp => decide_eq_true (hF.keep p hp)
      rw [hst] at hq
      subst hq
      exact ⟨_, rfl, BoolK.mk (fun _ => awake w59 (hB56.trans hx59)) (fun t => by cases t)⟩
  refine (calls4 _ _ _ _ _ _ _ (fun q w' => q = true ∧ Ext w w') w (key _ fun w' hx => ⟨rfl, hx⟩)).mono ?_
  rintro en w' ⟨q, rfl, rfl, hx⟩
  exact ⟨rfl, hx⟩
end Go.Proofs.Ytggfnakhmjkoeaa
