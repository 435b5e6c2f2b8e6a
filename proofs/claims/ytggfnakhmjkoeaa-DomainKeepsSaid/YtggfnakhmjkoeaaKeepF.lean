/- A part of the proof: plain forms of functions and laws about them. -/
import Derived.Test.YtggfnakhmjkoeaaKeepE
namespace Go.Proofs.Ytggfnakhmjkoeaa
open Go Go.V Go.Proofs
open Go.RowKit (Below)
/-! manystrand/manystrandlaw06.DomainKeeps -/
def N9 (a1 : Option Addr) (l1 : Nat) (c1 : Nat) (a2 : Option Addr) (l2 : Nat) (c2 : Nat) (a3 : Option Addr) (l3 : Nat) (c3 : Nat) (K : Bool → World → Prop) (w : World) : Prop :=
  ∃ (J4 : Bool → World → Prop),
  (∀ (w5 : World) (p6 : Bool), J4 p6 w5 →
    BoolK p6
    (Calls Try.prog 12 #[] w5 fun e9 w8 =>
      ∃ (p7 : Bool), e9 = .returned (.bool p7) ∧
      (K p7 w8))
    (Calls Try.prog 19 #[(.slice a1 l1 c1), (.slice a2 l2 c2)] w5 fun e13 w12 =>
      ∃ (a10 : Option Addr), ∃ (l10 : Nat), ∃ (c10 : Nat), ∃ (x11 : Int), e13 = .returned (.tuple #[(.slice a10 l10 c10), (.int .i64 x11)]) ∧
      (BoolK ((x11 : Int) == 2)
        (Calls Try.prog 12 #[] w12 fun e16 w15 =>
          ∃ (p14 : Bool), e16 = .returned (.bool p14) ∧
          (K p14 w15))
        (∃ (J17 : World → Prop),
          (∀ (w18 : World), J17 w18 →
            ∃ (I19 : Bool → Option Addr → Nat → Nat → Int → World → Prop) (μ20 : Bool → Option Addr → Nat → Nat → Int → World → Nat),
            (I19 true none 0 0 0 w18 ∧ True) ∧
            ∀ (w21 : World) (p22 : Bool) (a23 : Option Addr) (l23 : Nat) (c23 : Nat) (x24 : Int), I19 p22 a23 l23 c23 x24 w21 →
            BoolK (decide ((x24 : Int) < (l3 : Nat)))
            ((0 ≤ (x24 : Int) ∧ (x24 : Int) < (l3 : Nat)) ∧
              AddrK a3 fun b25 =>
              ∃ (x26 : Int), w21.cell? (b25.add ((x24 : Int).toNat * 1)) = some (.int .i64 x26) ∧
              (∃ (J27 : Bool → World → Prop),
                (∀ (w28 : World) (p29 : Bool), J27 p29 w28 →
                  AllocK w28 (#[(.int .i64 x26), (.int .i64 x26)]) 55 fun b30 w31 =>
                  AllocK w31 (#[(.slice (some b30) 1 1)]) 38 fun b32 w33 =>
                  ∃ (a34 : Option Addr), ∃ (l34 : Nat), ∃ (c34 : Nat), ∃ (w35 : World), Sem.run Try.prog (Builtin.append_ #[25, 25] 25 #[(.slice a23 l23 c23), (.slice (some b32) 1 1)]) w33 = .ok (.slice a34 l34 c34) w35 ∧
                  (I19 p29 a34 l34 c34 (IntKind.wrap .i64 (x24 + 1)) w35 ∧ μ20 p29 a34 l34 c34 (IntKind.wrap .i64 (x24 + 1)) w35 < μ20 p22 a23 l23 c23 x24 w21)) ∧
                (BoolK p22
                  ((0 ≤ (x24 : Int) ∧ (x24 : Int) < (l2 : Nat)) ∧
                    AddrK a2 fun b36 =>
                    ∃ (a37 : Option Addr) (l37 : Nat) (c37 : Nat), w21.cell? (b36.add ((x24 : Int).toNat * 1)) = some (.slice a37 l37 c37) ∧
                    (Calls Try.prog 37 #[(.slice a37 l37 c37), (.int .i64 x26)] w21 fun e40 w39 =>
                      ∃ (p38 : Bool), e40 = .returned (.bool p38) ∧
                      (J27 p38 w39)))
                  (J27 false w21))))
            (∃ (I41 : Bool → Int → World → Prop) (μ42 : Bool → Int → World → Nat),
              (I41 p22 0 w21 ∧ True) ∧
              ∀ (w43 : World) (p44 : Bool) (x45 : Int), I41 p44 x45 w43 →
              BoolK (decide ((x45 : Int) < (l1 : Nat)))
              ((0 ≤ (x45 : Int) ∧ (x45 : Int) < (l1 : Nat)) ∧
                AddrK a1 fun b46 =>
                ∃ (s47 : ByteArray), w43.cell? ((b46.add ((x45 : Int).toNat * 4)).add 0) = some (.string s47) ∧
                (∃ (a48 : Option Addr) (l48 : Nat) (c48 : Nat), w43.cell? ((b46.add ((x45 : Int).toNat * 4)).add 1) = some (.slice a48 l48 c48) ∧
                  (∃ (a49 : Option Addr) (l49 : Nat) (c49 : Nat), w43.cell? ((b46.add ((x45 : Int).toNat * 4)).add 2) = some (.slice a49 l49 c49) ∧
                    (∃ (x50 : Int), w43.cell? ((b46.add ((x45 : Int).toNat * 4)).add 3) = some (.int .i64 x50) ∧
                      (AllocK w43 (#[.string ⟨#[]⟩, .slice none 0 0, .slice none 0 0, .int .i64 0]) 24 fun b51 w52 =>
                        SetK w52 (b51.add 0) (.string s47) fun w53 =>
                        SetK w53 (b51.add 1) (.slice a48 l48 c48) fun w54 =>
                        SetK w54 (b51.add 2) (.slice a49 l49 c49) fun w55 =>
                        SetK w55 (b51.add 3) (.int .i64 x50) fun w56 =>
                        ∃ (s57 : ByteArray), w56.cell? (b51.add 0) = some (.string s57) ∧
                        (∃ (a58 : Option Addr) (l58 : Nat) (c58 : Nat), w56.cell? (b51.add 1) = some (.slice a58 l58 c58) ∧
                          (∃ (a59 : Option Addr) (l59 : Nat) (c59 : Nat), w56.cell? (b51.add 2) = some (.slice a59 l59 c59) ∧
                            (∃ (x60 : Int), w56.cell? (b51.add 3) = some (.int .i64 x60) ∧
                              (Calls Try.prog 45 #[(.agg #[(.string s57), (.slice a58 l58 c58), (.slice a59 l59 c59), (.int .i64 x60)]), (.slice a3 l3 c3)] w56 fun e63 w62 =>
                                ∃ (p61 : Bool), e63 = .returned (.bool p61) ∧
                                (∃ (J64 : Bool → World → Prop),
                                  (∀ (w65 : World) (p66 : Bool), J64 p66 w65 →
                                    ∃ (s67 : ByteArray), w65.cell? (b51.add 0) = some (.string s67) ∧
                                    (∃ (a68 : Option Addr) (l68 : Nat) (c68 : Nat), w65.cell? (b51.add 1) = some (.slice a68 l68 c68) ∧
                                      (∃ (a69 : Option Addr) (l69 : Nat) (c69 : Nat), w65.cell? (b51.add 2) = some (.slice a69 l69 c69) ∧
                                        (∃ (x70 : Int), w65.cell? (b51.add 3) = some (.int .i64 x70) ∧
                                          (Calls Try.prog 13 #[(.agg #[(.string s67), (.slice a68 l68 c68), (.slice a69 l69 c69), (.int .i64 x70)]), (.slice a23 l23 c23)] w65 fun e74 w73 =>
                                            ∃ (a71 : Option Addr), ∃ (l71 : Nat), ∃ (c71 : Nat), ∃ (x72 : Int), e74 = .returned (.tuple #[(.slice a71 l71 c71), (.int .i64 x72)]) ∧
                                            (BoolK ((x72 : Int) != 0)
                                              (I41 p66 (IntKind.wrap .i64 (x45 + 1)) w73 ∧ μ42 p66 (IntKind.wrap .i64 (x45 + 1)) w73 < μ42 p44 x45 w43)
                                              (∃ (I75 : Bool → Int → World → Prop) (μ76 : Bool → Int → World → Nat),
                                                (I75 false 0 w73 ∧ True) ∧
                                                ∀ (w77 : World) (p78 : Bool) (x79 : Int), I75 p78 x79 w77 →
                                                BoolK (decide ((x79 : Int) < (l71 : Nat)))
                                                (BoolK p78
                                                  (I75 true (IntKind.wrap .i64 (x79 + 1)) w77 ∧ μ76 true (IntKind.wrap .i64 (x79 + 1)) w77 < μ76 p78 x79 w77)
                                                  ((0 ≤ (x79 : Int) ∧ (x79 : Int) < (l71 : Nat)) ∧
                                                    AddrK a71 fun b80 =>
                                                    ∃ (a81 : Option Addr) (l81 : Nat) (c81 : Nat), w77.cell? (b80.add ((x79 : Int).toNat * 1)) = some (.slice a81 l81 c81) ∧
                                                    (I75 (((l81 : Nat) : Int) == 0) (IntKind.wrap .i64 (x79 + 1)) w77 ∧ μ76 (((l81 : Nat) : Int) == 0) (IntKind.wrap .i64 (x79 + 1)) w77 < μ76 p78 x79 w77)))
                                                (BoolK (p78 == p61)
                                                  (K false w77)
                                                  (I41 p66 (IntKind.wrap .i64 (x45 + 1)) w77 ∧ μ42 p66 (IntKind.wrap .i64 (x45 + 1)) w77 < μ42 p44 x45 w43))))))))) ∧
                                  (BoolK p44
                                    (J64 p61 w62)
                                    (J64 false w62))))))))))))
              (∃ (I82 : Int → World → Prop) (μ83 : Int → World → Nat),
                (I82 0 w43 ∧ True) ∧
                ∀ (w84 : World) (x85 : Int), I82 x85 w84 →
                BoolK (decide ((x85 : Int) < (l3 : Nat)))
                ((0 ≤ (x85 : Int) ∧ (x85 : Int) < (l3 : Nat)) ∧
                  AddrK a3 fun b86 =>
                  ∃ (x87 : Int), w84.cell? (b86.add ((x85 : Int).toNat * 1)) = some (.int .i64 x87) ∧
                  (BoolK p44
                    (BoolK ((x11 : Int) != 0)
                      (K false w84)
                      ((0 ≤ (x85 : Int) ∧ (x85 : Int) < (l10 : Nat)) ∧
                        AddrK a10 fun b88 =>
                        ∃ (a89 : Option Addr) (l89 : Nat) (c89 : Nat), w84.cell? (b88.add ((x85 : Int).toNat * 1)) = some (.slice a89 l89 c89) ∧
                        (Calls Try.prog 37 #[(.slice a89 l89 c89), (.int .i64 x87)] w84 fun e92 w91 =>
                          ∃ (p90 : Bool), e92 = .returned (.bool p90) ∧
                          (BoolK (!p90)
                            (K false w91)
                            (I82 (IntKind.wrap .i64 (x85 + 1)) w91 ∧ μ83 (IntKind.wrap .i64 (x85 + 1)) w91 < μ83 x85 w84)))))
                    (I82 (IntKind.wrap .i64 (x85 + 1)) w84 ∧ μ83 (IntKind.wrap .i64 (x85 + 1)) w84 < μ83 x85 w84)))
                (BoolK (!p44)
                  (Calls Try.prog 12 #[] w84 fun e95 w94 =>
                    ∃ (p93 : Bool), e95 = .returned (.bool p93) ∧
                    (K p93 w94))
                  (BoolK ((x11 : Int) == 0)
                    (Calls Try.prog 12 #[] w84 fun e98 w97 =>
                      ∃ (p96 : Bool), e98 = .returned (.bool p96) ∧
                      (K p96 w97))
                    (Calls Try.prog 47 #[(.slice a2 l2 c2)] w84 fun e101 w100 =>
                      ∃ (p99 : Bool), e101 = .returned (.bool p99) ∧
                      (BoolK p99
                        (Calls Try.prog 12 #[] w100 fun e104 w103 =>
                          ∃ (p102 : Bool), e104 = .returned (.bool p102) ∧
                          (K p102 w103))
                        (K false w100)))))))) ∧
          (BoolK ((x11 : Int) == 0)
            (BoolK (((l10 : Nat) : Int) != (l2 : Nat))
              (K false w12)
              (J17 w12))
            (J17 w12)))))) ∧
  (Calls Try.prog 18 #[(.slice a2 l2 c2), (.slice a1 l1 c1)] w fun e107 w106 =>
    ∃ (p105 : Bool), e107 = .returned (.bool p105) ∧
    (BoolK (!p105)
      (J4 true w106)
      (J4 (((l3 : Nat) : Int) != (l2 : Nat)) w106)))
def ann9 : Ann := (.two .nil (.two (.cut [(32, (.one .bool))] [0, 1, 2] .nil (.two (.two .nil .nil) .nil)) (.two .nil (.two (.two .nil (.two (.two .nil .nil) .nil)) (.cut [] [0, 1, 2, 7, 8] (.two .nil (.two (.two .nil .nil) .nil)) (.two .nil (.two .nil (.two (.two .nil (.one (.loop [(9, (.one .bool)), (10, (.one .slice)), (54, (.one (.int .i64)))] [0, 1, 2, 7, 8, 52, 53] (.two .nil (.two (.two .nil .nil) (.two (.one (.two .nil (.cut [(9, (.one .bool))] [0, 1, 2, 7, 8, 10, 12, 52, 53, 54] .nil .nil))) .nil)))))) (.two (.two .nil (.one (.loop [(9, (.one .bool)), (78, (.one (.int .i64)))] [1, 2, 7, 8, 10, 76, 77] (.two .nil (.two (.two .nil .nil) (.two (.one (.two .nil (.two .nil (.cut [(9, (.one .bool))] [1, 2, 7, 8, 10, 14, 15, 76, 77, 78] .nil (.two .nil (.two (.two .nil (.two .nil .nil)) (.two .nil (.two (.two .nil (.one (.loop [(18, (.one .bool)), (99, (.one (.int .i64)))] [1, 2, 7, 8, 9, 10, 15, 16, 76, 77, 78, 98] (.two .nil (.two (.two .nil .nil) (.two (.one (.two .nil .nil)) .nil)))))) (.two .nil (.two (.two .nil .nil) .nil)))))))))) .nil)))))) (.two (.two .nil (.one (.loop [(118, (.one (.int .i64)))] [1, 7, 8, 9, 116, 117] (.two .nil (.two (.two .nil .nil) (.two (.one (.two .nil (.two .nil (.two (.two .nil .nil) .nil)))) .nil)))))) (.two .nil .nil)))))))))))
noncomputable def code9 : Code := match Try.f9.body with | some c => c | none => .skip
theorem wp9 (a1 : Option Addr) (l1 : Nat) (c1 : Nat) (a2 : Option Addr) (l2 : Nat) (c2 : Nat) (a3 : Option Addr) (l3 : Nat) (c3 : Nat) (K : Bool → World → Prop) (w : World) : WP Try.prog tab code9 ann9 (fnQ tab Try.f9.results.toList [(.one .bool)] K) (argE 0 [(.slice a1 l1 c1), (.slice a2 l2 c2), (.slice a3 l3 c3)]) w = N9 a1 l1 c1 a2 l2 c2 a3 l3 c3 K w := by kernel_rfl
theorem calls9 (a1 : Option Addr) (l1 : Nat) (c1 : Nat) (a2 : Option Addr) (l2 : Nat) (c2 : Nat) (a3 : Option Addr) (l3 : Nat) (c3 : Nat) (K : Bool → World → Prop) (w : World) (h : N9 a1 l1 c1 a2 l2 c2 a3 l3 c3 K w) : Calls Try.prog 9 #[(.slice a1 l1 c1), (.slice a2 l2 c2), (.slice a3 l3 c3)] w fun en w' => ∃ (p108 : Bool), en = .returned (.bool p108) ∧ K p108 w' :=
  have e : (fun en w' => ExShs [(.one .bool)] fun vs => en = .returned (tupled vs) ∧ ap [(.one .bool)] K vs fun p => p w') = (fun (en : Ending) (w' : World) => ∃ (p108 : Bool), en = .returned (.bool p108) ∧ K p108 w') := by kernel_rfl
  e ▸ fn_sound tabOk mixed Try.func9 (by kernel_rfl : Try.f9.body = some code9) ann9 [(.slice a1 l1 c1), (.slice a2 l2 c2), (.slice a3 l3 c3)] [(.one .bool)] K w (by kernel_rfl) ((wp9 a1 l1 c1 a2 l2 c2 a3 l3 c3 K w).symm ▸ h)
end Go.Proofs.Ytggfnakhmjkoeaa

namespace Go.Proofs.Ytggfnakhmjkoeaa
open Go Go.V Go.Proofs
open Go.RowKit (Below)

theorem VD.of_in {d : Dm} {v : Int} (h : VD d) (hv : inD d v = true) : 0 ≤ v ∧ v ≤ 1000 := h.bound hv
/-- all values are in their domains -/
def allHas (ls : List Dm) (vs : List Int) (k : Nat) : Bool := (List.range k).all fun i => hasS (at' ls i) (vs.getD i 0)
/-- all propagators hold -/
def allHold (ps : List PropS) (vs : List Int) : Bool := ps.all fun p => holdsS p vs

theorem keeps_fix {ps : List PropS} {ls : List Dm} {vs : List Int} (h1 : allHas ls vs vs.length = true) (h2 : allHold ps vs = true) : (∀ v ∈ vs, 0 ≤ v ∧ v ≤ 1000) ∧ FixP ps (singles vs) ∧ Sub (singles vs) ls := by
  have hh : ∀ i, i < vs.length → VD (at' ls i) ∧ inD (at' ls i) (vs.getD i 0) = true := fun i hi => by
    rw [allHas, List.all_eq_true] at h1
    have := h1 i (List.mem_range.2 hi)
    rw [hasS, Bool.and_eq_true, validB_iff] at this; exact this
  have hb : ∀ v ∈ vs, 0 ≤ v ∧ v ≤ 1000 := fun v hv => by
    obtain ⟨i, hi, rfl⟩ := List.mem_iff_getElem.1 hv
    have ⟨a, b⟩ := hh i hi
    rw [getD_get hi] at b; exact a.bound b
  refine ⟨hb, ⟨vds_singles hb, fun p hp => ?_, ?_⟩, fun x v hx => ?_⟩
  · rw [allHold, List.all_eq_true] at h2
    have := h2 p hp
    rw [holdsS, Bool.and_eq_true] at this
    exact keep_single_eq this.1 hb this.2
  · rw [Bool.eq_false_iff]; intro h
    simp only [failedB, List.any_eq_true, decide_eq_true_eq] at h
    obtain ⟨d, hd, rfl⟩ := h
    obtain ⟨v, _, hv⟩ := List.mem_map.1 hd
    simp [sing] at hv
  · obtain ⟨hlt, rfl⟩ := (ins_singles vs x v).1 hx
    exact (hh x hlt).2

theorem c9 (w : World) (a1 : Option Addr) (l1 c1 : Nat) (a2 : Option Addr) (l2 c2 : Nat) (a3 : Option Addr) (l3 c3 : Nat) (ps : List PropS) (ls : List Dm) (vs : List Int)
    (hp : Props w a1 l1 ps) (hpl : l1 ≤ maxLen) (hd : Doms w a2 l2 ls) (hdl : l2 ≤ maxLen) (hds : ∀ d ∈ ls, Sm d) (hvs : Ints w a3 l3 vs) (hvb : ∀ x ∈ vs, -9223372036854775808 ≤ x ∧ x ≤ 9223372036854775807) :
    Calls Try.prog 9 #[.slice a1 l1 c1, .slice a2 l2 c2, .slice a3 l3 c3] w fun en w' => en = .returned (.bool true) ∧ Ext w w' := by
  have el := hd.1
  have ep := hp.1
  have ev := hvs.1
  have key : ∀ (K : Bool → World → Prop), (∀ w', Ext w w' → K true w') → N9 a1 l1 c1 a2 l2 c2 a3 l3 c3 K w := fun K hK => by
    have awake : ∀ w0, Ext w w0 → Calls Try.prog 12 #[] w0 fun e w' => ∃ p, e = .returned (.bool p) ∧ K p w' := fun w0 h0 => by
      refine (c12 w0).mono ?_
      rintro en w9 ⟨p, rfl, rfl, hx⟩
      exact ⟨_, rfl, hK _ (h0.trans hx)⟩
    refine ⟨fun q w5 => Ext w w5 ∧ (q = false → Light ls ps ∧ vs.length = ls.length), ?_, ?_⟩
    · rintro w5 q ⟨hB, hq⟩
      refine BoolK.mk (fun _ => awake w5 hB) (fun t => ?_)
      obtain ⟨hL, hlen⟩ := hq t
      have hl50 := hL.1
      have hp110 := hL.2.1
      have hlL : ls.length ≤ 9223372036854775807 := by omega
      refine (c19 w5 a1 l1 c1 ps (hp.ext RProp.mono hB) a2 l2 c2 ls (hd.ext (RSl.mono RPair.mono) hB) hlL hds).mono ?_
      rintro en w12 ⟨a10, l10, c10, x11, rfl, r1, hx12⟩
      have hB12 := hB.trans hx12
      refine ⟨_, _, _, _, rfl, BoolK.mk (fun _ => awake w12 hB12) (fun t2 => ?_)⟩
      have t2 : x11 ≠ 2 := by simpa using t2
      obtain ⟨hu, hres⟩ : usableB ps ls = true ∧ ∃ r, Gr ps ls r ∧ ((r = none ∧ x11 = 60) ∨ ∃ m, r = some m ∧ VDs m ∧ m.length = ls.length ∧ x11 = 0 ∧ Doms w12 a10 l10 m) := by
        rcases r1.gr with ⟨_, _, _, e⟩ | ⟨u, r, hr, h⟩
        · exact absurd e t2
        · refine ⟨u, r, hr, ?_⟩
          rcases h with ⟨h1, _, _, h2⟩ | h
          · exact .inl ⟨h1, h2⟩
          · exact .inr h
      obtain ⟨hVD, hpr⟩ := usable_props hu
      have good : allHas ls vs vs.length = true → allHold ps vs = true → x11 = 0 ∧ ∃ m, VDs m ∧ m.length = ls.length ∧ Doms w12 a10 l10 m ∧ Sub (singles vs) m := fun h1 h2 => by
        obtain ⟨_, hF, hS⟩ := keeps_fix h1 h2
        obtain ⟨r, hr, hh⟩ := hres
        obtain ⟨m, e, hs⟩ := hr.top _ hF (by rw [singles_len]; exact hlen) hS
        rcases hh with ⟨e2, _⟩ | ⟨m', e2, v, l, x, d⟩
        · rw [e] at e2; cases e2
        · rw [e] at e2; cases e2
          exact ⟨x, m, v, l, d, hs⟩
      have hl10 : x11 = 0 → l10 = l2 := fun h0 => by
        obtain ⟨r, hr, hh⟩ := hres
        rcases hh with ⟨_, e2⟩ | ⟨m', _, _, l, _, d⟩
        · omega
        · rw [d.1, l]; exact el.symm
      refine ⟨fun w' => w' = w12, ?_, ?_⟩
      · rintro w18 rfl
        refine ⟨fun p a l c i w' => ∃ k : Nat, i = k ∧ k ≤ vs.length ∧ p = allHas ls vs k ∧ DomsO w18.heap.size w' a l c (singles (vs.take k)) ∧ Ext w18 w', fun _ _ _ _ i _ => vs.length - i.toNat,
          ⟨⟨0, rfl, by omega, rfl, RowsO.nil _ _ _ _ _, Ext.refl _⟩, trivial⟩, ?_⟩
        rintro w21 p22 a23 l23 c23 _ ⟨k, rfl, hk, rfl, ho, hx21⟩
        have hB21 := hB12.trans hx21
        refine BoolK.mk (fun hlt => ?_) (fun hge => ?_)
        · have hlt : k < vs.length := by simp at hlt; omega
          obtain ⟨b3, o3, rfl, g3⟩ := intAt hvs w21 hB21 hlt
          refine ⟨by omega, ?_⟩
          simp only [AddrK, Int.toNat_natCast, add_mk, Nat.mul_one]
          refine ⟨_, g3, ?_⟩
          have hnext : allHas ls vs (k + 1) = (allHas ls vs k && hasS (at' ls k) vs[k]) := by rw [allHas, range_all_succ, getD_get hlt]; rfl
          refine ⟨fun q w28 => q = allHas ls vs (k + 1) ∧ Ext w21 w28, ?_, ?_⟩
          · rintro w28 q ⟨rfl, hx28⟩
            refine AllocK.mk fun b30 w31 hb30 hk30 hx31 => ?_
            have hx31' := hx28.trans hx31
            have hlen2 : (singles (vs.take k)).length = k := by rw [singles_len, List.length_take]; omega
            refine RowsO.push RPair.mono RPair.leaf RPair.some0 slt25 (ho.ext RPair.mono hx31') (hx21.trans hx31').size (by rw [hlen2]; omega) (dom_lit hk30) ?_ fun a4 c4 w' ho' hb' => ?_
            · obtain ⟨S, _, hS, _⟩ := ho
              exact .inr fun p hp e => by
                have := (hS.lt _ e.symm).2
                cases hp
                have := hx28.size
                simp only at *; omega
            · rw [wrap_succ (by omega)]
              refine ⟨⟨k + 1, rfl, by omega, rfl, ?_, Below.trans (hx21.trans hx31') hb'⟩, by simp; omega⟩
              have e1 : singles (vs.take (k + 1)) = singles (vs.take k) ++ [[(vs[k], vs[k])]] := by
                rw [show vs.take (k + 1) = vs.take k ++ [vs[k]] from by rw [List.take_add_one, List.getElem?_eq_getElem hlt]; rfl, singles, List.map_append]; rfl
              rw [e1]
              exact ho'
          · refine BoolK.mk (fun tp => ?_) (fun tp => ?_)
            · obtain ⟨b1, o1, a37, l37, c37', rfl, h0, h1⟩ := domsAt hd w21 hB21 (i := k) (by omega)
              refine ⟨by omega, ?_⟩
              simp only [add_mk]
              refine ⟨_, _, _, h0, (c37 w21 a37 l37 c37' _ _ h1 (hds _ (List.getElem_mem _)).1).mono ?_⟩
              rintro en w39 ⟨q, rfl, rfl, hx39⟩
              exact ⟨_, rfl, by rw [hnext, tp, at_get (by omega), Bool.true_and], hx39⟩
            · exact ⟨by rw [hnext, tp, Bool.false_and], Ext.refl _⟩
        · have : k = vs.length := by simp at hge; omega
          subst this
          rw [List.take_length] at ho
          have hD := ho.doms
          refine ⟨fun p i w' => ∃ k : Nat, i = k ∧ k ≤ ps.length ∧ p = (allHas ls vs vs.length && allHold (ps.take k) vs) ∧ Ext w21 w', fun _ i _ => ps.length - i.toNat,
            ⟨⟨0, rfl, by omega, by simp [allHold], Ext.refl _⟩, trivial⟩, ?_⟩
          rintro w43 p44 _ ⟨k, rfl, hk, rfl, hx43⟩
          have hB43 := hB21.trans hx43
          refine BoolK.mk (fun hlt => ?_) (fun hge => ?_)
          · have hlt : k < ps.length := by simp at hlt; omega
            obtain ⟨b1, o1, s, a2', l2', c2', a3', l3', c3', x4, rfl, h0, h1, h2, h3, hP⟩ := propAt hp w43 hB43 hlt
            refine ⟨by omega, ?_⟩
            simp only [AddrK, Int.toNat_natCast, add_mk, Nat.add_zero]
            refine ⟨_, h0, _, _, _, h1, _, _, _, h2, _, h3, ?_⟩
            refine local4 (fun b w56 hb hblk hx => ?_)
            have hcell := fun (w' : World) (k : Ext w56 w') => cell4 (hblk.ext k)
            obtain ⟨g0, g1, g2, g3⟩ := hcell w56 (Ext.refl _)
            simp only [add_mk, Nat.zero_add]
            refine ⟨_, g0, _, _, _, g1, _, _, _, g2, _, g3, ?_⟩
            have hx56 := hx43.trans hx
            refine (c45 w56 _ _ _ _ _ _ _ _ _ (hP.ext hx) a3 l3 c3 vs (hvs.ext RInt.mono (hB21.trans hx56)) hvb).mono ?_
            rintro en w62 ⟨p61, rfl, rfl, hx62⟩
            have hnext : allHold (ps.take (k + 1)) vs = (allHold (ps.take k) vs && holdsS ps[k] vs) := by
              rw [allHold, List.take_add_one, List.getElem?_eq_getElem hlt, List.all_append]; simp [allHold]
            refine ⟨_, rfl, fun q w' => q = (allHas ls vs vs.length && allHold (ps.take (k + 1)) vs) ∧ Ext w62 w', ?_, ?_⟩
            · rintro w65 q ⟨rfl, hx65⟩
              have hx65' := hx62.trans hx65
              obtain ⟨g0, g1, g2, g3⟩ := hcell w65 hx65'
              refine ⟨_, g0, _, _, _, g1, _, _, _, g2, _, g3, ?_⟩
              have h65 := hx56.trans hx65'
              have hsl := singles_len vs
              refine (c13 w65 _ _ _ _ _ _ _ _ _ (hP.ext (hx.trans hx65')) a23 l23 c23 (singles vs) (hD.ext (RSl.mono RPair.mono) h65) (by rw [hsl]; omega) (fun d hdm => by
                obtain ⟨v, hv, rfl⟩ := List.mem_map.1 hdm
                have := hvb v hv
                exact ⟨by simp [sing], fun p hp => by simp [sing] at hp; subst hp; simp; omega⟩)).mono ?_
              rintro en w73 ⟨a71, l71, c71, x72, rfl, hN, hx73⟩
              have h73 := h65.trans hx73
              obtain ⟨e72, d71⟩ := hN.doms
              refine ⟨_, _, _, _, rfl, BoolK.mk (fun _ => ?_) (fun t3 => ?_)⟩
              · rw [wrap_succ (by omega)]
                exact ⟨⟨k + 1, rfl, by omega, rfl, h73⟩, by simp; omega⟩
              have hok : (allVB (singles vs) && propB ps[k] (singles vs).length) = true := by
                cases hh : (allVB (singles vs) && propB ps[k] (singles vs).length) with
                | true => rfl
                | false => rw [hh] at e72; rw [e72] at t3; simp at t3
              rw [if_pos hok] at d71
              simp only [Bool.and_eq_true] at hok
              rw [hsl] at hok
              have hb : ∀ v ∈ vs, 0 ≤ v ∧ v ≤ 1000 := fun v hv => by
                have := (allVB_of hok.1).1 (sing v) (List.mem_map.2 ⟨v, hv, rfl⟩)
                have := this.all (v, v) (by simp [sing]); simp at this; omega
              have hfail := keep_single_failed hok.2 hb
              have hhold : holdsS ps[k] vs = holdsK (kdOf ps[k].kind) ps[k].coefs ps[k].n (xsOf ps[k] vs) := by rw [holdsS, hok.2, Bool.true_and]
              rw [← hhold] at hfail
              have e71 := d71.1
              have hkl : (keepS ps[k] (singles vs)).length = vs.length := by rw [keepS_len, hsl]
              refine ⟨fun q i w' => ∃ j : Nat, i = j ∧ j ≤ l71 ∧ q = ((keepS ps[k] (singles vs)).take j).any (fun d => decide (d = [])) ∧ w' = w73, fun _ i _ => l71 - i.toNat, ⟨⟨0, rfl, by omega, rfl, rfl⟩, trivial⟩, ?_⟩
              rintro w77 p78 _ ⟨j, rfl, hj, rfl, rfl⟩
              refine BoolK.mk (fun hlt2 => ?_) (fun hge2 => ?_)
              · have hlt2 : j < l71 := by simp at hlt2; omega
                have hjl : j < (keepS ps[k] (singles vs)).length := by omega
                refine BoolK.mk (fun t4 => ?_) (fun t4 => ?_)
                · rw [wrap_succ (by omega)]
                  exact ⟨⟨j + 1, rfl, by omega, by rw [any_take hjl, t4]; rfl, rfl⟩, by simp; omega⟩
                · obtain ⟨b8, o8, a81, l81, c81, rfl, q0, q1⟩ := domsAt d71 w77 (Ext.refl _) hjl
                  refine ⟨by omega, ?_⟩
                  simp only [add_mk, Nat.mul_one]
                  refine ⟨_, _, _, q0, ?_⟩
                  rw [wrap_succ (by omega)]
                  have e81 := q1.1
                  refine ⟨⟨j + 1, rfl, by omega, ?_, trivial⟩, by simp; omega⟩
                  rw [any_take hjl, t4, Bool.false_or, Bool.eq_iff_iff, beq_iff_eq, decide_eq_true_eq]
                  constructor
                  · intro h; apply List.length_eq_zero_iff.1; omega
                  · intro h; rw [h] at e81; simp at e81; omega
              · have hj' : j = (keepS ps[k] (singles vs)).length := by simp at hge2; omega
                have hany : ((keepS ps[k] (singles vs)).take j).any (fun d => decide (d = [])) = !holdsS ps[k] vs := by rw [hj', List.take_length]; exact hfail
                rw [hany]
                refine BoolK.mk (fun t5 => ?_) (fun t5 => ?_)
                · exfalso; cases hh : holdsS ps[k] vs <;> rw [hh] at t5 <;> simp at t5
                · rw [wrap_succ (by omega)]
                  exact ⟨⟨k + 1, rfl, by omega, rfl, h73⟩, by simp; omega⟩
            · refine BoolK.mk (fun tp => ?_) (fun tp => ?_)
              · refine ⟨?_, Ext.refl _⟩
                rw [hnext, ← Bool.and_assoc, tp, Bool.true_and]
              · refine ⟨?_, Ext.refl _⟩
                rw [hnext, ← Bool.and_assoc, tp, Bool.false_and]
          · have : k = ps.length := by simp at hge; omega
            subst this
            rw [List.take_length]
            refine ⟨fun i w' => ∃ k : Nat, i = k ∧ k ≤ vs.length ∧ Ext w43 w', fun i _ => vs.length - i.toNat, ⟨⟨0, rfl, by omega, Ext.refl _⟩, trivial⟩, ?_⟩
            rintro w84 _ ⟨k, rfl, hk, hx84⟩
            have hB84 := hB43.trans hx84
            refine BoolK.mk (fun hlt => ?_) (fun hge => ?_)
            · have hlt : k < vs.length := by simp at hlt; omega
              obtain ⟨b3, o3, rfl, g3⟩ := intAt hvs w84 hB84 hlt
              refine ⟨by omega, ?_⟩
              simp only [AddrK, Int.toNat_natCast, add_mk, Nat.mul_one]
              refine ⟨_, g3, BoolK.mk (fun tall => ?_) (fun _ => ?_)⟩
              · simp only [Bool.and_eq_true] at tall
                obtain ⟨rfl, m, vm, lm, dm, hs⟩ := good tall.1 tall.2
                refine BoolK.mk (fun t => by simp at t) (fun _ => ?_)
                have lm10 := dm.1
                obtain ⟨b8, o8, a89, l89, c89, rfl, q0, q1⟩ := domsAt dm w84 ((hx21.trans hx43).trans hx84) (i := k) (by omega)
                refine ⟨by omega, ?_⟩
                simp only [add_mk]
                have vmk := vm _ (List.getElem_mem (show k < m.length by omega))
                refine ⟨_, _, _, q0, (c37 w84 a89 l89 c89 _ _ q1 (by have := vmk.len; omega)).mono ?_⟩
                rintro en w91 ⟨q, rfl, hq, hx91⟩
                have hin : hasS m[k] vs[k] = true := by
                  have := hs k vs[k] ((ins_singles vs k _).2 ⟨hlt, (getD_get hlt 0).symm⟩)
                  unfold InS at this; rw [at_get (by omega)] at this
                  rw [hasS, (validB_iff _).2 vmk, this]; rfl
                rw [hin] at hq
                subst hq
                refine ⟨_, rfl, BoolK.mk (fun t => by cases t) (fun _ => ?_)⟩
                rw [wrap_succ (by omega)]
                exact ⟨⟨k + 1, rfl, by omega, hx84.trans hx91⟩, by simp; omega⟩
              · rw [wrap_succ (by omega)]
                exact ⟨⟨k + 1, rfl, by omega, hx84⟩, by simp; omega⟩
            · refine BoolK.mk (fun _ => awake w84 hB84) (fun t => BoolK.mk (fun _ => awake w84 hB84) (fun t3 => ?_))
              simp only [Bool.not_eq_false', Bool.and_eq_true] at t
              obtain ⟨h0, _⟩ := good t.1 t.2
              rw [h0] at t3; simp at t3
      · refine BoolK.mk (fun t => BoolK.mk (fun t3 => ?_) (fun _ => rfl)) (fun _ => rfl)
        have := hl10 (by simpa using t)
        rw [this] at t3; simp at t3
    · refine (c18 w a2 l2 c2 a1 l1 c1 ls ps hd hds hdl hp hpl).mono ?_
      rintro en w65 ⟨q, rfl, hq, hx⟩
      refine ⟨_, rfl, BoolK.mk (fun _ => ⟨hx, fun h => by cases h⟩) (fun t => ⟨hx, fun h => ⟨hq (by simpa using t), ?_⟩⟩)⟩
      simp at h; omega
  refine (calls9 _ _ _ _ _ _ _ _ _ (fun p w' => p = true ∧ Ext w w') w (key _ fun w' hx => ⟨rfl, hx⟩)).mono ?_
  rintro en w' ⟨p, rfl, rfl, hx⟩
  exact ⟨rfl, hx⟩
end Go.Proofs.Ytggfnakhmjkoeaa
