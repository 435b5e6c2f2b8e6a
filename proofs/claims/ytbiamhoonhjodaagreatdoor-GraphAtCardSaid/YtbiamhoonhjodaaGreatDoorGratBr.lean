/- A part of the proof: plain forms of functions and laws about them. -/
import Derived.Test.YtbiamhoonhjodaaGreatDoorGratBq
import Derived.Test.YtbiamhoonhjodaaGreatDoorProg
import Derived.Shelf.Strings.Count
import Derived.KernelRfl
import Derived.Recover
import Derived.WalkKit
import Derived.Deep.Slices
import Derived.OpenShut
import Derived.Lib.SmallJoins
import Derived.SizedLaws
namespace Go.Proofs.YtbiamhoonhjodaaGreatDoor
open Go Go.Proofs
def countLay_ren : Go.Shelf.Ren := ⟨fun | 138 => 65 | 195 => 106 | 218 => 107 | 143 => 67 | 219 => 110 | 217 => 131 | 225 => 132 | 224 => 133 | 267 => 134 | 266 => 162 | 314 => 163 | n => n, fun | 9 => 9 | 3 => 3 | 4 => 4 | 5 => 5 | 0 => 0 | 46 => 151 | 146 => 182 | 51 => 181 | n => n, fun | 1 => 0 | n => n⟩
theorem countLay : Lays.n138 Tryz.prog countLay_ren where
  mixed := by kernel_rfl
  f138 := Tryz.func65.trans (congrArg some (by kernel_rfl))
  f143 := Tryz.func67.trans (congrArg some (by kernel_rfl))
  f195 := Tryz.func106.trans (congrArg some (by kernel_rfl))
  f217 := Tryz.func131.trans (congrArg some (by kernel_rfl))
  f218 := Tryz.func107.trans (congrArg some (by kernel_rfl))
  f219 := Tryz.func110.trans (congrArg some (by kernel_rfl))
  f224 := Tryz.func133.trans (congrArg some (by kernel_rfl))
  f225 := Tryz.func132.trans (congrArg some (by kernel_rfl))
  f266 := Tryz.func162.trans (congrArg some (by kernel_rfl))
  f267 := Tryz.func134.trans (congrArg some (by kernel_rfl))
  f314 := Tryz.func163.trans (congrArg some (by kernel_rfl))
  t0 := Tryz.underlying0
  a0 := Tryz.isAgg0
  z0 := Tryz.sizeOf0
  v0 := Tryz.zeroValue0
  t3 := Tryz.underlying3
  a3 := Tryz.isAgg3
  z3 := Tryz.sizeOf3
  v3 := Tryz.zeroValue3
  t4 := Tryz.underlying4
  a4 := Tryz.isAgg4
  z4 := Tryz.sizeOf4
  v4 := Tryz.zeroValue4
  t5 := Tryz.underlying5
  a5 := Tryz.isAgg5
  z5 := Tryz.sizeOf5
  v5 := Tryz.zeroValue5
  t9 := Tryz.underlying9
  a9 := Tryz.isAgg9
  z9 := Tryz.sizeOf9
  v9 := Tryz.zeroValue9
  t46 := Tryz.underlying151
  a46 := Tryz.isAgg151
  z46 := Tryz.sizeOf151
  v46 := Tryz.zeroValue151
  t51 := Tryz.underlying181
  a51 := Tryz.isAgg181
  z51 := Tryz.sizeOf181
  v51 := Tryz.zeroValue181
  t146 := Tryz.underlying182
  a146 := Tryz.isAgg182
  z146 := Tryz.sizeOf182
  v146 := Tryz.zeroValue182
  g1 := by kernel_rfl
end Go.Proofs.YtbiamhoonhjodaaGreatDoor

namespace Go.Proofs.YtbiamhoonhjodaaGreatDoor
open Go Go.V Go.Proofs
open Go.RowKit (Below)
theorem idle_one (P : Program) (id : Nat) (ops : Array Oper) {Q : Exit → Act → List Frame → World → Prop} {a a' : Act} {c₀ : Frame} {cs : List Frame} {w : World} (h : ∀ Q : Exit → Act → List Frame → World → Prop, Q .normal a' (c₀ :: cs) w → wpOpsS P ops Q (List.range ops.size) a (c₀ :: cs) w) {y : Code}
    (k : y.wpS P Q a' (c₀ :: cs) w) : (Code.seq (.region id ops false) y).wpS P Q a (c₀ :: cs) w :=
  wpS_seq (wpS_region (h _ k))
def tms (p q : Addr) (a b c d : Value) : Array Value := #[.pointer (some p), .pointer (some q), a, undef, undef, b, c, d, undef, undef, undef, undef, undef, undef, undef, undef, undef]
theorem parse_idle (p q : Addr) (w : World) :
    CallsD Tryz.prog 19 #[.pointer (some p), .pointer (some q)] .returning w fun e u' w' => e = .returned (.tuple #[]) ∧ u' = .returning ∧ w' = w := by
  refine callsD_of_wpS Tryz.func19 rfl fun c₀ cs hu => ?_
  rw [Tryz.ntmps19]
  have e0 : (#[Value.pointer (some p), .pointer (some q)] ++ Array.replicate (17 - 2) undef : Array Value) = tms p q undef undef undef undef := by
    apply Array.ext'; simp [tms, List.replicate]
  change Code.wpS _ _ _ ({ tmps := #[Value.pointer (some p), .pointer (some q)] ++ Array.replicate (17 - 2) undef, defers := [] } : Act) _ _
  rw [e0]
  refine idle_one _ _ _ (a' := { tmps := tms p q .nilIface .nilIface undef undef, defers := [] }) (fun Q hQ => ?_) ?_
  · simp [wpOpsS, go_sem, recoverD, hu, tms] at hQ ⊢
    exact hQ
  refine idle_one _ _ _ (a' := { tmps := tms p q .nilIface .nilIface .nilIface (.bool false), defers := [] }) (fun Q hQ => ?_) ?_
  · simp [wpOpsS, go_sem, tms] at hQ ⊢
    exact hQ
  refine wpS_cond (t := false) rfl ?_
  simp only [Bool.false_eq_true, if_false]
  refine wpS_of_wp (wp_skip ?_)
  refine ⟨rfl, .returning, by cases c₀; simp at hu; subst hu; rfl, .tuple #[], ?_, rfl, rfl, rfl⟩
  simp [results, Tryz.results19]
def knD (g : FuncId) (us : List Value) (m : AMem) : Option (Value × AMem) :=
  match us with
  | [.pointer (some _), .pointer (some _)] => match Nat.beq g 19 with | true => some (.tuple #[], m) | false => none
  | _ => none
def knC (g : FuncId) (us : List Value) (m : AMem) : Option (Value × AMem) :=
  match us with
  | [.string s, .string ⟨⟨[c]⟩⟩] => match Nat.beq g 65 with | true => some (.int .i64 (Lib.countByte s.data.toList c), m) | false => none
  | _ => none
def knP : Bool → FuncId → List Value → AMem → Option (Value × AMem)
  | false => knC
  | true => knD
theorem knC_ok {w0 : World} : CallOk Tryz.prog w0 knC := fun g us m u m' h => by
  unfold knC at h
  split at h
  · rename_i s c
    split at h
    · rename_i hg
      have hg := Nat.eq_of_beq_eq_true hg
      subst hg
      cases h
      refine ⟨Tryz.call65, fun ρ vs w r hm => ?_⟩
      obtain ⟨v1, vs1, rfl, r1, r2⟩ := r.inv_cons
      obtain ⟨v2, vs2, rfl, r3, r4⟩ := r2.inv_cons
      have : vs2 = [] := by have := r4.len; exact List.length_eq_zero_iff.1 this.symm
      subst this
      cases r1; cases r3
      refine Calls.mono (Any.strings_Count_one countLay s c w) ?_
      rintro en w' ⟨rfl, rfl⟩
      exact ⟨ρ, _, Ev.refl hm, VR.int _ _, rfl⟩
    · cases h
  · cases h
theorem knD_ok {w0 : World} : CallOkR Tryz.prog w0 knD := fun g us m u m' h => by
  unfold knD at h
  split at h
  · split at h
    · rename_i hg
      have hg := Nat.eq_of_beq_eq_true hg
      subst hg
      cases h
      refine ⟨Tryz.call19, fun ρ vs w r hm => ?_⟩
      obtain ⟨v1, vs1, rfl, r1, r2⟩ := r.inv_cons
      obtain ⟨v2, vs2, rfl, r3, r4⟩ := r2.inv_cons
      have : vs2 = [] := by have := r4.len; exact List.length_eq_zero_iff.1 this.symm
      subst this
      cases r1; cases r3
      refine CallsD.mono (parse_idle _ _ w) ?_
      rintro en um' w' ⟨rfl, rfl, rfl⟩
      exact ⟨rfl, ρ, .tuple #[], Ev.refl hm, VR.tupleL .nil, rfl⟩
    · cases h
  · cases h
end Go.Proofs.YtbiamhoonhjodaaGreatDoor

namespace Go.Proofs.YtbiamhoonhjodaaGreatDoor
open Go Go.V Go.Proofs
open Go.RowKit (Below)
theorem awake_ev : okB (callN Tryz.prog etab efns knP 100000 200 false 5 [] emptyM) = true := by kernel_rfl
theorem awake_calls (w : World) : Calls Tryz.prog 5 #[] w fun en w' => en = .returned (.bool true) ∧ Below w.heap.size w w' :=
  true_of_okB (callE := fun _ => callN Tryz.prog etab efns knP 100000 200 false) (fun _ => (callN_ok etabOk emixed efnsOk knC_ok knD_ok 100000 200).1) (fun _ => awake_ev) (fun _ => .nil) w
end Go.Proofs.YtbiamhoonhjodaaGreatDoor

namespace Go.Proofs.YtbiamhoonhjodaaGreatDoor
open Go Go.V Go.Proofs
open Go.RowKit (Below)
theorem awakeK {w0 w : World} (x : Ext w0 w) : Calls Tryz.prog 5 #[] w fun e w2 => ∃ p, e = .returned (.bool p) ∧ (p = true ∧ Ext w0 w2) := by
  refine (awake_calls w).mono ?_
  rintro e w2 ⟨rfl, h⟩
  exact ⟨_, rfl, rfl, x.trans h⟩
end Go.Proofs.YtbiamhoonhjodaaGreatDoor

namespace Go.Proofs.YtbiamhoonhjodaaGreatDoor
open Go Go.V Go.Proofs Go.V.Gr
open Go.RowKit (Below)
set_option maxRecDepth 100000 in
theorem c3 (w : World) (root : Int) (xs : List Nd) (path : List Ft) {a a3 : Option Addr} {l l3 : Nat} (c c3 : Nat) (h : RNds w a l xs) (hp : RL 2 RFt w a3 l3 path) (hlc : l3 ≤ c3) (hz : Szd xs) (ht : Tb w) {cut : Nat} (hcut : cut < 256) :
    Calls Tryz.prog 3 #[.agg #[.int .i64 root, .slice a l c], .slice a3 l3 c3, .int .u8 (cut : Int)] w fun en w' => ∃ p, en = .returned (.bool p) ∧ (p = true ∧ Ext w w') := by
  refine calls3 _ _ _ _ _ _ _ _ _ w ?_
  have hlp := hp.len
  have hmp := hp.2
  simp only [maxLen] at hmp
  refine AllocK.mk fun b5 w6 hb5 hB5 x6 => ?_
  obtain ⟨g0, g1, _⟩ := blkAt2 hB5
  refine ⟨fun p w' => Ext w6 w' ∧ (p = false → LightOk xs ∧ path.length ≤ 200), ?_, ⟨_, g0, _, _, _, g1, (c4 w6 root xs c (RNds.at h x6) hz).mono ?_⟩⟩
  rotate_left
  · rintro en w9 ⟨p, rfl, hp9, x9⟩
    refine ⟨_, rfl, BoolK.mk (fun t => ⟨x9, fun e => by cases e⟩) (fun t => ⟨x9, fun e => ⟨hp9 (by simpa using t), ?_⟩⟩)⟩
    have := of_decide_eq_false e; omega
  rintro w8 p9 ⟨x8, hlight⟩
  have y8 := x6.trans x8
  refine BoolK.mk (fun _ => awakeK y8) (fun t9 => ?_)
  obtain ⟨hli, hpl⟩ := hlight t9
  obtain ⟨hLim, hLimT⟩ := hli.lim
  clear hlight t9 p9
  refine ⟨fun i w' => ∃ k : Nat, i = k ∧ k ≤ path.length ∧ Ext w8 w', fun i _ => path.length - i.toNat, ⟨⟨0, rfl, by omega, Ext.refl _⟩, trivial⟩, ?_⟩
  rintro w15 _ ⟨k, rfl, hk, x15⟩
  have y15 := y8.trans x15
  refine BoolK.mk (fun t => ?_) (fun _ => ?_)
  · have hlt : k < path.length := by have := of_decide_eq_true t; omega
    obtain ⟨b1, ha, q0, q1, _⟩ := ftAt hp y15 hlt
    refine ⟨⟨by omega, by omega⟩, adK ha ⟨_, q0, _, q1, ?_⟩⟩
    refine local2 fun b20 w23 hb20 hB20 x23 => ?_
    refine ⟨_, (blkAt2 hB20).2.1, BoolK.mk (fun _ => awakeK (y15.trans x23)) (fun _ => ?_)⟩
    rw [wrap_succ (by omega)]
    exact ⟨⟨k + 1, rfl, by omega, x15.trans x23⟩, by simp; omega⟩
  clear hk
  obtain ⟨g0, g1, _⟩ := blkAt2 (hB5.ext (x8.trans x15))
  refine ⟨_, g0, _, _, _, g1, (c6 w15 root xs path c (RNds.at h y15) c3 (hp.ext RFt.mono y15) hLim (ht.ext y15)).mono ?_⟩
  rintro en w33 ⟨x30, a31, l31, c31, e32, rfl, o1⟩
  have hAll : ∃ (j : Option Nat) (err : Int), ((GrOk root xs 1000 ∧ j = goP xs path root.toNat ∧ err = 5) ∨ (¬ GrOk root xs 1000 ∧ j = none ∧ err = 50)) ∧ Ans w15 w33 xs j err x30 (a31, l31, c31) e32 := by
    rcases o1 with ⟨ok, A⟩ | ⟨nok, A⟩
    · exact ⟨_, _, .inl ⟨ok, rfl, rfl⟩, A⟩
    · exact ⟨_, _, .inr ⟨nok, rfl, rfl⟩, A⟩
  clear o1
  obtain ⟨j, err, hj, A1⟩ := hAll
  obtain ⟨x33, rfl, out1, r1, k1⟩ := A1.rows
  refine ⟨_, _, _, _, _, rfl, local2 fun b35 w38 hb35 hB35 x38 => ?_⟩
  have y38 := (y15.trans x33).trans x38
  obtain ⟨g0, g1, _⟩ := blkAt2 (hB5.ext (((x8.trans x15).trans x33).trans x38))
  refine ⟨_, g0, _, _, _, g1, (c7 w38 root xs path c (RNds.at h y38) c3 (hp.ext RFt.mono y38) hLim hLimT).mono ?_⟩
  rintro en w44 ⟨x41, a42, l42, c42, e43, rfl, o2⟩
  have A2 : Ans w38 w44 xs j err x41 (a42, l42, c42) e43 := by
    rcases o2 with ⟨ok, A⟩ | ⟨nok, A⟩ <;> rcases hj with ⟨ok', rfl, rfl⟩ | ⟨nok', rfl, rfl⟩
    · exact A
    · exact absurd ok nok'
    · exact absurd ok' nok
    · exact A
  clear o2
  obtain ⟨x44, rfl, out2, r2, k2⟩ := A2.rows
  have hout : out2 = out1 ∧ e43 = e32 := by
    rcases k1 with ⟨i, f1, f2, f3, _⟩ | ⟨f1, f2, f3, _⟩ <;> rcases k2 with ⟨i', f1', f2', f3', _⟩ | ⟨f1', f2', f3', _⟩
    · rw [f1] at f1'; cases f1'
      exact ⟨Least.uniq f3' f3 (Eqv.refl _ _), by rw [f2, f2']⟩
    · rw [f1] at f1'; cases f1'
    · rw [f1] at f1'; cases f1'
    · exact ⟨by rw [f3, f3'], by rw [f2, f2']⟩
  obtain ⟨rfl, rfl⟩ := hout
  clear k2 A2
  refine ⟨_, _, _, _, _, rfl, local2 fun b46 w49 hb46 hB46 x49 => ?_⟩
  have y49 := (y38.trans x44).trans x49
  have z49 := x44.trans x49
  refine BoolK.mk (fun t => by simp at t) (fun _ => ?_)
  obtain ⟨f0, f1, _⟩ := blkAt2 (hB35.ext z49)
  obtain ⟨f2, f3, _⟩ := blkAt2 hB46
  refine ⟨_, f0, _, _, _, f1, _, f2, _, _, _, f3, (c8 w49 0 0 out2 out2 c31 c42 (RNds.at r1 (x38.trans z49)) (RNds.at r2 x49)).mono ?_⟩
  rintro en w55 ⟨p54, rfl, hp54, x55⟩
  have y55 := y49.trans x55
  have h54 := hp54.2 ⟨rfl, rfl⟩
  refine ⟨_, rfl, BoolK.mk (fun t => by rw [h54] at t; cases t) (fun _ => ?_)⟩
  have wl : IntKind.wrap .i64 (((l3 : Nat) : Int) + 1) = ((l3 + 1 : Nat) : Int) := by rw [wrap_succ (by omega)]
  have wc : IntKind.wrap .i64 ((cut : Nat) : Int) = (cut : Int) := wrap_id (by omega) (by omega)
  rw [wl, wc]
  have hm : ((cut : Nat) : Int).tmod ((l3 + 1 : Nat) : Int) = ((cut % (l3 + 1) : Nat) : Int) := rfl
  simp only [hm, Int.toNat_natCast]
  have hkl : cut % (l3 + 1) ≤ l3 := Nat.lt_succ_iff.1 (Nat.mod_lt _ (by omega))
  generalize cut % (l3 + 1) = kc at hkl
  refine ⟨by omega, ?_⟩
  have hpt := RL.take hp (c := c3) hkl
  have hpd := RL.drop hp hkl hlc
  have hB35 := (hB35.ext z49).ext x55
  have r1 := RNds.at (RNds.at r1 (x38.trans z49)) x55
  refine ⟨fun o x w' => ∃ (b : Nat) (s : SL) (o3 : List Nd), o = some ⟨b, 0, none⟩ ∧ w55.heap.size ≤ b ∧ Ext w55 w' ∧ Blk w' b #[.int .i64 0, .slice s.1 s.2.1 s.2.2] 24 ∧ RNds w' s.1 s.2.1 o3 ∧
      ((x = 0 ∧ GrOk root xs 1000 ∧ ∃ i, goP xs (path.take kc) root.toNat = some i ∧ Least xs i o3) ∨ (x ≠ 0 ∧ x = e43)), ?_, ?_⟩
  · rintro w58 o59 x60 ⟨b, s, o3, rfl, hbb, x58, hBb, r3, hc3⟩
    have y58 := y55.trans x58
    refine BoolK.mk (fun t => ?_) (fun t => ?_)
    · rcases hc3 with ⟨rfl, _⟩ | ⟨hne, rfl⟩
      · simp at t
      · exact BoolK.mk (fun _ => awakeK y58) (fun t2 => by simp at t2)
    · have hx0 : x60 = 0 := by simpa using t
      rcases hc3 with ⟨_, ok, i, hgo, hL⟩ | ⟨hne, _⟩
      rotate_left
      · exact absurd hx0 hne
      clear hx0
      refine DrewK.mk fun w64 x64 => adK rfl ?_
      have y64 := y58.trans x64
      have hBb := hBb.ext x64
      have r3 := RNds.at r3 x64
      obtain ⟨f0, f1, _⟩ := blkAt2 hBb
      have hilt := goP_lt ok ok.lt hgo
      have sz := ok.sz (by omega) hLim
      have ok3 := Least.ok hL ok hilt
      obtain ⟨l1, l2⟩ := Least.lim hL ok.closed hilt sz.ks hLim hLimT
      refine ⟨_, f0, _, _, _, f1, by omega, ⟨hkl, hlc⟩, (c6 w64 0 o3 (path.drop kc) s.2.2 r3 (c3 - kc) (RL.ext RFt.mono hpd y64) l1 (ht.ext y64)).mono ?_⟩
      rintro en w71 ⟨x68, a69, l69, c69, e70, rfl, o4⟩
      have A4 : Ans w64 w71 o3 (goP o3 (path.drop kc) 0) 5 x68 (a69, l69, c69) e70 := by
        rcases o4 with ⟨_, A⟩ | ⟨nok, A⟩
        · exact A
        · exact absurd ok3 nok
      clear o4
      obtain ⟨x71, rfl, out4, r4, k4⟩ := A4.rows
      have hsplit : goP xs path root.toNat = goP xs (path.drop kc) i := by
        conv => lhs; rw [← List.take_append_drop kc path]
        rw [goP_append, hgo]; rfl
      rcases hj with ⟨_, rfl, rfl⟩ | ⟨nok, _⟩
      rotate_left
      · exact absurd ok nok
      have hpos := hL.pos
      have lens3 : ∀ q, q < o3.length → (nd o3 q).ks.length = (nd o3 q).fs.length := fun q hq => by
        rw [nd_get hq]; exact (ok3.nds _ (List.getElem_mem hq)).lens
      have hev := goP_eqv (p := path.drop kc) lens3 ok3.closed hpos hL.eqv
      have hb64 : b < w64.heap.size := hBb.lt
      have hB55 : b35 < w55.heap.size := hB35.lt
      -- what both found is the same
      have hres : out4 = out2 ∧ e70 = e43 := by
        rcases hev with ⟨n1, n2⟩ | ⟨a', b', n1, n2, ev⟩
        · rcases k1 with ⟨i', f1, f2, f3, _⟩ | ⟨f1, f2, f3, _⟩
          · rw [hsplit, n2] at f1; cases f1
          · rcases k4 with ⟨i4, g1, _⟩ | ⟨g1, g2, g3, _⟩
            · rw [n1] at g1; cases g1
            · exact ⟨by rw [f3, g3], by rw [f2, g2]⟩
        · rcases k1 with ⟨i', f1, f2, f3, _⟩ | ⟨f1, f2, f3, _⟩
          · rw [hsplit, n2] at f1; cases f1
            rcases k4 with ⟨i4, g1, g2, g3, _⟩ | ⟨g1, _⟩
            · rw [n1] at g1; cases g1
              exact ⟨Least.uniq g3 f3 ev, by rw [f2, g2]⟩
            · rw [n1] at g1; cases g1
          · rw [hsplit, n2] at f1; cases f1
      obtain ⟨rfl, rfl⟩ := hres
      refine ⟨_, _, _, _, _, rfl, adK rfl ?_⟩
      refine setTwo (hBb.ext x71) fun w75 hB75 k75 => ?_
      have x75 : Ext w55 w75 := k75.below ((x58.trans x64).trans x71) hbb
      have r4 : RNds w75 a69 l69 out4 := by
        rcases k4 with ⟨_, _, _, _, hG⟩ | ⟨_, _, rfl, e⟩
        · exact (hG.but k75 hb64 (x58.trans x64) hbb).nodes
        · cases e; exact ⟨Rows.nil _ _ _ _, by simp⟩
      refine BoolK.mk (fun _ => ?_) (fun t2 => by simp at t2)
      obtain ⟨f0, f1, _⟩ := blkAt2 (hB35.ext x75)
      obtain ⟨f2, f3, _⟩ := blkAt2 hB75
      refine ⟨_, f0, _, _, _, f1, adK rfl ⟨_, f2, _, _, _, f3, (c8 w75 0 0 out4 out4 c31 c69 (RNds.at r1 x75) r4).mono ?_⟩⟩
      rintro en w82 ⟨p81, rfl, hp81, x82⟩
      exact ⟨_, rfl, BoolK.mk (fun _ => awakeK ((y55.trans x75).trans x82)) (fun t2 => by rw [hp81.2 ⟨rfl, rfl⟩] at t2; cases t2)⟩
  · refine DrewK.mk fun w87 x87 => ?_
    have y87 := y55.trans x87
    obtain ⟨g0, g1, _⟩ := blkAt2 (hB5.ext (((((((x8.trans x15).trans x33).trans x38).trans z49).trans x55).trans x87)))
    refine ⟨_, g0, _, _, _, g1, by omega, ⟨by omega, by omega⟩, ?_⟩
    have post : ∀ {wa wb : World} {x : Int} {s : SL} {e : Int}, Ext w55 wa → ((GrOk root xs 1000 ∧ Ans wa wb xs (goP xs (path.take kc) root.toNat) 5 x s e) ∨ (¬ GrOk root xs 1000 ∧ Ans wa wb xs none 50 x s e)) →
        x = 0 ∧ Ext wa wb ∧ (((∃ i, GrOk root xs 1000 ∧ goP xs (path.take kc) root.toNat = some i ∧ e = 0 ∧ ∃ o, Least xs i o ∧ GD wa wb s o) ∨ (s = (none, 0, 0) ∧ e ≠ 0 ∧ e = e43))) := by
      intro wa wb x s e _ h
      rcases h with ⟨ok, A⟩ | ⟨nok, A⟩
      · obtain ⟨x1, rfl, o, r, k⟩ := A.rows
        refine ⟨rfl, x1, ?_⟩
        rcases k with ⟨i, f1, f2, f3, f4⟩ | ⟨f1, f2, f3, f4⟩
        · exact .inl ⟨i, ok, f1, f2, o, f3, f4⟩
        · refine .inr ⟨f4, by omega, ?_⟩
          rcases hj with ⟨_, rfl, rfl⟩ | ⟨nok, _⟩
          · have hno : goP xs path root.toNat = none := by
              conv => lhs; rw [← List.take_append_drop kc path]
              rw [goP_append, f1]; rfl
            rcases k1 with ⟨i', f1', _⟩ | ⟨_, f2', _⟩
            · rw [hno] at f1'; cases f1'
            · rw [f2, f2']
          · exact absurd ok nok
      · obtain ⟨x1, rfl, o, r, k⟩ := A.rows
        refine ⟨rfl, x1, ?_⟩
        rcases k with ⟨i, f1, _⟩ | ⟨f1, f2, f3, f4⟩
        · cases f1
        · refine .inr ⟨f4, by omega, ?_⟩
          rcases hj with ⟨ok, _⟩ | ⟨_, rfl, rfl⟩
          · exact absurd ok nok
          · rcases k1 with ⟨i', f1', _⟩ | ⟨_, f2', _⟩
            · cases f1'
            · rw [f2, f2']
    constructor
    · refine (c6 w87 root xs (path.take kc) c (RNds.at h y87) (c3 - 0) (RL.ext RFt.mono hpt y87) hLim (ht.ext y87)).mono ?_
      rintro en w93 ⟨x90, a91, l91, c91, e92, rfl, o3⟩
      obtain ⟨rfl, x93, k3⟩ := post x87 o3
      refine ⟨_, _, _, _, _, rfl, AllocK.mk fun b95 w96 hb95 hB95 x96 => ⟨Below.cel (x93.trans x96), ?_⟩⟩
      refine setTwo hB95 fun w98 hB98 k98 => ?_
      have x98 : Ext w93 w98 := k98.below x96 (by omega)
      have hbb : w55.heap.size ≤ b95 := by have := (x87.trans x93).size; omega
      rcases k3 with ⟨i, ok, f1, f2, o, f3, f4⟩ | ⟨f1, f2, f3⟩
      · exact ⟨b95, _, o, rfl, hbb, (x87.trans x93).trans x98, hB98, RNds.at f4.nodes x98, .inl ⟨f2, ok, i, f1, f3⟩⟩
      · cases f1
        exact ⟨b95, (none, 0, 0), [], rfl, hbb, (x87.trans x93).trans x98, hB98, ⟨Rows.nil _ _ _ _, by simp⟩, .inr ⟨f2, f3⟩⟩
    · refine AllocK.mk fun b99 w100 hb99 hB99 x100 => ⟨Below.cel x100, ?_⟩
      have y100 := y87.trans x100
      have hbb : w55.heap.size ≤ b99 := by have := x87.size; omega
      refine (c6 w100 root xs (path.take kc) c (RNds.at h y100) (c3 - 0) (RL.ext RFt.mono hpt y100) hLim (ht.ext y100)).mono ?_
      rintro en w104 ⟨x101, a102, l102, c102, e103, rfl, o3⟩
      obtain ⟨rfl, x104, k3⟩ := post (x87.trans x100) o3
      refine ⟨_, _, _, _, _, rfl, ?_⟩
      refine setTwo (hB99.ext x104) fun w107 hB107 k107 => ?_
      have x107 : Ext w55 w107 := k107.below ((x87.trans x100).trans x104) hbb
      rcases k3 with ⟨i, ok, f1, f2, o, f3, f4⟩ | ⟨f1, f2, f3⟩
      · exact ⟨b99, _, o, rfl, hbb, x107, hB107, (f4.but k107 hB99.lt (x87.trans x100) hbb).nodes, .inl ⟨f2, ok, i, f1, f3⟩⟩
      · cases f1
        exact ⟨b99, (none, 0, 0), [], rfl, hbb, x107, hB107, ⟨Rows.nil _ _ _ _, by simp⟩, .inr ⟨f2, f3⟩⟩
end Go.Proofs.YtbiamhoonhjodaaGreatDoor

namespace Go.V
open Go.RowKit (Below)
def Rd {H : Type} (enc : TypeId × Value → H) (P : Program) (w : World) (t : TypeId) (cs : List Value) : Prop :=
  ∃ fuel x, DataW.trod enc P w 0 (fun _ => true) true fuel t cs = some x
section
variable {H : Type} {enc : TypeId × Value → H} {P : Program} {w : World}
theorem Rd.of {t : TypeId} {v : Value} {d : DataW H} {ps : List MemPlace} (h : DataW.Trod enc P w 0 (fun _ => true) true t v d ps) : Rd enc P w t v.cells.toList := by
  obtain ⟨f, hf⟩ := h; exact ⟨f, _, hf⟩
theorem Rd.int {t : TypeId} {k : IntKind} {cs : List Value} (ht : P.underlying t = some (.int k)) (h : Rd enc P w t cs) : ∃ n, cs = [.int k n] ∧ (Lit.int k n).wf = true := by
  obtain ⟨f, x, h⟩ := h
  obtain ⟨n, h1, _, h2⟩ := DataW.trod_int ht h
  exact ⟨n, h1, h2⟩
theorem Rd.string {t : TypeId} {cs : List Value} (ht : P.underlying t = some .string) (h : Rd enc P w t cs) : ∃ s : ByteArray, cs = [.string s] ∧ s.size ≤ maxLen := by
  obtain ⟨f, x, h⟩ := h
  obtain ⟨s, h1, _, h2⟩ := DataW.trod_string ht h
  exact ⟨s, h1, h2⟩
theorem Rd.array {t e : TypeId} {n : Nat} {cs : List Value} (ht : P.underlying t = some (.array n e)) (h : Rd enc P w t cs) : cs.length = P.cellsOf t ∧ ∀ i, i < n → Rd enc P w e ((cs.drop (i * P.cellsOf e)).take (P.cellsOf e)) := by
  obtain ⟨f, x, h⟩ := h
  obtain ⟨xs, m, _, _, hl, hx, hf⟩ := DataW.trod_array ht h
  refine ⟨hl, fun i hi => ⟨m, xs[i]'(by omega), ?_⟩⟩
  rw [hf i hi, List.getElem?_eq_getElem]
theorem Rd.struct {t : TypeId} {fs : Array Field} {cs : List Value} (ht : P.underlying t = some (.struct fs)) (h : Rd enc P w t cs) : cs.length = P.cellsOf t ∧ ∀ (i : Nat) (f : Field), fs[i]? = some f → Rd enc P w f.type ((cs.drop f.offset).take (P.cellsOf f.type)) := by
  obtain ⟨fu, x, h⟩ := h
  obtain ⟨xs, n, _, _, hl, hlen, hf⟩ := DataW.trod_struct ht h
  refine ⟨hl, fun i f hi => ?_⟩
  have hi' : i < fs.size := (Array.getElem?_eq_some_iff.1 hi).1
  refine ⟨n, xs[i]'(by simpa [hlen] using hi'), ?_⟩
  have := hf i f (by simpa using hi)
  rw [this, List.getElem?_eq_getElem]
theorem Rd.slice {α : Type} {R : World → Cells → α → Prop} {t e : TypeId} {sz : Nat} {cs : List Value} (ht : P.underlying t = some (.slice e)) (hs : P.cellsOf e = sz) (hpos : 0 < sz)
    (hR : ∀ (f : Nat → Option Value) (cs' : List Value), cs'.length = sz → (∀ j, j < sz → f j = cs'[j]?) → Rd enc P w e cs' → ∃ x, R w f x) (h : Rd enc P w t cs) :
    ∃ a l c xs, cs = [.slice a l c] ∧ Rows sz R w a l xs ∧ l ≤ maxLen := by
  obtain ⟨fu, x, h⟩ := h
  rcases Go.Deep.open_slice ht h with ⟨rfl, _⟩ | ⟨a, len, cap, m, n, D, Pl, rfl, hb, hl, hm, hmm, rfl, hx⟩
  · exact ⟨none, 0, 0, [], rfl, Rows.nil _ _ _ _, by simp⟩
  rw [hs] at hx
  have hlm : len ≤ m := by rw [hmm]; split <;> omega
  rcases Nat.eq_zero_or_pos len with h0 | h0
  · subst h0
    exact ⟨some a, 0, cap, [], rfl, Rows.nil _ _ _ _, by simp⟩
  have hspot : a.spot = none := by
    obtain ⟨cs', h1, _⟩ := hx 0 (by omega)
    obtain ⟨_, hlen, hc⟩ := World.cells?_some h1
    have := hc 0 hpos
    rw [Nat.zero_mul, add_mk0, add_mk0, List.getElem?_eq_getElem (by omega)] at this
    exact World.cell?_spot this
  obtain ⟨b, o, s⟩ := a
  simp only at hspot
  subst hspot
  have each : ∀ i, i < len → ∃ x : α, R w (fun j => w.cell? ⟨b, o + i * sz + j, none⟩) x := fun i hi => by
    obtain ⟨cs', h1, h2⟩ := hx i (by omega)
    obtain ⟨_, hlen, hc⟩ := World.cells?_some h1
    refine hR _ cs' hlen (fun j hj => ?_) ⟨n, _, h2⟩
    have := hc j hj
    rw [add_mk, add_mk] at this
    exact this
  have : ∃ xs : List α, xs.length = len ∧ ∀ i x, xs[i]? = some x → R w (fun j => w.cell? ⟨b, o + i * sz + j, none⟩) x := by
    clear hx hlm hmm hl h
    induction len with
    | zero => omega
    | succ k ih =>
      obtain ⟨x, hxk⟩ := each k (by omega)
      rcases Nat.eq_zero_or_pos k with hk | hk
      · subst hk
        refine ⟨[x], rfl, fun i y hy => ?_⟩
        have : i = 0 := by have := (List.getElem?_eq_some_iff.1 hy).1; simp at this; omega
        subst this; simp at hy; subst hy; exact hxk
      · obtain ⟨xs, hl, hxs⟩ := ih hk (fun i hi => each i (by omega))
        refine ⟨xs ++ [x], by simp [hl], fun i y hy => ?_⟩
        rcases Nat.lt_or_ge i xs.length with h | h
        · rw [List.getElem?_append_left h] at hy; exact hxs i y hy
        · rw [List.getElem?_append_right h] at hy
          have hi : i = k := by have := (List.getElem?_eq_some_iff.1 hy).1; simp at this; omega
          subst hi
          rw [hl, Nat.sub_self] at hy; simp at hy; subst hy; exact hxk
  obtain ⟨xs, hl', hxs⟩ := this
  exact ⟨_, len, cap, xs, rfl, ⟨hl'.symm, .inr ⟨b, o, rfl, hxs⟩⟩, by omega⟩
end
end Go.V

namespace Go.V
open Go.RowKit (Below)
def Rz {H : Type} (enc : TypeId × Value → H) (P : Program) (w : World) (t : TypeId) (cs : List Value) : Prop :=
  ∃ fuel x, DataW.trod enc P w 0 (fun _ => true) true fuel t cs = some x ∧ ∀ n ∈ x.1.weights P t, n ≤ reachBytes
section
variable {H : Type} {enc : TypeId × Value → H} {P : Program} {w : World}
theorem Rz.of {ts : List TypeId} {ds : List (DataW H)} (hz : (DataW.weightsEach P ts ds).all (· ≤ reachBytes) = true) {j : Nat} {t : TypeId} {v : Value} {d : DataW H} {ps : List MemPlace} (ht : ts[j]? = some t) (hd : ds[j]? = some d)
    (h : DataW.Trod enc P w 0 (fun _ => true) true t v d ps) : Rz enc P w t v.cells.toList := by
  obtain ⟨f, hf⟩ := h
  exact ⟨f, _, hf, fun n hn => by simpa using List.all_eq_true.1 hz n (DataW.weights_mem_each ht hd n hn)⟩
theorem Rz.int {t : TypeId} {k : IntKind} {cs : List Value} (ht : P.underlying t = some (.int k)) (h : Rz enc P w t cs) : ∃ n, cs = [.int k n] ∧ (Lit.int k n).wf = true := by
  obtain ⟨f, x, h, _⟩ := h
  exact Rd.int ht ⟨f, x, h⟩
theorem Rz.string {t : TypeId} {cs : List Value} (ht : P.underlying t = some .string) (h : Rz enc P w t cs) : ∃ s : ByteArray, cs = [.string s] ∧ s.size ≤ maxLen := by
  obtain ⟨f, x, h, _⟩ := h
  exact Rd.string ht ⟨f, x, h⟩
theorem Rz.fld {t : TypeId} {fs : Array Field} {cs : List Value} (ht : P.underlying t = some (.struct fs)) (h : Rz enc P w t cs) (i : Nat) {f : Field} (hf : fs[i]? = some f) {n : Nat} (hn : P.cellsOf f.type = n) : Rz enc P w f.type ((cs.drop f.offset).take n) := by
  obtain ⟨fu, x, h, hz⟩ := h
  obtain ⟨xs, m, _, rfl, hl, hlen, hff⟩ := DataW.trod_struct ht h
  have hi' : i < fs.size := (Array.getElem?_eq_some_iff.1 hf).1
  have hi2 : i < xs.length := by rw [hlen]; exact hi'
  have e := hff i f hf
  rw [List.getElem?_eq_getElem hi2, hn] at e
  refine ⟨m, _, e, fun k hk => hz k ?_⟩
  simp only [DataW.weights, ht]
  exact DataW.weights_mem_each (j := i) (by rw [List.getElem?_map, Array.getElem?_toList, hf]; rfl) (by rw [List.getElem?_map, List.getElem?_eq_getElem hi2]; rfl) k hk
theorem Rz.len {t : TypeId} {fs : Array Field} {cs : List Value} (ht : P.underlying t = some (.struct fs)) (h : Rz enc P w t cs) : cs.length = P.cellsOf t := by
  obtain ⟨fu, x, h, _⟩ := h
  exact (Rd.struct ht ⟨fu, x, h⟩).1
theorem weightsAll_mem {e : TypeId} : ∀ {ds : List (DataW H)} {d : DataW H}, d ∈ ds → ∀ n ∈ d.weights P e, n ∈ DataW.weightsAll P e ds
  | d0 :: ds, d, h, n, hn => by
    simp only [DataW.weightsAll, List.mem_append]
    rcases List.mem_cons.1 h with rfl | h
    · exact .inl hn
    · exact .inr (weightsAll_mem h n hn)
theorem Rz.slice {α : Type} {R : World → Cells → α → Prop} {t e : TypeId} {sz : Nat} {cs : List Value} (ht : P.underlying t = some (.slice e)) (hs : P.cellsOf e = sz) (hpos : 0 < sz)
    (hR : ∀ (f : Nat → Option Value) (cs' : List Value), cs'.length = sz → (∀ j, j < sz → f j = cs'[j]?) → Rz enc P w e cs' → ∃ x, R w f x) (h : Rz enc P w t cs) :
    ∃ a l c xs, cs = [.slice a l c] ∧ Rows sz R w a l xs ∧ l ≤ maxLen ∧ l * P.bytesOf e ≤ reachBytes ∧ l ≤ c := by
  obtain ⟨fu, x, h, hz⟩ := h
  rcases Go.Deep.open_slice ht h with ⟨rfl, _⟩ | ⟨a, len, cap, m, n, D, Pl, rfl, hb, hl, hm, hmm, rfl, hx⟩
  · exact ⟨none, 0, 0, [], rfl, Rows.nil _ _ _ _, by simp, by simp, by simp⟩
  simp only [DataW.weights, ht] at hz
  have hbytes : len * P.bytesOf e ≤ reachBytes := by
    have := hz _ List.mem_cons_self
    simp only [List.length_map, List.length_range] at this
    exact Nat.le_trans (Nat.mul_le_mul_right _ (by omega)) this
  have hel : ∀ i, i < len → ∀ n ∈ (D i).weights P e, n ≤ reachBytes := fun i hi n hn => hz n (List.mem_cons_of_mem _ (List.mem_append_left _ (weightsAll_mem (List.mem_map.2 ⟨i, List.mem_range.2 hi, rfl⟩) n hn)))
  rw [hs] at hx
  have hlm : len ≤ m := by rw [hmm]; split <;> omega
  rcases Nat.eq_zero_or_pos len with h0 | h0
  · subst h0
    exact ⟨some a, 0, cap, [], rfl, Rows.nil _ _ _ _, by simp, by simp, by simp⟩
  have hspot : a.spot = none := by
    obtain ⟨cs', h1, _⟩ := hx 0 (by omega)
    obtain ⟨_, hlen, hc⟩ := World.cells?_some h1
    have := hc 0 hpos
    rw [Nat.zero_mul, add_mk0, add_mk0, List.getElem?_eq_getElem (by omega)] at this
    exact World.cell?_spot this
  obtain ⟨b, o, s⟩ := a
  simp only at hspot
  subst hspot
  have each : ∀ i, i < len → ∃ x : α, R w (fun j => w.cell? ⟨b, o + i * sz + j, none⟩) x := fun i hi => by
    obtain ⟨cs', h1, h2⟩ := hx i (by omega)
    obtain ⟨_, hlen, hc⟩ := World.cells?_some h1
    refine hR _ cs' hlen (fun j hj => ?_) ⟨n, _, h2, hel i hi⟩
    have := hc j hj
    rw [add_mk, add_mk] at this
    exact this
  have : ∃ xs : List α, xs.length = len ∧ ∀ i x, xs[i]? = some x → R w (fun j => w.cell? ⟨b, o + i * sz + j, none⟩) x := by
    clear hx hlm hmm hl h hz hbytes hel
    induction len with
    | zero => omega
    | succ k ih =>
      obtain ⟨x, hxk⟩ := each k (by omega)
      rcases Nat.eq_zero_or_pos k with hk | hk
      · subst hk
        refine ⟨[x], rfl, fun i y hy => ?_⟩
        have : i = 0 := by have := (List.getElem?_eq_some_iff.1 hy).1; simp at this; omega
        subst this; simp at hy; subst hy; exact hxk
      · obtain ⟨xs, hl, hxs⟩ := ih hk (fun i hi => each i (by omega))
        refine ⟨xs ++ [x], by simp [hl], fun i y hy => ?_⟩
        rcases Nat.lt_or_ge i xs.length with h | h
        · rw [List.getElem?_append_left h] at hy; exact hxs i y hy
        · have hi := (List.getElem?_eq_some_iff.1 hy).1
          simp at hi
          have : i = xs.length := by omega
          subst this
          rw [List.getElem?_concat_length] at hy; cases hy
          rw [hl]; exact hxk
  obtain ⟨xs, hlx, hxs⟩ := this
  exact ⟨_, len, cap, xs, rfl, ⟨hlx.symm, .inr ⟨b, o, rfl, hxs⟩⟩, by omega, hbytes, hl⟩
end
end Go.V

namespace Go.Proofs.YtbiamhoonhjodaaGreatDoor
open Go Go.V Go.Proofs Go.V.Gr
open Go.RowKit (Below)
theorem reach_lt : reachBytes ≤ 140737488355328 := by decide
theorem listv2 {cs : List Value} (h : cs.length = 2) : ∃ v0 v1, cs = [v0, v1] := by
  match cs, h with
  | [v0, v1], _ => exact ⟨v0, v1, rfl⟩
theorem listv5 {cs : List Value} (h : cs.length = 5) : ∃ v0 v1 v2 v3 v4, cs = [v0, v1, v2, v3, v4] := by
  match cs, h with
  | [v0, v1, v2, v3, v4], _ => exact ⟨v0, v1, v2, v3, v4, rfl⟩
def RNdZ (w : World) (f : Cells) (x : Nd) : Prop := RNd w f x ∧ x.fs.length ≤ 1000000000000000 ∧ x.ks.length ≤ 1000000000000000
section
variable {H : Type} {enc : TypeId × Value → H} {w : World}
theorem rd_ft (f : Nat → Option Value) (cs : List Value) (hl : cs.length = 2) (hf : ∀ j, j < 2 → f j = cs[j]?) (h : Rz enc Tryz.prog w 29 cs) : ∃ x, RFt w f x := by
  obtain ⟨v0, v1, rfl⟩ := listv2 hl
  have f0 : Rz enc Tryz.prog w 3 [v0] := Rz.fld Tryz.underlying29 h 0 rfl (n := 1) (by kernel_rfl)
  have f1 : Rz enc Tryz.prog w 9 [v1] := Rz.fld Tryz.underlying29 h 1 rfl (n := 1) (by kernel_rfl)
  obtain ⟨n, e1, _⟩ := f0.int Tryz.underlying3
  obtain ⟨s, e0, hs⟩ := f1.string Tryz.underlying9
  cases e0; cases e1
  exact ⟨(n, s), hf 0 (by omega), hf 1 (by omega), hs⟩
theorem rd_int (f : Nat → Option Value) (cs : List Value) (hl : cs.length = 1) (hf : ∀ j, j < 1 → f j = cs[j]?) (h : Rz enc Tryz.prog w 3 cs) : ∃ x, RInt w f x := by
  obtain ⟨n, rfl, _⟩ := h.int Tryz.underlying3
  exact ⟨n, hf 0 (by omega)⟩
theorem rd_nd (f : Nat → Option Value) (cs : List Value) (hl : cs.length = 5) (hf : ∀ j, j < 5 → f j = cs[j]?) (h : Rz enc Tryz.prog w 37 cs) : ∃ x, RNdZ w f x := by
  obtain ⟨v0, v1, v2, v3, v4, rfl⟩ := listv5 hl
  have f0 : Rz enc Tryz.prog w 9 [v0] := Rz.fld Tryz.underlying37 h 0 rfl (n := 1) (by kernel_rfl)
  have f1 : Rz enc Tryz.prog w 3 [v1] := Rz.fld Tryz.underlying37 h 1 rfl (n := 1) (by kernel_rfl)
  have f2 : Rz enc Tryz.prog w 9 [v2] := Rz.fld Tryz.underlying37 h 2 rfl (n := 1) (by kernel_rfl)
  have f3 : Rz enc Tryz.prog w 25 [v3] := Rz.fld Tryz.underlying37 h 3 rfl (n := 1) (by kernel_rfl)
  have f4 : Rz enc Tryz.prog w 35 [v4] := Rz.fld Tryz.underlying37 h 4 rfl (n := 1) (by kernel_rfl)
  obtain ⟨s0, e0, m0⟩ := f0.string Tryz.underlying9
  obtain ⟨n1, e1, m1⟩ := f1.int Tryz.underlying3
  obtain ⟨s2, e2, m2⟩ := f2.string Tryz.underlying9
  obtain ⟨a3, l3, c3, x3, e3, r3, k3, z3, _⟩ := f3.slice (e := 29) Tryz.underlying25 (sz := 2) (by kernel_rfl) (by omega) rd_ft
  obtain ⟨a4, l4, c4, x4, e4, r4, k4, z4, _⟩ := f4.slice (e := 3) Tryz.underlying35 (sz := 1) (by kernel_rfl) (by omega) rd_int
  cases e0; cases e1; cases e2; cases e3; cases e4
  have b3 : Tryz.prog.bytesOf 29 = 24 := by kernel_rfl
  have b4 : Tryz.prog.bytesOf 3 = 8 := by kernel_rfl
  rw [b3] at z3; rw [b4] at z4
  have hr := reach_lt
  have e3 := r3.1; have e4 := r4.1
  exact ⟨⟨s0, n1, s2, x3, x4⟩, ⟨hf 0 (by omega), hf 1 (by omega), hf 2 (by omega), m0, m2, ⟨a3, l3, c3, hf 3 (by omega), r3, k3⟩, ⟨a4, l4, c4, hf 4 (by omega), r4, k4⟩, m1⟩, by show x3.length ≤ _; omega, by show x4.length ≤ _; omega⟩
theorem rd_graph {cs : List Value} (h : Rz enc Tryz.prog w 24 cs) : ∃ r a l c xs, cs = [.int .i64 r, .slice a l c] ∧ RNds w a l xs ∧ Szd xs := by
  have hl : cs.length = 2 := by rw [Rz.len Tryz.underlying24 h]; kernel_rfl
  obtain ⟨v0, v1, rfl⟩ := listv2 hl
  have f0 : Rz enc Tryz.prog w 3 [v0] := Rz.fld Tryz.underlying24 h 0 rfl (n := 1) (by kernel_rfl)
  have f1 : Rz enc Tryz.prog w 22 [v1] := Rz.fld Tryz.underlying24 h 1 rfl (n := 1) (by kernel_rfl)
  obtain ⟨n0, e0, _⟩ := f0.int Tryz.underlying3
  obtain ⟨a, l, c, xs, e1, r1, k1, _⟩ := f1.slice (e := 37) Tryz.underlying22 (sz := 5) (by kernel_rfl) (by omega) rd_nd
  cases e0; cases e1
  refine ⟨n0, a, l, c, xs, rfl, ⟨⟨r1.1, r1.2.imp id fun ⟨b, o, e, h⟩ => ⟨b, o, e, fun i x hx => (h i x hx).1⟩⟩, k1⟩, fun x hx => ?_⟩
  rcases r1.2 with rfl | ⟨b, o, e, h⟩
  · cases hx
  · obtain ⟨i, hi⟩ := List.getElem?_of_mem hx
    exact (h i x hi).2
theorem rd_path {cs : List Value} (h : Rz enc Tryz.prog w 25 cs) : ∃ a l c fs, cs = [.slice a l c] ∧ RL 2 RFt w a l fs ∧ l ≤ c := by
  obtain ⟨a, l, c, xs, e1, r1, k1, _, hc⟩ := h.slice (e := 29) Tryz.underlying25 (sz := 2) (by kernel_rfl) (by omega) rd_ft
  exact ⟨a, l, c, xs, e1, ⟨r1, k1⟩, hc⟩
end
end Go.Proofs.YtbiamhoonhjodaaGreatDoor
