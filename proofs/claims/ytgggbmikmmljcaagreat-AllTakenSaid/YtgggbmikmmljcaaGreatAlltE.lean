/- A part of the proof: plain forms of functions and laws about them. -/
import Derived.Test.YtgggbmikmmljcaaGreatAlltD
namespace Go.Proofs.YtgggbmikmmljcaaGreat
open Go Go.V Go.Proofs
open Go.RowKit (Below)
section
variable {κ κ' : Ka RK} {N N' : Prm} {r : Rb} {w w' : World}
def cntT (D : List Bool) : Nat := D.countP id
theorem cntT_set {D : List Bool} {i : Nat} (h : D[i]? = some true) : cntT (D.set i false) < cntT D := by
  induction D generalizing i with
  | nil => simp at h
  | cons x xs ih =>
    cases i with
    | zero => simp at h; subst h; simp [cntT]
    | succ i =>
      have := ih (by simpa using h)
      unfold cntT at this ⊢
      rw [List.set_cons_succ, List.countP_cons, List.countP_cons]; omega
theorem setBool {b t : Nat} {D : List Bool} (hB : Blk w b (bools D) t) {i : Nat} (hi : i < D.length) (v : Bool) {F : World → Prop} (f : ∀ w', Blk w' b (bools (D.set i v)) t → But b w w' → F w') : SetK w ((⟨b, 0, none⟩ : Addr).add (i * 1)) (.bool v) F := by
  rw [add_mk, Nat.zero_add, Nat.mul_one]
  refine SetK.mk hB (by simp [bools]; omega) fun w' h' bu => f w' ?_ bu
  have e : (bools D).setIfInBounds i (.bool v) = bools (D.set i v) := by apply Array.ext'; simp [bools, List.map_set]
  rw [e] at h'; exact h'
theorem getBool {b t : Nat} {D : List Bool} (hB : Blk w b (bools D) t) {i : Nat} (hi : i < D.length) : w.cell? ((⟨b, 0, none⟩ : Addr).add (i * 1)) = some (.bool D[i]) := by
  rw [add_mk, Nat.zero_add, Nat.mul_one, hB.cell, bools_get hi]
theorem c75 (h : RR κ N r w) : Calls Tryz.prog 75 #[rp r] w fun en w' => ∃ a l c, en = .returned (.slice a l c) ∧ (∃ b D, a = some ⟨b, 0, none⟩ ∧ l = N.n ∧ D.length = N.n ∧ Blk w' b (bools D) 4 ∧ Ext w w' ∧ w.heap.size ≤ b) := by
  refine calls75 _ (fun a l c w' => ∃ b D, a = some ⟨b, 0, none⟩ ∧ l = N.n ∧ D.length = N.n ∧ Blk w' b (bools D) 4 ∧ Ext w w' ∧ w.heap.size ≤ b) w ?_
  obtain ⟨hn, -, -, hh, -⟩ := h.ln
  obtain ⟨a3, c3, hc3, hs3⟩ := h.c4
  refine ⟨_, _, _, hc3, ⟨by omega, by omega, by omega, by omega⟩, AllocK.mk fun b w5 hb hB hx5 => ?_⟩
  rw [Int.toNat_natCast, made_bools] at hB
  have hbn : κ b = none := h.fresh (by omega)
  -- behind a store into the list
  have put : ∀ {w1 w2 : World}, Ext w w1 → RR κ N r w1 → But b w1 w2 → Ext w w2 ∧ RR κ N r w2 := fun hx hr bu => ⟨bu.below hx (by omega), hr.but bu hbn⟩
  refine ⟨fun x w' => ∃ (k : Nat) (D : List Bool), x = k ∧ k ≤ N.n ∧ D.length = N.n ∧ Blk w' b (bools D) 4 ∧ RR κ N r w' ∧ Ext w w', fun x _ => N.n - x.toNat, ⟨⟨0, _, rfl, Nat.zero_le _, by simp, hB, h.ext hx5, hx5⟩, trivial⟩, ?_⟩
  rintro w8 _ ⟨k, D, rfl, hk, hD, hB8, h8, hx8⟩
  simp only [Int.toNat_natCast]
  refine BoolK.mk (fun t => ?_) (fun t => ?_)
  · have t := of_decide_eq_true t
    obtain ⟨a4, c4, hc4, hs4⟩ := h8.c4
    obtain ⟨g, o, m, u, own, out, last, f1, f2, f3, ha, hl, hc', rfl, hk2, hS, hsl, hle, _, c0, _, _, _, _, _, c5, _⟩ := h8.thAt hs4 (x := k) (by omega) t
    refine ⟨_, _, _, hc4, ⟨by omega, t⟩, f3, c5, ⟨by omega, t⟩, ?_⟩
    refine setBool hB8 (by omega) _ fun w14 hB14 bu => ?_
    obtain ⟨hx14, h14⟩ := put hx8 h8 bu
    rw [wrap_succ (by omega)]
    exact ⟨⟨k + 1, _, rfl, by omega, by simpa using hD, hB14, h14, hx14⟩, by simp; omega⟩
  refine ⟨fun p w' => ∃ (D : List Bool), D.length = N.n ∧ Blk w' b (bools D) 4 ∧ RR κ N r w' ∧ Ext w w', fun p w' => cntT (decB w' b N.n) + (if p then 1 else 0), ⟨⟨D, hD, hB8, h8, hx8⟩, trivial⟩, ?_⟩
  clear t hB hB8 h8 hD hx8 D hk k
  rintro w17 p18 ⟨D, hD, hB17, h17, hx17⟩
  refine BoolK.mk (fun tp => ?_) (fun tp => ⟨b, D, rfl, by trivial, hD, hB17, hx17, by omega⟩)
  subst tp
  have d17 := decB_eq hB17
  rw [hD] at d17
  refine ⟨fun p x w' => ∃ (k : Nat) (D' : List Bool), x = k ∧ k ≤ N.n ∧ D'.length = N.n ∧ Blk w' b (bools D') 4 ∧ RR κ N r w' ∧ Ext w w' ∧ cntT D' ≤ cntT D ∧ (p = true → cntT D' < cntT D), fun _ x _ => N.n - x.toNat, ⟨⟨0, D, rfl, Nat.zero_le _, hD, hB17, h17, hx17, Nat.le_refl _, fun e => by cases e⟩, trivial⟩, ?_⟩
  rintro w21 p22 _ ⟨k, D', rfl, hk, hD', hB21, h21, hx21, m1, m2⟩
  refine BoolK.mk (fun t => ?_) (fun t => ?_)
  rotate_left
  · have d21 := decB_eq hB21
    rw [hD'] at d21
    refine ⟨⟨D', hD', hB21, h21, hx21⟩, ?_⟩
    show cntT (decB w21 b N.n) + (if p22 = true then 1 else 0) < cntT (decB w17 b N.n) + (if true = true then 1 else 0)
    rw [d17, d21]
    cases p22
    · simp; omega
    · have := m2 rfl; simp; omega
  have t := of_decide_eq_true t
  obtain ⟨a4, c4, hc4, hs4⟩ := h21.c4
  obtain ⟨g, o, m, u, own, out, last, f1, f2, f3, ha, hl, hc', rfl, hk2, hS, hsl, hle, _, _, c0, c1, c2, c3, c4', c5, c6⟩ := h21.thAt hs4 (x := k) (by omega) t
  refine ⟨_, _, _, hc4, ⟨by omega, t⟩, own, c0, out, c1, last, c2, f1, c3, f2, c4', f3, c5, _, _, _, c6, ?_⟩
  refine AllocK.mk fun bb w35 hbb hBB hx35 => ?_
  simp only [add_mk, Nat.zero_add]
  refine SetK.mk hBB (by simp) fun w36 hBB bu1 => SetK.mk hBB (by simp) fun w37 hBB bu2 => SetK.mk hBB (by simp) fun w38 hBB bu3 => SetK.mk hBB (by simp) fun w39 hBB bu4 => SetK.mk hBB (by simp) fun w40 hBB bu5 => SetK.mk hBB (by simp) fun w41 hBB bu6 => SetK.mk hBB (by simp) fun w42 hBB bu7 => ?_
  have hBB : Blk w42 bb #[.int .i64 own, .int .i64 out, .int .i64 last, .bool f1, .bool f2, .bool f3, .slice ha hl hc'] _ := hBB
  have bu := (((((bu1.trans bu2).trans bu3).trans bu4).trans bu5).trans bu6).trans bu7
  have hbbn : κ bb = none := h21.fresh (by omega)
  have hlt := hB21.lt
  have hx42 : Ext w21 w42 := bu.below hx35 (by omega)
  have h42 : RR κ N r w42 := h21.ext hx42
  have hB42 := hB21.ext hx42
  have e2 : IntKind.wrap .i64 ((k : Int) + 1) = ((k + 1 : Nat) : Int) := wrap_succ (by omega)
  have gb := getBool hB42 (i := k) (by omega)
  simp only [add_mk, Nat.zero_add] at gb
  rw [e2]
  have go : ∀ {w2 : World}, Ext w42 w2 → (∃ (k2 : Nat) (D' : List Bool), ((k + 1 : Nat) : Int) = k2 ∧ k2 ≤ N.n ∧ D'.length = N.n ∧ Blk w2 b (bools D') 4 ∧ RR κ N r w2 ∧ Ext w w2 ∧ cntT D' ≤ cntT D ∧ (p22 = true → cntT D' < cntT D)) ∧ N.n - (((k + 1 : Nat) : Int)).toNat < N.n - (k : Int).toNat := fun hx2 =>
    ⟨⟨k + 1, D', rfl, by omega, hD', hB42.ext hx2, h42.ext hx2, (hx21.trans hx42).trans hx2, m1, m2⟩, by simp; omega⟩
  refine ⟨⟨by omega, t⟩, _, gb, BoolK.mk (fun _ => go (Ext.refl _)) (fun tl => ?_)⟩
  refine ⟨f1, by rw [hBB.cell]; rfl, BoolK.mk (fun _ => go (Ext.refl _)) (fun _ => ?_)⟩
  refine ⟨out, by rw [hBB.cell]; rfl, BoolK.mk (fun _ => go (Ext.refl _)) (fun _ => ?_)⟩
  refine ⟨f2, by rw [hBB.cell]; rfl, BoolK.mk (fun _ => go (Ext.refl _)) (fun _ => ?_)⟩
  refine ⟨fun _ x w' => ∃ j : Nat, x = j ∧ j ≤ N.n ∧ Ext w42 w', fun _ x _ => N.n - x.toNat, ⟨⟨0, rfl, Nat.zero_le _, Ext.refl _⟩, trivial⟩, ?_⟩
  rintro w49 p50 _ ⟨j, rfl, hj, hx49⟩
  refine BoolK.mk (fun tj => ?_) (fun tj => ?_)
  · have tj := of_decide_eq_true tj
    have e3 : IntKind.wrap .i64 ((j : Int) + 1) = ((j + 1 : Nat) : Int) := wrap_succ (by omega)
    rw [e3]
    have gj : ∀ {w2 : World}, Ext w42 w2 → (∃ j2 : Nat, ((j + 1 : Nat) : Int) = j2 ∧ j2 ≤ N.n ∧ Ext w42 w2) ∧ N.n - (((j + 1 : Nat) : Int)).toNat < N.n - (j : Int).toNat := fun hx2 => ⟨⟨j + 1, rfl, by omega, hx2⟩, by simp; omega⟩
    refine DrewK.mk fun w52 hx52 => ?_
    have hx52 := hx49.trans hx52
    have h52 := h42.ext hx52
    refine BoolK.mk (fun _ => gj hx52) (fun _ => ?_)
    have gb2 := getBool (hB42.ext hx52) (i := j) (by omega)
    simp only [add_mk, Nat.zero_add] at gb2
    refine ⟨⟨by omega, tj⟩, _, gb2, BoolK.mk (fun _ => ?_) (fun _ => gj hx52)⟩
    obtain ⟨a5, c5, hc5, hs5⟩ := h52.c4
    obtain ⟨g5, o5, m5, u5, own5, _, _, _, _, _, ha5, hl5, hc5', rfl, _, _, hsl5, hle5, _, d0, _, _, _, _, _, _, d6⟩ := h52.thAt hs5 (x := j) (by omega) tj
    refine ⟨_, _, _, hc5, ⟨by omega, tj⟩, own5, d0, own, by rw [(hBB.ext hx52).cell]; rfl, BoolK.mk (fun _ => ?_) (fun _ => gj hx52)⟩
    refine ⟨_, _, _, hc5, ⟨by omega, tj⟩, _, _, _, d6, (c69 h52 hsl5 (.inl rfl) (by omega) _).mono ?_⟩
    rintro en w64 ⟨p, rfl, rfl⟩
    exact ⟨_, rfl, gj hx52⟩
  · refine BoolK.mk (fun _ => ⟨⟨by omega, t⟩, ?_⟩) (fun _ => go hx49)
    have hB49 := hB42.ext hx49
    have hxx := (hx21.trans hx42).trans hx49
    have key := setBool hB49 (i := k) (by omega) false (F := fun w66 => (∃ (k2 : Nat) (D' : List Bool), ((k + 1 : Nat) : Int) = k2 ∧ k2 ≤ N.n ∧ D'.length = N.n ∧ Blk w66 b (bools D') 4 ∧ RR κ N r w66 ∧ Ext w w66 ∧ cntT D' ≤ cntT D ∧ (true = true → cntT D' < cntT D)) ∧ N.n - (((k + 1 : Nat) : Int)).toNat < N.n - (k : Int).toNat) fun w66 hB66 bu66 => by
      obtain ⟨hx66, h66⟩ := put hxx (h42.ext hx49) bu66
      have hl := cntT_set (D := D') (i := k) (by rw [List.getElem?_eq_getElem (by omega)]; simpa using tl)
      exact ⟨⟨k + 1, _, rfl, by omega, by simpa using hD', hB66, h66, hx66, by omega, fun _ => by omega⟩, by simp; omega⟩
    simpa only [add_mk, Nat.zero_add, Int.toNat_natCast] using key
theorem c63 (h : RR κ N r w) (x : Int) : Calls Tryz.prog 63 #[rp r, .int .i64 x] w fun en w' => ∃ s, en = .returned (.string s) ∧ Ext w w' := by
  refine calls63 _ _ (fun _ w' => Ext w w') w ?_
  refine (c59 h x).mono ?_
  rintro en w4 ⟨o, rfl, rfl, ho⟩
  refine ⟨_, rfl, BoolK.mk (fun _ => Ext.refl _) (fun t => ?_)⟩
  rcases ho with ⟨_, rfl⟩ | ⟨hT, g, q, m, u, rfl, hk, hu⟩
  · cases t
  obtain ⟨_, c4, y, rfl⟩ := ThP.cell hk hu h (j := 4) (by omega)
  refine ⟨y, by rw [add_mk]; exact c4, BoolK.mk (fun _ => Ext.refl _) (fun _ => ?_)⟩
  refine (c75 h).mono ?_
  rintro en w9 ⟨a, l, c, rfl, b, D, rfl, rfl, hD, hB, hx, _⟩
  obtain ⟨e, i1, i2⟩ := Prm.sub hT h.ln.1
  refine ⟨_, _, _, rfl, by rw [e]; exact ⟨i1, i2⟩, _, getBool hB (by rw [e]; omega), BoolK.mk (fun _ => hx) (fun _ => hx)⟩
end
end Go.Proofs.YtgggbmikmmljcaaGreat

namespace Go.Proofs.YtgggbmikmmljcaaGreat
open Go Go.V Go.Proofs
open Go.RowKit (Below)
/-! (*manystrand/manystrandref27.Count).take -/
def N74 (o1 : Option Addr) (x2 : Int) (x3 : Int) (s4 : ByteArray) (x5 : Int) (x6 : Int) (x7 : Int) (x8 : Int) (a9 : Option Addr) (l9 : Nat) (c9 : Nat) (K : World → Prop) (w : World) : Prop :=
 AllocK w (#[(.int .i64 x2), (.int .i64 x3), (.string s4), (.int .i64 x5), (.int .i64 x6), (.int .i64 x7), (.int .i64 x8), (.slice a9 l9 c9)]) 40 fun b10 w11 =>
 ∃ (x12 : Int), w11.cell? (b10.add 3) = some (.int .i64 x12) ∧
 (Calls Tryz.prog 59 #[(.pointer o1), (.int .i64 x12)] w11 fun e15 w14 =>
 ∃ (o13 : Option Addr), e15 = .returned (.pointer o13) ∧
 (∃ (x16 : Int), w14.cell? (b10.add 3) = some (.int .i64 x16) ∧
 (∃ (s17 : ByteArray), w14.cell? (b10.add 2) = some (.string s17) ∧
 (∃ (J18 : Bool → World → Prop),
 (∀ (w19 : World) (p20 : Bool), J18 p20 w19 →
 BoolK p20
 (∃ (x21 : Int), w19.cell? (b10.add 3) = some (.int .i64 x21) ∧
 (Calls Tryz.prog 63 #[(.pointer o1), (.int .i64 x21)] w19 fun e24 w23 =>
 ∃ (s22 : ByteArray), e24 = .returned (.string s22) ∧
 (BoolK (!((s22 : ByteArray).toList == ((⟨#[108, 105, 118, 101]⟩ : ByteArray) : ByteArray).toList))
 (∃ (x25 : Int), w23.cell? (b10.add 1) = some (.int .i64 x25) ∧
 (∃ (x26 : Int), w23.cell? b10 = some (.int .i64 x26) ∧
 (∃ (x27 : Int), w23.cell? (b10.add 3) = some (.int .i64 x27) ∧
 (Calls Tryz.prog 60 #[(.pointer o1), (.int .i64 x25), (.int .i64 x26), (.string (⟨#[103, 111, 110, 101]⟩ : ByteArray)), (.int .i64 x27), (.int .i64 0)] w23 fun e29 w28 =>
 e29 = .returned (.tuple #[]) ∧
 (K w28)))))
 (DrewK w23 fun w30 =>
 AddrK o13 fun b31 =>
 ∃ (x32 : Int), w30.cell? (b31.add 1) = some (.int .i64 x32) ∧
 (AddrK o1 fun b33 =>
 ∃ (a34 : Option Addr) (l34 : Nat) (c34 : Nat), w30.cell? (b33.add 3) = some (.slice a34 l34 c34) ∧
 (∃ (x35 : Int), w30.cell? (b10.add 1) = some (.int .i64 x35) ∧
 ((0 ≤ (x35 : Int) ∧ (x35 : Int) < (l34 : Nat)) ∧
 AddrK a34 fun b36 =>
 ∃ (x37 : Int), w30.cell? (b36.add ((x35 : Int).toNat * 1)) = some (.int .i64 x37) ∧
 (AddrK o13 fun b38 =>
 SetK w30 (b38.add 1) (.int .i64 (IntKind.wrap .i64 (x32 + 65536))) fun w39 =>
 AddrK o13 fun b40 =>
 SetK w39 (b40.add 2) (.int .i64 x37) fun w41 =>
 ∃ (x42 : Int), w41.cell? (b10.add 1) = some (.int .i64 x42) ∧
 (∃ (x43 : Int), w41.cell? b10 = some (.int .i64 x43) ∧
 (∃ (x44 : Int), w41.cell? (b10.add 3) = some (.int .i64 x44) ∧
 (Calls Tryz.prog 60 #[(.pointer o1), (.int .i64 x42), (.int .i64 x43), (.string (⟨#[103, 105, 118, 101]⟩ : ByteArray)), (.int .i64 x44), (.int .i64 65536)] w41 fun e46 w45 =>
 e46 = .returned (.tuple #[]) ∧
 (K w45))))))))))))
 (∃ (J47 : Bool → World → Prop),
 (∀ (w48 : World) (p49 : Bool), J47 p49 w48 →
 BoolK p49
 (DrewK w48 fun w50 =>
 AddrK o1 fun b51 =>
 ∃ (a52 : Option Addr) (l52 : Nat) (c52 : Nat), w50.cell? (b51.add 5) = some (.slice a52 l52 c52) ∧
 (∃ (x53 : Int), w50.cell? (b10.add 1) = some (.int .i64 x53) ∧
 ((0 ≤ (x53 : Int) ∧ (x53 : Int) < (l52 : Nat)) ∧
 AddrK a52 fun b54 =>
 ∃ (a55 : Option Addr) (l55 : Nat) (c55 : Nat), w50.cell? (b54.add ((x53 : Int).toNat * 1)) = some (.slice a55 l55 c55) ∧
 ((0 ≤ (IntKind.wrap .i64 (x16 - 1) : Int) ∧ (IntKind.wrap .i64 (x16 - 1) : Int) < (l55 : Nat)) ∧
 AddrK a55 fun b56 =>
 ∃ (x57 : Int), w50.cell? (b56.add ((IntKind.wrap .i64 (x16 - 1) : Int).toNat * 1)) = some (.int .i64 x57) ∧
 (∃ (x58 : Int), w50.cell? (b10.add 4) = some (.int .i64 x58) ∧
 ((0 ≤ (IntKind.wrap .i64 (x16 - 1) : Int) ∧ (IntKind.wrap .i64 (x16 - 1) : Int) < (l55 : Nat)) ∧
 AddrK a55 fun b59 =>
 SetK w50 (b59.add ((IntKind.wrap .i64 (x16 - 1) : Int).toNat * 1)) (.int .i64 (IntKind.wrap .i64 (x57 + x58))) fun w60 =>
 ∃ (s61 : ByteArray), w60.cell? (b10.add 2) = some (.string s61) ∧
 (BoolK ((s61 : ByteArray).toList == ((⟨#[103, 105, 118, 101]⟩ : ByteArray) : ByteArray).toList)
 (DrewK w60 fun w62 =>
 AddrK o1 fun b63 =>
 ∃ (a64 : Option Addr) (l64 : Nat) (c64 : Nat), w62.cell? (b63.add 6) = some (.slice a64 l64 c64) ∧
 (∃ (x65 : Int), w62.cell? (b10.add 1) = some (.int .i64 x65) ∧
 ((0 ≤ (x65 : Int) ∧ (x65 : Int) < (l64 : Nat)) ∧
 AddrK a64 fun b66 =>
 ∃ (a67 : Option Addr) (l67 : Nat) (c67 : Nat), w62.cell? (b66.add ((x65 : Int).toNat * 1)) = some (.slice a67 l67 c67) ∧
 (AddrK o1 fun b68 =>
 ∃ (a69 : Option Addr) (l69 : Nat) (c69 : Nat), w62.cell? (b68.add 7) = some (.slice a69 l69 c69) ∧
 (∃ (x70 : Int), w62.cell? (b10.add 1) = some (.int .i64 x70) ∧
 ((0 ≤ (x70 : Int) ∧ (x70 : Int) < (l69 : Nat)) ∧
 AddrK a69 fun b71 =>
 ∃ (a72 : Option Addr) (l72 : Nat) (c72 : Nat), w62.cell? (b71.add ((x70 : Int).toNat * 1)) = some (.slice a72 l72 c72) ∧
 ((0 ≤ (IntKind.wrap .i64 (x16 - 1) : Int) ∧ (IntKind.wrap .i64 (x16 - 1) : Int) < (l67 : Nat)) ∧
 AddrK a67 fun b73 =>
 SetK w62 (b73.add ((IntKind.wrap .i64 (x16 - 1) : Int).toNat * 1)) (.bool false) fun w74 =>
 (0 ≤ (IntKind.wrap .i64 (x16 - 1) : Int) ∧ (IntKind.wrap .i64 (x16 - 1) : Int) < (l72 : Nat)) ∧
 AddrK a72 fun b75 =>
 SetK w74 (b75.add ((IntKind.wrap .i64 (x16 - 1) : Int).toNat * 1)) (.bool false) fun w76 =>
 ∃ (x77 : Int), w76.cell? (b10.add 1) = some (.int .i64 x77) ∧
 (∃ (x78 : Int), w76.cell? (b10.add 3) = some (.int .i64 x78) ∧
 (Calls Tryz.prog 92 #[(.pointer o1), (.int .i64 x77), (.int .i64 x78)] w76 fun e80 w79 =>
 e80 = .returned (.tuple #[]) ∧
 (K w79))))))))))
 (K w60))))))))
 (BoolK ((s17 : ByteArray).toList == ((⟨#[98, 97, 99, 107]⟩ : ByteArray) : ByteArray).toList)
 (DrewK w48 fun w81 =>
 AddrK o13 fun b82 =>
 ∃ (x83 : Int), w81.cell? (b82.add 1) = some (.int .i64 x83) ∧
 (∃ (x84 : Int), w81.cell? (b10.add 4) = some (.int .i64 x84) ∧
 (AddrK o13 fun b85 =>
 SetK w81 (b85.add 1) (.int .i64 (IntKind.wrap .i64 (x83 - x84))) fun w86 =>
 K w86)))
 (BoolK ((s17 : ByteArray).toList == ((⟨#[114, 101, 110, 101, 119]⟩ : ByteArray) : ByteArray).toList)
 (AddrK o13 fun b87 =>
 ∃ (p88 : Bool), w48.cell? (b87.add 4) = some (.bool p88) ∧
 (BoolK p88
 (∃ (x89 : Int), w48.cell? (b10.add 1) = some (.int .i64 x89) ∧
 (∃ (x90 : Int), w48.cell? b10 = some (.int .i64 x90) ∧
 (∃ (x91 : Int), w48.cell? (b10.add 3) = some (.int .i64 x91) ∧
 (Calls Tryz.prog 60 #[(.pointer o1), (.int .i64 x89), (.int .i64 x90), (.string (⟨#[103, 111, 110, 101]⟩ : ByteArray)), (.int .i64 x91), (.int .i64 0)] w48 fun e93 w92 =>
 e93 = .returned (.tuple #[]) ∧
 (K w92)))))
 (DrewK w48 fun w94 =>
 AddrK o1 fun b95 =>
 ∃ (a96 : Option Addr) (l96 : Nat) (c96 : Nat), w94.cell? (b95.add 3) = some (.slice a96 l96 c96) ∧
 (∃ (x97 : Int), w94.cell? (b10.add 1) = some (.int .i64 x97) ∧
 ((0 ≤ (x97 : Int) ∧ (x97 : Int) < (l96 : Nat)) ∧
 AddrK a96 fun b98 =>
 ∃ (x99 : Int), w94.cell? (b98.add ((x97 : Int).toNat * 1)) = some (.int .i64 x99) ∧
 (AddrK o13 fun b100 =>
 SetK w94 (b100.add 2) (.int .i64 x99) fun w101 =>
 K w101))))))
 (BoolK ((s17 : ByteArray).toList == ((⟨#[103, 111, 110, 101]⟩ : ByteArray) : ByteArray).toList)
 (DrewK w48 fun w102 =>
 AddrK o1 fun b103 =>
 ∃ (a104 : Option Addr) (l104 : Nat) (c104 : Nat), w102.cell? (b103.add 8) = some (.slice a104 l104 c104) ∧
 (∃ (x105 : Int), w102.cell? (b10.add 1) = some (.int .i64 x105) ∧
 ((0 ≤ (x105 : Int) ∧ (x105 : Int) < (l104 : Nat)) ∧
 AddrK a104 fun b106 =>
 ∃ (a107 : Option Addr) (l107 : Nat) (c107 : Nat), w102.cell? (b106.add ((x105 : Int).toNat * 1)) = some (.slice a107 l107 c107) ∧
 (AddrK o1 fun b108 =>
 ∃ (a109 : Option Addr) (l109 : Nat) (c109 : Nat), w102.cell? (b108.add 6) = some (.slice a109 l109 c109) ∧
 (∃ (x110 : Int), w102.cell? (b10.add 1) = some (.int .i64 x110) ∧
 ((0 ≤ (x110 : Int) ∧ (x110 : Int) < (l109 : Nat)) ∧
 AddrK a109 fun b111 =>
 ∃ (a112 : Option Addr) (l112 : Nat) (c112 : Nat), w102.cell? (b111.add ((x110 : Int).toNat * 1)) = some (.slice a112 l112 c112) ∧
 (AddrK o1 fun b113 =>
 ∃ (a114 : Option Addr) (l114 : Nat) (c114 : Nat), w102.cell? (b113.add 7) = some (.slice a114 l114 c114) ∧
 (∃ (x115 : Int), w102.cell? (b10.add 1) = some (.int .i64 x115) ∧
 ((0 ≤ (x115 : Int) ∧ (x115 : Int) < (l114 : Nat)) ∧
 AddrK a114 fun b116 =>
 ∃ (a117 : Option Addr) (l117 : Nat) (c117 : Nat), w102.cell? (b116.add ((x115 : Int).toNat * 1)) = some (.slice a117 l117 c117) ∧
 ((0 ≤ (IntKind.wrap .i64 (x16 - 1) : Int) ∧ (IntKind.wrap .i64 (x16 - 1) : Int) < (l107 : Nat)) ∧
 AddrK a107 fun b118 =>
 SetK w102 (b118.add ((IntKind.wrap .i64 (x16 - 1) : Int).toNat * 1)) (.bool true) fun w119 =>
 (0 ≤ (IntKind.wrap .i64 (x16 - 1) : Int) ∧ (IntKind.wrap .i64 (x16 - 1) : Int) < (l112 : Nat)) ∧
 AddrK a112 fun b120 =>
 SetK w119 (b120.add ((IntKind.wrap .i64 (x16 - 1) : Int).toNat * 1)) (.bool false) fun w121 =>
 (0 ≤ (IntKind.wrap .i64 (x16 - 1) : Int) ∧ (IntKind.wrap .i64 (x16 - 1) : Int) < (l117 : Nat)) ∧
 AddrK a117 fun b122 =>
 SetK w121 (b122.add ((IntKind.wrap .i64 (x16 - 1) : Int).toNat * 1)) (.bool false) fun w123 =>
 ∃ (x124 : Int), w123.cell? (b10.add 1) = some (.int .i64 x124) ∧
 (∃ (x125 : Int), w123.cell? (b10.add 3) = some (.int .i64 x125) ∧
 (Calls Tryz.prog 91 #[(.pointer o1), (.int .i64 x124), (.int .i64 x125)] w123 fun e127 w126 =>
 e127 = .returned (.tuple #[]) ∧
 (K w126)))))))))))))
 (K w48))))) ∧
 (BoolK ((s17 : ByteArray).toList == ((⟨#[103, 105, 118, 101]⟩ : ByteArray) : ByteArray).toList)
 (J47 ((s17 : ByteArray).toList == ((⟨#[103, 105, 118, 101]⟩ : ByteArray) : ByteArray).toList) w19)
 (J47 ((s17 : ByteArray).toList == ((⟨#[112, 97, 115, 115]⟩ : ByteArray) : ByteArray).toList) w19)))) ∧
 (BoolK ((s17 : ByteArray).toList == ((⟨#[97, 115, 107]⟩ : ByteArray) : ByteArray).toList)
 (J18 ((s17 : ByteArray).toList == ((⟨#[97, 115, 107]⟩ : ByteArray) : ByteArray).toList) w14)
 (J18 ((s17 : ByteArray).toList == ((⟨#[109, 111, 114, 101]⟩ : ByteArray) : ByteArray).toList) w14))))))
def ann74 : Ann := (.two .nil (.two .nil (.two .nil (.two .nil (.one (.cut [(15, (.one .bool))] [0, 3, 4, 5, 14] (.two .nil (.two .nil .nil)) (.two (.two (.two .nil (.two (.two .nil .nil) .nil)) (.two (.anyC 21 (.take 0 (.take 1 (.take 2 (.take 3 (.take 4 (.take 5 (.take 6 (.take 7 (.take 8 (.take 9 (.take 10 (.take 11 (.take 12 (.take 13 (.take 14 (.take 15 (.take 16 (.one 17 (.take 18 (.take 19 (.one 20 .done)))))))))))))))))))))) .nil)) (.cut [(58, (.one .bool))] [0, 3, 4, 5, 14] (.two .nil (.two .nil .nil)) (.two (.two (.anyC 15 (.take 0 (.take 1 (.take 2 (.take 3 (.take 4 (.take 5 (.take 6 (.take 7 (.take 8 (.take 9 (.take 10 (.take 11 (.take 12 (.take 13 (.take 14 .done)))))))))))))))) (.two .nil (.two (.two (.anyC 22 (.take 0 (.take 1 (.take 2 (.take 3 (.take 4 (.take 5 (.take 6 (.take 7 (.take 8 (.take 9 (.take 10 (.take 11 (.take 12 (.take 13 (.take 14 (.take 15 (.take 16 (.take 17 (.take 18 (.one 19 (.take 20 (.one 21 .done))))))))))))))))))))))) .nil) .nil))) (.two .nil (.two (.anyC 9 (.take 0 (.take 1 (.take 2 (.take 3 (.take 4 (.take 5 (.take 6 (.take 7 (.take 8 .done)))))))))) (.two .nil (.two (.two (.two .nil (.two (.two .nil .nil) .nil)) (.anyC 11 (.take 0 (.take 1 (.take 2 (.take 3 (.take 4 (.take 5 (.take 6 (.take 7 (.take 8 (.take 9 (.take 10 .done))))))))))))) (.two .nil (.two (.two (.anyC 33 (.take 0 (.take 1 (.take 2 (.take 3 (.take 4 (.take 5 (.take 6 (.take 7 (.take 8 (.take 9 (.take 10 (.take 11 (.take 12 (.take 13 (.take 14 (.take 15 (.take 16 (.take 17 (.take 18 (.take 19 (.take 20 (.take 21 (.take 22 (.take 23 (.take 24 (.take 25 (.take 26 (.take 27 (.one 28 (.take 29 (.one 30 (.take 31 (.one 32 .done)))))))))))))))))))))))))))))))))) .nil) .nil)))))))))))))))
noncomputable def code74 : Code := match Tryz.f74.body with | some c => c | none => .skip
theorem wp74 (o1 : Option Addr) (x2 : Int) (x3 : Int) (s4 : ByteArray) (x5 : Int) (x6 : Int) (x7 : Int) (x8 : Int) (a9 : Option Addr) (l9 : Nat) (c9 : Nat) (K : World → Prop) (w : World) : WP Tryz.prog tab code74 ann74 (fnQ tab Tryz.f74.results.toList [] K) (argE 0 [(.pointer o1), (.agg #[(.int .i64 x2), (.int .i64 x3), (.string s4), (.int .i64 x5), (.int .i64 x6), (.int .i64 x7), (.int .i64 x8), (.slice a9 l9 c9)])]) w = N74 o1 x2 x3 s4 x5 x6 x7 x8 a9 l9 c9 K w := by kernel_rfl
theorem calls74 (o1 : Option Addr) (x2 : Int) (x3 : Int) (s4 : ByteArray) (x5 : Int) (x6 : Int) (x7 : Int) (x8 : Int) (a9 : Option Addr) (l9 : Nat) (c9 : Nat) (K : World → Prop) (w : World) (h : N74 o1 x2 x3 s4 x5 x6 x7 x8 a9 l9 c9 K w) : Calls Tryz.prog 74 #[(.pointer o1), (.agg #[(.int .i64 x2), (.int .i64 x3), (.string s4), (.int .i64 x5), (.int .i64 x6), (.int .i64 x7), (.int .i64 x8), (.slice a9 l9 c9)])] w fun en w' => en = .returned (.tuple #[]) ∧ K w' :=
 have e : (fun en w' => ExShs [] fun vs => en = .returned (tupled vs) ∧ ap [] K vs fun p => p w') = (fun (en : Ending) (w' : World) => en = .returned (.tuple #[]) ∧ K w') := by kernel_rfl
 e ▸ fn_sound tabOk mixed Tryz.func74 (by kernel_rfl : Tryz.f74.body = some code74) ann74 [(.pointer o1), (.agg #[(.int .i64 x2), (.int .i64 x3), (.string s4), (.int .i64 x5), (.int .i64 x6), (.int .i64 x7), (.int .i64 x8), (.slice a9 l9 c9)])] [] K w (by kernel_rfl) ((wp74 o1 x2 x3 s4 x5 x6 x7 x8 a9 l9 c9 K w).symm ▸ h)
end Go.Proofs.YtgggbmikmmljcaaGreat

namespace Go.Proofs.YtgggbmikmmljcaaGreat
open Go Go.V Go.Proofs
open Go.RowKit (Below)
/-! (*manystrand/manystrandref27.Count).Ask -/
def N24 (o1 : Option Addr) (x2 : Int) (x3 : Int) (K : Int → World → Prop) (w : World) : Prop :=
 Calls Tryz.prog 59 #[(.pointer o1), (.int .i64 x3)] w fun e6 w5 =>
 ∃ (o4 : Option Addr), e6 = .returned (.pointer o4) ∧
 (Calls Tryz.prog 58 #[(.pointer o1), (.int .i64 x2)] w5 fun e9 w8 =>
 ∃ (p7 : Bool), e9 = .returned (.bool p7) ∧
 (BoolK (!p7)
 (K 2 w8)
 (BoolK o4.isNone
 (K 5 w8)
 (AddrK o1 fun b10 =>
 ∃ (a11 : Option Addr) (l11 : Nat) (c11 : Nat), w8.cell? (b10.add 8) = some (.slice a11 l11 c11) ∧
 ((0 ≤ (x2 : Int) ∧ (x2 : Int) < (l11 : Nat)) ∧
 AddrK a11 fun b12 =>
 ∃ (a13 : Option Addr) (l13 : Nat) (c13 : Nat), w8.cell? (b12.add ((x2 : Int).toNat * 1)) = some (.slice a13 l13 c13) ∧
 ((0 ≤ (IntKind.wrap .i64 (x3 - 1) : Int) ∧ (IntKind.wrap .i64 (x3 - 1) : Int) < (l13 : Nat)) ∧
 AddrK a13 fun b14 =>
 ∃ (p15 : Bool), w8.cell? (b14.add ((IntKind.wrap .i64 (x3 - 1) : Int).toNat * 1)) = some (.bool p15) ∧
 (BoolK p15
 (K 200 w8)
 (∃ (J16 : Bool → World → Prop),
 (∀ (w17 : World) (p18 : Bool), J16 p18 w17 →
 BoolK p18
 (AddrK o1 fun b19 =>
 ∃ (a20 : Option Addr) (l20 : Nat) (c20 : Nat), w17.cell? (b19.add 6) = some (.slice a20 l20 c20) ∧
 ((0 ≤ (x2 : Int) ∧ (x2 : Int) < (l20 : Nat)) ∧
 AddrK a20 fun b21 =>
 ∃ (a22 : Option Addr) (l22 : Nat) (c22 : Nat), w17.cell? (b21.add ((x2 : Int).toNat * 1)) = some (.slice a22 l22 c22) ∧
 ((0 ≤ (IntKind.wrap .i64 (x3 - 1) : Int) ∧ (IntKind.wrap .i64 (x3 - 1) : Int) < (l22 : Nat)) ∧
 AddrK a22 fun b23 =>
 SetK w17 (b23.add ((IntKind.wrap .i64 (x3 - 1) : Int).toNat * 1)) (.bool true) fun w24 =>
 AddrK o4 fun b25 =>
 ∃ (x26 : Int), w24.cell? b25 = some (.int .i64 x26) ∧
 (Calls Tryz.prog 60 #[(.pointer o1), (.int .i64 x2), (.int .i64 x26), (.string (⟨#[97, 115, 107]⟩ : ByteArray)), (.int .i64 x3), (.int .i64 0)] w24 fun e28 w27 =>
 e28 = .returned (.tuple #[]) ∧
 (K 0 w27)))))
 (K 0 w17)) ∧
 (AddrK o4 fun b29 =>
 ∃ (x30 : Int), w8.cell? b29 = some (.int .i64 x30) ∧
 (BoolK ((x30 : Int) != x2)
 (AddrK o1 fun b31 =>
 ∃ (a32 : Option Addr) (l32 : Nat) (c32 : Nat), w8.cell? (b31.add 5) = some (.slice a32 l32 c32) ∧
 ((0 ≤ (x2 : Int) ∧ (x2 : Int) < (l32 : Nat)) ∧
 AddrK a32 fun b33 =>
 ∃ (a34 : Option Addr) (l34 : Nat) (c34 : Nat), w8.cell? (b33.add ((x2 : Int).toNat * 1)) = some (.slice a34 l34 c34) ∧
 ((0 ≤ (IntKind.wrap .i64 (x3 - 1) : Int) ∧ (IntKind.wrap .i64 (x3 - 1) : Int) < (l34 : Nat)) ∧
 AddrK a34 fun b35 =>
 ∃ (x36 : Int), w8.cell? (b35.add ((IntKind.wrap .i64 (x3 - 1) : Int).toNat * 1)) = some (.int .i64 x36) ∧
 (BoolK ((x36 : Int) == 0)
 (AddrK o1 fun b37 =>
 ∃ (a38 : Option Addr) (l38 : Nat) (c38 : Nat), w8.cell? (b37.add 6) = some (.slice a38 l38 c38) ∧
 ((0 ≤ (x2 : Int) ∧ (x2 : Int) < (l38 : Nat)) ∧
 AddrK a38 fun b39 =>
 ∃ (a40 : Option Addr) (l40 : Nat) (c40 : Nat), w8.cell? (b39.add ((x2 : Int).toNat * 1)) = some (.slice a40 l40 c40) ∧
 ((0 ≤ (IntKind.wrap .i64 (x3 - 1) : Int) ∧ (IntKind.wrap .i64 (x3 - 1) : Int) < (l40 : Nat)) ∧
 AddrK a40 fun b41 =>
 ∃ (p42 : Bool), w8.cell? (b41.add ((IntKind.wrap .i64 (x3 - 1) : Int).toNat * 1)) = some (.bool p42) ∧
 (J16 (!p42) w8))))
 (J16 false w8)))))
 (J16 false w8)))))))))))
def ann24 : Ann := (.two .nil (.two .nil (.two (.one (.two .nil (.two (.two .nil .nil) (.two .nil (.two (.two .nil .nil) (.two .nil (.two (.two .nil .nil) .nil))))))) (.two (.cut [(64, (.one .bool))] [0, 1, 2, 7] .nil (.two (.two .nil .nil) .nil)) (.two .nil .nil)))))
noncomputable def code24 : Code := match Tryz.f24.body with | some c => c | none => .skip
theorem wp24 (o1 : Option Addr) (x2 : Int) (x3 : Int) (K : Int → World → Prop) (w : World) : WP Tryz.prog tab code24 ann24 (fnQ tab Tryz.f24.results.toList [(.one (.int .i64))] K) (argE 0 [(.pointer o1), (.int .i64 x2), (.int .i64 x3)]) w = N24 o1 x2 x3 K w := by kernel_rfl
theorem calls24 (o1 : Option Addr) (x2 : Int) (x3 : Int) (K : Int → World → Prop) (w : World) (h : N24 o1 x2 x3 K w) : Calls Tryz.prog 24 #[(.pointer o1), (.int .i64 x2), (.int .i64 x3)] w fun en w' => ∃ (x43 : Int), en = .returned (.int .i64 x43) ∧ K x43 w' :=
 have e : (fun en w' => ExShs [(.one (.int .i64))] fun vs => en = .returned (tupled vs) ∧ ap [(.one (.int .i64))] K vs fun p => p w') = (fun (en : Ending) (w' : World) => ∃ (x43 : Int), en = .returned (.int .i64 x43) ∧ K x43 w') := by kernel_rfl
 e ▸ fn_sound tabOk mixed Tryz.func24 (by kernel_rfl : Tryz.f24.body = some code24) ann24 [(.pointer o1), (.int .i64 x2), (.int .i64 x3)] [(.one (.int .i64))] K w (by kernel_rfl) ((wp24 o1 x2 x3 K w).symm ▸ h)
end Go.Proofs.YtgggbmikmmljcaaGreat

namespace Go.Proofs.YtgggbmikmmljcaaGreat
open Go Go.V Go.Proofs
open Go.RowKit (Below)
section
variable {κ κ' : Ka RK} {N N' : Prm} {r : Rb} {w w' : World}
theorem RR.elB (h : RR κ N r w) {g0 : Nat} (tb : TabR κ N .tabB .bools g0 w) {x y : Int} (hx : N.isS x) (hy : N.isT y) : ∃ a l c g o n u v, w.cell? ((⟨g0, 0, none⟩ : Addr).add (x.toNat * 1)) = some (.slice a l c) ∧ (0 ≤ IntKind.wrap .i64 (y - 1) ∧ IntKind.wrap .i64 (y - 1) < (l : Nat)) ∧
    a = some ⟨g, o, none⟩ ∧ κ g = some (.bools, n, u) ∧ o + (IntKind.wrap .i64 (y - 1)).toNat * 1 < u ∧ w.cell? ((⟨g, o, none⟩ : Addr).add ((IntKind.wrap .i64 (y - 1)).toNat * 1)) = some (.bool v) := by
  obtain ⟨a, l, c, h1, h2, h3, _⟩ := tb.at_ hx.1 hx.2
  obtain ⟨e, q1, q2⟩ := Prm.sub hy h.ln.1
  rw [e]
  obtain ⟨g, o, n, u, v, rfl, hk, hu, hc, y, rfl⟩ := h.el h2 rfl (x := y - 1) q1 (by omega)
  exact ⟨_, l, c, g, o, n, u, y, h1, ⟨q1, by omega⟩, rfl, hk, by omega, hc⟩
theorem RR.setB (h : RR κ N r w) {g o n u i : Nat} (hk : κ g = some (.bools, n, u)) (hu : o + i < u) (v : Bool) {F : World → Prop} (f : ∀ w', RR κ N r w' → PkR κ κ w w' → But g w w' → F w') : SetK w ((⟨g, o, none⟩ : Addr).add i) (.bool v) F := by
  rw [add_mk]
  exact h.setAt hk hu (by simp [NT]) (by rw [show (o + i) % Kr.sz .bools = 0 from Nat.mod_one _]; exact ⟨v, rfl⟩) f
theorem box8 {b t : Nat} {x0 x1 : Int} {s : ByteArray} {x3 x4 x5 x6 : Int} {a : Option Addr} {l c : Nat} (h : Blk w b #[.int .i64 x0, .int .i64 x1, .string s, .int .i64 x3, .int .i64 x4, .int .i64 x5, .int .i64 x6, .slice a l c] t) :
    w.cell? (⟨b, 0, none⟩ : Addr) = some (.int .i64 x0) ∧ w.cell? ((⟨b, 0, none⟩ : Addr).add 1) = some (.int .i64 x1) ∧ w.cell? ((⟨b, 0, none⟩ : Addr).add 2) = some (.string s) ∧ w.cell? ((⟨b, 0, none⟩ : Addr).add 3) = some (.int .i64 x3) ∧ w.cell? ((⟨b, 0, none⟩ : Addr).add 4) = some (.int .i64 x4) :=
  ⟨by rw [h.cell]; rfl, by rw [add_mk, h.cell]; rfl, by rw [add_mk, h.cell]; rfl, by rw [add_mk, h.cell]; rfl, by rw [add_mk, h.cell]; rfl⟩
theorem PostR.toP {d : Nat} (q : PostR κ (N.addF d) r w w') (hd : d ≤ N.p + 1) (h : RR κ N r w) (hf : N.f + N.p + 1 ≤ 10000000) : PostR κ (N.addF (N.p + 1)) r w w' :=
  q.grow ⟨rfl, rfl, Nat.le_refl _, Nat.le_refl _, Nat.le_refl _, by show N.f + _ ≤ N.f + _; omega⟩ (h.lim (by omega))
theorem clkAt (h : RR κ N r w) {a : Option Addr} {c : Nat} (hs : Sl Kr κ .clk (a, N.s, c)) {x : Int} (hx : N.isS x) : ∃ g o y, a = some ⟨g, o, none⟩ ∧ w.cell? ((⟨g, o, none⟩ : Addr).add (x.toNat * 1)) = some (.int .i64 y) := by
  obtain ⟨g, o, n, u, v, rfl, _, _, hc, y, rfl⟩ := h.el hs rfl hx.1 hx.2
  exact ⟨g, o, y, rfl, hc⟩
theorem c74 (h : RR κ N r w) {x0 x1 : Int} (s : ByteArray) {x3 : Int} (x4 x5 x6 : Int) (a : Option Addr) (l c : Nat) (hx0 : N.isS x0) (hx1 : N.isS x1) (hx3 : N.isT x3) (hf : N.f + N.p + 1 ≤ 10000000) :
    Calls Tryz.prog 74 #[rp r, .agg #[.int .i64 x0, .int .i64 x1, .string s, .int .i64 x3, .int .i64 x4, .int .i64 x5, .int .i64 x6, .slice a l c]] w fun en w' => en = .returned (.tuple #[]) ∧ PostR κ (N.addF (N.p + 1)) r w w' := by
  refine calls74 _ _ _ _ _ _ _ _ _ _ _ _ w ?_
  refine AllocK.mk fun b w11 hb hB hx11 => ?_
  have hbn : κ b = none := h.fresh (by omega)
  have h11 := h.ext hx11
  have p11 := h.pkExt hx11
  obtain ⟨q0, q1, q2, q3, q4⟩ := box8 hB
  have e1 := Prm.sub hx3 h.ln.1
  refine ⟨_, q3, (c59 h11 x3).mono ?_⟩
  rintro en w14 ⟨o, rfl, rfl, ho⟩
  rcases ho with ⟨hn, _⟩ | ⟨_, g, q, m, u, rfl, hk, hu⟩
  · exact absurd hx3 hn
  have same : ∀ {w2 : World}, RR κ N r w2 → PkR κ κ w w2 → PostR κ (N.addF (N.p + 1)) r w w2 := fun h2 p2 => PostR.toP (d := 0) (PostR.mk h2 p2) (Nat.zero_le _) h hf
  -- a message flies
  have snd : ∀ {w2 : World} {x y : Int} {kd : ByteArray} {n : Int}, RR κ N r w2 → PkR κ κ w w2 → N.isS x → N.isS y → Calls Tryz.prog 60 #[rp r, .int .i64 x, .int .i64 y, .string kd, .int .i64 x3, .int .i64 n] w2 fun en w' => en = .returned (.tuple #[]) ∧ PostR κ (N.addF (N.p + 1)) r w w' := fun h2 p2 hx hy =>
    (c60 h2 _ _ hx hy hx3 (by omega)).mono fun en w5 ⟨e, q⟩ => ⟨e, PostR.toP (d := 1) (q.trans p2) (by omega) h hf⟩
  refine ⟨_, rfl, x3, q3, s, q2, fun _ w' => w14 = w', ?_, ?_⟩
  rotate_left
  · exact BoolK.mk (fun _ => rfl) (fun _ => rfl)
  rintro _ p rfl
  refine BoolK.mk (fun _ => ?_) (fun _ => ?_)
  · -- ask, more
    refine ⟨x3, q3, (c63 h11 x3).mono ?_⟩
    rintro en w23 ⟨st, rfl, hx23⟩
    have h23 := h11.ext hx23
    have p23 := p11.trans (h11.pkExt hx23)
    obtain ⟨q0, q1, q2, q3, q4⟩ := box8 (hB.ext hx23)
    refine ⟨_, rfl, BoolK.mk (fun _ => ⟨_, q1, _, q0, _, q3, snd h23 p23 hx1 hx0⟩) (fun _ => ?_)⟩
    refine h23.drew fun w30 h30 hx30 p30 => ?_
    have hB30 := (hB.ext hx23).ext hx30
    obtain ⟨q0, q1, q2, q3, q4⟩ := box8 hB30
    obtain ⟨_, t1, y1, rfl⟩ := ThP.cell hk hu h30 (j := 1) (by omega)
    obtain ⟨a3, c3, hc3, hs3⟩ := h30.c3
    obtain ⟨g3, o3, y3, rfl, hy3⟩ := clkAt h30 hs3 hx1
    refine ⟨y1, by rw [add_mk]; exact t1, _, _, _, hc3, x1, q1, hx1, y3, hy3, ?_⟩
    show SetK w30 ((⟨g, q * 7, none⟩ : Addr).add 1) _ _
    rw [add_mk]
    have hne : b ≠ g := fun e => by rw [e, hk] at hbn; cases hbn
    refine h30.setAt hk (i := q * 7 + 1) (by omega) (by simp [NT]) (by rw [show (q * 7 + 1) % Kr.sz .ths = 1 by show (q * 7 + 1) % 7 = 1; omega]; exact ⟨_, rfl⟩) fun w39 h39 p39 bu39 => ?_
    show SetK w39 ((⟨g, q * 7, none⟩ : Addr).add 2) _ _
    rw [add_mk]
    refine h39.setAt hk (i := q * 7 + 2) (by omega) (by simp [NT]) (by rw [show (q * 7 + 2) % Kr.sz .ths = 2 by show (q * 7 + 2) % 7 = 2; omega]; exact ⟨_, rfl⟩) fun w41 h41 p41 bu41 => ?_
    obtain ⟨q0, q1, q2, q3, q4⟩ := box8 (bu41.blk (bu39.blk hB30 hne) hne)
    exact ⟨_, q1, _, q0, _, q3, snd h41 (((p23.trans p30).trans p39).trans p41) hx1 hx0⟩
  refine ⟨fun _ w' => w14 = w', ?_, ?_⟩
  rotate_left
  · exact BoolK.mk (fun _ => rfl) (fun _ => rfl)
  rintro _ p rfl
  refine BoolK.mk (fun _ => ?_) (fun _ => ?_)
  · -- give, pass
    refine h11.drew fun w50 h50 hx50 p50 => ?_
    have hB50 := hB.ext hx50
    obtain ⟨q0, q1, q2, q3, q4⟩ := box8 hB50
    obtain ⟨a1, l1, c1, g1, o1, n1, u1, v1, r1, r2, rfl, hk1, hu1, hc1⟩ := h50.elW hx1 hx3
    refine ⟨_, _, _, h50.c5, x1, q1, hx1, _, l1, c1, r1, r2, v1, hc1, x4, q4, r2, ?_⟩
    refine h50.setW hk1 hu1 _ fun w60 h60 p60 bu60 => ?_
    have hne : b ≠ g1 := fun e => by rw [e, hk1] at hbn; cases hbn
    have hB60 := bu60.blk hB50 hne
    obtain ⟨q0, q1, q2, q3, q4⟩ := box8 hB60
    refine ⟨s, q2, BoolK.mk (fun _ => ?_) (fun _ => same h60 ((p11.trans p50).trans p60))⟩
    refine h60.drew fun w62 h62 hx62 p62 => ?_
    have hB62 := hB60.ext hx62
    obtain ⟨q0, q1, q2, q3, q4⟩ := box8 hB62
    obtain ⟨a1, l1, c1, g1, o1, n1, u1, v1, r1, r2, rfl, hk1, hu1, hc1⟩ := h62.elB h62.ta hx1 hx3
    obtain ⟨a2, l2, c2, g2, o2, n2, u2, v2, s1, s2, rfl, hk2, hu2, hc2⟩ := h62.elB h62.tm hx1 hx3
    refine ⟨_, _, _, h62.c6, x1, q1, hx1, _, l1, c1, r1, _, _, _, h62.c7, x1, q1, hx1, _, l2, c2, s1, r2, ?_⟩
    refine h62.setB hk1 hu1 _ fun w74 h74 p74 bu74 => ?_
    refine ⟨s2, h74.setB hk2 hu2 _ fun w76 h76 p76 bu76 => ?_⟩
    have hB76 := bu76.blk (bu74.blk hB62 (fun e => by rw [e, hk1] at hbn; cases hbn)) (fun e => by rw [e, hk2] at hbn; cases hbn)
    obtain ⟨q0, q1, q2, q3, q4⟩ := box8 hB76
    refine ⟨x1, q1, x3, q3, (c92 h76 hx1 hx3 (by omega)).mono ?_⟩
    rintro en w79 ⟨rfl, q⟩
    exact ⟨rfl, q.trans (((((p11.trans p50).trans p60).trans p62).trans p74).trans p76)⟩
  refine BoolK.mk (fun _ => ?_) (fun _ => ?_)
  · -- back
    refine h11.drew fun w81 h81 hx81 p81 => ?_
    obtain ⟨q0, q1, q2, q3, q4⟩ := box8 (hB.ext hx81)
    obtain ⟨_, t1, y1, rfl⟩ := ThP.cell hk hu h81 (j := 1) (by omega)
    refine ⟨y1, by rw [add_mk]; exact t1, x4, q4, ?_⟩
    show SetK w81 ((⟨g, q * 7, none⟩ : Addr).add 1) _ _
    rw [add_mk]
    exact ThP.set hk hu h81 (j := 1) (by omega) ⟨_, rfl⟩ fun w86 h86 p86 => same h86 ((p11.trans p81).trans p86)
  refine BoolK.mk (fun _ => ?_) (fun _ => ?_)
  · -- renew
    obtain ⟨_, t4, y4, rfl⟩ := ThP.cell hk hu h11 (j := 4) (by omega)
    refine ⟨y4, by rw [add_mk]; exact t4, BoolK.mk (fun _ => ⟨_, q1, _, q0, _, q3, snd h11 p11 hx1 hx0⟩) (fun _ => ?_)⟩
    refine h11.drew fun w94 h94 hx94 p94 => ?_
    obtain ⟨q0, q1, q2, q3, q4⟩ := box8 (hB.ext hx94)
    obtain ⟨a3, c3, hc3, hs3⟩ := h94.c3
    obtain ⟨g3, o3, y3, rfl, hy3⟩ := clkAt h94 hs3 hx1
    refine ⟨_, _, _, hc3, x1, q1, hx1, y3, hy3, ?_⟩
    show SetK w94 ((⟨g, q * 7, none⟩ : Addr).add 2) _ _
    rw [add_mk]
    exact ThP.set hk hu h94 (j := 2) (by omega) ⟨_, rfl⟩ fun w101 h101 p101 => same h101 ((p11.trans p94).trans p101)
  refine BoolK.mk (fun _ => ?_) (fun _ => same h11 p11)
  -- gone
  refine h11.drew fun w102 h102 hx102 p102 => ?_
  have hB102 := hB.ext hx102
  obtain ⟨q0, q1, q2, q3, q4⟩ := box8 hB102
  obtain ⟨a1, l1, c1, g1, o1, n1, u1, v1, r1, r2, rfl, hk1, hu1, hc1⟩ := h102.elB h102.tl hx1 hx3
  obtain ⟨a2, l2, c2, g2, o2, n2, u2, v2, s1, s2, rfl, hk2, hu2, hc2⟩ := h102.elB h102.ta hx1 hx3
  obtain ⟨a3, l3, c3, g3, o3, n3, u3, v3, z1, z2, rfl, hk3, hu3, hc3⟩ := h102.elB h102.tm hx1 hx3
  refine ⟨_, _, _, h102.c8, x1, q1, hx1, _, l1, c1, r1, _, _, _, h102.c6, x1, q1, hx1, _, l2, c2, s1, _, _, _, h102.c7, x1, q1, hx1, _, l3, c3, z1, r2, ?_⟩
  refine h102.setB hk1 hu1 _ fun w119 h119 p119 bu119 => ⟨s2, h119.setB hk2 hu2 _ fun w121 h121 p121 bu121 => ⟨z2, h121.setB hk3 hu3 _ fun w123 h123 p123 bu123 => ?_⟩⟩
  have hB123 := bu123.blk (bu121.blk (bu119.blk hB102 (fun e => by rw [e, hk1] at hbn; cases hbn)) (fun e => by rw [e, hk2] at hbn; cases hbn)) (fun e => by rw [e, hk3] at hbn; cases hbn)
  obtain ⟨q0, q1, q2, q3, q4⟩ := box8 hB123
  refine ⟨x1, q1, x3, q3, (c91 h123 hx1 hx3).mono ?_⟩
  rintro en w126 ⟨rfl, q⟩
  exact ⟨rfl, PostR.toP (d := 0) (q.trans (((((p11.trans p102).trans p119).trans p121).trans p123))) (Nat.zero_le _) h hf⟩
theorem c24 (h : RR κ N r w) (x y : Int) (hf : N.f + 1 ≤ 10000000) :
    Calls Tryz.prog 24 #[rp r, .int .i64 x, .int .i64 y] w fun en w' => ∃ e, en = .returned (.int .i64 e) ∧ PostR κ (N.addF 1) r w w' := by
  refine calls24 _ _ _ (fun _ w' => PostR κ (N.addF 1) r w w') w ?_
  have same : ∀ w1, w1 = w → PostR κ (N.addF 1) r w w1 := by rintro _ rfl; exact PostR.mk (h.grow (N.le_addF 1) (h.lim hf)) (Pk.refl _ _ _)
  refine (c59 h y).mono ?_
  rintro en w5 ⟨o, rfl, rfl, ho⟩
  refine ⟨_, rfl, (c58 h x).mono ?_⟩
  rintro en w4 ⟨p, rfl, hp, rfl⟩
  refine ⟨_, rfl, BoolK.mk (fun _ => same _ rfl) (fun t => ?_)⟩
  have hS : N.isS x := by rw [hp] at t; simpa using t
  refine BoolK.mk (fun _ => same _ rfl) (fun t => ?_)
  rcases ho with ⟨_, rfl⟩ | ⟨hT, g, q, m, u, rfl, hk, hu⟩
  · cases t
  obtain ⟨a1, l1, c1, g1, o1, n1, u1, v1, r1, r2, rfl, hk1, hu1, hc1⟩ := h.elB h.tl hS hT
  refine ⟨_, _, _, h.c8, hS, _, l1, c1, r1, r2, v1, hc1, BoolK.mk (fun _ => same _ rfl) (fun _ => ?_)⟩
  obtain ⟨_, t0, y0, rfl, hS0⟩ := ThP.cell hk hu h (j := 0) (by omega)
  obtain ⟨a2, l2, c2, g2, o2, n2, u2, v2, s1, s2, rfl, hk2, hu2, hc2⟩ := h.elB h.ta hS hT
  refine ⟨fun _ w' => w4 = w', ?_, ?_⟩
  · rintro _ p2 rfl
    refine BoolK.mk (fun _ => ?_) (fun _ => same _ rfl)
    refine ⟨_, _, _, h.c6, hS, _, l2, c2, s1, s2, ?_⟩
    refine h.setB hk2 hu2 _ fun w24 h24 p24 bu => ?_
    obtain ⟨_, t0, y0, rfl, hS0⟩ := ThP.cell hk hu h24 (j := 0) (by omega)
    refine ⟨y0, t0, (c60 h24 _ _ hS hS0 hT hf).mono ?_⟩
    rintro en w34 ⟨rfl, q⟩
    exact ⟨rfl, q.trans p24⟩
  · refine ⟨y0, t0, BoolK.mk (fun _ => ?_) (fun _ => rfl)⟩
    refine h.rdW hS hT fun v => BoolK.mk (fun _ => ?_) (fun _ => rfl)
    exact ⟨_, _, _, h.c6, hS, _, l2, c2, s1, s2, v2, hc2, rfl⟩
end
end Go.Proofs.YtgggbmikmmljcaaGreat

namespace Go.Proofs.YtgggbmikmmljcaaGreat
open Go Go.V Go.Proofs
open Go.RowKit (Below)
/-! (*manystrand/manystrandref27.Count).Deliver -/
def N32 (o1 : Option Addr) (x2 : Int) (K : Int → World → Prop) (w : World) : Prop :=
 BoolK (decide ((x2 : Int) < 0))
 (K 2 w)
 (AddrK o1 fun b3 =>
 ∃ (a4 : Option Addr) (l4 : Nat) (c4 : Nat), w.cell? (b3.add 11) = some (.slice a4 l4 c4) ∧
 (BoolK (decide ((x2 : Int) ≥ (l4 : Nat)))
 (K 2 w)
 (AddrK o1 fun b5 =>
 ∃ (a6 : Option Addr) (l6 : Nat) (c6 : Nat), w.cell? (b5.add 11) = some (.slice a6 l6 c6) ∧
 ((0 ≤ (x2 : Int) ∧ (x2 : Int) < (l6 : Nat)) ∧
 AddrK a6 fun b7 =>
 ∃ (x8 : Int), w.cell? ((b7.add ((x2 : Int).toNat * 8)).add 0) = some (.int .i64 x8) ∧
 (∃ (x9 : Int), w.cell? ((b7.add ((x2 : Int).toNat * 8)).add 1) = some (.int .i64 x9) ∧
 (∃ (s10 : ByteArray), w.cell? ((b7.add ((x2 : Int).toNat * 8)).add 2) = some (.string s10) ∧
 (∃ (x11 : Int), w.cell? ((b7.add ((x2 : Int).toNat * 8)).add 3) = some (.int .i64 x11) ∧
 (∃ (x12 : Int), w.cell? ((b7.add ((x2 : Int).toNat * 8)).add 4) = some (.int .i64 x12) ∧
 (∃ (x13 : Int), w.cell? ((b7.add ((x2 : Int).toNat * 8)).add 5) = some (.int .i64 x13) ∧
 (∃ (x14 : Int), w.cell? ((b7.add ((x2 : Int).toNat * 8)).add 6) = some (.int .i64 x14) ∧
 (∃ (a15 : Option Addr) (l15 : Nat) (c15 : Nat), w.cell? ((b7.add ((x2 : Int).toNat * 8)).add 7) = some (.slice a15 l15 c15) ∧
 (AllocK w (#[.int .i64 0, .int .i64 0, .string ⟨#[]⟩, .int .i64 0, .int .i64 0, .int .i64 0, .int .i64 0, .slice none 0 0]) 40 fun b16 w17 =>
 SetK w17 (b16.add 0) (.int .i64 x8) fun w18 =>
 SetK w18 (b16.add 1) (.int .i64 x9) fun w19 =>
 SetK w19 (b16.add 2) (.string s10) fun w20 =>
 SetK w20 (b16.add 3) (.int .i64 x11) fun w21 =>
 SetK w21 (b16.add 4) (.int .i64 x12) fun w22 =>
 SetK w22 (b16.add 5) (.int .i64 x13) fun w23 =>
 SetK w23 (b16.add 6) (.int .i64 x14) fun w24 =>
 SetK w24 (b16.add 7) (.slice a15 l15 c15) fun w25 =>
 DrewK w25 fun w26 =>
 AddrK o1 fun b27 =>
 ∃ (a28 : Option Addr) (l28 : Nat) (c28 : Nat), w26.cell? (b27.add 11) = some (.slice a28 l28 c28) ∧
 (0 ≤ (x2 : Int) ∧
 ((0 ≤ (x2 : Int).toNat ∧ (x2 : Int).toNat ≤ c28) ∧
 (AddrK o1 fun b29 =>
 ∃ (a30 : Option Addr) (l30 : Nat) (c30 : Nat), w26.cell? (b29.add 11) = some (.slice a30 l30 c30) ∧
 (0 ≤ (IntKind.wrap .i64 (x2 + 1) : Int) ∧
 (((IntKind.wrap .i64 (x2 + 1) : Int).toNat ≤ l30 ∧ l30 ≤ c30) ∧
 (AllocK w26 (#[]) 40 fun b31 w32 =>
 Cel w26 w32 ∧
 (∃ (a33 : Option Addr), ∃ (l33 : Nat), ∃ (c33 : Nat), ∃ (w34 : World), Sem.run Tryz.prog (Builtin.append_ #[34, 34] 34 #[(.slice (some b31) 0 0), (.slice (if c28 = 0 then a28 else (a28).map (·.add (0 * 8))) ((x2 : Int).toNat - 0) (c28 - 0))]) w32 = .ok (.slice a33 l33 c33) w34 ∧
 (Cel w26 w34 ∧
 (∃ (a35 : Option Addr), ∃ (l35 : Nat), ∃ (c35 : Nat), ∃ (w36 : World), Sem.run Tryz.prog (Builtin.append_ #[34, 34] 34 #[(.slice a33 l33 c33), (.slice (if c30 = (IntKind.wrap .i64 (x2 + 1) : Int).toNat then a30 else (a30).map (·.add ((IntKind.wrap .i64 (x2 + 1) : Int).toNat * 8))) (l30 - (IntKind.wrap .i64 (x2 + 1) : Int).toNat) (c30 - (IntKind.wrap .i64 (x2 + 1) : Int).toNat))]) w34 = .ok (.slice a35 l35 c35) w36 ∧
 (AddrK o1 fun b37 =>
 SetK w36 (b37.add 11) (.slice a35 l35 c35) fun w38 =>
 ∃ (x39 : Int), w38.cell? (b16.add 0) = some (.int .i64 x39) ∧
 (∃ (x40 : Int), w38.cell? (b16.add 1) = some (.int .i64 x40) ∧
 (∃ (s41 : ByteArray), w38.cell? (b16.add 2) = some (.string s41) ∧
 (∃ (x42 : Int), w38.cell? (b16.add 3) = some (.int .i64 x42) ∧
 (∃ (x43 : Int), w38.cell? (b16.add 4) = some (.int .i64 x43) ∧
 (∃ (x44 : Int), w38.cell? (b16.add 5) = some (.int .i64 x44) ∧
 (∃ (x45 : Int), w38.cell? (b16.add 6) = some (.int .i64 x45) ∧
 (∃ (a46 : Option Addr) (l46 : Nat) (c46 : Nat), w38.cell? (b16.add 7) = some (.slice a46 l46 c46) ∧
 (Calls Tryz.prog 74 #[(.pointer o1), (.agg #[(.int .i64 x39), (.int .i64 x40), (.string s41), (.int .i64 x42), (.int .i64 x43), (.int .i64 x44), (.int .i64 x45), (.slice a46 l46 c46)])] w38 fun e48 w47 =>
 e48 = .returned (.tuple #[]) ∧
 (K 0 w47)))))))))))))))))))))))))))))))
def ann32 : Ann := (.two .nil (.two (.two .nil (.two (.two .nil .nil) .nil)) (.two .nil (.two (.anyC 20 (.take 0 (.take 2 (.take 3 (.take 4 (.take 5 (.take 6 (.take 7 (.take 9 (.take 10 (.take 11 (.take 12 (.take 13 (.take 14 (.take 15 (.one 1 (.one 8 (.one 16 (.take 17 (.take 18 (.one 19 .done))))))))))))))))))))) (.two .nil (.two .nil .nil))))))
noncomputable def code32 : Code := match Tryz.f32.body with | some c => c | none => .skip
theorem wp32 (o1 : Option Addr) (x2 : Int) (K : Int → World → Prop) (w : World) : WP Tryz.prog tab code32 ann32 (fnQ tab Tryz.f32.results.toList [(.one (.int .i64))] K) (argE 0 [(.pointer o1), (.int .i64 x2)]) w = N32 o1 x2 K w := by kernel_rfl
theorem calls32 (o1 : Option Addr) (x2 : Int) (K : Int → World → Prop) (w : World) (h : N32 o1 x2 K w) : Calls Tryz.prog 32 #[(.pointer o1), (.int .i64 x2)] w fun en w' => ∃ (x49 : Int), en = .returned (.int .i64 x49) ∧ K x49 w' :=
 have e : (fun en w' => ExShs [(.one (.int .i64))] fun vs => en = .returned (tupled vs) ∧ ap [(.one (.int .i64))] K vs fun p => p w') = (fun (en : Ending) (w' : World) => ∃ (x49 : Int), en = .returned (.int .i64 x49) ∧ K x49 w') := by kernel_rfl
 e ▸ fn_sound tabOk mixed Tryz.func32 (by kernel_rfl : Tryz.f32.body = some code32) ann32 [(.pointer o1), (.int .i64 x2)] [(.one (.int .i64))] K w (by kernel_rfl) ((wp32 o1 x2 K w).symm ▸ h)
end Go.Proofs.YtgggbmikmmljcaaGreat

namespace Go.Proofs.YtgggbmikmmljcaaGreat
open Go Go.V Go.Proofs
open Go.RowKit (Below)
/-! (*manystrand/manystrandref27.Count).Drops -/
def N34 (o1 : Option Addr) (x2 : Int) (K : Int → World → Prop) (w : World) : Prop :=
 BoolK (decide ((x2 : Int) < 0))
 (K 2 w)
 (AddrK o1 fun b3 =>
 ∃ (a4 : Option Addr) (l4 : Nat) (c4 : Nat), w.cell? (b3.add 11) = some (.slice a4 l4 c4) ∧
 (BoolK (decide ((x2 : Int) ≥ (l4 : Nat)))
 (K 2 w)
 (DrewK w fun w5 =>
 AddrK o1 fun b6 =>
 ∃ (a7 : Option Addr) (l7 : Nat) (c7 : Nat), w5.cell? (b6.add 11) = some (.slice a7 l7 c7) ∧
 (0 ≤ (x2 : Int) ∧
 ((0 ≤ (x2 : Int).toNat ∧ (x2 : Int).toNat ≤ c7) ∧
 (AddrK o1 fun b8 =>
 ∃ (a9 : Option Addr) (l9 : Nat) (c9 : Nat), w5.cell? (b8.add 11) = some (.slice a9 l9 c9) ∧
 (0 ≤ (IntKind.wrap .i64 (x2 + 1) : Int) ∧
 (((IntKind.wrap .i64 (x2 + 1) : Int).toNat ≤ l9 ∧ l9 ≤ c9) ∧
 (AllocK w5 (#[]) 40 fun b10 w11 =>
 Cel w5 w11 ∧
 (∃ (a12 : Option Addr), ∃ (l12 : Nat), ∃ (c12 : Nat), ∃ (w13 : World), Sem.run Tryz.prog (Builtin.append_ #[34, 34] 34 #[(.slice (some b10) 0 0), (.slice (if c7 = 0 then a7 else (a7).map (·.add (0 * 8))) ((x2 : Int).toNat - 0) (c7 - 0))]) w11 = .ok (.slice a12 l12 c12) w13 ∧
 (Cel w5 w13 ∧
 (∃ (a14 : Option Addr), ∃ (l14 : Nat), ∃ (c14 : Nat), ∃ (w15 : World), Sem.run Tryz.prog (Builtin.append_ #[34, 34] 34 #[(.slice a12 l12 c12), (.slice (if c9 = (IntKind.wrap .i64 (x2 + 1) : Int).toNat then a9 else (a9).map (·.add ((IntKind.wrap .i64 (x2 + 1) : Int).toNat * 8))) (l9 - (IntKind.wrap .i64 (x2 + 1) : Int).toNat) (c9 - (IntKind.wrap .i64 (x2 + 1) : Int).toNat))]) w13 = .ok (.slice a14 l14 c14) w15 ∧
 (AddrK o1 fun b16 =>
 SetK w15 (b16.add 11) (.slice a14 l14 c14) fun w17 =>
 K 0 w17)))))))))))))
def ann34 : Ann := (.two .nil (.two (.two .nil (.two (.two .nil .nil) .nil)) (.two (.anyC 20 (.take 0 (.take 2 (.take 3 (.take 4 (.take 5 (.take 6 (.take 7 (.take 9 (.take 10 (.take 11 (.take 12 (.take 13 (.take 14 (.take 15 (.one 1 (.one 8 (.one 16 (.take 17 (.take 18 (.one 19 .done))))))))))))))))))))) (.two .nil .nil))))
noncomputable def code34 : Code := match Tryz.f34.body with | some c => c | none => .skip
theorem wp34 (o1 : Option Addr) (x2 : Int) (K : Int → World → Prop) (w : World) : WP Tryz.prog tab code34 ann34 (fnQ tab Tryz.f34.results.toList [(.one (.int .i64))] K) (argE 0 [(.pointer o1), (.int .i64 x2)]) w = N34 o1 x2 K w := by kernel_rfl
theorem calls34 (o1 : Option Addr) (x2 : Int) (K : Int → World → Prop) (w : World) (h : N34 o1 x2 K w) : Calls Tryz.prog 34 #[(.pointer o1), (.int .i64 x2)] w fun en w' => ∃ (x18 : Int), en = .returned (.int .i64 x18) ∧ K x18 w' :=
 have e : (fun en w' => ExShs [(.one (.int .i64))] fun vs => en = .returned (tupled vs) ∧ ap [(.one (.int .i64))] K vs fun p => p w') = (fun (en : Ending) (w' : World) => ∃ (x18 : Int), en = .returned (.int .i64 x18) ∧ K x18 w') := by kernel_rfl
 e ▸ fn_sound tabOk mixed Tryz.func34 (by kernel_rfl : Tryz.f34.body = some code34) ann34 [(.pointer o1), (.int .i64 x2)] [(.one (.int .i64))] K w (by kernel_rfl) ((wp34 o1 x2 K w).symm ▸ h)
end Go.Proofs.YtgggbmikmmljcaaGreat

namespace Go.Proofs.YtgggbmikmmljcaaGreat
open Go Go.V Go.Proofs
open Go.RowKit (Below)
/-! manystrand/manystrandref27.behind -/
def N70 (a1 : Option Addr) (l1 : Nat) (_c1 : Nat) (x2 : Int) (x3 : Int) (K : Option Addr → Nat → Nat → World → Prop) (w : World) : Prop :=
 AllocK w (#[(.int .i64 x2), (.int .i64 x3)]) 93 fun b4 w5 =>
 ∃ (I6 : Option Addr → Nat → Nat → Int → World → Prop) (μ7 : Option Addr → Nat → Nat → Int → World → Nat),
 (I6 none 0 0 0 w5 ∧ True) ∧
 ∀ (w8 : World) (a9 : Option Addr) (l9 : Nat) (c9 : Nat) (x10 : Int), I6 a9 l9 c9 x10 w8 →
 BoolK (decide ((x10 : Int) < (l1 : Nat)))
 (DrewK w8 fun w11 =>
 (0 ≤ (x10 : Int) ∧ (x10 : Int) < (l1 : Nat)) ∧
 AddrK a1 fun b12 =>
 ∃ (x13 : Int), w11.cell? ((b12.add ((x10 : Int).toNat * 2)).add 0) = some (.int .i64 x13) ∧
 (∃ (x14 : Int), w11.cell? ((b12.add ((x10 : Int).toNat * 2)).add 1) = some (.int .i64 x14) ∧
 (∃ (x15 : Int), w11.cell? (b4.add 0) = some (.int .i64 x15) ∧
 (∃ (x16 : Int), w11.cell? (b4.add 1) = some (.int .i64 x16) ∧
 (BoolK (!(((x13 : Int) == x15) && (((x14 : Int) == x16) && (true))))
 ((0 ≤ (x10 : Int) ∧ (x10 : Int) < (l1 : Nat)) ∧
 AddrK a1 fun b17 =>
 ∃ (x18 : Int), w11.cell? ((b17.add ((x10 : Int).toNat * 2)).add 0) = some (.int .i64 x18) ∧
 (∃ (x19 : Int), w11.cell? ((b17.add ((x10 : Int).toNat * 2)).add 1) = some (.int .i64 x19) ∧
 (AllocK w11 (#[(.int .i64 x18), (.int .i64 x19)]) 93 fun b20 w21 =>
 ∃ (a22 : Option Addr), ∃ (l22 : Nat), ∃ (c22 : Nat), ∃ (w23 : World), Sem.run Tryz.prog (Builtin.append_ #[48, 48] 48 #[(.slice a9 l9 c9), (.slice (some b20) 1 1)]) w21 = .ok (.slice a22 l22 c22) w23 ∧
 (I6 a22 l22 c22 (IntKind.wrap .i64 (x10 + 1)) w23 ∧ μ7 a22 l22 c22 (IntKind.wrap .i64 (x10 + 1)) w23 < μ7 a9 l9 c9 x10 w8))))
 (I6 a9 l9 c9 (IntKind.wrap .i64 (x10 + 1)) w11 ∧ μ7 a9 l9 c9 (IntKind.wrap .i64 (x10 + 1)) w11 < μ7 a9 l9 c9 x10 w8))))))
 (∃ (x24 : Int), w8.cell? (b4.add 0) = some (.int .i64 x24) ∧
 (∃ (x25 : Int), w8.cell? (b4.add 1) = some (.int .i64 x25) ∧
 (AllocK w8 (#[(.int .i64 x24), (.int .i64 x25)]) 93 fun b26 w27 =>
 ∃ (a28 : Option Addr), ∃ (l28 : Nat), ∃ (c28 : Nat), ∃ (w29 : World), Sem.run Tryz.prog (Builtin.append_ #[48, 48] 48 #[(.slice a9 l9 c9), (.slice (some b26) 1 1)]) w27 = .ok (.slice a28 l28 c28) w29 ∧
 (K a28 l28 c28 w29))))
def ann70 : Ann := (.two .nil (.two .nil (.two (.two .nil (.one (.loop [(5, (.one .slice)), (6, (.one (.int .i64)))] [0, 3] (.two (.two .nil (.two .nil .nil)) (.two (.one (.two (.anyC 6 (.take 0 (.take 1 (.take 2 (.take 3 (.take 4 (.take 5 .done))))))) (.two .nil .nil))) .nil))))) (.two .nil .nil))))
noncomputable def code70 : Code := match Tryz.f70.body with | some c => c | none => .skip
theorem wp70 (a1 : Option Addr) (l1 : Nat) (c1 : Nat) (x2 : Int) (x3 : Int) (K : Option Addr → Nat → Nat → World → Prop) (w : World) : WP Tryz.prog tab code70 ann70 (fnQ tab Tryz.f70.results.toList [(.one .slice)] K) (argE 0 [(.slice a1 l1 c1), (.agg #[(.int .i64 x2), (.int .i64 x3)])]) w = N70 a1 l1 c1 x2 x3 K w := by kernel_rfl
theorem calls70 (a1 : Option Addr) (l1 : Nat) (c1 : Nat) (x2 : Int) (x3 : Int) (K : Option Addr → Nat → Nat → World → Prop) (w : World) (h : N70 a1 l1 c1 x2 x3 K w) : Calls Tryz.prog 70 #[(.slice a1 l1 c1), (.agg #[(.int .i64 x2), (.int .i64 x3)])] w fun en w' => ∃ (a30 : Option Addr), ∃ (l30 : Nat), ∃ (c30 : Nat), en = .returned (.slice a30 l30 c30) ∧ K a30 l30 c30 w' :=
 have e : (fun en w' => ExShs [(.one .slice)] fun vs => en = .returned (tupled vs) ∧ ap [(.one .slice)] K vs fun p => p w') = (fun (en : Ending) (w' : World) => ∃ (a30 : Option Addr), ∃ (l30 : Nat), ∃ (c30 : Nat), en = .returned (.slice a30 l30 c30) ∧ K a30 l30 c30 w') := by kernel_rfl
 e ▸ fn_sound tabOk mixed Tryz.func70 (by kernel_rfl : Tryz.f70.body = some code70) ann70 [(.slice a1 l1 c1), (.agg #[(.int .i64 x2), (.int .i64 x3)])] [(.one .slice)] K w (by kernel_rfl) ((wp70 a1 l1 c1 x2 x3 K w).symm ▸ h)
end Go.Proofs.YtgggbmikmmljcaaGreat

namespace Go.Proofs.YtgggbmikmmljcaaGreat
open Go Go.V Go.Proofs
open Go.RowKit (Below)
/-! manystrand/manystrandref27.among -/
def N76 (a1 : Option Addr) (l1 : Nat) (_c1 : Nat) (x2 : Int) (x3 : Int) (K : Bool → World → Prop) (w : World) : Prop :=
 AllocK w (#[(.int .i64 x2), (.int .i64 x3)]) 93 fun b4 w5 =>
 ∃ (I6 : Int → World → Prop) (μ7 : Int → World → Nat),
 (I6 0 w5 ∧ True) ∧
 ∀ (w8 : World) (x9 : Int), I6 x9 w8 →
 BoolK (decide ((x9 : Int) < (l1 : Nat)))
 (DrewK w8 fun w10 =>
 (0 ≤ (x9 : Int) ∧ (x9 : Int) < (l1 : Nat)) ∧
 AddrK a1 fun b11 =>
 ∃ (x12 : Int), w10.cell? ((b11.add ((x9 : Int).toNat * 2)).add 0) = some (.int .i64 x12) ∧
 (∃ (x13 : Int), w10.cell? ((b11.add ((x9 : Int).toNat * 2)).add 1) = some (.int .i64 x13) ∧
 (∃ (x14 : Int), w10.cell? (b4.add 0) = some (.int .i64 x14) ∧
 (∃ (x15 : Int), w10.cell? (b4.add 1) = some (.int .i64 x15) ∧
 (BoolK (((x12 : Int) == x14) && (((x13 : Int) == x15) && (true)))
 (K true w10)
 (I6 (IntKind.wrap .i64 (x9 + 1)) w10 ∧ μ7 (IntKind.wrap .i64 (x9 + 1)) w10 < μ7 x9 w8))))))
 (K false w8)
def ann76 : Ann := (.two .nil (.two (.two .nil (.one (.loop [(5, (.one (.int .i64)))] [0, 3] (.two (.two .nil (.two .nil .nil)) (.two (.one (.two (.anyC 6 (.take 0 (.take 1 (.take 2 (.take 3 (.take 4 (.take 5 .done))))))) (.two (.two .nil .nil) .nil))) .nil))))) (.two .nil .nil)))
noncomputable def code76 : Code := match Tryz.f76.body with | some c => c | none => .skip
theorem wp76 (a1 : Option Addr) (l1 : Nat) (c1 : Nat) (x2 : Int) (x3 : Int) (K : Bool → World → Prop) (w : World) : WP Tryz.prog tab code76 ann76 (fnQ tab Tryz.f76.results.toList [(.one .bool)] K) (argE 0 [(.slice a1 l1 c1), (.agg #[(.int .i64 x2), (.int .i64 x3)])]) w = N76 a1 l1 c1 x2 x3 K w := by kernel_rfl
theorem calls76 (a1 : Option Addr) (l1 : Nat) (c1 : Nat) (x2 : Int) (x3 : Int) (K : Bool → World → Prop) (w : World) (h : N76 a1 l1 c1 x2 x3 K w) : Calls Tryz.prog 76 #[(.slice a1 l1 c1), (.agg #[(.int .i64 x2), (.int .i64 x3)])] w fun en w' => ∃ (p16 : Bool), en = .returned (.bool p16) ∧ K p16 w' :=
 have e : (fun en w' => ExShs [(.one .bool)] fun vs => en = .returned (tupled vs) ∧ ap [(.one .bool)] K vs fun p => p w') = (fun (en : Ending) (w' : World) => ∃ (p16 : Bool), en = .returned (.bool p16) ∧ K p16 w') := by kernel_rfl
 e ▸ fn_sound tabOk mixed Tryz.func76 (by kernel_rfl : Tryz.f76.body = some code76) ann76 [(.slice a1 l1 c1), (.agg #[(.int .i64 x2), (.int .i64 x3)])] [(.one .bool)] K w (by kernel_rfl) ((wp76 a1 l1 c1 x2 x3 K w).symm ▸ h)
end Go.Proofs.YtgggbmikmmljcaaGreat

namespace Go.Proofs.YtgggbmikmmljcaaGreat
open Go Go.V Go.Proofs
open Go.RowKit (Below)
section
variable {κ κ' : Ka RK} {N N' : Prm} {r : Rb} {w w' : World}
theorem RR.flyAt (h : RR κ N r w) {a : Option Addr} {l c : Nat} (hs : Sl Kr κ .fly (a, l, c)) {x : Int} (h0 : 0 ≤ x) (h1 : x < l) : ∃ g o p0 p1 s p3 p4 p5 p6 ga gl gc, a = some ⟨g, o, none⟩ ∧ N.isS p0 ∧ N.isS p1 ∧ N.isT p3 ∧
    w.cell? (((⟨g, o, none⟩ : Addr).add (x.toNat * 8)).add 0) = some (.int .i64 p0) ∧ w.cell? (((⟨g, o, none⟩ : Addr).add (x.toNat * 8)).add 1) = some (.int .i64 p1) ∧ w.cell? (((⟨g, o, none⟩ : Addr).add (x.toNat * 8)).add 2) = some (.string s) ∧ w.cell? (((⟨g, o, none⟩ : Addr).add (x.toNat * 8)).add 3) = some (.int .i64 p3) ∧
    w.cell? (((⟨g, o, none⟩ : Addr).add (x.toNat * 8)).add 4) = some (.int .i64 p4) ∧ w.cell? (((⟨g, o, none⟩ : Addr).add (x.toNat * 8)).add 5) = some (.int .i64 p5) ∧ w.cell? (((⟨g, o, none⟩ : Addr).add (x.toNat * 8)).add 6) = some (.int .i64 p6) ∧ w.cell? (((⟨g, o, none⟩ : Addr).add (x.toNat * 8)).add 7) = some (.slice ga gl gc) := by
  obtain ⟨g, o, m, u, rfl, hk, hj⟩ := h.els hs h0 h1
  have f : ∀ j, j < 8 → ∃ v, w.cell? (((⟨g, o, none⟩ : Addr).add (x.toNat * 8)).add j) = some v ∧ Or N r κ .fly j v := fun j hj2 => by
    obtain ⟨_, _, v, p3, p4⟩ := hj j hj2
    exact ⟨v, by rw [add_mk, add_mk]; exact p3, p4⟩
  obtain ⟨_, c0, p0, rfl, o0⟩ := f 0 (by omega)
  obtain ⟨_, c1, p1, rfl, o1⟩ := f 1 (by omega)
  obtain ⟨_, c2, s, rfl⟩ := f 2 (by omega)
  obtain ⟨_, c3, p3, rfl, o3⟩ := f 3 (by omega)
  obtain ⟨_, c4, p4, rfl⟩ := f 4 (by omega)
  obtain ⟨_, c5, p5, rfl⟩ := f 5 (by omega)
  obtain ⟨_, c6, p6, rfl⟩ := f 6 (by omega)
  obtain ⟨_, c7, ga, gl, gc, rfl⟩ := f 7 (by omega)
  exact ⟨g, o, p0, p1, s, p3, p4, p5, p6, ga, gl, gc, rfl, o0, o1, o3, c0, c1, c2, c3, c4, c5, c6, c7⟩
theorem RR.cutFly (h : RR κ N r w) {a : Option Addr} {l c : Nat} (hs : Sl Kr κ .fly (a, l, c)) (hl : l ≤ N.f) {x : Int} (h0 : 0 ≤ x) (h1 : x < l) {a2 : Option Addr} {l2 c2 : Nat} (e2 : (a2, l2, c2) = (a, l, c)) {F : World → Prop}
    (f : ∀ w' κ', RR κ' N r w' → PkR κ κ' w w' → F w') :
    0 ≤ x ∧ ((0 ≤ x.toNat ∧ x.toNat ≤ c) ∧ (∃ (a9 : Option Addr) (l9 c9 : Nat), (a9, l9, c9) = (a2, l2, c2) ∧ (0 ≤ IntKind.wrap .i64 (x + 1) ∧ (((IntKind.wrap .i64 (x + 1)).toNat ≤ l9 ∧ l9 ≤ c9) ∧
      AllocK w #[] 40 fun b w11 => Cel w w11 ∧ ∃ (a12 : Option Addr) (l12 c12 : Nat) (w13 : World), Sem.run Tryz.prog (Builtin.append_ #[34, 34] 34 #[.slice (some b) 0 0, .slice (if c = 0 then a else a.map (·.add (0 * 8))) (x.toNat - 0) (c - 0)]) w11 = .ok (.slice a12 l12 c12) w13 ∧
        (Cel w w13 ∧ ∃ (a14 : Option Addr) (l14 c14 : Nat) (w15 : World), Sem.run Tryz.prog (Builtin.append_ #[34, 34] 34 #[.slice a12 l12 c12, .slice (if c9 = (IntKind.wrap .i64 (x + 1)).toNat then a9 else a9.map (·.add ((IntKind.wrap .i64 (x + 1)).toNat * 8))) (l9 - (IntKind.wrap .i64 (x + 1)).toNat) (c9 - (IntKind.wrap .i64 (x + 1)).toNat)]) w13 = .ok (.slice a14 l14 c14) w15 ∧
          SetK w15 ((⟨r.b, 0, none⟩ : Addr).add 11) (.slice a14 l14 c14) F))))) := by
  cases e2
  have hlc := hs.lc
  have hf := h.ln.2.2.2.2
  have e : IntKind.wrap .i64 (x + 1) = x + 1 := wrap_id (by omega) (by omega)
  rw [e]
  refine ⟨h0, ⟨Nat.zero_le _, by omega⟩, a, l, c, rfl, by omega, ⟨by omega, hlc⟩, AllocK.mk fun b w11 hb hB hx => ⟨Below.cel hx, ?_⟩⟩
  have s1 := hs.cut (lo := 0) (hi := x.toNat) (Nat.zero_le _) (by omega)
  obtain ⟨a', c', w', κ1, q1, q2, q3, q4, q5⟩ := Sl.copy (ty := 34) (okR N r) rsltF h.ty hx hB (by omega) s1 (by omega)
  refine ⟨a', _, c', w', q1, Below.cel (hx.trans q4), ?_⟩
  have s2 := (hs.le (q5 NT).le).cut (lo := (x + 1).toNat) (hi := l) (by omega) (Nat.le_refl _)
  obtain ⟨a'', c'', w'', κ2, z1, z2, z3, z4⟩ := Sl.append (ty := 34) (okR N r) rsltF q2 q3 s2 (by omega)
  have p : PkR κ κ2 w w'' := (q5 NT).trans (z4.mono (by rintro _ rfl; simp [NT]))
  refine ⟨a'', _, c'', w'', z1, ?_⟩
  exact (h.same p z2).setSt (i := 11) (by omega) ⟨_, _, _, rfl, z3, by omega⟩ fun w17 h17 p17 => f w17 κ2 h17 (p.trans p17)
theorem c34 (h : RR κ N r w) (x : Int) : Calls Tryz.prog 34 #[rp r, .int .i64 x] w fun en w' => ∃ e, en = .returned (.int .i64 e) ∧ PostR κ N r w w' := by
  refine calls34 _ _ (fun _ w' => PostR κ N r w w') w ?_
  obtain ⟨a, l, c, hc, hs, hl⟩ := h.c11
  have same := PostR.mk h (Pk.refl NT κ w)
  refine BoolK.mk (fun _ => same) (fun t => ⟨_, _, _, hc, BoolK.mk (fun _ => same) (fun t2 => ?_)⟩)
  have t := of_decide_eq_false t; have t2 := of_decide_eq_false t2
  refine h.drew fun w5 h5 hx5 p5 => ?_
  have hc5 := hx5.cell hc
  have key := h5.cutFly hs hl (x := x) (by omega) (by omega) rfl (F := fun w17 => PostR κ N r w w17) fun w17 κ2 h17 p17 => PostR.mk h17 (p5.trans p17)
  obtain ⟨k1, k2, a9, l9, c9, e9, k3⟩ := key
  cases e9
  exact ⟨_, _, _, hc5, k1, k2, _, _, _, hc5, k3⟩
theorem c32 (h : RR κ N r w) (x : Int) (hf : N.f + N.p + 1 ≤ 10000000) : Calls Tryz.prog 32 #[rp r, .int .i64 x] w fun en w' => ∃ e, en = .returned (.int .i64 e) ∧ PostR κ (N.addF (N.p + 1)) r w w' := by
  refine calls32 _ _ (fun _ w' => PostR κ (N.addF (N.p + 1)) r w w') w ?_
  obtain ⟨a, l, c, hc, hs, hl⟩ := h.c11
  have same : PostR κ (N.addF (N.p + 1)) r w w := PostR.toP (d := 0) (PostR.mk h (Pk.refl NT κ w)) (Nat.zero_le _) h hf
  refine BoolK.mk (fun _ => same) (fun t => ⟨_, _, _, hc, BoolK.mk (fun _ => same) (fun t2 => ?_)⟩)
  have t := of_decide_eq_false t; have t2 := of_decide_eq_false t2
  obtain ⟨g, o, p0, p1, s, p3, p4, p5, p6, ga, gl, gc, rfl, o0, o1, o3, d0, d1, d2, d3, d4, d5, d6, d7⟩ := h.flyAt hs (x := x) (by omega) (by omega)
  refine ⟨_, _, _, hc, ⟨by omega, by omega⟩, p0, d0, p1, d1, s, d2, p3, d3, p4, d4, p5, d5, p6, d6, _, _, _, d7, ?_⟩
  refine AllocK.mk fun b w17 hb hB hx17 => ?_
  have hbn : κ b = none := h.fresh (by omega)
  refine set8 hB rfl fun w25 hB25 bu => ?_
  have hx25 : Ext w w25 := bu.below hx17 (by omega)
  refine (h.ext hx25).drew fun w26 h26 hx26 p26 => ?_
  have hx := hx25.trans hx26
  have hc26 := hx.cell hc
  have hB26 := hB25.ext hx26
  have key := h26.cutFly hs hl (x := x) (by omega) (by omega) rfl (F := fun w38 => ∃ (x39 : Int), w38.cell? ((⟨b, 0, none⟩ : Addr).add 0) = some (.int .i64 x39) ∧ (∃ (x40 : Int), w38.cell? ((⟨b, 0, none⟩ : Addr).add 1) = some (.int .i64 x40) ∧ (∃ (s41 : ByteArray), w38.cell? ((⟨b, 0, none⟩ : Addr).add 2) = some (.string s41) ∧
      (∃ (x42 : Int), w38.cell? ((⟨b, 0, none⟩ : Addr).add 3) = some (.int .i64 x42) ∧ (∃ (x43 : Int), w38.cell? ((⟨b, 0, none⟩ : Addr).add 4) = some (.int .i64 x43) ∧ (∃ (x44 : Int), w38.cell? ((⟨b, 0, none⟩ : Addr).add 5) = some (.int .i64 x44) ∧ (∃ (x45 : Int), w38.cell? ((⟨b, 0, none⟩ : Addr).add 6) = some (.int .i64 x45) ∧
      (∃ (a46 : Option Addr) (l46 : Nat) (c46 : Nat), w38.cell? ((⟨b, 0, none⟩ : Addr).add 7) = some (.slice a46 l46 c46) ∧ (Calls Tryz.prog 74 #[rp r, (.agg #[(.int .i64 x39), (.int .i64 x40), (.string s41), (.int .i64 x42), (.int .i64 x43), (.int .i64 x44), (.int .i64 x45), (.slice a46 l46 c46)])] w38 fun e48 w47 => e48 = .returned (.tuple #[]) ∧ PostR κ (N.addF (N.p + 1)) r w w47)))))))))
    fun w38 κ2 h38 p38 => by
      have hB38 := p38.blk hB26 hbn
      refine ⟨p0, by rw [add_mk, hB38.cell]; rfl, p1, by rw [add_mk, hB38.cell]; rfl, s, by rw [add_mk, hB38.cell]; rfl, p3, by rw [add_mk, hB38.cell]; rfl, p4, by rw [add_mk, hB38.cell]; rfl, p5, by rw [add_mk, hB38.cell]; rfl, p6, by rw [add_mk, hB38.cell]; rfl, ga, gl, gc, by rw [add_mk, hB38.cell]; rfl, ?_⟩
      refine (c74 h38 s p4 p5 p6 ga gl gc o0 o1 o3 hf).mono ?_
      rintro en w47 ⟨rfl, q⟩
      exact ⟨rfl, q.trans ((h.pkExt hx).trans p38)⟩
  obtain ⟨k1, k2, a9, l9, c9, e9, k3⟩ := key
  cases e9
  exact ⟨_, _, _, hc26, k1, k2, _, _, _, hc26, k3⟩
theorem RR.ordAt (h : RR κ N r w) {a : Option Addr} {l c : Nat} (hs : Sl Kr κ .ord (a, l, c)) {x : Int} (h0 : 0 ≤ x) (h1 : x < l) : ∃ g o p0 p1, a = some ⟨g, o, none⟩ ∧ N.isT p0 ∧ N.isT p1 ∧
    w.cell? (((⟨g, o, none⟩ : Addr).add (x.toNat * 2)).add 0) = some (.int .i64 p0) ∧ w.cell? (((⟨g, o, none⟩ : Addr).add (x.toNat * 2)).add 1) = some (.int .i64 p1) := by
  obtain ⟨g, o, m, u, rfl, hk, hj⟩ := h.els hs h0 h1
  have f : ∀ j, j < 2 → ∃ v, w.cell? (((⟨g, o, none⟩ : Addr).add (x.toNat * 2)).add j) = some v ∧ Or N r κ .ord j v := fun j hj2 => by
    obtain ⟨_, _, v, p3, p4⟩ := hj j hj2
    exact ⟨v, by rw [add_mk, add_mk]; exact p3, p4⟩
  obtain ⟨_, c0, p0, rfl, o0⟩ := f 0 (by omega)
  obtain ⟨_, c1, p1, rfl, o1⟩ := f 1 (by omega)
  exact ⟨g, o, p0, p1, rfl, o0, o1, c0, c1⟩
theorem RR.pushO (h : RR κ N r w) {a : Option Addr} {l c : Nat} (hs : Sl Kr κ .ord (a, l, c)) (hl : l ≤ 2000000) {x y : Int} (hx : N.isT x) (hy : N.isT y) {ty te : Nat} {F : Option Addr → Nat → Nat → World → Prop}
    (f : ∀ a' c' w' κ', RR κ' N r w' → Sl Kr κ' .ord (a', l + 1, c') → Pk (· = .ord) κ κ' w w' → F a' (l + 1) c' w') :
    AllocK w #[.int .i64 x, .int .i64 y] te fun b w1 => ∃ a' l' c' w2, Sem.run Tryz.prog (Builtin.append_ #[48, 48] ty #[.slice a l c, .slice (some b) 1 1]) w1 = .ok (.slice a' l' c') w2 ∧ F a' l' c' w2 := by
  refine Sl.push (okR N r) rsltO h.ty hs rfl (fun j v hj => ?_) (by omega) fun a' c' w2 κ2 ht hs' p => ?_
  · match j with
    | 0 => cases hj; exact ⟨_, rfl, hx⟩
    | 1 => cases hj; exact ⟨_, rfl, hy⟩
    | j + 2 => cases hj
  · exact f a' c' w2 κ2 (h.same (p.mono (by rintro _ rfl; simp [NT])) ht) hs' p
theorem RR.pushX (h : RR κ N r w) {k : RK} (hk : k = .idx ∨ k = .ints) {a : Option Addr} {l c : Nat} (hs : Sl Kr κ k (a, l, c)) (hl : l ≤ 2000000) {x : Int} (hx : N.isT x) {ty te : Nat} {F : Option Addr → Nat → Nat → World → Prop}
    (f : ∀ a' c' w' κ', RR κ' N r w' → Sl Kr κ' k (a', l + 1, c') → Pk (· = k) κ κ' w w' → F a' (l + 1) c' w') :
    AllocK w #[.int .i64 x] te fun b w1 => ∃ a' l' c' w2, Sem.run Tryz.prog (Builtin.append_ #[43, 43] ty #[.slice a l c, .slice (some b) 1 1]) w1 = .ok (.slice a' l' c') w2 ∧ F a' l' c' w2 := by
  have hs1 : (#[Value.int .i64 x] : Array Value).size = Kr.sz k := by rcases hk with rfl | rfl <;> rfl
  have H : SlT Tryz.prog 43 (Kr.ty k) (Kr.sz k) 8 := by rcases hk with rfl | rfl <;> exact rsltI
  refine Sl.push (okR N r) H h.ty hs hs1 (fun j v hj => ?_) (by omega) fun a' c' w2 κ2 ht hs' p => ?_
  · match j with
    | 0 =>
      cases hj
      rcases hk with rfl | rfl
      · exact ⟨_, rfl, hx⟩
      · exact ⟨_, rfl⟩
    | j + 1 => cases hj
  · exact f a' c' w2 κ2 (h.same (p.mono (by rintro _ rfl; rcases hk with rfl | rfl <;> simp [NT])) ht) hs' p
theorem box2 {b t : Nat} {x y : Int} (h : Blk w b #[.int .i64 x, .int .i64 y] t) : w.cell? ((⟨b, 0, none⟩ : Addr).add 0) = some (.int .i64 x) ∧ w.cell? ((⟨b, 0, none⟩ : Addr).add 1) = some (.int .i64 y) :=
  ⟨by rw [add_mk, h.cell]; rfl, by rw [add_mk, h.cell]; rfl⟩
theorem ntO : ∀ k : RK, k = .ord → NT k := by rintro _ rfl; simp [NT]
theorem ntX : ∀ k : RK, k = .idx → NT k := by rintro _ rfl; simp [NT]
theorem ntI : ∀ k : RK, k = .ints → NT k := by rintro _ rfl; simp [NT]
theorem c70 (h : RR κ N r w) {a : Option Addr} {l c : Nat} (hs : Sl Kr κ .ord (a, l, c)) (hl : l ≤ 1000) {x y : Int} (hx : N.isT x) (hy : N.isT y) :
    Calls Tryz.prog 70 #[.slice a l c, .agg #[.int .i64 x, .int .i64 y]] w fun en w' => ∃ a' l' c', en = .returned (.slice a' l' c') ∧ ∃ κ', RR κ' N r w' ∧ PkR κ κ' w w' ∧ Sl Kr κ' .ord (a', l', c') ∧ l' ≤ l + 1 := by
  refine calls70 _ _ _ _ _ (fun a' l' c' w' => ∃ κ', RR κ' N r w' ∧ PkR κ κ' w w' ∧ Sl Kr κ' .ord (a', l', c') ∧ l' ≤ l + 1) w ?_
  refine AllocK.mk fun b w5 hb hB hx5 => ?_
  have hbn : κ b = none := h.fresh (by omega)
  refine ⟨fun a1 l1 c1 i w' => ∃ (κ' : Ka RK) (k : Nat), i = k ∧ k ≤ l ∧ l1 ≤ k ∧ RR κ' N r w' ∧ PkR κ κ' w5 w' ∧ Sl Kr κ' .ord (a1, l1, c1), fun _ _ _ i _ => l - i.toNat, ⟨⟨κ, 0, rfl, Nat.zero_le _, Nat.le_refl _, h.ext hx5, Pk.refl _ _ _, Sl.nil _ _ _⟩, trivial⟩, ?_⟩
  rintro w8 a1 l1 c1 _ ⟨κ1, k, rfl, hk, hl1, h8, p8, hs1⟩
  have hB8 := p8.blk hB hbn
  refine BoolK.mk (fun t => ?_) (fun t => ?_)
  · have t := of_decide_eq_true t
    refine h8.drew fun w11 h11 hx11 p11 => ?_
    obtain ⟨q0, q1⟩ := box2 (hB8.ext hx11)
    obtain ⟨g, o, z0, z1, rfl, o0, o1, d0, d1⟩ := h11.ordAt (hs.le p8.le) (x := k) (by omega) t
    rw [wrap_succ (by omega)]
    refine ⟨⟨by omega, t⟩, z0, d0, z1, d1, x, q0, y, q1, BoolK.mk (fun _ => ?_) (fun _ => ?_)⟩
    · refine ⟨⟨by omega, t⟩, z0, d0, z1, d1, h11.pushO hs1 (by omega) o0 o1 fun a' c' w2 κ2 h2 hs2 p2 => ?_⟩
      exact ⟨⟨κ2, k + 1, rfl, by omega, by omega, h2, (p8.trans p11).trans (p2.mono ntO), hs2⟩, by simp; omega⟩
    · exact ⟨⟨κ1, k + 1, rfl, by omega, by omega, h11, p8.trans p11, hs1⟩, by simp; omega⟩
  · obtain ⟨q0, q1⟩ := box2 hB8
    refine ⟨x, q0, y, q1, h8.pushO hs1 (by omega) hx hy fun a' c' w2 κ2 h2 hs2 p2 => ?_⟩
    exact ⟨κ2, h2, ((h.pkExt hx5).trans p8).trans (p2.mono ntO), hs2, by omega⟩
theorem c76 (h : RR κ N r w) {a : Option Addr} {l c : Nat} (hs : Sl Kr κ .ord (a, l, c)) (hl : l ≤ 2000000) (x y : Int) :
    Calls Tryz.prog 76 #[.slice a l c, .agg #[.int .i64 x, .int .i64 y]] w fun en w' => ∃ p, en = .returned (.bool p) ∧ Ext w w' := by
  refine calls76 _ _ _ _ _ (fun _ w' => Ext w w') w ?_
  refine AllocK.mk fun b w5 hb hB hx5 => ?_
  refine ⟨fun i w' => ∃ k : Nat, i = k ∧ k ≤ l ∧ Ext w5 w', fun i _ => l - i.toNat, ⟨⟨0, rfl, Nat.zero_le _, Ext.refl _⟩, trivial⟩, ?_⟩
  rintro w8 _ ⟨k, rfl, hk, hx8⟩
  refine BoolK.mk (fun t => ?_) (fun t => hx5.trans hx8)
  have t := of_decide_eq_true t
  refine DrewK.mk fun w10 hx10 => ?_
  have hx := hx8.trans hx10
  obtain ⟨q0, q1⟩ := box2 (hB.ext hx)
  have h10 := h.ext (hx5.trans hx)
  obtain ⟨g, o, z0, z1, rfl, o0, o1, d0, d1⟩ := h10.ordAt hs (x := k) (by omega) t
  rw [wrap_succ (by omega)]
  refine ⟨⟨by omega, t⟩, z0, d0, z1, d1, x, q0, y, q1, BoolK.mk (fun _ => hx5.trans hx) (fun _ => ?_)⟩
  exact ⟨⟨k + 1, rfl, by omega, hx⟩, by simp; omega⟩
end
end Go.Proofs.YtgggbmikmmljcaaGreat

namespace Go.Proofs.YtgggbmikmmljcaaGreat
open Go Go.V Go.Proofs
open Go.RowKit (Below)
/-! manystrand/manystrandref27.sorted -/
def N77 (a1 : Option Addr) (l1 : Nat) (c1 : Nat) (K : Option Addr → Nat → Nat → World → Prop) (w : World) : Prop :=
 AllocK w (#[]) 3 fun b2 w3 =>
 ∃ (a4 : Option Addr), ∃ (l4 : Nat), ∃ (c4 : Nat), ∃ (w5 : World), Sem.run Tryz.prog (Builtin.append_ #[43, 43] 43 #[(.slice (some b2) 0 0), (.slice a1 l1 c1)]) w3 = .ok (.slice a4 l4 c4) w5 ∧
 (∃ (I6 : Int → World → Prop) (μ7 : Int → World → Nat),
 (I6 1 w5 ∧ True) ∧
 ∀ (w8 : World) (x9 : Int), I6 x9 w8 →
 BoolK (decide ((x9 : Int) < (l4 : Nat)))
 (∃ (I10 : Int → World → Prop) (μ11 : Int → World → Nat),
 (I10 x9 w8 ∧ True) ∧
 ∀ (w12 : World) (x13 : Int), I10 x13 w12 →
 DrewK w12 fun w14 =>
 BoolK (decide ((x13 : Int) > 0))
 ((0 ≤ (x13 : Int) ∧ (x13 : Int) < (l4 : Nat)) ∧
 AddrK a4 fun b15 =>
 ∃ (x16 : Int), w14.cell? (b15.add ((x13 : Int).toNat * 1)) = some (.int .i64 x16) ∧
 ((0 ≤ (IntKind.wrap .i64 (x13 - 1) : Int) ∧ (IntKind.wrap .i64 (x13 - 1) : Int) < (l4 : Nat)) ∧
 AddrK a4 fun b17 =>
 ∃ (x18 : Int), w14.cell? (b17.add ((IntKind.wrap .i64 (x13 - 1) : Int).toNat * 1)) = some (.int .i64 x18) ∧
 (BoolK (decide ((x16 : Int) < x18))
 (DrewK w14 fun w19 =>
 (0 ≤ (IntKind.wrap .i64 (x13 - 1) : Int) ∧ (IntKind.wrap .i64 (x13 - 1) : Int) < (l4 : Nat)) ∧
 AddrK a4 fun b20 =>
 ∃ (x21 : Int), w19.cell? (b20.add ((IntKind.wrap .i64 (x13 - 1) : Int).toNat * 1)) = some (.int .i64 x21) ∧
 ((0 ≤ (x13 : Int) ∧ (x13 : Int) < (l4 : Nat)) ∧
 AddrK a4 fun b22 =>
 ∃ (x23 : Int), w19.cell? (b22.add ((x13 : Int).toNat * 1)) = some (.int .i64 x23) ∧
 ((0 ≤ (x13 : Int) ∧ (x13 : Int) < (l4 : Nat)) ∧
 AddrK a4 fun b24 =>
 SetK w19 (b24.add ((x13 : Int).toNat * 1)) (.int .i64 x21) fun w25 =>
 (0 ≤ (IntKind.wrap .i64 (x13 - 1) : Int) ∧ (IntKind.wrap .i64 (x13 - 1) : Int) < (l4 : Nat)) ∧
 AddrK a4 fun b26 =>
 SetK w25 (b26.add ((IntKind.wrap .i64 (x13 - 1) : Int).toNat * 1)) (.int .i64 x23) fun w27 =>
 I10 (IntKind.wrap .i64 (x13 - 1)) w27 ∧ μ11 (IntKind.wrap .i64 (x13 - 1)) w27 < μ11 x13 w12)))
 (I6 (IntKind.wrap .i64 (x9 + 1)) w14 ∧ μ7 (IntKind.wrap .i64 (x9 + 1)) w14 < μ7 x9 w8))))
 (I6 (IntKind.wrap .i64 (x9 + 1)) w14 ∧ μ7 (IntKind.wrap .i64 (x9 + 1)) w14 < μ7 x9 w8))
 (K a4 l4 c4 w8))
def ann77 : Ann := (.two .nil (.two .nil (.two (.two .nil (.one (.loop [(4, (.one (.int .i64)))] [3] (.two (.two .nil (.two .nil .nil)) (.two (.one (.two .nil (.one (.loop [(5, (.one (.int .i64)))] [3, 4] (.two (.two (.anyC 14 (.take 0 (.take 1 (.take 2 (.take 3 (.take 4 (.take 5 (.take 6 (.take 7 (.take 8 (.take 9 (.take 10 (.take 11 (.take 12 (.take 13 .done))))))))))))))) (.two .nil .nil)) (.two (.one (.anyC 18 (.take 0 (.take 1 (.take 2 (.take 3 (.take 4 (.take 5 (.take 6 (.take 7 (.take 8 (.take 9 (.take 10 (.take 11 (.take 12 (.take 13 (.take 14 (.one 15 (.take 16 (.one 17 .done)))))))))))))))))))) .nil)))))) .nil))))) (.two .nil .nil))))
noncomputable def code77 : Code := match Tryz.f77.body with | some c => c | none => .skip
theorem wp77 (a1 : Option Addr) (l1 : Nat) (c1 : Nat) (K : Option Addr → Nat → Nat → World → Prop) (w : World) : WP Tryz.prog tab code77 ann77 (fnQ tab Tryz.f77.results.toList [(.one .slice)] K) (argE 0 [(.slice a1 l1 c1)]) w = N77 a1 l1 c1 K w := by kernel_rfl
theorem calls77 (a1 : Option Addr) (l1 : Nat) (c1 : Nat) (K : Option Addr → Nat → Nat → World → Prop) (w : World) (h : N77 a1 l1 c1 K w) : Calls Tryz.prog 77 #[(.slice a1 l1 c1)] w fun en w' => ∃ (a28 : Option Addr), ∃ (l28 : Nat), ∃ (c28 : Nat), en = .returned (.slice a28 l28 c28) ∧ K a28 l28 c28 w' :=
 have e : (fun en w' => ExShs [(.one .slice)] fun vs => en = .returned (tupled vs) ∧ ap [(.one .slice)] K vs fun p => p w') = (fun (en : Ending) (w' : World) => ∃ (a28 : Option Addr), ∃ (l28 : Nat), ∃ (c28 : Nat), en = .returned (.slice a28 l28 c28) ∧ K a28 l28 c28 w') := by kernel_rfl
 e ▸ fn_sound tabOk mixed Tryz.func77 (by kernel_rfl : Tryz.f77.body = some code77) ann77 [(.slice a1 l1 c1)] [(.one .slice)] K w (by kernel_rfl) ((wp77 a1 l1 c1 K w).symm ▸ h)
end Go.Proofs.YtgggbmikmmljcaaGreat

namespace Go.Proofs.YtgggbmikmmljcaaGreat
open Go Go.V Go.Proofs
open Go.RowKit (Below)
/-! (*manystrand/manystrandref27.Count).Sweep -/
def N37 (o1 : Option Addr) (x2 : Int) (K : Option Addr → Nat → Nat → Int → World → Prop) (w : World) : Prop :=
 Calls Tryz.prog 58 #[(.pointer o1), (.int .i64 x2)] w fun e5 w4 =>
 ∃ (p3 : Bool), e5 = .returned (.bool p3) ∧
 (BoolK (!p3)
 (K none 0 0 2 w4)
 (∃ (I6 : Option Addr → Nat → Nat → Option Addr → Nat → Nat → Bool → World → Prop) (μ7 : Option Addr → Nat → Nat → Option Addr → Nat → Nat → Bool → World → Nat),
 (I6 none 0 0 none 0 0 true w4 ∧ True) ∧
 ∀ (w8 : World) (a9 : Option Addr) (l9 : Nat) (c9 : Nat) (a10 : Option Addr) (l10 : Nat) (c10 : Nat) (p11 : Bool), I6 a9 l9 c9 a10 l10 c10 p11 w8 →
 BoolK p11
 (Calls Tryz.prog 75 #[(.pointer o1)] w8 fun e14 w13 =>
 ∃ (a12 : Option Addr), ∃ (l12 : Nat), ∃ (c12 : Nat), e14 = .returned (.slice a12 l12 c12) ∧
 (∃ (I15 : Option Addr → Nat → Nat → Option Addr → Nat → Nat → Bool → Int → World → Prop) (μ16 : Option Addr → Nat → Nat → Option Addr → Nat → Nat → Bool → Int → World → Nat),
 (I15 a9 l9 c9 a10 l10 c10 false 0 w13 ∧ True) ∧
 ∀ (w17 : World) (a18 : Option Addr) (l18 : Nat) (c18 : Nat) (a19 : Option Addr) (l19 : Nat) (c19 : Nat) (p20 : Bool) (x21 : Int), I15 a18 l18 c18 a19 l19 c19 p20 x21 w17 →
 AddrK o1 fun b22 =>
 ∃ (a23 : Option Addr) (l23 : Nat) (c23 : Nat), w17.cell? (b22.add 4) = some (.slice a23 l23 c23) ∧
 (BoolK (decide ((x21 : Int) < (l23 : Nat)))
 (AddrK o1 fun b24 =>
 ∃ (a25 : Option Addr) (l25 : Nat) (c25 : Nat), w17.cell? (b24.add 4) = some (.slice a25 l25 c25) ∧
 ((0 ≤ (x21 : Int) ∧ (x21 : Int) < (l25 : Nat)) ∧
 AddrK a25 fun b26 =>
 ∃ (x27 : Int), w17.cell? (b26.add ((x21 : Int).toNat * 7)) = some (.int .i64 x27) ∧
 (BoolK ((x27 : Int) != x2)
 (I15 a18 l18 c18 a19 l19 c19 p20 (IntKind.wrap .i64 (x21 + 1)) w17 ∧ μ16 a18 l18 c18 a19 l19 c19 p20 (IntKind.wrap .i64 (x21 + 1)) w17 < μ16 a18 l18 c18 a19 l19 c19 p20 x21 w17)
 (∃ (p28 : Bool), w17.cell? ((b26.add ((x21 : Int).toNat * 7)).add 5) = some (.bool p28) ∧
 (BoolK p28
 (I15 a18 l18 c18 a19 l19 c19 p20 (IntKind.wrap .i64 (x21 + 1)) w17 ∧ μ16 a18 l18 c18 a19 l19 c19 p20 (IntKind.wrap .i64 (x21 + 1)) w17 < μ16 a18 l18 c18 a19 l19 c19 p20 x21 w17)
 (∃ (p29 : Bool), w17.cell? ((b26.add ((x21 : Int).toNat * 7)).add 4) = some (.bool p29) ∧
 (BoolK p29
 (I15 a18 l18 c18 a19 l19 c19 p20 (IntKind.wrap .i64 (x21 + 1)) w17 ∧ μ16 a18 l18 c18 a19 l19 c19 p20 (IntKind.wrap .i64 (x21 + 1)) w17 < μ16 a18 l18 c18 a19 l19 c19 p20 x21 w17)
 ((0 ≤ (x21 : Int) ∧ (x21 : Int) < (l12 : Nat)) ∧
 AddrK a12 fun b30 =>
 ∃ (p31 : Bool), w17.cell? (b30.add ((x21 : Int).toNat * 1)) = some (.bool p31) ∧
 (BoolK p31
 (I15 a18 l18 c18 a19 l19 c19 p20 (IntKind.wrap .i64 (x21 + 1)) w17 ∧ μ16 a18 l18 c18 a19 l19 c19 p20 (IntKind.wrap .i64 (x21 + 1)) w17 < μ16 a18 l18 c18 a19 l19 c19 p20 x21 w17)
 (AllocK w17 (#[(.int .i64 (IntKind.wrap .i64 (x21 + 1)))]) 3 fun b32 w33 =>
 ∃ (a34 : Option Addr), ∃ (l34 : Nat), ∃ (c34 : Nat), ∃ (w35 : World), Sem.run Tryz.prog (Builtin.append_ #[43, 43] 43 #[(.slice a18 l18 c18), (.slice (some b32) 1 1)]) w33 = .ok (.slice a34 l34 c34) w35 ∧
 (SetK w35 ((b26.add ((x21 : Int).toNat * 7)).add 5) (.bool true) fun w36 =>
 ∃ (I37 : Option Addr → Nat → Nat → Int → World → Prop) (μ38 : Option Addr → Nat → Nat → Int → World → Nat),
 (I37 a19 l19 c19 0 w36 ∧ True) ∧
 ∀ (w39 : World) (a40 : Option Addr) (l40 : Nat) (c40 : Nat) (x41 : Int), I37 a40 l40 c40 x41 w39 →
 ∃ (a42 : Option Addr) (l42 : Nat) (c42 : Nat), w39.cell? ((b26.add ((x21 : Int).toNat * 7)).add 6) = some (.slice a42 l42 c42) ∧
 (BoolK (decide ((x41 : Int) < (l42 : Nat)))
 (∃ (a43 : Option Addr) (l43 : Nat) (c43 : Nat), w39.cell? ((b26.add ((x21 : Int).toNat * 7)).add 6) = some (.slice a43 l43 c43) ∧
 ((0 ≤ (x41 : Int) ∧ (x41 : Int) < (l43 : Nat)) ∧
 AddrK a43 fun b44 =>
 ∃ (x45 : Int), w39.cell? (b44.add ((x41 : Int).toNat * 1)) = some (.int .i64 x45) ∧
 (AllocK w39 (#[(.int .i64 (IntKind.wrap .i64 (x21 + 1))), (.int .i64 x45)]) 93 fun b46 w47 =>
 ∃ (a48 : Option Addr), ∃ (l48 : Nat), ∃ (c48 : Nat), ∃ (w49 : World), Sem.run Tryz.prog (Builtin.append_ #[48, 48] 48 #[(.slice a40 l40 c40), (.slice (some b46) 1 1)]) w47 = .ok (.slice a48 l48 c48) w49 ∧
 (I37 a48 l48 c48 (IntKind.wrap .i64 (x41 + 1)) w49 ∧ μ38 a48 l48 c48 (IntKind.wrap .i64 (x41 + 1)) w49 < μ38 a40 l40 c40 x41 w39))))
 (SetK w39 ((b26.add ((x21 : Int).toNat * 7)).add 6) (.slice none 0 0) fun w50 =>
 I15 a34 l34 c34 a40 l40 c40 true (IntKind.wrap .i64 (x21 + 1)) w50 ∧ μ16 a34 l34 c34 a40 l40 c40 true (IntKind.wrap .i64 (x21 + 1)) w50 < μ16 a18 l18 c18 a19 l19 c19 p20 x21 w17)))))))))))))
 (I6 a18 l18 c18 a19 l19 c19 p20 w17 ∧ μ7 a18 l18 c18 a19 l19 c19 p20 w17 < μ7 a9 l9 c9 a10 l10 c10 p11 w8))))
 (∃ (I51 : Int → World → Prop) (μ52 : Int → World → Nat),
 (I51 0 w8 ∧ True) ∧
 ∀ (w53 : World) (x54 : Int), I51 x54 w53 →
 AddrK o1 fun b55 =>
 ∃ (a56 : Option Addr) (l56 : Nat) (c56 : Nat), w53.cell? (b55.add 10) = some (.slice a56 l56 c56) ∧
 (BoolK (decide ((x54 : Int) < (l56 : Nat)))
 (AddrK o1 fun b57 =>
 ∃ (a58 : Option Addr) (l58 : Nat) (c58 : Nat), w53.cell? (b57.add 10) = some (.slice a58 l58 c58) ∧
 ((0 ≤ (x54 : Int) ∧ (x54 : Int) < (l58 : Nat)) ∧
 AddrK a58 fun b59 =>
 (0 ≤ (1 : Int) ∧ (1 : Int) < (2 : Nat)) ∧
 ∃ (x60 : Int), w53.cell? ((b59.add ((x54 : Int).toNat * 2)).add ((1 : Int).toNat * 1)) = some (.int .i64 x60) ∧
 (∃ (J61 : Bool → World → Prop),
 (∀ (w62 : World) (p63 : Bool), J61 p63 w62 →
 BoolK p63
 (Calls Tryz.prog 68 #[(.pointer o1), (.int .i64 x2), (.int .i64 x60)] w62 fun e65 w64 =>
 e65 = .returned (.tuple #[]) ∧
 (I51 (IntKind.wrap .i64 (x54 + 1)) w64 ∧ μ52 (IntKind.wrap .i64 (x54 + 1)) w64 < μ52 x54 w53))
 (I51 (IntKind.wrap .i64 (x54 + 1)) w62 ∧ μ52 (IntKind.wrap .i64 (x54 + 1)) w62 < μ52 x54 w53)) ∧
 (AddrK o1 fun b66 =>
 ∃ (a67 : Option Addr) (l67 : Nat) (c67 : Nat), w53.cell? (b66.add 10) = some (.slice a67 l67 c67) ∧
 ((0 ≤ (x54 : Int) ∧ (x54 : Int) < (l67 : Nat)) ∧
 AddrK a67 fun b68 =>
 ∃ (x69 : Int), w53.cell? ((b68.add ((x54 : Int).toNat * 2)).add 0) = some (.int .i64 x69) ∧
 (∃ (x70 : Int), w53.cell? ((b68.add ((x54 : Int).toNat * 2)).add 1) = some (.int .i64 x70) ∧
 (Calls Tryz.prog 76 #[(.slice a10 l10 c10), (.agg #[(.int .i64 x69), (.int .i64 x70)])] w53 fun e73 w72 =>
 ∃ (p71 : Bool), e73 = .returned (.bool p71) ∧
 (BoolK p71
 (AddrK o1 fun b74 =>
 ∃ (a75 : Option Addr) (l75 : Nat) (c75 : Nat), w72.cell? (b74.add 5) = some (.slice a75 l75 c75) ∧
 ((0 ≤ (x2 : Int) ∧ (x2 : Int) < (l75 : Nat)) ∧
 AddrK a75 fun b76 =>
 ∃ (a77 : Option Addr) (l77 : Nat) (c77 : Nat), w72.cell? (b76.add ((x2 : Int).toNat * 1)) = some (.slice a77 l77 c77) ∧
 ((0 ≤ (IntKind.wrap .i64 (x60 - 1) : Int) ∧ (IntKind.wrap .i64 (x60 - 1) : Int) < (l77 : Nat)) ∧
 AddrK a77 fun b78 =>
 ∃ (x79 : Int), w72.cell? (b78.add ((IntKind.wrap .i64 (x60 - 1) : Int).toNat * 1)) = some (.int .i64 x79) ∧
 (BoolK (decide ((x79 : Int) > 0))
 (Calls Tryz.prog 67 #[(.pointer o1), (.int .i64 x2), (.int .i64 x60)] w72 fun e82 w81 =>
 ∃ (p80 : Bool), e82 = .returned (.bool p80) ∧
 (J61 (!p80) w81))
 (J61 false w72)))))
 (J61 false w72)))))))))
 (Calls Tryz.prog 77 #[(.slice a9 l9 c9)] w53 fun e85 w84 =>
 ∃ (a83 : Option Addr), ∃ (l83 : Nat), ∃ (c83 : Nat), e85 = .returned (.slice a83 l83 c83) ∧
 (K a83 l83 c83 0 w84))))))
def ann37 : Ann := (.two .nil (.two (.two .nil (.two (.two .nil .nil) .nil)) (.two .nil (.two .nil (.two (.two .nil (.one (.loop [(6, (.one .slice)), (7, (.one .slice)), (8, (.one .bool))] [0, 1] (.two (.two .nil (.two .nil .nil)) (.one (.two .nil (.two .nil (.two .nil (.one (.loop [(6, (.one .slice)), (7, (.one .slice)), (8, (.one .bool)), (10, (.one (.int .i64)))] [0, 1, 9] (.two (.two .nil (.two .nil .nil)) (.two (.one (.two .nil (.two (.two .nil (.two .nil .nil)) (.two .nil (.two .nil (.two .nil (.two (.two .nil (.one (.loop [(7, (.one .slice)), (12, (.one (.int .i64)))] [0, 1, 6, 8, 9, 10, 11] (.two (.two .nil (.two .nil .nil)) (.two (.one .nil) .nil))))) .nil))))))) .nil)))))))))))) (.two (.two .nil (.one (.loop [(13, (.one (.int .i64)))] [0, 1, 6, 7] (.two (.two .nil (.two .nil .nil)) (.two (.one (.two .nil (.cut [(140, (.one .bool))] [0, 1, 6, 7, 13, 14] .nil (.two .nil .nil)))) .nil))))) (.two .nil .nil)))))))
noncomputable def code37 : Code := match Tryz.f37.body with | some c => c | none => .skip
theorem wp37 (o1 : Option Addr) (x2 : Int) (K : Option Addr → Nat → Nat → Int → World → Prop) (w : World) : WP Tryz.prog tab code37 ann37 (fnQ tab Tryz.f37.results.toList [(.one .slice), (.one (.int .i64))] K) (argE 0 [(.pointer o1), (.int .i64 x2)]) w = N37 o1 x2 K w := by kernel_rfl
theorem calls37 (o1 : Option Addr) (x2 : Int) (K : Option Addr → Nat → Nat → Int → World → Prop) (w : World) (h : N37 o1 x2 K w) : Calls Tryz.prog 37 #[(.pointer o1), (.int .i64 x2)] w fun en w' => ∃ (a86 : Option Addr), ∃ (l86 : Nat), ∃ (c86 : Nat), ∃ (x87 : Int), en = .returned (.tuple #[(.slice a86 l86 c86), (.int .i64 x87)]) ∧ K a86 l86 c86 x87 w' :=
 have e : (fun en w' => ExShs [(.one .slice), (.one (.int .i64))] fun vs => en = .returned (tupled vs) ∧ ap [(.one .slice), (.one (.int .i64))] K vs fun p => p w') = (fun (en : Ending) (w' : World) => ∃ (a86 : Option Addr), ∃ (l86 : Nat), ∃ (c86 : Nat), ∃ (x87 : Int), en = .returned (.tuple #[(.slice a86 l86 c86), (.int .i64 x87)]) ∧ K a86 l86 c86 x87 w') := by kernel_rfl
 e ▸ fn_sound tabOk mixed Tryz.func37 (by kernel_rfl : Tryz.f37.body = some code37) ann37 [(.pointer o1), (.int .i64 x2)] [(.one .slice), (.one (.int .i64))] K w (by kernel_rfl) ((wp37 o1 x2 K w).symm ▸ h)
end Go.Proofs.YtgggbmikmmljcaaGreat

namespace Go.Proofs.YtgggbmikmmljcaaGreat
open Go Go.V Go.Proofs
open Go.RowKit (Below)
section
variable {κ κ' : Ka RK} {N N' : Prm} {r : Rb} {w w' : World}
theorem RR.setI (h : RR κ N r w) {a : Option Addr} {l c : Nat} (hs : Sl Kr κ .ints (a, l, c)) {x : Int} (h0 : 0 ≤ x) (h1 : x < l) (v : Int) {F : World → Prop} (f : ∀ w', RR κ N r w' → PkR κ κ w w' → F w') : AddrK a fun b => SetK w (b.add (x.toNat * 1)) (.int .i64 v) F := by
  obtain ⟨g, o, n, u, _, rfl, hk, hu, _, _⟩ := h.el hs rfl h0 h1
  show SetK w ((⟨g, o, none⟩ : Addr).add (x.toNat * 1)) _ F
  rw [add_mk, Nat.mul_one]
  exact h.setAt hk hu (by simp [NT]) (by rw [show (o + x.toNat) % Kr.sz .ints = 0 from Nat.mod_one _]; exact ⟨v, rfl⟩) fun w' h' p _ => f w' h' p
theorem RR.getI (h : RR κ N r w) {a : Option Addr} {l c : Nat} (hs : Sl Kr κ .ints (a, l, c)) {x : Int} (h0 : 0 ≤ x) (h1 : x < l) {F : Int → Prop} (f : ∀ v, F v) : AddrK a fun b => ∃ v, w.cell? (b.add (x.toNat * 1)) = some (.int .i64 v) ∧ F v := by
  obtain ⟨g, o, n, u, _, rfl, _, _, hc, v, rfl⟩ := h.el hs rfl h0 h1
  exact ⟨v, hc, f v⟩
theorem c77 (h : RR κ N r w) {a : Option Addr} {l c : Nat} (hs : Sl Kr κ .ints (a, l, c)) (hl : l ≤ 2000000) :
    Calls Tryz.prog 77 #[.slice a l c] w fun en w' => ∃ a' l' c', en = .returned (.slice a' l' c') ∧ ∃ κ', RR κ' N r w' ∧ PkR κ κ' w w' ∧ Sl Kr κ' .ints (a', l', c') ∧ l' = l := by
  refine calls77 _ _ _ (fun a' l' c' w' => ∃ κ', RR κ' N r w' ∧ PkR κ κ' w w' ∧ Sl Kr κ' .ints (a', l', c') ∧ l' = l) w ?_
  refine AllocK.mk fun b w3 hb hB hx3 => ?_
  obtain ⟨a', c', w5, κ1, q1, q2, q3, q4, q5⟩ := Sl.copy (ty := 43) (okR N r) rsltI h.ty hx3 hB (by omega) hs (by omega)
  have h5 : RR κ1 N r w5 := h.same (q5 NT) q2
  refine ⟨a', l, c', w5, q1, ?_⟩
  refine ⟨fun x w' => ∃ k : Nat, x = k ∧ k ≤ l + 1 ∧ RR κ1 N r w' ∧ PkR κ κ1 w w', fun x _ => l + 1 - x.toNat, ⟨⟨1, rfl, by omega, h5, q5 NT⟩, trivial⟩, ?_⟩
  rintro w8 _ ⟨k, rfl, hk, h8, p8⟩
  refine BoolK.mk (fun t => ?_) (fun t => ⟨κ1, h8, p8, q3, rfl⟩)
  have t := of_decide_eq_true t
  refine ⟨fun x w' => ∃ j : Nat, x = j ∧ j ≤ k ∧ RR κ1 N r w' ∧ PkR κ κ1 w w', fun x _ => x.toNat, ⟨⟨k, rfl, Nat.le_refl _, h8, p8⟩, trivial⟩, ?_⟩
  rintro w12 _ ⟨j, rfl, hj, h12, p12⟩
  refine h12.drew fun w14 h14 hx14 p14 => ?_
  have p14 := p12.trans p14
  have next : ∀ {w2 : World}, RR κ1 N r w2 → PkR κ κ1 w w2 → (∃ k : Nat, IntKind.wrap .i64 ((k : Int) + 1) = k ∧ k ≤ l + 1 ∧ RR κ1 N r w2 ∧ PkR κ κ1 w w2) ∨ True := fun _ _ => .inr trivial
  clear next
  have e : IntKind.wrap .i64 ((k : Int) + 1) = ((k + 1 : Nat) : Int) := wrap_succ (by omega)
  rw [e]
  have next : ∀ {w2 : World}, RR κ1 N r w2 → PkR κ κ1 w w2 → (∃ k2 : Nat, ((k + 1 : Nat) : Int) = k2 ∧ k2 ≤ l + 1 ∧ RR κ1 N r w2 ∧ PkR κ κ1 w w2) ∧ l + 1 - (((k + 1 : Nat) : Int)).toNat < l + 1 - (k : Int).toNat := fun h2 p2 => ⟨⟨k + 1, rfl, by omega, h2, p2⟩, by simp; omega⟩
  refine BoolK.mk (fun tj => ?_) (fun _ => next h14 p14)
  have tj := of_decide_eq_true tj
  obtain ⟨i, rfl⟩ : ∃ i, j = i + 1 := ⟨j - 1, by omega⟩
  have e1 : IntKind.wrap .i64 (((i + 1 : Nat) : Int) - 1) = (i : Int) := by rw [wrap_id] <;> omega
  rw [e1]
  refine ⟨⟨by omega, by omega⟩, h14.getI q3 (by omega) (by omega) fun v1 => ⟨⟨by omega, by omega⟩, h14.getI q3 (by omega) (by omega) fun v2 => BoolK.mk (fun _ => ?_) (fun _ => next h14 p14)⟩⟩
  refine h14.drew fun w19 h19 hx19 p19 => ?_
  refine ⟨⟨by omega, by omega⟩, h19.getI q3 (by omega) (by omega) fun v1 => ⟨⟨by omega, by omega⟩, h19.getI q3 (by omega) (by omega) fun v2 => ⟨⟨by omega, by omega⟩, h19.setI q3 (by omega) (by omega) _ fun w25 h25 p25 => ⟨⟨by omega, by omega⟩, h25.setI q3 (by omega) (by omega) _ fun w27 h27 p27 => ?_⟩⟩⟩⟩
  exact ⟨⟨i, rfl, by omega, h27, ((p14.trans p19).trans p25).trans p27⟩, by simp⟩
def flg (w : World) (a : Option Addr) (n : Nat) : List Bool := match a with
  | some p => (List.range n).map fun i => match w.cell? ⟨p.block, p.off + i * 7 + 5, none⟩ with | some (.bool true) => true | _ => false
  | none => []
theorem flg_len {g o n : Nat} : (flg w (some ⟨g, o, none⟩) n).length = n := by simp [flg]
theorem flg_same {a : Option Addr} {n : Nat} (h : ∀ p, a = some p → w'.heap[p.block]? = w.heap[p.block]?) : flg w' a n = flg w a n := by
  cases a with
  | none => rfl
  | some p =>
    unfold flg
    apply List.map_congr_left; intro i _
    rw [World.cell?_of_block (w := w) (w' := w') (a := ⟨p.block, p.off + i * 7 + 5, none⟩) (h p rfl)]
theorem flg_get {g o n i : Nat} {b : Bool} (hi : i < n) (h : w.cell? ⟨g, o + i * 7 + 5, none⟩ = some (.bool b)) : (flg w (some ⟨g, o, none⟩) n)[i]? = some b := by
  simp only [flg, List.getElem?_map, List.getElem?_range hi, Option.map_some, h]
  cases b <;> rfl
theorem flg_set {g o n i t : Nat} {cs : Array Value} {v : Value} (h1 : Blk w g cs t) (h2 : Blk w' g (cs.setIfInBounds (o + i * 7 + 5) v) t) (hlt : o + i * 7 + 5 < cs.size) (hv : v = .bool true) (hi : i < n) : flg w' (some ⟨g, o, none⟩) n = (flg w (some ⟨g, o, none⟩) n).set i true := by
  apply List.ext_getElem?; intro j
  rw [List.getElem?_set]
  rcases Nat.lt_or_ge j n with hj | hj
  · simp only [flg, List.getElem?_map, List.getElem?_range hj, Option.map_some, List.length_map, List.length_range, if_pos hi]
    by_cases hij : i = j
    · subst hij
      rw [if_pos rfl, h2.cell, Array.getElem?_setIfInBounds, if_pos rfl, if_pos hlt, hv]
    · rw [if_neg hij, h2.cell, h1.cell, Array.getElem?_setIfInBounds, if_neg (by omega)]
  · simp only [flg, List.getElem?_map]
    rw [if_neg (by omega), List.getElem?_eq_none (by simpa using hj)]; rfl
theorem flg_other {g o n j t : Nat} {cs : Array Value} {v : Value} (h1 : Blk w g cs t) (h2 : Blk w' g (cs.setIfInBounds j v) t) (hj : ∀ i, o + i * 7 + 5 ≠ j) : flg w' (some ⟨g, o, none⟩) n = flg w (some ⟨g, o, none⟩) n := by
  unfold flg
  apply List.map_congr_left; intro i _
  rw [h2.cell, h1.cell, Array.getElem?_setIfInBounds, if_neg (fun e => hj i e.symm)]
theorem RR.setAtC (h : RR κ N r w) {k : RK} {g n u i : Nat} (hk : κ g = some (k, n, u)) (hi : i < u) (hX : NT k) {v : Value} (hv : Or N r κ k (i % Kr.sz k) v) {F : World → Prop}
    (f : ∀ w' cs, RR κ N r w' → PkR κ κ w w' → But g w w' → Blk w g cs (Kr.ty k) → Blk w' g (cs.setIfInBounds i v) (Kr.ty k) → i < cs.size → F w') : SetK w ⟨g, i, none⟩ v F := by
  obtain ⟨cs, hb, h1, h2, _⟩ := h.ty _ _ _ _ hk
  have hs := h.ty.set hk hi hv (F := fun w' => Ty Kr (Or N r) κ w' ∧ But g w w') fun w' ht bu => ⟨ht, bu⟩
  refine ⟨hs.1, ?_⟩
  obtain ⟨ht, bu⟩ := hs.2
  have p : PkR κ κ w (w.setCell ⟨g, i, none⟩ v) := Pk.butK (Pk.refl _ _ _) bu hk hX
  exact f _ cs (h.same p ht) p bu hb (heap_setCell_same w g i cs _ v hb) (by omega)
end
end Go.Proofs.YtgggbmikmmljcaaGreat

namespace Go.Proofs.YtgggbmikmmljcaaGreat
open Go Go.V Go.Proofs
open Go.RowKit (Below)
section
variable {κ κ' κ1 κ2 : Ka RK} {N N' : Prm} {r : Rb} {w w' : World}
theorem flg_pk {X : RK → Prop} (p : Pk X κ κ' w w') (hX : ¬ X .ths) {a : Option Addr} {n c m : Nat} (hs : Sl Kr κ .ths (a, n, c)) : flg w' a m = flg w a m := by
  refine flg_same fun q hq => ?_
  rcases hs with hs | ⟨g, j, n', u, e1, e2, _⟩
  · cases hs; cases hq
  · simp only at e1; rw [e1] at hq; cases hq
    exact p.keep _ _ _ _ e2 hX
theorem RR.c4keep {X : RK → Prop} (h : RR κ N r w) (p : Pk X κ κ' w w') (hX : ¬ X .st) {v : Value} (hc : w.cell? ((⟨r.b, 0, none⟩ : Addr).add 4) = some v) : w'.cell? ((⟨r.b, 0, none⟩ : Addr).add 4) = some v := by
  rw [add_mk, Nat.zero_add] at hc ⊢
  rw [World.cell?_of_block (w := w) (a := ⟨r.b, 4, none⟩) (p.keep _ _ _ _ h.st hX)]; exact hc
theorem cntF_le (D : List Bool) : cntF D ≤ D.length := List.countP_le_length
structure SwB (N : Prm) (n h l1 l2 : Nat) : Prop where
  out : l1 + n ≤ N.n
  loose : l2 + n * h ≤ N.n * h
theorem c37 (h : RR κ N r w) (x : Int) (hf : N.f + N.o ≤ 10000000) : Calls Tryz.prog 37 #[rp r, .int .i64 x] w fun en w' => ∃ a l c e, en = .returned (.tuple #[.slice a l c, .int .i64 e]) ∧ ∃ κ', RR κ' (N.addF N.o) r w' ∧ PkR κ κ' w w' ∧ Sl Kr κ' .ints (a, l, c) := by
  refine calls37 _ _ (fun a l c _ w' => ∃ κ', RR κ' (N.addF N.o) r w' ∧ PkR κ κ' w w' ∧ Sl Kr κ' .ints (a, l, c)) w ?_
  obtain ⟨ln, -, lo, lh, -⟩ := h.ln
  refine (c58 h x).mono ?_
  rintro en w4 ⟨p, rfl, hp, rfl⟩
  refine ⟨_, rfl, BoolK.mk (fun _ => ⟨κ, h.grow (N.le_addF _) (h.lim hf), Pk.refl _ _ _, Sl.nil _ _ _⟩) (fun t => ?_)⟩
  have hS : N.isS x := by rw [hp] at t; simpa using t
  obtain ⟨a4, c4, hc4, hs4⟩ := h.c4
  have hnh : N.n * N.h ≤ 1000000 := Nat.le_trans (Nat.mul_le_mul ln lh) (by decide)
  have hl0 : (flg w4 a4 N.n).length ≤ N.n := by
    cases a4 with
    | none => simp [flg]
    | some p => simp [flg]
  have b0 : SwB N (cntF (flg w4 a4 N.n)) N.h 0 0 := ⟨by have := cntF_le (flg w4 a4 N.n); omega, by have := Nat.mul_le_mul_right N.h (Nat.le_trans (cntF_le (flg w4 a4 N.n)) hl0); omega⟩
  refine ⟨fun a9 l9 c9 a10 l10 c10 _ w' => ∃ κ1, RR κ1 N r w' ∧ PkR κ κ1 w4 w' ∧ Sl Kr κ1 .ints (a9, l9, c9) ∧ Sl Kr κ1 .ord (a10, l10, c10) ∧ w'.cell? ((⟨r.b, 0, none⟩ : Addr).add 4) = some (.slice a4 N.n c4) ∧ SwB N (cntF (flg w' a4 N.n)) N.h l9 l10,
    fun _ _ _ _ _ _ p w' => cntF (flg w' a4 N.n) + (if p then 1 else 0), ⟨⟨κ, h, Pk.refl _ _ _, Sl.nil _ _ _, Sl.nil _ _ _, hc4, b0⟩, trivial⟩, ?_⟩
  rintro w8 a9 l9 c9 a10 l10 c10 p11 ⟨κ1, h8, p8, s9, s10, hc8, b8⟩
  have hs8 := hs4.le p8.le
  refine BoolK.mk (fun tp => ?_) (fun tp => ?_)
  · -- a round
    subst tp
    refine (c75 h8).mono ?_
    rintro en w13 ⟨a12, l12, c12, rfl, b, D, rfl, rfl, hD, hB, hx13, hbb⟩
    have h13 := h8.ext hx13
    have p13 : PkR κ κ1 w4 w13 := p8.trans (h8.pkExt hx13)
    have f13 : flg w13 a4 N.n = flg w8 a4 N.n := flg_pk (Pk.ofExt (fun _ => False) h8.ty hx13) (fun f => f) hs8
    have hc13 := h8.c4keep (Pk.ofExt (fun _ => False) h8.ty hx13) (fun f => f) hc8
    have hbn : κ1 b = none := h8.fresh hbb
    refine ⟨_, _, _, rfl, ?_⟩
    refine ⟨fun a18 l18 c18 a19 l19 c19 p20 i w' => ∃ (κ2 : Ka RK) (k : Nat), i = k ∧ k ≤ N.n ∧ RR κ2 N r w' ∧ PkR κ1 κ2 w13 w' ∧ Sl Kr κ2 .ints (a18, l18, c18) ∧ Sl Kr κ2 .ord (a19, l19, c19) ∧ w'.cell? ((⟨r.b, 0, none⟩ : Addr).add 4) = some (.slice a4 N.n c4) ∧ SwB N (cntF (flg w' a4 N.n)) N.h l18 l19 ∧
        cntF (flg w' a4 N.n) ≤ cntF (flg w8 a4 N.n) ∧ (p20 = true → cntF (flg w' a4 N.n) < cntF (flg w8 a4 N.n)),
      fun _ _ _ _ _ _ _ i _ => N.n - i.toNat, ⟨⟨κ1, 0, rfl, Nat.zero_le _, h13, Pk.refl _ _ _, s9, s10, hc13, by rw [f13]; exact b8, by rw [f13]; exact Nat.le_refl _, fun e => by cases e⟩, trivial⟩, ?_⟩
    rintro w17 a18 l18 c18 a19 l19 c19 p20 _ ⟨κ2, k, rfl, hk, h17, p17, s18, s19, hc17, b17, m1, m2⟩
    have hs17 := hs8.le p17.le
    refine ⟨_, _, _, hc17, BoolK.mk (fun tk => ?_) (fun tk => ?_)⟩
    rotate_left
    · refine ⟨⟨κ2, h17, p13.trans p17, s18, s19, hc17, b17⟩, ?_⟩
      show cntF (flg w17 a4 N.n) + (if p20 = true then 1 else 0) < cntF (flg w8 a4 N.n) + (if true = true then 1 else 0)
      cases p20
      · simp; omega
      · have := m2 rfl; simp; omega
    have tk := of_decide_eq_true tk
    have e : IntKind.wrap .i64 ((k : Int) + 1) = ((k + 1 : Nat) : Int) := wrap_succ (by omega)
    rw [e]
    obtain ⟨g, o, m, u, own, out, last, f1, f2, f3, ha, hl, hc', rfl, hkg, hSo, hsl, hle, hidx, c0, _, c1, c2, c3, c4', c5, c6⟩ := h17.thAt hs17 (x := k) (by omega) tk
    have go : ∀ w2, w17 = w2 → (∃ (κ2 : Ka RK) (k2 : Nat), ((k + 1 : Nat) : Int) = k2 ∧ k2 ≤ N.n ∧ RR κ2 N r w2 ∧ PkR κ1 κ2 w13 w2 ∧ Sl Kr κ2 .ints (a18, l18, c18) ∧ Sl Kr κ2 .ord (a19, l19, c19) ∧ w2.cell? ((⟨r.b, 0, none⟩ : Addr).add 4) = some (.slice (some ⟨g, o, none⟩) N.n c4) ∧ SwB N (cntF (flg w2 (some ⟨g, o, none⟩) N.n)) N.h l18 l19 ∧
        cntF (flg w2 (some ⟨g, o, none⟩) N.n) ≤ cntF (flg w8 (some ⟨g, o, none⟩) N.n) ∧ (p20 = true → cntF (flg w2 (some ⟨g, o, none⟩) N.n) < cntF (flg w8 (some ⟨g, o, none⟩) N.n))) ∧ N.n - (((k + 1 : Nat) : Int)).toNat < N.n - (k : Int).toNat := by
      rintro _ rfl
      exact ⟨⟨κ2, k + 1, rfl, by omega, h17, p17, s18, s19, hc17, b17, m1, m2⟩, by simp; omega⟩
    refine ⟨_, _, _, hc17, ⟨by omega, tk⟩, own, c0, BoolK.mk (fun _ => go _ rfl) (fun _ => ?_)⟩
    refine ⟨f3, c5, BoolK.mk (fun _ => go _ rfl) (fun tg => ?_)⟩
    refine ⟨f2, c4', BoolK.mk (fun _ => go _ rfl) (fun _ => ?_)⟩
    have hB17 := p17.blk hB hbn
    have tk' : k < N.n := by omega
    refine ⟨⟨by omega, tk⟩, _, getBool hB17 (i := (k : Int).toNat) (by simp; omega), BoolK.mk (fun _ => go _ rfl) (fun _ => ?_)⟩
    have hln : l18 ≤ 1000 := by have := b17.out; omega
    refine h17.pushX (k := .ints) (.inr rfl) s18 (by omega) (x := ((k + 1 : Nat) : Int)) ⟨by omega, by omega⟩ fun a34 c34 w35 κ3 h35 s34 p35 => ?_
    have hidx5 := hidx 5 (by omega)
    have hidx6 := hidx 6 (by omega)
    simp only [Int.toNat_natCast] at hidx5 hidx6
    obtain ⟨u3, hu3, hkg3⟩ := p35.le _ _ _ _ hkg
    simp only [add_mk, Int.toNat_natCast]
    refine h35.setAtC hkg3 (i := o + k * 7 + 5) (by omega) (by simp [NT]) (by rw [show (o + k * 7 + 5) % Kr.sz .ths = 5 from hidx5.2]; exact ⟨true, rfl⟩) fun w36 cs h36 p36 bu36 hb35 hb36 hlt36 => ?_
    -- the flags behind it
    have fl35 : flg w35 (some ⟨g, o, none⟩) N.n = flg w17 (some ⟨g, o, none⟩) N.n := flg_pk p35 (by simp) hs17
    have fl36 : flg w36 (some ⟨g, o, none⟩) N.n = (flg w17 (some ⟨g, o, none⟩) N.n).set k true := by rw [flg_set hb35 hb36 hlt36 rfl tk', fl35]
    have hfk : (flg w17 (some ⟨g, o, none⟩) N.n)[k]? = some false := by
      have := flg_get (g := g) (o := o) (n := N.n) (w := w17) (b := f3) tk' (by simpa only [add_mk, Int.toNat_natCast] using c5)
      rw [this, tg]
    have hdec := cntF_set hfk
    rw [← fl36] at hdec
    have hgr : r.b ≠ g := fun e => by have := h35.st; rw [e, hkg3] at this; cases this
    have hc35 := h17.c4keep p35 (by simp) hc17
    have hc36 : w36.cell? ((⟨r.b, 0, none⟩ : Addr).add 4) = some (.slice (some ⟨g, o, none⟩) N.n c4) := bu36.cell hc35 hgr
    have P36 : PkR κ1 κ3 w13 w36 := (p17.trans (p35.mono ntI)).trans p36
    refine ⟨fun a40 l40 c40 j w' => ∃ (κ4 : Ka RK) (i : Nat), j = i ∧ i ≤ N.h ∧ RR κ4 N r w' ∧ Pk (· = .ord) κ3 κ4 w36 w' ∧ Sl Kr κ4 .ord (a40, l40, c40) ∧ l40 ≤ l19 + i, fun _ _ _ j _ => N.h - j.toNat, ⟨⟨κ3, 0, rfl, Nat.zero_le _, h36, Pk.refl _ _ _, s19.le p35.le, Nat.le_refl _⟩, trivial⟩, ?_⟩
    rintro w39 a40 l40 c40 _ ⟨κ4, i, rfl, hi, h39, p39, s40, hl40⟩
    obtain ⟨u4, hu4, hkg4⟩ := p39.le _ _ _ _ hkg3
    obtain ⟨v6, hv6, hO6⟩ := h39.ty.cell hkg4 (i := o + k * 7 + 6) (by omega)
    rw [show (o + k * 7 + 6) % Kr.sz .ths = 6 from hidx6.2] at hO6
    obtain ⟨a42, l42, c42, rfl, s42, hl42⟩ := hO6
    have hc39 := h36.c4keep p39 (by simp) hc36
    have hbl := b17.loose
    have hbo := b17.out
    refine ⟨_, _, _, hv6, BoolK.mk (fun ti => ?_) (fun ti => ?_)⟩
    · have ti := of_decide_eq_true ti
      obtain ⟨g5, o5, n5, u5, v5, rfl, hk5, hu5, hc5, x45, rfl, hx45⟩ := h39.el s42 rfl (x := i) (by omega) ti
      refine ⟨_, _, _, hv6, ⟨by omega, ti⟩, x45, by simpa only [add_mk, Int.toNat_natCast] using hc5, ?_⟩
      have e2 : IntKind.wrap .i64 ((i : Int) + 1) = ((i + 1 : Nat) : Int) := wrap_succ (by omega)
      rw [e2]
      refine h39.pushO s40 (by omega) (x := ((k + 1 : Nat) : Int)) (y := x45) ⟨by omega, by omega⟩ hx45 fun a48 c48 w49 κ5 h49 s48 p49 => ?_
      exact ⟨⟨κ5, i + 1, rfl, by omega, h49, p39.trans p49, s48, by omega⟩, by simp; omega⟩
    · refine h39.setAtC hkg4 (i := o + k * 7 + 6) (by omega) (by simp [NT]) (by rw [show (o + k * 7 + 6) % Kr.sz .ths = 6 from hidx6.2]; exact ⟨none, 0, 0, rfl, Sl.nil _ _ _, Nat.zero_le _⟩) fun w50 cs2 h50 p50 bu50 hb39 hb50 hlt50 => ?_
      have fl39 : flg w39 (some ⟨g, o, none⟩) N.n = flg w36 (some ⟨g, o, none⟩) N.n := flg_pk p39 (by simp) ((hs17.le p35.le))
      have fl50 : flg w50 (some ⟨g, o, none⟩) N.n = flg w36 (some ⟨g, o, none⟩) N.n := by rw [flg_other hb39 hb50 (fun i => by omega), fl39]
      have hc50 : w50.cell? ((⟨r.b, 0, none⟩ : Addr).add 4) = some (.slice (some ⟨g, o, none⟩) N.n c4) := bu50.cell hc39 hgr
      have hmul := Nat.mul_le_mul_right N.h (Nat.succ_le_of_lt hdec)
      rw [Nat.succ_mul] at hmul
      rw [← fl50] at hdec hmul
      exact ⟨⟨κ4, k + 1, rfl, by omega, h50, (P36.trans (p39.mono ntO)).trans p50, (s34.le p39.le), s40, hc50, ⟨by omega, by omega⟩, by omega, fun _ => by omega⟩, by first | omega | (simp; omega)⟩
  · -- the proxies of what was swept
    subst tp
    refine ⟨fun i w' => ∃ (κ2 : Ka RK) (k d : Nat), i = k ∧ k ≤ N.o ∧ d ≤ k ∧ RR κ2 (N.addF d) r w' ∧ PkR κ κ2 w4 w' ∧ Sl Kr κ2 .ints (a9, l9, c9) ∧ Sl Kr κ2 .ord (a10, l10, c10), fun i _ => N.o - i.toNat, ⟨⟨κ1, 0, 0, rfl, Nat.zero_le _, Nat.le_refl _, h8, p8, s9, s10⟩, trivial⟩, ?_⟩
    rintro w53 _ ⟨κ2, k, d, rfl, hk, hd, h53, p53, s9, s10⟩
    obtain ⟨a, l, c, hc, hs, hl⟩ := h53.c10
    have hl : l ≤ N.o := hl
    have b9 := b8.out
    have b10 := b8.loose
    refine ⟨_, _, _, hc, BoolK.mk (fun tk => ?_) (fun tk => ?_)⟩
    · have tk := of_decide_eq_true tk
      obtain ⟨g, o, z0, z1, rfl, o0, o1, d0, d1⟩ := h53.ordAt hs (x := k) (by omega) tk
      have e : IntKind.wrap .i64 ((k : Int) + 1) = ((k + 1 : Nat) : Int) := wrap_succ (by omega)
      rw [e]
      have go : ∀ {w2 : World}, RR κ2 (N.addF d) r w2 → PkR κ κ2 w4 w2 → (∃ (κ2 : Ka RK) (k2 d : Nat), ((k + 1 : Nat) : Int) = k2 ∧ k2 ≤ N.o ∧ d ≤ k2 ∧ RR κ2 (N.addF d) r w2 ∧ PkR κ κ2 w4 w2 ∧ Sl Kr κ2 .ints (a9, l9, c9) ∧ Sl Kr κ2 .ord (a10, l10, c10)) ∧ N.o - (((k + 1 : Nat) : Int)).toNat < N.o - (k : Int).toNat := fun h2 p2 =>
        ⟨⟨κ2, k + 1, d, rfl, by omega, by omega, h2, p2, s9, s10⟩, by simp; omega⟩
      refine ⟨_, _, _, hc, ⟨by omega, tk⟩, ⟨by decide, by decide⟩, z1, d1, ?_⟩
      refine ⟨fun _ w' => RR κ2 (N.addF d) r w' ∧ PkR κ κ2 w4 w', ?_, ?_⟩
      · rintro w62 p63 ⟨h62, p62⟩
        refine BoolK.mk (fun _ => ?_) (fun _ => go h62 p62)
        refine (c68 h62 hS o1 (by show N.f + d + 1 ≤ _; omega)).mono ?_
        rintro en w64 ⟨rfl, κ3, h64, p64⟩
        exact ⟨rfl, ⟨κ3, k + 1, d + 1, rfl, by omega, by omega, h64, p62.trans p64, s9.le p64.le, s10.le p64.le⟩, by simp; omega⟩
      · refine ⟨_, _, _, hc, ⟨by omega, tk⟩, z0, d0, z1, d1, (c76 h53 s10 (by omega) z0 z1).mono ?_⟩
        rintro en w72 ⟨p71, rfl, hx72⟩
        have h72 := h53.ext hx72
        have p72 := p53.trans (h53.pkExt hx72)
        refine ⟨_, rfl, BoolK.mk (fun _ => ?_) (fun _ => ⟨h72, p72⟩)⟩
        refine h72.rdW hS o1 fun v => BoolK.mk (fun _ => ?_) (fun _ => ⟨h72, p72⟩)
        refine (c67 h72 x z1).mono ?_
        rintro en w81 ⟨p80, rfl, rfl⟩
        exact ⟨_, rfl, h72, p72⟩
    · refine (c77 h53 s9 (by omega)).mono ?_
      rintro en w84 ⟨a83, l83, c83, rfl, κ3, h84, p84, s83, _⟩
      exact ⟨_, _, _, rfl, κ3, h84.grow ⟨rfl, rfl, Nat.le_refl _, Nat.le_refl _, Nat.le_refl _, by show N.f + d ≤ N.f + N.o; omega⟩ (h.lim hf), p53.trans p84, s83⟩
end
end Go.Proofs.YtgggbmikmmljcaaGreat

namespace Go.Proofs.YtgggbmikmmljcaaGreat
open Go Go.V Go.Proofs
open Go.RowKit (Below)
/-! (*manystrand/manystrandref27.Count).reach -/
def N84 (o1 : Option Addr) (x2 : Int) (K : Option Addr → Nat → Nat → World → Prop) (w : World) : Prop :=
 AddrK o1 fun b3 =>
 ∃ (a4 : Option Addr) (l4 : Nat) (c4 : Nat), w.cell? (b3.add 4) = some (.slice a4 l4 c4) ∧
 ((0 ≤ ((l4 : Nat) : Int) ∧ ((l4 : Nat) : Int) ≤ (l4 : Nat) ∧ ((1 : Nat) : Int) * (l4 : Nat) ≤ 281474976710656 ∧ ((l4 : Nat) : Int) ≤ 9223372036854775807) ∧
 AllocK w (madeCells (#[.bool false]) (((l4 : Nat) : Int).toNat * 1)) 4 fun b5 w6 =>
 AllocK w6 (#[]) 3 fun b7 w8 =>
 AddrK o1 fun b9 =>
 ∃ (a10 : Option Addr) (l10 : Nat) (c10 : Nat), w8.cell? (b9.add 4) = some (.slice a10 l10 c10) ∧
 ((0 ≤ (IntKind.wrap .i64 (x2 - 1) : Int) ∧ (IntKind.wrap .i64 (x2 - 1) : Int) < (l10 : Nat)) ∧
 AddrK a10 fun b11 =>
 ∃ (a12 : Option Addr) (l12 : Nat) (c12 : Nat), w8.cell? ((b11.add ((IntKind.wrap .i64 (x2 - 1) : Int).toNat * 7)).add 6) = some (.slice a12 l12 c12) ∧
 (∃ (a13 : Option Addr), ∃ (l13 : Nat), ∃ (c13 : Nat), ∃ (w14 : World), Sem.run Tryz.prog (Builtin.append_ #[43, 43] 43 #[(.slice (some b7) 0 0), (.slice a12 l12 c12)]) w8 = .ok (.slice a13 l13 c13) w14 ∧
 (∃ (I15 : Option Addr → Nat → Nat → World → Prop) (μ16 : Option Addr → Nat → Nat → World → Nat),
 (I15 a13 l13 c13 w14 ∧ True) ∧
 ∀ (w17 : World) (a18 : Option Addr) (l18 : Nat) (c18 : Nat), I15 a18 l18 c18 w17 →
 BoolK (decide (((l18 : Nat) : Int) > 0))
 ((0 ≤ (0 : Int) ∧ (0 : Int) < (l18 : Nat)) ∧
 AddrK a18 fun b19 =>
 ∃ (x20 : Int), w17.cell? (b19.add ((0 : Int).toNat * 1)) = some (.int .i64 x20) ∧
 (0 ≤ (1 : Int) ∧
 (((1 : Int).toNat ≤ l18 ∧ l18 ≤ c18) ∧
 ((0 ≤ (IntKind.wrap .i64 (x20 - 1) : Int) ∧ (IntKind.wrap .i64 (x20 - 1) : Int) < (((l4 : Nat) : Int).toNat : Nat)) ∧
 ∃ (p21 : Bool), w17.cell? (b5.add ((IntKind.wrap .i64 (x20 - 1) : Int).toNat * 1)) = some (.bool p21) ∧
 (BoolK (!p21)
 ((0 ≤ (IntKind.wrap .i64 (x20 - 1) : Int) ∧ (IntKind.wrap .i64 (x20 - 1) : Int) < (((l4 : Nat) : Int).toNat : Nat)) ∧
 SetK w17 (b5.add ((IntKind.wrap .i64 (x20 - 1) : Int).toNat * 1)) (.bool true) fun w22 =>
 AddrK o1 fun b23 =>
 ∃ (a24 : Option Addr) (l24 : Nat) (c24 : Nat), w22.cell? (b23.add 4) = some (.slice a24 l24 c24) ∧
 ((0 ≤ (IntKind.wrap .i64 (x20 - 1) : Int) ∧ (IntKind.wrap .i64 (x20 - 1) : Int) < (l24 : Nat)) ∧
 AddrK a24 fun b25 =>
 ∃ (a26 : Option Addr) (l26 : Nat) (c26 : Nat), w22.cell? ((b25.add ((IntKind.wrap .i64 (x20 - 1) : Int).toNat * 7)).add 6) = some (.slice a26 l26 c26) ∧
 (∃ (a27 : Option Addr), ∃ (l27 : Nat), ∃ (c27 : Nat), ∃ (w28 : World), Sem.run Tryz.prog (Builtin.append_ #[43, 43] 43 #[(.slice (if c18 = (1 : Int).toNat then a18 else (a18).map (·.add ((1 : Int).toNat * 1))) (l18 - (1 : Int).toNat) (c18 - (1 : Int).toNat)), (.slice a26 l26 c26)]) w22 = .ok (.slice a27 l27 c27) w28 ∧
 (I15 a27 l27 c27 w28 ∧ μ16 a27 l27 c27 w28 < μ16 a18 l18 c18 w17))))
 (I15 (if c18 = (1 : Int).toNat then a18 else (a18).map (·.add ((1 : Int).toNat * 1))) (l18 - (1 : Int).toNat) (c18 - (1 : Int).toNat) w17 ∧ μ16 (if c18 = (1 : Int).toNat then a18 else (a18).map (·.add ((1 : Int).toNat * 1))) (l18 - (1 : Int).toNat) (c18 - (1 : Int).toNat) w17 < μ16 a18 l18 c18 w17))))))
 (K (some b5) (((l4 : Nat) : Int).toNat) (((l4 : Nat) : Int).toNat) w17)))))
def ann84 : Ann := (.two .nil (.two .nil (.two .nil (.two (.one (.loop [(6, (.one .slice))] [0, 5] (.two (.two .nil (.two .nil .nil)) (.one (.two .nil (.two .nil (.two .nil (.two (.two .nil .nil) .nil)))))))) (.two .nil .nil)))))
noncomputable def code84 : Code := match Tryz.f84.body with | some c => c | none => .skip
theorem wp84 (o1 : Option Addr) (x2 : Int) (K : Option Addr → Nat → Nat → World → Prop) (w : World) : WP Tryz.prog tab code84 ann84 (fnQ tab Tryz.f84.results.toList [(.one .slice)] K) (argE 0 [(.pointer o1), (.int .i64 x2)]) w = N84 o1 x2 K w := by kernel_rfl
theorem calls84 (o1 : Option Addr) (x2 : Int) (K : Option Addr → Nat → Nat → World → Prop) (w : World) (h : N84 o1 x2 K w) : Calls Tryz.prog 84 #[(.pointer o1), (.int .i64 x2)] w fun en w' => ∃ (a29 : Option Addr), ∃ (l29 : Nat), ∃ (c29 : Nat), en = .returned (.slice a29 l29 c29) ∧ K a29 l29 c29 w' :=
 have e : (fun en w' => ExShs [(.one .slice)] fun vs => en = .returned (tupled vs) ∧ ap [(.one .slice)] K vs fun p => p w') = (fun (en : Ending) (w' : World) => ∃ (a29 : Option Addr), ∃ (l29 : Nat), ∃ (c29 : Nat), en = .returned (.slice a29 l29 c29) ∧ K a29 l29 c29 w') := by kernel_rfl
 e ▸ fn_sound tabOk mixed Tryz.func84 (by kernel_rfl : Tryz.f84.body = some code84) ann84 [(.pointer o1), (.int .i64 x2)] [(.one .slice)] K w (by kernel_rfl) ((wp84 o1 x2 K w).symm ▸ h)
end Go.Proofs.YtgggbmikmmljcaaGreat

namespace Go.Proofs.YtgggbmikmmljcaaGreat
open Go Go.V Go.Proofs
open Go.RowKit (Below)
/-! (*manystrand/manystrandref27.Count).closed -/
def N85 (o1 : Option Addr) (a2 : Option Addr) (l2 : Nat) (_c2 : Nat) (K : Bool → World → Prop) (w : World) : Prop :=
 ∃ (I3 : Int → World → Prop) (μ4 : Int → World → Nat),
 (I3 0 w ∧ True) ∧
 ∀ (w5 : World) (x6 : Int), I3 x6 w5 →
 BoolK (decide ((x6 : Int) < (l2 : Nat)))
 ((0 ≤ (x6 : Int) ∧ (x6 : Int) < (l2 : Nat)) ∧
 AddrK a2 fun b7 =>
 ∃ (p8 : Bool), w5.cell? (b7.add ((x6 : Int).toNat * 1)) = some (.bool p8) ∧
 (BoolK (!p8)
 (I3 (IntKind.wrap .i64 (x6 + 1)) w5 ∧ μ4 (IntKind.wrap .i64 (x6 + 1)) w5 < μ4 x6 w5)
 (AddrK o1 fun b9 =>
 ∃ (a10 : Option Addr) (l10 : Nat) (c10 : Nat), w5.cell? (b9.add 4) = some (.slice a10 l10 c10) ∧
 ((0 ≤ (x6 : Int) ∧ (x6 : Int) < (l10 : Nat)) ∧
 AddrK a10 fun b11 =>
 ∃ (x12 : Int), w5.cell? ((b11.add ((x6 : Int).toNat * 7)).add 0) = some (.int .i64 x12) ∧
 (∃ (x13 : Int), w5.cell? ((b11.add ((x6 : Int).toNat * 7)).add 1) = some (.int .i64 x13) ∧
 (∃ (x14 : Int), w5.cell? ((b11.add ((x6 : Int).toNat * 7)).add 2) = some (.int .i64 x14) ∧
 (∃ (p15 : Bool), w5.cell? ((b11.add ((x6 : Int).toNat * 7)).add 3) = some (.bool p15) ∧
 (∃ (p16 : Bool), w5.cell? ((b11.add ((x6 : Int).toNat * 7)).add 4) = some (.bool p16) ∧
 (∃ (p17 : Bool), w5.cell? ((b11.add ((x6 : Int).toNat * 7)).add 5) = some (.bool p17) ∧
 (∃ (a18 : Option Addr) (l18 : Nat) (c18 : Nat), w5.cell? ((b11.add ((x6 : Int).toNat * 7)).add 6) = some (.slice a18 l18 c18) ∧
 (AllocK w5 (#[.int .i64 0, .int .i64 0, .int .i64 0, .bool false, .bool false, .bool false, .slice none 0 0]) 98 fun b19 w20 =>
 SetK w20 (b19.add 0) (.int .i64 x12) fun w21 =>
 SetK w21 (b19.add 1) (.int .i64 x13) fun w22 =>
 SetK w22 (b19.add 2) (.int .i64 x14) fun w23 =>
 SetK w23 (b19.add 3) (.bool p15) fun w24 =>
 SetK w24 (b19.add 4) (.bool p16) fun w25 =>
 SetK w25 (b19.add 5) (.bool p17) fun w26 =>
 SetK w26 (b19.add 6) (.slice a18 l18 c18) fun w27 =>
 ∃ (p28 : Bool), w27.cell? (b19.add 3) = some (.bool p28) ∧
 (BoolK p28
 (K false w27)
 (∃ (p29 : Bool), w27.cell? (b19.add 4) = some (.bool p29) ∧
 (BoolK p29
 (K false w27)
 (∃ (p30 : Bool), w27.cell? (b19.add 5) = some (.bool p30) ∧
 (BoolK p30
 (K false w27)
 (∃ (I31 : Int → World → Prop) (μ32 : Int → World → Nat),
 (I31 0 w27 ∧ True) ∧
 ∀ (w33 : World) (x34 : Int), I31 x34 w33 →
 AddrK o1 fun b35 =>
 ∃ (a36 : Option Addr) (l36 : Nat) (c36 : Nat), w33.cell? (b35.add 11) = some (.slice a36 l36 c36) ∧
 (BoolK (decide ((x34 : Int) < (l36 : Nat)))
 (AddrK o1 fun b37 =>
 ∃ (a38 : Option Addr) (l38 : Nat) (c38 : Nat), w33.cell? (b37.add 11) = some (.slice a38 l38 c38) ∧
 ((0 ≤ (x34 : Int) ∧ (x34 : Int) < (l38 : Nat)) ∧
 AddrK a38 fun b39 =>
 ∃ (x40 : Int), w33.cell? ((b39.add ((x34 : Int).toNat * 8)).add 3) = some (.int .i64 x40) ∧
 (BoolK ((x40 : Int) == IntKind.wrap .i64 (x6 + 1))
 (AddrK o1 fun b41 =>
 ∃ (a42 : Option Addr) (l42 : Nat) (c42 : Nat), w33.cell? (b41.add 11) = some (.slice a42 l42 c42) ∧
 ((0 ≤ (x34 : Int) ∧ (x34 : Int) < (l42 : Nat)) ∧
 AddrK a42 fun b43 =>
 ∃ (x44 : Int), w33.cell? ((b43.add ((x34 : Int).toNat * 8)).add 4) = some (.int .i64 x44) ∧
 (BoolK (decide ((x44 : Int) > 0))
 (K false w33)
 (I31 (IntKind.wrap .i64 (x34 + 1)) w33 ∧ μ32 (IntKind.wrap .i64 (x34 + 1)) w33 < μ32 x34 w33))))
 (I31 (IntKind.wrap .i64 (x34 + 1)) w33 ∧ μ32 (IntKind.wrap .i64 (x34 + 1)) w33 < μ32 x34 w33))))
 (∃ (I45 : Int → World → Prop) (μ46 : Int → World → Nat),
 (I45 0 w33 ∧ True) ∧
 ∀ (w47 : World) (x48 : Int), I45 x48 w47 →
 AddrK o1 fun b49 =>
 ∃ (a50 : Option Addr) (l50 : Nat) (c50 : Nat), w47.cell? (b49.add 4) = some (.slice a50 l50 c50) ∧
 (BoolK (decide ((x48 : Int) < (l50 : Nat)))
 ((0 ≤ (x48 : Int) ∧ (x48 : Int) < (l2 : Nat)) ∧
 AddrK a2 fun b51 =>
 ∃ (p52 : Bool), w47.cell? (b51.add ((x48 : Int).toNat * 1)) = some (.bool p52) ∧
 (BoolK (!p52)
 (AddrK o1 fun b53 =>
 ∃ (a54 : Option Addr) (l54 : Nat) (c54 : Nat), w47.cell? (b53.add 4) = some (.slice a54 l54 c54) ∧
 ((0 ≤ (x48 : Int) ∧ (x48 : Int) < (l54 : Nat)) ∧
 AddrK a54 fun b55 =>
 ∃ (p56 : Bool), w47.cell? ((b55.add ((x48 : Int).toNat * 7)).add 5) = some (.bool p56) ∧
 (BoolK (!p56)
 (AddrK o1 fun b57 =>
 ∃ (a58 : Option Addr) (l58 : Nat) (c58 : Nat), w47.cell? (b57.add 4) = some (.slice a58 l58 c58) ∧
 ((0 ≤ (x48 : Int) ∧ (x48 : Int) < (l58 : Nat)) ∧
 AddrK a58 fun b59 =>
 ∃ (a60 : Option Addr) (l60 : Nat) (c60 : Nat), w47.cell? ((b59.add ((x48 : Int).toNat * 7)).add 6) = some (.slice a60 l60 c60) ∧
 (Calls Tryz.prog 69 #[(.slice a60 l60 c60), (.int .i64 (IntKind.wrap .i64 (x6 + 1)))] w47 fun e63 w62 =>
 ∃ (p61 : Bool), e63 = .returned (.bool p61) ∧
 (BoolK p61
 (K false w62)
 (I45 (IntKind.wrap .i64 (x48 + 1)) w62 ∧ μ46 (IntKind.wrap .i64 (x48 + 1)) w62 < μ46 x48 w47)))))
 (I45 (IntKind.wrap .i64 (x48 + 1)) w47 ∧ μ46 (IntKind.wrap .i64 (x48 + 1)) w47 < μ46 x48 w47))))
 (I45 (IntKind.wrap .i64 (x48 + 1)) w47 ∧ μ46 (IntKind.wrap .i64 (x48 + 1)) w47 < μ46 x48 w47)))
 (∃ (I64 : Int → World → Prop) (μ65 : Int → World → Nat),
 (I64 0 w47 ∧ True) ∧
 ∀ (w66 : World) (x67 : Int), I64 x67 w66 →
 AddrK o1 fun b68 =>
 ∃ (x69 : Int), w66.cell? b68 = some (.int .i64 x69) ∧
 (BoolK (decide ((x67 : Int) < x69))
 (AddrK o1 fun b70 =>
 ∃ (a71 : Option Addr) (l71 : Nat) (c71 : Nat), w66.cell? (b70.add 5) = some (.slice a71 l71 c71) ∧
 ((0 ≤ (x67 : Int) ∧ (x67 : Int) < (l71 : Nat)) ∧
 AddrK a71 fun b72 =>
 ∃ (a73 : Option Addr) (l73 : Nat) (c73 : Nat), w66.cell? (b72.add ((x67 : Int).toNat * 1)) = some (.slice a73 l73 c73) ∧
 ((0 ≤ (x6 : Int) ∧ (x6 : Int) < (l73 : Nat)) ∧
 AddrK a73 fun b74 =>
 ∃ (x75 : Int), w66.cell? (b74.add ((x6 : Int).toNat * 1)) = some (.int .i64 x75) ∧
 (BoolK (decide ((x75 : Int) > 0))
 (Calls Tryz.prog 67 #[(.pointer o1), (.int .i64 x67), (.int .i64 (IntKind.wrap .i64 (x6 + 1)))] w66 fun e78 w77 =>
 ∃ (p76 : Bool), e78 = .returned (.bool p76) ∧
 (BoolK (!p76)
 (K false w77)
 (I64 (IntKind.wrap .i64 (x67 + 1)) w77 ∧ μ65 (IntKind.wrap .i64 (x67 + 1)) w77 < μ65 x67 w66)))
 (I64 (IntKind.wrap .i64 (x67 + 1)) w66 ∧ μ65 (IntKind.wrap .i64 (x67 + 1)) w66 < μ65 x67 w66)))))
 (I3 (IntKind.wrap .i64 (x6 + 1)) w66 ∧ μ4 (IntKind.wrap .i64 (x6 + 1)) w66 < μ4 x6 w5)))))))))))))))))))))))
 (K true w5)
def ann85 : Ann := (.two .nil (.two (.two .nil (.one (.loop [(5, (.one (.int .i64)))] [0, 1] (.two (.two .nil (.two .nil .nil)) (.two (.one (.two (.two .nil (.two .nil .nil)) (.two .nil (.two (.two .nil (.two (.two .nil .nil) .nil)) (.two (.two .nil (.one (.loop [(7, (.one (.int .i64)))] [0, 1, 5] (.two (.two .nil (.two .nil .nil)) (.two (.one (.two .nil (.two (.two .nil .nil) .nil))) .nil))))) (.two (.two .nil (.one (.loop [(8, (.one (.int .i64)))] [0, 1, 5] (.two (.two .nil (.two .nil .nil)) (.two (.one (.two .nil (.two (.two .nil .nil) .nil))) .nil))))) (.two .nil (.one (.loop [(9, (.one (.int .i64)))] [0, 1, 5] (.two (.two .nil (.two .nil .nil)) (.two (.one (.two .nil (.two (.two .nil .nil) .nil))) .nil))))))))))) .nil))))) (.two .nil .nil)))
noncomputable def code85 : Code := match Tryz.f85.body with | some c => c | none => .skip
theorem wp85 (o1 : Option Addr) (a2 : Option Addr) (l2 : Nat) (c2 : Nat) (K : Bool → World → Prop) (w : World) : WP Tryz.prog tab code85 ann85 (fnQ tab Tryz.f85.results.toList [(.one .bool)] K) (argE 0 [(.pointer o1), (.slice a2 l2 c2)]) w = N85 o1 a2 l2 c2 K w := by kernel_rfl
theorem calls85 (o1 : Option Addr) (a2 : Option Addr) (l2 : Nat) (c2 : Nat) (K : Bool → World → Prop) (w : World) (h : N85 o1 a2 l2 c2 K w) : Calls Tryz.prog 85 #[(.pointer o1), (.slice a2 l2 c2)] w fun en w' => ∃ (p79 : Bool), en = .returned (.bool p79) ∧ K p79 w' :=
 have e : (fun en w' => ExShs [(.one .bool)] fun vs => en = .returned (tupled vs) ∧ ap [(.one .bool)] K vs fun p => p w') = (fun (en : Ending) (w' : World) => ∃ (p79 : Bool), en = .returned (.bool p79) ∧ K p79 w') := by kernel_rfl
 e ▸ fn_sound tabOk mixed Tryz.func85 (by kernel_rfl : Tryz.f85.body = some code85) ann85 [(.pointer o1), (.slice a2 l2 c2)] [(.one .bool)] K w (by kernel_rfl) ((wp85 o1 a2 l2 c2 K w).symm ▸ h)
end Go.Proofs.YtgggbmikmmljcaaGreat

namespace Go.Proofs.YtgggbmikmmljcaaGreat
open Go Go.V Go.Proofs
open Go.RowKit (Below)
/-! (*manystrand/manystrandref27.Count).Cycles -/
def N42 (o1 : Option Addr) (K : Option Addr → Nat → Nat → World → Prop) (w : World) : Prop :=
 AddrK o1 fun b2 =>
 ∃ (a3 : Option Addr) (l3 : Nat) (c3 : Nat), w.cell? (b2.add 4) = some (.slice a3 l3 c3) ∧
 ((0 ≤ ((l3 : Nat) : Int) ∧ ((l3 : Nat) : Int) ≤ (l3 : Nat) ∧ ((1 : Nat) : Int) * (l3 : Nat) ≤ 281474976710656 ∧ ((l3 : Nat) : Int) ≤ 9223372036854775807) ∧
 AllocK w (madeCells (#[.bool false]) (((l3 : Nat) : Int).toNat * 1)) 4 fun b4 w5 =>
 ∃ (I6 : Option Addr → Nat → Nat → Int → World → Prop) (μ7 : Option Addr → Nat → Nat → Int → World → Nat),
 (I6 none 0 0 0 w5 ∧ True) ∧
 ∀ (w8 : World) (a9 : Option Addr) (l9 : Nat) (c9 : Nat) (x10 : Int), I6 a9 l9 c9 x10 w8 →
 AddrK o1 fun b11 =>
 ∃ (a12 : Option Addr) (l12 : Nat) (c12 : Nat), w8.cell? (b11.add 4) = some (.slice a12 l12 c12) ∧
 (BoolK (decide ((x10 : Int) < (l12 : Nat)))
 (Calls Tryz.prog 84 #[(.pointer o1), (.int .i64 (IntKind.wrap .i64 (x10 + 1)))] w8 fun e15 w14 =>
 ∃ (a13 : Option Addr), ∃ (l13 : Nat), ∃ (c13 : Nat), e15 = .returned (.slice a13 l13 c13) ∧
 ((0 ≤ (x10 : Int) ∧ (x10 : Int) < (((l3 : Nat) : Int).toNat : Nat)) ∧
 ∃ (p16 : Bool), w14.cell? (b4.add ((x10 : Int).toNat * 1)) = some (.bool p16) ∧
 (BoolK p16
 (I6 a9 l9 c9 (IntKind.wrap .i64 (x10 + 1)) w14 ∧ μ7 a9 l9 c9 (IntKind.wrap .i64 (x10 + 1)) w14 < μ7 a9 l9 c9 x10 w8)
 ((0 ≤ (x10 : Int) ∧ (x10 : Int) < (l13 : Nat)) ∧
 AddrK a13 fun b17 =>
 ∃ (p18 : Bool), w14.cell? (b17.add ((x10 : Int).toNat * 1)) = some (.bool p18) ∧
 (BoolK (!p18)
 (I6 a9 l9 c9 (IntKind.wrap .i64 (x10 + 1)) w14 ∧ μ7 a9 l9 c9 (IntKind.wrap .i64 (x10 + 1)) w14 < μ7 a9 l9 c9 x10 w8)
 (AddrK o1 fun b19 =>
 ∃ (a20 : Option Addr) (l20 : Nat) (c20 : Nat), w14.cell? (b19.add 4) = some (.slice a20 l20 c20) ∧
 ((0 ≤ ((l20 : Nat) : Int) ∧ ((l20 : Nat) : Int) ≤ (l20 : Nat) ∧ ((1 : Nat) : Int) * (l20 : Nat) ≤ 281474976710656 ∧ ((l20 : Nat) : Int) ≤ 9223372036854775807) ∧
 AllocK w14 (madeCells (#[.bool false]) (((l20 : Nat) : Int).toNat * 1)) 4 fun b21 w22 =>
 ∃ (I23 : Option Addr → Nat → Nat → Int → World → Prop) (μ24 : Option Addr → Nat → Nat → Int → World → Nat),
 (I23 none 0 0 x10 w22 ∧ True) ∧
 ∀ (w25 : World) (a26 : Option Addr) (l26 : Nat) (c26 : Nat) (x27 : Int), I23 a26 l26 c26 x27 w25 →
 AddrK o1 fun b28 =>
 ∃ (a29 : Option Addr) (l29 : Nat) (c29 : Nat), w25.cell? (b28.add 4) = some (.slice a29 l29 c29) ∧
 (BoolK (decide ((x27 : Int) < (l29 : Nat)))
 (∃ (J30 : Bool → World → Prop),
 (∀ (w31 : World) (p32 : Bool), J30 p32 w31 →
 BoolK p32
 ((0 ≤ (x27 : Int) ∧ (x27 : Int) < (((l20 : Nat) : Int).toNat : Nat)) ∧
 SetK w31 (b21.add ((x27 : Int).toNat * 1)) (.bool true) fun w33 =>
 (0 ≤ (x27 : Int) ∧ (x27 : Int) < (((l3 : Nat) : Int).toNat : Nat)) ∧
 SetK w33 (b4.add ((x27 : Int).toNat * 1)) (.bool true) fun w34 =>
 AllocK w34 (#[(.int .i64 (IntKind.wrap .i64 (x27 + 1)))]) 3 fun b35 w36 =>
 ∃ (a37 : Option Addr), ∃ (l37 : Nat), ∃ (c37 : Nat), ∃ (w38 : World), Sem.run Tryz.prog (Builtin.append_ #[43, 43] 43 #[(.slice a26 l26 c26), (.slice (some b35) 1 1)]) w36 = .ok (.slice a37 l37 c37) w38 ∧
 (I23 a37 l37 c37 (IntKind.wrap .i64 (x27 + 1)) w38 ∧ μ24 a37 l37 c37 (IntKind.wrap .i64 (x27 + 1)) w38 < μ24 a26 l26 c26 x27 w25))
 (I23 a26 l26 c26 (IntKind.wrap .i64 (x27 + 1)) w31 ∧ μ24 a26 l26 c26 (IntKind.wrap .i64 (x27 + 1)) w31 < μ24 a26 l26 c26 x27 w25)) ∧
 ((0 ≤ (x27 : Int) ∧ (x27 : Int) < (l13 : Nat)) ∧
 AddrK a13 fun b39 =>
 ∃ (p40 : Bool), w25.cell? (b39.add ((x27 : Int).toNat * 1)) = some (.bool p40) ∧
 (BoolK p40
 (Calls Tryz.prog 84 #[(.pointer o1), (.int .i64 (IntKind.wrap .i64 (x27 + 1)))] w25 fun e43 w42 =>
 ∃ (a41 : Option Addr), ∃ (l41 : Nat), ∃ (c41 : Nat), e43 = .returned (.slice a41 l41 c41) ∧
 ((0 ≤ (x10 : Int) ∧ (x10 : Int) < (l41 : Nat)) ∧
 AddrK a41 fun b44 =>
 ∃ (p45 : Bool), w42.cell? (b44.add ((x10 : Int).toNat * 1)) = some (.bool p45) ∧
 (J30 p45 w42)))
 (J30 false w25))))
 (Calls Tryz.prog 85 #[(.pointer o1), (.slice (some b21) (((l20 : Nat) : Int).toNat) (((l20 : Nat) : Int).toNat))] w25 fun e48 w47 =>
 ∃ (p46 : Bool), e48 = .returned (.bool p46) ∧
 (BoolK p46
 (AllocK w47 (#[(.slice a26 l26 c26)]) 43 fun b49 w50 =>
 ∃ (a51 : Option Addr), ∃ (l51 : Nat), ∃ (c51 : Nat), ∃ (w52 : World), Sem.run Tryz.prog (Builtin.append_ #[45, 45] 45 #[(.slice a9 l9 c9), (.slice (some b49) 1 1)]) w50 = .ok (.slice a51 l51 c51) w52 ∧
 (I6 a51 l51 c51 (IntKind.wrap .i64 (x10 + 1)) w52 ∧ μ7 a51 l51 c51 (IntKind.wrap .i64 (x10 + 1)) w52 < μ7 a9 l9 c9 x10 w8))
 (I6 a9 l9 c9 (IntKind.wrap .i64 (x10 + 1)) w47 ∧ μ7 a9 l9 c9 (IntKind.wrap .i64 (x10 + 1)) w47 < μ7 a9 l9 c9 x10 w8)))))))))))
 (K a9 l9 c9 w8)))
def ann42 : Ann := (.two .nil (.two .nil (.two .nil (.two (.two .nil (.one (.loop [(3, (.one .slice)), (5, (.one (.int .i64)))] [0, 4] (.two (.two .nil (.two .nil .nil)) (.two (.one (.two .nil (.two (.two .nil (.two .nil .nil)) (.two .nil (.two .nil (.two (.two .nil (.one (.loop [(8, (.one .slice)), (9, (.one (.int .i64)))] [0, 3, 4, 5, 6, 7] (.two (.two .nil (.two .nil .nil)) (.two (.one (.cut [(68, (.one .bool))] [0, 3, 4, 5, 6, 7, 8, 9] .nil (.two (.two .nil .nil) .nil))) .nil))))) (.two .nil (.two .nil .nil)))))))) .nil))))) (.two .nil .nil)))))
noncomputable def code42 : Code := match Tryz.f42.body with | some c => c | none => .skip
theorem wp42 (o1 : Option Addr) (K : Option Addr → Nat → Nat → World → Prop) (w : World) : WP Tryz.prog tab code42 ann42 (fnQ tab Tryz.f42.results.toList [(.one .slice)] K) (argE 0 [(.pointer o1)]) w = N42 o1 K w := by kernel_rfl
theorem calls42 (o1 : Option Addr) (K : Option Addr → Nat → Nat → World → Prop) (w : World) (h : N42 o1 K w) : Calls Tryz.prog 42 #[(.pointer o1)] w fun en w' => ∃ (a53 : Option Addr), ∃ (l53 : Nat), ∃ (c53 : Nat), en = .returned (.slice a53 l53 c53) ∧ K a53 l53 c53 w' :=
 have e : (fun en w' => ExShs [(.one .slice)] fun vs => en = .returned (tupled vs) ∧ ap [(.one .slice)] K vs fun p => p w') = (fun (en : Ending) (w' : World) => ∃ (a53 : Option Addr), ∃ (l53 : Nat), ∃ (c53 : Nat), en = .returned (.slice a53 l53 c53) ∧ K a53 l53 c53 w') := by kernel_rfl
 e ▸ fn_sound tabOk mixed Tryz.func42 (by kernel_rfl : Tryz.f42.body = some code42) ann42 [(.pointer o1)] [(.one .slice)] K w (by kernel_rfl) ((wp42 o1 K w).symm ▸ h)
end Go.Proofs.YtgggbmikmmljcaaGreat

namespace Go.Proofs.YtgggbmikmmljcaaGreat
open Go Go.V Go.Proofs
open Go.RowKit (Below)
section
variable {κ κ' κ1 κ2 : Ka RK} {N N' : Prm} {r : Rb} {w w' : World}
theorem c84 (h : RR κ N r w) {x : Int} (hT : N.isT x) : Calls Tryz.prog 84 #[rp r, .int .i64 x] w fun en w' => ∃ a l c, en = .returned (.slice a l c) ∧ ∃ κ' b D, RR κ' N r w' ∧ PkR κ κ' w w' ∧ a = some ⟨b, 0, none⟩ ∧ l = N.n ∧ D.length = N.n ∧ Blk w' b (bools D) 4 ∧ w.heap.size ≤ b ∧ κ' b = none := by
  refine calls84 _ _ (fun a l c w' => ∃ κ' b D, RR κ' N r w' ∧ PkR κ κ' w w' ∧ a = some ⟨b, 0, none⟩ ∧ l = N.n ∧ D.length = N.n ∧ Blk w' b (bools D) 4 ∧ w.heap.size ≤ b ∧ κ' b = none) w ?_
  obtain ⟨ln, -, -, lh, -⟩ := h.ln
  obtain ⟨a4, c4, hc4, hs4⟩ := h.c4
  refine ⟨_, _, _, hc4, ⟨by omega, by omega, by omega, by omega⟩, AllocK.mk fun b w6 hb hB hx6 => ?_⟩
  rw [Int.toNat_natCast, made_bools] at hB
  have h6 := h.ext hx6
  have hbn : κ b = none := h.fresh (by omega)
  refine AllocK.mk fun b7 w8 hb7 hB7 hx8 => ?_
  have h8 := h6.ext hx8
  obtain ⟨a10, c10, hc10, hs10⟩ := h8.c4
  obtain ⟨e, i1, i2⟩ := Prm.sub hT ln
  rw [e]
  obtain ⟨g, o, m, u, own, out, last, f1, f2, f3, ha, hl, hc', rfl, hkg, hSo, hsl, hle, _, _, _, _, _, _, _, _, c6⟩ := h8.thAt hs10 (x := x - 1) i1 i2
  refine ⟨_, _, _, hc10, ⟨i1, i2⟩, _, _, _, c6, ?_⟩
  have hb6 := hB.lt
  obtain ⟨a13, c13, w14, κ1, q1, q2, q3, q4, q5⟩ := Sl.copy (ty := 43) (okR N r) rsltX h6.ty hx8 hB7 (by omega) hsl (by omega)
  refine ⟨a13, _, c13, w14, q1, ?_⟩
  have h14 : RR κ1 N r w14 := h6.same (q5 NT) q2
  have p14 : PkR κ κ1 w w14 := (h.pkExt hx6).trans (q5 NT)
  have hB14 := (hB.ext hx8).ext q4
  have hb1 : κ1 b = none := (q5 NT).free b hb6 hbn
  have hnh : N.n * (N.h + 1) ≤ 1001000 := Nat.le_trans (Nat.mul_le_mul ln (Nat.succ_le_succ lh)) (by decide)
  have cnt0 : cntF (List.replicate N.n false) = N.n := by simp [cntF, List.countP_replicate]
  simp only [Int.toNat_natCast]
  refine ⟨fun a l c w' => ∃ κ2 D, RR κ2 N r w' ∧ PkR κ κ2 w w' ∧ Sl Kr κ2 .idx (a, l, c) ∧ D.length = N.n ∧ Blk w' b (bools D) 4 ∧ κ2 b = none ∧ cntF D * (N.h + 1) + l ≤ 1001000 + N.h, fun _ l _ w' => cntF (decB w' b N.n) * (N.h + 1) + l,
    ⟨⟨κ1, _, h14, p14, q3, by simp, hB14, hb1, by rw [cnt0]; omega⟩, trivial⟩, ?_⟩
  rintro w17 a l c ⟨κ2, D, h17, p17, s17, hD, hB17, hb17, hbd⟩
  have d17 := decB_eq hB17
  rw [hD] at d17
  refine BoolK.mk (fun t => ?_) (fun t => ⟨κ2, b, D, h17, p17, rfl, by trivial, hD, hB17, by omega, hb17⟩)
  have t := of_decide_eq_true t
  have hlc := s17.lc
  obtain ⟨g1, o1, n1, u1, _, rfl, hk1, hu1, hc1, y, rfl, hy1, hy2⟩ := h17.el s17 rfl (x := 0) (by omega) t
  obtain ⟨e2, j1, j2⟩ := Prm.sub (N := N) (x := y) ⟨hy1, hy2⟩ ln
  have s2 := s17.cut (lo := 1) (hi := l) (by omega) (Nat.le_refl _)
  refine ⟨⟨by omega, t⟩, y, hc1, by omega, ⟨by show 1 ≤ l; omega, hlc⟩, ?_⟩
  rw [e2]
  refine ⟨⟨by omega, by omega⟩, _, getBool hB17 (i := (y - 1).toNat) (by omega), BoolK.mk (fun tb => ?_) (fun _ => ?_)⟩
  · refine ⟨⟨by omega, by omega⟩, setBool hB17 (i := (y - 1).toNat) (by omega) true fun w22 hB22 bu22 => ?_⟩
    have h22 := h17.but bu22 hb17
    have p22 : PkR κ κ2 w w22 := p17.but bu22 (by omega) hbn
    obtain ⟨a24, c24, hc24, hs24⟩ := h22.c4
    obtain ⟨g, o, m, u, own, out, last, f1, f2, f3, ha, hl, hc', rfl, hkg, hSo, hsl2, hle2, _, _, _, _, _, _, _, _, c6⟩ := h22.thAt hs24 (x := y - 1) j1 j2
    refine ⟨_, _, _, hc24, ⟨by omega, by omega⟩, _, _, _, c6, ?_⟩
    obtain ⟨a27, c27, w28, κ3, z1, z2, z3, z4⟩ := Sl.append (ty := 43) (okR N r) rsltX h22.ty s2 hsl2 (by omega)
    refine ⟨a27, _, c27, w28, z1, ?_⟩
    have hB28 := z4.blk hB22 hb17
    have hdec := cntF_set (D := D) (i := (y - 1).toNat) (by rw [List.getElem?_eq_getElem (by omega)]; simpa using tb)
    have hmul := Nat.mul_le_mul_right (N.h + 1) (Nat.succ_le_of_lt hdec)
    rw [Nat.succ_mul] at hmul
    have d28 := decB_eq hB28
    rw [List.length_set, hD] at d28
    refine ⟨⟨κ3, _, h22.same (z4.mono ntX) z2, p22.trans (z4.mono ntX), z3, by simpa using hD, hB28, z4.free b hB22.lt hb17, by omega⟩, ?_⟩
    show cntF (decB w28 b N.n) * (N.h + 1) + (l - 1 + hl) < cntF (decB w17 b N.n) * (N.h + 1) + l
    rw [d17, d28]
    omega
  · refine ⟨⟨κ2, D, h17, p17, s2, hD, hB17, hb17, by show cntF D * (N.h + 1) + (l - 1) ≤ _; omega⟩, ?_⟩
    show _ + (l - 1) < _ + l
    omega
theorem c85 (h : RR κ N r w) {b c : Nat} {D : List Bool} (hB : Blk w b (bools D) 4) (hD : D.length = N.n) : Calls Tryz.prog 85 #[rp r, .slice (some ⟨b, 0, none⟩) N.n c] w fun en w' => ∃ p, en = .returned (.bool p) ∧ Ext w w' := by
  refine calls85 _ _ _ _ (fun _ w' => Ext w w') w ?_
  obtain ⟨ln, -, -, lh, lf⟩ := h.ln
  have ls := h.ls
  refine ⟨fun x w' => ∃ k : Nat, x = k ∧ k ≤ N.n ∧ Ext w w', fun x _ => N.n - x.toNat, ⟨⟨0, rfl, Nat.zero_le _, Ext.refl _⟩, trivial⟩, ?_⟩
  rintro w5 _ ⟨k, rfl, hk, hx5⟩
  refine BoolK.mk (fun t => ?_) (fun t => hx5)
  have t := of_decide_eq_true t
  have e : IntKind.wrap .i64 ((k : Int) + 1) = ((k + 1 : Nat) : Int) := wrap_succ (by omega)
  rw [e]
  have go : ∀ {w2 : World}, Ext w w2 → (∃ k2 : Nat, ((k + 1 : Nat) : Int) = k2 ∧ k2 ≤ N.n ∧ Ext w w2) ∧ N.n - (((k + 1 : Nat) : Int)).toNat < N.n - (k : Int).toNat := fun hx2 => ⟨⟨k + 1, rfl, by omega, hx2⟩, by simp; omega⟩
  refine ⟨⟨by omega, t⟩, _, getBool (hB.ext hx5) (i := (k : Int).toNat) (by simp; omega), BoolK.mk (fun _ => go hx5) (fun _ => ?_)⟩
  have h5 := h.ext hx5
  obtain ⟨a4, c4, hc4, hs4⟩ := h5.c4
  obtain ⟨g, o, m, u, own, out, last, f1, f2, f3, ha, hl, hc', rfl, hk2, hS, hsl, hle, _, _, c0, c1, c2, c3, c4', c5, c6⟩ := h5.thAt hs4 (x := k) (by omega) t
  refine ⟨_, _, _, hc4, ⟨by omega, t⟩, own, c0, out, c1, last, c2, f1, c3, f2, c4', f3, c5, _, _, _, c6, ?_⟩
  refine AllocK.mk fun bb w35 hbb hBB hx35 => ?_
  simp only [add_mk, Nat.zero_add]
  refine SetK.mk hBB (by simp) fun w36 hBB bu1 => SetK.mk hBB (by simp) fun w37 hBB bu2 => SetK.mk hBB (by simp) fun w38 hBB bu3 => SetK.mk hBB (by simp) fun w39 hBB bu4 => SetK.mk hBB (by simp) fun w40 hBB bu5 => SetK.mk hBB (by simp) fun w41 hBB bu6 => SetK.mk hBB (by simp) fun w27 hBB bu7 => ?_
  have hBB : Blk w27 bb #[.int .i64 own, .int .i64 out, .int .i64 last, .bool f1, .bool f2, .bool f3, .slice ha hl hc'] _ := hBB
  have bu := (((((bu1.trans bu2).trans bu3).trans bu4).trans bu5).trans bu6).trans bu7
  have hx27 : Ext w w27 := hx5.trans (bu.below hx35 (by omega))
  have h27 : RR κ N r w27 := h.ext hx27
  have hB27 := hB.ext hx27
  refine ⟨f1, by rw [hBB.cell]; rfl, BoolK.mk (fun _ => hx27) (fun _ => ?_)⟩
  refine ⟨f2, by rw [hBB.cell]; rfl, BoolK.mk (fun _ => hx27) (fun _ => ?_)⟩
  refine ⟨f3, by rw [hBB.cell]; rfl, BoolK.mk (fun _ => hx27) (fun _ => ?_)⟩
  clear c0 c1 c2 c3 c4' c5 c6 hBB bu hc4 hs4
  obtain ⟨a11, l11, c11, hc11, hs11, hl11⟩ := h27.c11
  obtain ⟨a4, c4, hc4, hs4⟩ := h27.c4
  simp only [add_mk, Nat.zero_add] at hc11 hc4
  refine ⟨fun x w' => ∃ j : Nat, x = j ∧ j ≤ N.f ∧ w27 = w', fun x _ => N.f - x.toNat, ⟨⟨0, rfl, Nat.zero_le _, rfl⟩, trivial⟩, ?_⟩
  rintro _ _ ⟨j, rfl, hj, rfl⟩
  refine ⟨_, _, _, hc11, BoolK.mk (fun tj => ?_) (fun _ => ?_)⟩
  · have tj := of_decide_eq_true tj
    have gj : ∀ w2, w27 = w2 → (∃ j2 : Nat, IntKind.wrap .i64 ((j : Int) + 1) = j2 ∧ j2 ≤ N.f ∧ w27 = w2) ∧ N.f - (IntKind.wrap .i64 ((j : Int) + 1)).toNat < N.f - (j : Int).toNat := by
      rintro _ rfl; rw [wrap_succ (by omega)]; exact ⟨⟨j + 1, rfl, by omega, rfl⟩, by simp; omega⟩
    obtain ⟨g, o, p0, p1, s, p3, p4, p5, p6, ga, gl, gc, rfl, o0, o1, o3, d0, d1, d2, d3, d4, d5, d6, d7⟩ := h27.flyAt hs11 (x := j) (by omega) tj
    refine ⟨_, _, _, hc11, ⟨by omega, tj⟩, p3, d3, BoolK.mk (fun _ => ?_) (fun _ => gj _ rfl)⟩
    exact ⟨_, _, _, hc11, ⟨by omega, tj⟩, p4, d4, BoolK.mk (fun _ => hx27) (fun _ => gj _ rfl)⟩
  refine ⟨fun x w' => ∃ j : Nat, x = j ∧ j ≤ N.n ∧ w27 = w', fun x _ => N.n - x.toNat, ⟨⟨0, rfl, Nat.zero_le _, rfl⟩, trivial⟩, ?_⟩
  rintro _ _ ⟨j2, rfl, hj2, rfl⟩
  refine ⟨_, _, _, hc4, BoolK.mk (fun tj => ?_) (fun _ => ?_)⟩
  · have tj := of_decide_eq_true tj
    have gj : ∀ w2, w27 = w2 → (∃ j3 : Nat, IntKind.wrap .i64 ((j2 : Int) + 1) = j3 ∧ j3 ≤ N.n ∧ w27 = w2) ∧ N.n - (IntKind.wrap .i64 ((j2 : Int) + 1)).toNat < N.n - (j2 : Int).toNat := by
      rintro _ rfl; rw [wrap_succ (by omega)]; exact ⟨⟨j2 + 1, rfl, by omega, rfl⟩, by simp; omega⟩
    obtain ⟨g, o, m, u, own, out, last, f1, f2, f3, ha, hl, hc', rfl, hk2, hS, hsl, hle, _, _, c0, c1, c2, c3, c4', c5, c6⟩ := h27.thAt hs4 (x := j2) (by omega) tj
    have gb := getBool hB27 (i := (j2 : Int).toNat) (by simp; omega)
    refine ⟨⟨by omega, tj⟩, _, gb, BoolK.mk (fun _ => ?_) (fun _ => gj _ rfl)⟩
    refine ⟨_, _, _, hc4, ⟨by omega, tj⟩, f3, c5, BoolK.mk (fun _ => ?_) (fun _ => gj _ rfl)⟩
    refine ⟨_, _, _, hc4, ⟨by omega, tj⟩, _, _, _, c6, (c69 h27 hsl (.inl rfl) (by omega) _).mono ?_⟩
    rintro en w62 ⟨p, rfl, rfl⟩
    exact ⟨_, rfl, BoolK.mk (fun _ => hx27) (fun _ => gj _ rfl)⟩
  refine ⟨fun x w' => ∃ j : Nat, x = j ∧ j ≤ N.s ∧ w27 = w', fun x _ => N.s - x.toNat, ⟨⟨0, rfl, Nat.zero_le _, rfl⟩, trivial⟩, ?_⟩
  rintro _ _ ⟨j3, rfl, hj3, rfl⟩
  refine ⟨_, h27.c0, BoolK.mk (fun tj => ?_) (fun _ => go hx27)⟩
  have tj := of_decide_eq_true tj
  have gj : ∀ w2, w27 = w2 → (∃ j4 : Nat, IntKind.wrap .i64 ((j3 : Int) + 1) = j4 ∧ j4 ≤ N.s ∧ w27 = w2) ∧ N.s - (IntKind.wrap .i64 ((j3 : Int) + 1)).toNat < N.s - (j3 : Int).toNat := by
    rintro _ rfl; rw [wrap_succ (by omega)]; exact ⟨⟨j3 + 1, rfl, by omega, rfl⟩, by simp; omega⟩
  obtain ⟨a, l, c, h1, h2, h3, _⟩ := h27.tw.at_ (x := j3) (by omega) tj
  refine ⟨_, _, _, h27.c5, ⟨by omega, tj⟩, a, l, c, h1, ⟨by omega, by omega⟩, h27.getI h2 (by omega) (by omega) fun v => BoolK.mk (fun _ => ?_) (fun _ => gj _ rfl)⟩
  refine (c67 h27 _ _).mono ?_
  rintro en w77 ⟨p, rfl, rfl⟩
  exact ⟨_, rfl, BoolK.mk (fun _ => hx27) (fun _ => gj _ rfl)⟩
theorem RR.pushS (h : RR κ N r w) {a : Option Addr} {l c : Nat} (hs : Sl Kr κ .sets (a, l, c)) (hl : l ≤ 2000000) {a2 : Option Addr} {l2 c2 : Nat} (hs2 : Sl Kr κ .ints (a2, l2, c2)) {ty te : Nat} {F : Option Addr → Nat → Nat → World → Prop}
    (f : ∀ a' c' w' κ', RR κ' N r w' → Sl Kr κ' .sets (a', l + 1, c') → PkR κ κ' w w' → F a' (l + 1) c' w') :
    AllocK w #[.slice a2 l2 c2] te fun b w1 => ∃ a' l' c' w2, Sem.run Tryz.prog (Builtin.append_ #[45, 45] ty #[.slice a l c, .slice (some b) 1 1]) w1 = .ok (.slice a' l' c') w2 ∧ F a' l' c' w2 := by
  refine Sl.push (okR N r) rsltS h.ty hs rfl (fun j v hj => ?_) (by omega) fun a' c' w2 κ2 ht hs' p => ?_
  · match j with
    | 0 => cases hj; exact ⟨_, _, _, rfl, hs2⟩
    | j + 1 => cases hj
  · have p : PkR κ κ2 w w2 := p.mono (by rintro _ rfl; simp [NT])
    exact f a' c' w2 κ2 (h.same p ht) hs' p
theorem c42 (h : RR κ N r w) : Calls Tryz.prog 42 #[rp r] w fun en w' => ∃ a l c, en = .returned (.slice a l c) ∧ ∃ κ', RR κ' N r w' ∧ PkR κ κ' w w' ∧ Sl Kr κ' .sets (a, l, c) ∧ l ≤ N.n := by
  refine calls42 _ (fun a l c w' => ∃ κ', RR κ' N r w' ∧ PkR κ κ' w w' ∧ Sl Kr κ' .sets (a, l, c) ∧ l ≤ N.n) w ?_
  obtain ⟨ln, -, -, lh, -⟩ := h.ln
  obtain ⟨a3, c3, hc3, hs3⟩ := h.c4
  refine ⟨_, _, _, hc3, ⟨by omega, by omega, by omega, by omega⟩, AllocK.mk fun b w5 hb hB hx5 => ?_⟩
  rw [Int.toNat_natCast, made_bools] at hB
  have hbn : κ b = none := h.fresh (by omega)
  simp only [Int.toNat_natCast]
  refine ⟨fun a l c x w' => ∃ κ1 k D, x = (k : Nat) ∧ k ≤ N.n ∧ RR κ1 N r w' ∧ PkR κ κ1 w w' ∧ Sl Kr κ1 .sets (a, l, c) ∧ l ≤ k ∧ D.length = N.n ∧ Blk w' b (bools D) 4 ∧ κ1 b = none, fun _ _ _ x _ => N.n - x.toNat, ⟨⟨κ, 0, _, rfl, Nat.zero_le _, h.ext hx5, h.pkExt hx5, Sl.nil _ _ _, Nat.le_refl _, by simp, hB, hbn⟩, trivial⟩, ?_⟩
  rintro w8 a l c _ ⟨κ1, k, D, rfl, hk, h8, p8, s8, hl, hD, hB8, hb8⟩
  obtain ⟨a12, c12, hc12, hs12⟩ := h8.c4
  refine ⟨_, _, _, hc12, BoolK.mk (fun t => ?_) (fun t => ⟨κ1, h8, p8, s8, by omega⟩)⟩
  have t := of_decide_eq_true t
  have hkn : k < N.n := by omega
  have e : IntKind.wrap .i64 ((k : Int) + 1) = ((k + 1 : Nat) : Int) := wrap_succ (by omega)
  rw [e]
  have go : ∀ {κ2 : Ka RK} {D2 : List Bool} {w2 : World}, RR κ2 N r w2 → PkR κ κ2 w w2 → Sl Kr κ2 .sets (a, l, c) → D2.length = N.n → Blk w2 b (bools D2) 4 → κ2 b = none → (∃ κ1 k2 D, ((k + 1 : Nat) : Int) = (k2 : Nat) ∧ k2 ≤ N.n ∧ RR κ1 N r w2 ∧ PkR κ κ1 w w2 ∧ Sl Kr κ1 .sets (a, l, c) ∧ l ≤ k2 ∧ D.length = N.n ∧ Blk w2 b (bools D) 4 ∧ κ1 b = none) ∧ N.n - (((k + 1 : Nat) : Int)).toNat < N.n - (k : Int).toNat :=
    fun h2 p2 s2 hD2 hB2 hb2 => ⟨⟨_, k + 1, _, rfl, by omega, h2, p2, s2, by omega, hD2, hB2, hb2⟩, by simp; omega⟩
  have lt8 := hB8.lt
  refine (c84 h8 (x := ((k + 1 : Nat) : Int)) ⟨by omega, by omega⟩).mono ?_
  rintro en w14 ⟨a13, l13, c13, rfl, κ2, b2, D2, h14, p14, rfl, rfl, hD2, hB14, hbb2, hb14⟩
  have hBb := p14.blk hB8 hb8
  have hbb := p14.free b lt8 hb8
  have s14 := s8.le p14.le
  have q14 := p8.trans p14
  have kk : ((k : Int)).toNat = k := Int.toNat_natCast k
  refine ⟨_, _, _, rfl, ⟨by omega, t⟩, _, getBool hBb (i := (k : Int).toNat) (by omega), BoolK.mk (fun _ => go h14 q14 s14 hD hBb hbb) (fun _ => ⟨⟨by omega, t⟩, _, getBool hB14 (i := (k : Int).toNat) (by omega), BoolK.mk (fun _ => go h14 q14 s14 hD hBb hbb) (fun _ => ?_)⟩)⟩
  obtain ⟨a20, c20, hc20, hs20⟩ := h14.c4
  refine ⟨_, _, _, hc20, ⟨by omega, by omega, by omega, by omega⟩, ?_⟩
  simp only [Int.toNat_natCast]
  refine AllocK.mk fun b3 w22 hb3 hB22 hx22 => ?_
  rw [made_bools] at hB22
  have h22 := h14.ext hx22
  have hb3n : κ2 b3 = none := h14.fresh (by omega)
  have hltb := hBb.lt
  have hlt2 := hB14.lt
  have sz8 := p8.size
  have sz14 := p14.size
  have hb3k : κ b3 = none := h.fresh (by omega)
  have n32 : b ≠ b3 := by omega
  have n23 : b2 ≠ b3 := by omega
  have n2 : b2 ≠ b := by omega
  refine ⟨fun a l c x w' => ∃ κ3 j D3 D4, x = (j : Nat) ∧ j ≤ N.n ∧ RR κ3 N r w' ∧ PkR κ κ3 w w' ∧ Kle κ2 κ3 ∧ Sl Kr κ3 .ints (a, l, c) ∧ l ≤ j ∧ D3.length = N.n ∧ Blk w' b (bools D3) 4 ∧ κ3 b = none ∧ D4.length = N.n ∧ Blk w' b3 (bools D4) 4 ∧ κ3 b3 = none ∧ Blk w' b2 (bools D2) 4 ∧ κ3 b2 = none,
    fun _ _ _ x _ => N.n - x.toNat, ⟨⟨κ2, k, D, _, rfl, hk, h22, q14.trans (h14.pkExt hx22), Kle.refl _, Sl.nil _ _ _, Nat.zero_le _, hD, hBb.ext hx22, hbb, by simp, hB22, hb3n, hB14.ext hx22, hb14⟩, trivial⟩, ?_⟩
  rintro w25 a26 l26 c26 _ ⟨κ3, j, D3, D4, rfl, hj, h25, p25, le25, s25, hl26, hD3, hB3, hb3', hD4, hB4, hb4', hB2, hb2'⟩
  obtain ⟨a29, c29, hc29, hs29⟩ := h25.c4
  have l3 := hB3.lt
  have l4 := hB4.lt
  have l2 := hB2.lt
  refine ⟨_, _, _, hc29, BoolK.mk (fun tj => ?_) (fun tj => ?_)⟩
  · have tj := of_decide_eq_true tj
    have jj : ((j : Int)).toNat = j := Int.toNat_natCast j
    have e2 : IntKind.wrap .i64 ((j : Int) + 1) = ((j + 1 : Nat) : Int) := wrap_succ (by omega)
    rw [e2]
    have goj : ∀ {κ4 : Ka RK} {D5 D6 : List Bool} {w2 : World} {a : Option Addr} {l c : Nat}, RR κ4 N r w2 → PkR κ κ4 w w2 → Kle κ2 κ4 → Sl Kr κ4 .ints (a, l, c) → l ≤ j + 1 → D5.length = N.n → Blk w2 b (bools D5) 4 → κ4 b = none → D6.length = N.n → Blk w2 b3 (bools D6) 4 → κ4 b3 = none → Blk w2 b2 (bools D2) 4 → κ4 b2 = none →
        (∃ κ3 j2 D3 D4, ((j + 1 : Nat) : Int) = (j2 : Nat) ∧ j2 ≤ N.n ∧ RR κ3 N r w2 ∧ PkR κ κ3 w w2 ∧ Kle κ2 κ3 ∧ Sl Kr κ3 .ints (a, l, c) ∧ l ≤ j2 ∧ D3.length = N.n ∧ Blk w2 b (bools D3) 4 ∧ κ3 b = none ∧ D4.length = N.n ∧ Blk w2 b3 (bools D4) 4 ∧ κ3 b3 = none ∧ Blk w2 b2 (bools D2) 4 ∧ κ3 b2 = none) ∧ N.n - (((j + 1 : Nat) : Int)).toNat < N.n - (j : Int).toNat :=
      fun x1 x2 x0 x3 x4 x5 x6 x7 x8 x9 x10 x11 x12 => ⟨⟨_, j + 1, _, _, rfl, by omega, x1, x2, x0, x3, x4, x5, x6, x7, x8, x9, x10, x11, x12⟩, by simp; omega⟩
    refine ⟨fun _ w' => ∃ κ4, RR κ4 N r w' ∧ PkR κ3 κ4 w25 w', ?_, ?_⟩
    · rintro w31 p32 ⟨κ4, h31, p31⟩
      have hB3 := p31.blk hB3 hb3'
      have hB4 := p31.blk hB4 hb4'
      have hB2 := p31.blk hB2 hb2'
      have f3 := p31.free b l3 hb3'
      have f4 := p31.free b3 l4 hb4'
      have f2 := p31.free b2 l2 hb2'
      have s31 := s25.le p31.le
      have p31' := p25.trans p31
      refine BoolK.mk (fun _ => ?_) (fun _ => goj h31 p31' (le25.trans p31.le) s31 (by omega) hD3 hB3 f3 hD4 hB4 f4 hB2 f2)
      refine ⟨⟨by omega, tj⟩, setBool hB4 (i := (j : Int).toNat) (by omega) true fun w33 hB33 bu33 => ?_⟩
      refine ⟨⟨by omega, tj⟩, setBool (bu33.blk hB3 n32) (i := (j : Int).toNat) (by omega) true fun w34 hB34 bu34 => ?_⟩
      have h34 := (h31.but bu33 f4).but bu34 f3
      have p34 : PkR κ κ4 w w34 := (p31'.but bu33 (by omega) hb3k).but bu34 (by omega) hbn
      refine h34.pushX (k := .ints) (.inr rfl) s31 (by omega) (x := ((j + 1 : Nat) : Int)) ⟨by omega, by omega⟩ fun a37 c37 w38 κ5 h38 s38 p38 => ?_
      have hB33 := bu34.blk hB33 (Ne.symm n32)
      have hB2 := bu34.blk (bu33.blk hB2 n23) n2
      exact goj h38 (p34.trans (p38.mono ntI)) ((le25.trans p31.le).trans p38.le) s38 (by omega) (by simpa using hD3) (p38.blk hB34 f3) (p38.free b hB34.lt f3) (by simpa using hD4) (p38.blk hB33 f4) (p38.free b3 hB33.lt f4) (p38.blk hB2 f2) (p38.free b2 hB2.lt f2)
    · refine ⟨⟨by omega, tj⟩, _, getBool hB2 (i := (j : Int).toNat) (by omega), BoolK.mk (fun _ => ?_) (fun _ => ⟨κ3, h25, Pk.refl _ _ _⟩)⟩
      refine (c84 h25 (x := ((j + 1 : Nat) : Int)) ⟨by omega, by omega⟩).mono ?_
      rintro en w42 ⟨a41, l41, c41, rfl, κ4, b5, D5, h42, p42, rfl, rfl, hD5, hB42, _, _⟩
      exact ⟨_, _, _, rfl, ⟨by omega, t⟩, _, getBool hB42 (i := (k : Int).toNat) (by omega), κ4, h42, p42⟩
  · refine (c85 h25 hB4 hD4).mono ?_
    rintro en w47 ⟨p46, rfl, hx47⟩
    have h47 := h25.ext hx47
    have p47 := p25.trans (h25.pkExt hx47)
    have s47 := s14.le le25
    refine ⟨_, rfl, BoolK.mk (fun _ => ?_) (fun _ => go h47 p47 s47 hD3 (hB3.ext hx47) hb3')⟩
    refine h47.pushS s47 (by omega) s25 fun a51 c51 w52 κ5 h52 s52 p52 => ?_
    exact ⟨⟨κ5, k + 1, D3, rfl, by omega, h52, p47.trans p52, s52, by omega, hD3, p52.blk (hB3.ext hx47) hb3', p52.free b (hB3.ext hx47).lt hb3'⟩, by first | omega | (simp; omega)⟩
end
end Go.Proofs.YtgggbmikmmljcaaGreat

namespace Go.Proofs.YtgggbmikmmljcaaGreat
open Go Go.V Go.Proofs
open Go.RowKit (Below)
/-! (*manystrand/manystrandref27.Count).Make -/
def N23 (o1 : Option Addr) (x2 : Int) (K : Int → Int → World → Prop) (w : World) : Prop :=
 Calls Tryz.prog 58 #[(.pointer o1), (.int .i64 x2)] w fun e5 w4 =>
 ∃ (p3 : Bool), e5 = .returned (.bool p3) ∧
 (BoolK (!p3)
 (K 0 2 w4)
 (DrewK w4 fun w6 =>
 ∃ (v7 : World), Cel v7 w6 ∧
 (AddrK o1 fun b8 =>
 ∃ (a9 : Option Addr) (l9 : Nat) (c9 : Nat), v7.cell? (b8.add 4) = some (.slice a9 l9 c9) ∧
 (AddrK o1 fun b10 =>
 ∃ (a11 : Option Addr) (l11 : Nat) (c11 : Nat), v7.cell? (b10.add 3) = some (.slice a11 l11 c11) ∧
 ((0 ≤ (x2 : Int) ∧ (x2 : Int) < (l11 : Nat)) ∧
 AddrK a11 fun b12 =>
 ∃ (x13 : Int), v7.cell? (b12.add ((x2 : Int).toNat * 1)) = some (.int .i64 x13) ∧
 (AllocK w6 (#[(.int .i64 x2), (.int .i64 0), (.int .i64 x13), (.bool true), (.bool false), (.bool false), (.slice none 0 0)]) 98 fun b14 w15 =>
 Cel v7 w15 ∧
 (∃ (a16 : Option Addr), ∃ (l16 : Nat), ∃ (c16 : Nat), ∃ (w17 : World), Sem.run Tryz.prog (Builtin.append_ #[44, 44] 44 #[(.slice a9 l9 c9), (.slice (some b14) 1 1)]) w15 = .ok (.slice a16 l16 c16) w17 ∧
 (AddrK o1 fun b18 =>
 SetK w17 (b18.add 4) (.slice a16 l16 c16) fun w19 =>
 ∃ (I20 : Int → World → Prop) (μ21 : Int → World → Nat),
 (I20 0 w19 ∧ True) ∧
 ∀ (w22 : World) (x23 : Int), I20 x23 w22 →
 AddrK o1 fun b24 =>
 ∃ (x25 : Int), w22.cell? b24 = some (.int .i64 x25) ∧
 (BoolK (decide ((x23 : Int) < x25))
 (DrewK w22 fun w26 =>
 ∃ (v27 : World), Cel v27 w26 ∧
 (AddrK o1 fun b28 =>
 ∃ (a29 : Option Addr) (l29 : Nat) (c29 : Nat), v27.cell? (b28.add 5) = some (.slice a29 l29 c29) ∧
 (AddrK o1 fun b30 =>
 ∃ (a31 : Option Addr) (l31 : Nat) (c31 : Nat), v27.cell? (b30.add 5) = some (.slice a31 l31 c31) ∧
 ((0 ≤ (x23 : Int) ∧ (x23 : Int) < (l31 : Nat)) ∧
 AddrK a31 fun b32 =>
 ∃ (a33 : Option Addr) (l33 : Nat) (c33 : Nat), v27.cell? (b32.add ((x23 : Int).toNat * 1)) = some (.slice a33 l33 c33) ∧
 (AllocK w26 (#[(.int .i64 0)]) 3 fun b34 w35 =>
 Cel v27 w35 ∧
 (∃ (a36 : Option Addr), ∃ (l36 : Nat), ∃ (c36 : Nat), ∃ (w37 : World), Sem.run Tryz.prog (Builtin.append_ #[43, 43] 43 #[(.slice a33 l33 c33), (.slice (some b34) 1 1)]) w35 = .ok (.slice a36 l36 c36) w37 ∧
 (Cel v27 w37 ∧
 ((0 ≤ (x23 : Int) ∧ (x23 : Int) < (l29 : Nat)) ∧
 AddrK a29 fun b38 =>
 SetK w37 (b38.add ((x23 : Int).toNat * 1)) (.slice a36 l36 c36) fun w39 =>
 DrewK w39 fun w40 =>
 ∃ (v41 : World), Cel v41 w40 ∧
 (AddrK o1 fun b42 =>
 ∃ (a43 : Option Addr) (l43 : Nat) (c43 : Nat), v41.cell? (b42.add 6) = some (.slice a43 l43 c43) ∧
 (AddrK o1 fun b44 =>
 ∃ (a45 : Option Addr) (l45 : Nat) (c45 : Nat), v41.cell? (b44.add 7) = some (.slice a45 l45 c45) ∧
 (AddrK o1 fun b46 =>
 ∃ (a47 : Option Addr) (l47 : Nat) (c47 : Nat), v41.cell? (b46.add 8) = some (.slice a47 l47 c47) ∧
 (AddrK o1 fun b48 =>
 ∃ (a49 : Option Addr) (l49 : Nat) (c49 : Nat), v41.cell? (b48.add 6) = some (.slice a49 l49 c49) ∧
 ((0 ≤ (x23 : Int) ∧ (x23 : Int) < (l49 : Nat)) ∧
 AddrK a49 fun b50 =>
 ∃ (a51 : Option Addr) (l51 : Nat) (c51 : Nat), v41.cell? (b50.add ((x23 : Int).toNat * 1)) = some (.slice a51 l51 c51) ∧
 (AddrK o1 fun b52 =>
 ∃ (a53 : Option Addr) (l53 : Nat) (c53 : Nat), v41.cell? (b52.add 7) = some (.slice a53 l53 c53) ∧
 ((0 ≤ (x23 : Int) ∧ (x23 : Int) < (l53 : Nat)) ∧
 AddrK a53 fun b54 =>
 ∃ (a55 : Option Addr) (l55 : Nat) (c55 : Nat), v41.cell? (b54.add ((x23 : Int).toNat * 1)) = some (.slice a55 l55 c55) ∧
 (AddrK o1 fun b56 =>
 ∃ (a57 : Option Addr) (l57 : Nat) (c57 : Nat), v41.cell? (b56.add 8) = some (.slice a57 l57 c57) ∧
 ((0 ≤ (x23 : Int) ∧ (x23 : Int) < (l57 : Nat)) ∧
 AddrK a57 fun b58 =>
 ∃ (a59 : Option Addr) (l59 : Nat) (c59 : Nat), v41.cell? (b58.add ((x23 : Int).toNat * 1)) = some (.slice a59 l59 c59) ∧
 ((AllocK w40 (#[(.bool false)]) 4 fun b60 w61 =>
 Cel v41 w61 ∧
 ((∃ (a62 : Option Addr), ∃ (l62 : Nat), ∃ (c62 : Nat), ∃ (w63 : World), Sem.run Tryz.prog (Builtin.append_ #[84, 84] 84 #[(.slice a51 l51 c51), (.slice (some b60) 1 1)]) w61 = .ok (.slice a62 l62 c62) w63 ∧
 (Cel v41 w63 ∧
 ((AllocK w63 (#[(.bool false)]) 4 fun b64 w65 =>
 Cel v41 w65 ∧
 ((∃ (a66 : Option Addr), ∃ (l66 : Nat), ∃ (c66 : Nat), ∃ (w67 : World), Sem.run Tryz.prog (Builtin.append_ #[84, 84] 84 #[(.slice a55 l55 c55), (.slice (some b64) 1 1)]) w65 = .ok (.slice a66 l66 c66) w67 ∧
 (Cel v41 w67 ∧
 (AllocK w67 (#[(.bool false)]) 4 fun b68 w69 =>
 Cel v41 w69 ∧
 (∃ (a70 : Option Addr), ∃ (l70 : Nat), ∃ (c70 : Nat), ∃ (w71 : World), Sem.run Tryz.prog (Builtin.append_ #[84, 84] 84 #[(.slice a59 l59 c59), (.slice (some b68) 1 1)]) w69 = .ok (.slice a70 l70 c70) w71 ∧
 (Cel v41 w71 ∧
 ((0 ≤ (x23 : Int) ∧ (x23 : Int) < (l43 : Nat)) ∧
 AddrK a43 fun b72 =>
 SetK w71 (b72.add ((x23 : Int).toNat * 1)) (.slice a62 l62 c62) fun w73 =>
 (0 ≤ (x23 : Int) ∧ (x23 : Int) < (l45 : Nat)) ∧
 AddrK a45 fun b74 =>
 SetK w73 (b74.add ((x23 : Int).toNat * 1)) (.slice a66 l66 c66) fun w75 =>
 (0 ≤ (x23 : Int) ∧ (x23 : Int) < (l47 : Nat)) ∧
 AddrK a47 fun b76 =>
 SetK w75 (b76.add ((x23 : Int).toNat * 1)) (.slice a70 l70 c70) fun w77 =>
 I20 (IntKind.wrap .i64 (x23 + 1)) w77 ∧ μ21 (IntKind.wrap .i64 (x23 + 1)) w77 < μ21 x23 w22)))))) ∧
 (AllocK w65 (#[(.bool false)]) 4 fun b78 w79 =>
 Cel v41 w79 ∧
 (∃ (a80 : Option Addr), ∃ (l80 : Nat), ∃ (c80 : Nat), ∃ (w81 : World), Sem.run Tryz.prog (Builtin.append_ #[84, 84] 84 #[(.slice a55 l55 c55), (.slice (some b64) 1 1)]) w79 = .ok (.slice a80 l80 c80) w81 ∧
 (Cel v41 w81 ∧
 (∃ (a82 : Option Addr), ∃ (l82 : Nat), ∃ (c82 : Nat), ∃ (w83 : World), Sem.run Tryz.prog (Builtin.append_ #[84, 84] 84 #[(.slice a59 l59 c59), (.slice (some b78) 1 1)]) w81 = .ok (.slice a82 l82 c82) w83 ∧
 (Cel v41 w83 ∧
 ((0 ≤ (x23 : Int) ∧ (x23 : Int) < (l43 : Nat)) ∧
 AddrK a43 fun b84 =>
 SetK w83 (b84.add ((x23 : Int).toNat * 1)) (.slice a62 l62 c62) fun w85 =>
 (0 ≤ (x23 : Int) ∧ (x23 : Int) < (l45 : Nat)) ∧
 AddrK a45 fun b86 =>
 SetK w85 (b86.add ((x23 : Int).toNat * 1)) (.slice a80 l80 c80) fun w87 =>
 (0 ≤ (x23 : Int) ∧ (x23 : Int) < (l47 : Nat)) ∧
 AddrK a47 fun b88 =>
 SetK w87 (b88.add ((x23 : Int).toNat * 1)) (.slice a82 l82 c82) fun w89 =>
 I20 (IntKind.wrap .i64 (x23 + 1)) w89 ∧ μ21 (IntKind.wrap .i64 (x23 + 1)) w89 < μ21 x23 w22)))))))) ∧
 (AllocK w63 (#[(.bool false)]) 4 fun b90 w91 =>
 Cel v41 w91 ∧
 (AllocK w91 (#[(.bool false)]) 4 fun b92 w93 =>
 Cel v41 w93 ∧
 (∃ (a94 : Option Addr), ∃ (l94 : Nat), ∃ (c94 : Nat), ∃ (w95 : World), Sem.run Tryz.prog (Builtin.append_ #[84, 84] 84 #[(.slice a55 l55 c55), (.slice (some b92) 1 1)]) w93 = .ok (.slice a94 l94 c94) w95 ∧
 (Cel v41 w95 ∧
 (∃ (a96 : Option Addr), ∃ (l96 : Nat), ∃ (c96 : Nat), ∃ (w97 : World), Sem.run Tryz.prog (Builtin.append_ #[84, 84] 84 #[(.slice a59 l59 c59), (.slice (some b90) 1 1)]) w95 = .ok (.slice a96 l96 c96) w97 ∧
 (Cel v41 w97 ∧
 ((0 ≤ (x23 : Int) ∧ (x23 : Int) < (l43 : Nat)) ∧
 AddrK a43 fun b98 =>
 SetK w97 (b98.add ((x23 : Int).toNat * 1)) (.slice a62 l62 c62) fun w99 =>
 (0 ≤ (x23 : Int) ∧ (x23 : Int) < (l45 : Nat)) ∧
 AddrK a45 fun b100 =>
 SetK w99 (b100.add ((x23 : Int).toNat * 1)) (.slice a94 l94 c94) fun w101 =>
 (0 ≤ (x23 : Int) ∧ (x23 : Int) < (l47 : Nat)) ∧
 AddrK a47 fun b102 =>
 SetK w101 (b102.add ((x23 : Int).toNat * 1)) (.slice a96 l96 c96) fun w103 =>
 I20 (IntKind.wrap .i64 (x23 + 1)) w103 ∧ μ21 (IntKind.wrap .i64 (x23 + 1)) w103 < μ21 x23 w22)))))))))) ∧
 ((AllocK w61 (#[(.bool false)]) 4 fun b104 w105 =>
 Cel v41 w105 ∧
 ((∃ (a106 : Option Addr), ∃ (l106 : Nat), ∃ (c106 : Nat), ∃ (w107 : World), Sem.run Tryz.prog (Builtin.append_ #[84, 84] 84 #[(.slice a51 l51 c51), (.slice (some b60) 1 1)]) w105 = .ok (.slice a106 l106 c106) w107 ∧
 (Cel v41 w107 ∧
 ((∃ (a108 : Option Addr), ∃ (l108 : Nat), ∃ (c108 : Nat), ∃ (w109 : World), Sem.run Tryz.prog (Builtin.append_ #[84, 84] 84 #[(.slice a55 l55 c55), (.slice (some b104) 1 1)]) w107 = .ok (.slice a108 l108 c108) w109 ∧
 (Cel v41 w109 ∧
 (AllocK w109 (#[(.bool false)]) 4 fun b110 w111 =>
 Cel v41 w111 ∧
 (∃ (a112 : Option Addr), ∃ (l112 : Nat), ∃ (c112 : Nat), ∃ (w113 : World), Sem.run Tryz.prog (Builtin.append_ #[84, 84] 84 #[(.slice a59 l59 c59), (.slice (some b110) 1 1)]) w111 = .ok (.slice a112 l112 c112) w113 ∧
 (Cel v41 w113 ∧
 ((0 ≤ (x23 : Int) ∧ (x23 : Int) < (l43 : Nat)) ∧
 AddrK a43 fun b114 =>
 SetK w113 (b114.add ((x23 : Int).toNat * 1)) (.slice a106 l106 c106) fun w115 =>
 (0 ≤ (x23 : Int) ∧ (x23 : Int) < (l45 : Nat)) ∧
 AddrK a45 fun b116 =>
 SetK w115 (b116.add ((x23 : Int).toNat * 1)) (.slice a108 l108 c108) fun w117 =>
 (0 ≤ (x23 : Int) ∧ (x23 : Int) < (l47 : Nat)) ∧
 AddrK a47 fun b118 =>
 SetK w117 (b118.add ((x23 : Int).toNat * 1)) (.slice a112 l112 c112) fun w119 =>
 I20 (IntKind.wrap .i64 (x23 + 1)) w119 ∧ μ21 (IntKind.wrap .i64 (x23 + 1)) w119 < μ21 x23 w22)))))) ∧
 (AllocK w107 (#[(.bool false)]) 4 fun b120 w121 =>
 Cel v41 w121 ∧
 (∃ (a122 : Option Addr), ∃ (l122 : Nat), ∃ (c122 : Nat), ∃ (w123 : World), Sem.run Tryz.prog (Builtin.append_ #[84, 84] 84 #[(.slice a55 l55 c55), (.slice (some b104) 1 1)]) w121 = .ok (.slice a122 l122 c122) w123 ∧
 (Cel v41 w123 ∧
 (∃ (a124 : Option Addr), ∃ (l124 : Nat), ∃ (c124 : Nat), ∃ (w125 : World), Sem.run Tryz.prog (Builtin.append_ #[84, 84] 84 #[(.slice a59 l59 c59), (.slice (some b120) 1 1)]) w123 = .ok (.slice a124 l124 c124) w125 ∧
 (Cel v41 w125 ∧
 ((0 ≤ (x23 : Int) ∧ (x23 : Int) < (l43 : Nat)) ∧
 AddrK a43 fun b126 =>
 SetK w125 (b126.add ((x23 : Int).toNat * 1)) (.slice a106 l106 c106) fun w127 =>
 (0 ≤ (x23 : Int) ∧ (x23 : Int) < (l45 : Nat)) ∧
 AddrK a45 fun b128 =>
 SetK w127 (b128.add ((x23 : Int).toNat * 1)) (.slice a122 l122 c122) fun w129 =>
 (0 ≤ (x23 : Int) ∧ (x23 : Int) < (l47 : Nat)) ∧
 AddrK a47 fun b130 =>
 SetK w129 (b130.add ((x23 : Int).toNat * 1)) (.slice a124 l124 c124) fun w131 =>
 I20 (IntKind.wrap .i64 (x23 + 1)) w131 ∧ μ21 (IntKind.wrap .i64 (x23 + 1)) w131 < μ21 x23 w22))))))))) ∧
 (AllocK w105 (#[(.bool false)]) 4 fun b132 w133 =>
 Cel v41 w133 ∧
 (∃ (a134 : Option Addr), ∃ (l134 : Nat), ∃ (c134 : Nat), ∃ (w135 : World), Sem.run Tryz.prog (Builtin.append_ #[84, 84] 84 #[(.slice a51 l51 c51), (.slice (some b60) 1 1)]) w133 = .ok (.slice a134 l134 c134) w135 ∧
 (Cel v41 w135 ∧
 (∃ (a136 : Option Addr), ∃ (l136 : Nat), ∃ (c136 : Nat), ∃ (w137 : World), Sem.run Tryz.prog (Builtin.append_ #[84, 84] 84 #[(.slice a55 l55 c55), (.slice (some b104) 1 1)]) w135 = .ok (.slice a136 l136 c136) w137 ∧
 (Cel v41 w137 ∧
 (∃ (a138 : Option Addr), ∃ (l138 : Nat), ∃ (c138 : Nat), ∃ (w139 : World), Sem.run Tryz.prog (Builtin.append_ #[84, 84] 84 #[(.slice a59 l59 c59), (.slice (some b132) 1 1)]) w137 = .ok (.slice a138 l138 c138) w139 ∧
 (Cel v41 w139 ∧
 ((0 ≤ (x23 : Int) ∧ (x23 : Int) < (l43 : Nat)) ∧
 AddrK a43 fun b140 =>
 SetK w139 (b140.add ((x23 : Int).toNat * 1)) (.slice a134 l134 c134) fun w141 =>
 (0 ≤ (x23 : Int) ∧ (x23 : Int) < (l45 : Nat)) ∧
 AddrK a45 fun b142 =>
 SetK w141 (b142.add ((x23 : Int).toNat * 1)) (.slice a136 l136 c136) fun w143 =>
 (0 ≤ (x23 : Int) ∧ (x23 : Int) < (l47 : Nat)) ∧
 AddrK a47 fun b144 =>
 SetK w143 (b144.add ((x23 : Int).toNat * 1)) (.slice a138 l138 c138) fun w145 =>
 I20 (IntKind.wrap .i64 (x23 + 1)) w145 ∧ μ21 (IntKind.wrap .i64 (x23 + 1)) w145 < μ21 x23 w22)))))))))) ∧
 (AllocK w61 (#[(.bool false)]) 4 fun b146 w147 =>
 Cel v41 w147 ∧
 ((∃ (a148 : Option Addr), ∃ (l148 : Nat), ∃ (c148 : Nat), ∃ (w149 : World), Sem.run Tryz.prog (Builtin.append_ #[84, 84] 84 #[(.slice a51 l51 c51), (.slice (some b60) 1 1)]) w147 = .ok (.slice a148 l148 c148) w149 ∧
 (Cel v41 w149 ∧
 (AllocK w149 (#[(.bool false)]) 4 fun b150 w151 =>
 Cel v41 w151 ∧
 (∃ (a152 : Option Addr), ∃ (l152 : Nat), ∃ (c152 : Nat), ∃ (w153 : World), Sem.run Tryz.prog (Builtin.append_ #[84, 84] 84 #[(.slice a55 l55 c55), (.slice (some b150) 1 1)]) w151 = .ok (.slice a152 l152 c152) w153 ∧
 (Cel v41 w153 ∧
 (∃ (a154 : Option Addr), ∃ (l154 : Nat), ∃ (c154 : Nat), ∃ (w155 : World), Sem.run Tryz.prog (Builtin.append_ #[84, 84] 84 #[(.slice a59 l59 c59), (.slice (some b146) 1 1)]) w153 = .ok (.slice a154 l154 c154) w155 ∧
 (Cel v41 w155 ∧
 ((0 ≤ (x23 : Int) ∧ (x23 : Int) < (l43 : Nat)) ∧
 AddrK a43 fun b156 =>
 SetK w155 (b156.add ((x23 : Int).toNat * 1)) (.slice a148 l148 c148) fun w157 =>
 (0 ≤ (x23 : Int) ∧ (x23 : Int) < (l45 : Nat)) ∧
 AddrK a45 fun b158 =>
 SetK w157 (b158.add ((x23 : Int).toNat * 1)) (.slice a152 l152 c152) fun w159 =>
 (0 ≤ (x23 : Int) ∧ (x23 : Int) < (l47 : Nat)) ∧
 AddrK a47 fun b160 =>
 SetK w159 (b160.add ((x23 : Int).toNat * 1)) (.slice a154 l154 c154) fun w161 =>
 I20 (IntKind.wrap .i64 (x23 + 1)) w161 ∧ μ21 (IntKind.wrap .i64 (x23 + 1)) w161 < μ21 x23 w22)))))))) ∧
 (AllocK w147 (#[(.bool false)]) 4 fun b162 w163 =>
 Cel v41 w163 ∧
 (∃ (a164 : Option Addr), ∃ (l164 : Nat), ∃ (c164 : Nat), ∃ (w165 : World), Sem.run Tryz.prog (Builtin.append_ #[84, 84] 84 #[(.slice a51 l51 c51), (.slice (some b60) 1 1)]) w163 = .ok (.slice a164 l164 c164) w165 ∧
 (Cel v41 w165 ∧
 (∃ (a166 : Option Addr), ∃ (l166 : Nat), ∃ (c166 : Nat), ∃ (w167 : World), Sem.run Tryz.prog (Builtin.append_ #[84, 84] 84 #[(.slice a55 l55 c55), (.slice (some b162) 1 1)]) w165 = .ok (.slice a166 l166 c166) w167 ∧
 (Cel v41 w167 ∧
 (∃ (a168 : Option Addr), ∃ (l168 : Nat), ∃ (c168 : Nat), ∃ (w169 : World), Sem.run Tryz.prog (Builtin.append_ #[84, 84] 84 #[(.slice a59 l59 c59), (.slice (some b146) 1 1)]) w167 = .ok (.slice a168 l168 c168) w169 ∧
 (Cel v41 w169 ∧
 ((0 ≤ (x23 : Int) ∧ (x23 : Int) < (l43 : Nat)) ∧
 AddrK a43 fun b170 =>
 SetK w169 (b170.add ((x23 : Int).toNat * 1)) (.slice a164 l164 c164) fun w171 =>
 (0 ≤ (x23 : Int) ∧ (x23 : Int) < (l45 : Nat)) ∧
 AddrK a45 fun b172 =>
 SetK w171 (b172.add ((x23 : Int).toNat * 1)) (.slice a166 l166 c166) fun w173 =>
 (0 ≤ (x23 : Int) ∧ (x23 : Int) < (l47 : Nat)) ∧
 AddrK a47 fun b174 =>
 SetK w173 (b174.add ((x23 : Int).toNat * 1)) (.slice a168 l168 c168) fun w175 =>
 I20 (IntKind.wrap .i64 (x23 + 1)) w175 ∧ μ21 (IntKind.wrap .i64 (x23 + 1)) w175 < μ21 x23 w22))))))))))))) ∧
 ((AllocK w40 (#[(.bool false)]) 4 fun b176 w177 =>
 Cel v41 w177 ∧
 ((AllocK w177 (#[(.bool false)]) 4 fun b178 w179 =>
 Cel v41 w179 ∧
 ((∃ (a180 : Option Addr), ∃ (l180 : Nat), ∃ (c180 : Nat), ∃ (w181 : World), Sem.run Tryz.prog (Builtin.append_ #[84, 84] 84 #[(.slice a51 l51 c51), (.slice (some b178) 1 1)]) w179 = .ok (.slice a180 l180 c180) w181 ∧
 (Cel v41 w181 ∧
 ((∃ (a182 : Option Addr), ∃ (l182 : Nat), ∃ (c182 : Nat), ∃ (w183 : World), Sem.run Tryz.prog (Builtin.append_ #[84, 84] 84 #[(.slice a55 l55 c55), (.slice (some b176) 1 1)]) w181 = .ok (.slice a182 l182 c182) w183 ∧
 (Cel v41 w183 ∧
 (AllocK w183 (#[(.bool false)]) 4 fun b184 w185 =>
 Cel v41 w185 ∧
 (∃ (a186 : Option Addr), ∃ (l186 : Nat), ∃ (c186 : Nat), ∃ (w187 : World), Sem.run Tryz.prog (Builtin.append_ #[84, 84] 84 #[(.slice a59 l59 c59), (.slice (some b184) 1 1)]) w185 = .ok (.slice a186 l186 c186) w187 ∧
 (Cel v41 w187 ∧
 ((0 ≤ (x23 : Int) ∧ (x23 : Int) < (l43 : Nat)) ∧
 AddrK a43 fun b188 =>
 SetK w187 (b188.add ((x23 : Int).toNat * 1)) (.slice a180 l180 c180) fun w189 =>
 (0 ≤ (x23 : Int) ∧ (x23 : Int) < (l45 : Nat)) ∧
 AddrK a45 fun b190 =>
 SetK w189 (b190.add ((x23 : Int).toNat * 1)) (.slice a182 l182 c182) fun w191 =>
 (0 ≤ (x23 : Int) ∧ (x23 : Int) < (l47 : Nat)) ∧
 AddrK a47 fun b192 =>
 SetK w191 (b192.add ((x23 : Int).toNat * 1)) (.slice a186 l186 c186) fun w193 =>
 I20 (IntKind.wrap .i64 (x23 + 1)) w193 ∧ μ21 (IntKind.wrap .i64 (x23 + 1)) w193 < μ21 x23 w22)))))) ∧
 (AllocK w181 (#[(.bool false)]) 4 fun b194 w195 =>
 Cel v41 w195 ∧
 (∃ (a196 : Option Addr), ∃ (l196 : Nat), ∃ (c196 : Nat), ∃ (w197 : World), Sem.run Tryz.prog (Builtin.append_ #[84, 84] 84 #[(.slice a55 l55 c55), (.slice (some b176) 1 1)]) w195 = .ok (.slice a196 l196 c196) w197 ∧
 (Cel v41 w197 ∧
 (∃ (a198 : Option Addr), ∃ (l198 : Nat), ∃ (c198 : Nat), ∃ (w199 : World), Sem.run Tryz.prog (Builtin.append_ #[84, 84] 84 #[(.slice a59 l59 c59), (.slice (some b194) 1 1)]) w197 = .ok (.slice a198 l198 c198) w199 ∧
 (Cel v41 w199 ∧
 ((0 ≤ (x23 : Int) ∧ (x23 : Int) < (l43 : Nat)) ∧
 AddrK a43 fun b200 =>
 SetK w199 (b200.add ((x23 : Int).toNat * 1)) (.slice a180 l180 c180) fun w201 =>
 (0 ≤ (x23 : Int) ∧ (x23 : Int) < (l45 : Nat)) ∧
 AddrK a45 fun b202 =>
 SetK w201 (b202.add ((x23 : Int).toNat * 1)) (.slice a196 l196 c196) fun w203 =>
 (0 ≤ (x23 : Int) ∧ (x23 : Int) < (l47 : Nat)) ∧
 AddrK a47 fun b204 =>
 SetK w203 (b204.add ((x23 : Int).toNat * 1)) (.slice a198 l198 c198) fun w205 =>
 I20 (IntKind.wrap .i64 (x23 + 1)) w205 ∧ μ21 (IntKind.wrap .i64 (x23 + 1)) w205 < μ21 x23 w22))))))))) ∧
 (AllocK w179 (#[(.bool false)]) 4 fun b206 w207 =>
 Cel v41 w207 ∧
 (∃ (a208 : Option Addr), ∃ (l208 : Nat), ∃ (c208 : Nat), ∃ (w209 : World), Sem.run Tryz.prog (Builtin.append_ #[84, 84] 84 #[(.slice a51 l51 c51), (.slice (some b178) 1 1)]) w207 = .ok (.slice a208 l208 c208) w209 ∧
 (Cel v41 w209 ∧
 (∃ (a210 : Option Addr), ∃ (l210 : Nat), ∃ (c210 : Nat), ∃ (w211 : World), Sem.run Tryz.prog (Builtin.append_ #[84, 84] 84 #[(.slice a55 l55 c55), (.slice (some b176) 1 1)]) w209 = .ok (.slice a210 l210 c210) w211 ∧
 (Cel v41 w211 ∧
 (∃ (a212 : Option Addr), ∃ (l212 : Nat), ∃ (c212 : Nat), ∃ (w213 : World), Sem.run Tryz.prog (Builtin.append_ #[84, 84] 84 #[(.slice a59 l59 c59), (.slice (some b206) 1 1)]) w211 = .ok (.slice a212 l212 c212) w213 ∧
 (Cel v41 w213 ∧
 ((0 ≤ (x23 : Int) ∧ (x23 : Int) < (l43 : Nat)) ∧
 AddrK a43 fun b214 =>
 SetK w213 (b214.add ((x23 : Int).toNat * 1)) (.slice a208 l208 c208) fun w215 =>
 (0 ≤ (x23 : Int) ∧ (x23 : Int) < (l45 : Nat)) ∧
 AddrK a45 fun b216 =>
 SetK w215 (b216.add ((x23 : Int).toNat * 1)) (.slice a210 l210 c210) fun w217 =>
 (0 ≤ (x23 : Int) ∧ (x23 : Int) < (l47 : Nat)) ∧
 AddrK a47 fun b218 =>
 SetK w217 (b218.add ((x23 : Int).toNat * 1)) (.slice a212 l212 c212) fun w219 =>
 I20 (IntKind.wrap .i64 (x23 + 1)) w219 ∧ μ21 (IntKind.wrap .i64 (x23 + 1)) w219 < μ21 x23 w22)))))))))) ∧
 (AllocK w177 (#[(.bool false)]) 4 fun b220 w221 =>
 Cel v41 w221 ∧
 (AllocK w221 (#[(.bool false)]) 4 fun b222 w223 =>
 Cel v41 w223 ∧
 (∃ (a224 : Option Addr), ∃ (l224 : Nat), ∃ (c224 : Nat), ∃ (w225 : World), Sem.run Tryz.prog (Builtin.append_ #[84, 84] 84 #[(.slice a51 l51 c51), (.slice (some b222) 1 1)]) w223 = .ok (.slice a224 l224 c224) w225 ∧
 (Cel v41 w225 ∧
 (∃ (a226 : Option Addr), ∃ (l226 : Nat), ∃ (c226 : Nat), ∃ (w227 : World), Sem.run Tryz.prog (Builtin.append_ #[84, 84] 84 #[(.slice a55 l55 c55), (.slice (some b176) 1 1)]) w225 = .ok (.slice a226 l226 c226) w227 ∧
 (Cel v41 w227 ∧
 (∃ (a228 : Option Addr), ∃ (l228 : Nat), ∃ (c228 : Nat), ∃ (w229 : World), Sem.run Tryz.prog (Builtin.append_ #[84, 84] 84 #[(.slice a59 l59 c59), (.slice (some b220) 1 1)]) w227 = .ok (.slice a228 l228 c228) w229 ∧
 (Cel v41 w229 ∧
 ((0 ≤ (x23 : Int) ∧ (x23 : Int) < (l43 : Nat)) ∧
 AddrK a43 fun b230 =>
 SetK w229 (b230.add ((x23 : Int).toNat * 1)) (.slice a224 l224 c224) fun w231 =>
 (0 ≤ (x23 : Int) ∧ (x23 : Int) < (l45 : Nat)) ∧
 AddrK a45 fun b232 =>
 SetK w231 (b232.add ((x23 : Int).toNat * 1)) (.slice a226 l226 c226) fun w233 =>
 (0 ≤ (x23 : Int) ∧ (x23 : Int) < (l47 : Nat)) ∧
 AddrK a47 fun b234 =>
 SetK w233 (b234.add ((x23 : Int).toNat * 1)) (.slice a228 l228 c228) fun w235 =>
 I20 (IntKind.wrap .i64 (x23 + 1)) w235 ∧ μ21 (IntKind.wrap .i64 (x23 + 1)) w235 < μ21 x23 w22))))))))))) ∧
 (AllocK w40 (#[(.bool false)]) 4 fun b236 w237 =>
 Cel v41 w237 ∧
 ((AllocK w237 (#[(.bool false)]) 4 fun b238 w239 =>
 Cel v41 w239 ∧
 ((∃ (a240 : Option Addr), ∃ (l240 : Nat), ∃ (c240 : Nat), ∃ (w241 : World), Sem.run Tryz.prog (Builtin.append_ #[84, 84] 84 #[(.slice a51 l51 c51), (.slice (some b238) 1 1)]) w239 = .ok (.slice a240 l240 c240) w241 ∧
 (Cel v41 w241 ∧
 (AllocK w241 (#[(.bool false)]) 4 fun b242 w243 =>
 Cel v41 w243 ∧
 (∃ (a244 : Option Addr), ∃ (l244 : Nat), ∃ (c244 : Nat), ∃ (w245 : World), Sem.run Tryz.prog (Builtin.append_ #[84, 84] 84 #[(.slice a55 l55 c55), (.slice (some b242) 1 1)]) w243 = .ok (.slice a244 l244 c244) w245 ∧
 (Cel v41 w245 ∧
 (∃ (a246 : Option Addr), ∃ (l246 : Nat), ∃ (c246 : Nat), ∃ (w247 : World), Sem.run Tryz.prog (Builtin.append_ #[84, 84] 84 #[(.slice a59 l59 c59), (.slice (some b236) 1 1)]) w245 = .ok (.slice a246 l246 c246) w247 ∧
 (Cel v41 w247 ∧
 ((0 ≤ (x23 : Int) ∧ (x23 : Int) < (l43 : Nat)) ∧
 AddrK a43 fun b248 =>
 SetK w247 (b248.add ((x23 : Int).toNat * 1)) (.slice a240 l240 c240) fun w249 =>
 (0 ≤ (x23 : Int) ∧ (x23 : Int) < (l45 : Nat)) ∧
 AddrK a45 fun b250 =>
 SetK w249 (b250.add ((x23 : Int).toNat * 1)) (.slice a244 l244 c244) fun w251 =>
 (0 ≤ (x23 : Int) ∧ (x23 : Int) < (l47 : Nat)) ∧
 AddrK a47 fun b252 =>
 SetK w251 (b252.add ((x23 : Int).toNat * 1)) (.slice a246 l246 c246) fun w253 =>
 I20 (IntKind.wrap .i64 (x23 + 1)) w253 ∧ μ21 (IntKind.wrap .i64 (x23 + 1)) w253 < μ21 x23 w22)))))))) ∧
 (AllocK w239 (#[(.bool false)]) 4 fun b254 w255 =>
 Cel v41 w255 ∧
 (∃ (a256 : Option Addr), ∃ (l256 : Nat), ∃ (c256 : Nat), ∃ (w257 : World), Sem.run Tryz.prog (Builtin.append_ #[84, 84] 84 #[(.slice a51 l51 c51), (.slice (some b238) 1 1)]) w255 = .ok (.slice a256 l256 c256) w257 ∧
 (Cel v41 w257 ∧
 (∃ (a258 : Option Addr), ∃ (l258 : Nat), ∃ (c258 : Nat), ∃ (w259 : World), Sem.run Tryz.prog (Builtin.append_ #[84, 84] 84 #[(.slice a55 l55 c55), (.slice (some b254) 1 1)]) w257 = .ok (.slice a258 l258 c258) w259 ∧
 (Cel v41 w259 ∧
 (∃ (a260 : Option Addr), ∃ (l260 : Nat), ∃ (c260 : Nat), ∃ (w261 : World), Sem.run Tryz.prog (Builtin.append_ #[84, 84] 84 #[(.slice a59 l59 c59), (.slice (some b236) 1 1)]) w259 = .ok (.slice a260 l260 c260) w261 ∧
 (Cel v41 w261 ∧
 ((0 ≤ (x23 : Int) ∧ (x23 : Int) < (l43 : Nat)) ∧
 AddrK a43 fun b262 =>
 SetK w261 (b262.add ((x23 : Int).toNat * 1)) (.slice a256 l256 c256) fun w263 =>
 (0 ≤ (x23 : Int) ∧ (x23 : Int) < (l45 : Nat)) ∧
 AddrK a45 fun b264 =>
 SetK w263 (b264.add ((x23 : Int).toNat * 1)) (.slice a258 l258 c258) fun w265 =>
 (0 ≤ (x23 : Int) ∧ (x23 : Int) < (l47 : Nat)) ∧
 AddrK a47 fun b266 =>
 SetK w265 (b266.add ((x23 : Int).toNat * 1)) (.slice a260 l260 c260) fun w267 =>
 I20 (IntKind.wrap .i64 (x23 + 1)) w267 ∧ μ21 (IntKind.wrap .i64 (x23 + 1)) w267 < μ21 x23 w22)))))))))) ∧
 (AllocK w237 (#[(.bool false)]) 4 fun b268 w269 =>
 Cel v41 w269 ∧
 (AllocK w269 (#[(.bool false)]) 4 fun b270 w271 =>
 Cel v41 w271 ∧
 (∃ (a272 : Option Addr), ∃ (l272 : Nat), ∃ (c272 : Nat), ∃ (w273 : World), Sem.run Tryz.prog (Builtin.append_ #[84, 84] 84 #[(.slice a51 l51 c51), (.slice (some b270) 1 1)]) w271 = .ok (.slice a272 l272 c272) w273 ∧
 (Cel v41 w273 ∧
 (∃ (a274 : Option Addr), ∃ (l274 : Nat), ∃ (c274 : Nat), ∃ (w275 : World), Sem.run Tryz.prog (Builtin.append_ #[84, 84] 84 #[(.slice a55 l55 c55), (.slice (some b268) 1 1)]) w273 = .ok (.slice a274 l274 c274) w275 ∧
 (Cel v41 w275 ∧
 (∃ (a276 : Option Addr), ∃ (l276 : Nat), ∃ (c276 : Nat), ∃ (w277 : World), Sem.run Tryz.prog (Builtin.append_ #[84, 84] 84 #[(.slice a59 l59 c59), (.slice (some b236) 1 1)]) w275 = .ok (.slice a276 l276 c276) w277 ∧
 (Cel v41 w277 ∧
 ((0 ≤ (x23 : Int) ∧ (x23 : Int) < (l43 : Nat)) ∧
 AddrK a43 fun b278 =>
 SetK w277 (b278.add ((x23 : Int).toNat * 1)) (.slice a272 l272 c272) fun w279 =>
 (0 ≤ (x23 : Int) ∧ (x23 : Int) < (l45 : Nat)) ∧
 AddrK a45 fun b280 =>
 SetK w279 (b280.add ((x23 : Int).toNat * 1)) (.slice a274 l274 c274) fun w281 =>
 (0 ≤ (x23 : Int) ∧ (x23 : Int) < (l47 : Nat)) ∧
 AddrK a47 fun b282 =>
 SetK w281 (b282.add ((x23 : Int).toNat * 1)) (.slice a276 l276 c276) fun w283 =>
 I20 (IntKind.wrap .i64 (x23 + 1)) w283 ∧ μ21 (IntKind.wrap .i64 (x23 + 1)) w283 < μ21 x23 w22))))))))))))))))))))))))))))))
 (AddrK o1 fun b284 =>
 ∃ (a285 : Option Addr) (l285 : Nat) (c285 : Nat), w22.cell? (b284.add 4) = some (.slice a285 l285 c285) ∧
 (K (l285 : Nat) 0 w22)))))))))))
def ann23 : Ann := (.two .nil (.two (.two .nil (.two (.two .nil .nil) .nil)) (.two (.anyD 19 (.take 0 (.take 1 (.take 2 (.take 3 (.take 4 (.take 5 (.take 6 (.take 7 (.take 8 (.take 9 (.take 10 (.take 11 (.take 12 (.take 13 (.one 14 (.one 15 (.take 16 (.take 17 (.one 18 .done)))))))))))))))))))) (.two (.two .nil (.one (.loop [(6, (.one (.int .i64)))] [0] (.two (.two .nil (.two .nil .nil)) (.two (.one (.two (.anyD 16 (.take 0 (.take 1 (.take 2 (.take 3 (.take 4 (.take 5 (.take 6 (.take 7 (.take 8 (.take 9 (.take 10 (.take 11 (.one 12 (.one 13 (.take 14 (.one 15 .done))))))))))))))))) (.anyD 48 (.take 0 (.take 1 (.take 2 (.take 3 (.take 4 (.take 5 (.take 6 (.take 7 (.take 8 (.take 9 (.take 10 (.take 11 (.take 12 (.take 13 (.take 14 (.take 15 (.take 16 (.take 17 (.take 18 (.take 19 (.take 20 (.take 21 (.take 24 (.take 25 (.take 26 (.take 27 (.take 28 (.take 29 (.take 30 (.take 33 (.take 34 (.take 35 (.take 36 (.take 37 (.take 38 (.take 39 (.both 22 (.both 23 (.both 31 (.both 32 (.one 40 (.one 41 (.take 42 (.one 43 (.take 44 (.one 45 (.take 46 (.one 47 .done)))))))) (.one 40 (.one 32 (.one 41 (.take 42 (.one 43 (.take 44 (.one 45 (.take 46 (.one 47 .done)))))))))) (.one 40 (.one 31 (.one 32 (.one 41 (.take 42 (.one 43 (.take 44 (.one 45 (.take 46 (.one 47 .done))))))))))) (.both 31 (.both 23 (.both 32 (.one 40 (.one 41 (.take 42 (.one 43 (.take 44 (.one 45 (.take 46 (.one 47 .done)))))))) (.one 40 (.one 32 (.one 41 (.take 42 (.one 43 (.take 44 (.one 45 (.take 46 (.one 47 .done)))))))))) (.one 40 (.one 23 (.one 32 (.one 41 (.take 42 (.one 43 (.take 44 (.one 45 (.take 46 (.one 47 .done))))))))))) (.one 40 (.both 23 (.one 31 (.one 32 (.one 41 (.take 42 (.one 43 (.take 44 (.one 45 (.take 46 (.one 47 .done))))))))) (.one 31 (.one 23 (.one 32 (.one 41 (.take 42 (.one 43 (.take 44 (.one 45 (.take 46 (.one 47 .done)))))))))))))) (.both 31 (.both 22 (.both 23 (.both 32 (.one 40 (.one 41 (.take 42 (.one 43 (.take 44 (.one 45 (.take 46 (.one 47 .done)))))))) (.one 40 (.one 32 (.one 41 (.take 42 (.one 43 (.take 44 (.one 45 (.take 46 (.one 47 .done)))))))))) (.one 40 (.one 23 (.one 32 (.one 41 (.take 42 (.one 43 (.take 44 (.one 45 (.take 46 (.one 47 .done))))))))))) (.one 40 (.one 22 (.one 23 (.one 32 (.one 41 (.take 42 (.one 43 (.take 44 (.one 45 (.take 46 (.one 47 .done)))))))))))) (.one 40 (.both 22 (.both 23 (.one 31 (.one 32 (.one 41 (.take 42 (.one 43 (.take 44 (.one 45 (.take 46 (.one 47 .done))))))))) (.one 31 (.one 23 (.one 32 (.one 41 (.take 42 (.one 43 (.take 44 (.one 45 (.take 46 (.one 47 .done))))))))))) (.one 31 (.one 22 (.one 23 (.one 32 (.one 41 (.take 42 (.one 43 (.take 44 (.one 45 (.take 46 (.one 47 .done)))))))))))))))))))))))))))))))))))))))))))))))))))))) .nil))))) (.two .nil .nil)))))
noncomputable def code23 : Code := match Tryz.f23.body with | some c => c | none => .skip
theorem wp23 (o1 : Option Addr) (x2 : Int) (K : Int → Int → World → Prop) (w : World) : WP Tryz.prog tab code23 ann23 (fnQ tab Tryz.f23.results.toList [(.one (.int .i64)), (.one (.int .i64))] K) (argE 0 [(.pointer o1), (.int .i64 x2)]) w = N23 o1 x2 K w := by kernel_rfl
theorem calls23 (o1 : Option Addr) (x2 : Int) (K : Int → Int → World → Prop) (w : World) (h : N23 o1 x2 K w) : Calls Tryz.prog 23 #[(.pointer o1), (.int .i64 x2)] w fun en w' => ∃ (x286 : Int), ∃ (x287 : Int), en = .returned (.tuple #[(.int .i64 x286), (.int .i64 x287)]) ∧ K x286 x287 w' :=
 have e : (fun en w' => ExShs [(.one (.int .i64)), (.one (.int .i64))] fun vs => en = .returned (tupled vs) ∧ ap [(.one (.int .i64)), (.one (.int .i64))] K vs fun p => p w') = (fun (en : Ending) (w' : World) => ∃ (x286 : Int), ∃ (x287 : Int), en = .returned (.tuple #[(.int .i64 x286), (.int .i64 x287)]) ∧ K x286 x287 w') := by kernel_rfl
 e ▸ fn_sound tabOk mixed Tryz.func23 (by kernel_rfl : Tryz.f23.body = some code23) ann23 [(.pointer o1), (.int .i64 x2)] [(.one (.int .i64)), (.one (.int .i64))] K w (by kernel_rfl) ((wp23 o1 x2 K w).symm ▸ h)
end Go.Proofs.YtgggbmikmmljcaaGreat

namespace Go.Proofs.YtgggbmikmmljcaaGreat
open Go Go.V Go.Proofs
open Go.RowKit (Below)
structure FrM (κ κ' : Ka RK) (w w' : World) : Prop where
  os : w'.os = w.os
  tape : w'.tape = w.tape
  output : w'.output = w.output
  size : w.heap.size ≤ w'.heap.size
  block : ∀ b, b < w.heap.size → κ b = none → w'.heap[b]? = w.heap[b]?
  free : ∀ b, b < w.heap.size → κ b = none → κ' b = none
section
variable {κ κ' κ1 κ2 κ3 : Ka RK} {N N' : Prm} {r : Rb} {w w' w2 : World}
theorem FrM.of {X : RK → Prop} (p : Pk X κ κ' w w') : FrM κ κ' w w' := ⟨p.os, p.tape, p.output, p.size, p.block, p.free⟩
theorem FrM.trans (h : FrM κ κ1 w w') (g : FrM κ1 κ2 w' w2) : FrM κ κ2 w w2 :=
  ⟨g.os.trans h.os, g.tape.trans h.tape, g.output.trans h.output, Nat.le_trans h.size g.size, fun b hb e => (g.block b (Nat.lt_of_lt_of_le hb h.size) (h.free b hb e)).trans (h.block b hb e), fun b hb e => g.free b (Nat.lt_of_lt_of_le hb h.size) (h.free b hb e)⟩
theorem FrM.butK {b n u : Nat} {k : RK} (h : FrM κ κ1 w w') (x : But b w' w2) (e : κ1 b = some (k, n, u)) : FrM κ κ1 w w2 :=
  ⟨x.os.trans h.os, x.tape.trans h.tape, x.output.trans h.output, by rw [x.size]; exact h.size, fun i hi e2 => (x.block i fun hib => by have := h.free i hi e2; rw [hib, e] at this; cases this).trans (h.block i hi e2), h.free⟩
def Prm.addN (N : Prm) : Prm := { N with n := N.n + 1 }
def shr (κ : Ka RK) (b0 : Nat) : Ka RK := fun b => if b = b0 then κ b else match κ b with | some (.st, _, _) => none | x => x
theorem shr_ne {b b0 n u : Nat} {k : RK} (hk : k ≠ .st) (e : κ b = some (k, n, u)) : shr κ b0 b = some (k, n, u) := by
  unfold shr; split
  · exact e
  · rw [e]; cases k <;> first | exact absurd rfl hk | rfl
theorem shr_some {b b0 n u : Nat} {k : RK} (e : shr κ b0 b = some (k, n, u)) : κ b = some (k, n, u) ∧ (k = .st → b = b0) := by
  unfold shr at e; split at e
  · rename_i h; exact ⟨e, fun _ => h⟩
  · cases e1 : κ b with
    | none => rw [e1] at e; cases e
    | some x =>
      obtain ⟨k2, n2, u2⟩ := x
      rw [e1] at e
      cases k2 <;> first | (cases e; done) | (cases e; exact ⟨rfl, fun h => by cases h⟩)
theorem shr_none {b b0 : Nat} (e : κ b = none) : shr κ b0 b = none := by
  unfold shr; split
  · exact e
  · rw [e]
theorem Sl.shr {k : RK} {s : SL} {b0 : Nat} (hk : k ≠ .st) (h : Sl Kr κ k s) : Sl Kr (shr κ b0) k s := by
  rcases h with h | ⟨g, j, n, u, e1, e2, r⟩
  · exact .inl h
  · exact .inr ⟨g, j, n, u, e1, shr_ne hk e2, r⟩
theorem slK.shr {k : RK} {m b0 : Nat} {v : Value} (hk : k ≠ .st) (h : slK κ k m v) : slK (shr κ b0) k m v := by
  obtain ⟨a, l, c, e, hs, hl⟩ := h; exact ⟨a, l, c, e, Go.Proofs.YtgggbmikmmljcaaGreat.Sl.shr hk hs, hl⟩
theorem Or.shr {k : RK} {j b0 : Nat} {v : Value} (h : Or N r κ k j v) : Or N r (shr κ b0) k j v := by
  cases k <;> simp only [Or] at h ⊢ <;> try exact h
  · split at h <;> first | exact h.elim | exact slK.shr (by decide) h | (obtain ⟨a, c, e, hs⟩ := h; exact ⟨a, c, e, Go.Proofs.YtgggbmikmmljcaaGreat.Sl.shr (by decide) hs⟩) | exact h
  · split at h <;> first | exact h.elim | exact slK.shr (by decide) h | exact h
  · obtain ⟨a, l, c, e, hs⟩ := h; exact ⟨a, l, c, e, Go.Proofs.YtgggbmikmmljcaaGreat.Sl.shr (by decide) hs⟩
theorem Ty.shr {b0 : Nat} (h : Ty Kr (Or N r) κ w) : Ty Kr (Or N r) (Go.Proofs.YtgggbmikmmljcaaGreat.shr κ b0) w := fun b k n u e => by
  obtain ⟨cs, h1, h2, h3, h4⟩ := h b k n u (shr_some e).1
  exact ⟨cs, h1, h2, h3, fun i v hi hv => Or.shr (h4 i v hi hv)⟩
theorem Or.addN {k : RK} {j : Nat} {v : Value} (hj : k = .st → j ≠ 4) (h : Or N r κ k j v) : Or N.addN r κ k j v := by
  have h2 : ∀ {v}, isIdx N v → isIdx N.addN v := by rintro _ ⟨x, rfl, a, b⟩; exact ⟨x, rfl, a, by show x ≤ ((N.n + 1 : Nat) : Int); omega⟩
  cases k <;> simp only [Or] at h ⊢ <;> try exact h
  · split at h <;> first | exact h.elim | exact absurd rfl (hj rfl) | exact h
  · exact h2 h
  · split at h <;> first | exact h.elim | exact h2 h | exact h
  · exact h2 h
  · split at h <;> first | exact h.elim | exact h2 h | exact h
theorem setThings (h : Ty Kr (Or N r) κ w) (hst : κ r.b = some (.st, 12, 12)) (hu : ∀ b n u, κ b = some (.st, n, u) → b = r.b) {a : Option Addr} {c : Nat} (hs : Sl Kr κ .ths (a, N.n + 1, c)) {F : World → Prop} (f : ∀ w', Ty Kr (Or N.addN r) κ w' → But r.b w w' → F w') :
    SetK w ((⟨r.b, 0, none⟩ : Addr).add 4) (.slice a (N.n + 1) c) F := by
  rw [add_mk, Nat.zero_add]
  obtain ⟨cs, hb, h1, h2, h3⟩ := h _ _ _ _ hst
  refine SetK.mk hb (by omega) fun w' hb' bu => f w' (fun b k n u e => ?_) bu
  by_cases hbb : b = r.b
  · subst hbb
    rw [hst] at e; cases e
    refine ⟨_, hb', by simpa using h1, h2, fun i v hi hv => ?_⟩
    have hm : i % Kr.sz .st = i := Nat.mod_eq_of_lt hi
    rw [Array.getElem?_setIfInBounds] at hv
    split at hv
    · rename_i hii; subst hii
      rw [if_pos (by omega)] at hv; cases hv
      exact ⟨a, c, rfl, hs⟩
    · rename_i hne
      have := h3 i v hi hv
      exact Or.addN (fun _ => by rw [hm]; exact fun e => hne e.symm) this
  · obtain ⟨cs2, hb2, p1, p2, p3⟩ := h b k n u e
    exact ⟨cs2, bu.blk hb2 hbb, p1, p2, fun i v hi hv => Or.addN (fun hk => absurd (hu b n u (by rw [← hk]; exact e)) hbb) (p3 i v hi hv)⟩
structure TabX (κ : Ka RK) (N : Prm) (kt k : RK) (g x : Nat) (w : World) : Prop where
  in_ : κ g = some (kt, N.s, N.s)
  rows : ∃ W : List SL, W.length = N.s ∧ Blk w g (W.map slv).toArray (Kr.ty kt) ∧ ∀ i y, W[i]? = some y → Sl Kr κ k y ∧ N.n ≤ y.2.1 ∧ y.2.1 ≤ N.n + 2 ∧ (i < x → N.n + 1 ≤ y.2.1) ∧ (x ≤ i → y.2.1 ≤ N.n + 1)
theorem TabR.toX {kt k : RK} {g : Nat} (h : TabR κ N kt k g w) : TabX κ N kt k g 0 w := by
  obtain ⟨h1, W, h2, h3, h4⟩ := h
  refine ⟨h1, W, h2, h3, fun i y hy => ?_⟩
  obtain ⟨p1, p2, p3⟩ := h4 y (List.mem_of_getElem? hy)
  exact ⟨p1, p2, by omega, fun h => by omega, fun _ => p3⟩
theorem TabX.toR {kt k : RK} {g : Nat} (h : TabX κ N kt k g N.s w) : TabR κ N.addN kt k g w := by
  obtain ⟨h1, W, h2, h3, h4⟩ := h
  refine ⟨h1, W, h2, h3, fun y hy => ?_⟩
  obtain ⟨i, hi⟩ := List.getElem?_of_mem hy
  obtain ⟨p1, p2, p3, p4, _⟩ := h4 i y hi
  have := p4 (by rw [← h2]; exact (List.getElem?_eq_some_iff.1 hi).1)
  exact ⟨p1, this, p3⟩
theorem TabX.keep {X : RK → Prop} {kt k : RK} {g x : Nat} (h : TabX κ N kt k g x w) (p : Pk X κ κ' w w') (hkt : ¬ X kt) (ht : Ty Kr (Or N' r) κ' w') : TabX κ' N kt k g x w' := by
  obtain ⟨h1, W, h2, h3, h4⟩ := h
  obtain ⟨u', hu, h1'⟩ := p.le _ _ _ _ h1
  obtain ⟨cs, hb, e1, e2, _⟩ := ht _ _ _ _ h1'
  have : u' = N.s := by omega
  subst this
  exact ⟨h1', W, h2, (p.keep _ _ _ _ h1 hkt).trans h3, fun i y hy => ⟨(h4 i y hy).1.le p.le, (h4 i y hy).2⟩⟩
theorem TabX.but {kt k : RK} {g b x : Nat} (h : TabX κ N kt k g x w) (bu : But b w w') (hne : g ≠ b) : TabX κ N kt k g x w' := by
  obtain ⟨h1, W, h2, h3, h4⟩ := h
  exact ⟨h1, W, h2, bu.blk h3 hne, h4⟩
theorem TabX.shr {kt k : RK} {g x b0 : Nat} (h : TabX κ N kt k g x w) (h1 : kt ≠ .st) (h2 : k ≠ .st) : TabX (Go.Proofs.YtgggbmikmmljcaaGreat.shr κ b0) N kt k g x w := by
  obtain ⟨p1, W, p2, p3, p4⟩ := h
  exact ⟨shr_ne h1 p1, W, p2, p3, fun i y hy => ⟨Go.Proofs.YtgggbmikmmljcaaGreat.Sl.shr h2 (p4 i y hy).1, (p4 i y hy).2⟩⟩
theorem TabX.at_ {kt k : RK} {g x : Nat} (h : TabX κ N kt k g x w) {i : Int} (h0 : 0 ≤ i) (h1 : i < N.s) : ∃ a l c, w.cell? ((⟨g, 0, none⟩ : Addr).add (i.toNat * 1)) = some (.slice a l c) ∧ Sl Kr κ k (a, l, c) ∧ N.n ≤ l ∧ l ≤ N.n + 2 ∧ (x ≤ i.toNat → l ≤ N.n + 1) := by
  obtain ⟨_, W, h2, h3, h4⟩ := h
  have hx : i.toNat < W.length := by omega
  obtain ⟨p1, p2, p3, p4, p5⟩ := h4 i.toNat _ (List.getElem?_eq_getElem hx)
  refine ⟨(W[i.toNat]).1, (W[i.toNat]).2.1, (W[i.toNat]).2.2, ?_, p1, p2, p3, p5⟩
  rw [add_mk, Nat.zero_add, Nat.mul_one, h3.cell, List.getElem?_toArray, List.getElem?_map, List.getElem?_eq_getElem hx]; rfl
theorem TabX.set {kt k : RK} {g x : Nat} (h : TabX κ N kt k g x w) (hkt : kt = .tabI ∨ kt = .tabB) (ht : Ty Kr (Or N' r) κ w) {i : Int} (hi : i = x) (h1 : x < N.s) {a : Option Addr} {l c : Nat} (hs : Sl Kr κ k (a, l, c)) (hl1 : N.n + 1 ≤ l) (hl2 : l ≤ N.n + 2) {F : World → Prop}
    (f : ∀ w', TabX κ N kt k g (x + 1) w' → Ty Kr (Or N' r) κ w' → But g w w' → F w') : SetK w ((⟨g, 0, none⟩ : Addr).add (i.toNat * 1)) (.slice a l c) F := by
  subst hi
  obtain ⟨p1, W, p2, p3, p4⟩ := h
  rw [add_mk, Nat.zero_add, Nat.mul_one, Int.toNat_natCast]
  have key := ht.set p1 h1 (v := .slice a l c) (by rcases hkt with rfl | rfl <;> exact ⟨a, l, c, rfl⟩) (F := fun w' => Ty Kr (Or N' r) κ w' ∧ But g w w') fun w' h' b' => ⟨h', b'⟩
  refine ⟨key.1, f _ ⟨p1, W.set x (a, l, c), by simpa using p2, ?_, fun j y hy => ?_⟩ key.2.1 key.2.2⟩
  · have := heap_setCell_same w g x _ _ (.slice a l c) p3
    have e : ((W.map slv).toArray.setIfInBounds x (.slice a l c)) = ((W.set x (a, l, c)).map slv).toArray := by apply Array.ext'; simp [List.map_set, slv]
    rw [e] at this; exact this
  · rw [List.getElem?_set] at hy
    split at hy
    · rename_i hxj; subst hxj
      rw [if_pos (by omega)] at hy; cases hy
      exact ⟨hs, by show N.n ≤ l; omega, hl2, fun _ => hl1, fun h => by omega⟩
    · obtain ⟨q1, q2, q3, q4, q5⟩ := p4 j y hy
      exact ⟨q1, q2, q3, fun h => q4 (by omega), fun h => q5 (by omega)⟩
end
end Go.Proofs.YtgggbmikmmljcaaGreat

namespace Go.Proofs.YtgggbmikmmljcaaGreat
open Go Go.V Go.Proofs
open Go.RowKit (Below)
section
variable {κ κ' κ1 κ2 κ3 : Ka RK} {N N' : Prm} {r : Rb} {w w' w2 w0 : World}
structure MkS (O : OkF RK) (κ0 : Ka RK) (w0 : World) (L : List Nat) (Ls : List SL) (κ : Ka RK) (w : World) : Prop where
  ty : Ty Kr O κ w
  pk : Pk (· = .bools) κ0 κ w0 w
  boxes : ∀ b ∈ L, Blk w b #[.bool false] 4 ∧ κ b = none
  sls : ∀ s ∈ Ls, Sl Kr κ .bools s
def nBools (k : RK) : Bool := match k with | .bools => false | _ => true
def nInts (k : RK) : Bool := match k with | .ints => false | _ => true
def nThs (k : RK) : Bool := match k with | .ths => false | _ => true
theorem MkS.cel {O : OkF RK} {L : List Nat} {Ls : List SL} (h : MkS O κ1 w0 L Ls κ w) : Cel (subK κ1 nBools w0) w := h.pk.celK fun k hk e => by subst e; cases hk
theorem MkS.box {O : OkF RK} {L : List Nat} {Ls : List SL} (h : MkS O κ1 w0 L Ls κ w) {te : Nat} (hte : te = 4) {F : Addr → World → Prop} (f : ∀ b w', MkS O κ1 w0 (b :: L) Ls κ w' → F ⟨b, 0, none⟩ w') :
    AllocK w #[.bool false] te fun b w' => Cel (subK κ1 nBools w0) w' ∧ F b w' := AllocK.mk fun b w' hb hB hx => by
  subst hte
  have h' : MkS O κ1 w0 (b :: L) Ls κ w' := ⟨h.ty.ext hx, h.pk.trans (Pk.ofExt _ h.ty hx), fun b2 hb2 => by
    rcases List.mem_cons.1 hb2 with rfl | hb2
    · exact ⟨hB, h.ty.none_top (by omega)⟩
    · exact ⟨(h.boxes b2 hb2).1.ext hx, (h.boxes b2 hb2).2⟩, h.sls⟩
  exact ⟨h'.cel, f b w' h'⟩
theorem MkS.app {N : Prm} {L : List Nat} {Ls : List SL} (h : MkS (Or N r) κ1 w0 L Ls κ w) {a : Option Addr} {l c b ty : Nat} (hs : (a, l, c) ∈ Ls) (hb : b ∈ L) (hl : l ≤ 2000000) {F : Option Addr → Nat → Nat → World → Prop}
    (f : ∀ a' c' w' κ', MkS (Or N r) κ1 w0 L ((a', l + 1, c') :: Ls) κ' w' → F a' (l + 1) c' w') :
    ∃ a' l' c' w', Sem.run Tryz.prog (Builtin.append_ #[84, 84] ty #[.slice a l c, .slice (some ⟨b, 0, none⟩) 1 1]) w = .ok (.slice a' l' c') w' ∧ (Cel (subK κ1 nBools w0) w' ∧ F a' l' c' w') := by
  obtain ⟨hB, hn⟩ := h.boxes b hb
  obtain ⟨a', c', w', κ', q1, q2, q3, q4⟩ := Sl.pushB (ty := ty) (okR N r) rsltB h.ty (h.sls _ hs) hB rfl (fun j v hj => by
    match j with
    | 0 => cases hj; exact ⟨_, rfl⟩
    | j + 1 => cases hj) (by omega)
  have h' : MkS (Or N r) κ1 w0 L ((a', l + 1, c') :: Ls) κ' w' := ⟨q2, h.pk.trans q4, fun b2 hb2 => ⟨q4.blk (h.boxes b2 hb2).1 (h.boxes b2 hb2).2, q4.free b2 (h.boxes b2 hb2).1.lt (h.boxes b2 hb2).2⟩, fun s hs2 => by
    rcases List.mem_cons.1 hs2 with rfl | hs2
    · exact q3
    · exact (h.sls s hs2).le q4.le⟩
  exact ⟨a', l + 1, c', w', q1, h'.cel, f a' c' w' κ' h'⟩
structure MkL (κ0 : Ka RK) (w0 : World) (N : Prm) (r : Rb) (k : Nat) (κ : Ka RK) (w : World) : Prop where
  ty : Ty Kr (Or N.addN r) κ w
  st : κ r.b = some (.st, 12, 12)
  fr : FrM κ0 κ w0 w
  tw : TabX κ N .tabI .ints r.gw k w
  ta : TabX κ N .tabB .bools r.ga k w
  tm : TabX κ N .tabB .bools r.gm k w
  tl : TabX κ N .tabB .bools r.gl k w
theorem tabNe {a b n u n' u' : Nat} (h1 : κ a = some (.tabI, n, u)) (h2 : κ b = some (.tabB, n', u')) : a ≠ b := fun e => by rw [e, h2] at h1; cases h1
theorem MkL.leaf {k : Nat} {L : List Nat} {Ls : List SL} (hne : r.ga ≠ r.gm ∧ r.ga ≠ r.gl ∧ r.gm ≠ r.gl) (fr : FrM κ κ1 w w0) (st : κ1 r.b = some (.st, 12, 12)) (tw : TabX κ1 N .tabI .ints r.gw (k + 1) w0) (ta : TabX κ1 N .tabB .bools r.ga k w0) (tm : TabX κ1 N .tabB .bools r.gm k w0) (tl : TabX κ1 N .tabB .bools r.gl k w0)
    (hk : k < N.s) (h : MkS (Or N.addN r) κ1 w0 L Ls κ2 w2) {a1 a2 a3 : Option Addr} {l1 l2 l3 c1 c2 c3 : Nat} (m1 : (a1, l1 + 1, c1) ∈ Ls) (m2 : (a2, l2 + 1, c2) ∈ Ls) (m3 : (a3, l3 + 1, c3) ∈ Ls) (b1 : N.n ≤ l1 ∧ l1 ≤ N.n + 1) (b2 : N.n ≤ l2 ∧ l2 ≤ N.n + 1) (b3 : N.n ≤ l3 ∧ l3 ≤ N.n + 1)
    {F : World → Prop} (f : ∀ w', MkL κ w N r (k + 1) κ2 w' → F w') :
    (0 ≤ (k : Int) ∧ (k : Int) < (N.s : Nat)) ∧ SetK w2 ((⟨r.ga, 0, none⟩ : Addr).add ((k : Int).toNat * 1)) (.slice a1 (l1 + 1) c1) fun w73 => (0 ≤ (k : Int) ∧ (k : Int) < (N.s : Nat)) ∧ SetK w73 ((⟨r.gm, 0, none⟩ : Addr).add ((k : Int).toNat * 1)) (.slice a2 (l2 + 1) c2) fun w75 =>
      (0 ≤ (k : Int) ∧ (k : Int) < (N.s : Nat)) ∧ SetK w75 ((⟨r.gl, 0, none⟩ : Addr).add ((k : Int).toNat * 1)) (.slice a3 (l3 + 1) c3) F := by
  have nb : ¬ (RK.tabB = .bools) := by decide
  have ni : ¬ (RK.tabI = .bools) := by decide
  have ta := ta.keep h.pk nb h.ty
  have tm := tm.keep h.pk nb h.ty
  have tl := tl.keep h.pk nb h.ty
  have tw := tw.keep h.pk ni h.ty
  have st2 : κ2 r.b = some (.st, 12, 12) := by
    obtain ⟨u', hu, e⟩ := h.pk.le _ _ _ _ st
    obtain ⟨cs, _, e1, e2, _⟩ := h.ty _ _ _ _ e
    have : u' = 12 := by omega
    subst this; exact e
  refine ⟨by omega, ta.set (.inr rfl) h.ty rfl hk (h.sls _ m1) (by omega) (by omega) fun w73 ta ty73 bu73 => ⟨by omega, (tm.but bu73 (Ne.symm hne.1)).set (.inr rfl) ty73 rfl hk (h.sls _ m2) (by omega) (by omega) fun w75 tm ty75 bu75 => ⟨by omega, ((tl.but bu73 (Ne.symm hne.2.1)).but bu75 (Ne.symm hne.2.2)).set (.inr rfl) ty75 rfl hk (h.sls _ m3) (by omega) (by omega) fun w77 tl ty77 bu77 => ?_⟩⟩⟩
  refine f w77 ⟨ty77, st2, (((fr.trans (FrM.of h.pk)).butK bu73 ta.in_).butK bu75 tm.in_).butK bu77 tl.in_, ((tw.but bu73 (tabNe tw.in_ ta.in_)).but bu75 (tabNe tw.in_ tm.in_)).but bu77 (tabNe tw.in_ tl.in_), (ta.but bu75 hne.1).but bu77 hne.2.1, tm.but bu77 hne.2.2, tl⟩
theorem tyC4 (ty : Ty Kr (Or N r) κ w) (st : κ r.b = some (.st, 12, 12)) {i : Nat} (hi : i < 12) : ∃ v, w.cell? ((⟨r.b, 0, none⟩ : Addr).add i) = some v ∧ Or N r κ .st i v := by
  obtain ⟨v, h1, h2⟩ := ty.cell st hi
  rw [show i % Kr.sz .st = i from Nat.mod_eq_of_lt hi] at h2
  exact ⟨v, by rw [add_mk, Nat.zero_add]; exact h1, h2⟩
theorem subAdd {P : RK → Bool} {b n u : Nat} {k : RK} (e : κ b = some (k, n, u)) (hP : P k = true) (o i : Nat) : (subK κ P w).cell? ((⟨b, o, none⟩ : Addr).add i) = w.cell? ((⟨b, o, none⟩ : Addr).add i) := by
  rw [add_mk]; exact subK_cell e hP _
set_option maxRecDepth 100000 in
theorem c23 (h : RR κ N r w) (x : Int) (hn : N.n + 1 ≤ 1000) : Calls Tryz.prog 23 #[rp r, .int .i64 x] w fun en w' => ∃ p e, en = .returned (.tuple #[.int .i64 p, .int .i64 e]) ∧
    ((¬ N.isS x ∧ e = 2 ∧ w' = w) ∨ (N.isS x ∧ e = 0 ∧ ∃ κ', RR κ' N.addN r w' ∧ FrM κ κ' w w')) := by
  refine calls23 _ _ (fun _ e w' => (¬ N.isS x ∧ e = 2 ∧ w' = w) ∨ (N.isS x ∧ e = 0 ∧ ∃ κ', RR κ' N.addN r w' ∧ FrM κ κ' w w')) w ?_
  refine (c58 h x).mono ?_
  rintro en w4 ⟨p, rfl, hp, rfl⟩
  refine ⟨_, rfl, BoolK.mk (fun t => .inl ⟨by rw [hp] at t; simpa using t, rfl, rfl⟩) (fun t => ?_)⟩
  have hS : N.isS x := by rw [hp] at t; simpa using t
  have ls := h.ls
  refine h.drew fun w6 h6 hx6 p6 => ?_
  refine ⟨subK κ nThs w6, subK_cel (fun _ _ _ _ _ _ _ => rfl), ?_⟩
  obtain ⟨a, c, hc, hs⟩ := h6.c4
  obtain ⟨a3, c3, hc3, hs3⟩ := h6.c3
  obtain ⟨g3, o3, n3, u3, v3, rfl, hk3, hu3, hc3', y3, rfl⟩ := h6.el hs3 rfl hS.1 hS.2
  have sc : ∀ i, (subK κ nThs w6).cell? ((⟨r.b, 0, none⟩ : Addr).add i) = w6.cell? ((⟨r.b, 0, none⟩ : Addr).add i) := fun i => subAdd h6.st rfl 0 i
  refine ⟨a, N.n, c, (sc 4).trans hc, _, _, _, (sc 3).trans hc3, hS, y3, (subAdd hk3 rfl o3 _).trans hc3', ?_⟩
  refine AllocK.mk fun b w15 hb hB hx15 => ?_
  have h15 := h6.ext hx15
  have p15 : Pk (· = .ths) κ κ w6 w15 := Pk.ofExt _ h6.ty hx15
  have cel : ∀ {κ' : Ka RK} {w' : World}, Pk (· = .ths) κ κ' w6 w' → Cel (subK κ nThs w6) w' := fun p => p.celK fun k hk e => by subst e; cases hk
  refine ⟨cel p15, ?_⟩
  obtain ⟨a', c', w17, κ1, q1, q2, q3, q4⟩ := Sl.pushB (ty := 44) (okR N r) rsltT h15.ty hs hB rfl (fun j v hj => by
    match j with
    | 0 => cases hj; exact ⟨_, rfl, hS⟩
    | 1 => cases hj; exact ⟨_, rfl⟩
    | 2 => cases hj; exact ⟨_, rfl⟩
    | 3 => cases hj; exact ⟨_, rfl⟩
    | 4 => cases hj; exact ⟨_, rfl⟩
    | 5 => cases hj; exact ⟨_, rfl⟩
    | 6 => cases hj; exact ⟨none, 0, 0, rfl, Sl.nil _ _ _, Nat.zero_le _⟩
    | j + 7 => cases hj) (by omega)
  refine ⟨a', _, c', w17, q1, ?_⟩
  have g17 : RR κ1 N r w17 := h15.same (q4.mono (by rintro _ rfl; simp [NT])) q2
  have fr17 : FrM κ κ1 w4 w17 := (FrM.of p6).trans ((FrM.of p15).trans (FrM.of q4))
  have st1 : shr κ1 r.b r.b = some (.st, 12, 12) := by unfold shr; rw [if_pos rfl]; exact g17.st
  refine setThings (Ty.shr (b0 := r.b) q2) st1 (fun b n u e => (shr_some e).2 rfl) (Go.Proofs.YtgggbmikmmljcaaGreat.Sl.shr (by decide) q3) fun w19 ty19 bu19 => ?_
  have frs : FrM κ (shr κ1 r.b) w4 w17 := ⟨fr17.os, fr17.tape, fr17.output, fr17.size, fr17.block, fun b hb e => shr_none (fr17.free b hb e)⟩
  have nst : ∀ {g n u : Nat} {k : RK}, κ1 g = some (k, n, u) → k ≠ .st → g ≠ r.b := fun e hk hg => by rw [hg, g17.st] at e; cases e; exact hk rfl
  have M0 : MkL κ w4 N r 0 (shr κ1 r.b) w19 := ⟨ty19, st1, frs.butK bu19 st1, ((g17.tw.toX.shr (by decide) (by decide)).but bu19 (nst g17.tw.in_ (by decide))), ((g17.ta.toX.shr (by decide) (by decide)).but bu19 (nst g17.ta.in_ (by decide))), ((g17.tm.toX.shr (by decide) (by decide)).but bu19 (nst g17.tm.in_ (by decide))), ((g17.tl.toX.shr (by decide) (by decide)).but bu19 (nst g17.tl.in_ (by decide)))⟩
  refine ⟨fun i w' => ∃ κ2 k, i = (k : Nat) ∧ k ≤ N.s ∧ MkL κ w4 N r k κ2 w', fun i _ => N.s - i.toNat, ⟨⟨_, 0, rfl, Nat.zero_le _, M0⟩, trivial⟩, ?_⟩
  clear M0 frs fr17 nst g17 q4 q3 q2 q1 hB cel p15 h15 hx15 ty19 bu19 st1
  rintro w22 _ ⟨κ2, k, rfl, hk, M⟩
  obtain ⟨v0, hv0, hO0⟩ := tyC4 M.ty M.st (i := 0) (by omega)
  rw [show v0 = .int .i64 N.s from hO0] at hv0
  refine ⟨N.s, by rw [← add_mk0 (⟨r.b, 0, none⟩ : Addr)]; exact hv0, BoolK.mk (fun tk => ?_) (fun tk => ?_)⟩
  rotate_left
  · -- all sites
    have tk := of_decide_eq_false tk
    have : k = N.s := by omega
    subst this
    obtain ⟨v4, hv4, a4, c4, rfl, hs4⟩ := tyC4 M.ty M.st (i := 4) (by omega)
    refine ⟨_, _, _, hv4, .inr ⟨hS, rfl, κ2, ?_, M.fr⟩⟩
    exact ⟨M.ty, M.st, M.tw.toR, M.ta.toR, M.tm.toR, M.tl.toR, h.ne, h.ls, hn, h.ln.2⟩
  have tk := of_decide_eq_true tk
  have hkS : k < N.s := by omega
  have e : IntKind.wrap .i64 ((k : Int) + 1) = ((k + 1 : Nat) : Int) := wrap_succ (by omega)
  rw [e]
  -- the weights
  refine DrewK.mk fun w26 hx26 => ?_
  have P26 : Pk (fun _ => False) κ2 κ2 w22 w26 := Pk.ofExt _ M.ty hx26
  have T26 := M.ty.ext hx26
  have tw := M.tw.keep P26 (fun h => h) T26
  have ta := M.ta.keep P26 (fun h => h) T26
  have tm := M.tm.keep P26 (fun h => h) T26
  have tl := M.tl.keep P26 (fun h => h) T26
  obtain ⟨v5, hv5, hO5⟩ := tyC4 T26 M.st (i := 5) (by omega)
  rw [show v5 = _ from hO5] at hv5
  refine ⟨subK κ2 nInts w26, subK_cel (fun _ _ _ _ _ _ _ => rfl), ?_⟩
  have sc : ∀ i, (subK κ2 nInts w26).cell? ((⟨r.b, 0, none⟩ : Addr).add i) = w26.cell? ((⟨r.b, 0, none⟩ : Addr).add i) := fun i => subAdd M.st rfl 0 i
  obtain ⟨aw, lw, cw, hcw, hsw, w1, w2', w3'⟩ := tw.at_ (i := (k : Int)) (by omega) tk
  have w3' := w3' (by simp)
  refine ⟨_, _, _, (sc 5).trans hv5, _, _, _, (sc 5).trans hv5, ⟨by omega, tk⟩, aw, lw, cw, (subAdd tw.in_ rfl 0 _).trans hcw, ?_⟩
  refine AllocK.mk fun b34 w35 hb34 hB34 hx35 => ?_
  have T35 := T26.ext hx35
  have P35 : Pk (· = .ints) κ2 κ2 w26 w35 := Pk.ofExt _ T26 hx35
  have cel : ∀ {κ' : Ka RK} {w' : World}, Pk (· = .ints) κ2 κ' w26 w' → Cel (subK κ2 nInts w26) w' := fun p => p.celK fun k hk e => by subst e; cases hk
  refine ⟨cel P35, ?_⟩
  obtain ⟨a', c', w37, κ3, q1, q2, q3, q4⟩ := Sl.pushB (ty := 43) (okR N.addN r) rsltI T35 hsw hB34 rfl (fun j v hj => by
    match j with
    | 0 => cases hj; exact ⟨_, rfl⟩
    | j + 1 => cases hj) (by omega)
  have P37 := P35.trans q4
  refine ⟨a', _, c', w37, q1, cel P37, ⟨by omega, tk⟩, ?_⟩
  have tw := tw.keep P37 (by decide) q2
  have ta := ta.keep P37 (by decide) q2
  have tm := tm.keep P37 (by decide) q2
  have tl := tl.keep P37 (by decide) q2
  have st3 : κ3 r.b = some (.st, 12, 12) := by
    obtain ⟨u', hu, e⟩ := P37.le _ _ _ _ M.st
    obtain ⟨cs, _, e1, e2, _⟩ := q2 _ _ _ _ e
    have : u' = 12 := by omega
    subst this; exact e
  refine tw.set (.inl rfl) q2 rfl hkS q3 (by omega) (by omega) fun w39 tw T39 bu39 => ?_
  have ta := ta.but bu39 (Ne.symm (tabNe tw.in_ ta.in_))
  have tm := tm.but bu39 (Ne.symm (tabNe tw.in_ tm.in_))
  have tl := tl.but bu39 (Ne.symm (tabNe tw.in_ tl.in_))
  have fr39 : FrM κ κ3 w4 w39 := (((M.fr.trans (FrM.of P26)).trans (FrM.of P37)).butK bu39 tw.in_)
  -- the bools
  refine DrewK.mk fun w40 hx40 => ?_
  have P40 : Pk (fun _ => False) κ3 κ3 w39 w40 := Pk.ofExt _ T39 hx40
  have T40 := T39.ext hx40
  have tw := tw.keep P40 (fun h => h) T40
  have ta := ta.keep P40 (fun h => h) T40
  have tm := tm.keep P40 (fun h => h) T40
  have tl := tl.keep P40 (fun h => h) T40
  have fr40 := fr39.trans (FrM.of P40)
  obtain ⟨v6, hv6, hO6⟩ := tyC4 T40 st3 (i := 6) (by omega)
  rw [show v6 = _ from hO6] at hv6
  obtain ⟨v7, hv7, hO7⟩ := tyC4 T40 st3 (i := 7) (by omega)
  rw [show v7 = _ from hO7] at hv7
  obtain ⟨v8, hv8, hO8⟩ := tyC4 T40 st3 (i := 8) (by omega)
  rw [show v8 = _ from hO8] at hv8
  refine ⟨subK κ3 nBools w40, subK_cel (fun _ _ _ _ _ _ _ => rfl), ?_⟩
  have sc : ∀ i, (subK κ3 nBools w40).cell? ((⟨r.b, 0, none⟩ : Addr).add i) = w40.cell? ((⟨r.b, 0, none⟩ : Addr).add i) := fun i => subAdd st3 rfl 0 i
  obtain ⟨a1, l1, c1, d1, s1, x1, y1, z1⟩ := ta.at_ (i := (k : Int)) (by omega) tk
  obtain ⟨a2, l2, c2, d2, s2, x2, y2, z2⟩ := tm.at_ (i := (k : Int)) (by omega) tk
  obtain ⟨a3, l3, c3, d3, s3, x3, y3, z3⟩ := tl.at_ (i := (k : Int)) (by omega) tk
  have z1 := z1 (by simp)
  have z2 := z2 (by simp)
  have z3 := z3 (by simp)
  refine ⟨_, _, _, (sc 6).trans hv6, _, _, _, (sc 7).trans hv7, _, _, _, (sc 8).trans hv8, _, _, _, (sc 6).trans hv6, ⟨by omega, tk⟩, a1, l1, c1, (subAdd ta.in_ rfl 0 _).trans d1, _, _, _, (sc 7).trans hv7, ⟨by omega, tk⟩, a2, l2, c2, (subAdd tm.in_ rfl 0 _).trans d2, _, _, _, (sc 8).trans hv8, ⟨by omega, tk⟩, a3, l3, c3, (subAdd tl.in_ rfl 0 _).trans d3, ?_⟩
  have H : MkS (Or N.addN r) κ3 w40 [] [(a1, l1, c1), (a2, l2, c2), (a3, l3, c3)] κ3 w40 := ⟨T40, Pk.refl _ _ _, fun b hb => (by cases hb), fun s hs => by
    simp only [List.mem_cons, List.not_mem_nil, or_false] at hs
    rcases hs with rfl | rfl | rfl
    · exact s1
    · exact s2
    · exact s3⟩
  have B1 : N.n ≤ l1 ∧ l1 ≤ N.n + 1 := ⟨x1, z1⟩
  have B2 : N.n ≤ l2 ∧ l2 ≤ N.n + 1 := ⟨x2, z2⟩
  have B3 : N.n ≤ l3 ∧ l3 ≤ N.n + 1 := ⟨x3, z3⟩
  have L1 : l1 ≤ 2000000 := by omega
  have L2 : l2 ≤ 2000000 := by omega
  have L3 : l3 ≤ 2000000 := by omega
  have fin : ∀ {κ4 : Ka RK} {w' : World}, MkL κ w4 N r (k + 1) κ4 w' → (∃ κ2 k2, ((k + 1 : Nat) : Int) = (k2 : Nat) ∧ k2 ≤ N.s ∧ MkL κ w4 N r k2 κ2 w') ∧ N.s - (((k + 1 : Nat) : Int)).toNat < N.s - (k : Int).toNat := fun hM => ⟨⟨_, k + 1, rfl, by omega, hM⟩, by simp; omega⟩
  clear hv6 hv7 hv8 hv5 hv0 sc T39 T35 T26 q1 q2 q3 q4 P26 P35 P37 P40 hO6 hO7 hO8 hO5 hO0 d1 d2 d3 s1 s2 s3 x1 y1 z1 x2 y2 z2 x3 y3 z3 cel
  repeat' (first
    | exact MkL.leaf h.ne fr40 st3 tw ta tm tl hkS ‹MkS _ _ _ _ _ _ _› (a1 := _) (by first | exact List.mem_cons_self | exact List.mem_cons_of_mem _ List.mem_cons_self | exact List.mem_cons_of_mem _ (List.mem_cons_of_mem _ List.mem_cons_self)) (by first | exact List.mem_cons_self | exact List.mem_cons_of_mem _ List.mem_cons_self | exact List.mem_cons_of_mem _ (List.mem_cons_of_mem _ List.mem_cons_self)) (by first | exact List.mem_cons_self | exact List.mem_cons_of_mem _ List.mem_cons_self | exact List.mem_cons_of_mem _ (List.mem_cons_of_mem _ List.mem_cons_self)) B1 B2 B3 fun w' hM => fin hM
    | refine MkS.box ‹MkS _ _ _ _ _ _ _› rfl fun b w H => ?_
    | refine MkS.app ‹MkS _ _ _ _ _ _ _› (by simp) (by simp) (by assumption) fun a c w κ H => ?_
    | refine ⟨?_, ?_⟩)
end
end Go.Proofs.YtgggbmikmmljcaaGreat

namespace Go.Proofs.YtgggbmikmmljcaaGreat
open Go Go.V Go.Proofs
open Go.RowKit (Below)
/-! (*manystrand/manystrandref27.Count).Pass -/
def N26 (o1 : Option Addr) (x2 : Int) (x3 : Int) (x4 : Int) (K : Int → World → Prop) (w : World) : Prop :=
 Calls Tryz.prog 59 #[(.pointer o1), (.int .i64 x4)] w fun e7 w6 =>
 ∃ (o5 : Option Addr), e7 = .returned (.pointer o5) ∧
 (Calls Tryz.prog 58 #[(.pointer o1), (.int .i64 x2)] w6 fun e10 w9 =>
 ∃ (p8 : Bool), e10 = .returned (.bool p8) ∧
 (BoolK (!p8)
 (K 2 w9)
 (Calls Tryz.prog 58 #[(.pointer o1), (.int .i64 x3)] w9 fun e13 w12 =>
 ∃ (p11 : Bool), e13 = .returned (.bool p11) ∧
 (BoolK (!p11)
 (K 2 w12)
 (∃ (J14 : World → Prop),
 (∀ (w15 : World), J14 w15 →
 ∃ (J16 : World → Prop),
 (∀ (w17 : World), J16 w17 →
 BoolK ((x2 : Int) == x3)
 (K 0 w17)
 (AddrK o5 fun b18 =>
 ∃ (x19 : Int), w17.cell? b18 = some (.int .i64 x19) ∧
 (BoolK ((x2 : Int) == x19)
 (DrewK w17 fun w20 =>
 AddrK o5 fun b21 =>
 ∃ (x22 : Int), w20.cell? (b21.add 1) = some (.int .i64 x22) ∧
 (AddrK o1 fun b23 =>
 ∃ (a24 : Option Addr) (l24 : Nat) (c24 : Nat), w20.cell? (b23.add 3) = some (.slice a24 l24 c24) ∧
 ((0 ≤ (x2 : Int) ∧ (x2 : Int) < (l24 : Nat)) ∧
 AddrK a24 fun b25 =>
 ∃ (x26 : Int), w20.cell? (b25.add ((x2 : Int).toNat * 1)) = some (.int .i64 x26) ∧
 (AddrK o5 fun b27 =>
 SetK w20 (b27.add 1) (.int .i64 (IntKind.wrap .i64 (x22 + 65536))) fun w28 =>
 AddrK o5 fun b29 =>
 SetK w28 (b29.add 2) (.int .i64 x26) fun w30 =>
 Calls Tryz.prog 60 #[(.pointer o1), (.int .i64 x2), (.int .i64 x3), (.string (⟨#[112, 97, 115, 115]⟩ : ByteArray)), (.int .i64 x4), (.int .i64 65536)] w30 fun e32 w31 =>
 e32 = .returned (.tuple #[]) ∧
 (K 0 w31)))))
 (AddrK o1 fun b33 =>
 ∃ (a34 : Option Addr) (l34 : Nat) (c34 : Nat), w17.cell? (b33.add 5) = some (.slice a34 l34 c34) ∧
 ((0 ≤ (x2 : Int) ∧ (x2 : Int) < (l34 : Nat)) ∧
 AddrK a34 fun b35 =>
 ∃ (a36 : Option Addr) (l36 : Nat) (c36 : Nat), w17.cell? (b35.add ((x2 : Int).toNat * 1)) = some (.slice a36 l36 c36) ∧
 ((0 ≤ (IntKind.wrap .i64 (x4 - 1) : Int) ∧ (IntKind.wrap .i64 (x4 - 1) : Int) < (l36 : Nat)) ∧
 AddrK a36 fun b37 =>
 ∃ (x38 : Int), w17.cell? (b37.add ((IntKind.wrap .i64 (x4 - 1) : Int).toNat * 1)) = some (.int .i64 x38) ∧
 (BoolK (decide ((x38 : Int) > 1))
 (Calls Tryz.prog 64 #[(.pointer o1), (.agg #[(.int .i64 x2), (.int .i64 x3), (.int .i64 x4)])] w17 fun e40 w39 =>
 e40 = .returned (.tuple #[]) ∧
 (K 0 w39))
 (∃ (J41 : World → Prop),
 (∀ (w42 : World), J41 w42 →
 AddrK o1 fun b43 =>
 ∃ (a44 : Option Addr) (l44 : Nat) (c44 : Nat), w42.cell? (b43.add 9) = some (.slice a44 l44 c44) ∧
 (AllocK w42 (#[(.int .i64 x2), (.int .i64 x3), (.int .i64 x4)]) 104 fun b45 w46 =>
 ∃ (a47 : Option Addr), ∃ (l47 : Nat), ∃ (c47 : Nat), ∃ (w48 : World), Sem.run Tryz.prog (Builtin.append_ #[47, 47] 47 #[(.slice a44 l44 c44), (.slice (some b45) 1 1)]) w46 = .ok (.slice a47 l47 c47) w48 ∧
 (AddrK o1 fun b49 =>
 SetK w48 (b49.add 9) (.slice a47 l47 c47) fun w50 =>
 K 0 w50))) ∧
 (Calls Tryz.prog 65 #[(.pointer o1), (.int .i64 x2), (.int .i64 x4)] w17 fun e53 w52 =>
 ∃ (p51 : Bool), e53 = .returned (.bool p51) ∧
 (BoolK (!p51)
 (AddrK o5 fun b54 =>
 ∃ (x55 : Int), w52.cell? b54 = some (.int .i64 x55) ∧
 (Calls Tryz.prog 60 #[(.pointer o1), (.int .i64 x2), (.int .i64 x55), (.string (⟨#[109, 111, 114, 101]⟩ : ByteArray)), (.int .i64 x4), (.int .i64 0)] w52 fun e57 w56 =>
 e57 = .returned (.tuple #[]) ∧
 (J41 w56)))
 (J41 w52))))))))))) ∧
 (BoolK o5.isNone
 (K 5 w15)
 (AddrK o5 fun b58 =>
 ∃ (x59 : Int), w15.cell? b58 = some (.int .i64 x59) ∧
 (BoolK ((x2 : Int) != x59)
 (AddrK o1 fun b60 =>
 ∃ (a61 : Option Addr) (l61 : Nat) (c61 : Nat), w15.cell? (b60.add 5) = some (.slice a61 l61 c61) ∧
 ((0 ≤ (x2 : Int) ∧ (x2 : Int) < (l61 : Nat)) ∧
 AddrK a61 fun b62 =>
 ∃ (a63 : Option Addr) (l63 : Nat) (c63 : Nat), w15.cell? (b62.add ((x2 : Int).toNat * 1)) = some (.slice a63 l63 c63) ∧
 ((0 ≤ (IntKind.wrap .i64 (x4 - 1) : Int) ∧ (IntKind.wrap .i64 (x4 - 1) : Int) < (l63 : Nat)) ∧
 AddrK a63 fun b64 =>
 ∃ (x65 : Int), w15.cell? (b64.add ((IntKind.wrap .i64 (x4 - 1) : Int).toNat * 1)) = some (.int .i64 x65) ∧
 (BoolK ((x65 : Int) == 0)
 (K 5 w15)
 (J16 w15)))))
 (J16 w15))))) ∧
 (BoolK (!o5.isNone)
 (AddrK o5 fun b66 =>
 ∃ (x67 : Int), w12.cell? b66 = some (.int .i64 x67) ∧
 (BoolK ((x2 : Int) == x67)
 (Calls Tryz.prog 63 #[(.pointer o1), (.int .i64 x4)] w12 fun e70 w69 =>
 ∃ (s68 : ByteArray), e70 = .returned (.string s68) ∧
 (BoolK (!((s68 : ByteArray).toList == ((⟨#[108, 105, 118, 101]⟩ : ByteArray) : ByteArray).toList))
 (K 200 w69)
 (J14 w69)))
 (J14 w12)))
 (J14 w12)))))))
def ann26 : Ann := (.two .nil (.two .nil (.two (.two .nil (.two (.two .nil .nil) .nil)) (.cut [] [0, 1, 2, 3, 9] (.two .nil (.two (.two .nil .nil) .nil)) (.cut [] [0, 1, 2, 3, 9] (.two .nil (.two (.two .nil .nil) .nil)) (.two (.two .nil (.two (.two .nil .nil) .nil)) (.two (.two .nil (.two (.two (.anyC 20 (.take 0 (.take 1 (.take 2 (.take 3 (.take 4 (.take 5 (.take 6 (.take 7 (.take 8 (.take 9 (.take 10 (.take 11 (.take 12 (.take 13 (.take 14 (.take 15 (.one 16 (.take 17 (.take 18 (.one 19 .done))))))))))))))))))))) (.two .nil (.two .nil .nil))) .nil)) (.two (.two .nil (.two (.two .nil (.two .nil .nil)) .nil)) (.cut [] [0, 1, 2, 3] (.two .nil (.two .nil .nil)) (.two .nil (.two .nil .nil)))))))))))
noncomputable def code26 : Code := match Tryz.f26.body with | some c => c | none => .skip
theorem wp26 (o1 : Option Addr) (x2 : Int) (x3 : Int) (x4 : Int) (K : Int → World → Prop) (w : World) : WP Tryz.prog tab code26 ann26 (fnQ tab Tryz.f26.results.toList [(.one (.int .i64))] K) (argE 0 [(.pointer o1), (.int .i64 x2), (.int .i64 x3), (.int .i64 x4)]) w = N26 o1 x2 x3 x4 K w := by kernel_rfl
theorem calls26 (o1 : Option Addr) (x2 : Int) (x3 : Int) (x4 : Int) (K : Int → World → Prop) (w : World) (h : N26 o1 x2 x3 x4 K w) : Calls Tryz.prog 26 #[(.pointer o1), (.int .i64 x2), (.int .i64 x3), (.int .i64 x4)] w fun en w' => ∃ (x71 : Int), en = .returned (.int .i64 x71) ∧ K x71 w' :=
 have e : (fun en w' => ExShs [(.one (.int .i64))] fun vs => en = .returned (tupled vs) ∧ ap [(.one (.int .i64))] K vs fun p => p w') = (fun (en : Ending) (w' : World) => ∃ (x71 : Int), en = .returned (.int .i64 x71) ∧ K x71 w') := by kernel_rfl
 e ▸ fn_sound tabOk mixed Tryz.func26 (by kernel_rfl : Tryz.f26.body = some code26) ann26 [(.pointer o1), (.int .i64 x2), (.int .i64 x3), (.int .i64 x4)] [(.one (.int .i64))] K w (by kernel_rfl) ((wp26 o1 x2 x3 x4 K w).symm ▸ h)
end Go.Proofs.YtgggbmikmmljcaaGreat

namespace Go.Proofs.YtgggbmikmmljcaaGreat
open Go Go.V Go.Proofs
open Go.RowKit (Below)
/-! (*manystrand/manystrandref27.Count).Hold -/
def N29 (o1 : Option Addr) (x2 : Int) (x3 : Int) (K : Int → World → Prop) (w : World) : Prop :=
 Calls Tryz.prog 59 #[(.pointer o1), (.int .i64 x2)] w fun e6 w5 =>
 ∃ (o4 : Option Addr), e6 = .returned (.pointer o4) ∧
 (Calls Tryz.prog 59 #[(.pointer o1), (.int .i64 x3)] w5 fun e9 w8 =>
 ∃ (o7 : Option Addr), e9 = .returned (.pointer o7) ∧
 (BoolK o4.isNone
 (K 5 w8)
 (BoolK o7.isNone
 (K 5 w8)
 (∃ (J10 : World → Prop),
 (∀ (w11 : World), J10 w11 →
 ∃ (J12 : World → Prop),
 (∀ (w13 : World), J12 w13 →
 AddrK o4 fun b14 =>
 ∃ (a15 : Option Addr) (l15 : Nat) (c15 : Nat), w13.cell? (b14.add 6) = some (.slice a15 l15 c15) ∧
 (Calls Tryz.prog 69 #[(.slice a15 l15 c15), (.int .i64 x3)] w13 fun e18 w17 =>
 ∃ (p16 : Bool), e18 = .returned (.bool p16) ∧
 (BoolK (!p16)
 (AllocK w17 (#[]) 3 fun b19 w20 =>
 AddrK o4 fun b21 =>
 ∃ (a22 : Option Addr) (l22 : Nat) (c22 : Nat), w20.cell? (b21.add 6) = some (.slice a22 l22 c22) ∧
 (∃ (a23 : Option Addr), ∃ (l23 : Nat), ∃ (c23 : Nat), ∃ (w24 : World), Sem.run Tryz.prog (Builtin.append_ #[43, 43] 43 #[(.slice (some b19) 0 0), (.slice a22 l22 c22)]) w20 = .ok (.slice a23 l23 c23) w24 ∧
 (AllocK w24 (#[(.int .i64 x3)]) 3 fun b25 w26 =>
 ∃ (a27 : Option Addr), ∃ (l27 : Nat), ∃ (c27 : Nat), ∃ (w28 : World), Sem.run Tryz.prog (Builtin.append_ #[43, 43] 43 #[(.slice a23 l23 c23), (.slice (some b25) 1 1)]) w26 = .ok (.slice a27 l27 c27) w28 ∧
 (AddrK o4 fun b29 =>
 SetK w28 (b29.add 6) (.slice a27 l27 c27) fun w30 =>
 AddrK o1 fun b31 =>
 ∃ (a32 : Option Addr) (l32 : Nat) (c32 : Nat), w30.cell? (b31.add 10) = some (.slice a32 l32 c32) ∧
 (Calls Tryz.prog 70 #[(.slice a32 l32 c32), (.agg #[(.int .i64 x2), (.int .i64 x3)])] w30 fun e35 w34 =>
 ∃ (a33 : Option Addr), ∃ (l33 : Nat), ∃ (c33 : Nat), e35 = .returned (.slice a33 l33 c33) ∧
 (AddrK o1 fun b36 =>
 SetK w34 (b36.add 10) (.slice a33 l33 c33) fun w37 =>
 K 0 w37))))))
 (K 0 w17)))) ∧
 (DrewK w11 fun w38 =>
 Calls Tryz.prog 63 #[(.pointer o1), (.int .i64 x2)] w38 fun e41 w40 =>
 ∃ (s39 : ByteArray), e41 = .returned (.string s39) ∧
 (Cel w38 w40 ∧
 (BoolK (!((s39 : ByteArray).toList == ((⟨#[108, 105, 118, 101]⟩ : ByteArray) : ByteArray).toList))
 ((K 200 w40) ∧
 (K 200 w40))
 (AddrK o7 fun b42 =>
 AddrK o4 fun b43 =>
 (∃ (x44 : Int), w40.cell? b42 = some (.int .i64 x44) ∧
 (∃ (x45 : Int), w40.cell? b43 = some (.int .i64 x45) ∧
 (BoolK ((x44 : Int) == x45)
 (Calls Tryz.prog 63 #[(.pointer o1), (.int .i64 x3)] w40 fun e48 w47 =>
 ∃ (s46 : ByteArray), e48 = .returned (.string s46) ∧
 (BoolK (!((s46 : ByteArray).toList == ((⟨#[108, 105, 118, 101]⟩ : ByteArray) : ByteArray).toList))
 (K 200 w47)
 (J12 w47)))
 (J12 w40)))) ∧
 (∃ (x49 : Int), w40.cell? b43 = some (.int .i64 x49) ∧
 (∃ (x50 : Int), w40.cell? b42 = some (.int .i64 x50) ∧
 (BoolK ((x50 : Int) == x49)
 (Calls Tryz.prog 63 #[(.pointer o1), (.int .i64 x3)] w40 fun e53 w52 =>
 ∃ (s51 : ByteArray), e53 = .returned (.string s51) ∧
 (BoolK (!((s51 : ByteArray).toList == ((⟨#[108, 105, 118, 101]⟩ : ByteArray) : ByteArray).toList))
 (K 200 w52)
 (J12 w52)))
 (J12 w40))))))))) ∧
 (DrewK w8 fun w54 =>
 AddrK o7 fun b55 =>
 ∃ (x56 : Int), w54.cell? b55 = some (.int .i64 x56) ∧
 (AddrK o4 fun b57 =>
 ∃ (x58 : Int), w54.cell? b57 = some (.int .i64 x58) ∧
 (BoolK ((x56 : Int) != x58)
 (AddrK o1 fun b59 =>
 ∃ (a60 : Option Addr) (l60 : Nat) (c60 : Nat), w54.cell? (b59.add 5) = some (.slice a60 l60 c60) ∧
 (AddrK o4 fun b61 =>
 ∃ (x62 : Int), w54.cell? b61 = some (.int .i64 x62) ∧
 ((0 ≤ (x62 : Int) ∧ (x62 : Int) < (l60 : Nat)) ∧
 AddrK a60 fun b63 =>
 ∃ (a64 : Option Addr) (l64 : Nat) (c64 : Nat), w54.cell? (b63.add ((x62 : Int).toNat * 1)) = some (.slice a64 l64 c64) ∧
 ((0 ≤ (IntKind.wrap .i64 (x3 - 1) : Int) ∧ (IntKind.wrap .i64 (x3 - 1) : Int) < (l64 : Nat)) ∧
 AddrK a64 fun b65 =>
 ∃ (x66 : Int), w54.cell? (b65.add ((IntKind.wrap .i64 (x3 - 1) : Int).toNat * 1)) = some (.int .i64 x66) ∧
 (BoolK ((x66 : Int) == 0)
 (K 5 w54)
 (J10 w54))))))
 (J10 w54))))))))
def ann29 : Ann := (.two .nil (.two .nil (.two (.two .nil (.two (.two .nil .nil) .nil)) (.cut [] [0, 1, 2, 7, 8] (.two (.anyC 26 (.take 0 (.take 1 (.take 2 (.take 3 (.take 4 (.take 5 (.take 6 (.take 7 (.take 8 (.take 9 (.take 10 (.take 11 (.take 12 (.take 13 (.take 14 (.take 15 (.take 16 (.take 17 (.take 18 (.take 19 (.take 20 (.take 21 (.take 22 (.take 23 (.take 24 (.take 25 .done))))))))))))))))))))))))))) (.two (.two .nil .nil) .nil)) (.cut [] [0, 1, 2, 7] (.two (.anyC 17 (.take 0 (.take 1 (.one 2 (.take 3 (.take 4 (.take 5 (.take 6 (.take 7 (.take 9 (.take 10 (.take 11 (.both 8 (.one 12 (.take 13 (.take 14 (.take 15 (.take 16 .done))))) (.one 12 (.one 8 (.take 13 (.take 14 (.take 15 (.take 16 .done))))))))))))))))))) (.two (.two .nil .nil) .nil)) (.two (.two .nil (.two (.two .nil .nil) .nil)) (.two .nil .nil)))))))
noncomputable def code29 : Code := match Tryz.f29.body with | some c => c | none => .skip
theorem wp29 (o1 : Option Addr) (x2 : Int) (x3 : Int) (K : Int → World → Prop) (w : World) : WP Tryz.prog tab code29 ann29 (fnQ tab Tryz.f29.results.toList [(.one (.int .i64))] K) (argE 0 [(.pointer o1), (.int .i64 x2), (.int .i64 x3)]) w = N29 o1 x2 x3 K w := by kernel_rfl
theorem calls29 (o1 : Option Addr) (x2 : Int) (x3 : Int) (K : Int → World → Prop) (w : World) (h : N29 o1 x2 x3 K w) : Calls Tryz.prog 29 #[(.pointer o1), (.int .i64 x2), (.int .i64 x3)] w fun en w' => ∃ (x67 : Int), en = .returned (.int .i64 x67) ∧ K x67 w' :=
 have e : (fun en w' => ExShs [(.one (.int .i64))] fun vs => en = .returned (tupled vs) ∧ ap [(.one (.int .i64))] K vs fun p => p w') = (fun (en : Ending) (w' : World) => ∃ (x67 : Int), en = .returned (.int .i64 x67) ∧ K x67 w') := by kernel_rfl
 e ▸ fn_sound tabOk mixed Tryz.func29 (by kernel_rfl : Tryz.f29.body = some code29) ann29 [(.pointer o1), (.int .i64 x2), (.int .i64 x3)] [(.one (.int .i64))] K w (by kernel_rfl) ((wp29 o1 x2 x3 K w).symm ▸ h)
end Go.Proofs.YtgggbmikmmljcaaGreat

namespace Go.Proofs.YtgggbmikmmljcaaGreat
open Go Go.V Go.Proofs
open Go.RowKit (Below)
/-! (*manystrand/manystrandref27.Count).Loose -/
def N31 (o1 : Option Addr) (x2 : Int) (x3 : Int) (K : Int → World → Prop) (w : World) : Prop :=
 Calls Tryz.prog 59 #[(.pointer o1), (.int .i64 x2)] w fun e6 w5 =>
 ∃ (o4 : Option Addr), e6 = .returned (.pointer o4) ∧
 (BoolK o4.isNone
 (K 5 w5)
 (AddrK o4 fun b7 =>
 ∃ (a8 : Option Addr) (l8 : Nat) (c8 : Nat), w5.cell? (b7.add 6) = some (.slice a8 l8 c8) ∧
 (Calls Tryz.prog 69 #[(.slice a8 l8 c8), (.int .i64 x3)] w5 fun e11 w10 =>
 ∃ (p9 : Bool), e11 = .returned (.bool p9) ∧
 (BoolK (!p9)
 (K 5 w10)
 (∃ (I12 : Option Addr → Nat → Nat → Int → World → Prop) (μ13 : Option Addr → Nat → Nat → Int → World → Nat),
 (I12 none 0 0 0 w10 ∧ True) ∧
 ∀ (w14 : World) (a15 : Option Addr) (l15 : Nat) (c15 : Nat) (x16 : Int), I12 a15 l15 c15 x16 w14 →
 AddrK o4 fun b17 =>
 ∃ (a18 : Option Addr) (l18 : Nat) (c18 : Nat), w14.cell? (b17.add 6) = some (.slice a18 l18 c18) ∧
 (BoolK (decide ((x16 : Int) < (l18 : Nat)))
 (AddrK o4 fun b19 =>
 ∃ (a20 : Option Addr) (l20 : Nat) (c20 : Nat), w14.cell? (b19.add 6) = some (.slice a20 l20 c20) ∧
 ((0 ≤ (x16 : Int) ∧ (x16 : Int) < (l20 : Nat)) ∧
 AddrK a20 fun b21 =>
 ∃ (x22 : Int), w14.cell? (b21.add ((x16 : Int).toNat * 1)) = some (.int .i64 x22) ∧
 (BoolK ((x22 : Int) != x3)
 (AddrK o4 fun b23 =>
 ∃ (a24 : Option Addr) (l24 : Nat) (c24 : Nat), w14.cell? (b23.add 6) = some (.slice a24 l24 c24) ∧
 ((0 ≤ (x16 : Int) ∧ (x16 : Int) < (l24 : Nat)) ∧
 AddrK a24 fun b25 =>
 ∃ (x26 : Int), w14.cell? (b25.add ((x16 : Int).toNat * 1)) = some (.int .i64 x26) ∧
 (AllocK w14 (#[(.int .i64 x26)]) 3 fun b27 w28 =>
 ∃ (a29 : Option Addr), ∃ (l29 : Nat), ∃ (c29 : Nat), ∃ (w30 : World), Sem.run Tryz.prog (Builtin.append_ #[43, 43] 43 #[(.slice a15 l15 c15), (.slice (some b27) 1 1)]) w28 = .ok (.slice a29 l29 c29) w30 ∧
 (I12 a29 l29 c29 (IntKind.wrap .i64 (x16 + 1)) w30 ∧ μ13 a29 l29 c29 (IntKind.wrap .i64 (x16 + 1)) w30 < μ13 a15 l15 c15 x16 w14))))
 (I12 a15 l15 c15 (IntKind.wrap .i64 (x16 + 1)) w14 ∧ μ13 a15 l15 c15 (IntKind.wrap .i64 (x16 + 1)) w14 < μ13 a15 l15 c15 x16 w14))))
 (AddrK o4 fun b31 =>
 SetK w14 (b31.add 6) (.slice a15 l15 c15) fun w32 =>
 K 0 w32)))))))
def ann31 : Ann := (.two .nil (.two .nil (.two (.two .nil (.two (.two .nil .nil) .nil)) (.two .nil (.two (.two .nil (.one (.loop [(8, (.one .slice)), (9, (.one (.int .i64)))] [2, 7] (.two (.two .nil (.two .nil .nil)) (.two (.one (.two .nil (.two .nil .nil))) .nil))))) (.two .nil (.two .nil .nil)))))))
noncomputable def code31 : Code := match Tryz.f31.body with | some c => c | none => .skip
theorem wp31 (o1 : Option Addr) (x2 : Int) (x3 : Int) (K : Int → World → Prop) (w : World) : WP Tryz.prog tab code31 ann31 (fnQ tab Tryz.f31.results.toList [(.one (.int .i64))] K) (argE 0 [(.pointer o1), (.int .i64 x2), (.int .i64 x3)]) w = N31 o1 x2 x3 K w := by kernel_rfl
theorem calls31 (o1 : Option Addr) (x2 : Int) (x3 : Int) (K : Int → World → Prop) (w : World) (h : N31 o1 x2 x3 K w) : Calls Tryz.prog 31 #[(.pointer o1), (.int .i64 x2), (.int .i64 x3)] w fun en w' => ∃ (x33 : Int), en = .returned (.int .i64 x33) ∧ K x33 w' :=
 have e : (fun en w' => ExShs [(.one (.int .i64))] fun vs => en = .returned (tupled vs) ∧ ap [(.one (.int .i64))] K vs fun p => p w') = (fun (en : Ending) (w' : World) => ∃ (x33 : Int), en = .returned (.int .i64 x33) ∧ K x33 w') := by kernel_rfl
 e ▸ fn_sound tabOk mixed Tryz.func31 (by kernel_rfl : Tryz.f31.body = some code31) ann31 [(.pointer o1), (.int .i64 x2), (.int .i64 x3)] [(.one (.int .i64))] K w (by kernel_rfl) ((wp31 o1 x2 x3 K w).symm ▸ h)
end Go.Proofs.YtgggbmikmmljcaaGreat

namespace Go.Proofs.YtgggbmikmmljcaaGreat
open Go Go.V Go.Proofs
open Go.RowKit (Below)
/-! (*manystrand/manystrandref27.Count).Tick -/
def N36 (o1 : Option Addr) (x2 : Int) (K : Int → World → Prop) (w : World) : Prop :=
 Calls Tryz.prog 58 #[(.pointer o1), (.int .i64 x2)] w fun e5 w4 =>
 ∃ (p3 : Bool), e5 = .returned (.bool p3) ∧
 (BoolK (!p3)
 (K 2 w4)
 (AddrK o1 fun b6 =>
 ∃ (a7 : Option Addr) (l7 : Nat) (c7 : Nat), w4.cell? (b6.add 3) = some (.slice a7 l7 c7) ∧
 ((0 ≤ (x2 : Int) ∧ (x2 : Int) < (l7 : Nat)) ∧
 AddrK a7 fun b8 =>
 ∃ (x9 : Int), w4.cell? (b8.add ((x2 : Int).toNat * 1)) = some (.int .i64 x9) ∧
 ((0 ≤ (x2 : Int) ∧ (x2 : Int) < (l7 : Nat)) ∧
 AddrK a7 fun b10 =>
 SetK w4 (b10.add ((x2 : Int).toNat * 1)) (.int .i64 (IntKind.wrap .i64 (x9 + 1))) fun w11 =>
 ∃ (I12 : Int → World → Prop) (μ13 : Int → World → Nat),
 (I12 0 w11 ∧ True) ∧
 ∀ (w14 : World) (x15 : Int), I12 x15 w14 →
 AddrK o1 fun b16 =>
 ∃ (a17 : Option Addr) (l17 : Nat) (c17 : Nat), w14.cell? (b16.add 4) = some (.slice a17 l17 c17) ∧
 (BoolK (decide ((x15 : Int) < (l17 : Nat)))
 (AddrK o1 fun b18 =>
 ∃ (a19 : Option Addr) (l19 : Nat) (c19 : Nat), w14.cell? (b18.add 5) = some (.slice a19 l19 c19) ∧
 ((0 ≤ (x2 : Int) ∧ (x2 : Int) < (l19 : Nat)) ∧
 AddrK a19 fun b20 =>
 ∃ (a21 : Option Addr) (l21 : Nat) (c21 : Nat), w14.cell? (b20.add ((x2 : Int).toNat * 1)) = some (.slice a21 l21 c21) ∧
 ((0 ≤ (x15 : Int) ∧ (x15 : Int) < (l21 : Nat)) ∧
 AddrK a21 fun b22 =>
 ∃ (x23 : Int), w14.cell? (b22.add ((x15 : Int).toNat * 1)) = some (.int .i64 x23) ∧
 (BoolK (decide ((x23 : Int) > 0))
 (AddrK o1 fun b24 =>
 ∃ (a25 : Option Addr) (l25 : Nat) (c25 : Nat), w14.cell? (b24.add 4) = some (.slice a25 l25 c25) ∧
 ((0 ≤ (x15 : Int) ∧ (x15 : Int) < (l25 : Nat)) ∧
 AddrK a25 fun b26 =>
 ∃ (x27 : Int), w14.cell? (b26.add ((x15 : Int).toNat * 7)) = some (.int .i64 x27) ∧
 (Calls Tryz.prog 60 #[(.pointer o1), (.int .i64 x2), (.int .i64 x27), (.string (⟨#[114, 101, 110, 101, 119]⟩ : ByteArray)), (.int .i64 (IntKind.wrap .i64 (x15 + 1))), (.int .i64 0)] w14 fun e29 w28 =>
 e29 = .returned (.tuple #[]) ∧
 (I12 (IntKind.wrap .i64 (x15 + 1)) w28 ∧ μ13 (IntKind.wrap .i64 (x15 + 1)) w28 < μ13 x15 w14))))
 (I12 (IntKind.wrap .i64 (x15 + 1)) w14 ∧ μ13 (IntKind.wrap .i64 (x15 + 1)) w14 < μ13 x15 w14)))))
 (∃ (I30 : Int → World → Prop) (μ31 : Int → World → Nat),
 (I30 0 w14 ∧ True) ∧
 ∀ (w32 : World) (x33 : Int), I30 x33 w32 →
 AddrK o1 fun b34 =>
 ∃ (a35 : Option Addr) (l35 : Nat) (c35 : Nat), w32.cell? (b34.add 4) = some (.slice a35 l35 c35) ∧
 (BoolK (decide ((x33 : Int) < (l35 : Nat)))
 (AddrK o1 fun b36 =>
 ∃ (a37 : Option Addr) (l37 : Nat) (c37 : Nat), w32.cell? (b36.add 4) = some (.slice a37 l37 c37) ∧
 ((0 ≤ (x33 : Int) ∧ (x33 : Int) < (l37 : Nat)) ∧
 AddrK a37 fun b38 =>
 DrewK w32 fun w39 =>
 ∃ (x40 : Int), w39.cell? (b38.add ((x33 : Int).toNat * 7)) = some (.int .i64 x40) ∧
 (BoolK ((x40 : Int) == x2)
 (∃ (x41 : Int), w39.cell? ((b38.add ((x33 : Int).toNat * 7)).add 1) = some (.int .i64 x41) ∧
 (BoolK (decide ((x41 : Int) > 0))
 (AddrK o1 fun b42 =>
 ∃ (a43 : Option Addr) (l43 : Nat) (c43 : Nat), w39.cell? (b42.add 3) = some (.slice a43 l43 c43) ∧
 ((0 ≤ (x2 : Int) ∧ (x2 : Int) < (l43 : Nat)) ∧
 AddrK a43 fun b44 =>
 ∃ (x45 : Int), w39.cell? (b44.add ((x2 : Int).toNat * 1)) = some (.int .i64 x45) ∧
 (∃ (x46 : Int), w39.cell? ((b38.add ((x33 : Int).toNat * 7)).add 2) = some (.int .i64 x46) ∧
 (AddrK o1 fun b47 =>
 ∃ (x48 : Int), w39.cell? (b47.add 1) = some (.int .i64 x48) ∧
 (AddrK o1 fun b49 =>
 ∃ (x50 : Int), w39.cell? (b49.add 2) = some (.int .i64 x50) ∧
 (BoolK (decide ((IntKind.wrap .i64 (x45 - x46) : Int) ≥ IntKind.wrap .i64 (x48 + x50)))
 (SetK w39 ((b38.add ((x33 : Int).toNat * 7)).add 4) (.bool true) fun w51 =>
 I30 (IntKind.wrap .i64 (x33 + 1)) w51 ∧ μ31 (IntKind.wrap .i64 (x33 + 1)) w51 < μ31 x33 w32)
 (I30 (IntKind.wrap .i64 (x33 + 1)) w39 ∧ μ31 (IntKind.wrap .i64 (x33 + 1)) w39 < μ31 x33 w32)))))))
 (I30 (IntKind.wrap .i64 (x33 + 1)) w39 ∧ μ31 (IntKind.wrap .i64 (x33 + 1)) w39 < μ31 x33 w32)))
 (I30 (IntKind.wrap .i64 (x33 + 1)) w39 ∧ μ31 (IntKind.wrap .i64 (x33 + 1)) w39 < μ31 x33 w32))))
 (K 0 w32))))))))
def ann36 : Ann := (.two .nil (.two (.two .nil (.two (.two .nil .nil) .nil)) (.two .nil (.two (.two .nil (.one (.loop [(5, (.one (.int .i64)))] [0, 1] (.two (.two .nil (.two .nil .nil)) (.two (.one (.two .nil (.two .nil .nil))) .nil))))) (.two (.two .nil (.one (.loop [(6, (.one (.int .i64)))] [0, 1] (.two (.two .nil (.two .nil .nil)) (.two (.one (.two .nil (.two (.anyC 37 (.take 0 (.take 1 (.take 2 (.take 3 (.take 4 (.take 5 (.take 6 (.take 7 (.take 8 (.take 9 (.take 10 (.take 11 (.take 12 (.take 13 (.take 14 (.take 15 (.take 16 (.take 17 (.take 18 (.take 19 (.take 20 (.take 21 (.take 22 (.take 23 (.take 24 (.take 25 (.take 26 (.take 27 (.take 28 (.take 29 (.take 30 (.take 31 (.take 32 (.take 33 (.take 34 (.take 35 (.take 36 .done)))))))))))))))))))))))))))))))))))))) (.two .nil .nil)))) .nil))))) (.two .nil .nil))))))
noncomputable def code36 : Code := match Tryz.f36.body with | some c => c | none => .skip
theorem wp36 (o1 : Option Addr) (x2 : Int) (K : Int → World → Prop) (w : World) : WP Tryz.prog tab code36 ann36 (fnQ tab Tryz.f36.results.toList [(.one (.int .i64))] K) (argE 0 [(.pointer o1), (.int .i64 x2)]) w = N36 o1 x2 K w := by kernel_rfl
theorem calls36 (o1 : Option Addr) (x2 : Int) (K : Int → World → Prop) (w : World) (h : N36 o1 x2 K w) : Calls Tryz.prog 36 #[(.pointer o1), (.int .i64 x2)] w fun en w' => ∃ (x52 : Int), en = .returned (.int .i64 x52) ∧ K x52 w' :=
 have e : (fun en w' => ExShs [(.one (.int .i64))] fun vs => en = .returned (tupled vs) ∧ ap [(.one (.int .i64))] K vs fun p => p w') = (fun (en : Ending) (w' : World) => ∃ (x52 : Int), en = .returned (.int .i64 x52) ∧ K x52 w') := by kernel_rfl
 e ▸ fn_sound tabOk mixed Tryz.func36 (by kernel_rfl : Tryz.f36.body = some code36) ann36 [(.pointer o1), (.int .i64 x2)] [(.one (.int .i64))] K w (by kernel_rfl) ((wp36 o1 x2 K w).symm ▸ h)
end Go.Proofs.YtgggbmikmmljcaaGreat

namespace Go.Proofs.YtgggbmikmmljcaaGreat
open Go Go.V Go.Proofs
open Go.RowKit (Below)
section
variable {κ κ' κ1 κ2 κ3 : Ka RK} {N N' : Prm} {r : Rb} {w w' w2 w0 : World}
def Prm.addP (N : Prm) : Prm := { N with p := N.p + 1, f := N.f + 1 }
def Prm.addH (N : Prm) : Prm := { N with h := N.h + 1, o := N.o + 1 }
theorem Prm.le_addP (N : Prm) : N.Le N.addP := ⟨rfl, rfl, Nat.le_succ _, Nat.le_refl _, Nat.le_refl _, Nat.le_succ _⟩
theorem Prm.le_addFP (N : Prm) : (N.addF 1).Le N.addP := ⟨rfl, rfl, Nat.le_succ _, Nat.le_refl _, Nat.le_refl _, Nat.le_refl _⟩
def Prm.addH1 (N : Prm) : Prm := { N with h := N.h + 1 }
theorem Prm.le_addH1 (N : Prm) : N.Le N.addH1 := ⟨rfl, rfl, Nat.le_refl _, Nat.le_refl _, Nat.le_succ _, Nat.le_refl _⟩
theorem Prm.le_addH2 (N : Prm) : N.addH1.Le N.addH := ⟨rfl, rfl, Nat.le_refl _, Nat.le_succ _, Nat.le_refl _, Nat.le_refl _⟩
theorem Prm.le_addH (N : Prm) : N.Le N.addH := ⟨rfl, rfl, Nat.le_refl _, Nat.le_succ _, Nat.le_succ _, Nat.le_refl _⟩
theorem c26 (h : RR κ N r w) (x y z : Int) (hp : N.p + 1 ≤ 1000) (hf : N.f + 1 ≤ 10000000) :
    Calls Tryz.prog 26 #[rp r, .int .i64 x, .int .i64 y, .int .i64 z] w fun en w' => ∃ e, en = .returned (.int .i64 e) ∧ PostR κ N.addP r w w' := by
  refine calls26 _ _ _ _ (fun _ w' => PostR κ N.addP r w w') w ?_
  have lim : N.addP.p ≤ 1000 ∧ N.addP.o ≤ 1000 ∧ N.addP.h ≤ 1000 ∧ N.addP.f ≤ 10000000 := ⟨hp, h.ln.2.2.1, h.ln.2.2.2.1, hf⟩
  have done : ∀ {κ1 : Ka RK} {w1 : World}, RR κ1 N r w1 → PkR κ κ1 w w1 → PostR κ N.addP r w w1 := fun h1 p1 => PostR.mk (h1.grow N.le_addP lim) p1
  have done1 : ∀ {κ1 : Ka RK} {w1 w2 : World}, PkR κ κ1 w w1 → PostR κ1 (N.addF 1) r w1 w2 → PostR κ N.addP r w w2 := fun p1 q => (q.trans p1).grow N.le_addFP lim
  have same : ∀ w1, w = w1 → PostR κ N.addP r w w1 := by rintro _ rfl; exact done h (Pk.refl _ _ _)
  refine (c59 h z).mono ?_
  rintro en w6 ⟨o, rfl, rfl, ho⟩
  refine ⟨_, rfl, (c58 h x).mono ?_⟩
  rintro en w9 ⟨p, rfl, hpx, rfl⟩
  refine ⟨_, rfl, BoolK.mk (fun _ => same _ rfl) (fun tx => ?_)⟩
  refine (c58 h y).mono ?_
  rintro en w12 ⟨p, rfl, hpy, rfl⟩
  refine ⟨_, rfl, BoolK.mk (fun _ => same _ rfl) (fun ty => ?_)⟩
  have hx : N.isS x := by rw [hpx] at tx; simpa using tx
  have hy : N.isS y := by rw [hpy] at ty; simpa using ty
  have State : ∀ {F : World → Prop}, (∀ w', RR κ N r w' → PkR κ κ w12 w' → F w') → Calls Tryz.prog 63 #[rp r, .int .i64 z] w12 fun en w' => ∃ s, en = .returned (.string s) ∧ F w' := fun f =>
    (c63 h z).mono fun en w' ⟨s, e, hx⟩ => ⟨s, e, f w' (h.ext hx) (h.pkExt hx)⟩
  refine ⟨fun w' => RR κ N r w' ∧ PkR κ κ w12 w', ?_, ?_⟩
  rotate_left
  · -- is its owner's thing live?
    refine BoolK.mk (fun t => ?_) (fun _ => ⟨h, Pk.refl _ _ _⟩)
    rcases ho with ⟨_, rfl⟩ | ⟨hT, g, q, m, u, rfl, hk, hu⟩
    · cases t
    obtain ⟨_, c0, y0, rfl, hS0⟩ := ThP.cell hk hu h (j := 0) (by omega)
    refine ⟨y0, c0, BoolK.mk (fun _ => ?_) (fun _ => ⟨h, Pk.refl _ _ _⟩)⟩
    refine (c63 h z).mono fun en w' ⟨s, e, hx⟩ => ⟨s, e, BoolK.mk (fun _ => done (h.ext hx) (h.pkExt hx)) (fun _ => ⟨h.ext hx, h.pkExt hx⟩)⟩
  rintro w15 ⟨h15, p15⟩
  refine ⟨fun w' => w15 = w' ∧ (o.isNone = false), ?_, ?_⟩
  rotate_left
  · refine BoolK.mk (fun _ => done h15 p15) (fun t => ?_)
    rcases ho with ⟨_, rfl⟩ | ⟨hT, g, q, m, u, rfl, hk, hu⟩
    · cases t
    obtain ⟨_, c0, y0, rfl, hS0⟩ := ThP.cell hk hu h15 (j := 0) (by omega)
    refine ⟨y0, c0, BoolK.mk (fun _ => ?_) (fun _ => ⟨rfl, rfl⟩)⟩
    exact h15.rdW hx hT fun v => BoolK.mk (fun _ => done h15 p15) (fun _ => ⟨rfl, rfl⟩)
  rintro _ ⟨rfl, ton⟩
  refine BoolK.mk (fun _ => done h15 p15) (fun _ => ?_)
  rcases ho with ⟨_, rfl⟩ | ⟨hT, g, q, m, u, rfl, hk, hu⟩
  · cases ton
  obtain ⟨_, c0, y0, rfl, hS0⟩ := ThP.cell hk hu h15 (j := 0) (by omega)
  refine ⟨y0, c0, BoolK.mk (fun _ => ?_) (fun _ => ?_)⟩
  · -- the owner passes
    refine h15.drew fun w20 h20 hx20 p20 => ?_
    obtain ⟨_, d1, y1, rfl⟩ := ThP.cell hk hu h20 (j := 1) (by omega)
    obtain ⟨a3, c3, hc3, hs3⟩ := h20.c3
    obtain ⟨g3, o3, y3, rfl, hy3⟩ := clkAt h20 hs3 hx
    refine ⟨y1, by rw [add_mk]; exact d1, _, _, _, hc3, hx, y3, hy3, ?_⟩
    show SetK w20 ((⟨g, q * 7, none⟩ : Addr).add 1) _ _
    rw [add_mk]
    refine ThP.set hk hu h20 (j := 1) (by omega) ⟨_, rfl⟩ fun w28 h28 p28 => ?_
    show SetK w28 ((⟨g, q * 7, none⟩ : Addr).add 2) _ _
    rw [add_mk]
    refine ThP.set hk hu h28 (j := 2) (by omega) ⟨_, rfl⟩ fun w30 h30 p30 => ?_
    refine (c60 h30 _ _ hx hy hT hf).mono ?_
    rintro en w31 ⟨rfl, q⟩
    exact ⟨rfl, done1 (((p15.trans p20).trans p28).trans p30) q⟩
  · refine h15.rdW hx hT fun v => BoolK.mk (fun _ => ?_) (fun _ => ?_)
    · refine (c64 h15 hx hy hT hf).mono ?_
      rintro en w39 ⟨rfl, q⟩
      exact ⟨rfl, done1 p15 q⟩
    · refine ⟨fun w' => ∃ κ2 d, d ≤ 1 ∧ RR κ2 (N.addF d) r w' ∧ PkR κ κ2 w12 w', ?_, ?_⟩
      · rintro w42 ⟨κ2, d, hd, h42, p42⟩
        obtain ⟨a9, l9, c9, hc9, hs9, hl9⟩ := h42.c9
        have hl9 : l9 ≤ N.p := hl9
        refine ⟨_, _, _, hc9, h42.pushP hs9 (by omega) hx hy hT fun a' c' w2 κ3 h3 hs3 p3 => ?_⟩
        have hL : (N.addF d).Le N.addP := ⟨rfl, rfl, Nat.le_succ _, Nat.le_refl _, Nat.le_refl _, by show N.f + d ≤ N.f + 1; omega⟩
        have h3' := h3.grow hL lim
        exact h3'.setSt (i := 9) (by omega) ⟨_, _, _, rfl, hs3, by show l9 + 1 ≤ N.p + 1; omega⟩ fun w50 h50 p50 => PostR.mk h50 ((p42.trans p3).trans p50)
      · refine (c65 h15 x z).mono ?_
        rintro en w52 ⟨p51, rfl, rfl⟩
        refine ⟨_, rfl, BoolK.mk (fun _ => ?_) (fun _ => ⟨κ, 0, by omega, h15, p15⟩)⟩
        refine ⟨y0, c0, (c60 h15 _ _ hx hS0 hT hf).mono ?_⟩
        rintro en w56 ⟨rfl, κ2, h56, p56⟩
        exact ⟨rfl, κ2, 1, by omega, h56, p15.trans p56⟩
theorem c29 (h : RR κ N r w) (x y : Int) (hh : N.h + 1 ≤ 1000) (ho : N.o + 1 ≤ 1000) :
    Calls Tryz.prog 29 #[rp r, .int .i64 x, .int .i64 y] w fun en w' => ∃ e, en = .returned (.int .i64 e) ∧ PostR κ N.addH r w w' := by
  refine calls29 _ _ _ (fun _ w' => PostR κ N.addH r w w') w ?_
  have lim : N.addH.p ≤ 1000 ∧ N.addH.o ≤ 1000 ∧ N.addH.h ≤ 1000 ∧ N.addH.f ≤ 10000000 := ⟨h.ln.2.1, ho, hh, h.ln.2.2.2.2⟩
  have done : ∀ {κ1 : Ka RK} {w1 : World}, RR κ1 N r w1 → PkR κ κ1 w w1 → PostR κ N.addH r w w1 := fun h1 p1 => PostR.mk (h1.grow N.le_addH lim) p1
  have same : ∀ w1, w = w1 → PostR κ N.addH r w w1 := by rintro _ rfl; exact done h (Pk.refl _ _ _)
  refine (c59 h x).mono ?_
  rintro en w6 ⟨o4, rfl, rfl, ho4⟩
  refine ⟨_, rfl, (c59 h y).mono ?_⟩
  rintro en w6 ⟨o7, rfl, rfl, ho7⟩
  refine ⟨_, rfl, BoolK.mk (fun _ => same _ rfl) (fun t4 => BoolK.mk (fun _ => same _ rfl) (fun t7 => ?_))⟩
  rcases ho4 with ⟨_, rfl⟩ | ⟨hx, g, q, m, u, rfl, hk, hu⟩
  · cases t4
  rcases ho7 with ⟨_, rfl⟩ | ⟨hy, g2, q2, m2, u2, rfl, hk2, hu2⟩
  · cases t7
  refine ⟨fun w' => RR κ N r w' ∧ PkR κ κ w6 w', ?_, ?_⟩
  rotate_left
  · refine h.drew fun w54 h54 hx54 p54 => ?_
    obtain ⟨_, c0, y0, rfl, hS0⟩ := ThP.cell hk hu h54 (j := 0) (by omega)
    obtain ⟨_, c1, y1, rfl, hS1⟩ := ThP.cell hk2 hu2 h54 (j := 0) (by omega)
    refine ⟨y1, c1, y0, c0, BoolK.mk (fun _ => ?_) (fun _ => ⟨h54, p54⟩)⟩
    obtain ⟨a, l, c, g', o', n', u', v, e1, e2, rfl, hk', hu', hc⟩ := h54.elW hS0 hy
    refine ⟨_, _, _, h54.c5, y0, c0, hS0, _, l, c, e1, e2, v, hc, BoolK.mk (fun _ => done h54 p54) (fun _ => ⟨h54, p54⟩)⟩
  rintro w11 ⟨h11, p11⟩
  refine ⟨fun w' => RR κ N r w' ∧ PkR κ κ w6 w', ?_, ?_⟩
  rotate_left
  · refine h11.drew fun w38 h38 hx38 p38 => ?_
    refine (c63 h38 x).mono ?_
    rintro en w40 ⟨s39, rfl, hx40⟩
    have h40 := h38.ext hx40
    have p40 := (p11.trans p38).trans (h38.pkExt hx40)
    refine ⟨_, rfl, Below.cel hx40, BoolK.mk (fun _ => ⟨done h40 p40, done h40 p40⟩) (fun _ => ?_)⟩
    obtain ⟨_, c0, y0, rfl, hS0⟩ := ThP.cell hk hu h40 (j := 0) (by omega)
    obtain ⟨_, c1, y1, rfl, hS1⟩ := ThP.cell hk2 hu2 h40 (j := 0) (by omega)
    have st : ∀ b : Bool, BoolK b (Calls Tryz.prog 63 #[rp r, .int .i64 y] w40 fun e48 w47 => ∃ (s46 : ByteArray), e48 = .returned (.string s46) ∧ (BoolK (!((s46 : ByteArray).toList == ((⟨#[108, 105, 118, 101]⟩ : ByteArray) : ByteArray).toList)) (PostR κ N.addH r w6 w47) (RR κ N r w47 ∧ PkR κ κ w6 w47))) (RR κ N r w40 ∧ PkR κ κ w6 w40) := fun b =>
      BoolK.mk (fun _ => (c63 h40 y).mono fun en w' ⟨s, e, hx⟩ => ⟨s, e, BoolK.mk (fun _ => done (h40.ext hx) (p40.trans (h40.pkExt hx))) (fun _ => ⟨h40.ext hx, p40.trans (h40.pkExt hx)⟩)⟩) (fun _ => ⟨h40, p40⟩)
    exact ⟨⟨y1, c1, y0, c0, st _⟩, ⟨y0, c0, y1, c1, st _⟩⟩
  rintro w13 ⟨h13, p13⟩
  obtain ⟨_, c6, a, l, c, rfl, hs, hl⟩ := ThP.cell hk hu h13 (j := 6) (by omega)
  refine ⟨_, _, _, by rw [add_mk]; exact c6, (c69 h13 hs (.inl rfl) (by have := h.ln.2.2.2.1; omega) y).mono ?_⟩
  rintro en w17 ⟨p16, rfl, rfl⟩
  refine ⟨_, rfl, BoolK.mk (fun _ => ?_) (fun _ => done h13 p13)⟩
  refine AllocK.mk fun b w20 hb hB hx20 => ?_
  have h20 := h13.ext hx20
  obtain ⟨_, c6, a, l, c, rfl, hs, hl⟩ := ThP.cell hk hu h20 (j := 6) (by omega)
  obtain ⟨a23, c23, w24, κ1, q1, z2, z3, z4, z5⟩ := Sl.copy (ty := 43) (okR N r) rsltX h13.ty hx20 hB (by omega) hs (by omega)
  have h24 : RR κ1 N r w24 := h13.same (z5 NT) z2
  refine ⟨_, _, _, by rw [add_mk]; exact c6, a23, l, c23, w24, q1, ?_⟩
  refine (h24.grow N.le_addH1 ⟨h.ln.2.1, h.ln.2.2.1, hh, h.ln.2.2.2.2⟩).pushX (k := .idx) (.inl rfl) z3 (by have := h.ln.2.2.2.1; omega) (x := y) hy fun a27 c27 w28 κ2 h28 s28 p28 => ?_
  have P28 : PkR κ κ2 w6 w28 := (p13.trans (z5 NT)).trans (p28.mono ntX)
  obtain ⟨u', hu', hk'⟩ := P28.le _ _ _ _ hk
  show SetK w28 ((⟨g, q * 7, none⟩ : Addr).add 6) _ _
  rw [add_mk]
  refine ThP.set hk' (Nat.le_trans hu hu') h28 (j := 6) (by omega) ⟨_, _, _, rfl, s28, by show l + 1 ≤ N.h + 1; omega⟩ fun w30 h30 p30 => ?_
  obtain ⟨a32, l32, c32, hc32, hs32, hl32⟩ := h30.c10
  have hl32 : l32 ≤ N.o := hl32
  refine ⟨_, _, _, hc32, (c70 h30 hs32 (by omega) hx hy).mono ?_⟩
  rintro en w34 ⟨a33, l33, c33, rfl, κ3, h34, p34, s33, hl33⟩
  refine ⟨_, _, _, rfl, ?_⟩
  exact (h34.grow N.le_addH2 lim).setSt (i := 10) (by omega) ⟨_, _, _, rfl, s33, by show l33 ≤ N.o + 1; omega⟩ fun w37 h37 p37 => PostR.mk h37 (((P28.trans p30).trans p34).trans p37)
theorem c31 (h : RR κ N r w) (x y : Int) :
    Calls Tryz.prog 31 #[rp r, .int .i64 x, .int .i64 y] w fun en w' => ∃ e, en = .returned (.int .i64 e) ∧ PostR κ N r w w' := by
  refine calls31 _ _ _ (fun _ w' => PostR κ N r w w') w ?_
  have hh := h.ln.2.2.2.1
  have same : ∀ w1, w = w1 → PostR κ N r w w1 := by rintro _ rfl; exact PostR.mk h (Pk.refl _ _ _)
  refine (c59 h x).mono ?_
  rintro en w5 ⟨o4, rfl, rfl, ho4⟩
  refine ⟨_, rfl, BoolK.mk (fun _ => same _ rfl) (fun t4 => ?_)⟩
  rcases ho4 with ⟨_, rfl⟩ | ⟨hx, g, q, m, u, rfl, hk, hu⟩
  · cases t4
  obtain ⟨_, c6, a, l, c, rfl, hs, hl⟩ := ThP.cell hk hu h (j := 6) (by omega)
  refine ⟨_, _, _, by rw [add_mk]; exact c6, (c69 h hs (.inl rfl) (by omega) y).mono ?_⟩
  rintro en w17 ⟨p16, rfl, rfl⟩
  refine ⟨_, rfl, BoolK.mk (fun _ => same _ rfl) (fun _ => ?_)⟩
  refine ⟨fun a l c i w' => ∃ (κ' : Ka RK) (k : Nat), i = k ∧ k ≤ N.h ∧ l ≤ k ∧ RR κ' N r w' ∧ PkR κ κ' w17 w' ∧ Sl Kr κ' .idx (a, l, c), fun _ _ _ i _ => N.h - i.toNat, ⟨⟨κ, 0, rfl, Nat.zero_le _, Nat.le_refl _, h, Pk.refl _ _ _, Sl.nil _ _ _⟩, trivial⟩, ?_⟩
  rintro w14 a1 l1 c1 _ ⟨κ1, k, rfl, hkh, hl1, h14, p14, s14⟩
  obtain ⟨u', hu', hk'⟩ := p14.le _ _ _ _ hk
  obtain ⟨_, c6, a, l, c, rfl, hs, hl⟩ := ThP.cell hk' (Nat.le_trans hu hu') h14 (j := 6) (by omega)
  have c6' : w14.cell? ((⟨g, q * 7, none⟩ : Addr).add 6) = some (.slice a l c) := by rw [add_mk]; exact c6
  refine ⟨_, _, _, c6', BoolK.mk (fun t => ?_) (fun t => ?_)⟩
  · have t := of_decide_eq_true t
    obtain ⟨g1, o1, n1, u1, v1, rfl, _, _, hc1, y1, rfl, hy1, hy2⟩ := h14.el hs rfl (x := k) (by omega) t
    rw [wrap_succ (by omega)]
    refine ⟨_, _, _, c6', ⟨by omega, t⟩, y1, hc1, BoolK.mk (fun _ => ?_) (fun _ => ?_)⟩
    · refine ⟨_, _, _, c6', ⟨by omega, t⟩, y1, hc1, h14.pushX (k := .idx) (.inl rfl) s14 (by omega) (x := y1) ⟨hy1, hy2⟩ fun a27 c27 w28 κ2 h28 s28 p28 => ?_⟩
      exact ⟨⟨κ2, k + 1, rfl, by omega, by omega, h28, p14.trans (p28.mono ntX), s28⟩, by simp; omega⟩
    · exact ⟨⟨κ1, k + 1, rfl, by omega, by omega, h14, p14, s14⟩, by simp; omega⟩
  · show SetK w14 ((⟨g, q * 7, none⟩ : Addr).add 6) _ _
    rw [add_mk]
    exact ThP.set hk' (Nat.le_trans hu hu') h14 (j := 6) (by omega) ⟨_, _, _, rfl, s14, by omega⟩ fun w30 h30 p30 => PostR.mk h30 (p14.trans p30)
theorem c36 (h : RR κ N r w) (x : Int) (hf : N.f + N.n ≤ 10000000) :
    Calls Tryz.prog 36 #[rp r, .int .i64 x] w fun en w' => ∃ e, en = .returned (.int .i64 e) ∧ PostR κ (N.addF N.n) r w w' := by
  refine calls36 _ _ (fun _ w' => PostR κ (N.addF N.n) r w w') w ?_
  have ln := h.ln.1
  refine (c58 h x).mono ?_
  rintro en w4 ⟨p, rfl, hp, rfl⟩
  refine ⟨_, rfl, BoolK.mk (fun _ => PostR.mk (h.grow (N.le_addF _) (h.lim hf)) (Pk.refl _ _ _)) (fun t => ?_)⟩
  have hS : N.isS x := by rw [hp] at t; simpa using t
  obtain ⟨a3, c3, hc3, hs3⟩ := h.c3
  obtain ⟨g3, o3, n3, u3, v3, rfl, hk3, hu3, hc3', y3, rfl⟩ := h.el hs3 rfl hS.1 hS.2
  refine ⟨_, _, _, hc3, hS, y3, hc3', hS, ?_⟩
  show SetK w4 ((⟨g3, o3, none⟩ : Addr).add (x.toNat * 1)) _ _
  rw [add_mk]
  refine h.setAt hk3 (i := o3 + x.toNat * 1) (by omega) (by simp [NT]) (by rw [show (o3 + x.toNat * 1) % Kr.sz .clk = 0 from Nat.mod_one _]; exact ⟨_, rfl⟩) fun w11 h11 p11 _ => ?_
  refine ⟨fun i w' => ∃ (κ' : Ka RK) (k d : Nat), i = k ∧ k ≤ N.n ∧ d ≤ k ∧ RR κ' (N.addF d) r w' ∧ PkR κ κ' w4 w', fun i _ => N.n - i.toNat, ⟨⟨κ, 0, 0, rfl, Nat.zero_le _, Nat.le_refl _, h11, p11⟩, trivial⟩, ?_⟩
  rintro w14 _ ⟨κ1, k, d, rfl, hk, hd, h14, p14⟩
  obtain ⟨a4, c4, hc4, hs4⟩ := h14.c4
  refine ⟨_, _, _, hc4, BoolK.mk (fun t => ?_) (fun t => ?_)⟩
  · have t := of_decide_eq_true t
    have t : (k : Int) < N.n := t
    have e : IntKind.wrap .i64 ((k : Int) + 1) = ((k + 1 : Nat) : Int) := wrap_succ (by omega)
    rw [e]
    obtain ⟨a, l, c, h1, h2, h3, _⟩ := h14.tw.at_ (x := x) hS.1 hS.2
    have h3 : N.n ≤ l := h3
    refine ⟨_, _, _, h14.c5, hS, a, l, c, h1, ⟨by omega, by omega⟩, h14.getI h2 (by omega) (by omega) fun v => BoolK.mk (fun _ => ?_) (fun _ => ?_)⟩
    · obtain ⟨g, o, m, u, own, out, last, f1, f2, f3, ha, hl, hc', rfl, hk2, hSo, hsl, hle, _, c0, _⟩ := h14.thAt hs4 (x := k) (by omega) t
      refine ⟨_, _, _, hc4, ⟨by omega, t⟩, own, c0, (c60 h14 _ _ hS hSo (ent := ((k + 1 : Nat) : Int)) ⟨by omega, by show ((k + 1 : Nat) : Int) ≤ N.n; omega⟩ (by show N.f + d + 1 ≤ _; omega)).mono ?_⟩
      rintro en w28 ⟨rfl, κ2, h28, p28⟩
      exact ⟨rfl, ⟨κ2, k + 1, d + 1, rfl, by omega, by omega, h28, p14.trans p28⟩, by simp; omega⟩
    · exact ⟨⟨κ1, k + 1, d, rfl, by omega, by omega, h14, p14⟩, by simp; omega⟩
  · have h14 : RR κ1 (N.addF N.n) r w14 := h14.grow ⟨rfl, rfl, Nat.le_refl _, Nat.le_refl _, Nat.le_refl _, by show N.f + d ≤ N.f + N.n; omega⟩ (h.lim hf)
    refine ⟨fun i w' => ∃ (k : Nat), i = k ∧ k ≤ N.n ∧ RR κ1 (N.addF N.n) r w' ∧ PkR κ κ1 w4 w', fun i _ => N.n - i.toNat, ⟨⟨0, rfl, Nat.zero_le _, h14, p14⟩, trivial⟩, ?_⟩
    rintro w32 _ ⟨k2, rfl, hk2, h32, p32⟩
    obtain ⟨a5, c5, hc5, hs5⟩ := h32.c4
    refine ⟨_, _, _, hc5, BoolK.mk (fun t2 => ?_) (fun t2 => PostR.mk h32 p32)⟩
    have t2 := of_decide_eq_true t2
    have t2 : (k2 : Int) < N.n := t2
    have e : IntKind.wrap .i64 ((k2 : Int) + 1) = ((k2 + 1 : Nat) : Int) := wrap_succ (by omega)
    rw [e]
    have go : ∀ {w2 : World}, RR κ1 (N.addF N.n) r w2 → PkR κ κ1 w4 w2 → (∃ (k : Nat), ((k2 + 1 : Nat) : Int) = k ∧ k ≤ N.n ∧ RR κ1 (N.addF N.n) r w2 ∧ PkR κ κ1 w4 w2) ∧ N.n - (((k2 + 1 : Nat) : Int)).toNat < N.n - (k2 : Int).toNat := fun h2 p2 => ⟨⟨k2 + 1, rfl, by omega, h2, p2⟩, by simp; omega⟩
    obtain ⟨g, o, m, u, own, out, last, f1, f2, f3, ha, hl, hc', rfl, hkg, hSo, hsl, hle, hidx, _⟩ := h32.thAt hs5 (x := k2) (by omega) t2
    refine ⟨_, _, _, hc5, ⟨by omega, t2⟩, h32.drew fun w39 h39 hx39 p39 => ?_⟩
    have p39 := p32.trans p39
    obtain ⟨g', o', m', u', own, out, last, f1, f2, f3, ha, hl, hc', eg, hkg', hSo, hsl, hle, hidx', c0, _, c1, c2, _⟩ := h39.thAt hs5 (x := k2) (by omega) t2
    cases eg
    refine ⟨own, c0, BoolK.mk (fun _ => ⟨out, c1, BoolK.mk (fun _ => ?_) (fun _ => go h39 p39)⟩) (fun _ => go h39 p39)⟩
    obtain ⟨a6, c6, hc6, hs6⟩ := h39.c3
    obtain ⟨g6, o6, y6, rfl, hy6⟩ := clkAt h39 hs6 (x := x) hS
    obtain ⟨_, d1, y1, rfl⟩ := h39.cell (i := 1) (by omega)
    obtain ⟨_, d2, y2, rfl⟩ := h39.cell (i := 2) (by omega)
    refine ⟨_, _, _, hc6, hS, y6, hy6, last, c2, y1, d1, y2, d2, BoolK.mk (fun _ => ?_) (fun _ => go h39 p39)⟩
    have hi4 := hidx' 4 (by omega)
    show SetK w39 (((⟨g, o, none⟩ : Addr).add ((k2 : Int).toNat * 7)).add 4) _ _
    rw [add_mk, add_mk]
    exact h39.setAt hkg' hi4.1 (by simp [NT]) (by rw [show (o + (k2 : Int).toNat * 7 + 4) % Kr.sz .ths = 4 from hi4.2]; exact ⟨true, rfl⟩) fun w51 h51 p51 _ => go h51 (p39.trans p51)
end
end Go.Proofs.YtgggbmikmmljcaaGreat
