/- A part of the proof: plain forms of functions and laws about them. -/
import Derived.Test.YtgggbmikmmljcaaGreatAlltE
namespace Go.Proofs.YtgggbmikmmljcaaGreat
open Go Go.V Go.Proofs
open Go.RowKit (Below)
/-! manystrand/manystrandref11.SameInts -/
def N38 (a1 : Option Addr) (l1 : Nat) (_c1 : Nat) (a2 : Option Addr) (l2 : Nat) (_c2 : Nat) (K : Bool → World → Prop) (w : World) : Prop :=
 BoolK (((l1 : Nat) : Int) != (l2 : Nat))
 (K false w)
 (∃ (I3 : Int → World → Prop) (μ4 : Int → World → Nat),
 (I3 0 w ∧ True) ∧
 ∀ (w5 : World) (x6 : Int), I3 x6 w5 →
 BoolK (decide ((x6 : Int) < (l1 : Nat)))
 (DrewK w5 fun w7 =>
 (0 ≤ (x6 : Int) ∧ (x6 : Int) < (l1 : Nat)) ∧
 AddrK a1 fun b8 =>
 ∃ (x9 : Int), w7.cell? (b8.add ((x6 : Int).toNat * 1)) = some (.int .i64 x9) ∧
 ((0 ≤ (x6 : Int) ∧ (x6 : Int) < (l2 : Nat)) ∧
 AddrK a2 fun b10 =>
 ∃ (x11 : Int), w7.cell? (b10.add ((x6 : Int).toNat * 1)) = some (.int .i64 x11) ∧
 (BoolK ((x9 : Int) != x11)
 (K false w7)
 (I3 (IntKind.wrap .i64 (x6 + 1)) w7 ∧ μ4 (IntKind.wrap .i64 (x6 + 1)) w7 < μ4 x6 w5))))
 (K true w5))
def ann38 : Ann := (.two .nil (.two (.two .nil (.two (.two .nil .nil) .nil)) (.two (.two .nil (.one (.loop [(5, (.one (.int .i64)))] [0, 1] (.two (.two .nil (.two .nil .nil)) (.two (.one (.two (.any 9 (.take 0 (.take 1 (.take 2 (.take 3 (.take 4 (.take 5 (.take 6 (.take 7 (.take 8 .done)))))))))) (.two (.two .nil .nil) .nil))) .nil))))) (.two .nil .nil))))
noncomputable def code38 : Code := match Tryz.f38.body with | some c => c | none => .skip
theorem wp38 (a1 : Option Addr) (l1 : Nat) (c1 : Nat) (a2 : Option Addr) (l2 : Nat) (c2 : Nat) (K : Bool → World → Prop) (w : World) : WP Tryz.prog tab code38 ann38 (fnQ tab Tryz.f38.results.toList [(.one .bool)] K) (argE 0 [(.slice a1 l1 c1), (.slice a2 l2 c2)]) w = N38 a1 l1 c1 a2 l2 c2 K w := by kernel_rfl
theorem calls38 (a1 : Option Addr) (l1 : Nat) (c1 : Nat) (a2 : Option Addr) (l2 : Nat) (c2 : Nat) (K : Bool → World → Prop) (w : World) (h : N38 a1 l1 c1 a2 l2 c2 K w) : Calls Tryz.prog 38 #[(.slice a1 l1 c1), (.slice a2 l2 c2)] w fun en w' => ∃ (p12 : Bool), en = .returned (.bool p12) ∧ K p12 w' :=
 have e : (fun en w' => ExShs [(.one .bool)] fun vs => en = .returned (tupled vs) ∧ ap [(.one .bool)] K vs fun p => p w') = (fun (en : Ending) (w' : World) => ∃ (p12 : Bool), en = .returned (.bool p12) ∧ K p12 w') := by kernel_rfl
 e ▸ fn_sound tabOk mixed Tryz.func38 (by kernel_rfl : Tryz.f38.body = some code38) ann38 [(.slice a1 l1 c1), (.slice a2 l2 c2)] [(.one .bool)] K w (by kernel_rfl) ((wp38 a1 l1 c1 a2 l2 c2 K w).symm ▸ h)
end Go.Proofs.YtgggbmikmmljcaaGreat

namespace Go.Proofs.YtgggbmikmmljcaaGreat
open Go Go.V Go.Proofs
open Go.RowKit (Below)
/-! manystrand/manystrandlaw27.sameSets -/
def N40 (a1 : Option Addr) (l1 : Nat) (_c1 : Nat) (a2 : Option Addr) (l2 : Nat) (_c2 : Nat) (K : Bool → World → Prop) (w : World) : Prop :=
 BoolK (((l1 : Nat) : Int) != (l2 : Nat))
 (K false w)
 (∃ (I3 : Int → World → Prop) (μ4 : Int → World → Nat),
 (I3 0 w ∧ True) ∧
 ∀ (w5 : World) (x6 : Int), I3 x6 w5 →
 BoolK (decide ((x6 : Int) < (l1 : Nat)))
 (DrewK w5 fun w7 =>
 (0 ≤ (x6 : Int) ∧ (x6 : Int) < (l1 : Nat)) ∧
 AddrK a1 fun b8 =>
 ∃ (a9 : Option Addr) (l9 : Nat) (c9 : Nat), w7.cell? (b8.add ((x6 : Int).toNat * 1)) = some (.slice a9 l9 c9) ∧
 ((0 ≤ (x6 : Int) ∧ (x6 : Int) < (l2 : Nat)) ∧
 AddrK a2 fun b10 =>
 ∃ (a11 : Option Addr) (l11 : Nat) (c11 : Nat), w7.cell? (b10.add ((x6 : Int).toNat * 1)) = some (.slice a11 l11 c11) ∧
 (Calls Tryz.prog 38 #[(.slice a9 l9 c9), (.slice a11 l11 c11)] w7 fun e14 w13 =>
 ∃ (p12 : Bool), e14 = .returned (.bool p12) ∧
 (BoolK (!p12)
 (K false w13)
 (I3 (IntKind.wrap .i64 (x6 + 1)) w13 ∧ μ4 (IntKind.wrap .i64 (x6 + 1)) w13 < μ4 x6 w5)))))
 (K true w5))
def ann40 : Ann := (.two .nil (.two (.two .nil (.two (.two .nil .nil) .nil)) (.two (.two .nil (.one (.loop [(13, (.one (.int .i64)))] [0, 1, 12] (.two .nil (.two (.two .nil .nil) (.two (.one (.two .nil (.two (.any 8 (.take 0 (.take 1 (.take 2 (.take 3 (.take 4 (.take 5 (.take 6 (.take 7 .done))))))))) (.two (.two .nil .nil) .nil)))) .nil)))))) (.two .nil .nil))))
noncomputable def code40 : Code := match Tryz.f40.body with | some c => c | none => .skip
theorem wp40 (a1 : Option Addr) (l1 : Nat) (c1 : Nat) (a2 : Option Addr) (l2 : Nat) (c2 : Nat) (K : Bool → World → Prop) (w : World) : WP Tryz.prog tab code40 ann40 (fnQ tab Tryz.f40.results.toList [(.one .bool)] K) (argE 0 [(.slice a1 l1 c1), (.slice a2 l2 c2)]) w = N40 a1 l1 c1 a2 l2 c2 K w := by kernel_rfl
theorem calls40 (a1 : Option Addr) (l1 : Nat) (c1 : Nat) (a2 : Option Addr) (l2 : Nat) (c2 : Nat) (K : Bool → World → Prop) (w : World) (h : N40 a1 l1 c1 a2 l2 c2 K w) : Calls Tryz.prog 40 #[(.slice a1 l1 c1), (.slice a2 l2 c2)] w fun en w' => ∃ (p15 : Bool), en = .returned (.bool p15) ∧ K p15 w' :=
 have e : (fun en w' => ExShs [(.one .bool)] fun vs => en = .returned (tupled vs) ∧ ap [(.one .bool)] K vs fun p => p w') = (fun (en : Ending) (w' : World) => ∃ (p15 : Bool), en = .returned (.bool p15) ∧ K p15 w') := by kernel_rfl
 e ▸ fn_sound tabOk mixed Tryz.func40 (by kernel_rfl : Tryz.f40.body = some code40) ann40 [(.slice a1 l1 c1), (.slice a2 l2 c2)] [(.one .bool)] K w (by kernel_rfl) ((wp40 a1 l1 c1 a2 l2 c2 K w).symm ▸ h)
end Go.Proofs.YtgggbmikmmljcaaGreat

namespace Go.Proofs.YtgggbmikmmljcaaGreat
open Go Go.V Go.Proofs
open Go.RowKit (Below)
/-! manystrand/manystrandlaw27.looks -/
def N39 (o1 : Option Addr) (o2 : Option Addr) (x3 : Int) (x4 : Int) (K : Bool → World → Prop) (w : World) : Prop :=
 Calls Tryz.prog 11 #[(.pointer o1), (.int .i64 x4)] w fun e8 w7 =>
 ∃ (x5 : Int), ∃ (x6 : Int), e8 = .returned (.tuple #[(.int .i64 x5), (.int .i64 x6)]) ∧
 (Calls Tryz.prog 78 #[(.pointer o2), (.int .i64 x4)] w7 fun e12 w11 =>
 ∃ (x9 : Int), ∃ (x10 : Int), e12 = .returned (.tuple #[(.int .i64 x9), (.int .i64 x10)]) ∧
 (BoolK ((x5 : Int) == x9)
 (BoolK ((x6 : Int) == x10)
 (Calls Tryz.prog 12 #[(.pointer o1), (.int .i64 x3), (.int .i64 x4)] w11 fun e15 w14 =>
 ∃ (x13 : Int), e15 = .returned (.int .i64 x13) ∧
 (Calls Tryz.prog 79 #[(.pointer o2), (.int .i64 x3), (.int .i64 x4)] w14 fun e18 w17 =>
 ∃ (x16 : Int), e18 = .returned (.int .i64 x16) ∧
 (BoolK ((x13 : Int) == x16)
 (Calls Tryz.prog 13 #[(.pointer o1), (.int .i64 x4)] w17 fun e21 w20 =>
 ∃ (s19 : ByteArray), e21 = .returned (.string s19) ∧
 (Calls Tryz.prog 63 #[(.pointer o2), (.int .i64 x4)] w20 fun e24 w23 =>
 ∃ (s22 : ByteArray), e24 = .returned (.string s22) ∧
 (BoolK ((s19 : ByteArray).toList == (s22 : ByteArray).toList)
 (Calls Tryz.prog 16 #[(.pointer o1), (.int .i64 x3), (.int .i64 x4)] w23 fun e27 w26 =>
 ∃ (p25 : Bool), e27 = .returned (.bool p25) ∧
 (Calls Tryz.prog 66 #[(.pointer o2), (.int .i64 x3), (.int .i64 x4)] w26 fun e30 w29 =>
 ∃ (p28 : Bool), e30 = .returned (.bool p28) ∧
 (K (p25 == p28) w29)))
 (K false w23))))
 (K false w17))))
 (K false w11))
 (K false w11)))
def ann39 : Ann := (.two .nil (.two .nil (.two .nil (.two .nil .nil))))
noncomputable def code39 : Code := match Tryz.f39.body with | some c => c | none => .skip
theorem wp39 (o1 : Option Addr) (o2 : Option Addr) (x3 : Int) (x4 : Int) (K : Bool → World → Prop) (w : World) : WP Tryz.prog tab code39 ann39 (fnQ tab Tryz.f39.results.toList [(.one .bool)] K) (argE 0 [(.pointer o1), (.pointer o2), (.int .i64 x3), (.int .i64 x4)]) w = N39 o1 o2 x3 x4 K w := by kernel_rfl
theorem calls39 (o1 : Option Addr) (o2 : Option Addr) (x3 : Int) (x4 : Int) (K : Bool → World → Prop) (w : World) (h : N39 o1 o2 x3 x4 K w) : Calls Tryz.prog 39 #[(.pointer o1), (.pointer o2), (.int .i64 x3), (.int .i64 x4)] w fun en w' => ∃ (p31 : Bool), en = .returned (.bool p31) ∧ K p31 w' :=
 have e : (fun en w' => ExShs [(.one .bool)] fun vs => en = .returned (tupled vs) ∧ ap [(.one .bool)] K vs fun p => p w') = (fun (en : Ending) (w' : World) => ∃ (p31 : Bool), en = .returned (.bool p31) ∧ K p31 w') := by kernel_rfl
 e ▸ fn_sound tabOk mixed Tryz.func39 (by kernel_rfl : Tryz.f39.body = some code39) ann39 [(.pointer o1), (.pointer o2), (.int .i64 x3), (.int .i64 x4)] [(.one .bool)] K w (by kernel_rfl) ((wp39 o1 o2 x3 x4 K w).symm ▸ h)
end Go.Proofs.YtgggbmikmmljcaaGreat

namespace Go.Proofs.YtgggbmikmmljcaaGreat
open Go Go.V Go.Proofs
open Go.RowKit (Below)
def RdI (w : World) (a : Option Addr) (l : Nat) : Prop := ∀ i, i < l → ∃ b o, a = some ⟨b, o, none⟩ ∧ ∃ x, w.cell? ⟨b, o + i, none⟩ = some (.int .i64 x)
def RdL (w : World) (a : Option Addr) (l m : Nat) : Prop := ∀ i, i < l → ∃ b, a = some b ∧ ∃ a' l' c', w.cell? (b.add i) = some (.slice a' l' c') ∧ RdI w a' l' ∧ l' ≤ m
def RdL' (w : World) (a : Option Addr) (l : Nat) : Prop := ∀ i, i < l → ∃ b, a = some b ∧ ∃ a' l' c', w.cell? (b.add i) = some (.slice a' l' c') ∧ RdI w a' l'
section
variable {w w' w2 : World} {own own' : OwnM Role} {r : Raw} {S : CS} {κ κ' : Ka RK} {N N' : Prm} {q : Rb}
theorem adK {a : Option Addr} {b : Addr} (h : a = some b) {F : Addr → Prop} (k : F b) : AddrK a F := by subst h; exact k
theorem RdI.of {a : Option Addr} {l : Nat} {ys : List Int} (h : Ints w a l ys) : RdI w a l := fun i hi => by
  obtain ⟨b, o, ha, h0⟩ := h.get (i := i) (by rw [← h.1]; exact hi)
  exact ⟨_, _, ha, _, by simpa [RInt] using h0⟩
theorem RdI.ext {a : Option Addr} {l : Nat} (h : RdI w a l) (x : Ext w w') : RdI w' a l := fun i hi => by
  obtain ⟨b, o, ha, y, hy⟩ := h i hi; exact ⟨b, o, ha, y, x.cell hy⟩
theorem RdL.of {a : Option Addr} {l m : Nat} {d : List (List Int)} (h : Lists w a l d) (hm : ∀ ys ∈ d, ys.length ≤ m) : RdL w a l m := fun i hi => by
  have hi' : i < d.length := by rw [← h.1]; exact hi
  obtain ⟨b, o, ha, a', l', c', h0, h1⟩ := h.get hi'
  refine ⟨_, ha, a', l', c', by rw [add_mk]; simpa using h0, RdI.of h1, ?_⟩
  rw [h1.1]; exact hm _ (List.getElem_mem hi')
theorem RdI.keep {a : Option Addr} {l : Nat} (h : RdI w a l) (k : ∀ p, a = some p → p.block < w.heap.size → w'.heap[p.block]? = w.heap[p.block]?) : RdI w' a l := fun i hi => by
  obtain ⟨b, o, ha, y, hy⟩ := h i hi
  refine ⟨b, o, ha, y, ?_⟩
  have e : w'.heap[b]? = w.heap[b]? := k _ ha (show b < w.heap.size from block_lt_of_cell hy)
  unfold World.cell? at hy ⊢
  simp only at hy ⊢
  rw [e]; exact hy
theorem RdI.sl (h : RR κ N q w) {a : Option Addr} {l c : Nat} (hs : Sl Kr κ .ints (a, l, c)) : RdI w a l := fun i hi => by
  obtain ⟨g, o, n, u, e, hk, hj⟩ := hs.at_ h.ty (i := i) hi
  obtain ⟨-, -, v, hv, x, rfl⟩ := hj 0 (by decide)
  exact ⟨_, _, e, x, by simpa [Kr] using hv⟩
theorem RdL.sl (h : RR κ N q w) {a : Option Addr} {l c : Nat} (hs : Sl Kr κ .sets (a, l, c)) : RdL' w a l := fun i hi => by
  obtain ⟨g, o, n, u, e, hk, hj⟩ := hs.at_ h.ty (i := i) hi
  obtain ⟨-, -, v, hv, a', l', c', rfl, hs'⟩ := hj 0 (by decide)
  exact ⟨_, e, a', l', c', by rw [add_mk]; simpa [Kr] using hv, RdI.sl h hs'⟩
theorem c38 (w : World) {a1 a2 : Option Addr} {l1 l2 : Nat} (c1 c2 : Nat) (h1 : RdI w a1 l1) (h2 : RdI w a2 l2) (hl : l1 ≤ 1000000000) :
    Calls Tryz.prog 38 #[.slice a1 l1 c1, .slice a2 l2 c2] w fun en w' => ∃ p, en = .returned (.bool p) ∧ Ext w w' := by
  refine calls38 _ _ _ _ _ _ (fun _ w' => Ext w w') w ?_
  refine BoolK.mk (fun _ => Ext.refl _) (fun t => ?_)
  have e : l1 = l2 := by simp at t; omega
  subst e
  refine ⟨fun i w' => 0 ≤ i ∧ i ≤ l1 ∧ Ext w w', fun i _ => l1 - i.toNat, ⟨⟨Int.le_refl 0, by omega, Ext.refl _⟩, trivial⟩, ?_⟩
  rintro w5 i ⟨i0, i1, x5⟩
  refine BoolK.mk (fun t => ?_) (fun _ => x5)
  have t := of_decide_eq_true t
  refine DrewK.mk fun w7 x7 => ?_
  have x := x5.trans x7
  obtain ⟨b1, o1, e1, y1, hy1⟩ := h1.ext x i.toNat (by omega)
  obtain ⟨b2, o2, e2, y2, hy2⟩ := h2.ext x i.toNat (by omega)
  refine ⟨⟨i0, t⟩, adK e1 ⟨y1, by rw [add_mk, Nat.mul_one]; exact hy1, ⟨i0, t⟩, adK e2 ⟨y2, by rw [add_mk, Nat.mul_one]; exact hy2, BoolK.mk (fun _ => x) (fun _ => ?_)⟩⟩⟩
  rw [wrap_id] <;> first | omega | exact ⟨⟨by omega, by omega, x⟩, by show l1 - (i + 1).toNat < l1 - i.toNat; omega⟩
theorem c40 (w : World) {a1 a2 : Option Addr} {l1 l2 m : Nat} (c1 c2 : Nat) (h1 : RdL w a1 l1 m) (h2 : RdL' w a2 l2) (hm : m ≤ 1000000000) (hl : l2 ≤ 1000000000) :
    Calls Tryz.prog 40 #[.slice a1 l1 c1, .slice a2 l2 c2] w fun en w' => ∃ p, en = .returned (.bool p) ∧ Ext w w' := by
  refine calls40 _ _ _ _ _ _ (fun _ w' => Ext w w') w ?_
  refine BoolK.mk (fun _ => Ext.refl _) (fun t => ?_)
  have e : l1 = l2 := by simp at t; omega
  subst e
  refine ⟨fun i w' => 0 ≤ i ∧ i ≤ l1 ∧ Ext w w', fun i _ => l1 - i.toNat, ⟨⟨Int.le_refl 0, by omega, Ext.refl _⟩, trivial⟩, ?_⟩
  rintro w5 i ⟨i0, i1, x5⟩
  refine BoolK.mk (fun t => ?_) (fun _ => x5)
  have t := of_decide_eq_true t
  refine DrewK.mk fun w7 x7 => ?_
  have x := x5.trans x7
  obtain ⟨b1, e1, p1, n1, k1, hy1, g1, hn1⟩ := h1 i.toNat (by omega)
  obtain ⟨b2, e2, p2, n2, k2, hy2, g2⟩ := h2 i.toNat (by omega)
  refine ⟨⟨i0, t⟩, adK e1 ⟨p1, n1, k1, by rw [Nat.mul_one]; exact x.cell hy1, ⟨i0, t⟩, adK e2 ⟨p2, n2, k2, by rw [Nat.mul_one]; exact x.cell hy2, ?_⟩⟩⟩
  refine (c38 w7 k1 k2 (g1.ext x) (g2.ext x) (by omega)).mono ?_
  rintro en w13 ⟨p, rfl, x13⟩
  refine ⟨_, rfl, BoolK.mk (fun _ => x.trans x13) (fun _ => ?_)⟩
  rw [wrap_id] <;> first | omega | exact ⟨⟨by omega, by omega, x.trans x13⟩, by show l1 - (i + 1).toNat < l1 - i.toNat; omega⟩
structure Jt (w : World) (own : OwnM Role) (r : Raw) (S : CS) (κ : Ka RK) (N : Prm) (q : Rb) : Prop where
  c : CR w own r S
  r : RR κ N q w
  ap : ∀ b, own b ≠ none → κ b = none
structure FrJ (own own' : OwnM Role) (κ κ' : Ka RK) (w w' : World) : Prop where
  os : w'.os = w.os
  tape : w'.tape = w.tape
  output : w'.output = w.output
  size : w.heap.size ≤ w'.heap.size
  block : ∀ b, b < w.heap.size → own b = none → κ b = none → w'.heap[b]? = w.heap[b]?
  free : ∀ b, b < w.heap.size → own b = none → κ b = none → own' b = none ∧ κ' b = none
theorem FrJ.refl (own : OwnM Role) (κ : Ka RK) (w : World) : FrJ own own κ κ w w := ⟨rfl, rfl, rfl, Nat.le_refl _, fun _ _ _ _ => rfl, fun _ _ h k => ⟨h, k⟩⟩
theorem FrJ.trans {own2 : OwnM Role} {κ2 : Ka RK} (h : FrJ own own' κ κ' w w') (g : FrJ own' own2 κ' κ2 w' w2) : FrJ own own2 κ κ2 w w2 :=
  ⟨g.os.trans h.os, g.tape.trans h.tape, g.output.trans h.output, Nat.le_trans h.size g.size, fun b hb a k => by
    obtain ⟨a', k'⟩ := h.free b hb a k
    exact (g.block b (Nat.lt_of_lt_of_le hb h.size) a' k').trans (h.block b hb a k), fun b hb a k => by
    obtain ⟨a', k'⟩ := h.free b hb a k
    exact g.free b (Nat.lt_of_lt_of_le hb h.size) a' k'⟩
theorem FrJ.ext (own : OwnM Role) (κ : Ka RK) (x : Ext w w') : FrJ own own κ κ w w' := ⟨x.os, x.tape, x.output, x.size, fun b hb _ _ => x.block b hb, fun _ _ h k => ⟨h, k⟩⟩
theorem FrJ.blk (h : FrJ own own' κ κ' w w') {b t : Nat} {cs : Array Value} (hb : Blk w b cs t) (e1 : own b = none) (e2 : κ b = none) : Blk w' b cs t := (h.block b hb.lt e1 e2).trans hb
theorem FrJ.but {b : Nat} (h : FrJ own own' κ κ' w w') (x : But b w' w2) (hb : w.heap.size ≤ b) : FrJ own own' κ κ' w w2 :=
  ⟨x.os.trans h.os, x.tape.trans h.tape, x.output.trans h.output, by rw [x.size]; exact h.size, fun i hi a k => (x.block i (by omega)).trans (h.block i hi a k), h.free⟩
theorem Jt.ext (h : Jt w own r S κ N q) (x : Ext w w') : Jt w' own r S κ N q := ⟨h.c.ext x, h.r.ext x, h.ap⟩
theorem Jt.but (h : Jt w own r S κ N q) {b : Nat} (x : But b w w') (e1 : own b = none) (e2 : κ b = none) : Jt w' own r S κ N q := ⟨h.c.but e1 x, h.r.but x e2, h.ap⟩
theorem Jt.prog (h : Jt w own r S κ N q) {S' : CS} (p : PostC own r w S' w') : ∃ own' r', Jt w' own' r' S' κ N q ∧ FrJ own own' κ κ w w' ∧ r'.b = r.b ∧ ∀ b, κ b ≠ none → w'.heap[b]? = w.heap[b]? := by
  obtain ⟨own', r', h1, h2, h3⟩ := p
  have lt : ∀ b, κ b ≠ none → b < w.heap.size ∧ own b = none := fun b hb => ⟨by
      refine Nat.lt_of_not_le fun hc => hb (h.r.fresh hc), by
      cases e : own b with
      | none => rfl
      | some x => exact absurd (h.ap b (by rw [e]; simp)) hb⟩
  have keep : ∀ b, κ b ≠ none → w'.heap[b]? = w.heap[b]? := fun b hb => h2.block b (lt b hb).1 (lt b hb).2
  refine ⟨own', r', ⟨h1, h.r.frame keep, fun b hb => ?_⟩, ⟨h2.os, h2.tape, h2.output, h2.size, fun b hb a _ => h2.block b hb a, fun b hb a k => ⟨h2.free b hb a, k⟩⟩, h3, keep⟩
  cases e : κ b with
  | none => rfl
  | some x => exact absurd (h2.free b (lt b (by rw [e]; simp)).1 (lt b (by rw [e]; simp)).2) hb
theorem Jt.ref (h : Jt w own r S κ N q) (h1 : RR κ' N' q w') (p : FrM κ κ' w w') : Jt w' own r S κ' N' q ∧ FrJ own own κ κ' w w' := by
  have lt : ∀ b, own b ≠ none → b < w.heap.size := fun b hb => Nat.lt_of_not_le fun hc => hb (h.c.top b hc)
  refine ⟨⟨h.c.frame p.size fun b hb ho => p.block b hb (h.ap b ho), h1, fun b hb => p.free b (lt b hb) (h.ap b hb)⟩, ⟨p.os, p.tape, p.output, p.size, fun b hb _ k => p.block b hb k, fun b hb a k => ⟨a, p.free b hb k⟩⟩⟩
theorem c39 (h : Jt w own r S κ N q) (L : Lim2 S) (x y : Int) : Calls Tryz.prog 39 #[cp r, rp q, .int .i64 x, .int .i64 y] w fun en w' => ∃ p, en = .returned (.bool p) ∧ Ext w w' := by
  refine calls39 _ _ _ _ (fun _ w' => Ext w w') w ?_
  refine (c11 h.c L.toLim y).mono ?_
  rintro en w7 ⟨a, b, rfl, -, rfl⟩
  refine ⟨_, _, rfl, ?_⟩
  refine (c78 h.r y).mono ?_
  rintro en w11 ⟨a2, b2, rfl, rfl⟩
  refine ⟨_, _, rfl, BoolK.mk (fun _ => BoolK.mk (fun _ => ?_) (fun _ => Ext.refl _)) (fun _ => Ext.refl _)⟩
  refine (c12 h.c x y).mono ?_
  rintro en w14 ⟨a3, rfl, -, rfl⟩
  refine ⟨_, rfl, ?_⟩
  refine (c79 h.r x y).mono ?_
  rintro en w17 ⟨a4, rfl, rfl⟩
  refine ⟨_, rfl, BoolK.mk (fun _ => ?_) (fun _ => Ext.refl _)⟩
  refine (c13 h.c L y).mono ?_
  rintro en w20 ⟨s, rfl, -, x20⟩
  refine ⟨_, rfl, ?_⟩
  have h := h.ext x20
  refine (c63 h.r y).mono ?_
  rintro en w23 ⟨s2, rfl, x23⟩
  refine ⟨_, rfl, BoolK.mk (fun _ => ?_) (fun _ => x20.trans x23)⟩
  have h := h.ext x23
  refine (c16 h.c L.toLim x y).mono ?_
  rintro en w26 ⟨p, rfl, -, rfl⟩
  refine ⟨_, rfl, ?_⟩
  refine (c66 h.r x y).mono ?_
  rintro en w29 ⟨p2, rfl, rfl, -⟩
  exact ⟨_, rfl, x20.trans x23⟩
end
end Go.Proofs.YtgggbmikmmljcaaGreat

namespace Go.Proofs.YtgggbmikmmljcaaGreat
open Go Go.V Go.Proofs
open Go.RowKit (Below)
/-! manystrand/manystrandlaw27.plays -/
def N10 (o1 : Option Addr) (o2 : Option Addr) (x3 : Int) (x4 : Int) (x5 : Int) (x6 : Int) (K : Bool → World → Prop) (w : World) : Prop :=
 AllocK w (#[(.int .i64 x3), (.int .i64 x4), (.int .i64 x5), (.int .i64 x6)]) 33 fun b7 w8 =>
 ∃ (x9 : Int), w8.cell? b7 = some (.int .i64 x9) ∧
 (BoolK ((x9 : Int) == 0)
 (∃ (x10 : Int), w8.cell? (b7.add 1) = some (.int .i64 x10) ∧
 (Calls Tryz.prog 19 #[(.pointer o1), (.int .i64 x10)] w8 fun e14 w13 =>
 ∃ (x11 : Int), ∃ (x12 : Int), e14 = .returned (.tuple #[(.int .i64 x11), (.int .i64 x12)]) ∧
 (∃ (x15 : Int), w13.cell? (b7.add 1) = some (.int .i64 x15) ∧
 (Calls Tryz.prog 23 #[(.pointer o2), (.int .i64 x15)] w13 fun e19 w18 =>
 ∃ (x16 : Int), ∃ (x17 : Int), e19 = .returned (.tuple #[(.int .i64 x16), (.int .i64 x17)]) ∧
 (BoolK ((x11 : Int) == x16)
 (K ((x12 : Int) == x17) w18)
 (K false w18))))))
 (BoolK ((x9 : Int) == 1)
 (DrewK w8 fun w20 =>
 ∃ (v21 : World), Cel v21 w20 ∧
 (∃ (x22 : Int), v21.cell? (b7.add 1) = some (.int .i64 x22) ∧
 (∃ (x23 : Int), v21.cell? (b7.add 2) = some (.int .i64 x23) ∧
 (∃ (x24 : Int), v21.cell? (b7.add 1) = some (.int .i64 x24) ∧
 (∃ (x25 : Int), v21.cell? (b7.add 2) = some (.int .i64 x25) ∧
 (Calls Tryz.prog 20 #[(.pointer o1), (.int .i64 x22), (.int .i64 x23)] w20 fun e28 w27 =>
 ∃ (x26 : Int), e28 = .returned (.int .i64 x26) ∧
 (Cel v21 w27 ∧
 (Calls Tryz.prog 24 #[(.pointer o2), (.int .i64 x24), (.int .i64 x25)] w27 fun e31 w30 =>
 ∃ (x29 : Int), e31 = .returned (.int .i64 x29) ∧
 (K ((x26 : Int) == x29) w30)))))))))
 (BoolK ((x9 : Int) == 2)
 (DrewK w8 fun w32 =>
 ∃ (v33 : World), Cel v33 w32 ∧
 (∃ (x34 : Int), v33.cell? (b7.add 1) = some (.int .i64 x34) ∧
 (∃ (x35 : Int), v33.cell? (b7.add 2) = some (.int .i64 x35) ∧
 (∃ (x36 : Int), v33.cell? (b7.add 3) = some (.int .i64 x36) ∧
 (∃ (x37 : Int), v33.cell? (b7.add 1) = some (.int .i64 x37) ∧
 (∃ (x38 : Int), v33.cell? (b7.add 2) = some (.int .i64 x38) ∧
 (∃ (x39 : Int), v33.cell? (b7.add 3) = some (.int .i64 x39) ∧
 (Calls Tryz.prog 25 #[(.pointer o1), (.int .i64 x34), (.int .i64 x35), (.int .i64 x36)] w32 fun e42 w41 =>
 ∃ (x40 : Int), e42 = .returned (.int .i64 x40) ∧
 (Cel v33 w41 ∧
 (Calls Tryz.prog 26 #[(.pointer o2), (.int .i64 x37), (.int .i64 x38), (.int .i64 x39)] w41 fun e45 w44 =>
 ∃ (x43 : Int), e45 = .returned (.int .i64 x43) ∧
 (K ((x40 : Int) == x43) w44)))))))))))
 (BoolK ((x9 : Int) == 3)
 (DrewK w8 fun w46 =>
 ∃ (v47 : World), Cel v47 w46 ∧
 (∃ (x48 : Int), v47.cell? (b7.add 1) = some (.int .i64 x48) ∧
 (∃ (x49 : Int), v47.cell? (b7.add 2) = some (.int .i64 x49) ∧
 (∃ (x50 : Int), v47.cell? (b7.add 1) = some (.int .i64 x50) ∧
 (∃ (x51 : Int), v47.cell? (b7.add 2) = some (.int .i64 x51) ∧
 (Calls Tryz.prog 17 #[(.pointer o1), (.int .i64 x48), (.int .i64 x49)] w46 fun e54 w53 =>
 ∃ (x52 : Int), e54 = .returned (.int .i64 x52) ∧
 (Cel v47 w53 ∧
 (Calls Tryz.prog 27 #[(.pointer o2), (.int .i64 x50), (.int .i64 x51)] w53 fun e57 w56 =>
 ∃ (x55 : Int), e57 = .returned (.int .i64 x55) ∧
 (K ((x52 : Int) == x55) w56)))))))))
 (BoolK ((x9 : Int) == 4)
 (DrewK w8 fun w58 =>
 ∃ (v59 : World), Cel v59 w58 ∧
 (∃ (x60 : Int), v59.cell? (b7.add 1) = some (.int .i64 x60) ∧
 (∃ (x61 : Int), v59.cell? (b7.add 2) = some (.int .i64 x61) ∧
 (∃ (x62 : Int), v59.cell? (b7.add 1) = some (.int .i64 x62) ∧
 (∃ (x63 : Int), v59.cell? (b7.add 2) = some (.int .i64 x63) ∧
 (Calls Tryz.prog 28 #[(.pointer o1), (.int .i64 x60), (.int .i64 x61)] w58 fun e66 w65 =>
 ∃ (x64 : Int), e66 = .returned (.int .i64 x64) ∧
 (Cel v59 w65 ∧
 (Calls Tryz.prog 29 #[(.pointer o2), (.int .i64 x62), (.int .i64 x63)] w65 fun e69 w68 =>
 ∃ (x67 : Int), e69 = .returned (.int .i64 x67) ∧
 (K ((x64 : Int) == x67) w68)))))))))
 (BoolK ((x9 : Int) == 5)
 (DrewK w8 fun w70 =>
 ∃ (v71 : World), Cel v71 w70 ∧
 (∃ (x72 : Int), v71.cell? (b7.add 1) = some (.int .i64 x72) ∧
 (∃ (x73 : Int), v71.cell? (b7.add 2) = some (.int .i64 x73) ∧
 (∃ (x74 : Int), v71.cell? (b7.add 1) = some (.int .i64 x74) ∧
 (∃ (x75 : Int), v71.cell? (b7.add 2) = some (.int .i64 x75) ∧
 (Calls Tryz.prog 30 #[(.pointer o1), (.int .i64 x72), (.int .i64 x73)] w70 fun e78 w77 =>
 ∃ (x76 : Int), e78 = .returned (.int .i64 x76) ∧
 (Cel v71 w77 ∧
 (Calls Tryz.prog 31 #[(.pointer o2), (.int .i64 x74), (.int .i64 x75)] w77 fun e81 w80 =>
 ∃ (x79 : Int), e81 = .returned (.int .i64 x79) ∧
 (K ((x76 : Int) == x79) w80)))))))))
 (BoolK ((x9 : Int) == 6)
 (DrewK w8 fun w82 =>
 ∃ (v83 : World), Cel v83 w82 ∧
 (∃ (x84 : Int), v83.cell? (b7.add 1) = some (.int .i64 x84) ∧
 (∃ (x85 : Int), v83.cell? (b7.add 1) = some (.int .i64 x85) ∧
 (Calls Tryz.prog 15 #[(.pointer o1), (.int .i64 x84)] w82 fun e88 w87 =>
 ∃ (x86 : Int), e88 = .returned (.int .i64 x86) ∧
 (Cel v83 w87 ∧
 (Calls Tryz.prog 32 #[(.pointer o2), (.int .i64 x85)] w87 fun e91 w90 =>
 ∃ (x89 : Int), e91 = .returned (.int .i64 x89) ∧
 (K ((x86 : Int) == x89) w90)))))))
 (BoolK ((x9 : Int) == 7)
 (DrewK w8 fun w92 =>
 ∃ (v93 : World), Cel v93 w92 ∧
 (∃ (x94 : Int), v93.cell? (b7.add 1) = some (.int .i64 x94) ∧
 (∃ (x95 : Int), v93.cell? (b7.add 1) = some (.int .i64 x95) ∧
 (Calls Tryz.prog 33 #[(.pointer o1), (.int .i64 x94)] w92 fun e98 w97 =>
 ∃ (x96 : Int), e98 = .returned (.int .i64 x96) ∧
 (Cel v93 w97 ∧
 (Calls Tryz.prog 34 #[(.pointer o2), (.int .i64 x95)] w97 fun e101 w100 =>
 ∃ (x99 : Int), e101 = .returned (.int .i64 x99) ∧
 (K ((x96 : Int) == x99) w100)))))))
 (BoolK ((x9 : Int) == 8)
 (DrewK w8 fun w102 =>
 ∃ (v103 : World), Cel v103 w102 ∧
 (∃ (x104 : Int), v103.cell? (b7.add 1) = some (.int .i64 x104) ∧
 (∃ (x105 : Int), v103.cell? (b7.add 1) = some (.int .i64 x105) ∧
 (Calls Tryz.prog 35 #[(.pointer o1), (.int .i64 x104)] w102 fun e108 w107 =>
 ∃ (x106 : Int), e108 = .returned (.int .i64 x106) ∧
 (Cel v103 w107 ∧
 (Calls Tryz.prog 36 #[(.pointer o2), (.int .i64 x105)] w107 fun e111 w110 =>
 ∃ (x109 : Int), e111 = .returned (.int .i64 x109) ∧
 (K ((x106 : Int) == x109) w110)))))))
 (BoolK ((x9 : Int) == 9)
 (∃ (x112 : Int), w8.cell? (b7.add 1) = some (.int .i64 x112) ∧
 (Calls Tryz.prog 18 #[(.pointer o1), (.int .i64 x112)] w8 fun e116 w115 =>
 ∃ (a113 : Option Addr), ∃ (l113 : Nat), ∃ (c113 : Nat), ∃ (x114 : Int), e116 = .returned (.tuple #[(.slice a113 l113 c113), (.int .i64 x114)]) ∧
 (∃ (x117 : Int), w115.cell? (b7.add 1) = some (.int .i64 x117) ∧
 (Calls Tryz.prog 37 #[(.pointer o2), (.int .i64 x117)] w115 fun e121 w120 =>
 ∃ (a118 : Option Addr), ∃ (l118 : Nat), ∃ (c118 : Nat), ∃ (x119 : Int), e121 = .returned (.tuple #[(.slice a118 l118 c118), (.int .i64 x119)]) ∧
 (Calls Tryz.prog 38 #[(.slice a113 l113 c113), (.slice a118 l118 c118)] w120 fun e124 w123 =>
 ∃ (p122 : Bool), e124 = .returned (.bool p122) ∧
 (BoolK p122
 (K ((x114 : Int) == x119) w123)
 (K false w123)))))))
 (∃ (x125 : Int), w8.cell? (b7.add 1) = some (.int .i64 x125) ∧
 (∃ (x126 : Int), w8.cell? (b7.add 2) = some (.int .i64 x126) ∧
 (Calls Tryz.prog 39 #[(.pointer o1), (.pointer o2), (.int .i64 x125), (.int .i64 x126)] w8 fun e129 w128 =>
 ∃ (p127 : Bool), e129 = .returned (.bool p127) ∧
 (BoolK p127
 (Calls Tryz.prog 41 #[(.pointer o1)] w128 fun e132 w131 =>
 ∃ (a130 : Option Addr), ∃ (l130 : Nat), ∃ (c130 : Nat), e132 = .returned (.slice a130 l130 c130) ∧
 (Calls Tryz.prog 42 #[(.pointer o2)] w131 fun e135 w134 =>
 ∃ (a133 : Option Addr), ∃ (l133 : Nat), ∃ (c133 : Nat), e135 = .returned (.slice a133 l133 c133) ∧
 (Calls Tryz.prog 40 #[(.slice a130 l130 c130), (.slice a133 l133 c133)] w134 fun e138 w137 =>
 ∃ (p136 : Bool), e138 = .returned (.bool p136) ∧
 (K p136 w137))))
 (K false w128)))))))))))))))
def ann10 : Ann := (.two .nil (.two (.two .nil (.one (.two .nil (.two (.two .nil (.two .nil (.two .nil .nil))) (.two .nil (.two (.two (.anyD 11 (.take 0 (.take 1 (.take 2 (.take 3 (.take 4 (.take 6 (.take 7 (.take 8 (.take 9 (.take 10 (.one 5 .done)))))))))))) .nil) (.two .nil (.two (.two (.anyD 15 (.take 0 (.take 1 (.take 2 (.take 3 (.take 4 (.take 5 (.take 6 (.take 8 (.take 9 (.take 10 (.take 11 (.take 12 (.take 13 (.take 14 (.one 7 .done)))))))))))))))) .nil) (.two .nil (.two (.two (.anyD 11 (.take 0 (.take 1 (.take 2 (.take 3 (.take 4 (.take 6 (.take 7 (.take 8 (.take 9 (.take 10 (.one 5 .done)))))))))))) .nil) (.two .nil (.two (.two (.anyD 11 (.take 0 (.take 1 (.take 2 (.take 3 (.take 4 (.take 6 (.take 7 (.take 8 (.take 9 (.take 10 (.one 5 .done)))))))))))) .nil) (.two .nil (.two (.two (.anyD 11 (.take 0 (.take 1 (.take 2 (.take 3 (.take 4 (.take 6 (.take 7 (.take 8 (.take 9 (.take 10 (.one 5 .done)))))))))))) .nil) (.two .nil (.two (.two (.anyD 7 (.take 0 (.take 1 (.take 2 (.take 4 (.take 5 (.take 6 (.one 3 .done)))))))) .nil) (.two .nil (.two (.two (.anyD 7 (.take 0 (.take 1 (.take 2 (.take 4 (.take 5 (.take 6 (.one 3 .done)))))))) .nil) (.two .nil (.two (.two (.anyD 7 (.take 0 (.take 1 (.take 2 (.take 4 (.take 5 (.take 6 (.one 3 .done)))))))) .nil) (.two .nil (.two (.two .nil (.two .nil (.two .nil .nil))) .nil)))))))))))))))))))))) (.two .nil .nil)))
noncomputable def code10 : Code := match Tryz.f10.body with | some c => c | none => .skip
theorem wp10 (o1 : Option Addr) (o2 : Option Addr) (x3 : Int) (x4 : Int) (x5 : Int) (x6 : Int) (K : Bool → World → Prop) (w : World) : WP Tryz.prog tab code10 ann10 (fnQ tab Tryz.f10.results.toList [(.one .bool)] K) (argE 0 [(.pointer o1), (.pointer o2), (.agg #[(.int .i64 x3), (.int .i64 x4), (.int .i64 x5), (.int .i64 x6)])]) w = N10 o1 o2 x3 x4 x5 x6 K w := by kernel_rfl
theorem calls10 (o1 : Option Addr) (o2 : Option Addr) (x3 : Int) (x4 : Int) (x5 : Int) (x6 : Int) (K : Bool → World → Prop) (w : World) (h : N10 o1 o2 x3 x4 x5 x6 K w) : Calls Tryz.prog 10 #[(.pointer o1), (.pointer o2), (.agg #[(.int .i64 x3), (.int .i64 x4), (.int .i64 x5), (.int .i64 x6)])] w fun en w' => ∃ (p139 : Bool), en = .returned (.bool p139) ∧ K p139 w' :=
 have e : (fun en w' => ExShs [(.one .bool)] fun vs => en = .returned (tupled vs) ∧ ap [(.one .bool)] K vs fun p => p w') = (fun (en : Ending) (w' : World) => ∃ (p139 : Bool), en = .returned (.bool p139) ∧ K p139 w') := by kernel_rfl
 e ▸ fn_sound tabOk mixed Tryz.func10 (by kernel_rfl : Tryz.f10.body = some code10) ann10 [(.pointer o1), (.pointer o2), (.agg #[(.int .i64 x3), (.int .i64 x4), (.int .i64 x5), (.int .i64 x6)])] [(.one .bool)] K w (by kernel_rfl) ((wp10 o1 o2 x3 x4 x5 x6 K w).symm ▸ h)
end Go.Proofs.YtgggbmikmmljcaaGreat

namespace Go.Proofs.YtgggbmikmmljcaaGreat
open Go Go.V Go.Proofs
open Go.RowKit (Below)
section
variable {S S' : CS} {k f : Nat}
def Sm (S S' : CS) : Prop := S'.things.length = S.things.length ∧ S'.clocks.length = S.clocks.length
theorem Sm.refl (S : CS) : Sm S S := ⟨rfl, rfl⟩
theorem Sm.trans {S2 : CS} (h : Sm S S') (g : Sm S' S2) : Sm S S2 := ⟨g.1.trans h.1, g.2.trans h.2⟩
theorem Sm.setTh (S : CS) (i : Nat) (t : Th) : Sm S (S.setTh i t) := ⟨by simp [CS.setTh], rfl⟩
theorem Sm.passes (q : Int × Int) (l : List Int) : ∀ S : CS, Sm S (CS.passes q l S).1 := by
  induction l with
  | nil => exact fun S => Sm.refl S
  | cons to l ih =>
    intro S; unfold CS.passes; split
    · exact Sm.trans ⟨rfl, rfl⟩ (ih (S.half q to))
    · exact Sm.refl S
theorem Sm.again (S : CS) (q : Int × Int) : Sm S (S.again q) := by
  have h := Sm.passes q (S.waits q) S
  unfold CS.again; split
  · exact h
  · exact h
theorem TakeOk.len {m : Msg} (p : TakeOk S m S') : Sm S S' := by
  unfold TakeOk at p
  split at p
  · obtain ⟨s, -, p⟩ := p
    split at p
    · subst p; exact Sm.setTh S _ _
    · subst p; exact Sm.refl S
  split at p
  · subst p; exact Sm.again ((S.unask (m.to, m.ent)).pay (m.to, m.ent) m.n) _
  split at p
  · subst p; exact Sm.refl S
  split at p
  · subst p; exact Sm.setTh S _ _
  split at p
  · split at p
    · subst p; exact Sm.refl S
    · subst p; exact Sm.setTh S _ _
  split at p <;> (subst p; exact Sm.refl _)
theorem PlayOk.len {d a b c : Int} (p : PlayOk S d a b c S') (h0 : d ≠ 0) : Sm S S' := by
  unfold PlayOk at p
  rw [if_neg h0] at p
  split at p
  · subst p; unfold CS.askS; split <;> exact Sm.refl S
  split at p
  · unfold PassOk at p
    split at p
    · split at p
      · obtain ⟨s, -, rfl⟩ := p
        split
        · exact Sm.setTh S _ _
        · exact Sm.refl S
      · subst p
        split
        · exact Sm.refl S
        · split
          · exact Sm.refl S
          · split <;> exact Sm.refl S
    · subst p; exact Sm.refl _
  split at p
  · obtain ⟨e, p⟩ := p
    unfold DropOk at p
    split at p
    · split at p
      · split at p
        · obtain ⟨-, rfl⟩ := p; exact Sm.refl _
        · obtain ⟨-, rfl⟩ := p
          split
          · exact Sm.setTh S _ _
          · exact Sm.refl S
      · obtain ⟨-, rfl⟩ := p; exact Sm.refl _
    · obtain ⟨-, rfl⟩ := p; exact Sm.refl _
  split at p
  · rcases p with rfl | ⟨_, _, rfl⟩
    · exact Sm.refl _
    · exact Sm.setTh S _ _
  split at p
  · rcases p with rfl | ⟨_, ys, zs, rfl, _⟩
    · exact Sm.refl _
    · exact Sm.setTh S _ _
  split at p
  · obtain ⟨e, p⟩ := p
    rcases p with ⟨_, _, rfl⟩ | ⟨m, _, _, _, p⟩
    · exact Sm.refl _
    · exact p.len
  split at p
  · subst p; unfold CS.drops; split <;> exact Sm.refl S
  split at p
  · exact ⟨p.len, p.clocks⟩
  split at p
  · rcases p with ⟨_, rfl⟩ | ⟨_, n, S1, S2, ys, ⟨h1, _⟩, h2, rfl, _⟩
    · exact Sm.refl _
    · exact ⟨by show S2.things.length = _; rw [h2.k.things, h1.len], by show S2.clocks.length = _; rw [h2.k.clocks, h1.eq]⟩
  · subst p; exact Sm.refl _
structure Bd (k f : Nat) (N : Prm) (S : CS) : Prop where
  n : N.n = S.things.length
  s : N.s = S.clocks.length
  p : N.p ≤ k
  o : N.o ≤ k
  h : N.h ≤ k
  f : N.f ≤ f
end
section
variable {w w' w1 w2 : World} {own own' : OwnM Role} {r r' : Raw} {S S' : CS} {κ κ' : Ka RK} {N N1 : Prm} {q : Rb} {k f : Nat} {d a b c : Int}
def PlayJ (w : World) (own : OwnM Role) (r : Raw) (S : CS) (κ : Ka RK) (q : Rb) (d a b c : Int) (k f : Nat) (w' : World) : Prop :=
  ∃ own' r' S' κ' N', Jt w' own' r' S' κ' N' q ∧ r'.b = r.b ∧ FrJ own own' κ κ' w w' ∧ PlayOk S d a b c S' ∧ Bd (k + 1) (f + k + 1) N' S'
theorem closeJ (J : Jt w1 own' r' S' κ N q) (F : FrJ own own' κ κ w w1) (er : r'.b = r.b) (hp : PlayOk S d a b c S') (hd : d ≠ 0) (B : Bd k f N S) (R : PostR κ N1 q w1 w2) (hN : N1.s = N.s ∧ N1.n = N.n ∧ N1.p ≤ N.p + 1 ∧ N1.o ≤ N.o + 1 ∧ N1.h ≤ N.h + 1 ∧ N1.f ≤ N.f + k + 1) : PlayJ w own r S κ q d a b c k f w2 := by
  obtain ⟨κ', h1, p1⟩ := R
  obtain ⟨J2, F2⟩ := J.ref h1 (FrM.of p1)
  obtain ⟨l1, l2⟩ := hp.len hd
  obtain ⟨n1, n2, n3, n4, n5, n6⟩ := hN
  have b3 := B.p; have b4 := B.o; have b5 := B.h; have b6 := B.f
  exact ⟨own', r', S', κ', N1, J2, er, F.trans F2, hp, ⟨by rw [n2, l1]; exact B.n, by rw [n1, l2]; exact B.s, by omega, by omega, by omega, by omega⟩⟩
def one (b : Nat) : Ka Unit := fun i => if i = b then some ((), 0, 0) else none
def subO (b : Nat) (w : World) : World := subK (one b) (fun _ => true) w
theorem subO_cell (w : World) (b i : Nat) : (subO b w).cell? ⟨b, i, none⟩ = w.cell? ⟨b, i, none⟩ := subK_cell (k := ()) (n := 0) (u := 0) (by simp [one]) rfl i
theorem subO_cel {b : Nat} (h : w'.heap[b]? = w.heap[b]?) : Cel (subO b w) w' := subK_cel fun i k n u e _ _ => by
  simp only [one] at e; split at e
  · rename_i hi; rw [hi]; exact h
  · cases e
theorem bx4 {b t i : Nat} {v : Value} {cs : Array Value} (h : Blk w b cs t) (hv : cs[i]? = some v) : w.cell? ((⟨b, 0, none⟩ : Addr).add i) = some v := by rw [add_mk, Nat.zero_add, h.cell]; exact hv
theorem bx40 {b t : Nat} {v : Value} {cs : Array Value} (h : Blk w b cs t) (hv : cs[0]? = some v) : w.cell? (⟨b, 0, none⟩ : Addr) = some v := by rw [h.cell]; exact hv
theorem bxO {b t i : Nat} {v : Value} {cs : Array Value} (h : Blk w b cs t) (hv : cs[i]? = some v) : (subO b w).cell? ((⟨b, 0, none⟩ : Addr).add i) = some v := by rw [add_mk, Nat.zero_add, subO_cell, h.cell]; exact hv
theorem c10 (h : Jt w own r S κ N q) (I : Inv k f S) (B : Bd k f N S) (hk : k < 1000) (hf : f ≤ 9000000) (d a b c : Int) :
    Calls Tryz.prog 10 #[cp r, rp q, .agg #[.int .i64 d, .int .i64 a, .int .i64 b, .int .i64 c]] w fun en w' => ∃ p, en = .returned (.bool p) ∧ PlayJ w own r S κ q d a b c k f w' := by
  refine calls10 _ _ _ _ _ _ (fun _ w' => PlayJ w own r S κ q d a b c k f w') w ?_
  refine AllocK.mk fun bb w8 hbb hB hx8 => ?_
  have G : Safe S := I.safe (by omega) (by omega)
  have L := G.toLim2
  have h8 := h.ext hx8
  have on : own bb = none := h.c.top bb (by omega)
  have kn : κ bb = none := h.r.fresh (by omega)
  have F8 : FrJ own own κ κ w w8 := FrJ.ext own κ hx8
  have Ith := I.th; have Ica := I.ca; have Ifl := I.fl
  have Bn := B.n; have Bp := B.p; have Bo := B.o; have Bh := B.h; have Bf := B.f
  refine ⟨_, bx40 hB rfl, BoolK.mk (fun t => ?_) (fun t0 => ?_)⟩
  · -- Make
    have e : d = 0 := by simpa using t
    subst e
    refine ⟨_, bx4 hB rfl, ?_⟩
    refine (c19 h8.c L.toLim a).mono ?_
    rintro en w13 ⟨n, e, rfl, -, P⟩
    obtain ⟨own1, r1, J, F, er, -⟩ := h8.prog P
    have hB13 := F.blk hB on kn
    refine ⟨_, _, rfl, _, bx4 hB13 rfl, ?_⟩
    refine (c23 J.r a (by omega)).mono ?_
    rintro en w18 ⟨n2, e2, rfl, R⟩
    have hp : PlayOk S 0 a b c (S.makeE a) := by unfold PlayOk; rw [if_pos rfl]
    have hiS : N.isS a ↔ S.isS a := by unfold Prm.isS CS.isS; rw [B.s]
    have done : PlayJ w own r S κ q 0 a b c k f w18 := by
      rcases R with ⟨hn, -, rfl⟩ | ⟨hy, -, κ', h1, p1⟩
      · refine ⟨own1, r1, _, κ, N, J, er, F8.trans F, hp, ?_⟩
        have : S.makeE a = S := if_neg fun hs => hn (hiS.2 hs)
        rw [this]
        exact ⟨B.n, B.s, by omega, by omega, by omega, by omega⟩
      · obtain ⟨J2, F2⟩ := J.ref h1 p1
        refine ⟨own1, r1, _, κ', N.addN, J2, er, (F8.trans F).trans F2, hp, ?_⟩
        have : S.makeE a = S.make a := if_pos (hiS.1 hy)
        rw [this]
        exact ⟨by show N.n + 1 = _; simp [CS.make, B.n], B.s, by show N.p ≤ _; omega, by show N.o ≤ _; omega, by show N.h ≤ _; omega, by show N.f ≤ _; omega⟩
    exact ⟨_, _, rfl, BoolK.mk (fun _ => done) (fun _ => done)⟩
  have n0 : d ≠ 0 := by simpa using t0
  refine BoolK.mk (fun t => ?_) (fun t1 => ?_)
  · have e : d = 1 := by simpa using t
    subst e
    refine DrewK.mk fun w20 hx20 => ?_
    have hB := hB.ext hx20
    have h20 := h8.ext hx20
    refine ⟨subO bb w20, subO_cel rfl, _, bxO hB rfl, _, bxO hB rfl, _, bxO hB rfl, _, bxO hB rfl, ?_⟩
    refine (c20 h20.c L.toLim a b).mono ?_
    rintro en w27 ⟨e, rfl, -, P⟩
    obtain ⟨own1, r1, J, F, er, -⟩ := h20.prog P
    refine ⟨_, rfl, subO_cel (F.block bb hB.lt on kn), ?_⟩
    refine (c24 J.r a b (by omega)).mono ?_
    rintro en w30 ⟨e2, rfl, R⟩
    exact ⟨_, rfl, closeJ J ((F8.trans (FrJ.ext own κ hx20)).trans F) er (by unfold PlayOk; rw [if_neg n0, if_pos rfl]) n0 B R ⟨rfl, rfl, by show N.p ≤ _; omega, by show N.o ≤ _; omega, by show N.h ≤ _; omega, by show N.f + 1 ≤ _; omega⟩⟩
  have n1 : d ≠ 1 := by simpa using t1
  refine BoolK.mk (fun t => ?_) (fun t2 => ?_)
  · have e : d = 2 := by simpa using t
    subst e
    refine DrewK.mk fun w20 hx20 => ?_
    have hB := hB.ext hx20
    have h20 := h8.ext hx20
    refine ⟨subO bb w20, subO_cel rfl, _, bxO hB rfl, _, bxO hB rfl, _, bxO hB rfl, _, bxO hB rfl, _, bxO hB rfl, _, bxO hB rfl, ?_⟩
    refine (c25 h20.c G a b c).mono ?_
    rintro en w27 ⟨e, rfl, S', hS, P⟩
    obtain ⟨own1, r1, J, F, er, -⟩ := h20.prog P
    refine ⟨_, rfl, subO_cel (F.block bb hB.lt on kn), ?_⟩
    refine (c26 J.r a b c (by omega) (by omega)).mono ?_
    rintro en w30 ⟨e2, rfl, R⟩
    exact ⟨_, rfl, closeJ J ((F8.trans (FrJ.ext own κ hx20)).trans F) er (by unfold PlayOk; rw [if_neg n0, if_neg n1, if_pos rfl]; exact hS) n0 B R ⟨rfl, rfl, by show N.p + 1 ≤ _; omega, by show N.o ≤ _; omega, by show N.h ≤ _; omega, by show N.f + 1 ≤ _; omega⟩⟩
  have n2 : d ≠ 2 := by simpa using t2
  refine BoolK.mk (fun t => ?_) (fun t3 => ?_)
  · have e : d = 3 := by simpa using t
    subst e
    refine DrewK.mk fun w20 hx20 => ?_
    have hB := hB.ext hx20
    have h20 := h8.ext hx20
    refine ⟨subO bb w20, subO_cel rfl, _, bxO hB rfl, _, bxO hB rfl, _, bxO hB rfl, _, bxO hB rfl, ?_⟩
    refine (c17 h20.c G a b).mono ?_
    rintro en w27 ⟨e, rfl, S', hS, P⟩
    obtain ⟨own1, r1, J, F, er, -⟩ := h20.prog P
    refine ⟨_, rfl, subO_cel (F.block bb hB.lt on kn), ?_⟩
    refine (c27 J.r a b (by omega)).mono ?_
    rintro en w30 ⟨e2, rfl, R⟩
    exact ⟨_, rfl, closeJ J ((F8.trans (FrJ.ext own κ hx20)).trans F) er (by unfold PlayOk; rw [if_neg n0, if_neg n1, if_neg n2, if_pos rfl]; exact ⟨_, hS⟩) n0 B R ⟨rfl, rfl, by show N.p ≤ _; omega, by show N.o ≤ _; omega, by show N.h ≤ _; omega, by show N.f + 1 ≤ _; omega⟩⟩
  have n3 : d ≠ 3 := by simpa using t3
  refine BoolK.mk (fun t => ?_) (fun t4 => ?_)
  · have e : d = 4 := by simpa using t
    subst e
    refine DrewK.mk fun w20 hx20 => ?_
    have hB := hB.ext hx20
    have h20 := h8.ext hx20
    refine ⟨subO bb w20, subO_cel rfl, _, bxO hB rfl, _, bxO hB rfl, _, bxO hB rfl, _, bxO hB rfl, ?_⟩
    refine (c28 h20.c G (by omega) a b).mono ?_
    rintro en w27 ⟨e, rfl, S', hS, P⟩
    obtain ⟨own1, r1, J, F, er, -⟩ := h20.prog P
    refine ⟨_, rfl, subO_cel (F.block bb hB.lt on kn), ?_⟩
    refine (c29 J.r a b (by omega) (by omega)).mono ?_
    rintro en w30 ⟨e2, rfl, R⟩
    exact ⟨_, rfl, closeJ J ((F8.trans (FrJ.ext own κ hx20)).trans F) er (by unfold PlayOk; rw [if_neg n0, if_neg n1, if_neg n2, if_neg n3, if_pos rfl]; exact hS) n0 B R ⟨rfl, rfl, by show N.p ≤ _; omega, by show N.o + 1 ≤ _; omega, by show N.h + 1 ≤ _; omega, by show N.f ≤ _; omega⟩⟩
  have n4 : d ≠ 4 := by simpa using t4
  refine BoolK.mk (fun t => ?_) (fun t5 => ?_)
  · have e : d = 5 := by simpa using t
    subst e
    refine DrewK.mk fun w20 hx20 => ?_
    have hB := hB.ext hx20
    have h20 := h8.ext hx20
    refine ⟨subO bb w20, subO_cel rfl, _, bxO hB rfl, _, bxO hB rfl, _, bxO hB rfl, _, bxO hB rfl, ?_⟩
    refine (c30 h20.c G (by omega) a b).mono ?_
    rintro en w27 ⟨e, rfl, S', hS, P⟩
    obtain ⟨own1, r1, J, F, er, -⟩ := h20.prog P
    refine ⟨_, rfl, subO_cel (F.block bb hB.lt on kn), ?_⟩
    refine (c31 J.r a b).mono ?_
    rintro en w30 ⟨e2, rfl, R⟩
    exact ⟨_, rfl, closeJ J ((F8.trans (FrJ.ext own κ hx20)).trans F) er (by unfold PlayOk; rw [if_neg n0, if_neg n1, if_neg n2, if_neg n3, if_neg n4, if_pos rfl]; exact hS) n0 B R ⟨rfl, rfl, by omega, by omega, by omega, by omega⟩⟩
  have n5 : d ≠ 5 := by simpa using t5
  refine BoolK.mk (fun t => ?_) (fun t6 => ?_)
  · have e : d = 6 := by simpa using t
    subst e
    refine DrewK.mk fun w20 hx20 => ?_
    have hB := hB.ext hx20
    have h20 := h8.ext hx20
    refine ⟨subO bb w20, subO_cel rfl, _, bxO hB rfl, _, bxO hB rfl, ?_⟩
    refine (c15 h20.c G a).mono ?_
    rintro en w27 ⟨e, rfl, S', hS, P⟩
    obtain ⟨own1, r1, J, F, er, -⟩ := h20.prog P
    refine ⟨_, rfl, subO_cel (F.block bb hB.lt on kn), ?_⟩
    refine (c32 J.r a (by omega)).mono ?_
    rintro en w30 ⟨e2, rfl, R⟩
    exact ⟨_, rfl, closeJ J ((F8.trans (FrJ.ext own κ hx20)).trans F) er (by unfold PlayOk; rw [if_neg n0, if_neg n1, if_neg n2, if_neg n3, if_neg n4, if_neg n5, if_pos rfl]; exact ⟨_, hS⟩) n0 B R ⟨rfl, rfl, by show N.p ≤ _; omega, by show N.o ≤ _; omega, by show N.h ≤ _; omega, by show N.f + (N.p + 1) ≤ _; omega⟩⟩
  have n6 : d ≠ 6 := by simpa using t6
  refine BoolK.mk (fun t => ?_) (fun t7 => ?_)
  · have e : d = 7 := by simpa using t
    subst e
    refine DrewK.mk fun w20 hx20 => ?_
    have hB := hB.ext hx20
    have h20 := h8.ext hx20
    refine ⟨subO bb w20, subO_cel rfl, _, bxO hB rfl, _, bxO hB rfl, ?_⟩
    refine (c33 h20.c L.toLim a).mono ?_
    rintro en w27 ⟨e, rfl, P⟩
    obtain ⟨own1, r1, J, F, er, -⟩ := h20.prog P
    refine ⟨_, rfl, subO_cel (F.block bb hB.lt on kn), ?_⟩
    refine (c34 J.r a).mono ?_
    rintro en w30 ⟨e2, rfl, R⟩
    exact ⟨_, rfl, closeJ J ((F8.trans (FrJ.ext own κ hx20)).trans F) er (by unfold PlayOk; rw [if_neg n0, if_neg n1, if_neg n2, if_neg n3, if_neg n4, if_neg n5, if_neg n6, if_pos rfl]) n0 B R ⟨rfl, rfl, by omega, by omega, by omega, by omega⟩⟩
  have n7 : d ≠ 7 := by simpa using t7
  refine BoolK.mk (fun t => ?_) (fun t8 => ?_)
  · have e : d = 8 := by simpa using t
    subst e
    refine DrewK.mk fun w20 hx20 => ?_
    have hB := hB.ext hx20
    have h20 := h8.ext hx20
    refine ⟨subO bb w20, subO_cel rfl, _, bxO hB rfl, _, bxO hB rfl, ?_⟩
    refine (c35 h20.c G (by omega) a).mono ?_
    rintro en w27 ⟨e, rfl, S', hS, P⟩
    obtain ⟨own1, r1, J, F, er, -⟩ := h20.prog P
    refine ⟨_, rfl, subO_cel (F.block bb hB.lt on kn), ?_⟩
    refine (c36 J.r a (by omega)).mono ?_
    rintro en w30 ⟨e2, rfl, R⟩
    exact ⟨_, rfl, closeJ J ((F8.trans (FrJ.ext own κ hx20)).trans F) er (by unfold PlayOk; rw [if_neg n0, if_neg n1, if_neg n2, if_neg n3, if_neg n4, if_neg n5, if_neg n6, if_neg n7, if_pos rfl]; exact hS) n0 B R ⟨rfl, rfl, by show N.p ≤ _; omega, by show N.o ≤ _; omega, by show N.h ≤ _; omega, by show N.f + N.n ≤ _; omega⟩⟩
  have n8 : d ≠ 8 := by simpa using t8
  refine BoolK.mk (fun t => ?_) (fun t9 => ?_)
  · have e : d = 9 := by simpa using t
    subst e
    refine ⟨_, bx4 hB rfl, ?_⟩
    refine (c18 h8.c G (by omega) I.caT a).mono ?_
    rintro en w115 ⟨a1, l1, c1, e1, rfl, ys, S', hys, hyl, hbk, P, hS⟩
    obtain ⟨own1, r1, J, F, er, kp⟩ := h8.prog P
    have hB2 := F.blk hB on kn
    refine ⟨_, _, _, _, rfl, _, bx4 hB2 rfl, ?_⟩
    refine (c37 J.r a (by omega)).mono ?_
    rintro en w120 ⟨a2, l2, c2, e2, rfl, κ', h1, p1, hs⟩
    have hI := (RdI.of hys).keep (w' := w120) fun p hp hlt => p1.block _ hlt (h8.r.fresh (hbk p hp))
    have hl1 : l1 = ys.length := hys.1
    refine ⟨_, _, _, _, rfl, ?_⟩
    refine (c38 w120 c1 c2 hI (RdI.sl h1 hs) (by omega)).mono ?_
    rintro en w123 ⟨p, rfl, hx123⟩
    have hp : PlayOk S 9 a b c S' := by
      unfold PlayOk
      rw [if_neg n0, if_neg n1, if_neg n2, if_neg n3, if_neg n4, if_neg n5, if_neg n6, if_neg n7, if_neg n8, if_pos rfl]
      rcases hS with ⟨x1, -, -, x2⟩ | ⟨x1, -, x2⟩
      · exact .inl ⟨x1, x2⟩
      · exact .inr ⟨x1, _, x2⟩
    have done : PlayJ w own r S κ q 9 a b c k f w123 := closeJ J (F8.trans F) er hp n0 B (PostR.mk (h1.ext hx123) (p1.trans (h1.pkExt hx123))) ⟨rfl, rfl, by show N.p ≤ _; omega, by show N.o ≤ _; omega, by show N.h ≤ _; omega, by show N.f + N.o ≤ _; omega⟩
    exact ⟨_, rfl, BoolK.mk (fun _ => done) (fun _ => done)⟩
  · have n9 : d ≠ 9 := by simpa using t9
    have hp : PlayOk S d a b c S := by
      unfold PlayOk
      rw [if_neg n0, if_neg n1, if_neg n2, if_neg n3, if_neg n4, if_neg n5, if_neg n6, if_neg n7, if_neg n8, if_neg n9]
    refine ⟨_, bx4 hB rfl, _, bx4 hB rfl, ?_⟩
    refine (c39 h8 L a b).mono ?_
    rintro en w128 ⟨p, rfl, hx128⟩
    have h128 := h8.ext hx128
    refine ⟨_, rfl, BoolK.mk (fun _ => ?_) (fun _ => closeJ h128 (F8.trans (FrJ.ext own κ hx128)) rfl hp n0 B (PostR.mk h128.r (Pk.refl _ _ _)) ⟨rfl, rfl, by omega, by omega, by omega, by omega⟩)⟩
    refine (c41 h128.c L (by have := I.ck; omega) (fun t ht y hy => by obtain ⟨x, hx, rfl⟩ := mem_th ht; exact (I.onl x hx).2 y hy)).mono ?_
    rintro en w131 ⟨a1, l1, c1, rfl, hM, hx131⟩
    have h131 := h128.ext hx131
    refine ⟨_, _, _, rfl, ?_⟩
    refine (c42 h131.r).mono ?_
    rintro en w134 ⟨a2, l2, c2, rfl, κ', h1, p1, hs, hl2⟩
    have hM2 := hM.kept (w' := w134) fun j hj hlt => p1.block j hlt (h128.r.fresh hj)
    obtain ⟨dd, hd1, hd2⟩ := hM2.lists
    refine ⟨_, _, _, rfl, ?_⟩
    refine (c40 w134 c1 c2 (RdL.of hd1 hd2) (RdL.sl h1 hs) (by omega) (by omega)).mono ?_
    rintro en w137 ⟨p2, rfl, hx137⟩
    exact ⟨_, rfl, closeJ h131 ((F8.trans (FrJ.ext own κ hx128)).trans (FrJ.ext own κ hx131)) rfl hp n0 B (PostR.mk (h1.ext hx137) (p1.trans (h1.pkExt hx137))) ⟨rfl, rfl, by omega, by omega, by omega, by omega⟩⟩
end
end Go.Proofs.YtgggbmikmmljcaaGreat

namespace Go.Proofs.YtgggbmikmmljcaaGreat
open Go Go.V Go.Proofs
open Go.RowKit (Below)
/-! manystrand/manystrandlaw27.proxies -/
def N9 (o1 : Option Addr) (o2 : Option Addr) (K : Option Nat → World → Prop) (w : World) : Prop :=
 ∃ (m3 : Option Nat), ∃ (w4 : World), Sem.run Tryz.prog (Instr.makeMap 31 none) w = .ok (.map m3) w4 ∧
 (∃ (I5 : Int → World → Prop) (μ6 : Int → World → Nat),
 (I5 1 w4 ∧ True) ∧
 ∀ (w7 : World) (x8 : Int), I5 x8 w7 →
 AddrK o2 fun b9 =>
 ∃ (a10 : Option Addr) (l10 : Nat) (c10 : Nat), w7.cell? (b9.add 4) = some (.slice a10 l10 c10) ∧
 (BoolK (decide ((x8 : Int) ≤ (l10 : Nat)))
 (AddrK o2 fun b11 =>
 ∃ (x12 : Int), w7.cell? b11 = some (.int .i64 x12) ∧
 (∃ (I13 : Int → World → Prop) (μ14 : Int → World → Nat),
 (I13 0 w7 ∧ True) ∧
 ∀ (w15 : World) (x16 : Int), I13 x16 w15 →
 BoolK (decide ((x16 : Int) < x12))
 (DrewK w15 fun w17 =>
 (∃ (x18 : Int), ∃ (w19 : World), Sem.run Tryz.prog (Instr.lookup 31 (.map m3) (.int .i64 x8) false) w17 = .ok (.int .i64 x18) w19 ∧
 (Cel w17 w19 ∧
 (Calls Tryz.prog 12 #[(.pointer o1), (.int .i64 x16), (.int .i64 x8)] w19 fun e22 w21 =>
 ∃ (x20 : Int), e22 = .returned (.int .i64 x20) ∧
 (Cel w17 w21 ∧
 (∃ (w23 : World), Sem.run Tryz.prog (Instr.mapUpdate 31 (.map m3) (.int .i64 x8) (.int .i64 (IntKind.wrap .i64 (x18 + x20)))) w21 = .ok () w23 ∧
 (I13 (IntKind.wrap .i64 (x16 + 1)) w23 ∧ μ14 (IntKind.wrap .i64 (x16 + 1)) w23 < μ14 x16 w15)))))) ∧
 (Calls Tryz.prog 12 #[(.pointer o1), (.int .i64 x16), (.int .i64 x8)] w17 fun e26 w25 =>
 ∃ (x24 : Int), e26 = .returned (.int .i64 x24) ∧
 (Cel w17 w25 ∧
 (∃ (x27 : Int), ∃ (w28 : World), Sem.run Tryz.prog (Instr.lookup 31 (.map m3) (.int .i64 x8) false) w25 = .ok (.int .i64 x27) w28 ∧
 (Cel w17 w28 ∧
 (∃ (w29 : World), Sem.run Tryz.prog (Instr.mapUpdate 31 (.map m3) (.int .i64 x8) (.int .i64 (IntKind.wrap .i64 (x27 + x24)))) w28 = .ok () w29 ∧
 (I13 (IntKind.wrap .i64 (x16 + 1)) w29 ∧ μ14 (IntKind.wrap .i64 (x16 + 1)) w29 < μ14 x16 w15)))))))
 (I5 (IntKind.wrap .i64 (x8 + 1)) w15 ∧ μ6 (IntKind.wrap .i64 (x8 + 1)) w15 < μ6 x8 w7)))
 (K m3 w7)))
def ann9 : Ann := (.two .nil (.two .nil (.two (.two .nil (.one (.loop [(6, (.one (.int .i64)))] [0, 1, 5] (.two (.two .nil (.two .nil .nil)) (.two (.one (.two .nil (.one (.loop [(22, (.one (.int .i64)))] [0, 1, 5, 6, 21] (.two .nil (.two (.two .nil .nil) (.two (.one (.two .nil (.any 8 (.take 0 (.take 1 (.take 3 (.take 4 (.take 5 (.both 2 (.one 6 (.take 7 .done)) (.one 6 (.one 2 (.take 7 .done)))))))))))) .nil))))))) .nil))))) (.two .nil .nil))))
noncomputable def code9 : Code := match Tryz.f9.body with | some c => c | none => .skip
theorem wp9 (o1 : Option Addr) (o2 : Option Addr) (K : Option Nat → World → Prop) (w : World) : WP Tryz.prog tab code9 ann9 (fnQ tab Tryz.f9.results.toList [(.one .map)] K) (argE 0 [(.pointer o1), (.pointer o2)]) w = N9 o1 o2 K w := by kernel_rfl
theorem calls9 (o1 : Option Addr) (o2 : Option Addr) (K : Option Nat → World → Prop) (w : World) (h : N9 o1 o2 K w) : Calls Tryz.prog 9 #[(.pointer o1), (.pointer o2)] w fun en w' => ∃ (m30 : Option Nat), en = .returned (.map m30) ∧ K m30 w' :=
 have e : (fun en w' => ExShs [(.one .map)] fun vs => en = .returned (tupled vs) ∧ ap [(.one .map)] K vs fun p => p w') = (fun (en : Ending) (w' : World) => ∃ (m30 : Option Nat), en = .returned (.map m30) ∧ K m30 w') := by kernel_rfl
 e ▸ fn_sound tabOk mixed Tryz.func9 (by kernel_rfl : Tryz.f9.body = some code9) ann9 [(.pointer o1), (.pointer o2)] [(.one .map)] K w (by kernel_rfl) ((wp9 o1 o2 K w).symm ▸ h)
end Go.Proofs.YtgggbmikmmljcaaGreat

namespace Go.Proofs.YtgggbmikmmljcaaGreat
open Go Go.V Go.Proofs
open Go.RowKit (Below)
section
variable {w w' w1 w2 : World} {own own' : OwnM Role} {r r' : Raw} {S S' : CS} {κ κ' : Ka RK} {N N1 : Prm} {q : Rb} {k f : Nat}
theorem mapN : MapT Tryz.prog 31 3 3 eK eK 0 := ⟨by kernel_rfl, keyInt (by kernel_rfl), fun w => by kernel_rfl⟩
def sums (S : CS) (n : Int) (t : Int) : Int := if 1 ≤ t ∧ t ≤ n then px S.prox S.clocks.length t else 0
theorem px_lt (I : Inv k f S) {j : Nat} (hj : j ≤ S.clocks.length) (t : Int) : px S.prox j t ≤ 65536 * k := by
  have h1 : px S.prox j t ≤ px S.prox S.clocks.length t := by
    generalize S.clocks.length = n at hj
    induction hj with
    | refl => exact Int.le_refl _
    | step _ ih => simp only [px]; have := I.px; rename_i m _; have := this ((m : Int), t); omega
  have := I.df t; have := I.flw t; have := I.outT1 t
  simp only [CS.dif] at *; omega
theorem c9 (h : Jt w own r S κ N q) (I : Inv k f S) (B : Bd k f N S) (hk : k ≤ 1000) : Calls Tryz.prog 9 #[cp r, rp q] w fun en w' => ∃ m, en = .returned (.map m) ∧
    ∃ g, m = some g ∧ w.heap.size ≤ g ∧ MapF eK eK 0 w' g (sums S S.things.length) ∧ Ext w w' := by
  refine calls9 _ _ (fun m w' => ∃ g, m = some g ∧ w.heap.size ≤ g ∧ MapF eK eK 0 w' g (sums S S.things.length) ∧ Ext w w') w ?_
  obtain ⟨w4, q4, M4, x4⟩ := MapF.make (P := Tryz.prog) (t := 31) (enc := eK) eK 0 w
  refine ⟨_, w4, q4, ?_⟩
  have Ith := I.th
  have Bn := B.n; have Bs := B.s; have ck := I.ck
  refine ⟨fun x w' => ∃ j : Nat, x = j + 1 ∧ j ≤ S.things.length ∧ MapF eK eK 0 w' w.heap.size (sums S j) ∧ Ext w w', fun x _ => S.things.length + 1 - x.toNat, ⟨⟨0, rfl, Nat.zero_le _, M4.congr fun t => (if_neg (by omega)).symm, x4⟩, trivial⟩, ?_⟩
  rintro w7 x ⟨j, rfl, hj, M7, x7⟩
  have h7 := h.ext x7
  obtain ⟨a4, c4, e4, _⟩ := h7.r.c4
  refine ⟨a4, N.n, c4, e4, BoolK.mk (fun t => ?_) (fun t => ?_)⟩
  · have t := of_decide_eq_true t
    refine ⟨N.s, h7.r.c0, ?_⟩
    refine ⟨fun y w' => ∃ i : Nat, y = i ∧ i ≤ S.clocks.length ∧ MapF eK eK 0 w' w.heap.size (fun t => if t = (j : Int) + 1 then px S.prox i t else sums S j t) ∧ Ext w w', fun y _ => S.clocks.length - y.toNat, ⟨⟨0, rfl, Nat.zero_le _, M7.congr fun t => ?_, x7⟩, trivial⟩, ?_⟩
    · split
      · exact if_neg (by omega)
      · rfl
    rintro w15 y ⟨i, rfl, hi, M15, x15⟩
    refine BoolK.mk (fun t2 => ?_) (fun t2 => ?_)
    · have t2 := of_decide_eq_true t2
      refine DrewK.mk fun w17 x17 => ?_
      have M17 := M15.ext x17
      have x := x15.trans x17
      have h17 := h.ext x
      have lk := M17.lookup mapN ((j : Int) + 1)
      simp only [if_true] at lk
      have hpx : 0 ≤ px S.prox i ((j : Int) + 1) := px_nonneg I.px _ _
      have hp1 : 0 ≤ S.prox ((i : Int), (j : Int) + 1) := I.px _
      have hb := px_lt I (j := i + 1) (by omega) ((j : Int) + 1)
      have ep : px S.prox (i + 1) ((j : Int) + 1) = px S.prox i ((j : Int) + 1) + S.prox ((i : Int), (j : Int) + 1) := rfl
      have fin : ∀ v, v = px S.prox i ((j : Int) + 1) + S.prox ((i : Int), (j : Int) + 1) → ∃ w23, Sem.run Tryz.prog (Instr.mapUpdate 31 (.map (some w.heap.size)) (.int .i64 ((j : Int) + 1)) (.int .i64 (IntKind.wrap .i64 v))) w17 = .ok () w23 ∧
          ((∃ i2 : Nat, IntKind.wrap .i64 ((i : Int) + 1) = i2 ∧ i2 ≤ S.clocks.length ∧ MapF eK eK 0 w23 w.heap.size (fun t => if t = (j : Int) + 1 then px S.prox i2 t else sums S j t) ∧ Ext w w23) ∧ S.clocks.length - (IntKind.wrap .i64 ((i : Int) + 1)).toNat < S.clocks.length - (i : Int).toNat) := by
        rintro v rfl
        obtain ⟨w23, u1, u2, u3⟩ := M17.update mapN ((j : Int) + 1) (px S.prox i ((j : Int) + 1) + S.prox ((i : Int), (j : Int) + 1))
        rw [wrap_id (by omega) (by omega)]
        refine ⟨w23, u1, ?_⟩
        rw [wrap_id (by omega) (by omega)]
        refine ⟨⟨i + 1, by omega, by omega, u2.congr fun t => ?_, u3.below x (Nat.le_refl _)⟩, by omega⟩
        unfold upd
        by_cases e : t = (j : Int) + 1
        · rw [if_pos e, if_pos e, e, ep]
        · rw [if_neg e, if_neg e]; exact if_neg e
      constructor
      · refine ⟨_, w17, lk, Cel.refl _, (c12 h17.c i ((j : Int) + 1)).mono ?_⟩
        rintro en w21 ⟨p, rfl, rfl, rfl⟩
        exact ⟨_, rfl, Cel.refl _, fin _ rfl⟩
      · refine (c12 h17.c i ((j : Int) + 1)).mono ?_
        rintro en w21 ⟨p, rfl, rfl, rfl⟩
        exact ⟨_, rfl, Cel.refl _, _, _, lk, Cel.refl _, fin _ rfl⟩
    · have t2 := of_decide_eq_false t2
      have e : i = S.clocks.length := by omega
      subst e
      rw [wrap_id (by omega) (by omega)]
      refine ⟨⟨j + 1, by omega, by omega, M15.congr fun t => ?_, x15⟩, by show S.things.length + 1 - ((j : Int) + 1 + 1).toNat < S.things.length + 1 - ((j : Int) + 1).toNat; omega⟩
      unfold sums
      by_cases e : t = (j : Int) + 1
      · rw [if_pos e, if_pos (by omega)]
      · rw [if_neg e]
        by_cases e2 : 1 ≤ t ∧ t ≤ (j : Int)
        · rw [if_pos e2, if_pos (by omega)]
        · rw [if_neg e2, if_neg (by omega)]
  · have t := of_decide_eq_false t
    have e : j = S.things.length := by omega
    subst e
    exact ⟨_, rfl, Nat.le_refl _, M7, x7⟩
end
end Go.Proofs.YtgggbmikmmljcaaGreat

namespace Go.Proofs.YtgggbmikmmljcaaGreat
open Go Go.V Go.Proofs
open Go.RowKit (Below)
/-! manystrand/manystrandlaw27.awake -/
def N6 (K : Bool → World → Prop) (w : World) : Prop :=
 Calls Tryz.prog 5 #[(.int .i64 2), (.int .i64 5), (.int .i64 5)] w fun e4 w3 =>
 ∃ (o1 : Option Addr), ∃ (x2 : Int), e4 = .returned (.tuple #[(.pointer o1), (.int .i64 x2)]) ∧
 (BoolK ((x2 : Int) != 0)
 (K false w3)
 (Calls Tryz.prog 19 #[(.pointer o1), (.int .i64 0)] w3 fun e8 w7 =>
 ∃ (x5 : Int), ∃ (x6 : Int), e8 = .returned (.tuple #[(.int .i64 x5), (.int .i64 x6)]) ∧
 (Calls Tryz.prog 20 #[(.pointer o1), (.int .i64 1), (.int .i64 x5)] w7 fun e11 w10 =>
 ∃ (x9 : Int), e11 = .returned (.int .i64 x9) ∧
 (Calls Tryz.prog 15 #[(.pointer o1), (.int .i64 0)] w10 fun e14 w13 =>
 ∃ (x12 : Int), e14 = .returned (.int .i64 x12) ∧
 (Calls Tryz.prog 15 #[(.pointer o1), (.int .i64 0)] w13 fun e17 w16 =>
 ∃ (x15 : Int), e17 = .returned (.int .i64 x15) ∧
 (BoolK ((x5 : Int) == 1)
 (BoolK ((x6 : Int) == 0)
 (BoolK ((x9 : Int) == 0)
 (BoolK ((x12 : Int) == 0)
 (BoolK ((x15 : Int) == 0)
 (Calls Tryz.prog 12 #[(.pointer o1), (.int .i64 1), (.int .i64 1)] w16 fun e20 w19 =>
 ∃ (x18 : Int), e20 = .returned (.int .i64 x18) ∧
 (BoolK ((x18 : Int) == 65536)
 (Calls Tryz.prog 13 #[(.pointer o1), (.int .i64 1)] w19 fun e23 w22 =>
 ∃ (s21 : ByteArray), e23 = .returned (.string s21) ∧
 (K ((s21 : ByteArray).toList == ((⟨#[108, 105, 118, 101]⟩ : ByteArray) : ByteArray).toList) w22))
 (K false w19)))
 (K false w16))
 (K false w16))
 (K false w16))
 (K false w16))
 (K false w16)))))))
def ann6 : Ann := (.two .nil (.two .nil (.two (.two .nil (.two (.two .nil .nil) .nil)) (.two .nil (.two .nil (.two .nil (.two .nil (.two .nil .nil))))))))
noncomputable def code6 : Code := match Tryz.f6.body with | some c => c | none => .skip
theorem wp6 (K : Bool → World → Prop) (w : World) : WP Tryz.prog tab code6 ann6 (fnQ tab Tryz.f6.results.toList [(.one .bool)] K) (argE 0 []) w = N6 K w := by kernel_rfl
theorem calls6 (K : Bool → World → Prop) (w : World) (h : N6 K w) : Calls Tryz.prog 6 #[] w fun en w' => ∃ (p24 : Bool), en = .returned (.bool p24) ∧ K p24 w' :=
 have e : (fun en w' => ExShs [(.one .bool)] fun vs => en = .returned (tupled vs) ∧ ap [(.one .bool)] K vs fun p => p w') = (fun (en : Ending) (w' : World) => ∃ (p24 : Bool), en = .returned (.bool p24) ∧ K p24 w') := by kernel_rfl
 e ▸ fn_sound tabOk mixed Tryz.func6 (by kernel_rfl : Tryz.f6.body = some code6) ann6 [] [(.one .bool)] K w (by kernel_rfl) ((wp6 K w).symm ▸ h)
end Go.Proofs.YtgggbmikmmljcaaGreat

namespace Go.Proofs.YtgggbmikmmljcaaGreat
open Go Go.V Go.Proofs
open Go.RowKit (Below)
theorem isK_dec (s k : ByteArray) : isK s k = decide (bl s = bl k) := bl_eq s k
def A0 : CS := CS.zero 2 5 5
def A1 : CS := A0.make 0
def A2 : CS := ({ A1 with asked := upd A1.asked (1, 1) true }).send ⟨1, 0, kAsk, 1, 0⟩
def A3 : CS := (A2.take 0).give 1 kGive 1 ⟨0, true, 0, 0, false, false, []⟩
def A4 : CS := (((A3.take 0).unask (1, 1)).pay (1, 1) 65536).cut (1, 1)
theorem a1 : A0.makeE 0 = A1 := by rw [CS.makeE, if_pos (by decide)]; rfl
theorem a2 : A1.askS 1 1 = A2 := by rw [CS.askS, if_pos ⟨by decide, rfl, by decide, rfl, rfl⟩]; rfl
theorem live1 {S : CS} {s : ByteArray} (hT : S.isT 1) (h1 : (S.th 1).expired = false) (h2 : (S.th 1).holds = true) (h3 : (S.th 1).swept = false) (h : StateOk S 1 s) : isK s kLive = true := by
  rcases h with ⟨h, _⟩ | ⟨_, ⟨h, _⟩ | ⟨_, _, h⟩ | ⟨_, rfl, _⟩⟩
  · exact absurd hT h
  · rw [h1] at h; cases h
  · rcases h with h | ⟨_, h, _⟩
    · rw [h3] at h; cases h
    · rw [h2] at h; cases h
  · rw [isK_dec]; decide
theorem a3 {e : Int} {S' : CS} (h : DelOk A2 0 e S') : e = 0 ∧ S' = A3 := by
  rcases h with ⟨h, _⟩ | ⟨m, _, hm, rfl, ht⟩
  · exact absurd (by decide) h
  · have : m = ⟨1, 0, kAsk, 1, 0⟩ := by have : some m = some ⟨1, 0, kAsk, 1, 0⟩ := hm.symm.trans rfl; cases this; rfl
    subst this
    unfold TakeOk at ht
    rw [if_pos (by simp only [isK_dec]; decide)] at ht
    obtain ⟨s, hs, ht⟩ := ht
    rw [if_pos (live1 (by decide) rfl rfl rfl hs)] at ht
    exact ⟨rfl, ht⟩
theorem a4 {e : Int} {S' : CS} (h : DelOk A3 0 e S') : e = 0 ∧ S' = A4 := by
  rcases h with ⟨h, _⟩ | ⟨m, _, hm, rfl, ht⟩
  · exact absurd (by decide) h
  · have : m = ⟨0, 1, kGive, 1, 65536⟩ := by have : some m = some ⟨0, 1, kGive, 1, 65536⟩ := hm.symm.trans rfl; cases this; rfl
    subst this
    unfold TakeOk at ht
    rw [if_neg (by simp only [isK_dec]; decide), if_pos (by simp only [isK_dec]; decide)] at ht
    refine ⟨rfl, ht.trans ?_⟩
    rw [CS.again, if_pos (by rfl)]; rfl
theorem safeOf {S : CS} (h1 : S.things.length ≤ 1) (h2 : S.fly.length ≤ 1) (h3 : ∀ t ∈ S.things, t.on = [] ∧ S.isS t.owner ∧ 0 ≤ t.out ∧ t.out ≤ 65536) (h4 : ∀ k, 0 ≤ S.prox k ∧ S.prox k ≤ 65536) (h5 : ∀ m ∈ S.fly, S.isT m.ent ∧ 0 ≤ m.n ∧ m.n ≤ 65536) (h6 : ∀ k, S.waits k = []) : Safe S where
  th := by omega
  fly := by omega
  on := fun t ht => by rw [(h3 t ht).1]; simp
  own := fun t ht => (h3 t ht).2.1
  out := fun t ht => by have := (h3 t ht).2.2; omega
  prox := fun k => by have := h4 k; omega
  flyE := fun m hm => by have := h5 m hm; exact ⟨this.1, by omega, by omega⟩
  wl := fun k => by rw [h6]; simp; omega
theorem safe2 : Safe A2 := safeOf (by decide) (by decide) (fun t ht => by
    have : t = ⟨0, true, 0, 0, false, false, []⟩ := by simpa [A2, A1, A0, CS.send, CS.make, CS.zero] using ht
    subst this; exact ⟨rfl, by decide, by decide, by decide⟩) (fun k => ⟨Int.le_refl 0, by show (0 : Int) ≤ _; decide⟩) (fun m hm => by
    have : m = ⟨1, 0, kAsk, 1, 0⟩ := by simpa [A2, A1, A0, CS.send, CS.make, CS.zero] using hm
    subst this; exact ⟨by decide, by decide, by decide⟩) (fun k => rfl)
theorem safe3 : Safe A3 := safeOf (by decide) (by decide) (fun t ht => by
    have : t = ⟨0, true, 65536, 0, false, false, []⟩ := by simpa [A3, A2, A1, A0, CS.send, CS.make, CS.zero, CS.give, CS.take, CS.setTh] using ht
    subst this; exact ⟨rfl, by decide, by decide, by decide⟩) (fun k => ⟨Int.le_refl 0, by show (0 : Int) ≤ _; decide⟩) (fun m hm => by
    have : m = ⟨0, 1, kGive, 1, 65536⟩ := by simpa [A3, A2, A1, A0, CS.send, CS.make, CS.zero, CS.give, CS.take, CS.setTh] using hm
    subst this; exact ⟨by decide, by decide, by decide⟩) (fun k => rfl)
theorem lim1 : Lim A1 := ⟨by decide, by decide⟩
theorem lim4 : Lim2 A4 := ⟨⟨by decide, by decide⟩, fun t ht => by
    have : t = ⟨0, true, 65536, 0, false, false, []⟩ := by simpa [A4, A3, A2, A1, A0, CS.send, CS.make, CS.zero, CS.give, CS.take, CS.setTh, CS.cut, CS.pay, CS.unask] using ht
    subst this; simp⟩
theorem c6 (w : World) : Calls Tryz.prog 6 #[] w fun en w' => ∃ p, en = .returned (.bool p) ∧ (p = true ∧ Ext w w') := by
  refine calls6 _ w ?_
  refine (c5 2 5 5).mono ?_
  rintro en w3 ⟨o, e, rfl, ⟨h, _⟩ | ⟨_, rfl, own, r, rfl, h3, f3⟩⟩
  · exact absurd ⟨by decide, by decide, by decide, by decide, by decide, by decide⟩ h
  refine ⟨_, _, rfl, BoolK.mk (fun t => by cases t) (fun _ => ?_)⟩
  refine (c19 h3 ⟨by decide, by decide⟩ 0).mono ?_
  rintro en w7 ⟨n, e, rfl, he, own7, r7, h7, f7, e7⟩
  rw [if_pos (by decide)] at he
  obtain ⟨rfl, rfl⟩ : n = 1 ∧ e = 0 := by simpa [CS.zero] using he
  refine ⟨_, _, rfl, ?_⟩
  obtain ⟨rb, cl, ca, th, fl, mp, ma, mg, mm, mw, ths, wts⟩ := r7
  cases e7
  have h7 : CR w7 own7 _ A1 := a1 ▸ h7
  refine (c20 h7 lim1 1 1).mono ?_
  rintro en w10 ⟨e, rfl, he, own10, r10, h10, f10, e10⟩
  have he : e = 0 := he
  subst he
  refine ⟨_, rfl, ?_⟩
  obtain ⟨rb, cl, ca, th, fl, mp, ma, mg, mm, mw, ths, wts⟩ := r10
  cases e10
  have h10 : CR w10 own10 _ A2 := a2 ▸ h10
  refine (c15 h10 safe2 0).mono ?_
  rintro en w13 ⟨e, rfl, S', hd, own13, r13, h13, f13, e13⟩
  obtain ⟨rfl, rfl⟩ := a3 hd
  refine ⟨_, rfl, ?_⟩
  obtain ⟨rb, cl, ca, th, fl, mp, ma, mg, mm, mw, ths, wts⟩ := r13
  cases e13
  refine (c15 h13 safe3 0).mono ?_
  rintro en w16 ⟨e, rfl, S', hd, own16, r16, h16, f16, e16⟩
  obtain ⟨rfl, rfl⟩ := a4 hd
  refine ⟨_, rfl, ?_⟩
  obtain ⟨rb, cl, ca, th, fl, mp, ma, mg, mm, mw, ths, wts⟩ := r16
  cases e16
  have F : Fr (fun _ => none) own16 w w16 := (((f3.trans f7).trans f10).trans f13).trans f16
  have hx : Ext w w16 := ⟨F.os, F.tape, F.output, F.size, fun k hk => F.block k hk rfl⟩
  refine BoolK.mk (fun _ => BoolK.mk (fun _ => BoolK.mk (fun _ => BoolK.mk (fun _ => BoolK.mk (fun _ => ?_) (fun t => by cases t)) (fun t => by cases t)) (fun t => by cases t)) (fun t => by cases t)) (fun t => by cases t)
  refine (c12 h16 1 1).mono ?_
  rintro en w19 ⟨x, rfl, rfl, rfl⟩
  refine ⟨_, rfl, BoolK.mk (fun _ => ?_) (fun t => absurd (t.symm.trans (by decide : (A4.prox (1, 1) == 65536) = true)) (by decide))⟩
  refine (c13 h16 lim4 1).mono ?_
  rintro en w22 ⟨s, rfl, hs, hx22⟩
  exact ⟨_, rfl, live1 (by decide) rfl rfl rfl hs, hx.trans hx22⟩
end Go.Proofs.YtgggbmikmmljcaaGreat

namespace Go.Proofs.YtgggbmikmmljcaaGreat
open Go Go.V Go.Proofs
open Go.RowKit (Below)
/-! manystrand/manystrandref27.New -/
def N7 (x1 : Int) (x2 : Int) (x3 : Int) (K : Option Addr → Int → World → Prop) (w : World) : Prop :=
 BoolK (decide ((x1 : Int) < 1))
 (K none 2 w)
 (BoolK (decide ((x1 : Int) > 5))
 (K none 2 w)
 (BoolK (decide ((x2 : Int) < 1))
 (K none 2 w)
 (BoolK (decide ((x2 : Int) > 100))
 (K none 2 w)
 (BoolK (decide ((x3 : Int) < 1))
 (K none 2 w)
 (BoolK (decide ((x3 : Int) > 100))
 (K none 2 w)
 (DrewK w fun w4 =>
 ((0 ≤ (x1 : Int) ∧ (x1 : Int) ≤ x1 ∧ ((8 : Nat) : Int) * x1 ≤ 281474976710656 ∧ (x1 : Int) ≤ 9223372036854775807) ∧
 AllocK w4 (madeCells (#[.int .i64 0]) ((x1 : Int).toNat * 1)) 3 fun b5 w6 =>
 ((0 ≤ (x1 : Int) ∧ (x1 : Int) ≤ x1 ∧ ((24 : Nat) : Int) * x1 ≤ 281474976710656 ∧ (x1 : Int) ≤ 9223372036854775807) ∧
 AllocK w6 (madeCells (#[.slice none 0 0]) ((x1 : Int).toNat * 1)) 43 fun b7 w8 =>
 ((0 ≤ (x1 : Int) ∧ (x1 : Int) ≤ x1 ∧ ((24 : Nat) : Int) * x1 ≤ 281474976710656 ∧ (x1 : Int) ≤ 9223372036854775807) ∧
 AllocK w8 (madeCells (#[.slice none 0 0]) ((x1 : Int).toNat * 1)) 84 fun b9 w10 =>
 ((0 ≤ (x1 : Int) ∧ (x1 : Int) ≤ x1 ∧ ((24 : Nat) : Int) * x1 ≤ 281474976710656 ∧ (x1 : Int) ≤ 9223372036854775807) ∧
 AllocK w10 (madeCells (#[.slice none 0 0]) ((x1 : Int).toNat * 1)) 84 fun b11 w12 =>
 (0 ≤ (x1 : Int) ∧ (x1 : Int) ≤ x1 ∧ ((24 : Nat) : Int) * x1 ≤ 281474976710656 ∧ (x1 : Int) ≤ 9223372036854775807) ∧
 AllocK w12 (madeCells (#[.slice none 0 0]) ((x1 : Int).toNat * 1)) 84 fun b13 w14 =>
 AllocK w14 (#[(.int .i64 x1), (.int .i64 x2), (.int .i64 x3), (.slice (some b5) ((x1 : Int).toNat) ((x1 : Int).toNat)), (.slice none 0 0), (.slice (some b7) ((x1 : Int).toNat) ((x1 : Int).toNat)), (.slice (some b9) ((x1 : Int).toNat) ((x1 : Int).toNat)), (.slice (some b11) ((x1 : Int).toNat) ((x1 : Int).toNat)), (.slice (some b13) ((x1 : Int).toNat) ((x1 : Int).toNat)), (.slice none 0 0), (.slice none 0 0), (.slice none 0 0)]) 50 fun b15 w16 =>
 K (some b15) 0 w16) ∧
 ((0 ≤ (x1 : Int) ∧ (x1 : Int) ≤ x1 ∧ ((24 : Nat) : Int) * x1 ≤ 281474976710656 ∧ (x1 : Int) ≤ 9223372036854775807) ∧
 AllocK w10 (madeCells (#[.slice none 0 0]) ((x1 : Int).toNat * 1)) 84 fun b17 w18 =>
 (0 ≤ (x1 : Int) ∧ (x1 : Int) ≤ x1 ∧ ((24 : Nat) : Int) * x1 ≤ 281474976710656 ∧ (x1 : Int) ≤ 9223372036854775807) ∧
 AllocK w18 (madeCells (#[.slice none 0 0]) ((x1 : Int).toNat * 1)) 84 fun b19 w20 =>
 AllocK w20 (#[(.int .i64 x1), (.int .i64 x2), (.int .i64 x3), (.slice (some b5) ((x1 : Int).toNat) ((x1 : Int).toNat)), (.slice none 0 0), (.slice (some b7) ((x1 : Int).toNat) ((x1 : Int).toNat)), (.slice (some b9) ((x1 : Int).toNat) ((x1 : Int).toNat)), (.slice (some b19) ((x1 : Int).toNat) ((x1 : Int).toNat)), (.slice (some b17) ((x1 : Int).toNat) ((x1 : Int).toNat)), (.slice none 0 0), (.slice none 0 0), (.slice none 0 0)]) 50 fun b21 w22 =>
 K (some b21) 0 w22)) ∧
 (((0 ≤ (x1 : Int) ∧ (x1 : Int) ≤ x1 ∧ ((24 : Nat) : Int) * x1 ≤ 281474976710656 ∧ (x1 : Int) ≤ 9223372036854775807) ∧
 AllocK w8 (madeCells (#[.slice none 0 0]) ((x1 : Int).toNat * 1)) 84 fun b23 w24 =>
 ((0 ≤ (x1 : Int) ∧ (x1 : Int) ≤ x1 ∧ ((24 : Nat) : Int) * x1 ≤ 281474976710656 ∧ (x1 : Int) ≤ 9223372036854775807) ∧
 AllocK w24 (madeCells (#[.slice none 0 0]) ((x1 : Int).toNat * 1)) 84 fun b25 w26 =>
 (0 ≤ (x1 : Int) ∧ (x1 : Int) ≤ x1 ∧ ((24 : Nat) : Int) * x1 ≤ 281474976710656 ∧ (x1 : Int) ≤ 9223372036854775807) ∧
 AllocK w26 (madeCells (#[.slice none 0 0]) ((x1 : Int).toNat * 1)) 84 fun b27 w28 =>
 AllocK w28 (#[(.int .i64 x1), (.int .i64 x2), (.int .i64 x3), (.slice (some b5) ((x1 : Int).toNat) ((x1 : Int).toNat)), (.slice none 0 0), (.slice (some b7) ((x1 : Int).toNat) ((x1 : Int).toNat)), (.slice (some b25) ((x1 : Int).toNat) ((x1 : Int).toNat)), (.slice (some b23) ((x1 : Int).toNat) ((x1 : Int).toNat)), (.slice (some b27) ((x1 : Int).toNat) ((x1 : Int).toNat)), (.slice none 0 0), (.slice none 0 0), (.slice none 0 0)]) 50 fun b29 w30 =>
 K (some b29) 0 w30) ∧
 ((0 ≤ (x1 : Int) ∧ (x1 : Int) ≤ x1 ∧ ((24 : Nat) : Int) * x1 ≤ 281474976710656 ∧ (x1 : Int) ≤ 9223372036854775807) ∧
 AllocK w24 (madeCells (#[.slice none 0 0]) ((x1 : Int).toNat * 1)) 84 fun b31 w32 =>
 (0 ≤ (x1 : Int) ∧ (x1 : Int) ≤ x1 ∧ ((24 : Nat) : Int) * x1 ≤ 281474976710656 ∧ (x1 : Int) ≤ 9223372036854775807) ∧
 AllocK w32 (madeCells (#[.slice none 0 0]) ((x1 : Int).toNat * 1)) 84 fun b33 w34 =>
 AllocK w34 (#[(.int .i64 x1), (.int .i64 x2), (.int .i64 x3), (.slice (some b5) ((x1 : Int).toNat) ((x1 : Int).toNat)), (.slice none 0 0), (.slice (some b7) ((x1 : Int).toNat) ((x1 : Int).toNat)), (.slice (some b33) ((x1 : Int).toNat) ((x1 : Int).toNat)), (.slice (some b23) ((x1 : Int).toNat) ((x1 : Int).toNat)), (.slice (some b31) ((x1 : Int).toNat) ((x1 : Int).toNat)), (.slice none 0 0), (.slice none 0 0), (.slice none 0 0)]) 50 fun b35 w36 =>
 K (some b35) 0 w36)) ∧
 ((0 ≤ (x1 : Int) ∧ (x1 : Int) ≤ x1 ∧ ((24 : Nat) : Int) * x1 ≤ 281474976710656 ∧ (x1 : Int) ≤ 9223372036854775807) ∧
 AllocK w8 (madeCells (#[.slice none 0 0]) ((x1 : Int).toNat * 1)) 84 fun b37 w38 =>
 ((0 ≤ (x1 : Int) ∧ (x1 : Int) ≤ x1 ∧ ((24 : Nat) : Int) * x1 ≤ 281474976710656 ∧ (x1 : Int) ≤ 9223372036854775807) ∧
 AllocK w38 (madeCells (#[.slice none 0 0]) ((x1 : Int).toNat * 1)) 84 fun b39 w40 =>
 (0 ≤ (x1 : Int) ∧ (x1 : Int) ≤ x1 ∧ ((24 : Nat) : Int) * x1 ≤ 281474976710656 ∧ (x1 : Int) ≤ 9223372036854775807) ∧
 AllocK w40 (madeCells (#[.slice none 0 0]) ((x1 : Int).toNat * 1)) 84 fun b41 w42 =>
 AllocK w42 (#[(.int .i64 x1), (.int .i64 x2), (.int .i64 x3), (.slice (some b5) ((x1 : Int).toNat) ((x1 : Int).toNat)), (.slice none 0 0), (.slice (some b7) ((x1 : Int).toNat) ((x1 : Int).toNat)), (.slice (some b39) ((x1 : Int).toNat) ((x1 : Int).toNat)), (.slice (some b41) ((x1 : Int).toNat) ((x1 : Int).toNat)), (.slice (some b37) ((x1 : Int).toNat) ((x1 : Int).toNat)), (.slice none 0 0), (.slice none 0 0), (.slice none 0 0)]) 50 fun b43 w44 =>
 K (some b43) 0 w44) ∧
 ((0 ≤ (x1 : Int) ∧ (x1 : Int) ≤ x1 ∧ ((24 : Nat) : Int) * x1 ≤ 281474976710656 ∧ (x1 : Int) ≤ 9223372036854775807) ∧
 AllocK w38 (madeCells (#[.slice none 0 0]) ((x1 : Int).toNat * 1)) 84 fun b45 w46 =>
 (0 ≤ (x1 : Int) ∧ (x1 : Int) ≤ x1 ∧ ((24 : Nat) : Int) * x1 ≤ 281474976710656 ∧ (x1 : Int) ≤ 9223372036854775807) ∧
 AllocK w46 (madeCells (#[.slice none 0 0]) ((x1 : Int).toNat * 1)) 84 fun b47 w48 =>
 AllocK w48 (#[(.int .i64 x1), (.int .i64 x2), (.int .i64 x3), (.slice (some b5) ((x1 : Int).toNat) ((x1 : Int).toNat)), (.slice none 0 0), (.slice (some b7) ((x1 : Int).toNat) ((x1 : Int).toNat)), (.slice (some b47) ((x1 : Int).toNat) ((x1 : Int).toNat)), (.slice (some b45) ((x1 : Int).toNat) ((x1 : Int).toNat)), (.slice (some b37) ((x1 : Int).toNat) ((x1 : Int).toNat)), (.slice none 0 0), (.slice none 0 0), (.slice none 0 0)]) 50 fun b49 w50 =>
 K (some b49) 0 w50)))) ∧
 (((0 ≤ (x1 : Int) ∧ (x1 : Int) ≤ x1 ∧ ((24 : Nat) : Int) * x1 ≤ 281474976710656 ∧ (x1 : Int) ≤ 9223372036854775807) ∧
 AllocK w6 (madeCells (#[.slice none 0 0]) ((x1 : Int).toNat * 1)) 84 fun b51 w52 =>
 ((0 ≤ (x1 : Int) ∧ (x1 : Int) ≤ x1 ∧ ((24 : Nat) : Int) * x1 ≤ 281474976710656 ∧ (x1 : Int) ≤ 9223372036854775807) ∧
 AllocK w52 (madeCells (#[.slice none 0 0]) ((x1 : Int).toNat * 1)) 43 fun b53 w54 =>
 ((0 ≤ (x1 : Int) ∧ (x1 : Int) ≤ x1 ∧ ((24 : Nat) : Int) * x1 ≤ 281474976710656 ∧ (x1 : Int) ≤ 9223372036854775807) ∧
 AllocK w54 (madeCells (#[.slice none 0 0]) ((x1 : Int).toNat * 1)) 84 fun b55 w56 =>
 (0 ≤ (x1 : Int) ∧ (x1 : Int) ≤ x1 ∧ ((24 : Nat) : Int) * x1 ≤ 281474976710656 ∧ (x1 : Int) ≤ 9223372036854775807) ∧
 AllocK w56 (madeCells (#[.slice none 0 0]) ((x1 : Int).toNat * 1)) 84 fun b57 w58 =>
 AllocK w58 (#[(.int .i64 x1), (.int .i64 x2), (.int .i64 x3), (.slice (some b5) ((x1 : Int).toNat) ((x1 : Int).toNat)), (.slice none 0 0), (.slice (some b53) ((x1 : Int).toNat) ((x1 : Int).toNat)), (.slice (some b51) ((x1 : Int).toNat) ((x1 : Int).toNat)), (.slice (some b55) ((x1 : Int).toNat) ((x1 : Int).toNat)), (.slice (some b57) ((x1 : Int).toNat) ((x1 : Int).toNat)), (.slice none 0 0), (.slice none 0 0), (.slice none 0 0)]) 50 fun b59 w60 =>
 K (some b59) 0 w60) ∧
 ((0 ≤ (x1 : Int) ∧ (x1 : Int) ≤ x1 ∧ ((24 : Nat) : Int) * x1 ≤ 281474976710656 ∧ (x1 : Int) ≤ 9223372036854775807) ∧
 AllocK w54 (madeCells (#[.slice none 0 0]) ((x1 : Int).toNat * 1)) 84 fun b61 w62 =>
 (0 ≤ (x1 : Int) ∧ (x1 : Int) ≤ x1 ∧ ((24 : Nat) : Int) * x1 ≤ 281474976710656 ∧ (x1 : Int) ≤ 9223372036854775807) ∧
 AllocK w62 (madeCells (#[.slice none 0 0]) ((x1 : Int).toNat * 1)) 84 fun b63 w64 =>
 AllocK w64 (#[(.int .i64 x1), (.int .i64 x2), (.int .i64 x3), (.slice (some b5) ((x1 : Int).toNat) ((x1 : Int).toNat)), (.slice none 0 0), (.slice (some b53) ((x1 : Int).toNat) ((x1 : Int).toNat)), (.slice (some b51) ((x1 : Int).toNat) ((x1 : Int).toNat)), (.slice (some b63) ((x1 : Int).toNat) ((x1 : Int).toNat)), (.slice (some b61) ((x1 : Int).toNat) ((x1 : Int).toNat)), (.slice none 0 0), (.slice none 0 0), (.slice none 0 0)]) 50 fun b65 w66 =>
 K (some b65) 0 w66)) ∧
 (((0 ≤ (x1 : Int) ∧ (x1 : Int) ≤ x1 ∧ ((24 : Nat) : Int) * x1 ≤ 281474976710656 ∧ (x1 : Int) ≤ 9223372036854775807) ∧
 AllocK w52 (madeCells (#[.slice none 0 0]) ((x1 : Int).toNat * 1)) 84 fun b67 w68 =>
 ((0 ≤ (x1 : Int) ∧ (x1 : Int) ≤ x1 ∧ ((24 : Nat) : Int) * x1 ≤ 281474976710656 ∧ (x1 : Int) ≤ 9223372036854775807) ∧
 AllocK w68 (madeCells (#[.slice none 0 0]) ((x1 : Int).toNat * 1)) 43 fun b69 w70 =>
 (0 ≤ (x1 : Int) ∧ (x1 : Int) ≤ x1 ∧ ((24 : Nat) : Int) * x1 ≤ 281474976710656 ∧ (x1 : Int) ≤ 9223372036854775807) ∧
 AllocK w70 (madeCells (#[.slice none 0 0]) ((x1 : Int).toNat * 1)) 84 fun b71 w72 =>
 AllocK w72 (#[(.int .i64 x1), (.int .i64 x2), (.int .i64 x3), (.slice (some b5) ((x1 : Int).toNat) ((x1 : Int).toNat)), (.slice none 0 0), (.slice (some b69) ((x1 : Int).toNat) ((x1 : Int).toNat)), (.slice (some b51) ((x1 : Int).toNat) ((x1 : Int).toNat)), (.slice (some b67) ((x1 : Int).toNat) ((x1 : Int).toNat)), (.slice (some b71) ((x1 : Int).toNat) ((x1 : Int).toNat)), (.slice none 0 0), (.slice none 0 0), (.slice none 0 0)]) 50 fun b73 w74 =>
 K (some b73) 0 w74) ∧
 ((0 ≤ (x1 : Int) ∧ (x1 : Int) ≤ x1 ∧ ((24 : Nat) : Int) * x1 ≤ 281474976710656 ∧ (x1 : Int) ≤ 9223372036854775807) ∧
 AllocK w68 (madeCells (#[.slice none 0 0]) ((x1 : Int).toNat * 1)) 84 fun b75 w76 =>
 (0 ≤ (x1 : Int) ∧ (x1 : Int) ≤ x1 ∧ ((24 : Nat) : Int) * x1 ≤ 281474976710656 ∧ (x1 : Int) ≤ 9223372036854775807) ∧
 AllocK w76 (madeCells (#[.slice none 0 0]) ((x1 : Int).toNat * 1)) 43 fun b77 w78 =>
 AllocK w78 (#[(.int .i64 x1), (.int .i64 x2), (.int .i64 x3), (.slice (some b5) ((x1 : Int).toNat) ((x1 : Int).toNat)), (.slice none 0 0), (.slice (some b77) ((x1 : Int).toNat) ((x1 : Int).toNat)), (.slice (some b51) ((x1 : Int).toNat) ((x1 : Int).toNat)), (.slice (some b67) ((x1 : Int).toNat) ((x1 : Int).toNat)), (.slice (some b75) ((x1 : Int).toNat) ((x1 : Int).toNat)), (.slice none 0 0), (.slice none 0 0), (.slice none 0 0)]) 50 fun b79 w80 =>
 K (some b79) 0 w80)) ∧
 ((0 ≤ (x1 : Int) ∧ (x1 : Int) ≤ x1 ∧ ((24 : Nat) : Int) * x1 ≤ 281474976710656 ∧ (x1 : Int) ≤ 9223372036854775807) ∧
 AllocK w52 (madeCells (#[.slice none 0 0]) ((x1 : Int).toNat * 1)) 84 fun b81 w82 =>
 ((0 ≤ (x1 : Int) ∧ (x1 : Int) ≤ x1 ∧ ((24 : Nat) : Int) * x1 ≤ 281474976710656 ∧ (x1 : Int) ≤ 9223372036854775807) ∧
 AllocK w82 (madeCells (#[.slice none 0 0]) ((x1 : Int).toNat * 1)) 43 fun b83 w84 =>
 (0 ≤ (x1 : Int) ∧ (x1 : Int) ≤ x1 ∧ ((24 : Nat) : Int) * x1 ≤ 281474976710656 ∧ (x1 : Int) ≤ 9223372036854775807) ∧
 AllocK w84 (madeCells (#[.slice none 0 0]) ((x1 : Int).toNat * 1)) 84 fun b85 w86 =>
 AllocK w86 (#[(.int .i64 x1), (.int .i64 x2), (.int .i64 x3), (.slice (some b5) ((x1 : Int).toNat) ((x1 : Int).toNat)), (.slice none 0 0), (.slice (some b83) ((x1 : Int).toNat) ((x1 : Int).toNat)), (.slice (some b51) ((x1 : Int).toNat) ((x1 : Int).toNat)), (.slice (some b85) ((x1 : Int).toNat) ((x1 : Int).toNat)), (.slice (some b81) ((x1 : Int).toNat) ((x1 : Int).toNat)), (.slice none 0 0), (.slice none 0 0), (.slice none 0 0)]) 50 fun b87 w88 =>
 K (some b87) 0 w88) ∧
 ((0 ≤ (x1 : Int) ∧ (x1 : Int) ≤ x1 ∧ ((24 : Nat) : Int) * x1 ≤ 281474976710656 ∧ (x1 : Int) ≤ 9223372036854775807) ∧
 AllocK w82 (madeCells (#[.slice none 0 0]) ((x1 : Int).toNat * 1)) 84 fun b89 w90 =>
 (0 ≤ (x1 : Int) ∧ (x1 : Int) ≤ x1 ∧ ((24 : Nat) : Int) * x1 ≤ 281474976710656 ∧ (x1 : Int) ≤ 9223372036854775807) ∧
 AllocK w90 (madeCells (#[.slice none 0 0]) ((x1 : Int).toNat * 1)) 43 fun b91 w92 =>
 AllocK w92 (#[(.int .i64 x1), (.int .i64 x2), (.int .i64 x3), (.slice (some b5) ((x1 : Int).toNat) ((x1 : Int).toNat)), (.slice none 0 0), (.slice (some b91) ((x1 : Int).toNat) ((x1 : Int).toNat)), (.slice (some b51) ((x1 : Int).toNat) ((x1 : Int).toNat)), (.slice (some b89) ((x1 : Int).toNat) ((x1 : Int).toNat)), (.slice (some b81) ((x1 : Int).toNat) ((x1 : Int).toNat)), (.slice none 0 0), (.slice none 0 0), (.slice none 0 0)]) 50 fun b93 w94 =>
 K (some b93) 0 w94)))) ∧
 (((0 ≤ (x1 : Int) ∧ (x1 : Int) ≤ x1 ∧ ((24 : Nat) : Int) * x1 ≤ 281474976710656 ∧ (x1 : Int) ≤ 9223372036854775807) ∧
 AllocK w6 (madeCells (#[.slice none 0 0]) ((x1 : Int).toNat * 1)) 84 fun b95 w96 =>
 ((0 ≤ (x1 : Int) ∧ (x1 : Int) ≤ x1 ∧ ((24 : Nat) : Int) * x1 ≤ 281474976710656 ∧ (x1 : Int) ≤ 9223372036854775807) ∧
 AllocK w96 (madeCells (#[.slice none 0 0]) ((x1 : Int).toNat * 1)) 43 fun b97 w98 =>
 ((0 ≤ (x1 : Int) ∧ (x1 : Int) ≤ x1 ∧ ((24 : Nat) : Int) * x1 ≤ 281474976710656 ∧ (x1 : Int) ≤ 9223372036854775807) ∧
 AllocK w98 (madeCells (#[.slice none 0 0]) ((x1 : Int).toNat * 1)) 84 fun b99 w100 =>
 (0 ≤ (x1 : Int) ∧ (x1 : Int) ≤ x1 ∧ ((24 : Nat) : Int) * x1 ≤ 281474976710656 ∧ (x1 : Int) ≤ 9223372036854775807) ∧
 AllocK w100 (madeCells (#[.slice none 0 0]) ((x1 : Int).toNat * 1)) 84 fun b101 w102 =>
 AllocK w102 (#[(.int .i64 x1), (.int .i64 x2), (.int .i64 x3), (.slice (some b5) ((x1 : Int).toNat) ((x1 : Int).toNat)), (.slice none 0 0), (.slice (some b97) ((x1 : Int).toNat) ((x1 : Int).toNat)), (.slice (some b99) ((x1 : Int).toNat) ((x1 : Int).toNat)), (.slice (some b95) ((x1 : Int).toNat) ((x1 : Int).toNat)), (.slice (some b101) ((x1 : Int).toNat) ((x1 : Int).toNat)), (.slice none 0 0), (.slice none 0 0), (.slice none 0 0)]) 50 fun b103 w104 =>
 K (some b103) 0 w104) ∧
 ((0 ≤ (x1 : Int) ∧ (x1 : Int) ≤ x1 ∧ ((24 : Nat) : Int) * x1 ≤ 281474976710656 ∧ (x1 : Int) ≤ 9223372036854775807) ∧
 AllocK w98 (madeCells (#[.slice none 0 0]) ((x1 : Int).toNat * 1)) 84 fun b105 w106 =>
 (0 ≤ (x1 : Int) ∧ (x1 : Int) ≤ x1 ∧ ((24 : Nat) : Int) * x1 ≤ 281474976710656 ∧ (x1 : Int) ≤ 9223372036854775807) ∧
 AllocK w106 (madeCells (#[.slice none 0 0]) ((x1 : Int).toNat * 1)) 84 fun b107 w108 =>
 AllocK w108 (#[(.int .i64 x1), (.int .i64 x2), (.int .i64 x3), (.slice (some b5) ((x1 : Int).toNat) ((x1 : Int).toNat)), (.slice none 0 0), (.slice (some b97) ((x1 : Int).toNat) ((x1 : Int).toNat)), (.slice (some b107) ((x1 : Int).toNat) ((x1 : Int).toNat)), (.slice (some b95) ((x1 : Int).toNat) ((x1 : Int).toNat)), (.slice (some b105) ((x1 : Int).toNat) ((x1 : Int).toNat)), (.slice none 0 0), (.slice none 0 0), (.slice none 0 0)]) 50 fun b109 w110 =>
 K (some b109) 0 w110)) ∧
 (((0 ≤ (x1 : Int) ∧ (x1 : Int) ≤ x1 ∧ ((24 : Nat) : Int) * x1 ≤ 281474976710656 ∧ (x1 : Int) ≤ 9223372036854775807) ∧
 AllocK w96 (madeCells (#[.slice none 0 0]) ((x1 : Int).toNat * 1)) 84 fun b111 w112 =>
 ((0 ≤ (x1 : Int) ∧ (x1 : Int) ≤ x1 ∧ ((24 : Nat) : Int) * x1 ≤ 281474976710656 ∧ (x1 : Int) ≤ 9223372036854775807) ∧
 AllocK w112 (madeCells (#[.slice none 0 0]) ((x1 : Int).toNat * 1)) 43 fun b113 w114 =>
 (0 ≤ (x1 : Int) ∧ (x1 : Int) ≤ x1 ∧ ((24 : Nat) : Int) * x1 ≤ 281474976710656 ∧ (x1 : Int) ≤ 9223372036854775807) ∧
 AllocK w114 (madeCells (#[.slice none 0 0]) ((x1 : Int).toNat * 1)) 84 fun b115 w116 =>
 AllocK w116 (#[(.int .i64 x1), (.int .i64 x2), (.int .i64 x3), (.slice (some b5) ((x1 : Int).toNat) ((x1 : Int).toNat)), (.slice none 0 0), (.slice (some b113) ((x1 : Int).toNat) ((x1 : Int).toNat)), (.slice (some b111) ((x1 : Int).toNat) ((x1 : Int).toNat)), (.slice (some b95) ((x1 : Int).toNat) ((x1 : Int).toNat)), (.slice (some b115) ((x1 : Int).toNat) ((x1 : Int).toNat)), (.slice none 0 0), (.slice none 0 0), (.slice none 0 0)]) 50 fun b117 w118 =>
 K (some b117) 0 w118) ∧
 ((0 ≤ (x1 : Int) ∧ (x1 : Int) ≤ x1 ∧ ((24 : Nat) : Int) * x1 ≤ 281474976710656 ∧ (x1 : Int) ≤ 9223372036854775807) ∧
 AllocK w112 (madeCells (#[.slice none 0 0]) ((x1 : Int).toNat * 1)) 84 fun b119 w120 =>
 (0 ≤ (x1 : Int) ∧ (x1 : Int) ≤ x1 ∧ ((24 : Nat) : Int) * x1 ≤ 281474976710656 ∧ (x1 : Int) ≤ 9223372036854775807) ∧
 AllocK w120 (madeCells (#[.slice none 0 0]) ((x1 : Int).toNat * 1)) 43 fun b121 w122 =>
 AllocK w122 (#[(.int .i64 x1), (.int .i64 x2), (.int .i64 x3), (.slice (some b5) ((x1 : Int).toNat) ((x1 : Int).toNat)), (.slice none 0 0), (.slice (some b121) ((x1 : Int).toNat) ((x1 : Int).toNat)), (.slice (some b111) ((x1 : Int).toNat) ((x1 : Int).toNat)), (.slice (some b95) ((x1 : Int).toNat) ((x1 : Int).toNat)), (.slice (some b119) ((x1 : Int).toNat) ((x1 : Int).toNat)), (.slice none 0 0), (.slice none 0 0), (.slice none 0 0)]) 50 fun b123 w124 =>
 K (some b123) 0 w124)) ∧
 ((0 ≤ (x1 : Int) ∧ (x1 : Int) ≤ x1 ∧ ((24 : Nat) : Int) * x1 ≤ 281474976710656 ∧ (x1 : Int) ≤ 9223372036854775807) ∧
 AllocK w96 (madeCells (#[.slice none 0 0]) ((x1 : Int).toNat * 1)) 84 fun b125 w126 =>
 ((0 ≤ (x1 : Int) ∧ (x1 : Int) ≤ x1 ∧ ((24 : Nat) : Int) * x1 ≤ 281474976710656 ∧ (x1 : Int) ≤ 9223372036854775807) ∧
 AllocK w126 (madeCells (#[.slice none 0 0]) ((x1 : Int).toNat * 1)) 43 fun b127 w128 =>
 (0 ≤ (x1 : Int) ∧ (x1 : Int) ≤ x1 ∧ ((24 : Nat) : Int) * x1 ≤ 281474976710656 ∧ (x1 : Int) ≤ 9223372036854775807) ∧
 AllocK w128 (madeCells (#[.slice none 0 0]) ((x1 : Int).toNat * 1)) 84 fun b129 w130 =>
 AllocK w130 (#[(.int .i64 x1), (.int .i64 x2), (.int .i64 x3), (.slice (some b5) ((x1 : Int).toNat) ((x1 : Int).toNat)), (.slice none 0 0), (.slice (some b127) ((x1 : Int).toNat) ((x1 : Int).toNat)), (.slice (some b129) ((x1 : Int).toNat) ((x1 : Int).toNat)), (.slice (some b95) ((x1 : Int).toNat) ((x1 : Int).toNat)), (.slice (some b125) ((x1 : Int).toNat) ((x1 : Int).toNat)), (.slice none 0 0), (.slice none 0 0), (.slice none 0 0)]) 50 fun b131 w132 =>
 K (some b131) 0 w132) ∧
 ((0 ≤ (x1 : Int) ∧ (x1 : Int) ≤ x1 ∧ ((24 : Nat) : Int) * x1 ≤ 281474976710656 ∧ (x1 : Int) ≤ 9223372036854775807) ∧
 AllocK w126 (madeCells (#[.slice none 0 0]) ((x1 : Int).toNat * 1)) 84 fun b133 w134 =>
 (0 ≤ (x1 : Int) ∧ (x1 : Int) ≤ x1 ∧ ((24 : Nat) : Int) * x1 ≤ 281474976710656 ∧ (x1 : Int) ≤ 9223372036854775807) ∧
 AllocK w134 (madeCells (#[.slice none 0 0]) ((x1 : Int).toNat * 1)) 43 fun b135 w136 =>
 AllocK w136 (#[(.int .i64 x1), (.int .i64 x2), (.int .i64 x3), (.slice (some b5) ((x1 : Int).toNat) ((x1 : Int).toNat)), (.slice none 0 0), (.slice (some b135) ((x1 : Int).toNat) ((x1 : Int).toNat)), (.slice (some b133) ((x1 : Int).toNat) ((x1 : Int).toNat)), (.slice (some b95) ((x1 : Int).toNat) ((x1 : Int).toNat)), (.slice (some b125) ((x1 : Int).toNat) ((x1 : Int).toNat)), (.slice none 0 0), (.slice none 0 0), (.slice none 0 0)]) 50 fun b137 w138 =>
 K (some b137) 0 w138)))) ∧
 ((0 ≤ (x1 : Int) ∧ (x1 : Int) ≤ x1 ∧ ((24 : Nat) : Int) * x1 ≤ 281474976710656 ∧ (x1 : Int) ≤ 9223372036854775807) ∧
 AllocK w6 (madeCells (#[.slice none 0 0]) ((x1 : Int).toNat * 1)) 84 fun b139 w140 =>
 ((0 ≤ (x1 : Int) ∧ (x1 : Int) ≤ x1 ∧ ((24 : Nat) : Int) * x1 ≤ 281474976710656 ∧ (x1 : Int) ≤ 9223372036854775807) ∧
 AllocK w140 (madeCells (#[.slice none 0 0]) ((x1 : Int).toNat * 1)) 43 fun b141 w142 =>
 ((0 ≤ (x1 : Int) ∧ (x1 : Int) ≤ x1 ∧ ((24 : Nat) : Int) * x1 ≤ 281474976710656 ∧ (x1 : Int) ≤ 9223372036854775807) ∧
 AllocK w142 (madeCells (#[.slice none 0 0]) ((x1 : Int).toNat * 1)) 84 fun b143 w144 =>
 (0 ≤ (x1 : Int) ∧ (x1 : Int) ≤ x1 ∧ ((24 : Nat) : Int) * x1 ≤ 281474976710656 ∧ (x1 : Int) ≤ 9223372036854775807) ∧
 AllocK w144 (madeCells (#[.slice none 0 0]) ((x1 : Int).toNat * 1)) 84 fun b145 w146 =>
 AllocK w146 (#[(.int .i64 x1), (.int .i64 x2), (.int .i64 x3), (.slice (some b5) ((x1 : Int).toNat) ((x1 : Int).toNat)), (.slice none 0 0), (.slice (some b141) ((x1 : Int).toNat) ((x1 : Int).toNat)), (.slice (some b143) ((x1 : Int).toNat) ((x1 : Int).toNat)), (.slice (some b145) ((x1 : Int).toNat) ((x1 : Int).toNat)), (.slice (some b139) ((x1 : Int).toNat) ((x1 : Int).toNat)), (.slice none 0 0), (.slice none 0 0), (.slice none 0 0)]) 50 fun b147 w148 =>
 K (some b147) 0 w148) ∧
 ((0 ≤ (x1 : Int) ∧ (x1 : Int) ≤ x1 ∧ ((24 : Nat) : Int) * x1 ≤ 281474976710656 ∧ (x1 : Int) ≤ 9223372036854775807) ∧
 AllocK w142 (madeCells (#[.slice none 0 0]) ((x1 : Int).toNat * 1)) 84 fun b149 w150 =>
 (0 ≤ (x1 : Int) ∧ (x1 : Int) ≤ x1 ∧ ((24 : Nat) : Int) * x1 ≤ 281474976710656 ∧ (x1 : Int) ≤ 9223372036854775807) ∧
 AllocK w150 (madeCells (#[.slice none 0 0]) ((x1 : Int).toNat * 1)) 84 fun b151 w152 =>
 AllocK w152 (#[(.int .i64 x1), (.int .i64 x2), (.int .i64 x3), (.slice (some b5) ((x1 : Int).toNat) ((x1 : Int).toNat)), (.slice none 0 0), (.slice (some b141) ((x1 : Int).toNat) ((x1 : Int).toNat)), (.slice (some b151) ((x1 : Int).toNat) ((x1 : Int).toNat)), (.slice (some b149) ((x1 : Int).toNat) ((x1 : Int).toNat)), (.slice (some b139) ((x1 : Int).toNat) ((x1 : Int).toNat)), (.slice none 0 0), (.slice none 0 0), (.slice none 0 0)]) 50 fun b153 w154 =>
 K (some b153) 0 w154)) ∧
 (((0 ≤ (x1 : Int) ∧ (x1 : Int) ≤ x1 ∧ ((24 : Nat) : Int) * x1 ≤ 281474976710656 ∧ (x1 : Int) ≤ 9223372036854775807) ∧
 AllocK w140 (madeCells (#[.slice none 0 0]) ((x1 : Int).toNat * 1)) 84 fun b155 w156 =>
 ((0 ≤ (x1 : Int) ∧ (x1 : Int) ≤ x1 ∧ ((24 : Nat) : Int) * x1 ≤ 281474976710656 ∧ (x1 : Int) ≤ 9223372036854775807) ∧
 AllocK w156 (madeCells (#[.slice none 0 0]) ((x1 : Int).toNat * 1)) 43 fun b157 w158 =>
 (0 ≤ (x1 : Int) ∧ (x1 : Int) ≤ x1 ∧ ((24 : Nat) : Int) * x1 ≤ 281474976710656 ∧ (x1 : Int) ≤ 9223372036854775807) ∧
 AllocK w158 (madeCells (#[.slice none 0 0]) ((x1 : Int).toNat * 1)) 84 fun b159 w160 =>
 AllocK w160 (#[(.int .i64 x1), (.int .i64 x2), (.int .i64 x3), (.slice (some b5) ((x1 : Int).toNat) ((x1 : Int).toNat)), (.slice none 0 0), (.slice (some b157) ((x1 : Int).toNat) ((x1 : Int).toNat)), (.slice (some b155) ((x1 : Int).toNat) ((x1 : Int).toNat)), (.slice (some b159) ((x1 : Int).toNat) ((x1 : Int).toNat)), (.slice (some b139) ((x1 : Int).toNat) ((x1 : Int).toNat)), (.slice none 0 0), (.slice none 0 0), (.slice none 0 0)]) 50 fun b161 w162 =>
 K (some b161) 0 w162) ∧
 ((0 ≤ (x1 : Int) ∧ (x1 : Int) ≤ x1 ∧ ((24 : Nat) : Int) * x1 ≤ 281474976710656 ∧ (x1 : Int) ≤ 9223372036854775807) ∧
 AllocK w156 (madeCells (#[.slice none 0 0]) ((x1 : Int).toNat * 1)) 84 fun b163 w164 =>
 (0 ≤ (x1 : Int) ∧ (x1 : Int) ≤ x1 ∧ ((24 : Nat) : Int) * x1 ≤ 281474976710656 ∧ (x1 : Int) ≤ 9223372036854775807) ∧
 AllocK w164 (madeCells (#[.slice none 0 0]) ((x1 : Int).toNat * 1)) 43 fun b165 w166 =>
 AllocK w166 (#[(.int .i64 x1), (.int .i64 x2), (.int .i64 x3), (.slice (some b5) ((x1 : Int).toNat) ((x1 : Int).toNat)), (.slice none 0 0), (.slice (some b165) ((x1 : Int).toNat) ((x1 : Int).toNat)), (.slice (some b155) ((x1 : Int).toNat) ((x1 : Int).toNat)), (.slice (some b163) ((x1 : Int).toNat) ((x1 : Int).toNat)), (.slice (some b139) ((x1 : Int).toNat) ((x1 : Int).toNat)), (.slice none 0 0), (.slice none 0 0), (.slice none 0 0)]) 50 fun b167 w168 =>
 K (some b167) 0 w168)) ∧
 ((0 ≤ (x1 : Int) ∧ (x1 : Int) ≤ x1 ∧ ((24 : Nat) : Int) * x1 ≤ 281474976710656 ∧ (x1 : Int) ≤ 9223372036854775807) ∧
 AllocK w140 (madeCells (#[.slice none 0 0]) ((x1 : Int).toNat * 1)) 84 fun b169 w170 =>
 ((0 ≤ (x1 : Int) ∧ (x1 : Int) ≤ x1 ∧ ((24 : Nat) : Int) * x1 ≤ 281474976710656 ∧ (x1 : Int) ≤ 9223372036854775807) ∧
 AllocK w170 (madeCells (#[.slice none 0 0]) ((x1 : Int).toNat * 1)) 43 fun b171 w172 =>
 (0 ≤ (x1 : Int) ∧ (x1 : Int) ≤ x1 ∧ ((24 : Nat) : Int) * x1 ≤ 281474976710656 ∧ (x1 : Int) ≤ 9223372036854775807) ∧
 AllocK w172 (madeCells (#[.slice none 0 0]) ((x1 : Int).toNat * 1)) 84 fun b173 w174 =>
 AllocK w174 (#[(.int .i64 x1), (.int .i64 x2), (.int .i64 x3), (.slice (some b5) ((x1 : Int).toNat) ((x1 : Int).toNat)), (.slice none 0 0), (.slice (some b171) ((x1 : Int).toNat) ((x1 : Int).toNat)), (.slice (some b173) ((x1 : Int).toNat) ((x1 : Int).toNat)), (.slice (some b169) ((x1 : Int).toNat) ((x1 : Int).toNat)), (.slice (some b139) ((x1 : Int).toNat) ((x1 : Int).toNat)), (.slice none 0 0), (.slice none 0 0), (.slice none 0 0)]) 50 fun b175 w176 =>
 K (some b175) 0 w176) ∧
 ((0 ≤ (x1 : Int) ∧ (x1 : Int) ≤ x1 ∧ ((24 : Nat) : Int) * x1 ≤ 281474976710656 ∧ (x1 : Int) ≤ 9223372036854775807) ∧
 AllocK w170 (madeCells (#[.slice none 0 0]) ((x1 : Int).toNat * 1)) 84 fun b177 w178 =>
 (0 ≤ (x1 : Int) ∧ (x1 : Int) ≤ x1 ∧ ((24 : Nat) : Int) * x1 ≤ 281474976710656 ∧ (x1 : Int) ≤ 9223372036854775807) ∧
 AllocK w178 (madeCells (#[.slice none 0 0]) ((x1 : Int).toNat * 1)) 43 fun b179 w180 =>
 AllocK w180 (#[(.int .i64 x1), (.int .i64 x2), (.int .i64 x3), (.slice (some b5) ((x1 : Int).toNat) ((x1 : Int).toNat)), (.slice none 0 0), (.slice (some b179) ((x1 : Int).toNat) ((x1 : Int).toNat)), (.slice (some b177) ((x1 : Int).toNat) ((x1 : Int).toNat)), (.slice (some b169) ((x1 : Int).toNat) ((x1 : Int).toNat)), (.slice (some b139) ((x1 : Int).toNat) ((x1 : Int).toNat)), (.slice none 0 0), (.slice none 0 0), (.slice none 0 0)]) 50 fun b181 w182 =>
 K (some b181) 0 w182))))))) ∧
 (((0 ≤ (x1 : Int) ∧ (x1 : Int) ≤ x1 ∧ ((24 : Nat) : Int) * x1 ≤ 281474976710656 ∧ (x1 : Int) ≤ 9223372036854775807) ∧
 AllocK w4 (madeCells (#[.slice none 0 0]) ((x1 : Int).toNat * 1)) 43 fun b183 w184 =>
 ((0 ≤ (x1 : Int) ∧ (x1 : Int) ≤ x1 ∧ ((8 : Nat) : Int) * x1 ≤ 281474976710656 ∧ (x1 : Int) ≤ 9223372036854775807) ∧
 AllocK w184 (madeCells (#[.int .i64 0]) ((x1 : Int).toNat * 1)) 3 fun b185 w186 =>
 ((0 ≤ (x1 : Int) ∧ (x1 : Int) ≤ x1 ∧ ((24 : Nat) : Int) * x1 ≤ 281474976710656 ∧ (x1 : Int) ≤ 9223372036854775807) ∧
 AllocK w186 (madeCells (#[.slice none 0 0]) ((x1 : Int).toNat * 1)) 84 fun b187 w188 =>
 ((0 ≤ (x1 : Int) ∧ (x1 : Int) ≤ x1 ∧ ((24 : Nat) : Int) * x1 ≤ 281474976710656 ∧ (x1 : Int) ≤ 9223372036854775807) ∧
 AllocK w188 (madeCells (#[.slice none 0 0]) ((x1 : Int).toNat * 1)) 84 fun b189 w190 =>
 (0 ≤ (x1 : Int) ∧ (x1 : Int) ≤ x1 ∧ ((24 : Nat) : Int) * x1 ≤ 281474976710656 ∧ (x1 : Int) ≤ 9223372036854775807) ∧
 AllocK w190 (madeCells (#[.slice none 0 0]) ((x1 : Int).toNat * 1)) 84 fun b191 w192 =>
 AllocK w192 (#[(.int .i64 x1), (.int .i64 x2), (.int .i64 x3), (.slice (some b185) ((x1 : Int).toNat) ((x1 : Int).toNat)), (.slice none 0 0), (.slice (some b183) ((x1 : Int).toNat) ((x1 : Int).toNat)), (.slice (some b187) ((x1 : Int).toNat) ((x1 : Int).toNat)), (.slice (some b189) ((x1 : Int).toNat) ((x1 : Int).toNat)), (.slice (some b191) ((x1 : Int).toNat) ((x1 : Int).toNat)), (.slice none 0 0), (.slice none 0 0), (.slice none 0 0)]) 50 fun b193 w194 =>
 K (some b193) 0 w194) ∧
 ((0 ≤ (x1 : Int) ∧ (x1 : Int) ≤ x1 ∧ ((24 : Nat) : Int) * x1 ≤ 281474976710656 ∧ (x1 : Int) ≤ 9223372036854775807) ∧
 AllocK w188 (madeCells (#[.slice none 0 0]) ((x1 : Int).toNat * 1)) 84 fun b195 w196 =>
 (0 ≤ (x1 : Int) ∧ (x1 : Int) ≤ x1 ∧ ((24 : Nat) : Int) * x1 ≤ 281474976710656 ∧ (x1 : Int) ≤ 9223372036854775807) ∧
 AllocK w196 (madeCells (#[.slice none 0 0]) ((x1 : Int).toNat * 1)) 84 fun b197 w198 =>
 AllocK w198 (#[(.int .i64 x1), (.int .i64 x2), (.int .i64 x3), (.slice (some b185) ((x1 : Int).toNat) ((x1 : Int).toNat)), (.slice none 0 0), (.slice (some b183) ((x1 : Int).toNat) ((x1 : Int).toNat)), (.slice (some b187) ((x1 : Int).toNat) ((x1 : Int).toNat)), (.slice (some b197) ((x1 : Int).toNat) ((x1 : Int).toNat)), (.slice (some b195) ((x1 : Int).toNat) ((x1 : Int).toNat)), (.slice none 0 0), (.slice none 0 0), (.slice none 0 0)]) 50 fun b199 w200 =>
 K (some b199) 0 w200)) ∧
 (((0 ≤ (x1 : Int) ∧ (x1 : Int) ≤ x1 ∧ ((24 : Nat) : Int) * x1 ≤ 281474976710656 ∧ (x1 : Int) ≤ 9223372036854775807) ∧
 AllocK w186 (madeCells (#[.slice none 0 0]) ((x1 : Int).toNat * 1)) 84 fun b201 w202 =>
 ((0 ≤ (x1 : Int) ∧ (x1 : Int) ≤ x1 ∧ ((24 : Nat) : Int) * x1 ≤ 281474976710656 ∧ (x1 : Int) ≤ 9223372036854775807) ∧
 AllocK w202 (madeCells (#[.slice none 0 0]) ((x1 : Int).toNat * 1)) 84 fun b203 w204 =>
 (0 ≤ (x1 : Int) ∧ (x1 : Int) ≤ x1 ∧ ((24 : Nat) : Int) * x1 ≤ 281474976710656 ∧ (x1 : Int) ≤ 9223372036854775807) ∧
 AllocK w204 (madeCells (#[.slice none 0 0]) ((x1 : Int).toNat * 1)) 84 fun b205 w206 =>
 AllocK w206 (#[(.int .i64 x1), (.int .i64 x2), (.int .i64 x3), (.slice (some b185) ((x1 : Int).toNat) ((x1 : Int).toNat)), (.slice none 0 0), (.slice (some b183) ((x1 : Int).toNat) ((x1 : Int).toNat)), (.slice (some b203) ((x1 : Int).toNat) ((x1 : Int).toNat)), (.slice (some b201) ((x1 : Int).toNat) ((x1 : Int).toNat)), (.slice (some b205) ((x1 : Int).toNat) ((x1 : Int).toNat)), (.slice none 0 0), (.slice none 0 0), (.slice none 0 0)]) 50 fun b207 w208 =>
 K (some b207) 0 w208) ∧
 ((0 ≤ (x1 : Int) ∧ (x1 : Int) ≤ x1 ∧ ((24 : Nat) : Int) * x1 ≤ 281474976710656 ∧ (x1 : Int) ≤ 9223372036854775807) ∧
 AllocK w202 (madeCells (#[.slice none 0 0]) ((x1 : Int).toNat * 1)) 84 fun b209 w210 =>
 (0 ≤ (x1 : Int) ∧ (x1 : Int) ≤ x1 ∧ ((24 : Nat) : Int) * x1 ≤ 281474976710656 ∧ (x1 : Int) ≤ 9223372036854775807) ∧
 AllocK w210 (madeCells (#[.slice none 0 0]) ((x1 : Int).toNat * 1)) 84 fun b211 w212 =>
 AllocK w212 (#[(.int .i64 x1), (.int .i64 x2), (.int .i64 x3), (.slice (some b185) ((x1 : Int).toNat) ((x1 : Int).toNat)), (.slice none 0 0), (.slice (some b183) ((x1 : Int).toNat) ((x1 : Int).toNat)), (.slice (some b211) ((x1 : Int).toNat) ((x1 : Int).toNat)), (.slice (some b201) ((x1 : Int).toNat) ((x1 : Int).toNat)), (.slice (some b209) ((x1 : Int).toNat) ((x1 : Int).toNat)), (.slice none 0 0), (.slice none 0 0), (.slice none 0 0)]) 50 fun b213 w214 =>
 K (some b213) 0 w214)) ∧
 ((0 ≤ (x1 : Int) ∧ (x1 : Int) ≤ x1 ∧ ((24 : Nat) : Int) * x1 ≤ 281474976710656 ∧ (x1 : Int) ≤ 9223372036854775807) ∧
 AllocK w186 (madeCells (#[.slice none 0 0]) ((x1 : Int).toNat * 1)) 84 fun b215 w216 =>
 ((0 ≤ (x1 : Int) ∧ (x1 : Int) ≤ x1 ∧ ((24 : Nat) : Int) * x1 ≤ 281474976710656 ∧ (x1 : Int) ≤ 9223372036854775807) ∧
 AllocK w216 (madeCells (#[.slice none 0 0]) ((x1 : Int).toNat * 1)) 84 fun b217 w218 =>
 (0 ≤ (x1 : Int) ∧ (x1 : Int) ≤ x1 ∧ ((24 : Nat) : Int) * x1 ≤ 281474976710656 ∧ (x1 : Int) ≤ 9223372036854775807) ∧
 AllocK w218 (madeCells (#[.slice none 0 0]) ((x1 : Int).toNat * 1)) 84 fun b219 w220 =>
 AllocK w220 (#[(.int .i64 x1), (.int .i64 x2), (.int .i64 x3), (.slice (some b185) ((x1 : Int).toNat) ((x1 : Int).toNat)), (.slice none 0 0), (.slice (some b183) ((x1 : Int).toNat) ((x1 : Int).toNat)), (.slice (some b217) ((x1 : Int).toNat) ((x1 : Int).toNat)), (.slice (some b219) ((x1 : Int).toNat) ((x1 : Int).toNat)), (.slice (some b215) ((x1 : Int).toNat) ((x1 : Int).toNat)), (.slice none 0 0), (.slice none 0 0), (.slice none 0 0)]) 50 fun b221 w222 =>
 K (some b221) 0 w222) ∧
 ((0 ≤ (x1 : Int) ∧ (x1 : Int) ≤ x1 ∧ ((24 : Nat) : Int) * x1 ≤ 281474976710656 ∧ (x1 : Int) ≤ 9223372036854775807) ∧
 AllocK w216 (madeCells (#[.slice none 0 0]) ((x1 : Int).toNat * 1)) 84 fun b223 w224 =>
 (0 ≤ (x1 : Int) ∧ (x1 : Int) ≤ x1 ∧ ((24 : Nat) : Int) * x1 ≤ 281474976710656 ∧ (x1 : Int) ≤ 9223372036854775807) ∧
 AllocK w224 (madeCells (#[.slice none 0 0]) ((x1 : Int).toNat * 1)) 84 fun b225 w226 =>
 AllocK w226 (#[(.int .i64 x1), (.int .i64 x2), (.int .i64 x3), (.slice (some b185) ((x1 : Int).toNat) ((x1 : Int).toNat)), (.slice none 0 0), (.slice (some b183) ((x1 : Int).toNat) ((x1 : Int).toNat)), (.slice (some b225) ((x1 : Int).toNat) ((x1 : Int).toNat)), (.slice (some b223) ((x1 : Int).toNat) ((x1 : Int).toNat)), (.slice (some b215) ((x1 : Int).toNat) ((x1 : Int).toNat)), (.slice none 0 0), (.slice none 0 0), (.slice none 0 0)]) 50 fun b227 w228 =>
 K (some b227) 0 w228)))) ∧
 (((0 ≤ (x1 : Int) ∧ (x1 : Int) ≤ x1 ∧ ((24 : Nat) : Int) * x1 ≤ 281474976710656 ∧ (x1 : Int) ≤ 9223372036854775807) ∧
 AllocK w184 (madeCells (#[.slice none 0 0]) ((x1 : Int).toNat * 1)) 84 fun b229 w230 =>
 ((0 ≤ (x1 : Int) ∧ (x1 : Int) ≤ x1 ∧ ((8 : Nat) : Int) * x1 ≤ 281474976710656 ∧ (x1 : Int) ≤ 9223372036854775807) ∧
 AllocK w230 (madeCells (#[.int .i64 0]) ((x1 : Int).toNat * 1)) 3 fun b231 w232 =>
 ((0 ≤ (x1 : Int) ∧ (x1 : Int) ≤ x1 ∧ ((24 : Nat) : Int) * x1 ≤ 281474976710656 ∧ (x1 : Int) ≤ 9223372036854775807) ∧
 AllocK w232 (madeCells (#[.slice none 0 0]) ((x1 : Int).toNat * 1)) 84 fun b233 w234 =>
 (0 ≤ (x1 : Int) ∧ (x1 : Int) ≤ x1 ∧ ((24 : Nat) : Int) * x1 ≤ 281474976710656 ∧ (x1 : Int) ≤ 9223372036854775807) ∧
 AllocK w234 (madeCells (#[.slice none 0 0]) ((x1 : Int).toNat * 1)) 84 fun b235 w236 =>
 AllocK w236 (#[(.int .i64 x1), (.int .i64 x2), (.int .i64 x3), (.slice (some b231) ((x1 : Int).toNat) ((x1 : Int).toNat)), (.slice none 0 0), (.slice (some b183) ((x1 : Int).toNat) ((x1 : Int).toNat)), (.slice (some b229) ((x1 : Int).toNat) ((x1 : Int).toNat)), (.slice (some b233) ((x1 : Int).toNat) ((x1 : Int).toNat)), (.slice (some b235) ((x1 : Int).toNat) ((x1 : Int).toNat)), (.slice none 0 0), (.slice none 0 0), (.slice none 0 0)]) 50 fun b237 w238 =>
 K (some b237) 0 w238) ∧
 ((0 ≤ (x1 : Int) ∧ (x1 : Int) ≤ x1 ∧ ((24 : Nat) : Int) * x1 ≤ 281474976710656 ∧ (x1 : Int) ≤ 9223372036854775807) ∧
 AllocK w232 (madeCells (#[.slice none 0 0]) ((x1 : Int).toNat * 1)) 84 fun b239 w240 =>
 (0 ≤ (x1 : Int) ∧ (x1 : Int) ≤ x1 ∧ ((24 : Nat) : Int) * x1 ≤ 281474976710656 ∧ (x1 : Int) ≤ 9223372036854775807) ∧
 AllocK w240 (madeCells (#[.slice none 0 0]) ((x1 : Int).toNat * 1)) 84 fun b241 w242 =>
 AllocK w242 (#[(.int .i64 x1), (.int .i64 x2), (.int .i64 x3), (.slice (some b231) ((x1 : Int).toNat) ((x1 : Int).toNat)), (.slice none 0 0), (.slice (some b183) ((x1 : Int).toNat) ((x1 : Int).toNat)), (.slice (some b229) ((x1 : Int).toNat) ((x1 : Int).toNat)), (.slice (some b241) ((x1 : Int).toNat) ((x1 : Int).toNat)), (.slice (some b239) ((x1 : Int).toNat) ((x1 : Int).toNat)), (.slice none 0 0), (.slice none 0 0), (.slice none 0 0)]) 50 fun b243 w244 =>
 K (some b243) 0 w244)) ∧
 (((0 ≤ (x1 : Int) ∧ (x1 : Int) ≤ x1 ∧ ((24 : Nat) : Int) * x1 ≤ 281474976710656 ∧ (x1 : Int) ≤ 9223372036854775807) ∧
 AllocK w230 (madeCells (#[.slice none 0 0]) ((x1 : Int).toNat * 1)) 84 fun b245 w246 =>
 ((0 ≤ (x1 : Int) ∧ (x1 : Int) ≤ x1 ∧ ((8 : Nat) : Int) * x1 ≤ 281474976710656 ∧ (x1 : Int) ≤ 9223372036854775807) ∧
 AllocK w246 (madeCells (#[.int .i64 0]) ((x1 : Int).toNat * 1)) 3 fun b247 w248 =>
 (0 ≤ (x1 : Int) ∧ (x1 : Int) ≤ x1 ∧ ((24 : Nat) : Int) * x1 ≤ 281474976710656 ∧ (x1 : Int) ≤ 9223372036854775807) ∧
 AllocK w248 (madeCells (#[.slice none 0 0]) ((x1 : Int).toNat * 1)) 84 fun b249 w250 =>
 AllocK w250 (#[(.int .i64 x1), (.int .i64 x2), (.int .i64 x3), (.slice (some b247) ((x1 : Int).toNat) ((x1 : Int).toNat)), (.slice none 0 0), (.slice (some b183) ((x1 : Int).toNat) ((x1 : Int).toNat)), (.slice (some b229) ((x1 : Int).toNat) ((x1 : Int).toNat)), (.slice (some b245) ((x1 : Int).toNat) ((x1 : Int).toNat)), (.slice (some b249) ((x1 : Int).toNat) ((x1 : Int).toNat)), (.slice none 0 0), (.slice none 0 0), (.slice none 0 0)]) 50 fun b251 w252 =>
 K (some b251) 0 w252) ∧
 ((0 ≤ (x1 : Int) ∧ (x1 : Int) ≤ x1 ∧ ((24 : Nat) : Int) * x1 ≤ 281474976710656 ∧ (x1 : Int) ≤ 9223372036854775807) ∧
 AllocK w246 (madeCells (#[.slice none 0 0]) ((x1 : Int).toNat * 1)) 84 fun b253 w254 =>
 (0 ≤ (x1 : Int) ∧ (x1 : Int) ≤ x1 ∧ ((8 : Nat) : Int) * x1 ≤ 281474976710656 ∧ (x1 : Int) ≤ 9223372036854775807) ∧
 AllocK w254 (madeCells (#[.int .i64 0]) ((x1 : Int).toNat * 1)) 3 fun b255 w256 =>
 AllocK w256 (#[(.int .i64 x1), (.int .i64 x2), (.int .i64 x3), (.slice (some b255) ((x1 : Int).toNat) ((x1 : Int).toNat)), (.slice none 0 0), (.slice (some b183) ((x1 : Int).toNat) ((x1 : Int).toNat)), (.slice (some b229) ((x1 : Int).toNat) ((x1 : Int).toNat)), (.slice (some b245) ((x1 : Int).toNat) ((x1 : Int).toNat)), (.slice (some b253) ((x1 : Int).toNat) ((x1 : Int).toNat)), (.slice none 0 0), (.slice none 0 0), (.slice none 0 0)]) 50 fun b257 w258 =>
 K (some b257) 0 w258)) ∧
 ((0 ≤ (x1 : Int) ∧ (x1 : Int) ≤ x1 ∧ ((24 : Nat) : Int) * x1 ≤ 281474976710656 ∧ (x1 : Int) ≤ 9223372036854775807) ∧
 AllocK w230 (madeCells (#[.slice none 0 0]) ((x1 : Int).toNat * 1)) 84 fun b259 w260 =>
 ((0 ≤ (x1 : Int) ∧ (x1 : Int) ≤ x1 ∧ ((8 : Nat) : Int) * x1 ≤ 281474976710656 ∧ (x1 : Int) ≤ 9223372036854775807) ∧
 AllocK w260 (madeCells (#[.int .i64 0]) ((x1 : Int).toNat * 1)) 3 fun b261 w262 =>
 (0 ≤ (x1 : Int) ∧ (x1 : Int) ≤ x1 ∧ ((24 : Nat) : Int) * x1 ≤ 281474976710656 ∧ (x1 : Int) ≤ 9223372036854775807) ∧
 AllocK w262 (madeCells (#[.slice none 0 0]) ((x1 : Int).toNat * 1)) 84 fun b263 w264 =>
 AllocK w264 (#[(.int .i64 x1), (.int .i64 x2), (.int .i64 x3), (.slice (some b261) ((x1 : Int).toNat) ((x1 : Int).toNat)), (.slice none 0 0), (.slice (some b183) ((x1 : Int).toNat) ((x1 : Int).toNat)), (.slice (some b229) ((x1 : Int).toNat) ((x1 : Int).toNat)), (.slice (some b263) ((x1 : Int).toNat) ((x1 : Int).toNat)), (.slice (some b259) ((x1 : Int).toNat) ((x1 : Int).toNat)), (.slice none 0 0), (.slice none 0 0), (.slice none 0 0)]) 50 fun b265 w266 =>
 K (some b265) 0 w266) ∧
 ((0 ≤ (x1 : Int) ∧ (x1 : Int) ≤ x1 ∧ ((24 : Nat) : Int) * x1 ≤ 281474976710656 ∧ (x1 : Int) ≤ 9223372036854775807) ∧
 AllocK w260 (madeCells (#[.slice none 0 0]) ((x1 : Int).toNat * 1)) 84 fun b267 w268 =>
 (0 ≤ (x1 : Int) ∧ (x1 : Int) ≤ x1 ∧ ((8 : Nat) : Int) * x1 ≤ 281474976710656 ∧ (x1 : Int) ≤ 9223372036854775807) ∧
 AllocK w268 (madeCells (#[.int .i64 0]) ((x1 : Int).toNat * 1)) 3 fun b269 w270 =>
 AllocK w270 (#[(.int .i64 x1), (.int .i64 x2), (.int .i64 x3), (.slice (some b269) ((x1 : Int).toNat) ((x1 : Int).toNat)), (.slice none 0 0), (.slice (some b183) ((x1 : Int).toNat) ((x1 : Int).toNat)), (.slice (some b229) ((x1 : Int).toNat) ((x1 : Int).toNat)), (.slice (some b267) ((x1 : Int).toNat) ((x1 : Int).toNat)), (.slice (some b259) ((x1 : Int).toNat) ((x1 : Int).toNat)), (.slice none 0 0), (.slice none 0 0), (.slice none 0 0)]) 50 fun b271 w272 =>
 K (some b271) 0 w272)))) ∧
 (((0 ≤ (x1 : Int) ∧ (x1 : Int) ≤ x1 ∧ ((24 : Nat) : Int) * x1 ≤ 281474976710656 ∧ (x1 : Int) ≤ 9223372036854775807) ∧
 AllocK w184 (madeCells (#[.slice none 0 0]) ((x1 : Int).toNat * 1)) 84 fun b273 w274 =>
 ((0 ≤ (x1 : Int) ∧ (x1 : Int) ≤ x1 ∧ ((8 : Nat) : Int) * x1 ≤ 281474976710656 ∧ (x1 : Int) ≤ 9223372036854775807) ∧
 AllocK w274 (madeCells (#[.int .i64 0]) ((x1 : Int).toNat * 1)) 3 fun b275 w276 =>
 ((0 ≤ (x1 : Int) ∧ (x1 : Int) ≤ x1 ∧ ((24 : Nat) : Int) * x1 ≤ 281474976710656 ∧ (x1 : Int) ≤ 9223372036854775807) ∧
 AllocK w276 (madeCells (#[.slice none 0 0]) ((x1 : Int).toNat * 1)) 84 fun b277 w278 =>
 (0 ≤ (x1 : Int) ∧ (x1 : Int) ≤ x1 ∧ ((24 : Nat) : Int) * x1 ≤ 281474976710656 ∧ (x1 : Int) ≤ 9223372036854775807) ∧
 AllocK w278 (madeCells (#[.slice none 0 0]) ((x1 : Int).toNat * 1)) 84 fun b279 w280 =>
 AllocK w280 (#[(.int .i64 x1), (.int .i64 x2), (.int .i64 x3), (.slice (some b275) ((x1 : Int).toNat) ((x1 : Int).toNat)), (.slice none 0 0), (.slice (some b183) ((x1 : Int).toNat) ((x1 : Int).toNat)), (.slice (some b277) ((x1 : Int).toNat) ((x1 : Int).toNat)), (.slice (some b273) ((x1 : Int).toNat) ((x1 : Int).toNat)), (.slice (some b279) ((x1 : Int).toNat) ((x1 : Int).toNat)), (.slice none 0 0), (.slice none 0 0), (.slice none 0 0)]) 50 fun b281 w282 =>
 K (some b281) 0 w282) ∧
 ((0 ≤ (x1 : Int) ∧ (x1 : Int) ≤ x1 ∧ ((24 : Nat) : Int) * x1 ≤ 281474976710656 ∧ (x1 : Int) ≤ 9223372036854775807) ∧
 AllocK w276 (madeCells (#[.slice none 0 0]) ((x1 : Int).toNat * 1)) 84 fun b283 w284 =>
 (0 ≤ (x1 : Int) ∧ (x1 : Int) ≤ x1 ∧ ((24 : Nat) : Int) * x1 ≤ 281474976710656 ∧ (x1 : Int) ≤ 9223372036854775807) ∧
 AllocK w284 (madeCells (#[.slice none 0 0]) ((x1 : Int).toNat * 1)) 84 fun b285 w286 =>
 AllocK w286 (#[(.int .i64 x1), (.int .i64 x2), (.int .i64 x3), (.slice (some b275) ((x1 : Int).toNat) ((x1 : Int).toNat)), (.slice none 0 0), (.slice (some b183) ((x1 : Int).toNat) ((x1 : Int).toNat)), (.slice (some b285) ((x1 : Int).toNat) ((x1 : Int).toNat)), (.slice (some b273) ((x1 : Int).toNat) ((x1 : Int).toNat)), (.slice (some b283) ((x1 : Int).toNat) ((x1 : Int).toNat)), (.slice none 0 0), (.slice none 0 0), (.slice none 0 0)]) 50 fun b287 w288 =>
 K (some b287) 0 w288)) ∧
 (((0 ≤ (x1 : Int) ∧ (x1 : Int) ≤ x1 ∧ ((24 : Nat) : Int) * x1 ≤ 281474976710656 ∧ (x1 : Int) ≤ 9223372036854775807) ∧
 AllocK w274 (madeCells (#[.slice none 0 0]) ((x1 : Int).toNat * 1)) 84 fun b289 w290 =>
 ((0 ≤ (x1 : Int) ∧ (x1 : Int) ≤ x1 ∧ ((8 : Nat) : Int) * x1 ≤ 281474976710656 ∧ (x1 : Int) ≤ 9223372036854775807) ∧
 AllocK w290 (madeCells (#[.int .i64 0]) ((x1 : Int).toNat * 1)) 3 fun b291 w292 =>
 (0 ≤ (x1 : Int) ∧ (x1 : Int) ≤ x1 ∧ ((24 : Nat) : Int) * x1 ≤ 281474976710656 ∧ (x1 : Int) ≤ 9223372036854775807) ∧
 AllocK w292 (madeCells (#[.slice none 0 0]) ((x1 : Int).toNat * 1)) 84 fun b293 w294 =>
 AllocK w294 (#[(.int .i64 x1), (.int .i64 x2), (.int .i64 x3), (.slice (some b291) ((x1 : Int).toNat) ((x1 : Int).toNat)), (.slice none 0 0), (.slice (some b183) ((x1 : Int).toNat) ((x1 : Int).toNat)), (.slice (some b289) ((x1 : Int).toNat) ((x1 : Int).toNat)), (.slice (some b273) ((x1 : Int).toNat) ((x1 : Int).toNat)), (.slice (some b293) ((x1 : Int).toNat) ((x1 : Int).toNat)), (.slice none 0 0), (.slice none 0 0), (.slice none 0 0)]) 50 fun b295 w296 =>
 K (some b295) 0 w296) ∧
 ((0 ≤ (x1 : Int) ∧ (x1 : Int) ≤ x1 ∧ ((24 : Nat) : Int) * x1 ≤ 281474976710656 ∧ (x1 : Int) ≤ 9223372036854775807) ∧
 AllocK w290 (madeCells (#[.slice none 0 0]) ((x1 : Int).toNat * 1)) 84 fun b297 w298 =>
 (0 ≤ (x1 : Int) ∧ (x1 : Int) ≤ x1 ∧ ((8 : Nat) : Int) * x1 ≤ 281474976710656 ∧ (x1 : Int) ≤ 9223372036854775807) ∧
 AllocK w298 (madeCells (#[.int .i64 0]) ((x1 : Int).toNat * 1)) 3 fun b299 w300 =>
 AllocK w300 (#[(.int .i64 x1), (.int .i64 x2), (.int .i64 x3), (.slice (some b299) ((x1 : Int).toNat) ((x1 : Int).toNat)), (.slice none 0 0), (.slice (some b183) ((x1 : Int).toNat) ((x1 : Int).toNat)), (.slice (some b289) ((x1 : Int).toNat) ((x1 : Int).toNat)), (.slice (some b273) ((x1 : Int).toNat) ((x1 : Int).toNat)), (.slice (some b297) ((x1 : Int).toNat) ((x1 : Int).toNat)), (.slice none 0 0), (.slice none 0 0), (.slice none 0 0)]) 50 fun b301 w302 =>
 K (some b301) 0 w302)) ∧
 ((0 ≤ (x1 : Int) ∧ (x1 : Int) ≤ x1 ∧ ((24 : Nat) : Int) * x1 ≤ 281474976710656 ∧ (x1 : Int) ≤ 9223372036854775807) ∧
 AllocK w274 (madeCells (#[.slice none 0 0]) ((x1 : Int).toNat * 1)) 84 fun b303 w304 =>
 ((0 ≤ (x1 : Int) ∧ (x1 : Int) ≤ x1 ∧ ((8 : Nat) : Int) * x1 ≤ 281474976710656 ∧ (x1 : Int) ≤ 9223372036854775807) ∧
 AllocK w304 (madeCells (#[.int .i64 0]) ((x1 : Int).toNat * 1)) 3 fun b305 w306 =>
 (0 ≤ (x1 : Int) ∧ (x1 : Int) ≤ x1 ∧ ((24 : Nat) : Int) * x1 ≤ 281474976710656 ∧ (x1 : Int) ≤ 9223372036854775807) ∧
 AllocK w306 (madeCells (#[.slice none 0 0]) ((x1 : Int).toNat * 1)) 84 fun b307 w308 =>
 AllocK w308 (#[(.int .i64 x1), (.int .i64 x2), (.int .i64 x3), (.slice (some b305) ((x1 : Int).toNat) ((x1 : Int).toNat)), (.slice none 0 0), (.slice (some b183) ((x1 : Int).toNat) ((x1 : Int).toNat)), (.slice (some b307) ((x1 : Int).toNat) ((x1 : Int).toNat)), (.slice (some b273) ((x1 : Int).toNat) ((x1 : Int).toNat)), (.slice (some b303) ((x1 : Int).toNat) ((x1 : Int).toNat)), (.slice none 0 0), (.slice none 0 0), (.slice none 0 0)]) 50 fun b309 w310 =>
 K (some b309) 0 w310) ∧
 ((0 ≤ (x1 : Int) ∧ (x1 : Int) ≤ x1 ∧ ((24 : Nat) : Int) * x1 ≤ 281474976710656 ∧ (x1 : Int) ≤ 9223372036854775807) ∧
 AllocK w304 (madeCells (#[.slice none 0 0]) ((x1 : Int).toNat * 1)) 84 fun b311 w312 =>
 (0 ≤ (x1 : Int) ∧ (x1 : Int) ≤ x1 ∧ ((8 : Nat) : Int) * x1 ≤ 281474976710656 ∧ (x1 : Int) ≤ 9223372036854775807) ∧
 AllocK w312 (madeCells (#[.int .i64 0]) ((x1 : Int).toNat * 1)) 3 fun b313 w314 =>
 AllocK w314 (#[(.int .i64 x1), (.int .i64 x2), (.int .i64 x3), (.slice (some b313) ((x1 : Int).toNat) ((x1 : Int).toNat)), (.slice none 0 0), (.slice (some b183) ((x1 : Int).toNat) ((x1 : Int).toNat)), (.slice (some b311) ((x1 : Int).toNat) ((x1 : Int).toNat)), (.slice (some b273) ((x1 : Int).toNat) ((x1 : Int).toNat)), (.slice (some b303) ((x1 : Int).toNat) ((x1 : Int).toNat)), (.slice none 0 0), (.slice none 0 0), (.slice none 0 0)]) 50 fun b315 w316 =>
 K (some b315) 0 w316)))) ∧
 ((0 ≤ (x1 : Int) ∧ (x1 : Int) ≤ x1 ∧ ((24 : Nat) : Int) * x1 ≤ 281474976710656 ∧ (x1 : Int) ≤ 9223372036854775807) ∧
 AllocK w184 (madeCells (#[.slice none 0 0]) ((x1 : Int).toNat * 1)) 84 fun b317 w318 =>
 ((0 ≤ (x1 : Int) ∧ (x1 : Int) ≤ x1 ∧ ((8 : Nat) : Int) * x1 ≤ 281474976710656 ∧ (x1 : Int) ≤ 9223372036854775807) ∧
 AllocK w318 (madeCells (#[.int .i64 0]) ((x1 : Int).toNat * 1)) 3 fun b319 w320 =>
 ((0 ≤ (x1 : Int) ∧ (x1 : Int) ≤ x1 ∧ ((24 : Nat) : Int) * x1 ≤ 281474976710656 ∧ (x1 : Int) ≤ 9223372036854775807) ∧
 AllocK w320 (madeCells (#[.slice none 0 0]) ((x1 : Int).toNat * 1)) 84 fun b321 w322 =>
 (0 ≤ (x1 : Int) ∧ (x1 : Int) ≤ x1 ∧ ((24 : Nat) : Int) * x1 ≤ 281474976710656 ∧ (x1 : Int) ≤ 9223372036854775807) ∧
 AllocK w322 (madeCells (#[.slice none 0 0]) ((x1 : Int).toNat * 1)) 84 fun b323 w324 =>
 AllocK w324 (#[(.int .i64 x1), (.int .i64 x2), (.int .i64 x3), (.slice (some b319) ((x1 : Int).toNat) ((x1 : Int).toNat)), (.slice none 0 0), (.slice (some b183) ((x1 : Int).toNat) ((x1 : Int).toNat)), (.slice (some b321) ((x1 : Int).toNat) ((x1 : Int).toNat)), (.slice (some b323) ((x1 : Int).toNat) ((x1 : Int).toNat)), (.slice (some b317) ((x1 : Int).toNat) ((x1 : Int).toNat)), (.slice none 0 0), (.slice none 0 0), (.slice none 0 0)]) 50 fun b325 w326 =>
 K (some b325) 0 w326) ∧
 ((0 ≤ (x1 : Int) ∧ (x1 : Int) ≤ x1 ∧ ((24 : Nat) : Int) * x1 ≤ 281474976710656 ∧ (x1 : Int) ≤ 9223372036854775807) ∧
 AllocK w320 (madeCells (#[.slice none 0 0]) ((x1 : Int).toNat * 1)) 84 fun b327 w328 =>
 (0 ≤ (x1 : Int) ∧ (x1 : Int) ≤ x1 ∧ ((24 : Nat) : Int) * x1 ≤ 281474976710656 ∧ (x1 : Int) ≤ 9223372036854775807) ∧
 AllocK w328 (madeCells (#[.slice none 0 0]) ((x1 : Int).toNat * 1)) 84 fun b329 w330 =>
 AllocK w330 (#[(.int .i64 x1), (.int .i64 x2), (.int .i64 x3), (.slice (some b319) ((x1 : Int).toNat) ((x1 : Int).toNat)), (.slice none 0 0), (.slice (some b183) ((x1 : Int).toNat) ((x1 : Int).toNat)), (.slice (some b329) ((x1 : Int).toNat) ((x1 : Int).toNat)), (.slice (some b327) ((x1 : Int).toNat) ((x1 : Int).toNat)), (.slice (some b317) ((x1 : Int).toNat) ((x1 : Int).toNat)), (.slice none 0 0), (.slice none 0 0), (.slice none 0 0)]) 50 fun b331 w332 =>
 K (some b331) 0 w332)) ∧
 (((0 ≤ (x1 : Int) ∧ (x1 : Int) ≤ x1 ∧ ((24 : Nat) : Int) * x1 ≤ 281474976710656 ∧ (x1 : Int) ≤ 9223372036854775807) ∧
 AllocK w318 (madeCells (#[.slice none 0 0]) ((x1 : Int).toNat * 1)) 84 fun b333 w334 =>
 ((0 ≤ (x1 : Int) ∧ (x1 : Int) ≤ x1 ∧ ((8 : Nat) : Int) * x1 ≤ 281474976710656 ∧ (x1 : Int) ≤ 9223372036854775807) ∧
 AllocK w334 (madeCells (#[.int .i64 0]) ((x1 : Int).toNat * 1)) 3 fun b335 w336 =>
 (0 ≤ (x1 : Int) ∧ (x1 : Int) ≤ x1 ∧ ((24 : Nat) : Int) * x1 ≤ 281474976710656 ∧ (x1 : Int) ≤ 9223372036854775807) ∧
 AllocK w336 (madeCells (#[.slice none 0 0]) ((x1 : Int).toNat * 1)) 84 fun b337 w338 =>
 AllocK w338 (#[(.int .i64 x1), (.int .i64 x2), (.int .i64 x3), (.slice (some b335) ((x1 : Int).toNat) ((x1 : Int).toNat)), (.slice none 0 0), (.slice (some b183) ((x1 : Int).toNat) ((x1 : Int).toNat)), (.slice (some b333) ((x1 : Int).toNat) ((x1 : Int).toNat)), (.slice (some b337) ((x1 : Int).toNat) ((x1 : Int).toNat)), (.slice (some b317) ((x1 : Int).toNat) ((x1 : Int).toNat)), (.slice none 0 0), (.slice none 0 0), (.slice none 0 0)]) 50 fun b339 w340 =>
 K (some b339) 0 w340) ∧
 ((0 ≤ (x1 : Int) ∧ (x1 : Int) ≤ x1 ∧ ((24 : Nat) : Int) * x1 ≤ 281474976710656 ∧ (x1 : Int) ≤ 9223372036854775807) ∧
 AllocK w334 (madeCells (#[.slice none 0 0]) ((x1 : Int).toNat * 1)) 84 fun b341 w342 =>
 (0 ≤ (x1 : Int) ∧ (x1 : Int) ≤ x1 ∧ ((8 : Nat) : Int) * x1 ≤ 281474976710656 ∧ (x1 : Int) ≤ 9223372036854775807) ∧
 AllocK w342 (madeCells (#[.int .i64 0]) ((x1 : Int).toNat * 1)) 3 fun b343 w344 =>
 AllocK w344 (#[(.int .i64 x1), (.int .i64 x2), (.int .i64 x3), (.slice (some b343) ((x1 : Int).toNat) ((x1 : Int).toNat)), (.slice none 0 0), (.slice (some b183) ((x1 : Int).toNat) ((x1 : Int).toNat)), (.slice (some b333) ((x1 : Int).toNat) ((x1 : Int).toNat)), (.slice (some b341) ((x1 : Int).toNat) ((x1 : Int).toNat)), (.slice (some b317) ((x1 : Int).toNat) ((x1 : Int).toNat)), (.slice none 0 0), (.slice none 0 0), (.slice none 0 0)]) 50 fun b345 w346 =>
 K (some b345) 0 w346)) ∧
 ((0 ≤ (x1 : Int) ∧ (x1 : Int) ≤ x1 ∧ ((24 : Nat) : Int) * x1 ≤ 281474976710656 ∧ (x1 : Int) ≤ 9223372036854775807) ∧
 AllocK w318 (madeCells (#[.slice none 0 0]) ((x1 : Int).toNat * 1)) 84 fun b347 w348 =>
 ((0 ≤ (x1 : Int) ∧ (x1 : Int) ≤ x1 ∧ ((8 : Nat) : Int) * x1 ≤ 281474976710656 ∧ (x1 : Int) ≤ 9223372036854775807) ∧
 AllocK w348 (madeCells (#[.int .i64 0]) ((x1 : Int).toNat * 1)) 3 fun b349 w350 =>
 (0 ≤ (x1 : Int) ∧ (x1 : Int) ≤ x1 ∧ ((24 : Nat) : Int) * x1 ≤ 281474976710656 ∧ (x1 : Int) ≤ 9223372036854775807) ∧
 AllocK w350 (madeCells (#[.slice none 0 0]) ((x1 : Int).toNat * 1)) 84 fun b351 w352 =>
 AllocK w352 (#[(.int .i64 x1), (.int .i64 x2), (.int .i64 x3), (.slice (some b349) ((x1 : Int).toNat) ((x1 : Int).toNat)), (.slice none 0 0), (.slice (some b183) ((x1 : Int).toNat) ((x1 : Int).toNat)), (.slice (some b351) ((x1 : Int).toNat) ((x1 : Int).toNat)), (.slice (some b347) ((x1 : Int).toNat) ((x1 : Int).toNat)), (.slice (some b317) ((x1 : Int).toNat) ((x1 : Int).toNat)), (.slice none 0 0), (.slice none 0 0), (.slice none 0 0)]) 50 fun b353 w354 =>
 K (some b353) 0 w354) ∧
 ((0 ≤ (x1 : Int) ∧ (x1 : Int) ≤ x1 ∧ ((24 : Nat) : Int) * x1 ≤ 281474976710656 ∧ (x1 : Int) ≤ 9223372036854775807) ∧
 AllocK w348 (madeCells (#[.slice none 0 0]) ((x1 : Int).toNat * 1)) 84 fun b355 w356 =>
 (0 ≤ (x1 : Int) ∧ (x1 : Int) ≤ x1 ∧ ((8 : Nat) : Int) * x1 ≤ 281474976710656 ∧ (x1 : Int) ≤ 9223372036854775807) ∧
 AllocK w356 (madeCells (#[.int .i64 0]) ((x1 : Int).toNat * 1)) 3 fun b357 w358 =>
 AllocK w358 (#[(.int .i64 x1), (.int .i64 x2), (.int .i64 x3), (.slice (some b357) ((x1 : Int).toNat) ((x1 : Int).toNat)), (.slice none 0 0), (.slice (some b183) ((x1 : Int).toNat) ((x1 : Int).toNat)), (.slice (some b355) ((x1 : Int).toNat) ((x1 : Int).toNat)), (.slice (some b347) ((x1 : Int).toNat) ((x1 : Int).toNat)), (.slice (some b317) ((x1 : Int).toNat) ((x1 : Int).toNat)), (.slice none 0 0), (.slice none 0 0), (.slice none 0 0)]) 50 fun b359 w360 =>
 K (some b359) 0 w360))))))) ∧
 (((0 ≤ (x1 : Int) ∧ (x1 : Int) ≤ x1 ∧ ((24 : Nat) : Int) * x1 ≤ 281474976710656 ∧ (x1 : Int) ≤ 9223372036854775807) ∧
 AllocK w4 (madeCells (#[.slice none 0 0]) ((x1 : Int).toNat * 1)) 84 fun b361 w362 =>
 ((0 ≤ (x1 : Int) ∧ (x1 : Int) ≤ x1 ∧ ((8 : Nat) : Int) * x1 ≤ 281474976710656 ∧ (x1 : Int) ≤ 9223372036854775807) ∧
 AllocK w362 (madeCells (#[.int .i64 0]) ((x1 : Int).toNat * 1)) 3 fun b363 w364 =>
 ((0 ≤ (x1 : Int) ∧ (x1 : Int) ≤ x1 ∧ ((24 : Nat) : Int) * x1 ≤ 281474976710656 ∧ (x1 : Int) ≤ 9223372036854775807) ∧
 AllocK w364 (madeCells (#[.slice none 0 0]) ((x1 : Int).toNat * 1)) 43 fun b365 w366 =>
 ((0 ≤ (x1 : Int) ∧ (x1 : Int) ≤ x1 ∧ ((24 : Nat) : Int) * x1 ≤ 281474976710656 ∧ (x1 : Int) ≤ 9223372036854775807) ∧
 AllocK w366 (madeCells (#[.slice none 0 0]) ((x1 : Int).toNat * 1)) 84 fun b367 w368 =>
 (0 ≤ (x1 : Int) ∧ (x1 : Int) ≤ x1 ∧ ((24 : Nat) : Int) * x1 ≤ 281474976710656 ∧ (x1 : Int) ≤ 9223372036854775807) ∧
 AllocK w368 (madeCells (#[.slice none 0 0]) ((x1 : Int).toNat * 1)) 84 fun b369 w370 =>
 AllocK w370 (#[(.int .i64 x1), (.int .i64 x2), (.int .i64 x3), (.slice (some b363) ((x1 : Int).toNat) ((x1 : Int).toNat)), (.slice none 0 0), (.slice (some b365) ((x1 : Int).toNat) ((x1 : Int).toNat)), (.slice (some b361) ((x1 : Int).toNat) ((x1 : Int).toNat)), (.slice (some b367) ((x1 : Int).toNat) ((x1 : Int).toNat)), (.slice (some b369) ((x1 : Int).toNat) ((x1 : Int).toNat)), (.slice none 0 0), (.slice none 0 0), (.slice none 0 0)]) 50 fun b371 w372 =>
 K (some b371) 0 w372) ∧
 ((0 ≤ (x1 : Int) ∧ (x1 : Int) ≤ x1 ∧ ((24 : Nat) : Int) * x1 ≤ 281474976710656 ∧ (x1 : Int) ≤ 9223372036854775807) ∧
 AllocK w366 (madeCells (#[.slice none 0 0]) ((x1 : Int).toNat * 1)) 84 fun b373 w374 =>
 (0 ≤ (x1 : Int) ∧ (x1 : Int) ≤ x1 ∧ ((24 : Nat) : Int) * x1 ≤ 281474976710656 ∧ (x1 : Int) ≤ 9223372036854775807) ∧
 AllocK w374 (madeCells (#[.slice none 0 0]) ((x1 : Int).toNat * 1)) 84 fun b375 w376 =>
 AllocK w376 (#[(.int .i64 x1), (.int .i64 x2), (.int .i64 x3), (.slice (some b363) ((x1 : Int).toNat) ((x1 : Int).toNat)), (.slice none 0 0), (.slice (some b365) ((x1 : Int).toNat) ((x1 : Int).toNat)), (.slice (some b361) ((x1 : Int).toNat) ((x1 : Int).toNat)), (.slice (some b375) ((x1 : Int).toNat) ((x1 : Int).toNat)), (.slice (some b373) ((x1 : Int).toNat) ((x1 : Int).toNat)), (.slice none 0 0), (.slice none 0 0), (.slice none 0 0)]) 50 fun b377 w378 =>
 K (some b377) 0 w378)) ∧
 (((0 ≤ (x1 : Int) ∧ (x1 : Int) ≤ x1 ∧ ((24 : Nat) : Int) * x1 ≤ 281474976710656 ∧ (x1 : Int) ≤ 9223372036854775807) ∧
 AllocK w364 (madeCells (#[.slice none 0 0]) ((x1 : Int).toNat * 1)) 84 fun b379 w380 =>
 ((0 ≤ (x1 : Int) ∧ (x1 : Int) ≤ x1 ∧ ((24 : Nat) : Int) * x1 ≤ 281474976710656 ∧ (x1 : Int) ≤ 9223372036854775807) ∧
 AllocK w380 (madeCells (#[.slice none 0 0]) ((x1 : Int).toNat * 1)) 43 fun b381 w382 =>
 (0 ≤ (x1 : Int) ∧ (x1 : Int) ≤ x1 ∧ ((24 : Nat) : Int) * x1 ≤ 281474976710656 ∧ (x1 : Int) ≤ 9223372036854775807) ∧
 AllocK w382 (madeCells (#[.slice none 0 0]) ((x1 : Int).toNat * 1)) 84 fun b383 w384 =>
 AllocK w384 (#[(.int .i64 x1), (.int .i64 x2), (.int .i64 x3), (.slice (some b363) ((x1 : Int).toNat) ((x1 : Int).toNat)), (.slice none 0 0), (.slice (some b381) ((x1 : Int).toNat) ((x1 : Int).toNat)), (.slice (some b361) ((x1 : Int).toNat) ((x1 : Int).toNat)), (.slice (some b379) ((x1 : Int).toNat) ((x1 : Int).toNat)), (.slice (some b383) ((x1 : Int).toNat) ((x1 : Int).toNat)), (.slice none 0 0), (.slice none 0 0), (.slice none 0 0)]) 50 fun b385 w386 =>
 K (some b385) 0 w386) ∧
 ((0 ≤ (x1 : Int) ∧ (x1 : Int) ≤ x1 ∧ ((24 : Nat) : Int) * x1 ≤ 281474976710656 ∧ (x1 : Int) ≤ 9223372036854775807) ∧
 AllocK w380 (madeCells (#[.slice none 0 0]) ((x1 : Int).toNat * 1)) 84 fun b387 w388 =>
 (0 ≤ (x1 : Int) ∧ (x1 : Int) ≤ x1 ∧ ((24 : Nat) : Int) * x1 ≤ 281474976710656 ∧ (x1 : Int) ≤ 9223372036854775807) ∧
 AllocK w388 (madeCells (#[.slice none 0 0]) ((x1 : Int).toNat * 1)) 43 fun b389 w390 =>
 AllocK w390 (#[(.int .i64 x1), (.int .i64 x2), (.int .i64 x3), (.slice (some b363) ((x1 : Int).toNat) ((x1 : Int).toNat)), (.slice none 0 0), (.slice (some b389) ((x1 : Int).toNat) ((x1 : Int).toNat)), (.slice (some b361) ((x1 : Int).toNat) ((x1 : Int).toNat)), (.slice (some b379) ((x1 : Int).toNat) ((x1 : Int).toNat)), (.slice (some b387) ((x1 : Int).toNat) ((x1 : Int).toNat)), (.slice none 0 0), (.slice none 0 0), (.slice none 0 0)]) 50 fun b391 w392 =>
 K (some b391) 0 w392)) ∧
 ((0 ≤ (x1 : Int) ∧ (x1 : Int) ≤ x1 ∧ ((24 : Nat) : Int) * x1 ≤ 281474976710656 ∧ (x1 : Int) ≤ 9223372036854775807) ∧
 AllocK w364 (madeCells (#[.slice none 0 0]) ((x1 : Int).toNat * 1)) 84 fun b393 w394 =>
 ((0 ≤ (x1 : Int) ∧ (x1 : Int) ≤ x1 ∧ ((24 : Nat) : Int) * x1 ≤ 281474976710656 ∧ (x1 : Int) ≤ 9223372036854775807) ∧
 AllocK w394 (madeCells (#[.slice none 0 0]) ((x1 : Int).toNat * 1)) 43 fun b395 w396 =>
 (0 ≤ (x1 : Int) ∧ (x1 : Int) ≤ x1 ∧ ((24 : Nat) : Int) * x1 ≤ 281474976710656 ∧ (x1 : Int) ≤ 9223372036854775807) ∧
 AllocK w396 (madeCells (#[.slice none 0 0]) ((x1 : Int).toNat * 1)) 84 fun b397 w398 =>
 AllocK w398 (#[(.int .i64 x1), (.int .i64 x2), (.int .i64 x3), (.slice (some b363) ((x1 : Int).toNat) ((x1 : Int).toNat)), (.slice none 0 0), (.slice (some b395) ((x1 : Int).toNat) ((x1 : Int).toNat)), (.slice (some b361) ((x1 : Int).toNat) ((x1 : Int).toNat)), (.slice (some b397) ((x1 : Int).toNat) ((x1 : Int).toNat)), (.slice (some b393) ((x1 : Int).toNat) ((x1 : Int).toNat)), (.slice none 0 0), (.slice none 0 0), (.slice none 0 0)]) 50 fun b399 w400 =>
 K (some b399) 0 w400) ∧
 ((0 ≤ (x1 : Int) ∧ (x1 : Int) ≤ x1 ∧ ((24 : Nat) : Int) * x1 ≤ 281474976710656 ∧ (x1 : Int) ≤ 9223372036854775807) ∧
 AllocK w394 (madeCells (#[.slice none 0 0]) ((x1 : Int).toNat * 1)) 84 fun b401 w402 =>
 (0 ≤ (x1 : Int) ∧ (x1 : Int) ≤ x1 ∧ ((24 : Nat) : Int) * x1 ≤ 281474976710656 ∧ (x1 : Int) ≤ 9223372036854775807) ∧
 AllocK w402 (madeCells (#[.slice none 0 0]) ((x1 : Int).toNat * 1)) 43 fun b403 w404 =>
 AllocK w404 (#[(.int .i64 x1), (.int .i64 x2), (.int .i64 x3), (.slice (some b363) ((x1 : Int).toNat) ((x1 : Int).toNat)), (.slice none 0 0), (.slice (some b403) ((x1 : Int).toNat) ((x1 : Int).toNat)), (.slice (some b361) ((x1 : Int).toNat) ((x1 : Int).toNat)), (.slice (some b401) ((x1 : Int).toNat) ((x1 : Int).toNat)), (.slice (some b393) ((x1 : Int).toNat) ((x1 : Int).toNat)), (.slice none 0 0), (.slice none 0 0), (.slice none 0 0)]) 50 fun b405 w406 =>
 K (some b405) 0 w406)))) ∧
 (((0 ≤ (x1 : Int) ∧ (x1 : Int) ≤ x1 ∧ ((24 : Nat) : Int) * x1 ≤ 281474976710656 ∧ (x1 : Int) ≤ 9223372036854775807) ∧
 AllocK w362 (madeCells (#[.slice none 0 0]) ((x1 : Int).toNat * 1)) 43 fun b407 w408 =>
 ((0 ≤ (x1 : Int) ∧ (x1 : Int) ≤ x1 ∧ ((8 : Nat) : Int) * x1 ≤ 281474976710656 ∧ (x1 : Int) ≤ 9223372036854775807) ∧
 AllocK w408 (madeCells (#[.int .i64 0]) ((x1 : Int).toNat * 1)) 3 fun b409 w410 =>
 ((0 ≤ (x1 : Int) ∧ (x1 : Int) ≤ x1 ∧ ((24 : Nat) : Int) * x1 ≤ 281474976710656 ∧ (x1 : Int) ≤ 9223372036854775807) ∧
 AllocK w410 (madeCells (#[.slice none 0 0]) ((x1 : Int).toNat * 1)) 84 fun b411 w412 =>
 (0 ≤ (x1 : Int) ∧ (x1 : Int) ≤ x1 ∧ ((24 : Nat) : Int) * x1 ≤ 281474976710656 ∧ (x1 : Int) ≤ 9223372036854775807) ∧
 AllocK w412 (madeCells (#[.slice none 0 0]) ((x1 : Int).toNat * 1)) 84 fun b413 w414 =>
 AllocK w414 (#[(.int .i64 x1), (.int .i64 x2), (.int .i64 x3), (.slice (some b409) ((x1 : Int).toNat) ((x1 : Int).toNat)), (.slice none 0 0), (.slice (some b407) ((x1 : Int).toNat) ((x1 : Int).toNat)), (.slice (some b361) ((x1 : Int).toNat) ((x1 : Int).toNat)), (.slice (some b411) ((x1 : Int).toNat) ((x1 : Int).toNat)), (.slice (some b413) ((x1 : Int).toNat) ((x1 : Int).toNat)), (.slice none 0 0), (.slice none 0 0), (.slice none 0 0)]) 50 fun b415 w416 =>
 K (some b415) 0 w416) ∧
 ((0 ≤ (x1 : Int) ∧ (x1 : Int) ≤ x1 ∧ ((24 : Nat) : Int) * x1 ≤ 281474976710656 ∧ (x1 : Int) ≤ 9223372036854775807) ∧
 AllocK w410 (madeCells (#[.slice none 0 0]) ((x1 : Int).toNat * 1)) 84 fun b417 w418 =>
 (0 ≤ (x1 : Int) ∧ (x1 : Int) ≤ x1 ∧ ((24 : Nat) : Int) * x1 ≤ 281474976710656 ∧ (x1 : Int) ≤ 9223372036854775807) ∧
 AllocK w418 (madeCells (#[.slice none 0 0]) ((x1 : Int).toNat * 1)) 84 fun b419 w420 =>
 AllocK w420 (#[(.int .i64 x1), (.int .i64 x2), (.int .i64 x3), (.slice (some b409) ((x1 : Int).toNat) ((x1 : Int).toNat)), (.slice none 0 0), (.slice (some b407) ((x1 : Int).toNat) ((x1 : Int).toNat)), (.slice (some b361) ((x1 : Int).toNat) ((x1 : Int).toNat)), (.slice (some b419) ((x1 : Int).toNat) ((x1 : Int).toNat)), (.slice (some b417) ((x1 : Int).toNat) ((x1 : Int).toNat)), (.slice none 0 0), (.slice none 0 0), (.slice none 0 0)]) 50 fun b421 w422 =>
 K (some b421) 0 w422)) ∧
 (((0 ≤ (x1 : Int) ∧ (x1 : Int) ≤ x1 ∧ ((24 : Nat) : Int) * x1 ≤ 281474976710656 ∧ (x1 : Int) ≤ 9223372036854775807) ∧
 AllocK w408 (madeCells (#[.slice none 0 0]) ((x1 : Int).toNat * 1)) 84 fun b423 w424 =>
 ((0 ≤ (x1 : Int) ∧ (x1 : Int) ≤ x1 ∧ ((8 : Nat) : Int) * x1 ≤ 281474976710656 ∧ (x1 : Int) ≤ 9223372036854775807) ∧
 AllocK w424 (madeCells (#[.int .i64 0]) ((x1 : Int).toNat * 1)) 3 fun b425 w426 =>
 (0 ≤ (x1 : Int) ∧ (x1 : Int) ≤ x1 ∧ ((24 : Nat) : Int) * x1 ≤ 281474976710656 ∧ (x1 : Int) ≤ 9223372036854775807) ∧
 AllocK w426 (madeCells (#[.slice none 0 0]) ((x1 : Int).toNat * 1)) 84 fun b427 w428 =>
 AllocK w428 (#[(.int .i64 x1), (.int .i64 x2), (.int .i64 x3), (.slice (some b425) ((x1 : Int).toNat) ((x1 : Int).toNat)), (.slice none 0 0), (.slice (some b407) ((x1 : Int).toNat) ((x1 : Int).toNat)), (.slice (some b361) ((x1 : Int).toNat) ((x1 : Int).toNat)), (.slice (some b423) ((x1 : Int).toNat) ((x1 : Int).toNat)), (.slice (some b427) ((x1 : Int).toNat) ((x1 : Int).toNat)), (.slice none 0 0), (.slice none 0 0), (.slice none 0 0)]) 50 fun b429 w430 =>
 K (some b429) 0 w430) ∧
 ((0 ≤ (x1 : Int) ∧ (x1 : Int) ≤ x1 ∧ ((24 : Nat) : Int) * x1 ≤ 281474976710656 ∧ (x1 : Int) ≤ 9223372036854775807) ∧
 AllocK w424 (madeCells (#[.slice none 0 0]) ((x1 : Int).toNat * 1)) 84 fun b431 w432 =>
 (0 ≤ (x1 : Int) ∧ (x1 : Int) ≤ x1 ∧ ((8 : Nat) : Int) * x1 ≤ 281474976710656 ∧ (x1 : Int) ≤ 9223372036854775807) ∧
 AllocK w432 (madeCells (#[.int .i64 0]) ((x1 : Int).toNat * 1)) 3 fun b433 w434 =>
 AllocK w434 (#[(.int .i64 x1), (.int .i64 x2), (.int .i64 x3), (.slice (some b433) ((x1 : Int).toNat) ((x1 : Int).toNat)), (.slice none 0 0), (.slice (some b407) ((x1 : Int).toNat) ((x1 : Int).toNat)), (.slice (some b361) ((x1 : Int).toNat) ((x1 : Int).toNat)), (.slice (some b423) ((x1 : Int).toNat) ((x1 : Int).toNat)), (.slice (some b431) ((x1 : Int).toNat) ((x1 : Int).toNat)), (.slice none 0 0), (.slice none 0 0), (.slice none 0 0)]) 50 fun b435 w436 =>
 K (some b435) 0 w436)) ∧
 ((0 ≤ (x1 : Int) ∧ (x1 : Int) ≤ x1 ∧ ((24 : Nat) : Int) * x1 ≤ 281474976710656 ∧ (x1 : Int) ≤ 9223372036854775807) ∧
 AllocK w408 (madeCells (#[.slice none 0 0]) ((x1 : Int).toNat * 1)) 84 fun b437 w438 =>
 ((0 ≤ (x1 : Int) ∧ (x1 : Int) ≤ x1 ∧ ((8 : Nat) : Int) * x1 ≤ 281474976710656 ∧ (x1 : Int) ≤ 9223372036854775807) ∧
 AllocK w438 (madeCells (#[.int .i64 0]) ((x1 : Int).toNat * 1)) 3 fun b439 w440 =>
 (0 ≤ (x1 : Int) ∧ (x1 : Int) ≤ x1 ∧ ((24 : Nat) : Int) * x1 ≤ 281474976710656 ∧ (x1 : Int) ≤ 9223372036854775807) ∧
 AllocK w440 (madeCells (#[.slice none 0 0]) ((x1 : Int).toNat * 1)) 84 fun b441 w442 =>
 AllocK w442 (#[(.int .i64 x1), (.int .i64 x2), (.int .i64 x3), (.slice (some b439) ((x1 : Int).toNat) ((x1 : Int).toNat)), (.slice none 0 0), (.slice (some b407) ((x1 : Int).toNat) ((x1 : Int).toNat)), (.slice (some b361) ((x1 : Int).toNat) ((x1 : Int).toNat)), (.slice (some b441) ((x1 : Int).toNat) ((x1 : Int).toNat)), (.slice (some b437) ((x1 : Int).toNat) ((x1 : Int).toNat)), (.slice none 0 0), (.slice none 0 0), (.slice none 0 0)]) 50 fun b443 w444 =>
 K (some b443) 0 w444) ∧
 ((0 ≤ (x1 : Int) ∧ (x1 : Int) ≤ x1 ∧ ((24 : Nat) : Int) * x1 ≤ 281474976710656 ∧ (x1 : Int) ≤ 9223372036854775807) ∧
 AllocK w438 (madeCells (#[.slice none 0 0]) ((x1 : Int).toNat * 1)) 84 fun b445 w446 =>
 (0 ≤ (x1 : Int) ∧ (x1 : Int) ≤ x1 ∧ ((8 : Nat) : Int) * x1 ≤ 281474976710656 ∧ (x1 : Int) ≤ 9223372036854775807) ∧
 AllocK w446 (madeCells (#[.int .i64 0]) ((x1 : Int).toNat * 1)) 3 fun b447 w448 =>
 AllocK w448 (#[(.int .i64 x1), (.int .i64 x2), (.int .i64 x3), (.slice (some b447) ((x1 : Int).toNat) ((x1 : Int).toNat)), (.slice none 0 0), (.slice (some b407) ((x1 : Int).toNat) ((x1 : Int).toNat)), (.slice (some b361) ((x1 : Int).toNat) ((x1 : Int).toNat)), (.slice (some b445) ((x1 : Int).toNat) ((x1 : Int).toNat)), (.slice (some b437) ((x1 : Int).toNat) ((x1 : Int).toNat)), (.slice none 0 0), (.slice none 0 0), (.slice none 0 0)]) 50 fun b449 w450 =>
 K (some b449) 0 w450)))) ∧
 (((0 ≤ (x1 : Int) ∧ (x1 : Int) ≤ x1 ∧ ((24 : Nat) : Int) * x1 ≤ 281474976710656 ∧ (x1 : Int) ≤ 9223372036854775807) ∧
 AllocK w362 (madeCells (#[.slice none 0 0]) ((x1 : Int).toNat * 1)) 84 fun b451 w452 =>
 ((0 ≤ (x1 : Int) ∧ (x1 : Int) ≤ x1 ∧ ((8 : Nat) : Int) * x1 ≤ 281474976710656 ∧ (x1 : Int) ≤ 9223372036854775807) ∧
 AllocK w452 (madeCells (#[.int .i64 0]) ((x1 : Int).toNat * 1)) 3 fun b453 w454 =>
 ((0 ≤ (x1 : Int) ∧ (x1 : Int) ≤ x1 ∧ ((24 : Nat) : Int) * x1 ≤ 281474976710656 ∧ (x1 : Int) ≤ 9223372036854775807) ∧
 AllocK w454 (madeCells (#[.slice none 0 0]) ((x1 : Int).toNat * 1)) 43 fun b455 w456 =>
 (0 ≤ (x1 : Int) ∧ (x1 : Int) ≤ x1 ∧ ((24 : Nat) : Int) * x1 ≤ 281474976710656 ∧ (x1 : Int) ≤ 9223372036854775807) ∧
 AllocK w456 (madeCells (#[.slice none 0 0]) ((x1 : Int).toNat * 1)) 84 fun b457 w458 =>
 AllocK w458 (#[(.int .i64 x1), (.int .i64 x2), (.int .i64 x3), (.slice (some b453) ((x1 : Int).toNat) ((x1 : Int).toNat)), (.slice none 0 0), (.slice (some b455) ((x1 : Int).toNat) ((x1 : Int).toNat)), (.slice (some b361) ((x1 : Int).toNat) ((x1 : Int).toNat)), (.slice (some b451) ((x1 : Int).toNat) ((x1 : Int).toNat)), (.slice (some b457) ((x1 : Int).toNat) ((x1 : Int).toNat)), (.slice none 0 0), (.slice none 0 0), (.slice none 0 0)]) 50 fun b459 w460 =>
 K (some b459) 0 w460) ∧
 ((0 ≤ (x1 : Int) ∧ (x1 : Int) ≤ x1 ∧ ((24 : Nat) : Int) * x1 ≤ 281474976710656 ∧ (x1 : Int) ≤ 9223372036854775807) ∧
 AllocK w454 (madeCells (#[.slice none 0 0]) ((x1 : Int).toNat * 1)) 84 fun b461 w462 =>
 (0 ≤ (x1 : Int) ∧ (x1 : Int) ≤ x1 ∧ ((24 : Nat) : Int) * x1 ≤ 281474976710656 ∧ (x1 : Int) ≤ 9223372036854775807) ∧
 AllocK w462 (madeCells (#[.slice none 0 0]) ((x1 : Int).toNat * 1)) 43 fun b463 w464 =>
 AllocK w464 (#[(.int .i64 x1), (.int .i64 x2), (.int .i64 x3), (.slice (some b453) ((x1 : Int).toNat) ((x1 : Int).toNat)), (.slice none 0 0), (.slice (some b463) ((x1 : Int).toNat) ((x1 : Int).toNat)), (.slice (some b361) ((x1 : Int).toNat) ((x1 : Int).toNat)), (.slice (some b451) ((x1 : Int).toNat) ((x1 : Int).toNat)), (.slice (some b461) ((x1 : Int).toNat) ((x1 : Int).toNat)), (.slice none 0 0), (.slice none 0 0), (.slice none 0 0)]) 50 fun b465 w466 =>
 K (some b465) 0 w466)) ∧
 (((0 ≤ (x1 : Int) ∧ (x1 : Int) ≤ x1 ∧ ((24 : Nat) : Int) * x1 ≤ 281474976710656 ∧ (x1 : Int) ≤ 9223372036854775807) ∧
 AllocK w452 (madeCells (#[.slice none 0 0]) ((x1 : Int).toNat * 1)) 43 fun b467 w468 =>
 ((0 ≤ (x1 : Int) ∧ (x1 : Int) ≤ x1 ∧ ((8 : Nat) : Int) * x1 ≤ 281474976710656 ∧ (x1 : Int) ≤ 9223372036854775807) ∧
 AllocK w468 (madeCells (#[.int .i64 0]) ((x1 : Int).toNat * 1)) 3 fun b469 w470 =>
 (0 ≤ (x1 : Int) ∧ (x1 : Int) ≤ x1 ∧ ((24 : Nat) : Int) * x1 ≤ 281474976710656 ∧ (x1 : Int) ≤ 9223372036854775807) ∧
 AllocK w470 (madeCells (#[.slice none 0 0]) ((x1 : Int).toNat * 1)) 84 fun b471 w472 =>
 AllocK w472 (#[(.int .i64 x1), (.int .i64 x2), (.int .i64 x3), (.slice (some b469) ((x1 : Int).toNat) ((x1 : Int).toNat)), (.slice none 0 0), (.slice (some b467) ((x1 : Int).toNat) ((x1 : Int).toNat)), (.slice (some b361) ((x1 : Int).toNat) ((x1 : Int).toNat)), (.slice (some b451) ((x1 : Int).toNat) ((x1 : Int).toNat)), (.slice (some b471) ((x1 : Int).toNat) ((x1 : Int).toNat)), (.slice none 0 0), (.slice none 0 0), (.slice none 0 0)]) 50 fun b473 w474 =>
 K (some b473) 0 w474) ∧
 ((0 ≤ (x1 : Int) ∧ (x1 : Int) ≤ x1 ∧ ((24 : Nat) : Int) * x1 ≤ 281474976710656 ∧ (x1 : Int) ≤ 9223372036854775807) ∧
 AllocK w468 (madeCells (#[.slice none 0 0]) ((x1 : Int).toNat * 1)) 84 fun b475 w476 =>
 (0 ≤ (x1 : Int) ∧ (x1 : Int) ≤ x1 ∧ ((8 : Nat) : Int) * x1 ≤ 281474976710656 ∧ (x1 : Int) ≤ 9223372036854775807) ∧
 AllocK w476 (madeCells (#[.int .i64 0]) ((x1 : Int).toNat * 1)) 3 fun b477 w478 =>
 AllocK w478 (#[(.int .i64 x1), (.int .i64 x2), (.int .i64 x3), (.slice (some b477) ((x1 : Int).toNat) ((x1 : Int).toNat)), (.slice none 0 0), (.slice (some b467) ((x1 : Int).toNat) ((x1 : Int).toNat)), (.slice (some b361) ((x1 : Int).toNat) ((x1 : Int).toNat)), (.slice (some b451) ((x1 : Int).toNat) ((x1 : Int).toNat)), (.slice (some b475) ((x1 : Int).toNat) ((x1 : Int).toNat)), (.slice none 0 0), (.slice none 0 0), (.slice none 0 0)]) 50 fun b479 w480 =>
 K (some b479) 0 w480)) ∧
 ((0 ≤ (x1 : Int) ∧ (x1 : Int) ≤ x1 ∧ ((24 : Nat) : Int) * x1 ≤ 281474976710656 ∧ (x1 : Int) ≤ 9223372036854775807) ∧
 AllocK w452 (madeCells (#[.slice none 0 0]) ((x1 : Int).toNat * 1)) 84 fun b481 w482 =>
 ((0 ≤ (x1 : Int) ∧ (x1 : Int) ≤ x1 ∧ ((8 : Nat) : Int) * x1 ≤ 281474976710656 ∧ (x1 : Int) ≤ 9223372036854775807) ∧
 AllocK w482 (madeCells (#[.int .i64 0]) ((x1 : Int).toNat * 1)) 3 fun b483 w484 =>
 (0 ≤ (x1 : Int) ∧ (x1 : Int) ≤ x1 ∧ ((24 : Nat) : Int) * x1 ≤ 281474976710656 ∧ (x1 : Int) ≤ 9223372036854775807) ∧
 AllocK w484 (madeCells (#[.slice none 0 0]) ((x1 : Int).toNat * 1)) 43 fun b485 w486 =>
 AllocK w486 (#[(.int .i64 x1), (.int .i64 x2), (.int .i64 x3), (.slice (some b483) ((x1 : Int).toNat) ((x1 : Int).toNat)), (.slice none 0 0), (.slice (some b485) ((x1 : Int).toNat) ((x1 : Int).toNat)), (.slice (some b361) ((x1 : Int).toNat) ((x1 : Int).toNat)), (.slice (some b451) ((x1 : Int).toNat) ((x1 : Int).toNat)), (.slice (some b481) ((x1 : Int).toNat) ((x1 : Int).toNat)), (.slice none 0 0), (.slice none 0 0), (.slice none 0 0)]) 50 fun b487 w488 =>
 K (some b487) 0 w488) ∧
 ((0 ≤ (x1 : Int) ∧ (x1 : Int) ≤ x1 ∧ ((24 : Nat) : Int) * x1 ≤ 281474976710656 ∧ (x1 : Int) ≤ 9223372036854775807) ∧
 AllocK w482 (madeCells (#[.slice none 0 0]) ((x1 : Int).toNat * 1)) 43 fun b489 w490 =>
 (0 ≤ (x1 : Int) ∧ (x1 : Int) ≤ x1 ∧ ((8 : Nat) : Int) * x1 ≤ 281474976710656 ∧ (x1 : Int) ≤ 9223372036854775807) ∧
 AllocK w490 (madeCells (#[.int .i64 0]) ((x1 : Int).toNat * 1)) 3 fun b491 w492 =>
 AllocK w492 (#[(.int .i64 x1), (.int .i64 x2), (.int .i64 x3), (.slice (some b491) ((x1 : Int).toNat) ((x1 : Int).toNat)), (.slice none 0 0), (.slice (some b489) ((x1 : Int).toNat) ((x1 : Int).toNat)), (.slice (some b361) ((x1 : Int).toNat) ((x1 : Int).toNat)), (.slice (some b451) ((x1 : Int).toNat) ((x1 : Int).toNat)), (.slice (some b481) ((x1 : Int).toNat) ((x1 : Int).toNat)), (.slice none 0 0), (.slice none 0 0), (.slice none 0 0)]) 50 fun b493 w494 =>
 K (some b493) 0 w494)))) ∧
 ((0 ≤ (x1 : Int) ∧ (x1 : Int) ≤ x1 ∧ ((24 : Nat) : Int) * x1 ≤ 281474976710656 ∧ (x1 : Int) ≤ 9223372036854775807) ∧
 AllocK w362 (madeCells (#[.slice none 0 0]) ((x1 : Int).toNat * 1)) 84 fun b495 w496 =>
 ((0 ≤ (x1 : Int) ∧ (x1 : Int) ≤ x1 ∧ ((8 : Nat) : Int) * x1 ≤ 281474976710656 ∧ (x1 : Int) ≤ 9223372036854775807) ∧
 AllocK w496 (madeCells (#[.int .i64 0]) ((x1 : Int).toNat * 1)) 3 fun b497 w498 =>
 ((0 ≤ (x1 : Int) ∧ (x1 : Int) ≤ x1 ∧ ((24 : Nat) : Int) * x1 ≤ 281474976710656 ∧ (x1 : Int) ≤ 9223372036854775807) ∧
 AllocK w498 (madeCells (#[.slice none 0 0]) ((x1 : Int).toNat * 1)) 43 fun b499 w500 =>
 (0 ≤ (x1 : Int) ∧ (x1 : Int) ≤ x1 ∧ ((24 : Nat) : Int) * x1 ≤ 281474976710656 ∧ (x1 : Int) ≤ 9223372036854775807) ∧
 AllocK w500 (madeCells (#[.slice none 0 0]) ((x1 : Int).toNat * 1)) 84 fun b501 w502 =>
 AllocK w502 (#[(.int .i64 x1), (.int .i64 x2), (.int .i64 x3), (.slice (some b497) ((x1 : Int).toNat) ((x1 : Int).toNat)), (.slice none 0 0), (.slice (some b499) ((x1 : Int).toNat) ((x1 : Int).toNat)), (.slice (some b361) ((x1 : Int).toNat) ((x1 : Int).toNat)), (.slice (some b501) ((x1 : Int).toNat) ((x1 : Int).toNat)), (.slice (some b495) ((x1 : Int).toNat) ((x1 : Int).toNat)), (.slice none 0 0), (.slice none 0 0), (.slice none 0 0)]) 50 fun b503 w504 =>
 K (some b503) 0 w504) ∧
 ((0 ≤ (x1 : Int) ∧ (x1 : Int) ≤ x1 ∧ ((24 : Nat) : Int) * x1 ≤ 281474976710656 ∧ (x1 : Int) ≤ 9223372036854775807) ∧
 AllocK w498 (madeCells (#[.slice none 0 0]) ((x1 : Int).toNat * 1)) 84 fun b505 w506 =>
 (0 ≤ (x1 : Int) ∧ (x1 : Int) ≤ x1 ∧ ((24 : Nat) : Int) * x1 ≤ 281474976710656 ∧ (x1 : Int) ≤ 9223372036854775807) ∧
 AllocK w506 (madeCells (#[.slice none 0 0]) ((x1 : Int).toNat * 1)) 43 fun b507 w508 =>
 AllocK w508 (#[(.int .i64 x1), (.int .i64 x2), (.int .i64 x3), (.slice (some b497) ((x1 : Int).toNat) ((x1 : Int).toNat)), (.slice none 0 0), (.slice (some b507) ((x1 : Int).toNat) ((x1 : Int).toNat)), (.slice (some b361) ((x1 : Int).toNat) ((x1 : Int).toNat)), (.slice (some b505) ((x1 : Int).toNat) ((x1 : Int).toNat)), (.slice (some b495) ((x1 : Int).toNat) ((x1 : Int).toNat)), (.slice none 0 0), (.slice none 0 0), (.slice none 0 0)]) 50 fun b509 w510 =>
 K (some b509) 0 w510)) ∧
 (((0 ≤ (x1 : Int) ∧ (x1 : Int) ≤ x1 ∧ ((24 : Nat) : Int) * x1 ≤ 281474976710656 ∧ (x1 : Int) ≤ 9223372036854775807) ∧
 AllocK w496 (madeCells (#[.slice none 0 0]) ((x1 : Int).toNat * 1)) 43 fun b511 w512 =>
 ((0 ≤ (x1 : Int) ∧ (x1 : Int) ≤ x1 ∧ ((8 : Nat) : Int) * x1 ≤ 281474976710656 ∧ (x1 : Int) ≤ 9223372036854775807) ∧
 AllocK w512 (madeCells (#[.int .i64 0]) ((x1 : Int).toNat * 1)) 3 fun b513 w514 =>
 (0 ≤ (x1 : Int) ∧ (x1 : Int) ≤ x1 ∧ ((24 : Nat) : Int) * x1 ≤ 281474976710656 ∧ (x1 : Int) ≤ 9223372036854775807) ∧
 AllocK w514 (madeCells (#[.slice none 0 0]) ((x1 : Int).toNat * 1)) 84 fun b515 w516 =>
 AllocK w516 (#[(.int .i64 x1), (.int .i64 x2), (.int .i64 x3), (.slice (some b513) ((x1 : Int).toNat) ((x1 : Int).toNat)), (.slice none 0 0), (.slice (some b511) ((x1 : Int).toNat) ((x1 : Int).toNat)), (.slice (some b361) ((x1 : Int).toNat) ((x1 : Int).toNat)), (.slice (some b515) ((x1 : Int).toNat) ((x1 : Int).toNat)), (.slice (some b495) ((x1 : Int).toNat) ((x1 : Int).toNat)), (.slice none 0 0), (.slice none 0 0), (.slice none 0 0)]) 50 fun b517 w518 =>
 K (some b517) 0 w518) ∧
 ((0 ≤ (x1 : Int) ∧ (x1 : Int) ≤ x1 ∧ ((24 : Nat) : Int) * x1 ≤ 281474976710656 ∧ (x1 : Int) ≤ 9223372036854775807) ∧
 AllocK w512 (madeCells (#[.slice none 0 0]) ((x1 : Int).toNat * 1)) 84 fun b519 w520 =>
 (0 ≤ (x1 : Int) ∧ (x1 : Int) ≤ x1 ∧ ((8 : Nat) : Int) * x1 ≤ 281474976710656 ∧ (x1 : Int) ≤ 9223372036854775807) ∧
 AllocK w520 (madeCells (#[.int .i64 0]) ((x1 : Int).toNat * 1)) 3 fun b521 w522 =>
 AllocK w522 (#[(.int .i64 x1), (.int .i64 x2), (.int .i64 x3), (.slice (some b521) ((x1 : Int).toNat) ((x1 : Int).toNat)), (.slice none 0 0), (.slice (some b511) ((x1 : Int).toNat) ((x1 : Int).toNat)), (.slice (some b361) ((x1 : Int).toNat) ((x1 : Int).toNat)), (.slice (some b519) ((x1 : Int).toNat) ((x1 : Int).toNat)), (.slice (some b495) ((x1 : Int).toNat) ((x1 : Int).toNat)), (.slice none 0 0), (.slice none 0 0), (.slice none 0 0)]) 50 fun b523 w524 =>
 K (some b523) 0 w524)) ∧
 ((0 ≤ (x1 : Int) ∧ (x1 : Int) ≤ x1 ∧ ((24 : Nat) : Int) * x1 ≤ 281474976710656 ∧ (x1 : Int) ≤ 9223372036854775807) ∧
 AllocK w496 (madeCells (#[.slice none 0 0]) ((x1 : Int).toNat * 1)) 84 fun b525 w526 =>
 ((0 ≤ (x1 : Int) ∧ (x1 : Int) ≤ x1 ∧ ((8 : Nat) : Int) * x1 ≤ 281474976710656 ∧ (x1 : Int) ≤ 9223372036854775807) ∧
 AllocK w526 (madeCells (#[.int .i64 0]) ((x1 : Int).toNat * 1)) 3 fun b527 w528 =>
 (0 ≤ (x1 : Int) ∧ (x1 : Int) ≤ x1 ∧ ((24 : Nat) : Int) * x1 ≤ 281474976710656 ∧ (x1 : Int) ≤ 9223372036854775807) ∧
 AllocK w528 (madeCells (#[.slice none 0 0]) ((x1 : Int).toNat * 1)) 43 fun b529 w530 =>
 AllocK w530 (#[(.int .i64 x1), (.int .i64 x2), (.int .i64 x3), (.slice (some b527) ((x1 : Int).toNat) ((x1 : Int).toNat)), (.slice none 0 0), (.slice (some b529) ((x1 : Int).toNat) ((x1 : Int).toNat)), (.slice (some b361) ((x1 : Int).toNat) ((x1 : Int).toNat)), (.slice (some b525) ((x1 : Int).toNat) ((x1 : Int).toNat)), (.slice (some b495) ((x1 : Int).toNat) ((x1 : Int).toNat)), (.slice none 0 0), (.slice none 0 0), (.slice none 0 0)]) 50 fun b531 w532 =>
 K (some b531) 0 w532) ∧
 ((0 ≤ (x1 : Int) ∧ (x1 : Int) ≤ x1 ∧ ((24 : Nat) : Int) * x1 ≤ 281474976710656 ∧ (x1 : Int) ≤ 9223372036854775807) ∧
 AllocK w526 (madeCells (#[.slice none 0 0]) ((x1 : Int).toNat * 1)) 43 fun b533 w534 =>
 (0 ≤ (x1 : Int) ∧ (x1 : Int) ≤ x1 ∧ ((8 : Nat) : Int) * x1 ≤ 281474976710656 ∧ (x1 : Int) ≤ 9223372036854775807) ∧
 AllocK w534 (madeCells (#[.int .i64 0]) ((x1 : Int).toNat * 1)) 3 fun b535 w536 =>
 AllocK w536 (#[(.int .i64 x1), (.int .i64 x2), (.int .i64 x3), (.slice (some b535) ((x1 : Int).toNat) ((x1 : Int).toNat)), (.slice none 0 0), (.slice (some b533) ((x1 : Int).toNat) ((x1 : Int).toNat)), (.slice (some b361) ((x1 : Int).toNat) ((x1 : Int).toNat)), (.slice (some b525) ((x1 : Int).toNat) ((x1 : Int).toNat)), (.slice (some b495) ((x1 : Int).toNat) ((x1 : Int).toNat)), (.slice none 0 0), (.slice none 0 0), (.slice none 0 0)]) 50 fun b537 w538 =>
 K (some b537) 0 w538))))))) ∧
 (((0 ≤ (x1 : Int) ∧ (x1 : Int) ≤ x1 ∧ ((24 : Nat) : Int) * x1 ≤ 281474976710656 ∧ (x1 : Int) ≤ 9223372036854775807) ∧
 AllocK w4 (madeCells (#[.slice none 0 0]) ((x1 : Int).toNat * 1)) 84 fun b539 w540 =>
 ((0 ≤ (x1 : Int) ∧ (x1 : Int) ≤ x1 ∧ ((8 : Nat) : Int) * x1 ≤ 281474976710656 ∧ (x1 : Int) ≤ 9223372036854775807) ∧
 AllocK w540 (madeCells (#[.int .i64 0]) ((x1 : Int).toNat * 1)) 3 fun b541 w542 =>
 ((0 ≤ (x1 : Int) ∧ (x1 : Int) ≤ x1 ∧ ((24 : Nat) : Int) * x1 ≤ 281474976710656 ∧ (x1 : Int) ≤ 9223372036854775807) ∧
 AllocK w542 (madeCells (#[.slice none 0 0]) ((x1 : Int).toNat * 1)) 43 fun b543 w544 =>
 ((0 ≤ (x1 : Int) ∧ (x1 : Int) ≤ x1 ∧ ((24 : Nat) : Int) * x1 ≤ 281474976710656 ∧ (x1 : Int) ≤ 9223372036854775807) ∧
 AllocK w544 (madeCells (#[.slice none 0 0]) ((x1 : Int).toNat * 1)) 84 fun b545 w546 =>
 (0 ≤ (x1 : Int) ∧ (x1 : Int) ≤ x1 ∧ ((24 : Nat) : Int) * x1 ≤ 281474976710656 ∧ (x1 : Int) ≤ 9223372036854775807) ∧
 AllocK w546 (madeCells (#[.slice none 0 0]) ((x1 : Int).toNat * 1)) 84 fun b547 w548 =>
 AllocK w548 (#[(.int .i64 x1), (.int .i64 x2), (.int .i64 x3), (.slice (some b541) ((x1 : Int).toNat) ((x1 : Int).toNat)), (.slice none 0 0), (.slice (some b543) ((x1 : Int).toNat) ((x1 : Int).toNat)), (.slice (some b545) ((x1 : Int).toNat) ((x1 : Int).toNat)), (.slice (some b539) ((x1 : Int).toNat) ((x1 : Int).toNat)), (.slice (some b547) ((x1 : Int).toNat) ((x1 : Int).toNat)), (.slice none 0 0), (.slice none 0 0), (.slice none 0 0)]) 50 fun b549 w550 =>
 K (some b549) 0 w550) ∧
 ((0 ≤ (x1 : Int) ∧ (x1 : Int) ≤ x1 ∧ ((24 : Nat) : Int) * x1 ≤ 281474976710656 ∧ (x1 : Int) ≤ 9223372036854775807) ∧
 AllocK w544 (madeCells (#[.slice none 0 0]) ((x1 : Int).toNat * 1)) 84 fun b551 w552 =>
 (0 ≤ (x1 : Int) ∧ (x1 : Int) ≤ x1 ∧ ((24 : Nat) : Int) * x1 ≤ 281474976710656 ∧ (x1 : Int) ≤ 9223372036854775807) ∧
 AllocK w552 (madeCells (#[.slice none 0 0]) ((x1 : Int).toNat * 1)) 84 fun b553 w554 =>
 AllocK w554 (#[(.int .i64 x1), (.int .i64 x2), (.int .i64 x3), (.slice (some b541) ((x1 : Int).toNat) ((x1 : Int).toNat)), (.slice none 0 0), (.slice (some b543) ((x1 : Int).toNat) ((x1 : Int).toNat)), (.slice (some b553) ((x1 : Int).toNat) ((x1 : Int).toNat)), (.slice (some b539) ((x1 : Int).toNat) ((x1 : Int).toNat)), (.slice (some b551) ((x1 : Int).toNat) ((x1 : Int).toNat)), (.slice none 0 0), (.slice none 0 0), (.slice none 0 0)]) 50 fun b555 w556 =>
 K (some b555) 0 w556)) ∧
 (((0 ≤ (x1 : Int) ∧ (x1 : Int) ≤ x1 ∧ ((24 : Nat) : Int) * x1 ≤ 281474976710656 ∧ (x1 : Int) ≤ 9223372036854775807) ∧
 AllocK w542 (madeCells (#[.slice none 0 0]) ((x1 : Int).toNat * 1)) 84 fun b557 w558 =>
 ((0 ≤ (x1 : Int) ∧ (x1 : Int) ≤ x1 ∧ ((24 : Nat) : Int) * x1 ≤ 281474976710656 ∧ (x1 : Int) ≤ 9223372036854775807) ∧
 AllocK w558 (madeCells (#[.slice none 0 0]) ((x1 : Int).toNat * 1)) 43 fun b559 w560 =>
 (0 ≤ (x1 : Int) ∧ (x1 : Int) ≤ x1 ∧ ((24 : Nat) : Int) * x1 ≤ 281474976710656 ∧ (x1 : Int) ≤ 9223372036854775807) ∧
 AllocK w560 (madeCells (#[.slice none 0 0]) ((x1 : Int).toNat * 1)) 84 fun b561 w562 =>
 AllocK w562 (#[(.int .i64 x1), (.int .i64 x2), (.int .i64 x3), (.slice (some b541) ((x1 : Int).toNat) ((x1 : Int).toNat)), (.slice none 0 0), (.slice (some b559) ((x1 : Int).toNat) ((x1 : Int).toNat)), (.slice (some b557) ((x1 : Int).toNat) ((x1 : Int).toNat)), (.slice (some b539) ((x1 : Int).toNat) ((x1 : Int).toNat)), (.slice (some b561) ((x1 : Int).toNat) ((x1 : Int).toNat)), (.slice none 0 0), (.slice none 0 0), (.slice none 0 0)]) 50 fun b563 w564 =>
 K (some b563) 0 w564) ∧
 ((0 ≤ (x1 : Int) ∧ (x1 : Int) ≤ x1 ∧ ((24 : Nat) : Int) * x1 ≤ 281474976710656 ∧ (x1 : Int) ≤ 9223372036854775807) ∧
 AllocK w558 (madeCells (#[.slice none 0 0]) ((x1 : Int).toNat * 1)) 84 fun b565 w566 =>
 (0 ≤ (x1 : Int) ∧ (x1 : Int) ≤ x1 ∧ ((24 : Nat) : Int) * x1 ≤ 281474976710656 ∧ (x1 : Int) ≤ 9223372036854775807) ∧
 AllocK w566 (madeCells (#[.slice none 0 0]) ((x1 : Int).toNat * 1)) 43 fun b567 w568 =>
 AllocK w568 (#[(.int .i64 x1), (.int .i64 x2), (.int .i64 x3), (.slice (some b541) ((x1 : Int).toNat) ((x1 : Int).toNat)), (.slice none 0 0), (.slice (some b567) ((x1 : Int).toNat) ((x1 : Int).toNat)), (.slice (some b557) ((x1 : Int).toNat) ((x1 : Int).toNat)), (.slice (some b539) ((x1 : Int).toNat) ((x1 : Int).toNat)), (.slice (some b565) ((x1 : Int).toNat) ((x1 : Int).toNat)), (.slice none 0 0), (.slice none 0 0), (.slice none 0 0)]) 50 fun b569 w570 =>
 K (some b569) 0 w570)) ∧
 ((0 ≤ (x1 : Int) ∧ (x1 : Int) ≤ x1 ∧ ((24 : Nat) : Int) * x1 ≤ 281474976710656 ∧ (x1 : Int) ≤ 9223372036854775807) ∧
 AllocK w542 (madeCells (#[.slice none 0 0]) ((x1 : Int).toNat * 1)) 84 fun b571 w572 =>
 ((0 ≤ (x1 : Int) ∧ (x1 : Int) ≤ x1 ∧ ((24 : Nat) : Int) * x1 ≤ 281474976710656 ∧ (x1 : Int) ≤ 9223372036854775807) ∧
 AllocK w572 (madeCells (#[.slice none 0 0]) ((x1 : Int).toNat * 1)) 43 fun b573 w574 =>
 (0 ≤ (x1 : Int) ∧ (x1 : Int) ≤ x1 ∧ ((24 : Nat) : Int) * x1 ≤ 281474976710656 ∧ (x1 : Int) ≤ 9223372036854775807) ∧
 AllocK w574 (madeCells (#[.slice none 0 0]) ((x1 : Int).toNat * 1)) 84 fun b575 w576 =>
 AllocK w576 (#[(.int .i64 x1), (.int .i64 x2), (.int .i64 x3), (.slice (some b541) ((x1 : Int).toNat) ((x1 : Int).toNat)), (.slice none 0 0), (.slice (some b573) ((x1 : Int).toNat) ((x1 : Int).toNat)), (.slice (some b575) ((x1 : Int).toNat) ((x1 : Int).toNat)), (.slice (some b539) ((x1 : Int).toNat) ((x1 : Int).toNat)), (.slice (some b571) ((x1 : Int).toNat) ((x1 : Int).toNat)), (.slice none 0 0), (.slice none 0 0), (.slice none 0 0)]) 50 fun b577 w578 =>
 K (some b577) 0 w578) ∧
 ((0 ≤ (x1 : Int) ∧ (x1 : Int) ≤ x1 ∧ ((24 : Nat) : Int) * x1 ≤ 281474976710656 ∧ (x1 : Int) ≤ 9223372036854775807) ∧
 AllocK w572 (madeCells (#[.slice none 0 0]) ((x1 : Int).toNat * 1)) 84 fun b579 w580 =>
 (0 ≤ (x1 : Int) ∧ (x1 : Int) ≤ x1 ∧ ((24 : Nat) : Int) * x1 ≤ 281474976710656 ∧ (x1 : Int) ≤ 9223372036854775807) ∧
 AllocK w580 (madeCells (#[.slice none 0 0]) ((x1 : Int).toNat * 1)) 43 fun b581 w582 =>
 AllocK w582 (#[(.int .i64 x1), (.int .i64 x2), (.int .i64 x3), (.slice (some b541) ((x1 : Int).toNat) ((x1 : Int).toNat)), (.slice none 0 0), (.slice (some b581) ((x1 : Int).toNat) ((x1 : Int).toNat)), (.slice (some b579) ((x1 : Int).toNat) ((x1 : Int).toNat)), (.slice (some b539) ((x1 : Int).toNat) ((x1 : Int).toNat)), (.slice (some b571) ((x1 : Int).toNat) ((x1 : Int).toNat)), (.slice none 0 0), (.slice none 0 0), (.slice none 0 0)]) 50 fun b583 w584 =>
 K (some b583) 0 w584)))) ∧
 (((0 ≤ (x1 : Int) ∧ (x1 : Int) ≤ x1 ∧ ((24 : Nat) : Int) * x1 ≤ 281474976710656 ∧ (x1 : Int) ≤ 9223372036854775807) ∧
 AllocK w540 (madeCells (#[.slice none 0 0]) ((x1 : Int).toNat * 1)) 43 fun b585 w586 =>
 ((0 ≤ (x1 : Int) ∧ (x1 : Int) ≤ x1 ∧ ((8 : Nat) : Int) * x1 ≤ 281474976710656 ∧ (x1 : Int) ≤ 9223372036854775807) ∧
 AllocK w586 (madeCells (#[.int .i64 0]) ((x1 : Int).toNat * 1)) 3 fun b587 w588 =>
 ((0 ≤ (x1 : Int) ∧ (x1 : Int) ≤ x1 ∧ ((24 : Nat) : Int) * x1 ≤ 281474976710656 ∧ (x1 : Int) ≤ 9223372036854775807) ∧
 AllocK w588 (madeCells (#[.slice none 0 0]) ((x1 : Int).toNat * 1)) 84 fun b589 w590 =>
 (0 ≤ (x1 : Int) ∧ (x1 : Int) ≤ x1 ∧ ((24 : Nat) : Int) * x1 ≤ 281474976710656 ∧ (x1 : Int) ≤ 9223372036854775807) ∧
 AllocK w590 (madeCells (#[.slice none 0 0]) ((x1 : Int).toNat * 1)) 84 fun b591 w592 =>
 AllocK w592 (#[(.int .i64 x1), (.int .i64 x2), (.int .i64 x3), (.slice (some b587) ((x1 : Int).toNat) ((x1 : Int).toNat)), (.slice none 0 0), (.slice (some b585) ((x1 : Int).toNat) ((x1 : Int).toNat)), (.slice (some b589) ((x1 : Int).toNat) ((x1 : Int).toNat)), (.slice (some b539) ((x1 : Int).toNat) ((x1 : Int).toNat)), (.slice (some b591) ((x1 : Int).toNat) ((x1 : Int).toNat)), (.slice none 0 0), (.slice none 0 0), (.slice none 0 0)]) 50 fun b593 w594 =>
 K (some b593) 0 w594) ∧
 ((0 ≤ (x1 : Int) ∧ (x1 : Int) ≤ x1 ∧ ((24 : Nat) : Int) * x1 ≤ 281474976710656 ∧ (x1 : Int) ≤ 9223372036854775807) ∧
 AllocK w588 (madeCells (#[.slice none 0 0]) ((x1 : Int).toNat * 1)) 84 fun b595 w596 =>
 (0 ≤ (x1 : Int) ∧ (x1 : Int) ≤ x1 ∧ ((24 : Nat) : Int) * x1 ≤ 281474976710656 ∧ (x1 : Int) ≤ 9223372036854775807) ∧
 AllocK w596 (madeCells (#[.slice none 0 0]) ((x1 : Int).toNat * 1)) 84 fun b597 w598 =>
 AllocK w598 (#[(.int .i64 x1), (.int .i64 x2), (.int .i64 x3), (.slice (some b587) ((x1 : Int).toNat) ((x1 : Int).toNat)), (.slice none 0 0), (.slice (some b585) ((x1 : Int).toNat) ((x1 : Int).toNat)), (.slice (some b597) ((x1 : Int).toNat) ((x1 : Int).toNat)), (.slice (some b539) ((x1 : Int).toNat) ((x1 : Int).toNat)), (.slice (some b595) ((x1 : Int).toNat) ((x1 : Int).toNat)), (.slice none 0 0), (.slice none 0 0), (.slice none 0 0)]) 50 fun b599 w600 =>
 K (some b599) 0 w600)) ∧
 (((0 ≤ (x1 : Int) ∧ (x1 : Int) ≤ x1 ∧ ((24 : Nat) : Int) * x1 ≤ 281474976710656 ∧ (x1 : Int) ≤ 9223372036854775807) ∧
 AllocK w586 (madeCells (#[.slice none 0 0]) ((x1 : Int).toNat * 1)) 84 fun b601 w602 =>
 ((0 ≤ (x1 : Int) ∧ (x1 : Int) ≤ x1 ∧ ((8 : Nat) : Int) * x1 ≤ 281474976710656 ∧ (x1 : Int) ≤ 9223372036854775807) ∧
 AllocK w602 (madeCells (#[.int .i64 0]) ((x1 : Int).toNat * 1)) 3 fun b603 w604 =>
 (0 ≤ (x1 : Int) ∧ (x1 : Int) ≤ x1 ∧ ((24 : Nat) : Int) * x1 ≤ 281474976710656 ∧ (x1 : Int) ≤ 9223372036854775807) ∧
 AllocK w604 (madeCells (#[.slice none 0 0]) ((x1 : Int).toNat * 1)) 84 fun b605 w606 =>
 AllocK w606 (#[(.int .i64 x1), (.int .i64 x2), (.int .i64 x3), (.slice (some b603) ((x1 : Int).toNat) ((x1 : Int).toNat)), (.slice none 0 0), (.slice (some b585) ((x1 : Int).toNat) ((x1 : Int).toNat)), (.slice (some b601) ((x1 : Int).toNat) ((x1 : Int).toNat)), (.slice (some b539) ((x1 : Int).toNat) ((x1 : Int).toNat)), (.slice (some b605) ((x1 : Int).toNat) ((x1 : Int).toNat)), (.slice none 0 0), (.slice none 0 0), (.slice none 0 0)]) 50 fun b607 w608 =>
 K (some b607) 0 w608) ∧
 ((0 ≤ (x1 : Int) ∧ (x1 : Int) ≤ x1 ∧ ((24 : Nat) : Int) * x1 ≤ 281474976710656 ∧ (x1 : Int) ≤ 9223372036854775807) ∧
 AllocK w602 (madeCells (#[.slice none 0 0]) ((x1 : Int).toNat * 1)) 84 fun b609 w610 =>
 (0 ≤ (x1 : Int) ∧ (x1 : Int) ≤ x1 ∧ ((8 : Nat) : Int) * x1 ≤ 281474976710656 ∧ (x1 : Int) ≤ 9223372036854775807) ∧
 AllocK w610 (madeCells (#[.int .i64 0]) ((x1 : Int).toNat * 1)) 3 fun b611 w612 =>
 AllocK w612 (#[(.int .i64 x1), (.int .i64 x2), (.int .i64 x3), (.slice (some b611) ((x1 : Int).toNat) ((x1 : Int).toNat)), (.slice none 0 0), (.slice (some b585) ((x1 : Int).toNat) ((x1 : Int).toNat)), (.slice (some b601) ((x1 : Int).toNat) ((x1 : Int).toNat)), (.slice (some b539) ((x1 : Int).toNat) ((x1 : Int).toNat)), (.slice (some b609) ((x1 : Int).toNat) ((x1 : Int).toNat)), (.slice none 0 0), (.slice none 0 0), (.slice none 0 0)]) 50 fun b613 w614 =>
 K (some b613) 0 w614)) ∧
 ((0 ≤ (x1 : Int) ∧ (x1 : Int) ≤ x1 ∧ ((24 : Nat) : Int) * x1 ≤ 281474976710656 ∧ (x1 : Int) ≤ 9223372036854775807) ∧
 AllocK w586 (madeCells (#[.slice none 0 0]) ((x1 : Int).toNat * 1)) 84 fun b615 w616 =>
 ((0 ≤ (x1 : Int) ∧ (x1 : Int) ≤ x1 ∧ ((8 : Nat) : Int) * x1 ≤ 281474976710656 ∧ (x1 : Int) ≤ 9223372036854775807) ∧
 AllocK w616 (madeCells (#[.int .i64 0]) ((x1 : Int).toNat * 1)) 3 fun b617 w618 =>
 (0 ≤ (x1 : Int) ∧ (x1 : Int) ≤ x1 ∧ ((24 : Nat) : Int) * x1 ≤ 281474976710656 ∧ (x1 : Int) ≤ 9223372036854775807) ∧
 AllocK w618 (madeCells (#[.slice none 0 0]) ((x1 : Int).toNat * 1)) 84 fun b619 w620 =>
 AllocK w620 (#[(.int .i64 x1), (.int .i64 x2), (.int .i64 x3), (.slice (some b617) ((x1 : Int).toNat) ((x1 : Int).toNat)), (.slice none 0 0), (.slice (some b585) ((x1 : Int).toNat) ((x1 : Int).toNat)), (.slice (some b619) ((x1 : Int).toNat) ((x1 : Int).toNat)), (.slice (some b539) ((x1 : Int).toNat) ((x1 : Int).toNat)), (.slice (some b615) ((x1 : Int).toNat) ((x1 : Int).toNat)), (.slice none 0 0), (.slice none 0 0), (.slice none 0 0)]) 50 fun b621 w622 =>
 K (some b621) 0 w622) ∧
 ((0 ≤ (x1 : Int) ∧ (x1 : Int) ≤ x1 ∧ ((24 : Nat) : Int) * x1 ≤ 281474976710656 ∧ (x1 : Int) ≤ 9223372036854775807) ∧
 AllocK w616 (madeCells (#[.slice none 0 0]) ((x1 : Int).toNat * 1)) 84 fun b623 w624 =>
 (0 ≤ (x1 : Int) ∧ (x1 : Int) ≤ x1 ∧ ((8 : Nat) : Int) * x1 ≤ 281474976710656 ∧ (x1 : Int) ≤ 9223372036854775807) ∧
 AllocK w624 (madeCells (#[.int .i64 0]) ((x1 : Int).toNat * 1)) 3 fun b625 w626 =>
 AllocK w626 (#[(.int .i64 x1), (.int .i64 x2), (.int .i64 x3), (.slice (some b625) ((x1 : Int).toNat) ((x1 : Int).toNat)), (.slice none 0 0), (.slice (some b585) ((x1 : Int).toNat) ((x1 : Int).toNat)), (.slice (some b623) ((x1 : Int).toNat) ((x1 : Int).toNat)), (.slice (some b539) ((x1 : Int).toNat) ((x1 : Int).toNat)), (.slice (some b615) ((x1 : Int).toNat) ((x1 : Int).toNat)), (.slice none 0 0), (.slice none 0 0), (.slice none 0 0)]) 50 fun b627 w628 =>
 K (some b627) 0 w628)))) ∧
 (((0 ≤ (x1 : Int) ∧ (x1 : Int) ≤ x1 ∧ ((24 : Nat) : Int) * x1 ≤ 281474976710656 ∧ (x1 : Int) ≤ 9223372036854775807) ∧
 AllocK w540 (madeCells (#[.slice none 0 0]) ((x1 : Int).toNat * 1)) 84 fun b629 w630 =>
 ((0 ≤ (x1 : Int) ∧ (x1 : Int) ≤ x1 ∧ ((8 : Nat) : Int) * x1 ≤ 281474976710656 ∧ (x1 : Int) ≤ 9223372036854775807) ∧
 AllocK w630 (madeCells (#[.int .i64 0]) ((x1 : Int).toNat * 1)) 3 fun b631 w632 =>
 ((0 ≤ (x1 : Int) ∧ (x1 : Int) ≤ x1 ∧ ((24 : Nat) : Int) * x1 ≤ 281474976710656 ∧ (x1 : Int) ≤ 9223372036854775807) ∧
 AllocK w632 (madeCells (#[.slice none 0 0]) ((x1 : Int).toNat * 1)) 43 fun b633 w634 =>
 (0 ≤ (x1 : Int) ∧ (x1 : Int) ≤ x1 ∧ ((24 : Nat) : Int) * x1 ≤ 281474976710656 ∧ (x1 : Int) ≤ 9223372036854775807) ∧
 AllocK w634 (madeCells (#[.slice none 0 0]) ((x1 : Int).toNat * 1)) 84 fun b635 w636 =>
 AllocK w636 (#[(.int .i64 x1), (.int .i64 x2), (.int .i64 x3), (.slice (some b631) ((x1 : Int).toNat) ((x1 : Int).toNat)), (.slice none 0 0), (.slice (some b633) ((x1 : Int).toNat) ((x1 : Int).toNat)), (.slice (some b629) ((x1 : Int).toNat) ((x1 : Int).toNat)), (.slice (some b539) ((x1 : Int).toNat) ((x1 : Int).toNat)), (.slice (some b635) ((x1 : Int).toNat) ((x1 : Int).toNat)), (.slice none 0 0), (.slice none 0 0), (.slice none 0 0)]) 50 fun b637 w638 =>
 K (some b637) 0 w638) ∧
 ((0 ≤ (x1 : Int) ∧ (x1 : Int) ≤ x1 ∧ ((24 : Nat) : Int) * x1 ≤ 281474976710656 ∧ (x1 : Int) ≤ 9223372036854775807) ∧
 AllocK w632 (madeCells (#[.slice none 0 0]) ((x1 : Int).toNat * 1)) 84 fun b639 w640 =>
 (0 ≤ (x1 : Int) ∧ (x1 : Int) ≤ x1 ∧ ((24 : Nat) : Int) * x1 ≤ 281474976710656 ∧ (x1 : Int) ≤ 9223372036854775807) ∧
 AllocK w640 (madeCells (#[.slice none 0 0]) ((x1 : Int).toNat * 1)) 43 fun b641 w642 =>
 AllocK w642 (#[(.int .i64 x1), (.int .i64 x2), (.int .i64 x3), (.slice (some b631) ((x1 : Int).toNat) ((x1 : Int).toNat)), (.slice none 0 0), (.slice (some b641) ((x1 : Int).toNat) ((x1 : Int).toNat)), (.slice (some b629) ((x1 : Int).toNat) ((x1 : Int).toNat)), (.slice (some b539) ((x1 : Int).toNat) ((x1 : Int).toNat)), (.slice (some b639) ((x1 : Int).toNat) ((x1 : Int).toNat)), (.slice none 0 0), (.slice none 0 0), (.slice none 0 0)]) 50 fun b643 w644 =>
 K (some b643) 0 w644)) ∧
 (((0 ≤ (x1 : Int) ∧ (x1 : Int) ≤ x1 ∧ ((24 : Nat) : Int) * x1 ≤ 281474976710656 ∧ (x1 : Int) ≤ 9223372036854775807) ∧
 AllocK w630 (madeCells (#[.slice none 0 0]) ((x1 : Int).toNat * 1)) 43 fun b645 w646 =>
 ((0 ≤ (x1 : Int) ∧ (x1 : Int) ≤ x1 ∧ ((8 : Nat) : Int) * x1 ≤ 281474976710656 ∧ (x1 : Int) ≤ 9223372036854775807) ∧
 AllocK w646 (madeCells (#[.int .i64 0]) ((x1 : Int).toNat * 1)) 3 fun b647 w648 =>
 (0 ≤ (x1 : Int) ∧ (x1 : Int) ≤ x1 ∧ ((24 : Nat) : Int) * x1 ≤ 281474976710656 ∧ (x1 : Int) ≤ 9223372036854775807) ∧
 AllocK w648 (madeCells (#[.slice none 0 0]) ((x1 : Int).toNat * 1)) 84 fun b649 w650 =>
 AllocK w650 (#[(.int .i64 x1), (.int .i64 x2), (.int .i64 x3), (.slice (some b647) ((x1 : Int).toNat) ((x1 : Int).toNat)), (.slice none 0 0), (.slice (some b645) ((x1 : Int).toNat) ((x1 : Int).toNat)), (.slice (some b629) ((x1 : Int).toNat) ((x1 : Int).toNat)), (.slice (some b539) ((x1 : Int).toNat) ((x1 : Int).toNat)), (.slice (some b649) ((x1 : Int).toNat) ((x1 : Int).toNat)), (.slice none 0 0), (.slice none 0 0), (.slice none 0 0)]) 50 fun b651 w652 =>
 K (some b651) 0 w652) ∧
 ((0 ≤ (x1 : Int) ∧ (x1 : Int) ≤ x1 ∧ ((24 : Nat) : Int) * x1 ≤ 281474976710656 ∧ (x1 : Int) ≤ 9223372036854775807) ∧
 AllocK w646 (madeCells (#[.slice none 0 0]) ((x1 : Int).toNat * 1)) 84 fun b653 w654 =>
 (0 ≤ (x1 : Int) ∧ (x1 : Int) ≤ x1 ∧ ((8 : Nat) : Int) * x1 ≤ 281474976710656 ∧ (x1 : Int) ≤ 9223372036854775807) ∧
 AllocK w654 (madeCells (#[.int .i64 0]) ((x1 : Int).toNat * 1)) 3 fun b655 w656 =>
 AllocK w656 (#[(.int .i64 x1), (.int .i64 x2), (.int .i64 x3), (.slice (some b655) ((x1 : Int).toNat) ((x1 : Int).toNat)), (.slice none 0 0), (.slice (some b645) ((x1 : Int).toNat) ((x1 : Int).toNat)), (.slice (some b629) ((x1 : Int).toNat) ((x1 : Int).toNat)), (.slice (some b539) ((x1 : Int).toNat) ((x1 : Int).toNat)), (.slice (some b653) ((x1 : Int).toNat) ((x1 : Int).toNat)), (.slice none 0 0), (.slice none 0 0), (.slice none 0 0)]) 50 fun b657 w658 =>
 K (some b657) 0 w658)) ∧
 ((0 ≤ (x1 : Int) ∧ (x1 : Int) ≤ x1 ∧ ((24 : Nat) : Int) * x1 ≤ 281474976710656 ∧ (x1 : Int) ≤ 9223372036854775807) ∧
 AllocK w630 (madeCells (#[.slice none 0 0]) ((x1 : Int).toNat * 1)) 84 fun b659 w660 =>
 ((0 ≤ (x1 : Int) ∧ (x1 : Int) ≤ x1 ∧ ((8 : Nat) : Int) * x1 ≤ 281474976710656 ∧ (x1 : Int) ≤ 9223372036854775807) ∧
 AllocK w660 (madeCells (#[.int .i64 0]) ((x1 : Int).toNat * 1)) 3 fun b661 w662 =>
 (0 ≤ (x1 : Int) ∧ (x1 : Int) ≤ x1 ∧ ((24 : Nat) : Int) * x1 ≤ 281474976710656 ∧ (x1 : Int) ≤ 9223372036854775807) ∧
 AllocK w662 (madeCells (#[.slice none 0 0]) ((x1 : Int).toNat * 1)) 43 fun b663 w664 =>
 AllocK w664 (#[(.int .i64 x1), (.int .i64 x2), (.int .i64 x3), (.slice (some b661) ((x1 : Int).toNat) ((x1 : Int).toNat)), (.slice none 0 0), (.slice (some b663) ((x1 : Int).toNat) ((x1 : Int).toNat)), (.slice (some b629) ((x1 : Int).toNat) ((x1 : Int).toNat)), (.slice (some b539) ((x1 : Int).toNat) ((x1 : Int).toNat)), (.slice (some b659) ((x1 : Int).toNat) ((x1 : Int).toNat)), (.slice none 0 0), (.slice none 0 0), (.slice none 0 0)]) 50 fun b665 w666 =>
 K (some b665) 0 w666) ∧
 ((0 ≤ (x1 : Int) ∧ (x1 : Int) ≤ x1 ∧ ((24 : Nat) : Int) * x1 ≤ 281474976710656 ∧ (x1 : Int) ≤ 9223372036854775807) ∧
 AllocK w660 (madeCells (#[.slice none 0 0]) ((x1 : Int).toNat * 1)) 43 fun b667 w668 =>
 (0 ≤ (x1 : Int) ∧ (x1 : Int) ≤ x1 ∧ ((8 : Nat) : Int) * x1 ≤ 281474976710656 ∧ (x1 : Int) ≤ 9223372036854775807) ∧
 AllocK w668 (madeCells (#[.int .i64 0]) ((x1 : Int).toNat * 1)) 3 fun b669 w670 =>
 AllocK w670 (#[(.int .i64 x1), (.int .i64 x2), (.int .i64 x3), (.slice (some b669) ((x1 : Int).toNat) ((x1 : Int).toNat)), (.slice none 0 0), (.slice (some b667) ((x1 : Int).toNat) ((x1 : Int).toNat)), (.slice (some b629) ((x1 : Int).toNat) ((x1 : Int).toNat)), (.slice (some b539) ((x1 : Int).toNat) ((x1 : Int).toNat)), (.slice (some b659) ((x1 : Int).toNat) ((x1 : Int).toNat)), (.slice none 0 0), (.slice none 0 0), (.slice none 0 0)]) 50 fun b671 w672 =>
 K (some b671) 0 w672)))) ∧
 ((0 ≤ (x1 : Int) ∧ (x1 : Int) ≤ x1 ∧ ((24 : Nat) : Int) * x1 ≤ 281474976710656 ∧ (x1 : Int) ≤ 9223372036854775807) ∧
 AllocK w540 (madeCells (#[.slice none 0 0]) ((x1 : Int).toNat * 1)) 84 fun b673 w674 =>
 ((0 ≤ (x1 : Int) ∧ (x1 : Int) ≤ x1 ∧ ((8 : Nat) : Int) * x1 ≤ 281474976710656 ∧ (x1 : Int) ≤ 9223372036854775807) ∧
 AllocK w674 (madeCells (#[.int .i64 0]) ((x1 : Int).toNat * 1)) 3 fun b675 w676 =>
 ((0 ≤ (x1 : Int) ∧ (x1 : Int) ≤ x1 ∧ ((24 : Nat) : Int) * x1 ≤ 281474976710656 ∧ (x1 : Int) ≤ 9223372036854775807) ∧
 AllocK w676 (madeCells (#[.slice none 0 0]) ((x1 : Int).toNat * 1)) 43 fun b677 w678 =>
 (0 ≤ (x1 : Int) ∧ (x1 : Int) ≤ x1 ∧ ((24 : Nat) : Int) * x1 ≤ 281474976710656 ∧ (x1 : Int) ≤ 9223372036854775807) ∧
 AllocK w678 (madeCells (#[.slice none 0 0]) ((x1 : Int).toNat * 1)) 84 fun b679 w680 =>
 AllocK w680 (#[(.int .i64 x1), (.int .i64 x2), (.int .i64 x3), (.slice (some b675) ((x1 : Int).toNat) ((x1 : Int).toNat)), (.slice none 0 0), (.slice (some b677) ((x1 : Int).toNat) ((x1 : Int).toNat)), (.slice (some b679) ((x1 : Int).toNat) ((x1 : Int).toNat)), (.slice (some b539) ((x1 : Int).toNat) ((x1 : Int).toNat)), (.slice (some b673) ((x1 : Int).toNat) ((x1 : Int).toNat)), (.slice none 0 0), (.slice none 0 0), (.slice none 0 0)]) 50 fun b681 w682 =>
 K (some b681) 0 w682) ∧
 ((0 ≤ (x1 : Int) ∧ (x1 : Int) ≤ x1 ∧ ((24 : Nat) : Int) * x1 ≤ 281474976710656 ∧ (x1 : Int) ≤ 9223372036854775807) ∧
 AllocK w676 (madeCells (#[.slice none 0 0]) ((x1 : Int).toNat * 1)) 84 fun b683 w684 =>
 (0 ≤ (x1 : Int) ∧ (x1 : Int) ≤ x1 ∧ ((24 : Nat) : Int) * x1 ≤ 281474976710656 ∧ (x1 : Int) ≤ 9223372036854775807) ∧
 AllocK w684 (madeCells (#[.slice none 0 0]) ((x1 : Int).toNat * 1)) 43 fun b685 w686 =>
 AllocK w686 (#[(.int .i64 x1), (.int .i64 x2), (.int .i64 x3), (.slice (some b675) ((x1 : Int).toNat) ((x1 : Int).toNat)), (.slice none 0 0), (.slice (some b685) ((x1 : Int).toNat) ((x1 : Int).toNat)), (.slice (some b683) ((x1 : Int).toNat) ((x1 : Int).toNat)), (.slice (some b539) ((x1 : Int).toNat) ((x1 : Int).toNat)), (.slice (some b673) ((x1 : Int).toNat) ((x1 : Int).toNat)), (.slice none 0 0), (.slice none 0 0), (.slice none 0 0)]) 50 fun b687 w688 =>
 K (some b687) 0 w688)) ∧
 (((0 ≤ (x1 : Int) ∧ (x1 : Int) ≤ x1 ∧ ((24 : Nat) : Int) * x1 ≤ 281474976710656 ∧ (x1 : Int) ≤ 9223372036854775807) ∧
 AllocK w674 (madeCells (#[.slice none 0 0]) ((x1 : Int).toNat * 1)) 43 fun b689 w690 =>
 ((0 ≤ (x1 : Int) ∧ (x1 : Int) ≤ x1 ∧ ((8 : Nat) : Int) * x1 ≤ 281474976710656 ∧ (x1 : Int) ≤ 9223372036854775807) ∧
 AllocK w690 (madeCells (#[.int .i64 0]) ((x1 : Int).toNat * 1)) 3 fun b691 w692 =>
 (0 ≤ (x1 : Int) ∧ (x1 : Int) ≤ x1 ∧ ((24 : Nat) : Int) * x1 ≤ 281474976710656 ∧ (x1 : Int) ≤ 9223372036854775807) ∧
 AllocK w692 (madeCells (#[.slice none 0 0]) ((x1 : Int).toNat * 1)) 84 fun b693 w694 =>
 AllocK w694 (#[(.int .i64 x1), (.int .i64 x2), (.int .i64 x3), (.slice (some b691) ((x1 : Int).toNat) ((x1 : Int).toNat)), (.slice none 0 0), (.slice (some b689) ((x1 : Int).toNat) ((x1 : Int).toNat)), (.slice (some b693) ((x1 : Int).toNat) ((x1 : Int).toNat)), (.slice (some b539) ((x1 : Int).toNat) ((x1 : Int).toNat)), (.slice (some b673) ((x1 : Int).toNat) ((x1 : Int).toNat)), (.slice none 0 0), (.slice none 0 0), (.slice none 0 0)]) 50 fun b695 w696 =>
 K (some b695) 0 w696) ∧
 ((0 ≤ (x1 : Int) ∧ (x1 : Int) ≤ x1 ∧ ((24 : Nat) : Int) * x1 ≤ 281474976710656 ∧ (x1 : Int) ≤ 9223372036854775807) ∧
 AllocK w690 (madeCells (#[.slice none 0 0]) ((x1 : Int).toNat * 1)) 84 fun b697 w698 =>
 (0 ≤ (x1 : Int) ∧ (x1 : Int) ≤ x1 ∧ ((8 : Nat) : Int) * x1 ≤ 281474976710656 ∧ (x1 : Int) ≤ 9223372036854775807) ∧
 AllocK w698 (madeCells (#[.int .i64 0]) ((x1 : Int).toNat * 1)) 3 fun b699 w700 =>
 AllocK w700 (#[(.int .i64 x1), (.int .i64 x2), (.int .i64 x3), (.slice (some b699) ((x1 : Int).toNat) ((x1 : Int).toNat)), (.slice none 0 0), (.slice (some b689) ((x1 : Int).toNat) ((x1 : Int).toNat)), (.slice (some b697) ((x1 : Int).toNat) ((x1 : Int).toNat)), (.slice (some b539) ((x1 : Int).toNat) ((x1 : Int).toNat)), (.slice (some b673) ((x1 : Int).toNat) ((x1 : Int).toNat)), (.slice none 0 0), (.slice none 0 0), (.slice none 0 0)]) 50 fun b701 w702 =>
 K (some b701) 0 w702)) ∧
 ((0 ≤ (x1 : Int) ∧ (x1 : Int) ≤ x1 ∧ ((24 : Nat) : Int) * x1 ≤ 281474976710656 ∧ (x1 : Int) ≤ 9223372036854775807) ∧
 AllocK w674 (madeCells (#[.slice none 0 0]) ((x1 : Int).toNat * 1)) 84 fun b703 w704 =>
 ((0 ≤ (x1 : Int) ∧ (x1 : Int) ≤ x1 ∧ ((8 : Nat) : Int) * x1 ≤ 281474976710656 ∧ (x1 : Int) ≤ 9223372036854775807) ∧
 AllocK w704 (madeCells (#[.int .i64 0]) ((x1 : Int).toNat * 1)) 3 fun b705 w706 =>
 (0 ≤ (x1 : Int) ∧ (x1 : Int) ≤ x1 ∧ ((24 : Nat) : Int) * x1 ≤ 281474976710656 ∧ (x1 : Int) ≤ 9223372036854775807) ∧
 AllocK w706 (madeCells (#[.slice none 0 0]) ((x1 : Int).toNat * 1)) 43 fun b707 w708 =>
 AllocK w708 (#[(.int .i64 x1), (.int .i64 x2), (.int .i64 x3), (.slice (some b705) ((x1 : Int).toNat) ((x1 : Int).toNat)), (.slice none 0 0), (.slice (some b707) ((x1 : Int).toNat) ((x1 : Int).toNat)), (.slice (some b703) ((x1 : Int).toNat) ((x1 : Int).toNat)), (.slice (some b539) ((x1 : Int).toNat) ((x1 : Int).toNat)), (.slice (some b673) ((x1 : Int).toNat) ((x1 : Int).toNat)), (.slice none 0 0), (.slice none 0 0), (.slice none 0 0)]) 50 fun b709 w710 =>
 K (some b709) 0 w710) ∧
 ((0 ≤ (x1 : Int) ∧ (x1 : Int) ≤ x1 ∧ ((24 : Nat) : Int) * x1 ≤ 281474976710656 ∧ (x1 : Int) ≤ 9223372036854775807) ∧
 AllocK w704 (madeCells (#[.slice none 0 0]) ((x1 : Int).toNat * 1)) 43 fun b711 w712 =>
 (0 ≤ (x1 : Int) ∧ (x1 : Int) ≤ x1 ∧ ((8 : Nat) : Int) * x1 ≤ 281474976710656 ∧ (x1 : Int) ≤ 9223372036854775807) ∧
 AllocK w712 (madeCells (#[.int .i64 0]) ((x1 : Int).toNat * 1)) 3 fun b713 w714 =>
 AllocK w714 (#[(.int .i64 x1), (.int .i64 x2), (.int .i64 x3), (.slice (some b713) ((x1 : Int).toNat) ((x1 : Int).toNat)), (.slice none 0 0), (.slice (some b711) ((x1 : Int).toNat) ((x1 : Int).toNat)), (.slice (some b703) ((x1 : Int).toNat) ((x1 : Int).toNat)), (.slice (some b539) ((x1 : Int).toNat) ((x1 : Int).toNat)), (.slice (some b673) ((x1 : Int).toNat) ((x1 : Int).toNat)), (.slice none 0 0), (.slice none 0 0), (.slice none 0 0)]) 50 fun b715 w716 =>
 K (some b715) 0 w716))))))) ∧
 ((0 ≤ (x1 : Int) ∧ (x1 : Int) ≤ x1 ∧ ((24 : Nat) : Int) * x1 ≤ 281474976710656 ∧ (x1 : Int) ≤ 9223372036854775807) ∧
 AllocK w4 (madeCells (#[.slice none 0 0]) ((x1 : Int).toNat * 1)) 84 fun b717 w718 =>
 ((0 ≤ (x1 : Int) ∧ (x1 : Int) ≤ x1 ∧ ((8 : Nat) : Int) * x1 ≤ 281474976710656 ∧ (x1 : Int) ≤ 9223372036854775807) ∧
 AllocK w718 (madeCells (#[.int .i64 0]) ((x1 : Int).toNat * 1)) 3 fun b719 w720 =>
 ((0 ≤ (x1 : Int) ∧ (x1 : Int) ≤ x1 ∧ ((24 : Nat) : Int) * x1 ≤ 281474976710656 ∧ (x1 : Int) ≤ 9223372036854775807) ∧
 AllocK w720 (madeCells (#[.slice none 0 0]) ((x1 : Int).toNat * 1)) 43 fun b721 w722 =>
 ((0 ≤ (x1 : Int) ∧ (x1 : Int) ≤ x1 ∧ ((24 : Nat) : Int) * x1 ≤ 281474976710656 ∧ (x1 : Int) ≤ 9223372036854775807) ∧
 AllocK w722 (madeCells (#[.slice none 0 0]) ((x1 : Int).toNat * 1)) 84 fun b723 w724 =>
 (0 ≤ (x1 : Int) ∧ (x1 : Int) ≤ x1 ∧ ((24 : Nat) : Int) * x1 ≤ 281474976710656 ∧ (x1 : Int) ≤ 9223372036854775807) ∧
 AllocK w724 (madeCells (#[.slice none 0 0]) ((x1 : Int).toNat * 1)) 84 fun b725 w726 =>
 AllocK w726 (#[(.int .i64 x1), (.int .i64 x2), (.int .i64 x3), (.slice (some b719) ((x1 : Int).toNat) ((x1 : Int).toNat)), (.slice none 0 0), (.slice (some b721) ((x1 : Int).toNat) ((x1 : Int).toNat)), (.slice (some b723) ((x1 : Int).toNat) ((x1 : Int).toNat)), (.slice (some b725) ((x1 : Int).toNat) ((x1 : Int).toNat)), (.slice (some b717) ((x1 : Int).toNat) ((x1 : Int).toNat)), (.slice none 0 0), (.slice none 0 0), (.slice none 0 0)]) 50 fun b727 w728 =>
 K (some b727) 0 w728) ∧
 ((0 ≤ (x1 : Int) ∧ (x1 : Int) ≤ x1 ∧ ((24 : Nat) : Int) * x1 ≤ 281474976710656 ∧ (x1 : Int) ≤ 9223372036854775807) ∧
 AllocK w722 (madeCells (#[.slice none 0 0]) ((x1 : Int).toNat * 1)) 84 fun b729 w730 =>
 (0 ≤ (x1 : Int) ∧ (x1 : Int) ≤ x1 ∧ ((24 : Nat) : Int) * x1 ≤ 281474976710656 ∧ (x1 : Int) ≤ 9223372036854775807) ∧
 AllocK w730 (madeCells (#[.slice none 0 0]) ((x1 : Int).toNat * 1)) 84 fun b731 w732 =>
 AllocK w732 (#[(.int .i64 x1), (.int .i64 x2), (.int .i64 x3), (.slice (some b719) ((x1 : Int).toNat) ((x1 : Int).toNat)), (.slice none 0 0), (.slice (some b721) ((x1 : Int).toNat) ((x1 : Int).toNat)), (.slice (some b731) ((x1 : Int).toNat) ((x1 : Int).toNat)), (.slice (some b729) ((x1 : Int).toNat) ((x1 : Int).toNat)), (.slice (some b717) ((x1 : Int).toNat) ((x1 : Int).toNat)), (.slice none 0 0), (.slice none 0 0), (.slice none 0 0)]) 50 fun b733 w734 =>
 K (some b733) 0 w734)) ∧
 (((0 ≤ (x1 : Int) ∧ (x1 : Int) ≤ x1 ∧ ((24 : Nat) : Int) * x1 ≤ 281474976710656 ∧ (x1 : Int) ≤ 9223372036854775807) ∧
 AllocK w720 (madeCells (#[.slice none 0 0]) ((x1 : Int).toNat * 1)) 84 fun b735 w736 =>
 ((0 ≤ (x1 : Int) ∧ (x1 : Int) ≤ x1 ∧ ((24 : Nat) : Int) * x1 ≤ 281474976710656 ∧ (x1 : Int) ≤ 9223372036854775807) ∧
 AllocK w736 (madeCells (#[.slice none 0 0]) ((x1 : Int).toNat * 1)) 43 fun b737 w738 =>
 (0 ≤ (x1 : Int) ∧ (x1 : Int) ≤ x1 ∧ ((24 : Nat) : Int) * x1 ≤ 281474976710656 ∧ (x1 : Int) ≤ 9223372036854775807) ∧
 AllocK w738 (madeCells (#[.slice none 0 0]) ((x1 : Int).toNat * 1)) 84 fun b739 w740 =>
 AllocK w740 (#[(.int .i64 x1), (.int .i64 x2), (.int .i64 x3), (.slice (some b719) ((x1 : Int).toNat) ((x1 : Int).toNat)), (.slice none 0 0), (.slice (some b737) ((x1 : Int).toNat) ((x1 : Int).toNat)), (.slice (some b735) ((x1 : Int).toNat) ((x1 : Int).toNat)), (.slice (some b739) ((x1 : Int).toNat) ((x1 : Int).toNat)), (.slice (some b717) ((x1 : Int).toNat) ((x1 : Int).toNat)), (.slice none 0 0), (.slice none 0 0), (.slice none 0 0)]) 50 fun b741 w742 =>
 K (some b741) 0 w742) ∧
 ((0 ≤ (x1 : Int) ∧ (x1 : Int) ≤ x1 ∧ ((24 : Nat) : Int) * x1 ≤ 281474976710656 ∧ (x1 : Int) ≤ 9223372036854775807) ∧
 AllocK w736 (madeCells (#[.slice none 0 0]) ((x1 : Int).toNat * 1)) 84 fun b743 w744 =>
 (0 ≤ (x1 : Int) ∧ (x1 : Int) ≤ x1 ∧ ((24 : Nat) : Int) * x1 ≤ 281474976710656 ∧ (x1 : Int) ≤ 9223372036854775807) ∧
 AllocK w744 (madeCells (#[.slice none 0 0]) ((x1 : Int).toNat * 1)) 43 fun b745 w746 =>
 AllocK w746 (#[(.int .i64 x1), (.int .i64 x2), (.int .i64 x3), (.slice (some b719) ((x1 : Int).toNat) ((x1 : Int).toNat)), (.slice none 0 0), (.slice (some b745) ((x1 : Int).toNat) ((x1 : Int).toNat)), (.slice (some b735) ((x1 : Int).toNat) ((x1 : Int).toNat)), (.slice (some b743) ((x1 : Int).toNat) ((x1 : Int).toNat)), (.slice (some b717) ((x1 : Int).toNat) ((x1 : Int).toNat)), (.slice none 0 0), (.slice none 0 0), (.slice none 0 0)]) 50 fun b747 w748 =>
 K (some b747) 0 w748)) ∧
 ((0 ≤ (x1 : Int) ∧ (x1 : Int) ≤ x1 ∧ ((24 : Nat) : Int) * x1 ≤ 281474976710656 ∧ (x1 : Int) ≤ 9223372036854775807) ∧
 AllocK w720 (madeCells (#[.slice none 0 0]) ((x1 : Int).toNat * 1)) 84 fun b749 w750 =>
 ((0 ≤ (x1 : Int) ∧ (x1 : Int) ≤ x1 ∧ ((24 : Nat) : Int) * x1 ≤ 281474976710656 ∧ (x1 : Int) ≤ 9223372036854775807) ∧
 AllocK w750 (madeCells (#[.slice none 0 0]) ((x1 : Int).toNat * 1)) 43 fun b751 w752 =>
 (0 ≤ (x1 : Int) ∧ (x1 : Int) ≤ x1 ∧ ((24 : Nat) : Int) * x1 ≤ 281474976710656 ∧ (x1 : Int) ≤ 9223372036854775807) ∧
 AllocK w752 (madeCells (#[.slice none 0 0]) ((x1 : Int).toNat * 1)) 84 fun b753 w754 =>
 AllocK w754 (#[(.int .i64 x1), (.int .i64 x2), (.int .i64 x3), (.slice (some b719) ((x1 : Int).toNat) ((x1 : Int).toNat)), (.slice none 0 0), (.slice (some b751) ((x1 : Int).toNat) ((x1 : Int).toNat)), (.slice (some b753) ((x1 : Int).toNat) ((x1 : Int).toNat)), (.slice (some b749) ((x1 : Int).toNat) ((x1 : Int).toNat)), (.slice (some b717) ((x1 : Int).toNat) ((x1 : Int).toNat)), (.slice none 0 0), (.slice none 0 0), (.slice none 0 0)]) 50 fun b755 w756 =>
 K (some b755) 0 w756) ∧
 ((0 ≤ (x1 : Int) ∧ (x1 : Int) ≤ x1 ∧ ((24 : Nat) : Int) * x1 ≤ 281474976710656 ∧ (x1 : Int) ≤ 9223372036854775807) ∧
 AllocK w750 (madeCells (#[.slice none 0 0]) ((x1 : Int).toNat * 1)) 84 fun b757 w758 =>
 (0 ≤ (x1 : Int) ∧ (x1 : Int) ≤ x1 ∧ ((24 : Nat) : Int) * x1 ≤ 281474976710656 ∧ (x1 : Int) ≤ 9223372036854775807) ∧
 AllocK w758 (madeCells (#[.slice none 0 0]) ((x1 : Int).toNat * 1)) 43 fun b759 w760 =>
 AllocK w760 (#[(.int .i64 x1), (.int .i64 x2), (.int .i64 x3), (.slice (some b719) ((x1 : Int).toNat) ((x1 : Int).toNat)), (.slice none 0 0), (.slice (some b759) ((x1 : Int).toNat) ((x1 : Int).toNat)), (.slice (some b757) ((x1 : Int).toNat) ((x1 : Int).toNat)), (.slice (some b749) ((x1 : Int).toNat) ((x1 : Int).toNat)), (.slice (some b717) ((x1 : Int).toNat) ((x1 : Int).toNat)), (.slice none 0 0), (.slice none 0 0), (.slice none 0 0)]) 50 fun b761 w762 =>
 K (some b761) 0 w762)))) ∧
 (((0 ≤ (x1 : Int) ∧ (x1 : Int) ≤ x1 ∧ ((24 : Nat) : Int) * x1 ≤ 281474976710656 ∧ (x1 : Int) ≤ 9223372036854775807) ∧
 AllocK w718 (madeCells (#[.slice none 0 0]) ((x1 : Int).toNat * 1)) 43 fun b763 w764 =>
 ((0 ≤ (x1 : Int) ∧ (x1 : Int) ≤ x1 ∧ ((8 : Nat) : Int) * x1 ≤ 281474976710656 ∧ (x1 : Int) ≤ 9223372036854775807) ∧
 AllocK w764 (madeCells (#[.int .i64 0]) ((x1 : Int).toNat * 1)) 3 fun b765 w766 =>
 ((0 ≤ (x1 : Int) ∧ (x1 : Int) ≤ x1 ∧ ((24 : Nat) : Int) * x1 ≤ 281474976710656 ∧ (x1 : Int) ≤ 9223372036854775807) ∧
 AllocK w766 (madeCells (#[.slice none 0 0]) ((x1 : Int).toNat * 1)) 84 fun b767 w768 =>
 (0 ≤ (x1 : Int) ∧ (x1 : Int) ≤ x1 ∧ ((24 : Nat) : Int) * x1 ≤ 281474976710656 ∧ (x1 : Int) ≤ 9223372036854775807) ∧
 AllocK w768 (madeCells (#[.slice none 0 0]) ((x1 : Int).toNat * 1)) 84 fun b769 w770 =>
 AllocK w770 (#[(.int .i64 x1), (.int .i64 x2), (.int .i64 x3), (.slice (some b765) ((x1 : Int).toNat) ((x1 : Int).toNat)), (.slice none 0 0), (.slice (some b763) ((x1 : Int).toNat) ((x1 : Int).toNat)), (.slice (some b767) ((x1 : Int).toNat) ((x1 : Int).toNat)), (.slice (some b769) ((x1 : Int).toNat) ((x1 : Int).toNat)), (.slice (some b717) ((x1 : Int).toNat) ((x1 : Int).toNat)), (.slice none 0 0), (.slice none 0 0), (.slice none 0 0)]) 50 fun b771 w772 =>
 K (some b771) 0 w772) ∧
 ((0 ≤ (x1 : Int) ∧ (x1 : Int) ≤ x1 ∧ ((24 : Nat) : Int) * x1 ≤ 281474976710656 ∧ (x1 : Int) ≤ 9223372036854775807) ∧
 AllocK w766 (madeCells (#[.slice none 0 0]) ((x1 : Int).toNat * 1)) 84 fun b773 w774 =>
 (0 ≤ (x1 : Int) ∧ (x1 : Int) ≤ x1 ∧ ((24 : Nat) : Int) * x1 ≤ 281474976710656 ∧ (x1 : Int) ≤ 9223372036854775807) ∧
 AllocK w774 (madeCells (#[.slice none 0 0]) ((x1 : Int).toNat * 1)) 84 fun b775 w776 =>
 AllocK w776 (#[(.int .i64 x1), (.int .i64 x2), (.int .i64 x3), (.slice (some b765) ((x1 : Int).toNat) ((x1 : Int).toNat)), (.slice none 0 0), (.slice (some b763) ((x1 : Int).toNat) ((x1 : Int).toNat)), (.slice (some b775) ((x1 : Int).toNat) ((x1 : Int).toNat)), (.slice (some b773) ((x1 : Int).toNat) ((x1 : Int).toNat)), (.slice (some b717) ((x1 : Int).toNat) ((x1 : Int).toNat)), (.slice none 0 0), (.slice none 0 0), (.slice none 0 0)]) 50 fun b777 w778 =>
 K (some b777) 0 w778)) ∧
 (((0 ≤ (x1 : Int) ∧ (x1 : Int) ≤ x1 ∧ ((24 : Nat) : Int) * x1 ≤ 281474976710656 ∧ (x1 : Int) ≤ 9223372036854775807) ∧
 AllocK w764 (madeCells (#[.slice none 0 0]) ((x1 : Int).toNat * 1)) 84 fun b779 w780 =>
 ((0 ≤ (x1 : Int) ∧ (x1 : Int) ≤ x1 ∧ ((8 : Nat) : Int) * x1 ≤ 281474976710656 ∧ (x1 : Int) ≤ 9223372036854775807) ∧
 AllocK w780 (madeCells (#[.int .i64 0]) ((x1 : Int).toNat * 1)) 3 fun b781 w782 =>
 (0 ≤ (x1 : Int) ∧ (x1 : Int) ≤ x1 ∧ ((24 : Nat) : Int) * x1 ≤ 281474976710656 ∧ (x1 : Int) ≤ 9223372036854775807) ∧
 AllocK w782 (madeCells (#[.slice none 0 0]) ((x1 : Int).toNat * 1)) 84 fun b783 w784 =>
 AllocK w784 (#[(.int .i64 x1), (.int .i64 x2), (.int .i64 x3), (.slice (some b781) ((x1 : Int).toNat) ((x1 : Int).toNat)), (.slice none 0 0), (.slice (some b763) ((x1 : Int).toNat) ((x1 : Int).toNat)), (.slice (some b779) ((x1 : Int).toNat) ((x1 : Int).toNat)), (.slice (some b783) ((x1 : Int).toNat) ((x1 : Int).toNat)), (.slice (some b717) ((x1 : Int).toNat) ((x1 : Int).toNat)), (.slice none 0 0), (.slice none 0 0), (.slice none 0 0)]) 50 fun b785 w786 =>
 K (some b785) 0 w786) ∧
 ((0 ≤ (x1 : Int) ∧ (x1 : Int) ≤ x1 ∧ ((24 : Nat) : Int) * x1 ≤ 281474976710656 ∧ (x1 : Int) ≤ 9223372036854775807) ∧
 AllocK w780 (madeCells (#[.slice none 0 0]) ((x1 : Int).toNat * 1)) 84 fun b787 w788 =>
 (0 ≤ (x1 : Int) ∧ (x1 : Int) ≤ x1 ∧ ((8 : Nat) : Int) * x1 ≤ 281474976710656 ∧ (x1 : Int) ≤ 9223372036854775807) ∧
 AllocK w788 (madeCells (#[.int .i64 0]) ((x1 : Int).toNat * 1)) 3 fun b789 w790 =>
 AllocK w790 (#[(.int .i64 x1), (.int .i64 x2), (.int .i64 x3), (.slice (some b789) ((x1 : Int).toNat) ((x1 : Int).toNat)), (.slice none 0 0), (.slice (some b763) ((x1 : Int).toNat) ((x1 : Int).toNat)), (.slice (some b779) ((x1 : Int).toNat) ((x1 : Int).toNat)), (.slice (some b787) ((x1 : Int).toNat) ((x1 : Int).toNat)), (.slice (some b717) ((x1 : Int).toNat) ((x1 : Int).toNat)), (.slice none 0 0), (.slice none 0 0), (.slice none 0 0)]) 50 fun b791 w792 =>
 K (some b791) 0 w792)) ∧
 ((0 ≤ (x1 : Int) ∧ (x1 : Int) ≤ x1 ∧ ((24 : Nat) : Int) * x1 ≤ 281474976710656 ∧ (x1 : Int) ≤ 9223372036854775807) ∧
 AllocK w764 (madeCells (#[.slice none 0 0]) ((x1 : Int).toNat * 1)) 84 fun b793 w794 =>
 ((0 ≤ (x1 : Int) ∧ (x1 : Int) ≤ x1 ∧ ((8 : Nat) : Int) * x1 ≤ 281474976710656 ∧ (x1 : Int) ≤ 9223372036854775807) ∧
 AllocK w794 (madeCells (#[.int .i64 0]) ((x1 : Int).toNat * 1)) 3 fun b795 w796 =>
 (0 ≤ (x1 : Int) ∧ (x1 : Int) ≤ x1 ∧ ((24 : Nat) : Int) * x1 ≤ 281474976710656 ∧ (x1 : Int) ≤ 9223372036854775807) ∧
 AllocK w796 (madeCells (#[.slice none 0 0]) ((x1 : Int).toNat * 1)) 84 fun b797 w798 =>
 AllocK w798 (#[(.int .i64 x1), (.int .i64 x2), (.int .i64 x3), (.slice (some b795) ((x1 : Int).toNat) ((x1 : Int).toNat)), (.slice none 0 0), (.slice (some b763) ((x1 : Int).toNat) ((x1 : Int).toNat)), (.slice (some b797) ((x1 : Int).toNat) ((x1 : Int).toNat)), (.slice (some b793) ((x1 : Int).toNat) ((x1 : Int).toNat)), (.slice (some b717) ((x1 : Int).toNat) ((x1 : Int).toNat)), (.slice none 0 0), (.slice none 0 0), (.slice none 0 0)]) 50 fun b799 w800 =>
 K (some b799) 0 w800) ∧
 ((0 ≤ (x1 : Int) ∧ (x1 : Int) ≤ x1 ∧ ((24 : Nat) : Int) * x1 ≤ 281474976710656 ∧ (x1 : Int) ≤ 9223372036854775807) ∧
 AllocK w794 (madeCells (#[.slice none 0 0]) ((x1 : Int).toNat * 1)) 84 fun b801 w802 =>
 (0 ≤ (x1 : Int) ∧ (x1 : Int) ≤ x1 ∧ ((8 : Nat) : Int) * x1 ≤ 281474976710656 ∧ (x1 : Int) ≤ 9223372036854775807) ∧
 AllocK w802 (madeCells (#[.int .i64 0]) ((x1 : Int).toNat * 1)) 3 fun b803 w804 =>
 AllocK w804 (#[(.int .i64 x1), (.int .i64 x2), (.int .i64 x3), (.slice (some b803) ((x1 : Int).toNat) ((x1 : Int).toNat)), (.slice none 0 0), (.slice (some b763) ((x1 : Int).toNat) ((x1 : Int).toNat)), (.slice (some b801) ((x1 : Int).toNat) ((x1 : Int).toNat)), (.slice (some b793) ((x1 : Int).toNat) ((x1 : Int).toNat)), (.slice (some b717) ((x1 : Int).toNat) ((x1 : Int).toNat)), (.slice none 0 0), (.slice none 0 0), (.slice none 0 0)]) 50 fun b805 w806 =>
 K (some b805) 0 w806)))) ∧
 (((0 ≤ (x1 : Int) ∧ (x1 : Int) ≤ x1 ∧ ((24 : Nat) : Int) * x1 ≤ 281474976710656 ∧ (x1 : Int) ≤ 9223372036854775807) ∧
 AllocK w718 (madeCells (#[.slice none 0 0]) ((x1 : Int).toNat * 1)) 84 fun b807 w808 =>
 ((0 ≤ (x1 : Int) ∧ (x1 : Int) ≤ x1 ∧ ((8 : Nat) : Int) * x1 ≤ 281474976710656 ∧ (x1 : Int) ≤ 9223372036854775807) ∧
 AllocK w808 (madeCells (#[.int .i64 0]) ((x1 : Int).toNat * 1)) 3 fun b809 w810 =>
 ((0 ≤ (x1 : Int) ∧ (x1 : Int) ≤ x1 ∧ ((24 : Nat) : Int) * x1 ≤ 281474976710656 ∧ (x1 : Int) ≤ 9223372036854775807) ∧
 AllocK w810 (madeCells (#[.slice none 0 0]) ((x1 : Int).toNat * 1)) 43 fun b811 w812 =>
 (0 ≤ (x1 : Int) ∧ (x1 : Int) ≤ x1 ∧ ((24 : Nat) : Int) * x1 ≤ 281474976710656 ∧ (x1 : Int) ≤ 9223372036854775807) ∧
 AllocK w812 (madeCells (#[.slice none 0 0]) ((x1 : Int).toNat * 1)) 84 fun b813 w814 =>
 AllocK w814 (#[(.int .i64 x1), (.int .i64 x2), (.int .i64 x3), (.slice (some b809) ((x1 : Int).toNat) ((x1 : Int).toNat)), (.slice none 0 0), (.slice (some b811) ((x1 : Int).toNat) ((x1 : Int).toNat)), (.slice (some b807) ((x1 : Int).toNat) ((x1 : Int).toNat)), (.slice (some b813) ((x1 : Int).toNat) ((x1 : Int).toNat)), (.slice (some b717) ((x1 : Int).toNat) ((x1 : Int).toNat)), (.slice none 0 0), (.slice none 0 0), (.slice none 0 0)]) 50 fun b815 w816 =>
 K (some b815) 0 w816) ∧
 ((0 ≤ (x1 : Int) ∧ (x1 : Int) ≤ x1 ∧ ((24 : Nat) : Int) * x1 ≤ 281474976710656 ∧ (x1 : Int) ≤ 9223372036854775807) ∧
 AllocK w810 (madeCells (#[.slice none 0 0]) ((x1 : Int).toNat * 1)) 84 fun b817 w818 =>
 (0 ≤ (x1 : Int) ∧ (x1 : Int) ≤ x1 ∧ ((24 : Nat) : Int) * x1 ≤ 281474976710656 ∧ (x1 : Int) ≤ 9223372036854775807) ∧
 AllocK w818 (madeCells (#[.slice none 0 0]) ((x1 : Int).toNat * 1)) 43 fun b819 w820 =>
 AllocK w820 (#[(.int .i64 x1), (.int .i64 x2), (.int .i64 x3), (.slice (some b809) ((x1 : Int).toNat) ((x1 : Int).toNat)), (.slice none 0 0), (.slice (some b819) ((x1 : Int).toNat) ((x1 : Int).toNat)), (.slice (some b807) ((x1 : Int).toNat) ((x1 : Int).toNat)), (.slice (some b817) ((x1 : Int).toNat) ((x1 : Int).toNat)), (.slice (some b717) ((x1 : Int).toNat) ((x1 : Int).toNat)), (.slice none 0 0), (.slice none 0 0), (.slice none 0 0)]) 50 fun b821 w822 =>
 K (some b821) 0 w822)) ∧
 (((0 ≤ (x1 : Int) ∧ (x1 : Int) ≤ x1 ∧ ((24 : Nat) : Int) * x1 ≤ 281474976710656 ∧ (x1 : Int) ≤ 9223372036854775807) ∧
 AllocK w808 (madeCells (#[.slice none 0 0]) ((x1 : Int).toNat * 1)) 43 fun b823 w824 =>
 ((0 ≤ (x1 : Int) ∧ (x1 : Int) ≤ x1 ∧ ((8 : Nat) : Int) * x1 ≤ 281474976710656 ∧ (x1 : Int) ≤ 9223372036854775807) ∧
 AllocK w824 (madeCells (#[.int .i64 0]) ((x1 : Int).toNat * 1)) 3 fun b825 w826 =>
 (0 ≤ (x1 : Int) ∧ (x1 : Int) ≤ x1 ∧ ((24 : Nat) : Int) * x1 ≤ 281474976710656 ∧ (x1 : Int) ≤ 9223372036854775807) ∧
 AllocK w826 (madeCells (#[.slice none 0 0]) ((x1 : Int).toNat * 1)) 84 fun b827 w828 =>
 AllocK w828 (#[(.int .i64 x1), (.int .i64 x2), (.int .i64 x3), (.slice (some b825) ((x1 : Int).toNat) ((x1 : Int).toNat)), (.slice none 0 0), (.slice (some b823) ((x1 : Int).toNat) ((x1 : Int).toNat)), (.slice (some b807) ((x1 : Int).toNat) ((x1 : Int).toNat)), (.slice (some b827) ((x1 : Int).toNat) ((x1 : Int).toNat)), (.slice (some b717) ((x1 : Int).toNat) ((x1 : Int).toNat)), (.slice none 0 0), (.slice none 0 0), (.slice none 0 0)]) 50 fun b829 w830 =>
 K (some b829) 0 w830) ∧
 ((0 ≤ (x1 : Int) ∧ (x1 : Int) ≤ x1 ∧ ((24 : Nat) : Int) * x1 ≤ 281474976710656 ∧ (x1 : Int) ≤ 9223372036854775807) ∧
 AllocK w824 (madeCells (#[.slice none 0 0]) ((x1 : Int).toNat * 1)) 84 fun b831 w832 =>
 (0 ≤ (x1 : Int) ∧ (x1 : Int) ≤ x1 ∧ ((8 : Nat) : Int) * x1 ≤ 281474976710656 ∧ (x1 : Int) ≤ 9223372036854775807) ∧
 AllocK w832 (madeCells (#[.int .i64 0]) ((x1 : Int).toNat * 1)) 3 fun b833 w834 =>
 AllocK w834 (#[(.int .i64 x1), (.int .i64 x2), (.int .i64 x3), (.slice (some b833) ((x1 : Int).toNat) ((x1 : Int).toNat)), (.slice none 0 0), (.slice (some b823) ((x1 : Int).toNat) ((x1 : Int).toNat)), (.slice (some b807) ((x1 : Int).toNat) ((x1 : Int).toNat)), (.slice (some b831) ((x1 : Int).toNat) ((x1 : Int).toNat)), (.slice (some b717) ((x1 : Int).toNat) ((x1 : Int).toNat)), (.slice none 0 0), (.slice none 0 0), (.slice none 0 0)]) 50 fun b835 w836 =>
 K (some b835) 0 w836)) ∧
 ((0 ≤ (x1 : Int) ∧ (x1 : Int) ≤ x1 ∧ ((24 : Nat) : Int) * x1 ≤ 281474976710656 ∧ (x1 : Int) ≤ 9223372036854775807) ∧
 AllocK w808 (madeCells (#[.slice none 0 0]) ((x1 : Int).toNat * 1)) 84 fun b837 w838 =>
 ((0 ≤ (x1 : Int) ∧ (x1 : Int) ≤ x1 ∧ ((8 : Nat) : Int) * x1 ≤ 281474976710656 ∧ (x1 : Int) ≤ 9223372036854775807) ∧
 AllocK w838 (madeCells (#[.int .i64 0]) ((x1 : Int).toNat * 1)) 3 fun b839 w840 =>
 (0 ≤ (x1 : Int) ∧ (x1 : Int) ≤ x1 ∧ ((24 : Nat) : Int) * x1 ≤ 281474976710656 ∧ (x1 : Int) ≤ 9223372036854775807) ∧
 AllocK w840 (madeCells (#[.slice none 0 0]) ((x1 : Int).toNat * 1)) 43 fun b841 w842 =>
 AllocK w842 (#[(.int .i64 x1), (.int .i64 x2), (.int .i64 x3), (.slice (some b839) ((x1 : Int).toNat) ((x1 : Int).toNat)), (.slice none 0 0), (.slice (some b841) ((x1 : Int).toNat) ((x1 : Int).toNat)), (.slice (some b807) ((x1 : Int).toNat) ((x1 : Int).toNat)), (.slice (some b837) ((x1 : Int).toNat) ((x1 : Int).toNat)), (.slice (some b717) ((x1 : Int).toNat) ((x1 : Int).toNat)), (.slice none 0 0), (.slice none 0 0), (.slice none 0 0)]) 50 fun b843 w844 =>
 K (some b843) 0 w844) ∧
 ((0 ≤ (x1 : Int) ∧ (x1 : Int) ≤ x1 ∧ ((24 : Nat) : Int) * x1 ≤ 281474976710656 ∧ (x1 : Int) ≤ 9223372036854775807) ∧
 AllocK w838 (madeCells (#[.slice none 0 0]) ((x1 : Int).toNat * 1)) 43 fun b845 w846 =>
 (0 ≤ (x1 : Int) ∧ (x1 : Int) ≤ x1 ∧ ((8 : Nat) : Int) * x1 ≤ 281474976710656 ∧ (x1 : Int) ≤ 9223372036854775807) ∧
 AllocK w846 (madeCells (#[.int .i64 0]) ((x1 : Int).toNat * 1)) 3 fun b847 w848 =>
 AllocK w848 (#[(.int .i64 x1), (.int .i64 x2), (.int .i64 x3), (.slice (some b847) ((x1 : Int).toNat) ((x1 : Int).toNat)), (.slice none 0 0), (.slice (some b845) ((x1 : Int).toNat) ((x1 : Int).toNat)), (.slice (some b807) ((x1 : Int).toNat) ((x1 : Int).toNat)), (.slice (some b837) ((x1 : Int).toNat) ((x1 : Int).toNat)), (.slice (some b717) ((x1 : Int).toNat) ((x1 : Int).toNat)), (.slice none 0 0), (.slice none 0 0), (.slice none 0 0)]) 50 fun b849 w850 =>
 K (some b849) 0 w850)))) ∧
 ((0 ≤ (x1 : Int) ∧ (x1 : Int) ≤ x1 ∧ ((24 : Nat) : Int) * x1 ≤ 281474976710656 ∧ (x1 : Int) ≤ 9223372036854775807) ∧
 AllocK w718 (madeCells (#[.slice none 0 0]) ((x1 : Int).toNat * 1)) 84 fun b851 w852 =>
 ((0 ≤ (x1 : Int) ∧ (x1 : Int) ≤ x1 ∧ ((8 : Nat) : Int) * x1 ≤ 281474976710656 ∧ (x1 : Int) ≤ 9223372036854775807) ∧
 AllocK w852 (madeCells (#[.int .i64 0]) ((x1 : Int).toNat * 1)) 3 fun b853 w854 =>
 ((0 ≤ (x1 : Int) ∧ (x1 : Int) ≤ x1 ∧ ((24 : Nat) : Int) * x1 ≤ 281474976710656 ∧ (x1 : Int) ≤ 9223372036854775807) ∧
 AllocK w854 (madeCells (#[.slice none 0 0]) ((x1 : Int).toNat * 1)) 43 fun b855 w856 =>
 (0 ≤ (x1 : Int) ∧ (x1 : Int) ≤ x1 ∧ ((24 : Nat) : Int) * x1 ≤ 281474976710656 ∧ (x1 : Int) ≤ 9223372036854775807) ∧
 AllocK w856 (madeCells (#[.slice none 0 0]) ((x1 : Int).toNat * 1)) 84 fun b857 w858 =>
 AllocK w858 (#[(.int .i64 x1), (.int .i64 x2), (.int .i64 x3), (.slice (some b853) ((x1 : Int).toNat) ((x1 : Int).toNat)), (.slice none 0 0), (.slice (some b855) ((x1 : Int).toNat) ((x1 : Int).toNat)), (.slice (some b857) ((x1 : Int).toNat) ((x1 : Int).toNat)), (.slice (some b851) ((x1 : Int).toNat) ((x1 : Int).toNat)), (.slice (some b717) ((x1 : Int).toNat) ((x1 : Int).toNat)), (.slice none 0 0), (.slice none 0 0), (.slice none 0 0)]) 50 fun b859 w860 =>
 K (some b859) 0 w860) ∧
 ((0 ≤ (x1 : Int) ∧ (x1 : Int) ≤ x1 ∧ ((24 : Nat) : Int) * x1 ≤ 281474976710656 ∧ (x1 : Int) ≤ 9223372036854775807) ∧
 AllocK w854 (madeCells (#[.slice none 0 0]) ((x1 : Int).toNat * 1)) 84 fun b861 w862 =>
 (0 ≤ (x1 : Int) ∧ (x1 : Int) ≤ x1 ∧ ((24 : Nat) : Int) * x1 ≤ 281474976710656 ∧ (x1 : Int) ≤ 9223372036854775807) ∧
 AllocK w862 (madeCells (#[.slice none 0 0]) ((x1 : Int).toNat * 1)) 43 fun b863 w864 =>
 AllocK w864 (#[(.int .i64 x1), (.int .i64 x2), (.int .i64 x3), (.slice (some b853) ((x1 : Int).toNat) ((x1 : Int).toNat)), (.slice none 0 0), (.slice (some b863) ((x1 : Int).toNat) ((x1 : Int).toNat)), (.slice (some b861) ((x1 : Int).toNat) ((x1 : Int).toNat)), (.slice (some b851) ((x1 : Int).toNat) ((x1 : Int).toNat)), (.slice (some b717) ((x1 : Int).toNat) ((x1 : Int).toNat)), (.slice none 0 0), (.slice none 0 0), (.slice none 0 0)]) 50 fun b865 w866 =>
 K (some b865) 0 w866)) ∧
 (((0 ≤ (x1 : Int) ∧ (x1 : Int) ≤ x1 ∧ ((24 : Nat) : Int) * x1 ≤ 281474976710656 ∧ (x1 : Int) ≤ 9223372036854775807) ∧
 AllocK w852 (madeCells (#[.slice none 0 0]) ((x1 : Int).toNat * 1)) 43 fun b867 w868 =>
 ((0 ≤ (x1 : Int) ∧ (x1 : Int) ≤ x1 ∧ ((8 : Nat) : Int) * x1 ≤ 281474976710656 ∧ (x1 : Int) ≤ 9223372036854775807) ∧
 AllocK w868 (madeCells (#[.int .i64 0]) ((x1 : Int).toNat * 1)) 3 fun b869 w870 =>
 (0 ≤ (x1 : Int) ∧ (x1 : Int) ≤ x1 ∧ ((24 : Nat) : Int) * x1 ≤ 281474976710656 ∧ (x1 : Int) ≤ 9223372036854775807) ∧
 AllocK w870 (madeCells (#[.slice none 0 0]) ((x1 : Int).toNat * 1)) 84 fun b871 w872 =>
 AllocK w872 (#[(.int .i64 x1), (.int .i64 x2), (.int .i64 x3), (.slice (some b869) ((x1 : Int).toNat) ((x1 : Int).toNat)), (.slice none 0 0), (.slice (some b867) ((x1 : Int).toNat) ((x1 : Int).toNat)), (.slice (some b871) ((x1 : Int).toNat) ((x1 : Int).toNat)), (.slice (some b851) ((x1 : Int).toNat) ((x1 : Int).toNat)), (.slice (some b717) ((x1 : Int).toNat) ((x1 : Int).toNat)), (.slice none 0 0), (.slice none 0 0), (.slice none 0 0)]) 50 fun b873 w874 =>
 K (some b873) 0 w874) ∧
 ((0 ≤ (x1 : Int) ∧ (x1 : Int) ≤ x1 ∧ ((24 : Nat) : Int) * x1 ≤ 281474976710656 ∧ (x1 : Int) ≤ 9223372036854775807) ∧
 AllocK w868 (madeCells (#[.slice none 0 0]) ((x1 : Int).toNat * 1)) 84 fun b875 w876 =>
 (0 ≤ (x1 : Int) ∧ (x1 : Int) ≤ x1 ∧ ((8 : Nat) : Int) * x1 ≤ 281474976710656 ∧ (x1 : Int) ≤ 9223372036854775807) ∧
 AllocK w876 (madeCells (#[.int .i64 0]) ((x1 : Int).toNat * 1)) 3 fun b877 w878 =>
 AllocK w878 (#[(.int .i64 x1), (.int .i64 x2), (.int .i64 x3), (.slice (some b877) ((x1 : Int).toNat) ((x1 : Int).toNat)), (.slice none 0 0), (.slice (some b867) ((x1 : Int).toNat) ((x1 : Int).toNat)), (.slice (some b875) ((x1 : Int).toNat) ((x1 : Int).toNat)), (.slice (some b851) ((x1 : Int).toNat) ((x1 : Int).toNat)), (.slice (some b717) ((x1 : Int).toNat) ((x1 : Int).toNat)), (.slice none 0 0), (.slice none 0 0), (.slice none 0 0)]) 50 fun b879 w880 =>
 K (some b879) 0 w880)) ∧
 ((0 ≤ (x1 : Int) ∧ (x1 : Int) ≤ x1 ∧ ((24 : Nat) : Int) * x1 ≤ 281474976710656 ∧ (x1 : Int) ≤ 9223372036854775807) ∧
 AllocK w852 (madeCells (#[.slice none 0 0]) ((x1 : Int).toNat * 1)) 84 fun b881 w882 =>
 ((0 ≤ (x1 : Int) ∧ (x1 : Int) ≤ x1 ∧ ((8 : Nat) : Int) * x1 ≤ 281474976710656 ∧ (x1 : Int) ≤ 9223372036854775807) ∧
 AllocK w882 (madeCells (#[.int .i64 0]) ((x1 : Int).toNat * 1)) 3 fun b883 w884 =>
 (0 ≤ (x1 : Int) ∧ (x1 : Int) ≤ x1 ∧ ((24 : Nat) : Int) * x1 ≤ 281474976710656 ∧ (x1 : Int) ≤ 9223372036854775807) ∧
 AllocK w884 (madeCells (#[.slice none 0 0]) ((x1 : Int).toNat * 1)) 43 fun b885 w886 =>
 AllocK w886 (#[(.int .i64 x1), (.int .i64 x2), (.int .i64 x3), (.slice (some b883) ((x1 : Int).toNat) ((x1 : Int).toNat)), (.slice none 0 0), (.slice (some b885) ((x1 : Int).toNat) ((x1 : Int).toNat)), (.slice (some b881) ((x1 : Int).toNat) ((x1 : Int).toNat)), (.slice (some b851) ((x1 : Int).toNat) ((x1 : Int).toNat)), (.slice (some b717) ((x1 : Int).toNat) ((x1 : Int).toNat)), (.slice none 0 0), (.slice none 0 0), (.slice none 0 0)]) 50 fun b887 w888 =>
 K (some b887) 0 w888) ∧
 ((0 ≤ (x1 : Int) ∧ (x1 : Int) ≤ x1 ∧ ((24 : Nat) : Int) * x1 ≤ 281474976710656 ∧ (x1 : Int) ≤ 9223372036854775807) ∧
 AllocK w882 (madeCells (#[.slice none 0 0]) ((x1 : Int).toNat * 1)) 43 fun b889 w890 =>
 (0 ≤ (x1 : Int) ∧ (x1 : Int) ≤ x1 ∧ ((8 : Nat) : Int) * x1 ≤ 281474976710656 ∧ (x1 : Int) ≤ 9223372036854775807) ∧
 AllocK w890 (madeCells (#[.int .i64 0]) ((x1 : Int).toNat * 1)) 3 fun b891 w892 =>
 AllocK w892 (#[(.int .i64 x1), (.int .i64 x2), (.int .i64 x3), (.slice (some b891) ((x1 : Int).toNat) ((x1 : Int).toNat)), (.slice none 0 0), (.slice (some b889) ((x1 : Int).toNat) ((x1 : Int).toNat)), (.slice (some b881) ((x1 : Int).toNat) ((x1 : Int).toNat)), (.slice (some b851) ((x1 : Int).toNat) ((x1 : Int).toNat)), (.slice (some b717) ((x1 : Int).toNat) ((x1 : Int).toNat)), (.slice none 0 0), (.slice none 0 0), (.slice none 0 0)]) 50 fun b893 w894 =>
 K (some b893) 0 w894))))))))))))))))
def ann7 : Ann := (.two .nil (.two (.two .nil (.two (.two .nil .nil) .nil)) (.two (.anyC 17 (.take 0 (.take 1 (.take 2 (.take 3 (.take 5 (.take 7 (.take 9 (.take 11 (.both 4 (.both 6 (.both 8 (.both 10 (.one 12 (.take 13 (.one 14 (.take 15 (.take 16 .done))))) (.one 12 (.one 10 (.take 13 (.one 14 (.take 15 (.take 16 .done))))))) (.both 10 (.both 8 (.one 12 (.take 13 (.one 14 (.take 15 (.take 16 .done))))) (.one 12 (.one 8 (.take 13 (.one 14 (.take 15 (.take 16 .done))))))) (.one 12 (.both 8 (.one 10 (.take 13 (.one 14 (.take 15 (.take 16 .done))))) (.one 10 (.one 8 (.take 13 (.one 14 (.take 15 (.take 16 .done)))))))))) (.both 8 (.both 6 (.both 10 (.one 12 (.take 13 (.one 14 (.take 15 (.take 16 .done))))) (.one 12 (.one 10 (.take 13 (.one 14 (.take 15 (.take 16 .done))))))) (.both 10 (.both 6 (.one 12 (.take 13 (.one 14 (.take 15 (.take 16 .done))))) (.one 12 (.one 6 (.take 13 (.one 14 (.take 15 (.take 16 .done))))))) (.one 12 (.both 6 (.one 10 (.take 13 (.one 14 (.take 15 (.take 16 .done))))) (.one 10 (.one 6 (.take 13 (.one 14 (.take 15 (.take 16 .done)))))))))) (.both 10 (.both 6 (.both 8 (.one 12 (.take 13 (.one 14 (.take 15 (.take 16 .done))))) (.one 12 (.one 8 (.take 13 (.one 14 (.take 15 (.take 16 .done))))))) (.both 8 (.both 6 (.one 12 (.take 13 (.one 14 (.take 15 (.take 16 .done))))) (.one 12 (.one 6 (.take 13 (.one 14 (.take 15 (.take 16 .done))))))) (.one 12 (.both 6 (.one 8 (.take 13 (.one 14 (.take 15 (.take 16 .done))))) (.one 8 (.one 6 (.take 13 (.one 14 (.take 15 (.take 16 .done)))))))))) (.one 12 (.both 6 (.both 8 (.one 10 (.take 13 (.one 14 (.take 15 (.take 16 .done))))) (.one 10 (.one 8 (.take 13 (.one 14 (.take 15 (.take 16 .done))))))) (.both 8 (.both 6 (.one 10 (.take 13 (.one 14 (.take 15 (.take 16 .done))))) (.one 10 (.one 6 (.take 13 (.one 14 (.take 15 (.take 16 .done))))))) (.one 10 (.both 6 (.one 8 (.take 13 (.one 14 (.take 15 (.take 16 .done))))) (.one 8 (.one 6 (.take 13 (.one 14 (.take 15 (.take 16 .done)))))))))))))) (.both 6 (.both 4 (.both 8 (.both 10 (.one 12 (.take 13 (.one 14 (.take 15 (.take 16 .done))))) (.one 12 (.one 10 (.take 13 (.one 14 (.take 15 (.take 16 .done))))))) (.both 10 (.both 8 (.one 12 (.take 13 (.one 14 (.take 15 (.take 16 .done))))) (.one 12 (.one 8 (.take 13 (.one 14 (.take 15 (.take 16 .done))))))) (.one 12 (.both 8 (.one 10 (.take 13 (.one 14 (.take 15 (.take 16 .done))))) (.one 10 (.one 8 (.take 13 (.one 14 (.take 15 (.take 16 .done)))))))))) (.both 8 (.both 4 (.both 10 (.one 12 (.take 13 (.one 14 (.take 15 (.take 16 .done))))) (.one 12 (.one 10 (.take 13 (.one 14 (.take 15 (.take 16 .done))))))) (.both 10 (.both 4 (.one 12 (.take 13 (.one 14 (.take 15 (.take 16 .done))))) (.one 12 (.one 4 (.take 13 (.one 14 (.take 15 (.take 16 .done))))))) (.one 12 (.both 4 (.one 10 (.take 13 (.one 14 (.take 15 (.take 16 .done))))) (.one 10 (.one 4 (.take 13 (.one 14 (.take 15 (.take 16 .done)))))))))) (.both 10 (.both 4 (.both 8 (.one 12 (.take 13 (.one 14 (.take 15 (.take 16 .done))))) (.one 12 (.one 8 (.take 13 (.one 14 (.take 15 (.take 16 .done))))))) (.both 8 (.both 4 (.one 12 (.take 13 (.one 14 (.take 15 (.take 16 .done))))) (.one 12 (.one 4 (.take 13 (.one 14 (.take 15 (.take 16 .done))))))) (.one 12 (.both 4 (.one 8 (.take 13 (.one 14 (.take 15 (.take 16 .done))))) (.one 8 (.one 4 (.take 13 (.one 14 (.take 15 (.take 16 .done)))))))))) (.one 12 (.both 4 (.both 8 (.one 10 (.take 13 (.one 14 (.take 15 (.take 16 .done))))) (.one 10 (.one 8 (.take 13 (.one 14 (.take 15 (.take 16 .done))))))) (.both 8 (.both 4 (.one 10 (.take 13 (.one 14 (.take 15 (.take 16 .done))))) (.one 10 (.one 4 (.take 13 (.one 14 (.take 15 (.take 16 .done))))))) (.one 10 (.both 4 (.one 8 (.take 13 (.one 14 (.take 15 (.take 16 .done))))) (.one 8 (.one 4 (.take 13 (.one 14 (.take 15 (.take 16 .done)))))))))))))) (.both 8 (.both 4 (.both 6 (.both 10 (.one 12 (.take 13 (.one 14 (.take 15 (.take 16 .done))))) (.one 12 (.one 10 (.take 13 (.one 14 (.take 15 (.take 16 .done))))))) (.both 10 (.both 6 (.one 12 (.take 13 (.one 14 (.take 15 (.take 16 .done))))) (.one 12 (.one 6 (.take 13 (.one 14 (.take 15 (.take 16 .done))))))) (.one 12 (.both 6 (.one 10 (.take 13 (.one 14 (.take 15 (.take 16 .done))))) (.one 10 (.one 6 (.take 13 (.one 14 (.take 15 (.take 16 .done)))))))))) (.both 6 (.both 4 (.both 10 (.one 12 (.take 13 (.one 14 (.take 15 (.take 16 .done))))) (.one 12 (.one 10 (.take 13 (.one 14 (.take 15 (.take 16 .done))))))) (.both 10 (.both 4 (.one 12 (.take 13 (.one 14 (.take 15 (.take 16 .done))))) (.one 12 (.one 4 (.take 13 (.one 14 (.take 15 (.take 16 .done))))))) (.one 12 (.both 4 (.one 10 (.take 13 (.one 14 (.take 15 (.take 16 .done))))) (.one 10 (.one 4 (.take 13 (.one 14 (.take 15 (.take 16 .done)))))))))) (.both 10 (.both 4 (.both 6 (.one 12 (.take 13 (.one 14 (.take 15 (.take 16 .done))))) (.one 12 (.one 6 (.take 13 (.one 14 (.take 15 (.take 16 .done))))))) (.both 6 (.both 4 (.one 12 (.take 13 (.one 14 (.take 15 (.take 16 .done))))) (.one 12 (.one 4 (.take 13 (.one 14 (.take 15 (.take 16 .done))))))) (.one 12 (.both 4 (.one 6 (.take 13 (.one 14 (.take 15 (.take 16 .done))))) (.one 6 (.one 4 (.take 13 (.one 14 (.take 15 (.take 16 .done)))))))))) (.one 12 (.both 4 (.both 6 (.one 10 (.take 13 (.one 14 (.take 15 (.take 16 .done))))) (.one 10 (.one 6 (.take 13 (.one 14 (.take 15 (.take 16 .done))))))) (.both 6 (.both 4 (.one 10 (.take 13 (.one 14 (.take 15 (.take 16 .done))))) (.one 10 (.one 4 (.take 13 (.one 14 (.take 15 (.take 16 .done))))))) (.one 10 (.both 4 (.one 6 (.take 13 (.one 14 (.take 15 (.take 16 .done))))) (.one 6 (.one 4 (.take 13 (.one 14 (.take 15 (.take 16 .done)))))))))))))) (.both 10 (.both 4 (.both 6 (.both 8 (.one 12 (.take 13 (.one 14 (.take 15 (.take 16 .done))))) (.one 12 (.one 8 (.take 13 (.one 14 (.take 15 (.take 16 .done))))))) (.both 8 (.both 6 (.one 12 (.take 13 (.one 14 (.take 15 (.take 16 .done))))) (.one 12 (.one 6 (.take 13 (.one 14 (.take 15 (.take 16 .done))))))) (.one 12 (.both 6 (.one 8 (.take 13 (.one 14 (.take 15 (.take 16 .done))))) (.one 8 (.one 6 (.take 13 (.one 14 (.take 15 (.take 16 .done)))))))))) (.both 6 (.both 4 (.both 8 (.one 12 (.take 13 (.one 14 (.take 15 (.take 16 .done))))) (.one 12 (.one 8 (.take 13 (.one 14 (.take 15 (.take 16 .done))))))) (.both 8 (.both 4 (.one 12 (.take 13 (.one 14 (.take 15 (.take 16 .done))))) (.one 12 (.one 4 (.take 13 (.one 14 (.take 15 (.take 16 .done))))))) (.one 12 (.both 4 (.one 8 (.take 13 (.one 14 (.take 15 (.take 16 .done))))) (.one 8 (.one 4 (.take 13 (.one 14 (.take 15 (.take 16 .done)))))))))) (.both 8 (.both 4 (.both 6 (.one 12 (.take 13 (.one 14 (.take 15 (.take 16 .done))))) (.one 12 (.one 6 (.take 13 (.one 14 (.take 15 (.take 16 .done))))))) (.both 6 (.both 4 (.one 12 (.take 13 (.one 14 (.take 15 (.take 16 .done))))) (.one 12 (.one 4 (.take 13 (.one 14 (.take 15 (.take 16 .done))))))) (.one 12 (.both 4 (.one 6 (.take 13 (.one 14 (.take 15 (.take 16 .done))))) (.one 6 (.one 4 (.take 13 (.one 14 (.take 15 (.take 16 .done)))))))))) (.one 12 (.both 4 (.both 6 (.one 8 (.take 13 (.one 14 (.take 15 (.take 16 .done))))) (.one 8 (.one 6 (.take 13 (.one 14 (.take 15 (.take 16 .done))))))) (.both 6 (.both 4 (.one 8 (.take 13 (.one 14 (.take 15 (.take 16 .done))))) (.one 8 (.one 4 (.take 13 (.one 14 (.take 15 (.take 16 .done))))))) (.one 8 (.both 4 (.one 6 (.take 13 (.one 14 (.take 15 (.take 16 .done))))) (.one 6 (.one 4 (.take 13 (.one 14 (.take 15 (.take 16 .done)))))))))))))) (.one 12 (.both 4 (.both 6 (.both 8 (.one 10 (.take 13 (.one 14 (.take 15 (.take 16 .done))))) (.one 10 (.one 8 (.take 13 (.one 14 (.take 15 (.take 16 .done))))))) (.both 8 (.both 6 (.one 10 (.take 13 (.one 14 (.take 15 (.take 16 .done))))) (.one 10 (.one 6 (.take 13 (.one 14 (.take 15 (.take 16 .done))))))) (.one 10 (.both 6 (.one 8 (.take 13 (.one 14 (.take 15 (.take 16 .done))))) (.one 8 (.one 6 (.take 13 (.one 14 (.take 15 (.take 16 .done)))))))))) (.both 6 (.both 4 (.both 8 (.one 10 (.take 13 (.one 14 (.take 15 (.take 16 .done))))) (.one 10 (.one 8 (.take 13 (.one 14 (.take 15 (.take 16 .done))))))) (.both 8 (.both 4 (.one 10 (.take 13 (.one 14 (.take 15 (.take 16 .done))))) (.one 10 (.one 4 (.take 13 (.one 14 (.take 15 (.take 16 .done))))))) (.one 10 (.both 4 (.one 8 (.take 13 (.one 14 (.take 15 (.take 16 .done))))) (.one 8 (.one 4 (.take 13 (.one 14 (.take 15 (.take 16 .done)))))))))) (.both 8 (.both 4 (.both 6 (.one 10 (.take 13 (.one 14 (.take 15 (.take 16 .done))))) (.one 10 (.one 6 (.take 13 (.one 14 (.take 15 (.take 16 .done))))))) (.both 6 (.both 4 (.one 10 (.take 13 (.one 14 (.take 15 (.take 16 .done))))) (.one 10 (.one 4 (.take 13 (.one 14 (.take 15 (.take 16 .done))))))) (.one 10 (.both 4 (.one 6 (.take 13 (.one 14 (.take 15 (.take 16 .done))))) (.one 6 (.one 4 (.take 13 (.one 14 (.take 15 (.take 16 .done)))))))))) (.one 10 (.both 4 (.both 6 (.one 8 (.take 13 (.one 14 (.take 15 (.take 16 .done))))) (.one 8 (.one 6 (.take 13 (.one 14 (.take 15 (.take 16 .done))))))) (.both 6 (.both 4 (.one 8 (.take 13 (.one 14 (.take 15 (.take 16 .done))))) (.one 8 (.one 4 (.take 13 (.one 14 (.take 15 (.take 16 .done))))))) (.one 8 (.both 4 (.one 6 (.take 13 (.one 14 (.take 15 (.take 16 .done))))) (.one 6 (.one 4 (.take 13 (.one 14 (.take 15 (.take 16 .done)))))))))))))))))))))))))))) .nil)))
noncomputable def code7 : Code := match Tryz.f7.body with | some c => c | none => .skip
theorem wp7 (x1 : Int) (x2 : Int) (x3 : Int) (K : Option Addr → Int → World → Prop) (w : World) : WP Tryz.prog tab code7 ann7 (fnQ tab Tryz.f7.results.toList [(.one .ptr), (.one (.int .i64))] K) (argE 0 [(.int .i64 x1), (.int .i64 x2), (.int .i64 x3)]) w = N7 x1 x2 x3 K w := by kernel_rfl
theorem calls7 (x1 : Int) (x2 : Int) (x3 : Int) (K : Option Addr → Int → World → Prop) (w : World) (h : N7 x1 x2 x3 K w) : Calls Tryz.prog 7 #[(.int .i64 x1), (.int .i64 x2), (.int .i64 x3)] w fun en w' => ∃ (o895 : Option Addr), ∃ (x896 : Int), en = .returned (.tuple #[(.pointer o895), (.int .i64 x896)]) ∧ K o895 x896 w' :=
 have e : (fun en w' => ExShs [(.one .ptr), (.one (.int .i64))] fun vs => en = .returned (tupled vs) ∧ ap [(.one .ptr), (.one (.int .i64))] K vs fun p => p w') = (fun (en : Ending) (w' : World) => ∃ (o895 : Option Addr), ∃ (x896 : Int), en = .returned (.tuple #[(.pointer o895), (.int .i64 x896)]) ∧ K o895 x896 w') := by kernel_rfl
 e ▸ fn_sound tabOk mixed Tryz.func7 (by kernel_rfl : Tryz.f7.body = some code7) ann7 [(.int .i64 x1), (.int .i64 x2), (.int .i64 x3)] [(.one .ptr), (.one (.int .i64))] K w (by kernel_rfl) ((wp7 x1 x2 x3 K w).symm ▸ h)
end Go.Proofs.YtgggbmikmmljcaaGreat

namespace Go.Proofs.YtgggbmikmmljcaaGreat
open Go Go.V Go.Proofs
open Go.RowKit (Below)
section
variable {w w' w2 w0 : World}
structure NwS (w0 : World) (L : List (Nat × Array Value × Nat)) (w : World) : Prop where
  ext : Ext w0 w
  blks : ∀ x ∈ L, Blk w x.1 x.2.1 x.2.2 ∧ w0.heap.size ≤ x.1
theorem NwS.step {L : List (Nat × Array Value × Nat)} (h : NwS w0 L w) {cs : Array Value} {te : Nat} {F : Addr → World → Prop} (f : ∀ b w', NwS w0 ((b, cs, te) :: L) w' → (∀ x ∈ L, x.1 < b) → F ⟨b, 0, none⟩ w') : AllocK w cs te F :=
  AllocK.mk fun b w' hb hB hx => f b w' ⟨h.ext.trans hx, fun x hx2 => by
    rcases List.mem_cons.1 hx2 with rfl | hx2
    · exact ⟨hB, by have := h.ext.size; show _ ≤ b; omega⟩
    · exact ⟨(h.blks x hx2).1.ext hx, (h.blks x hx2).2⟩⟩ fun x hx2 => by have := (h.blks x hx2).1.lt; omega
def N0 (s : Nat) : Prm := ⟨s, 0, 0, 0, 0, 0⟩
def κ0 (s bs bc bw ba bm bl : Nat) : Ka RK := fun b => if b = bs then some (.st, 12, 12) else if b = bc then some (.clk, s, s) else if b = bw then some (.tabI, s, s) else if b = ba ∨ b = bm ∨ b = bl then some (.tabB, s, s) else none
def cI (s : Nat) : Array Value := madeCells #[.int .i64 0] (s * 1)
def cS (s : Nat) : Array Value := madeCells #[.slice none 0 0] (s * 1)
theorem cI_get {s i : Nat} {v : Value} (h : (cI s)[i]? = some v) : v = .int .i64 0 := by
  rw [← Array.getElem?_toList, cI, Nat.mul_one, toList_madeCells_one, List.getElem?_replicate] at h
  split at h <;> cases h; rfl
theorem cS_get {s i : Nat} {v : Value} (h : (cS s)[i]? = some v) : v = .slice none 0 0 := by
  rw [← Array.getElem?_toList, cS, Nat.mul_one, toList_madeCells_one, List.getElem?_replicate] at h
  split at h <;> cases h; rfl
theorem cI_size (s : Nat) : (cI s).size = s := by
  have := congrArg List.length (toList_madeCells_one (.int .i64 0) s); simpa [cI] using this
theorem cS_size (s : Nat) : (cS s).size = s := by
  have := congrArg List.length (toList_madeCells_one (.slice none 0 0) s); simpa [cS] using this
theorem cS_eq (s : Nat) : ((List.replicate s ((none, 0, 0) : SL)).map slv).toArray = cS s := by
  apply Array.ext'
  rw [cS, Nat.mul_one, toList_madeCells_one]; simp [slv]
theorem NwS.leaf {L : List (Nat × Array Value × Nat)} {x y z : Int} (hx : 1 ≤ x ∧ x ≤ 5) (h : NwS w0 L w) {bc bw ba bm bl : Nat} (mc : (bc, cI x.toNat, 3) ∈ L) (mw : (bw, cS x.toNat, 43) ∈ L) (ma : (ba, cS x.toNat, 84) ∈ L) (mm : (bm, cS x.toNat, 84) ∈ L) (ml : (bl, cS x.toNat, 84) ∈ L)
    (n1 : ba ≠ bm) (n2 : ba ≠ bl) (n3 : bm ≠ bl) {ts : Nat} (hts : ts = 50) :
    AllocK w #[.int .i64 x, .int .i64 y, .int .i64 z, .slice (some ⟨bc, 0, none⟩) x.toNat x.toNat, .slice none 0 0, .slice (some ⟨bw, 0, none⟩) x.toNat x.toNat, .slice (some ⟨ba, 0, none⟩) x.toNat x.toNat, .slice (some ⟨bm, 0, none⟩) x.toNat x.toNat, .slice (some ⟨bl, 0, none⟩) x.toNat x.toNat, .slice none 0 0, .slice none 0 0, .slice none 0 0] ts
      fun b w' => ∃ κ r, some b = some (⟨r.b, 0, none⟩ : Addr) ∧ RR κ (N0 x.toNat) r w' ∧ FrM (fun _ => none) κ w0 w' := by
  subst hts
  refine AllocK.mk fun b w' hb hB hx2 => ?_
  obtain ⟨Bc, sc⟩ := h.blks _ mc
  obtain ⟨Bw, sw⟩ := h.blks _ mw
  obtain ⟨Ba, sa⟩ := h.blks _ ma
  obtain ⟨Bm, sm⟩ := h.blks _ mm
  obtain ⟨Bl, sl⟩ := h.blks _ ml
  dsimp only at Bc Bw Ba Bm Bl sc sw sa sm sl
  have lc := Bc.lt; have lw := Bw.lt; have la := Ba.lt; have lm := Bm.lt; have ll := Bl.lt
  have ty : ∀ {b1 b2 : Nat} {c1 c2 : Array Value} {t1 t2 : Nat}, Blk w b1 c1 t1 → Blk w b2 c2 t2 → t1 ≠ t2 → b1 ≠ b2 := fun h1 h2 hne e => by
    subst e
    have := Option.some.inj (h1.symm.trans h2)
    cases this; exact hne rfl
  have cw : bc ≠ bw := ty Bc Bw (by decide)
  have ca : bc ≠ ba := ty Bc Ba (by decide)
  have cm : bc ≠ bm := ty Bc Bm (by decide)
  have cl : bc ≠ bl := ty Bc Bl (by decide)
  have wa : bw ≠ ba := ty Bw Ba (by decide)
  have wm : bw ≠ bm := ty Bw Bm (by decide)
  have wl : bw ≠ bl := ty Bw Bl (by decide)
  have hs0 : ((x.toNat : Nat) : Int) = x := Int.toNat_of_nonneg (by omega)
  generalize hsx : x.toNat = s at *
  let κ := κ0 s b bc bw ba bm bl
  have ks : κ b = some (.st, 12, 12) := by simp [κ, κ0]
  have kc : κ bc = some (.clk, s, s) := by show κ0 _ _ _ _ _ _ _ _ = _; unfold κ0; rw [if_neg (by omega), if_pos rfl]
  have kw : κ bw = some (.tabI, s, s) := by show κ0 _ _ _ _ _ _ _ _ = _; unfold κ0; rw [if_neg (by omega), if_neg (by omega), if_pos rfl]
  have kt : ∀ g, g = ba ∨ g = bm ∨ g = bl → κ g = some (.tabB, s, s) := fun g hg => by
    show κ0 _ _ _ _ _ _ _ _ = _; unfold κ0; rw [if_neg (by omega), if_neg (by omega), if_neg (by omega), if_pos hg]
  have kn : ∀ g k n u, κ g = some (k, n, u) → (g = b ∧ k = .st ∧ n = 12 ∧ u = 12) ∨ (g = bc ∧ k = .clk ∧ n = s ∧ u = s) ∨ (g = bw ∧ k = .tabI ∧ n = s ∧ u = s) ∨ ((g = ba ∨ g = bm ∨ g = bl) ∧ k = .tabB ∧ n = s ∧ u = s) := fun g k n u e => by
    have e : κ0 s b bc bw ba bm bl g = _ := e
    unfold κ0 at e
    split at e
    · cases e; exact .inl ⟨by assumption, rfl, rfl, rfl⟩
    · split at e
      · cases e; exact .inr (.inl ⟨by assumption, rfl, rfl, rfl⟩)
      · split at e
        · cases e; exact .inr (.inr (.inl ⟨by assumption, rfl, rfl, rfl⟩))
        · split at e
          · cases e; exact .inr (.inr (.inr ⟨by assumption, rfl, rfl, rfl⟩))
          · cases e
  refine ⟨κ, ⟨b, bw, ba, bm, bl⟩, rfl, ?_, ?_⟩
  · have tabs : ∀ {g : Nat}, (g = ba ∨ g = bm ∨ g = bl) → Blk w g (cS s) 84 → TabR κ (N0 s) .tabB .bools g w' := fun hg hb => ⟨kt _ hg, List.replicate s (none, 0, 0), by simp [N0], by rw [cS_eq]; exact hb.ext hx2, fun y hy => by
      rw [List.eq_of_mem_replicate hy]; exact ⟨Sl.nil _ _ _, Nat.zero_le _, Nat.zero_le _⟩⟩
    refine ⟨fun g k n u e => ?_, ks, ⟨kw, List.replicate s (none, 0, 0), by simp [N0], by rw [cS_eq]; exact Bw.ext hx2, fun y hy => by rw [List.eq_of_mem_replicate hy]; exact ⟨Sl.nil _ _ _, Nat.zero_le _, Nat.zero_le _⟩⟩, tabs (.inl rfl) Ba, tabs (.inr (.inl rfl)) Bm, tabs (.inr (.inr rfl)) Bl, ⟨n1, n2, n3⟩, ⟨by show 1 ≤ s; omega, by show s ≤ 5; omega⟩, ⟨Nat.zero_le _, Nat.zero_le _, Nat.zero_le _, Nat.zero_le _, Nat.zero_le _⟩⟩
    rcases kn g k n u e with ⟨rfl, rfl, rfl, rfl⟩ | ⟨rfl, rfl, rfl, rfl⟩ | ⟨rfl, rfl, rfl, rfl⟩ | ⟨hg, rfl, rfl, rfl⟩
    · refine ⟨_, hB, rfl, Nat.le_refl _, fun i v hi hv => ?_⟩
      rw [show i % Kr.sz .st = i from Nat.mod_eq_of_lt hi]
      match i with
      | 0 =>
        have hv : v = .int .i64 x := (Option.some.inj hv).symm
        subst hv
        show Value.int .i64 x = Value.int .i64 ((s : Nat) : Int)
        rw [hs0]
      | 1 => cases hv; exact ⟨_, rfl⟩
      | 2 => cases hv; exact ⟨_, rfl⟩
      | 3 => cases hv; exact ⟨_, _, rfl, .inr ⟨bc, 0, s, s, by simp, kc, Nat.le_refl _, by show (0 + s) * 1 ≤ s; omega, by show (0 + s) * 1 ≤ s; omega⟩⟩
      | 4 => cases hv; exact ⟨none, 0, rfl, Sl.nil _ _ _⟩
      | 5 => cases hv; rfl
      | 6 => cases hv; rfl
      | 7 => cases hv; rfl
      | 8 => cases hv; rfl
      | 9 => cases hv; exact ⟨_, _, _, rfl, Sl.nil _ _ _, Nat.le_refl _⟩
      | 10 => cases hv; exact ⟨_, _, _, rfl, Sl.nil _ _ _, Nat.le_refl _⟩
      | 11 => cases hv; exact ⟨_, _, _, rfl, Sl.nil _ _ _, Nat.le_refl _⟩
      | i + 12 => omega
    · exact ⟨_, Bc.ext hx2, cI_size _, Nat.le_refl _, fun i v hi hv => ⟨0, cI_get hv⟩⟩
    · exact ⟨_, Bw.ext hx2, cS_size _, Nat.le_refl _, fun i v hi hv => ⟨none, 0, 0, cS_get hv⟩⟩
    · refine ⟨cS _, ?_, cS_size _, Nat.le_refl _, fun i v hi hv => ⟨none, 0, 0, cS_get hv⟩⟩
      rcases hg with rfl | rfl | rfl
      · exact Ba.ext hx2
      · exact Bm.ext hx2
      · exact Bl.ext hx2
  · have hx3 := h.ext.trans hx2
    refine ⟨hx3.os, hx3.tape, hx3.output, hx3.size, fun g hg _ => hx3.block g hg, fun g hg _ => ?_⟩
    have := h.ext.size
    show κ0 _ _ _ _ _ _ _ _ = _
    unfold κ0; rw [if_neg (by omega), if_neg (by omega), if_neg (by omega), if_neg (by omega)]
set_option maxRecDepth 100000 in
set_option maxHeartbeats 4000000 in
theorem c7 (x y z : Int) : Calls Tryz.prog 7 #[.int .i64 x, .int .i64 y, .int .i64 z] w fun en w' => ∃ o e, en = .returned (.tuple #[.pointer o, .int .i64 e]) ∧
    ((¬ argsOk x y z ∧ o = none ∧ e = 2 ∧ w' = w) ∨ (argsOk x y z ∧ e = 0 ∧ ∃ κ r, o = some ⟨r.b, 0, none⟩ ∧ RR κ (N0 x.toNat) r w' ∧ FrM (fun _ => none) κ w w')) := by
  refine calls7 _ _ _ _ w ?_
  have bad : ¬ argsOk x y z → ((¬ argsOk x y z ∧ (none : Option Addr) = none ∧ (2 : Int) = 2 ∧ w = w) ∨ (argsOk x y z ∧ (2 : Int) = 0 ∧ ∃ κ r, (none : Option Addr) = some ⟨r.b, 0, none⟩ ∧ RR κ (N0 x.toNat) r w ∧ FrM (fun _ => none) κ w w)) := fun h => .inl ⟨h, rfl, rfl, rfl⟩
  refine BoolK.mk (fun t => bad fun k => by have := of_decide_eq_true t; have := k.1; omega) (fun t1 => ?_)
  refine BoolK.mk (fun t => bad fun k => by have := of_decide_eq_true t; have := k.2.1; omega) (fun t2 => ?_)
  refine BoolK.mk (fun t => bad fun k => by have := of_decide_eq_true t; have := k.2.2.1; omega) (fun t3 => ?_)
  refine BoolK.mk (fun t => bad fun k => by have := of_decide_eq_true t; have := k.2.2.2.1; omega) (fun t4 => ?_)
  refine BoolK.mk (fun t => bad fun k => by have := of_decide_eq_true t; have := k.2.2.2.2.1; omega) (fun t5 => ?_)
  refine BoolK.mk (fun t => bad fun k => by have := of_decide_eq_true t; have := k.2.2.2.2.2; omega) (fun t6 => ?_)
  have t1 := of_decide_eq_false t1; have t2 := of_decide_eq_false t2; have t3 := of_decide_eq_false t3; have t4 := of_decide_eq_false t4; have t5 := of_decide_eq_false t5; have t6 := of_decide_eq_false t6
  have ha : argsOk x y z := ⟨by omega, by omega, by omega, by omega, by omega, by omega⟩
  have hx : 1 ≤ x ∧ x ≤ 5 := ⟨by omega, by omega⟩
  refine DrewK.mk fun w4 hx4 => ?_
  have H : NwS w [] w4 := ⟨hx4, fun x h => (by cases h)⟩
  have fin : ∀ {b : Addr} {w' : World}, (∃ κ r, some b = some (⟨r.b, 0, none⟩ : Addr) ∧ RR κ (N0 x.toNat) r w' ∧ FrM (fun _ => none) κ w w') → ((¬ argsOk x y z ∧ some b = none ∧ (0 : Int) = 2 ∧ w' = w) ∨ (argsOk x y z ∧ (0 : Int) = 0 ∧ ∃ κ r, some b = some ⟨r.b, 0, none⟩ ∧ RR κ (N0 x.toNat) r w' ∧ FrM (fun _ => none) κ w w')) := fun h => .inr ⟨ha, rfl, h⟩
  have i1 : 0 ≤ x ∧ x ≤ x ∧ ((8 : Nat) : Int) * x ≤ 281474976710656 ∧ x ≤ 9223372036854775807 := ⟨by omega, by omega, by omega, by omega⟩
  have i2 : 0 ≤ x ∧ x ≤ x ∧ ((24 : Nat) : Int) * x ≤ 281474976710656 ∧ x ≤ 9223372036854775807 := ⟨by omega, by omega, by omega, by omega⟩
  have leaf : ∀ {L : List (Nat × Array Value × Nat)} {w2 : World} {bc bw ba bm bl : Nat}, NwS w L w2 → (bc, cI x.toNat, 3) ∈ L → (bw, cS x.toNat, 43) ∈ L → (ba, cS x.toNat, 84) ∈ L → (bm, cS x.toNat, 84) ∈ L → (bl, cS x.toNat, 84) ∈ L → ba ≠ bm → ba ≠ bl → bm ≠ bl →
      AllocK w2 #[.int .i64 x, .int .i64 y, .int .i64 z, .slice (some ⟨bc, 0, none⟩) x.toNat x.toNat, .slice none 0 0, .slice (some ⟨bw, 0, none⟩) x.toNat x.toNat, .slice (some ⟨ba, 0, none⟩) x.toNat x.toNat, .slice (some ⟨bm, 0, none⟩) x.toNat x.toNat, .slice (some ⟨bl, 0, none⟩) x.toNat x.toNat, .slice none 0 0, .slice none 0 0, .slice none 0 0] 50
        fun b w' => ((¬ argsOk x y z ∧ some b = none ∧ (0 : Int) = 2 ∧ w' = w) ∨ (argsOk x y z ∧ (0 : Int) = 0 ∧ ∃ κ r, some b = some ⟨r.b, 0, none⟩ ∧ RR κ (N0 x.toNat) r w' ∧ FrM (fun _ => none) κ w w')) := fun h m1 m2 m3 m4 m5 n1 n2 n3 => by
    have key := NwS.leaf (y := y) (z := z) hx h m1 m2 m3 m4 m5 n1 n2 n3 rfl
    exact fin key
  clear t1 t2 t3 t4 t5 t6 bad fin hx4
  repeat' (first
    | exact i1
    | exact i2
    | (refine leaf ‹NwS _ _ _› (by simp only [List.mem_cons, Prod.mk.injEq, true_and, and_true]; simp [cI]) (by simp only [List.mem_cons, Prod.mk.injEq, true_and, and_true]; simp [cS]) (by simp only [List.mem_cons, Prod.mk.injEq, true_and, and_true]; simp [cS]) (by simp only [List.mem_cons, Prod.mk.injEq, true_and, and_true]; simp [cS]) (by simp only [List.mem_cons, Prod.mk.injEq, true_and, and_true]; simp [cS]) ?_ ?_ ?_ <;> omega)
    | (refine NwS.step ‹NwS _ _ _› fun b w H hlt => ?_; simp only [List.mem_cons, List.not_mem_nil, or_false, forall_eq_or_imp, forall_eq, false_imp_iff, implies_true] at hlt)
    | refine ⟨?_, ?_⟩)
end
end Go.Proofs.YtgggbmikmmljcaaGreat

namespace Go.Proofs.YtgggbmikmmljcaaGreat
open Go Go.V Go.Proofs
open Go.RowKit (Below)
def RdA (P : Int → Prop) (w : World) (a : Option Addr) (l : Nat) : Prop := ∀ i, i < l → ∃ b o, a = some ⟨b, o, none⟩ ∧ b < w.heap.size ∧ ∃ x0 x1 x2 x3 : Int, P x0 ∧
  w.cell? ⟨b, o + i * 4 + 0, none⟩ = some (.int .i64 x0) ∧ w.cell? ⟨b, o + i * 4 + 1, none⟩ = some (.int .i64 x1) ∧ w.cell? ⟨b, o + i * 4 + 2, none⟩ = some (.int .i64 x2) ∧ w.cell? ⟨b, o + i * 4 + 3, none⟩ = some (.int .i64 x3)
def noOwn : OwnM Role := fun _ => none
def noKa : Ka RK := fun _ => none
section
variable {w w' w0 w1 w2 : World} {own own' : OwnM Role} {r r' : Raw} {S S' : CS} {κ κ' : Ka RK} {N N1 : Prm} {q : Rb} {k f : Nat}
theorem cell_keep {b o : Nat} {v : Value} (hv : w.cell? ⟨b, o, none⟩ = some v) (k : w'.heap[b]? = w.heap[b]?) : w'.cell? ⟨b, o, none⟩ = some v := by
  unfold World.cell? at hv ⊢; simp only at hv ⊢; rw [k]; exact hv
theorem RdA.keep {P : Int → Prop} {a : Option Addr} {l : Nat} (h : RdA P w a l) (hs : w.heap.size ≤ w'.heap.size) (k : ∀ b, b < w.heap.size → w'.heap[b]? = w.heap[b]?) : RdA P w' a l := fun i hi => by
  obtain ⟨b, o, e, hb, x0, x1, x2, x3, hP, c0, c1, c2, c3⟩ := h i hi
  have e1 := k b hb
  exact ⟨b, o, e, by omega, x0, x1, x2, x3, hP, cell_keep c0 e1, cell_keep c1 e1, cell_keep c2 e1, cell_keep c3 e1⟩
theorem RdA.fr {P : Int → Prop} {a : Option Addr} {l : Nat} (h : RdA P w0 a l) (f : FrJ noOwn own noKa κ w0 w) : RdA P w a l := h.keep f.size fun b hb => f.block b hb rfl rfl
theorem box4 {t : Nat} {v0 v1 v2 v3 : Value} {F : Addr → World → Prop} (k : ∀ b w', w.heap.size ≤ b → Blk w' b #[v0, v1, v2, v3] t → Ext w w' → F ⟨b, 0, none⟩ w') :
    AllocK w #[.int .i64 0, .int .i64 0, .int .i64 0, .int .i64 0] t fun b w => SetK w (b.add 0) v0 fun w => SetK w (b.add 1) v1 fun w => SetK w (b.add 2) v2 fun w => SetK w (b.add 3) v3 fun w => F b w := by
  refine AllocK.mk fun b w5 hb hB hx => ?_
  simp only [add_mk, Nat.zero_add]
  refine SetK.mk hB (by simp) fun w1 h1 g1 => SetK.mk h1 (by simp) fun w2 h2 g2 => SetK.mk h2 (by simp) fun w3 h3 g3 => SetK.mk h3 (by simp) fun w4 h4 g4 => ?_
  exact k b w4 (by omega) (by simpa using h4) ((((g1.trans g2).trans g3).trans g4).below hx (by omega))
theorem Jt.start {x y z : Int} (h1 : CR w1 own r (CS.zero x y z)) (f1 : Fr noOwn own w0 w1) (h2 : RR κ N q w2) (f2 : FrM noKa κ w1 w2) : Jt w2 own r (CS.zero x y z) κ N q ∧ FrJ noOwn own noKa κ w0 w2 := by
  have lt : ∀ b, own b ≠ none → b < w1.heap.size := fun b hb => Nat.lt_of_not_le fun hc => hb (h1.top b hc)
  refine ⟨⟨h1.frame f2.size fun b hb _ => f2.block b hb rfl, h2, fun b hb => f2.free b (lt b hb) rfl⟩, ⟨f2.os.trans f1.os, f2.tape.trans f1.tape, f2.output.trans f1.output, Nat.le_trans f1.size f2.size, fun b hb _ _ => ?_, fun b hb _ _ => ⟨f1.free b hb rfl, f2.free b (Nat.lt_of_lt_of_le hb f1.size) rfl⟩⟩⟩
  exact (f2.block b (Nat.lt_of_lt_of_le hb f1.size) rfl).trans (f1.block b hb rfl)
theorem zero_dif {x y z : Int} (t : Int) : (CS.zero x y z).dif t = 0 := by
  have e1 : (CS.zero x y z).outT t = 0 := if_neg fun hx => by have := hx.1; have := hx.2; simp [CS.zero] at this; omega
  have e2 : px (CS.zero x y z).prox (CS.zero x y z).clocks.length t = 0 := px_zero fun _ _ _ => rfl
  unfold CS.dif; rw [e1, e2]; rfl
theorem Inv.zero' {x y z : Int} (h : argsOk x y z) : Inv 0 0 (CS.zero x y z) := by
  have e : x = ((x.toNat : Nat) : Int) := by have := h.1; omega
  rw [e]; exact Inv.zero (by have := h.1; omega) (by have := h.2.1; omega) y z
theorem Bd.zero {x y z : Int} : Bd 0 0 (N0 x.toNat) (CS.zero x y z) := ⟨rfl, by simp [N0, CS.zero], Nat.le_refl _, Nat.le_refl _, Nat.le_refl _, Nat.le_refl _⟩
theorem kd_oa : isK kGone kAsk = false := by rw [isK_dec']; decide
theorem kd_om : isK kGone kMore = false := by rw [isK_dec']; decide
theorem kd_og : isK kGone kGive = false := by rw [isK_dec']; decide
theorem kd_op : isK kGone kPass = false := by rw [isK_dec']; decide
theorem kd_ob : isK kGone kBack = false := by rw [isK_dec']; decide
theorem kd_or : isK kGone kRenew = false := by rw [isK_dec']; decide
theorem TakeOk.gone {m : Msg} (p : TakeOk S m S') (hg : isK m.kind kGone = true) : S' = S.goneM (m.to, m.ent) := by
  unfold TakeOk at p
  rw [if_neg (by rw [isK_no hg kd_oa, isK_no hg kd_om]; simp), if_neg (by rw [isK_no hg kd_og]; simp), if_neg (by rw [isK_no hg kd_op]; simp), if_neg (by rw [isK_no hg kd_ob]; simp), if_neg (by rw [isK_no hg kd_or]; simp), if_pos hg] at p
  exact p
theorem gone_px (I : Inv k f S) {a e : Int} {m : Msg} (p : DelOk S a e S') (hm : S.msg? a = some m) (hg : isK m.kind kGone = true) :
    S'.things.length = S.things.length ∧ px S'.prox S'.clocks.length m.ent = px S.prox S.clocks.length m.ent - S.prox (m.to, m.ent) := by
  unfold CS.msg? at hm
  split at hm
  · rename_i h0
    rcases p with ⟨hn, _, _⟩ | ⟨m', _, hm', _, p⟩
    · have := (List.getElem?_eq_some_iff.1 hm).1; omega
    · rw [hm] at hm'; cases hm'
      have e := p.gone hg
      subst e
      refine ⟨rfl, ?_⟩
      have h2 := (I.fy m (List.mem_of_getElem? hm)).2.2.1
      have e : px (upd S.prox (m.to, m.ent) 0) S.clocks.length m.ent = _ := px_upd _ _ _ _ _
      refine e.trans ?_
      rw [if_pos ⟨rfl, h2.1, h2.2⟩]; omega
  · cases hm
theorem msg_at {a : Int} (h0 : 0 ≤ a) (h1 : a < S.fly.length) : ∃ m, S.fly[a.toNat]? = some m ∧ S.msg? a = some m := by
  have e : S.fly[a.toNat]? = some S.fly[a.toNat] := List.getElem?_eq_getElem (by omega)
  exact ⟨_, e, by unfold CS.msg?; rw [if_pos h0, e]⟩
theorem msg_no {a : Int} (h : ¬ (0 ≤ a ∧ a < S.fly.length)) : S.msg? a = none := by
  unfold CS.msg?; split
  · rw [List.getElem?_eq_none (by omega)]
  · rfl
theorem loss_none {d a : Int} (h : S.msg? a = none) (t : Int) : loss S d a t = 0 := by unfold loss; rw [h]
theorem difB (I : Inv k f S) (t : Int) : S.dif t ≤ 65536 * k := by
  have := I.pxs t; have := I.flw t; have := I.outT1 t; simp only [CS.dif]; omega
structure LI (w0 : World) (i : Nat) (own : OwnM Role) (r : Raw) (S : CS) (κ : Ka RK) (N : Prm) (q : Rb) (rb : Nat) (w : World) : Prop where
  jt : Jt w own r S κ N q
  inv : Inv i (1000 * i) S
  bd : Bd i (1000 * i) N S
  fr : FrJ noOwn own noKa κ w0 w
  rb : r.b = rb
theorem FrJ.toExt (h : FrJ noOwn own noKa κ w w') : Ext w w' := ⟨h.os, h.tape, h.output, h.size, fun b hb => h.block b hb rfl rfl⟩
theorem Fr.toExt (h : Fr noOwn own w w') : Ext w w' := ⟨h.os, h.tape, h.output, h.size, fun b hb => h.block b hb rfl⟩
theorem LI.ext {i rb : Nat} (h : LI w0 i own r S κ N q rb w) (x : Ext w w') : LI w0 i own r S κ N q rb w' := ⟨h.jt.ext x, h.inv, h.bd, h.fr.trans (FrJ.ext own κ x), h.rb⟩
theorem LI.but {i rb b : Nat} (h : LI w0 i own r S κ N q rb w) (x : But b w w') (hb : w0.heap.size ≤ b) (e1 : own b = none) (e2 : κ b = none) : LI w0 i own r S κ N q rb w' := ⟨h.jt.but x e1 e2, h.inv, h.bd, h.fr.but x hb, h.rb⟩
theorem LI.play {i rb : Nat} (h : LI w0 i own r S κ N q rb w) (hi : i ≤ 300) {d a b c : Int} (p : PlayJ w own r S κ q d a b c i (1000 * i) w') : ∃ own' r' S' κ' N', LI w0 (i + 1) own' r' S' κ' N' q rb w' ∧ FrJ own own' κ κ' w w' ∧ PlayOk S d a b c S' := by
  obtain ⟨own', r', S', κ', N', J, er, F, hp, B⟩ := p
  exact ⟨own', r', S', κ', N', ⟨J, (h.inv.play hp).1.mono (Nat.le_refl _) (by omega), ⟨B.n, B.s, B.p, B.o, B.h, by have := B.f; omega⟩, h.fr.trans F, er.trans h.rb⟩, F, hp⟩
theorem MapF.frJ {g : Nat} {m : Int → Int} (h : MapF eK eK 0 w g m) (F : FrJ own own' κ κ' w w') (e1 : own g = none) (e2 : κ g = none) : MapF eK eK 0 w' g m := h.heap (F.block g h.lt e1 e2)
end
end Go.Proofs.YtgggbmikmmljcaaGreat
