/- A part of the proof: plain forms of functions and laws about them. -/
import Derived.Test.YtbiamhoonhjodacGreatDoorGreqBa
namespace Go.Proofs.YtbiamhoonhjodacGreatDoor
open Go Go.V Go.Proofs Go.V.Gr
structure Rkn (n : Nat) (rk : List Int) (m : Nat) (c : Nat → Nat → Int) : Prop where
 cmp : Rk n rk c
 lt : ∀ i, i < n → 0 ≤ ga rk i ∧ ga rk i < m
 hit : ∀ q, q < m → ∃ i, i < n ∧ ga rk i = (q : Nat)
theorem Rkn.zero {n m : Nat} {rk : List Int} {c : Nat → Nat → Int} (h : Rkn n rk m c) {i j : Nat} (hi : i < n) (hj : j < n) : c i j = 0 ↔ ga rk i = ga rk j := by
 rw [← h.cmp.2 i j hi hj]; exact sg_zero
theorem Rkn.le {n m : Nat} {rk : List Int} {c : Nat → Nat → Int} (h : Rkn n rk m c) : m ≤ n := by
 have hf : ∀ q, ∃ i, q < m → i < n ∧ ga rk i = (q : Nat) := fun q => by
  by_cases hq : q < m
  ·obtain ⟨i, h1⟩ := h.hit q hq; exact ⟨i, fun _ => h1⟩
  ·exact ⟨0, fun e => absurd e hq⟩
 obtain ⟨f, hf⟩ := Classical.axiomOfChoice hf
 have := len_le_of_sub ((List.range m).map f) (List.range n) ?_ fun x hx => ?_
 ·simpa using this
 ·rw [List.nodup_iff_pairwise_ne, List.pairwise_map]
  refine List.Pairwise.imp_of_mem ?_ (List.nodup_range (n := m))
  intro a b ha hb hab e
  have h1 := (hf a (List.mem_range.1 ha)).2; have h2 := (hf b (List.mem_range.1 hb)).2
  rw [e, h2] at h1; omega
 ·obtain ⟨q, hq, rfl⟩ := List.mem_map.1 hx
  exact List.mem_range.2 (hf q (List.mem_range.1 hq)).1
theorem Rkn.grow {n m m' : Nat} {rk rk' : List Int} {c c' : Nat → Nat → Int} (h : Rkn n rk m c) (h' : Rkn n rk' m' c') (ref : ∀ i j, i < n → j < n → c' i j = 0 → c i j = 0) :
  m ≤ m' ∧ (m' = m → ∀ i j, i < n → j < n → c i j = 0 → c' i j = 0) := by
 have hf : ∀ q, ∃ i, q < m → i < n ∧ ga rk i = (q : Nat) := fun q => by
  by_cases hq : q < m
  ·obtain ⟨i, h1⟩ := h.hit q hq; exact ⟨i, fun _ => h1⟩
  ·exact ⟨0, fun e => absurd e hq⟩
 obtain ⟨f, hf⟩ := Classical.axiomOfChoice hf
 let L := (List.range m).map fun q => (ga rk' (f q)).toNat
 have key : ∀ i j, i < n → j < n → (ga rk' i).toNat = (ga rk' j).toNat → ga rk i = ga rk j := fun i j hi hj e => by
  have b1 := (h'.lt i hi).1; have b2 := (h'.lt j hj).1
  exact (h.zero hi hj).1 (ref i j hi hj ((h'.zero hi hj).2 (by omega)))
 have nd : L.Nodup := by
  show ((List.range m).map _).Nodup
  rw [List.nodup_iff_pairwise_ne, List.pairwise_map]
  refine List.Pairwise.imp_of_mem ?_ (List.nodup_range (n := m))
  intro a b ha hb hab e
  have ha := hf a (List.mem_range.1 ha); have hb := hf b (List.mem_range.1 hb)
  have := key _ _ ha.1 hb.1 e
  rw [ha.2, hb.2] at this; omega
 have sub : ∀ x ∈ L, x ∈ List.range m' := fun x hx => by
  obtain ⟨q, hq, rfl⟩ := List.mem_map.1 hx
  have h1 := hf q (List.mem_range.1 hq)
  have h2 := h'.lt _ h1.1
  exact List.mem_range.2 (by omega)
 have hL : L.length = m := by simp [L]
 refine ⟨?_, fun e => ?_⟩
 ·have := len_le_of_sub L (List.range m') nd sub
  rw [hL, List.length_range] at this; exact this
 ·refine fun i j hi hj e0 => Classical.byContradiction fun hne => ?_
  have er := (h.zero hi hj).1 e0
  have hne' : ga rk' i ≠ ga rk' j := fun e => hne ((h'.zero hi hj).2 e)
  have hb := h.lt i hi
  have hfq := hf (ga rk i).toNat (by omega)
  have hx : ∃ x, x < n ∧ ga rk x = ga rk i ∧ ga rk' x ≠ ga rk' (f (ga rk i).toNat) := by
   by_cases h1 : ga rk' i = ga rk' (f (ga rk i).toNat)
   ·exact ⟨j, hj, er.symm, fun e => hne' (h1.trans e.symm)⟩
   ·exact ⟨i, hi, rfl, h1⟩
  obtain ⟨x, hx, ex, nx⟩ := hx
  have := len_le_of_sub ((ga rk' x).toNat :: L) (List.range m') (List.nodup_cons.2 ⟨fun hm => ?_, nd⟩) fun y hy => ?_
  ·rw [List.length_cons, hL, List.length_range] at this; omega
  ·obtain ⟨q, hq, e2⟩ := List.mem_map.1 hm
   have h1 := hf q (List.mem_range.1 hq)
   have e3 := key _ _ h1.1 hx e2
   rw [h1.2, ex] at e3
   have : q = (ga rk i).toNat := by omega
   subst this
   have b1 := (h'.lt _ h1.1).1; have b2 := (h'.lt x hx).1
   exact nx (by omega)
  ·rcases List.mem_cons.1 hy with rfl | hy
   ·have b2 := h'.lt x hx; exact List.mem_range.2 (by omega)
   ·exact sub y hy
theorem rnk_hit (cf : Nat → Nat → Int) (p : Nat → Nat) : ∀ i q, q ≤ rnk cf p i → ∃ j, j ≤ i ∧ rnk cf p j = q
 | 0, q, h => ⟨0, Nat.le_refl _, by rw [rnk] at h ⊢; omega⟩
 | i + 1, q, h => by
  by_cases e : q ≤ rnk cf p i
  ·obtain ⟨j, h1, h2⟩ := rnk_hit cf p i q e; exact ⟨j, by omega, h2⟩
  ·refine ⟨i + 1, Nat.le_refl _, ?_⟩
   rw [rnk] at h ⊢
   by_cases z : cf (p i) (p (i + 1)) = 0
   ·rw [if_pos z] at h ⊢; omega
   ·rw [if_neg z] at h ⊢; omega
theorem rnk_mono (cf : Nat → Nat → Int) (p : Nat → Nat) : ∀ i j, i ≤ j → rnk cf p i ≤ rnk cf p j := by
  intro i j
  induction j with
  | zero => intro h; have : i = 0 := by omega
            subst this; exact Nat.le_refl _
  | succ j ih =>
    intro h
    by_cases e : i = j + 1
    · subst e; exact Nat.le_refl _
    · have := ih (by omega); rw [rnk]; omega
theorem cGr_first {xs ys : List Nd} {i j : Nat} (hx : VL VN1 xs) (hy : VL VN1 ys) (hi : i < xs.length) (hj : j < ys.length) {k : Nat} (h0 : ∀ q, q < k → cK cHd xs ys q i j = 0) (hk : cK cHd xs ys k i j ≠ 0) : cGr xs ys i j = cK cHd xs ys k i j := by
 have hk2 : k ≤ xs.length + ys.length := by
  refine Classical.byContradiction fun hn => hk ?_
  have e0 := h0 (xs.length + ys.length) (by omega)
  have ev := deep_two hx.c hy.c hi hj (Nat.le_refl _) ((cK_zero hdC hx hy _ i j hi hj).1 e0)
  exact (cK_zero hdC hx hy _ i j hi hj).2 (ev _)
 rw [cGr, cG]
 refine fz_at (k := k) (fun m hm => ?_) ?_ hk
 ·rw [List.getElem?_map, List.getElem?_range (by omega)]; simp [h0 m hm]
 ·rw [List.getElem?_map, List.getElem?_range (by omega)]; rfl
theorem cGr_zero {xs ys : List Nd} {i j : Nat} (hx : VL VN1 xs) (hy : VL VN1 ys) (hi : i < xs.length) (hj : j < ys.length) : cGr xs ys i j = 0 ↔ Eqv xs ys i j :=
 cG_zero hdC hx hy hi hj (deep_two hx.c hy.c hi hj (Nat.le_refl _))
theorem eqv_stable {l : List Nd} (hV : VL VN1 l) {t : Nat} (hs : ∀ i j, i < l.length → j < l.length → cK cHd l l t i j = 0 → cK cHd l l (t + 1) i j = 0) {i j : Nat} (hi : i < l.length) (hj : j < l.length) (h : cK cHd l l t i j = 0) : Eqv l l i j := by
 refine Eqv.coind (fun i j => i < l.length ∧ j < l.length ∧ EqK l l t i j) ?_ ⟨hi, hj, (cK_zero hdC hV hV t i j hi hj).1 h⟩
 rintro i j ⟨hi, hj, e⟩
 have e2 := (cK_zero hdC hV hV (t + 1) i j hi hj).1 (hs i j hi hj ((cK_zero hdC hV hV t i j hi hj).2 e))
 exact ⟨e.head, fun m hm => ⟨kid_lt hV.c hi hm, kid_lt hV.c hj (by rw [← hd_len e.head]; exact hm), e2.2 m hm⟩⟩
/-! ### A merge -/
theorem tri_le {a b e : Int} (h : Tri a b e) (h1 : a ≤ 0) (h2 : b ≤ 0) : e ≤ 0 := by
 by_cases ha : a = 0
 ·by_cases hb : b = 0
  ·have := h.1 ha hb; omega
  ·have := h.2 h1 h2 (by omega); omega
 ·have := h.2 h1 h2 (by omega); omega
abbrev Srt (cf : Int → Int → Int) (l : List Int) : Prop := l.Pairwise fun a b => cf a b ≤ 0
structure Mrg (cf : Int → Int → Int) (n : Nat) (at_ out a b : List Int) : Prop where
 perm : (out ++ (a ++ b)).Perm at_
 lt : ∀ x ∈ at_, 0 ≤ x ∧ x < n
 so : Srt cf out
 sa : Srt cf a
 sb : Srt cf b
 le : ∀ x ∈ out, ∀ y ∈ a ++ b, cf x y ≤ 0
section
variable {cf : Int → Int → Int} {n : Nat} {at_ out a b : List Int} {x y : Int}
theorem Mrg.mem (h : Mrg cf n at_ out a b) : ∀ x ∈ a ++ b, 0 ≤ x ∧ x < n := fun x hx => h.lt x (h.perm.mem_iff.1 (List.mem_append_right _ hx))
theorem Mrg.left (h : Mrg cf n at_ out (x :: a) b) (htri : ∀ i j k : Int, 0 ≤ i → i < n → 0 ≤ j → j < n → 0 ≤ k → k < n → Tri (cf i j) (cf j k) (cf i k)) (hb : b = [] ∨ ∃ y b', b = y :: b' ∧ cf x y ≤ 0) : Mrg cf n at_ (out ++ [x]) a b := by
 have hxm := h.mem x (by simp)
 have hle : ∀ y ∈ a ++ b, cf x y ≤ 0 := fun y hy => by
  rcases List.mem_append.1 hy with hy | hy
  ·exact (List.pairwise_cons.1 h.sa).1 y hy
  ·rcases hb with rfl | ⟨z, b', rfl, hz⟩
   ·cases hy
   ·rcases List.mem_cons.1 hy with rfl | hy
    ·exact hz
    ·have h1 := (List.pairwise_cons.1 h.sb).1 y hy
     have hzm := h.mem z (by simp); have hym := h.mem y (by simp [hy])
     exact tri_le (htri x z y hxm.1 hxm.2 hzm.1 hzm.2 hym.1 hym.2) hz h1
 refine ⟨?_, h.lt, ?_, (List.pairwise_cons.1 h.sa).2, h.sb, fun u hu v hv => ?_⟩
 ·refine List.Perm.trans ?_ h.perm
  rw [List.append_assoc]; exact List.Perm.refl _
 ·exact List.pairwise_append.2 ⟨h.so, by simp, fun u hu v hv => by
   simp only [List.mem_singleton] at hv; subst hv; exact h.le u hu v (by simp)⟩
 ·rcases List.mem_append.1 hu with hu | hu
  ·exact h.le u hu v (by simp only [List.cons_append]; exact List.mem_cons_of_mem _ hv)
  ·simp only [List.mem_singleton] at hu; subst hu; exact hle v hv
theorem Mrg.swap (h : Mrg cf n at_ out a b) : Mrg cf n at_ out b a :=
 ⟨(List.Perm.append_left out List.perm_append_comm).trans h.perm, h.lt, h.so, h.sb, h.sa, fun x hx y hy => h.le x hx y (List.perm_append_comm.mem_iff.1 hy)⟩
end
end Go.Proofs.YtbiamhoonhjodacGreatDoor

namespace Go.Proofs.YtbiamhoonhjodacGreatDoor
open Go Go.V Go.Proofs
open Go.RowKit (Below)
/-! manystrand/manystrandref01.Among -/
def N109 (s1 : ByteArray) (s2 : ByteArray) (K : Bool → World → Prop) (w : World) : Prop :=
 ∃ (I3 : Int → World → Prop) (μ4 : Int → World → Nat),
 (I3 0 w ∧ True) ∧
 ∀ w5 x6, I3 x6 w5 →
 BoolK (decide (x6 < (s1.size : Nat)))
 (∃ (u7 : UInt8), (0 ≤ x6 ∧ s1[x6.toNat]? = some u7) ∧
 (BoolK ((u7.toNat : Int) == 32)
 (K false w5)
 (I3 (IntKind.wrap .i64 (x6 + 1)) w5 ∧ μ4 (IntKind.wrap .i64 (x6 + 1)) w5 < μ4 x6 w5)))
 (∃ (I8 : Int → World → Prop) (μ9 : Int → World → Nat),
 (I8 0 w5 ∧ True) ∧
 ∀ w10 x11, I8 x11 w10 →
 BoolK (decide ((IntKind.wrap .i64 ((IntKind.wrap .i64 (x11 + (s1.size : Nat))) + 2) : Int) ≤ (s2.size : Nat)))
 (BoolK (!(s1.toList == (⟨#[]⟩ : ByteArray).toList))
 (0 ≤ x11 ∧
 (0 ≤ (IntKind.wrap .i64 ((IntKind.wrap .i64 (x11 + (s1.size : Nat))) + 2) : Int) ∧
 ((x11.toNat ≤ (IntKind.wrap .i64 ((IntKind.wrap .i64 (x11 + (s1.size : Nat))) + 2) : Int).toNat ∧ (IntKind.wrap .i64 ((IntKind.wrap .i64 (x11 + (s1.size : Nat))) + 2) : Int).toNat ≤ s2.size) ∧
 ((((⟨#[32]⟩ : ByteArray).size + s1.size : Nat) : Int) ≤ IntKind.i64.max ∧
 (((((⟨#[32]⟩ : ByteArray) ++ s1 : ByteArray).size + (⟨#[32]⟩ : ByteArray).size : Nat) : Int) ≤ IntKind.i64.max ∧
 (BoolK ((s2.extract (x11.toNat) ((IntKind.wrap .i64 ((IntKind.wrap .i64 (x11 + (s1.size : Nat))) + 2) : Int).toNat) : ByteArray).toList == (((⟨#[32]⟩ : ByteArray) ++ s1 : ByteArray) ++ (⟨#[32]⟩ : ByteArray) : ByteArray).toList)
 (K true w10)
 (I8 (IntKind.wrap .i64 (x11 + 1)) w10 ∧ μ9 (IntKind.wrap .i64 (x11 + 1)) w10 < μ9 x11 w10)))))))
 (I8 (IntKind.wrap .i64 (x11 + 1)) w10 ∧ μ9 (IntKind.wrap .i64 (x11 + 1)) w10 < μ9 x11 w10))
 (K false w10))
def ann109 : Ann := (.two .nil (.two (.two .nil (.one (.loop [(5, (.one (.int .i64)))] [0, 1] (.two (.two .nil (.two .nil .nil)) (.two (.one (.two .nil (.two (.two .nil .nil) .nil))) .nil))))) (.two (.two .nil (.one (.loop [(6, (.one (.int .i64)))] [0, 1] (.two (.two .nil (.two .nil .nil)) (.two (.one (.two .nil (.two (.two .nil .nil) .nil))) .nil))))) (.two .nil .nil))))
noncomputable def code109 : Code := match Tryz.f109.body with | some c => c | none => .skip
theorem calls109 (s1 : ByteArray) (s2 : ByteArray) (K : Bool → World → Prop) (w : World) (h : N109 s1 s2 K w) : Calls Tryz.prog 109 #[(.string s1), (.string s2)] w fun en w' => ∃ (p12 : Bool), en = .returned (.bool p12) ∧ K p12 w' :=
 fn_calls tabOk mixed Tryz.func109 (by kernel_rfl : Tryz.f109.body = some code109) ann109 [(.string s1), (.string s2)] [(.one .bool)] K w (by kernel_rfl) (by kernel_rfl) (by kernel_rfl) h
end Go.Proofs.YtbiamhoonhjodacGreatDoor

namespace Go.Proofs.YtbiamhoonhjodacGreatDoor
open Go Go.V Go.Proofs
open Go.RowKit (Below)
/-! manystrand/manystrandref01.inside -/
def N177 (s1 : ByteArray) (x2 : Int) (K : Bool → World → Prop) (w : World) : Prop :=
 ∃ (I3 : Int → World → Prop) (μ4 : Int → World → Nat),
 (I3 0 w ∧ True) ∧
 ∀ w5 x6, I3 x6 w5 →
 BoolK (decide (x6 < (s1.size : Nat)))
 (∃ (u7 : UInt8), (0 ≤ x6 ∧ s1[x6.toNat]? = some u7) ∧
 (BoolK ((u7.toNat : Int) != 10)
 (∃ (u8 : UInt8), (0 ≤ x6 ∧ s1[x6.toNat]? = some u8) ∧
 (BoolK (decide ((u8.toNat : Int) < 32))
 (K false w5)
 (∃ (u9 : UInt8), (0 ≤ x6 ∧ s1[x6.toNat]? = some u9) ∧
 (BoolK (decide ((u9.toNat : Int) > 126))
 (K false w5)
 (I3 (IntKind.wrap .i64 (x6 + 1)) w5 ∧ μ4 (IntKind.wrap .i64 (x6 + 1)) w5 < μ4 x6 w5)))))
 (I3 (IntKind.wrap .i64 (x6 + 1)) w5 ∧ μ4 (IntKind.wrap .i64 (x6 + 1)) w5 < μ4 x6 w5)))
 (K (decide (((s1.size : Nat) : Int) ≤ x2)) w5)
def ann177 : Ann := (.two .nil (.two (.two .nil (.one (.loop [(5, (.one (.int .i64)))] [0, 1] (.two (.two .nil (.two .nil .nil)) (.two (.one (.two .nil (.two (.two .nil .nil) .nil))) .nil))))) (.two .nil .nil)))
noncomputable def code177 : Code := match Tryz.f177.body with | some c => c | none => .skip
theorem calls177 (s1 : ByteArray) (x2 : Int) (K : Bool → World → Prop) (w : World) (h : N177 s1 x2 K w) : Calls Tryz.prog 177 #[(.string s1), (.int .i64 x2)] w fun en w' => ∃ (p10 : Bool), en = .returned (.bool p10) ∧ K p10 w' :=
 fn_calls tabOk mixed Tryz.func177 (by kernel_rfl : Tryz.f177.body = some code177) ann177 [(.string s1), (.int .i64 x2)] [(.one .bool)] K w (by kernel_rfl) (by kernel_rfl) (by kernel_rfl) h
end Go.Proofs.YtbiamhoonhjodacGreatDoor

namespace Go.Proofs.YtbiamhoonhjodacGreatDoor
open Go Go.V Go.Proofs
open Go.RowKit (Below)
/-! manystrand/manystrandref01.Valid -/
def N152 (s1 : ByteArray) (s2 : ByteArray) (x3 : Int) (K : Bool → World → Prop) (w : World) : Prop :=
 AllocK w (#[(.string s1), (.string s2), (.int .i64 x3)]) 95 fun b4 w5 =>
 ∃ s6, w5.cell? b4 = some (.string s6) ∧
 (BoolK (s6.toList == (⟨#[118, 97, 114]⟩ : ByteArray).toList)
 (∃ s7, w5.cell? (b4.add 1) = some (.string s7) ∧
 (Calls Tryz.prog 176 #[(.string s7)] w5 fun e10 w9 =>
 ∃ p8, e10 = .returned (.bool p8) ∧
 (K p8 w9)))
 (BoolK (s6.toList == (⟨#[97, 116, 111, 109]⟩ : ByteArray).toList)
 (∃ s11, w5.cell? (b4.add 1) = some (.string s11) ∧
 (Calls Tryz.prog 177 #[(.string s11), (.int .i64 60)] w5 fun e14 w13 =>
 ∃ p12, e14 = .returned (.bool p12) ∧
 (K p12 w13)))
 (BoolK (s6.toList == (⟨#[105, 110, 116]⟩ : ByteArray).toList)
 (∃ s15, w5.cell? (b4.add 1) = some (.string s15) ∧
 (Calls Tryz.prog 178 #[(.string s15)] w5 fun e18 w17 =>
 ∃ p16, e18 = .returned (.bool p16) ∧
 (K p16 w17)))
 (BoolK (s6.toList == (⟨#[116, 101, 120, 116]⟩ : ByteArray).toList)
 (∃ s19, w5.cell? (b4.add 1) = some (.string s19) ∧
 (Calls Tryz.prog 177 #[(.string s19), (.int .i64 200)] w5 fun e22 w21 =>
 ∃ p20, e22 = .returned (.bool p20) ∧
 (K p20 w21)))
 (BoolK (s6.toList == (⟨#[99, 104, 97, 114]⟩ : ByteArray).toList)
 (∃ s23, w5.cell? (b4.add 1) = some (.string s23) ∧
 (BoolK (((s23.size : Nat) : Int) == 1)
 (∃ s24, w5.cell? (b4.add 1) = some (.string s24) ∧
 (Calls Tryz.prog 177 #[(.string s24), (.int .i64 1)] w5 fun e27 w26 =>
 ∃ p25, e27 = .returned (.bool p25) ∧
 (K p25 w26)))
 (K false w5)))
 (BoolK (s6.toList == (⟨#[107, 101, 121]⟩ : ByteArray).toList)
 (∃ s28, w5.cell? (b4.add 1) = some (.string s28) ∧
 (Calls Tryz.prog 179 #[(.string s28)] w5 fun e31 w30 =>
 ∃ p29, e31 = .returned (.bool p29) ∧
 (K p29 w30)))
 (BoolK (s6.toList == (⟨#[115, 105, 103, 110]⟩ : ByteArray).toList)
 (∃ s32, w5.cell? (b4.add 1) = some (.string s32) ∧
 (Calls Tryz.prog 180 #[(.string s32)] w5 fun e35 w34 =>
 ∃ p33, e35 = .returned (.bool p33) ∧
 (K p33 w34)))
 (K false w5))))))))
def ann152 : Ann := (.two .nil (.two (.two .nil (.one (.two .nil (.two (.two .nil .nil) (.two .nil (.two (.two .nil .nil) (.two .nil (.two (.two .nil .nil) (.two .nil (.two (.two .nil .nil) (.two .nil (.two (.two .nil .nil) (.two .nil (.two (.two .nil .nil) (.two .nil (.two (.two .nil .nil) .nil)))))))))))))))) (.two .nil .nil)))
noncomputable def code152 : Code := match Tryz.f152.body with | some c => c | none => .skip
theorem calls152 (s1 : ByteArray) (s2 : ByteArray) (x3 : Int) (K : Bool → World → Prop) (w : World) (h : N152 s1 s2 x3 K w) : Calls Tryz.prog 152 #[(.agg #[(.string s1), (.string s2), (.int .i64 x3)])] w fun en w' => ∃ (p36 : Bool), en = .returned (.bool p36) ∧ K p36 w' :=
 fn_calls tabOk mixed Tryz.func152 (by kernel_rfl : Tryz.f152.body = some code152) ann152 [(.agg #[(.string s1), (.string s2), (.int .i64 x3)])] [(.one .bool)] K w (by kernel_rfl) (by kernel_rfl) (by kernel_rfl) h
end Go.Proofs.YtbiamhoonhjodacGreatDoor

namespace Go.Proofs.YtbiamhoonhjodacGreatDoor
open Go Go.V Go.Proofs
open Go.RowKit (Below)
/-! manystrand/manystrandref02.IsAtom -/
def N110 (s1 : ByteArray) (K : Bool → World → Prop) (w : World) : Prop :=
 Calls Tryz.prog 152 #[(.agg #[(.string (⟨#[97, 116, 111, 109]⟩ : ByteArray)), (.string s1), (.int .i64 0)])] w fun e4 w3 =>
 ∃ p2, e4 = .returned (.bool p2) ∧
 (K p2 w3)
def ann110 : Ann := (.two .nil (.two .nil .nil))
noncomputable def code110 : Code := match Tryz.f110.body with | some c => c | none => .skip
theorem calls110 (s1 : ByteArray) (K : Bool → World → Prop) (w : World) (h : N110 s1 K w) : Calls Tryz.prog 110 #[(.string s1)] w fun en w' => ∃ (p5 : Bool), en = .returned (.bool p5) ∧ K p5 w' :=
 fn_calls tabOk mixed Tryz.func110 (by kernel_rfl : Tryz.f110.body = some code110) ann110 [(.string s1)] [(.one .bool)] K w (by kernel_rfl) (by kernel_rfl) (by kernel_rfl) h
end Go.Proofs.YtbiamhoonhjodacGreatDoor

namespace Go.Proofs.YtbiamhoonhjodacGreatDoor
open Go Go.V Go.Proofs
open Go.RowKit (Below)
/-! manystrand/manystrandref02.IsFeat -/
def N111 (x1 : Int) (s2 : ByteArray) (K : Bool → World → Prop) (w : World) : Prop :=
 AllocK w (#[(.int .i64 x1), (.string s2)]) 38 fun b3 w4 =>
 ∃ x5, w4.cell? b3 = some (.int .i64 x5) ∧
 (BoolK (x5 == 0)
 (∃ s6, w4.cell? (b3.add 1) = some (.string s6) ∧
 (Calls Tryz.prog 110 #[(.string s6)] w4 fun e9 w8 =>
 ∃ p7, e9 = .returned (.bool p7) ∧
 (BoolK p7
 (K true w8)
 (∃ x10, w8.cell? b3 = some (.int .i64 x10) ∧
 (BoolK (decide (x10 ≥ 1))
 (∃ x11, w8.cell? b3 = some (.int .i64 x11) ∧
 (BoolK (decide (x11 ≤ 1000))
 (∃ s12, w8.cell? (b3.add 1) = some (.string s12) ∧
 (K (s12.toList == (⟨#[]⟩ : ByteArray).toList) w8))
 (K false w8)))
 (K false w8))))))
 (∃ x13, w4.cell? b3 = some (.int .i64 x13) ∧
 (BoolK (decide (x13 ≥ 1))
 (∃ x14, w4.cell? b3 = some (.int .i64 x14) ∧
 (BoolK (decide (x14 ≤ 1000))
 (∃ s15, w4.cell? (b3.add 1) = some (.string s15) ∧
 (K (s15.toList == (⟨#[]⟩ : ByteArray).toList) w4))
 (K false w4)))
 (K false w4))))
def ann111 : Ann := (.two .nil (.two .nil .nil))
noncomputable def code111 : Code := match Tryz.f111.body with | some c => c | none => .skip
theorem calls111 (x1 : Int) (s2 : ByteArray) (K : Bool → World → Prop) (w : World) (h : N111 x1 s2 K w) : Calls Tryz.prog 111 #[(.agg #[(.int .i64 x1), (.string s2)])] w fun en w' => ∃ (p16 : Bool), en = .returned (.bool p16) ∧ K p16 w' :=
 fn_calls tabOk mixed Tryz.func111 (by kernel_rfl : Tryz.f111.body = some code111) ann111 [(.agg #[(.int .i64 x1), (.string s2)])] [(.one .bool)] K w (by kernel_rfl) (by kernel_rfl) (by kernel_rfl) h
end Go.Proofs.YtbiamhoonhjodacGreatDoor

namespace Go.Proofs.YtbiamhoonhjodacGreatDoor
open Go Go.V Go.Proofs
open Go.RowKit (Below)
/-! manystrand/manystrandref02.Less -/
def N112 (x1 : Int) (s2 : ByteArray) (x3 : Int) (s4 : ByteArray) (K : Bool → World → Prop) (w : World) : Prop :=
 AllocK w (#[(.int .i64 x1), (.string s2)]) 38 fun b5 w6 =>
 AllocK w6 (#[(.int .i64 x3), (.string s4)]) 38 fun b7 w8 =>
 ∃ (J9 : World → Prop),
 (∀ w10, J9 w10 →
 ∃ x11, w10.cell? b5 = some (.int .i64 x11) ∧
 (BoolK (decide (x11 > 0))
 (∃ x12, w10.cell? b5 = some (.int .i64 x12) ∧
 (K (decide (x12 > 0)) w10))
 (∃ x13, w10.cell? b7 = some (.int .i64 x13) ∧
 (BoolK (decide (x13 > 0))
 (∃ x14, w10.cell? b5 = some (.int .i64 x14) ∧
 (K (decide (x14 > 0)) w10))
 (∃ s15, w10.cell? (b5.add 1) = some (.string s15) ∧
 (∃ s16, w10.cell? (b7.add 1) = some (.string s16) ∧
 (K (Op.bytesLess s15.toList s16.toList) w10))))))) ∧
 (∃ x17, w8.cell? b5 = some (.int .i64 x17) ∧
 (BoolK (decide (x17 > 0))
 (∃ x18, w8.cell? b7 = some (.int .i64 x18) ∧
 (BoolK (decide (x18 > 0))
 (∃ x19, w8.cell? b5 = some (.int .i64 x19) ∧
 (∃ x20, w8.cell? b7 = some (.int .i64 x20) ∧
 (K (decide (x19 < x20)) w8)))
 (J9 w8)))
 (J9 w8)))
def ann112 : Ann := (.two .nil (.cut [] [2, 3] (.two .nil (.two (.two .nil .nil) .nil)) (.two (.two .nil (.two (.two .nil .nil) .nil)) (.two .nil .nil))))
noncomputable def code112 : Code := match Tryz.f112.body with | some c => c | none => .skip
theorem calls112 (x1 : Int) (s2 : ByteArray) (x3 : Int) (s4 : ByteArray) (K : Bool → World → Prop) (w : World) (h : N112 x1 s2 x3 s4 K w) : Calls Tryz.prog 112 #[(.agg #[(.int .i64 x1), (.string s2)]), (.agg #[(.int .i64 x3), (.string s4)])] w fun en w' => ∃ (p21 : Bool), en = .returned (.bool p21) ∧ K p21 w' :=
 fn_calls tabOk mixed Tryz.func112 (by kernel_rfl : Tryz.f112.body = some code112) ann112 [(.agg #[(.int .i64 x1), (.string s2)]), (.agg #[(.int .i64 x3), (.string s4)])] [(.one .bool)] K w (by kernel_rfl) (by kernel_rfl) (by kernel_rfl) h
end Go.Proofs.YtbiamhoonhjodacGreatDoor

namespace Go.Proofs.YtbiamhoonhjodacGreatDoor
open Go Go.V Go.Proofs Go.V.Gr
open Go.RowKit (Below)
def sortsS : ByteArray := ⟨#[32, 110, 97, 109, 101, 32, 112, 114, 111, 99, 32, 99, 101, 108, 108, 32, 112, 111, 114, 116, 32, 108, 111, 99, 107, 32, 100, 105, 99, 116, 32, 97, 114, 114, 97, 121, 32, 99, 104, 117, 110, 107, 32, 115, 112, 97, 99, 101, 32, 100, 101, 97, 100, 32]⟩
def spot (L s : List UInt8) (i : Nat) : Prop := i + s.length + 2 ≤ L.length ∧ (L.drop i).take (s.length + 2) = 32 :: (s ++ [32])
def amongChk : Bool := (List.range 54).all fun i => (List.range 53).all fun n =>
 let s := ((bl sortsS).drop (i + 1)).take n
 s.any (· == 32) || s.isEmpty || !(((bl sortsS).drop i).take (n + 2) == 32 :: (s ++ [32])) || (sorts.map bl).any (· == s)
theorem amongChk_ok : amongChk = true := by kernel_rfl
theorem spot_sort {s : ByteArray} {i : Nat} (h0 : ∀ c ∈ bl s, c ≠ 32) (h1 : bl s ≠ []) (h : spot (bl sortsS) (bl s) i) : sortD s = true := by
 have hL : (bl sortsS).length = 54 := by rfl
 obtain ⟨h2, h3⟩ := h
 rw [hL] at h2
 have := amongChk_ok
 unfold amongChk at this
 rw [List.all_eq_true] at this
 have := this i (List.mem_range.2 (by omega))
 rw [List.all_eq_true] at this
 have := this (bl s).length (List.mem_range.2 (by omega))
 have e : ((bl sortsS).drop (i + 1)).take (bl s).length = bl s := by
  have := congrArg (fun l => (l.drop 1).take (bl s).length) h3
  simp only [List.drop_take, List.drop_drop, List.take_take] at this
  rw [show min (bl s).length ((bl s).length + 2 - 1) = (bl s).length by omega] at this
  rw [this]; simp
 simp only [e] at this
 rw [h3] at this
 simp only [Bool.or_eq_true, List.any_eq_true, beq_iff_eq, List.isEmpty_iff, Bool.not_eq_true', beq_eq_false_iff_ne, ne_eq, not_true_eq_false, or_false] at this
 rcases this with (⟨c, hc, e⟩ | h) | ⟨t, ht, e⟩
 ·exact absurd e (h0 c hc)
 ·exact absurd h h1
 ·obtain ⟨u, hu, rfl⟩ := List.mem_map.1 ht
  have := bl_inj e
  subst this
  exact sortD_iff.2 hu
theorem sort_spot {s : ByteArray} (h : sortD s = true) : (∀ c ∈ bl s, c ≠ 32) ∧ bl s ≠ [] ∧ ∃ i, spot (bl sortsS) (bl s) i := by
 have := sortD_iff.1 h
 simp only [sorts, List.mem_cons, List.not_mem_nil, or_false] at this
 rcases this with rfl | rfl | rfl | rfl | rfl | rfl | rfl | rfl | rfl | rfl
 ·exact ⟨by decide, by decide, 0, by decide, by decide⟩
 ·exact ⟨by decide, by decide, 5, by decide, by decide⟩
 ·exact ⟨by decide, by decide, 10, by decide, by decide⟩
 ·exact ⟨by decide, by decide, 15, by decide, by decide⟩
 ·exact ⟨by decide, by decide, 20, by decide, by decide⟩
 ·exact ⟨by decide, by decide, 25, by decide, by decide⟩
 ·exact ⟨by decide, by decide, 30, by decide, by decide⟩
 ·exact ⟨by decide, by decide, 36, by decide, by decide⟩
 ·exact ⟨by decide, by decide, 42, by decide, by decide⟩
 ·exact ⟨by decide, by decide, 48, by decide, by decide⟩
theorem ctr109 (w : World) (s : ByteArray) (hs : s.size ≤ 1000000000000) : Calls Tryz.prog 109 #[.string s, .string sortsS] w fun en w' => ∃ p, en = .returned (.bool p) ∧ (p = sortD s ∧ w' = w) := by
 refine calls109 _ _ _ w ?_
 have hbs := bl_size s
 have hL : sortsS.size = 54 := by rfl
 refine ⟨fun i w' => ∃ k : Nat, i = k ∧ k ≤ s.size ∧ (∀ c ∈ (bl s).take k, c ≠ 32) ∧ w' = w, fun i _ => s.size - i.toNat, ⟨⟨0, rfl, by omega, by simp, rfl⟩, trivial⟩, ?_⟩
 rintro w5 x ⟨k, rfl, hk, hall, rfl⟩
 refine BoolK.mk (fun t => ?_) (fun t => ?_)
 ·have hlt : k < s.size := by have := of_decide_eq_true t; omega
  have hlt2 : k < (bl s).length := by rw [hbs]; exact hlt
  have hg : s[((k : Nat) : Int).toNat]? = some (bl s)[k] := by rw [Int.toNat_natCast, bl_get, List.getElem?_eq_getElem hlt2]
  refine ⟨(bl s)[k], ⟨by omega, hg⟩, BoolK.mk (fun t1 => ⟨?_, rfl⟩) (fun t1 => ?_)⟩
  ·have t1 : (bl s)[k].toNat = 32 := by have := eq_of_beq t1; omega
   symm; rw [← Bool.not_eq_true]; intro h
   exact (sort_spot h).1 _ (List.getElem_mem hlt2) (UInt8.toNat_inj.1 t1)
  ·rw [wrap_succ (by omega)]
   refine ⟨⟨k + 1, rfl, by omega, fun c hc => ?_, rfl⟩, by simp; omega⟩
   rw [List.take_add_one, List.getElem?_eq_getElem hlt2, List.mem_append] at hc
   rcases hc with hc | hc
   ·exact hall c hc
   ·simp only [Option.toList_some, List.mem_singleton] at hc
    subst hc
    intro e
    rw [e] at t1; simp at t1
 ·have : k = s.size := by have := of_decide_eq_false t; omega
  subst this
  rw [← hbs, List.take_length] at hall
  refine ⟨fun i w' => ∃ k : Nat, i = k ∧ k ≤ 54 ∧ w' = w5 ∧ ∀ j, j < k → bl s ≠ [] → ¬ spot (bl sortsS) (bl s) j, fun i _ => 54 - i.toNat, ⟨⟨0, rfl, by omega, rfl, fun j hj => by omega⟩, trivial⟩, ?_⟩
  rintro w10 _ ⟨k, rfl, hk, rfl, hno⟩
  have e1 : IntKind.wrap .i64 ((IntKind.wrap .i64 ((k : Int) + (s.size : Nat))) + 2) = ((k + s.size + 2 : Nat) : Int) := by
   rw [wrap_id (x := (k : Int) + (s.size : Nat)) (by omega) (by omega), wrap_id (by omega) (by omega)]; omega
  rw [e1]
  refine BoolK.mk (fun t => ?_) (fun t => ⟨?_, rfl⟩)
  ·have t := of_decide_eq_true t
   rw [hL] at t
   have next : (bl s ≠ [] → ¬ spot (bl sortsS) (bl s) k) → (∃ k' : Nat, IntKind.wrap .i64 ((k : Int) + 1) = (k' : Int) ∧ k' ≤ 54 ∧ w10 = w10 ∧ ∀ j, j < k' → bl s ≠ [] → ¬ spot (bl sortsS) (bl s) j) ∧ 54 - (IntKind.wrap .i64 ((k : Int) + 1)).toNat < 54 - ((k : Nat) : Int).toNat := fun h => by
    rw [wrap_succ (by omega)]
    refine ⟨⟨k + 1, rfl, by omega, rfl, fun j hj => ?_⟩, by simp; omega⟩
    rcases Nat.lt_or_ge j k with h1 | h1
    ·exact hno j h1
    ·have : j = k := by omega
     subst this; exact h
   refine BoolK.mk (fun t1 => ?_) (fun t1 => next fun h => ?_)
   ·have hne : bl s ≠ [] := by
     intro e
     have : s = ⟨#[]⟩ := bl_inj e
     rw [tl_iff.2 this] at t1; cases t1
    have sz3 : (((⟨#[32]⟩ : ByteArray) ++ s).size) = 1 + s.size := by rw [ByteArray.size_append]; rfl
    refine ⟨by omega, by omega, ⟨by simp only [Int.toNat_natCast]; omega, by rw [hL]; omega⟩, ?_, ?_, BoolK.mk (fun t2 => ⟨?_, rfl⟩) (fun t2 => next fun _ => ?_)⟩
    ·show (((1 + s.size : Nat)) : Int) ≤ 9223372036854775807; omega
    ·rw [sz3]; show (((1 + s.size + 1 : Nat)) : Int) ≤ 9223372036854775807; omega
    all_goals rw [bl_eq] at t2
    all_goals simp only [decide_eq_true_eq, decide_eq_false_iff_not, bl_append, bl_extract, Int.toNat_natCast] at t2
    ·symm
     refine spot_sort hall hne (i := k) ⟨by rw [bl_size, bl_size, hL]; omega, ?_⟩
     rw [List.extract_eq_take_drop] at t2
     rw [hbs]
     rw [show k + s.size + 2 - k = s.size + 2 by omega] at t2
     rw [t2]; rfl
    ·rintro ⟨_, h⟩
     apply t2
     rw [List.extract_eq_take_drop, show k + s.size + 2 - k = s.size + 2 by omega]
     rw [hbs] at h
     rw [h]; rfl
   ·have : s = ⟨#[]⟩ := by
     rw [Bool.not_eq_false'] at t1; exact tl_iff.1 t1
    subst this; exact absurd rfl h
  ·have t := of_decide_eq_false t
   rw [hL] at t
   symm; rw [← Bool.not_eq_true]; intro h
   obtain ⟨_, h2, i, h3⟩ := sort_spot h
   have h4 := h3.1
   rw [bl_size, bl_size, hL] at h4
   exact hno i (by omega) h2 h3
theorem ctr177 (w : World) (s : ByteArray) (most : Int) (hs : s.size ≤ maxLen) : Calls Tryz.prog 177 #[.string s, .int .i64 most] w fun en w' => ∃ p, en = .returned (.bool p) ∧ (p = prnD s most ∧ w' = w) := by
 refine calls177 _ _ _ w ?_
 simp only [maxLen] at hs
 have hbs := bl_size s
 refine ⟨fun i w' => ∃ k : Nat, i = k ∧ k ≤ s.size ∧ ((bl s).take k).all prn = true ∧ w' = w, fun i _ => s.size - i.toNat, ⟨⟨0, rfl, by omega, rfl, rfl⟩, trivial⟩, ?_⟩
 rintro w5 x ⟨k, rfl, hk, hall, rfl⟩
 refine BoolK.mk (fun t => ?_) (fun t => ?_)
 ·have hlt : k < s.size := by have := of_decide_eq_true t; omega
  have hlt2 : k < (bl s).length := by rw [hbs]; exact hlt
  have hg : s[((k : Nat) : Int).toNat]? = some (bl s)[k] := by rw [Int.toNat_natCast, bl_get, List.getElem?_eq_getElem hlt2]
  have step : ((bl s).take (k + 1)).all prn = prn (bl s)[k] := by
   rw [List.take_add_one, List.getElem?_eq_getElem hlt2, List.all_append, hall]; simp
  have no : prn (bl s)[k] = false → prnD s most = false := by
   intro h
   have : (bl s).all prn = false := by
    rw [Bool.eq_false_iff]; intro h2
    rw [List.all_eq_true] at h2
    have := h2 _ (List.getElem_mem hlt2); rw [h] at this; cases this
   rw [prnD, this]; rfl
  have go : prn (bl s)[k] = true → (∃ k' : Nat, IntKind.wrap .i64 ((k : Int) + 1) = (k' : Int) ∧ k' ≤ s.size ∧ ((bl s).take k').all prn = true ∧ w5 = w5) ∧ s.size - (IntKind.wrap .i64 ((k : Int) + 1)).toNat < s.size - ((k : Nat) : Int).toNat := by
   intro h
   rw [wrap_succ (by omega)]
   exact ⟨⟨k + 1, rfl, by omega, by rw [step]; exact h, rfl⟩, by simp; omega⟩
  refine ⟨(bl s)[k], ⟨by omega, hg⟩, BoolK.mk (fun t1 => ?_) (fun t1 => ?_)⟩
  ·have h10 : (bl s)[k].toNat ≠ 10 := by intro e; rw [e] at t1; simp at t1
   refine ⟨(bl s)[k], ⟨by omega, hg⟩, BoolK.mk (fun t2 => ?_) (fun t2 => ?_)⟩
   ·have := of_decide_eq_true t2
    exact ⟨(no (by simp [prn, h10]; omega)).symm, rfl⟩
   ·have := of_decide_eq_false t2
    refine ⟨(bl s)[k], ⟨by omega, hg⟩, BoolK.mk (fun t3 => ?_) (fun t3 => ?_)⟩
    ·have := of_decide_eq_true t3
     exact ⟨(no (by simp [prn, h10]; omega)).symm, rfl⟩
    ·have := of_decide_eq_false t3
     exact go (by simp [prn]; omega)
  ·have h10 : (bl s)[k].toNat = 10 := by
    simp only [bne_eq_false_iff_eq] at t1; omega
   exact go (by simp [prn, h10])
 ·have : k = s.size := by have := of_decide_eq_false t; omega
  subst this
  rw [← hbs, List.take_length] at hall
  exact ⟨by rw [prnD, hall]; rfl, rfl⟩
theorem ctr152 (w : World) (s : ByteArray) (at_ : Int) (hs : s.size ≤ maxLen) : Calls Tryz.prog 152 #[.agg #[.string kAtom, .string s, .int .i64 at_]] w fun en w' => ∃ p, en = .returned (.bool p) ∧ (p = atomD s ∧ Ext w w') := by
 refine calls152 _ _ _ _ w ?_
 refine AllocK.mk fun b w5 hb hB hx => ?_
 refine ⟨kAtom, by rw [hB.cell]; rfl, BoolK.mk (fun t => by rw [tl_iff] at t; simp [kAtom] at t) (fun _ => BoolK.mk (fun _ => ?_) (fun t => by rw [kAtom_eq] at t; cases t))⟩
 refine ⟨s, by rw [add_mk, hB.cell]; rfl, (ctr177 w5 s 60 hs).mono ?_⟩
 rintro en w13 ⟨p, rfl, rfl, rfl⟩
 exact ⟨_, rfl, rfl, hx⟩
theorem ctr110 (w : World) (s : ByteArray) (hs : s.size ≤ maxLen) : Calls Tryz.prog 110 #[.string s] w fun en w' => ∃ p, en = .returned (.bool p) ∧ (p = atomD s ∧ Ext w w') := by
 refine calls110 _ _ w ?_
 refine (ctr152 w s 0 hs).mono ?_
 rintro en w4 ⟨p, rfl, rfl, hx⟩
 exact ⟨_, rfl, rfl, hx⟩
theorem ctr111 (w : World) (f : Ft) (hs : f.2.size ≤ maxLen) : Calls Tryz.prog 111 #[.agg #[.int .i64 f.1, .string f.2]] w fun en w' => ∃ p, en = .returned (.bool p) ∧ (p = featD f ∧ Ext w w') := by
 refine calls111 _ _ _ w ?_
 refine AllocK.mk fun b w4 hb hB hx => ?_
 have g0 : w4.cell? (⟨b, 0, none⟩ : Addr) = some (.int .i64 f.1) := by rw [hB.cell]; rfl
 have g1 : w4.cell? ((⟨b, 0, none⟩ : Addr).add 1) = some (.string f.2) := by rw [add_mk, hB.cell]; rfl
 refine ⟨_, g0, BoolK.mk (fun t => ?_) (fun t => ?_)⟩
 ·have t : f.1 = 0 := by simpa using t
  refine ⟨_, g1, (ctr110 w4 f.2 hs).mono ?_⟩
  rintro en w8 ⟨p, rfl, rfl, hx8⟩
  have hB := hB.ext hx8
  refine ⟨_, rfl, BoolK.mk (fun t1 => ⟨by rw [featD, if_neg (by omega), t1], hx.trans hx8⟩) (fun t1 => ⟨f.1, by rw [hB.cell]; rfl, BoolK.mk (fun t2 => ?_) (fun _ => ⟨by rw [featD, if_neg (by omega), t1], hx.trans hx8⟩)⟩)⟩
  have := of_decide_eq_true t2; omega
 ·have t : f.1 ≠ 0 := by simpa using t
  refine ⟨_, g0, BoolK.mk (fun t1 => ?_) (fun t1 => ?_)⟩
  ·have t1 := of_decide_eq_true t1
   refine ⟨_, g0, BoolK.mk (fun t2 => ⟨_, g1, ?_, hx⟩) (fun t2 => ⟨?_, hx⟩)⟩
   ·have t2 := of_decide_eq_true t2
    rw [featD, if_pos t, Bool.eq_iff_iff, tl_iff, decide_eq_true_eq]
    exact ⟨fun h => ⟨by omega, t2, h⟩, fun h => h.2.2⟩
   ·have t2 := of_decide_eq_false t2
    rw [featD, if_pos t]; symm; rw [decide_eq_false_iff_not]; omega
  ·have t1 := of_decide_eq_false t1
   refine ⟨?_, hx⟩
   rw [featD, if_pos t]; symm; rw [decide_eq_false_iff_not]; omega
theorem ctr112 (w : World) (f g : Ft) : Calls Tryz.prog 112 #[.agg #[.int .i64 f.1, .string f.2], .agg #[.int .i64 g.1, .string g.2]] w fun en w' => ∃ p, en = .returned (.bool p) ∧ (p = lessD f g ∧ Ext w w') := by
 refine calls112 _ _ _ _ _ w ?_
 refine AllocK.mk fun b w4 hb hB hx => AllocK.mk fun b' w8 hb' hB' hx' => ?_
 have hB := hB.ext hx'
 have x8 := hx.trans hx'
 have g0 : w8.cell? (⟨b, 0, none⟩ : Addr) = some (.int .i64 f.1) := by rw [hB.cell]; rfl
 have g1 : w8.cell? ((⟨b, 0, none⟩ : Addr).add 1) = some (.string f.2) := by rw [add_mk, hB.cell]; rfl
 have k0 : w8.cell? (⟨b', 0, none⟩ : Addr) = some (.int .i64 g.1) := by rw [hB'.cell]; rfl
 have k1 : w8.cell? ((⟨b', 0, none⟩ : Addr).add 1) = some (.string g.2) := by rw [add_mk, hB'.cell]; rfl
 refine ⟨fun w' => ¬ (0 < f.1 ∧ 0 < g.1) ∧ w' = w8, ?_, ?_⟩
 ·rintro w10 ⟨t, rfl⟩
  refine ⟨_, g0, BoolK.mk (fun t1 => ⟨_, g0, ?_, x8⟩) (fun t1 => ⟨_, k0, BoolK.mk (fun t2 => ⟨_, g0, ?_, x8⟩) (fun t2 => ⟨_, g1, _, k1, ?_, x8⟩)⟩)⟩
  ·have t1 := of_decide_eq_true t1
   rw [lessD, if_neg t, if_pos (.inl (by omega))]
  all_goals have t1 := of_decide_eq_false t1
  ·have t2 := of_decide_eq_true t2
   rw [lessD, if_neg t, if_pos (.inr (by omega))]
  ·have t2 := of_decide_eq_false t2
   rw [lessD, if_neg t, if_neg (by omega)]
 ·refine ⟨_, g0, BoolK.mk (fun t => ⟨_, k0, BoolK.mk (fun t2 => ⟨_, g0, _, k0, ?_, x8⟩) (fun t2 => ⟨?_, rfl⟩)⟩) (fun t => ⟨?_, rfl⟩)⟩
  ·have t := of_decide_eq_true t
   have t2 := of_decide_eq_true t2
   rw [lessD, if_pos ⟨by omega, by omega⟩]
  ·have t2 := of_decide_eq_false t2; omega
  ·have t := of_decide_eq_false t; omega
end Go.Proofs.YtbiamhoonhjodacGreatDoor

namespace Go.Proofs.YtbiamhoonhjodacGreatDoor
open Go Go.V Go.Proofs
open Go.RowKit (Below)
set_option maxRecDepth 100000
/-! manystrand/manystrandref05.ValidNode -/
def N72 (s1 : ByteArray) (x2 : Int) (s3 : ByteArray) (a4 : Option Addr) (l4 : Nat) (c4 : Nat) (a5 : Option Addr) (l5 : Nat) (c5 : Nat) (x6 : Int) (K : Bool → World → Prop) (w : World) : Prop :=
 AllocK w (#[(.string s1), (.int .i64 x2), (.string s3), (.slice a4 l4 c4), (.slice a5 l5 c5)]) 36 fun b7 w8 =>
 ∃ s9, w8.cell? b7 = some (.string s9) ∧
 (BoolK (s9.toList == (⟨#[105, 110, 116]⟩ : ByteArray).toList)
 (∃ x10, w8.cell? (b7.add 1) = some (.int .i64 x10) ∧
 (BoolK (decide (x10 ≥ -999999999999999999))
 (∃ x11, w8.cell? (b7.add 1) = some (.int .i64 x11) ∧
 (BoolK (decide (x11 ≤ 999999999999999999))
 (∃ s12, w8.cell? (b7.add 2) = some (.string s12) ∧
 (BoolK (s12.toList == (⟨#[]⟩ : ByteArray).toList)
 (∃ a13 l13 c13, w8.cell? (b7.add 3) = some (.slice a13 l13 c13) ∧
 (BoolK ((l13 : Int) == 0)
 (∃ a14 l14 c14, w8.cell? (b7.add 4) = some (.slice a14 l14 c14) ∧
 (K ((l14 : Int) == 0) w8))
 (K false w8)))
 (K false w8)))
 (K false w8)))
 (K false w8)))
 (BoolK (s9.toList == (⟨#[118, 97, 114]⟩ : ByteArray).toList)
 (∃ x15, w8.cell? (b7.add 1) = some (.int .i64 x15) ∧
 (BoolK (decide (x15 ≥ 1))
 (∃ x16, w8.cell? (b7.add 1) = some (.int .i64 x16) ∧
 (BoolK (decide (x16 ≤ 999999999999999999))
 (∃ s17, w8.cell? (b7.add 2) = some (.string s17) ∧
 (BoolK (s17.toList == (⟨#[]⟩ : ByteArray).toList)
 (∃ a18 l18 c18, w8.cell? (b7.add 3) = some (.slice a18 l18 c18) ∧
 (BoolK ((l18 : Int) == 0)
 (∃ a19 l19 c19, w8.cell? (b7.add 4) = some (.slice a19 l19 c19) ∧
 (K ((l19 : Int) == 0) w8))
 (K false w8)))
 (K false w8)))
 (K false w8)))
 (K false w8)))
 (BoolK (s9.toList == (⟨#[114, 101, 102]⟩ : ByteArray).toList)
 (∃ x20, w8.cell? (b7.add 1) = some (.int .i64 x20) ∧
 (BoolK (decide (x20 ≥ 1))
 (∃ x21, w8.cell? (b7.add 1) = some (.int .i64 x21) ∧
 (BoolK (decide (x21 ≤ 999999999999999999))
 (∃ s22, w8.cell? (b7.add 2) = some (.string s22) ∧
 (Calls Tryz.prog 109 #[(.string s22), (.string (⟨#[32, 110, 97, 109, 101, 32, 112, 114, 111, 99, 32, 99, 101, 108, 108, 32, 112, 111, 114, 116, 32, 108, 111, 99, 107, 32, 100, 105, 99, 116, 32, 97, 114, 114, 97, 121, 32, 99, 104, 117, 110, 107, 32, 115, 112, 97, 99, 101, 32, 100, 101, 97, 100, 32]⟩ : ByteArray))] w8 fun e25 w24 =>
 ∃ p23, e25 = .returned (.bool p23) ∧
 (BoolK p23
 (∃ a26 l26 c26, w24.cell? (b7.add 3) = some (.slice a26 l26 c26) ∧
 (BoolK ((l26 : Int) == 0)
 (∃ a27 l27 c27, w24.cell? (b7.add 4) = some (.slice a27 l27 c27) ∧
 (K ((l27 : Int) == 0) w24))
 (K false w24)))
 (K false w24))))
 (K false w8)))
 (K false w8)))
 (BoolK (s9.toList == (⟨#[114, 101, 99]⟩ : ByteArray).toList)
 (∃ x28, w8.cell? (b7.add 1) = some (.int .i64 x28) ∧
 (BoolK (x28 != 0)
 (K false w8)
 (∃ s29, w8.cell? (b7.add 2) = some (.string s29) ∧
 (Calls Tryz.prog 110 #[(.string s29)] w8 fun e32 w31 =>
 ∃ p30, e32 = .returned (.bool p30) ∧
 (BoolK (!p30)
 (K false w31)
 (∃ a33 l33 c33, w31.cell? (b7.add 3) = some (.slice a33 l33 c33) ∧
 (∃ a34 l34 c34, w31.cell? (b7.add 4) = some (.slice a34 l34 c34) ∧
 (BoolK ((l33 : Int) != l34)
 (K false w31)
 (∃ (I35 : Int → World → Prop) (μ36 : Int → World → Nat),
 (I35 0 w31 ∧ True) ∧
 ∀ w37 x38, I35 x38 w37 →
 ∃ a39 l39 c39, w37.cell? (b7.add 3) = some (.slice a39 l39 c39) ∧
 (BoolK (decide (x38 < l39))
 (DrewK w37 fun w40 =>
 ∃ a41 l41 c41, w40.cell? (b7.add 3) = some (.slice a41 l41 c41) ∧
 ((0 ≤ x38 ∧ x38 < l41) ∧
 AddrK a41 fun b42 =>
 ∃ x43, w40.cell? ((b42.add (x38.toNat * 2)).add 0) = some (.int .i64 x43) ∧
 (∃ s44, w40.cell? ((b42.add (x38.toNat * 2)).add 1) = some (.string s44) ∧
 (Calls Tryz.prog 111 #[(.agg #[(.int .i64 x43), (.string s44)])] w40 fun e47 w46 =>
 ∃ p45, e47 = .returned (.bool p45) ∧
 (Cel w40 w46 ∧
 (BoolK (!p45)
 (((K false w46) ∧
 ((K false w46) ∧
 (K false w46))) ∧
 (((K false w46) ∧
 (K false w46)) ∧
 (K false w46)))
 (BoolK (decide (x38 > 0))
 ((∃ a48 l48 c48, w46.cell? (b7.add 3) = some (.slice a48 l48 c48) ∧
 ((0 ≤ (IntKind.wrap .i64 (x38 - 1) : Int) ∧ (IntKind.wrap .i64 (x38 - 1) : Int) < l48) ∧
 AddrK a48 fun b49 =>
 (∃ x50, w46.cell? ((b49.add ((IntKind.wrap .i64 (x38 - 1) : Int).toNat * 2)).add 0) = some (.int .i64 x50) ∧
 (∃ s51, w46.cell? ((b49.add ((IntKind.wrap .i64 (x38 - 1) : Int).toNat * 2)).add 1) = some (.string s51) ∧
 (∃ a52 l52 c52, w46.cell? (b7.add 3) = some (.slice a52 l52 c52) ∧
 ((0 ≤ x38 ∧ x38 < l52) ∧
 AddrK a52 fun b53 =>
 ∃ x54, w46.cell? ((b53.add (x38.toNat * 2)).add 0) = some (.int .i64 x54) ∧
 (∃ s55, w46.cell? ((b53.add (x38.toNat * 2)).add 1) = some (.string s55) ∧
 (Calls Tryz.prog 112 #[(.agg #[(.int .i64 x50), (.string s51)]), (.agg #[(.int .i64 x54), (.string s55)])] w46 fun e58 w57 =>
 ∃ p56, e58 = .returned (.bool p56) ∧
 (Cel w40 w57 ∧
 (BoolK (!p56)
 (K false w57)
 (∃ a59 l59 c59, w57.cell? (b7.add 4) = some (.slice a59 l59 c59) ∧
 ((0 ≤ x38 ∧ x38 < l59) ∧
 AddrK a59 fun b60 =>
 ∃ x61, w57.cell? (b60.add (x38.toNat * 1)) = some (.int .i64 x61) ∧
 (BoolK (decide (x61 < 0))
 (K false w57)
 (∃ a62 l62 c62, w57.cell? (b7.add 4) = some (.slice a62 l62 c62) ∧
 ((0 ≤ x38 ∧ x38 < l62) ∧
 AddrK a62 fun b63 =>
 ∃ x64, w57.cell? (b63.add (x38.toNat * 1)) = some (.int .i64 x64) ∧
 (BoolK (decide (x64 ≥ x6))
 (K false w57)
 (I35 (IntKind.wrap .i64 (x38 + 1)) w57 ∧ μ36 (IntKind.wrap .i64 (x38 + 1)) w57 < μ36 x38 w37))))))))))))))) ∧
 (∃ a65 l65 c65, w46.cell? (b7.add 3) = some (.slice a65 l65 c65) ∧
 ((0 ≤ x38 ∧ x38 < l65) ∧
 AddrK a65 fun b66 =>
 (∃ x67, w46.cell? ((b49.add ((IntKind.wrap .i64 (x38 - 1) : Int).toNat * 2)).add 0) = some (.int .i64 x67) ∧
 (∃ s68, w46.cell? ((b49.add ((IntKind.wrap .i64 (x38 - 1) : Int).toNat * 2)).add 1) = some (.string s68) ∧
 (∃ x69, w46.cell? ((b66.add (x38.toNat * 2)).add 0) = some (.int .i64 x69) ∧
 (∃ s70, w46.cell? ((b66.add (x38.toNat * 2)).add 1) = some (.string s70) ∧
 (Calls Tryz.prog 112 #[(.agg #[(.int .i64 x67), (.string s68)]), (.agg #[(.int .i64 x69), (.string s70)])] w46 fun e73 w72 =>
 ∃ p71, e73 = .returned (.bool p71) ∧
 (Cel w40 w72 ∧
 (BoolK (!p71)
 (K false w72)
 (∃ a74 l74 c74, w72.cell? (b7.add 4) = some (.slice a74 l74 c74) ∧
 ((0 ≤ x38 ∧ x38 < l74) ∧
 AddrK a74 fun b75 =>
 ∃ x76, w72.cell? (b75.add (x38.toNat * 1)) = some (.int .i64 x76) ∧
 (BoolK (decide (x76 < 0))
 (K false w72)
 (∃ a77 l77 c77, w72.cell? (b7.add 4) = some (.slice a77 l77 c77) ∧
 ((0 ≤ x38 ∧ x38 < l77) ∧
 AddrK a77 fun b78 =>
 ∃ x79, w72.cell? (b78.add (x38.toNat * 1)) = some (.int .i64 x79) ∧
 (BoolK (decide (x79 ≥ x6))
 (K false w72)
 (I35 (IntKind.wrap .i64 (x38 + 1)) w72 ∧ μ36 (IntKind.wrap .i64 (x38 + 1)) w72 < μ36 x38 w37)))))))))))))) ∧
 (∃ x80, w46.cell? ((b66.add (x38.toNat * 2)).add 0) = some (.int .i64 x80) ∧
 (∃ s81, w46.cell? ((b66.add (x38.toNat * 2)).add 1) = some (.string s81) ∧
 (∃ x82, w46.cell? ((b49.add ((IntKind.wrap .i64 (x38 - 1) : Int).toNat * 2)).add 0) = some (.int .i64 x82) ∧
 (∃ s83, w46.cell? ((b49.add ((IntKind.wrap .i64 (x38 - 1) : Int).toNat * 2)).add 1) = some (.string s83) ∧
 (Calls Tryz.prog 112 #[(.agg #[(.int .i64 x82), (.string s83)]), (.agg #[(.int .i64 x80), (.string s81)])] w46 fun e86 w85 =>
 ∃ p84, e86 = .returned (.bool p84) ∧
 (Cel w40 w85 ∧
 (BoolK (!p84)
 (K false w85)
 (∃ a87 l87 c87, w85.cell? (b7.add 4) = some (.slice a87 l87 c87) ∧
 ((0 ≤ x38 ∧ x38 < l87) ∧
 AddrK a87 fun b88 =>
 ∃ x89, w85.cell? (b88.add (x38.toNat * 1)) = some (.int .i64 x89) ∧
 (BoolK (decide (x89 < 0))
 (K false w85)
 (∃ a90 l90 c90, w85.cell? (b7.add 4) = some (.slice a90 l90 c90) ∧
 ((0 ≤ x38 ∧ x38 < l90) ∧
 AddrK a90 fun b91 =>
 ∃ x92, w85.cell? (b91.add (x38.toNat * 1)) = some (.int .i64 x92) ∧
 (BoolK (decide (x92 ≥ x6))
 (K false w85)
 (I35 (IntKind.wrap .i64 (x38 + 1)) w85 ∧ μ36 (IntKind.wrap .i64 (x38 + 1)) w85 < μ36 x38 w37)))))))))))))))))) ∧
 (∃ a93 l93 c93, w46.cell? (b7.add 3) = some (.slice a93 l93 c93) ∧
 ((0 ≤ x38 ∧ x38 < l93) ∧
 AddrK a93 fun b94 =>
 (∃ a95 l95 c95, w46.cell? (b7.add 3) = some (.slice a95 l95 c95) ∧
 ((0 ≤ (IntKind.wrap .i64 (x38 - 1) : Int) ∧ (IntKind.wrap .i64 (x38 - 1) : Int) < l95) ∧
 AddrK a95 fun b96 =>
 (∃ x97, w46.cell? ((b96.add ((IntKind.wrap .i64 (x38 - 1) : Int).toNat * 2)).add 0) = some (.int .i64 x97) ∧
 (∃ s98, w46.cell? ((b96.add ((IntKind.wrap .i64 (x38 - 1) : Int).toNat * 2)).add 1) = some (.string s98) ∧
 (∃ x99, w46.cell? ((b94.add (x38.toNat * 2)).add 0) = some (.int .i64 x99) ∧
 (∃ s100, w46.cell? ((b94.add (x38.toNat * 2)).add 1) = some (.string s100) ∧
 (Calls Tryz.prog 112 #[(.agg #[(.int .i64 x97), (.string s98)]), (.agg #[(.int .i64 x99), (.string s100)])] w46 fun e103 w102 =>
 ∃ p101, e103 = .returned (.bool p101) ∧
 (Cel w40 w102 ∧
 (BoolK (!p101)
 (K false w102)
 (∃ a104 l104 c104, w102.cell? (b7.add 4) = some (.slice a104 l104 c104) ∧
 ((0 ≤ x38 ∧ x38 < l104) ∧
 AddrK a104 fun b105 =>
 ∃ x106, w102.cell? (b105.add (x38.toNat * 1)) = some (.int .i64 x106) ∧
 (BoolK (decide (x106 < 0))
 (K false w102)
 (∃ a107 l107 c107, w102.cell? (b7.add 4) = some (.slice a107 l107 c107) ∧
 ((0 ≤ x38 ∧ x38 < l107) ∧
 AddrK a107 fun b108 =>
 ∃ x109, w102.cell? (b108.add (x38.toNat * 1)) = some (.int .i64 x109) ∧
 (BoolK (decide (x109 ≥ x6))
 (K false w102)
 (I35 (IntKind.wrap .i64 (x38 + 1)) w102 ∧ μ36 (IntKind.wrap .i64 (x38 + 1)) w102 < μ36 x38 w37)))))))))))))) ∧
 (∃ x110, w46.cell? ((b94.add (x38.toNat * 2)).add 0) = some (.int .i64 x110) ∧
 (∃ s111, w46.cell? ((b94.add (x38.toNat * 2)).add 1) = some (.string s111) ∧
 (∃ x112, w46.cell? ((b96.add ((IntKind.wrap .i64 (x38 - 1) : Int).toNat * 2)).add 0) = some (.int .i64 x112) ∧
 (∃ s113, w46.cell? ((b96.add ((IntKind.wrap .i64 (x38 - 1) : Int).toNat * 2)).add 1) = some (.string s113) ∧
 (Calls Tryz.prog 112 #[(.agg #[(.int .i64 x112), (.string s113)]), (.agg #[(.int .i64 x110), (.string s111)])] w46 fun e116 w115 =>
 ∃ p114, e116 = .returned (.bool p114) ∧
 (Cel w40 w115 ∧
 (BoolK (!p114)
 (K false w115)
 (∃ a117 l117 c117, w115.cell? (b7.add 4) = some (.slice a117 l117 c117) ∧
 ((0 ≤ x38 ∧ x38 < l117) ∧
 AddrK a117 fun b118 =>
 ∃ x119, w115.cell? (b118.add (x38.toNat * 1)) = some (.int .i64 x119) ∧
 (BoolK (decide (x119 < 0))
 (K false w115)
 (∃ a120 l120 c120, w115.cell? (b7.add 4) = some (.slice a120 l120 c120) ∧
 ((0 ≤ x38 ∧ x38 < l120) ∧
 AddrK a120 fun b121 =>
 ∃ x122, w115.cell? (b121.add (x38.toNat * 1)) = some (.int .i64 x122) ∧
 (BoolK (decide (x122 ≥ x6))
 (K false w115)
 (I35 (IntKind.wrap .i64 (x38 + 1)) w115 ∧ μ36 (IntKind.wrap .i64 (x38 + 1)) w115 < μ36 x38 w37)))))))))))))))) ∧
 (∃ x123, w46.cell? ((b94.add (x38.toNat * 2)).add 0) = some (.int .i64 x123) ∧
 (∃ s124, w46.cell? ((b94.add (x38.toNat * 2)).add 1) = some (.string s124) ∧
 (∃ a125 l125 c125, w46.cell? (b7.add 3) = some (.slice a125 l125 c125) ∧
 ((0 ≤ (IntKind.wrap .i64 (x38 - 1) : Int) ∧ (IntKind.wrap .i64 (x38 - 1) : Int) < l125) ∧
 AddrK a125 fun b126 =>
 ∃ x127, w46.cell? ((b126.add ((IntKind.wrap .i64 (x38 - 1) : Int).toNat * 2)).add 0) = some (.int .i64 x127) ∧
 (∃ s128, w46.cell? ((b126.add ((IntKind.wrap .i64 (x38 - 1) : Int).toNat * 2)).add 1) = some (.string s128) ∧
 (Calls Tryz.prog 112 #[(.agg #[(.int .i64 x127), (.string s128)]), (.agg #[(.int .i64 x123), (.string s124)])] w46 fun e131 w130 =>
 ∃ p129, e131 = .returned (.bool p129) ∧
 (Cel w40 w130 ∧
 (BoolK (!p129)
 (K false w130)
 (∃ a132 l132 c132, w130.cell? (b7.add 4) = some (.slice a132 l132 c132) ∧
 ((0 ≤ x38 ∧ x38 < l132) ∧
 AddrK a132 fun b133 =>
 ∃ x134, w130.cell? (b133.add (x38.toNat * 1)) = some (.int .i64 x134) ∧
 (BoolK (decide (x134 < 0))
 (K false w130)
 (∃ a135 l135 c135, w130.cell? (b7.add 4) = some (.slice a135 l135 c135) ∧
 ((0 ≤ x38 ∧ x38 < l135) ∧
 AddrK a135 fun b136 =>
 ∃ x137, w130.cell? (b136.add (x38.toNat * 1)) = some (.int .i64 x137) ∧
 (BoolK (decide (x137 ≥ x6))
 (K false w130)
 (I35 (IntKind.wrap .i64 (x38 + 1)) w130 ∧ μ36 (IntKind.wrap .i64 (x38 + 1)) w130 < μ36 x38 w37))))))))))))))))))
 (((∃ a138 l138 c138, w46.cell? (b7.add 4) = some (.slice a138 l138 c138) ∧
 ((0 ≤ x38 ∧ x38 < l138) ∧
 AddrK a138 fun b139 =>
 ∃ x140, w46.cell? (b139.add (x38.toNat * 1)) = some (.int .i64 x140) ∧
 (BoolK (decide (x140 < 0))
 (K false w46)
 (∃ a141 l141 c141, w46.cell? (b7.add 4) = some (.slice a141 l141 c141) ∧
 ((0 ≤ x38 ∧ x38 < l141) ∧
 AddrK a141 fun b142 =>
 ∃ x143, w46.cell? (b142.add (x38.toNat * 1)) = some (.int .i64 x143) ∧
 (BoolK (decide (x143 ≥ x6))
 (K false w46)
 (I35 (IntKind.wrap .i64 (x38 + 1)) w46 ∧ μ36 (IntKind.wrap .i64 (x38 + 1)) w46 < μ36 x38 w37))))))) ∧
 ((∃ a144 l144 c144, w46.cell? (b7.add 4) = some (.slice a144 l144 c144) ∧
 ((0 ≤ x38 ∧ x38 < l144) ∧
 AddrK a144 fun b145 =>
 ∃ x146, w46.cell? (b145.add (x38.toNat * 1)) = some (.int .i64 x146) ∧
 (BoolK (decide (x146 < 0))
 (K false w46)
 (∃ a147 l147 c147, w46.cell? (b7.add 4) = some (.slice a147 l147 c147) ∧
 ((0 ≤ x38 ∧ x38 < l147) ∧
 AddrK a147 fun b148 =>
 ∃ x149, w46.cell? (b148.add (x38.toNat * 1)) = some (.int .i64 x149) ∧
 (BoolK (decide (x149 ≥ x6))
 (K false w46)
 (I35 (IntKind.wrap .i64 (x38 + 1)) w46 ∧ μ36 (IntKind.wrap .i64 (x38 + 1)) w46 < μ36 x38 w37))))))) ∧
 (∃ a150 l150 c150, w46.cell? (b7.add 4) = some (.slice a150 l150 c150) ∧
 ((0 ≤ x38 ∧ x38 < l150) ∧
 AddrK a150 fun b151 =>
 ∃ x152, w46.cell? (b151.add (x38.toNat * 1)) = some (.int .i64 x152) ∧
 (BoolK (decide (x152 < 0))
 (K false w46)
 (∃ a153 l153 c153, w46.cell? (b7.add 4) = some (.slice a153 l153 c153) ∧
 ((0 ≤ x38 ∧ x38 < l153) ∧
 AddrK a153 fun b154 =>
 ∃ x155, w46.cell? (b154.add (x38.toNat * 1)) = some (.int .i64 x155) ∧
 (BoolK (decide (x155 ≥ x6))
 (K false w46)
 (I35 (IntKind.wrap .i64 (x38 + 1)) w46 ∧ μ36 (IntKind.wrap .i64 (x38 + 1)) w46 < μ36 x38 w37))))))))) ∧
 (((∃ a156 l156 c156, w46.cell? (b7.add 4) = some (.slice a156 l156 c156) ∧
 ((0 ≤ x38 ∧ x38 < l156) ∧
 AddrK a156 fun b157 =>
 ∃ x158, w46.cell? (b157.add (x38.toNat * 1)) = some (.int .i64 x158) ∧
 (BoolK (decide (x158 < 0))
 (K false w46)
 (∃ a159 l159 c159, w46.cell? (b7.add 4) = some (.slice a159 l159 c159) ∧
 ((0 ≤ x38 ∧ x38 < l159) ∧
 AddrK a159 fun b160 =>
 ∃ x161, w46.cell? (b160.add (x38.toNat * 1)) = some (.int .i64 x161) ∧
 (BoolK (decide (x161 ≥ x6))
 (K false w46)
 (I35 (IntKind.wrap .i64 (x38 + 1)) w46 ∧ μ36 (IntKind.wrap .i64 (x38 + 1)) w46 < μ36 x38 w37))))))) ∧
 (∃ a162 l162 c162, w46.cell? (b7.add 4) = some (.slice a162 l162 c162) ∧
 ((0 ≤ x38 ∧ x38 < l162) ∧
 AddrK a162 fun b163 =>
 ∃ x164, w46.cell? (b163.add (x38.toNat * 1)) = some (.int .i64 x164) ∧
 (BoolK (decide (x164 < 0))
 (K false w46)
 (∃ a165 l165 c165, w46.cell? (b7.add 4) = some (.slice a165 l165 c165) ∧
 ((0 ≤ x38 ∧ x38 < l165) ∧
 AddrK a165 fun b166 =>
 ∃ x167, w46.cell? (b166.add (x38.toNat * 1)) = some (.int .i64 x167) ∧
 (BoolK (decide (x167 ≥ x6))
 (K false w46)
 (I35 (IntKind.wrap .i64 (x38 + 1)) w46 ∧ μ36 (IntKind.wrap .i64 (x38 + 1)) w46 < μ36 x38 w37)))))))) ∧
 (∃ a168 l168 c168, w46.cell? (b7.add 4) = some (.slice a168 l168 c168) ∧
 ((0 ≤ x38 ∧ x38 < l168) ∧
 AddrK a168 fun b169 =>
 ∃ x170, w46.cell? (b169.add (x38.toNat * 1)) = some (.int .i64 x170) ∧
 (BoolK (decide (x170 < 0))
 (K false w46)
 (∃ a171 l171 c171, w46.cell? (b7.add 4) = some (.slice a171 l171 c171) ∧
 ((0 ≤ x38 ∧ x38 < l171) ∧
 AddrK a171 fun b172 =>
 ∃ x173, w46.cell? (b172.add (x38.toNat * 1)) = some (.int .i64 x173) ∧
 (BoolK (decide (x173 ≥ x6))
 (K false w46)
 (I35 (IntKind.wrap .i64 (x38 + 1)) w46 ∧ μ36 (IntKind.wrap .i64 (x38 + 1)) w46 < μ36 x38 w37))))))))))))))))
 (K true w37)))))))))))
 (K false w8)))))
def ann72 : Ann := (.two .nil (.two (.two .nil (.one (.two .nil (.two (.two .nil .nil) (.two .nil (.two (.two .nil .nil) (.two .nil (.two (.two .nil .nil) (.two .nil (.two (.two (.two .nil (.two (.two .nil .nil) .nil)) (.two (.two .nil (.one (.loop [(5, (.one (.int .i64)))] [1, 2] (.two (.two .nil (.two .nil .nil)) (.two (.one (.two (.anyC 43 (.take 0 (.take 1 (.take 2 (.take 3 (.take 4 (.one 5 (.take 6 (.take 7 (.take 8 (.take 9 (.take 10 (.take 11 (.take 13 (.take 14 (.take 17 (.take 19 (.both 12 (.take 15 (.both 16 (.one 18 (.take 20 (.one 21 (.one 22 (.take 23 (.take 24 (.take 25 (.take 26 (.take 27 (.take 29 (.one 28 (.take 30 (.one 31 (.take 32 (.take 33 (.take 34 (.take 35 (.take 37 (.take 40 (.one 36 (.take 38 (.one 39 (.take 41 (.take 42 .done)))))))))))))))))))))))) (.one 18 (.take 20 (.both 16 (.one 21 (.one 22 (.take 23 (.take 24 (.take 25 (.take 26 (.take 27 (.take 29 (.one 28 (.take 30 (.one 31 (.take 32 (.take 33 (.take 34 (.take 35 (.take 37 (.take 40 (.one 36 (.take 38 (.one 39 (.take 41 (.take 42 .done)))))))))))))))))))))) (.one 21 (.one 16 (.one 22 (.take 23 (.take 24 (.take 25 (.take 26 (.take 27 (.take 29 (.one 28 (.take 30 (.one 31 (.take 32 (.take 33 (.take 34 (.take 35 (.take 37 (.take 40 (.one 36 (.take 38 (.one 39 (.take 41 (.take 42 .done)))))))))))))))))))))))))))) (.one 18 (.take 20 (.both 12 (.take 15 (.both 16 (.one 21 (.one 22 (.take 23 (.take 24 (.take 25 (.take 26 (.take 27 (.take 29 (.one 28 (.take 30 (.one 31 (.take 32 (.take 33 (.take 34 (.take 35 (.take 37 (.take 40 (.one 36 (.take 38 (.one 39 (.take 41 (.take 42 .done)))))))))))))))))))))) (.one 21 (.one 16 (.one 22 (.take 23 (.take 24 (.take 25 (.take 26 (.take 27 (.take 29 (.one 28 (.take 30 (.one 31 (.take 32 (.take 33 (.take 34 (.take 35 (.take 37 (.take 40 (.one 36 (.take 38 (.one 39 (.take 41 (.take 42 .done))))))))))))))))))))))))) (.one 21 (.one 12 (.take 15 (.one 16 (.one 22 (.take 23 (.take 24 (.take 25 (.take 26 (.take 27 (.take 29 (.one 28 (.take 30 (.one 31 (.take 32 (.take 33 (.take 34 (.take 35 (.take 37 (.take 40 (.one 36 (.take 38 (.one 39 (.take 41 (.take 42 .done)))))))))))))))))))))))))))))))))))))))))))))) (.two (.two .nil .nil) .nil))) .nil))))) (.two .nil .nil))) .nil)))))))))) (.two .nil .nil)))
noncomputable def code72 : Code := match Tryz.f72.body with | some c => c | none => .skip
theorem calls72 (s1 : ByteArray) (x2 : Int) (s3 : ByteArray) (a4 : Option Addr) (l4 : Nat) (c4 : Nat) (a5 : Option Addr) (l5 : Nat) (c5 : Nat) (x6 : Int) (K : Bool → World → Prop) (w : World) (h : N72 s1 x2 s3 a4 l4 c4 a5 l5 c5 x6 K w) : Calls Tryz.prog 72 #[(.agg #[(.string s1), (.int .i64 x2), (.string s3), (.slice a4 l4 c4), (.slice a5 l5 c5)]), (.int .i64 x6)] w fun en w' => ∃ (p174 : Bool), en = .returned (.bool p174) ∧ K p174 w' :=
 fn_calls tabOk mixed Tryz.func72 (by kernel_rfl : Tryz.f72.body = some code72) ann72 [(.agg #[(.string s1), (.int .i64 x2), (.string s3), (.slice a4 l4 c4), (.slice a5 l5 c5)]), (.int .i64 x6)] [(.one .bool)] K w (by kernel_rfl) (by kernel_rfl) (by kernel_rfl) h
end Go.Proofs.YtbiamhoonhjodacGreatDoor

namespace Go.Proofs.YtbiamhoonhjodacGreatDoor
open Go Go.V Go.Proofs
open Go.RowKit (Below)
/-! manystrand/manystrandref05.ValidBut -/
def N41 (x1 : Int) (a2 : Option Addr) (l2 : Nat) (c2 : Nat) (x3 : Int) (K : Bool → World → Prop) (w : World) : Prop :=
 AllocK w (#[(.int .i64 x1), (.slice a2 l2 c2)]) 24 fun b4 w5 =>
 ∃ a6 l6 c6, w5.cell? (b4.add 1) = some (.slice a6 l6 c6) ∧
 (BoolK (decide ((l6 : Int) > x3))
 (K false w5)
 (∃ x7, w5.cell? b4 = some (.int .i64 x7) ∧
 (BoolK (decide (x7 < 0))
 (K false w5)
 (∃ x8, w5.cell? b4 = some (.int .i64 x8) ∧
 (∃ a9 l9 c9, w5.cell? (b4.add 1) = some (.slice a9 l9 c9) ∧
 (BoolK (decide (x8 ≥ l9))
 (K false w5)
 (∃ (I10 : Int → World → Prop) (μ11 : Int → World → Nat),
 (I10 0 w5 ∧ True) ∧
 ∀ w12 x13, I10 x13 w12 →
 ∃ a14 l14 c14, w12.cell? (b4.add 1) = some (.slice a14 l14 c14) ∧
 (BoolK (decide (x13 < l14))
 (DrewK w12 fun w15 =>
 ∃ a16 l16 c16, w15.cell? (b4.add 1) = some (.slice a16 l16 c16) ∧
 ((0 ≤ x13 ∧ x13 < l16) ∧
 AddrK a16 fun b17 =>
 ∃ s18, w15.cell? ((b17.add (x13.toNat * 5)).add 0) = some (.string s18) ∧
 (∃ x19, w15.cell? ((b17.add (x13.toNat * 5)).add 1) = some (.int .i64 x19) ∧
 (∃ s20, w15.cell? ((b17.add (x13.toNat * 5)).add 2) = some (.string s20) ∧
 (∃ a21 l21 c21, w15.cell? ((b17.add (x13.toNat * 5)).add 3) = some (.slice a21 l21 c21) ∧
 (∃ a22 l22 c22, w15.cell? ((b17.add (x13.toNat * 5)).add 4) = some (.slice a22 l22 c22) ∧
 (∃ a23 l23 c23, w15.cell? (b4.add 1) = some (.slice a23 l23 c23) ∧
 (Calls Tryz.prog 72 #[(.agg #[(.string s18), (.int .i64 x19), (.string s20), (.slice a21 l21 c21), (.slice a22 l22 c22)]), (.int .i64 l23)] w15 fun e26 w25 =>
 ∃ p24, e26 = .returned (.bool p24) ∧
 (BoolK (!p24)
 (K false w25)
 (I10 (IntKind.wrap .i64 (x13 + 1)) w25 ∧ μ11 (IntKind.wrap .i64 (x13 + 1)) w25 < μ11 x13 w12))))))))))
 (K true w12)))))))))
def ann41 : Ann := (.two .nil (.two (.two .nil (.two (.two .nil .nil) .nil)) (.two (.two .nil (.one (.loop [(5, (.one (.int .i64)))] [2] (.two (.two .nil (.two .nil .nil)) (.two (.one (.two (.anyC 8 (.take 0 (.take 1 (.take 2 (.take 3 (.take 4 (.take 5 (.take 6 (.take 7 .done))))))))) (.two (.two .nil .nil) .nil))) .nil))))) (.two .nil .nil))))
noncomputable def code41 : Code := match Tryz.f41.body with | some c => c | none => .skip
theorem calls41 (x1 : Int) (a2 : Option Addr) (l2 : Nat) (c2 : Nat) (x3 : Int) (K : Bool → World → Prop) (w : World) (h : N41 x1 a2 l2 c2 x3 K w) : Calls Tryz.prog 41 #[(.agg #[(.int .i64 x1), (.slice a2 l2 c2)]), (.int .i64 x3)] w fun en w' => ∃ (p27 : Bool), en = .returned (.bool p27) ∧ K p27 w' :=
 fn_calls tabOk mixed Tryz.func41 (by kernel_rfl : Tryz.f41.body = some code41) ann41 [(.agg #[(.int .i64 x1), (.slice a2 l2 c2)]), (.int .i64 x3)] [(.one .bool)] K w (by kernel_rfl) (by kernel_rfl) (by kernel_rfl) h
end Go.Proofs.YtbiamhoonhjodacGreatDoor

namespace Go.Proofs.YtbiamhoonhjodacGreatDoor
open Go Go.V Go.Proofs
open Go.RowKit (Below)
/-! manystrand/manystrandref05.Valid -/
def N21 (x1 : Int) (a2 : Option Addr) (l2 : Nat) (c2 : Nat) (K : Bool → World → Prop) (w : World) : Prop :=
 AllocK w (#[(.int .i64 x1), (.slice a2 l2 c2)]) 24 fun b3 w4 =>
 ∃ x5, w4.cell? (b3.add 0) = some (.int .i64 x5) ∧
 (∃ a6 l6 c6, w4.cell? (b3.add 1) = some (.slice a6 l6 c6) ∧
 (Calls Tryz.prog 41 #[(.agg #[(.int .i64 x5), (.slice a6 l6 c6)]), (.int .i64 1000)] w4 fun e9 w8 =>
 ∃ p7, e9 = .returned (.bool p7) ∧
 (K p7 w8)))
def ann21 : Ann := (.two .nil (.two .nil .nil))
noncomputable def code21 : Code := match Tryz.f21.body with | some c => c | none => .skip
theorem calls21 (x1 : Int) (a2 : Option Addr) (l2 : Nat) (c2 : Nat) (K : Bool → World → Prop) (w : World) (h : N21 x1 a2 l2 c2 K w) : Calls Tryz.prog 21 #[(.agg #[(.int .i64 x1), (.slice a2 l2 c2)])] w fun en w' => ∃ (p10 : Bool), en = .returned (.bool p10) ∧ K p10 w' :=
 fn_calls tabOk mixed Tryz.func21 (by kernel_rfl : Tryz.f21.body = some code21) ann21 [(.agg #[(.int .i64 x1), (.slice a2 l2 c2)])] [(.one .bool)] K w (by kernel_rfl) (by kernel_rfl) (by kernel_rfl) h
end Go.Proofs.YtbiamhoonhjodacGreatDoor

namespace Go.Proofs.YtbiamhoonhjodacGreatDoor
open Go Go.V Go.Proofs Go.V.Gr
open Go.RowKit (Below)
set_option maxRecDepth 100000 in
theorem ctr72 (w : World) (x : Nd) (n : Int) {a4 a5 : Option Addr} {l4 l5 : Nat} (c4 c5 : Nat) (htx : x.tx.size ≤ 1000000000000) (hfs : RL 2 RFt w a4 l4 x.fs) (hks : RL 1 RInt w a5 l5 x.ks) :
  Calls Tryz.prog 72 #[.agg #[.string x.kd, .int .i64 x.n, .string x.tx, .slice a4 l4 c4, .slice a5 l5 c5], .int .i64 n] w fun en w' => ∃ p, en = .returned (.bool p) ∧ ((p = true ↔ NdOk x n) ∧ Ext w w') := by
 refine calls72 _ _ _ _ _ _ _ _ _ _ _ w ?_
 have e4 := hfs.len; have e5 := hks.len; have m4 := hfs.2; have m5 := hks.2
 simp only [maxLen] at m4 m5
 have no : ∀ {P : Prop}, ¬ P → (false = true ↔ P) := fun h => ⟨fun e => (by cases e), fun e => absurd e h⟩
 refine AllocK.mk fun b w8 hb hB hx => ?_
 have g0 : ∀ {w' : World}, Ext w8 w' → w'.cell? (⟨b, 0, none⟩ : Addr) = some (.string x.kd) := fun k => by rw [(hB.ext k).cell]; rfl
 have g1 : ∀ {w' : World}, Ext w8 w' → w'.cell? ((⟨b, 0, none⟩ : Addr).add 1) = some (.int .i64 x.n) := fun k => by rw [add_mk, (hB.ext k).cell]; rfl
 have g2 : ∀ {w' : World}, Ext w8 w' → w'.cell? ((⟨b, 0, none⟩ : Addr).add 2) = some (.string x.tx) := fun k => by rw [add_mk, (hB.ext k).cell]; rfl
 have g3 : ∀ {w' : World}, Ext w8 w' → w'.cell? ((⟨b, 0, none⟩ : Addr).add 3) = some (.slice a4 l4 c4) := fun k => by rw [add_mk, (hB.ext k).cell]; rfl
 have g4 : ∀ {w' : World}, Ext w8 w' → w'.cell? ((⟨b, 0, none⟩ : Addr).add 4) = some (.slice a5 l5 c5) := fun k => by rw [add_mk, (hB.ext k).cell]; rfl
 have r8 := Ext.refl w8
 refine ⟨_, g0 r8, BoolK.mk (fun t => ?_) (fun n1 => BoolK.mk (fun t => ?_) (fun n2 => BoolK.mk (fun t => ?_) (fun n3 => BoolK.mk (fun t => ?_) (fun n4 => ?_))))⟩
 ·rw [NdOk.int_iff (tl_iff.1 t)]
  refine ⟨_, g1 r8, BoolK.mk (fun t1 => ⟨_, g1 r8, BoolK.mk (fun t2 => ⟨_, g2 r8, BoolK.mk (fun t3 => ⟨_, _, _, g3 r8, BoolK.mk (fun t4 => ⟨_, _, _, g4 r8, ?_, hx⟩) (fun t4 => ⟨no fun h => ?_, hx⟩)⟩) (fun t3 => ⟨no fun h => ?_, hx⟩)⟩) (fun t2 => ⟨no fun h => ?_, hx⟩)⟩) (fun t1 => ⟨no fun h => ?_, hx⟩)⟩
  ·have t1 := of_decide_eq_true t1; have t2 := of_decide_eq_true t2
   rw [len0 e5]; exact ⟨fun h => ⟨tl_iff.1 t3, (len0 e4).1 t4, h, t1, t2⟩, fun h => h.2.2.1⟩
  ·rw [(len0 e4).2 h.2.1] at t4; cases t4
  ·rw [tl_iff.2 h.1] at t3; cases t3
  ·have := of_decide_eq_false t2; omega
  ·have := of_decide_eq_false t1; omega
 ·rw [NdOk.var_iff (tl_iff.1 t)]
  refine ⟨_, g1 r8, BoolK.mk (fun t1 => ⟨_, g1 r8, BoolK.mk (fun t2 => ⟨_, g2 r8, BoolK.mk (fun t3 => ⟨_, _, _, g3 r8, BoolK.mk (fun t4 => ⟨_, _, _, g4 r8, ?_, hx⟩) (fun t4 => ⟨no fun h => ?_, hx⟩)⟩) (fun t3 => ⟨no fun h => ?_, hx⟩)⟩) (fun t2 => ⟨no fun h => ?_, hx⟩)⟩) (fun t1 => ⟨no fun h => ?_, hx⟩)⟩
  ·have t1 := of_decide_eq_true t1; have t2 := of_decide_eq_true t2
   rw [len0 e5]; exact ⟨fun h => ⟨tl_iff.1 t3, (len0 e4).1 t4, h, t1, t2⟩, fun h => h.2.2.1⟩
  ·rw [(len0 e4).2 h.2.1] at t4; cases t4
  ·rw [tl_iff.2 h.1] at t3; cases t3
  ·have := of_decide_eq_false t2; omega
  ·have := of_decide_eq_false t1; omega
 ·rw [NdOk.ref_iff (tl_iff.1 t)]
  refine ⟨_, g1 r8, BoolK.mk (fun t1 => ⟨_, g1 r8, BoolK.mk (fun t2 => ⟨_, g2 r8, ?_⟩) (fun t2 => ⟨no fun h => ?_, hx⟩)⟩) (fun t1 => ⟨no fun h => ?_, hx⟩)⟩
  ·have t1 := of_decide_eq_true t1; have t2 := of_decide_eq_true t2
   refine (ctr109 w8 x.tx htx).mono ?_
   rintro en w24 ⟨p, rfl, rfl, rfl⟩
   refine ⟨_, rfl, BoolK.mk (fun t3 => ⟨_, _, _, g3 r8, BoolK.mk (fun t4 => ⟨_, _, _, g4 r8, ?_, hx⟩) (fun t4 => ⟨no fun h => ?_, hx⟩)⟩) (fun t3 => ⟨no fun h => ?_, hx⟩)⟩
   ·rw [len0 e5]; exact ⟨fun h => ⟨t3, (len0 e4).1 t4, h, t1, t2⟩, fun h => h.2.2.1⟩
   ·rw [(len0 e4).2 h.2.1] at t4; cases t4
   ·rw [h.1] at t3; cases t3
  ·have := of_decide_eq_false t2; omega
  ·have := of_decide_eq_false t1; omega
 ·rw [NdOk.rec_iff (tl_iff.1 t)]
  refine ⟨_, g1 r8, BoolK.mk (fun t1 => ⟨no fun h => (by rw [h.1] at t1; cases t1), hx⟩) (fun t1 => ?_)⟩
  have t1 : x.n = 0 := by simpa using t1
  refine ⟨_, g2 r8, (ctr110 w8 x.tx (by simp only [maxLen]; omega)).mono ?_⟩
  rintro en w31 ⟨p, rfl, rfl, x31⟩
  have y31 := hx.trans x31
  refine ⟨_, rfl, BoolK.mk (fun t2 => ⟨no fun h => (by rw [h.2.1] at t2; cases t2), y31⟩) (fun t2 => ?_)⟩
  rw [Bool.not_eq_false'] at t2
  refine ⟨_, _, _, g3 x31, _, _, _, g4 x31, BoolK.mk (fun t3 => ⟨no fun h => (by rw [← e4, ← e5] at h; have := h.2.2.1; simp [this] at t3), y31⟩) (fun t3 => ?_)⟩
  have t3 : x.ks.length = x.fs.length := by rw [← e4, ← e5]; simp at t3; omega
  refine ⟨fun i w' => ∃ k : Nat, i = k ∧ k ≤ x.fs.length ∧ Ext w31 w' ∧ (∀ (i : Nat) (f : Ft), i < k → x.fs[i]? = some f → featD f = true ∧ ∀ g, 0 < i → x.fs[i - 1]? = some g → lessD g f = true) ∧ ∀ (i : Nat) (f : Int), i < k → x.ks[i]? = some f → 0 ≤ f ∧ f < n, fun i _ => x.fs.length - i.toNat, ⟨⟨0, rfl, by omega, Ext.refl _, fun i f hi => by omega, fun i f hi => by omega⟩, trivial⟩, ?_⟩
  rintro w37 _ ⟨k, rfl, hk, x37, hall, hall2⟩
  have z37 := x31.trans x37
  refine ⟨_, _, _, g3 z37, BoolK.mk (fun t4 => ?_) (fun t4 => ?_)⟩
  ·have hlt : k < x.fs.length := by have := of_decide_eq_true t4; omega
   have hltk : k < x.ks.length := by omega
   refine DrewK.mk fun w40 x40 => ?_
   have z40 := z37.trans x40
   obtain ⟨b1, ha, q0, q1, q2⟩ := ftAt (hfs.ext RFt.mono hx) z40 hlt
   refine ⟨_, _, _, g3 z40, ⟨by omega, by omega⟩, adK ha ⟨_, q0, _, q1, ?_⟩⟩
   refine (ctr111 w40 x.fs[k] q2).mono ?_
   rintro en w46 ⟨p, rfl, rfl, x46⟩
   have z46 := z40.trans x46
   have y46 := hx.trans z46
   have cel : Cel w40 w46 := Below.cel x46
   refine ⟨_, rfl, cel, BoolK.mk (fun t5 => ?_) (fun t5 => ?_)⟩
   ·have : ¬ featsOk x.fs := fun h => by have := (h k _ (List.getElem?_eq_getElem hlt)).1; rw [this] at t5; cases t5
    have := And.intro (no (P := x.n = 0 ∧ atomD x.tx = true ∧ x.ks.length = x.fs.length ∧ featsOk x.fs ∧ ∀ k ∈ x.ks, 0 ≤ k ∧ k < n) fun h => this h.2.2.2.1) y46
    exact ⟨⟨this, this, this⟩, ⟨this, this⟩, this⟩
   ·rw [Bool.not_eq_false'] at t5
    have tail : ∀ w' : World, Ext w46 w' → (∀ g, 0 < k → x.fs[k - 1]? = some g → lessD g x.fs[k] = true) →
      ∃ (a59 : Option Addr) (l59 : Nat) (c59 : Nat), w'.cell? ((⟨b, 0, none⟩ : Addr).add 4) = some (.slice a59 l59 c59) ∧
       ((0 ≤ ((k : Nat) : Int) ∧ ((k : Nat) : Int) < (l59 : Nat)) ∧ AddrK a59 fun b60 => ∃ (x61 : Int), w'.cell? (b60.add (((k : Nat) : Int).toNat * 1)) = some (.int .i64 x61) ∧
        (BoolK (decide ((x61 : Int) < 0)) ((false = true ↔ (x.n = 0 ∧ atomD x.tx = true ∧ x.ks.length = x.fs.length ∧ featsOk x.fs ∧ ∀ k ∈ x.ks, 0 ≤ k ∧ k < n)) ∧ Ext w w')
         (∃ (a62 : Option Addr) (l62 : Nat) (c62 : Nat), w'.cell? ((⟨b, 0, none⟩ : Addr).add 4) = some (.slice a62 l62 c62) ∧
          ((0 ≤ ((k : Nat) : Int) ∧ ((k : Nat) : Int) < (l62 : Nat)) ∧ AddrK a62 fun b63 => ∃ (x64 : Int), w'.cell? (b63.add (((k : Nat) : Int).toNat * 1)) = some (.int .i64 x64) ∧
           (BoolK (decide ((x64 : Int) ≥ n)) ((false = true ↔ (x.n = 0 ∧ atomD x.tx = true ∧ x.ks.length = x.fs.length ∧ featsOk x.fs ∧ ∀ k ∈ x.ks, 0 ≤ k ∧ k < n)) ∧ Ext w w')
            ((∃ k' : Nat, IntKind.wrap .i64 ((k : Int) + 1) = (k' : Int) ∧ k' ≤ x.fs.length ∧ Ext w31 w' ∧ (∀ (i : Nat) (f : Ft), i < k' → x.fs[i]? = some f → featD f = true ∧ ∀ g, 0 < i → x.fs[i - 1]? = some g → lessD g f = true) ∧ ∀ (i : Nat) (f : Int), i < k' → x.ks[i]? = some f → 0 ≤ f ∧ f < n) ∧
             x.fs.length - (IntKind.wrap .i64 ((k : Int) + 1)).toNat < x.fs.length - ((k : Nat) : Int).toNat)))))) := by
     intro w' x' hless
     have z' := z46.trans x'
     have y' := y46.trans x'
     obtain ⟨b2, hb2, k0⟩ := ksAt (hks.ext RInt.mono hx) z' hltk
     refine ⟨_, _, _, g4 z', ⟨by omega, by omega⟩, adK hb2 ⟨_, k0, BoolK.mk (fun t6 => ⟨no fun h => ?_, y'⟩) (fun t6 => ⟨_, _, _, g4 z', ⟨by omega, by omega⟩, adK hb2 ⟨_, k0, BoolK.mk (fun t7 => ⟨no fun h => ?_, y'⟩) (fun t7 => ?_)⟩⟩)⟩⟩
     ·have t6 := of_decide_eq_true t6
      have := h.2.2.2.2 _ (List.getElem_mem hltk); omega
     ·have t7 := of_decide_eq_true t7
      have := h.2.2.2.2 _ (List.getElem_mem hltk); omega
     ·have t6 := of_decide_eq_false t6; have t7 := of_decide_eq_false t7
      rw [wrap_succ (by omega)]
      refine ⟨⟨k + 1, rfl, by omega, ((x37.trans x40).trans x46).trans x', fun i f hi hf => ?_, fun i f hi hf => ?_⟩, by simp; omega⟩
      ·rcases Nat.lt_or_ge i k with h | h
       ·exact hall i f h hf
       ·have : i = k := by omega
        subst this
        rw [List.getElem?_eq_getElem hlt] at hf; cases hf
        exact ⟨t5, hless⟩
      ·rcases Nat.lt_or_ge i k with h | h
       ·exact hall2 i f h hf
       ·have : i = k := by omega
        subst this
        rw [List.getElem?_eq_getElem hltk] at hf; cases hf
        omega
    refine BoolK.mk (fun t6 => ?_) (fun t6 => ?_)
    ·have t6 : 0 < k := by have := of_decide_eq_true t6; omega
     rw [wrap_pred t6 (by omega)]
     have hlt' : k - 1 < x.fs.length := by omega
     obtain ⟨b2, ha2, r0, r1, _⟩ := ftAt (hfs.ext RFt.mono hx) z46 hlt'
     obtain ⟨b1', ha1, q0, q1, _⟩ := ftAt (hfs.ext RFt.mono hx) z46 hlt
     have hless := fun (w' : World) (x' : Ext w46 w') (h : lessD x.fs[k - 1] x.fs[k] = true) => tail w' x' fun g _ hg => (by rw [List.getElem?_eq_getElem hlt'] at hg; cases hg; exact h)
     have nless : lessD x.fs[k - 1] x.fs[k] = false → ∀ w', Ext w46 w' → ((false = true ↔ (x.n = 0 ∧ atomD x.tx = true ∧ x.ks.length = x.fs.length ∧ featsOk x.fs ∧ ∀ k ∈ x.ks, 0 ≤ k ∧ k < n)) ∧ Ext w w') := fun h7 w' x' =>
      ⟨no fun h => (by have := (h.2.2.2.1 k _ (List.getElem?_eq_getElem hlt)).2 _ t6 (List.getElem?_eq_getElem hlt'); rw [this] at h7; cases h7), y46.trans x'⟩
     have less := ctr112 w46 x.fs[k - 1] x.fs[k]
     have i1 : 0 ≤ ((k - 1 : Nat) : Int) ∧ ((k - 1 : Nat) : Int) < (l4 : Nat) := by omega
     have i2 : 0 ≤ ((k : Nat) : Int) ∧ ((k : Nat) : Int) < (l4 : Nat) := by omega
     have G3 := g3 z46
     refine ⟨⟨_, _, _, G3, i1, adK ha2 ⟨⟨_, r0, _, r1, _, _, _, G3, i2, adK ha1 ⟨_, q0, _, q1, less.mono ?_⟩⟩, _, _, _, G3, i2, adK ha1 ⟨⟨_, r0, _, r1, _, q0, _, q1, less.mono ?_⟩, _, q0, _, q1, _, r0, _, r1, less.mono ?_⟩⟩⟩,
      ⟨_, _, _, G3, i2, adK ha1 ⟨⟨_, _, _, G3, i1, adK ha2 ⟨⟨_, r0, _, r1, _, q0, _, q1, less.mono ?_⟩, _, q0, _, q1, _, r0, _, r1, less.mono ?_⟩⟩, _, q0, _, q1, _, _, _, G3, i1, adK ha2 ⟨_, r0, _, r1, less.mono ?_⟩⟩⟩⟩
     all_goals
      rintro en w57 ⟨p, rfl, rfl, x57⟩
      exact ⟨_, rfl, Below.cel (x46.trans x57), BoolK.mk (fun t7 => nless (by simpa using t7) _ x57) (fun t7 => hless _ x57 (by simpa using t7))⟩
    ·have t6 : ¬ 0 < k := by have := of_decide_eq_false t6; omega
     have := tail w46 (Ext.refl _) fun g hg => absurd hg t6
     exact ⟨⟨this, this, this⟩, ⟨this, this⟩, this⟩
  ·have : k = x.fs.length := by have := of_decide_eq_false t4; omega
   subst this
   refine ⟨⟨fun _ => ⟨t1, t2, t3, fun i f hf => hall i f (List.getElem?_eq_some_iff.1 hf).1 hf, fun q hq => ?_⟩, fun _ => rfl⟩, hx.trans z37⟩
   obtain ⟨i, hi⟩ := List.getElem?_of_mem hq
   exact hall2 i q (by rw [← t3]; exact (List.getElem?_eq_some_iff.1 hi).1) hi
 ·exact ⟨⟨fun h => (by cases h), fun h => absurd h (NdOk.other (tl_no n1) (tl_no n2) (tl_no n3) (tl_no n4))⟩, hx⟩
theorem ctr41 (w : World) (root : Int) (xs : List Nd) {a : Option Addr} {l : Nat} (c : Nat) (h : RNds w a l xs) (hl : LimT xs) (most : Nat) :
  Calls Tryz.prog 41 #[.agg #[.int .i64 root, .slice a l c], .int .i64 (most : Int)] w fun en w' => ∃ p, en = .returned (.bool p) ∧ ((p = true ↔ GrOk root xs most) ∧ Ext w w') := by
 refine calls41 _ _ _ _ _ _ w ?_
 have hl' := h.len; have hm := h.2
 simp only [maxLen] at hm
 have no : ∀ {P : Prop}, ¬ P → (false = true ↔ P) := fun h => ⟨fun e => (by cases e), fun e => absurd e h⟩
 refine AllocK.mk fun b w4 hb hB hx => ?_
 have g0 : w4.cell? (⟨b, 0, none⟩ : Addr) = some (.int .i64 root) := by rw [hB.cell]; rfl
 have g1 : ∀ {w' : World}, Ext w4 w' → w'.cell? ((⟨b, 0, none⟩ : Addr).add 1) = some (.slice a l c) := fun k => by rw [add_mk, (hB.ext k).cell]; rfl
 have r4 := Ext.refl w4
 refine ⟨_, _, _, g1 r4, BoolK.mk (fun t => ⟨no fun k => ?_, hx⟩) (fun t1 => ⟨_, g0, BoolK.mk (fun t => ⟨no fun k => ?_, hx⟩) (fun t2 => ⟨_, g0, _, _, _, g1 r4, BoolK.mk (fun t => ⟨no fun k => ?_, hx⟩) (fun t3 => ?_)⟩)⟩)⟩
 ·have := of_decide_eq_true t; have := k.most; omega
 ·have := of_decide_eq_true t; have := k.root; omega
 ·have := of_decide_eq_true t; have := k.root; omega
 have t1 := of_decide_eq_false t1; have t2 := of_decide_eq_false t2; have t3 := of_decide_eq_false t3
 refine ⟨fun i w' => ∃ k : Nat, i = k ∧ k ≤ xs.length ∧ Ext w4 w' ∧ ∀ (i : Nat) (x : Nd), i < k → xs[i]? = some x → NdOk x xs.length, fun i _ => xs.length - i.toNat, ⟨⟨0, rfl, by omega, Ext.refl _, fun i x hi => by omega⟩, trivial⟩, ?_⟩
 rintro w11 _ ⟨k, rfl, hk, x11, hall⟩
 refine ⟨_, _, _, g1 x11, BoolK.mk (fun t => ?_) (fun t => ?_)⟩
 ·have hlt : k < xs.length := by have := of_decide_eq_true t; omega
  refine DrewK.mk fun w15 x15 => ?_
  have x15 := x11.trans x15
  obtain ⟨b1, ha, h0, h1, h2, h3, h4, ⟨a3, l3, c3, h5, h6⟩, ⟨a4, l4, c4, h7, h8⟩, _⟩ := ndAt h (hx.trans x15) hlt
  refine ⟨_, _, _, g1 x15, ⟨by omega, by omega⟩, adK ha ⟨_, h0, _, h1, _, h2, _, _, _, h5, _, _, _, h7, _, _, _, g1 x15, ?_⟩⟩
  have e : ((l : Nat) : Int) = xs.length := by omega
  rw [e]
  refine (ctr72 w15 xs[k] xs.length c3 c4 (hl _ (List.getElem_mem hlt)) h6 h8).mono ?_
  rintro en w32 ⟨p, rfl, hp, x32⟩
  have y := x15.trans x32
  refine ⟨_, rfl, BoolK.mk (fun t5 => ⟨no fun k' => ?_, hx.trans y⟩) (fun t5 => ?_)⟩
  ·have := hp.2 (k'.nds _ (List.getElem_mem hlt)); rw [this] at t5; cases t5
  ·rw [Bool.not_eq_false'] at t5
   rw [wrap_succ (by omega)]
   refine ⟨⟨k + 1, rfl, by omega, y, fun i x hi hxi => ?_⟩, by simp; omega⟩
   rcases Nat.lt_or_ge i k with h | h
   ·exact hall i x h hxi
   ·have : i = k := by omega
    subst this
    rw [List.getElem?_eq_getElem hlt] at hxi; cases hxi
    exact hp.1 t5
 ·have : k = xs.length := by have := of_decide_eq_false t; omega
  subst this
  refine ⟨⟨fun _ => ⟨by omega, by omega, fun x hx => ?_⟩, fun _ => rfl⟩, hx.trans x11⟩
  obtain ⟨i, hi⟩ := List.getElem?_of_mem hx
  exact hall i x (List.getElem?_eq_some_iff.1 hi).1 hi
theorem ctr21 (w : World) (root : Int) (xs : List Nd) {a : Option Addr} {l : Nat} (c : Nat) (h : RNds w a l xs) (hl : LimT xs) :
  Calls Tryz.prog 21 #[.agg #[.int .i64 root, .slice a l c]] w fun en w' => ∃ p, en = .returned (.bool p) ∧ ((p = true ↔ GrOk root xs 1000) ∧ Ext w w') := by
 refine calls21 _ _ _ _ _ w ?_
 refine AllocK.mk fun b w4 hb hB hx => ?_
 obtain ⟨g0, g1, _⟩ := blkAt2 hB
 refine ⟨_, g0, _, _, _, g1, (ctr41 w4 root xs c (RNds.at h hx) hl 1000).mono ?_⟩
 rintro en w8 ⟨p, rfl, hp, x8⟩
 exact ⟨_, rfl, hp, hx.trans x8⟩
end Go.Proofs.YtbiamhoonhjodacGreatDoor

namespace Go.Proofs.YtbiamhoonhjodacGreatDoor
open Go Go.V Go.Proofs
open Go.RowKit (Below)
/-! manystrand/manystrandref05.compareInts -/
def N24 (x1 : Int) (x2 : Int) (K : Int → World → Prop) (w : World) : Prop :=
 BoolK (decide (x1 < x2))
 (K (-1) w)
 (BoolK (decide (x1 > x2))
 (K 1 w)
 (K 0 w))
def ann24 : Ann := (.two .nil (.two (.two .nil (.two (.two .nil .nil) .nil)) (.two (.two .nil (.two (.two .nil .nil) .nil)) (.two .nil .nil))))
noncomputable def code24 : Code := match Tryz.f24.body with | some c => c | none => .skip
theorem calls24 (x1 : Int) (x2 : Int) (K : Int → World → Prop) (w : World) (h : N24 x1 x2 K w) : Calls Tryz.prog 24 #[(.int .i64 x1), (.int .i64 x2)] w fun en w' => ∃ (x3 : Int), en = .returned (.int .i64 x3) ∧ K x3 w' :=
 fn_calls tabOk mixed Tryz.func24 (by kernel_rfl : Tryz.f24.body = some code24) ann24 [(.int .i64 x1), (.int .i64 x2)] [(.one (.int .i64))] K w (by kernel_rfl) (by kernel_rfl) (by kernel_rfl) h
end Go.Proofs.YtbiamhoonhjodacGreatDoor

namespace Go.Proofs.YtbiamhoonhjodacGreatDoor
open Go Go.V Go.Proofs
open Go.RowKit (Below)
/-! manystrand/manystrandref05.compareTexts -/
def N114 (s1 : ByteArray) (s2 : ByteArray) (K : Int → World → Prop) (w : World) : Prop :=
 BoolK (Op.bytesLess s1.toList s2.toList)
 (K (-1) w)
 (BoolK (!(Op.bytesLess s1.toList s2.toList || s1.toList == s2.toList))
 (K 1 w)
 (K 0 w))
def ann114 : Ann := (.two .nil (.two (.two .nil (.two (.two .nil .nil) .nil)) (.two (.two .nil (.two (.two .nil .nil) .nil)) (.two .nil .nil))))
noncomputable def code114 : Code := match Tryz.f114.body with | some c => c | none => .skip
theorem calls114 (s1 : ByteArray) (s2 : ByteArray) (K : Int → World → Prop) (w : World) (h : N114 s1 s2 K w) : Calls Tryz.prog 114 #[(.string s1), (.string s2)] w fun en w' => ∃ (x3 : Int), en = .returned (.int .i64 x3) ∧ K x3 w' :=
 fn_calls tabOk mixed Tryz.func114 (by kernel_rfl : Tryz.f114.body = some code114) ann114 [(.string s1), (.string s2)] [(.one (.int .i64))] K w (by kernel_rfl) (by kernel_rfl) (by kernel_rfl) h
end Go.Proofs.YtbiamhoonhjodacGreatDoor

namespace Go.Proofs.YtbiamhoonhjodacGreatDoor
open Go Go.V Go.Proofs
open Go.RowKit (Below)
/-! manystrand/manystrandref05.order -/
def N113 (s1 : ByteArray) (K : Int → World → Prop) (w : World) : Prop :=
 BoolK (s1.toList == (⟨#[105, 110, 116]⟩ : ByteArray).toList)
 (K 0 w)
 (BoolK (s1.toList == (⟨#[114, 101, 99]⟩ : ByteArray).toList)
 (K 1 w)
 (BoolK (s1.toList == (⟨#[118, 97, 114]⟩ : ByteArray).toList)
 (K 2 w)
 (K 3 w)))
def ann113 : Ann := (.two .nil (.two (.two .nil (.one (.two .nil (.two (.two .nil .nil) (.two .nil (.two (.two .nil .nil) (.two .nil (.two (.two .nil .nil) .nil)))))))) (.two .nil .nil)))
noncomputable def code113 : Code := match Tryz.f113.body with | some c => c | none => .skip
theorem calls113 (s1 : ByteArray) (K : Int → World → Prop) (w : World) (h : N113 s1 K w) : Calls Tryz.prog 113 #[(.string s1)] w fun en w' => ∃ (x2 : Int), en = .returned (.int .i64 x2) ∧ K x2 w' :=
 fn_calls tabOk mixed Tryz.func113 (by kernel_rfl : Tryz.f113.body = some code113) ann113 [(.string s1)] [(.one (.int .i64))] K w (by kernel_rfl) (by kernel_rfl) (by kernel_rfl) h
end Go.Proofs.YtbiamhoonhjodacGreatDoor

namespace Go.Proofs.YtbiamhoonhjodacGreatDoor
open Go Go.V Go.Proofs
open Go.RowKit (Below)
/-! manystrand/manystrandref05.CompareNodes -/
def N73 (s1 : ByteArray) (x2 : Int) (s3 : ByteArray) (a4 : Option Addr) (l4 : Nat) (c4 : Nat) (a5 : Option Addr) (l5 : Nat) (c5 : Nat) (s6 : ByteArray) (x7 : Int) (s8 : ByteArray) (a9 : Option Addr) (l9 : Nat) (c9 : Nat) (a10 : Option Addr) (l10 : Nat) (c10 : Nat) (K : Int → World → Prop) (w : World) : Prop :=
 AllocK w (#[(.string s1), (.int .i64 x2), (.string s3), (.slice a4 l4 c4), (.slice a5 l5 c5)]) 36 fun b11 w12 =>
 AllocK w12 (#[(.string s6), (.int .i64 x7), (.string s8), (.slice a9 l9 c9), (.slice a10 l10 c10)]) 36 fun b13 w14 =>
 DrewK w14 fun w15 =>
 ∃ s16, w15.cell? b11 = some (.string s16) ∧
 (∃ s17, w15.cell? b13 = some (.string s17) ∧
 (Calls Tryz.prog 113 #[(.string s16)] w15 fun e20 w19 =>
 ∃ x18, e20 = .returned (.int .i64 x18) ∧
 (Cel w15 w19 ∧
 (Calls Tryz.prog 113 #[(.string s17)] w19 fun e23 w22 =>
 ∃ x21, e23 = .returned (.int .i64 x21) ∧
 (Calls Tryz.prog 24 #[(.int .i64 x18), (.int .i64 x21)] w22 fun e26 w25 =>
 ∃ x24, e26 = .returned (.int .i64 x24) ∧
 (BoolK (x24 != 0)
 (K x24 w25)
 (∃ s27, w25.cell? b11 = some (.string s27) ∧
 (∃ (J28 : Bool → World → Prop),
 (∀ w29 p30, J28 p30 w29 →
 BoolK p30
 (∃ x31, w29.cell? (b11.add 1) = some (.int .i64 x31) ∧
 (∃ x32, w29.cell? (b13.add 1) = some (.int .i64 x32) ∧
 (Calls Tryz.prog 24 #[(.int .i64 x31), (.int .i64 x32)] w29 fun e35 w34 =>
 ∃ x33, e35 = .returned (.int .i64 x33) ∧
 (K x33 w34))))
 (BoolK (s27.toList == (⟨#[114, 101, 102]⟩ : ByteArray).toList)
 (∃ s36, w29.cell? (b11.add 2) = some (.string s36) ∧
 (∃ s37, w29.cell? (b13.add 2) = some (.string s37) ∧
 (Calls Tryz.prog 114 #[(.string s36), (.string s37)] w29 fun e40 w39 =>
 ∃ x38, e40 = .returned (.int .i64 x38) ∧
 (BoolK (x38 != 0)
 (K x38 w39)
 (∃ x41, w39.cell? (b11.add 1) = some (.int .i64 x41) ∧
 (∃ x42, w39.cell? (b13.add 1) = some (.int .i64 x42) ∧
 (Calls Tryz.prog 24 #[(.int .i64 x41), (.int .i64 x42)] w39 fun e45 w44 =>
 ∃ x43, e45 = .returned (.int .i64 x43) ∧
 (K x43 w44))))))))
 (∃ s46, w29.cell? (b11.add 2) = some (.string s46) ∧
 (∃ s47, w29.cell? (b13.add 2) = some (.string s47) ∧
 (Calls Tryz.prog 114 #[(.string s46), (.string s47)] w29 fun e50 w49 =>
 ∃ x48, e50 = .returned (.int .i64 x48) ∧
 (BoolK (x48 != 0)
 (K x48 w49)
 (∃ a51 l51 c51, w49.cell? (b11.add 3) = some (.slice a51 l51 c51) ∧
 (∃ a52 l52 c52, w49.cell? (b13.add 3) = some (.slice a52 l52 c52) ∧
 (Calls Tryz.prog 24 #[(.int .i64 l51), (.int .i64 l52)] w49 fun e55 w54 =>
 ∃ x53, e55 = .returned (.int .i64 x53) ∧
 (BoolK (x53 != 0)
 (K x53 w54)
 (∃ (I56 : Int → World → Prop) (μ57 : Int → World → Nat),
 (I56 0 w54 ∧ True) ∧
 ∀ w58 x59, I56 x59 w58 →
 ∃ a60 l60 c60, w58.cell? (b11.add 3) = some (.slice a60 l60 c60) ∧
 (BoolK (decide (x59 < l60))
 (DrewK w58 fun w61 =>
 ∃ a62 l62 c62, w61.cell? (b11.add 3) = some (.slice a62 l62 c62) ∧
 ((0 ≤ x59 ∧ x59 < l62) ∧
 AddrK a62 fun b63 =>
 ∃ x64, w61.cell? ((b63.add (x59.toNat * 2)).add 0) = some (.int .i64 x64) ∧
 (∃ s65, w61.cell? ((b63.add (x59.toNat * 2)).add 1) = some (.string s65) ∧
 (∃ a66 l66 c66, w61.cell? (b13.add 3) = some (.slice a66 l66 c66) ∧
 ((0 ≤ x59 ∧ x59 < l66) ∧
 AddrK a66 fun b67 =>
 ∃ x68, w61.cell? ((b67.add (x59.toNat * 2)).add 0) = some (.int .i64 x68) ∧
 (∃ s69, w61.cell? ((b67.add (x59.toNat * 2)).add 1) = some (.string s69) ∧
 (BoolK (!((x64 == x68) && ((s65 == s69) && (true))))
 (DrewK w61 fun w70 =>
 ∃ a71 l71 c71, w70.cell? (b11.add 3) = some (.slice a71 l71 c71) ∧
 ((0 ≤ x59 ∧ x59 < l71) ∧
 AddrK a71 fun b72 =>
 ∃ x73, w70.cell? ((b72.add (x59.toNat * 2)).add 0) = some (.int .i64 x73) ∧
 (∃ s74, w70.cell? ((b72.add (x59.toNat * 2)).add 1) = some (.string s74) ∧
 (∃ a75 l75 c75, w70.cell? (b13.add 3) = some (.slice a75 l75 c75) ∧
 ((0 ≤ x59 ∧ x59 < l75) ∧
 AddrK a75 fun b76 =>
 ∃ x77, w70.cell? ((b76.add (x59.toNat * 2)).add 0) = some (.int .i64 x77) ∧
 (∃ s78, w70.cell? ((b76.add (x59.toNat * 2)).add 1) = some (.string s78) ∧
 (Calls Tryz.prog 112 #[(.agg #[(.int .i64 x73), (.string s74)]), (.agg #[(.int .i64 x77), (.string s78)])] w70 fun e81 w80 =>
 ∃ p79, e81 = .returned (.bool p79) ∧
 (BoolK p79
 (K (-1) w80)
 (K 1 w80)))))))))
 (I56 (IntKind.wrap .i64 (x59 + 1)) w61 ∧ μ57 (IntKind.wrap .i64 (x59 + 1)) w61 < μ57 x59 w58))))))))
 (K 0 w58))))))))))))) ∧
 (BoolK (s27.toList == (⟨#[105, 110, 116]⟩ : ByteArray).toList)
 (J28 (s27.toList == (⟨#[105, 110, 116]⟩ : ByteArray).toList) w25)
 (J28 (s27.toList == (⟨#[118, 97, 114]⟩ : ByteArray).toList) w25))))))))))
def ann73 : Ann := (.two .nil (.two (.two (.anyC 6 (.take 0 (.take 1 (.take 3 (.take 4 (.one 2 (.one 5 .done))))))) (.two .nil (.two (.two .nil .nil) .nil))) (.two (.two .nil (.one (.cut [(22, (.one .bool))] [2, 3, 21] (.two .nil (.two .nil .nil)) (.two (.two .nil .nil) (.two .nil (.two (.two (.two .nil (.two .nil (.two (.two .nil .nil) .nil))) (.two .nil .nil)) .nil)))))) (.two (.two .nil (.two .nil (.two (.two .nil .nil) .nil))) (.two (.two .nil (.two .nil (.two (.two .nil .nil) .nil))) (.two (.two .nil (.one (.loop [(9, (.one (.int .i64)))] [2, 3] (.two (.two .nil (.two .nil .nil)) (.two (.one (.two (.anyC 11 (.take 0 (.take 1 (.take 2 (.take 3 (.take 4 (.take 5 (.take 6 (.take 7 (.take 8 (.take 9 (.take 10 .done)))))))))))) (.two (.two (.two (.anyC 10 (.take 0 (.take 1 (.take 2 (.take 3 (.take 4 (.take 5 (.take 6 (.take 7 (.take 8 (.take 9 .done))))))))))) (.two (.two .nil .nil) .nil)) (.two .nil .nil)) .nil))) .nil))))) (.two .nil .nil)))))))
noncomputable def code73 : Code := match Tryz.f73.body with | some c => c | none => .skip
theorem calls73 (s1 : ByteArray) (x2 : Int) (s3 : ByteArray) (a4 : Option Addr) (l4 : Nat) (c4 : Nat) (a5 : Option Addr) (l5 : Nat) (c5 : Nat) (s6 : ByteArray) (x7 : Int) (s8 : ByteArray) (a9 : Option Addr) (l9 : Nat) (c9 : Nat) (a10 : Option Addr) (l10 : Nat) (c10 : Nat) (K : Int → World → Prop) (w : World) (h : N73 s1 x2 s3 a4 l4 c4 a5 l5 c5 s6 x7 s8 a9 l9 c9 a10 l10 c10 K w) : Calls Tryz.prog 73 #[(.agg #[(.string s1), (.int .i64 x2), (.string s3), (.slice a4 l4 c4), (.slice a5 l5 c5)]), (.agg #[(.string s6), (.int .i64 x7), (.string s8), (.slice a9 l9 c9), (.slice a10 l10 c10)])] w fun en w' => ∃ (x82 : Int), en = .returned (.int .i64 x82) ∧ K x82 w' :=
 fn_calls tabOk mixed Tryz.func73 (by kernel_rfl : Tryz.f73.body = some code73) ann73 [(.agg #[(.string s1), (.int .i64 x2), (.string s3), (.slice a4 l4 c4), (.slice a5 l5 c5)]), (.agg #[(.string s6), (.int .i64 x7), (.string s8), (.slice a9 l9 c9), (.slice a10 l10 c10)])] [(.one (.int .i64))] K w (by kernel_rfl) (by kernel_rfl) (by kernel_rfl) h
end Go.Proofs.YtbiamhoonhjodacGreatDoor

namespace Go.Proofs.YtbiamhoonhjodacGreatDoor
open Go Go.V Go.Proofs
open Go.RowKit (Below)
/-! manystrand/manystrandref05.compare -/
def N43 (a1 : Option Addr) (l1 : Nat) (_c1 : Nat) (a2 : Option Addr) (l2 : Nat) (_c2 : Nat) (a3 : Option Addr) (l3 : Nat) (_c3 : Nat) (x4 : Int) (x5 : Int) (K : Int → World → Prop) (w : World) : Prop :=
 BoolK a2.isNone
 (DrewK w fun w6 =>
 (0 ≤ x4 ∧ x4 < l1) ∧
 AddrK a1 fun b7 =>
 ∃ s8, w6.cell? ((b7.add (x4.toNat * 5)).add 0) = some (.string s8) ∧
 (∃ x9, w6.cell? ((b7.add (x4.toNat * 5)).add 1) = some (.int .i64 x9) ∧
 (∃ s10, w6.cell? ((b7.add (x4.toNat * 5)).add 2) = some (.string s10) ∧
 (∃ a11 l11 c11, w6.cell? ((b7.add (x4.toNat * 5)).add 3) = some (.slice a11 l11 c11) ∧
 (∃ a12 l12 c12, w6.cell? ((b7.add (x4.toNat * 5)).add 4) = some (.slice a12 l12 c12) ∧
 ((0 ≤ x5 ∧ x5 < l1) ∧
 AddrK a1 fun b13 =>
 ∃ s14, w6.cell? ((b13.add (x5.toNat * 5)).add 0) = some (.string s14) ∧
 (∃ x15, w6.cell? ((b13.add (x5.toNat * 5)).add 1) = some (.int .i64 x15) ∧
 (∃ s16, w6.cell? ((b13.add (x5.toNat * 5)).add 2) = some (.string s16) ∧
 (∃ a17 l17 c17, w6.cell? ((b13.add (x5.toNat * 5)).add 3) = some (.slice a17 l17 c17) ∧
 (∃ a18 l18 c18, w6.cell? ((b13.add (x5.toNat * 5)).add 4) = some (.slice a18 l18 c18) ∧
 (Calls Tryz.prog 73 #[(.agg #[(.string s8), (.int .i64 x9), (.string s10), (.slice a11 l11 c11), (.slice a12 l12 c12)]), (.agg #[(.string s14), (.int .i64 x15), (.string s16), (.slice a17 l17 c17), (.slice a18 l18 c18)])] w6 fun e21 w20 =>
 ∃ x19, e21 = .returned (.int .i64 x19) ∧
 (K x19 w20))))))))))))
 (DrewK w fun w22 =>
 (0 ≤ x4 ∧ x4 < l2) ∧
 AddrK a2 fun b23 =>
 ∃ x24, w22.cell? (b23.add (x4.toNat * 1)) = some (.int .i64 x24) ∧
 ((0 ≤ x5 ∧ x5 < l2) ∧
 AddrK a2 fun b25 =>
 ∃ x26, w22.cell? (b25.add (x5.toNat * 1)) = some (.int .i64 x26) ∧
 (Calls Tryz.prog 24 #[(.int .i64 x24), (.int .i64 x26)] w22 fun e29 w28 =>
 ∃ x27, e29 = .returned (.int .i64 x27) ∧
 (BoolK (x27 != 0)
 (K x27 w28)
 (∃ (I30 : Int → World → Prop) (μ31 : Int → World → Nat),
 (I30 0 w28 ∧ True) ∧
 ∀ w32 x33, I30 x33 w32 →
 (0 ≤ x4 ∧ x4 < l1) ∧
 AddrK a1 fun b34 =>
 ∃ a35 l35 c35, w32.cell? ((b34.add (x4.toNat * 5)).add 4) = some (.slice a35 l35 c35) ∧
 (BoolK (decide (x33 < l35))
 (DrewK w32 fun w36 =>
 (0 ≤ x4 ∧ x4 < l1) ∧
 AddrK a1 fun b37 =>
 ∃ a38 l38 c38, w36.cell? ((b37.add (x4.toNat * 5)).add 4) = some (.slice a38 l38 c38) ∧
 ((0 ≤ x33 ∧ x33 < l38) ∧
 AddrK a38 fun b39 =>
 ∃ x40, w36.cell? (b39.add (x33.toNat * 1)) = some (.int .i64 x40) ∧
 ((0 ≤ x40 ∧ x40 < l3) ∧
 AddrK a3 fun b41 =>
 ∃ x42, w36.cell? (b41.add (x40.toNat * 1)) = some (.int .i64 x42) ∧
 ((0 ≤ x5 ∧ x5 < l1) ∧
 AddrK a1 fun b43 =>
 ∃ a44 l44 c44, w36.cell? ((b43.add (x5.toNat * 5)).add 4) = some (.slice a44 l44 c44) ∧
 ((0 ≤ x33 ∧ x33 < l44) ∧
 AddrK a44 fun b45 =>
 ∃ x46, w36.cell? (b45.add (x33.toNat * 1)) = some (.int .i64 x46) ∧
 ((0 ≤ x46 ∧ x46 < l3) ∧
 AddrK a3 fun b47 =>
 ∃ x48, w36.cell? (b47.add (x46.toNat * 1)) = some (.int .i64 x48) ∧
 (Calls Tryz.prog 24 #[(.int .i64 x42), (.int .i64 x48)] w36 fun e51 w50 =>
 ∃ x49, e51 = .returned (.int .i64 x49) ∧
 (BoolK (x49 != 0)
 (K x49 w50)
 (I30 (IntKind.wrap .i64 (x33 + 1)) w50 ∧ μ31 (IntKind.wrap .i64 (x33 + 1)) w50 < μ31 x33 w32)))))))))
 (K 0 w32)))))))
def ann43 : Ann := (.two .nil (.two (.two .nil (.two (.two (.anyC 8 (.take 0 (.take 1 (.take 2 (.take 3 (.take 4 (.take 5 (.take 6 (.take 7 .done))))))))) .nil) .nil)) (.two (.two (.anyC 8 (.take 0 (.take 1 (.take 2 (.take 3 (.take 4 (.take 5 (.take 6 (.take 7 .done))))))))) (.two .nil (.two (.two .nil .nil) .nil))) (.two (.two .nil (.one (.loop [(12, (.one (.int .i64)))] [0, 2, 3, 4] (.two (.two .nil (.two .nil .nil)) (.two (.one (.two (.anyC 22 (.take 0 (.take 1 (.take 2 (.take 3 (.take 4 (.take 5 (.take 6 (.take 7 (.take 8 (.take 9 (.take 10 (.take 11 (.take 12 (.take 13 (.take 14 (.take 15 (.take 16 (.take 17 (.take 18 (.take 19 (.take 20 (.take 21 .done))))))))))))))))))))))) (.two .nil (.two (.two .nil .nil) .nil)))) .nil))))) (.two .nil .nil)))))
noncomputable def code43 : Code := match Tryz.f43.body with | some c => c | none => .skip
theorem calls43 (a1 : Option Addr) (l1 : Nat) (c1 : Nat) (a2 : Option Addr) (l2 : Nat) (c2 : Nat) (a3 : Option Addr) (l3 : Nat) (c3 : Nat) (x4 : Int) (x5 : Int) (K : Int → World → Prop) (w : World) (h : N43 a1 l1 c1 a2 l2 c2 a3 l3 c3 x4 x5 K w) : Calls Tryz.prog 43 #[(.slice a1 l1 c1), (.slice a2 l2 c2), (.slice a3 l3 c3), (.int .i64 x4), (.int .i64 x5)] w fun en w' => ∃ (x52 : Int), en = .returned (.int .i64 x52) ∧ K x52 w' :=
 fn_calls tabOk mixed Tryz.func43 (by kernel_rfl : Tryz.f43.body = some code43) ann43 [(.slice a1 l1 c1), (.slice a2 l2 c2), (.slice a3 l3 c3), (.int .i64 x4), (.int .i64 x5)] [(.one (.int .i64))] K w (by kernel_rfl) (by kernel_rfl) (by kernel_rfl) h
end Go.Proofs.YtbiamhoonhjodacGreatDoor

namespace Go.Proofs.YtbiamhoonhjodacGreatDoor
open Go Go.V Go.Proofs Go.V.Gr
open Go.RowKit (Below)
open Go.Lib (compareBytes)
theorem ctr24 (w : World) (x y : Int) : Calls Tryz.prog 24 #[.int .i64 x, .int .i64 y] w fun en w' => ∃ r, en = .returned (.int .i64 r) ∧ (r = sg x y ∧ w' = w) := by
 refine calls24 _ _ _ w ?_
 refine BoolK.mk (fun t => ?_) (fun t => BoolK.mk (fun t2 => ?_) (fun t2 => ?_))
 ·have := of_decide_eq_true t
  exact ⟨by unfold sg; rw [if_pos (by omega)], rfl⟩
 ·have := of_decide_eq_false t; have := of_decide_eq_true t2
  exact ⟨by unfold sg; rw [if_neg (by omega), if_pos (by omega)], rfl⟩
 ·have := of_decide_eq_false t; have := of_decide_eq_false t2
  exact ⟨by unfold sg; rw [if_neg (by omega), if_neg (by omega)], rfl⟩
theorem ctr114 (w : World) (a b : ByteArray) : Calls Tryz.prog 114 #[.string a, .string b] w fun en w' => ∃ r, en = .returned (.int .i64 r) ∧ (r = compareBytes (bl a) (bl b) ∧ w' = w) := by
 refine calls114 _ _ _ w ?_
 have e : Op.bytesLess a.toList b.toList = decide (compareBytes (bl a) (bl b) < 0) := by rw [bl_toList, bl_toList, bl_cb]
 have s := cb_sign (bl a) (bl b)
 refine BoolK.mk (fun t => ?_) (fun t => BoolK.mk (fun t2 => ?_) (fun t2 => ?_))
 ·rw [e] at t; have := of_decide_eq_true t; exact ⟨by omega, rfl⟩
 ·rw [e] at t; have t' := of_decide_eq_false t
  have hne : a ≠ b := fun e => by subst e; rw [tl_iff.2 rfl] at t2; simp at t2
  have : compareBytes (bl a) (bl b) ≠ 0 := fun e => hne (bl_inj (cb_zero.1 e))
  exact ⟨by omega, rfl⟩
 ·rw [t, Bool.false_or, Bool.not_eq_false', tl_iff] at t2
  exact ⟨(cb_zero.2 (by rw [t2])).symm, rfl⟩
theorem ctr113 (w : World) (k : ByteArray) : Calls Tryz.prog 113 #[.string k] w fun en w' => ∃ r, en = .returned (.int .i64 r) ∧ (r = kR k ∧ w' = w) := by
 refine calls113 _ _ w ?_
 refine BoolK.mk (fun t => ?_) (fun t => BoolK.mk (fun t2 => ?_) (fun t2 => BoolK.mk (fun t3 => ?_) (fun t3 => ?_)))
 ·have t : k = kInt := tl_iff.1 t
  exact ⟨by rw [kR, if_pos t], rfl⟩
 ·have t : k ≠ kInt := tl_no t
  have t2 : k = kRec := tl_iff.1 t2
  exact ⟨by rw [kR, if_neg t, if_pos t2], rfl⟩
 ·have t : k ≠ kInt := tl_no t
  have t2 : k ≠ kRec := tl_no t2
  have t3 : k = kVar := tl_iff.1 t3
  exact ⟨by rw [kR, if_neg t, if_neg t2, if_pos t3], rfl⟩
 ·have t : k ≠ kInt := tl_no t
  have t2 : k ≠ kRec := tl_no t2
  have t3 : k ≠ kVar := tl_no t3
  exact ⟨by rw [kR, if_neg t, if_neg t2, if_neg t3], rfl⟩
theorem VN1.nofs {z : Nd} (hz : VN1 z) (hn : z.kd ≠ kRec) : z.fs = [] := by
 obtain ⟨n, hz⟩ := hz
 rcases hz with h | h | h | h
 ·exact h.2.2.1
 ·exact h.2.2.1
 ·exact h.2.2.1
 ·exact absurd h.1 hn
theorem VN1.notx {z : Nd} (hz : VN1 z) (hn : z.kd = kInt ∨ z.kd = kVar) : z.tx = ⟨#[]⟩ := by
 obtain ⟨n, hz⟩ := hz
 rcases hn with h | h
 ·exact ((NdOk.int_iff h).1 hz).1
 ·exact ((NdOk.var_iff h).1 hz).1
set_option maxRecDepth 100000 in
theorem ctr73 (w : World) (x y : Nd) {a4 a5 b4 b5 : Option Addr} {l4 l5 m4 m5 : Nat} (c4 c5 d4 d5 : Nat) (hx : VN1 x) (hy : VN1 y) (hxf : RL 2 RFt w a4 l4 x.fs) (hyf : RL 2 RFt w b4 m4 y.fs) :
  Calls Tryz.prog 73 #[.agg #[.string x.kd, .int .i64 x.n, .string x.tx, .slice a4 l4 c4, .slice a5 l5 c5], .agg #[.string y.kd, .int .i64 y.n, .string y.tx, .slice b4 m4 d4, .slice b5 m5 d5]] w
   fun en w' => ∃ r, en = .returned (.int .i64 r) ∧ (r = cHd x y ∧ Ext w w') := by
 refine calls73 _ _ _ _ _ _ _ _ _ _ _ _ _ _ _ _ _ _ _ w ?_
 have e4 := hxf.len; have f4 := hyf.len
 have k4 := hxf.2; have n4 := hyf.2
 simp only [maxLen] at k4 n4
 refine AllocK.mk fun b w12 hb hB x12 => AllocK.mk fun b2 w14 hb2 hB2 x14 => DrewK.mk fun w15 x15 => ?_
 have y15 := (x12.trans x14).trans x15
 obtain ⟨g0, g1, g2, g3, g4⟩ := blkAt5 hB (x14.trans x15)
 obtain ⟨h0, h1, h2, h3, h4⟩ := blkAt5 hB2 x15
 refine ⟨_, g0, _, h0, (ctr113 w15 x.kd).mono ?_⟩
 rintro en w19 ⟨_, rfl, rfl, rfl⟩
 refine ⟨_, rfl, Below.cel (Ext.refl _), (ctr113 w19 y.kd).mono ?_⟩
 rintro en w22 ⟨_, rfl, rfl, rfl⟩
 refine ⟨_, rfl, (ctr24 w22 _ _).mono ?_⟩
 rintro en w25 ⟨_, rfl, rfl, rfl⟩
 refine ⟨_, rfl, BoolK.mk (fun t => ?_) (fun t => ?_)⟩
 ·have t : sg (kR x.kd) (kR y.kd) ≠ 0 := by simpa using t
  exact ⟨by rw [cHd, fz_consn t], y15⟩
 have hk0 : sg (kR x.kd) (kR y.kd) = 0 := by simpa using t
 have hkd : x.kd = y.kd := kR_inj hx hy (sg_zero.1 hk0)
 clear t
 refine ⟨_, g0, fun p w' => w' = w25 ∧ (p = true → x.kd = kInt ∨ x.kd = kVar) ∧ (p = false → x.kd = kRef ∨ x.kd = kRec), ?_, ?_⟩
 rotate_left
 ·refine BoolK.mk (fun t => ⟨rfl, fun _ => .inl ((tl_iff (t := kInt)).1 t), fun e => by rw [t] at e; cases e⟩) (fun t => ⟨rfl, fun e => .inr ((tl_iff (t := kVar)).1 e), fun e => ?_⟩)
  have n1 : x.kd ≠ kInt := tl_no t
  have n2 : x.kd ≠ kVar := tl_no e
  rcases hx.kd with h | h | h | h
  ·exact absurd h n1
  ·exact absurd h n2
  ·exact .inl h
  ·exact .inr h
 rintro w29 p ⟨rfl, hp1, hp2⟩
 have hfs0 : ∀ {z : Nd}, VN1 z → z.kd ≠ kRec → z.fs = [] := fun h h2 => h.nofs h2
 refine BoolK.mk (fun t => ?_) (fun t => ?_)
 ·have hk := hp1 t
  have hnr : x.kd ≠ kRec := by rcases hk with e | e <;> rw [e] <;> decide
  have t1 := hx.notx hk; have t2 := hy.notx (by rw [← hkd]; exact hk)
  refine ⟨_, g1, _, h1, (ctr24 w29 _ _).mono ?_⟩
  rintro en w34 ⟨_, rfl, rfl, rfl⟩
  refine ⟨_, rfl, ?_, y15⟩
  have ht0 : compareBytes (bl x.tx) (bl y.tx) = 0 := cb_zero.2 (by rw [t1, t2])
  rw [cHd, hk0, ht0, hfs0 hx hnr, hfs0 hy (by rw [← hkd]; exact hnr), fz_cons0, fz_cons0]
  by_cases e : sg x.n y.n = 0
  ·rw [e, fz_cons0]; rfl
  ·rw [fz_consn e]
 have hk := hp2 t
 refine BoolK.mk (fun t3 => ?_) (fun t3 => ?_)
 ·have hr : x.kd = kRef := (tl_iff (t := kRef)).1 t3
  have hnr : x.kd ≠ kRec := by rw [hr]; decide
  refine ⟨_, g2, _, h2, (ctr114 w29 _ _).mono ?_⟩
  rintro en w39 ⟨_, rfl, rfl, rfl⟩
  refine ⟨_, rfl, BoolK.mk (fun t4 => ?_) (fun t4 => ⟨_, g1, _, h1, (ctr24 w39 _ _).mono ?_⟩)⟩
  ·have t4 : compareBytes (bl x.tx) (bl y.tx) ≠ 0 := by simpa using t4
   exact ⟨by rw [cHd, hk0, fz_cons0, fz_consn t4], y15⟩
  ·have t4 : compareBytes (bl x.tx) (bl y.tx) = 0 := by simpa using t4
   rintro en w44 ⟨_, rfl, rfl, rfl⟩
   refine ⟨_, rfl, ?_, y15⟩
   rw [cHd, hk0, t4, hfs0 hx hnr, hfs0 hy (by rw [← hkd]; exact hnr), fz_cons0, fz_cons0]
   by_cases e : sg x.n y.n = 0
   ·rw [e, fz_cons0]; rfl
   ·rw [fz_consn e]
 have hr : x.kd = kRec := by
  rcases hk with h | h
  ·exact absurd h (tl_no (t := kRef) t3)
  ·exact h
 have rn : ∀ {z : Nd}, VN1 z → z.kd = kRec → z.n = 0 := fun hz hn => by
  obtain ⟨n, hz⟩ := hz
  exact ((NdOk.rec_iff hn).1 hz).1
 have hn0 : sg x.n y.n = 0 := sg_zero.2 (by rw [rn hx hr, rn hy (by rw [← hkd]; exact hr)])
 refine ⟨_, g2, _, h2, (ctr114 w29 _ _).mono ?_⟩
 rintro en w49 ⟨_, rfl, rfl, rfl⟩
 refine ⟨_, rfl, BoolK.mk (fun t4 => ?_) (fun t4 => ⟨_, _, _, g3, _, _, _, h3, (ctr24 w49 _ _).mono ?_⟩)⟩
 ·have t4 : compareBytes (bl x.tx) (bl y.tx) ≠ 0 := by simpa using t4
  exact ⟨by rw [cHd, hk0, fz_cons0, fz_consn t4], y15⟩
 have t4 : compareBytes (bl x.tx) (bl y.tx) = 0 := by simpa using t4
 rintro en w54 ⟨_, rfl, rfl, rfl⟩
 refine ⟨_, rfl, BoolK.mk (fun t5 => ?_) (fun t5 => ?_)⟩
 ·have t5 : sg (l4 : Nat) (m4 : Nat) ≠ 0 := by simpa using t5
  refine ⟨?_, y15⟩
  rw [cHd, hk0, t4, hn0, fz_cons0, fz_cons0, fz_cons0, e4, f4, fz_consn]
  rw [← e4, ← f4]; exact t5
 have t5 : sg (l4 : Nat) (m4 : Nat) = 0 := by simpa using t5
 have hlen : x.fs.length = y.fs.length := by have := sg_zero.1 t5; omega
 have hH : cHd x y = fz (List.zipWith cF x.fs y.fs) := by
  rw [cHd, hk0, t4, hn0, fz_cons0, fz_cons0, fz_cons0]
  have : sg x.fs.length y.fs.length = 0 := sg_zero.2 (by rw [hlen])
  rw [this, fz_cons0]
  by_cases e : fz (List.zipWith cF x.fs y.fs) = 0
  ·rw [e]; rfl
  ·rw [fz_consn e]
 rw [hH]
 refine ⟨fun i w' => ∃ k : Nat, i = k ∧ k ≤ x.fs.length ∧ Ext w54 w' ∧ ∀ m, m < k → (List.zipWith cF x.fs y.fs)[m]? = some 0, fun i _ => x.fs.length - i.toNat, ⟨⟨0, rfl, by omega, Ext.refl _, fun m hm => by omega⟩, trivial⟩, ?_⟩
 rintro w58 _ ⟨k, rfl, hk, x58, hall⟩
 have y58 := y15.trans x58
 obtain ⟨_, _, _, g3, _⟩ := blkAt5 hB ((x14.trans x15).trans x58)
 refine ⟨_, _, _, g3, BoolK.mk (fun t6 => ?_) (fun t6 => ?_)⟩
 ·have hlt : k < x.fs.length := by have := of_decide_eq_true t6; omega
  have hlt' : k < y.fs.length := by omega
  have hz : (List.zipWith cF x.fs y.fs)[k]? = some (cF x.fs[k] y.fs[k]) := by
   rw [List.getElem?_zipWith, List.getElem?_eq_getElem hlt, List.getElem?_eq_getElem hlt']
  have v1 := hx.fs _ (List.getElem_mem hlt); have v2 := hy.fs _ (List.getElem_mem hlt')
  refine DrewK.mk fun w61 x61 => ?_
  have x61 := x58.trans x61
  have y61 := y15.trans x61
  obtain ⟨_, _, _, g3, _⟩ := blkAt5 hB ((x14.trans x15).trans x61)
  obtain ⟨_, _, _, h3, _⟩ := blkAt5 hB2 (x15.trans x61)
  obtain ⟨b1, ha, q0, q1, _⟩ := ftAt hxf y61 hlt
  obtain ⟨b3, hc, r0, r1, _⟩ := ftAt hyf y61 hlt'
  refine ⟨_, _, _, g3, ⟨by omega, by omega⟩, adK ha ⟨_, q0, _, q1, _, _, _, h3, ⟨by omega, by omega⟩, adK hc ⟨_, r0, _, r1, BoolK.mk (fun t7 => DrewK.mk fun w70 x70 => ?_) (fun t7 => ?_)⟩⟩⟩
  ·have hne : x.fs[k] ≠ y.fs[k] := fun e => by rw [e] at t7; simp only [Bool.and_true, Bool.not_eq_true', Bool.and_eq_false_iff, beq_eq_false_iff_ne, ne_eq, not_true_eq_false, false_or] at t7; exact absurd (ba_eq.2 rfl) (by rw [t7]; decide)
   have x70 := x61.trans x70
   have y70 := y15.trans x70
   obtain ⟨_, _, _, g3, _⟩ := blkAt5 hB ((x14.trans x15).trans x70)
   obtain ⟨_, _, _, h3, _⟩ := blkAt5 hB2 (x15.trans x70)
   obtain ⟨b1, ha, q0, q1, _⟩ := ftAt hxf y70 hlt
   obtain ⟨b3, hc, r0, r1, _⟩ := ftAt hyf y70 hlt'
   refine ⟨_, _, _, g3, ⟨by omega, by omega⟩, adK ha ⟨_, q0, _, q1, _, _, _, h3, ⟨by omega, by omega⟩, adK hc ⟨_, r0, _, r1, (ctr112 w70 x.fs[k] y.fs[k]).mono ?_⟩⟩⟩
   rintro en w80 ⟨_, rfl, rfl, x80⟩
   refine ⟨_, rfl, BoolK.mk (fun t8 => ?_) (fun t8 => ?_)⟩
   ·have hv : cF x.fs[k] y.fs[k] = -1 := by rw [cF, if_pos t8]
    rw [hv] at hz
    exact ⟨(fz_at hall hz (by omega)).symm, y70.trans x80⟩
   ·have hv : cF x.fs[k] y.fs[k] = 1 := by
     have h0 : cF x.fs[k] y.fs[k] ≠ 0 := fun e => hne ((cF_zero v1 v2).1 e)
     rw [cF, if_neg (by rw [t8]; decide)] at h0 ⊢
     split
     ·rfl
     ·rename_i h; rw [if_neg h] at h0; exact absurd rfl h0
    rw [hv] at hz
    exact ⟨(fz_at hall hz (by omega)).symm, y70.trans x80⟩
  ·have he : x.fs[k] = y.fs[k] := by
    simp only [Bool.not_eq_false', Bool.and_true, Bool.and_eq_true, beq_iff_eq, ba_eq] at t7
    exact Prod.ext t7.1 t7.2
   have hv : cF x.fs[k] y.fs[k] = 0 := (cF_zero v1 v2).2 he
   rw [hv] at hz
   rw [wrap_succ (by omega)]
   refine ⟨⟨k + 1, rfl, by omega, x61, fun m hm => ?_⟩, by simp; omega⟩
   rcases Nat.lt_or_ge m k with h | h
   ·exact hall m h
   ·have : m = k := by omega
    subst this; exact hz
 ·have : k = x.fs.length := by have := of_decide_eq_false t6; omega
  subst this
  refine ⟨?_, y15.trans x58⟩
  symm
  refine zip_zero.2 fun m a b ha hb => ?_
  have := hall m (List.getElem?_eq_some_iff.1 ha).1
  rw [List.getElem?_zipWith, ha, hb] at this
  exact Option.some.inj this
def CmpBy (xs : List Nd) (w : World) (a1 : Option Addr) (l1 : Nat) (a2 : Option Addr) (l2 : Nat) (a3 : Option Addr) (l3 : Nat) (t : Nat) : Prop :=
 RNds w a1 l1 xs ∧ ((a2 = none ∧ t = 0) ∨ (a2 ≠ none ∧ ∃ fi la t', t = t' + 1 ∧ Ints w a2 l2 fi ∧ Ints w a3 l3 la ∧ Rk xs.length fi (fun i j => cK cHd xs xs 0 i j) ∧ Rk xs.length la (fun i j => cK cHd xs xs t' i j)))
theorem CmpBy.ext {xs : List Nd} {w w' : World} {a1 a2 a3 : Option Addr} {l1 l2 l3 t : Nat} (h : CmpBy xs w a1 l1 a2 l2 a3 l3 t) (x : Ext w w') : CmpBy xs w' a1 l1 a2 l2 a3 l3 t :=
 ⟨RNds.at h.1 x, h.2.imp id fun ⟨h0, fi, la, t', h1, h2, h3, h4⟩ => ⟨h0, fi, la, t', h1, h2.ext RInt.mono x, h3.ext RInt.mono x, h4⟩⟩
set_option maxRecDepth 100000 in
theorem ctr43 (w : World) {xs : List Nd} {a1 a2 a3 : Option Addr} {l1 l2 l3 t : Nat} (c1 c2 c3 : Nat) (h : CmpBy xs w a1 l1 a2 l2 a3 l3 t) (hV : VL VN1 xs) (hz : Sz xs) {i j : Nat} (hi : i < xs.length) (hj : j < xs.length) :
  Calls Tryz.prog 43 #[.slice a1 l1 c1, .slice a2 l2 c2, .slice a3 l3 c3, .int .i64 (i : Int), .int .i64 (j : Int)] w fun en w' => ∃ r, en = .returned (.int .i64 r) ∧ (r = cK cHd xs xs t i j ∧ Ext w w') := by
 refine calls43 _ _ _ _ _ _ _ _ _ _ _ _ w ?_
 obtain ⟨hN, hcase⟩ := h
 have hl := hN.len
 refine BoolK.mk (fun ta => ?_) (fun ta => ?_)
 ·have hn : a2 = none := by simpa using ta
  obtain rfl : t = 0 := by
   rcases hcase with ⟨_, e⟩ | ⟨e, _⟩
   ·exact e
   ·exact absurd hn e
  refine DrewK.mk fun w6 x6 => ?_
  obtain ⟨bi, ha, n0, n1, n2, n3, n4, ⟨a5, l5, c5, n5, n6⟩, ⟨a7, l7, c7, n7, n8⟩, _⟩ := ndAt hN x6 hi
  obtain ⟨bj, ha', m0, m1, m2, m3, m4, ⟨d5, e5, f5, m5, m6⟩, ⟨d7, e7, f7, m7, m8⟩, _⟩ := ndAt hN x6 hj
  refine ⟨⟨by omega, by omega⟩, adK ha ⟨_, n0, _, n1, _, n2, _, _, _, n5, _, _, _, n7, ⟨by omega, by omega⟩, adK ha' ⟨_, m0, _, m1, _, m2, _, _, _, m5, _, _, _, m7, ?_⟩⟩⟩
  have v1 := hV.nd hi; have v2 := hV.nd hj
  simp only [cK]
  rw [nd_get hi] at v1 ⊢; rw [nd_get hj] at v2 ⊢
  refine (ctr73 w6 xs[i] xs[j] c5 c7 f5 f7 v1 v2 n6 m6).mono ?_
  rintro en w20 ⟨r, rfl, hr, x20⟩
  exact ⟨_, rfl, hr, x6.trans x20⟩
 ·obtain ⟨fi, la, t', rfl, h1, h2, hf, hla⟩ : ∃ fi la t', t = t' + 1 ∧ Ints w a2 l2 fi ∧ Ints w a3 l3 la ∧ Rk xs.length fi (fun i j => cK cHd xs xs 0 i j) ∧ Rk xs.length la (fun i j => cK cHd xs xs t' i j) := by
   rcases hcase with ⟨e, _⟩ | ⟨_, e⟩
   ·rw [e] at ta; cases ta
   ·exact e
  have hl1 := h1.1; have hl2 := h2.1
  have hfl := hf.1; have hlal := hla.1
  refine DrewK.mk fun w22 x22 => ?_
  have at1 : ∀ {w' : World} {k : Nat}, Ext w w' → k < xs.length → ∃ b, a2 = some b ∧ w'.cell? (b.add (((k : Nat) : Int).toNat * 1)) = some (.int .i64 (ga fi k)) := fun x hk => by
   obtain ⟨b, o, ha, h0⟩ := (Rows.ext RInt.mono h1 x).get (i := _) (by rw [hfl]; exact hk)
   exact ⟨_, ha, by rw [Int.toNat_natCast, add_mk, ga_get (by rw [hfl]; exact hk)]; exact h0⟩
  have at2 : ∀ {w' : World} {k : Nat}, Ext w w' → k < xs.length → ∃ b, a3 = some b ∧ w'.cell? (b.add (((k : Nat) : Int).toNat * 1)) = some (.int .i64 (ga la k)) := fun x hk => by
   obtain ⟨b, o, ha, h0⟩ := (Rows.ext RInt.mono h2 x).get (i := _) (by rw [hlal]; exact hk)
   exact ⟨_, ha, by rw [Int.toNat_natCast, add_mk, ga_get (by rw [hlal]; exact hk)]; exact h0⟩
  obtain ⟨b9, e9, v9⟩ := at1 x22 hi
  obtain ⟨b13, e13, v13⟩ := at1 x22 hj
  refine ⟨⟨by omega, by omega⟩, adK e9 ⟨_, v9, ⟨by omega, by omega⟩, adK e13 ⟨_, v13, (ctr24 w22 _ _).mono ?_⟩⟩⟩
  rintro en w28 ⟨_, rfl, rfl, rfl⟩
  rw [hf.2 i j hi hj]
  have e0 : cK cHd xs xs 0 i j = cHd (nd xs i) (nd xs j) := rfl
  have e1 : cK cHd xs xs (t' + 1) i j = fz [cHd (nd xs i) (nd xs j), fz (List.zipWith (cK cHd xs xs t') (kids xs i) (kids xs j))] := rfl
  simp only [e0, e1]
  refine ⟨_, rfl, BoolK.mk (fun t => ?_) (fun t => ?_)⟩
  ·have t : cHd (nd xs i) (nd xs j) ≠ 0 := by simpa using t
   exact ⟨(fz_consn t).symm, x22⟩
  have t : cHd (nd xs i) (nd xs j) = 0 := by simpa using t
  have hh := (hdC.zero _ _ (hV.nd hi) (hV.nd hj)).1 t
  have hks := hd_len hh
  have hfin : fz [cHd (nd xs i) (nd xs j), fz (List.zipWith (cK cHd xs xs t') (kids xs i) (kids xs j))] = fz (List.zipWith (cK cHd xs xs t') (kids xs i) (kids xs j)) := by
   rw [fz_two, if_pos t]
  rw [hfin]
  have hni := nd_get hi; have hnj := nd_get hj
  have hsz := hz.ks _ (List.getElem_mem hi)
  refine ⟨fun k w' => ∃ m : Nat, k = m ∧ m ≤ xs[i].ks.length ∧ Ext w28 w' ∧ ∀ q, q < m → (List.zipWith (cK cHd xs xs t') (kids xs i) (kids xs j))[q]? = some 0, fun k _ => xs[i].ks.length - k.toNat, ⟨⟨0, rfl, by omega, Ext.refl _, fun q hq => by omega⟩, trivial⟩, ?_⟩
  rintro w32 _ ⟨m, rfl, hm, x32, hall⟩
  have y32 := x22.trans x32
  obtain ⟨bi, ha, _, _, _, _, _, _, ⟨a7, l7, c7, n7, n8⟩, _⟩ := ndAt hN y32 hi
  have e7 := n8.len
  refine ⟨⟨by omega, by omega⟩, adK ha ⟨_, _, _, n7, BoolK.mk (fun t6 => ?_) (fun t6 => ?_)⟩⟩
  ·have hlt : m < l7 := by have := of_decide_eq_true t6; omega
   have m1 : m < (nd xs i).ks.length := by rw [hni]; omega
   have m2 : m < (nd xs j).ks.length := by rw [← hks]; exact m1
   have k1 := kid_lt hV.c hi m1
   have k2 := kid_lt hV.c hj m2
   have hz0 : (List.zipWith (cK cHd xs xs t') (kids xs i) (kids xs j))[m]? = some (sg (ga la (kid xs i m)) (ga la (kid xs j m))) := by
    rw [List.getElem?_zipWith, kids_get m1, kids_get m2, hla.2 _ _ k1 k2]
   refine DrewK.mk fun w36 x36 => ?_
   have x36 := x32.trans x36
   have y36 := x22.trans x36
   obtain ⟨bi, ha, _, _, _, _, _, _, ⟨a7, l7, c7, n7, n8⟩, _⟩ := ndAt hN y36 hi
   obtain ⟨bj, ha', _, _, _, _, _, _, ⟨d7, f7, g7, p7, p8⟩, _⟩ := ndAt hN y36 hj
   have q7 := n8.len; have r7 := p8.len
   have m1' : m < xs[i].ks.length := by rw [← hni]; exact m1
   have m2' : m < xs[j].ks.length := by rw [← hnj]; exact m2
   obtain ⟨b33, e33, v33⟩ := ksAt n8 (Ext.refl w36) m1'
   obtain ⟨b43, e43, v43⟩ := ksAt p8 (Ext.refl w36) m2'
   have kv1 : xs[i].ks[m] = ((kid xs i m : Nat) : Int) := by
    have := hV.c _ (List.getElem_mem hi) _ (List.getElem_mem m1')
    rw [kid, hni, List.getElem?_eq_getElem m1', Option.getD_some]; omega
   have kv2 : xs[j].ks[m] = ((kid xs j m : Nat) : Int) := by
    have := hV.c _ (List.getElem_mem hj) _ (List.getElem_mem m2')
    rw [kid, hnj, List.getElem?_eq_getElem m2', Option.getD_some]; omega
   rw [kv1] at v33; rw [kv2] at v43
   obtain ⟨b35, e35, v35⟩ := at2 y36 k1
   obtain ⟨b45, e45, v45⟩ := at2 y36 k2
   refine ⟨⟨by omega, by omega⟩, adK ha ⟨_, _, _, n7, ⟨by omega, by omega⟩, adK e33 ⟨_, v33, ⟨by omega, by omega⟩, adK e35 ⟨_, v35, ⟨by omega, by omega⟩, adK ha' ⟨_, _, _, p7, ⟨by omega, by omega⟩, adK e43 ⟨_, v43, ⟨by omega, by omega⟩, adK e45 ⟨_, v45, (ctr24 w36 _ _).mono ?_⟩⟩⟩⟩⟩⟩⟩
   rintro en w50 ⟨_, rfl, rfl, rfl⟩
   refine ⟨_, rfl, BoolK.mk (fun t7 => ?_) (fun t7 => ?_)⟩
   ·have t7 : sg (ga la (kid xs i m)) (ga la (kid xs j m)) ≠ 0 := by simpa using t7
    exact ⟨(fz_at hall hz0 t7).symm, y36⟩
   ·have t7 : sg (ga la (kid xs i m)) (ga la (kid xs j m)) = 0 := by simpa using t7
    rw [t7] at hz0
    rw [wrap_succ (by omega)]
    refine ⟨⟨m + 1, rfl, by omega, x36, fun q hq => ?_⟩, by simp; omega⟩
    rcases Nat.lt_or_ge q m with h | h
    ·exact hall q h
    ·have : q = m := by omega
     subst this; exact hz0
  ·have hml : m = l7 := by have := of_decide_eq_false t6; omega
   refine ⟨?_, x22.trans x32⟩
   symm
   refine fz_all.2 fun v hv => ?_
   obtain ⟨q, hq⟩ := List.getElem?_of_mem hv
   have hql : q < m := by
    have := (List.getElem?_eq_some_iff.1 hq).1
    rw [List.length_zipWith, kids_len, kids_len, hni] at this
    omega
   rw [hall q hql] at hq
   exact (Option.some.inj hq).symm
end Go.Proofs.YtbiamhoonhjodacGreatDoor

namespace Go.Proofs.YtbiamhoonhjodacGreatDoor
open Go Go.V Go.Proofs
open Go.RowKit (Below)
/-! manystrand/manystrandref05.sorted -/
def N42 (a1 : Option Addr) (l1 : Nat) (c1 : Nat) (a2 : Option Addr) (l2 : Nat) (c2 : Nat) (a3 : Option Addr) (l3 : Nat) (c3 : Nat) (a4 : Option Addr) (l4 : Nat) (c4 : Nat) (K : Option Addr → Nat → Nat → World → Prop) (w : World) : Prop :=
 BoolK (decide ((l4 : Int) < 2))
 (K a4 l4 c4 w)
 (DrewK w fun w5 =>
 (2 : Int) ≠ 0 ∧
 (0 ≤ (IntKind.wrap .i64 ((l4 : Int).tdiv 2) : Int) ∧
 ((0 ≤ (IntKind.wrap .i64 ((l4 : Int).tdiv 2) : Int).toNat ∧ (IntKind.wrap .i64 ((l4 : Int).tdiv 2) : Int).toNat ≤ c4) ∧
 ((2 : Int) ≠ 0 ∧
 (0 ≤ (IntKind.wrap .i64 ((l4 : Int).tdiv 2) : Int) ∧
 (((IntKind.wrap .i64 ((l4 : Int).tdiv 2) : Int).toNat ≤ l4 ∧ l4 ≤ c4) ∧
 (Calls Tryz.prog 42 #[(.slice a1 l1 c1), (.slice a2 l2 c2), (.slice a3 l3 c3), (.slice (if c4 = 0 then a4 else (a4).map (·.add (0 * 1))) ((IntKind.wrap .i64 ((l4 : Int).tdiv 2) : Int).toNat - 0) (c4 - 0))] w5 fun e8 w7 =>
 ∃ a6, ∃ l6, ∃ c6, e8 = .returned (.slice a6 l6 c6) ∧
 (Calls Tryz.prog 42 #[(.slice a1 l1 c1), (.slice a2 l2 c2), (.slice a3 l3 c3), (.slice (if c4 = (IntKind.wrap .i64 ((l4 : Int).tdiv 2) : Int).toNat then a4 else (a4).map (·.add ((IntKind.wrap .i64 ((l4 : Int).tdiv 2) : Int).toNat * 1))) (l4 - (IntKind.wrap .i64 ((l4 : Int).tdiv 2) : Int).toNat) (c4 - (IntKind.wrap .i64 ((l4 : Int).tdiv 2) : Int).toNat))] w7 fun e11 w10 =>
 ∃ a9, ∃ l9, ∃ c9, e11 = .returned (.slice a9 l9 c9) ∧
 (∃ (I12 : Option Addr → Nat → Nat → Option Addr → Nat → Nat → Option Addr → Nat → Nat → World → Prop) (μ13 : Option Addr → Nat → Nat → Option Addr → Nat → Nat → Option Addr → Nat → Nat → World → Nat),
 (I12 a6 l6 c6 a9 l9 c9 none 0 0 w10 ∧ True) ∧
 ∀ w14 a15 l15 c15 a16 l16 c16 a17 l17 c17, I12 a15 l15 c15 a16 l16 c16 a17 l17 c17 w14 →
 ∃ (J18 : World → Prop),
 (∀ w19, J18 w19 →
 ∃ (J20 : Bool → World → Prop),
 (∀ w21 p22, J20 p22 w21 →
 BoolK p22
 (DrewK w21 fun w23 =>
 (0 ≤ (0 : Int) ∧ (0 : Int) < l15) ∧
 AddrK a15 fun b24 =>
 ∃ x25, w23.cell? (b24.add ((0 : Int).toNat * 1)) = some (.int .i64 x25) ∧
 (0 ≤ (1 : Int) ∧
 (((1 : Int).toNat ≤ l15 ∧ l15 ≤ c15) ∧
 (AllocK w23 (#[(.int .i64 x25)]) 3 fun b26 w27 =>
 ∃ a28, ∃ l28, ∃ c28, ∃ w29, Sem.run Tryz.prog (Builtin.append_ #[34, 34] 34 #[(.slice a17 l17 c17), (.slice (some b26) 1 1)]) w27 = .ok (.slice a28 l28 c28) w29 ∧
 (I12 (if c15 = (1 : Int).toNat then a15 else (a15).map (·.add ((1 : Int).toNat * 1))) (l15 - (1 : Int).toNat) (c15 - (1 : Int).toNat) a16 l16 c16 a28 l28 c28 w29 ∧ μ13 (if c15 = (1 : Int).toNat then a15 else (a15).map (·.add ((1 : Int).toNat * 1))) (l15 - (1 : Int).toNat) (c15 - (1 : Int).toNat) a16 l16 c16 a28 l28 c28 w29 < μ13 a15 l15 c15 a16 l16 c16 a17 l17 c17 w14)))))
 (DrewK w21 fun w30 =>
 (0 ≤ (0 : Int) ∧ (0 : Int) < l16) ∧
 AddrK a16 fun b31 =>
 ∃ x32, w30.cell? (b31.add ((0 : Int).toNat * 1)) = some (.int .i64 x32) ∧
 (0 ≤ (1 : Int) ∧
 (((1 : Int).toNat ≤ l16 ∧ l16 ≤ c16) ∧
 (AllocK w30 (#[(.int .i64 x32)]) 3 fun b33 w34 =>
 ∃ a35, ∃ l35, ∃ c35, ∃ w36, Sem.run Tryz.prog (Builtin.append_ #[34, 34] 34 #[(.slice a17 l17 c17), (.slice (some b33) 1 1)]) w34 = .ok (.slice a35 l35 c35) w36 ∧
 (I12 a15 l15 c15 (if c16 = (1 : Int).toNat then a16 else (a16).map (·.add ((1 : Int).toNat * 1))) (l16 - (1 : Int).toNat) (c16 - (1 : Int).toNat) a35 l35 c35 w36 ∧ μ13 a15 l15 c15 (if c16 = (1 : Int).toNat then a16 else (a16).map (·.add ((1 : Int).toNat * 1))) (l16 - (1 : Int).toNat) (c16 - (1 : Int).toNat) a35 l35 c35 w36 < μ13 a15 l15 c15 a16 l16 c16 a17 l17 c17 w14)))))) ∧
 (DrewK w19 fun w37 =>
 BoolK ((l16 : Int) == 0)
 (J20 true w37)
 (BoolK (decide ((l15 : Int) > 0))
 ((0 ≤ (0 : Int) ∧ (0 : Int) < l15) ∧
 AddrK a15 fun b38 =>
 ∃ x39, w37.cell? (b38.add ((0 : Int).toNat * 1)) = some (.int .i64 x39) ∧
 ((0 ≤ (0 : Int) ∧ (0 : Int) < l16) ∧
 AddrK a16 fun b40 =>
 ∃ x41, w37.cell? (b40.add ((0 : Int).toNat * 1)) = some (.int .i64 x41) ∧
 (Calls Tryz.prog 43 #[(.slice a1 l1 c1), (.slice a2 l2 c2), (.slice a3 l3 c3), (.int .i64 x39), (.int .i64 x41)] w37 fun e44 w43 =>
 ∃ x42, e44 = .returned (.int .i64 x42) ∧
 (J20 (decide (x42 ≤ 0)) w43))))
 (J20 false w37)))) ∧
 (BoolK (decide ((l15 : Int) > 0))
 (J18 w14)
 (BoolK (decide ((l16 : Int) > 0))
 (J18 w14)
 (K a17 l17 c17 w14))))))))))))
def ann42 : Ann := (.two .nil (.two (.two .nil (.two (.two .nil .nil) .nil)) (.two (.anyC 17 (.take 0 (.take 1 (.take 2 (.take 3 (.take 4 (.take 5 (.take 6 (.take 7 (.take 9 (.take 10 (.take 11 (.take 12 (.take 13 (.take 14 (.take 15 (.take 16 (.one 8 .done)))))))))))))))))) (.two .nil (.two (.one (.loop [(9, (.one .slice)), (10, (.one .slice)), (11, (.one .slice))] [0, 1, 2] (.cut [] [0, 1, 2, 9, 10, 11] (.two .nil (.two .nil .nil)) (.one (.cut [(62, (.one .bool))] [0, 1, 2, 9, 10, 11] (.anyC 17 (.take 0 (.take 1 (.take 2 (.take 3 (.take 4 (.take 5 (.take 6 (.take 7 (.take 8 (.take 9 (.take 10 (.take 11 (.take 12 (.take 13 (.take 14 (.take 15 (.take 16 .done)))))))))))))))))) (.two (.anyC 10 (.take 0 (.take 1 (.take 2 (.take 3 (.take 6 (.take 7 (.one 4 (.one 5 (.take 8 (.take 9 .done))))))))))) (.anyC 10 (.take 0 (.take 1 (.take 2 (.take 3 (.take 6 (.take 7 (.one 4 (.one 5 (.take 8 (.take 9 .done))))))))))))))))) (.two .nil .nil))))))
noncomputable def code42 : Code := match Tryz.f42.body with | some c => c | none => .skip
theorem calls42 (a1 : Option Addr) (l1 : Nat) (c1 : Nat) (a2 : Option Addr) (l2 : Nat) (c2 : Nat) (a3 : Option Addr) (l3 : Nat) (c3 : Nat) (a4 : Option Addr) (l4 : Nat) (c4 : Nat) (K : Option Addr → Nat → Nat → World → Prop) (w : World) (h : N42 a1 l1 c1 a2 l2 c2 a3 l3 c3 a4 l4 c4 K w) : Calls Tryz.prog 42 #[(.slice a1 l1 c1), (.slice a2 l2 c2), (.slice a3 l3 c3), (.slice a4 l4 c4)] w fun en w' => ∃ (a45 : Option Addr), ∃ (l45 : Nat), ∃ (c45 : Nat), en = .returned (.slice a45 l45 c45) ∧ K a45 l45 c45 w' :=
 fn_calls tabOk mixed Tryz.func42 (by kernel_rfl : Tryz.f42.body = some code42) ann42 [(.slice a1 l1 c1), (.slice a2 l2 c2), (.slice a3 l3 c3), (.slice a4 l4 c4)] [(.one .slice)] K w (by kernel_rfl) (by kernel_rfl) (by kernel_rfl) h
end Go.Proofs.YtbiamhoonhjodacGreatDoor

namespace Go.Proofs.YtbiamhoonhjodacGreatDoor
open Go Go.V Go.Proofs Go.V.Gr
open Go.RowKit (Below)
def IC (w : World) (a : Option Addr) (l c : Nat) (xs : List Int) : Prop := Ints w a l xs ∧ l ≤ c
section
variable {w w' : World} {a : Option Addr} {l c : Nat} {xs : List Int}
theorem IC.ext (h : IC w a l c xs) (x : Ext w w') : IC w' a l c xs := ⟨Rows.ext RInt.mono h.1 x, h.2⟩
theorem IC.len (h : IC w a l c xs) : l = xs.length := h.1.1
theorem IC.at_ (h : IC w a l c xs) (x : Ext w w') {i : Nat} (hi : i < xs.length) : ∃ b, a = some b ∧ w'.cell? (b.add (((i : Nat) : Int).toNat * 1)) = some (.int .i64 xs[i]) := by
 obtain ⟨b, o, ha, h0⟩ := (Rows.ext RInt.mono h.1 x).get hi
 exact ⟨_, ha, by rw [Int.toNat_natCast, add_mk]; exact h0⟩
theorem IC.take (h : IC w a l c xs) {k : Nat} (hk : k ≤ l) : IC w a k c (xs.take k) := by
 obtain ⟨⟨h1, h2⟩, h3⟩ := h
 refine ⟨⟨by rw [List.length_take]; omega, ?_⟩, by omega⟩
 rcases h2 with rfl | ⟨b, o, ha, hx⟩
 ·left; simp
 ·right
  exact ⟨b, o, ha, fun i x hi => by
   have hl := (List.getElem?_eq_some_iff.1 hi).1
   rw [List.length_take] at hl
   rw [List.getElem?_take_of_lt (by omega)] at hi
   exact hx i x hi⟩
theorem IC.drop (h : IC w a l c xs) {k : Nat} (hk : k ≤ l) : IC w (if c = k then a else a.map (·.add (k * 1))) (l - k) (c - k) (xs.drop k) := by
 obtain ⟨⟨h1, h2⟩, h3⟩ := h
 refine ⟨⟨by rw [List.length_drop]; omega, ?_⟩, by omega⟩
 by_cases hkl : k = l
 ·left; exact List.drop_eq_nil_of_le (by omega)
 rw [if_neg (by omega)]
 rcases h2 with rfl | ⟨b, o, ha, hx⟩
 ·left; simp
 ·right
  refine ⟨b, o + k, by rw [ha]; simp [add_mk], fun i x hi => ?_⟩
  rw [List.getElem?_drop] at hi
  have := hx (k + i) x hi
  rw [show o + k + i * 1 = o + (k + i) * 1 by omega]; exact this
theorem IC.tail {x : Int} (h : IC w a l c (x :: xs)) : IC w (if c = (1 : Int).toNat then a else a.map (·.add ((1 : Int).toNat * 1))) (l - (1 : Int).toNat) (c - (1 : Int).toNat) xs := by
 have := h.len; rw [List.length_cons] at this
 exact h.drop (k := 1) (by omega)
theorem IC.head {x : Int} (h : IC w a l c (x :: xs)) (k : Ext w w') : (0 < l) ∧ ((1 : Int).toNat ≤ l ∧ l ≤ c) ∧ ∃ b, a = some b ∧ w'.cell? (b.add ((0 : Int).toNat * 1)) = some (.int .i64 x) := by
 have hl := h.len; rw [List.length_cons] at hl
 obtain ⟨b, e1, e2⟩ := h.at_ k (i := 0) (by simp)
 exact ⟨by omega, ⟨by simp; omega, h.2⟩, b, e1, e2⟩
end
def cI (xs : List Nd) (t : Nat) (x y : Int) : Int := cK cHd xs xs t x.toNat y.toNat
theorem cI_tri {xs : List Nd} (hV : VL VN1 xs) (t : Nat) (i j k : Int) (h1 : 0 ≤ i) (h2 : i < (xs.length : Int)) (h3 : 0 ≤ j) (h4 : j < (xs.length : Int)) (h5 : 0 ≤ k) (h6 : k < (xs.length : Int)) : Tri (cI xs t i j) (cI xs t j k) (cI xs t i k) :=
 cK_tri hdC hV hV hV t _ _ _ (by omega) (by omega) (by omega)
theorem cI_neg {xs : List Nd} (hV : VL VN1 xs) (t : Nat) (i j : Int) (h1 : 0 ≤ i) (h2 : i < (xs.length : Int)) (h3 : 0 ≤ j) (h4 : j < (xs.length : Int)) : cI xs t j i = - cI xs t i j :=
 cK_neg hdC hV hV t _ _ (by omega) (by omega)
theorem Mrg.right {cf : Int → Int → Int} {n : Nat} {at_ out a b : List Int} {y : Int} (h : Mrg cf n at_ out a (y :: b)) (htri : ∀ i j k : Int, 0 ≤ i → i < n → 0 ≤ j → j < n → 0 ≤ k → k < n → Tri (cf i j) (cf j k) (cf i k)) (hb : a = [] ∨ ∃ x a', a = x :: a' ∧ cf y x ≤ 0) : Mrg cf n at_ (out ++ [y]) a b :=
 (h.swap.left htri hb).swap
set_option maxRecDepth 100000 in
theorem ctr42 {xs : List Nd} {a1 a2 a3 : Option Addr} {l1 l2 l3 t : Nat} (c1 c2 c3 : Nat) (hV : VL VN1 xs) (hz : Sz xs) : ∀ (n : Nat) (w : World) (a4 : Option Addr) (l4 c4 : Nat) (at_ : List Int), at_.length ≤ n → at_.length ≤ 1000000 →
  CmpBy xs w a1 l1 a2 l2 a3 l3 t → IC w a4 l4 c4 at_ → (∀ x ∈ at_, 0 ≤ x ∧ x < (xs.length : Int)) →
  Calls Tryz.prog 42 #[.slice a1 l1 c1, .slice a2 l2 c2, .slice a3 l3 c3, .slice a4 l4 c4] w fun en w' => ∃ a l c, en = .returned (.slice a l c) ∧
   ((∃ out : List Int, out.Perm at_ ∧ Srt (cI xs t) out ∧ IC w' a l c out) ∧ Ext w w') := by
 intro n
 induction n with
 | zero =>
  intro w a4 l4 c4 at_ hn _ _ h _
  refine calls42 _ _ _ _ _ _ _ _ _ _ _ _ _ w ?_
  have := h.len
  refine BoolK.mk (fun _ => ?_) (fun t => by have := of_decide_eq_false t; omega)
  exact ⟨⟨at_, List.Perm.refl _, by
   have : at_ = [] := List.length_eq_zero_iff.1 (by omega)
   subst this; exact List.Pairwise.nil, h⟩, Ext.refl w⟩
 | succ n ih =>
  intro w a4 l4 c4 at_ hn hmax hB h hin
  refine calls42 _ _ _ _ _ _ _ _ _ _ _ _ _ w ?_
  have hl := h.len
  have hc := h.2
  refine BoolK.mk (fun ts => ?_) (fun ts => ?_)
  ·have ts := of_decide_eq_true ts
   refine ⟨⟨at_, List.Perm.refl _, ?_, h⟩, Ext.refl w⟩
   match at_, hl with
   | [], _ => exact List.Pairwise.nil
   | [x], _ => exact List.pairwise_singleton _ _
   | x :: y :: r, hl => simp at hl; omega
  have ts := of_decide_eq_false ts
  have hw : IntKind.wrap .i64 (((l4 : Nat) : Int).tdiv 2) = ((l4 / 2 : Nat) : Int) := by
   rw [Int.tdiv_eq_ediv_of_nonneg (by omega), wrap_id (by omega) (by omega)]; omega
  have h2 : l4 / 2 < l4 := by omega
  have h3 : 1 ≤ l4 / 2 := by omega
  rw [hw]
  simp only [Int.toNat_natCast, Nat.sub_zero]
  refine DrewK.mk fun w5 x5 => ⟨by omega, by omega, ⟨by omega, by omega⟩, by omega, by omega, ⟨by omega, by omega⟩, ?_⟩
  have ha0 : (if c4 = 0 then a4 else a4.map (·.add (0 * 1))) = a4 := by
   split
   ·rfl
   ·cases a4 with
    | none => rfl
    | some b => simp [add_mk0]
  rw [ha0]
  have hT := (h.ext x5).take (k := l4 / 2) (by omega)
  have hD := (h.ext x5).drop (k := l4 / 2) (by omega)
  generalize hk : l4 / 2 = k at *
  refine (ih w5 a4 k c4 (at_.take k) (by rw [List.length_take]; omega) (by rw [List.length_take]; omega) (hB.ext x5) hT fun x hx => hin x (List.mem_of_mem_take hx)).mono ?_
  rintro en w7 ⟨a6, l6, c6, rfl, ⟨A, pA, sA, iA⟩, x7⟩
  have y7 := x5.trans x7
  refine ⟨_, _, _, rfl, (ih w7 _ _ _ (at_.drop k) (by rw [List.length_drop]; omega) (by rw [List.length_drop]; omega) (hB.ext y7) (hD.ext x7) fun x hx => hin x (List.mem_of_mem_drop hx)).mono ?_⟩
  rintro en w10 ⟨a9, l9, c9, rfl, ⟨B, pB, sB, iB⟩, x10⟩
  have y10 := y7.trans x10
  have hB10 := hB.ext y10
  have iA := iA.ext x10
  have hpm : (A ++ B).Perm at_ := by
   have := pA.append pB
   rwa [List.take_append_drop] at this
  have tri := cI_tri hV t
  have neg := cI_neg hV t
  refine ⟨_, _, _, rfl, fun a l c a' l' c' a'' l'' c'' w' => ∃ ra rb out : List Int, Ext w10 w' ∧ IC w10 a l c ra ∧ IC w10 a' l' c' rb ∧ OwnR w10.heap.size 3 1 eI w' a'' l'' c'' out ∧ Mrg (cI xs t) xs.length at_ out ra rb, fun _ l _ _ l' _ _ _ _ _ => l + l',
   ⟨⟨A, B, [], Ext.refl _, iA, iB, OwnR.nil _ _ _ _ _, ⟨by simpa using hpm, hin, List.Pairwise.nil, sA, sB, fun x hx => by cases hx⟩⟩, trivial⟩, ?_⟩
  rintro w14 a15 l15 c15 a16 l16 c16 a17 l17 c17 ⟨ra, rb, out, x14, iA, iB, hO, M⟩
  have lA := iA.len; have lB := iB.len
  have hlen : out.length + (ra.length + rb.length) = at_.length := by have := M.perm.length_eq; simpa using this
  refine ⟨fun w' => w' = w14 ∧ (ra ≠ [] ∨ rb ≠ []), ?_, BoolK.mk (fun t1 => ⟨rfl, .inl fun e => ?_⟩) (fun t1 => BoolK.mk (fun t2 => ⟨rfl, .inr fun e => ?_⟩) (fun t2 => ?_))⟩
  rotate_left
  ·have := of_decide_eq_true t1; rw [e] at lA; simp at lA; omega
  ·have := of_decide_eq_true t2; rw [e] at lB; simp at lB; omega
  ·have t1 := of_decide_eq_false t1; have t2 := of_decide_eq_false t2
   obtain rfl : ra = [] := List.length_eq_zero_iff.1 (by omega)
   obtain rfl : rb = [] := List.length_eq_zero_iff.1 (by omega)
   exact ⟨⟨out, by simpa using M.perm, M.so, ⟨OwnR.ints hO, by
    rcases hO.2.2 with ⟨e, _⟩ | ⟨g, cap, cur, e, _, _, h3, _⟩
    ·cases e; exact Nat.le_refl _
    ·simp only [Value.slice.injEq] at e; obtain ⟨_, e1, rfl⟩ := e; rw [e1]; exact h3⟩⟩, y10.trans x14⟩
  rintro w19 ⟨rfl, hsome⟩
  refine ⟨fun p w' => Ext w19 w' ∧ (p = true → ∃ x ra', ra = x :: ra' ∧ (rb = [] ∨ ∃ y b', rb = y :: b' ∧ cI xs t x y ≤ 0)) ∧ (p = false → ∃ y b', rb = y :: b' ∧ (ra = [] ∨ ∃ x a', ra = x :: a' ∧ 0 < cI xs t x y)), ?_, ?_⟩
  ·rintro w21 p ⟨x21, hp1, hp2⟩
   have x21' := x14.trans x21
   refine BoolK.mk (fun tp => DrewK.mk fun w23 x23 => ?_) (fun tp => DrewK.mk fun w30 x30 => ?_)
   ·obtain ⟨x, ra', rfl, hb⟩ := hp1 tp
    obtain ⟨q1, q2, b24, q3, q4⟩ := iA.head (x21'.trans x23)
    refine ⟨⟨by omega, by omega⟩, adK q3 ⟨_, q4, by omega, q2, ?_⟩⟩
    have hO := hO.ext (x21.trans x23)
    have xs23 := x21'.trans x23
    refine OwnR.push x sltI hO xs23.size eI_len eI_one (by simp at hlen; omega) rfl fun a' c' w' h1 h2 _ => ?_
    refine ⟨⟨ra', rb, out ++ [x], Below.trans xs23 (hO.below xs23.size h2), iA.tail, iB, h1, M.left tri hb⟩, ?_⟩
    simp; omega
   ·obtain ⟨y, b', rfl, ha⟩ := hp2 tp
    obtain ⟨q1, q2, b24, q3, q4⟩ := iB.head (x21'.trans x30)
    refine ⟨⟨by omega, by omega⟩, adK q3 ⟨_, q4, by omega, q2, ?_⟩⟩
    have hO := hO.ext (x21.trans x30)
    have xs23 := x21'.trans x30
    refine OwnR.push y sltI hO xs23.size eI_len eI_one (by simp at hlen; omega) rfl fun a' c' w' h1 h2 _ => ?_
    refine ⟨⟨ra, b', out ++ [y], Below.trans xs23 (hO.below xs23.size h2), iA, iB.tail, h1, M.right tri ?_⟩, ?_⟩
    ·rcases ha with rfl | ⟨x, a', rfl, hxy⟩
     ·exact .inl rfl
     ·refine .inr ⟨x, a', rfl, ?_⟩
      have mx := M.mem x (by simp); have my := M.mem y (by simp)
      have := neg x y mx.1 mx.2 my.1 my.2
      omega
    ·simp; omega
  ·refine DrewK.mk fun w37 x37 => BoolK.mk (fun t3 => ?_) (fun t3 => ?_)
   ·have hb0 : rb = [] := List.length_eq_zero_iff.1 (by have := eq_of_beq t3; omega)
    refine ⟨x37, fun _ => ?_, fun e => by cases e⟩
    rcases hsome with h | h
    ·cases ra with
     | nil => exact absurd rfl h
     | cons x ra' => exact ⟨x, ra', rfl, .inl hb0⟩
    ·exact absurd hb0 h
   ·have hb0 : rb ≠ [] := fun e => by rw [e] at lB; subst lB; simp at t3
    obtain ⟨y, b', rfl⟩ : ∃ y b', rb = y :: b' := by
     cases rb with
     | nil => exact absurd rfl hb0
     | cons y b' => exact ⟨y, b', rfl⟩
    refine BoolK.mk (fun t4 => ?_) (fun t4 => ?_)
    ·have t4 := of_decide_eq_true t4
     obtain ⟨x, a', rfl⟩ : ∃ x a', ra = x :: a' := by
      cases ra with
      | nil => simp at lA; omega
      | cons x a' => exact ⟨x, a', rfl⟩
     obtain ⟨q1, q2, b38, q3, q4⟩ := iA.head (x14.trans x37)
     obtain ⟨r1, r2, b40, r3, r4⟩ := iB.head (x14.trans x37)
     have mx := M.mem x (by simp); have my := M.mem y (by simp)
     have ex : x = ((x.toNat : Nat) : Int) := by omega
     have ey : y = ((y.toNat : Nat) : Int) := by omega
     refine ⟨⟨by omega, by omega⟩, adK q3 ⟨_, q4, ⟨by omega, by omega⟩, adK r3 ⟨_, r4, ?_⟩⟩⟩
     have cmp := ctr43 w37 c1 c2 c3 (hB10.ext (x14.trans x37)) hV hz (i := x.toNat) (j := y.toNat) (by omega) (by omega)
     rw [← ex, ← ey] at cmp
     refine cmp.mono ?_
     rintro en w43 ⟨r, rfl, rfl, x43⟩
     refine ⟨_, rfl, x37.trans x43, fun e => ⟨x, a', rfl, .inr ⟨y, b', rfl, of_decide_eq_true e⟩⟩, fun e => ⟨y, b', rfl, .inr ⟨x, a', rfl, ?_⟩⟩⟩
     have := of_decide_eq_false e
     show 0 < cK cHd xs xs t x.toNat y.toNat
     omega
    ·have t4 := of_decide_eq_false t4
     have hr0 : ra = [] := List.length_eq_zero_iff.1 (by omega)
     exact ⟨x37, fun e => (by cases e), fun _ => ⟨y, b', rfl, .inl hr0⟩⟩
end Go.Proofs.YtbiamhoonhjodacGreatDoor

namespace Go.Proofs.YtbiamhoonhjodacGreatDoor
open Go Go.V Go.Proofs
open Go.RowKit (Below)
/-! manystrand/manystrandref05.ranked -/
def N23 (a1 : Option Addr) (l1 : Nat) (c1 : Nat) (a2 : Option Addr) (l2 : Nat) (c2 : Nat) (a3 : Option Addr) (l3 : Nat) (c3 : Nat) (K : Option Addr → Nat → Nat → Int → World → Prop) (w : World) : Prop :=
 (0 ≤ (l1 : Int) ∧ (l1 : Int) ≤ l1 ∧ ((8 : Nat) : Int) * l1 ≤ 281474976710656 ∧ (l1 : Int) ≤ 9223372036854775807) ∧
 AllocK w (madeCells (#[.int .i64 0]) ((l1 : Int).toNat * 1)) 3 fun b4 w5 =>
 ∃ (I6 : Int → World → Prop) (μ7 : Int → World → Nat),
 (I6 0 w5 ∧ True) ∧
 ∀ w8 x9, I6 x9 w8 →
 BoolK (decide (x9 < l1))
 ((0 ≤ x9 ∧ x9 < ((l1 : Int).toNat : Nat)) ∧
 SetK w8 (b4.add (x9.toNat * 1)) (.int .i64 x9) fun w10 =>
 I6 (IntKind.wrap .i64 (x9 + 1)) w10 ∧ μ7 (IntKind.wrap .i64 (x9 + 1)) w10 < μ7 x9 w8)
 (Calls Tryz.prog 42 #[(.slice a1 l1 c1), (.slice a2 l2 c2), (.slice a3 l3 c3), (.slice (some b4) ((l1 : Int).toNat) ((l1 : Int).toNat))] w8 fun e13 w12 =>
 ∃ a11, ∃ l11, ∃ c11, e13 = .returned (.slice a11 l11 c11) ∧
 ((0 ≤ (l1 : Int) ∧ (l1 : Int) ≤ l1 ∧ ((8 : Nat) : Int) * l1 ≤ 281474976710656 ∧ (l1 : Int) ≤ 9223372036854775807) ∧
 AllocK w12 (madeCells (#[.int .i64 0]) ((l1 : Int).toNat * 1)) 3 fun b14 w15 =>
 ∃ (I16 : Int → Int → World → Prop) (μ17 : Int → Int → World → Nat),
 (I16 0 0 w15 ∧ True) ∧
 ∀ w18 x19 x20, I16 x19 x20 w18 →
 BoolK (decide (x20 < l11))
 (DrewK w18 fun w21 =>
 BoolK (decide (x20 > 0))
 ((0 ≤ (IntKind.wrap .i64 (x20 - 1) : Int) ∧ (IntKind.wrap .i64 (x20 - 1) : Int) < l11) ∧
 AddrK a11 fun b22 =>
 ∃ x23, w21.cell? (b22.add ((IntKind.wrap .i64 (x20 - 1) : Int).toNat * 1)) = some (.int .i64 x23) ∧
 ((0 ≤ x20 ∧ x20 < l11) ∧
 AddrK a11 fun b24 =>
 ∃ x25, w21.cell? (b24.add (x20.toNat * 1)) = some (.int .i64 x25) ∧
 (Calls Tryz.prog 43 #[(.slice a1 l1 c1), (.slice a2 l2 c2), (.slice a3 l3 c3), (.int .i64 x23), (.int .i64 x25)] w21 fun e28 w27 =>
 ∃ x26, e28 = .returned (.int .i64 x26) ∧
 (BoolK (x26 != 0)
 ((0 ≤ x20 ∧ x20 < l11) ∧
 AddrK a11 fun b29 =>
 ∃ x30, w27.cell? (b29.add (x20.toNat * 1)) = some (.int .i64 x30) ∧
 ((0 ≤ x30 ∧ x30 < ((l1 : Int).toNat : Nat)) ∧
 SetK w27 (b14.add (x30.toNat * 1)) (.int .i64 (IntKind.wrap .i64 (x19 + 1))) fun w31 =>
 I16 (IntKind.wrap .i64 (x19 + 1)) (IntKind.wrap .i64 (x20 + 1)) w31 ∧ μ17 (IntKind.wrap .i64 (x19 + 1)) (IntKind.wrap .i64 (x20 + 1)) w31 < μ17 x19 x20 w18))
 ((0 ≤ x20 ∧ x20 < l11) ∧
 AddrK a11 fun b32 =>
 ∃ x33, w27.cell? (b32.add (x20.toNat * 1)) = some (.int .i64 x33) ∧
 ((0 ≤ x33 ∧ x33 < ((l1 : Int).toNat : Nat)) ∧
 SetK w27 (b14.add (x33.toNat * 1)) (.int .i64 x19) fun w34 =>
 I16 x19 (IntKind.wrap .i64 (x20 + 1)) w34 ∧ μ17 x19 (IntKind.wrap .i64 (x20 + 1)) w34 < μ17 x19 x20 w18))))))
 ((0 ≤ x20 ∧ x20 < l11) ∧
 AddrK a11 fun b35 =>
 ∃ x36, w21.cell? (b35.add (x20.toNat * 1)) = some (.int .i64 x36) ∧
 ((0 ≤ x36 ∧ x36 < ((l1 : Int).toNat : Nat)) ∧
 SetK w21 (b14.add (x36.toNat * 1)) (.int .i64 x19) fun w37 =>
 I16 x19 (IntKind.wrap .i64 (x20 + 1)) w37 ∧ μ17 x19 (IntKind.wrap .i64 (x20 + 1)) w37 < μ17 x19 x20 w18)))
 (K (some b14) ((l1 : Int).toNat) ((l1 : Int).toNat) (IntKind.wrap .i64 (x19 + 1)) w18)))
def ann23 : Ann := (.two .nil (.two .nil (.two (.two .nil (.one (.loop [(9, (.one (.int .i64)))] [0, 1, 2, 8] (.two (.two .nil (.two .nil .nil)) (.two (.one .nil) .nil))))) (.two .nil (.two .nil (.two .nil (.two (.two .nil (.one (.loop [(11, (.one (.int .i64))), (12, (.one (.int .i64)))] [0, 1, 2, 8, 10] (.two (.two .nil (.two .nil .nil)) (.two (.one (.two (.two (.anyC 15 (.take 0 (.take 1 (.take 2 (.take 3 (.take 4 (.take 5 (.take 6 (.take 7 (.take 8 (.take 9 (.take 10 (.take 11 (.take 12 (.take 13 (.take 14 .done)))))))))))))))) (.two .nil .nil)) .nil)) .nil))))) (.two .nil .nil))))))))
noncomputable def code23 : Code := match Tryz.f23.body with | some c => c | none => .skip
theorem calls23 (a1 : Option Addr) (l1 : Nat) (c1 : Nat) (a2 : Option Addr) (l2 : Nat) (c2 : Nat) (a3 : Option Addr) (l3 : Nat) (c3 : Nat) (K : Option Addr → Nat → Nat → Int → World → Prop) (w : World) (h : N23 a1 l1 c1 a2 l2 c2 a3 l3 c3 K w) : Calls Tryz.prog 23 #[(.slice a1 l1 c1), (.slice a2 l2 c2), (.slice a3 l3 c3)] w fun en w' => ∃ (a38 : Option Addr), ∃ (l38 : Nat), ∃ (c38 : Nat), ∃ (x39 : Int), en = .returned (.tuple #[(.slice a38 l38 c38), (.int .i64 x39)]) ∧ K a38 l38 c38 x39 w' :=
 fn_calls tabOk mixed Tryz.func23 (by kernel_rfl : Tryz.f23.body = some code23) ann23 [(.slice a1 l1 c1), (.slice a2 l2 c2), (.slice a3 l3 c3)] [(.one .slice), (.one (.int .i64))] K w (by kernel_rfl) (by kernel_rfl) (by kernel_rfl) h
end Go.Proofs.YtbiamhoonhjodacGreatDoor

namespace Go.Proofs.YtbiamhoonhjodacGreatDoor
open Go Go.V Go.Proofs Go.V.Gr
open Go.RowKit (Below)
theorem perm_range {n : Nat} {out ls : List Int} (hp : out.Perm ls) (hl : ls.length = n) (ha : ∀ j, j < n → ls[j]? = some (j : Int)) : out.length = n ∧ (∀ i, i < n → ∃ v : Nat, v < n ∧ out[i]? = some (v : Int)) ∧ (∀ i j, i < n → j < n → ga out i = ga out j → i = j) ∧ ∀ v, v < n → ∃ i, i < n ∧ ga out i = (v : Nat) := by
 have hlen : out.length = n := by rw [hp.length_eq, hl]
 have hm : ∀ x, x ∈ ls ↔ ∃ v : Nat, v < n ∧ x = (v : Int) := fun x => by
  constructor
  ·intro h
   obtain ⟨j, hj⟩ := List.getElem?_of_mem h
   have hjl : j < n := by rw [← hl]; exact (List.getElem?_eq_some_iff.1 hj).1
   rw [ha j hjl] at hj; exact ⟨j, hjl, (Option.some.inj hj).symm⟩
  ·rintro ⟨v, hv, rfl⟩; exact List.mem_of_getElem? (ha v hv)
 have hnd : ls.Nodup := by
  rw [List.Nodup, List.pairwise_iff_getElem]
  intro i j hi hj hij e
  have h1 := ha i (by omega); have h2 := ha j (by omega)
  rw [List.getElem?_eq_getElem hi] at h1; rw [List.getElem?_eq_getElem hj, ← e] at h2
  rw [h1] at h2; have := Option.some.inj h2; omega
 have hno := hp.nodup_iff.2 hnd
 refine ⟨hlen, fun i hi => ?_, fun i j hi hj e => ?_, fun v hv => ?_⟩
 ·have hi' : i < out.length := by omega
  obtain ⟨v, hv, e⟩ := (hm _).1 (hp.mem_iff.1 (List.getElem_mem hi'))
  exact ⟨v, hv, by rw [List.getElem?_eq_getElem hi', e]⟩
 ·rw [ga_get (by omega), ga_get (by omega)] at e
  exact nodup_idx hno (List.getElem?_eq_getElem (by omega)) (by rw [List.getElem?_eq_getElem (by omega), e])
 ·have : (v : Int) ∈ out := hp.mem_iff.2 ((hm _).2 ⟨v, hv, rfl⟩)
  obtain ⟨i, hi⟩ := List.getElem?_of_mem this
  have hil : i < n := by rw [← hlen]; exact (List.getElem?_eq_some_iff.1 hi).1
  exact ⟨i, hil, by rw [ga, hi]; rfl⟩
set_option maxRecDepth 100000 in
theorem ctr23 (w : World) {xs : List Nd} {a1 a2 a3 : Option Addr} {l1 l2 l3 t : Nat} (c1 c2 c3 : Nat) (hB : CmpBy xs w a1 l1 a2 l2 a3 l3 t) (hV : VL VN1 xs) (hz : Sz xs) (h0 : 0 < xs.length) :
  Calls Tryz.prog 23 #[.slice a1 l1 c1, .slice a2 l2 c2, .slice a3 l3 c3] w fun en w' => ∃ a l c m, en = .returned (.tuple #[.slice a l c, .int .i64 m]) ∧
   ((∃ (k : Nat) (rk : List Int), m = k ∧ a ≠ none ∧ Rkn xs.length rk k (fun i j => cK cHd xs xs t i j) ∧ Ints w' a l rk) ∧ Ext w w') := by
 refine calls23 _ _ _ _ _ _ _ _ _ _ w ?_
 have hn := hz.len
 obtain rfl : l1 = xs.length := hB.1.len
 simp only [N23, Int.toNat_natCast]
 refine ⟨⟨by omega, by omega, by omega, by omega⟩, RowR.make (x := (0 : Int)) (enc := eI) rfl (by simp only [maxLen]; omega) (fun _ => (none : Option Nat)) 0 fun b4 w5 r5 u5 x5 hb4 => ?_⟩
 have L5 := (Mine.refl (ρ := Nat) w).upd u5
 generalize setOwn (fun _ => (none : Option Nat)) (some b4) 0 = own at r5 u5 L5
 refine ⟨fun i w' => ∃ (k : Nat) (ls : List Int), i = k ∧ k ≤ xs.length ∧ Mine own w w' ∧ RowR own 0 3 1 eI w' (some ⟨b4, 0, none⟩, xs.length, xs.length) ls ∧ ls.length = xs.length ∧ ∀ j, j < k → ls[j]? = some (j : Int), fun i _ => xs.length - i.toNat, ⟨⟨0, _, rfl, by omega, L5, r5, by simp, fun j hj => by omega⟩, trivial⟩, ?_⟩
 rintro w8 _ ⟨k, ls, rfl, hk, L8, r8, hls, hall⟩
 refine BoolK.mk (fun tq => ?_) (fun tq => ?_)
 ·have hlt : k < xs.length := by have := of_decide_eq_true tq; omega
  refine ⟨⟨by omega, by omega⟩, RowR.seti r8 (by omega) _ fun w10 r10 u10 => ?_⟩
  rw [wrap_succ (by omega)]
  refine ⟨⟨k + 1, _, rfl, by omega, L8.upd u10, r10, by simpa using hls, fun j hj => ?_⟩, by simp; omega⟩
  rw [List.getElem?_set]
  by_cases e : k = j
  ·subst e; rw [if_pos rfl, if_pos (by omega)]
  ·rw [if_neg e]; exact hall j (by omega)
 have hkn : k = xs.length := by have := of_decide_eq_false tq; omega
 subst hkn
 have hB8 := hB.ext L8.below
 have hIC : IC w8 (some ⟨b4, 0, none⟩) xs.length xs.length ls := ⟨OwnR.ints r8.1, Nat.le_refl _⟩
 have hin : ∀ x ∈ ls, 0 ≤ x ∧ x < (xs.length : Int) := fun x hx => by
  obtain ⟨j, hj⟩ := List.getElem?_of_mem hx
  have hjl : j < xs.length := by rw [← hls]; exact (List.getElem?_eq_some_iff.1 hj).1
  rw [hall j hjl] at hj; have := Option.some.inj hj; omega
 refine (ctr42 c1 c2 c3 hV hz xs.length w8 _ _ _ ls (by omega) (by omega) hB8 hIC hin).mono ?_
 rintro en w12 ⟨a11, l11, c11, rfl, ⟨out, hperm, hsrt, hI⟩, x12⟩
 obtain ⟨hol, hov, pinj, psurj⟩ := perm_range hperm hls hall
 have y12 := L8.below.trans x12
 have hB12 := hB8.ext x12
 have l11e := hI.len
 let p : Nat → Nat := fun i => (ga out i).toNat
 have hpv : ∀ i, i < xs.length → out[i]? = some ((p i : Nat) : Int) ∧ p i < xs.length := fun i hi => by
  obtain ⟨v, hv, e⟩ := hov i hi
  have : p i = v := by show (ga out i).toNat = v; rw [ga, e]; simp
  rw [this]; exact ⟨e, hv⟩
 have hp : ∀ i, i < xs.length → p i < xs.length := fun i hi => (hpv i hi).2
 have hpin : ∀ i j, i < xs.length → j < xs.length → p i = p j → i = j := fun i j hi hj e => pinj i j hi hj (by
  rw [ga, ga, (hpv i hi).1, (hpv j hj).1, e])
 have hpsur : ∀ v, v < xs.length → ∃ i, i < xs.length ∧ p i = v := fun v hv => by
  obtain ⟨i, hi, e⟩ := psurj v hv
  exact ⟨i, hi, by show (ga out i).toNat = v; rw [e]; simp⟩
 let cf : Nat → Nat → Int := fun i j => cK cHd xs xs t i j
 have hneg : ∀ i j, i < xs.length → j < xs.length → cf j i = - cf i j := fun i j hi hj => cK_neg hdC hV hV t i j hi hj
 have htri : ∀ i j k, i < xs.length → j < xs.length → k < xs.length → Tri (cf i j) (cf j k) (cf i k) := fun i j k hi hj hk => cK_tri hdC hV hV hV t i j k hi hj hk
 have h00 : ∀ i, i < xs.length → cf i i = 0 := fun i hi => by have := hneg i i hi hi; omega
 have ps : ∀ i j, i < j → j < xs.length → cf (p i) (p j) ≤ 0 := fun i j hij hj => by
  have h1 := List.pairwise_iff_getElem.1 hsrt i j (by omega) (by omega) hij
  have e1 := (hpv i (by omega)).1; have e2 := (hpv j hj).1
  rw [List.getElem?_eq_getElem (by omega)] at e1 e2
  rw [Option.some.inj e1, Option.some.inj e2] at h1
  simpa [cI] using h1
 have RK := rnk_ok hp htri h00 ps
 have hat : ∀ {w' : World} {i : Nat}, Ext w12 w' → i < xs.length → ∃ b, a11 = some b ∧ w'.cell? (b.add (((i : Nat) : Int).toNat * 1)) = some (.int .i64 (p i : Nat)) := fun x hi => by
  obtain ⟨b, e1, e2⟩ := hI.at_ x (i := _) (by rw [hol]; exact hi)
  refine ⟨b, e1, ?_⟩
  rw [e2]
  have := (hpv _ hi).1
  rw [List.getElem?_eq_getElem (by omega)] at this
  rw [Option.some.inj this]
 refine ⟨_, _, _, rfl, ⟨by omega, by omega, by omega, by omega⟩, RowR.make (x := (0 : Int)) (enc := eI) rfl (by simp only [maxLen]; omega) (fun _ => (none : Option Nat)) 1 fun b14 w15 r15 u15 x15 hb14 => ?_⟩
 have L15 := (Mine.refl (ρ := Nat) w12).upd u15
 generalize setOwn (fun _ => (none : Option Nat)) (some b14) 1 = own1 at r15 u15 L15
 refine ⟨fun m x w' => ∃ (i : Nat) (rs : List Int), x = i ∧ i ≤ xs.length ∧ m = ((rnk cf p (i - 1) : Nat) : Int) ∧ Mine own1 w12 w' ∧ RowR own1 1 3 1 eI w' (some ⟨b14, 0, none⟩, xs.length, xs.length) rs ∧ rs.length = xs.length ∧
   (∀ q, q < i → ga rs (p q) = (rnk cf p q : Nat)), fun _ x _ => xs.length - x.toNat,
  ⟨⟨0, _, rfl, by omega, rfl, L15, r15, by simp, fun q hq => by omega⟩, trivial⟩, ?_⟩
 clear r15 u15 L15 x15
 rintro w18 _ _ ⟨i, rs, rfl, hi, rfl, L18, r18, hrs, hA⟩
 have last : ∀ {wz : World} {v : Nat} (hlt : i < xs.length), Mine own1 w12 wz → RowR own1 1 3 1 eI wz (some ⟨b14, 0, none⟩, xs.length, xs.length) rs → v = rnk cf p i →
   (0 ≤ ((i : Nat) : Int) ∧ ((i : Nat) : Int) < (l11 : Nat)) ∧ AddrK a11 fun b29 => ∃ (x30 : Int), wz.cell? (b29.add (((i : Nat) : Int).toNat * 1)) = some (.int .i64 x30) ∧ ((0 ≤ (x30 : Int) ∧ (x30 : Int) < (xs.length : Nat)) ∧
    SetK wz ((⟨b14, 0, none⟩ : Addr).add ((x30 : Int).toNat * 1)) (.int .i64 ((v : Nat) : Int)) fun w31 =>
     (∃ (k : Nat) (rs : List Int), IntKind.wrap .i64 (((i : Nat) : Int) + 1) = k ∧ k ≤ xs.length ∧ ((v : Nat) : Int) = ((rnk cf p (k - 1) : Nat) : Int) ∧ Mine own1 w12 w31 ∧ RowR own1 1 3 1 eI w31 (some ⟨b14, 0, none⟩, xs.length, xs.length) rs ∧ rs.length = xs.length ∧ (∀ q, q < k → ga rs (p q) = (rnk cf p q : Nat))) ∧
     xs.length - (IntKind.wrap .i64 (((i : Nat) : Int) + 1)).toNat < xs.length - ((i : Nat) : Int).toNat) := by
  intro wz v hlt L r hv
  obtain ⟨b, e1, e2⟩ := hat L.below hlt
  have hpi := hp i hlt
  refine ⟨⟨by omega, by omega⟩, adK e1 ⟨_, e2, ⟨by omega, by omega⟩, RowR.seti r (by omega) _ fun w31 r31 u31 => ?_⟩⟩
  rw [wrap_succ (by omega)]
  refine ⟨⟨i + 1, _, rfl, by omega, by rw [Nat.add_sub_cancel, hv], L.upd u31, r31, by simpa using hrs, fun q hq => ?_⟩, by simp; omega⟩
  rw [ga_set (by omega)]
  by_cases e : q = i
  ·subst e; rw [if_pos rfl, hv]
  ·rw [if_neg (fun h => e (hpin q i (by omega) hlt h))]; exact hA q (by omega)
 refine BoolK.mk (fun t1 => ?_) (fun t1 => ?_)
 ·have hlt : i < xs.length := by have := of_decide_eq_true t1; omega
  refine DrewK.mk fun w21 x21 => BoolK.mk (fun t2 => ?_) (fun t2 => ?_)
  ·obtain ⟨j, rfl⟩ : ∃ j, i = j + 1 := ⟨i - 1, by have := of_decide_eq_true t2; omega⟩
   have wj : IntKind.wrap .i64 (((j + 1 : Nat) : Int) - 1) = (j : Int) := by rw [wrap_id (by omega) (by omega)]; omega
   rw [wj]
   have x21' := L18.below.trans x21
   obtain ⟨b22, e22, v22⟩ := hat x21' (i := j) (by omega)
   obtain ⟨b24, e24, v24⟩ := hat x21' hlt
   refine ⟨⟨by omega, by omega⟩, adK e22 ⟨_, v22, ⟨by omega, by omega⟩, adK e24 ⟨_, v24, (ctr43 w21 c1 c2 c3 (hB12.ext x21') hV hz (hp j (by omega)) (hp (j + 1) hlt)).mono ?_⟩⟩⟩
   rintro en w27 ⟨r, rfl, rfl, x27⟩
   have L27 := (L18.ext x21).ext x27
   have r27 := (r18.ext x21).ext x27
   have hrl := rnk_le cf p j
   refine ⟨_, rfl, BoolK.mk (fun t3 => ?_) (fun t3 => ?_)⟩
   ·have t3 : cf (p j) (p (j + 1)) ≠ 0 := by simpa using t3
    rw [show j + 1 - 1 = j from rfl, wrap_succ (n := rnk cf p j) (by omega)]
    exact last hlt L27 r27 (by rw [rnk, if_neg t3])
   ·have t3 : cf (p j) (p (j + 1)) = 0 := by simpa using t3
    exact last hlt L27 r27 (by rw [rnk, if_pos t3]; rfl)
  ·have : i = 0 := by have := of_decide_eq_false t2; omega
   subst this
   exact last hlt (L18.ext x21) (r18.ext x21) rfl
 ·have hik : i = xs.length := by have := of_decide_eq_false t1; omega
  subst hik
  have hrl := rnk_le cf p (xs.length - 1)
  refine ⟨⟨rnk cf p (xs.length - 1) + 1, rs, by rw [wrap_succ (by omega)], by simp, ⟨⟨hrs, fun a b ha hb => ?_⟩, fun a ha => ?_, fun q hq => ?_⟩, OwnR.ints r18.1⟩, y12.trans L18.below⟩
  ·obtain ⟨x, hx, rfl⟩ := hpsur a ha
   obtain ⟨y, hy, rfl⟩ := hpsur b hb
   rw [hA x hx, hA y hy]
   have one : ∀ x y, x ≤ y → y < xs.length → sg (rnk cf p x : Nat) (rnk cf p y : Nat) = cf (p x) (p y) := fun x y hxy hy => by
    have s := cK_s xs xs t (p x) (p y)
    rcases RK x y hxy hy with ⟨e1, e2⟩ | ⟨e1, e2⟩
    ·rw [e2, e1]; exact sg_zero.2 rfl
    ·have : cf (p x) (p y) = -1 := by
      rcases s with s | s | s
      ·exact s
      ·have : cf (p x) (p y) = 0 := s
       omega
      ·have : cf (p x) (p y) = 1 := s
       omega
     rw [this]; unfold sg; rw [if_pos (by omega)]
   rcases Nat.le_total x y with h | h
   ·exact one x y h hy
   ·have e := one y x h hx
    have hn2 := hneg (p x) (p y) (hp x hx) (hp y hy)
    rw [sg_neg, e]
    show - cf (p y) (p x) = cf (p x) (p y)
    omega
  ·obtain ⟨x, hx, rfl⟩ := hpsur a ha
   rw [hA x hx]
   have := rnk_mono cf p x (xs.length - 1) (by omega)
   omega
  ·obtain ⟨j, hj, e⟩ := rnk_hit cf p (xs.length - 1) q (by omega)
   exact ⟨p j, hp j (by omega), by rw [hA j (by omega), e]⟩
end Go.Proofs.YtbiamhoonhjodacGreatDoor

namespace Go.Proofs.YtbiamhoonhjodacGreatDoor
open Go Go.V Go.Proofs
open Go.RowKit (Below)
/-! manystrand/manystrandref05.joined -/
def N22 (x1 : Int) (a2 : Option Addr) (l2 : Nat) (c2 : Nat) (x3 : Int) (a4 : Option Addr) (l4 : Nat) (c4 : Nat) (K : Option Addr → Nat → Nat → Int → Int → World → Prop) (w : World) : Prop :=
 AllocK w (#[(.int .i64 x1), (.slice a2 l2 c2)]) 24 fun b5 w6 =>
 AllocK w6 (#[(.int .i64 x3), (.slice a4 l4 c4)]) 24 fun b7 w8 =>
 ∃ a9 l9 c9, w8.cell? (b5.add 1) = some (.slice a9 l9 c9) ∧
 (∃ a10, ∃ l10, ∃ c10, ∃ w11, Sem.run Tryz.prog (Builtin.append_ #[22, 22] 22 #[(.slice none 0 0), (.slice a9 l9 c9)]) w8 = .ok (.slice a10 l10 c10) w11 ∧
 (∃ (I12 : Option Addr → Nat → Nat → Int → World → Prop) (μ13 : Option Addr → Nat → Nat → Int → World → Nat),
 (I12 a10 l10 c10 0 w11 ∧ True) ∧
 ∀ w14 a15 l15 c15 x16, I12 a15 l15 c15 x16 w14 →
 ∃ a17 l17 c17, w14.cell? (b7.add 1) = some (.slice a17 l17 c17) ∧
 (BoolK (decide (x16 < l17))
 (∃ a18 l18 c18, w14.cell? (b7.add 1) = some (.slice a18 l18 c18) ∧
 ((0 ≤ x16 ∧ x16 < l18) ∧
 AddrK a18 fun b19 =>
 ∃ s20, w14.cell? ((b19.add (x16.toNat * 5)).add 0) = some (.string s20) ∧
 (∃ x21, w14.cell? ((b19.add (x16.toNat * 5)).add 1) = some (.int .i64 x21) ∧
 (∃ s22, w14.cell? ((b19.add (x16.toNat * 5)).add 2) = some (.string s22) ∧
 (∃ a23 l23 c23, w14.cell? ((b19.add (x16.toNat * 5)).add 3) = some (.slice a23 l23 c23) ∧
 (∃ a24 l24 c24, w14.cell? ((b19.add (x16.toNat * 5)).add 4) = some (.slice a24 l24 c24) ∧
 (AllocK w14 (#[.string ⟨#[]⟩, .int .i64 0, .string ⟨#[]⟩, .slice none 0 0, .slice none 0 0]) 36 fun b25 w26 =>
 SetK w26 (b25.add 0) (.string s20) fun w27 =>
 SetK w27 (b25.add 1) (.int .i64 x21) fun w28 =>
 SetK w28 (b25.add 2) (.string s22) fun w29 =>
 SetK w29 (b25.add 3) (.slice a23 l23 c23) fun w30 =>
 SetK w30 (b25.add 4) (.slice a24 l24 c24) fun w31 =>
 ∃ a32 l32 c32, w31.cell? (b25.add 4) = some (.slice a32 l32 c32) ∧
 (∃ a33, ∃ l33, ∃ c33, ∃ w34, Sem.run Tryz.prog (Builtin.append_ #[34, 34] 34 #[(.slice none 0 0), (.slice a32 l32 c32)]) w31 = .ok (.slice a33 l33 c33) w34 ∧
 (SetK w34 (b25.add 4) (.slice a33 l33 c33) fun w35 =>
 ∃ (I36 : Int → World → Prop) (μ37 : Int → World → Nat),
 (I36 0 w35 ∧ True) ∧
 ∀ w38 x39, I36 x39 w38 →
 ∃ a40 l40 c40, w38.cell? (b25.add 4) = some (.slice a40 l40 c40) ∧
 (BoolK (decide (x39 < l40))
 (DrewK w38 fun w41 =>
 ∃ a42 l42 c42, w41.cell? (b25.add 4) = some (.slice a42 l42 c42) ∧
 ((0 ≤ x39 ∧ x39 < l42) ∧
 AddrK a42 fun b43 =>
 ∃ x44, w41.cell? (b43.add (x39.toNat * 1)) = some (.int .i64 x44) ∧
 (∃ a45 l45 c45, w41.cell? (b5.add 1) = some (.slice a45 l45 c45) ∧
 ((0 ≤ x39 ∧ x39 < l42) ∧
 AddrK a42 fun b46 =>
 SetK w41 (b46.add (x39.toNat * 1)) (.int .i64 (IntKind.wrap .i64 (x44 + l45))) fun w47 =>
 I36 (IntKind.wrap .i64 (x39 + 1)) w47 ∧ μ37 (IntKind.wrap .i64 (x39 + 1)) w47 < μ37 x39 w38))))
 (∃ s48, w38.cell? (b25.add 0) = some (.string s48) ∧
 (∃ x49, w38.cell? (b25.add 1) = some (.int .i64 x49) ∧
 (∃ s50, w38.cell? (b25.add 2) = some (.string s50) ∧
 (∃ a51 l51 c51, w38.cell? (b25.add 3) = some (.slice a51 l51 c51) ∧
 (∃ a52 l52 c52, w38.cell? (b25.add 4) = some (.slice a52 l52 c52) ∧
 (AllocK w38 (#[(.string s48), (.int .i64 x49), (.string s50), (.slice a51 l51 c51), (.slice a52 l52 c52)]) 36 fun b53 w54 =>
 ∃ a55, ∃ l55, ∃ c55, ∃ w56, Sem.run Tryz.prog (Builtin.append_ #[22, 22] 22 #[(.slice a15 l15 c15), (.slice (some b53) 1 1)]) w54 = .ok (.slice a55 l55 c55) w56 ∧
 (I12 a55 l55 c55 (IntKind.wrap .i64 (x16 + 1)) w56 ∧ μ13 a55 l55 c55 (IntKind.wrap .i64 (x16 + 1)) w56 < μ13 a15 l15 c15 x16 w14)))))))))))))))))
 (DrewK w14 fun w57 =>
 ∃ x58, w57.cell? b5 = some (.int .i64 x58) ∧
 (∃ x59, w57.cell? b7 = some (.int .i64 x59) ∧
 (∃ a60 l60 c60, w57.cell? (b5.add 1) = some (.slice a60 l60 c60) ∧
 (K a15 l15 c15 x58 (IntKind.wrap .i64 (x59 + l60)) w57)))))))
def ann22 : Ann := (.two .nil (.two .nil (.two (.two .nil (.one (.loop [(7, (.one .slice)), (8, (.one (.int .i64)))] [2, 3] (.two (.two .nil (.two .nil .nil)) (.two (.one (.two .nil (.two .nil (.two (.two .nil (.one (.loop [(10, (.one (.int .i64)))] [2, 3, 7, 8, 9] (.two (.two .nil (.two .nil .nil)) (.two (.one (.anyC 10 (.take 0 (.take 1 (.take 2 (.take 3 (.take 4 (.take 5 (.take 6 (.take 7 (.take 8 (.take 9 .done)))))))))))) .nil))))) .nil)))) .nil))))) (.two (.anyC 12 (.take 0 (.take 1 (.take 2 (.take 3 (.take 4 (.take 5 (.take 6 (.take 7 (.take 8 (.take 9 (.take 10 (.take 11 .done))))))))))))) .nil))))
noncomputable def code22 : Code := match Tryz.f22.body with | some c => c | none => .skip
theorem calls22 (x1 : Int) (a2 : Option Addr) (l2 : Nat) (c2 : Nat) (x3 : Int) (a4 : Option Addr) (l4 : Nat) (c4 : Nat) (K : Option Addr → Nat → Nat → Int → Int → World → Prop) (w : World) (h : N22 x1 a2 l2 c2 x3 a4 l4 c4 K w) : Calls Tryz.prog 22 #[(.agg #[(.int .i64 x1), (.slice a2 l2 c2)]), (.agg #[(.int .i64 x3), (.slice a4 l4 c4)])] w fun en w' => ∃ (a61 : Option Addr), ∃ (l61 : Nat), ∃ (c61 : Nat), ∃ (x62 : Int), ∃ (x63 : Int), en = .returned (.tuple #[(.slice a61 l61 c61), (.int .i64 x62), (.int .i64 x63)]) ∧ K a61 l61 c61 x62 x63 w' :=
 fn_calls tabOk mixed Tryz.func22 (by kernel_rfl : Tryz.f22.body = some code22) ann22 [(.agg #[(.int .i64 x1), (.slice a2 l2 c2)]), (.agg #[(.int .i64 x3), (.slice a4 l4 c4)])] [(.one .slice), (.one (.int .i64)), (.one (.int .i64))] K w (by kernel_rfl) (by kernel_rfl) (by kernel_rfl) h
end Go.Proofs.YtbiamhoonhjodacGreatDoor

namespace Go.Proofs.YtbiamhoonhjodacGreatDoor
open Go Go.V Go.Proofs Go.V.Gr
open Go.RowKit (Below)
def RRw (_ : World) (f : Cells) (r : Rw) : Prop := ∀ j, j < 5 → f j = (eN r)[j]?
theorem pickRw {w : World} {a : Option Addr} {l : Nat} {xs : List Nd} (h : RNds w a l xs) : ∃ RW : List Rw, RW.length = xs.length ∧ Go.V.Rows 5 RRw w a l RW ∧
  ∀ (q : Nat) (r : Rw) (x : Nd), RW[q]? = some r → xs[q]? = some x → r.kd = x.kd ∧ r.n = x.n ∧ r.tx = x.tx ∧ x.kd.size ≤ maxLen ∧ x.tx.size ≤ maxLen ∧ (Lit.int .i64 x.n).wf = true ∧ RL 2 RFt w r.sf.1 r.sf.2.1 x.fs ∧ RL 1 RInt w r.sk.1 r.sk.2.1 x.ks := by
 have hl := h.len
 rcases h.1.2 with e | ⟨b, o, ha, hx⟩
 ·subst e; exact ⟨[], rfl, ⟨hl, .inl rfl⟩, fun q r x e => by simp at e⟩
 ·have pick : ∀ i : Fin xs.length, ∃ r : Rw, RRw w (fun j => w.cell? ⟨b, o + i.val * 5 + j, none⟩) r ∧ (r.kd = xs[i].kd ∧ r.n = xs[i].n ∧ r.tx = xs[i].tx ∧ xs[i].kd.size ≤ maxLen ∧ xs[i].tx.size ≤ maxLen ∧ (Lit.int .i64 xs[i].n).wf = true ∧ RL 2 RFt w r.sf.1 r.sf.2.1 xs[i].fs ∧ RL 1 RInt w r.sk.1 r.sk.2.1 xs[i].ks) := fun i => by
   obtain ⟨h0, h1, h2, h3, h4, ⟨a', l', c', h5, h6⟩, ⟨a'', l'', c'', h7, h8⟩, h9⟩ := hx i.val xs[i] (List.getElem?_eq_getElem i.isLt)
   refine ⟨⟨xs[i].kd, xs[i].n, xs[i].tx, (a', l', c'), (a'', l'', c'')⟩, fun j hj => ?_, rfl, rfl, rfl, h3, h4, h9, h6, h8⟩
   match j, hj with
   | 0, _ => exact h0
   | 1, _ => exact h1
   | 2, _ => exact h2
   | 3, _ => exact h5
   | 4, _ => exact h7
   | j + 5, hj => omega
  obtain ⟨f, hf⟩ := Classical.axiomOfChoice pick
  refine ⟨List.ofFn f, by simp, ⟨by simpa using hl, .inr ⟨b, o, ha, fun i r hi => ?_⟩⟩, fun q r x e1 e2 => ?_⟩
  ·have hil : i < xs.length := by have := (List.getElem?_eq_some_iff.1 hi).1; simpa using this
   rw [List.getElem?_eq_getElem (by simpa using hil)] at hi
   simp only [List.getElem_ofFn, Option.some.injEq] at hi
   subst hi
   exact (hf ⟨i, hil⟩).1
  ·have hil : q < xs.length := (List.getElem?_eq_some_iff.1 e2).1
   rw [List.getElem?_eq_getElem (by simpa using hil)] at e1
   simp only [List.getElem_ofFn, Option.some.injEq] at e1
   rw [List.getElem?_eq_getElem hil] at e2
   cases e2; subst e1
   exact (hf ⟨q, hil⟩).2
structure JM (w0 w : World) (own : OwnM Nat) (xs : List Nd) (RW : List Rw) (s : SL) : Prop where
 loc : Mine own w0 w
 out : RowR own 0 36 5 eN w s RW
 len : RW.length = xs.length
 nds : ∀ (q : Nat) (r : Rw) (x : Nd), RW[q]? = some r → xs[q]? = some x → r.kd = x.kd ∧ r.n = x.n ∧ r.tx = x.tx ∧ x.kd.size ≤ maxLen ∧ x.tx.size ≤ maxLen ∧ (Lit.int .i64 x.n).wf = true ∧
  RL 2 RFt w0 r.sf.1 r.sf.2.1 x.fs ∧ (RL 1 RInt w0 r.sk.1 r.sk.2.1 x.ks ∨ (RowR own (10 + q) 3 1 eI w r.sk x.ks ∧ x.ks.length ≤ maxLen))
section
variable {w0 w w' : World} {own own' : OwnM Nat} {xs : List Nd} {RW : List Rw} {s : SL}
theorem JM.ext (h : JM w0 w own xs RW s) (x : Ext w w') : JM w0 w' own xs RW s := ⟨h.loc.ext x, h.out.ext x, h.len, fun q r y e1 e2 => by
 obtain ⟨f1, f2, f3, f4, f5, f6, f7, f8⟩ := h.nds q r y e1 e2
 exact ⟨f1, f2, f3, f4, f5, f6, f7, f8.imp id fun g => ⟨g.1.ext x, g.2⟩⟩⟩
theorem JM.upd {r : Nat} (h : JM w0 w own xs RW s) (u : Upd own own' r w w') (h0 : r ≠ 0) (h1 : ∀ q, q < xs.length → r ≠ 10 + q) : JM w0 w' own' xs RW s := ⟨h.loc.upd u, h.out.upd u (fun e => h0 e.symm), h.len, fun q r' y e1 e2 => by
 obtain ⟨f1, f2, f3, f4, f5, f6, f7, f8⟩ := h.nds q r' y e1 e2
 exact ⟨f1, f2, f3, f4, f5, f6, f7, f8.imp id fun g => ⟨g.1.upd u (fun e => h1 q (List.getElem?_eq_some_iff.1 e2).1 e.symm), g.2⟩⟩⟩
theorem JM.rows (h : JM w0 w own xs RW s) (hm : xs.length ≤ maxLen) : RNds w s.1 s.2.1 xs := by
 refine ⟨h.out.1.rows eN_len RNd h.len.symm fun f q r y hr hy hf => ?_, by rw [h.out.len, h.len]; exact hm⟩
 obtain ⟨f1, f2, f3, f4, f5, f6, f7, f8⟩ := h.nds q r y hr hy
 refine ⟨by rw [hf 0 (by omega), ← f1]; rfl, by rw [hf 1 (by omega), ← f2]; rfl, by rw [hf 2 (by omega), ← f3]; rfl, f4, f5, ⟨_, _, _, by rw [hf 3 (by omega)]; rfl, f7.ext RFt.mono h.loc.below⟩, ⟨_, _, _, by rw [hf 4 (by omega)]; rfl, ?_⟩, f6⟩
 rcases f8 with f8 | ⟨f8, f9⟩
 ·exact f8.ext RInt.mono h.loc.below
 ·exact ⟨OwnR.ints f8.1, by rw [f8.len]; exact f9⟩
theorem JM.more {s' : SL} {r : Rw} {x : Nd} (h : JM w0 w own xs RW s) (h1 : r.kd = x.kd) (h2 : r.n = x.n) (h3 : r.tx = x.tx) (h4 : x.kd.size ≤ maxLen) (h5 : x.tx.size ≤ maxLen) (h6 : (Lit.int .i64 x.n).wf = true) (h7 : RL 2 RFt w0 r.sf.1 r.sf.2.1 x.fs)
  (h8 : RowR own (10 + xs.length) 3 1 eI w r.sk x.ks) (h9 : x.ks.length ≤ maxLen) (u : Upd own own' 0 w w') (ho : RowR own' 0 36 5 eN w' s' (RW ++ [r])) : JM w0 w' own' (xs ++ [x]) (RW ++ [r]) s' := by
 refine ⟨h.loc.upd u, ho, by simp [h.len], fun q r2 y e1 e2 => ?_⟩
 rcases Nat.lt_or_ge q xs.length with hq | hq
 ·rw [List.getElem?_append_left (by rw [h.len]; exact hq)] at e1
  rw [List.getElem?_append_left hq] at e2
  obtain ⟨f1, f2, f3, f4, f5, f6, f7, f8⟩ := h.nds q r2 y e1 e2
  exact ⟨f1, f2, f3, f4, f5, f6, f7, f8.imp id fun g => ⟨g.1.upd u (by omega), g.2⟩⟩
 ·have hq2 : q = xs.length := by have := (List.getElem?_eq_some_iff.1 e2).1; simp at this; omega
  subst hq2
  rw [← h.len, List.getElem?_concat_length] at e1
  rw [List.getElem?_concat_length] at e2
  cases e1; cases e2
  exact ⟨h1, h2, h3, h4, h5, h6, h7, .inr ⟨h8.upd u (by omega), h9⟩⟩
end
set_option maxRecDepth 100000 in
theorem ctr22 (w : World) (r r' : Int) {xs ys : List Nd} {a2 a4 : Option Addr} {l2 l4 : Nat} (c2 c4 : Nat) (hx : RNds w a2 l2 xs) (hy : RNds w a4 l4 ys) (hzx : Sz xs) (hz : Sz ys) (hc : Closed ys) (hr' : 0 ≤ r' ∧ r' ≤ 1000000) :
  Calls Tryz.prog 22 #[.agg #[.int .i64 r, .slice a2 l2 c2], .agg #[.int .i64 r', .slice a4 l4 c4]] w fun en w' => ∃ a l c x y, en = .returned (.tuple #[.slice a l c, .int .i64 x, .int .i64 y]) ∧
   ((x = r ∧ y = r' + (xs.length : Int) ∧ RNds w' a l (app xs ys)) ∧ Ext w w') := by
 refine calls22 _ _ _ _ _ _ _ _ _ w ?_
 have hl2 := hx.len; have hl4 := hy.len
 have n2 := hzx.len; have n4 := hz.len
 refine AllocK.mk fun b5 w6 hb5 hB5 x6 => AllocK.mk fun b7 w8 hb7 hB7 x8 => ?_
 have hB5 := hB5.ext x8
 have y8 := x6.trans x8
 obtain ⟨RW0, hRl, hRr, hRn⟩ := pickRw (RNds.at hx y8)
 obtain ⟨a10, c10, w11, q11, o11, x11⟩ := copyRows (P := Tryz.prog) (t := 22) (ty := 22) sltN (enc := eN) (R := RRw) (c := c2) hRr eN_len eN_one (fun f x hf j hj => hf j hj) (by rw [hRl]; omega)
 refine ⟨_, _, _, (blkAt2 hB5).2.1, _, _, _, _, q11, ?_⟩
 obtain ⟨r11, u11⟩ := RowR.adopt (s := (a10, l2, c10)) o11 (Nat.le_refl _) x11 (fun _ => (none : Option Nat)) 0
 have L11 := (Mine.refl (ρ := Nat) w8).upd u11
 have J11 : JM w8 w11 _ xs RW0 (a10, l2, c10) := ⟨L11, r11, hRl, fun q r x e1 e2 => by
  obtain ⟨f1, f2, f3, f4, f5, f6, f7, f8⟩ := hRn q r x e1 e2
  exact ⟨f1, f2, f3, f4, f5, f6, f7, .inl f8⟩⟩
 generalize setOwn (fun _ => (none : Option Nat)) (sblk (a10, l2, c10)) 0 = own at J11
 clear L11 r11 u11
 have hy8 := RNds.at hy y8
 refine ⟨fun a l c i w' => ∃ (k : Nat) (own' : OwnM Nat) (RW' : List Rw), i = k ∧ k ≤ ys.length ∧ JM w8 w' own' (xs ++ (ys.take k).map (shift xs.length)) RW' (a, l, c), fun _ _ _ i _ => ys.length - i.toNat,
  ⟨⟨0, own, RW0, rfl, by omega, by simpa using J11⟩, trivial⟩, ?_⟩
 clear J11
 rintro w14 a15 l15 c15 _ ⟨k, own1, RW1, rfl, hk, J⟩
 have at5 : ∀ {w'}, Ext w8 w' → w'.cell? ((⟨b5, 0, none⟩ : Addr).add 1) = some (.slice a2 l2 c2) ∧ w'.cell? (⟨b5, 0, none⟩ : Addr) = some (.int .i64 r) := fun x => ⟨(blkAt2 (hB5.ext x)).2.1, (blkAt2 (hB5.ext x)).2.2⟩
 have at7 : ∀ {w'}, Ext w8 w' → w'.cell? ((⟨b7, 0, none⟩ : Addr).add 1) = some (.slice a4 l4 c4) ∧ w'.cell? (⟨b7, 0, none⟩ : Addr) = some (.int .i64 r') := fun x => ⟨(blkAt2 (hB7.ext x)).2.1, (blkAt2 (hB7.ext x)).2.2⟩
 refine ⟨_, _, _, (at7 J.loc.below).1, BoolK.mk (fun t => ?_) (fun t => ?_)⟩
 ·have hlt : k < ys.length := by have := of_decide_eq_true t; omega
  have hym := List.getElem_mem hlt
  have hks := hz.ks _ hym
  obtain ⟨b19, ha, n0, n1, n2', n3, n4', ⟨a23, l23, c23, n5, n6⟩, ⟨a24, l24, c24, n7, n8⟩, nw⟩ := ndAt hy8 (Ext.refl w8) hlt
  have y14 := J.loc.below
  have e24 := n8.len
  refine ⟨_, _, _, (at7 y14).1, ⟨by omega, by omega⟩, adK ha ⟨_, y14.cell n0, _, y14.cell n1, _, y14.cell n2', _, _, _, y14.cell n5, _, _, _, y14.cell n7, ?_⟩⟩
  refine local5 fun b25 w31 hb25 hB25 x31 => ?_
  have u25 : Upd own1 (setOwn own1 (some b25) 5) 5 w14 w31 := Upd.fresh x31 (by omega) hB25.lt _
  have bx25 : Bx (setOwn own1 (some b25) 5) 5 w31 b25 _ _ := ⟨hB25, by unfold setOwn; rw [if_pos rfl]⟩
  have J := J.upd u25 (by decide) (fun q _ => by omega)
  generalize setOwn own1 (some b25) 5 = own2 at J bx25
  clear u25
  have hxk : (xs ++ (ys.take k).map (shift xs.length)).length = xs.length + k := by simp; omega
  obtain ⟨a33, c33, w34, q34, o34, x34⟩ := copyRows (P := Tryz.prog) (t := 34) (ty := 34) sltI (enc := eI) (R := RInt) (c := c24) (n8.1.ext RInt.mono J.loc.below) eI_len eI_one (fun f x hf j hj => by
   have : j = 0 := by omega
   subst this; exact hf) (by omega)
  refine ⟨_, _, _, (blkAt5 bx25.blk (Ext.refl w31)).2.2.2.2, _, _, _, _, q34, ?_⟩
  obtain ⟨r34, u34⟩ := RowR.adopt (s := (a33, l24, c33)) o34 (Nat.le_refl _) x34 own2 (10 + (xs.length + k))
  have J := J.upd u34 (by omega) (fun q hq => by omega)
  have bx25 := bx25.upd u34 (by omega)
  generalize setOwn own2 (sblk (a33, l24, c33)) (10 + (xs.length + k)) = own3 at J bx25 r34
  clear u34
  refine Bx.setA bx25 (by simp) fun w35 bx35 u35 => ?_
  have J := J.upd u35 (by omega) (fun q _ => by omega)
  have r35 := r34.upd u35 (by omega)
  clear u35
  have bx35 : Bx own3 5 w35 b25 #[.string ys[k].kd, .int .i64 ys[k].n, .string ys[k].tx, .slice a23 l23 c23, .slice a33 l24 c33] 36 := by simpa using bx35
  refine ⟨fun i w' => ∃ (m : Nat) (kk : List Int), i = m ∧ m ≤ l24 ∧ JM w8 w' own3 (xs ++ (ys.take k).map (shift xs.length)) RW1 (a15, l15, c15) ∧ Bx own3 5 w' b25 #[.string ys[k].kd, .int .i64 ys[k].n, .string ys[k].tx, .slice a23 l23 c23, .slice a33 l24 c33] 36 ∧
    RowR own3 (10 + (xs.length + k)) 3 1 eI w' (a33, l24, c33) kk ∧ kk.length = l24 ∧ (∀ j, j < m → kk[j]? = (ys[k].ks[j]?).map fun v => (xs.length : Int) + v) ∧ ∀ j, m ≤ j → kk[j]? = ys[k].ks[j]?, fun i _ => l24 - i.toNat,
   ⟨⟨0, _, rfl, by omega, J, bx35, r35, by omega, fun j hj => by omega, fun j _ => rfl⟩, trivial⟩, ?_⟩
  clear J bx25 bx35 r34 r35
  rintro w38 _ ⟨m, kk, rfl, hm, J, bx25, rk, hkl, hk1, hk2⟩
  refine ⟨_, _, _, (blkAt5 bx25.blk (Ext.refl w38)).2.2.2.2, BoolK.mk (fun t => ?_) (fun t => ?_)⟩
  ·have hmlt : m < l24 := by have := of_decide_eq_true t; omega
   have hmk : m < ys[k].ks.length := by omega
   refine DrewK.mk fun w41 x41 => ?_
   have J := J.ext x41
   have bx25 := bx25.ext x41
   have rk := rk.ext x41
   have hkb := hc _ hym _ (List.getElem_mem hmk)
   have hkm : kk[m]'(by omega) = ys[k].ks[m] := by
    have := hk2 m (Nat.le_refl _)
    rw [List.getElem?_eq_getElem (by omega), List.getElem?_eq_getElem hmk] at this
    exact Option.some.inj this
   obtain ⟨b43, o43, ea, ec⟩ := (OwnR.ints rk.1).get (i := m) (by omega)
   have ec : w41.cell? ((⟨b43, o43, none⟩ : Addr).add (((m : Nat) : Int).toNat * 1)) = some (.int .i64 ys[k].ks[m]) := by
    rw [Int.toNat_natCast, add_mk, ← hkm]; exact ec
   obtain ⟨b46, eb, st⟩ := RowR.setk rk (i := m) (by omega) (IntKind.wrap .i64 (ys[k].ks[m] + ((l2 : Nat) : Int))) (F := fun w47 => (∃ (m' : Nat) (kk : List Int), IntKind.wrap .i64 (((m : Nat) : Int) + 1) = m' ∧ m' ≤ l24 ∧ JM w8 w47 own3 (xs ++ (ys.take k).map (shift xs.length)) RW1 (a15, l15, c15) ∧ Bx own3 5 w47 b25 #[.string ys[k].kd, .int .i64 ys[k].n, .string ys[k].tx, .slice a23 l23 c23, .slice a33 l24 c33] 36 ∧
     RowR own3 (10 + (xs.length + k)) 3 1 eI w47 (a33, l24, c33) kk ∧ kk.length = l24 ∧ (∀ j, j < m' → kk[j]? = (ys[k].ks[j]?).map fun v => (xs.length : Int) + v) ∧ ∀ j, m' ≤ j → kk[j]? = ys[k].ks[j]?) ∧ l24 - (IntKind.wrap .i64 (((m : Nat) : Int) + 1)).toNat < l24 - ((m : Nat) : Int).toNat) fun w47 rk' u47 => by
    rw [wrap_succ (by omega)]
    refine ⟨⟨m + 1, _, rfl, by omega, J.upd u47 (by omega) (fun q hq => by omega), bx25.upd u47 (by omega), rk', by simpa using hkl, fun j hj => ?_, fun j hj => ?_⟩, by simp; omega⟩
    ·rw [List.getElem?_set]
     by_cases e : m = j
     ·subst e
      rw [if_pos rfl, if_pos (by omega), List.getElem?_eq_getElem hmk, hl2, wrap_id (by omega) (by omega)]
      simp only [Option.map_some]; congr 1; omega
     ·rw [if_neg e]; exact hk1 j (by omega)
    ·rw [List.getElem?_set, if_neg (by omega)]; exact hk2 j (by omega)
   refine ⟨_, _, _, (blkAt5 bx25.blk (Ext.refl w41)).2.2.2.2, ⟨by omega, by omega⟩, adK ea ⟨_, ec, _, _, _, (at5 J.loc.below).1, ⟨by omega, by omega⟩, adK eb st⟩⟩
  ·have hml : m = l24 := by have := of_decide_eq_false t; omega
   subst hml
   have hks2 : kk = (shift xs.length ys[k]).ks := by
    apply List.ext_getElem?
    intro j
    rw [shift, List.getElem?_map]
    rcases Nat.lt_or_ge j m with hj | hj
    ·exact hk1 j hj
    ·rw [List.getElem?_eq_none (by omega), List.getElem?_eq_none (by omega)]; rfl
   subst hks2
   obtain ⟨f0, f1, f2, f3, f4⟩ := blkAt5 bx25.blk (Ext.refl w38)
   refine ⟨_, by simpa [add_mk] using f0, _, f1, _, f2, _, _, _, f3, _, _, _, f4, ?_⟩
   refine RowR.push (⟨ys[k].kd, ys[k].n, ys[k].tx, (a23, l23, c23), (a33, m, c33)⟩ : Rw) sltN J.out eN_len eN_one (by rw [J.len, hxk]; omega) rfl fun s' w56 ro uo => ?_
   rw [wrap_succ (by omega)]
   have ht : xs ++ (ys.take (k + 1)).map (shift xs.length) = (xs ++ (ys.take k).map (shift xs.length)) ++ [shift xs.length ys[k]] := by
    rw [List.take_add_one, List.getElem?_eq_getElem hlt, List.map_append]; simp
   have J2 := J.more (x := shift xs.length ys[k]) rfl rfl rfl n3 n4' nw n6 (by rw [hxk]; exact rk) (by simp [shift, maxLen]; omega) uo ro
   rw [← ht] at J2
   exact ⟨⟨k + 1, _, _, rfl, by omega, J2⟩, by simp; omega⟩
 ·have hkl : k = ys.length := by have := of_decide_eq_false t; omega
  subst hkl
  rw [List.take_length] at J
  refine DrewK.mk fun w57 x57 => ?_
  have J := J.ext x57
  have y57 := J.loc.below
  refine ⟨_, (at5 y57).2, _, (at7 y57).2, _, _, _, (at5 y57).1, ⟨rfl, ?_, J.rows (by show (app xs ys).length ≤ _; rw [app_len]; simp only [maxLen]; omega)⟩, y8.trans y57⟩
  rw [hl2, wrap_id (by omega) (by omega)]
end Go.Proofs.YtbiamhoonhjodacGreatDoor

namespace Go.Proofs.YtbiamhoonhjodacGreatDoor
open Go Go.V Go.Proofs
open Go.RowKit (Below)
/-! manystrand/manystrandref05.SameNode -/
def N29 (s1 : ByteArray) (x2 : Int) (s3 : ByteArray) (a4 : Option Addr) (l4 : Nat) (c4 : Nat) (a5 : Option Addr) (l5 : Nat) (c5 : Nat) (s6 : ByteArray) (x7 : Int) (s8 : ByteArray) (a9 : Option Addr) (l9 : Nat) (c9 : Nat) (a10 : Option Addr) (l10 : Nat) (c10 : Nat) (K : Bool → World → Prop) (w : World) : Prop :=
 AllocK w (#[(.string s1), (.int .i64 x2), (.string s3), (.slice a4 l4 c4), (.slice a5 l5 c5)]) 36 fun b11 w12 =>
 AllocK w12 (#[(.string s6), (.int .i64 x7), (.string s8), (.slice a9 l9 c9), (.slice a10 l10 c10)]) 36 fun b13 w14 =>
 ∃ s15, w14.cell? b11 = some (.string s15) ∧
 (∃ s16, w14.cell? b13 = some (.string s16) ∧
 (BoolK (!(s15.toList == s16.toList))
 (K false w14)
 (∃ x17, w14.cell? (b11.add 1) = some (.int .i64 x17) ∧
 (∃ x18, w14.cell? (b13.add 1) = some (.int .i64 x18) ∧
 (BoolK (x17 != x18)
 (K false w14)
 (∃ s19, w14.cell? (b11.add 2) = some (.string s19) ∧
 (∃ s20, w14.cell? (b13.add 2) = some (.string s20) ∧
 (BoolK (!(s19.toList == s20.toList))
 (K false w14)
 (∃ a21 l21 c21, w14.cell? (b11.add 3) = some (.slice a21 l21 c21) ∧
 (∃ a22 l22 c22, w14.cell? (b13.add 3) = some (.slice a22 l22 c22) ∧
 (BoolK ((l21 : Int) != l22)
 (K false w14)
 (∃ a23 l23 c23, w14.cell? (b11.add 4) = some (.slice a23 l23 c23) ∧
 (∃ a24 l24 c24, w14.cell? (b13.add 4) = some (.slice a24 l24 c24) ∧
 (BoolK ((l23 : Int) != l24)
 (K false w14)
 (∃ (I25 : Int → World → Prop) (μ26 : Int → World → Nat),
 (I25 0 w14 ∧ True) ∧
 ∀ w27 x28, I25 x28 w27 →
 ∃ a29 l29 c29, w27.cell? (b11.add 3) = some (.slice a29 l29 c29) ∧
 (BoolK (decide (x28 < l29))
 (DrewK w27 fun w30 =>
 ∃ a31 l31 c31, w30.cell? (b11.add 3) = some (.slice a31 l31 c31) ∧
 ((0 ≤ x28 ∧ x28 < l31) ∧
 AddrK a31 fun b32 =>
 ∃ x33, w30.cell? ((b32.add (x28.toNat * 2)).add 0) = some (.int .i64 x33) ∧
 (∃ s34, w30.cell? ((b32.add (x28.toNat * 2)).add 1) = some (.string s34) ∧
 (∃ a35 l35 c35, w30.cell? (b13.add 3) = some (.slice a35 l35 c35) ∧
 ((0 ≤ x28 ∧ x28 < l35) ∧
 AddrK a35 fun b36 =>
 ∃ x37, w30.cell? ((b36.add (x28.toNat * 2)).add 0) = some (.int .i64 x37) ∧
 (∃ s38, w30.cell? ((b36.add (x28.toNat * 2)).add 1) = some (.string s38) ∧
 (BoolK (!((x33 == x37) && ((s34 == s38) && (true))))
 (K false w30)
 (I25 (IntKind.wrap .i64 (x28 + 1)) w30 ∧ μ26 (IntKind.wrap .i64 (x28 + 1)) w30 < μ26 x28 w27))))))))
 (∃ (I39 : Int → World → Prop) (μ40 : Int → World → Nat),
 (I39 0 w27 ∧ True) ∧
 ∀ w41 x42, I39 x42 w41 →
 ∃ a43 l43 c43, w41.cell? (b11.add 4) = some (.slice a43 l43 c43) ∧
 (BoolK (decide (x42 < l43))
 (DrewK w41 fun w44 =>
 ∃ a45 l45 c45, w44.cell? (b11.add 4) = some (.slice a45 l45 c45) ∧
 ((0 ≤ x42 ∧ x42 < l45) ∧
 AddrK a45 fun b46 =>
 ∃ x47, w44.cell? (b46.add (x42.toNat * 1)) = some (.int .i64 x47) ∧
 (∃ a48 l48 c48, w44.cell? (b13.add 4) = some (.slice a48 l48 c48) ∧
 ((0 ≤ x42 ∧ x42 < l48) ∧
 AddrK a48 fun b49 =>
 ∃ x50, w44.cell? (b49.add (x42.toNat * 1)) = some (.int .i64 x50) ∧
 (BoolK (x47 != x50)
 (K false w44)
 (I39 (IntKind.wrap .i64 (x42 + 1)) w44 ∧ μ40 (IntKind.wrap .i64 (x42 + 1)) w44 < μ40 x42 w41))))))
 (K true w41)))))))))))))))))))
def ann29 : Ann := (.two .nil (.two (.two .nil (.two (.two .nil .nil) .nil)) (.two (.two .nil (.one (.loop [(5, (.one (.int .i64)))] [2, 3] (.two (.two .nil (.two .nil .nil)) (.two (.one (.two (.anyC 11 (.take 0 (.take 1 (.take 2 (.take 3 (.take 4 (.take 5 (.take 6 (.take 7 (.take 8 (.take 9 (.take 10 .done)))))))))))) (.two (.two .nil .nil) .nil))) .nil))))) (.two (.two .nil (.one (.loop [(6, (.one (.int .i64)))] [2, 3] (.two (.two .nil (.two .nil .nil)) (.two (.one (.two (.anyC 11 (.take 0 (.take 1 (.take 2 (.take 3 (.take 4 (.take 5 (.take 6 (.take 7 (.take 8 (.take 9 (.take 10 .done)))))))))))) (.two (.two .nil .nil) .nil))) .nil))))) (.two .nil .nil)))))
noncomputable def code29 : Code := match Tryz.f29.body with | some c => c | none => .skip
theorem calls29 (s1 : ByteArray) (x2 : Int) (s3 : ByteArray) (a4 : Option Addr) (l4 : Nat) (c4 : Nat) (a5 : Option Addr) (l5 : Nat) (c5 : Nat) (s6 : ByteArray) (x7 : Int) (s8 : ByteArray) (a9 : Option Addr) (l9 : Nat) (c9 : Nat) (a10 : Option Addr) (l10 : Nat) (c10 : Nat) (K : Bool → World → Prop) (w : World) (h : N29 s1 x2 s3 a4 l4 c4 a5 l5 c5 s6 x7 s8 a9 l9 c9 a10 l10 c10 K w) : Calls Tryz.prog 29 #[(.agg #[(.string s1), (.int .i64 x2), (.string s3), (.slice a4 l4 c4), (.slice a5 l5 c5)]), (.agg #[(.string s6), (.int .i64 x7), (.string s8), (.slice a9 l9 c9), (.slice a10 l10 c10)])] w fun en w' => ∃ (p51 : Bool), en = .returned (.bool p51) ∧ K p51 w' :=
 fn_calls tabOk mixed Tryz.func29 (by kernel_rfl : Tryz.f29.body = some code29) ann29 [(.agg #[(.string s1), (.int .i64 x2), (.string s3), (.slice a4 l4 c4), (.slice a5 l5 c5)]), (.agg #[(.string s6), (.int .i64 x7), (.string s8), (.slice a9 l9 c9), (.slice a10 l10 c10)])] [(.one .bool)] K w (by kernel_rfl) (by kernel_rfl) (by kernel_rfl) h
end Go.Proofs.YtbiamhoonhjodacGreatDoor

namespace Go.Proofs.YtbiamhoonhjodacGreatDoor
open Go Go.V Go.Proofs
open Go.RowKit (Below)
/-! manystrand/manystrandref05.Same -/
def N11 (x1 : Int) (a2 : Option Addr) (l2 : Nat) (c2 : Nat) (x3 : Int) (a4 : Option Addr) (l4 : Nat) (c4 : Nat) (K : Bool → World → Prop) (w : World) : Prop :=
 AllocK w (#[(.int .i64 x1), (.slice a2 l2 c2)]) 24 fun b5 w6 =>
 AllocK w6 (#[(.int .i64 x3), (.slice a4 l4 c4)]) 24 fun b7 w8 =>
 ∃ x9, w8.cell? b5 = some (.int .i64 x9) ∧
 (∃ x10, w8.cell? b7 = some (.int .i64 x10) ∧
 (BoolK (x9 != x10)
 (K false w8)
 (∃ a11 l11 c11, w8.cell? (b5.add 1) = some (.slice a11 l11 c11) ∧
 (∃ a12 l12 c12, w8.cell? (b7.add 1) = some (.slice a12 l12 c12) ∧
 (BoolK ((l11 : Int) != l12)
 (K false w8)
 (∃ (I13 : Int → World → Prop) (μ14 : Int → World → Nat),
 (I13 0 w8 ∧ True) ∧
 ∀ w15 x16, I13 x16 w15 →
 ∃ a17 l17 c17, w15.cell? (b5.add 1) = some (.slice a17 l17 c17) ∧
 (BoolK (decide (x16 < l17))
 (DrewK w15 fun w18 =>
 ∃ a19 l19 c19, w18.cell? (b5.add 1) = some (.slice a19 l19 c19) ∧
 ((0 ≤ x16 ∧ x16 < l19) ∧
 AddrK a19 fun b20 =>
 ∃ s21, w18.cell? ((b20.add (x16.toNat * 5)).add 0) = some (.string s21) ∧
 (∃ x22, w18.cell? ((b20.add (x16.toNat * 5)).add 1) = some (.int .i64 x22) ∧
 (∃ s23, w18.cell? ((b20.add (x16.toNat * 5)).add 2) = some (.string s23) ∧
 (∃ a24 l24 c24, w18.cell? ((b20.add (x16.toNat * 5)).add 3) = some (.slice a24 l24 c24) ∧
 (∃ a25 l25 c25, w18.cell? ((b20.add (x16.toNat * 5)).add 4) = some (.slice a25 l25 c25) ∧
 (∃ a26 l26 c26, w18.cell? (b7.add 1) = some (.slice a26 l26 c26) ∧
 ((0 ≤ x16 ∧ x16 < l26) ∧
 AddrK a26 fun b27 =>
 ∃ s28, w18.cell? ((b27.add (x16.toNat * 5)).add 0) = some (.string s28) ∧
 (∃ x29, w18.cell? ((b27.add (x16.toNat * 5)).add 1) = some (.int .i64 x29) ∧
 (∃ s30, w18.cell? ((b27.add (x16.toNat * 5)).add 2) = some (.string s30) ∧
 (∃ a31 l31 c31, w18.cell? ((b27.add (x16.toNat * 5)).add 3) = some (.slice a31 l31 c31) ∧
 (∃ a32 l32 c32, w18.cell? ((b27.add (x16.toNat * 5)).add 4) = some (.slice a32 l32 c32) ∧
 (Calls Tryz.prog 29 #[(.agg #[(.string s21), (.int .i64 x22), (.string s23), (.slice a24 l24 c24), (.slice a25 l25 c25)]), (.agg #[(.string s28), (.int .i64 x29), (.string s30), (.slice a31 l31 c31), (.slice a32 l32 c32)])] w18 fun e35 w34 =>
 ∃ p33, e35 = .returned (.bool p33) ∧
 (BoolK (!p33)
 (K false w34)
 (I13 (IntKind.wrap .i64 (x16 + 1)) w34 ∧ μ14 (IntKind.wrap .i64 (x16 + 1)) w34 < μ14 x16 w15)))))))))))))))
 (K true w15))))))))
def ann11 : Ann := (.two .nil (.two (.two .nil (.two (.two .nil .nil) .nil)) (.two (.two .nil (.one (.loop [(5, (.one (.int .i64)))] [2, 3] (.two (.two .nil (.two .nil .nil)) (.two (.one (.two (.anyC 10 (.take 0 (.take 1 (.take 2 (.take 3 (.take 4 (.take 5 (.take 6 (.take 7 (.take 8 (.take 9 .done))))))))))) (.two (.two .nil .nil) .nil))) .nil))))) (.two .nil .nil))))
noncomputable def code11 : Code := match Tryz.f11.body with | some c => c | none => .skip
theorem calls11 (x1 : Int) (a2 : Option Addr) (l2 : Nat) (c2 : Nat) (x3 : Int) (a4 : Option Addr) (l4 : Nat) (c4 : Nat) (K : Bool → World → Prop) (w : World) (h : N11 x1 a2 l2 c2 x3 a4 l4 c4 K w) : Calls Tryz.prog 11 #[(.agg #[(.int .i64 x1), (.slice a2 l2 c2)]), (.agg #[(.int .i64 x3), (.slice a4 l4 c4)])] w fun en w' => ∃ (p36 : Bool), en = .returned (.bool p36) ∧ K p36 w' :=
 fn_calls tabOk mixed Tryz.func11 (by kernel_rfl : Tryz.f11.body = some code11) ann11 [(.agg #[(.int .i64 x1), (.slice a2 l2 c2)]), (.agg #[(.int .i64 x3), (.slice a4 l4 c4)])] [(.one .bool)] K w (by kernel_rfl) (by kernel_rfl) (by kernel_rfl) h
end Go.Proofs.YtbiamhoonhjodacGreatDoor

namespace Go.Proofs.YtbiamhoonhjodacGreatDoor
open Go Go.V Go.Proofs Go.V.Gr
open Go.RowKit (Below)
theorem list_eq_of {α : Type} {xs ys : List α} (hl : xs.length = ys.length) (h : ∀ i (a : α), i < xs.length → xs[i]? = some a → ys[i]? = some a) : xs = ys := by
 apply List.ext_getElem? 
 intro i
 rcases Nat.lt_or_ge i xs.length with h1 | h1
 ·rw [List.getElem?_eq_getElem h1, h i _ h1 (List.getElem?_eq_getElem h1)]
 ·rw [List.getElem?_eq_none h1, List.getElem?_eq_none (by omega)]
theorem nd_ext5 {x y : Nd} (h1 : x.kd = y.kd) (h2 : x.n = y.n) (h3 : x.tx = y.tx) (h4 : x.fs = y.fs) (h5 : x.ks = y.ks) : x = y := by
 cases x; cases y; simp_all
theorem ctr29 (w : World) (x y : Nd) {a4 a5 b4 b5 : Option Addr} {l4 l5 m4 m5 : Nat} (c4 c5 d4 d5 : Nat) (hxf : RL 2 RFt w a4 l4 x.fs) (hxk : RL 1 RInt w a5 l5 x.ks) (hyf : RL 2 RFt w b4 m4 y.fs) (hyk : RL 1 RInt w b5 m5 y.ks) :
  Calls Tryz.prog 29 #[.agg #[.string x.kd, .int .i64 x.n, .string x.tx, .slice a4 l4 c4, .slice a5 l5 c5], .agg #[.string y.kd, .int .i64 y.n, .string y.tx, .slice b4 m4 d4, .slice b5 m5 d5]] w
   fun en w' => ∃ p, en = .returned (.bool p) ∧ ((p = true ↔ x = y) ∧ Ext w w') := by
 refine calls29 _ _ _ _ _ _ _ _ _ _ _ _ _ _ _ _ _ _ _ w ?_
 have e4 := hxf.len; have e5 := hxk.len; have f4 := hyf.len; have f5 := hyk.len
 have k4 := hxf.2; have k5 := hxk.2; have n4 := hyf.2; have n5 := hyk.2
 simp only [maxLen] at k4 k5 n4 n5
 refine AllocK.mk fun b w12 hb hB x12 => AllocK.mk fun b2 w14 hb2 hB2 x14 => ?_
 have y14 := x12.trans x14
 obtain ⟨g0, g1, g2, g3, g4⟩ := blkAt5 hB x14
 obtain ⟨h0, h1, h2, h3, h4⟩ := blkAt5 hB2 (Ext.refl w14)
 refine ⟨_, g0, _, h0, BoolK.mk (fun t => ⟨not_iff_false fun e => ?_, y14⟩) (fun t1 => ⟨_, g1, _, h1, BoolK.mk (fun t => ⟨not_iff_false fun e => ?_, y14⟩) (fun t2 => ⟨_, g2, _, h2, BoolK.mk (fun t => ⟨not_iff_false fun e => ?_, y14⟩) (fun t3 =>
  ⟨_, _, _, g3, _, _, _, h3, BoolK.mk (fun t => ⟨not_iff_false fun e => ?_, y14⟩) (fun t4 => ⟨_, _, _, g4, _, _, _, h4, BoolK.mk (fun t => ⟨not_iff_false fun e => ?_, y14⟩) (fun t5 => ?_)⟩)⟩)⟩)⟩)⟩
 ·subst e; rw [tl_iff.2 rfl] at t; cases t
 ·subst e; simp at t
 ·subst e; rw [tl_iff.2 rfl] at t; cases t
 ·subst e; rw [e4, f4] at t; simp at t
 ·subst e; rw [e5, f5] at t; simp at t
 have t1 : x.kd = y.kd := by rw [Bool.not_eq_false'] at t1; exact tl_iff.1 t1
 have t2 : x.n = y.n := by simpa using t2
 have t3 : x.tx = y.tx := by rw [Bool.not_eq_false'] at t3; exact tl_iff.1 t3
 have t4 : x.fs.length = y.fs.length := by have : ((l4 : Nat) : Int) = m4 := (by simpa using t4); omega
 have t5 : x.ks.length = y.ks.length := by have : ((l5 : Nat) : Int) = m5 := (by simpa using t5); omega
 refine ⟨fun i w' => ∃ k : Nat, i = k ∧ k ≤ x.fs.length ∧ Ext w14 w' ∧ ∀ i (f : Ft), i < k → x.fs[i]? = some f → y.fs[i]? = some f, fun i _ => x.fs.length - i.toNat, ⟨⟨0, rfl, by omega, Ext.refl _, fun i f hi => by omega⟩, trivial⟩, ?_⟩
 rintro w27 _ ⟨k, rfl, hk, x27, hall⟩
 obtain ⟨_, _, _, g3, _⟩ := blkAt5 hB (x14.trans x27)
 refine ⟨_, _, _, g3, BoolK.mk (fun t => ?_) (fun t => ?_)⟩
 ·have hlt : k < x.fs.length := by have := of_decide_eq_true t; omega
  have hlt' : k < y.fs.length := by omega
  refine DrewK.mk fun w30 x30 => ?_
  have x30 := x27.trans x30
  obtain ⟨_, _, _, g3, _⟩ := blkAt5 hB (x14.trans x30)
  obtain ⟨_, _, _, h3, _⟩ := blkAt5 hB2 x30
  obtain ⟨b1, ha, q0, q1, _⟩ := ftAt hxf (y14.trans x30) hlt
  obtain ⟨b3, hc, r0, r1, _⟩ := ftAt hyf (y14.trans x30) hlt'
  refine ⟨_, _, _, g3, ⟨by omega, by omega⟩, adK ha ⟨_, q0, _, q1, _, _, _, h3, ⟨by omega, by omega⟩, adK hc ⟨_, r0, _, r1, BoolK.mk (fun t6 => ⟨not_iff_false fun e => ?_, y14.trans x30⟩) (fun t6 => ?_)⟩⟩⟩
  ·subst e; simp only [Bool.and_true, Bool.not_eq_true', Bool.and_eq_false_iff, beq_eq_false_iff_ne, ne_eq, not_true_eq_false, false_or] at t6
   rw [← Bool.not_eq_true, ba_eq] at t6; exact t6 rfl
  ·simp only [Bool.and_true, Bool.not_eq_false', Bool.and_eq_true, beq_iff_eq, ba_eq] at t6
   rw [wrap_succ (by omega)]
   refine ⟨⟨k + 1, rfl, by omega, x30, fun i f hi hf => ?_⟩, by simp; omega⟩
   rcases Nat.lt_or_ge i k with h | h
   ·exact hall i f h hf
   ·have : i = k := by omega
    subst this
    rw [List.getElem?_eq_getElem hlt] at hf; cases hf
    rw [List.getElem?_eq_getElem hlt']
    congr 1; exact (Prod.ext t6.1 t6.2).symm
 ·have : k = x.fs.length := by have := of_decide_eq_false t; omega
  subst this
  have efs : x.fs = y.fs := list_eq_of t4 fun i a hi h => hall i a hi h
  refine ⟨fun i w' => ∃ k : Nat, i = k ∧ k ≤ x.ks.length ∧ Ext w27 w' ∧ ∀ i (f : Int), i < k → x.ks[i]? = some f → y.ks[i]? = some f, fun i _ => x.ks.length - i.toNat, ⟨⟨0, rfl, by omega, Ext.refl _, fun i f hi => by omega⟩, trivial⟩, ?_⟩
  rintro w41 _ ⟨k, rfl, hk, x41, hall2⟩
  obtain ⟨_, _, _, _, g4⟩ := blkAt5 hB ((x14.trans x27).trans x41)
  refine ⟨_, _, _, g4, BoolK.mk (fun t => ?_) (fun t => ?_)⟩
  ·have hlt : k < x.ks.length := by have := of_decide_eq_true t; omega
   have hlt' : k < y.ks.length := by omega
   refine DrewK.mk fun w44 x44 => ?_
   have x44 := x41.trans x44
   obtain ⟨_, _, _, _, g4⟩ := blkAt5 hB ((x14.trans x27).trans x44)
   obtain ⟨_, _, _, _, h4⟩ := blkAt5 hB2 (x27.trans x44)
   obtain ⟨b1, ha, q0⟩ := ksAt hxk ((y14.trans x27).trans x44) hlt
   obtain ⟨b3, hc, r0⟩ := ksAt hyk ((y14.trans x27).trans x44) hlt'
   refine ⟨_, _, _, g4, ⟨by omega, by omega⟩, adK ha ⟨_, q0, _, _, _, h4, ⟨by omega, by omega⟩, adK hc ⟨_, r0, BoolK.mk (fun t6 => ⟨not_iff_false fun e => ?_, (y14.trans x27).trans x44⟩) (fun t6 => ?_)⟩⟩⟩
   ·subst e; simp at t6
   ·have t6 : x.ks[k] = y.ks[k] := by simpa using t6
    rw [wrap_succ (by omega)]
    refine ⟨⟨k + 1, rfl, by omega, x44, fun i f hi hf => ?_⟩, by simp; omega⟩
    rcases Nat.lt_or_ge i k with h | h
    ·exact hall2 i f h hf
    ·have : i = k := by omega
     subst this
     rw [List.getElem?_eq_getElem hlt] at hf; cases hf
     rw [List.getElem?_eq_getElem hlt', t6]
  ·have : k = x.ks.length := by have := of_decide_eq_false t; omega
   subst this
   have eks : x.ks = y.ks := list_eq_of t5 fun i a hi h => hall2 i a hi h
   exact ⟨⟨fun _ => nd_ext5 t1 t2 t3 efs eks, fun _ => rfl⟩, (y14.trans x27).trans x41⟩
theorem ctr11 (w : World) (r r' : Int) (xs ys : List Nd) {a a' : Option Addr} {l l' : Nat} (c c' : Nat) (hx : RNds w a l xs) (hy : RNds w a' l' ys) :
  Calls Tryz.prog 11 #[.agg #[.int .i64 r, .slice a l c], .agg #[.int .i64 r', .slice a' l' c']] w fun en w' => ∃ p, en = .returned (.bool p) ∧ ((p = true ↔ r = r' ∧ xs = ys) ∧ Ext w w') := by
 refine calls11 _ _ _ _ _ _ _ _ _ w ?_
 have e1 := hx.len; have e2 := hy.len
 have k1 := hx.2; have k2 := hy.2
 simp only [maxLen] at k1 k2
 refine AllocK.mk fun b w6 hb hB x6 => AllocK.mk fun b2 w8 hb2 hB2 x8 => ?_
 have y8 := x6.trans x8
 obtain ⟨_, g1, g0⟩ := blkAt2 (hB.ext x8)
 obtain ⟨_, h1, h0⟩ := blkAt2 hB2
 refine ⟨_, g0, _, h0, BoolK.mk (fun t => ⟨not_iff_false fun e => ?_, y8⟩) (fun t1 => ⟨_, _, _, g1, _, _, _, h1, BoolK.mk (fun t => ⟨not_iff_false fun e => ?_, y8⟩) (fun t2 => ?_)⟩)⟩
 ·rw [e.1] at t; simp at t
 ·rw [e1, e2, e.2] at t; simp at t
 have t1 : r = r' := by simpa using t1
 have t2 : xs.length = ys.length := by have : ((l : Nat) : Int) = l' := (by simpa using t2); omega
 refine ⟨fun i w' => ∃ k : Nat, i = k ∧ k ≤ xs.length ∧ Ext w8 w' ∧ ∀ i (f : Nd), i < k → xs[i]? = some f → ys[i]? = some f, fun i _ => xs.length - i.toNat, ⟨⟨0, rfl, by omega, Ext.refl _, fun i f hi => by omega⟩, trivial⟩, ?_⟩
 rintro w15 _ ⟨k, rfl, hk, x15, hall⟩
 obtain ⟨_, g1, _⟩ := blkAt2 (hB.ext (x8.trans x15))
 refine ⟨_, _, _, g1, BoolK.mk (fun t => ?_) (fun t => ?_)⟩
 ·have hlt : k < xs.length := by have := of_decide_eq_true t; omega
  have hlt' : k < ys.length := by omega
  refine DrewK.mk fun w18 x18 => ?_
  have x18 := x15.trans x18
  have y18 := y8.trans x18
  obtain ⟨_, g1, _⟩ := blkAt2 (hB.ext (x8.trans x18))
  obtain ⟨_, h1, _⟩ := blkAt2 (hB2.ext x18)
  obtain ⟨b1, ha, q0, q1, q2, _, _, ⟨a3, l3, c3, q5, q6⟩, ⟨a4, l4, c4, q7, q8⟩, _⟩ := ndAt hx y18 hlt
  obtain ⟨b3, hc, r0, r1, r2, _, _, ⟨d3, m3, z3, r5, r6⟩, ⟨d4, m4, z4, r7, r8⟩, _⟩ := ndAt hy y18 hlt'
  refine ⟨_, _, _, g1, ⟨by omega, by omega⟩, adK ha ⟨_, q0, _, q1, _, q2, _, _, _, q5, _, _, _, q7, _, _, _, h1, ⟨by omega, by omega⟩, adK hc ⟨_, r0, _, r1, _, r2, _, _, _, r5, _, _, _, r7, ?_⟩⟩⟩
  refine (ctr29 w18 xs[k] ys[k] c3 c4 z3 z4 q6 q8 r6 r8).mono ?_
  rintro en w34 ⟨p, rfl, hp, x34⟩
  refine ⟨_, rfl, BoolK.mk (fun t3 => ⟨not_iff_false fun e => ?_, y18.trans x34⟩) (fun t3 => ?_)⟩
  ·obtain ⟨_, e⟩ := e; subst e
   rw [hp.2 rfl] at t3; cases t3
  ·have t3 := hp.1 (by simpa using t3)
   rw [wrap_succ (by omega)]
   refine ⟨⟨k + 1, rfl, by omega, x18.trans x34, fun i f hi hf => ?_⟩, by simp; omega⟩
   rcases Nat.lt_or_ge i k with h | h
   ·exact hall i f h hf
   ·have : i = k := by omega
    subst this
    rw [List.getElem?_eq_getElem hlt] at hf; cases hf
    rw [List.getElem?_eq_getElem hlt', t3]
 ·have : k = xs.length := by have := of_decide_eq_false t; omega
  subst this
  exact ⟨⟨fun _ => ⟨t1, list_eq_of t2 fun i a hi h => hall i a hi h⟩, fun _ => rfl⟩, y8.trans x15⟩
end Go.Proofs.YtbiamhoonhjodacGreatDoor

namespace Go.V.Gr
open Go Go.V
open Go.Lib (itoa)
def NoZ (s : ByteArray) : Prop := ∀ c ∈ bl s, c ≠ 0
structure ZOk (x : Nd) : Prop where
 kd : NoZ x.kd
 tx : NoZ x.tx
 fs : ∀ f ∈ x.fs, NoZ f.2
 ks : x.ks.length = x.fs.length
def partsD : List Ft → List Int → List UInt8
 | f :: fs, c :: cs => itoa f.1 ++ (0 :: (bl f.2 ++ (0 :: (itoa c ++ (0 :: partsD fs cs)))))
 | _, _ => []
def headD (x : Nd) : List UInt8 := bl x.kd ++ (0 :: (itoa x.n ++ (0 :: (bl x.tx ++ [0]))))
def keyD (x : Nd) (cs : List Int) : List UInt8 := headD x ++ partsD x.fs cs
theorem itoa_nz (n : Int) : ∀ c ∈ itoa n, c ≠ 0 := fun c hc e => by
 have := itoa_all n c hc
 subst e; revert this; decide
theorem zcut {x y s t : List UInt8} (hx : ∀ c ∈ x, c ≠ 0) (hy : ∀ c ∈ y, c ≠ 0) (h : x ++ (0 :: s) = y ++ (0 :: t)) : x = y ∧ s = t := by
 obtain ⟨h1, h2⟩ := word_cut (p := fun c => decide (c ≠ 0)) (by simpa using hx) (by simpa using hy) (by simp) (by simp) h
 exact ⟨h1, (List.cons.inj h2).2⟩
theorem partsD_inj : ∀ {fs gs : List Ft} {cs ds : List Int}, (∀ f ∈ fs, NoZ f.2) → (∀ f ∈ gs, NoZ f.2) → cs.length = fs.length → ds.length = gs.length → partsD fs cs = partsD gs ds → fs = gs ∧ cs = ds
 | [], [], [], [], _, _, _, _, _ => ⟨rfl, rfl⟩
 | [], g :: gs, [], d :: ds, _, _, _, _, h => by
  simp only [partsD] at h
  have := congrArg List.length h
  simp at this
 | f :: fs, [], c :: cs, [], _, _, _, _, h => by
  simp only [partsD] at h
  have := congrArg List.length h
  simp at this
 | f :: fs, g :: gs, c :: cs, d :: ds, hf, hg, h1, h2, h => by
  simp only [partsD] at h
  obtain ⟨e1, h⟩ := zcut (itoa_nz _) (itoa_nz _) h
  obtain ⟨e2, h⟩ := zcut (hf f (by simp)) (hg g (by simp)) h
  obtain ⟨e3, h⟩ := zcut (itoa_nz _) (itoa_nz _) h
  obtain ⟨e4, e5⟩ := partsD_inj (fun f hm => hf f (List.mem_cons_of_mem _ hm)) (fun f hm => hg f (List.mem_cons_of_mem _ hm)) (by simpa using h1) (by simpa using h2) h
  have : f = g := Prod.ext (itoa_inj e1) (bl_inj e2)
  rw [this, e4, itoa_inj e3, e5]; exact ⟨rfl, rfl⟩
 | _ :: _, _, [], _, _, _, h, _, _ => by simp at h
 | [], _, _ :: _, _, _, _, h, _, _ => by simp at h
 | _, _ :: _, _, [], _, _, _, h, _ => by simp at h
 | _, [], _, _ :: _, _, _, _, h, _ => by simp at h
theorem keyD_iff {x y : Nd} {a b : List Int} (hx : ZOk x) (hy : ZOk y) (ha : a.length = x.ks.length) (hb : b.length = y.ks.length) : keyD x a = keyD y b ↔ x.hd = y.hd ∧ a = b := by
 constructor
 ·intro h
  simp only [keyD, headD, List.append_assoc, List.cons_append, List.nil_append] at h
  obtain ⟨e1, h⟩ := zcut hx.kd hy.kd h
  obtain ⟨e2, h⟩ := zcut (itoa_nz _) (itoa_nz _) h
  obtain ⟨e3, h⟩ := zcut hx.tx hy.tx h
  obtain ⟨e4, e5⟩ := partsD_inj hx.fs hy.fs (by rw [ha, hx.ks]) (by rw [hb, hy.ks]) h
  exact ⟨hd_mk (bl_inj e1) (itoa_inj e2) (bl_inj e3) e4 (by rw [← ha, ← hb, e5]), e5⟩
 ·rintro ⟨e1, e2⟩
  obtain ⟨h1, h2, h3, h4⟩ := hd_parts e1
  rw [keyD, keyD, headD, headD, h1, h2, h3, h4, e2]
section
variable {xs : List Nd}
def keyC (xs : List Nd) (c : Nat → Int) (i : Nat) : List UInt8 := keyD (nd xs i) (kc xs c i)
theorem keyC_iff {c : Nat → Int} (hz : ∀ x ∈ xs, ZOk x) {i j : Nat} (hi : i < xs.length) (hj : j < xs.length) : keyC xs c i = keyC xs c j ↔ (nd xs i).hd = (nd xs j).hd ∧ kc xs c i = kc xs c j := by
 have z : ∀ i, i < xs.length → ZOk (nd xs i) := fun i hi => by rw [nd_get hi]; exact hz _ (List.getElem_mem _)
 exact keyD_iff (z i hi) (z j hj) kc_len kc_len
structure Num1 (xs : List Nd) (T : List ByteArray) (cl : List Int) (ord : List Nat) : Prop where
 nodup : ord.Nodup
 lt : ∀ i ∈ ord, i < xs.length
 kids : ∀ (a i : Nat), ord[a]? = some i → ∀ m, m < (nd xs i).ks.length → ∃ b, b < a ∧ ord[b]? = some (kid xs i m)
 pos : ∀ i, i < xs.length → (i ∈ ord ↔ ga cl i ≠ 0)
 cll : cl.length = xs.length
 num : Numd T (keyC xs (ga cl)) (ga cl) 1 ord
 Tl : T.length ≤ ord.length
 b : ∀ c ∈ cl, 0 ≤ c ∧ c ≤ ord.length
theorem Num1.len {T : List ByteArray} {cl : List Int} {ord : List Nat} (h : Num1 xs T cl ord) : ord.length ≤ xs.length := by
 have := len_le_of_sub _ (List.range xs.length) h.nodup fun x hx => List.mem_range.2 (h.lt x hx)
 simpa using this
theorem Num1.start : Num1 xs [] (List.replicate xs.length 0) [] :=
 ⟨List.nodup_nil, by simp, by simp, fun i hi => by simp [ga, hi], by simp, fun i hi => by simp at hi, by simp, fun c hc => by rw [List.eq_of_mem_replicate hc]; simp⟩
theorem Num1.put {T T' : List ByteArray} {cl : List Int} {ord : List Nat} (h : Num1 xs T cl ord) {x v : Nat} {s : ByteArray} (hx : x < xs.length) (h0 : ga cl x = 0) (hr : ∀ k ∈ Gr.kids xs x, ga cl k ≠ 0) (hc : Closed xs)
  (hT : T' = T ∨ T' = T ++ [s]) (hv : T'[v]? = some s) (hs : bl s = keyC xs (ga cl) x) : Num1 xs T' (cl.set x (1 + v : Nat)) (ord ++ [x]) := by
 have hnx : x ∉ ord := fun hm => ((h.pos x hx).1 hm) h0
 have hxl : x < cl.length := by rw [h.cll]; exact hx
 have kin : ∀ k ∈ Gr.kids xs x, k ∈ ord := fun k hk => by
  have hkl : k < xs.length := by
   obtain ⟨m, hm⟩ := List.getElem?_of_mem hk
   have hm' : m < (nd xs x).ks.length := by rw [← kids_len]; exact (List.getElem?_eq_some_iff.1 hm).1
   rw [kids_get hm'] at hm; cases hm
   exact kid_lt hc hx hm'
  exact (h.pos k hkl).2 (hr k hk)
 have grow : ∀ {q : Nat} {u : ByteArray}, T[q]? = some u → T'[q]? = some u := fun {q u} e => by
  rcases hT with rfl | rfl
  ·exact e
  ·rw [List.getElem?_append_left (List.getElem?_eq_some_iff.1 e).1]; exact e
 have Tl' : T'.length ≤ ord.length + 1 := by
  have := h.Tl
  rcases hT with rfl | rfl
  ·omega
  ·simp; omega
 have hvl : v < T'.length := (List.getElem?_eq_some_iff.1 hv).1
 have same : ∀ i, i ∈ ord ∨ i = x → kc xs (ga (cl.set x (1 + v : Nat))) i = kc xs (ga cl) i := by
  intro i hi
  refine kc_congr fun k hk => ?_
  rw [ga_set hxl, if_neg]
  rintro rfl
  rcases hi with hi | rfl
  ·obtain ⟨a, ha⟩ := List.getElem?_of_mem hi
   obtain ⟨m, hm⟩ := List.getElem?_of_mem hk
   have hm' : m < (nd xs i).ks.length := by rw [← kids_len]; exact (List.getElem?_eq_some_iff.1 hm).1
   rw [kids_get hm'] at hm
   obtain ⟨b, hb, e⟩ := h.kids a i ha m hm'
   rw [Option.some.inj hm] at e
   exact hnx (List.mem_of_getElem? e)
  ·exact hnx (kin _ hk)
 refine ⟨?_, fun i hi => ?_, fun a i hai m hm => ?_, fun i hi => ?_, by simpa using h.cll, fun i hi => ?_, by simpa using Tl', fun c hcm => ?_⟩
 ·rw [List.nodup_append]
  exact ⟨h.nodup, by simp, fun a ha b hb e => by simp at hb; subst hb; subst e; exact hnx ha⟩
 ·rcases List.mem_append.1 hi with hi | hi
  ·exact h.lt i hi
  ·simp at hi; subst hi; exact hx
 ·rcases Nat.lt_or_ge a ord.length with h1 | h1
  ·rw [List.getElem?_append_left h1] at hai
   obtain ⟨b, hb, e⟩ := h.kids a i hai m hm
   exact ⟨b, hb, by rw [List.getElem?_append_left (by omega)]; exact e⟩
  ·rw [List.getElem?_append_right h1] at hai
   have h2 : a - ord.length < 1 := (List.getElem?_eq_some_iff.1 hai).1
   have h3 : a - ord.length = 0 := by omega
   rw [h3] at hai
   simp at hai; subst hai
   have hk := kin _ (List.mem_of_getElem? (kids_get hm))
   obtain ⟨b, hb⟩ := List.getElem?_of_mem hk
   have hbl := (List.getElem?_eq_some_iff.1 hb).1
   exact ⟨b, by omega, by rw [List.getElem?_append_left hbl]; exact hb⟩
 ·rw [ga_set hxl, List.mem_append]
  by_cases e : i = x
  ·subst e; simp; omega
  ·rw [if_neg e, ← h.pos i hi]; simp [e]
 ·rw [keyC, same i (by rcases List.mem_append.1 hi with h | h; exact .inl h; exact .inr (by simpa using h))]
  rcases List.mem_append.1 hi with hi | hi
  ·have e : i ≠ x := fun e => hnx (e ▸ hi)
   obtain ⟨q, s', e1, e2, e3⟩ := h.num i hi
   exact ⟨q, s', by rw [ga_set hxl, if_neg e]; exact e1, grow e2, e3⟩
  ·simp at hi; subst hi
   exact ⟨v, s, by rw [ga_set hxl, if_pos rfl]; omega, hv, hs⟩
 ·rcases List.mem_or_eq_of_mem_set hcm with hcm | rfl
  ·have := h.b c hcm; simp; omega
  ·simp; omega
theorem Num1.topo {T : List ByteArray} {cl : List Int} {ord : List Nat} (h : Num1 xs T cl ord) (hfull : ∀ i, i < xs.length → ga cl i = 0 → ∃ k ∈ Gr.kids xs i, ga cl k = 0) (hc : Closed xs) : Topo xs ord := by
 refine ⟨h.lt, h.kids, fun i hi hk => ?_⟩
 rw [h.pos i hi]
 intro h0
 obtain ⟨k, hk1, hk2⟩ := hfull i hi h0
 obtain ⟨m, hm⟩ := List.getElem?_of_mem hk1
 have hm' : m < (nd xs i).ks.length := by rw [← kids_len]; exact (List.getElem?_eq_some_iff.1 hm).1
 rw [kids_get hm'] at hm; cases hm
 exact (h.pos _ (kid_lt hc hi hm')).1 (hk m hm') hk2
theorem Num1.flat {T : List ByteArray} {cl : List Int} {ord : List Nat} (h : Num1 xs T cl ord) (ho : Topo xs ord) (hn : T.Nodup) (hz : ∀ x ∈ xs, ZOk x) : ∀ i j, i ∈ ord → j ∈ ord → (ga cl i = ga cl j ↔ Eqv xs xs i j) := by
 have F : Flat xs ord (ga cl) ord.length := ⟨fun a b i j _ _ ha hb => by
  have hi := List.mem_of_getElem? ha; have hj := List.mem_of_getElem? hb
  rw [h.num.iff hn hi hj]
  exact keyC_iff hz (h.lt i hi) (h.lt j hj)⟩
 intro i j hi hj
 obtain ⟨a, ha⟩ := List.getElem?_of_mem hi
 obtain ⟨b, hb⟩ := List.getElem?_of_mem hj
 exact F.eqv ho a b i j (List.getElem?_eq_some_iff.1 ha).1 (List.getElem?_eq_some_iff.1 hb).1 ha hb
structure DInv (xs : List Nd) (ord : List Nat) (fin : Nat) (n : Int) (c : Nat → Int) : Prop where
 flat : ∀ (i j : Nat), i ∈ ord → j ∈ ord → (c i = c j ↔ Eqv xs xs i j)
 low : ∀ i ∈ ord, 1 ≤ c i ∧ c i ≤ fin
 rest : (n = -1 ∧ ∀ i, i < xs.length → i ∉ ord → c i = 0) ∨ ∃ cnt : Nat, n = cnt ∧ Part xs ord (fin + 1) cnt c
 fine : ∀ i j, i < xs.length → j < xs.length → i ∉ ord → j ∉ ord → (nd xs i).hd = (nd xs j).hd → kc xs c i = kc xs c j → c i = c j
theorem DInv.round {ord : List Nat} {fin : Nat} {n : Int} {c c' : Nat → Int} {N : List ByteArray} (h : DInv xs ord fin n c) (ho : Topo xs ord) (hc : Closed xs) (hz : ∀ x ∈ xs, ZOk x) (hN : N.Nodup)
  (hflat : ∀ i ∈ ord, c' i = c i) (num : ∀ i, i < xs.length → i ∉ ord → ∃ (q : Nat) (s : ByteArray), c' i = fin + 1 + q ∧ N[q]? = some s ∧ bl s = keyC xs c i)
  (hit : ∀ q, q < N.length → ∃ i, i < xs.length ∧ i ∉ ord ∧ c' i = fin + 1 + (q : Nat)) :
  ((N.length : Int) = n → ∀ i j, i < xs.length → j < xs.length → (c' i = c' j ↔ Eqv xs xs i j)) ∧ ((N.length : Int) ≠ n → n < N.length ∧ DInv xs ord fin N.length c') := by
 have nd' : Numd N (keyC xs c) c' (fin + 1 : Nat) ((List.range xs.length).filter fun i => decide (i ∉ ord)) := fun i hi => by
  simp only [List.mem_filter, List.mem_range, decide_eq_true_eq] at hi
  obtain ⟨q, s, e1, e2⟩ := num i hi.1 hi.2
  exact ⟨q, s, by rw [e1]; rfl, e2⟩
 have mem : ∀ i, i < xs.length → i ∉ ord → i ∈ ((List.range xs.length).filter fun i => decide (i ∉ ord)) := fun i h1 h2 => by simp [h1, h2]
 have iff1 : ∀ i j, i < xs.length → j < xs.length → i ∉ ord → j ∉ ord → (c' i = c' j ↔ (nd xs i).hd = (nd xs j).hd ∧ kc xs c i = kc xs c j) := fun i j hi hj ni nj => by
  rw [nd'.iff hN (mem i hi ni) (mem j hj nj)]; exact keyC_iff hz hi hj
 have flat' : ∀ i j, i ∈ ord → j ∈ ord → (c' i = c' j ↔ Eqv xs xs i j) := fun i j hi hj => by rw [hflat i hi, hflat j hj]; exact h.flat i j hi hj
 have low' : ∀ i ∈ ord, 1 ≤ c' i ∧ c' i ≤ fin := fun i hi => by rw [hflat i hi]; exact h.low i hi
 have high : ∀ i, i < xs.length → i ∉ ord → ((fin + 1 : Nat) : Int) ≤ c' i ∧ c' i < ((fin + 1 : Nat) : Int) + N.length := fun i hi ni => by
  obtain ⟨q, s, e1, e2, _⟩ := num i hi ni
  have := (List.getElem?_eq_some_iff.1 e2).1
  omega
 have side' : ∀ i j, i < xs.length → j < xs.length → c' i = c' j → (i ∈ ord ↔ j ∈ ord) := fun i j hi hj e => by
  constructor
  ·intro hm
   refine Classical.byContradiction fun hn => ?_
   have := low' i hm; have := high j hj hn; omega
  ·intro hm
   refine Classical.byContradiction fun hn => ?_
   have := low' j hm; have := high i hi hn; omega
 have finer : ∀ i j, i < xs.length → j < xs.length → c' i = c' j → c i = c j := fun i j hi hj e => by
  by_cases hm : i ∈ ord
  ·have hm' := (side' i j hi hj e).1 hm
   rw [← hflat i hm, ← hflat j hm']; exact e
  ·have hm' : j ∉ ord := fun h => hm ((side' i j hi hj e).2 h)
   obtain ⟨h1, h2⟩ := (iff1 i j hi hj hm hm').1 e
   exact h.fine i j hi hj hm hm' h1 h2
 have fine' : ∀ i j, i < xs.length → j < xs.length → i ∉ ord → j ∉ ord → (nd xs i).hd = (nd xs j).hd → kc xs c' i = kc xs c' j → c' i = c' j := fun i j hi hj ni nj e1 e2 => by
  refine (iff1 i j hi hj ni nj).2 ⟨e1, kc_of (hd_len e1) fun m hm => ?_⟩
  exact finer _ _ (kid_lt hc hi hm) (kid_lt hc hj (by rw [← hd_len e1]; exact hm)) (kc_eq e2 m hm)
 have lowP : ∀ i ∈ ord, 0 ≤ c' i ∧ c' i < ((fin + 1 : Nat) : Int) := fun i hi => by have := low' i hi; omega
 have hit' : ∀ q, q < N.length → ∃ i, i < xs.length ∧ i ∉ ord ∧ c' i = ((fin + 1 : Nat) : Int) + (q : Nat) := fun q hq => by
  obtain ⟨i, h1, h2, h3⟩ := hit q hq
  exact ⟨i, h1, h2, by rw [h3]; rfl⟩
 rcases h.rest with ⟨hn, h0⟩ | ⟨cnt, hn, P⟩
 ·refine ⟨fun e => by omega, fun _ => ⟨by omega, flat', low', .inr ⟨_, rfl, ⟨flat', lowP, high, hit', fun i j hi hj ni nj e => ?_, fun i j hi hj ni nj e => ((iff1 i j hi hj ni nj).1 e).1⟩⟩, fine'⟩⟩
  refine (iff1 i j hi hj ni nj).2 ⟨e.head, kc_of (hd_len e.head) fun m hm => ?_⟩
  have hk1 := kid_lt hc hi hm
  have hk2 := kid_lt hc hj (m := m) (by rw [← hd_len e.head]; exact hm)
  have ek := e.kid hm
  by_cases hm1 : kid xs i m ∈ ord
  ·exact (h.flat _ _ hm1 ((ho.mem hc hk1 hk2 ek).1 hm1)).2 ek
  ·rw [h0 _ hk1 hm1, h0 _ hk2 fun h => hm1 ((ho.mem hc hk1 hk2 ek).2 h)]
 ·obtain ⟨P', hle, hfin⟩ := P.step ho hc hflat high hit' fun i j hi hj ni nj => by
   rw [iff1 i j hi hj ni nj]
   exact ⟨fun ⟨h1, h2⟩ => ⟨h.fine i j hi hj ni nj h1 h2, h2⟩, fun ⟨h1, h2⟩ => ⟨P.hd i j hi hj ni nj h1, h2⟩⟩
  exact ⟨fun e => hfin (by omega), fun e => ⟨by omega, flat', low', .inr ⟨_, rfl, P'⟩, fine'⟩⟩
theorem Num1.dinv {T : List ByteArray} {cl : List Int} {ord : List Nat} (h : Num1 xs T cl ord) (ho : Topo xs ord) (hn : T.Nodup) (hz : ∀ x ∈ xs, ZOk x) : DInv xs ord T.length (-1) (ga cl) := by
 refine ⟨h.flat ho hn hz, fun i hi => ?_, .inl ⟨rfl, fun i hi ni => ?_⟩, fun i j hi hj ni nj _ _ => ?_⟩
 ·obtain ⟨q, s, e1, e2, _⟩ := h.num i hi
  have := (List.getElem?_eq_some_iff.1 e2).1
  omega
 ·exact Classical.byContradiction fun h0 => ni ((h.pos i hi).2 h0)
 ·rw [Classical.byContradiction fun h0 => ni ((h.pos i hi).2 h0), Classical.byContradiction fun h0 => nj ((h.pos j hj).2 h0)]
end
end Go.V.Gr

namespace Go.Proofs.YtbiamhoonhjodacGreatDoor
open Go Go.V Go.Proofs
open Go.RowKit (Below)
/-! manystrand/manystrandref02.Decimal -/
def N79 (x1 : Int) (K : ByteArray → World → Prop) (w : World) : Prop :=
 BoolK (decide (x1 < 0))
 (Calls Tryz.prog 79 #[(.int .i64 (IntKind.wrap .i64 (0 - x1)))] w fun e4 w3 =>
 ∃ s2, e4 = .returned (.string s2) ∧
 ((((⟨#[45]⟩ : ByteArray).size + s2.size : Nat) : Int) ≤ IntKind.i64.max ∧
 (K ((⟨#[45]⟩ : ByteArray) ++ s2) w3)))
 (BoolK (decide (x1 < 10))
 (AllocK w (#[(.int .u8 (IntKind.wrap .u8 (IntKind.wrap .i64 (48 + x1))))]) 5 fun b5 w6 =>
 ∃ s7, ∃ w8, Sem.run Tryz.prog (convert 110 9 (.slice (some b5) 1 1)) w6 = .ok (.string s7) w8 ∧
 (K s7 w8))
 ((10 : Int) ≠ 0 ∧
 (Calls Tryz.prog 79 #[(.int .i64 (IntKind.wrap .i64 (x1.tdiv 10)))] w fun e11 w10 =>
 ∃ s9, e11 = .returned (.string s9) ∧
 ((10 : Int) ≠ 0 ∧
 (Calls Tryz.prog 79 #[(.int .i64 (x1.tmod 10))] w10 fun e14 w13 =>
 ∃ s12, e14 = .returned (.string s12) ∧
 (((s9.size + s12.size : Nat) : Int) ≤ IntKind.i64.max ∧
 (K (s9 ++ s12) w13)))))))
def ann79 : Ann := (.two .nil (.two (.two .nil (.two (.two .nil .nil) .nil)) (.two (.two .nil (.two (.two .nil .nil) .nil)) (.two .nil .nil))))
noncomputable def code79 : Code := match Tryz.f79.body with | some c => c | none => .skip
theorem calls79 (x1 : Int) (K : ByteArray → World → Prop) (w : World) (h : N79 x1 K w) : Calls Tryz.prog 79 #[(.int .i64 x1)] w fun en w' => ∃ (s15 : ByteArray), en = .returned (.string s15) ∧ K s15 w' :=
 fn_calls tabOk mixed Tryz.func79 (by kernel_rfl : Tryz.f79.body = some code79) ann79 [(.int .i64 x1)] [(.one .str)] K w (by kernel_rfl) (by kernel_rfl) (by kernel_rfl) h
end Go.Proofs.YtbiamhoonhjodacGreatDoor

namespace Go.Proofs.YtbiamhoonhjodacGreatDoor
open Go Go.V Go.Proofs
open Go.RowKit (Below)
/-! manystrand/manystrandref05.ready -/
def N49 (s1 : ByteArray) (x2 : Int) (s3 : ByteArray) (a4 : Option Addr) (l4 : Nat) (c4 : Nat) (a5 : Option Addr) (l5 : Nat) (c5 : Nat) (a6 : Option Addr) (l6 : Nat) (_c6 : Nat) (K : Bool → World → Prop) (w : World) : Prop :=
 AllocK w (#[(.string s1), (.int .i64 x2), (.string s3), (.slice a4 l4 c4), (.slice a5 l5 c5)]) 36 fun b7 w8 =>
 ∃ (I9 : Int → World → Prop) (μ10 : Int → World → Nat),
 (I9 0 w8 ∧ True) ∧
 ∀ w11 x12, I9 x12 w11 →
 ∃ a13 l13 c13, w11.cell? (b7.add 4) = some (.slice a13 l13 c13) ∧
 (BoolK (decide (x12 < l13))
 (∃ a14 l14 c14, w11.cell? (b7.add 4) = some (.slice a14 l14 c14) ∧
 ((0 ≤ x12 ∧ x12 < l14) ∧
 AddrK a14 fun b15 =>
 ∃ x16, w11.cell? (b15.add (x12.toNat * 1)) = some (.int .i64 x16) ∧
 ((0 ≤ x16 ∧ x16 < l6) ∧
 AddrK a6 fun b17 =>
 ∃ x18, w11.cell? (b17.add (x16.toNat * 1)) = some (.int .i64 x18) ∧
 (BoolK (x18 == 0)
 (K false w11)
 (I9 (IntKind.wrap .i64 (x12 + 1)) w11 ∧ μ10 (IntKind.wrap .i64 (x12 + 1)) w11 < μ10 x12 w11)))))
 (K true w11))
def ann49 : Ann := (.two .nil (.two (.two .nil (.one (.loop [(5, (.one (.int .i64)))] [1, 2] (.two (.two .nil (.two .nil .nil)) (.two (.one (.two .nil (.two (.two .nil .nil) .nil))) .nil))))) (.two .nil .nil)))
noncomputable def code49 : Code := match Tryz.f49.body with | some c => c | none => .skip
theorem calls49 (s1 : ByteArray) (x2 : Int) (s3 : ByteArray) (a4 : Option Addr) (l4 : Nat) (c4 : Nat) (a5 : Option Addr) (l5 : Nat) (c5 : Nat) (a6 : Option Addr) (l6 : Nat) (c6 : Nat) (K : Bool → World → Prop) (w : World) (h : N49 s1 x2 s3 a4 l4 c4 a5 l5 c5 a6 l6 c6 K w) : Calls Tryz.prog 49 #[(.agg #[(.string s1), (.int .i64 x2), (.string s3), (.slice a4 l4 c4), (.slice a5 l5 c5)]), (.slice a6 l6 c6)] w fun en w' => ∃ (p19 : Bool), en = .returned (.bool p19) ∧ K p19 w' :=
 fn_calls tabOk mixed Tryz.func49 (by kernel_rfl : Tryz.f49.body = some code49) ann49 [(.agg #[(.string s1), (.int .i64 x2), (.string s3), (.slice a4 l4 c4), (.slice a5 l5 c5)]), (.slice a6 l6 c6)] [(.one .bool)] K w (by kernel_rfl) (by kernel_rfl) (by kernel_rfl) h
end Go.Proofs.YtbiamhoonhjodacGreatDoor

namespace Go.Proofs.YtbiamhoonhjodacGreatDoor
open Go Go.V Go.Proofs
open Go.RowKit (Below)
/-! manystrand/manystrandref05.key -/
def N50 (s1 : ByteArray) (x2 : Int) (s3 : ByteArray) (a4 : Option Addr) (l4 : Nat) (c4 : Nat) (a5 : Option Addr) (l5 : Nat) (c5 : Nat) (a6 : Option Addr) (l6 : Nat) (_c6 : Nat) (K : ByteArray → World → Prop) (w : World) : Prop :=
 AllocK w (#[(.string s1), (.int .i64 x2), (.string s3), (.slice a4 l4 c4), (.slice a5 l5 c5)]) 36 fun b7 w8 =>
 DrewK w8 fun w9 =>
 ∃ s10, w9.cell? b7 = some (.string s10) ∧
 (((s10.size + (⟨#[0]⟩ : ByteArray).size : Nat) : Int) ≤ IntKind.i64.max ∧
 (∃ x11, w9.cell? (b7.add 1) = some (.int .i64 x11) ∧
 (∃ s12, w9.cell? (b7.add 2) = some (.string s12) ∧
 (Calls Tryz.prog 79 #[(.int .i64 x11)] w9 fun e15 w14 =>
 ∃ s13, e15 = .returned (.string s13) ∧
 (Cel w9 w14 ∧
 ((((s10 ++ (⟨#[0]⟩ : ByteArray) : ByteArray).size + s13.size : Nat) : Int) ≤ IntKind.i64.max ∧
 (((((s10 ++ (⟨#[0]⟩ : ByteArray) : ByteArray) ++ s13 : ByteArray).size + (⟨#[0]⟩ : ByteArray).size : Nat) : Int) ≤ IntKind.i64.max ∧
 ((((((s10 ++ (⟨#[0]⟩ : ByteArray) : ByteArray) ++ s13 : ByteArray) ++ (⟨#[0]⟩ : ByteArray) : ByteArray).size + s12.size : Nat) : Int) ≤ IntKind.i64.max ∧
 (((((((s10 ++ (⟨#[0]⟩ : ByteArray) : ByteArray) ++ s13 : ByteArray) ++ (⟨#[0]⟩ : ByteArray) : ByteArray) ++ s12 : ByteArray).size + (⟨#[0]⟩ : ByteArray).size : Nat) : Int) ≤ IntKind.i64.max ∧
 (∃ (I16 : ByteArray → Int → World → Prop) (μ17 : ByteArray → Int → World → Nat),
 (I16 (((((s10 ++ (⟨#[0]⟩ : ByteArray) : ByteArray) ++ s13 : ByteArray) ++ (⟨#[0]⟩ : ByteArray) : ByteArray) ++ s12 : ByteArray) ++ (⟨#[0]⟩ : ByteArray)) 0 w14 ∧ True) ∧
 ∀ w18 s19 x20, I16 s19 x20 w18 →
 ∃ a21 l21 c21, w18.cell? (b7.add 4) = some (.slice a21 l21 c21) ∧
 (BoolK (decide (x20 < l21))
 (DrewK w18 fun w22 =>
 ∃ a23 l23 c23, w22.cell? (b7.add 3) = some (.slice a23 l23 c23) ∧
 ((0 ≤ x20 ∧ x20 < l23) ∧
 AddrK a23 fun b24 =>
 ∃ x25, w22.cell? (b24.add (x20.toNat * 2)) = some (.int .i64 x25) ∧
 (∃ a26 l26 c26, w22.cell? (b7.add 3) = some (.slice a26 l26 c26) ∧
 ((0 ≤ x20 ∧ x20 < l26) ∧
 AddrK a26 fun b27 =>
 ∃ s28, w22.cell? ((b27.add (x20.toNat * 2)).add 1) = some (.string s28) ∧
 (∃ a29 l29 c29, w22.cell? (b7.add 4) = some (.slice a29 l29 c29) ∧
 ((0 ≤ x20 ∧ x20 < l29) ∧
 AddrK a29 fun b30 =>
 ∃ x31, w22.cell? (b30.add (x20.toNat * 1)) = some (.int .i64 x31) ∧
 ((0 ≤ x31 ∧ x31 < l6) ∧
 AddrK a6 fun b32 =>
 ∃ x33, w22.cell? (b32.add (x31.toNat * 1)) = some (.int .i64 x33) ∧
 (Calls Tryz.prog 79 #[(.int .i64 x25)] w22 fun e36 w35 =>
 ∃ s34, e36 = .returned (.string s34) ∧
 (Cel w22 w35 ∧
 (((s34.size + (⟨#[0]⟩ : ByteArray).size : Nat) : Int) ≤ IntKind.i64.max ∧
 ((((s34 ++ (⟨#[0]⟩ : ByteArray) : ByteArray).size + s28.size : Nat) : Int) ≤ IntKind.i64.max ∧
 (((((s34 ++ (⟨#[0]⟩ : ByteArray) : ByteArray) ++ s28 : ByteArray).size + (⟨#[0]⟩ : ByteArray).size : Nat) : Int) ≤ IntKind.i64.max ∧
 (Calls Tryz.prog 79 #[(.int .i64 x33)] w35 fun e39 w38 =>
 ∃ s37, e39 = .returned (.string s37) ∧
 (Cel w22 w38 ∧
 ((((((s34 ++ (⟨#[0]⟩ : ByteArray) : ByteArray) ++ s28 : ByteArray) ++ (⟨#[0]⟩ : ByteArray) : ByteArray).size + s37.size : Nat) : Int) ≤ IntKind.i64.max ∧
 (((((((s34 ++ (⟨#[0]⟩ : ByteArray) : ByteArray) ++ s28 : ByteArray) ++ (⟨#[0]⟩ : ByteArray) : ByteArray) ++ s37 : ByteArray).size + (⟨#[0]⟩ : ByteArray).size : Nat) : Int) ≤ IntKind.i64.max ∧
 (((s19.size + (((((s34 ++ (⟨#[0]⟩ : ByteArray) : ByteArray) ++ s28 : ByteArray) ++ (⟨#[0]⟩ : ByteArray) : ByteArray) ++ s37 : ByteArray) ++ (⟨#[0]⟩ : ByteArray) : ByteArray).size : Nat) : Int) ≤ IntKind.i64.max ∧
 (I16 (s19 ++ (((((s34 ++ (⟨#[0]⟩ : ByteArray) : ByteArray) ++ s28 : ByteArray) ++ (⟨#[0]⟩ : ByteArray) : ByteArray) ++ s37 : ByteArray) ++ (⟨#[0]⟩ : ByteArray) : ByteArray)) (IntKind.wrap .i64 (x20 + 1)) w38 ∧ μ17 (s19 ++ (((((s34 ++ (⟨#[0]⟩ : ByteArray) : ByteArray) ++ s28 : ByteArray) ++ (⟨#[0]⟩ : ByteArray) : ByteArray) ++ s37 : ByteArray) ++ (⟨#[0]⟩ : ByteArray) : ByteArray)) (IntKind.wrap .i64 (x20 + 1)) w38 < μ17 s19 x20 w18))))))))))))))))))
 (K s19 w18))))))))))))
def ann50 : Ann := (.two .nil (.two (.anyC 13 (.take 0 (.take 1 (.take 2 (.take 3 (.take 4 (.take 8 (.take 9 (.one 5 (.take 6 (.take 7 (.take 10 (.take 11 (.take 12 .done)))))))))))))) (.two (.two .nil (.one (.loop [(5, (.one .str)), (6, (.one (.int .i64)))] [1, 2] (.two (.two .nil (.two .nil .nil)) (.two (.one (.anyC 30 (.take 0 (.take 1 (.take 2 (.take 3 (.take 4 (.take 5 (.take 6 (.take 9 (.take 10 (.take 11 (.take 12 (.take 13 (.take 14 (.take 17 (.take 18 (.take 19 (.take 20 (.take 21 (.take 22 (.take 23 (.take 24 (.one 7 (.take 8 (.take 15 (.take 16 (.one 25 (.take 26 (.take 27 (.take 28 (.take 29 .done)))))))))))))))))))))))))))))))) .nil))))) (.two .nil .nil))))
noncomputable def code50 : Code := match Tryz.f50.body with | some c => c | none => .skip
theorem calls50 (s1 : ByteArray) (x2 : Int) (s3 : ByteArray) (a4 : Option Addr) (l4 : Nat) (c4 : Nat) (a5 : Option Addr) (l5 : Nat) (c5 : Nat) (a6 : Option Addr) (l6 : Nat) (c6 : Nat) (K : ByteArray → World → Prop) (w : World) (h : N50 s1 x2 s3 a4 l4 c4 a5 l5 c5 a6 l6 c6 K w) : Calls Tryz.prog 50 #[(.agg #[(.string s1), (.int .i64 x2), (.string s3), (.slice a4 l4 c4), (.slice a5 l5 c5)]), (.slice a6 l6 c6)] w fun en w' => ∃ (s40 : ByteArray), en = .returned (.string s40) ∧ K s40 w' :=
 fn_calls tabOk mixed Tryz.func50 (by kernel_rfl : Tryz.f50.body = some code50) ann50 [(.agg #[(.string s1), (.int .i64 x2), (.string s3), (.slice a4 l4 c4), (.slice a5 l5 c5)]), (.slice a6 l6 c6)] [(.one .str)] K w (by kernel_rfl) (by kernel_rfl) (by kernel_rfl) h
end Go.Proofs.YtbiamhoonhjodacGreatDoor

namespace Go.Proofs.YtbiamhoonhjodacGreatDoor
open Go Go.V Go.Proofs Go.V.Gr
open Go.RowKit (Below)
theorem sizeA (p q : ByteArray) : (p ++ q).size = p.size + q.size := by rw [← bl_size, ← bl_size, ← bl_size, bl_append, List.length_append]
theorem itoa_nat (n : Nat) : Lib.itoa (n : Int) = Lib.decDigits n := by rw [Lib.itoa, if_neg (by omega)]; rfl
theorem itoa_neg {n : Int} (h : n < 0) : Lib.itoa n = 45 :: Lib.itoa (-n) := by
 rw [Lib.itoa, if_pos h, Lib.itoa, if_neg (by omega)]
 congr 2; omega
theorem decimal_nat (n : Nat) : n < 9223372036854775808 → ∀ w : World, Calls Tryz.prog 79 #[.int .i64 (n : Int)] w fun en w' => ∃ s, en = .returned (.string s) ∧ (bl s = Lib.itoa n ∧ Ext w w') := by
 induction n using Nat.strongRecOn with
 | _ n ih =>
  intro h w
  refine calls79 _ _ w ?_
  refine BoolK.mk (fun t => by simp at t; omega) (fun _ => BoolK.mk (fun t => ?_) (fun t => ?_))
  ·have h10 : n < 10 := by simp at t; omega
   refine AllocK.mk fun b w6 _ hb hx => ⟨_, _, run_byteString Tryz.underlying110 Tryz.underlying5 Tryz.underlying9 hb, ?_, hx⟩
   rw [wrap_id (by omega) (by omega), IntKind.wrap_u8', itoa_nat, decDigits_step, if_pos h10, bl_mk]
   have : ((48 + (n : Int)) % 256).toNat = 48 + n := by omega
   rw [this]
  ·have h10 : 10 ≤ n := by simp at t; omega
   have e1 : ((n : Int)).tdiv 10 = ((n / 10 : Nat) : Int) := rfl
   have e2 : ((n : Int)).tmod 10 = ((n % 10 : Nat) : Int) := rfl
   rw [e1, e2, wrap_id (x := ((n / 10 : Nat) : Int)) (by omega) (by omega)]
   refine ⟨by omega, (ih (n / 10) (by omega) (by omega) w).mono ?_⟩
   rintro en w3 ⟨s, rfl, hs, hx3⟩
   refine ⟨_, rfl, by omega, (ih (n % 10) (by omega) (by omega) w3).mono ?_⟩
   rintro en w6 ⟨s', rfl, hs', hx6⟩
   refine ⟨_, rfl, ?_, ?_, hx3.trans hx6⟩
   ·rw [i64max, ← bl_size, ← bl_size, hs, hs']
    have a1 := itoa_len (n := ((n / 10 : Nat) : Int)) ⟨by omega, by omega⟩
    have a2 := itoa_len (n := ((n % 10 : Nat) : Int)) ⟨by omega, by omega⟩
    omega
   ·rw [bl_append, hs, hs', itoa_nat, itoa_nat, itoa_nat]
    conv => rhs; rw [decDigits_step, if_neg (by omega)]
    rw [decDigits_step (n % 10), if_pos (by omega)]
theorem ctr79 (w : World) {n : Int} (h0 : -9223372036854775808 < n) (h1 : n ≤ 9223372036854775807) : Calls Tryz.prog 79 #[.int .i64 n] w fun en w' => ∃ s, en = .returned (.string s) ∧ (bl s = Lib.itoa n ∧ Ext w w') := by
 by_cases h : n < 0
 ·refine calls79 _ _ w ?_
  refine BoolK.mk (fun _ => ?_) (fun t => by simp at t; omega)
  have e : ((-n).toNat : Int) = -n := by omega
  rw [wrap_id (by omega) (by omega), show (0 - n : Int) = ((-n).toNat : Int) by omega]
  refine (decimal_nat (-n).toNat (by omega) w).mono ?_
  rintro en w3 ⟨s, rfl, hs, hx⟩
  refine ⟨_, rfl, ?_, ?_, hx⟩
  ·have := itoa_len (n := (((-n).toNat : Nat) : Int)) ⟨by omega, by omega⟩
   rw [i64max, ← bl_size, ← bl_size, hs]
   show ((1 + _ : Nat) : Int) ≤ _; omega
  ·rw [bl_append, hs, itoa_neg h, e]; rfl
 ·have := decimal_nat n.toNat (by omega) w
  rwa [show ((n.toNat : Nat) : Int) = n by omega] at this
section
variable {w : World}
theorem ctr49 (x : Nd) {a4 a5 a6 : Option Addr} {l4 l5 l6 : Nat} (c4 c5 c6 : Nat) {cl : List Int} (hks : RL 1 RInt w a5 l5 x.ks) (hcl : Ints w a6 l6 cl) (hin : ∀ k ∈ x.ks, 0 ≤ k ∧ k < cl.length) :
  Calls Tryz.prog 49 #[.agg #[.string x.kd, .int .i64 x.n, .string x.tx, .slice a4 l4 c4, .slice a5 l5 c5], .slice a6 l6 c6] w fun en w' => ∃ p, en = .returned (.bool p) ∧ ((p = true ↔ ∀ k ∈ x.ks, ga cl k.toNat ≠ 0) ∧ Ext w w') := by
 refine calls49 _ _ _ _ _ _ _ _ _ _ _ _ _ w ?_
 have e5 := hks.len; have m5 := hks.2; have e6 := hcl.1
 simp only [maxLen] at m5
 refine AllocK.mk fun b w8 hb hB x8 => ?_
 refine ⟨fun i w' => ∃ k : Nat, i = k ∧ k ≤ x.ks.length ∧ w' = w8 ∧ ∀ (i : Nat) (f : Int), i < k → x.ks[i]? = some f → ga cl f.toNat ≠ 0, fun i _ => x.ks.length - i.toNat, ⟨⟨0, rfl, by omega, rfl, fun i f hi => by omega⟩, trivial⟩, ?_⟩
 rintro w11 _ ⟨k, rfl, hk, rfl, hall⟩
 obtain ⟨_, _, _, _, g4⟩ := blkAt5 hB (Ext.refl w11)
 refine ⟨_, _, _, g4, BoolK.mk (fun t => ?_) (fun t => ?_)⟩
 ·have hlt : k < x.ks.length := by have := of_decide_eq_true t; omega
  obtain ⟨b1, ha, q0⟩ := ksAt hks x8 hlt
  have hk2 := hin _ (List.getElem_mem hlt)
  have hlt3 : x.ks[k].toNat < cl.length := by omega
  obtain ⟨b2, o2, ha2, r1⟩ := (hcl.ext RInt.mono x8).get hlt3
  refine ⟨_, _, _, g4, ⟨by omega, by omega⟩, adK ha ⟨_, q0, ⟨by omega, by omega⟩, adK ha2 ⟨cl[x.ks[k].toNat], by rw [add_mk]; simpa [RInt] using r1, BoolK.mk (fun t1 => ⟨not_iff_false fun h => ?_, x8⟩) (fun t1 => ?_)⟩⟩⟩
  ·have := h _ (List.getElem_mem hlt)
   rw [ga_get hlt3] at this
   exact this (eq_of_beq t1)
  ·rw [wrap_succ (by omega)]
   refine ⟨⟨k + 1, rfl, by omega, rfl, fun i f hi hf => ?_⟩, by simp; omega⟩
   rcases Nat.lt_or_ge i k with h | h
   ·exact hall i f h hf
   ·have : i = k := by omega
    subst this
    rw [List.getElem?_eq_getElem hlt] at hf; cases hf
    rw [ga_get hlt3]
    exact fun e => by rw [e] at t1; simp at t1
 ·have : k = x.ks.length := by have := of_decide_eq_false t; omega
  subst this
  refine ⟨⟨fun _ f hf => ?_, fun _ => rfl⟩, x8⟩
  obtain ⟨i, hi⟩ := List.getElem?_of_mem hf
  exact hall i f (List.getElem?_eq_some_iff.1 hi).1 hi
end
structure DOk (x : Nd) : Prop where
 hd : HdOk x
 n : -9223372036854775808 < x.n
 fs : ∀ f ∈ x.fs, -9223372036854775808 < f.1
 ks : x.ks.length = x.fs.length
theorem partsD_snoc : ∀ {fs : List Ft} {cs : List Int} {f : Ft} {c : Int}, fs.length = cs.length → partsD (fs ++ [f]) (cs ++ [c]) = partsD fs cs ++ (Lib.itoa f.1 ++ (0 :: (bl f.2 ++ (0 :: (Lib.itoa c ++ [0])))))
 | [], [], f, c, _ => by simp [partsD]
 | g :: fs, d :: cs, f, c, h => by
  simp only [List.cons_append, partsD]
  rw [partsD_snoc (by simpa using h)]
  simp
 | [], _ :: _, _, _, h => by simp at h
 | _ :: _, [], _, _, h => by simp at h
set_option maxRecDepth 100000 in
theorem ctr50 (w : World) (x : Nd) {a4 a5 a6 : Option Addr} {l4 l5 l6 : Nat} (c4 c5 c6 : Nat) {cl : List Int} (hx : DOk x) (hfs : RL 2 RFt w a4 l4 x.fs) (hks : RL 1 RInt w a5 l5 x.ks) (hcl : Ints w a6 l6 cl) (hin : ∀ k ∈ x.ks, 0 ≤ k ∧ k < cl.length) (hc0 : ∀ c ∈ cl, 0 ≤ c ∧ c ≤ 9223372036854775807) :
  Calls Tryz.prog 50 #[.agg #[.string x.kd, .int .i64 x.n, .string x.tx, .slice a4 l4 c4, .slice a5 l5 c5], .slice a6 l6 c6] w fun en w' => ∃ s, en = .returned (.string s) ∧ (bl s = keyD x (x.ks.map fun k => ga cl k.toNat) ∧ Ext w w') := by
 refine calls50 _ _ _ _ _ _ _ _ _ _ _ _ _ w ?_
 have e4 := hfs.len; have e5 := hks.len; have e6 := hcl.1; have m4 := hfs.2; have m5 := hks.2
 simp only [maxLen] at m4 m5
 obtain ⟨⟨hkd, hn, htx, hff, hfl⟩, hn0, hf0, hkl⟩ := hx
 have z1 : (⟨#[0]⟩ : ByteArray).size = 1 := rfl
 have b1 : bl (⟨#[0]⟩ : ByteArray) = [0] := rfl
 refine AllocK.mk fun b w8 hb hB x8 => DrewK.mk fun w9 x9 => ?_
 have y9 := x8.trans x9
 obtain ⟨g0, g1, g2, g3, g4⟩ := blkAt5 hB x9
 have ht2 := htx.2
 refine ⟨_, g0, by rw [i64max, z1]; omega, _, g1, _, g2, (ctr79 w9 hn0 hn.2).mono ?_⟩
 rintro en w14 ⟨s13, rfl, hs13, x14⟩
 have y14 := y9.trans x14
 have z13 : s13.size ≤ 21 := by rw [← bl_size, hs13]; exact itoa_len hn
 refine ⟨_, rfl, Below.cel x14, by rw [i64max, sizeA, z1]; omega, by rw [i64max, sizeA, sizeA, z1]; omega, by rw [i64max, sizeA, sizeA, sizeA, z1]; omega, by rw [i64max, sizeA, sizeA, sizeA, sizeA, z1]; omega, ?_⟩
 generalize hpre : ((((x.kd ++ (⟨#[0]⟩ : ByteArray)) ++ s13) ++ (⟨#[0]⟩ : ByteArray)) ++ x.tx) ++ (⟨#[0]⟩ : ByteArray) = pre
 have hp1 : bl pre = headD x := by rw [← hpre]; simp only [bl_append, hs13, b1, headD]; simp
 have hp2 : pre.size ≤ 200 := by rw [← hpre]; simp only [sizeA, z1]; omega
 refine ⟨fun s i w' => ∃ k : Nat, i = k ∧ k ≤ x.ks.length ∧ Ext w9 w' ∧ bl s = headD x ++ partsD (x.fs.take k) ((x.ks.map fun k => ga cl k.toNat).take k) ∧ s.size ≤ 200 + 200 * k, fun _ i _ => x.ks.length - i.toNat, ⟨⟨0, rfl, by omega, x14, by simp [partsD, hp1], by omega⟩, trivial⟩, ?_⟩
 rintro w18 s _ ⟨k, rfl, hk, x18, hs, hz⟩
 obtain ⟨_, _, _, _, g4⟩ := blkAt5 hB (x9.trans x18)
 refine ⟨_, _, _, g4, BoolK.mk (fun t => ?_) (fun t => ?_)⟩
 ·have hlt : k < x.ks.length := by have := of_decide_eq_true t; omega
  have hltf : k < x.fs.length := by omega
  refine DrewK.mk fun w22 x22 => ?_
  have x22 := x18.trans x22
  have y22 := y9.trans x22
  obtain ⟨_, _, _, g3, g4⟩ := blkAt5 hB (x9.trans x22)
  obtain ⟨bf, ha, q0, q1, _⟩ := ftAt hfs y22 hltf
  obtain ⟨bk, hb2, r0⟩ := ksAt hks y22 hlt
  have hk2 := hin _ (List.getElem_mem hlt)
  have hlt3 : x.ks[k].toNat < cl.length := by omega
  obtain ⟨b3, o3, ha3, u1⟩ := (hcl.ext RInt.mono y22).get hlt3
  have hc := hc0 _ (List.getElem_mem hlt3)
  have hf := hff _ (List.getElem_mem hltf)
  have hfm := hf0 _ (List.getElem_mem hltf)
  have hft := hf.1.2
  have q0' : w22.cell? (bf.add (((k : Nat) : Int).toNat * 2)) = some (.int .i64 x.fs[k].1) := by
   obtain ⟨b', o', ha', h0', _⟩ := (hfs.1.ext RFt.mono y22).get hltf
   rw [ha] at ha'; cases ha'
   rw [Int.toNat_natCast, add_mk]; exact h0'
  refine ⟨_, _, _, g3, ⟨by omega, by omega⟩, adK ha ⟨_, q0', _, _, _, g3, ⟨by omega, by omega⟩, adK ha ⟨_, q1, _, _, _, g4, ⟨by omega, by omega⟩, adK hb2 ⟨_, r0, ⟨by omega, by omega⟩, adK ha3 ⟨cl[x.ks[k].toNat], by rw [add_mk]; simpa [RInt] using u1, ?_⟩⟩⟩⟩⟩
  refine (ctr79 w22 hfm hf.2.2).mono ?_
  rintro en w35 ⟨s34, rfl, hs34, x35⟩
  have z34 : s34.size ≤ 21 := by rw [← bl_size, hs34]; exact itoa_len hf.2
  refine ⟨_, rfl, Below.cel x35, by rw [i64max, z1]; omega, by rw [i64max, sizeA, z1]; omega, by rw [i64max, sizeA, sizeA, z1]; omega, (ctr79 w35 (n := cl[x.ks[k].toNat]) (by omega) hc.2).mono ?_⟩
  rintro en w38 ⟨s37, rfl, hs37, x38⟩
  have z37 : s37.size ≤ 21 := by rw [← bl_size, hs37]; exact itoa_len ⟨by omega, hc.2⟩
  refine ⟨_, rfl, Below.cel (x35.trans x38), by rw [i64max, sizeA, sizeA, sizeA, z1]; omega, by rw [i64max, sizeA, sizeA, sizeA, sizeA, z1]; omega, by rw [i64max, sizeA, sizeA, sizeA, sizeA, sizeA, z1]; omega, ?_⟩
  rw [wrap_succ (by omega)]
  refine ⟨⟨k + 1, rfl, by omega, (x22.trans x35).trans x38, ?_, ?_⟩, by simp; omega⟩
  ·rw [List.take_add_one, List.getElem?_eq_getElem hltf, List.take_add_one, List.getElem?_map, List.getElem?_eq_getElem hlt]
   simp only [Option.map_some, Option.toList_some]
   rw [partsD_snoc (by simp; omega), ga_get hlt3]
   simp only [bl_append, hs, hs34, hs37, b1]; simp
  ·simp only [sizeA, z1]; omega
 ·have : k = x.ks.length := by have := of_decide_eq_false t; omega
  subst this
  rw [List.take_of_length_le (by omega), List.take_of_length_le (by simp)] at hs
  exact ⟨hs, y9.trans x18⟩
end Go.Proofs.YtbiamhoonhjodacGreatDoor

namespace Go.Proofs.YtbiamhoonhjodacGreatDoor
open Go Go.V Go.Proofs
open Go.RowKit (Below)
/-! manystrand/manystrandref05.Classes -/
def N27 (a1 : Option Addr) (l1 : Nat) (_c1 : Nat) (K : Option Addr → Nat → Nat → World → Prop) (w : World) : Prop :=
 (0 ≤ (l1 : Int) ∧ (l1 : Int) ≤ l1 ∧ ((8 : Nat) : Int) * l1 ≤ 281474976710656 ∧ (l1 : Int) ≤ 9223372036854775807) ∧
 AllocK w (madeCells (#[.int .i64 0]) ((l1 : Int).toNat * 1)) 3 fun b2 w3 =>
 ∃ m4, ∃ w5, Sem.run Tryz.prog (Instr.makeMap 61 none) w3 = .ok (.map m4) w5 ∧
 (∃ (I6 : Bool → World → Prop) (μ7 : Bool → World → Nat),
 (I6 true w5 ∧ True) ∧
 ∀ w8 p9, I6 p9 w8 →
 BoolK p9
 (∃ (I10 : Bool → Int → World → Prop) (μ11 : Bool → Int → World → Nat),
 (I10 false (IntKind.wrap .i64 (l1 - 1)) w8 ∧ True) ∧
 ∀ w12 p13 x14, I10 p13 x14 w12 →
 BoolK (decide (x14 ≥ 0))
 ((0 ≤ x14 ∧ x14 < ((l1 : Int).toNat : Nat)) ∧
 ∃ x15, w12.cell? (b2.add (x14.toNat * 1)) = some (.int .i64 x15) ∧
 (BoolK (decide (x15 > 0))
 (I10 p13 (IntKind.wrap .i64 (x14 - 1)) w12 ∧ μ11 p13 (IntKind.wrap .i64 (x14 - 1)) w12 < μ11 p13 x14 w12)
 ((0 ≤ x14 ∧ x14 < l1) ∧
 AddrK a1 fun b16 =>
 ∃ s17, w12.cell? ((b16.add (x14.toNat * 5)).add 0) = some (.string s17) ∧
 (∃ x18, w12.cell? ((b16.add (x14.toNat * 5)).add 1) = some (.int .i64 x18) ∧
 (∃ s19, w12.cell? ((b16.add (x14.toNat * 5)).add 2) = some (.string s19) ∧
 (∃ a20 l20 c20, w12.cell? ((b16.add (x14.toNat * 5)).add 3) = some (.slice a20 l20 c20) ∧
 (∃ a21 l21 c21, w12.cell? ((b16.add (x14.toNat * 5)).add 4) = some (.slice a21 l21 c21) ∧
 (Calls Tryz.prog 49 #[(.agg #[(.string s17), (.int .i64 x18), (.string s19), (.slice a20 l20 c20), (.slice a21 l21 c21)]), (.slice (some b2) ((l1 : Int).toNat) ((l1 : Int).toNat))] w12 fun e24 w23 =>
 ∃ p22, e24 = .returned (.bool p22) ∧
 (BoolK (!p22)
 (I10 p13 (IntKind.wrap .i64 (x14 - 1)) w23 ∧ μ11 p13 (IntKind.wrap .i64 (x14 - 1)) w23 < μ11 p13 x14 w12)
 ((0 ≤ x14 ∧ x14 < l1) ∧
 AddrK a1 fun b25 =>
 ∃ s26, w23.cell? ((b25.add (x14.toNat * 5)).add 0) = some (.string s26) ∧
 (∃ x27, w23.cell? ((b25.add (x14.toNat * 5)).add 1) = some (.int .i64 x27) ∧
 (∃ s28, w23.cell? ((b25.add (x14.toNat * 5)).add 2) = some (.string s28) ∧
 (∃ a29 l29 c29, w23.cell? ((b25.add (x14.toNat * 5)).add 3) = some (.slice a29 l29 c29) ∧
 (∃ a30 l30 c30, w23.cell? ((b25.add (x14.toNat * 5)).add 4) = some (.slice a30 l30 c30) ∧
 (Calls Tryz.prog 50 #[(.agg #[(.string s26), (.int .i64 x27), (.string s28), (.slice a29 l29 c29), (.slice a30 l30 c30)]), (.slice (some b2) ((l1 : Int).toNat) ((l1 : Int).toNat))] w23 fun e33 w32 =>
 ∃ s31, e33 = .returned (.string s31) ∧
 (∃ x34, ∃ w35, Sem.run Tryz.prog (Instr.lookup 61 (.map m4) (.string s31) false) w32 = .ok (.int .i64 x34) w35 ∧
 (BoolK (x34 == 0)
 (∃ x36, ∃ w37, Sem.run Tryz.prog (Builtin.len_ #[61] 3 #[(.map m4)]) w35 = .ok (.int .i64 x36) w37 ∧
 (∃ w38, Sem.run Tryz.prog (Instr.mapUpdate 61 (.map m4) (.string s31) (.int .i64 (IntKind.wrap .i64 (x36 + 1)))) w37 = .ok () w38 ∧
 (∃ x39, ∃ w40, Sem.run Tryz.prog (Instr.lookup 61 (.map m4) (.string s31) false) w38 = .ok (.int .i64 x39) w40 ∧
 ((0 ≤ x14 ∧ x14 < ((l1 : Int).toNat : Nat)) ∧
 SetK w40 (b2.add (x14.toNat * 1)) (.int .i64 x39) fun w41 =>
 I10 true (IntKind.wrap .i64 (x14 - 1)) w41 ∧ μ11 true (IntKind.wrap .i64 (x14 - 1)) w41 < μ11 p13 x14 w12))))
 (∃ x42, ∃ w43, Sem.run Tryz.prog (Instr.lookup 61 (.map m4) (.string s31) false) w35 = .ok (.int .i64 x42) w43 ∧
 ((0 ≤ x14 ∧ x14 < ((l1 : Int).toNat : Nat)) ∧
 SetK w43 (b2.add (x14.toNat * 1)) (.int .i64 x42) fun w44 =>
 I10 true (IntKind.wrap .i64 (x14 - 1)) w44 ∧ μ11 true (IntKind.wrap .i64 (x14 - 1)) w44 < μ11 p13 x14 w12)))))))))))))))))))
 (I6 p13 w12 ∧ μ7 p13 w12 < μ7 p9 w8))
 (∃ x45, ∃ w46, Sem.run Tryz.prog (Builtin.len_ #[61] 3 #[(.map m4)]) w8 = .ok (.int .i64 x45) w46 ∧
 (∃ a47, ∃ l47, ∃ c47, ∃ w48, Sem.run Tryz.prog (Builtin.append_ #[34, 34] 34 #[(.slice none 0 0), (.slice (some b2) ((l1 : Int).toNat) ((l1 : Int).toNat))]) w46 = .ok (.slice a47 l47 c47) w48 ∧
 (∃ (I49 : Option Addr → Nat → Nat → Int → World → Prop) (μ50 : Option Addr → Nat → Nat → Int → World → Nat),
 (I49 (some b2) ((l1 : Int).toNat) ((l1 : Int).toNat) (-1) w48 ∧ True) ∧
 ∀ w51 a52 l52 c52 x53, I49 a52 l52 c52 x53 w51 →
 ∃ a54, ∃ l54, ∃ c54, ∃ w55, Sem.run Tryz.prog (Builtin.append_ #[34, 34] 34 #[(.slice none 0 0), (.slice a47 l47 c47)]) w51 = .ok (.slice a54 l54 c54) w55 ∧
 (∃ m56, ∃ w57, Sem.run Tryz.prog (Instr.makeMap 61 none) w55 = .ok (.map m56) w57 ∧
 (∃ (I58 : Int → World → Prop) (μ59 : Int → World → Nat),
 (I58 0 w57 ∧ True) ∧
 ∀ w60 x61, I58 x61 w60 →
 BoolK (decide (x61 < l1))
 ((0 ≤ x61 ∧ x61 < l47) ∧
 AddrK a47 fun b62 =>
 ∃ x63, w60.cell? (b62.add (x61.toNat * 1)) = some (.int .i64 x63) ∧
 (BoolK (decide (x63 > 0))
 (I58 (IntKind.wrap .i64 (x61 + 1)) w60 ∧ μ59 (IntKind.wrap .i64 (x61 + 1)) w60 < μ59 x61 w60)
 ((0 ≤ x61 ∧ x61 < l1) ∧
 AddrK a1 fun b64 =>
 ∃ s65, w60.cell? ((b64.add (x61.toNat * 5)).add 0) = some (.string s65) ∧
 (∃ x66, w60.cell? ((b64.add (x61.toNat * 5)).add 1) = some (.int .i64 x66) ∧
 (∃ s67, w60.cell? ((b64.add (x61.toNat * 5)).add 2) = some (.string s67) ∧
 (∃ a68 l68 c68, w60.cell? ((b64.add (x61.toNat * 5)).add 3) = some (.slice a68 l68 c68) ∧
 (∃ a69 l69 c69, w60.cell? ((b64.add (x61.toNat * 5)).add 4) = some (.slice a69 l69 c69) ∧
 (Calls Tryz.prog 50 #[(.agg #[(.string s65), (.int .i64 x66), (.string s67), (.slice a68 l68 c68), (.slice a69 l69 c69)]), (.slice a52 l52 c52)] w60 fun e72 w71 =>
 ∃ s70, e72 = .returned (.string s70) ∧
 (∃ (J73 : World → Prop),
 (∀ w74, J73 w74 →
 ∃ x75, ∃ w76, Sem.run Tryz.prog (Instr.lookup 61 (.map m56) (.string s70) false) w74 = .ok (.int .i64 x75) w76 ∧
 ((0 ≤ x61 ∧ x61 < l54) ∧
 AddrK a54 fun b77 =>
 SetK w76 (b77.add (x61.toNat * 1)) (.int .i64 (IntKind.wrap .i64 (x45 + x75))) fun w78 =>
 I58 (IntKind.wrap .i64 (x61 + 1)) w78 ∧ μ59 (IntKind.wrap .i64 (x61 + 1)) w78 < μ59 x61 w60)) ∧
 (∃ x79, ∃ w80, Sem.run Tryz.prog (Instr.lookup 61 (.map m56) (.string s70) false) w71 = .ok (.int .i64 x79) w80 ∧
 (BoolK (x79 == 0)
 (∃ x81, ∃ w82, Sem.run Tryz.prog (Builtin.len_ #[61] 3 #[(.map m56)]) w80 = .ok (.int .i64 x81) w82 ∧
 (∃ w83, Sem.run Tryz.prog (Instr.mapUpdate 61 (.map m56) (.string s70) (.int .i64 (IntKind.wrap .i64 (x81 + 1)))) w82 = .ok () w83 ∧
 (J73 w83)))
 (J73 w80))))))))))))
 (∃ x84, ∃ w85, Sem.run Tryz.prog (Builtin.len_ #[61] 3 #[(.map m56)]) w60 = .ok (.int .i64 x84) w85 ∧
 (BoolK (x84 == x53)
 (K a54 l54 c54 w85)
 (∃ x86, ∃ w87, Sem.run Tryz.prog (Builtin.len_ #[61] 3 #[(.map m56)]) w85 = .ok (.int .i64 x86) w87 ∧
 (I49 a54 l54 c54 x86 w87 ∧ μ50 a54 l54 c54 x86 w87 < μ50 a52 l52 c52 x53 w51))))))))))
def ann27 : Ann := (.two .nil (.two .nil (.two .nil (.two (.two .nil (.one (.loop [(5, (.one .bool))] [0, 3, 4] (.two (.two .nil (.two .nil .nil)) (.one (.two .nil (.two .nil (.one (.loop [(5, (.one .bool)), (6, (.one (.int .i64)))] [0, 3, 4] (.two (.two .nil (.two .nil .nil)) (.two (.one (.two (.two .nil (.two .nil .nil)) (.two .nil (.two (.two .nil (.two .nil .nil)) .nil)))) .nil))))))))))) (.two .nil (.two .nil (.two .nil (.one (.loop [(3, (.one .slice)), (10, (.one (.int .i64)))] [0, 8, 9] (.one (.two .nil (.two .nil (.two (.two .nil (.one (.loop [(13, (.one (.int .i64)))] [0, 3, 8, 9, 10, 11, 12] (.two (.two .nil (.two .nil .nil)) (.two (.one (.two (.two .nil (.two .nil .nil)) (.two .nil (.cut [] [0, 3, 8, 9, 10, 11, 12, 13, 14] (.two .nil (.two .nil .nil)) .nil)))) .nil))))) (.two (.two .nil (.two (.two .nil .nil) .nil)) .nil))))))))))))))
noncomputable def code27 : Code := match Tryz.f27.body with | some c => c | none => .skip
theorem calls27 (a1 : Option Addr) (l1 : Nat) (c1 : Nat) (K : Option Addr → Nat → Nat → World → Prop) (w : World) (h : N27 a1 l1 c1 K w) : Calls Tryz.prog 27 #[(.slice a1 l1 c1)] w fun en w' => ∃ (a88 : Option Addr), ∃ (l88 : Nat), ∃ (c88 : Nat), en = .returned (.slice a88 l88 c88) ∧ K a88 l88 c88 w' :=
 fn_calls tabOk mixed Tryz.func27 (by kernel_rfl : Tryz.f27.body = some code27) ann27 [(.slice a1 l1 c1)] [(.one .slice)] K w (by kernel_rfl) (by kernel_rfl) (by kernel_rfl) h
end Go.Proofs.YtbiamhoonhjodacGreatDoor
