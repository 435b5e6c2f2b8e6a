/- A part of the proof: plain forms of functions and laws about them. -/
import Derived.Test.YtbiamhoonhjodacGreatDoorGreqAz
import Derived.Sort.Grow
import Derived.Deep.Draws
import Derived.Test.YtbiamhoonhjodacGreatDoorProg
import Derived.Shelf.Small.Strs
import Derived.Shelf.SlSortCmp.Whole1
import Derived.KernelRfl
namespace Go.V.Gr
open Go Go.V
open Go.Lib (itoa)
section
variable {xs : List Nd} {c : Nat → Int} {i j : Nat}
def keyF (xs : List Nd) (c : Nat → Int) (i : Nat) : List UInt8 := 102 :: 32 :: (headK (nd xs i) ++ kidsK (kc xs c i))
def keyR (xs : List Nd) (c : Nat → Int) (i : Nat) : List UInt8 := itoa (c i) ++ (32 :: kidsK (kc xs c i))
theorem kc_len : (kc xs c i).length = (nd xs i).ks.length := by rw [kc, List.length_map, kids_len]
theorem hd_mk {x y : Nd} (h1 : x.kd = y.kd) (h2 : x.n = y.n) (h3 : x.tx = y.tx) (h4 : x.fs = y.fs) (h5 : x.ks.length = y.ks.length) : x.hd = y.hd := by
 simp [Nd.hd, h1, h2, h3, h4, h5]
theorem hd_parts {x y : Nd} (h : x.hd = y.hd) : x.kd = y.kd ∧ x.n = y.n ∧ x.tx = y.tx ∧ x.fs = y.fs := by
 simp only [Nd.hd, Prod.mk.injEq] at h; exact ⟨h.1, h.2.1, h.2.2.1, h.2.2.2.1⟩
theorem headK_of {x y : Nd} (h : x.hd = y.hd) : headK x = headK y := by
 obtain ⟨h1, h2, h3, h4⟩ := hd_parts h
 simp [headK, h1, h2, h3, h4]
theorem keyF_iff (h1 : KdOk (nd xs i)) (h2 : KdOk (nd xs j)) : keyF xs c i = keyF xs c j ↔ (nd xs i).hd = (nd xs j).hd ∧ kc xs c i = kc xs c j := by
 constructor
 ·intro h
  simp only [keyF, List.cons.injEq, true_and] at h
  obtain ⟨e1, e2, e3, e4, e5⟩ := key_inj h1 h2 h
  have hl := congrArg List.length e5
  rw [kc_len, kc_len] at hl
  exact ⟨hd_mk e1 e2 e3 e4 hl, e5⟩
 ·rintro ⟨e1, e2⟩
  rw [keyF, keyF, headK_of e1, e2]
theorem headK_iff {x y : Nd} (h1 : KdOk x) (h2 : KdOk y) (w1 : x.ks.length = x.fs.length) (w2 : y.ks.length = y.fs.length) : headK x = headK y ↔ x.hd = y.hd := by
 constructor
 ·intro h
  obtain ⟨e1, e2, e3, e4, _⟩ := key_inj (a := []) (b := []) h1 h2 (by simpa [kidsK] using h)
  exact hd_mk e1 e2 e3 e4 (by rw [w1, w2, e4])
 ·exact headK_of
theorem keyR_iff : keyR xs c i = keyR xs c j ↔ c i = c j ∧ kc xs c i = kc xs c j := by
 constructor
 ·intro h
  obtain ⟨e1, e2⟩ := itoa_cut (by simp [isM]) (by simp [isM]) h
  simp only [List.cons.injEq, true_and] at e2
  exact ⟨e1, kidsK_inj e2⟩
 ·rintro ⟨e1, e2⟩
  rw [keyR, keyR, e1, e2]
theorem kc_congr {c c' : Nat → Int} (h : ∀ k ∈ Gr.kids xs i, c' k = c k) : kc xs c' i = kc xs c i := List.map_congr_left h
def Numd (T : List ByteArray) (f : Nat → List UInt8) (c : Nat → Int) (base : Int) (S : List Nat) : Prop := ∀ i ∈ S, ∃ (q : Nat) (s : ByteArray), c i = base + q ∧ T[q]? = some s ∧ bl s = f i
theorem nodup_idx {α : Type} {T : List α} (hn : T.Nodup) {a b : Nat} {s : α} (ha : T[a]? = some s) (hb : T[b]? = some s) : a = b := by
 obtain ⟨h1, e1⟩ := List.getElem?_eq_some_iff.1 ha
 obtain ⟨h2, e2⟩ := List.getElem?_eq_some_iff.1 hb
 rcases Nat.lt_trichotomy a b with h | h | h
 ·exact absurd (e1.trans e2.symm) (List.pairwise_iff_getElem.1 hn a b h1 h2 h)
 ·exact h
 ·exact absurd (e2.trans e1.symm) (List.pairwise_iff_getElem.1 hn b a h2 h1 h)
theorem Numd.iff {T : List ByteArray} {f : Nat → List UInt8} {c : Nat → Int} {base : Int} {S : List Nat} (h : Numd T f c base S) (hn : T.Nodup) {i j : Nat} (hi : i ∈ S) (hj : j ∈ S) : c i = c j ↔ f i = f j := by
 obtain ⟨q, s, e1, e2, e3⟩ := h i hi
 obtain ⟨q', s', e1', e2', e3'⟩ := h j hj
 constructor
 ·intro e
  have : q = q' := by omega
  subst this
  rw [e2] at e2'; cases e2'
  rw [← e3, ← e3']
 ·intro e
  have : s = s' := bl_inj (by rw [e3, e3', e])
  subst this
  have := nodup_idx hn e2 e2'
  subst this; omega
theorem Numd.grow {T : List ByteArray} {f : Nat → List UInt8} {c : Nat → Int} {base : Int} {S : List Nat} (h : Numd T f c base S) (t : List ByteArray) : Numd (T ++ t) f c base S := fun i hi => by
 obtain ⟨q, s, e1, e2, e3⟩ := h i hi
 exact ⟨q, s, e1, by rw [List.getElem?_append_left (List.getElem?_eq_some_iff.1 e2).1]; exact e2, e3⟩
theorem Numd.flat {T : List ByteArray} {ord : List Nat} {cl : List Int} {p : Nat} {x : Nat} {v : Nat} {s : ByteArray} (h : Numd T (keyF xs (ga cl)) (ga cl) 0 (ord.take p)) (ho : Topo xs ord) (hnd : ord.Nodup) (hx : ord[p]? = some x) (hxl : x < cl.length)
  (hv : T[v]? = some s) (hs : bl s = keyF xs (ga cl) x) : Numd T (keyF xs (ga (cl.set x v))) (ga (cl.set x v)) 0 (ord.take (p + 1)) := by
 have hnx := take_not_mem hnd hx
 have same : ∀ i ∈ ord.take (p + 1), kc xs (ga (cl.set x v)) i = kc xs (ga cl) i := by
  intro i hi
  refine kc_congr fun k hk => ?_
  rw [ga_set hxl, if_neg]
  rintro rfl
  obtain ⟨a, ha, e⟩ := List.getElem_of_mem hi
  rw [List.length_take] at ha
  rw [List.getElem_take] at e
  obtain ⟨m, hm, e2⟩ := List.getElem_of_mem hk
  have hm' : m < (nd xs i).ks.length := by rw [← kids_len]; exact hm
  obtain ⟨b, hb, e3⟩ := ho.kids a i (by rw [← e, List.getElem?_eq_getElem]) m hm'
  have e4 := kids_get hm'
  rw [List.getElem?_eq_getElem hm, e2] at e4
  cases e4
  have hp : p < ord.length := (List.getElem?_eq_some_iff.1 hx).1
  have := nodup_idx hnd e3 hx
  omega
 intro i hi
 rw [keyF, same i hi]
 rw [take_succ_get hx] at hi
 by_cases e : i = x
 ·subst e
  exact ⟨v, s, by rw [ga_set hxl, if_pos rfl]; simp, hv, hs⟩
 ·rcases List.mem_append.1 hi with hi | hi
  ·obtain ⟨q, s', e1, e2, e3⟩ := h i hi
   exact ⟨q, s', by rw [ga_set hxl, if_neg e]; exact e1, e2, e3⟩
  ·simp at hi; exact absurd hi e
theorem Numd.right {T : List ByteArray} {ord : List Nat} {cl : List Int} (h : Numd T (keyF xs (ga cl)) (ga cl) 0 ord) (hn : T.Nodup) (ho : Topo xs ord) (hk : ∀ x ∈ xs, KdOk x) : ∀ i j, i ∈ ord → j ∈ ord → (ga cl i = ga cl j ↔ Eqv xs xs i j) := by
 have hkd : ∀ i ∈ ord, KdOk (nd xs i) := fun i hi => by rw [nd_get (ho.lt i hi)]; exact hk _ (List.getElem_mem _)
 have F : Flat xs ord (ga cl) ord.length := ⟨fun a b i j _ _ ha hb => by
  rw [h.iff hn (List.mem_of_getElem? ha) (List.mem_of_getElem? hb)]
  exact keyF_iff (hkd i (List.mem_of_getElem? ha)) (hkd j (List.mem_of_getElem? hb))⟩
 intro i j hi hj
 obtain ⟨a, ha⟩ := List.getElem?_of_mem hi
 obtain ⟨b, hb⟩ := List.getElem?_of_mem hj
 exact F.eqv ho a b i j (List.getElem?_eq_some_iff.1 ha).1 (List.getElem?_eq_some_iff.1 hb).1 ha hb
structure NumR (T : List ByteArray) (f : Nat → List UInt8) (rest : List Nat) (fr : List Int) (base : Nat) (j : Nat) : Prop where
 num : ∀ a, a < j → ∃ (q : Nat) (s : ByteArray), ga fr a = base + q ∧ T[q]? = some s ∧ bl s = f (rest[a]?.getD 0)
 hit : ∀ q, q < T.length → ∃ a, a < j ∧ ga fr a = base + q
 len : T.length ≤ j
theorem NumR.put {T T' : List ByteArray} {f : Nat → List UInt8} {rest : List Nat} {fr : List Int} {base j v : Nat} {s : ByteArray} (h : NumR T f rest fr base j) (hj : j < fr.length) (hT : T' = T ∨ (T' = T ++ [s] ∧ v = T.length)) (hv : T'[v]? = some s) (hs : bl s = f (rest[j]?.getD 0)) :
  NumR T' f rest (fr.set j (base + v : Nat)) base (j + 1) := by
 have grow : ∀ {q : Nat} {u : ByteArray}, T[q]? = some u → T'[q]? = some u := fun {q u} e => by
  rcases hT with rfl | ⟨rfl, _⟩
  ·exact e
  ·rw [List.getElem?_append_left (List.getElem?_eq_some_iff.1 e).1]; exact e
 refine ⟨fun a ha => ?_, fun q hq => ?_, ?_⟩
 ·by_cases e : a = j
  ·subst e; exact ⟨v, s, by rw [ga_set hj, if_pos rfl]; omega, hv, hs⟩
  ·obtain ⟨q, u, e1, e2, e3⟩ := h.num a (by omega)
   exact ⟨q, u, by rw [ga_set hj, if_neg e]; exact e1, grow e2, e3⟩
 ·by_cases hq2 : q < T.length
  ·obtain ⟨a, ha, e⟩ := h.hit q hq2
   exact ⟨a, by omega, by rw [ga_set hj, if_neg (by omega)]; exact e⟩
  ·rcases hT with rfl | ⟨rfl, hv2⟩
   ·exact absurd hq hq2
   ·simp only [List.length_append, List.length_singleton] at hq
    exact ⟨j, by omega, by rw [ga_set hj, if_pos rfl]; omega⟩
 ·rcases hT with rfl | ⟨rfl, _⟩
  ·have := h.len; omega
  ·have := h.len; simp; omega
end
end Go.V.Gr

namespace Go.V.Gr
open Go Go.V
structure KeyOk (x : Nd) : Prop where
 kd : KdOk x
 ks : x.ks.length = x.fs.length
structure RInv (xs : List Nd) (ord : List Nat) (base cnt : Nat) (c : Nat → Int) : Prop where
 flat : ∀ (i j : Nat), i ∈ ord → j ∈ ord → (c i = c j ↔ Eqv xs xs i j)
 low : ∀ i ∈ ord, 0 ≤ c i ∧ c i < base
 part : cnt = 0 ∨ Part xs ord base cnt c
def keyN (xs : List Nd) (c : Nat → Int) (cnt : Nat) (i : Nat) : List UInt8 := if cnt = 0 then headK (nd xs i) else keyR xs c i
theorem RInv.round {xs : List Nd} {ord : List Nat} {base cnt : Nat} {c c' : Nat → Int} {N : List ByteArray} (h : RInv xs ord base cnt c) (ho : Topo xs ord) (hc : Closed xs) (hk : ∀ x ∈ xs, KeyOk x) (hN : N.Nodup)
  (hflat : ∀ i ∈ ord, c' i = c i) (num : ∀ i, i < xs.length → i ∉ ord → ∃ (q : Nat) (s : ByteArray), c' i = base + q ∧ N[q]? = some s ∧ bl s = keyN xs c cnt i)
  (hit : ∀ q, q < N.length → ∃ i, i < xs.length ∧ i ∉ ord ∧ c' i = base + (q : Nat)) :
  (N.length = cnt → ∀ i j, i < xs.length → j < xs.length → (c' i = c' j ↔ Eqv xs xs i j)) ∧ (N.length ≠ cnt → cnt < N.length ∧ RInv xs ord base N.length c') := by
 have hkd : ∀ i, i < xs.length → KeyOk (nd xs i) := fun i hi => by rw [nd_get hi]; exact hk _ (List.getElem_mem _)
 have nd : Numd N (keyN xs c cnt) c' base ((List.range xs.length).filter fun i => decide (i ∉ ord)) := fun i hi => by
  simp only [List.mem_filter, List.mem_range, decide_eq_true_eq] at hi
  exact num i hi.1 hi.2
 have mem : ∀ i, i < xs.length → i ∉ ord → i ∈ ((List.range xs.length).filter fun i => decide (i ∉ ord)) := fun i h1 h2 => by simp [h1, h2]
 have iff0 : ∀ i j, i < xs.length → j < xs.length → i ∉ ord → j ∉ ord → (c' i = c' j ↔ keyN xs c cnt i = keyN xs c cnt j) := fun i j hi hj ni nj => nd.iff hN (mem i hi ni) (mem j hj nj)
 have flat' : ∀ i j, i ∈ ord → j ∈ ord → (c' i = c' j ↔ Eqv xs xs i j) := fun i j hi hj => by rw [hflat i hi, hflat j hj]; exact h.flat i j hi hj
 have low' : ∀ i ∈ ord, 0 ≤ c' i ∧ c' i < base := fun i hi => by rw [hflat i hi]; exact h.low i hi
 have high : ∀ i, i < xs.length → i ∉ ord → (base : Int) ≤ c' i ∧ c' i < base + N.length := fun i hi ni => by
  obtain ⟨q, s, e1, e2, _⟩ := num i hi ni
  have := (List.getElem?_eq_some_iff.1 e2).1
  omega
 by_cases h0 : cnt = 0
 ·subst h0
  have iff1 : ∀ i j, i < xs.length → j < xs.length → i ∉ ord → j ∉ ord → (c' i = c' j ↔ (Gr.nd xs i).hd = (Gr.nd xs j).hd) := fun i j hi hj ni nj => by
   rw [iff0 i j hi hj ni nj, keyN, keyN, if_pos rfl, if_pos rfl]
   exact headK_iff (hkd i hi).kd (hkd j hj).kd (hkd i hi).ks (hkd j hj).ks
  constructor
  ·intro hN0 i j hi hj
   have all : ∀ i, i < xs.length → i ∈ ord := fun i hi => Classical.byContradiction fun ni => by
    have := high i hi ni; omega
   exact flat' i j (all i hi) (all j hj)
  ·intro hN0
   exact ⟨by omega, flat', low', .inr ⟨flat', low', high, hit, fun i j hi hj ni nj e => (iff1 i j hi hj ni nj).2 e.head, fun i j hi hj ni nj e => (iff1 i j hi hj ni nj).1 e⟩⟩
 ·have P := h.part.resolve_left h0
  obtain ⟨P', hle, hfin⟩ := P.step ho hc hflat high hit fun i j hi hj ni nj => by
   rw [iff0 i j hi hj ni nj, keyN, keyN, if_neg h0, if_neg h0]; exact keyR_iff
  exact ⟨fun e => hfin e, fun e => ⟨by omega, flat', low', .inr P'⟩⟩
end Go.V.Gr

namespace Go.Proofs.YtbiamhoonhjodacGreatDoor
open Go Go.V Go.Proofs
open Go.RowKit (Below)
/-! manystrand/graph.classes -/
def N26 (a1 : Option Addr) (l1 : Nat) (c1 : Nat) (K : Option Addr → Nat → Nat → World → Prop) (w : World) : Prop :=
 (0 ≤ (l1 : Int) ∧ (l1 : Int) ≤ l1 ∧ ((8 : Nat) : Int) * l1 ≤ 281474976710656 ∧ (l1 : Int) ≤ 9223372036854775807) ∧
 AllocK w (madeCells (#[.int .i64 0]) ((l1 : Int).toNat * 1)) 3 fun b2 w3 =>
 (0 ≤ (l1 : Int) ∧ (l1 : Int) ≤ l1 ∧ ((16 : Nat) : Int) * l1 ≤ 281474976710656 ∧ (l1 : Int) ≤ 9223372036854775807) ∧
 AllocK w3 (madeCells (#[.string ⟨#[]⟩]) ((l1 : Int).toNat * 1)) 9 fun b4 w5 =>
 ∃ (I6 : Int → World → Prop) (μ7 : Int → World → Nat),
 (I6 0 w5 ∧ True) ∧
 ∀ w8 x9, I6 x9 w8 →
 BoolK (decide (x9 < l1))
 ((0 ≤ x9 ∧ x9 < l1) ∧
 AddrK a1 fun b10 =>
 ∃ s11, w8.cell? ((b10.add (x9.toNat * 5)).add 0) = some (.string s11) ∧
 (∃ x12, w8.cell? ((b10.add (x9.toNat * 5)).add 1) = some (.int .i64 x12) ∧
 (∃ s13, w8.cell? ((b10.add (x9.toNat * 5)).add 2) = some (.string s13) ∧
 (∃ a14 l14 c14, w8.cell? ((b10.add (x9.toNat * 5)).add 3) = some (.slice a14 l14 c14) ∧
 (∃ a15 l15 c15, w8.cell? ((b10.add (x9.toNat * 5)).add 4) = some (.slice a15 l15 c15) ∧
 (AllocK w8 (#[.string ⟨#[]⟩, .int .i64 0, .string ⟨#[]⟩, .slice none 0 0, .slice none 0 0]) 36 fun b16 w17 =>
 SetK w17 (b16.add 0) (.string s11) fun w18 =>
 SetK w18 (b16.add 1) (.int .i64 x12) fun w19 =>
 SetK w19 (b16.add 2) (.string s13) fun w20 =>
 SetK w20 (b16.add 3) (.slice a14 l14 c14) fun w21 =>
 SetK w21 (b16.add 4) (.slice a15 l15 c15) fun w22 =>
 ∃ s23, w22.cell? (b16.add 0) = some (.string s23) ∧
 (∃ x24, w22.cell? (b16.add 1) = some (.int .i64 x24) ∧
 (∃ s25, w22.cell? (b16.add 2) = some (.string s25) ∧
 (∃ a26 l26 c26, w22.cell? (b16.add 3) = some (.slice a26 l26 c26) ∧
 (∃ a27 l27 c27, w22.cell? (b16.add 4) = some (.slice a27 l27 c27) ∧
 (Calls Tryz.prog 45 #[(.agg #[(.string s23), (.int .i64 x24), (.string s25), (.slice a26 l26 c26), (.slice a27 l27 c27)])] w22 fun e30 w29 =>
 ∃ s28, e30 = .returned (.string s28) ∧
 ((0 ≤ x9 ∧ x9 < ((l1 : Int).toNat : Nat)) ∧
 SetK w29 (b4.add (x9.toNat * 1)) (.string s28) fun w31 =>
 I6 (IntKind.wrap .i64 (x9 + 1)) w31 ∧ μ7 (IntKind.wrap .i64 (x9 + 1)) w31 < μ7 x9 w8))))))))))))
 (Calls Tryz.prog 34 #[(.slice a1 l1 c1)] w8 fun e35 w34 =>
 ∃ a32, ∃ l32, ∃ c32, ∃ a33, ∃ l33, ∃ c33, e35 = .returned (.tuple #[(.slice a32 l32 c32), (.slice a33 l33 c33)]) ∧
 (∃ m36, ∃ w37, Sem.run Tryz.prog (Instr.makeMap 61 none) w34 = .ok (.map m36) w37 ∧
 (AllocK w37 (#[.map none]) 61 fun b38 w39 =>
 SetK w39 b38 (.map m36) fun w40 =>
 ∃ (I41 : Int → World → Prop) (μ42 : Int → World → Nat),
 (I41 0 w40 ∧ True) ∧
 ∀ w43 x44, I41 x44 w43 →
 BoolK (decide (x44 < l32))
 ((0 ≤ x44 ∧ x44 < l32) ∧
 AddrK a32 fun b45 =>
 ∃ x46, w43.cell? (b45.add (x44.toNat * 1)) = some (.int .i64 x46) ∧
 (DrewK w43 fun w47 =>
 (0 ≤ x46 ∧ x46 < ((l1 : Int).toNat : Nat)) ∧
 ∃ s48, w47.cell? (b4.add (x46.toNat * 1)) = some (.string s48) ∧
 ((0 ≤ x46 ∧ x46 < l1) ∧
 AddrK a1 fun b49 =>
 ∃ a50 l50 c50, w47.cell? ((b49.add (x46.toNat * 5)).add 4) = some (.slice a50 l50 c50) ∧
 (Calls Tryz.prog 47 #[(.string s48), (.slice a50 l50 c50), (.slice (some b2) ((l1 : Int).toNat) ((l1 : Int).toNat))] w47 fun e53 w52 =>
 ∃ s51, e53 = .returned (.string s51) ∧
 ((((⟨#[102, 32]⟩ : ByteArray).size + s51.size : Nat) : Int) ≤ IntKind.i64.max ∧
 (Enters Tryz.prog 46 ∧
 (Calls Tryz.prog 46 #[(.string ((⟨#[102, 32]⟩ : ByteArray) ++ s51)), (.pointer (some b38))] w52 fun e56 w55 =>
 ∃ x54, e56 = .returned (.int .i64 x54) ∧
 ((0 ≤ x46 ∧ x46 < ((l1 : Int).toNat : Nat)) ∧
 SetK w55 (b2.add (x46.toNat * 1)) (.int .i64 x54) fun w57 =>
 I41 (IntKind.wrap .i64 (x44 + 1)) w57 ∧ μ42 (IntKind.wrap .i64 (x44 + 1)) w57 < μ42 x44 w43))))))))
 (∃ m58, w43.cell? b38 = some (.map m58) ∧
 (∃ x59, ∃ w60, Sem.run Tryz.prog (Builtin.len_ #[61] 3 #[(.map m58)]) w43 = .ok (.int .i64 x59) w60 ∧
 (∃ (I61 : Option Addr → Nat → Nat → Int → World → Prop) (μ62 : Option Addr → Nat → Nat → Int → World → Nat),
 (I61 none 0 0 0 w60 ∧ True) ∧
 ∀ w63 a64 l64 c64 x65, I61 a64 l64 c64 x65 w63 →
 BoolK (decide (x65 < l1))
 ((0 ≤ x65 ∧ x65 < l33) ∧
 AddrK a33 fun b66 =>
 ∃ p67, w63.cell? (b66.add (x65.toNat * 1)) = some (.bool p67) ∧
 (BoolK (!p67)
 (AllocK w63 (#[(.int .i64 x65)]) 3 fun b68 w69 =>
 ∃ a70, ∃ l70, ∃ c70, ∃ w71, Sem.run Tryz.prog (Builtin.append_ #[34, 34] 34 #[(.slice a64 l64 c64), (.slice (some b68) 1 1)]) w69 = .ok (.slice a70 l70 c70) w71 ∧
 (I61 a70 l70 c70 (IntKind.wrap .i64 (x65 + 1)) w71 ∧ μ62 a70 l70 c70 (IntKind.wrap .i64 (x65 + 1)) w71 < μ62 a64 l64 c64 x65 w63))
 (I61 a64 l64 c64 (IntKind.wrap .i64 (x65 + 1)) w63 ∧ μ62 a64 l64 c64 (IntKind.wrap .i64 (x65 + 1)) w63 < μ62 a64 l64 c64 x65 w63)))
 (∃ (I72 : Int → World → Prop) (μ73 : Int → World → Nat),
 (I72 0 w63 ∧ True) ∧
 ∀ w74 x75, I72 x75 w74 →
 ∃ m76, ∃ w77, Sem.run Tryz.prog (Instr.makeMap 61 none) w74 = .ok (.map m76) w77 ∧
 ((0 ≤ (l64 : Int) ∧ (l64 : Int) ≤ l64 ∧ ((8 : Nat) : Int) * l64 ≤ 281474976710656 ∧ (l64 : Int) ≤ 9223372036854775807) ∧
 AllocK w77 (madeCells (#[.int .i64 0]) ((l64 : Int).toNat * 1)) 3 fun b78 w79 =>
 ∃ (I80 : Int → World → Prop) (μ81 : Int → World → Nat),
 (I80 0 w79 ∧ True) ∧
 ∀ w82 x83, I80 x83 w82 →
 BoolK (decide (x83 < l64))
 ((0 ≤ x83 ∧ x83 < l64) ∧
 AddrK a64 fun b84 =>
 ∃ x85, w82.cell? (b84.add (x83.toNat * 1)) = some (.int .i64 x85) ∧
 ((0 ≤ x85 ∧ x85 < ((l1 : Int).toNat : Nat)) ∧
 ∃ x86, w82.cell? (b2.add (x85.toNat * 1)) = some (.int .i64 x86) ∧
 (Calls Tryz.prog 48 #[(.int .i64 x86)] w82 fun e89 w88 =>
 ∃ s87, e89 = .returned (.string s87) ∧
 (((s87.size + (⟨#[32]⟩ : ByteArray).size : Nat) : Int) ≤ IntKind.i64.max ∧
 (∃ (J90 : ByteArray → World → Prop),
 (∀ w91 s92, J90 s92 w91 →
 ∃ x93, ∃ p94, ∃ w95, Sem.run Tryz.prog (Instr.lookup 61 (.map m76) (.string s92) true) w91 = .ok (.tuple #[(.int .i64 x93), (.bool p94)]) w95 ∧
 (BoolK (!p94)
 (∃ x96, ∃ w97, Sem.run Tryz.prog (Builtin.len_ #[61] 3 #[(.map m76)]) w95 = .ok (.int .i64 x96) w97 ∧
 (∃ w98, Sem.run Tryz.prog (Instr.mapUpdate 61 (.map m76) (.string s92) (.int .i64 (IntKind.wrap .i64 (x59 + x96)))) w97 = .ok () w98 ∧
 ((0 ≤ x83 ∧ x83 < ((l64 : Int).toNat : Nat)) ∧
 SetK w98 (b78.add (x83.toNat * 1)) (.int .i64 (IntKind.wrap .i64 (x59 + x96))) fun w99 =>
 I80 (IntKind.wrap .i64 (x83 + 1)) w99 ∧ μ81 (IntKind.wrap .i64 (x83 + 1)) w99 < μ81 x83 w82)))
 ((0 ≤ x83 ∧ x83 < ((l64 : Int).toNat : Nat)) ∧
 SetK w95 (b78.add (x83.toNat * 1)) (.int .i64 x93) fun w100 =>
 I80 (IntKind.wrap .i64 (x83 + 1)) w100 ∧ μ81 (IntKind.wrap .i64 (x83 + 1)) w100 < μ81 x83 w82))) ∧
 (BoolK (x75 == 0)
 ((0 ≤ x85 ∧ x85 < ((l1 : Int).toNat : Nat)) ∧
 ∃ s101, w88.cell? (b4.add (x85.toNat * 1)) = some (.string s101) ∧
 (J90 s101 w88))
 ((0 ≤ x85 ∧ x85 < l1) ∧
 AddrK a1 fun b102 =>
 ∃ a103 l103 c103, w88.cell? ((b102.add (x85.toNat * 5)).add 4) = some (.slice a103 l103 c103) ∧
 (Calls Tryz.prog 47 #[(.string (s87 ++ (⟨#[32]⟩ : ByteArray))), (.slice a103 l103 c103), (.slice (some b2) ((l1 : Int).toNat) ((l1 : Int).toNat))] w88 fun e106 w105 =>
 ∃ s104, e106 = .returned (.string s104) ∧
 (J90 s104 w105)))))))))
 (∃ (I107 : Int → World → Prop) (μ108 : Int → World → Nat),
 (I107 0 w82 ∧ True) ∧
 ∀ w109 x110, I107 x110 w109 →
 BoolK (decide (x110 < l64))
 ((0 ≤ x110 ∧ x110 < l64) ∧
 AddrK a64 fun b111 =>
 ∃ x112, w109.cell? (b111.add (x110.toNat * 1)) = some (.int .i64 x112) ∧
 ((0 ≤ x110 ∧ x110 < ((l64 : Int).toNat : Nat)) ∧
 ∃ x113, w109.cell? (b78.add (x110.toNat * 1)) = some (.int .i64 x113) ∧
 ((0 ≤ x112 ∧ x112 < ((l1 : Int).toNat : Nat)) ∧
 SetK w109 (b2.add (x112.toNat * 1)) (.int .i64 x113) fun w114 =>
 I107 (IntKind.wrap .i64 (x110 + 1)) w114 ∧ μ108 (IntKind.wrap .i64 (x110 + 1)) w114 < μ108 x110 w109)))
 (∃ x115, ∃ w116, Sem.run Tryz.prog (Builtin.len_ #[61] 3 #[(.map m76)]) w109 = .ok (.int .i64 x115) w116 ∧
 (BoolK (x115 == x75)
 (K (some b2) ((l1 : Int).toNat) ((l1 : Int).toNat) w116)
 (∃ x117, ∃ w118, Sem.run Tryz.prog (Builtin.len_ #[61] 3 #[(.map m76)]) w116 = .ok (.int .i64 x117) w118 ∧
 (I72 x117 w118 ∧ μ73 x117 w118 < μ73 x75 w74)))))))))))))
def ann26 : Ann := (.two .nil (.two .nil (.two .nil (.two (.two .nil (.one (.loop [(34, (.one (.int .i64)))] [0, 3, 4, 32, 33] (.two .nil (.two (.two .nil .nil) (.two (.one (.two .nil .nil)) .nil)))))) (.two .nil (.two .nil (.two .nil (.two (.two .nil (.one (.loop [(54, (.one (.int .i64)))] [0, 3, 4, 8, 9, 10, 52, 53] (.two .nil (.two (.two .nil .nil) (.two (.one (.two .nil (.anyC 17 (.take 0 (.take 1 (.take 2 (.take 3 (.take 4 (.take 5 (.take 6 (.take 7 (.take 8 (.take 9 (.take 10 (.take 11 (.take 12 (.one 13 (.take 14 (.one 15 (.take 16 .done)))))))))))))))))))) .nil)))))) (.two .nil (.two .nil (.two (.two .nil (.one (.loop [(14, (.one .slice)), (80, (.one (.int .i64)))] [0, 3, 4, 8, 13, 79] (.two .nil (.two (.two .nil .nil) (.two (.one (.two .nil (.two .nil (.two .nil .nil)))) .nil)))))) (.two .nil (.one (.loop [(16, (.one (.int .i64)))] [0, 3, 4, 13, 14] (.one (.two .nil (.two .nil (.two (.two .nil (.one (.loop [(99, (.one (.int .i64)))] [0, 3, 4, 13, 14, 16, 17, 18, 97, 98] (.two .nil (.two (.two .nil .nil) (.two (.one (.two .nil (.two .nil (.cut [(21, (.one .str))] [0, 3, 4, 13, 14, 16, 17, 18, 19, 97, 98, 99] (.two .nil (.two .nil .nil)) (.two .nil (.two (.two .nil (.two (.two .nil .nil) .nil)) .nil)))))) .nil)))))) (.two (.two .nil (.one (.loop [(146, (.one (.int .i64)))] [0, 3, 4, 13, 14, 16, 17, 18, 144, 145] (.two .nil (.two (.two .nil .nil) (.two (.one (.two .nil .nil)) .nil)))))) (.two (.two .nil (.two (.two .nil .nil) .nil)) .nil))))))))))))))))))))
noncomputable def code26 : Code := match Tryz.f26.body with | some c => c | none => .skip
theorem calls26 (a1 : Option Addr) (l1 : Nat) (c1 : Nat) (K : Option Addr → Nat → Nat → World → Prop) (w : World) (h : N26 a1 l1 c1 K w) : Calls Tryz.prog 26 #[(.slice a1 l1 c1)] w fun en w' => ∃ (a119 : Option Addr), ∃ (l119 : Nat), ∃ (c119 : Nat), en = .returned (.slice a119 l119 c119) ∧ K a119 l119 c119 w' :=
 fn_calls tabOk mixed Tryz.func26 (by kernel_rfl : Tryz.f26.body = some code26) ann26 [(.slice a1 l1 c1)] [(.one .slice)] K w (by kernel_rfl) (by kernel_rfl) (by kernel_rfl) h
end Go.Proofs.YtbiamhoonhjodacGreatDoor

namespace Go.Proofs.YtbiamhoonhjodacGreatDoor
open Go Go.V Go.Proofs
open Go.RowKit (Below)
/-! manystrand/graph.classes$1 -/
def N46 (s1 : ByteArray) (o2 : Option Addr) (K : Int → World → Prop) (w : World) : Prop :=
 AddrK o2 fun b3 =>
 ∃ m4, w.cell? b3 = some (.map m4) ∧
 (∃ x5, ∃ p6, ∃ w7, Sem.run Tryz.prog (Instr.lookup 61 (.map m4) (.string s1) true) w = .ok (.tuple #[(.int .i64 x5), (.bool p6)]) w7 ∧
 (BoolK (!p6)
 (AddrK o2 fun b8 =>
 ∃ m9, w7.cell? b8 = some (.map m9) ∧
 (∃ x10, ∃ w11, Sem.run Tryz.prog (Builtin.len_ #[61] 3 #[(.map m9)]) w7 = .ok (.int .i64 x10) w11 ∧
 (AddrK o2 fun b12 =>
 ∃ m13, w11.cell? b12 = some (.map m13) ∧
 (∃ w14, Sem.run Tryz.prog (Instr.mapUpdate 61 (.map m13) (.string s1) (.int .i64 x10)) w11 = .ok () w14 ∧
 (K x10 w14)))))
 (K x5 w7)))
def ann46 : Ann := (.two .nil (.two .nil (.two (.two .nil (.two (.two .nil .nil) .nil)) (.two .nil .nil))))
noncomputable def code46 : Code := match Tryz.f46.body with | some c => c | none => .skip
theorem calls46 (s1 : ByteArray) (o2 : Option Addr) (K : Int → World → Prop) (w : World) (h : N46 s1 o2 K w) : Calls Tryz.prog 46 #[(.string s1), (.pointer o2)] w fun en w' => ∃ (x15 : Int), en = .returned (.int .i64 x15) ∧ K x15 w' :=
 fn_calls tabOk mixed Tryz.func46 (by kernel_rfl : Tryz.f46.body = some code46) ann46 [(.string s1), (.pointer o2)] [(.one (.int .i64))] K w (by kernel_rfl) (by kernel_rfl) (by kernel_rfl) h
end Go.Proofs.YtbiamhoonhjodacGreatDoor

namespace Go.Proofs.YtbiamhoonhjodacGreatDoor
open Go Go.V Go.Proofs Go.V.Gr
open Go.RowKit (Below)
theorem mtS : MapT Tryz.prog 61 9 3 eStr eK 0 := ⟨Tryz.underlying61, keyStr Tryz.underlying9, Tryz.zeroValue3⟩
theorem eSt_flat (xs : List ByteArray) : xs.flatMap eSt = xs.map fun x => Value.string x := flat_one _ xs
structure FRow {ρ α : Type} (own : OwnM ρ) (e : TypeId) (enc : α → List Value) (w : World) (s : SL) (xs : List α) : Prop where
 row : OwnR 0 e 1 enc w s.1 s.2.1 s.2.2 xs
 free : ∀ k, sblk s = some k → own k = none
section
variable {ρ α : Type} {own own' : OwnM ρ} {r : ρ} {e : TypeId} {enc : α → List Value} {w w' : World} {s : SL} {xs : List α}
theorem FRow.ext (h : FRow own e enc w s xs) (x : Ext w w') : FRow own e enc w' s xs := ⟨h.row.ext x, h.free⟩
theorem FRow.upd (h : FRow own e enc w s xs) (u : Upd own own' r w w') : FRow own' e enc w' s xs :=
 ⟨h.row.kept fun k hk => u.block k (h.row.lt k hk).2 (by rw [h.free k hk]; simp), fun k hk => by rw [u.same k (h.row.lt k hk).2]; exact h.free k hk⟩
theorem FRow.of {base : Nat} (h : OwnR base e 1 enc w s.1 s.2.1 s.2.2 xs) (ht : ∀ k, base ≤ k → own k = none) : FRow own e enc w s xs :=
 ⟨h.mono (Nat.zero_le _), fun k hk => ht k (h.lt k hk).1⟩
theorem FRow.at_ (h : FRow own e enc w s xs) (he : ∀ x, (enc x).length = 1) {i : Nat} (hi : i < xs.length) : ∃ g, s.1 = some ⟨g, 0, none⟩ ∧ w.cell? ((⟨g, 0, none⟩ : Addr).add (((i : Nat) : Int).toNat * 1)) = (enc xs[i])[0]? := by
 obtain ⟨g, e1, _, _, hc⟩ := h.row.cellAt he (List.getElem?_eq_getElem hi)
 refine ⟨g, e1, ?_⟩
 have := hc 0 (by omega)
 rw [Int.toNat_natCast, add_mk, Nat.zero_add]; exact this
end
structure CA (w0 w : World) (own : OwnM Nat) (n b2 b4 : Nat) (cl : List Int) (hs : List ByteArray) : Prop where
 loc : Mine own w0 w
 cl : RowR own 0 3 1 eI w (some ⟨b2, 0, none⟩, n, n) cl
 hs : RowR own 1 9 1 eSt w (some ⟨b4, 0, none⟩, n, n) hs
section
variable {w0 w w' : World} {own own' : OwnM Nat} {n b2 b4 : Nat} {cl : List Int} {hs : List ByteArray}
theorem CA.ext (h : CA w0 w own n b2 b4 cl hs) (x : Ext w w') : CA w0 w' own n b2 b4 cl hs := ⟨h.loc.ext x, h.cl.ext x, h.hs.ext x⟩
theorem CA.upd {r : Nat} (h : CA w0 w own n b2 b4 cl hs) (u : Upd own own' r w w') (h0 : 2 ≤ r) : CA w0 w' own' n b2 b4 cl hs := ⟨h.loc.upd u, h.cl.upd u (by omega), h.hs.upd u (by omega)⟩
theorem CA.cll (h : CA w0 w own n b2 b4 cl hs) : cl.length = n := h.cl.len.symm
theorem CA.hsl (h : CA w0 w own n b2 b4 cl hs) : hs.length = n := h.hs.len.symm
theorem CA.get_cl (h : CA w0 w own n b2 b4 cl hs) {i : Nat} (hi : i < n) : w.cell? ((⟨b2, 0, none⟩ : Addr).add (((i : Nat) : Int).toNat * 1)) = some (.int .i64 (ga cl i)) := RowR.geti h.cl (by rw [h.cll]; exact hi)
theorem CA.set_cl (h : CA w0 w own n b2 b4 cl hs) {i : Nat} (hi : i < n) (v : Int) {F : World → Prop} (k : ∀ w', CA w0 w' own n b2 b4 (cl.set i v) hs → Upd own own 0 w w' → F w') :
  SetK w ((⟨b2, 0, none⟩ : Addr).add (((i : Nat) : Int).toNat * 1)) (.int .i64 v) F :=
 RowR.seti h.cl (by rw [h.cll]; exact hi) v fun w' h1 u => k w' ⟨h.loc.upd u, h1, h.hs.upd u (by decide)⟩ u
theorem CA.get_hs (h : CA w0 w own n b2 b4 cl hs) {i : Nat} (hi : i < n) : w.cell? ((⟨b4, 0, none⟩ : Addr).add (((i : Nat) : Int).toNat * 1)) = some (.string (hs[i]'(by rw [h.hsl]; exact hi))) := by
 obtain ⟨g, l, c', e1, _, _, e2⟩ := h.hs.at_ eSt_len (i := i) (by rw [h.hsl]; exact hi)
 simp only [Prod.mk.injEq, Option.some.injEq, Addr.mk.injEq, and_true] at e1
 obtain ⟨rfl, _, _⟩ := e1
 have := e2 0 (by omega)
 rw [Int.toNat_natCast, add_mk, Nat.zero_add]; exact this
theorem CA.set_hs (h : CA w0 w own n b2 b4 cl hs) {i : Nat} (hi : i < n) (v : ByteArray) {F : World → Prop} (k : ∀ w', CA w0 w' own n b2 b4 cl (hs.set i v) → F w') :
  SetK w ((⟨b4, 0, none⟩ : Addr).add (((i : Nat) : Int).toNat * 1)) (.string v) F := by
 rw [Int.toNat_natCast, add_mk, Nat.zero_add, Nat.mul_one]
 refine RowR.set h.hs i _ (by rw [h.hsl]; omega) (by simp) ?_ fun w' h1 u => k w' ⟨h.loc.upd u, h.cl.upd u (by decide), h1⟩
 rw [eSt_flat, eSt_flat, List.map_set]
end
section
variable {w : World} {own : OwnM Nat} {m b : Nat} {T : List ByteArray}
theorem ctr46 (hm : Mx own 2 eStr w m T 0) (hb : Bx own 3 w b #[.map (some m)] 61) (s : ByteArray) :
  Calls Tryz.prog 46 #[.string s, .pointer (some ⟨b, 0, none⟩)] w fun en w' => ∃ x, en = .returned (.int .i64 x) ∧
   (∃ (v : Nat) (T' : List ByteArray), x = v ∧ T'[v]? = some s ∧ (T' = T ∨ (T' = T ++ [s] ∧ v = T.length)) ∧ Mx own 2 eStr w' m T' 0 ∧ Upd own own 2 w w') := by
 refine calls46 _ _ _ w ?_
 have g : w.cell? (⟨b, 0, none⟩ : Addr) = some (.map (some m)) := by rw [hb.blk.cell]; rfl
 obtain ⟨v, ok, q1, q2⟩ := hm.num.look2 (P := Tryz.prog) mtS s
 refine ⟨_, g, _, _, _, q1, ?_⟩
 rcases q2 with ⟨i, e1, rfl, rfl⟩ | ⟨hn, rfl, rfl⟩
 ·refine BoolK.mk (fun t => by cases t) (fun _ => ?_)
  exact ⟨i, T, by omega, e1, .inl rfl, hm, Upd.none (Ext.refl _) _⟩
 ·refine BoolK.mk (fun _ => ?_) (fun t => by cases t)
  obtain ⟨w', r1, r2, r3⟩ := hm.add (P := Tryz.prog) mtS (a := s) (v := (T.length : Nat)) (by omega) hn
  exact ⟨_, g, _, _, hm.num.len mtS _, _, g, _, r1, T.length, T ++ [s], rfl, by simp, .inr ⟨rfl, rfl⟩, r2, r3⟩
end
theorem kidsK_len {cs : List Int} (h : ∀ c ∈ cs, i64 c) : (kidsK cs).length ≤ 22 * cs.length := by
 induction cs with
 | nil => simp [kidsK]
 | cons c cs ih =>
  have := itoa_len (h c (by simp))
  have := ih fun x hx => h x (List.mem_cons_of_mem _ hx)
  simp only [kidsK, List.flatMap_cons, List.length_append, List.length_cons] at *; omega
structure NdW (x : Nd) : Prop where
 hd : HdOk x
 key : KeyOk x
theorem ints_kc {xs : List Nd} {cl : List Int} {i : Nat} (hi : i < xs.length) : (xs[i].ks.map fun k => cl[k.toNat]?.getD 0) = kc xs (ga cl) i := by
 rw [kc, Gr.kids, nd_get hi, List.map_map]; rfl
theorem ga_mem {cl : List Int} {P : Int → Prop} (h0 : P 0) (h : ∀ c ∈ cl, P c) (i : Nat) : P (ga cl i) := by
 rw [ga]
 cases e : cl[i]? with
 | none => exact h0
 | some v => exact h v (List.mem_of_getElem? e)
end Go.Proofs.YtbiamhoonhjodacGreatDoor

namespace Go.Proofs.YtbiamhoonhjodacGreatDoor
open Go Go.V Go.Proofs Go.V.Gr
open Go.RowKit (Below)
theorem RNds.at {w w' : World} {a : Option Addr} {l : Nat} {xs : List Nd} (h : RNds w a l xs) (x : Ext w w') : RNds w' a l xs := RL.ext RNd.mono h x
def restOf (n : Nat) (ord : List Nat) : List Nat := (List.range n).filter fun i => decide (i ∉ ord)
theorem rest_nodup (n : Nat) (ord : List Nat) : (restOf n ord).Nodup := List.nodup_range.filter _
theorem rest_mem {n i : Nat} {ord : List Nat} : i ∈ restOf n ord ↔ i < n ∧ i ∉ ord := by simp [restOf]
theorem rest_len (n : Nat) (ord : List Nat) : (restOf n ord).length ≤ n := by
 have := List.length_filter_le (fun i => decide (i ∉ ord)) (List.range n)
 simpa [restOf] using this
theorem rest_succ (n : Nat) (ord : List Nat) : restOf (n + 1) ord = if n ∈ ord then restOf n ord else restOf n ord ++ [n] := by
 rw [restOf, List.range_succ, List.filter_append]
 split <;> rename_i h <;> simp [h, restOf]
set_option maxRecDepth 100000 in
theorem ctr26 (w : World) {a1 : Option Addr} {l1 : Nat} (c1 : Nat) {xs : List Nd} (h : RNds w a1 l1 xs) (hc : Closed xs) (hz : Sz xs) (hw : ∀ x ∈ xs, NdW x) (ht : Tb w) :
  Calls Tryz.prog 26 #[.slice a1 l1 c1] w fun en w' => ∃ a l c, en = .returned (.slice a l c) ∧
   (∃ cl : List Int, Cls xs cl ∧ (∀ v ∈ cl, 0 ≤ v ∧ v ≤ 2000000) ∧ OwnR w.heap.size 3 1 eI w' a l c cl ∧ Ext w w') := by
 refine calls26 _ _ _ _ w ?_
 have hn := hz.len
 obtain rfl : l1 = xs.length := h.len
 have hnw : ∀ {i : Nat} (hi : i < xs.length), NdW xs[i] := fun hi => hw _ (List.getElem_mem hi)
 simp only [N26, Int.toNat_natCast]
 refine ⟨⟨by omega, by omega, by omega, by omega⟩, RowR.make (x := (0 : Int)) (enc := eI) rfl (by simp only [maxLen]; omega) (fun _ => (none : Option Nat)) 0 fun b2 w3 r2 u2 x3 hb2 => ?_⟩
 refine ⟨⟨by omega, by omega, by omega, by omega⟩, RowR.make (x := (⟨#[]⟩ : ByteArray)) (enc := eSt) rfl (by simp only [maxLen]; omega) (setOwn (fun _ => none) (some b2) 0) 1 fun b4 w5 r4 u4 x5 hb4 => ?_⟩
 have ca5 : CA w w5 _ xs.length b2 b4 (List.replicate xs.length 0) (List.replicate xs.length ⟨#[]⟩) := ⟨((Mine.refl w).upd u2).upd u4, r2.upd u4 (by decide), r4⟩
 refine ⟨fun i w' => ∃ (k : Nat) (own : OwnM Nat) (hs : List ByteArray), i = k ∧ k ≤ xs.length ∧ CA w w' own xs.length b2 b4 (List.replicate xs.length 0) hs ∧ ∀ j, j < k → ∃ s, hs[j]? = some s ∧ bl s = headK (nd xs j) ∧ s.size ≤ 200000000, fun i _ => xs.length - i.toNat,
  ⟨⟨0, _, _, rfl, by omega, ca5, fun j hj => by omega⟩, trivial⟩, ?_⟩
 rintro w8 _ ⟨k, own, hs, rfl, hk, ca, hhs⟩
 refine BoolK.mk (fun t => ?_) (fun t => ?_)
 ·have hlt : k < xs.length := by have := of_decide_eq_true t; omega
  have y := ca.loc.below
  obtain ⟨b12, ha, h0, h1, h2, h3, h4, ⟨a3, l3, c3, h5, h6⟩, ⟨a4, l4, c4, h7, h8⟩, _⟩ := ndAt h y hlt
  refine ⟨⟨by omega, by omega⟩, adK ha ⟨_, h0, _, h1, _, h2, _, _, _, h5, _, _, _, h7, ?_⟩⟩
  refine local5 fun b16 w22 hb16 hB16 x22 => ?_
  refine ⟨_, by rw [add_mk, hB16.cell]; rfl, _, by rw [add_mk, hB16.cell]; rfl, _, by rw [add_mk, hB16.cell]; rfl, _, _, _, by rw [add_mk, hB16.cell]; rfl, _, _, _, by rw [add_mk, hB16.cell]; rfl, ?_⟩
  refine (ctr45 w22 xs[k] c3 c4 (hnw hlt).hd (h6.ext RFt.mono x22) (ht.ext (y.trans x22))).mono ?_
  rintro en w29 ⟨s28, rfl, ⟨hs28, hz28⟩, x29⟩
  refine ⟨_, rfl, ⟨by omega, by omega⟩, ?_⟩
  refine ((ca.ext x22).ext x29).set_hs hlt s28 fun w31 ca31 => ?_
  rw [wrap_succ (by omega)]
  refine ⟨⟨k + 1, _, _, rfl, by omega, ca31, fun j hj => ?_⟩, by simp; omega⟩
  have hfl := (hnw hlt).hd.len
  rw [List.getElem?_set]
  by_cases e : k = j
  ·subst e
   exact ⟨s28, by rw [if_pos rfl, if_pos (by rw [ca.hsl]; exact hlt)], by rw [nd_get hlt]; exact hs28, by omega⟩
  ·rw [if_neg e]; exact hhs j (by omega)
 have hk2 : k = xs.length := by have := of_decide_eq_false t; omega
 subst hk2
 refine (ctr34 w8 c1 (RNds.at h ca.loc.below) hc hz).mono ?_
 rintro en w34 ⟨a32, l32, c32, a33, l33, c33, rfl, ord, ⟨ho, hnd⟩, hl, hf, x34⟩
 have hol : ord.length ≤ xs.length := by
  have := len_le_of_sub _ (List.range xs.length) hnd fun x hx => List.mem_range.2 (ho.lt x hx)
  simpa using this
 have fl34 : FRow own 3 eI w34 (a32, l32, c32) (zs ord) := FRow.of hl ca.loc.top
 have ff34 : FRow own 4 eB1 w34 (a33, l33, c33) ((List.range xs.length).map fun i => decide (i ∈ ord)) := FRow.of hf ca.loc.top
 have hl32 : l32 = ord.length := by have := hl.1; rw [zs_len] at this; exact this
 have hl33 : l33 = xs.length := by have := hf.1; simpa using this
 have ca34 := ca.ext x34
 refine ⟨_, _, _, _, _, _, rfl, ?_⟩
 obtain ⟨w37, bm, q37, mx37, u37, x37⟩ := Mx.new (P := Tryz.prog) (t := 61) eStr w34 0 own 2
 refine ⟨some bm, w37, q37, Bx.new (setOwn own (some bm) 2) 3 fun b38 w39 bx39 u39 x39 hb38 => bx39.set (by simp) fun w40 bx40 u40 => ?_⟩
 have ca40 := ((ca34.upd u37 (by decide)).upd u39 (by decide)).upd u40 (by decide)
 have fl40 := ((fl34.upd u37).upd u39).upd u40
 have ff40 := ((ff34.upd u37).upd u39).upd u40
 have mx40 := (mx37.upd u39 (by decide)).upd u40 (by decide)
 have bx40' : Bx (setOwn (setOwn own (some bm) 2) (some b38) 3) 3 w40 b38 #[.map (some bm)] 61 := by simpa using bx40
 have one : ∀ c ∈ (List.replicate xs.length (0 : Int)), 0 ≤ c ∧ c ≤ 1000000 := fun c hc => by rw [List.eq_of_mem_replicate hc]; omega
 refine ⟨fun i w' => ∃ (p : Nat) (own : OwnM Nat) (cl : List Int) (T : List ByteArray), i = p ∧ p ≤ ord.length ∧ CA w w' own xs.length b2 b4 cl hs ∧ FRow own 3 eI w' (a32, l32, c32) (zs ord) ∧ FRow own 4 eB1 w' (a33, l33, c33) ((List.range xs.length).map fun i => decide (i ∈ ord)) ∧
   Mx own 2 eStr w' bm T 0 ∧ Bx own 3 w' b38 #[.map (some bm)] 61 ∧ Numd T (keyF xs (ga cl)) (ga cl) 0 (ord.take p) ∧ T.length ≤ p ∧ ∀ c ∈ cl, 0 ≤ c ∧ c ≤ 1000000, fun i _ => ord.length - i.toNat,
  ⟨⟨0, _, _, _, rfl, by omega, ca40, fl40, ff40, mx40, bx40', fun i hi => by simp at hi, by simp, one⟩, trivial⟩, ?_⟩
 clear ca40 fl40 ff40 mx40 bx40' bx40 u40 u39 u37 x37 x39 mx37 bx39 q37 ca34 fl34 ff34 ca5 r2 r4 u2 u4 x3 x5 ca t one
 rintro w43 _ ⟨p, own, cl, T, rfl, hp, ca, fl, ff, mx, bx, hnum, hTl, hcb⟩
 refine BoolK.mk (fun t => ?_) (fun t => ?_)
 ·have hlt : p < ord.length := by have := of_decide_eq_true t; omega
  obtain ⟨g, e1, e2⟩ := fl.at_ eI_len (i := p) (by rw [zs_len]; exact hlt)
  have e3 : (eI ((zs ord)[p]'(by rw [zs_len]; exact hlt)))[0]? = some (.int .i64 ((ord[p] : Nat) : Int)) := by simp [eI, zs]
  refine ⟨⟨by omega, by omega⟩, adK e1 ⟨_, e2.trans e3, DrewK.mk fun w47 x47 => ?_⟩⟩
  have hx : ord[p]? = some ord[p] := List.getElem?_eq_getElem hlt
  have hxl := ho.lt _ (List.getElem_mem hlt)
  generalize ord[p] = x at hx hxl e3
  have ca := ca.ext x47
  have y := ca.loc.below
  obtain ⟨s48, hs1, hs2, hs3⟩ := hhs x hxl
  have g48 := ca.get_hs hxl
  rw [List.getElem?_eq_getElem (by rw [ca.hsl]; exact hxl)] at hs1
  rw [Option.some.inj hs1] at g48
  obtain ⟨b12, ha, _, _, _, _, _, _, ⟨a4, l4, c4, h7, h8⟩, _⟩ := ndAt h y hxl
  refine ⟨⟨by omega, by omega⟩, s48, g48, ⟨by omega, by omega⟩, adK ha ⟨_, _, _, h7, ?_⟩⟩
  have hks := hz.ks _ (List.getElem_mem hxl)
  refine (ctr47 w47 s48 c4 xs.length (by omega) h8 (by omega) (OwnR.ints ca.cl.1) (fun k hk => by rw [ca.cll]; exact hc _ (List.getElem_mem hxl) k hk) (fun c hc => by have := hcb c hc; omega) (ht.ext y)).mono ?_
  rintro en w52 ⟨s51, rfl, hs51, x52⟩
  rw [ints_kc hxl, hs2] at hs51
  have hsz : s51.size ≤ 300000000 := by
   have h1 := bl_size s48
   have h2 := kidsK_len (cs := kc xs (ga cl) x) (fun c hc => by
    obtain ⟨k, _, rfl⟩ := List.mem_map.1 hc
    have := ga_mem (P := fun c => 0 ≤ c ∧ c ≤ 1000000) ⟨by omega, by omega⟩ hcb k
    exact ⟨by omega, by omega⟩)
   rw [kc_len, nd_get hxl] at h2
   rw [← bl_size, hs51, List.length_append, ← hs2]; omega
  have sz1 : ∀ (p q : ByteArray), (p ++ q).size = p.size + q.size := fun p q => by rw [← bl_size, ← bl_size, ← bl_size, bl_append, List.length_append]
  have ca := ca.ext x52
  have mx := (mx.ext x47).ext x52
  have bx := (bx.ext x47).ext x52
  refine ⟨_, rfl, by rw [i64max]; show ((2 + s51.size : Nat) : Int) ≤ _; omega, Tryz.call46, ?_⟩
  refine (ctr46 mx bx ((⟨#[102, 32]⟩ : ByteArray) ++ s51)).mono ?_
  rintro en w55 ⟨_, rfl, v, T', rfl, hv, hT, mx', u55⟩
  refine ⟨_, rfl, ⟨by omega, by omega⟩, ?_⟩
  refine (ca.upd u55 (by decide)).set_cl hxl _ fun w57 ca57 u57 => ?_
  have hbl : bl ((⟨#[102, 32]⟩ : ByteArray) ++ s51) = keyF xs (ga cl) x := by
   rw [bl_append, hs51, keyF]
   show [102, 32] ++ (_ ++ _) = _
   rfl
  have hnum' : Numd T' (keyF xs (ga cl)) (ga cl) 0 (ord.take p) := by
   rcases hT with rfl | ⟨rfl, _⟩
   ·exact hnum
   ·exact hnum.grow _
  have hTl' : T'.length ≤ p + 1 := by
   rcases hT with rfl | ⟨rfl, _⟩
   ·omega
   ·simp; omega
  have hvl := (List.getElem?_eq_some_iff.1 hv).1
  rw [wrap_succ (by omega)]
  refine ⟨⟨p + 1, _, _, T', rfl, by omega, ca57, (((fl.ext x47).ext x52).upd u55).upd u57, (((ff.ext x47).ext x52).upd u55).upd u57, mx'.upd u57 (by decide), (bx.upd u55 (by decide)).upd u57 (by decide),
   hnum'.flat ho hnd hx (by rw [ca.cll]; exact hxl) hv hbl, hTl', fun c hc => ?_⟩, by simp; omega⟩
  rcases List.mem_or_eq_of_mem_set hc with hc | rfl
  ·exact hcb c hc
  ·omega
 have hp2 : p = ord.length := by have := of_decide_eq_false t; omega
 subst hp2
 rw [List.take_length] at hnum
 have hflat := hnum.right mx.num.nodup ho fun x hx => (hw x hx).key.kd
 have hlow : ∀ i ∈ ord, 0 ≤ ga cl i ∧ ga cl i < T.length := fun i hi => by
  obtain ⟨q, s, e1, e2, _⟩ := hnum i hi
  have := (List.getElem?_eq_some_iff.1 e2).1
  omega
 refine ⟨some bm, by rw [bx.blk.cell]; rfl, _, _, mx.num.len mtS _, ?_⟩
 refine ⟨fun a l c i w' => ∃ (k : Nat) (own : OwnM Nat), i = k ∧ k ≤ xs.length ∧ CA w w' own xs.length b2 b4 cl hs ∧ FRow own 4 eB1 w' (a33, l33, c33) ((List.range xs.length).map fun i => decide (i ∈ ord)) ∧ RowR own 6 3 1 eI w' (a, l, c) (zs (restOf k ord)), fun _ _ _ i _ => xs.length - i.toNat,
  ⟨⟨0, _, rfl, by omega, ca, ff, RowR.nil _ _ _ _ _ _⟩, trivial⟩, ?_⟩
 rintro w63 a64 l64 c64 _ ⟨k, own2, rfl, hk, ca, ff, rr⟩
 refine BoolK.mk (fun t => ?_) (fun t => ?_)
 ·have hlt : k < xs.length := by have := of_decide_eq_true t; omega
  obtain ⟨g, e1, e2⟩ := ff.at_ eB1_len (i := k) (by simpa using hlt)
  have e3 : (eB1 (((List.range xs.length).map fun i => decide (i ∈ ord))[k]'(by simpa using hlt)))[0]? = some (.bool (decide (k ∈ ord))) := by simp [eB1]
  refine ⟨⟨by omega, by omega⟩, adK e1 ⟨_, e2.trans e3, ?_⟩⟩
  have hrl := rest_len k ord
  refine BoolK.mk (fun t1 => ?_) (fun t1 => ?_)
  ·have t1 : k ∉ ord := by simpa using t1
   refine RowR.push ((k : Nat) : Int) sltI rr eI_len eI_one (by rw [zs_len]; omega) rfl fun s' w71 h1 u71 => ?_
   rw [wrap_succ (by omega)]
   refine ⟨⟨k + 1, _, rfl, by omega, ca.upd u71 (by decide), ff.upd u71, ?_⟩, by simp; omega⟩
   rw [rest_succ, if_neg t1, zs_snoc]; exact h1
  ·have t1 : k ∈ ord := by simpa using t1
   rw [wrap_succ (by omega)]
   refine ⟨⟨k + 1, _, rfl, by omega, ca, ff, ?_⟩, by simp; omega⟩
   rw [rest_succ, if_pos t1]; exact rr
 have hk2 : k = xs.length := by have := of_decide_eq_false t; omega
 subst hk2
 have hTb : T.length ≤ 1000000 := by omega
 have hll : l64 = (restOf xs.length ord).length := by have := rr.len; rw [zs_len] at this; exact this
 have hrl := rest_len xs.length ord
 have hrn := rest_nodup xs.length ord
 have hrm : ∀ {i : Nat}, i ∈ restOf xs.length ord ↔ i < xs.length ∧ i ∉ ord := rest_mem
 clear fl ff mx bx
 generalize hR : restOf xs.length ord = R at rr hll hrl hrn hrm
 generalize hB : T.length = base at hlow hTb
 have ri0 : RInv xs ord base 0 (ga cl) := ⟨hflat, hlow, .inl rfl⟩
 have cb0 : ∀ c ∈ cl, 0 ≤ c ∧ c ≤ 2000000 := fun c hc => by have := hcb c hc; omega
 refine ⟨fun x w' => ∃ (cnt : Nat) (own : OwnM Nat) (cl : List Int), x = cnt ∧ CA w w' own xs.length b2 b4 cl hs ∧ RowR own 6 3 1 eI w' (a64, l64, c64) (zs R) ∧ RInv xs ord base cnt (ga cl) ∧ (∀ c ∈ cl, 0 ≤ c ∧ c ≤ 2000000) ∧ cnt ≤ R.length, fun x _ => R.length - x.toNat,
  ⟨⟨0, _, _, rfl, ca, rr, ri0, cb0, by omega⟩, trivial⟩, ?_⟩
 clear ca rr ri0 cb0 hcb hlow hflat hnum ff
 rintro w74 _ ⟨cnt, own, cl, rfl, ca, rr, ri, hcb, hcR⟩
 obtain ⟨w77, bm2, q77, mx77, u77, x77⟩ := Mx.new (P := Tryz.prog) (t := 61) eStr w74 (base : Int) own 7
 have ca77 := ca.upd u77 (by decide)
 have rr77 := rr.upd u77 (by decide)
 refine ⟨some bm2, w77, q77, ⟨by omega, by omega, by omega, by omega⟩, RowR.make (x := (0 : Int)) (enc := eI) rfl (by simp only [maxLen]; omega) (setOwn own (some bm2) 7) 8 fun b78 w79 r79 u79 x79 hb78 => ?_⟩
 have r79' : RowR (setOwn (setOwn own (some bm2) 7) (some b78) 8) 8 3 1 eI w79 (some ⟨b78, 0, none⟩, l64, l64) (List.replicate R.length 0) := by rw [← hll]; exact r79
 refine ⟨fun x w' => ∃ (j : Nat) (own : OwnM Nat) (N : List ByteArray) (fr : List Int), x = j ∧ j ≤ R.length ∧ CA w w' own xs.length b2 b4 cl hs ∧ RowR own 6 3 1 eI w' (a64, l64, c64) (zs R) ∧ Mx own 7 eStr w' bm2 N (base : Int) ∧ RowR own 8 3 1 eI w' (some ⟨b78, 0, none⟩, l64, l64) fr ∧
   fr.length = R.length ∧ NumR N (keyN xs (ga cl) cnt) R fr base j, fun x _ => R.length - x.toNat,
  ⟨⟨0, _, [], _, rfl, by omega, ca77.upd u79 (by decide), rr77.upd u79 (by decide), mx77.upd u79 (by decide), r79', by simp, ⟨fun a ha => by omega, fun q hq => by simp at hq, by simp⟩⟩, trivial⟩, ?_⟩
 clear ca77 rr77 mx77 r79 r79' u79 u77 x77 x79 q77 ca rr
 rintro w82 _ ⟨j, own, N, fr, rfl, hj, ca, rr, mx, fw, hfrl, hN⟩
 refine BoolK.mk (fun t => ?_) (fun t => ?_)
 ·have hlt : j < R.length := by have := of_decide_eq_true t; omega
  obtain ⟨b84, e1, e2⟩ := row_get rr hlt
  have hxm := hrm.1 (List.getElem_mem hlt)
  have hxl := hxm.1
  have hRj : R[j]?.getD 0 = R[j] := by rw [List.getElem?_eq_getElem hlt]; rfl
  refine ⟨⟨by omega, by omega⟩, adK e1 ⟨_, e2, ⟨by omega, by omega⟩, _, ca.get_cl hxl, ?_⟩⟩
  generalize R[j] = x at hRj hxl hxm
  have hcx := ga_mem (P := fun c => 0 ≤ c ∧ c ≤ 2000000) ⟨by omega, by omega⟩ hcb x
  have hi64 : i64 (ga cl x) := ⟨by omega, by omega⟩
  have y := ca.loc.below
  refine (ctr48 w82 hi64 (ht.ext y)).mono ?_
  rintro en w88 ⟨s87, rfl, hs87, x88⟩
  have z87 : s87.size ≤ 21 := by rw [← bl_size, hs87]; exact itoa_len hi64
  have sz1 : ∀ (p q : ByteArray), (p ++ q).size = p.size + q.size := fun p q => by rw [← bl_size, ← bl_size, ← bl_size, bl_append, List.length_append]
  refine ⟨_, rfl, by rw [i64max]; show ((s87.size + 1 : Nat) : Int) ≤ _; omega, ?_⟩
  refine ⟨fun s' w' => bl s' = keyN xs (ga cl) cnt x ∧ CA w w' own xs.length b2 b4 cl hs ∧ RowR own 6 3 1 eI w' (a64, l64, c64) (zs R) ∧ Mx own 7 eStr w' bm2 N (base : Int) ∧ RowR own 8 3 1 eI w' (some ⟨b78, 0, none⟩, l64, l64) fr, ?_, ?_⟩
  ·rintro w91 s92 ⟨hs92, ca, rr, mx, fw⟩
   obtain ⟨v, ok, q1, q2⟩ := mx.num.look2 (P := Tryz.prog) mtS s92
   refine ⟨_, _, _, q1, ?_⟩
   have hNl := hN.len
   rcases q2 with ⟨i, f1, rfl, rfl⟩ | ⟨hnin, rfl, rfl⟩
   ·refine BoolK.mk (fun t => by cases t) (fun _ => ⟨⟨by omega, by omega⟩, ?_⟩)
    refine RowR.seti fw (by omega) _ fun w100 f100 u100 => ?_
    rw [wrap_succ (by omega)]
    refine ⟨⟨j + 1, own, N, _, rfl, by omega, ca.upd u100 (by decide), rr.upd u100 (by decide), mx.upd u100 (by decide), f100, by simpa using hfrl, ?_⟩, by simp; omega⟩
    have := hN.put (v := i) (s := s92) (by omega) (.inl rfl) f1 (by rw [hRj]; exact hs92)
    rw [Int.natCast_add] at this; exact this
   ·refine BoolK.mk (fun _ => ?_) (fun t => by cases t)
    have eb : IntKind.wrap .i64 ((base : Int) + ((N.length : Nat) : Int)) = (base : Int) + ((N.length : Nat) : Int) := wrap_id (by omega) (by omega)
    refine ⟨_, _, mx.num.len mtS _, ?_⟩
    rw [eb]
    obtain ⟨w98, r1, r2, r3⟩ := mx.add (P := Tryz.prog) mtS (a := s92) (v := (base : Int) + (N.length : Nat)) rfl hnin
    refine ⟨w98, r1, ⟨by omega, by omega⟩, ?_⟩
    refine RowR.seti (fw.upd r3 (by decide)) (by omega) _ fun w99 f99 u99 => ?_
    rw [wrap_succ (by omega)]
    refine ⟨⟨j + 1, own, _, _, rfl, by omega, (ca.upd r3 (by decide)).upd u99 (by decide), (rr.upd r3 (by decide)).upd u99 (by decide), r2.upd u99 (by decide), f99, by simpa using hfrl, ?_⟩, by simp; omega⟩
    have := hN.put (v := N.length) (T' := N ++ [s92]) (s := s92) (by omega) (.inr ⟨rfl, rfl⟩) (by simp) (by rw [hRj]; exact hs92)
    rw [Int.natCast_add] at this; exact this
  ·have ca8 := ca.ext x88
   have y8 := ca8.loc.below
   refine BoolK.mk (fun t1 => ?_) (fun t1 => ?_)
   ·have t1 : cnt = 0 := by have := eq_of_beq t1; omega
    obtain ⟨s48, hs1, hs2, hs3⟩ := hhs x hxl
    have g48 := ca8.get_hs hxl
    rw [List.getElem?_eq_getElem (by rw [ca8.hsl]; exact hxl)] at hs1
    rw [Option.some.inj hs1] at g48
    exact ⟨⟨by omega, by omega⟩, s48, g48, by rw [keyN, if_pos t1]; exact hs2, ca8, rr.ext x88, mx.ext x88, fw.ext x88⟩
   ·have t1 : cnt ≠ 0 := by
     rw [beq_eq_false_iff_ne] at t1; omega
    obtain ⟨b12, ha, _, _, _, _, _, _, ⟨a4, l4, c4, h7, h8⟩, _⟩ := ndAt h y8 hxl
    have hks := hz.ks _ (List.getElem_mem hxl)
    refine ⟨⟨by omega, by omega⟩, adK ha ⟨_, _, _, h7, ?_⟩⟩
    rw [← hll] at *
    refine (ctr47 w88 (s87 ++ (⟨#[32]⟩ : ByteArray)) c4 xs.length (by rw [sz1]; show s87.size + 1 ≤ _; omega) h8 (by omega) (OwnR.ints ca8.cl.1) (fun k hk => by rw [ca8.cll]; exact hc _ (List.getElem_mem hxl) k hk) (fun c hc => by have := hcb c hc; omega) (ht.ext y8)).mono ?_
    rintro en w105 ⟨s104, rfl, hs104, x105⟩
    rw [ints_kc hxl, bl_append, hs87] at hs104
    refine ⟨_, rfl, ?_, ca8.ext x105, (rr.ext x88).ext x105, (mx.ext x88).ext x105, (fw.ext x88).ext x105⟩
    rw [keyN, if_neg t1, hs104, keyR]
    show (_ ++ [32]) ++ _ = _
    simp
 have hj2 : j = R.length := by have := of_decide_eq_false t; omega
 subst hj2
 refine ⟨fun x w' => ∃ (j : Nat) (own : OwnM Nat) (cl' : List Int), x = j ∧ j ≤ R.length ∧ CA w w' own xs.length b2 b4 cl' hs ∧ RowR own 6 3 1 eI w' (a64, l64, c64) (zs R) ∧ Mx own 7 eStr w' bm2 N (base : Int) ∧ RowR own 8 3 1 eI w' (some ⟨b78, 0, none⟩, l64, l64) fr ∧
   (∀ a, a < j → ∀ i, R[a]? = some i → ga cl' i = ga fr a) ∧ (∀ i, (∀ a, a < j → R[a]? ≠ some i) → ga cl' i = ga cl i) ∧ ∀ c ∈ cl', 0 ≤ c ∧ c ≤ 2000000, fun x _ => R.length - x.toNat,
  ⟨⟨0, own, cl, rfl, by omega, ca, rr, mx, fw, fun a ha => by omega, fun i _ => rfl, hcb⟩, trivial⟩, ?_⟩
 clear ca rr fw t
 have hNn := mx.num.nodup
 clear mx
 rintro w109 _ ⟨j, own, cl', rfl, hj, ca, rr, mx, fw, hA, hA2, hcb'⟩
 refine BoolK.mk (fun t => ?_) (fun t => ?_)
 ·have hlt : j < R.length := by have := of_decide_eq_true t; omega
  obtain ⟨b84, e1, e2⟩ := row_get rr hlt
  have hxm := hrm.1 (List.getElem_mem hlt)
  have hRj : R[j]? = some R[j] := List.getElem?_eq_getElem hlt
  refine ⟨⟨by omega, by omega⟩, adK e1 ⟨_, e2, ⟨by omega, by omega⟩, _, RowR.geti fw (by omega), ⟨by omega, by omega⟩, ?_⟩⟩
  refine ca.set_cl hxm.1 _ fun w114 ca114 u114 => ?_
  rw [wrap_succ (by omega)]
  obtain ⟨q, s, g1, g2, _⟩ := hN.num j hlt
  have hq := (List.getElem?_eq_some_iff.1 g2).1
  have hNl := hN.len
  refine ⟨⟨j + 1, own, _, rfl, by omega, ca114, rr.upd u114 (by decide), mx.upd u114 (by decide), fw.upd u114 (by decide), fun a ha i hi => ?_, fun i hi => ?_, fun c hc => ?_⟩, by simp; omega⟩
  ·rw [ga_set (by rw [ca.cll]; exact hxm.1)]
   by_cases e : a = j
   ·subst e; rw [hRj] at hi; cases hi; rw [if_pos rfl]
   ·rw [if_neg, hA a (by omega) i hi]
    rintro rfl
    exact e (nodup_idx hrn hi hRj)
  ·rw [ga_set (by rw [ca.cll]; exact hxm.1), if_neg, hA2 i fun a ha => hi a (by omega)]
   rintro rfl
   exact hi j (by omega) hRj
  ·rcases List.mem_or_eq_of_mem_set hc with hc | rfl
   ·exact hcb' c hc
   ·rw [g1]; omega
 have hj2 : j = R.length := by have := of_decide_eq_false t; omega
 subst hj2
 have num : ∀ i, i < xs.length → i ∉ ord → ∃ (q : Nat) (s : ByteArray), ga cl' i = base + q ∧ N[q]? = some s ∧ bl s = keyN xs (ga cl) cnt i := fun i hi ni => by
  obtain ⟨a, ha⟩ := List.getElem?_of_mem (hrm.2 ⟨hi, ni⟩)
  have hal := (List.getElem?_eq_some_iff.1 ha).1
  obtain ⟨q, s, g1, g2, g3⟩ := hN.num a hal
  rw [ha] at g3
  exact ⟨q, s, by rw [hA a hal i ha]; exact g1, g2, g3⟩
 have hit : ∀ q, q < N.length → ∃ i, i < xs.length ∧ i ∉ ord ∧ ga cl' i = base + (q : Nat) := fun q hq => by
  obtain ⟨a, ha, e⟩ := hN.hit q hq
  have hm := hrm.1 (List.getElem_mem ha)
  exact ⟨R[a], hm.1, hm.2, by rw [hA a ha _ (List.getElem?_eq_getElem ha)]; exact e⟩
 have hfl : ∀ i ∈ ord, ga cl' i = ga cl i := fun i hi => hA2 i fun a ha e => (hrm.1 (List.mem_of_getElem? e)).2 hi
 obtain ⟨done, go⟩ := ri.round ho hc (fun x hx => (hw x hx).key) hNn hfl num hit
 refine ⟨_, _, mx.num.len mtS _, ?_⟩
 have hNl := hN.len
 refine BoolK.mk (fun t1 => ?_) (fun t1 => ?_)
 ·have t1 : N.length = cnt := by have := eq_of_beq t1; omega
  exact ⟨cl', ⟨ca.cll, fun i j hi hj => done t1 i j hi hj⟩, hcb', Mine.own ca.cl ca.loc, ca.loc.below⟩
 ·have t1 : N.length ≠ cnt := by rw [beq_eq_false_iff_ne] at t1; omega
  obtain ⟨g1, g2⟩ := go t1
  exact ⟨_, _, mx.num.len mtS _, ⟨N.length, own, cl', rfl, ca, rr, g2, hcb', by omega⟩, by simp; omega⟩
end Go.Proofs.YtbiamhoonhjodacGreatDoor

namespace Go.V
open Go.RowKit (Below)
def cutW (w : World) (keep : Nat → Bool) : World := { w with heap := w.heap.mapIdx fun i o => if keep i then o else .cells #[] 0 }
theorem cutW_block (w : World) (keep : Nat → Bool) (k : Nat) : (cutW w keep).heap[k]? = (w.heap[k]?).map fun o => if keep k then o else .cells #[] 0 := by
 simp [cutW, Array.getElem?_mapIdx]
theorem cutW_cell {w : World} {keep : Nat → Bool} {p : Addr} (h : keep p.block = true) : (cutW w keep).cell? p = w.cell? p := by
 refine World.cell?_of_block ?_
 rw [cutW_block, h]; cases w.heap[p.block]? <;> simp
theorem cutW_cel {w w' : World} {keep : Nat → Bool} (h : ∀ k, keep k = true → k < w.heap.size → w'.heap[k]? = w.heap[k]?) : Cel (cutW w keep) w' := by
 intro p v hp
 by_cases hk : keep p.block = true
 ·rw [cutW_cell hk] at hp
  rw [World.cell?_of_block (h _ hk (block_lt_of_cell hp))]; exact hp
 ·exfalso
  have hb := cutW_block w keep p.block
  rw [if_neg_map hk] at hb
  unfold World.cell? at hp
  cases hw : w.heap[p.block]? with
  | none => rw [hb, hw] at hp; simp at hp
  | some o => rw [hb, hw] at hp; simp at hp
where
 if_neg_map {w : World} {keep : Nat → Bool} {p : Addr} (hk : ¬ keep p.block = true) : ((w.heap[p.block]?).map fun o => if keep p.block = true then o else Obj.cells #[] 0) = (w.heap[p.block]?).map fun _ => Obj.cells #[] 0 := by
  rw [Bool.not_eq_true] at hk; simp [hk]
theorem copyInto {α : Type} {P : Program} {t ty e : TypeId} {sz bytes b0 : Nat} {enc : α → List Value} {R : World → Cells → α → Prop} {w : World} {a : Option Addr} {l c : Nat} {xs : List α} (H : SlT P t e sz bytes) (h : Rows sz R w a l xs) (ha : a ≠ none)
  (he : ∀ x, (enc x).length = sz) (h1 : ∀ x u, u ∈ enc x → u.oneCell' = true) (hR : ∀ f x, R w f x → ∀ j, j < sz → f j = (enc x)[j]?) (hlen : xs.length * bytes ≤ 140737488355328) (hb : Blk w b0 #[] e) :
  ∃ a' c' w', Sem.run P (Builtin.append_ #[t, t] ty #[.slice (some ⟨b0, 0, none⟩) 0 0, .slice a l c]) w = .ok (.slice a' l c') w' ∧ OwnR b0 e sz enc w' a' l c' xs ∧ w.grownBy w' (some b0) := by
 obtain ⟨rfl, hx⟩ := h
 obtain ⟨p, rfl⟩ : ∃ p, a = some p := by cases a with | none => exact absurd rfl ha | some p => exact ⟨p, rfl⟩
 have hc : ∀ j u, (xs.flatMap enc)[j]? = some u → w.cell? (p.add j) = some u := by
  intro j u hu
  rcases hx with rfl | ⟨b, o, ha, hx⟩
  ·simp at hu
  ·simp at ha; subst ha
   rw [add_mk]
   have hj : j < xs.length * sz := by rw [← enc_len he]; exact (List.getElem?_eq_some_iff.1 hu).1
   have hi : j / sz < xs.length := Nat.div_lt_of_lt_mul (by rw [Nat.mul_comm]; exact hj)
   have hm : j % sz < sz := Nat.mod_lt _ H.pos
   have hjj : j / sz * sz + j % sz = j := Nat.div_add_mod' j sz
   have := hR _ _ (hx (j / sz) _ (List.getElem?_eq_getElem hi)) (j % sz) hm
   rw [Nat.add_assoc, hjj] at this
   rw [this, ← enc_get he (List.getElem?_eq_getElem hi) hm, hjj]; exact hu
 have hO : OwnR b0 e sz enc w (some ⟨b0, 0, none⟩) 0 0 ([] : List α) := ⟨rfl, by simp, .inr ⟨b0, 0, #[], rfl, Nat.le_refl _, hb, Nat.le_refl _, by simp [maxLen], by simp, by simp⟩⟩
 obtain ⟨a', c', w', q1, q2, q3, _⟩ := OwnR.appendN (ty := ty) H (xs := []) (ys := xs) hO (Nat.le_of_lt hb.lt) he h1 p c hc (by simpa using hlen)
 simp only [List.length_nil, Nat.zero_add, List.nil_append] at q1 q2
 exact ⟨a', c', w', q1, q2, q3⟩
end Go.V

namespace Go.Proofs.YtbiamhoonhjodacGreatDoor
open Go Go.V Go.Proofs
open Go.RowKit (Below)
/-! slices.Clone[[]manystrand/api.Feat,manystrand/api.Feat] -/
def N52 (a1 : Option Addr) (l1 : Nat) (c1 : Nat) (K : Option Addr → Nat → Nat → World → Prop) (w : World) : Prop :=
 BoolK a1.isNone
 (K none 0 0 w)
 (AllocK w (#[]) 38 fun b2 w3 =>
 ∃ a4, ∃ l4, ∃ c4, ∃ w5, Sem.run Tryz.prog (Builtin.append_ #[33, 33] 33 #[(.slice (some b2) 0 0), (.slice a1 l1 c1)]) w3 = .ok (.slice a4 l4 c4) w5 ∧
 (K a4 l4 c4 w5))
def ann52 : Ann := (.two .nil (.two (.two .nil (.two (.two .nil .nil) .nil)) (.two .nil .nil)))
noncomputable def code52 : Code := match Tryz.f52.body with | some c => c | none => .skip
theorem calls52 (a1 : Option Addr) (l1 : Nat) (c1 : Nat) (K : Option Addr → Nat → Nat → World → Prop) (w : World) (h : N52 a1 l1 c1 K w) : Calls Tryz.prog 52 #[(.slice a1 l1 c1)] w fun en w' => ∃ (a6 : Option Addr), ∃ (l6 : Nat), ∃ (c6 : Nat), en = .returned (.slice a6 l6 c6) ∧ K a6 l6 c6 w' :=
 fn_calls tabOk mixed Tryz.func52 (by kernel_rfl : Tryz.f52.body = some code52) ann52 [(.slice a1 l1 c1)] [(.one .slice)] K w (by kernel_rfl) (by kernel_rfl) (by kernel_rfl) h
end Go.Proofs.YtbiamhoonhjodacGreatDoor

namespace Go.Proofs.YtbiamhoonhjodacGreatDoor
open Go Go.V Go.Proofs Go.V.Gr
open Go.RowKit (Below)
def eFt (f : Ft) : List Value := [.int .i64 f.1, .string f.2]
theorem eFt_len (f : Ft) : (eFt f).length = 2 := rfl
theorem eFt_one (f : Ft) (u : Value) (h : u ∈ eFt f) : u.oneCell' = true := by simp [eFt] at h; rcases h with rfl | rfl <;> rfl
theorem sltF : SlT Tryz.prog 33 38 2 24 := slOk.ok (by kernel_rfl : slOk Tryz.prog 33 38 2 24 = true)
theorem sltN : SlT Tryz.prog 22 36 5 88 := slOk.ok (by kernel_rfl : slOk Tryz.prog 22 36 5 88 = true)
theorem mtI : MapT Tryz.prog 89 3 3 eK eK 0 := ⟨Tryz.underlying89, keyInt Tryz.underlying3, Tryz.zeroValue3⟩
theorem ctr52 (w : World) {a : Option Addr} {l : Nat} (c : Nat) {fs : List Ft} (h : RL 2 RFt w a l fs) (hl : fs.length ≤ 1000000) :
  Calls Tryz.prog 52 #[.slice a l c] w fun en w' => ∃ a' l' c', en = .returned (.slice a' l' c') ∧ (OwnR w.heap.size 38 2 eFt w' a' l' c' fs ∧ Ext w w') := by
 refine calls52 _ _ _ _ w ?_
 refine BoolK.mk (fun t => ?_) (fun t => ?_)
 ·have : fs = [] := by
   rcases h.1.2 with e | ⟨b, o, e, _⟩
   ·exact e
   ·rw [e] at t; cases t
  subst this
  exact ⟨OwnR.nil _ _ _ _ _, Ext.refl w⟩
 ·refine AllocK.mk fun b w3 hb hB x3 => ?_
  have hR : ∀ f x, RFt w3 f x → ∀ j, j < 2 → f j = (eFt x)[j]? := fun f x hx j hj => by
   rcases j with _ | _ | j
   ·exact hx.1
   ·exact hx.2.1
   ·omega
  obtain ⟨a', c', w', q1, q2, q3⟩ := copyInto (ty := 33) (c := c) sltF (h.1.ext RFt.mono x3) (by rintro rfl; cases t) eFt_len eFt_one hR (by omega) hB
  refine ⟨_, _, _, _, q1, ?_, ?_⟩
  ·exact OwnR.mono q2 (by omega)
  ·exact ⟨q3.os.trans x3.os, q3.tape.trans x3.tape, q3.output.trans x3.output, Nat.le_trans x3.size q3.size, fun k hk => (q3.block k (by have := x3.size; omega) (by simp; omega)).trans (x3.block k hk)⟩
structure Rw where
 kd : ByteArray
 n : Int
 tx : ByteArray
 sf : SL
 sk : SL
def eN (r : Rw) : List Value := [.string r.kd, .int .i64 r.n, .string r.tx, .slice r.sf.1 r.sf.2.1 r.sf.2.2, .slice r.sk.1 r.sk.2.1 r.sk.2.2]
theorem eN_len (r : Rw) : (eN r).length = 5 := rfl
theorem eN_one (r : Rw) (u : Value) (h : u ∈ eN r) : u.oneCell' = true := by
 simp [eN] at h; rcases h with rfl | rfl | rfl | rfl | rfl <;> rfl
structure Pl where
 b3 : Nat
 b11 : Nat
 b16 : Nat
 b19 : Nat
 b21 : Nat
 bm : Nat
 a1 : Option Addr
 l1 : Nat
 c1 : Nat
 sc : SL
def Pl.fn (p : Pl) : Value := .func (.func 51) #[] #[(.pointer (some ⟨p.b16, 0, none⟩)), (.pointer (some ⟨p.b11, 0, none⟩)), (.pointer (some ⟨p.b19, 0, none⟩)), (.pointer (some ⟨p.b3, 0, none⟩)), (.pointer (some ⟨p.b21, 0, none⟩))]
structure VS (w0 w : World) (own : OwnM Nat) (p : Pl) (xs : List Nd) (cl : List Int) (vs : List Nat) (RW : List Rw) (s : SL) (K : List (List Int)) (mk : List Int) : Prop where
 loc : Mine own w0 w
 x3 : Bx own 4 w p.b3 #[.slice p.a1 p.l1 p.c1] 22
 x11 : Bx own 5 w p.b11 #[.slice p.sc.1 p.sc.2.1 p.sc.2.2] 34
 x16 : Bx own 6 w p.b16 #[.map (some p.bm)] 89
 x21 : Bx own 7 w p.b21 #[p.fn] 90
 x19 : Bx own 2 w p.b19 #[.int .i64 0, .slice s.1 s.2.1 s.2.2] 24
 cls : FRow own 3 eI w p.sc cl
 map : Mx own 1 eK w p.bm mk 0
 out : RowR own 0 36 5 eN w s RW
 lenR : RW.length = vs.length
 lenK : K.length = vs.length
 nds : ∀ (q : Nat) (r : Rw) (v : Nat) (k : List Int), RW[q]? = some r → vs[q]? = some v → K[q]? = some k → r.kd = (nd xs v).kd ∧ r.n = (nd xs v).n ∧ r.tx = (nd xs v).tx ∧ k.length = (nd xs v).ks.length ∧
  RowR own (11 + 3 * q) 38 2 eFt w r.sf (nd xs v).fs ∧ RowR own (10 + 3 * q) 3 1 eI w r.sk k
structure Kp (own own' : OwnM Nat) (n0 : Nat) (w w' : World) : Prop where
 fr : Fr own own' w w'
 box : ∀ b n, n < n0 → b < w.heap.size → own b = some (12 + 3 * n) → own' b = some (12 + 3 * n) ∧ w'.heap[b]? = w.heap[b]?
section
variable {w0 w w' w'' : World} {own own' own'' : OwnM Nat} {p : Pl} {xs : List Nd} {cl : List Int} {vs : List Nat} {RW : List Rw} {s : SL} {K : List (List Int)} {n0 : Nat} {mk : List Int}
theorem VS.ext (h : VS w0 w own p xs cl vs RW s K mk) (x : Ext w w') : VS w0 w' own p xs cl vs RW s K mk :=
 ⟨h.loc.ext x, h.x3.ext x, h.x11.ext x, h.x16.ext x, h.x21.ext x, h.x19.ext x, h.cls.ext x, h.map.ext x, h.out.ext x, h.lenR, h.lenK, fun q r v k e1 e2 e3 => by
  obtain ⟨f1, f2, f3, f4, f5, f6⟩ := h.nds q r v k e1 e2 e3
  exact ⟨f1, f2, f3, f4, f5.ext x, f6.ext x⟩⟩
theorem VS.upd {r : Nat} (h : VS w0 w own p xs cl vs RW s K mk) (u : Upd own own' r w w') (hr : 8 ≤ r) (hr2 : ∀ q, q < vs.length → r ≠ 10 + 3 * q ∧ r ≠ 11 + 3 * q) : VS w0 w' own' p xs cl vs RW s K mk :=
 ⟨h.loc.upd u, h.x3.upd u (by omega), h.x11.upd u (by omega), h.x16.upd u (by omega), h.x21.upd u (by omega), h.x19.upd u (by omega), h.cls.upd u, h.map.upd u (by omega), h.out.upd u (by omega), h.lenR, h.lenK, fun q r' v k e1 e2 e3 => by
  have hq := (List.getElem?_eq_some_iff.1 e2).1
  have := hr2 q hq
  obtain ⟨f1, f2, f3, f4, f5, f6⟩ := h.nds q r' v k e1 e2 e3
  exact ⟨f1, f2, f3, f4, f5.upd u (by omega), f6.upd u (by omega)⟩⟩
theorem VS.mapAdd {mk' : List Int} (h : VS w0 w own p xs cl vs RW s K mk) (m : Mx own 1 eK w' p.bm mk' 0) (u : Upd own own 1 w w') : VS w0 w' own p xs cl vs RW s K mk' :=
 ⟨h.loc.upd u, h.x3.upd u (by decide), h.x11.upd u (by decide), h.x16.upd u (by decide), h.x21.upd u (by decide), h.x19.upd u (by decide), h.cls.upd u, m, h.out.upd u (by decide), h.lenR, h.lenK, fun q r' v k e1 e2 e3 => by
  obtain ⟨f1, f2, f3, f4, f5, f6⟩ := h.nds q r' v k e1 e2 e3
  exact ⟨f1, f2, f3, f4, f5.upd u (by omega), f6.upd u (by omega)⟩⟩
theorem Bx.setA {ρ : Type} {own : OwnM ρ} {r : ρ} {w : World} {b t i : Nat} {cs : Array Value} {v : Value} (h : Bx own r w b cs t) (hi : i < cs.size) {F : World → Prop} (k : ∀ w', Bx own r w' b (cs.setIfInBounds i v) t → Upd own own r w w' → F w') :
  SetK w ((⟨b, 0, none⟩ : Addr).add i) v F := by
 rw [add_mk, Nat.zero_add]; exact h.set hi k
theorem RowR.setk {ρ : Type} {own : OwnM ρ} {r : ρ} {w : World} {e : TypeId} {s : SL} {xs : List Int} (h : RowR own r e 1 eI w s xs) {i : Nat} (hi : i < xs.length) (v : Int) {F : World → Prop}
  (k : ∀ w', RowR own r e 1 eI w' s (xs.set i v) → Upd own own r w w' → F w') : ∃ b, s.1 = some b ∧ SetK w (b.add (((i : Nat) : Int).toNat * 1)) (.int .i64 v) F := by
 obtain ⟨g, l, c, e1, _⟩ := h.at_ eI_len hi
 subst e1
 exact ⟨_, rfl, RowR.seti h hi v k⟩
theorem VS.setK (h : VS w0 w own p xs cl vs RW s K mk) {q m : Nat} {r : Rw} {k : List Int} (hr : RW[q]? = some r) (hk : K[q]? = some k) (hm : m < k.length) (v : Int) {F : World → Prop}
  (kk : ∀ w', VS w0 w' own p xs cl vs RW s (K.set q (k.set m v)) mk → Upd own own (10 + 3 * q) w w' → F w') : ∃ b, r.sk.1 = some b ∧ SetK w (b.add (((m : Nat) : Int).toNat * 1)) (.int .i64 v) F := by
 have hq : q < vs.length := by rw [← h.lenR]; exact (List.getElem?_eq_some_iff.1 hr).1
 have hqK : q < K.length := (List.getElem?_eq_some_iff.1 hk).1
 obtain ⟨f1, f2, f3, f4, f5, f6⟩ := h.nds q r vs[q] k hr (List.getElem?_eq_getElem hq) hk
 refine RowR.setk f6 hm v fun w' h1 u => kk w' ⟨h.loc.upd u, h.x3.upd u (by omega), h.x11.upd u (by omega), h.x16.upd u (by omega), h.x21.upd u (by omega), h.x19.upd u (by omega), h.cls.upd u, h.map.upd u (by omega), h.out.upd u (by omega), h.lenR, by rw [List.length_set]; exact h.lenK, fun q2 r2 v2 k2 e1 e2 e3 => ?_⟩ u
 rw [List.getElem?_set] at e3
 by_cases hqq : q = q2
 ·subst hqq
  rw [if_pos rfl, if_pos hqK] at e3
  rw [hr] at e1
  cases e1; cases e3
  obtain ⟨g1, g2, g3, g4, g5, g6⟩ := h.nds q r v2 k hr e2 hk
  exact ⟨g1, g2, g3, by rw [List.length_set]; exact g4, g5.upd u (by omega), h1⟩
 ·rw [if_neg hqq] at e3
  obtain ⟨g1, g2, g3, g4, g5, g6⟩ := h.nds q2 r2 v2 k2 e1 e2 e3
  exact ⟨g1, g2, g3, g4, g5.upd u (by omega), g6.upd u (by omega)⟩
theorem VS.more {s' : SL} {i : Nat} {r : Rw} {k : List Int} (h : VS w0 w own p xs cl vs RW s K mk) (h1 : r.kd = (nd xs i).kd) (h2 : r.n = (nd xs i).n) (h3 : r.tx = (nd xs i).tx) (h4 : k.length = (nd xs i).ks.length)
  (hf : RowR own (11 + 3 * vs.length) 38 2 eFt w r.sf (nd xs i).fs) (hk : RowR own (10 + 3 * vs.length) 3 1 eI w r.sk k) (u : Upd own own' 0 w w') (ho : RowR own' 0 36 5 eN w' s' (RW ++ [r])) (u2 : Upd own' own' 2 w' w'')
  (hb : Bx own' 2 w'' p.b19 #[.int .i64 0, .slice s'.1 s'.2.1 s'.2.2] 24) : VS w0 w'' own' p xs cl (vs ++ [i]) (RW ++ [r]) s' (K ++ [k]) mk := by
 refine ⟨(h.loc.upd u).upd u2, (h.x3.upd u (by decide)).upd u2 (by decide), (h.x11.upd u (by decide)).upd u2 (by decide), (h.x16.upd u (by decide)).upd u2 (by decide), (h.x21.upd u (by decide)).upd u2 (by decide), hb, (h.cls.upd u).upd u2, (h.map.upd u (by decide)).upd u2 (by decide), ho.upd u2 (by decide), by simp [h.lenR], by simp [h.lenK], fun q r2 v2 k2 e1 e2 e3 => ?_⟩
 rcases Nat.lt_or_ge q vs.length with hq | hq
 ·rw [List.getElem?_append_left (by rw [h.lenR]; exact hq)] at e1
  rw [List.getElem?_append_left hq] at e2
  rw [List.getElem?_append_left (by rw [h.lenK]; exact hq)] at e3
  obtain ⟨g1, g2, g3, g4, g5, g6⟩ := h.nds q r2 v2 k2 e1 e2 e3
  exact ⟨g1, g2, g3, g4, (g5.upd u (by omega)).upd u2 (by omega), (g6.upd u (by omega)).upd u2 (by omega)⟩
 ·have hq2 : q = vs.length := by have := (List.getElem?_eq_some_iff.1 e2).1; simp at this; omega
  subst hq2
  rw [← h.lenR, List.getElem?_concat_length] at e1
  rw [List.getElem?_concat_length] at e2
  rw [← h.lenK, List.getElem?_concat_length] at e3
  cases e1; cases e2; cases e3
  exact ⟨h1, h2, h3, h4, (hf.upd u (by omega)).upd u2 (by omega), (hk.upd u (by omega)).upd u2 (by omega)⟩
theorem Kp.refl (own : OwnM Nat) (n0 : Nat) (w : World) : Kp own own n0 w w := ⟨Fr.refl _ _, fun _ _ _ _ h => ⟨h, rfl⟩⟩
theorem Kp.ext (x : Ext w w') : Kp own own n0 w w' := ⟨Fr.of_ext _ x, fun b _ _ hb h => ⟨h, x.block b hb⟩⟩
theorem Kp.trans (h : Kp own own' n0 w w') (k : Kp own' own'' n0 w' w'') : Kp own own'' n0 w w'' :=
 ⟨h.fr.trans k.fr, fun b n hn hb e => by
  obtain ⟨e1, e2⟩ := h.box b n hn hb e
  obtain ⟨e3, e4⟩ := k.box b n hn (Nat.lt_of_lt_of_le hb h.fr.size) e1
  exact ⟨e3, e4.trans e2⟩⟩
theorem Kp.upd {r : Nat} (u : Upd own own' r w w') (hr : ∀ n, n < n0 → r ≠ 12 + 3 * n) : Kp own own' n0 w w' :=
 ⟨u.fr, fun b n hn hb e => ⟨by rw [u.same b hb]; exact e, u.block b hb (by rw [e]; simpa using Ne.symm (hr n hn))⟩⟩
theorem Kp.mono {n1 : Nat} (h : Kp own own' n0 w w') (hn : n1 ≤ n0) : Kp own own' n1 w w' := ⟨h.fr, fun b n h1 h2 h3 => h.box b n (by omega) h2 h3⟩
end
def Fil (xs : List Nd) (vs : List Nat) (K : List (List Int)) (q M : Nat) : Prop :=
 ∀ (v : Nat) (k : List Int), vs[q]? = some v → K[q]? = some k → ∀ m, m < k.length → m < M → ∃ p : Nat, k[m]? = some (p : Int) ∧ ∃ u, vs[p]? = some u ∧ Eqv xs xs u (kid xs v m)
theorem Fil.grow {xs : List Nd} {vs t : List Nat} {K K' : List (List Int)} {q M : Nat} (h : Fil xs vs K q M) (hq : q < vs.length) (hK : K'[q]? = K[q]?) : Fil xs (vs ++ t) K' q M := by
 intro v k e1 e2 m hm hM
 rw [List.getElem?_append_left hq] at e1
 rw [hK] at e2
 obtain ⟨p, f1, u, f2, f3⟩ := h v k e1 e2 m hm hM
 exact ⟨p, f1, u, by rw [List.getElem?_append_left (List.getElem?_eq_some_iff.1 f2).1]; exact f2, f3⟩
end Go.Proofs.YtbiamhoonhjodacGreatDoor

namespace Go.Proofs.YtbiamhoonhjodacGreatDoor
open Go Go.V Go.Proofs
open Go.RowKit (Below)
/-! manystrand/graph.least$1 -/
def N51 (x1 : Int) (o2 : Option Addr) (o3 : Option Addr) (o4 : Option Addr) (o5 : Option Addr) (o6 : Option Addr) (K : Int → World → Prop) (w : World) : Prop :=
 DrewK w fun w7 =>
 AddrK o2 fun b8 =>
 ∃ m9, w7.cell? b8 = some (.map m9) ∧
 (AddrK o3 fun b10 =>
 ∃ a11 l11 c11, w7.cell? b10 = some (.slice a11 l11 c11) ∧
 ((0 ≤ x1 ∧ x1 < l11) ∧
 AddrK a11 fun b12 =>
 ∃ x13, w7.cell? (b12.add (x1.toNat * 1)) = some (.int .i64 x13) ∧
 (∃ x14, ∃ p15, ∃ w16, Sem.run Tryz.prog (Instr.lookup 89 (.map m9) (.int .i64 x13) true) w7 = .ok (.tuple #[(.int .i64 x14), (.bool p15)]) w16 ∧
 (BoolK p15
 (K x14 w16)
 (AddrK o4 fun b17 =>
 ∃ a18 l18 c18, w16.cell? (b17.add 1) = some (.slice a18 l18 c18) ∧
 (DrewK w16 fun w19 =>
 AddrK o2 fun b20 =>
 ∃ m21, w19.cell? b20 = some (.map m21) ∧
 (AddrK o3 fun b22 =>
 ∃ a23 l23 c23, w19.cell? b22 = some (.slice a23 l23 c23) ∧
 ((0 ≤ x1 ∧ x1 < l23) ∧
 AddrK a23 fun b24 =>
 ∃ x25, w19.cell? (b24.add (x1.toNat * 1)) = some (.int .i64 x25) ∧
 (∃ w26, Sem.run Tryz.prog (Instr.mapUpdate 89 (.map m21) (.int .i64 x25) (.int .i64 l18)) w19 = .ok () w26 ∧
 (AddrK o5 fun b27 =>
 ∃ a28 l28 c28, w26.cell? b27 = some (.slice a28 l28 c28) ∧
 ((0 ≤ x1 ∧ x1 < l28) ∧
 AddrK a28 fun b29 =>
 ∃ s30, w26.cell? ((b29.add (x1.toNat * 5)).add 0) = some (.string s30) ∧
 (∃ x31, w26.cell? ((b29.add (x1.toNat * 5)).add 1) = some (.int .i64 x31) ∧
 (∃ s32, w26.cell? ((b29.add (x1.toNat * 5)).add 2) = some (.string s32) ∧
 (∃ a33 l33 c33, w26.cell? ((b29.add (x1.toNat * 5)).add 3) = some (.slice a33 l33 c33) ∧
 (∃ a34 l34 c34, w26.cell? ((b29.add (x1.toNat * 5)).add 4) = some (.slice a34 l34 c34) ∧
 (AllocK w26 (#[.string ⟨#[]⟩, .int .i64 0, .string ⟨#[]⟩, .slice none 0 0, .slice none 0 0]) 36 fun b35 w36 =>
 SetK w36 (b35.add 0) (.string s30) fun w37 =>
 SetK w37 (b35.add 1) (.int .i64 x31) fun w38 =>
 SetK w38 (b35.add 2) (.string s32) fun w39 =>
 SetK w39 (b35.add 3) (.slice a33 l33 c33) fun w40 =>
 SetK w40 (b35.add 4) (.slice a34 l34 c34) fun w41 =>
 ∃ a42 l42 c42, w41.cell? (b35.add 3) = some (.slice a42 l42 c42) ∧
 (Calls Tryz.prog 52 #[(.slice a42 l42 c42)] w41 fun e45 w44 =>
 ∃ a43, ∃ l43, ∃ c43, e45 = .returned (.slice a43 l43 c43) ∧
 (SetK w44 (b35.add 3) (.slice a43 l43 c43) fun w46 =>
 ∃ a47 l47 c47, w46.cell? (b35.add 4) = some (.slice a47 l47 c47) ∧
 ((0 ≤ (l47 : Int) ∧ (l47 : Int) ≤ l47 ∧ ((8 : Nat) : Int) * l47 ≤ 281474976710656 ∧ (l47 : Int) ≤ 9223372036854775807) ∧
 AllocK w46 (madeCells (#[.int .i64 0]) ((l47 : Int).toNat * 1)) 3 fun b48 w49 =>
 SetK w49 (b35.add 4) (.slice (some b48) ((l47 : Int).toNat) ((l47 : Int).toNat)) fun w50 =>
 AddrK o4 fun b51 =>
 ∃ a52 l52 c52, w50.cell? (b51.add 1) = some (.slice a52 l52 c52) ∧
 (∃ s53, w50.cell? (b35.add 0) = some (.string s53) ∧
 (∃ x54, w50.cell? (b35.add 1) = some (.int .i64 x54) ∧
 (∃ s55, w50.cell? (b35.add 2) = some (.string s55) ∧
 (∃ a56 l56 c56, w50.cell? (b35.add 3) = some (.slice a56 l56 c56) ∧
 (∃ a57 l57 c57, w50.cell? (b35.add 4) = some (.slice a57 l57 c57) ∧
 (AllocK w50 (#[(.string s53), (.int .i64 x54), (.string s55), (.slice a56 l56 c56), (.slice a57 l57 c57)]) 36 fun b58 w59 =>
 ∃ a60, ∃ l60, ∃ c60, ∃ w61, Sem.run Tryz.prog (Builtin.append_ #[22, 22] 22 #[(.slice a52 l52 c52), (.slice (some b58) 1 1)]) w59 = .ok (.slice a60 l60 c60) w61 ∧
 (AddrK o4 fun b62 =>
 SetK w61 (b62.add 1) (.slice a60 l60 c60) fun w63 =>
 AddrK o5 fun b64 =>
 ∃ a65 l65 c65, w63.cell? b64 = some (.slice a65 l65 c65) ∧
 ((0 ≤ x1 ∧ x1 < l65) ∧
 AddrK a65 fun b66 =>
 ∃ a67 l67 c67, w63.cell? ((b66.add (x1.toNat * 5)).add 4) = some (.slice a67 l67 c67) ∧
 (∃ (I68 : Int → World → Prop) (μ69 : Int → World → Nat),
 (I68 0 w63 ∧ True) ∧
 ∀ w70 x71, I68 x71 w70 →
 BoolK (decide (x71 < l67))
 ((0 ≤ x71 ∧ x71 < l67) ∧
 AddrK a67 fun b72 =>
 ∃ x73, w70.cell? (b72.add (x71.toNat * 1)) = some (.int .i64 x73) ∧
 (DrewK w70 fun w74 =>
 ∃ v75, Cel v75 w74 ∧
 (∃ a76 l76 c76, v75.cell? (b35.add 4) = some (.slice a76 l76 c76) ∧
 (AddrK o6 fun b77 =>
 ∃ (g78 : FuncId) (k79 : Array Value), v75.cell? b77 = some (.func (.func g78) #[] k79) ∧
 (Enters Tryz.prog g78 ∧
 (Calls Tryz.prog g78 (callArgs [] [(.int .i64 x73)] k79.toList) w74 fun e82 w81 =>
 ∃ x80, e82 = .returned (.int .i64 x80) ∧
 (Cel v75 w81 ∧
 ((0 ≤ x71 ∧ x71 < l76) ∧
 AddrK a76 fun b83 =>
 SetK w81 (b83.add (x71.toNat * 1)) (.int .i64 x80) fun w84 =>
 I68 (IntKind.wrap .i64 (x71 + 1)) w84 ∧ μ69 (IntKind.wrap .i64 (x71 + 1)) w84 < μ69 x71 w70))))))))
 (K l18 w70)))))))))))))))))))))))))))))
def ann51 : Ann := (.two .nil (.two (.two (.anyC 11 (.take 0 (.take 1 (.take 2 (.take 3 (.take 4 (.one 5 (.take 6 (.take 7 (.take 8 (.take 9 (.take 10 .done)))))))))))) (.two .nil (.two (.two .nil .nil) .nil))) (.two .nil (.two (.anyC 6 (.take 0 (.take 1 (.take 2 (.take 3 (.take 4 (.take 5 .done))))))) (.two .nil (.two .nil (.two .nil (.two .nil (.two (.two .nil (.one (.loop [(59, (.one (.int .i64)))] [5, 10, 11, 57, 58] (.two .nil (.two (.two .nil .nil) (.two (.one (.two .nil (.anyD 7 (.take 0 (.take 1 (.take 2 (.take 3 (.take 4 (.one 5 (.take 6 .done)))))))))) .nil)))))) (.two .nil .nil))))))))))
noncomputable def code51 : Code := match Tryz.f51.body with | some c => c | none => .skip
theorem calls51 (x1 : Int) (o2 : Option Addr) (o3 : Option Addr) (o4 : Option Addr) (o5 : Option Addr) (o6 : Option Addr) (K : Int → World → Prop) (w : World) (h : N51 x1 o2 o3 o4 o5 o6 K w) : Calls Tryz.prog 51 #[(.int .i64 x1), (.pointer o2), (.pointer o3), (.pointer o4), (.pointer o5), (.pointer o6)] w fun en w' => ∃ (x85 : Int), en = .returned (.int .i64 x85) ∧ K x85 w' :=
 fn_calls tabOk mixed Tryz.func51 (by kernel_rfl : Tryz.f51.body = some code51) ann51 [(.int .i64 x1), (.pointer o2), (.pointer o3), (.pointer o4), (.pointer o5), (.pointer o6)] [(.one (.int .i64))] K w (by kernel_rfl) (by kernel_rfl) (by kernel_rfl) h
end Go.Proofs.YtbiamhoonhjodacGreatDoor

namespace Go.Proofs.YtbiamhoonhjodacGreatDoor
open Go Go.V Go.Proofs Go.V.Gr
open Go.RowKit (Below)
section
variable {w0 w : World} {own : OwnM Nat} {p : Pl} {xs : List Nd} {cl : List Int} {vs : List Nat} {RW : List Rw} {s : SL} {K : List (List Int)}
def VisitPost (w0 : World) (own : OwnM Nat) (p : Pl) (xs : List Nd) (cl : List Int) (vs : List Nat) (RW : List Rw) (K : List (List Int)) (i : Nat) (w : World) (r : Int) (w' : World) : Prop :=
 ∃ own' vs' RW' s' K', VS w0 w' own' p xs cl vs' RW' s' K' (vs'.map (ga cl)) ∧ Dfs xs [i] vs vs' ∧ Kp own own' vs.length w w' ∧ (∃ q : Nat, r = q ∧ ∃ v, vs'[q]? = some v ∧ Eqv xs xs v i) ∧
  (∀ q, q < vs.length → K'[q]? = K[q]? ∧ RW'[q]? = RW[q]?) ∧ ∀ q, vs.length ≤ q → ∀ M, Fil xs vs' K' q M
theorem seen_iff (hcl : Cls xs cl) (hv : ∀ v ∈ vs, v < xs.length) {i : Nat} (hi : i < xs.length) : ga cl i ∈ vs.map (ga cl) ↔ Seen xs vs i := by
 constructor
 ·intro h
  obtain ⟨v, h1, h2⟩ := List.mem_map.1 h
  exact ⟨v, h1, (hcl.2 v i (hv v h1) hi).1 h2⟩
 ·rintro ⟨v, h1, h2⟩
  exact List.mem_map.2 ⟨v, h1, (hcl.2 v i (hv v h1) hi).2 h2⟩
theorem apart_nodup (ha : Apart xs vs) : vs.Nodup := by
 rw [List.Nodup, List.pairwise_iff_getElem]
 intro a b h1 h2 hab e
 have := ha a b _ _ (List.getElem?_eq_getElem h1) (List.getElem?_eq_getElem h2) (by rw [e]; exact Eqv.refl _ _)
 omega
theorem vs_len (ha : Apart xs vs) (hv : ∀ v ∈ vs, v < xs.length) : vs.length ≤ xs.length := by
 have := len_le_of_sub _ (List.range xs.length) (apart_nodup ha) fun x hx => List.mem_range.2 (hv x hx)
 simpa using this
end
set_option maxRecDepth 100000 in
theorem ctr51 {p : Pl} {xs : List Nd} {cl : List Int} {w0 : World} (hN : RNds w0 p.a1 p.l1 xs) (hc : Closed xs) (hz : Sz xs) (hcl : Cls xs cl) : ∀ (d : Nat) (w : World) (own : OwnM Nat) (vs : List Nat) (RW : List Rw) (s : SL) (K : List (List Int)) (i : Nat),
  VS w0 w own p xs cl vs RW s K (vs.map (ga cl)) → i < xs.length → Apart xs vs → (∀ v ∈ vs, v < xs.length) → xs.length + 1 - vs.length ≤ d →
  Calls Tryz.prog 51 #[.int .i64 (i : Int), (.pointer (some ⟨p.b16, 0, none⟩)), (.pointer (some ⟨p.b11, 0, none⟩)), (.pointer (some ⟨p.b19, 0, none⟩)), (.pointer (some ⟨p.b3, 0, none⟩)), (.pointer (some ⟨p.b21, 0, none⟩))] w fun en w' =>
   ∃ r, en = .returned (.int .i64 r) ∧ VisitPost w0 own p xs cl vs RW K i w r w' := by
 intro d
 induction d with
 | zero =>
  intro w own vs RW s K i _ _ ha hv hd
  have := vs_len ha hv; omega
 | succ d ih =>
  intro w own vs RW s K i h hi ha hv hd
  have hn := hz.len
  have hvl := vs_len ha hv
  have hl1 := hN.len
  refine calls51 _ _ _ _ _ _ _ w ?_
  refine DrewK.mk fun w7 x7 => ?_
  have h7 := h.ext x7
  have g16 : ∀ {w'} {own' : OwnM Nat} {RW' s' K' mk'} {vs'}, VS w0 w' own' p xs cl vs' RW' s' K' mk' → w'.cell? (⟨p.b16, 0, none⟩ : Addr) = some (.map (some p.bm)) := fun h => by rw [h.x16.blk.cell]; rfl
  have g11 : ∀ {w'} {own' : OwnM Nat} {RW' s' K' mk'} {vs'}, VS w0 w' own' p xs cl vs' RW' s' K' mk' → w'.cell? (⟨p.b11, 0, none⟩ : Addr) = some (.slice p.sc.1 p.sc.2.1 p.sc.2.2) := fun h => by rw [h.x11.blk.cell]; rfl
  have g3 : ∀ {w'} {own' : OwnM Nat} {RW' s' K' mk'} {vs'}, VS w0 w' own' p xs cl vs' RW' s' K' mk' → w'.cell? (⟨p.b3, 0, none⟩ : Addr) = some (.slice p.a1 p.l1 p.c1) := fun h => by rw [h.x3.blk.cell]; rfl
  have hil : i < cl.length := by rw [hcl.1]; exact hi
  have gcl : ∀ {w'} {own' : OwnM Nat} {RW' s' K' mk'} {vs'}, VS w0 w' own' p xs cl vs' RW' s' K' mk' → ∃ g, p.sc.1 = some ⟨g, 0, none⟩ ∧ w'.cell? ((⟨g, 0, none⟩ : Addr).add (((i : Nat) : Int).toNat * 1)) = some (.int .i64 (ga cl i)) := fun h => by
   obtain ⟨g, e1, e2⟩ := h.cls.at_ eI_len hil
   exact ⟨g, e1, e2.trans (by rw [ga_get hil]; rfl)⟩
  have hscl : p.sc.2.1 = cl.length := h.cls.row.1
  obtain ⟨gc, ec, qc⟩ := gcl h7
  refine ⟨_, g16 h7, _, _, _, g11 h7, ⟨by omega, by rw [hscl]; omega⟩, adK ec ⟨_, qc, ?_⟩⟩
  obtain ⟨x14, ok, q1, q2⟩ := h7.map.num.look2 (P := Tryz.prog) mtI (ga cl i)
  refine ⟨_, _, _, q1, ?_⟩
  rcases q2 with ⟨q, f1, rfl, rfl⟩ | ⟨hnin, rfl, rfl⟩
  ·refine BoolK.mk (fun _ => ?_) (fun t => by cases t)
   rw [List.getElem?_map] at f1
   obtain ⟨v, f2, f3⟩ := Option.map_eq_some_iff.1 f1
   have hvm := hv v (List.mem_of_getElem? f2)
   have ev : Eqv xs xs v i := (hcl.2 v i hvm hi).1 f3
   refine ⟨own, vs, RW, s, K, h7, .hit ⟨v, List.mem_of_getElem? f2, ev⟩ (.nil _), Kp.ext x7, ⟨q, by omega, v, f2, ev⟩, fun q _ => ⟨rfl, rfl⟩, fun q hq M v k e1 => ?_⟩
   rw [List.getElem?_eq_none hq] at e1; cases e1
  refine BoolK.mk (fun t => by cases t) (fun _ => ?_)
  have hns : ¬ Seen xs vs i := fun hs => hnin ((seen_iff hcl hv hi).2 hs)
  have hlt : vs.length < xs.length := by
   have := vs_len (ha.push hns) (fun v hv' => by
    rcases List.mem_append.1 hv' with h | h
    ·exact hv v h
    ·simp at h; subst h; exact hi)
   simp at this; omega
  have hsl : s.2.1 = vs.length := by rw [h.out.len, h.lenR]
  refine ⟨_, _, _, by rw [add_mk, h7.x19.blk.cell]; rfl, DrewK.mk fun w19 x19 => ?_⟩
  have h19 := h7.ext x19
  obtain ⟨gc2, ec2, qc2⟩ := gcl h19
  refine ⟨_, g16 h19, _, _, _, g11 h19, ⟨by omega, by rw [hscl]; omega⟩, adK ec2 ⟨_, qc2, ?_⟩⟩
  obtain ⟨w26, r1, mx26, u26⟩ := h19.map.add (P := Tryz.prog) mtI (a := ga cl i) (v := ((s.2.1 : Nat) : Int)) (by rw [hsl, List.length_map]; omega) hnin
  refine ⟨w26, r1, ?_⟩
  have h26 := h19.mapAdd mx26 u26
  have y0 := h26.loc.below
  obtain ⟨bN, haN, n0, n1, n2, n3, n4, ⟨a3, l3, c3, n5, n6⟩, ⟨a4, l4, c4, n7, n8⟩, _⟩ := ndAt hN (Ext.refl w0) hi
  refine ⟨_, _, _, g3 h26, ⟨by omega, by omega⟩, adK haN ⟨_, y0.cell n0, _, y0.cell n1, _, y0.cell n2, _, _, _, y0.cell n5, _, _, _, y0.cell n7, ?_⟩⟩
  have hfl := hz.fs _ (List.getElem_mem hi)
  have hkl := hz.ks _ (List.getElem_mem hi)
  have hl4 : l4 = xs[i].ks.length := n8.len
  refine local5 fun b35 w41 hb35 hB35 x41 => ?_
  have uA : Upd own (setOwn own (some b35) (12 + 3 * vs.length)) (12 + 3 * vs.length) w26 w41 := Upd.fresh x41 (by omega) hB35.lt _
  have bxA : Bx (setOwn own (some b35) (12 + 3 * vs.length)) (12 + 3 * vs.length) w41 b35 _ _ := ⟨hB35, by unfold setOwn; rw [if_pos rfl]⟩
  have h41 := h26.upd uA (by omega) (fun q hq => by omega)
  generalize setOwn own (some b35) (12 + 3 * vs.length) = ownA at uA bxA h41
  refine ⟨_, _, _, by rw [add_mk, bxA.blk.cell]; rfl, ?_⟩
  refine (ctr52 w41 c3 (n6.ext RFt.mono (y0.trans x41)) hfl).mono ?_
  rintro en w44 ⟨a43, l43, c43, rfl, hO43, x44⟩
  obtain ⟨rowF, uF⟩ := RowR.adopt (s := (a43, l43, c43)) hO43 (Nat.le_refl _) x44 ownA (11 + 3 * vs.length)
  have h44 := h41.upd uF (by omega) (fun q hq => by omega)
  have bx44 := bxA.upd uF (by omega)
  generalize setOwn ownA (sblk (a43, l43, c43)) (11 + 3 * vs.length) = ownF at rowF uF h44 bx44
  refine ⟨_, _, _, rfl, Bx.setA bx44 (by simp) fun w46 bx46 u46 => ?_⟩
  have h46 := h44.upd u46 (by omega) (fun q hq => by omega)
  have rowF46 := rowF.upd u46 (by omega)
  refine ⟨_, _, _, by rw [add_mk, bx46.blk.cell]; rfl, ⟨by omega, by omega, by omega, by omega⟩, ?_⟩
  rw [Int.toNat_natCast]
  refine RowR.make (x := (0 : Int)) (enc := eI) rfl (by simp only [maxLen]; omega) ownF (10 + 3 * vs.length) fun b48 w49 rowK uK x49 hb48 => ?_
  have h49 := h46.upd uK (by omega) (fun q hq => by omega)
  have rowF49 := rowF46.upd uK (by omega)
  have bx49 := bx46.upd uK (by omega)
  generalize setOwn ownF (some b48) (10 + 3 * vs.length) = ownK at rowK uK h49 rowF49 bx49
  refine Bx.setA bx49 (by simp) fun w50 bx50 u50 => ?_
  have h50 := h49.upd u50 (by omega) (fun q hq => by omega)
  have rowF50 := rowF49.upd u50 (by omega)
  have rowK50 := rowK.upd u50 (by omega)
  refine ⟨_, _, _, by rw [add_mk, h50.x19.blk.cell]; rfl, _, by rw [add_mk, bx50.blk.cell]; rfl, _, by rw [add_mk, bx50.blk.cell]; rfl, _, by rw [add_mk, bx50.blk.cell]; rfl, _, _, _, by rw [add_mk, bx50.blk.cell]; rfl, _, _, _, by rw [add_mk, bx50.blk.cell]; rfl, ?_⟩
  refine RowR.push (⟨xs[i].kd, xs[i].n, xs[i].tx, (a43, l43, c43), (some ⟨b48, 0, none⟩, l4, l4)⟩ : Rw) sltN h50.out eN_len eN_one (by rw [h50.lenR]; omega) rfl fun s' w61 rowO uO => ?_
  have x19' := h50.x19.upd uO (by decide)
  have bx61 := bx50.upd uO (by omega)
  have hkp61 : Kp own (setOwn ownK (sblk s') 0) vs.length w w61 :=
   (Kp.ext (x7.trans x19)).trans ((Kp.upd u26 (by omega)).trans ((Kp.upd uA (by omega)).trans ((Kp.upd uF (by omega)).trans ((Kp.upd u46 (by omega)).trans ((Kp.upd uK (by omega)).trans ((Kp.upd u50 (by omega)).trans (Kp.upd uO (by omega))))))))
  generalize hOwnO : setOwn ownK (sblk s') 0 = ownO at rowO uO x19' bx61 hkp61
  refine Bx.setA x19' (by simp) fun w63 x63 u63 => ?_
  have h63 : VS w0 w63 ownO p xs cl (vs ++ [i]) (RW ++ [⟨xs[i].kd, xs[i].n, xs[i].tx, (a43, l43, c43), (some ⟨b48, 0, none⟩, l4, l4)⟩]) s' (K ++ [List.replicate l4 0]) (vs.map (ga cl) ++ [ga cl i]) :=
   h50.more (by rw [nd_get hi]) (by rw [nd_get hi]) (by rw [nd_get hi]) (by rw [nd_get hi, List.length_replicate]; exact hl4) (by rw [nd_get hi]; exact rowF50) rowK50 uO rowO u63 (by simpa using x63)
  have bx63 := bx61.upd u63 (by omega)
  have hkp63 := hkp61.trans (Kp.upd u63 (by omega))
  have y63 := h63.loc.below
  refine ⟨_, _, _, g3 h63, ⟨by omega, by omega⟩, adK haN ⟨_, _, _, y63.cell n7, ?_⟩⟩
  have hd2 : xs.length + 1 - (vs.length + 1) ≤ d := by omega
  have hkidl : (Gr.kids xs i).length = l4 := by rw [kids_len, nd_get hi]; exact hl4.symm
  generalize hraw : (⟨xs[i].kd, xs[i].n, xs[i].tx, (a43, l43, c43), (some ⟨b48, 0, none⟩, l4, l4)⟩ : Rw) = raw at h63
  have hrawk : raw.sk = (some ⟨b48, 0, none⟩, l4, l4) := by rw [← hraw]
  have hmk : vs.map (ga cl) ++ [ga cl i] = (vs ++ [i]).map (ga cl) := by simp
  rw [hmk] at h63
  refine ⟨fun x w' => ∃ (m : Nat) (own' : OwnM Nat) (vs' : List Nat) (RW' : List Rw) (s2 : SL) (K' : List (List Int)), x = m ∧ m ≤ l4 ∧ VS w0 w' own' p xs cl vs' RW' s2 K' (vs'.map (ga cl)) ∧ Dfs xs ((Gr.kids xs i).take m) (vs ++ [i]) vs' ∧ Kp ownO own' (vs.length + 1) w63 w' ∧
    RW'[vs.length]? = some raw ∧ (∀ q, q < vs.length → K'[q]? = K[q]? ∧ RW'[q]? = RW[q]?) ∧ Fil xs vs' K' vs.length m ∧ (∀ q, vs.length < q → ∀ M, Fil xs vs' K' q M), fun x _ => l4 - x.toNat,
   ⟨⟨0, _, _, _, _, _, rfl, by omega, h63, .nil _, Kp.refl _ _ _, by rw [← h.lenR, List.getElem?_concat_length], fun q hq => ⟨by rw [List.getElem?_append_left (by rw [h.lenK]; exact hq)], by rw [List.getElem?_append_left (by rw [h.lenR]; exact hq)]⟩, fun v k _ _ m _ hm => by omega, fun q hq M v k e1 => ?_⟩, trivial⟩, ?_⟩
  ·rw [List.getElem?_eq_none (by simp; omega)] at e1; cases e1
  rintro w70 _ ⟨m, own', vs', RW', s2, K', rfl, hm, hV, hD, hKp, hRn, hold, hFn, hFq⟩
  have haB : Apart xs (vs ++ [i]) := ha.push hns
  have hvB : ∀ v ∈ vs ++ [i], v < xs.length := fun v hv' => by
   rcases List.mem_append.1 hv' with h | h
   ·exact hv v h
   ·simp at h; subst h; exact hi
  have hkin : ∀ k ∈ Gr.kids xs i, k < xs.length := fun k hk => by
   obtain ⟨m', hm', e⟩ := List.getElem_of_mem hk
   have e2 := kids_get (by rw [← kids_len]; exact hm')
   rw [List.getElem?_eq_getElem hm', e] at e2
   cases e2; exact kid_lt hc hi (by rw [← kids_len]; exact hm')
  have haV := hD.apart haB
  have hvV := hD.lt hc (fun k hk => hkin k (List.mem_of_mem_take hk)) hvB
  obtain ⟨tl, htl⟩ := hD.grow
  have hvl' : vs.length + 1 ≤ vs'.length := by rw [htl]; simp
  have hvi : vs'[vs.length]? = some i := by rw [htl, List.append_assoc, List.getElem?_append_right (Nat.le_refl _)]; simp
  have own35 : ownO b35 = some (12 + 3 * vs.length) := bx63.own
  refine BoolK.mk (fun t => ?_) (fun t => ?_)
  ·have hmlt : m < l4 := by have := of_decide_eq_true t; omega
   have hmk4 : m < xs[i].ks.length := by omega
   have y70 := hV.loc.below
   obtain ⟨b72, ha2, z0⟩ := ksAt n8 y70 hmk4
   have hkid := hc _ (List.getElem_mem hi) _ (List.getElem_mem hmk4)
   have hkg : (Gr.kids xs i)[m]? = some (kid xs i m) := kids_get (by rw [nd_get hi]; exact hmk4)
   have hkv : xs[i].ks[m] = ((kid xs i m : Nat) : Int) := by
    rw [kid, nd_get hi, List.getElem?_eq_getElem hmk4]
    show _ = ((xs[i].ks[m].toNat : Nat) : Int)
    omega
   have hkl2 : kid xs i m < xs.length := kid_lt hc hi (by rw [nd_get hi]; exact hmk4)
   rw [hkv] at z0
   refine ⟨⟨by omega, by omega⟩, adK ha2 ⟨_, z0, DrewK.mk fun w74 x74 => ?_⟩⟩
   have hV := hV.ext x74
   obtain ⟨o35, s35⟩ := hKp.box b35 vs.length (by omega) bx63.blk.lt own35
   have bx70 : Blk w70 b35 _ _ := s35.trans bx63.blk
   have bx74 := bx70.ext x74
   refine ⟨cutW w74 (fun k => k == b35 || k == p.b21), cutW_cel fun k _ _ => rfl, _, _, _, by rw [cutW_cell (by simp [add_mk]), add_mk, bx74.cell]; rfl, _, _, by rw [cutW_cell (by simp), hV.x21.blk.cell]; rfl, Tryz.call51, ?_⟩
   refine (ih w74 own' vs' RW' s2 K' (kid xs i m) hV hkl2 haV hvV (by omega)).mono ?_
   rintro en w80 ⟨r, rfl, own2, vs2, RW2, s3, K2, hV2, hD2, hKp2, ⟨qr, rfl, vr, hvr, evr⟩, hold2, hF2⟩
   have o35' : own' b35 = some (12 + 3 * vs.length) := o35
   obtain ⟨o35b, s35b⟩ := hKp2.box b35 vs.length (by omega) bx74.lt o35'
   have cel : Cel (cutW w74 (fun k => k == b35 || k == p.b21)) w80 := cutW_cel fun k hk _ => by
    rw [Bool.or_eq_true, beq_iff_eq, beq_iff_eq] at hk
    rcases hk with rfl | rfl
    ·exact s35b
    ·have e1 : w80.heap[p.b21]? = _ := hV2.x21.blk
     have e2 : w74.heap[p.b21]? = _ := hV.x21.blk
     rw [e1, e2]
   obtain ⟨tl2, htl2⟩ := hD2.grow
   have hn0 : vs.length < vs'.length := by omega
   obtain ⟨hK2, hR2⟩ := hold2 vs.length hn0
   have hlK' : vs.length < K'.length := by rw [hV.lenK]; omega
   have hkk : K2[vs.length]? = some (K'[vs.length]'hlK') := by rw [hK2, List.getElem?_eq_getElem]
   have hkkl : (K'[vs.length]'hlK').length = l4 := by
    obtain ⟨_, _, _, g4, _⟩ := hV.nds vs.length raw i _ hRn hvi (List.getElem?_eq_getElem hlK')
    rw [g4, nd_get hi]; exact hl4.symm
   generalize K'[vs.length]'hlK' = kk at hkk hkkl
   have key : ∀ w84, VS w0 w84 own2 p xs cl vs2 RW2 s3 (K2.set vs.length (kk.set m (qr : Int))) (vs2.map (ga cl)) → Upd own2 own2 (10 + 3 * vs.length) w80 w84 → (fun w84 => (∃ (m' : Nat) (own' : OwnM Nat) (vs' : List Nat) (RW' : List Rw) (s2 : SL) (K' : List (List Int)), IntKind.wrap .i64 ((m : Int) + 1) = m' ∧ m' ≤ l4 ∧ VS w0 w84 own' p xs cl vs' RW' s2 K' (vs'.map (ga cl)) ∧ Dfs xs ((Gr.kids xs i).take m') (vs ++ [i]) vs' ∧ Kp ownO own' (vs.length + 1) w63 w84 ∧
    RW'[vs.length]? = some raw ∧ (∀ q, q < vs.length → K'[q]? = K[q]? ∧ RW'[q]? = RW[q]?) ∧ Fil xs vs' K' vs.length m' ∧ (∀ q, vs.length < q → ∀ M, Fil xs vs' K' q M)) ∧ l4 - (IntKind.wrap .i64 ((m : Int) + 1)).toNat < l4 - ((m : Nat) : Int).toNat) w84 := by
    intro w84 hV84 u84
    show (_ ∧ _)
    rw [wrap_succ (by omega)]
    refine ⟨⟨m + 1, own2, vs2, RW2, s3, _, rfl, by omega, hV84, ?_, ((hKp.trans (Kp.ext x74)).trans (hKp2.mono (by omega))).trans (Kp.upd u84 (by omega)), by rw [hR2]; exact hRn, fun q hq => ?_, ?_, fun q hq M => ?_⟩, by simp; omega⟩
    ·rw [List.take_add_one, hkg]; exact hD.append hD2
    ·obtain ⟨g1, g2⟩ := hold2 q (by omega)
     obtain ⟨g3, g4⟩ := hold q hq
     exact ⟨by rw [List.getElem?_set, if_neg (by omega), g1, g3], by rw [g2, g4]⟩
    ·intro v k e1 e2 m2 hm2 hm3
     rw [List.getElem?_set, if_pos rfl, if_pos (List.getElem?_eq_some_iff.1 hkk).1] at e2
     cases e2
     have hvv : v = i := by
      rw [htl2, List.getElem?_append_left hn0, hvi] at e1; cases e1; rfl
     subst hvv
     rw [List.getElem?_set]
     by_cases e : m = m2
     ·subst e
      exact ⟨qr, by rw [if_pos rfl, if_pos (by omega)], vr, hvr, evr⟩
     ·rw [if_neg e]
      have hk0 : K'[vs.length]? = some kk := by rw [← hK2]; exact hkk
      obtain ⟨pp, f1, u, f2, f3⟩ := hFn v kk hvi hk0 m2 (by simpa using hm2) (by omega)
      exact ⟨pp, f1, u, by rw [htl2, List.getElem?_append_left (List.getElem?_eq_some_iff.1 f2).1]; exact f2, f3⟩
    ·have hne : ¬ vs.length = q := by omega
     have eK : (K2.set vs.length (kk.set m (qr : Int)))[q]? = K2[q]? := by rw [List.getElem?_set, if_neg hne]
     rcases Nat.lt_or_ge q vs'.length with h1 | h1
     ·have := (hFq q hq M).grow (t := tl2) h1 (K' := K2.set vs.length (kk.set m (qr : Int))) (by rw [eK]; exact (hold2 q h1).1)
      rw [htl2]; exact this
     ·intro v k e1 e2
      rw [eK] at e2
      exact hF2 q h1 M v k e1 e2
   obtain ⟨b82, e82, set82⟩ := hV2.setK (m := m) (by rw [hR2]; exact hRn) hkk (by omega) (qr : Int) key
   refine ⟨_, rfl, cel, ⟨by omega, by show (m : Int) < ((l4 : Nat) : Int).toNat; omega⟩, ?_⟩
   rw [hrawk] at e82
   cases e82
   exact set82
  ·have hml : m = l4 := by have := of_decide_eq_false t; omega
   subst hml
   rw [← hkidl, List.take_length] at hD
   refine ⟨own', vs', RW', s2, K', hV, .new hns hD (.nil _), hkp63.trans (hKp.mono (by omega)), ⟨vs.length, by rw [hsl], i, hvi, Eqv.refl _ _⟩, hold, fun q hq M => ?_⟩
   rcases Nat.lt_or_ge vs.length q with h1 | h1
   ·exact hFq q h1 M
   ·have : q = vs.length := by omega
    subst this
    intro v k e1 e2 m2 hm2 _
    refine hFn v k e1 e2 m2 hm2 ?_
    have hvv : v = i := by rw [hvi] at e1; cases e1; rfl
    subst hvv
    obtain ⟨_, _, _, g4, _⟩ := hV.nds vs.length raw v k hRn e1 e2
    rw [g4, nd_get hi] at hm2; omega
end Go.Proofs.YtbiamhoonhjodacGreatDoor

namespace Go.Proofs.YtbiamhoonhjodacGreatDoor
open Go Go.V Go.Proofs
open Go.RowKit (Below)
/-! manystrand/graph.least -/
def N28 (a1 : Option Addr) (l1 : Nat) (c1 : Nat) (x2 : Int) (K : Int → Option Addr → Nat → Nat → World → Prop) (w : World) : Prop :=
 AllocK w (#[(.slice a1 l1 c1)]) 22 fun b3 w4 =>
 AllocK w4 (#[.int .i64 0, .slice none 0 0]) 24 fun b5 w6 =>
 ∃ a7 l7 c7, w6.cell? b3 = some (.slice a7 l7 c7) ∧
 (Calls Tryz.prog 26 #[(.slice a7 l7 c7)] w6 fun e10 w9 =>
 ∃ a8, ∃ l8, ∃ c8, e10 = .returned (.slice a8 l8 c8) ∧
 (AllocK w9 (#[.slice none 0 0]) 34 fun b11 w12 =>
 SetK w12 b11 (.slice a8 l8 c8) fun w13 =>
 ∃ m14, ∃ w15, Sem.run Tryz.prog (Instr.makeMap 89 none) w13 = .ok (.map m14) w15 ∧
 (AllocK w15 (#[.map none]) 89 fun b16 w17 =>
 SetK w17 b16 (.map m14) fun w18 =>
 AllocK w18 (#[.int .i64 0, .slice none 0 0]) 24 fun b19 w20 =>
 AllocK w20 (#[.nilFunc]) 90 fun b21 w22 =>
 SetK w22 b21 (.func (.func 51) #[] #[(.pointer (some b16)), (.pointer (some b11)), (.pointer (some b19)), (.pointer (some b3)), (.pointer (some b21))]) fun w23 =>
 ∃ (g24 : FuncId) (k25 : Array Value), w23.cell? b21 = some (.func (.func g24) #[] k25) ∧
 (Enters Tryz.prog g24 ∧
 (Calls Tryz.prog g24 (callArgs [] [(.int .i64 x2)] k25.toList) w23 fun e28 w27 =>
 ∃ x26, e28 = .returned (.int .i64 x26) ∧
 (∃ x29, w27.cell? (b19.add 0) = some (.int .i64 x29) ∧
 (∃ a30 l30 c30, w27.cell? (b19.add 1) = some (.slice a30 l30 c30) ∧
 (SetK w27 (b5.add 0) (.int .i64 x29) fun w31 =>
 SetK w31 (b5.add 1) (.slice a30 l30 c30) fun w32 =>
 ∃ x33, w32.cell? (b5.add 0) = some (.int .i64 x33) ∧
 (∃ a34 l34 c34, w32.cell? (b5.add 1) = some (.slice a34 l34 c34) ∧
 (K x33 a34 l34 c34 w32))))))))))
def ann28 : Ann := (.two .nil (.two .nil (.two .nil (.two .nil (.two .nil (.two .nil (.two .nil (.two .nil .nil))))))))
noncomputable def code28 : Code := match Tryz.f28.body with | some c => c | none => .skip
theorem calls28 (a1 : Option Addr) (l1 : Nat) (c1 : Nat) (x2 : Int) (K : Int → Option Addr → Nat → Nat → World → Prop) (w : World) (h : N28 a1 l1 c1 x2 K w) : Calls Tryz.prog 28 #[(.slice a1 l1 c1), (.int .i64 x2)] w fun en w' => ∃ (x35 : Int), ∃ (a36 : Option Addr), ∃ (l36 : Nat), ∃ (c36 : Nat), en = .returned (.agg #[(.int .i64 x35), (.slice a36 l36 c36)]) ∧ K x35 a36 l36 c36 w' :=
 fn_calls tabOk mixed Tryz.func28 (by kernel_rfl : Tryz.f28.body = some code28) ann28 [(.slice a1 l1 c1), (.int .i64 x2)] [(.agg [(.int .i64), .slice])] K w (by kernel_rfl) (by kernel_rfl) (by kernel_rfl) h
end Go.Proofs.YtbiamhoonhjodacGreatDoor

namespace Go.Proofs.YtbiamhoonhjodacGreatDoor
open Go Go.V Go.Proofs
open Go.RowKit (Below)
/-! manystrand/graph.Least -/
def N10 (x1 : Int) (a2 : Option Addr) (l2 : Nat) (c2 : Nat) (K : Int → Option Addr → Nat → Nat → Int → World → Prop) (w : World) : Prop :=
 AllocK w (#[(.int .i64 x1), (.slice a2 l2 c2)]) 24 fun b3 w4 =>
 AllocK w4 (#[.int .i64 0, .slice none 0 0]) 24 fun b5 w6 =>
 ∃ x7, w6.cell? (b3.add 0) = some (.int .i64 x7) ∧
 (∃ a8 l8 c8, w6.cell? (b3.add 1) = some (.slice a8 l8 c8) ∧
 (Calls Tryz.prog 25 #[(.agg #[(.int .i64 x7), (.slice a8 l8 c8)])] w6 fun e11 w10 =>
 ∃ p9, e11 = .returned (.bool p9) ∧
 (BoolK (!p9)
 (SetK w10 (b5.add 0) (.int .i64 0) fun w12 =>
 SetK w12 (b5.add 1) (.slice none 0 0) fun w13 =>
 ∃ x14, w13.cell? (b5.add 0) = some (.int .i64 x14) ∧
 (∃ a15 l15 c15, w13.cell? (b5.add 1) = some (.slice a15 l15 c15) ∧
 (K x14 a15 l15 c15 50 w13)))
 (∃ a16 l16 c16, w10.cell? (b3.add 1) = some (.slice a16 l16 c16) ∧
 (∃ x17, w10.cell? b3 = some (.int .i64 x17) ∧
 (Calls Tryz.prog 28 #[(.slice a16 l16 c16), (.int .i64 x17)] w10 fun e21 w20 =>
 ∃ x18, ∃ a19, ∃ l19, ∃ c19, e21 = .returned (.agg #[(.int .i64 x18), (.slice a19 l19 c19)]) ∧
 (SetK w20 (b5.add 0) (.int .i64 x18) fun w22 =>
 SetK w22 (b5.add 1) (.slice a19 l19 c19) fun w23 =>
 ∃ x24, w23.cell? (b5.add 0) = some (.int .i64 x24) ∧
 (∃ a25 l25 c25, w23.cell? (b5.add 1) = some (.slice a25 l25 c25) ∧
 (K x24 a25 l25 c25 0 w23)))))))))
def ann10 : Ann := (.two .nil (.two (.two .nil (.two (.two .nil .nil) .nil)) (.two .nil .nil)))
noncomputable def code10 : Code := match Tryz.f10.body with | some c => c | none => .skip
theorem calls10 (x1 : Int) (a2 : Option Addr) (l2 : Nat) (c2 : Nat) (K : Int → Option Addr → Nat → Nat → Int → World → Prop) (w : World) (h : N10 x1 a2 l2 c2 K w) : Calls Tryz.prog 10 #[(.agg #[(.int .i64 x1), (.slice a2 l2 c2)])] w fun en w' => ∃ (x26 : Int), ∃ (a27 : Option Addr), ∃ (l27 : Nat), ∃ (c27 : Nat), ∃ (x28 : Int), en = .returned (.tuple #[(.agg #[(.int .i64 x26), (.slice a27 l27 c27)]), (.int .i64 x28)]) ∧ K x26 a27 l27 c27 x28 w' :=
 fn_calls tabOk mixed Tryz.func10 (by kernel_rfl : Tryz.f10.body = some code10) ann10 [(.agg #[(.int .i64 x1), (.slice a2 l2 c2)])] [(.agg [(.int .i64), .slice]), (.one (.int .i64))] K w (by kernel_rfl) (by kernel_rfl) (by kernel_rfl) h
end Go.Proofs.YtbiamhoonhjodacGreatDoor

namespace Go.Proofs.YtbiamhoonhjodacGreatDoor
open Go Go.V Go.Proofs Go.V.Gr
open Go.RowKit (Below)
def outOf (xs : List Nd) (vs : List Nat) (K : List (List Int)) : List Nd := (List.range vs.length).map fun q => { nd xs (vs[q]?.getD 0) with ks := K[q]?.getD [] }
theorem outOf_get {xs : List Nd} {vs : List Nat} {K : List (List Int)} {q : Nat} (h : q < vs.length) : (outOf xs vs K)[q]? = some { nd xs vs[q] with ks := K[q]?.getD [] } := by
 rw [outOf, List.getElem?_map, List.getElem?_range h]; simp [List.getElem?_eq_getElem h]
theorem outOf_len {xs : List Nd} {vs : List Nat} {K : List (List Int)} : (outOf xs vs K).length = vs.length := by simp [outOf]
structure Ub (own : OwnM Nat) (w : World) (b : Nat) (cs : Array Value) (t : TypeId) : Prop where
 blk : Blk w b cs t
 free : own b = none
theorem Ub.ext {own : OwnM Nat} {w w' : World} {b t : Nat} {cs : Array Value} (h : Ub own w b cs t) (x : Ext w w') : Ub own w' b cs t := ⟨h.blk.ext x, h.free⟩
theorem Ub.fr {own own' : OwnM Nat} {w w' : World} {b t : Nat} {cs : Array Value} (h : Ub own w b cs t) (u : Fr own own' w w') : Ub own' w' b cs t := ⟨Fr.blk h.blk u h.free, u.free b h.blk.lt h.free⟩
structure VN (w : World) (own : OwnM Nat) (xs : List Nd) (vs : List Nat) (RW : List Rw) (s : SL) (K : List (List Int)) : Prop where
 out : RowR own 0 36 5 eN w s RW
 lenR : RW.length = vs.length
 lenK : K.length = vs.length
 nds : ∀ (q : Nat) (r : Rw) (v : Nat) (k : List Int), RW[q]? = some r → vs[q]? = some v → K[q]? = some k → r.kd = (nd xs v).kd ∧ r.n = (nd xs v).n ∧ r.tx = (nd xs v).tx ∧ k.length = (nd xs v).ks.length ∧
  RowR own (11 + 3 * q) 38 2 eFt w r.sf (nd xs v).fs ∧ RowR own (10 + 3 * q) 3 1 eI w r.sk k
theorem VN.frame {w w' : World} {own : OwnM Nat} {xs : List Nd} {vs : List Nat} {RW : List Rw} {s : SL} {K : List (List Int)} (h : VN w own xs vs RW s K) (k : ∀ b, b < w.heap.size → own b ≠ none → w'.heap[b]? = w.heap[b]?) : VN w' own xs vs RW s K :=
 ⟨h.out.frame k, h.lenR, h.lenK, fun q r v kk e1 e2 e3 => by
  obtain ⟨g1, g2, g3, g4, g5, g6⟩ := h.nds q r v kk e1 e2 e3
  exact ⟨g1, g2, g3, g4, g5.frame k, g6.frame k⟩⟩
section
variable {w0 w : World} {own : OwnM Nat} {p : Pl} {xs : List Nd} {cl : List Int} {vs : List Nat} {RW : List Rw} {s : SL} {K : List (List Int)} {mk : List Int}
theorem VS.isG (h : VS w0 w own p xs cl vs RW s K mk) (hF : ∀ q M, Fil xs vs K q M) : IsG xs vs (outOf xs vs K) := by
 have hk : ∀ q (hq : q < vs.length), (K[q]?.getD []).length = (nd xs vs[q]).ks.length := fun q hq => by
  obtain ⟨_, _, _, g4, _⟩ := h.nds q (RW[q]'(by rw [h.lenR]; exact hq)) vs[q] (K[q]'(by rw [h.lenK]; exact hq)) (List.getElem?_eq_getElem _) (List.getElem?_eq_getElem _) (List.getElem?_eq_getElem _)
  rw [List.getElem?_eq_getElem (by rw [h.lenK]; exact hq)]; exact g4
 have hnd : ∀ q (hq : q < vs.length), nd (outOf xs vs K) q = { nd xs vs[q] with ks := K[q]?.getD [] } := fun q hq => by
  have e : (outOf xs vs K)[q]? = _ := outOf_get (K := K) (xs := xs) hq
  unfold nd at e ⊢
  rw [e]; rfl
 refine ⟨outOf_len, fun q hq => ?_, fun q hq m hm => ?_⟩
 ·rw [hnd q hq]; exact hd_mk rfl rfl rfl rfl (hk q hq)
 ·rw [hnd q hq] at hm ⊢
  have hKq : q < K.length := by rw [h.lenK]; exact hq
  rw [List.getElem?_eq_getElem hKq] at hm ⊢
  obtain ⟨p, e1, u, e2, e3⟩ := hF q (m + 1) vs[q] K[q] (List.getElem?_eq_getElem hq) (List.getElem?_eq_getElem hKq) m hm (by omega)
  obtain ⟨hp, e4⟩ := List.getElem?_eq_some_iff.1 e2
  exact ⟨p, e1, hp, by rw [e4]; exact e3⟩
theorem VS.vn (h : VS w0 w own p xs cl vs RW s K mk) : VN w own xs vs RW s K := ⟨h.out, h.lenR, h.lenK, h.nds⟩
theorem VN.nodes (h : VN w own xs vs RW s K) (hw : ∀ x ∈ xs, NdW x) (hwf : ∀ x ∈ xs, (Lit.int .i64 x.n).wf = true) (hv : ∀ v ∈ vs, v < xs.length) (hs : vs.length ≤ maxLen) (hz : Sz xs) : RNds w s.1 s.2.1 (outOf xs vs K) := by
 refine ⟨h.out.1.rows eN_len RNd (by rw [outOf_len, h.lenR]) fun f q r y hr hy hf => ?_, by rw [h.out.len, h.lenR]; exact hs⟩
 have hq : q < vs.length := by rw [← h.lenR]; exact (List.getElem?_eq_some_iff.1 hr).1
 have hKq : q < K.length := by rw [h.lenK]; exact hq
 rw [outOf_get hq, List.getElem?_eq_getElem hKq] at hy
 cases hy
 obtain ⟨g1, g2, g3, g4, g5, g6⟩ := h.nds q r vs[q] K[q] hr (List.getElem?_eq_getElem hq) (List.getElem?_eq_getElem hKq)
 have hvq := hv _ (List.getElem_mem hq)
 have hx : nd xs vs[q] ∈ xs := by rw [nd_get hvq]; exact List.getElem_mem _
 have W := (hw _ hx).hd
 refine ⟨by rw [hf 0 (by omega), ← g1]; rfl, by rw [hf 1 (by omega), ← g2]; rfl, by rw [hf 2 (by omega), ← g3]; rfl, by have := W.kd; simp only [maxLen]; show (nd xs vs[q]).kd.size ≤ _; omega, by have := W.tx.2; simp only [maxLen]; show (nd xs vs[q]).tx.size ≤ _; omega,
  ⟨_, _, _, by rw [hf 3 (by omega)]; rfl, ?_, ?_⟩, ⟨_, _, _, by rw [hf 4 (by omega)]; rfl, OwnR.ints g6.1, ?_⟩, (hwf _ hx : (Lit.int .i64 (nd xs vs[q]).n).wf = true)⟩
 ·refine g5.1.rows eFt_len RFt rfl fun f' i x y hx' hy' hf' => ?_
  rw [hx'] at hy'; cases hy'
  have := (W.fs x (List.mem_of_getElem? hx')).1.2
  exact ⟨by rw [hf' 0 (by omega)]; rfl, by rw [hf' 1 (by omega)]; rfl, by simp only [maxLen]; omega⟩
 ·have e1 := g5.len
  have := W.len
  show r.sf.2.1 ≤ maxLen
  rw [e1]; simp only [maxLen]
  show (nd xs vs[q]).fs.length ≤ _; omega
 ·have e1 := g6.len
  have := hz.ks _ hx
  show r.sk.2.1 ≤ maxLen
  rw [e1, g4]; simp only [maxLen]; omega
end
def GD (w0 w : World) (s : SL) (out : List Nd) : Prop := ∃ own xs vs RW K, VN w own xs vs RW s K ∧ Mine own w0 w ∧ ∀ w', VN w' own xs vs RW s K → RNds w' s.1 s.2.1 out
theorem GD.nodes {w0 w : World} {s : SL} {out : List Nd} (h : GD w0 w s out) : RNds w s.1 s.2.1 out := by
 obtain ⟨own, xs, vs, RW, K, h1, _, h3⟩ := h; exact h3 w h1
theorem GD.below {w0 w : World} {s : SL} {out : List Nd} (h : GD w0 w s out) : Ext w0 w := by
 obtain ⟨own, xs, vs, RW, K, _, h2, _⟩ := h; exact h2.below
theorem GD.ext {w0 w w' : World} {s : SL} {out : List Nd} (h : GD w0 w s out) (x : Ext w w') : GD w0 w' s out := by
 obtain ⟨own, xs, vs, RW, K, h1, h2, h3⟩ := h
 exact ⟨own, xs, vs, RW, K, h1.frame fun b hb _ => x.block b hb, h2.ext x, h3⟩
theorem GD.but {w0 w w' : World} {s : SL} {out : List Nd} {b : Nat} (h : GD w0 w s out) (k : But b w w') (hb : b < w0.heap.size) {w00 : World} (x : Ext w00 w0) (hb2 : w00.heap.size ≤ b) : GD w00 w' s out := by
 obtain ⟨own, xs, vs, RW, K, h1, h2, h3⟩ := h
 have hn : own b = none := h2.fr.free b hb rfl
 refine ⟨own, xs, vs, RW, K, h1.frame fun c _ hc => k.block c fun e => hc (by rw [e]; exact hn), ⟨?_, fun c hc => h2.top c (by rw [← k.size]; exact hc)⟩, h3⟩
 have e1 := (Mine.below h2)
 have e2 : Ext w00 w' := k.below (x.trans e1) hb2
 exact ⟨e2.os, e2.tape, e2.output, e2.size, fun c hc _ => e2.block c hc, fun c hc _ => h2.fr.free c (Nat.lt_of_lt_of_le hc x.size) rfl⟩
theorem GD.rebase {w00 w0 w : World} {s : SL} {out : List Nd} (h : GD w0 w s out) (x : Ext w00 w0) : GD w00 w s out := by
 obtain ⟨own, xs, vs, RW, K, h1, h2, h3⟩ := h
 exact ⟨own, xs, vs, RW, K, h1, ⟨(Fr.of_ext _ x).trans h2.fr, h2.top⟩, h3⟩
theorem RNds.wf {w : World} {a : Option Addr} {l : Nat} {xs : List Nd} (h : RNds w a l xs) : ∀ x ∈ xs, (Lit.int .i64 x.n).wf = true := by
 intro x hx
 obtain ⟨i, hi, rfl⟩ := List.getElem_of_mem hx
 obtain ⟨_, _, _, _, _, _, _, _, _, e⟩ := ndAt h (Ext.refl w) hi
 exact e
set_option maxRecDepth 100000 in
theorem ctr28 (w : World) {a1 : Option Addr} {l1 : Nat} (c1 : Nat) {xs : List Nd} (h : RNds w a1 l1 xs) (hc : Closed xs) (hz : Sz xs) (hw : ∀ x ∈ xs, NdW x) (ht : Tb w) {i : Nat} (hi : i < xs.length) :
  Calls Tryz.prog 28 #[.slice a1 l1 c1, .int .i64 (i : Int)] w fun en w' => ∃ x a l c, en = .returned (.agg #[.int .i64 x, .slice a l c]) ∧
   (x = 0 ∧ ∃ out, Least xs i out ∧ GD w w' (a, l, c) out) := by
 refine calls28 _ _ _ _ _ w ?_
 have hn := hz.len
 refine Bx.new (fun _ => (none : Option Nat)) 4 fun b3 w4 x3 u3 e3 hb3 => ?_
 have L4 := (Mine.refl (ρ := Nat) w).upd u3
 generalize setOwn (fun _ => (none : Option Nat)) (some b3) 4 = own3 at x3 u3 L4
 refine AllocK.mk fun b5 w6 hb5 x5 e5 => ?_
 have L6 := L4.ext e5
 have x3 := x3.ext e5
 have x5 : Ub own3 w6 b5 _ _ := ⟨x5, L4.top b5 (by omega)⟩
 refine ⟨_, _, _, by rw [x3.blk.cell]; rfl, ?_⟩
 refine (ctr26 w6 c1 (RNds.at h L6.below) hc hz hw (ht.ext L6.below)).mono ?_
 rintro en w9 ⟨a8, l8, c8, rfl, cl, hcl, _, hO8, e9⟩
 have L9 := L6.ext e9
 have f9 : FRow own3 3 eI w9 (a8, l8, c8) cl := FRow.of hO8 L6.top
 have x3 := x3.ext e9
 have x5 := x5.ext e9
 refine ⟨_, _, _, rfl, Bx.new own3 5 fun b11 w12 x11 u11 e12 hb11 => Bx.set x11 (by simp) fun w13 x11 u13 => ?_⟩
 have L13 := (L9.upd u11).upd u13
 have f13 := (f9.upd u11).upd u13
 have x3 := (x3.upd u11 (by decide)).upd u13 (by decide)
 have x5 := (x5.fr u11.fr).fr u13.fr
 generalize setOwn own3 (some b11) 5 = own11 at x3 x5 x11 u11 u13 L13 f13
 obtain ⟨w15, bm, q15, mx, u15, e15⟩ := Mx.new (P := Tryz.prog) (t := 89) eK w13 0 own11 1
 have L15 := L13.upd u15
 have f15 := f13.upd u15
 have x3 := x3.upd u15 (by decide)
 have x5 := x5.fr u15.fr
 have x11 := x11.upd u15 (by decide)
 generalize setOwn own11 (some bm) 1 = own15 at x3 x5 x11 mx u15 L15 f15
 refine ⟨some bm, w15, q15, Bx.new own15 6 fun b16 w17 x16 u16 e17 hb16 => Bx.set x16 (by simp) fun w18 x16 u18 => ?_⟩
 have L18 := (L15.upd u16).upd u18
 have f18 := (f15.upd u16).upd u18
 have x3 := (x3.upd u16 (by decide)).upd u18 (by decide)
 have x5 := (x5.fr u16.fr).fr u18.fr
 have x11 := (x11.upd u16 (by decide)).upd u18 (by decide)
 have mx := (mx.upd u16 (by decide)).upd u18 (by decide)
 generalize setOwn own15 (some b16) 6 = own16 at x3 x5 x11 x16 mx u16 u18 L18 f18
 refine Bx.new own16 2 fun b19 w20 x19 u19 e20 hb19 => ?_
 have L20 := L18.upd u19
 have f20 := f18.upd u19
 have x3 := x3.upd u19 (by decide)
 have x5 := x5.fr u19.fr
 have x11 := x11.upd u19 (by decide)
 have x16 := x16.upd u19 (by decide)
 have mx := mx.upd u19 (by decide)
 generalize setOwn own16 (some b19) 2 = own19 at x3 x5 x11 x16 x19 mx u19 L20 f20
 refine Bx.new own19 7 fun b21 w22 x21 u21 e22 hb21 => Bx.set x21 (by simp) fun w23 x21 u23 => ?_
 have L23 := (L20.upd u21).upd u23
 have f23 := (f20.upd u21).upd u23
 have x3 := (x3.upd u21 (by decide)).upd u23 (by decide)
 have x5 := (x5.fr u21.fr).fr u23.fr
 have x11 := (x11.upd u21 (by decide)).upd u23 (by decide)
 have x16 := (x16.upd u21 (by decide)).upd u23 (by decide)
 have x19 := (x19.upd u21 (by decide)).upd u23 (by decide)
 have mx := (mx.upd u21 (by decide)).upd u23 (by decide)
 generalize setOwn own19 (some b21) 7 = own21 at x3 x5 x11 x16 x19 x21 mx u21 u23 L23 f23
 have V23 : VS w w23 own21 ⟨b3, b11, b16, b19, b21, bm, a1, l1, c1, (a8, l8, c8)⟩ xs cl [] [] (none, 0, 0) [] ([].map (ga cl)) :=
  ⟨L23, x3, by simpa using x11, by simpa using x16, by simpa [Pl.fn] using x21, x19, f23, mx, RowR.nil _ _ _ _ _ _, rfl, rfl, fun q r v k e => by simp at e⟩
 refine ⟨_, _, by rw [V23.x21.blk.cell]; rfl, Tryz.call51, ?_⟩
 refine (ctr51 h hc hz hcl (xs.length + 1) w23 own21 [] [] (none, 0, 0) [] i V23 hi (fun a b x y e => by simp at e) (fun v hv => by simp at hv) (by simp)).mono ?_
 rintro en w27 ⟨r, rfl, own', vs', RW', s', K', V, D, kp, _, _, hF⟩
 refine ⟨_, rfl, _, by rw [add_mk, V.x19.blk.cell]; rfl, _, _, _, by rw [add_mk, V.x19.blk.cell]; rfl, ?_⟩
 have x5 := x5.fr kp.fr
 have hF' : ∀ q M, Fil xs vs' K' q M := fun q M => hF q (by simp) M
 have haV := D.apart (fun a b x y e => by simp at e)
 have hvV := D.lt hc (by simpa using hi) (by simp)
 have hvl := vs_len haV hvV
 have G := V.isG hF'
 have N27 := V.vn
 rw [add_mk, add_mk]
 refine SetK.mk x5.blk (by simp) fun w31 g31 k31 => SetK.mk g31 (by simp) fun w32 g32 k32 => ?_
 have N32 := (N27.frame (w' := w31) fun b _ hb => k31.block b fun e => hb (by rw [e]; exact x5.free)).frame (w' := w32) fun b _ hb => k32.block b fun e => hb (by rw [e]; exact x5.free)
 have hb0 : w.heap.size ≤ b5 := by have := e3.size; omega
 have R := fun w' (N : VN w' own' xs vs' RW' s' K') => N.nodes hw (RNds.wf h) hvV (by simp only [maxLen]; omega) hz
 have L32 : Mine own' w w32 := by
  have e2 : Ext w w32 := k32.below (k31.below V.loc.below hb0) hb0
  exact ⟨⟨e2.os, e2.tape, e2.output, e2.size, fun c hc _ => e2.block c hc, fun c hc _ => V.loc.fr.free c hc rfl⟩, fun c hc => V.loc.top c (by rw [← k31.size, ← k32.size]; exact hc)⟩
 exact ⟨_, by rw [g32.cell]; rfl, _, _, _, by rw [g32.cell]; rfl, rfl, _, ⟨vs', D, G⟩, own', xs, vs', RW', K', N32, L32, R⟩
end Go.Proofs.YtbiamhoonhjodacGreatDoor

namespace Go.Proofs.YtbiamhoonhjodacGreatDoor
open Go Go.V Go.Proofs Go.V.Gr
open Go.RowKit (Below)
def Lim (xs : List Nd) : Prop := ∀ x ∈ xs, x.fs.length ≤ 1000000 ∧ x.ks.length ≤ 1000000
theorem prS_of {s : ByteArray} (h : atomD s = true) : prS s := by
 simp only [atomD, prnD, Bool.and_eq_true, decide_eq_true_eq] at h
 exact ⟨h.1, by omega⟩
theorem prS_nil : prS ⟨#[]⟩ := ⟨rfl, by decide⟩
theorem prS_sort {s : ByteArray} (h : sortD s = true) : prS s := by
 have := sortD_iff.1 h
 simp only [sorts, List.mem_cons, List.not_mem_nil, or_false] at this
 rcases this with rfl | rfl | rfl | rfl | rfl | rfl | rfl | rfl | rfl | rfl <;> exact ⟨by decide, by decide⟩
theorem NdOk.w {x : Nd} {n : Int} (h : NdOk x n) (hl : x.fs.length ≤ 1000000) : NdW x := by
 rcases h with ⟨h1, h2, h3, h4, h5, h6⟩ | ⟨h1, h2, h3, h4, h5, h6⟩ | ⟨h1, h2, h3, h4, h5, h6⟩ | ⟨h1, h2, h3, h4, h5, h6⟩
 ·exact ⟨⟨by rw [h1]; decide, ⟨by omega, by omega⟩, by rw [h2]; exact prS_nil, by rw [h3]; simp, hl⟩, ⟨by rw [KdOk, h1]; decide, by rw [h3, h4]; rfl⟩⟩
 ·exact ⟨⟨by rw [h1]; decide, ⟨by omega, by omega⟩, by rw [h2]; exact prS_nil, by rw [h3]; simp, hl⟩, ⟨by rw [KdOk, h1]; decide, by rw [h3, h4]; rfl⟩⟩
 ·exact ⟨⟨by rw [h1]; decide, ⟨by omega, by omega⟩, prS_sort h2, by rw [h3]; simp, hl⟩, ⟨by rw [KdOk, h1]; decide, by rw [h3, h4]; rfl⟩⟩
 ·refine ⟨⟨by rw [h1]; decide, ⟨by omega, by omega⟩, prS_of h3, fun f hf => ?_, hl⟩, ⟨by rw [KdOk, h1]; decide, h4⟩⟩
  obtain ⟨i, hi⟩ := List.getElem?_of_mem hf
  have := (h5 i f hi).1
  unfold featD at this
  split at this
  ·have := of_decide_eq_true this
   exact ⟨by rw [this.2.2]; exact prS_nil, ⟨by omega, by omega⟩⟩
  ·rename_i h0
   exact ⟨prS_of this, ⟨by omega, by omega⟩⟩
section
variable {root : Int} {xs : List Nd} {most : Nat}
theorem GrOk.closed (h : GrOk root xs most) : Closed xs := by
 intro x hx k hk
 rcases h.nds x hx with ⟨_, _, _, h4, _⟩ | ⟨_, _, _, h4, _⟩ | ⟨_, _, _, h4, _⟩ | ⟨_, _, _, _, _, h6⟩
 ·rw [h4] at hk; cases hk
 ·rw [h4] at hk; cases hk
 ·rw [h4] at hk; cases hk
 ·exact h6 k hk
theorem GrOk.w (h : GrOk root xs most) (hl : Lim xs) : ∀ x ∈ xs, NdW x := fun x hx => (h.nds x hx).w (hl x hx).1
theorem GrOk.sz (h : GrOk root xs most) (hm : most ≤ 1000000) (hl : Lim xs) : Sz xs := ⟨by have := h.most; omega, fun x hx => (hl x hx).1, fun x hx => (hl x hx).2⟩
theorem GrOk.lt (h : GrOk root xs most) : root.toNat < xs.length := by have := h.root; omega
end
theorem setTwo {w : World} {b t : Nat} {z0 z1 v0 v1 : Value} {F : World → Prop} (hb : Blk w b #[z0, z1] t) (h : ∀ w', Blk w' b #[v0, v1] t → But b w w' → F w') :
  SetK w ((⟨b, 0, none⟩ : Addr).add 0) v0 fun w2 => SetK w2 ((⟨b, 0, none⟩ : Addr).add 1) v1 F := by
 rw [add_mk, add_mk]
 refine SetK.mk hb (by simp) fun w2 h2 g2 => SetK.mk h2 (by simp) fun w3 h3 g3 => h w3 (by simpa using h3) (g2.trans g3)
theorem blkAt2 {w : World} {b t : Nat} {v0 v1 : Value} (h : Blk w b #[v0, v1] t) : w.cell? ((⟨b, 0, none⟩ : Addr).add 0) = some v0 ∧ w.cell? ((⟨b, 0, none⟩ : Addr).add 1) = some v1 ∧ w.cell? (⟨b, 0, none⟩ : Addr) = some v0 :=
 ⟨by rw [add_mk, h.cell]; rfl, by rw [add_mk, h.cell]; rfl, by rw [h.cell]; rfl⟩
def Ans (w w' : World) (xs : List Nd) (j : Option Nat) (err : Int) (x : Int) (s : SL) (e : Int) : Prop :=
 Ext w w' ∧ x = 0 ∧ ((∃ i, j = some i ∧ e = 0 ∧ ∃ out, Least xs i out ∧ GD w w' s out) ∨ (j = none ∧ e = err ∧ s = (none, 0, 0)))
theorem ctr10 (w : World) (root : Int) (xs : List Nd) {a : Option Addr} {l : Nat} (c : Nat) (h : RNds w a l xs) (hl : Lim xs) (ht : Tb w) :
  Calls Tryz.prog 10 #[.agg #[.int .i64 root, .slice a l c]] w fun en w' => ∃ x a' l' c' e, en = .returned (.tuple #[.agg #[.int .i64 x, .slice a' l' c'], .int .i64 e]) ∧
   ((GrOk root xs 1000 ∧ Ans w w' xs (some root.toNat) 50 x (a', l', c') e) ∨ (¬ GrOk root xs 1000 ∧ Ans w w' xs none 50 x (a', l', c') e)) := by
 refine calls10 _ _ _ _ _ w ?_
 refine AllocK.mk fun b3 w4 hb3 hB3 x4 => AllocK.mk fun b5 w6 hb5 hB5 x6 => ?_
 have hB3 := hB3.ext x6
 have y6 := x4.trans x6
 obtain ⟨g0, g1, g2⟩ := blkAt2 hB3
 refine ⟨_, g0, _, _, _, g1, (ctr25 w6 root xs c (RNds.at h y6)).mono ?_⟩
 rintro en w10 ⟨p, rfl, hp, x10⟩
 have y10 := y6.trans x10
 have hB3 := hB3.ext x10
 have hB5 := hB5.ext x10
 have hbw : w.heap.size ≤ b5 := by have := x4.size; omega
 obtain ⟨g0, g1, g2⟩ := blkAt2 hB3
 refine ⟨_, rfl, BoolK.mk (fun t => ?_) (fun t => ?_)⟩
 ·refine setTwo hB5 fun w13 hB13 k13 => ?_
  obtain ⟨f0, f1, _⟩ := blkAt2 hB13
  exact ⟨_, f0, _, _, _, f1, .inr ⟨fun e => (by rw [hp.2 e] at t; cases t), k13.below y10 hbw, rfl, .inr ⟨rfl, rfl, rfl⟩⟩⟩
 ·have ok := hp.1 (by simpa using t)
  refine ⟨_, _, _, g1, _, g2, ?_⟩
  have hr : root = ((root.toNat : Nat) : Int) := by have := ok.root; omega
  have := ctr28 w10 c (RNds.at h y10) ok.closed (ok.sz (by omega) hl) (ok.w hl) (ht.ext y10) ok.lt
  rw [← hr] at this
  refine this.mono ?_
  rintro en w20 ⟨x, a', l', c', rfl, rfl, out, hL, hG⟩
  refine ⟨_, _, _, _, rfl, ?_⟩
  refine setTwo (hB5.ext hG.below) fun w23 hB23 k23 => ?_
  obtain ⟨f0, f1, _⟩ := blkAt2 hB23
  exact ⟨_, f0, _, _, _, f1, .inl ⟨ok, k23.below (y10.trans hG.below) hbw, rfl, .inl ⟨_, rfl, rfl, out, hL, hG.but k23 hB5.lt y10 hbw⟩⟩⟩
end Go.Proofs.YtbiamhoonhjodacGreatDoor

namespace Go.Proofs.YtbiamhoonhjodacGreatDoor
open Go Go.V Go.Proofs
open Go.RowKit (Below)
/-! manystrand/manystrandlaw05.light -/
def N4 (x1 : Int) (a2 : Option Addr) (l2 : Nat) (c2 : Nat) (K : Bool → World → Prop) (w : World) : Prop :=
 AllocK w (#[(.int .i64 x1), (.slice a2 l2 c2)]) 24 fun b3 w4 =>
 ∃ a5 l5 c5, w4.cell? (b3.add 1) = some (.slice a5 l5 c5) ∧
 (∃ (I6 : Int → Int → World → Prop) (μ7 : Int → Int → World → Nat),
 (I6 0 0 w4 ∧ True) ∧
 ∀ w8 x9 x10, I6 x9 x10 w8 →
 BoolK (decide (x10 < l5))
 ((0 ≤ x10 ∧ x10 < l5) ∧
 AddrK a5 fun b11 =>
 ∃ s12, w8.cell? ((b11.add (x10.toNat * 5)).add 0) = some (.string s12) ∧
 (∃ x13, w8.cell? ((b11.add (x10.toNat * 5)).add 1) = some (.int .i64 x13) ∧
 (∃ s14, w8.cell? ((b11.add (x10.toNat * 5)).add 2) = some (.string s14) ∧
 (∃ a15 l15 c15, w8.cell? ((b11.add (x10.toNat * 5)).add 3) = some (.slice a15 l15 c15) ∧
 (∃ a16 l16 c16, w8.cell? ((b11.add (x10.toNat * 5)).add 4) = some (.slice a16 l16 c16) ∧
 (AllocK w8 (#[.string ⟨#[]⟩, .int .i64 0, .string ⟨#[]⟩, .slice none 0 0, .slice none 0 0]) 36 fun b17 w18 =>
 SetK w18 (b17.add 0) (.string s12) fun w19 =>
 SetK w19 (b17.add 1) (.int .i64 x13) fun w20 =>
 SetK w20 (b17.add 2) (.string s14) fun w21 =>
 SetK w21 (b17.add 3) (.slice a15 l15 c15) fun w22 =>
 SetK w22 (b17.add 4) (.slice a16 l16 c16) fun w23 =>
 ∃ a24 l24 c24, w23.cell? (b17.add 3) = some (.slice a24 l24 c24) ∧
 (∃ a25 l25 c25, w23.cell? (b17.add 4) = some (.slice a25 l25 c25) ∧
 (∃ s26, w23.cell? (b17.add 2) = some (.string s26) ∧
 (BoolK (decide (((s26.size : Nat) : Int) > 200))
 (K false w23)
 (BoolK (decide ((IntKind.wrap .i64 (x9 + (IntKind.wrap .i64 (l24 + l25))) : Int) > 5000))
 (K false w23)
 (∃ a27 l27 c27, w23.cell? (b17.add 3) = some (.slice a27 l27 c27) ∧
 (∃ (I28 : Int → World → Prop) (μ29 : Int → World → Nat),
 (I28 0 w23 ∧ True) ∧
 ∀ w30 x31, I28 x31 w30 →
 BoolK (decide (x31 < l27))
 ((0 ≤ x31 ∧ x31 < l27) ∧
 AddrK a27 fun b32 =>
 ∃ x33, w30.cell? ((b32.add (x31.toNat * 2)).add 0) = some (.int .i64 x33) ∧
 (∃ s34, w30.cell? ((b32.add (x31.toNat * 2)).add 1) = some (.string s34) ∧
 (AllocK w30 (#[.int .i64 0, .string ⟨#[]⟩]) 38 fun b35 w36 =>
 SetK w36 (b35.add 0) (.int .i64 x33) fun w37 =>
 SetK w37 (b35.add 1) (.string s34) fun w38 =>
 ∃ s39, w38.cell? (b35.add 1) = some (.string s39) ∧
 (BoolK (decide (((s39.size : Nat) : Int) > 200))
 (K false w38)
 (I28 (IntKind.wrap .i64 (x31 + 1)) w38 ∧ μ29 (IntKind.wrap .i64 (x31 + 1)) w38 < μ29 x31 w30)))))
 (I6 (IntKind.wrap .i64 (x9 + (IntKind.wrap .i64 (l24 + l25)))) (IntKind.wrap .i64 (x10 + 1)) w30 ∧ μ7 (IntKind.wrap .i64 (x9 + (IntKind.wrap .i64 (l24 + l25)))) (IntKind.wrap .i64 (x10 + 1)) w30 < μ7 x9 x10 w8)))))))))))))
 (∃ a40 l40 c40, w8.cell? (b3.add 1) = some (.slice a40 l40 c40) ∧
 (K (decide ((l40 : Int) ≤ 1100)) w8)))
def ann4 : Ann := (.two .nil (.two .nil (.two (.two .nil (.one (.loop [(3, (.one (.int .i64))), (11, (.one (.int .i64)))] [1, 9, 10] (.two .nil (.two (.two .nil .nil) (.two (.one (.two .nil (.two .nil (.two (.two .nil (.two (.two .nil .nil) .nil)) (.two .nil (.one (.loop [(35, (.one (.int .i64)))] [1, 3, 9, 10, 11, 33, 34] (.two .nil (.two (.two .nil .nil) (.two (.one (.two .nil (.two .nil (.two (.two .nil .nil) .nil)))) .nil)))))))))) .nil)))))) (.two .nil .nil))))
noncomputable def code4 : Code := match Tryz.f4.body with | some c => c | none => .skip
theorem calls4 (x1 : Int) (a2 : Option Addr) (l2 : Nat) (c2 : Nat) (K : Bool → World → Prop) (w : World) (h : N4 x1 a2 l2 c2 K w) : Calls Tryz.prog 4 #[(.agg #[(.int .i64 x1), (.slice a2 l2 c2)])] w fun en w' => ∃ (p41 : Bool), en = .returned (.bool p41) ∧ K p41 w' :=
 fn_calls tabOk mixed Tryz.func4 (by kernel_rfl : Tryz.f4.body = some code4) ann4 [(.agg #[(.int .i64 x1), (.slice a2 l2 c2)])] [(.one .bool)] K w (by kernel_rfl) (by kernel_rfl) (by kernel_rfl) h
end Go.Proofs.YtbiamhoonhjodacGreatDoor

namespace Go.Proofs.YtbiamhoonhjodacGreatDoor
open Go Go.V Go.Proofs Go.V.Gr
open Go.RowKit (Below)
section
variable {w : World} {b t : Nat} {v0 v1 v2 v3 v4 : Value}
theorem blkAt5 (h : Blk w b #[v0, v1, v2, v3, v4] t) {w' : World} (k : Ext w w') : w'.cell? (⟨b, 0, none⟩ : Addr) = some v0 ∧ w'.cell? ((⟨b, 0, none⟩ : Addr).add 1) = some v1 ∧ w'.cell? ((⟨b, 0, none⟩ : Addr).add 2) = some v2 ∧ w'.cell? ((⟨b, 0, none⟩ : Addr).add 3) = some v3 ∧ w'.cell? ((⟨b, 0, none⟩ : Addr).add 4) = some v4 := by
 have h := h.ext k
 exact ⟨by rw [h.cell]; rfl, by rw [add_mk, h.cell]; rfl, by rw [add_mk, h.cell]; rfl, by rw [add_mk, h.cell]; rfl, by rw [add_mk, h.cell]; rfl⟩
end
theorem not_iff_false {P : Prop} (h : ¬ P) : (false = true ↔ P) := ⟨fun e => (by cases e), fun e => absurd e h⟩
def LimT (xs : List Nd) : Prop := ∀ x ∈ xs, x.tx.size ≤ 1000000000000
theorem NdOk.lens {x : Nd} {n : Int} (h : NdOk x n) : x.ks.length = x.fs.length := by
 rcases h with ⟨_, _, h3, h4, _⟩ | ⟨_, _, h3, h4, _⟩ | ⟨_, _, h3, h4, _⟩ | ⟨_, _, _, h4, _⟩
 ·rw [h3, h4]; rfl
 ·rw [h3, h4]; rfl
 ·rw [h3, h4]; rfl
 ·exact h4
def LightNd (x : Nd) : Prop := x.tx.size ≤ 200 ∧ x.fs.length + x.ks.length ≤ 5000 ∧ ∀ f ∈ x.fs, f.2.size ≤ 200
def LightOk (xs : List Nd) : Prop := xs.length ≤ 1100 ∧ ∀ x ∈ xs, LightNd x
def Szd (xs : List Nd) : Prop := ∀ x ∈ xs, x.fs.length ≤ 1000000000000000 ∧ x.ks.length ≤ 1000000000000000
theorem ctr4 (w : World) (root : Int) (xs : List Nd) {a : Option Addr} {l : Nat} (c : Nat) (h : RNds w a l xs) (hz : Szd xs) :
  Calls Tryz.prog 4 #[.agg #[.int .i64 root, .slice a l c]] w fun en w' => ∃ p, en = .returned (.bool p) ∧ ((p = true → LightOk xs) ∧ Ext w w') := by
 refine calls4 _ _ _ _ _ w ?_
 have e1 := h.len
 have k1 := h.2
 simp only [maxLen] at k1
 refine AllocK.mk fun b w4 hb hB x4 => ?_
 obtain ⟨_, g1, g0⟩ := blkAt2 hB
 refine ⟨_, _, _, g1, fun n i w' => ∃ k : Nat, i = k ∧ k ≤ xs.length ∧ Ext w4 w' ∧ 0 ≤ n ∧ n ≤ 5000 ∧ ∀ i (x : Nd), i < k → xs[i]? = some x → LightNd x, fun _ i _ => xs.length - i.toNat, ⟨⟨0, rfl, by omega, Ext.refl _, by omega, by omega, fun i x hi => by omega⟩, trivial⟩, ?_⟩
 rintro w8 n _ ⟨k, rfl, hk, x8, hn0, hn1, hall⟩
 have y8 := x4.trans x8
 refine BoolK.mk (fun t => ?_) (fun t => ?_)
 ·have hlt : k < xs.length := by have := of_decide_eq_true t; omega
  have hx : xs[k] ∈ xs := List.getElem_mem hlt
  obtain ⟨z1, z2⟩ := hz _ hx
  obtain ⟨b1, ha, q0, q1, q2, _, _, ⟨a3, l3, c3, q5, q6⟩, ⟨a4, l4, c4, q7, q8⟩, _⟩ := ndAt h y8 hlt
  have e3 := q6.len; have e4 := q8.len
  refine ⟨⟨by omega, by omega⟩, adK ha ⟨_, q0, _, q1, _, q2, _, _, _, q5, _, _, _, q7, ?_⟩⟩
  refine local5 fun b17 w23 hb17 hB17 x23 => ?_
  obtain ⟨_, _, h2, h3, h4⟩ := blkAt5 hB17 (Ext.refl w23)
  refine ⟨_, _, _, h3, _, _, _, h4, _, h2, BoolK.mk (fun t1 => ⟨fun e => (by cases e), y8.trans x23⟩) (fun t1 => ?_)⟩
  have t1 := of_decide_eq_false t1
  rw [wrap_id (x := (l3 : Nat) + (l4 : Nat)) (by omega) (by omega), wrap_id (by omega) (by omega)]
  refine BoolK.mk (fun t2 => ⟨fun e => (by cases e), y8.trans x23⟩) (fun t2 => ?_)
  have t2 := of_decide_eq_false t2
  refine ⟨_, _, _, h3, fun i w' => ∃ k' : Nat, i = k' ∧ k' ≤ xs[k].fs.length ∧ Ext w23 w' ∧ ∀ i (f : Ft), i < k' → xs[k].fs[i]? = some f → f.2.size ≤ 200, fun i _ => xs[k].fs.length - i.toNat, ⟨⟨0, rfl, by omega, Ext.refl _, fun i x hi => by omega⟩, trivial⟩, ?_⟩
  rintro w30 _ ⟨k', rfl, hk', x30, hall'⟩
  have y30 := (y8.trans x23).trans x30
  refine BoolK.mk (fun t3 => ?_) (fun t3 => ?_)
  ·have hlt' : k' < xs[k].fs.length := by have := of_decide_eq_true t3; omega
   obtain ⟨b2, ha2, r0, r1, _⟩ := ftAt q6 (x23.trans x30) hlt'
   refine ⟨⟨by omega, by omega⟩, adK ha2 ⟨_, r0, _, r1, ?_⟩⟩
   refine local2 fun b35 w38 hb35 hB35 x38 => ?_
   obtain ⟨_, u1, _⟩ := blkAt2 hB35
   refine ⟨_, u1, BoolK.mk (fun t4 => ⟨fun e => (by cases e), y30.trans x38⟩) (fun t4 => ?_)⟩
   have t4 := of_decide_eq_false t4
   rw [wrap_succ (by omega)]
   refine ⟨⟨k' + 1, rfl, by omega, x30.trans x38, fun i f hi hf => ?_⟩, by simp; omega⟩
   rcases Nat.lt_or_ge i k' with h | h
   ·exact hall' i f h hf
   ·have : i = k' := by omega
    subst this
    rw [List.getElem?_eq_getElem hlt'] at hf; cases hf
    omega
  ·have : k' = xs[k].fs.length := by have := of_decide_eq_false t3; omega
   subst this
   rw [wrap_succ (by omega)]
   refine ⟨⟨k + 1, rfl, by omega, (x8.trans x23).trans x30, by omega, by omega, fun i x hi hxi => ?_⟩, by simp; omega⟩
   rcases Nat.lt_or_ge i k with h | h
   ·exact hall i x h hxi
   ·have : i = k := by omega
    subst this
    rw [List.getElem?_eq_getElem hlt] at hxi; cases hxi
    refine ⟨by omega, by omega, fun f hf => ?_⟩
    obtain ⟨j, hj⟩ := List.getElem?_of_mem hf
    exact hall' j f (List.getElem?_eq_some_iff.1 hj).1 hj
 ·have : k = xs.length := by have := of_decide_eq_false t; omega
  subst this
  obtain ⟨_, g1, _⟩ := blkAt2 (hB.ext x8)
  refine ⟨_, _, _, g1, fun t1 => ⟨by have := of_decide_eq_true t1; omega, fun x hx => ?_⟩, y8⟩
  obtain ⟨j, hj⟩ := List.getElem?_of_mem hx
  exact hall j x (List.getElem?_eq_some_iff.1 hj).1 hj
theorem LightOk.lim {xs : List Nd} (h : LightOk xs) : Lim xs ∧ LimT xs := ⟨fun x hx => by have := (h.2 x hx).2.1; omega, fun x hx => by have := (h.2 x hx).1; omega⟩
theorem Ans.rows {w w' : World} {xs : List Nd} {j : Option Nat} {err x e : Int} {s : SL} (h : Ans w w' xs j err x s e) :
  Ext w w' ∧ x = 0 ∧ ∃ out, RNds w' s.1 s.2.1 out ∧ ((∃ i, j = some i ∧ e = 0 ∧ Least xs i out ∧ GD w w' s out) ∨ (j = none ∧ e = err ∧ out = [] ∧ s = (none, 0, 0))) := by
 obtain ⟨h1, h2, h3⟩ := h
 refine ⟨h1, h2, ?_⟩
 rcases h3 with ⟨i, e1, e2, out, hL, hG⟩ | ⟨e1, e2, rfl⟩
 ·exact ⟨out, hG.nodes, .inl ⟨i, e1, e2, hL, hG⟩⟩
 ·exact ⟨[], ⟨Rows.nil _ _ _ _, by simp⟩, .inr ⟨e1, e2, rfl, rfl⟩⟩
theorem NdOk.of_hd {x y : Nd} {n m : Int} (h : NdOk x n) (e : y.hd = x.hd) (hk : ∀ k ∈ y.ks, 0 ≤ k ∧ k < m) : NdOk y m := by
 obtain ⟨e1, e2, e3, e4⟩ := hd_parts e
 have e5 := hd_len e
 have nil : x.ks = [] → y.ks = [] := fun h0 => List.length_eq_zero_iff.1 (by rw [e5, h0]; rfl)
 rcases h with ⟨h1, h2, h3, h4, h5⟩ | ⟨h1, h2, h3, h4, h5⟩ | ⟨h1, h2, h3, h4, h5⟩ | ⟨h1, h2, h3, h4, h5, _⟩
 ·exact .inl ⟨by rw [e1]; exact h1, by rw [e3]; exact h2, by rw [e4]; exact h3, nil h4, by rw [e2]; exact h5⟩
 ·exact .inr (.inl ⟨by rw [e1]; exact h1, by rw [e3]; exact h2, by rw [e4]; exact h3, nil h4, by rw [e2]; exact h5⟩)
 ·exact .inr (.inr (.inl ⟨by rw [e1]; exact h1, by rw [e3]; exact h2, by rw [e4]; exact h3, nil h4, by rw [e2]; exact h5⟩))
 ·exact .inr (.inr (.inr ⟨by rw [e1]; exact h1, by rw [e2]; exact h2, by rw [e3]; exact h3, by rw [e5, e4]; exact h4, by rw [e4]; exact h5, hk⟩))
theorem Least.ok {root : Int} {xs out : List Nd} {most i : Nat} (h : Least xs i out) (g : GrOk root xs most) (hi : i < xs.length) : GrOk 0 out most := by
 obtain ⟨vs, d, G⟩ := h
 have hvV := d.lt g.closed (by simpa using hi) (by simp)
 have haV := d.apart (fun a b x y e => by simp at e)
 have hvl := vs_len haV hvV
 have hm := g.most
 have hp := Least.pos ⟨vs, d, G⟩
 have hc := Least.closed ⟨vs, d, G⟩
 refine ⟨by rw [G.len]; omega, ⟨by omega, by omega⟩, fun x hx => ?_⟩
 obtain ⟨q, hq, rfl⟩ := List.getElem_of_mem hx
 have hq' : q < vs.length := by rw [← G.len]; exact hq
 have hv := hvV _ (List.getElem_mem hq')
 have hh := G.hd q hq'
 rw [nd_get hq, nd_get hv] at hh
 exact (g.nds _ (List.getElem_mem hv)).of_hd hh (hc _ hx)
theorem Least.lim {xs out : List Nd} {i : Nat} (h : Least xs i out) (hc : Closed xs) (hi : i < xs.length) (_hk : ∀ x ∈ xs, x.ks.length ≤ 1000000) (hl : Lim xs) (ht : LimT xs) : Lim out ∧ LimT out := by
 have key : ∀ x ∈ out, ∃ y ∈ xs, x.hd = y.hd := fun x hx => by
  obtain ⟨q, hq, rfl⟩ := List.getElem_of_mem hx
  obtain ⟨v, hv, e⟩ := h.node hc hi hq
  exact ⟨xs[v], List.getElem_mem hv, by have := e.head; rw [nd_get hq, nd_get hv] at this; exact this⟩
 constructor
 ·intro x hx
  obtain ⟨y, hy, e⟩ := key x hx
  have := hl y hy
  rw [(hd_parts e).2.2.2, hd_len e]; exact this
 ·intro x hx
  obtain ⟨y, hy, e⟩ := key x hx
  rw [(hd_parts e).2.2.1]; exact ht y hy
end Go.Proofs.YtbiamhoonhjodacGreatDoor

namespace Go.Proofs.YtbiamhoonhjodacGreatDoor
open Go Go.V Go.Proofs Go.V.Gr
open Go.RowKit (Below)
open Go.Lib (compareBytes)
theorem cb_sign : ∀ (a b : List UInt8), compareBytes a b = -1 ∨ compareBytes a b = 0 ∨ compareBytes a b = 1
 | [], [] => by simp [compareBytes]
 | [], _ :: _ => by simp [compareBytes]
 | _ :: _, [] => by simp [compareBytes]
 | a :: us, b :: bs => by
  simp only [compareBytes]
  split
  ·simp
  ·split
   ·simp
   ·exact cb_sign us bs
theorem bl_cb : ∀ (a b : List UInt8), Op.bytesLess a b = decide (compareBytes a b < 0)
 | [], [] => by simp [Op.bytesLess, compareBytes]
 | [], _ :: _ => by simp [Op.bytesLess, compareBytes]
 | _ :: _, [] => by simp [Op.bytesLess, compareBytes]
 | a :: us, b :: bs => by
  rw [Op.bytesLess, bl_cb us bs]
  simp only [compareBytes]
  by_cases h : a < b
  ·simp [h]
  ·by_cases h2 : b < a
   ·have : ¬ a = b := fun e => by subst e; exact h h2
    simp [h, h2, this]
   ·have : a = b := by
     apply UInt8.toNat_inj.1
     rw [UInt8.lt_iff_toNat_lt] at h h2; omega
    subst this
    simp [h]
def cF (f g : Ft) : Int := if lessD f g = true then -1 else if lessD g f = true then 1 else 0
def fR (f : Ft) : Int := if 0 < f.1 then f.1 else 1001
theorem featD_cases {f : Ft} (h : featD f = true) : (0 < f.1 ∧ f.1 ≤ 1000 ∧ f.2 = ⟨#[]⟩) ∨ f.1 = 0 := by
 unfold featD at h
 split at h
 ·have := of_decide_eq_true h; exact .inl ⟨by omega, this.2⟩
 ·exact .inr (by omega)
theorem fz_pair {a b : Int} : fz [a, b] = if a = 0 then b else a := fz_two
theorem cF_key {f g : Ft} (hf : featD f = true) (hg : featD g = true) : cF f g = fz [sg (fR f) (fR g), compareBytes (bl f.2) (bl g.2)] := by
 rw [fz_pair]
 rcases featD_cases hf with ⟨f1, f2, f3⟩ | f0 <;> rcases featD_cases hg with ⟨g1, g2, g3⟩ | g0
 ·have e1 : fR f = f.1 := if_pos f1
  have e2 : fR g = g.1 := if_pos g1
  have l1 : lessD f g = decide (f.1 < g.1) := by rw [lessD, if_pos ⟨f1, g1⟩]
  have l2 : lessD g f = decide (g.1 < f.1) := by rw [lessD, if_pos ⟨g1, f1⟩]
  have c0 : compareBytes (bl f.2) (bl g.2) = 0 := cb_zero.2 (by rw [f3, g3])
  rw [cF, l1, l2, e1, e2, c0, sg]
  repeat' split <;> simp_all <;> omega
 ·have e1 : fR f = f.1 := if_pos f1
  have e2 : fR g = 1001 := if_neg (by omega)
  have l1 : lessD f g = true := by rw [lessD, if_neg (by omega), if_pos (.inl f1)]; simpa using f1
  have s : sg f.1 1001 = -1 := by unfold sg; rw [if_pos (by omega)]
  rw [cF, l1, if_pos rfl, e1, e2, s]; rfl
 ·have e1 : fR f = 1001 := if_neg (by omega)
  have e2 : fR g = g.1 := if_pos g1
  have l1 : lessD f g = false := by rw [lessD, if_neg (by omega), if_pos (.inr g1)]; simp; omega
  have l2 : lessD g f = true := by rw [lessD, if_neg (by omega), if_pos (.inl g1)]; simpa using g1
  have s : sg 1001 g.1 = 1 := by unfold sg; rw [if_neg (by omega), if_pos (by omega)]
  rw [cF, l1, l2, e1, e2, s]; rfl
 ·have e1 : fR f = 1001 := if_neg (by omega)
  have e2 : fR g = 1001 := if_neg (by omega)
  have l1 : lessD f g = decide (compareBytes (bl f.2) (bl g.2) < 0) := by rw [lessD, if_neg (by omega), if_neg (by omega), bl_toList, bl_toList, bl_cb]
  have l2 : lessD g f = decide (compareBytes (bl g.2) (bl f.2) < 0) := by rw [lessD, if_neg (by omega), if_neg (by omega), bl_toList, bl_toList, bl_cb]
  have s : sg 1001 1001 = 0 := rfl
  rw [cF, l1, l2, e1, e2, s, if_pos rfl, cb_neg (bl f.2) (bl g.2)]
  rcases cb_sign (bl f.2) (bl g.2) with e | e | e <;> rw [e] <;> rfl
theorem cF_neg {f g : Ft} (hf : featD f = true) (hg : featD g = true) : cF g f = - cF f g := by
 rw [cF_key hf hg, cF_key hg hf, ← fz_neg, sg_neg (fR f) (fR g), cb_neg (bl f.2) (bl g.2)]; rfl
theorem cF_tri {f g h : Ft} (hf : featD f = true) (hg : featD g = true) (hh : featD h = true) : Tri (cF f g) (cF g h) (cF f h) := by
 rw [cF_key hf hg, cF_key hg hh, cF_key hf hh]
 exact tri_cons (sg_tri _ _ _) fun _ _ => tri_cons (cb_tri _ _ _) fun _ _ => tri_nil
theorem cF_zero {f g : Ft} (hf : featD f = true) (hg : featD g = true) : cF f g = 0 ↔ f = g := by
 constructor
 ·intro e
  rw [cF_key hf hg] at e
  have e1 := fz_all.1 e (sg (fR f) (fR g)) (by simp)
  have e2 := fz_all.1 e (compareBytes (bl f.2) (bl g.2)) (by simp)
  have e1 := sg_zero.1 e1
  have e2 := bl_inj (cb_zero.1 e2)
  refine Prod.ext ?_ e2
  unfold fR at e1
  rcases featD_cases hf with ⟨f1, f2, f3⟩ | f0 <;> rcases featD_cases hg with ⟨g1, g2, g3⟩ | g0
  ·rw [if_pos f1, if_pos g1] at e1; exact e1
  ·rw [if_pos f1, if_neg (by omega)] at e1; omega
  ·rw [if_pos g1, if_neg (by omega)] at e1; omega
  ·rw [f0, g0]
 ·rintro rfl
  rw [cF_key hf hf]
  exact fz_all.2 fun a ha => by
   simp only [List.mem_cons, List.not_mem_nil, or_false] at ha
   rcases ha with rfl | rfl
   ·exact sg_zero.2 rfl
   ·exact cb_zero.2 rfl
def kR (k : ByteArray) : Int := if k = kInt then 0 else if k = kRec then 1 else if k = kVar then 2 else 3
def cHd (x y : Nd) : Int := fz [sg (kR x.kd) (kR y.kd), compareBytes (bl x.tx) (bl y.tx), sg x.n y.n, sg x.fs.length y.fs.length, fz (List.zipWith cF x.fs y.fs)]
def VN1 (x : Nd) : Prop := ∃ n, NdOk x n
theorem VN1.kd {x : Nd} (h : VN1 x) : x.kd = kInt ∨ x.kd = kVar ∨ x.kd = kRef ∨ x.kd = kRec := by
 obtain ⟨n, h⟩ := h
 rcases h with h | h | h | h
 ·exact .inl h.1
 ·exact .inr (.inl h.1)
 ·exact .inr (.inr (.inl h.1))
 ·exact .inr (.inr (.inr h.1))
theorem VN1.fs {x : Nd} (h : VN1 x) : ∀ f ∈ x.fs, featD f = true := by
 obtain ⟨n, h⟩ := h
 intro f hf
 rcases h with h | h | h | h
 ·rw [h.2.2.1] at hf; cases hf
 ·rw [h.2.2.1] at hf; cases hf
 ·rw [h.2.2.1] at hf; cases hf
 ·obtain ⟨i, hi⟩ := List.getElem?_of_mem hf
  exact (h.2.2.2.2.1 i f hi).1
theorem VN1.ks {x : Nd} (h : VN1 x) : x.ks.length = x.fs.length := by obtain ⟨n, h⟩ := h; exact h.lens
theorem kR_inj {x y : Nd} (hx : VN1 x) (hy : VN1 y) (h : kR x.kd = kR y.kd) : x.kd = y.kd := by
 rcases hx.kd with e | e | e | e <;> rcases hy.kd with e' | e' | e' | e' <;> rw [e, e'] at h ⊢ <;> revert h <;> decide
theorem cHd_congr (x x' y y' : Nd) (h : x.hd = x'.hd) (h' : y.hd = y'.hd) : cHd x y = cHd x' y' := by
 obtain ⟨a1, a2, a3, a4⟩ := hd_parts h
 obtain ⟨b1, b2, b3, b4⟩ := hd_parts h'
 simp only [cHd, a1, a2, a3, a4, b1, b2, b3, b4]
theorem hdC : HdC VN1 cHd where
 neg x y hx hy := by
  rw [cHd, cHd, ← fz_neg, sg_neg (kR x.kd), cb_neg (bl x.tx), sg_neg x.n, sg_neg x.fs.length, zip_neg (c := cF) (c' := cF) (us := x.fs) (bs := y.fs) fun a ha b hb => cF_neg (hx.fs a ha) (hy.fs b hb)]; rfl
 tri x y z hx hy hz := by
  unfold cHd
  refine tri_cons (sg_tri _ _ _) fun _ _ => tri_cons (cb_tri _ _ _) fun _ _ => tri_cons (sg_tri _ _ _) fun _ _ => tri_cons (sg_tri _ _ _) fun e1 e2 => tri_cons ?_ fun _ _ => tri_nil
  have e1 := sg_zero.1 e1; have e2 := sg_zero.1 e2
  exact zip_tri (by omega) (by omega) fun a ha b hb c hc => cF_tri (hx.fs a ha) (hy.fs b hb) (hz.fs c hc)
 zero x y hx hy := by
  rw [cHd, fz_all]
  simp only [List.mem_cons, List.not_mem_nil, or_false, forall_eq_or_imp, forall_eq]
  rw [sg_zero, cb_zero, sg_zero, sg_zero, zip_zero]
  constructor
  ·rintro ⟨h1, h2, h3, h4, h5⟩
   have hk := kR_inj hx hy h1
   have hf : x.fs = y.fs := by
    apply List.ext_getElem (by omega)
    intro i p1 p2
    exact (cF_zero (hx.fs _ (List.getElem_mem p1)) (hy.fs _ (List.getElem_mem p2))).1 (h5 i _ _ (List.getElem?_eq_getElem p1) (List.getElem?_eq_getElem p2))
   exact hd_mk hk h3 (bl_inj h2) hf (by rw [hx.ks, hy.ks, hf])
  ·intro h
   obtain ⟨a1, a2, a3, a4⟩ := hd_parts h
   refine ⟨by rw [a1], by rw [a3], a2, by rw [a4], fun m a b ha hb => ?_⟩
   rw [a4, hb] at ha; cases ha
   exact (cF_zero (hy.fs _ (List.mem_of_getElem? hb)) (hy.fs _ (List.mem_of_getElem? hb))).2 rfl
theorem GrOk.vl {root : Int} {xs : List Nd} {most : Nat} (h : GrOk root xs most) : VL VN1 xs := ⟨fun x hx => ⟨_, h.nds x hx⟩, h.closed⟩
end Go.Proofs.YtbiamhoonhjodacGreatDoor

namespace Go.V
open Go.RowKit (Below)
def XE (w w' : World) : Prop := Ext w w' ∧ w.drawn ≤ w'.drawn
theorem XE.refl (w : World) : XE w w := ⟨Ext.refl w, Nat.le_refl _⟩
theorem XE.trans {a b c : World} (h : XE a b) (k : XE b c) : XE a c := ⟨h.1.trans k.1, Nat.le_trans h.2 k.2⟩
theorem AllocK.mkX {w : World} {cs : Array Value} {t : Nat} {K : Addr → World → Prop} (h : ∀ (b : Nat) (w' : World), b = w.heap.size → Blk w' b cs t → XE w w' → K ⟨b, 0, none⟩ w') : AllocK w cs t K := by
 have key : ∀ (b : Nat) (w' : World), b = w.heap.size → Blk w' b cs t → Ext w w' → (w.drawn ≤ w'.drawn → K ⟨b, 0, none⟩ w') := fun b w' e hB hx hd => h b w' e hB ⟨hx, hd⟩
 have := AllocK.mk (K := fun a w' => w.drawn ≤ w'.drawn → K a w') key
 exact this (Nat.le_refl _)
theorem DrewK.mkX {w : World} {F : World → Prop} (h : ∀ w', XE w w' → F w') : DrewK w F := h _ ⟨Ext.drew w, Nat.le_succ _⟩
theorem XE.grown {w w' : World} (h : XE w w') : ∃ (q : Nat) (os : Array Obj), w' = Sort.grow (w.drewN q) os := by
 obtain ⟨h, hd⟩ := h
 refine ⟨w'.drawn - w.drawn, w'.heap.extract w.heap.size w'.heap.size, ?_⟩
 obtain ⟨heap', tape', drawn', os', output'⟩ := w'
 have e1 : os' = w.os := h.os
 have e2 : tape' = w.tape := h.tape
 have e3 : output' = w.output := h.output
 have hs : w.heap.size ≤ heap'.size := h.size
 have hb : ∀ k, k < w.heap.size → heap'[k]? = w.heap[k]? := h.block
 have hd : w.drawn ≤ drawn' := hd
 subst e1 e2 e3
 have eh : heap' = w.heap ++ heap'.extract w.heap.size heap'.size := by
  apply Array.ext_getElem?
  intro k
  by_cases hk : k < w.heap.size
  ·rw [Array.getElem?_append_left hk]; exact hb k hk
  ·rw [Array.getElem?_append_right (by omega), Array.getElem?_extract]
   by_cases hk2 : k < heap'.size
   ·rw [if_pos (by omega)]; congr 1; omega
   ·rw [if_neg (by omega), Array.getElem?_eq_none (by omega)]
 have ed : w.drawn + (drawn' - w.drawn) = drawn' := by omega
 simp only [Sort.grow, World.drewN, ed]
 congr 1
end Go.V

namespace Go.Proofs.YtbiamhoonhjodacGreatDoor
open Go Go.Proofs
def cmpsLay_ren : Go.Shelf.Ren := ⟨fun | 106 => 38 | 213 => 71 | 265 => 108 | n => n, fun | 9 => 9 | 3 => 3 | n => n, fun n => n⟩
theorem cmpsLay : Lays.n106 Tryz.prog cmpsLay_ren where
 mixed := by kernel_rfl
 f106 := Tryz.func38.trans (congrArg some (by kernel_rfl))
 f213 := Tryz.func71.trans (congrArg some (by kernel_rfl))
 f265 := Tryz.func108.trans (congrArg some (by kernel_rfl))
 t3 := Tryz.underlying3
 a3 := Tryz.isAgg3
 z3 := Tryz.sizeOf3
 v3 := Tryz.zeroValue3
 t9 := Tryz.underlying9
 a9 := Tryz.isAgg9
 z9 := Tryz.sizeOf9
 v9 := Tryz.zeroValue9
def sortfLay_ren : Go.Shelf.Ren := ⟨fun | 6 => 36 | 15 => 70 | 14 => 69 | 28 => 106 | 29 => 107 | 20 => 98 | 21 => 99 | 22 => 100 | 23 => 101 | 24 => 102 | 25 => 103 | 26 => 104 | 27 => 105 | 46 => 147 | 47 => 148 | 48 => 149 | 49 => 150 | 50 => 151 | 57 => 175 | n => n, fun | 22 => 34 | 24 => 3 | 25 => 46 | 3 => 3 | 39 => 107 | 0 => 0 | 53 => 142 | 55 => 144 | 4 => 4 | 46 => 136 | 45 => 135 | 50 => 85 | 5 => 5 | 9 => 9 | 66 => 164 | 70 => 168 | 76 => 191 | 77 => 192 | n => n, fun n => n⟩
theorem sortfLay : SlLaysF.n6 Tryz.prog sortfLay_ren where
 mixed := by kernel_rfl
 f6 := ⟨Tryz.f36.name, by kernel_rfl, Tryz.func36.trans (congrArg some (by kernel_rfl))⟩
 f14 := ⟨Tryz.f69.name, by kernel_rfl, Tryz.func69.trans (congrArg some (by kernel_rfl))⟩
 f15 := Tryz.func70.trans (congrArg some (by kernel_rfl))
 f20 := ⟨Tryz.f98.name, by kernel_rfl, Tryz.func98.trans (congrArg some (by kernel_rfl))⟩
 f21 := ⟨Tryz.f99.name, by kernel_rfl, Tryz.func99.trans (congrArg some (by kernel_rfl))⟩
 f22 := ⟨Tryz.f100.name, by kernel_rfl, Tryz.func100.trans (congrArg some (by kernel_rfl))⟩
 f23 := ⟨Tryz.f101.name, by kernel_rfl, Tryz.func101.trans (congrArg some (by kernel_rfl))⟩
 f24 := ⟨Tryz.f102.name, by kernel_rfl, Tryz.func102.trans (congrArg some (by kernel_rfl))⟩
 f25 := ⟨Tryz.f103.name, by kernel_rfl, Tryz.func103.trans (congrArg some (by kernel_rfl))⟩
 f26 := ⟨Tryz.f104.name, by kernel_rfl, Tryz.func104.trans (congrArg some (by kernel_rfl))⟩
 f27 := ⟨Tryz.f105.name, by kernel_rfl, Tryz.func105.trans (congrArg some (by kernel_rfl))⟩
 f28 := Tryz.func106.trans (congrArg some (by kernel_rfl))
 f29 := Tryz.func107.trans (congrArg some (by kernel_rfl))
 f46 := ⟨Tryz.f147.name, by kernel_rfl, Tryz.func147.trans (congrArg some (by kernel_rfl))⟩
 f47 := Tryz.func148.trans (congrArg some (by kernel_rfl))
 f48 := Tryz.func149.trans (congrArg some (by kernel_rfl))
 f49 := ⟨Tryz.f150.name, by kernel_rfl, Tryz.func150.trans (congrArg some (by kernel_rfl))⟩
 f50 := ⟨Tryz.f151.name, by kernel_rfl, Tryz.func151.trans (congrArg some (by kernel_rfl))⟩
 f57 := ⟨Tryz.f175.name, by kernel_rfl, Tryz.func175.trans (congrArg some (by kernel_rfl))⟩
 t0 := Tryz.underlying0
 a0 := Tryz.isAgg0
 z0 := Tryz.sizeOf0
 v0 := Tryz.zeroValue0
 t3 := Tryz.underlying3
 a3 := Tryz.isAgg3
 z3 := Tryz.sizeOf3
 v3 := Tryz.zeroValue3
 t4 := Tryz.underlying4
 a4 := Tryz.isAgg4
 z4 := Tryz.sizeOf4
 v4 := Tryz.zeroValue4
 t5 := Tryz.underlying5
 a5 := Tryz.isAgg5
 z5 := Tryz.sizeOf5
 v5 := Tryz.zeroValue5
 t9 := Tryz.underlying9
 a9 := Tryz.isAgg9
 z9 := Tryz.sizeOf9
 v9 := Tryz.zeroValue9
 t22 := Tryz.underlying34
 a22 := Tryz.isAgg34
 z22 := Tryz.sizeOf34
 v22 := Tryz.zeroValue34
 a24 := Tryz.isAgg3
 z24 := Tryz.sizeOf3
 t25 := Tryz.underlying46
 a25 := Tryz.isAgg46
 z25 := Tryz.sizeOf46
 v25 := Tryz.zeroValue46
 t39 := Tryz.underlying107
 a39 := Tryz.isAgg107
 z39 := Tryz.sizeOf107
 v39 := Tryz.zeroValue107
 t45 := Tryz.underlying135
 a45 := Tryz.isAgg135
 z45 := Tryz.sizeOf135
 v45 := Tryz.zeroValue135
 t46 := Tryz.underlying136
 a46 := Tryz.isAgg136
 z46 := Tryz.sizeOf136
 v46 := Tryz.zeroValue136
 t50 := Tryz.underlying85
 a50 := Tryz.isAgg85
 z50 := Tryz.sizeOf85
 v50 := Tryz.zeroValue85
 t53 := Tryz.underlying142
 a53 := Tryz.isAgg142
 z53 := Tryz.sizeOf142
 v53 := Tryz.zeroValue142
 t55 := Tryz.underlying144
 a55 := Tryz.isAgg144
 z55 := Tryz.sizeOf144
 v55 := Tryz.zeroValue144
 t66 := Tryz.underlying164
 a66 := Tryz.isAgg164
 z66 := Tryz.sizeOf164
 v66 := Tryz.zeroValue164
 t70 := Tryz.underlying168
 a70 := Tryz.isAgg168
 z70 := Tryz.sizeOf168
 v70 := Tryz.zeroValue168
 t76 := Tryz.underlying191
 a76 := Tryz.isAgg191
 z76 := Tryz.sizeOf191
 v76 := Tryz.zeroValue191
 t77 := Tryz.underlying192
 a77 := Tryz.isAgg192
 z77 := Tryz.sizeOf192
 v77 := Tryz.zeroValue192
end Go.Proofs.YtbiamhoonhjodacGreatDoor

namespace Go.Proofs.YtbiamhoonhjodacGreatDoor
open Go Go.V Go.Proofs
open Go.RowKit (Below)
/-! cmp.Compare[int] -/
def N19 (x1 : Int) (x2 : Int) (K : Int → World → Prop) (w : World) : Prop :=
 Calls Tryz.prog 40 #[(.int .i64 x1)] w fun e5 w4 =>
 ∃ p3, e5 = .returned (.bool p3) ∧
 (Calls Tryz.prog 40 #[(.int .i64 x2)] w4 fun e8 w7 =>
 ∃ p6, e8 = .returned (.bool p6) ∧
 (BoolK p3
 (BoolK p6
 (K 0 w7)
 (K (-1) w7))
 (BoolK p6
 (K 1 w7)
 (BoolK (decide (x1 < x2))
 (K (-1) w7)
 (BoolK (decide (x1 > x2))
 (K 1 w7)
 (K 0 w7))))))
def ann19 : Ann := (.two .nil (.two .nil (.two .nil (.two (.two .nil (.two (.two (.two .nil (.two (.two .nil .nil) .nil)) (.two .nil .nil)) .nil)) (.two (.two .nil (.two (.two .nil .nil) .nil)) (.two (.two .nil (.two (.two .nil .nil) .nil)) (.two (.two .nil (.two (.two .nil .nil) .nil)) (.two .nil .nil))))))))
noncomputable def code19 : Code := match Tryz.f19.body with | some c => c | none => .skip
theorem calls19 (x1 : Int) (x2 : Int) (K : Int → World → Prop) (w : World) (h : N19 x1 x2 K w) : Calls Tryz.prog 19 #[(.int .i64 x1), (.int .i64 x2)] w fun en w' => ∃ (x9 : Int), en = .returned (.int .i64 x9) ∧ K x9 w' :=
 fn_calls tabOk mixed Tryz.func19 (by kernel_rfl : Tryz.f19.body = some code19) ann19 [(.int .i64 x1), (.int .i64 x2)] [(.one (.int .i64))] K w (by kernel_rfl) (by kernel_rfl) (by kernel_rfl) h
end Go.Proofs.YtbiamhoonhjodacGreatDoor

namespace Go.Proofs.YtbiamhoonhjodacGreatDoor
open Go Go.V Go.Proofs
open Go.RowKit (Below)
/-! cmp.isNaN[int] -/
def N40 (x1 : Int) (K : Bool → World → Prop) (w : World) : Prop :=
 K (x1 != x1) w
def ann40 : Ann := (.two .nil (.two .nil .nil))
noncomputable def code40 : Code := match Tryz.f40.body with | some c => c | none => .skip
theorem calls40 (x1 : Int) (K : Bool → World → Prop) (w : World) (h : N40 x1 K w) : Calls Tryz.prog 40 #[(.int .i64 x1)] w fun en w' => ∃ (p2 : Bool), en = .returned (.bool p2) ∧ K p2 w' :=
 fn_calls tabOk mixed Tryz.func40 (by kernel_rfl : Tryz.f40.body = some code40) ann40 [(.int .i64 x1)] [(.one .bool)] K w (by kernel_rfl) (by kernel_rfl) (by kernel_rfl) h
end Go.Proofs.YtbiamhoonhjodacGreatDoor

namespace Go.Proofs.YtbiamhoonhjodacGreatDoor
open Go Go.V Go.Proofs
open Go.RowKit (Below)
/-! manystrand/graph.kindRank -/
def N37 (s1 : ByteArray) (K : Int → World → Prop) (w : World) : Prop :=
 BoolK (s1.toList == (⟨#[105, 110, 116]⟩ : ByteArray).toList)
 (K 0 w)
 (BoolK (s1.toList == (⟨#[114, 101, 99]⟩ : ByteArray).toList)
 (K 1 w)
 (BoolK (s1.toList == (⟨#[118, 97, 114]⟩ : ByteArray).toList)
 (K 2 w)
 (K 3 w)))
def ann37 : Ann := (.two .nil (.two (.two .nil (.one (.two .nil (.two (.two .nil .nil) (.two .nil (.two (.two .nil .nil) (.two .nil (.two (.two .nil .nil) .nil)))))))) (.two .nil .nil)))
noncomputable def code37 : Code := match Tryz.f37.body with | some c => c | none => .skip
theorem calls37 (s1 : ByteArray) (K : Int → World → Prop) (w : World) (h : N37 s1 K w) : Calls Tryz.prog 37 #[(.string s1)] w fun en w' => ∃ (x2 : Int), en = .returned (.int .i64 x2) ∧ K x2 w' :=
 fn_calls tabOk mixed Tryz.func37 (by kernel_rfl : Tryz.f37.body = some code37) ann37 [(.string s1)] [(.one (.int .i64))] K w (by kernel_rfl) (by kernel_rfl) (by kernel_rfl) h
end Go.Proofs.YtbiamhoonhjodacGreatDoor

namespace Go.Proofs.YtbiamhoonhjodacGreatDoor
open Go Go.V Go.Proofs
open Go.RowKit (Below)
/-! manystrand/graph.compareHeads -/
def N18 (s1 : ByteArray) (x2 : Int) (s3 : ByteArray) (a4 : Option Addr) (l4 : Nat) (c4 : Nat) (a5 : Option Addr) (l5 : Nat) (c5 : Nat) (s6 : ByteArray) (x7 : Int) (s8 : ByteArray) (a9 : Option Addr) (l9 : Nat) (c9 : Nat) (a10 : Option Addr) (l10 : Nat) (c10 : Nat) (K : Int → World → Prop) (w : World) : Prop :=
 AllocK w (#[(.string s1), (.int .i64 x2), (.string s3), (.slice a4 l4 c4), (.slice a5 l5 c5)]) 36 fun b11 w12 =>
 AllocK w12 (#[(.string s6), (.int .i64 x7), (.string s8), (.slice a9 l9 c9), (.slice a10 l10 c10)]) 36 fun b13 w14 =>
 ∃ s15, w14.cell? b11 = some (.string s15) ∧
 (∃ s16, w14.cell? b13 = some (.string s16) ∧
 (BoolK (!(s15.toList == s16.toList))
 (DrewK w14 fun w17 =>
 ∃ s18, w17.cell? b11 = some (.string s18) ∧
 (∃ s19, w17.cell? b13 = some (.string s19) ∧
 (Calls Tryz.prog 37 #[(.string s18)] w17 fun e22 w21 =>
 ∃ x20, e22 = .returned (.int .i64 x20) ∧
 (Cel w17 w21 ∧
 (Calls Tryz.prog 37 #[(.string s19)] w21 fun e25 w24 =>
 ∃ x23, e25 = .returned (.int .i64 x23) ∧
 (Calls Tryz.prog 19 #[(.int .i64 x20), (.int .i64 x23)] w24 fun e28 w27 =>
 ∃ x26, e28 = .returned (.int .i64 x26) ∧
 (K x26 w27)))))))
 (∃ s29, w14.cell? b11 = some (.string s29) ∧
 (BoolK (!(s29.toList == (⟨#[114, 101, 99]⟩ : ByteArray).toList))
 (∃ s30, w14.cell? (b11.add 2) = some (.string s30) ∧
 (∃ s31, w14.cell? (b13.add 2) = some (.string s31) ∧
 (Calls Tryz.prog 38 #[(.string s30), (.string s31)] w14 fun e34 w33 =>
 ∃ x32, e34 = .returned (.int .i64 x32) ∧
 (BoolK (x32 != 0)
 (K x32 w33)
 (∃ x35, w33.cell? (b11.add 1) = some (.int .i64 x35) ∧
 (∃ x36, w33.cell? (b13.add 1) = some (.int .i64 x36) ∧
 (Calls Tryz.prog 19 #[(.int .i64 x35), (.int .i64 x36)] w33 fun e39 w38 =>
 ∃ x37, e39 = .returned (.int .i64 x37) ∧
 (K x37 w38))))))))
 (∃ s40, w14.cell? (b11.add 2) = some (.string s40) ∧
 (∃ s41, w14.cell? (b13.add 2) = some (.string s41) ∧
 (Calls Tryz.prog 38 #[(.string s40), (.string s41)] w14 fun e44 w43 =>
 ∃ x42, e44 = .returned (.int .i64 x42) ∧
 (BoolK (x42 != 0)
 (K x42 w43)
 (∃ a45 l45 c45, w43.cell? (b11.add 3) = some (.slice a45 l45 c45) ∧
 (∃ a46 l46 c46, w43.cell? (b13.add 3) = some (.slice a46 l46 c46) ∧
 (Calls Tryz.prog 19 #[(.int .i64 l45), (.int .i64 l46)] w43 fun e49 w48 =>
 ∃ x47, e49 = .returned (.int .i64 x47) ∧
 (BoolK (x47 != 0)
 (K x47 w48)
 (∃ a50 l50 c50, w48.cell? (b11.add 3) = some (.slice a50 l50 c50) ∧
 (∃ (I51 : Int → World → Prop) (μ52 : Int → World → Nat),
 (I51 0 w48 ∧ True) ∧
 ∀ w53 x54, I51 x54 w53 →
 BoolK (decide (x54 < l50))
 (DrewK w53 fun w55 =>
 ∃ a56 l56 c56, w55.cell? (b11.add 3) = some (.slice a56 l56 c56) ∧
 ((0 ≤ x54 ∧ x54 < l56) ∧
 AddrK a56 fun b57 =>
 ∃ x58, w55.cell? ((b57.add (x54.toNat * 2)).add 0) = some (.int .i64 x58) ∧
 (∃ s59, w55.cell? ((b57.add (x54.toNat * 2)).add 1) = some (.string s59) ∧
 (∃ a60 l60 c60, w55.cell? (b13.add 3) = some (.slice a60 l60 c60) ∧
 ((0 ≤ x54 ∧ x54 < l60) ∧
 AddrK a60 fun b61 =>
 ∃ x62, w55.cell? ((b61.add (x54.toNat * 2)).add 0) = some (.int .i64 x62) ∧
 (∃ s63, w55.cell? ((b61.add (x54.toNat * 2)).add 1) = some (.string s63) ∧
 (Calls Tryz.prog 39 #[(.agg #[(.int .i64 x58), (.string s59)]), (.agg #[(.int .i64 x62), (.string s63)])] w55 fun e66 w65 =>
 ∃ p64, e66 = .returned (.bool p64) ∧
 (BoolK p64
 (K (-1) w65)
 (DrewK w65 fun w67 =>
 ∃ a68 l68 c68, w67.cell? (b13.add 3) = some (.slice a68 l68 c68) ∧
 ((0 ≤ x54 ∧ x54 < l68) ∧
 AddrK a68 fun b69 =>
 ∃ x70, w67.cell? ((b69.add (x54.toNat * 2)).add 0) = some (.int .i64 x70) ∧
 (∃ s71, w67.cell? ((b69.add (x54.toNat * 2)).add 1) = some (.string s71) ∧
 (∃ a72 l72 c72, w67.cell? (b11.add 3) = some (.slice a72 l72 c72) ∧
 ((0 ≤ x54 ∧ x54 < l72) ∧
 AddrK a72 fun b73 =>
 ∃ x74, w67.cell? ((b73.add (x54.toNat * 2)).add 0) = some (.int .i64 x74) ∧
 (∃ s75, w67.cell? ((b73.add (x54.toNat * 2)).add 1) = some (.string s75) ∧
 (Calls Tryz.prog 39 #[(.agg #[(.int .i64 x70), (.string s71)]), (.agg #[(.int .i64 x74), (.string s75)])] w67 fun e78 w77 =>
 ∃ p76, e78 = .returned (.bool p76) ∧
 (BoolK p76
 (K 1 w77)
 (I51 (IntKind.wrap .i64 (x54 + 1)) w77 ∧ μ52 (IntKind.wrap .i64 (x54 + 1)) w77 < μ52 x54 w53)))))))))))))))))
 (K 0 w53)))))))))))))))
def ann18 : Ann := (.two .nil (.two (.two .nil (.two (.two (.anyC 6 (.take 0 (.take 1 (.take 3 (.take 4 (.one 2 (.one 5 .done))))))) .nil) .nil)) (.two (.two .nil (.two (.two (.two .nil (.two .nil (.two (.two .nil .nil) .nil))) (.two .nil .nil)) .nil)) (.two (.two .nil (.two .nil (.two (.two .nil .nil) .nil))) (.two (.two .nil (.two .nil (.two (.two .nil .nil) .nil))) (.two (.two .nil (.one (.loop [(58, (.one (.int .i64)))] [2, 3, 57] (.two .nil (.two (.two .nil .nil) (.two (.one (.two .nil (.two (.two (.anyC 10 (.take 0 (.take 1 (.take 2 (.take 3 (.take 4 (.take 5 (.take 6 (.take 7 (.take 8 (.take 9 .done))))))))))) (.two (.two .nil .nil) .nil)) (.two (.anyC 10 (.take 0 (.take 1 (.take 2 (.take 3 (.take 4 (.take 5 (.take 6 (.take 7 (.take 8 (.take 9 .done))))))))))) (.two (.two .nil .nil) .nil))))) .nil)))))) (.two .nil .nil)))))))
noncomputable def code18 : Code := match Tryz.f18.body with | some c => c | none => .skip
theorem calls18 (s1 : ByteArray) (x2 : Int) (s3 : ByteArray) (a4 : Option Addr) (l4 : Nat) (c4 : Nat) (a5 : Option Addr) (l5 : Nat) (c5 : Nat) (s6 : ByteArray) (x7 : Int) (s8 : ByteArray) (a9 : Option Addr) (l9 : Nat) (c9 : Nat) (a10 : Option Addr) (l10 : Nat) (c10 : Nat) (K : Int → World → Prop) (w : World) (h : N18 s1 x2 s3 a4 l4 c4 a5 l5 c5 s6 x7 s8 a9 l9 c9 a10 l10 c10 K w) : Calls Tryz.prog 18 #[(.agg #[(.string s1), (.int .i64 x2), (.string s3), (.slice a4 l4 c4), (.slice a5 l5 c5)]), (.agg #[(.string s6), (.int .i64 x7), (.string s8), (.slice a9 l9 c9), (.slice a10 l10 c10)])] w fun en w' => ∃ (x79 : Int), en = .returned (.int .i64 x79) ∧ K x79 w' :=
 fn_calls tabOk mixed Tryz.func18 (by kernel_rfl : Tryz.f18.body = some code18) ann18 [(.agg #[(.string s1), (.int .i64 x2), (.string s3), (.slice a4 l4 c4), (.slice a5 l5 c5)]), (.agg #[(.string s6), (.int .i64 x7), (.string s8), (.slice a9 l9 c9), (.slice a10 l10 c10)])] [(.one (.int .i64))] K w (by kernel_rfl) (by kernel_rfl) (by kernel_rfl) h
end Go.Proofs.YtbiamhoonhjodacGreatDoor

namespace Go.Proofs.YtbiamhoonhjodacGreatDoor
open Go Go.V Go.Proofs Go.V.Gr
open Go.RowKit (Below)
open Go.Lib (compareBytes)
theorem ctr40 (w : World) (x : Int) : Calls Tryz.prog 40 #[.int .i64 x] w fun en w' => ∃ p, en = .returned (.bool p) ∧ (p = false ∧ w' = w) := by
 refine calls40 _ _ w ?_
 exact ⟨by simp, rfl⟩
theorem ctr19 (w : World) (x y : Int) : Calls Tryz.prog 19 #[.int .i64 x, .int .i64 y] w fun en w' => ∃ r, en = .returned (.int .i64 r) ∧ (r = sg x y ∧ w' = w) := by
 refine calls19 _ _ _ w ?_
 refine (ctr40 w x).mono ?_
 rintro en w4 ⟨p, rfl, rfl, rfl⟩
 refine ⟨_, rfl, (ctr40 w4 y).mono ?_⟩
 rintro en w7 ⟨p, rfl, rfl, rfl⟩
 refine ⟨_, rfl, BoolK.mk (fun t => by cases t) (fun _ => BoolK.mk (fun t => by cases t) (fun _ => BoolK.mk (fun t => ?_) (fun t => BoolK.mk (fun t2 => ?_) (fun t2 => ?_))))⟩
 ·have := of_decide_eq_true t
  exact ⟨by unfold sg; rw [if_pos (by omega)], rfl⟩
 ·have := of_decide_eq_false t; have := of_decide_eq_true t2
  exact ⟨by unfold sg; rw [if_neg (by omega), if_pos (by omega)], rfl⟩
 ·have := of_decide_eq_false t; have := of_decide_eq_false t2
  exact ⟨by unfold sg; rw [if_neg (by omega), if_neg (by omega)], rfl⟩
theorem ctr38 (w : World) (a b : ByteArray) : Calls Tryz.prog 38 #[.string a, .string b] w fun en w' => ∃ r, en = .returned (.int .i64 r) ∧ (r = compareBytes (bl a) (bl b) ∧ w' = w) := by
 refine Calls.mono (Any.strings_Compare cmpsLay a b w) ?_
 rintro en w' ⟨rfl, rfl⟩
 exact ⟨_, rfl, rfl, rfl⟩
theorem ctr37 (w : World) (k : ByteArray) : Calls Tryz.prog 37 #[.string k] w fun en w' => ∃ r, en = .returned (.int .i64 r) ∧ (r = kR k ∧ w' = w) := by
 refine calls37 _ _ w ?_
 refine BoolK.mk (fun t => ?_) (fun t => BoolK.mk (fun t2 => ?_) (fun t2 => BoolK.mk (fun t3 => ?_) (fun t3 => ?_)))
 ·have t : k = kInt := tl_iff.1 t
  exact ⟨by rw [kR, if_pos t], rfl⟩
 ·have t : k ≠ kInt := tl_no t
  have t2 : k = kRec := tl_iff.1 t2
  exact ⟨by rw [kR, if_neg t, if_pos t2], rfl⟩
 ·have t : k ≠ kInt := tl_no t
  have t2 : k ≠ kRec := tl_no t2
  have t3 : k = kVar := tl_iff.1 t3
  exact ⟨by rw [kR, if_neg t, if_neg t2, if_pos t3], rfl⟩
 ·have t : k ≠ kInt := tl_no t
  have t2 : k ≠ kRec := tl_no t2
  have t3 : k ≠ kVar := tl_no t3
  exact ⟨by rw [kR, if_neg t, if_neg t2, if_neg t3], rfl⟩
theorem xtr39 (w : World) (f g : Ft) : Calls Tryz.prog 39 #[.agg #[.int .i64 f.1, .string f.2], .agg #[.int .i64 g.1, .string g.2]] w fun en w' => ∃ p, en = .returned (.bool p) ∧ (p = lessD f g ∧ XE w w') := by
 refine calls39 _ _ _ _ _ w ?_
 refine AllocK.mkX fun b w4 hb hB hx => AllocK.mkX fun b' w8 hb' hB' hx' => ?_
 have hB := hB.ext hx'.1
 have x8 := hx.trans hx'
 have g0 : w8.cell? (⟨b, 0, none⟩ : Addr) = some (.int .i64 f.1) := by rw [hB.cell]; rfl
 have g1 : w8.cell? ((⟨b, 0, none⟩ : Addr).add 1) = some (.string f.2) := by rw [add_mk, hB.cell]; rfl
 have k0 : w8.cell? (⟨b', 0, none⟩ : Addr) = some (.int .i64 g.1) := by rw [hB'.cell]; rfl
 have k1 : w8.cell? ((⟨b', 0, none⟩ : Addr).add 1) = some (.string g.2) := by rw [add_mk, hB'.cell]; rfl
 refine ⟨fun p w' => p = decide (0 < f.1 ∧ 0 < g.1) ∧ w' = w8, ?_, ?_⟩
 ·rintro w10 _ ⟨rfl, rfl⟩
  refine BoolK.mk (fun t => ⟨_, g0, _, k0, ?_, x8⟩) (fun t => ⟨_, g0, BoolK.mk (fun t1 => ⟨_, g0, ?_, x8⟩) (fun t1 => ⟨_, k0, BoolK.mk (fun t2 => ⟨_, g0, ?_, x8⟩) (fun t2 => ⟨_, g1, _, k1, ?_, x8⟩)⟩)⟩)
  ·have t := of_decide_eq_true t
   rw [lessD, if_pos t]
  all_goals have t := of_decide_eq_false t
  ·have t1 := of_decide_eq_true t1
   rw [lessD, if_neg t, if_pos (.inl (by omega))]
  all_goals have t1 := of_decide_eq_false t1
  ·have t2 := of_decide_eq_true t2
   rw [lessD, if_neg t, if_pos (.inr (by omega))]
  ·have t2 := of_decide_eq_false t2
   rw [lessD, if_neg t, if_neg (by omega)]
 ·refine ⟨_, g0, BoolK.mk (fun t => ⟨_, k0, ?_, rfl⟩) (fun t => ⟨?_, rfl⟩)⟩
  ·have t := of_decide_eq_true t
   rw [decide_eq_decide]; omega
  ·have t := of_decide_eq_false t
   symm; rw [decide_eq_false_iff_not]; omega
theorem fz_at : ∀ {l : List Int} {k : Nat} {a : Int}, (∀ m, m < k → l[m]? = some 0) → l[k]? = some a → a ≠ 0 → fz l = a
 | [], _, _, _, h, _ => by simp at h
 | x :: l, 0, a, _, h, ha => by simp at h; subst h; simp [fz, ha]
 | x :: l, k + 1, a, h0, h, ha => by
  have := h0 0 (by omega)
  simp at this
  rw [fz, if_pos this]
  exact fz_at (k := k) (fun m hm => by have := h0 (m + 1) (by omega); simpa using this) (by simpa using h) ha
theorem fz_cons0 {l : List Int} : fz (0 :: l) = fz l := by simp [fz]
theorem fz_consn {a : Int} {l : List Int} (h : a ≠ 0) : fz (a :: l) = a := by simp [fz, h]
set_option maxRecDepth 100000 in
theorem xtr18 (w : World) (x y : Nd) {a4 a5 b4 b5 : Option Addr} {l4 l5 m4 m5 : Nat} (c4 c5 d4 d5 : Nat) (hx : VN1 x) (hy : VN1 y) (hxf : RL 2 RFt w a4 l4 x.fs) (hyf : RL 2 RFt w b4 m4 y.fs) :
  Calls Tryz.prog 18 #[.agg #[.string x.kd, .int .i64 x.n, .string x.tx, .slice a4 l4 c4, .slice a5 l5 c5], .agg #[.string y.kd, .int .i64 y.n, .string y.tx, .slice b4 m4 d4, .slice b5 m5 d5]] w
   fun en w' => ∃ r, en = .returned (.int .i64 r) ∧ (r = cHd x y ∧ XE w w') := by
 refine calls18 _ _ _ _ _ _ _ _ _ _ _ _ _ _ _ _ _ _ _ w ?_
 have e4 := hxf.len; have f4 := hyf.len
 have k4 := hxf.2; have n4 := hyf.2
 simp only [maxLen] at k4 n4
 refine AllocK.mkX fun b w12 hb hB x12 => AllocK.mkX fun b2 w14 hb2 hB2 x14 => ?_
 have y14 := x12.trans x14
 obtain ⟨g0, g1, g2, g3, g4⟩ := blkAt5 hB x14.1
 obtain ⟨h0, h1, h2, h3, h4⟩ := blkAt5 hB2 (Ext.refl w14)
 refine ⟨_, g0, _, h0, BoolK.mk (fun t => ?_) (fun t => ?_)⟩
 ·have hne : x.kd ≠ y.kd := tl_no (by simpa using t)
  refine DrewK.mkX fun w17 x17 => ?_
  obtain ⟨g0, _⟩ := blkAt5 hB (x14.1.trans x17.1)
  obtain ⟨h0, _⟩ := blkAt5 hB2 x17.1
  refine ⟨_, g0, _, h0, (ctr37 w17 x.kd).mono ?_⟩
  rintro en w21 ⟨_, rfl, rfl, rfl⟩
  refine ⟨_, rfl, Below.cel (Ext.refl _), (ctr37 w21 y.kd).mono ?_⟩
  rintro en w24 ⟨_, rfl, rfl, rfl⟩
  refine ⟨_, rfl, (ctr19 w24 _ _).mono ?_⟩
  rintro en w27 ⟨_, rfl, rfl, rfl⟩
  refine ⟨_, rfl, ?_, y14.trans x17⟩
  rw [cHd, fz_consn]
  intro e
  exact hne (kR_inj hx hy (sg_zero.1 e))
 have hkd : x.kd = y.kd := tl_iff.1 (by simpa using t)
 have hk0 : sg (kR x.kd) (kR y.kd) = 0 := sg_zero.2 (by rw [hkd])
 refine ⟨_, g0, BoolK.mk (fun t2 => ?_) (fun t2 => ?_)⟩
 ·have hnr : x.kd ≠ kRec := tl_no (t := kRec) (by rw [Bool.not_eq_true'] at t2; exact t2)
  have nofs : ∀ {z : Nd}, VN1 z → z.kd ≠ kRec → z.fs = [] := fun hz hn => by
   obtain ⟨n, hz⟩ := hz
   rcases hz with h | h | h | h
   ·exact h.2.2.1
   ·exact h.2.2.1
   ·exact h.2.2.1
   ·exact absurd h.1 hn
  have hf1 := nofs hx hnr
  have hf2 := nofs hy (by rw [← hkd]; exact hnr)
  refine ⟨_, g2, _, h2, (ctr38 w14 _ _).mono ?_⟩
  rintro en w33 ⟨_, rfl, rfl, rfl⟩
  refine ⟨_, rfl, BoolK.mk (fun t3 => ?_) (fun t3 => ⟨_, g1, _, h1, (ctr19 w33 _ _).mono ?_⟩)⟩
  ·have t3 : compareBytes (bl x.tx) (bl y.tx) ≠ 0 := by simpa using t3
   exact ⟨by rw [cHd, hk0, fz_cons0, fz_consn t3], y14⟩
  ·have t3 : compareBytes (bl x.tx) (bl y.tx) = 0 := by simpa using t3
   rintro en w38 ⟨_, rfl, rfl, rfl⟩
   refine ⟨_, rfl, ?_, y14⟩
   rw [cHd, hk0, t3, hf1, hf2, fz_cons0, fz_cons0]
   by_cases e : sg x.n y.n = 0
   ·rw [e, fz_cons0]; rfl
   ·rw [fz_consn e]
 ·have hr : x.kd = kRec := (tl_iff (t := kRec)).1 (by rw [Bool.not_eq_false'] at t2; exact t2)
  have rn : ∀ {z : Nd}, VN1 z → z.kd = kRec → z.n = 0 := fun hz hn => by
   obtain ⟨n, hz⟩ := hz
   exact ((NdOk.rec_iff hn).1 hz).1
  have hn0 : sg x.n y.n = 0 := sg_zero.2 (by rw [rn hx hr, rn hy (by rw [← hkd]; exact hr)])
  refine ⟨_, g2, _, h2, (ctr38 w14 _ _).mono ?_⟩
  rintro en w43 ⟨_, rfl, rfl, rfl⟩
  refine ⟨_, rfl, BoolK.mk (fun t3 => ?_) (fun t3 => ⟨_, _, _, g3, _, _, _, h3, (ctr19 w43 _ _).mono ?_⟩)⟩
  ·have t3 : compareBytes (bl x.tx) (bl y.tx) ≠ 0 := by simpa using t3
   exact ⟨by rw [cHd, hk0, fz_cons0, fz_consn t3], y14⟩
  have t3 : compareBytes (bl x.tx) (bl y.tx) = 0 := by simpa using t3
  rintro en w48 ⟨_, rfl, rfl, rfl⟩
  refine ⟨_, rfl, BoolK.mk (fun t5 => ?_) (fun t5 => ?_)⟩
  ·have t5 : sg (l4 : Nat) (m4 : Nat) ≠ 0 := by simpa using t5
   refine ⟨?_, y14⟩
   rw [cHd, hk0, t3, hn0, fz_cons0, fz_cons0, fz_cons0, e4, f4, fz_consn]
   rw [← e4, ← f4]; exact t5
  have t5 : sg (l4 : Nat) (m4 : Nat) = 0 := by simpa using t5
  have hlen : x.fs.length = y.fs.length := by have := sg_zero.1 t5; omega
  have hH : cHd x y = fz (List.zipWith cF x.fs y.fs) := by
   rw [cHd, hk0, t3, hn0, fz_cons0, fz_cons0, fz_cons0]
   have : sg x.fs.length y.fs.length = 0 := sg_zero.2 (by rw [hlen])
   rw [this, fz_cons0]
   by_cases e : fz (List.zipWith cF x.fs y.fs) = 0
   ·rw [e]; rfl
   ·rw [fz_consn e]
  rw [hH]
  refine ⟨_, _, _, g3, ?_⟩
  refine ⟨fun i w' => ∃ k : Nat, i = k ∧ k ≤ x.fs.length ∧ XE w48 w' ∧ ∀ m, m < k → (List.zipWith cF x.fs y.fs)[m]? = some 0, fun i _ => x.fs.length - i.toNat, ⟨⟨0, rfl, by omega, XE.refl _, fun m hm => by omega⟩, trivial⟩, ?_⟩
  rintro w53 _ ⟨k, rfl, hk, x53, hall⟩
  refine BoolK.mk (fun t6 => ?_) (fun t6 => ?_)
  ·have hlt : k < x.fs.length := by have := of_decide_eq_true t6; omega
   have hlt' : k < y.fs.length := by omega
   have hz : (List.zipWith cF x.fs y.fs)[k]? = some (cF x.fs[k] y.fs[k]) := by
    rw [List.getElem?_zipWith, List.getElem?_eq_getElem hlt, List.getElem?_eq_getElem hlt']
   refine DrewK.mkX fun w55 x55 => ?_
   have x55 := x53.trans x55
   have y55 := y14.trans x55
   obtain ⟨_, _, _, g3, _⟩ := blkAt5 hB (x14.1.trans x55.1)
   obtain ⟨_, _, _, h3, _⟩ := blkAt5 hB2 x55.1
   obtain ⟨b1, ha, q0, q1, _⟩ := ftAt hxf y55.1 hlt
   obtain ⟨b3, hc, r0, r1, _⟩ := ftAt hyf y55.1 hlt'
   refine ⟨_, _, _, g3, ⟨by omega, by omega⟩, adK ha ⟨_, q0, _, q1, _, _, _, h3, ⟨by omega, by omega⟩, adK hc ⟨_, r0, _, r1, (xtr39 w55 x.fs[k] y.fs[k]).mono ?_⟩⟩⟩
   rintro en w65 ⟨_, rfl, rfl, x65⟩
   have x65 := x55.trans x65
   refine ⟨_, rfl, BoolK.mk (fun t7 => ?_) (fun t7 => DrewK.mkX fun w67 x67 => ?_)⟩
   ·have hv : cF x.fs[k] y.fs[k] = -1 := by rw [cF, if_pos t7]
    rw [hv] at hz
    exact ⟨(fz_at hall hz (by omega)).symm, y14.trans x65⟩
   ·have x67 := x65.trans x67
    have y67 := y14.trans x67
    obtain ⟨_, _, _, g3, _⟩ := blkAt5 hB (x14.1.trans x67.1)
    obtain ⟨_, _, _, h3, _⟩ := blkAt5 hB2 x67.1
    obtain ⟨b1, ha, q0, q1, _⟩ := ftAt hxf y67.1 hlt
    obtain ⟨b3, hc, r0, r1, _⟩ := ftAt hyf y67.1 hlt'
    refine ⟨_, _, _, h3, ⟨by omega, by omega⟩, adK hc ⟨_, r0, _, r1, _, _, _, g3, ⟨by omega, by omega⟩, adK ha ⟨_, q0, _, q1, (xtr39 w67 y.fs[k] x.fs[k]).mono ?_⟩⟩⟩
    rintro en w77 ⟨_, rfl, rfl, x77⟩
    have x77 := x67.trans x77
    refine ⟨_, rfl, BoolK.mk (fun t8 => ?_) (fun t8 => ?_)⟩
    ·have hv : cF x.fs[k] y.fs[k] = 1 := by rw [cF, if_neg (by rw [t7]; decide), if_pos t8]
     rw [hv] at hz
     exact ⟨(fz_at hall hz (by omega)).symm, y14.trans x77⟩
    ·have hv : cF x.fs[k] y.fs[k] = 0 := by rw [cF, if_neg (by rw [t7]; decide), if_neg (by rw [t8]; decide)]
     rw [hv] at hz
     rw [wrap_succ (by omega)]
     refine ⟨⟨k + 1, rfl, by omega, x77, fun m hm => ?_⟩, by simp; omega⟩
     rcases Nat.lt_or_ge m k with h | h
     ·exact hall m h
     ·have : m = k := by omega
      subst this; exact hz
  ·have : k = x.fs.length := by have := of_decide_eq_false t6; omega
   subst this
   refine ⟨?_, y14.trans x53⟩
   symm
   refine zip_zero.2 fun m a b ha hb => ?_
   have := hall m (List.getElem?_eq_some_iff.1 ha).1
   rw [List.getElem?_zipWith, ha, hb] at this
   exact Option.some.inj this
end Go.Proofs.YtbiamhoonhjodacGreatDoor

namespace Go.Proofs.YtbiamhoonhjodacGreatDoor
open Go Go.V Go.Proofs
open Go.RowKit (Below)
/-! manystrand/graph.Compare$1 -/
def N17 (x1 : Int) (x2 : Int) (o3 : Option Addr) (K : Int → World → Prop) (w : World) : Prop :=
 DrewK w fun w4 =>
 AddrK o3 fun b5 =>
 ∃ a6 l6 c6, w4.cell? b5 = some (.slice a6 l6 c6) ∧
 ((0 ≤ x1 ∧ x1 < l6) ∧
 AddrK a6 fun b7 =>
 ∃ s8, w4.cell? ((b7.add (x1.toNat * 5)).add 0) = some (.string s8) ∧
 (∃ x9, w4.cell? ((b7.add (x1.toNat * 5)).add 1) = some (.int .i64 x9) ∧
 (∃ s10, w4.cell? ((b7.add (x1.toNat * 5)).add 2) = some (.string s10) ∧
 (∃ a11 l11 c11, w4.cell? ((b7.add (x1.toNat * 5)).add 3) = some (.slice a11 l11 c11) ∧
 (∃ a12 l12 c12, w4.cell? ((b7.add (x1.toNat * 5)).add 4) = some (.slice a12 l12 c12) ∧
 (AddrK o3 fun b13 =>
 ∃ a14 l14 c14, w4.cell? b13 = some (.slice a14 l14 c14) ∧
 ((0 ≤ x2 ∧ x2 < l14) ∧
 AddrK a14 fun b15 =>
 ∃ s16, w4.cell? ((b15.add (x2.toNat * 5)).add 0) = some (.string s16) ∧
 (∃ x17, w4.cell? ((b15.add (x2.toNat * 5)).add 1) = some (.int .i64 x17) ∧
 (∃ s18, w4.cell? ((b15.add (x2.toNat * 5)).add 2) = some (.string s18) ∧
 (∃ a19 l19 c19, w4.cell? ((b15.add (x2.toNat * 5)).add 3) = some (.slice a19 l19 c19) ∧
 (∃ a20 l20 c20, w4.cell? ((b15.add (x2.toNat * 5)).add 4) = some (.slice a20 l20 c20) ∧
 (Calls Tryz.prog 18 #[(.agg #[(.string s8), (.int .i64 x9), (.string s10), (.slice a11 l11 c11), (.slice a12 l12 c12)]), (.agg #[(.string s16), (.int .i64 x17), (.string s18), (.slice a19 l19 c19), (.slice a20 l20 c20)])] w4 fun e23 w22 =>
 ∃ x21, e23 = .returned (.int .i64 x21) ∧
 (K x21 w22)))))))))))))
def ann17 : Ann := (.two .nil (.two (.anyC 8 (.take 0 (.take 1 (.take 2 (.take 3 (.take 4 (.take 5 (.take 6 (.take 7 .done))))))))) .nil))
noncomputable def code17 : Code := match Tryz.f17.body with | some c => c | none => .skip
theorem calls17 (x1 : Int) (x2 : Int) (o3 : Option Addr) (K : Int → World → Prop) (w : World) (h : N17 x1 x2 o3 K w) : Calls Tryz.prog 17 #[(.int .i64 x1), (.int .i64 x2), (.pointer o3)] w fun en w' => ∃ (x24 : Int), en = .returned (.int .i64 x24) ∧ K x24 w' :=
 fn_calls tabOk mixed Tryz.func17 (by kernel_rfl : Tryz.f17.body = some code17) ann17 [(.int .i64 x1), (.int .i64 x2), (.pointer o3)] [(.one (.int .i64))] K w (by kernel_rfl) (by kernel_rfl) (by kernel_rfl) h
end Go.Proofs.YtbiamhoonhjodacGreatDoor

namespace Go.Proofs.YtbiamhoonhjodacGreatDoor
open Go Go.V Go.Proofs
open Go.RowKit (Below)
/-! manystrand/graph.Compare$2 -/
def N20 (x1 : Int) (x2 : Int) (o3 : Option Addr) (o4 : Option Addr) (o5 : Option Addr) (K : Int → World → Prop) (w : World) : Prop :=
 DrewK w fun w6 =>
 AddrK o3 fun b7 =>
 ∃ a8 l8 c8, w6.cell? b7 = some (.slice a8 l8 c8) ∧
 ((0 ≤ x1 ∧ x1 < l8) ∧
 AddrK a8 fun b9 =>
 ∃ x10, w6.cell? (b9.add (x1.toNat * 1)) = some (.int .i64 x10) ∧
 (AddrK o3 fun b11 =>
 ∃ a12 l12 c12, w6.cell? b11 = some (.slice a12 l12 c12) ∧
 ((0 ≤ x2 ∧ x2 < l12) ∧
 AddrK a12 fun b13 =>
 ∃ x14, w6.cell? (b13.add (x2.toNat * 1)) = some (.int .i64 x14) ∧
 (Calls Tryz.prog 19 #[(.int .i64 x10), (.int .i64 x14)] w6 fun e17 w16 =>
 ∃ x15, e17 = .returned (.int .i64 x15) ∧
 (BoolK (x15 != 0)
 (K x15 w16)
 (AddrK o4 fun b18 =>
 ∃ a19 l19 c19, w16.cell? b18 = some (.slice a19 l19 c19) ∧
 ((0 ≤ x1 ∧ x1 < l19) ∧
 AddrK a19 fun b20 =>
 ∃ a21 l21 c21, w16.cell? ((b20.add (x1.toNat * 5)).add 4) = some (.slice a21 l21 c21) ∧
 (∃ (I22 : Int → World → Prop) (μ23 : Int → World → Nat),
 (I22 0 w16 ∧ True) ∧
 ∀ w24 x25, I22 x25 w24 →
 BoolK (decide (x25 < l21))
 (DrewK w24 fun w26 =>
 AddrK o5 fun b27 =>
 ∃ a28 l28 c28, w26.cell? b27 = some (.slice a28 l28 c28) ∧
 (AddrK o4 fun b29 =>
 ∃ a30 l30 c30, w26.cell? b29 = some (.slice a30 l30 c30) ∧
 ((0 ≤ x1 ∧ x1 < l30) ∧
 AddrK a30 fun b31 =>
 ∃ a32 l32 c32, w26.cell? ((b31.add (x1.toNat * 5)).add 4) = some (.slice a32 l32 c32) ∧
 ((0 ≤ x25 ∧ x25 < l32) ∧
 AddrK a32 fun b33 =>
 ∃ x34, w26.cell? (b33.add (x25.toNat * 1)) = some (.int .i64 x34) ∧
 ((0 ≤ x34 ∧ x34 < l28) ∧
 AddrK a28 fun b35 =>
 ∃ x36, w26.cell? (b35.add (x34.toNat * 1)) = some (.int .i64 x36) ∧
 (AddrK o5 fun b37 =>
 ∃ a38 l38 c38, w26.cell? b37 = some (.slice a38 l38 c38) ∧
 (AddrK o4 fun b39 =>
 ∃ a40 l40 c40, w26.cell? b39 = some (.slice a40 l40 c40) ∧
 ((0 ≤ x2 ∧ x2 < l40) ∧
 AddrK a40 fun b41 =>
 ∃ a42 l42 c42, w26.cell? ((b41.add (x2.toNat * 5)).add 4) = some (.slice a42 l42 c42) ∧
 ((0 ≤ x25 ∧ x25 < l42) ∧
 AddrK a42 fun b43 =>
 ∃ x44, w26.cell? (b43.add (x25.toNat * 1)) = some (.int .i64 x44) ∧
 ((0 ≤ x44 ∧ x44 < l38) ∧
 AddrK a38 fun b45 =>
 ∃ x46, w26.cell? (b45.add (x44.toNat * 1)) = some (.int .i64 x46) ∧
 (Calls Tryz.prog 19 #[(.int .i64 x36), (.int .i64 x46)] w26 fun e49 w48 =>
 ∃ x47, e49 = .returned (.int .i64 x47) ∧
 (BoolK (x47 != 0)
 (K x47 w48)
 (I22 (IntKind.wrap .i64 (x25 + 1)) w48 ∧ μ23 (IntKind.wrap .i64 (x25 + 1)) w48 < μ23 x25 w24)))))))))))))
 (K 0 w24)))))))))
def ann20 : Ann := (.two .nil (.two (.two (.anyC 8 (.take 0 (.take 1 (.take 2 (.take 3 (.take 4 (.take 5 (.take 6 (.take 7 .done))))))))) (.two .nil (.two (.two .nil .nil) .nil))) (.two (.two .nil (.one (.loop [(29, (.one (.int .i64)))] [0, 1, 3, 4, 28] (.two .nil (.two (.two .nil .nil) (.two (.one (.two .nil (.two (.anyC 22 (.take 0 (.take 1 (.take 2 (.take 3 (.take 4 (.take 5 (.take 6 (.take 7 (.take 8 (.take 9 (.take 10 (.take 11 (.take 12 (.take 13 (.take 14 (.take 15 (.take 16 (.take 17 (.take 18 (.take 19 (.take 20 (.take 21 .done))))))))))))))))))))))) (.two .nil (.two (.two .nil .nil) .nil))))) .nil)))))) (.two .nil .nil))))
noncomputable def code20 : Code := match Tryz.f20.body with | some c => c | none => .skip
theorem calls20 (x1 : Int) (x2 : Int) (o3 : Option Addr) (o4 : Option Addr) (o5 : Option Addr) (K : Int → World → Prop) (w : World) (h : N20 x1 x2 o3 o4 o5 K w) : Calls Tryz.prog 20 #[(.int .i64 x1), (.int .i64 x2), (.pointer o3), (.pointer o4), (.pointer o5)] w fun en w' => ∃ (x50 : Int), en = .returned (.int .i64 x50) ∧ K x50 w' :=
 fn_calls tabOk mixed Tryz.func20 (by kernel_rfl : Tryz.f20.body = some code20) ann20 [(.int .i64 x1), (.int .i64 x2), (.pointer o3), (.pointer o4), (.pointer o5)] [(.one (.int .i64))] K w (by kernel_rfl) (by kernel_rfl) (by kernel_rfl) h
end Go.Proofs.YtbiamhoonhjodacGreatDoor

namespace Go.Proofs.YtbiamhoonhjodacGreatDoor
open Go Go.V Go.Proofs Go.V.Gr
open Go.RowKit (Below)
theorem xtr17 (w : World) {xs : List Nd} {a : Option Addr} {l c b37 : Nat} (hb : w.cell? (⟨b37, 0, none⟩ : Addr) = some (.slice a l c)) (hN : RNds w a l xs) (hV : VL VN1 xs) {i j : Nat} (hi : i < xs.length) (hj : j < xs.length) :
  Calls Tryz.prog 17 #[.int .i64 (i : Int), .int .i64 (j : Int), .pointer (some ⟨b37, 0, none⟩)] w fun en w' => ∃ r, en = .returned (.int .i64 r) ∧ (r = cHd (nd xs i) (nd xs j) ∧ XE w w') := by
 refine calls17 _ _ _ _ w ?_
 have hl := hN.len
 refine DrewK.mkX fun w4 x4 => adK rfl ?_
 obtain ⟨bi, ha, n0, n1, n2, n3, n4, ⟨a5, l5, c5, n5, n6⟩, ⟨a7, l7, c7, n7, n8⟩, _⟩ := ndAt hN x4.1 hi
 obtain ⟨bj, ha', m0, m1, m2, m3, m4, ⟨d5, e5, f5, m5, m6⟩, ⟨d7, e7, f7, m7, m8⟩, _⟩ := ndAt hN x4.1 hj
 refine ⟨_, _, _, x4.1.cell hb, ⟨by omega, by omega⟩, adK ha ⟨_, n0, _, n1, _, n2, _, _, _, n5, _, _, _, n7, adK rfl ⟨_, _, _, x4.1.cell hb, ⟨by omega, by omega⟩, adK ha' ⟨_, m0, _, m1, _, m2, _, _, _, m5, _, _, _, m7, ?_⟩⟩⟩⟩
 have v1 := hV.nd hi; have v2 := hV.nd hj
 rw [nd_get hi] at v1 ⊢; rw [nd_get hj] at v2 ⊢
 refine (xtr18 w4 xs[i] xs[j] c5 c7 f5 f7 v1 v2 n6 m6).mono ?_
 rintro en w22 ⟨r, rfl, hr, x22⟩
 exact ⟨_, rfl, hr, x4.trans x22⟩
def Rk (n : Nat) (rk : List Int) (c : Nat → Nat → Int) : Prop := rk.length = n ∧ ∀ i j, i < n → j < n → sg (ga rk i) (ga rk j) = c i j
set_option maxRecDepth 100000 in
theorem xtr20 (w : World) {xs : List Nd} {a a1 a2 : Option Addr} {l c l1 c1 l2 c2 b37 b52 b75 : Nat} {fi la : List Int} (hb : w.cell? (⟨b37, 0, none⟩ : Addr) = some (.slice a l c)) (hN : RNds w a l xs) (hV : VL VN1 xs) (hz : Sz xs)
  (h52 : w.cell? (⟨b52, 0, none⟩ : Addr) = some (.slice a1 l1 c1)) (h1 : Ints w a1 l1 fi) (hf : Rk xs.length fi fun i j => cHd (nd xs i) (nd xs j)) (h75 : w.cell? (⟨b75, 0, none⟩ : Addr) = some (.slice a2 l2 c2)) (h2 : Ints w a2 l2 la) (hla : la.length = xs.length) {i j : Nat} (hi : i < xs.length) (hj : j < xs.length) :
  Calls Tryz.prog 20 #[.int .i64 (i : Int), .int .i64 (j : Int), .pointer (some ⟨b52, 0, none⟩), .pointer (some ⟨b37, 0, none⟩), .pointer (some ⟨b75, 0, none⟩)] w fun en w' => ∃ r, en = .returned (.int .i64 r) ∧
   (r = fz [cHd (nd xs i) (nd xs j), fz (List.zipWith (fun a b => sg (ga la a) (ga la b)) (kids xs i) (kids xs j))] ∧ XE w w') := by
 refine calls20 _ _ _ _ _ _ w ?_
 have hl := hN.len
 have hl1 := h1.1; have hl2 := h2.1
 have hfl := hf.1
 refine DrewK.mkX fun w6 x6 => adK rfl ?_
 have at1 : ∀ {w' : World} {k : Nat}, Ext w w' → k < xs.length → ∃ b, a1 = some b ∧ w'.cell? (b.add (((k : Nat) : Int).toNat * 1)) = some (.int .i64 (ga fi k)) := fun x hk => by
  obtain ⟨b, o, ha, h0⟩ := (Rows.ext RInt.mono h1 x).get (i := _) (by rw [hfl]; exact hk)
  exact ⟨_, ha, by rw [Int.toNat_natCast, add_mk, ga_get (by rw [hfl]; exact hk)]; exact h0⟩
 have at2 : ∀ {w' : World} {k : Nat}, Ext w w' → k < xs.length → ∃ b, a2 = some b ∧ w'.cell? (b.add (((k : Nat) : Int).toNat * 1)) = some (.int .i64 (ga la k)) := fun x hk => by
  obtain ⟨b, o, ha, h0⟩ := (Rows.ext RInt.mono h2 x).get (i := _) (by rw [hla]; exact hk)
  exact ⟨_, ha, by rw [Int.toNat_natCast, add_mk, ga_get (by rw [hla]; exact hk)]; exact h0⟩
 obtain ⟨b9, e9, v9⟩ := at1 x6.1 hi
 obtain ⟨b13, e13, v13⟩ := at1 x6.1 hj
 refine ⟨_, _, _, x6.1.cell h52, ⟨by omega, by omega⟩, adK e9 ⟨_, v9, adK rfl ⟨_, _, _, x6.1.cell h52, ⟨by omega, by omega⟩, adK e13 ⟨_, v13, (ctr19 w6 _ _).mono ?_⟩⟩⟩⟩
 rintro en w16 ⟨_, rfl, rfl, rfl⟩
 rw [hf.2 i j hi hj]
 refine ⟨_, rfl, BoolK.mk (fun t => ?_) (fun t => ?_)⟩
 ·have t : cHd (nd xs i) (nd xs j) ≠ 0 := by simpa using t
  exact ⟨(fz_consn t).symm, x6⟩
 have t : cHd (nd xs i) (nd xs j) = 0 := by simpa using t
 have hh := (hdC.zero _ _ (hV.nd hi) (hV.nd hj)).1 t
 have hks := hd_len hh
 have hfin : fz [cHd (nd xs i) (nd xs j), fz (List.zipWith (fun a b => sg (ga la a) (ga la b)) (kids xs i) (kids xs j))] = fz (List.zipWith (fun a b => sg (ga la a) (ga la b)) (kids xs i) (kids xs j)) := by
  rw [fz_two, if_pos t]
 rw [hfin]
 obtain ⟨bi, ha, _, _, _, _, _, _, ⟨a7, l7, c7, n7, n8⟩, _⟩ := ndAt hN x6.1 hi
 have e7 := n8.len
 have hsz := hz.ks _ (List.getElem_mem hi)
 have hni := nd_get hi; have hnj := nd_get hj
 refine adK rfl ⟨_, _, _, x6.1.cell hb, ⟨by omega, by omega⟩, adK ha ⟨_, _, _, n7, ?_⟩⟩
 refine ⟨fun k w' => ∃ m : Nat, k = m ∧ m ≤ l7 ∧ XE w16 w' ∧ ∀ q, q < m → (List.zipWith (fun a b => sg (ga la a) (ga la b)) (kids xs i) (kids xs j))[q]? = some 0, fun k _ => l7 - k.toNat, ⟨⟨0, rfl, by omega, XE.refl _, fun q hq => by omega⟩, trivial⟩, ?_⟩
 rintro w24 _ ⟨m, rfl, hm, x24, hall⟩
 refine BoolK.mk (fun t6 => ?_) (fun t6 => ?_)
 ·have hlt : m < l7 := by have := of_decide_eq_true t6; omega
  have m1 : m < (nd xs i).ks.length := by rw [hni]; omega
  have m2 : m < (nd xs j).ks.length := by rw [← hks]; exact m1
  have k1 := kid_lt hV.c hi m1
  have k2 := kid_lt hV.c hj m2
  have hz0 : (List.zipWith (fun a b => sg (ga la a) (ga la b)) (kids xs i) (kids xs j))[m]? = some (sg (ga la (kid xs i m)) (ga la (kid xs j m))) := by
   rw [List.getElem?_zipWith, kids_get m1, kids_get m2]
  refine DrewK.mkX fun w26 x26 => ?_
  have x26 := x24.trans x26
  have y26 := x6.trans x26
  obtain ⟨bi, ha, _, _, _, _, _, _, ⟨a7, l7, c7, n7, n8⟩, _⟩ := ndAt hN y26.1 hi
  obtain ⟨bj, ha', _, _, _, _, _, _, ⟨d7, f7, g7, p7, p8⟩, _⟩ := ndAt hN y26.1 hj
  have q7 := n8.len; have r7 := p8.len
  have m1' : m < xs[i].ks.length := by rw [← hni]; exact m1
  have m2' : m < xs[j].ks.length := by rw [← hnj]; exact m2
  obtain ⟨b33, e33, v33⟩ := ksAt n8 (Ext.refl w26) m1'
  obtain ⟨b43, e43, v43⟩ := ksAt p8 (Ext.refl w26) m2'
  have kv1 : xs[i].ks[m] = ((kid xs i m : Nat) : Int) := by
   have := hV.c _ (List.getElem_mem hi) _ (List.getElem_mem m1')
   rw [kid, hni, List.getElem?_eq_getElem m1', Option.getD_some]; omega
  have kv2 : xs[j].ks[m] = ((kid xs j m : Nat) : Int) := by
   have := hV.c _ (List.getElem_mem hj) _ (List.getElem_mem m2')
   rw [kid, hnj, List.getElem?_eq_getElem m2', Option.getD_some]; omega
  rw [kv1] at v33; rw [kv2] at v43
  obtain ⟨b35, e35, v35⟩ := at2 y26.1 k1
  obtain ⟨b45, e45, v45⟩ := at2 y26.1 k2
  refine adK rfl ⟨_, _, _, y26.1.cell h75, adK rfl ⟨_, _, _, y26.1.cell hb, ⟨by omega, by omega⟩, adK ha ⟨_, _, _, n7, ⟨by omega, by omega⟩, adK e33 ⟨_, v33, ⟨by omega, by omega⟩, adK e35 ⟨_, v35,
   adK rfl ⟨_, _, _, y26.1.cell h75, adK rfl ⟨_, _, _, y26.1.cell hb, ⟨by omega, by omega⟩, adK ha' ⟨_, _, _, p7, ⟨by omega, by omega⟩, adK e43 ⟨_, v43, ⟨by omega, by omega⟩, adK e45 ⟨_, v45, (ctr19 w26 _ _).mono ?_⟩⟩⟩⟩⟩⟩⟩⟩⟩⟩
  rintro en w48 ⟨_, rfl, rfl, rfl⟩
  refine ⟨_, rfl, BoolK.mk (fun t7 => ?_) (fun t7 => ?_)⟩
  ·have t7 : sg (ga la (kid xs i m)) (ga la (kid xs j m)) ≠ 0 := by simpa using t7
   exact ⟨(fz_at hall hz0 t7).symm, y26⟩
  ·have t7 : sg (ga la (kid xs i m)) (ga la (kid xs j m)) = 0 := by simpa using t7
   rw [t7] at hz0
   rw [wrap_succ (by omega)]
   refine ⟨⟨m + 1, rfl, by omega, x26, fun q hq => ?_⟩, by simp; omega⟩
   rcases Nat.lt_or_ge q m with h | h
   ·exact hall q h
   ·have : q = m := by omega
    subst this; exact hz0
 ·have hml : m = l7 := by have := of_decide_eq_false t6; omega
  refine ⟨?_, x6.trans x24⟩
  symm
  refine fz_all.2 fun v hv => ?_
  obtain ⟨q, hq⟩ := List.getElem?_of_mem hv
  have hql : q < m := by
   have := (List.getElem?_eq_some_iff.1 hq).1
   rw [List.length_zipWith, kids_len, kids_len, hni] at this
   omega
  rw [hall q hql] at hq
  exact (Option.some.inj hq).symm
end Go.Proofs.YtbiamhoonhjodacGreatDoor

namespace Go.Proofs.YtbiamhoonhjodacGreatDoor
open Go Go.V Go.Proofs
open Go.RowKit (Below)
/-! manystrand/graph.ranks -/
def N16 (x1 : Int) (g2 : FuncId) (k3 : Array Value) (K : Option Addr → Nat → Nat → World → Prop) (w : World) : Prop :=
 (0 ≤ x1 ∧ x1 ≤ x1 ∧ ((8 : Nat) : Int) * x1 ≤ 281474976710656 ∧ x1 ≤ 9223372036854775807) ∧
 AllocK w (madeCells (#[.int .i64 0]) (x1.toNat * 1)) 3 fun b4 w5 =>
 ∃ (I6 : Int → World → Prop) (μ7 : Int → World → Nat),
 (I6 0 w5 ∧ True) ∧
 ∀ w8 x9, I6 x9 w8 →
 BoolK (decide (x9 < (x1.toNat : Nat)))
 ((0 ≤ x9 ∧ x9 < (x1.toNat : Nat)) ∧
 SetK w8 (b4.add (x9.toNat * 1)) (.int .i64 x9) fun w10 =>
 I6 (IntKind.wrap .i64 (x9 + 1)) w10 ∧ μ7 (IntKind.wrap .i64 (x9 + 1)) w10 < μ7 x9 w8)
 (Calls Tryz.prog 36 #[(.slice (some b4) (x1.toNat) (x1.toNat)), (.func (.func g2) #[] k3)] w8 fun e12 w11 =>
 e12 = .returned (.tuple #[]) ∧
 ((0 ≤ x1 ∧ x1 ≤ x1 ∧ ((8 : Nat) : Int) * x1 ≤ 281474976710656 ∧ x1 ≤ 9223372036854775807) ∧
 AllocK w11 (madeCells (#[.int .i64 0]) (x1.toNat * 1)) 3 fun b13 w14 =>
 ∃ (I15 : Int → World → Prop) (μ16 : Int → World → Nat),
 (I15 0 w14 ∧ True) ∧
 ∀ w17 x18, I15 x18 w17 →
 BoolK (decide (x18 < (x1.toNat : Nat)))
 (BoolK (decide (x18 > 0))
 (DrewK w17 fun w19 =>
 (0 ≤ x18 ∧ x18 < (x1.toNat : Nat)) ∧
 ∃ x20, w19.cell? (b4.add (x18.toNat * 1)) = some (.int .i64 x20) ∧
 ((0 ≤ (IntKind.wrap .i64 (x18 - 1) : Int) ∧ (IntKind.wrap .i64 (x18 - 1) : Int) < (x1.toNat : Nat)) ∧
 ∃ x21, w19.cell? (b4.add ((IntKind.wrap .i64 (x18 - 1) : Int).toNat * 1)) = some (.int .i64 x21) ∧
 ((0 ≤ x21 ∧ x21 < (x1.toNat : Nat)) ∧
 ∃ x22, w19.cell? (b13.add (x21.toNat * 1)) = some (.int .i64 x22) ∧
 ((0 ≤ x20 ∧ x20 < (x1.toNat : Nat)) ∧
 SetK w19 (b13.add (x20.toNat * 1)) (.int .i64 x22) fun w23 =>
 DrewK w23 fun w24 =>
 (0 ≤ (IntKind.wrap .i64 (x18 - 1) : Int) ∧ (IntKind.wrap .i64 (x18 - 1) : Int) < (x1.toNat : Nat)) ∧
 ∃ x25, w24.cell? (b4.add ((IntKind.wrap .i64 (x18 - 1) : Int).toNat * 1)) = some (.int .i64 x25) ∧
 ((0 ≤ x18 ∧ x18 < (x1.toNat : Nat)) ∧
 ∃ x26, w24.cell? (b4.add (x18.toNat * 1)) = some (.int .i64 x26) ∧
 (Enters Tryz.prog g2 ∧
 (Calls Tryz.prog g2 (callArgs [] [(.int .i64 x25), (.int .i64 x26)] k3.toList) w24 fun e29 w28 =>
 ∃ x27, e29 = .returned (.int .i64 x27) ∧
 (BoolK (x27 != 0)
 ((0 ≤ x18 ∧ x18 < (x1.toNat : Nat)) ∧
 ∃ x30, w28.cell? (b4.add (x18.toNat * 1)) = some (.int .i64 x30) ∧
 ((0 ≤ x30 ∧ x30 < (x1.toNat : Nat)) ∧
 ∃ x31, w28.cell? (b13.add (x30.toNat * 1)) = some (.int .i64 x31) ∧
 ((0 ≤ x30 ∧ x30 < (x1.toNat : Nat)) ∧
 SetK w28 (b13.add (x30.toNat * 1)) (.int .i64 (IntKind.wrap .i64 (x31 + 1))) fun w32 =>
 I15 (IntKind.wrap .i64 (x18 + 1)) w32 ∧ μ16 (IntKind.wrap .i64 (x18 + 1)) w32 < μ16 x18 w17)))
 (I15 (IntKind.wrap .i64 (x18 + 1)) w28 ∧ μ16 (IntKind.wrap .i64 (x18 + 1)) w28 < μ16 x18 w17)))))))))
 (I15 (IntKind.wrap .i64 (x18 + 1)) w17 ∧ μ16 (IntKind.wrap .i64 (x18 + 1)) w17 < μ16 x18 w17))
 (K (some b13) (x1.toNat) (x1.toNat) w17)))
def ann16 : Ann := (.two .nil (.two .nil (.two (.two .nil (.one (.loop [(13, (.one (.int .i64)))] [0, 1, 5, 12] (.two .nil (.two (.two .nil .nil) (.two (.one (.two .nil .nil)) .nil)))))) (.two .nil (.two .nil (.two (.two .nil (.one (.loop [(28, (.one (.int .i64)))] [1, 5, 7, 27] (.two .nil (.two (.two .nil .nil) (.two (.one (.two .nil (.two .nil (.two (.two (.anyC 14 (.take 0 (.take 1 (.take 2 (.take 3 (.take 4 (.take 5 (.take 6 (.take 7 (.take 8 (.take 9 (.take 10 (.take 11 (.take 12 (.take 13 .done))))))))))))))) (.two (.anyC 10 (.take 0 (.take 1 (.take 2 (.take 3 (.take 4 (.take 5 (.take 6 (.take 7 (.take 8 (.take 9 .done))))))))))) (.two .nil .nil))) .nil)))) .nil)))))) (.two .nil .nil)))))))
noncomputable def code16 : Code := match Tryz.f16.body with | some c => c | none => .skip
theorem calls16 (x1 : Int) (g2 : FuncId) (k3 : Array Value) (K : Option Addr → Nat → Nat → World → Prop) (w : World) (h : N16 x1 g2 k3 K w) : Calls Tryz.prog 16 #[(.int .i64 x1), (.func (.func g2) #[] k3)] w fun en w' => ∃ (a33 : Option Addr), ∃ (l33 : Nat), ∃ (c33 : Nat), en = .returned (.slice a33 l33 c33) ∧ K a33 l33 c33 w' :=
 fn_calls tabOk mixed Tryz.func16 (by kernel_rfl : Tryz.f16.body = some code16) ann16 [(.int .i64 x1), (.func (.func g2) #[] k3)] [(.one .slice)] K w (by kernel_rfl) (by kernel_rfl) (by kernel_rfl) h
end Go.Proofs.YtbiamhoonhjodacGreatDoor

namespace Go.V.Gr
open Go Go.V
def rnk (cf : Nat → Nat → Int) (p : Nat → Nat) : Nat → Nat
 | 0 => 0
 | i + 1 => rnk cf p i + (if cf (p i) (p (i + 1)) = 0 then 0 else 1)
theorem rnk_le (cf : Nat → Nat → Int) (p : Nat → Nat) : ∀ i, rnk cf p i ≤ i
 | 0 => Nat.le_refl _
 | i + 1 => by have := rnk_le cf p i; rw [rnk]; split <;> omega
theorem rnk_ok {cf : Nat → Nat → Int} {p : Nat → Nat} {n : Nat} (hp : ∀ i, i < n → p i < n) (htri : ∀ i j k, i < n → j < n → k < n → Tri (cf i j) (cf j k) (cf i k)) (h0 : ∀ i, i < n → cf i i = 0) (hs : ∀ i j, i < j → j < n → cf (p i) (p j) ≤ 0) :
    ∀ (i j : Nat), i ≤ j → j < n → (rnk cf p i = rnk cf p j ∧ cf (p i) (p j) = 0) ∨ (rnk cf p i < rnk cf p j ∧ cf (p i) (p j) < 0) := by
  intro i j
  induction j with
  | zero => intro h1 h2; have : i = 0 := by omega
            subst this; exact .inl ⟨rfl, h0 _ (hp 0 h2)⟩
  | succ j ih =>
    intro h1 h2
    by_cases e : i = j + 1
    · subst e; exact .inl ⟨rfl, h0 _ (hp _ h2)⟩
    · have t := htri (p i) (p j) (p (j + 1)) (hp i (by omega)) (hp j (by omega)) (hp _ h2)
      have hle := hs j (j + 1) (by omega) h2
      rw [rnk]
      rcases ih (by omega) (by omega) with ⟨e1, e2⟩ | ⟨e1, e2⟩
      · by_cases z : cf (p j) (p (j + 1)) = 0
        · rw [if_pos z]; exact .inl ⟨by omega, t.1 e2 z⟩
        · rw [if_neg z]; exact .inr ⟨by omega, t.2 (by omega) hle (by omega)⟩
      · refine .inr ⟨?_, t.2 (by omega) hle (by omega)⟩
        split <;> omega
end Go.V.Gr
namespace Go.Proofs.YtbiamhoonhjodacGreatDoor
open Go Go.V Go.Proofs Go.V.Gr
open Go.RowKit (Below)
open Go.Sort
theorem ext_full {α : Type} (d : Array α) (m : Nat) (h : d.size = m) : d.extract 0 m = d := by subst h; simp
theorem callArgs_two (a b : Value) (k : Array Value) : callArgs [] [a, b] k.toList = #[a, b] ++ k := by
 unfold callArgs
 cases hk : k.toList with
 | nil =>
  have : k = #[] := by apply Array.ext'; simpa using hk
  subst this; rfl
 | cons x l =>
  have : k = (x :: l).toArray := by apply Array.ext'; simpa using hk
  subst this; simp
theorem sortUpd {α ρ : Type} [Inhabited α] {own : OwnM ρ} {r : ρ} (enc : α → Value) (w : World) (n blk off : Nat) (d : Array α) (os : Array Obj) (hb : own blk = some r) : Upd own own r w (sortWorld enc w blk off n d os) := by
 have hs : (Sort.putRow enc (Sort.ahead w n) blk off d).heap.size = w.heap.size := by rw [Sort.size_putRow]; rfl
 refine ⟨rfl, rfl, rfl, by simp [sortWorld, grow, hs], fun k hk hne => ?_, fun _ _ => rfl, fun ht k hk => ht k (Nat.le_trans (by simp [sortWorld, grow, hs]) hk)⟩
 have hne : ¬ blk = k := fun e => hne (e ▸ hb)
 have h1 : (Sort.putRow enc (Sort.ahead w n) blk off d).heap[k]? = w.heap[k]? := by
  simp only [Sort.putRow, Sort.mapBlock, Array.getElem?_modify]
  rw [if_neg hne]; rfl
 show ((Sort.putRow enc (Sort.ahead w n) blk off d).heap ++ os)[k]? = _
 rw [Array.getElem?_append_left (by rw [hs]; exact hk), h1]
set_option maxRecDepth 100000 in
theorem ctr16 {w0 : World} {n : Nat} (hn : 0 < n) (hn2 : n ≤ 1000000) {g : FuncId} {k3 : Array Value} {cf : Nat → Nat → Int} (hg : Go.V.Enters Tryz.prog g)
  (hA : ∀ w', Ext w0 w' → ∀ i j, i < n → j < n → Calls Tryz.prog g (#[.int .i64 (i : Int), .int .i64 (j : Int)] ++ k3) w' fun e w2 => e = .returned (.int .i64 (cf i j)) ∧ XE w' w2)
  (hneg : ∀ i j, i < n → j < n → cf j i = - cf i j) (htri : ∀ i j k, i < n → j < n → k < n → Tri (cf i j) (cf j k) (cf i k)) (hsgn : ∀ i j, i < n → j < n → cf i j = -1 ∨ cf i j = 0 ∨ cf i j = 1) :
  Calls Tryz.prog 16 #[.int .i64 (n : Int), .func (.func g) #[] k3] w0 fun en w' => ∃ a l c, en = .returned (.slice a l c) ∧ (∃ rk, Rk n rk cf ∧ Ints w' a l rk ∧ Ext w0 w') := by
 refine calls16 _ _ _ _ w0 ?_
 haveI : Inhabited (Fin n) := ⟨⟨0, hn⟩⟩
 simp only [N16, Int.toNat_natCast]
 refine ⟨⟨by omega, by omega, by omega, by omega⟩, RowR.make (x := (0 : Int)) (enc := eI) rfl (by simp only [maxLen]; omega) (fun _ => (none : Option Nat)) 0 fun b4 w5 r5 u5 x5 hb4 => ?_⟩
 have L5 := (Mine.refl (ρ := Nat) w0).upd u5
 have ob4 : setOwn (fun _ => (none : Option Nat)) (some b4) 0 b4 = some 0 := by unfold setOwn; rw [if_pos rfl]
 generalize setOwn (fun _ => (none : Option Nat)) (some b4) 0 = own at r5 u5 L5 ob4
 refine ⟨fun i w' => ∃ (k : Nat) (ls : List Int), i = k ∧ k ≤ n ∧ Mine own w0 w' ∧ RowR own 0 3 1 eI w' (some ⟨b4, 0, none⟩, n, n) ls ∧ ls.length = n ∧ ∀ j, j < k → ls[j]? = some (j : Int), fun i _ => n - i.toNat, ⟨⟨0, _, rfl, by omega, L5, r5, by simp, fun j hj => by omega⟩, trivial⟩, ?_⟩
 rintro w8 _ ⟨k, ls, rfl, hk, L8, r8, hls, hall⟩
 refine BoolK.mk (fun t => ?_) (fun t => ?_)
 ·have hlt : k < n := by have := of_decide_eq_true t; omega
  refine ⟨⟨by omega, by omega⟩, RowR.seti r8 (by omega) _ fun w10 r10 u10 => ?_⟩
  rw [wrap_succ (by omega)]
  refine ⟨⟨k + 1, _, rfl, by omega, L8.upd u10, r10, by simpa using hls, fun j hj => ?_⟩, by simp; omega⟩
  rw [List.getElem?_set]
  by_cases e : k = j
  ·subst e; rw [if_pos rfl, if_pos (by omega)]
  ·rw [if_neg e]; exact hall j (by omega)
 have hkn : k = n := by have := of_decide_eq_false t; omega
 subst hkn
 -- the row as the sort sees it
 let enc : Fin k → Value := fun i => .int .i64 (i.val : Int)
 let d : Array (Fin k) := Array.ofFn fun i => i
 have hd : d.size = k := by simp [d]
 obtain ⟨⟨hll, hf, ho⟩, _⟩ := r8
 have hB : ∃ cur, Blk w8 b4 cur 3 ∧ ∀ j, j < k → cur[j]? = some (.int .i64 (j : Int)) := by
  rcases ho with ⟨h0, _⟩ | ⟨g', cap, cur, hv, hbg, hg', h3, h4, h5, h6⟩
  ·cases h0
  ·simp only [Value.slice.injEq, Option.some.injEq, Addr.mk.injEq, and_true] at hv
   obtain ⟨rfl, _, _⟩ := hv
   refine ⟨cur, hg', fun j hj => ?_⟩
   have h7 := congrArg (·[j]?) h6
   simp only [Nat.mul_one] at h7
   rw [List.getElem?_take_of_lt (by omega), Array.getElem?_toList] at h7
   have e2 := enc_get (enc := eI) eI_len (i := j) (j := 0) (hall j hj) (by omega)
   simp only [Nat.mul_one, Nat.add_zero] at e2
   rw [h7, e2]; rfl
 obtain ⟨cur, hB, hcur⟩ := hB
 have hdv : ∀ j, j < k → (d[j]!).val = j := fun j hj => by
  rw [getElem!_pos d j (by rw [hd]; exact hj)]; simp [d]
 have hH : Holds enc w8 b4 0 d := fun j hj => by
  rw [hd] at hj
  refine ⟨?_, hB.frozen _⟩
  rw [Nat.zero_add, hB.cell, hcur j hj]
  show _ = some (Value.int .i64 ((d[j]!).val : Int))
  rw [hdv j hj]
 let cf' : Fin k → Fin k → Int := fun i j => cf i.val j.val
 have h00 : ∀ i, i < k → cf i i = 0 := fun i hi => by have := hneg i i hi hi; omega
 have hO : SWO (Go.Proofs.ltOf cf') := by
  refine ⟨fun x => ?_, fun x y z h1 h2 => ?_, fun x y z h1 h2 => ?_⟩
  ·simp only [Go.Proofs.ltOf, decide_eq_false_iff_not]
   have := h00 x.val x.isLt
   show ¬ cf x.val x.val < 0
   omega
  ·simp only [Go.Proofs.ltOf, decide_eq_true_eq] at *
   exact (htri x.val y.val z.val x.isLt y.isLt z.isLt).2 (Int.le_of_lt h1) (Int.le_of_lt h2) (.inl h1)
  ·simp only [Go.Proofs.ltOf, decide_eq_false_iff_not, Int.not_lt] at *
   have a1 := hneg x.val y.val x.isLt y.isLt
   have a2 := hneg y.val z.val y.isLt z.isLt
   have a3 := hneg x.val z.val x.isLt z.isLt
   have t := htri z.val y.val x.val z.isLt y.isLt x.isLt
   show 0 ≤ cf x.val z.val
   have h1 : 0 ≤ cf x.val y.val := h1
   have h2 : 0 ≤ cf y.val z.val := h2
   by_cases z1 : cf z.val y.val = 0
   ·by_cases z2 : cf y.val x.val = 0
    ·have := t.1 z1 z2; omega
    ·have := t.2 (by omega) (by omega) (.inr (by omega)); omega
   ·have := t.2 (by omega) (by omega) (.inl (by omega)); omega
 have hX : ∀ (m : Nat) (os : Array Obj) (dk : Array (Fin k)), Upd own own 0 w8 (sortWorld enc w8 b4 0 m dk os) := fun m os dk => sortUpd enc w8 m b4 0 dk os ob4
 have hcmp : CmpLays1 Tryz.prog g k3 enc cf' b4 0 d.size w8 := fun m os dk _ x y => by
  refine (hA _ (L8.upd (hX m os dk)).below x.val y.val x.isLt y.isLt).mono ?_
  rintro e w2 ⟨rfl, hx⟩
  exact ⟨rfl, hx.grown⟩
 have sorted := Any.slices_SortFunc sortfLay enc (fun _ => rfl) cf' hO g k3 b4 0 k d w8 hg hcmp hH hB.lt (by rw [hd]; omega)
 rw [hd] at sorted
 refine Calls.mono sorted ?_
 rintro en w11 ⟨rfl, d', n', os, hperm, hsort, rfl⟩
 refine ⟨rfl, ⟨by omega, by omega, by omega, by omega⟩, ?_⟩
 obtain ⟨hds, -, hperm⟩ := hperm
 have hd's : d'.size = k := hds.trans hd
 have hp' : d'.toList.Perm d.toList := by
  rwa [ext_full d' k hd's, ext_full d k hd] at hperm
 let p : Nat → Nat := fun i => (d'[i]!).val
 have hp : ∀ i, i < k → p i < k := fun i _ => (d'[i]!).isLt
 have hnd : d.toList.Nodup := by
  rw [List.Nodup, List.pairwise_iff_getElem]
  intro i j hi hj hij e
  simp only [Array.length_toList, hd] at hi hj
  have e1 := hdv i hi; have e2 := hdv j hj
  rw [getElem!_pos d i (by rw [hd]; exact hi)] at e1
  rw [getElem!_pos d j (by rw [hd]; exact hj)] at e2
  simp only [Array.getElem_toList] at e
  rw [e, e2] at e1; omega
 have hnd' : d'.toList.Nodup := hp'.nodup_iff.2 hnd
 have pinj : ∀ i j, i < k → j < k → p i = p j → i = j := fun i j hi hj e => by
  have e : d'[i]! = d'[j]! := Fin.ext e
  rw [getElem!_pos d' i (by omega), getElem!_pos d' j (by omega)] at e
  have h1 : d'.toList[i]? = some (d'[i]'(by omega)) := by rw [Array.getElem?_toList, Array.getElem?_eq_getElem]
  have h2 : d'.toList[j]? = some (d'[i]'(by omega)) := by rw [Array.getElem?_toList, Array.getElem?_eq_getElem (by omega), e]
  exact nodup_idx hnd' h1 h2
 have psurj : ∀ v, v < k → ∃ i, i < k ∧ p i = v := fun v hv => by
  have : (⟨v, hv⟩ : Fin k) ∈ d'.toList := hp'.mem_iff.2 (by simp [d])
  obtain ⟨i, hi⟩ := List.getElem?_of_mem this
  have hil : i < d'.toList.length := (List.getElem?_eq_some_iff.1 hi).1
  have hil : i < k := by simpa [hd's] using hil
  refine ⟨i, hil, ?_⟩
  show (d'[i]!).val = v
  rw [getElem!_pos d' i (by omega)]
  rw [Array.getElem?_toList, Array.getElem?_eq_getElem (by omega)] at hi
  rw [Option.some.inj hi]
 have ps : ∀ i j, i < j → j < k → cf (p i) (p j) ≤ 0 := fun i j hij hj => by
  have := hsort i j (by omega) hij hj
  simp only [Go.Proofs.ltOf, decide_eq_false_iff_not, Int.not_lt] at this
  have h2 := hneg (p i) (p j) (hp i (by omega)) (hp j hj)
  have : 0 ≤ cf (p j) (p i) := this
  omega
 have RK := rnk_ok hp htri h00 ps
 have U11 := hX n' os d'
 have L11 := L8.upd U11
 have hcell : ∀ j, j < k → (sortWorld enc w8 b4 0 n' d' os).cell? ((⟨b4, 0, none⟩ : Addr).add (((j : Nat) : Int).toNat * 1)) = some (.int .i64 (p j : Int)) := fun j hj => by
  have hH' : Holds enc (Sort.ahead w8 n') b4 0 d := fun j hj => hH j hj
  have := Sort.cell?_putRow enc (Sort.ahead w8 n') b4 0 d d' hH' (by rw [hd's, hd]) j (by omega)
  rw [Int.toNat_natCast, add_mk, Nat.mul_one]
  show (Sort.grow _ os).cell? _ = _
  rw [Sort.cell?_grow _ _ _ (by rw [Sort.size_putRow]; exact hB.lt), this]
 generalize sortWorld enc w8 b4 0 n' d' os = w11 at L11 hcell
 have hb11 : b4 < w11.heap.size := block_lt_of_cell (hcell 0 hn)
 refine RowR.make (x := (0 : Int)) (enc := eI) rfl (by simp only [maxLen]; omega) own 1 fun b13 w14 r14 u14 x14 hb13 => ?_
 have L14 := L11.upd u14
 have ob : setOwn own (some b13) 1 b4 = some 0 := by unfold setOwn; rw [if_neg (by intro e; cases e; omega)]; exact ob4
 have hcell14 : ∀ j, j < k → w14.cell? ((⟨b4, 0, none⟩ : Addr).add (((j : Nat) : Int).toNat * 1)) = some (.int .i64 (p j : Int)) := fun j hj => x14.cell (hcell j hj)
 generalize setOwn own (some b13) 1 = own1 at r14 u14 L14 ob
 refine ⟨fun x w' => ∃ (i : Nat) (rs : List Int), x = i ∧ i ≤ k ∧ Mine own1 w0 w' ∧ (∀ j, j < k → w'.cell? ((⟨b4, 0, none⟩ : Addr).add (((j : Nat) : Int).toNat * 1)) = some (.int .i64 (p j : Int))) ∧ b4 < w'.heap.size ∧ RowR own1 1 3 1 eI w' (some ⟨b13, 0, none⟩, k, k) rs ∧ rs.length = k ∧
   (∀ q, q < i → ga rs (p q) = (rnk cf p q : Nat)) ∧ (∀ v, (∀ q, q < i → p q ≠ v) → ga rs v = 0), fun x _ => k - x.toNat,
  ⟨⟨0, _, rfl, by omega, L14, hcell14, Nat.lt_of_lt_of_le hb11 x14.size, r14, by simp, fun q hq => by omega, fun v _ => ga_rep⟩, trivial⟩, ?_⟩
 clear hcell14 L14 r14 u14 x14
 rintro w17 _ ⟨i, rs, rfl, hi, L17, hc17, hb17, r17, hrs, hA1, hA2⟩
 have keep : ∀ {w w' : World}, Upd own1 own1 1 w w' → b4 < w.heap.size → (∀ j, j < k → w.cell? ((⟨b4, 0, none⟩ : Addr).add (((j : Nat) : Int).toNat * 1)) = some (.int .i64 (p j : Int))) → ∀ j, j < k → w'.cell? ((⟨b4, 0, none⟩ : Addr).add (((j : Nat) : Int).toNat * 1)) = some (.int .i64 (p j : Int)) := fun u hb h j hj => by
  have e := u.block b4 hb (by rw [ob]; decide)
  have := h j hj
  simp only [add_mk, World.cell?] at this ⊢
  rw [e]; exact this
 refine BoolK.mk (fun t => ?_) (fun t => ?_)
 ·have hlt : i < k := by have := of_decide_eq_true t; omega
  have hm : k - (((i + 1 : Nat) : Int)).toNat < k - ((i : Nat) : Int).toNat := by simp; omega
  refine BoolK.mk (fun t1 => ?_) (fun t1 => ?_)
  ·obtain ⟨j, rfl⟩ : ∃ j, i = j + 1 := ⟨i - 1, by have := of_decide_eq_true t1; omega⟩
   have wj : IntKind.wrap .i64 (((j + 1 : Nat) : Int) - 1) = (j : Int) := by rw [wrap_id (by omega) (by omega)]; omega
   rw [wj]
   refine DrewK.mk fun w19 x19 => ?_
   have hc19 : ∀ j, j < k → w19.cell? ((⟨b4, 0, none⟩ : Addr).add (((j : Nat) : Int).toNat * 1)) = some (.int .i64 (p j : Int)) := fun j hj => x19.cell (hc17 j hj)
   have r19 := r17.ext x19
   have L19 := L17.ext x19
   have hb19 := Nat.lt_of_lt_of_le hb17 x19.size
   have pj := hp j (by omega); have pj1 := hp (j + 1) hlt
   refine ⟨⟨by omega, by omega⟩, _, hc19 (j + 1) hlt, ⟨by omega, by omega⟩, _, hc19 j (by omega), ⟨by omega, by omega⟩, _, RowR.geti r19 (by omega), ⟨by omega, by omega⟩, RowR.seti r19 (by omega) _ fun w23 r23 u23 => DrewK.mk fun w24 x24 => ?_⟩
   have hc24 : ∀ j, j < k → w24.cell? ((⟨b4, 0, none⟩ : Addr).add (((j : Nat) : Int).toNat * 1)) = some (.int .i64 (p j : Int)) := fun j hj => x24.cell (keep u23 hb19 hc19 j hj)
   have r24 := r23.ext x24
   have L24 := (L19.upd u23).ext x24
   have hb24 : b4 < w24.heap.size := Nat.lt_of_lt_of_le hb19 (Nat.le_trans u23.size x24.size)
   rw [hA1 j (by omega)] at r24
   refine ⟨⟨by omega, by omega⟩, _, hc24 j (by omega), ⟨by omega, by omega⟩, _, hc24 (j + 1) hlt, hg, ?_⟩
   rw [callArgs_two]
   refine (hA w24 L24.below (p j) (p (j + 1)) pj pj1).mono ?_
   rintro en w28 ⟨rfl, x28⟩
   have hc28 : ∀ j, j < k → w28.cell? ((⟨b4, 0, none⟩ : Addr).add (((j : Nat) : Int).toNat * 1)) = some (.int .i64 (p j : Int)) := fun j hj => x28.1.cell (hc24 j hj)
   have r28 := r24.ext x28.1
   have L28 := L24.ext x28.1
   have hb28 := Nat.lt_of_lt_of_le hb24 x28.1.size
   have hpr : p (j + 1) < rs.length := by omega
   have hrl := rnk_le cf p j
   have hold : ∀ q, q < j + 1 → p q ≠ p (j + 1) := fun q hq e => by have := pinj q (j + 1) (by omega) hlt e; omega
   refine ⟨_, rfl, BoolK.mk (fun t2 => ?_) (fun t2 => ?_)⟩
   ·have t2 : cf (p j) (p (j + 1)) ≠ 0 := by simpa using t2
    refine ⟨⟨by omega, by omega⟩, _, hc28 (j + 1) hlt, ⟨by omega, by omega⟩, _, RowR.geti r28 (by simp; omega), ⟨by omega, by omega⟩, RowR.seti r28 (by simp; omega) _ fun w32 r32 u32 => ?_⟩
    rw [ga_set hpr, if_pos rfl, wrap_succ (by omega)] at r32
    rw [wrap_succ (by omega)]
    have hr32 : p (j + 1) < (rs.set (p (j + 1)) ((rnk cf p j : Nat) : Int)).length := by simpa using hpr
    refine ⟨⟨j + 1 + 1, _, rfl, by omega, L28.upd u32, keep u32 hb28 hc28, Nat.lt_of_lt_of_le hb28 u32.size, r32, by simpa using hrs, fun q hq => ?_, fun v hv => ?_⟩, hm⟩
    ·rw [ga_set hr32]
     by_cases e : q = j + 1
     ·subst e; rw [if_pos rfl, rnk, if_neg t2]
     ·rw [if_neg (hold q (by omega)), ga_set hpr, if_neg (hold q (by omega))]; exact hA1 q (by omega)
    ·rw [ga_set hr32, if_neg (fun e => hv (j + 1) (by omega) e.symm), ga_set hpr, if_neg (fun e => hv (j + 1) (by omega) e.symm)]
     exact hA2 v fun q hq => hv q (by omega)
   ·have t2 : cf (p j) (p (j + 1)) = 0 := by simpa using t2
    rw [wrap_succ (by omega)]
    refine ⟨⟨j + 1 + 1, _, rfl, by omega, L28, hc28, hb28, r28, by simpa using hrs, fun q hq => ?_, fun v hv => ?_⟩, hm⟩
    ·rw [ga_set hpr]
     by_cases e : q = j + 1
     ·subst e; rw [if_pos rfl, rnk, if_pos t2]; rfl
     ·rw [if_neg (hold q (by omega))]; exact hA1 q (by omega)
    ·rw [ga_set hpr, if_neg (fun e => hv (j + 1) (by omega) e.symm)]
     exact hA2 v fun q hq => hv q (by omega)
  ·have : i = 0 := by have := of_decide_eq_false t1; omega
   subst this
   rw [wrap_succ (by omega)]
   refine ⟨⟨1, rs, rfl, by omega, L17, hc17, hb17, r17, hrs, fun q hq => ?_, fun v hv => hA2 v fun q hq => by omega⟩, hm⟩
   have : q = 0 := by omega
   subst this
   exact hA2 _ fun q hq => by omega
 ·have hik : i = k := by have := of_decide_eq_false t; omega
  subst hik
  refine ⟨rs, ⟨hrs, fun a b ha hb => ?_⟩, OwnR.ints r17.1, L17.below⟩
  obtain ⟨x, hx, rfl⟩ := psurj a ha
  obtain ⟨y, hy, rfl⟩ := psurj b hb
  rw [hA1 x hx, hA1 y hy]
  have one : ∀ x y, x ≤ y → y < i → sg (rnk cf p x : Nat) (rnk cf p y : Nat) = cf (p x) (p y) := fun x y hxy hy => by
   have s := hsgn (p x) (p y) (hp x (by omega)) (hp y hy)
   rcases RK x y hxy hy with ⟨e1, e2⟩ | ⟨e1, e2⟩
   ·rw [e2, e1]; exact sg_zero.2 rfl
   ·have : cf (p x) (p y) = -1 := by omega
    rw [this]; unfold sg; rw [if_pos (by omega)]
  rcases Nat.le_total x y with h | h
  ·exact one x y h hy
  ·have := one y x h hx
   rw [sg_neg, this, hneg (p x) (p y) (hp x hx) (hp y hy)]; omega
end Go.Proofs.YtbiamhoonhjodacGreatDoor

namespace Go.Proofs.YtbiamhoonhjodacGreatDoor
open Go Go.V Go.Proofs
open Go.RowKit (Below)
/-! manystrand/graph.joined -/
def N15 (a1 : Option Addr) (l1 : Nat) (c1 : Nat) (x2 : Int) (a3 : Option Addr) (l3 : Nat) (c3 : Nat) (K : Option Addr → Nat → Nat → Int → World → Prop) (w : World) : Prop :=
 AllocK w (#[(.int .i64 x2), (.slice a3 l3 c3)]) 24 fun b4 w5 =>
 ∃ a6 l6 c6, w5.cell? (b4.add 1) = some (.slice a6 l6 c6) ∧
 (∃ (I7 : Option Addr → Nat → Nat → Int → World → Prop) (μ8 : Option Addr → Nat → Nat → Int → World → Nat),
 (I7 a1 l1 c1 0 w5 ∧ True) ∧
 ∀ w9 a10 l10 c10 x11, I7 a10 l10 c10 x11 w9 →
 BoolK (decide (x11 < l6))
 ((0 ≤ x11 ∧ x11 < l6) ∧
 AddrK a6 fun b12 =>
 ∃ s13, w9.cell? ((b12.add (x11.toNat * 5)).add 0) = some (.string s13) ∧
 (∃ x14, w9.cell? ((b12.add (x11.toNat * 5)).add 1) = some (.int .i64 x14) ∧
 (∃ s15, w9.cell? ((b12.add (x11.toNat * 5)).add 2) = some (.string s15) ∧
 (∃ a16 l16 c16, w9.cell? ((b12.add (x11.toNat * 5)).add 3) = some (.slice a16 l16 c16) ∧
 (∃ a17 l17 c17, w9.cell? ((b12.add (x11.toNat * 5)).add 4) = some (.slice a17 l17 c17) ∧
 (AllocK w9 (#[.string ⟨#[]⟩, .int .i64 0, .string ⟨#[]⟩, .slice none 0 0, .slice none 0 0]) 36 fun b18 w19 =>
 SetK w19 (b18.add 0) (.string s13) fun w20 =>
 SetK w20 (b18.add 1) (.int .i64 x14) fun w21 =>
 SetK w21 (b18.add 2) (.string s15) fun w22 =>
 SetK w22 (b18.add 3) (.slice a16 l16 c16) fun w23 =>
 SetK w23 (b18.add 4) (.slice a17 l17 c17) fun w24 =>
 ∃ a25 l25 c25, w24.cell? (b18.add 4) = some (.slice a25 l25 c25) ∧
 ((0 ≤ (l25 : Int) ∧ (l25 : Int) ≤ l25 ∧ ((8 : Nat) : Int) * l25 ≤ 281474976710656 ∧ (l25 : Int) ≤ 9223372036854775807) ∧
 AllocK w24 (madeCells (#[.int .i64 0]) ((l25 : Int).toNat * 1)) 3 fun b26 w27 =>
 ∃ a28 l28 c28, w27.cell? (b18.add 4) = some (.slice a28 l28 c28) ∧
 (∃ (I29 : Int → World → Prop) (μ30 : Int → World → Nat),
 (I29 0 w27 ∧ True) ∧
 ∀ w31 x32, I29 x32 w31 →
 BoolK (decide (x32 < l28))
 ((0 ≤ x32 ∧ x32 < l28) ∧
 AddrK a28 fun b33 =>
 ∃ x34, w31.cell? (b33.add (x32.toNat * 1)) = some (.int .i64 x34) ∧
 ((0 ≤ x32 ∧ x32 < ((l25 : Int).toNat : Nat)) ∧
 SetK w31 (b26.add (x32.toNat * 1)) (.int .i64 (IntKind.wrap .i64 (l1 + x34))) fun w35 =>
 I29 (IntKind.wrap .i64 (x32 + 1)) w35 ∧ μ30 (IntKind.wrap .i64 (x32 + 1)) w35 < μ30 x32 w31))
 (SetK w31 (b18.add 4) (.slice (some b26) ((l25 : Int).toNat) ((l25 : Int).toNat)) fun w36 =>
 ∃ s37, w36.cell? (b18.add 0) = some (.string s37) ∧
 (∃ x38, w36.cell? (b18.add 1) = some (.int .i64 x38) ∧
 (∃ s39, w36.cell? (b18.add 2) = some (.string s39) ∧
 (∃ a40 l40 c40, w36.cell? (b18.add 3) = some (.slice a40 l40 c40) ∧
 (∃ a41 l41 c41, w36.cell? (b18.add 4) = some (.slice a41 l41 c41) ∧
 (AllocK w36 (#[(.string s37), (.int .i64 x38), (.string s39), (.slice a40 l40 c40), (.slice a41 l41 c41)]) 36 fun b42 w43 =>
 ∃ a44, ∃ l44, ∃ c44, ∃ w45, Sem.run Tryz.prog (Builtin.append_ #[22, 22] 22 #[(.slice a10 l10 c10), (.slice (some b42) 1 1)]) w43 = .ok (.slice a44 l44 c44) w45 ∧
 (I7 a44 l44 c44 (IntKind.wrap .i64 (x11 + 1)) w45 ∧ μ8 a44 l44 c44 (IntKind.wrap .i64 (x11 + 1)) w45 < μ8 a10 l10 c10 x11 w9)))))))))))))))
 (DrewK w9 fun w46 =>
 ∃ x47, w46.cell? b4 = some (.int .i64 x47) ∧
 (K a10 l10 c10 (IntKind.wrap .i64 (l1 + x47)) w46)))
def ann15 : Ann := (.two .nil (.two .nil (.two (.two .nil (.one (.loop [(0, (.one .slice)), (17, (.one (.int .i64)))] [3, 6, 15, 16] (.two .nil (.two (.two .nil .nil) (.two (.one (.two .nil (.two .nil (.two (.two .nil (.one (.loop [(28, (.one (.int .i64)))] [0, 3, 6, 8, 9, 15, 16, 17, 26, 27] (.two .nil (.two (.two .nil .nil) (.two (.one (.two .nil .nil)) .nil)))))) (.two .nil .nil))))) .nil)))))) (.two (.anyC 7 (.take 0 (.take 1 (.take 2 (.take 3 (.take 4 (.take 5 (.take 6 .done)))))))) .nil))))
noncomputable def code15 : Code := match Tryz.f15.body with | some c => c | none => .skip
theorem calls15 (a1 : Option Addr) (l1 : Nat) (c1 : Nat) (x2 : Int) (a3 : Option Addr) (l3 : Nat) (c3 : Nat) (K : Option Addr → Nat → Nat → Int → World → Prop) (w : World) (h : N15 a1 l1 c1 x2 a3 l3 c3 K w) : Calls Tryz.prog 15 #[(.slice a1 l1 c1), (.agg #[(.int .i64 x2), (.slice a3 l3 c3)])] w fun en w' => ∃ (a48 : Option Addr), ∃ (l48 : Nat), ∃ (c48 : Nat), ∃ (x49 : Int), en = .returned (.tuple #[(.slice a48 l48 c48), (.int .i64 x49)]) ∧ K a48 l48 c48 x49 w' :=
 fn_calls tabOk mixed Tryz.func15 (by kernel_rfl : Tryz.f15.body = some code15) ann15 [(.slice a1 l1 c1), (.agg #[(.int .i64 x2), (.slice a3 l3 c3)])] [(.one .slice), (.one (.int .i64))] K w (by kernel_rfl) (by kernel_rfl) (by kernel_rfl) h
end Go.Proofs.YtbiamhoonhjodacGreatDoor

namespace Go.V.Gr
open Go Go.V
def shift (n : Nat) (x : Nd) : Nd := { x with ks := x.ks.map fun k => (n : Int) + k }
def app (xs ys : List Nd) : List Nd := xs ++ ys.map (shift xs.length)
theorem shift_hd (n : Nat) (x : Nd) : (shift n x).hd = x.hd := by simp [shift, Nd.hd]
theorem app_len (xs ys : List Nd) : (app xs ys).length = xs.length + ys.length := by simp [app]
theorem nd_left {xs ys : List Nd} {i : Nat} (h : i < xs.length) : nd (app xs ys) i = nd xs i := by
 rw [nd, nd, app, List.getElem?_append_left h]
theorem nd_right {xs ys : List Nd} {j : Nat} (h : j < ys.length) : nd (app xs ys) (xs.length + j) = shift xs.length (nd ys j) := by
 rw [nd, nd, app, List.getElem?_append_right (by omega), Nat.add_sub_cancel_left, List.getElem?_map, List.getElem?_eq_getElem h]; rfl
theorem app_closed {xs ys : List Nd} (hx : Closed xs) (hy : Closed ys) : Closed (app xs ys) := by
 intro x hm k hk
 rw [app_len]
 rcases List.mem_append.1 hm with h | h
 ·have := hx x h k hk; omega
 ·obtain ⟨y, hy', rfl⟩ := List.mem_map.1 h
  obtain ⟨k', hk', rfl⟩ := List.mem_map.1 hk
  have := hy y hy' k' hk'; omega
theorem app_left {xs ys : List Nd} (hx : Closed xs) {i : Nat} (hi : i < xs.length) : Eqv xs (app xs ys) i i :=
 Eqv.map (fun i => i) (fun i => i < xs.length) (fun i hi => ⟨by rw [nd_left hi], fun m hm => ⟨kid_lt hx hi hm, by simp only [kid, nd_left hi]⟩⟩) hi
theorem app_right {xs ys : List Nd} (hy : Closed ys) {j : Nat} (hj : j < ys.length) : Eqv ys (app xs ys) j (xs.length + j) :=
 Eqv.map (fun j => xs.length + j) (fun j => j < ys.length) (fun j hj => ⟨by rw [nd_right hj, shift_hd], fun m hm => ⟨kid_lt hy hj hm, by
  have h1 := nd_get hj
  rw [kid, kid, nd_right hj, shift, List.getElem?_map]
  rw [List.getElem?_eq_getElem hm]
  have hk : 0 ≤ (nd ys j).ks[m] := by
   have := hy (nd ys j) (by rw [h1]; exact List.getElem_mem _) _ (List.getElem_mem hm); omega
  simp only [Option.map_some, Option.getD_some]; omega⟩⟩) hj
end Go.V.Gr
namespace Go.Proofs.YtbiamhoonhjodacGreatDoor
open Go Go.V Go.Proofs Go.V.Gr
open Go.RowKit (Below)
theorem app_sz {xs ys : List Nd} (hx : Sz xs) (hy : Sz ys) (h : xs.length + ys.length ≤ 1000000) : Sz (app xs ys) := by
 refine ⟨by rw [app_len]; exact h, fun x hm => ?_, fun x hm => ?_⟩
 all_goals rcases List.mem_append.1 hm with h | h
 ·exact hx.fs x h
 ·obtain ⟨y, hy', rfl⟩ := List.mem_map.1 h; exact hy.fs y hy'
 ·exact hx.ks x h
 ·obtain ⟨y, hy', rfl⟩ := List.mem_map.1 h; simpa [shift] using hy.ks y hy'
theorem app_w {xs ys : List Nd} (hx : ∀ x ∈ xs, NdW x) (hy : ∀ x ∈ ys, NdW x) : ∀ x ∈ app xs ys, NdW x := by
 intro x hm
 rcases List.mem_append.1 hm with h | h
 ·exact hx x h
 ·obtain ⟨y, hy', rfl⟩ := List.mem_map.1 h
  have W := hy y hy'
  exact ⟨⟨W.hd.kd, W.hd.n, W.hd.tx, W.hd.fs, W.hd.len⟩, ⟨W.key.kd, by simpa [shift] using W.key.ks⟩⟩
theorem app_eqv {xs ys : List Nd} (hx : Closed xs) (hy : Closed ys) {i j : Nat} (hi : i < xs.length) (hj : j < ys.length) : Eqv (app xs ys) (app xs ys) i (xs.length + j) ↔ Eqv xs ys i j :=
 ⟨fun e => ((app_left hx hi).trans e).trans (app_right hy hj).symm, fun e => ((app_left hx hi).symm.trans e).trans (app_right hy hj)⟩
theorem app_nil (ys : List Nd) : app [] ys = ys := by
 have : ∀ y : Nd, shift 0 y = y := fun y => by
  simp only [shift, Int.natCast_zero, Int.zero_add, List.map_id']
 simp only [app, List.nil_append, List.length_nil]
 rw [List.map_congr_left (g := id) fun y _ => this y, List.map_id]
structure JN (w0 w : World) (own : OwnM Nat) (xs : List Nd) (RW : List Rw) (s : SL) : Prop where
 loc : Mine own w0 w
 out : RowR own 0 36 5 eN w s RW
 len : RW.length = xs.length
 nds : ∀ (q : Nat) (r : Rw) (x : Nd), RW[q]? = some r → xs[q]? = some x → r.kd = x.kd ∧ r.n = x.n ∧ r.tx = x.tx ∧ x.kd.size ≤ maxLen ∧ x.tx.size ≤ maxLen ∧ (Lit.int .i64 x.n).wf = true ∧
  RL 2 RFt w0 r.sf.1 r.sf.2.1 x.fs ∧ RowR own (10 + q) 3 1 eI w r.sk x.ks ∧ x.ks.length ≤ maxLen
section
variable {w0 w w' : World} {own own' : OwnM Nat} {xs : List Nd} {RW : List Rw} {s : SL}
theorem JN.start (w : World) : JN w w (fun _ => none) [] [] (none, 0, 0) := ⟨Mine.refl w, RowR.nil _ _ _ _ _ _, rfl, fun q r x e => by simp at e⟩
theorem JN.ext (h : JN w0 w own xs RW s) (x : Ext w w') : JN w0 w' own xs RW s := ⟨h.loc.ext x, h.out.ext x, h.len, fun q r y e1 e2 => by
 obtain ⟨f1, f2, f3, f4, f5, f6, f7, f8, f9⟩ := h.nds q r y e1 e2
 exact ⟨f1, f2, f3, f4, f5, f6, f7, f8.ext x, f9⟩⟩
theorem JN.upd {r : Nat} (h : JN w0 w own xs RW s) (u : Upd own own' r w w') (h0 : r ≠ 0) (h1 : ∀ q, q < xs.length → r ≠ 10 + q) : JN w0 w' own' xs RW s := ⟨h.loc.upd u, h.out.upd u (fun e => h0 e.symm), h.len, fun q r' y e1 e2 => by
 obtain ⟨f1, f2, f3, f4, f5, f6, f7, f8, f9⟩ := h.nds q r' y e1 e2
 exact ⟨f1, f2, f3, f4, f5, f6, f7, f8.upd u (fun e => h1 q (List.getElem?_eq_some_iff.1 e2).1 e.symm), f9⟩⟩
theorem JN.but {b : Nat} (h : JN w0 w own xs RW s) (k : But b w w') (hb : own b = none) (hb2 : w0.heap.size ≤ b) : JN w0 w' own xs RW s := by
 have fr : ∀ c, c < w.heap.size → own c ≠ none → w'.heap[c]? = w.heap[c]? := fun c _ hc => k.block c fun e => hc (by rw [e]; exact hb)
 have e2 : Ext w0 w' := k.below h.loc.below hb2
 refine ⟨⟨⟨e2.os, e2.tape, e2.output, e2.size, fun c hc _ => e2.block c hc, fun c hc _ => h.loc.fr.free c hc rfl⟩, fun c hc => h.loc.top c (by rw [← k.size]; exact hc)⟩, h.out.frame fr, h.len, fun q r y e1 e2 => ?_⟩
 obtain ⟨f1, f2, f3, f4, f5, f6, f7, f8, f9⟩ := h.nds q r y e1 e2
 exact ⟨f1, f2, f3, f4, f5, f6, f7, f8.frame fr, f9⟩
theorem JN.rows (h : JN w0 w own xs RW s) (hm : xs.length ≤ maxLen) : RNds w s.1 s.2.1 xs := by
 refine ⟨h.out.1.rows eN_len RNd h.len.symm fun f q r y hr hy hf => ?_, by rw [h.out.len, h.len]; exact hm⟩
 obtain ⟨f1, f2, f3, f4, f5, f6, f7, f8, f9⟩ := h.nds q r y hr hy
 refine ⟨by rw [hf 0 (by omega), ← f1]; rfl, by rw [hf 1 (by omega), ← f2]; rfl, by rw [hf 2 (by omega), ← f3]; rfl, f4, f5, ⟨_, _, _, by rw [hf 3 (by omega)]; rfl, f7.ext RFt.mono h.loc.below⟩, ⟨_, _, _, by rw [hf 4 (by omega)]; rfl, OwnR.ints f8.1, ?_⟩, f6⟩
 rw [f8.len]; exact f9
theorem JN.more {s' : SL} {r : Rw} {x : Nd} (h : JN w0 w own xs RW s) (h1 : r.kd = x.kd) (h2 : r.n = x.n) (h3 : r.tx = x.tx) (h4 : x.kd.size ≤ maxLen) (h5 : x.tx.size ≤ maxLen) (h6 : (Lit.int .i64 x.n).wf = true) (h7 : RL 2 RFt w0 r.sf.1 r.sf.2.1 x.fs)
  (h8 : RowR own (10 + xs.length) 3 1 eI w r.sk x.ks) (h9 : x.ks.length ≤ maxLen) (u : Upd own own' 0 w w') (ho : RowR own' 0 36 5 eN w' s' (RW ++ [r])) : JN w0 w' own' (xs ++ [x]) (RW ++ [r]) s' := by
 refine ⟨h.loc.upd u, ho, by simp [h.len], fun q r2 y e1 e2 => ?_⟩
 rcases Nat.lt_or_ge q xs.length with hq | hq
 ·rw [List.getElem?_append_left (by rw [h.len]; exact hq)] at e1
  rw [List.getElem?_append_left hq] at e2
  obtain ⟨f1, f2, f3, f4, f5, f6, f7, f8, f9⟩ := h.nds q r2 y e1 e2
  exact ⟨f1, f2, f3, f4, f5, f6, f7, f8.upd u (by omega), f9⟩
 ·have hq2 : q = xs.length := by have := (List.getElem?_eq_some_iff.1 e2).1; simp at this; omega
  subst hq2
  rw [← h.len, List.getElem?_concat_length] at e1
  rw [List.getElem?_concat_length] at e2
  cases e1; cases e2
  exact ⟨h1, h2, h3, h4, h5, h6, h7, h8.upd u (by omega), h9⟩
end
set_option maxRecDepth 100000 in
theorem ctr15 {w0 w : World} {own : OwnM Nat} {xs ys : List Nd} {RW : List Rw} {s : SL} (root : Int) {a3 : Option Addr} {l3 : Nat} (c3 : Nat) (h : JN w0 w own xs RW s) (hy : RNds w0 a3 l3 ys) (hz : Sz ys) (hxl : xs.length ≤ 1000000) (hc : Closed ys) (hr : 0 ≤ root ∧ root ≤ 1000000) :
  Calls Tryz.prog 15 #[.slice s.1 s.2.1 s.2.2, .agg #[.int .i64 root, .slice a3 l3 c3]] w fun en w' => ∃ a l c x, en = .returned (.tuple #[.slice a l c, .int .i64 x]) ∧
   (x = (xs.length : Int) + root ∧ ∃ own' RW', JN w0 w' own' (app xs ys) RW' (a, l, c) ∧ Fr own own' w w') := by
 refine calls15 _ _ _ _ _ _ _ _ w ?_
 have hn := hz.len
 have hl3 := hy.len
 have hs1 : s.2.1 = xs.length := by rw [h.out.len, h.len]
 refine AllocK.mk fun b4 w5 hb4 hB4 x5 => ?_
 have h5 := h.ext x5
 have u4 : Ub own w5 b4 _ _ := ⟨hB4, h.loc.top b4 (by omega)⟩
 refine ⟨_, _, _, (blkAt2 hB4).2.1, ?_⟩
 refine ⟨fun a l c i w' => ∃ (k : Nat) (own' : OwnM Nat) (RW' : List Rw), i = k ∧ k ≤ ys.length ∧ JN w0 w' own' (xs ++ (ys.take k).map (shift xs.length)) RW' (a, l, c) ∧ Ub own' w' b4 #[.int .i64 root, .slice a3 l3 c3] 24 ∧ Fr own own' w w', fun _ _ _ i _ => ys.length - i.toNat, ⟨⟨0, own, RW, rfl, by omega, by simpa using h5, u4, Fr.of_ext own x5⟩, trivial⟩, ?_⟩
 rintro w9 a10 l10 c10 _ ⟨k, own1, RW1, rfl, hk, J, u4, F9⟩
 refine BoolK.mk (fun t => ?_) (fun t => ?_)
 ·have hlt : k < ys.length := by have := of_decide_eq_true t; omega
  have hym := List.getElem_mem hlt
  have hks := hz.ks _ hym
  obtain ⟨b12, ha, n0, n1, n2, n3, n4, ⟨a16, l16, c16, n5, n6⟩, ⟨a17, l17, c17, n7, n8⟩, nw⟩ := ndAt hy (Ext.refl w0) hlt
  have y9 := J.loc.below
  have e17 := n8.len
  refine ⟨⟨by omega, by omega⟩, adK ha ⟨_, y9.cell n0, _, y9.cell n1, _, y9.cell n2, _, _, _, y9.cell n5, _, _, _, y9.cell n7, ?_⟩⟩
  refine local5 fun b18 w24 hb18 hB18 x24 => ?_
  have u18 : Upd own1 (setOwn own1 (some b18) 5) 5 w9 w24 := Upd.fresh x24 (by omega) hB18.lt _
  have bx18 : Bx (setOwn own1 (some b18) 5) 5 w24 b18 _ _ := ⟨hB18, by unfold setOwn; rw [if_pos rfl]⟩
  have J := J.upd u18 (by decide) (fun q _ => by omega)
  have u4 := u4.fr u18.fr
  have F24 := F9.trans u18.fr
  generalize setOwn own1 (some b18) 5 = own2 at J u4 bx18 F24
  clear u18
  refine ⟨_, _, _, (blkAt5 bx18.blk (Ext.refl w24)).2.2.2.2, ⟨by omega, by omega, by omega, by omega⟩, ?_⟩
  rw [Int.toNat_natCast]
  have hxk : (xs ++ (ys.take k).map (shift xs.length)).length = xs.length + k := by simp; omega
  refine RowR.make (x := (0 : Int)) (enc := eI) rfl (by simp only [maxLen]; omega) own2 (10 + (xs.length + k)) fun b26 w27 r26 u26 x27 hb26 => ?_
  have J := J.upd u26 (by omega) (fun q hq => by omega)
  have u4 := u4.fr u26.fr
  have bx18 := bx18.upd u26 (by omega)
  have F27 := F24.trans u26.fr
  generalize setOwn own2 (some b26) (10 + (xs.length + k)) = own3 at J u4 bx18 r26 F27
  clear u26
  refine ⟨_, _, _, (blkAt5 bx18.blk (Ext.refl w27)).2.2.2.2, ?_⟩
  refine ⟨fun i w' => ∃ (m : Nat) (kk : List Int), i = m ∧ m ≤ l17 ∧ JN w0 w' own3 (xs ++ (ys.take k).map (shift xs.length)) RW1 (a10, l10, c10) ∧ Ub own3 w' b4 #[.int .i64 root, .slice a3 l3 c3] 24 ∧ Bx own3 5 w' b18 #[.string ys[k].kd, .int .i64 ys[k].n, .string ys[k].tx, .slice a16 l16 c16, .slice a17 l17 c17] 36 ∧
    RowR own3 (10 + (xs.length + k)) 3 1 eI w' (some ⟨b26, 0, none⟩, l17, l17) kk ∧ kk.length = l17 ∧ Fr own own3 w w' ∧ ∀ j, j < m → kk[j]? = (ys[k].ks[j]?).map fun v => (xs.length : Int) + v, fun i _ => l17 - i.toNat,
   ⟨⟨0, _, rfl, by omega, J, u4, bx18, r26, by simp, F27, fun j hj => by omega⟩, trivial⟩, ?_⟩
  clear J u4 bx18 r26 F27
  rintro w31 _ ⟨m, kk, rfl, hm, J, u4, bx18, rk, hkl, F31, hkk⟩
  refine BoolK.mk (fun t => ?_) (fun t => ?_)
  ·have hmlt : m < l17 := by have := of_decide_eq_true t; omega
   have hmk : m < ys[k].ks.length := by omega
   obtain ⟨b33, ha2, q0⟩ := ksAt n8 J.loc.below hmk
   have hkb := hc _ hym _ (List.getElem_mem hmk)
   refine ⟨⟨by omega, by omega⟩, adK ha2 ⟨_, q0, ⟨by omega, by omega⟩, ?_⟩⟩
   rw [hs1, wrap_id (x := (xs.length : Nat) + ys[k].ks[m]) (by omega) (by omega), wrap_succ (by omega)]
   refine RowR.seti rk (by omega) _ fun w35 rk' u35 => ?_
   refine ⟨⟨m + 1, _, rfl, by omega, J.upd u35 (by omega) (fun q hq => by omega), u4.fr u35.fr, bx18.upd u35 (by omega), rk', by simpa using hkl, F31.trans u35.fr, fun j hj => ?_⟩, by simp; omega⟩
   rw [List.getElem?_set]
   by_cases e : m = j
   ·subst e
    rw [if_pos rfl, if_pos (by omega), List.getElem?_eq_getElem hmk]; rfl
   ·rw [if_neg e]; exact hkk j (by omega)
  ·have hml : m = l17 := by have := of_decide_eq_false t; omega
   subst hml
   have hks2 : kk = (shift xs.length ys[k]).ks := by
    apply List.ext_getElem?
    intro j
    rw [shift, List.getElem?_map]
    rcases Nat.lt_or_ge j m with hj | hj
    ·exact hkk j hj
    ·rw [List.getElem?_eq_none (by omega), List.getElem?_eq_none (by omega)]; rfl
   subst hks2
   refine Bx.setA bx18 (by simp) fun w36 bx36 u36 => ?_
   have J := J.upd u36 (by omega) (fun q _ => by omega)
   have u4 := u4.fr u36.fr
   have rk := rk.upd u36 (by omega)
   obtain ⟨f0, f1, f2, f3, f4⟩ := blkAt5 (v0 := .string ys[k].kd) (v1 := .int .i64 ys[k].n) (v2 := .string ys[k].tx) (v3 := .slice a16 l16 c16) (v4 := .slice (some ⟨b26, 0, none⟩) m m) (by simpa using bx36.blk) (Ext.refl w36)
   refine ⟨_, by simpa [add_mk] using f0, _, f1, _, f2, _, _, _, f3, _, _, _, f4, ?_⟩
   refine RowR.push (⟨ys[k].kd, ys[k].n, ys[k].tx, (a16, l16, c16), (some ⟨b26, 0, none⟩, m, m)⟩ : Rw) sltN J.out eN_len eN_one (by rw [J.len, hxk]; omega) rfl fun s' w45 ro uo => ?_
   rw [wrap_succ (by omega)]
   have ht : xs ++ (ys.take (k + 1)).map (shift xs.length) = (xs ++ (ys.take k).map (shift xs.length)) ++ [shift xs.length ys[k]] := by
    rw [List.take_add_one, List.getElem?_eq_getElem hlt, List.map_append]; simp
   have J2 := J.more (x := shift xs.length ys[k]) rfl rfl rfl n3 n4 nw n6 (by rw [hxk]; exact rk) (by simp [shift, maxLen]; omega) uo ro
   rw [← ht] at J2
   exact ⟨⟨k + 1, _, _, rfl, by omega, J2, u4.fr uo.fr, (F31.trans u36.fr).trans uo.fr⟩, by simp; omega⟩
 ·have hkl : k = ys.length := by have := of_decide_eq_false t; omega
  subst hkl
  rw [List.take_length] at J
  refine DrewK.mk fun w46 x46 => ⟨_, (blkAt2 (u4.blk.ext x46)).2.2, ?_⟩
  rw [hs1, wrap_id (by omega) (by omega)]
  exact ⟨rfl, own1, RW1, J.ext x46, F9.trans (Fr.of_ext _ x46)⟩
end Go.Proofs.YtbiamhoonhjodacGreatDoor

namespace Go.Proofs.YtbiamhoonhjodacGreatDoor
open Go Go.V Go.Proofs
open Go.RowKit (Below)
/-! manystrand/graph.Compare -/
def N6 (x1 : Int) (a2 : Option Addr) (l2 : Nat) (c2 : Nat) (x3 : Int) (a4 : Option Addr) (l4 : Nat) (c4 : Nat) (K : Int → Int → World → Prop) (w : World) : Prop :=
 AllocK w (#[(.int .i64 x1), (.slice a2 l2 c2)]) 24 fun b5 w6 =>
 AllocK w6 (#[(.int .i64 x3), (.slice a4 l4 c4)]) 24 fun b7 w8 =>
 ∃ x9, w8.cell? (b5.add 0) = some (.int .i64 x9) ∧
 (∃ a10 l10 c10, w8.cell? (b5.add 1) = some (.slice a10 l10 c10) ∧
 (Calls Tryz.prog 10 #[(.agg #[(.int .i64 x9), (.slice a10 l10 c10)])] w8 fun e15 w14 =>
 ∃ x11, ∃ a12, ∃ l12, ∃ c12, ∃ x13, e15 = .returned (.tuple #[(.agg #[(.int .i64 x11), (.slice a12 l12 c12)]), (.int .i64 x13)]) ∧
 (AllocK w14 (#[.int .i64 0, .slice none 0 0]) 24 fun b16 w17 =>
 SetK w17 (b16.add 0) (.int .i64 x11) fun w18 =>
 SetK w18 (b16.add 1) (.slice a12 l12 c12) fun w19 =>
 BoolK (x13 != 0)
 (K 0 x13 w19)
 (∃ x20, w19.cell? (b7.add 0) = some (.int .i64 x20) ∧
 (∃ a21 l21 c21, w19.cell? (b7.add 1) = some (.slice a21 l21 c21) ∧
 (Calls Tryz.prog 10 #[(.agg #[(.int .i64 x20), (.slice a21 l21 c21)])] w19 fun e26 w25 =>
 ∃ x22, ∃ a23, ∃ l23, ∃ c23, ∃ x24, e26 = .returned (.tuple #[(.agg #[(.int .i64 x22), (.slice a23 l23 c23)]), (.int .i64 x24)]) ∧
 (AllocK w25 (#[.int .i64 0, .slice none 0 0]) 24 fun b27 w28 =>
 SetK w28 (b27.add 0) (.int .i64 x22) fun w29 =>
 SetK w29 (b27.add 1) (.slice a23 l23 c23) fun w30 =>
 BoolK (x24 != 0)
 (K 0 x24 w30)
 (∃ x31, w30.cell? (b16.add 0) = some (.int .i64 x31) ∧
 (∃ a32 l32 c32, w30.cell? (b16.add 1) = some (.slice a32 l32 c32) ∧
 (Calls Tryz.prog 15 #[(.slice none 0 0), (.agg #[(.int .i64 x31), (.slice a32 l32 c32)])] w30 fun e36 w35 =>
 ∃ a33, ∃ l33, ∃ c33, ∃ x34, e36 = .returned (.tuple #[(.slice a33 l33 c33), (.int .i64 x34)]) ∧
 (AllocK w35 (#[.slice none 0 0]) 22 fun b37 w38 =>
 SetK w38 b37 (.slice a33 l33 c33) fun w39 =>
 ∃ a40 l40 c40, w39.cell? b37 = some (.slice a40 l40 c40) ∧
 (∃ x41, w39.cell? (b27.add 0) = some (.int .i64 x41) ∧
 (∃ a42 l42 c42, w39.cell? (b27.add 1) = some (.slice a42 l42 c42) ∧
 (Calls Tryz.prog 15 #[(.slice a40 l40 c40), (.agg #[(.int .i64 x41), (.slice a42 l42 c42)])] w39 fun e46 w45 =>
 ∃ a43, ∃ l43, ∃ c43, ∃ x44, e46 = .returned (.tuple #[(.slice a43 l43 c43), (.int .i64 x44)]) ∧
 (SetK w45 b37 (.slice a43 l43 c43) fun w47 =>
 ∃ a48 l48 c48, w47.cell? b37 = some (.slice a48 l48 c48) ∧
 (Calls Tryz.prog 16 #[(.int .i64 l48), (.func (.func 17) #[] #[(.pointer (some b37))])] w47 fun e51 w50 =>
 ∃ a49, ∃ l49, ∃ c49, e51 = .returned (.slice a49 l49 c49) ∧
 (AllocK w50 (#[.slice none 0 0]) 34 fun b52 w53 =>
 SetK w53 b52 (.slice a49 l49 c49) fun w54 =>
 ∃ a55 l55 c55, w54.cell? b52 = some (.slice a55 l55 c55) ∧
 (∃ a56 l56 c56, w54.cell? b37 = some (.slice a56 l56 c56) ∧
 (∃ (I57 : Option Addr → Nat → Nat → Int → World → Prop) (μ58 : Option Addr → Nat → Nat → Int → World → Nat),
 (I57 a55 l55 c55 0 w54 ∧ True) ∧
 ∀ w59 a60 l60 c60 x61, I57 a60 l60 c60 x61 w59 →
 BoolK (decide (x61 < IntKind.wrap .i64 (l56 + 1)))
 (DrewK w59 fun w62 =>
 (0 ≤ x34 ∧ x34 < l60) ∧
 AddrK a60 fun b63 =>
 ∃ x64, w62.cell? (b63.add (x34.toNat * 1)) = some (.int .i64 x64) ∧
 ((0 ≤ x44 ∧ x44 < l60) ∧
 AddrK a60 fun b65 =>
 ∃ x66, w62.cell? (b65.add (x44.toNat * 1)) = some (.int .i64 x66) ∧
 (BoolK (x64 != x66)
 (DrewK w62 fun w67 =>
 (0 ≤ x34 ∧ x34 < l60) ∧
 AddrK a60 fun b68 =>
 ∃ x69, w67.cell? (b68.add (x34.toNat * 1)) = some (.int .i64 x69) ∧
 ((0 ≤ x44 ∧ x44 < l60) ∧
 AddrK a60 fun b70 =>
 ∃ x71, w67.cell? (b70.add (x44.toNat * 1)) = some (.int .i64 x71) ∧
 (Calls Tryz.prog 19 #[(.int .i64 x69), (.int .i64 x71)] w67 fun e74 w73 =>
 ∃ x72, e74 = .returned (.int .i64 x72) ∧
 (K x72 0 w73))))
 (AllocK w62 (#[.slice none 0 0]) 34 fun b75 w76 =>
 SetK w76 b75 (.slice a60 l60 c60) fun w77 =>
 ∃ a78 l78 c78, w77.cell? b37 = some (.slice a78 l78 c78) ∧
 (Calls Tryz.prog 16 #[(.int .i64 l78), (.func (.func 20) #[] #[(.pointer (some b52)), (.pointer (some b37)), (.pointer (some b75))])] w77 fun e81 w80 =>
 ∃ a79, ∃ l79, ∃ c79, e81 = .returned (.slice a79 l79 c79) ∧
 (I57 a79 l79 c79 (IntKind.wrap .i64 (x61 + 1)) w80 ∧ μ58 a79 l79 c79 (IntKind.wrap .i64 (x61 + 1)) w80 < μ58 a60 l60 c60 x61 w59))))))
 (K 0 0 w59))))))))))))))))))))
def ann6 : Ann := (.two .nil (.two .nil (.two (.two .nil (.two (.two .nil .nil) .nil)) (.two .nil (.two (.two .nil (.two (.two .nil .nil) .nil)) (.two .nil (.two .nil (.two .nil (.two .nil (.two (.two .nil (.one (.loop [(13, (.one .slice)), (50, (.one (.int .i64)))] [9, 10, 11, 12, 49] (.two .nil (.two (.two .nil .nil) (.two (.one (.two (.two (.anyC 9 (.take 0 (.take 1 (.take 2 (.take 3 (.take 4 (.take 5 (.take 6 (.take 7 (.take 8 .done)))))))))) (.two (.two (.anyC 8 (.take 0 (.take 1 (.take 2 (.take 3 (.take 4 (.take 5 (.take 6 (.take 7 .done))))))))) .nil) .nil)) (.two .nil .nil))) .nil)))))) (.two .nil .nil)))))))))))
noncomputable def code6 : Code := match Tryz.f6.body with | some c => c | none => .skip
theorem calls6 (x1 : Int) (a2 : Option Addr) (l2 : Nat) (c2 : Nat) (x3 : Int) (a4 : Option Addr) (l4 : Nat) (c4 : Nat) (K : Int → Int → World → Prop) (w : World) (h : N6 x1 a2 l2 c2 x3 a4 l4 c4 K w) : Calls Tryz.prog 6 #[(.agg #[(.int .i64 x1), (.slice a2 l2 c2)]), (.agg #[(.int .i64 x3), (.slice a4 l4 c4)])] w fun en w' => ∃ (x82 : Int), ∃ (x83 : Int), en = .returned (.tuple #[(.int .i64 x82), (.int .i64 x83)]) ∧ K x82 x83 w' :=
 fn_calls tabOk mixed Tryz.func6 (by kernel_rfl : Tryz.f6.body = some code6) ann6 [(.agg #[(.int .i64 x1), (.slice a2 l2 c2)]), (.agg #[(.int .i64 x3), (.slice a4 l4 c4)])] [(.one (.int .i64)), (.one (.int .i64))] K w (by kernel_rfl) (by kernel_rfl) (by kernel_rfl) h
end Go.Proofs.YtbiamhoonhjodacGreatDoor

namespace Go.Proofs.YtbiamhoonhjodacGreatDoor
open Go Go.V Go.Proofs Go.V.Gr
open Go.RowKit (Below)
open Go.Lib (compareBytes)
def isS (a : Int) : Prop := a = -1 ∨ a = 0 ∨ a = 1
theorem fz_s : ∀ {l : List Int}, (∀ a ∈ l, isS a) → isS (fz l)
 | [], _ => .inr (.inl rfl)
 | a :: l, h => by
  unfold fz; split
  ·exact fz_s fun x hx => h x (List.mem_cons_of_mem _ hx)
  ·exact h a (by simp)
theorem sg_s (a b : Int) : isS (sg a b) := by unfold sg isS; repeat' split <;> omega
theorem cF_s (f g : Ft) : isS (cF f g) := by unfold cF isS; repeat' split <;> omega
theorem cHd_s (x y : Nd) : isS (cHd x y) := by
 refine fz_s fun a ha => ?_
 simp only [List.mem_cons, List.not_mem_nil, or_false] at ha
 rcases ha with rfl | rfl | rfl | rfl | rfl
 ·exact sg_s _ _
 ·exact cb_sign _ _
 ·exact sg_s _ _
 ·exact sg_s _ _
 ·refine fz_s fun a ha => ?_
  obtain ⟨i, hi⟩ := List.getElem?_of_mem ha
  rw [List.getElem?_zipWith] at hi
  split at hi <;> cases hi
  exact cF_s _ _
theorem cK_s (l l' : List Nd) : ∀ d i j, isS (cK cHd l l' d i j)
 | 0, _, _ => cHd_s _ _
 | d + 1, i, j => by
  refine fz_s fun a ha => ?_
  simp only [List.mem_cons, List.not_mem_nil, or_false] at ha
  rcases ha with rfl | rfl
  ·exact cHd_s _ _
  ·refine fz_s fun a ha => ?_
   obtain ⟨m, hm⟩ := List.getElem?_of_mem ha
   rw [List.getElem?_zipWith] at hm
   split at hm <;> cases hm
   exact cK_s l l' d _ _
def cGr (xs ys : List Nd) (i j : Nat) : Int := cG cHd xs ys i j (xs.length + ys.length)
theorem app_vl {xs ys : List Nd} (hx : VL VN1 xs) (hy : VL VN1 ys) : VL VN1 (app xs ys) := by
 refine ⟨fun x hm => ?_, app_closed hx.c hy.c⟩
 have hm0 := hm
 rcases List.mem_append.1 hm with h | h
 ·exact hx.v x h
 ·obtain ⟨y, hy', rfl⟩ := List.mem_map.1 h
  obtain ⟨n, hn⟩ := hy.v y hy'
  exact ⟨((app xs ys).length : Int), hn.of_hd (shift_hd _ _) (app_closed hx.c hy.c _ hm0)⟩
theorem deep_two {xs ys : List Nd} (hx : Closed xs) (hy : Closed ys) {i j N : Nat} (hi : i < xs.length) (hj : j < ys.length) (hN : xs.length + ys.length ≤ N) (h : EqK xs ys N i j) : Eqv xs ys i j := by
 have h1 : EqK (app xs ys) (app xs ys) (app xs ys).length i (xs.length + j) := by
  refine EqK.le (d := N) ?_ (by rw [app_len]; exact hN)
  exact ((app_left hx hi).symm N |>.trans h).trans (app_right hy hj N)
 have := eqv_of_depth (app_closed hx hy) (by rw [app_len]; omega) (by rw [app_len]; omega) h1
 exact (app_eqv hx hy hi hj).1 this
theorem cG_congr {l l1 l' l1' : List Nd} {i i1 j j1 N : Nat} (h : Eqv l l1 i i1) (h' : Eqv l' l1' j j1) : cG cHd l l' i j N = cG cHd l1 l1' i1 j1 N := by
 unfold cG; congr 1
 exact List.map_congr_left fun t _ => cK_congr cHd_congr t i i1 j j1 (h t) (h' t)
theorem least_len {xs out : List Nd} {i : Nat} (h : Least xs i out) (hc : Closed xs) (hi : i < xs.length) : out.length ≤ xs.length := by
 obtain ⟨vs, d, G⟩ := h
 have hvV := d.lt hc (by simpa using hi) (by simp)
 have haV := d.apart (fun a b x y e => by simp at e)
 have := vs_len haV hvV
 rw [G.len]; exact this
theorem cGr_least {xs ys x y : List Nd} {i j : Nat} (hx : VL VN1 xs) (hy : VL VN1 ys) (hx' : VL VN1 x) (hy' : VL VN1 y) (hi : i < xs.length) (hj : j < ys.length) (h1 : Least xs i x) (h2 : Least ys j y) : cG cHd x y 0 0 (x.length + y.length) = cGr xs ys i j := by
 have l1 := least_len h1 hx.c hi; have l2 := least_len h2 hy.c hj
 have p1 := h1.pos; have p2 := h2.pos
 have d := cG_deep hdC hx' hy' (i := 0) (j := 0) (N := x.length + y.length) p1 p2 (deep_two hx'.c hy'.c p1 p2 (Nat.le_refl _)) (xs.length + ys.length - (x.length + y.length))
 rw [show x.length + y.length + (xs.length + ys.length - (x.length + y.length)) = xs.length + ys.length by omega] at d
 rw [← d]
 exact cG_congr h1.eqv h2.eqv
theorem setOne {w : World} {b t : Nat} {z0 v0 : Value} {F : World → Prop} (hb : Blk w b #[z0] t) (h : ∀ w', Blk w' b #[v0] t → But b w w' → F w') : SetK w (⟨b, 0, none⟩ : Addr) v0 F :=
 SetK.mk hb (by simp) fun w2 h2 g2 => h w2 (by simpa using h2) g2
theorem GrOk.app {r r' : Int} {xs ys : List Nd} (h : GrOk r xs 1000) (h' : GrOk r' ys 1000) (hl : Lim xs) (hl' : Lim ys) : Sz (app xs ys) := app_sz (h.sz (by omega) hl) (h'.sz (by omega) hl') (by have := h.most; have := h'.most; omega)
set_option maxRecDepth 100000 in
theorem ctr6 (w : World) (r r' : Int) (xs ys : List Nd) {a a' : Option Addr} {l l' : Nat} (c c' : Nat) (hx : RNds w a l xs) (hy : RNds w a' l' ys) (hlx : Lim xs ∧ LimT xs) (hly : Lim ys ∧ LimT ys) (ht : Tb w) :
  Calls Tryz.prog 6 #[.agg #[.int .i64 r, .slice a l c], .agg #[.int .i64 r', .slice a' l' c']] w fun en w' => ∃ n e, en = .returned (.tuple #[.int .i64 n, .int .i64 e]) ∧
   (Ext w w' ∧ ((GrOk r xs 1000 ∧ GrOk r' ys 1000 ∧ e = 0 ∧ n = cGr xs ys r.toNat r'.toNat) ∨ (¬ (GrOk r xs 1000 ∧ GrOk r' ys 1000) ∧ e = 50 ∧ n = 0))) := by
 refine calls6 _ _ _ _ _ _ _ _ _ w ?_
 refine AllocK.mk fun b5 w6 hb5 hB5 x6 => AllocK.mk fun b7 w8 hb7 hB7 x8 => ?_
 have y8 := x6.trans x8
 obtain ⟨g0, g1, _⟩ := blkAt2 (hB5.ext x8)
 refine ⟨_, g0, _, _, _, g1, (ctr10 w8 r xs c (RNds.at hx y8) hlx.1 (ht.ext y8)).mono ?_⟩
 rintro en w14 ⟨x11, a12, l12, c12, e13, rfl, o1⟩
 have A1 : ∃ j, ((GrOk r xs 1000 ∧ j = some r.toNat) ∨ (¬ GrOk r xs 1000 ∧ j = none)) ∧ Ans w8 w14 xs j 50 x11 (a12, l12, c12) e13 := by
  rcases o1 with ⟨h1, h2⟩ | ⟨h1, h2⟩
  ·exact ⟨_, .inl ⟨h1, rfl⟩, h2⟩
  ·exact ⟨_, .inr ⟨h1, rfl⟩, h2⟩
 clear o1
 obtain ⟨j1, hj1, A1⟩ := A1
 obtain ⟨x14, rfl, x, rx, k1⟩ := A1.rows
 refine ⟨_, _, _, _, _, rfl, local2 fun b16 w19 hb16 hB16 x19 => ?_⟩
 have y19 := (y8.trans x14).trans x19
 refine BoolK.mk (fun t => ⟨y19, .inr ?_⟩) (fun t => ?_)
 ·have t : e13 ≠ 0 := by simpa using t
  rcases k1 with ⟨_, _, e, _⟩ | ⟨e1, e2, _⟩
  ·exact absurd e t
  ·rcases hj1 with ⟨_, e3⟩ | ⟨nok, _⟩
   ·rw [e1] at e3; cases e3
   ·exact ⟨fun h => nok h.1, e2, rfl⟩
 have t : e13 = 0 := by simpa using t
 subst t
 rcases k1 with ⟨i1, e1, _, hL1, hG1⟩ | ⟨_, e2, _⟩
 rotate_left
 ·omega
 rcases hj1 with ⟨ok, rfl⟩ | ⟨_, rfl⟩
 rotate_left
 ·cases e1
 cases e1
 obtain ⟨h0, h1, _⟩ := blkAt2 (hB7.ext (x14.trans x19))
 refine ⟨_, h0, _, _, _, h1, (ctr10 w19 r' ys c' (RNds.at hy y19) hly.1 (ht.ext y19)).mono ?_⟩
 rintro en w25 ⟨x22, a23, l23, c23, e24, rfl, o2⟩
 have A2 : ∃ j, ((GrOk r' ys 1000 ∧ j = some r'.toNat) ∨ (¬ GrOk r' ys 1000 ∧ j = none)) ∧ Ans w19 w25 ys j 50 x22 (a23, l23, c23) e24 := by
  rcases o2 with ⟨h1, h2⟩ | ⟨h1, h2⟩
  ·exact ⟨_, .inl ⟨h1, rfl⟩, h2⟩
  ·exact ⟨_, .inr ⟨h1, rfl⟩, h2⟩
 clear o2
 obtain ⟨j2, hj2, A2⟩ := A2
 obtain ⟨x25, rfl, y, ry, k2⟩ := A2.rows
 refine ⟨_, _, _, _, _, rfl, local2 fun b27 w30 hb27 hB27 x30 => ?_⟩
 have y30 := (y19.trans x25).trans x30
 refine BoolK.mk (fun t => ⟨y30, .inr ?_⟩) (fun t => ?_)
 ·have t : e24 ≠ 0 := by simpa using t
  rcases k2 with ⟨_, _, e, _⟩ | ⟨e1, e2, _⟩
  ·exact absurd e t
  ·rcases hj2 with ⟨_, e3⟩ | ⟨nok, _⟩
   ·rw [e1] at e3; cases e3
   ·exact ⟨fun h => nok h.2, e2, rfl⟩
 have t : e24 = 0 := by simpa using t
 subst t
 rcases k2 with ⟨i2, e1, _, hL2, hG2⟩ | ⟨_, e2, _⟩
 rotate_left
 ·omega
 rcases hj2 with ⟨ok', rfl⟩ | ⟨_, rfl⟩
 rotate_left
 ·cases e1
 cases e1
 -- both are right; their least graphs
 have sx := ok.sz (by omega) hlx.1
 have sy := ok'.sz (by omega) hly.1
 have gx := Least.ok hL1 ok ok.lt
 have gy := Least.ok hL2 ok' ok'.lt
 have lx := Least.lim hL1 ok.closed ok.lt sx.ks hlx.1 hlx.2
 have ly := Least.lim hL2 ok'.closed ok'.lt sy.ks hly.1 hly.2
 have mx := gx.most; have my := gy.most
 have px := hL1.pos; have py := hL2.pos
 have vA := app_vl gx.vl gy.vl
 have sA := gx.app gy lx.1 ly.1
 have hres : cG cHd x y 0 0 (x.length + y.length) = cGr xs ys r.toNat r'.toNat := cGr_least ok.vl ok'.vl gx.vl gy.vl ok.lt ok'.lt hL1 hL2
 have cK_app : ∀ t, cK cHd (app x y) (app x y) t 0 x.length = cK cHd x y t 0 0 := fun t => cK_congr cHd_congr t 0 0 x.length 0 ((app_left gx.closed px).symm t) ((app_right gy.closed py).symm t)
 clear A1 A2
 have rx : RNds w30 a12 l12 x := RNds.at rx (x19.trans (x25.trans x30))
 have ry : RNds w30 a23 l23 y := RNds.at ry x30
 obtain ⟨g0, g1, _⟩ := blkAt2 (hB16.ext (x25.trans x30))
 refine ⟨_, g0, _, _, _, g1, (ctr15 (w0 := w30) 0 c12 (JN.start w30) rx (gx.sz (by omega) lx.1) (by simp) gx.closed (by omega)).mono ?_⟩
 rintro en w35 ⟨a33, l33, c33, x34, rfl, rfl, own1, RW1, J1, F1⟩
 rw [app_nil] at J1
 refine ⟨_, _, _, _, rfl, AllocK.mk fun b37 w38 hb37 hB37 x38 => setOne hB37 fun w39 hB37 k39 => ?_⟩
 have o37 : own1 b37 = none := J1.loc.top b37 (by omega)
 have hb37w : w30.heap.size ≤ b37 := by have := J1.loc.below.size; omega
 have J1 := (J1.ext x38).but k39 o37 hb37w
 have u37 : Ub own1 w39 b37 _ _ := ⟨hB37, o37⟩
 have g37 : ∀ {w' : World} {own : OwnM Nat} {a : Option Addr} {l c : Nat}, Ub own w' b37 #[.slice a l c] 22 → w'.cell? (⟨b37, 0, none⟩ : Addr) = some (.slice a l c) := fun u => by rw [u.blk.cell]; rfl
 obtain ⟨h0, h1, _⟩ := blkAt2 (hB27.ext J1.loc.below)
 refine ⟨_, _, _, g37 u37, _, h0, _, _, _, h1, (ctr15 0 c23 J1 ry (gy.sz (by omega) ly.1) (by omega) gy.closed (by omega)).mono ?_⟩
 rintro en w45 ⟨a43, l43, c43, x44, rfl, rfl, own2, RW2, J2, F2⟩
 have u37 := u37.fr F2
 refine ⟨_, _, _, _, rfl, setOne u37.blk fun w47 hB47 k47 => ?_⟩
 have J2 := J2.but k47 u37.free hb37w
 have hlen : (app x y).length = x.length + y.length := app_len _ _
 have rN : RNds w47 a43 l43 (app x y) := J2.rows (by rw [hlen]; simp only [maxLen]; omega)
 have l43e := rN.len
 have x47 : Ext w30 w47 := J2.loc.below
 have y47 := y30.trans x47
 have c37 : w47.cell? (⟨b37, 0, none⟩ : Addr) = some (.slice a43 l43 c43) := by rw [hB47.cell]; rfl
 refine ⟨_, _, _, c37, ?_⟩
 rw [l43e]
 have NEG : ∀ t i j, i < (app x y).length → j < (app x y).length → cK cHd (app x y) (app x y) t j i = - cK cHd (app x y) (app x y) t i j := fun t i j hi hj => cK_neg hdC vA vA t i j hi hj
 have TRI : ∀ t i j k, i < (app x y).length → j < (app x y).length → k < (app x y).length → Tri (cK cHd (app x y) (app x y) t i j) (cK cHd (app x y) (app x y) t j k) (cK cHd (app x y) (app x y) t i k) := fun t i j k hi hj hk => cK_tri hdC vA vA vA t i j k hi hj hk
 refine (ctr16 (n := (app x y).length) (cf := fun i j => cK cHd (app x y) (app x y) 0 i j) (g := 17) (k3 := #[.pointer (some ⟨b37, 0, none⟩)]) (by omega) (by omega) (Tryz.call17) (fun w' xw i j hi hj => ?_) (NEG 0) (TRI 0) (fun i j _ _ => cK_s _ _ 0 i j)).mono ?_
 ·refine (xtr17 w' (xw.cell c37) (RNds.at rN xw) vA hi hj).mono ?_
  rintro e w2 ⟨_, rfl, rfl, h⟩
  exact ⟨rfl, h⟩
 rintro en w50 ⟨a49, l49, c49, rfl, fi, hfi, Ifi, x50⟩
 refine ⟨_, _, _, rfl, AllocK.mk fun b52 w53 hb52 hB52 x53 => setOne hB52 fun w54 hB54 k54 => ?_⟩
 have x54 : Ext w50 w54 := k54.below x53 (by omega)
 have c52 : w54.cell? (⟨b52, 0, none⟩ : Addr) = some (.slice a49 l49 c49) := by rw [hB54.cell]; rfl
 have x54' := x50.trans x54
 have Ifi := Ifi.ext RInt.mono x54
 have l49e := Ifi.1
 have hfil := hfi.1
 refine ⟨_, _, _, c52, _, _, _, x54'.cell c37, ?_⟩
 have wl : IntKind.wrap .i64 (((l43 : Nat) : Int) + 1) = ((x.length + y.length + 1 : Nat) : Int) := by rw [l43e, hlen, wrap_succ (by omega)]
 rw [wl]
 refine ⟨fun a l c t w' => ∃ (k : Nat) (la : List Int), t = k ∧ k ≤ x.length + y.length + 1 ∧ Ext w54 w' ∧ Ints w' a l la ∧ Rk (app x y).length la (fun i j => cK cHd (app x y) (app x y) k i j) ∧ ∀ q, q < k → cK cHd x y q 0 0 = 0, fun _ _ _ t _ => x.length + y.length + 1 - t.toNat,
  ⟨⟨0, fi, rfl, by omega, Ext.refl _, Ifi, hfi, fun q hq => by omega⟩, trivial⟩, ?_⟩
 rintro w59 a60 l60 c60 _ ⟨k, la, rfl, hk, x59, Ila, hla, hz⟩
 have l60e := Ila.1
 have hlal := hla.1
 have y59 := y47.trans (x54'.trans x59)
 have atL : ∀ {w' : World} {i : Nat}, Ext w59 w' → i < (app x y).length → ∃ b, a60 = some b ∧ w'.cell? (b.add (((i : Nat) : Int).toNat * 1)) = some (.int .i64 (ga la i)) := fun xx hi => by
  obtain ⟨b, o, ha, h0⟩ := (Rows.ext RInt.mono Ila xx).get (i := _) (by rw [hlal]; exact hi)
  exact ⟨_, ha, by rw [Int.toNat_natCast, add_mk, ga_get (by rw [hlal]; exact hi)]; exact h0⟩
 have p0 : ((([] : List Nd).length : Nat) : Int) + 0 = ((0 : Nat) : Int) := by simp
 have p1 : ((x.length : Nat) : Int) + 0 = ((x.length : Nat) : Int) := by omega
 rw [p0, p1]
 have i0 : 0 < (app x y).length := by omega
 have i1 : x.length < (app x y).length := by omega
 have hsg : sg (ga la 0) (ga la x.length) = cK cHd (app x y) (app x y) k 0 x.length := hla.2 0 x.length i0 i1
 rw [cK_app] at hsg
 refine BoolK.mk (fun t => DrewK.mk fun w62 x62 => ?_) (fun t => ?_)
 ·have hlt : k < x.length + y.length + 1 := by have := of_decide_eq_true t; omega
  obtain ⟨b63, e63, v63⟩ := atL x62 i0
  obtain ⟨b65, e65, v65⟩ := atL x62 i1
  refine ⟨⟨by omega, by omega⟩, adK e63 ⟨_, v63, ⟨by omega, by omega⟩, adK e65 ⟨_, v65, BoolK.mk (fun t1 => DrewK.mk fun w67 x67 => ?_) (fun t1 => ?_)⟩⟩⟩
  ·have t1 : ga la 0 ≠ ga la x.length := by simpa using t1
   have hne : cK cHd x y k 0 0 ≠ 0 := fun e => t1 (sg_zero.1 (by rw [hsg, e]))
   obtain ⟨b68, e68, v68⟩ := atL (x62.trans x67) i0
   obtain ⟨b70, e70, v70⟩ := atL (x62.trans x67) i1
   refine ⟨⟨by omega, by omega⟩, adK e68 ⟨_, v68, ⟨by omega, by omega⟩, adK e70 ⟨_, v70, (ctr19 w67 _ _).mono ?_⟩⟩⟩
   rintro en w73 ⟨_, rfl, rfl, rfl⟩
   refine ⟨_, rfl, (y59.trans x62).trans x67, .inl ⟨ok, ok', rfl, ?_⟩⟩
   rw [hsg, ← hres, cG]
   symm
   refine fz_at (k := k) (fun m hm => ?_) ?_ hne
   ·rw [List.getElem?_map, List.getElem?_range (by omega)]; simp [hz m hm]
   ·rw [List.getElem?_map, List.getElem?_range (by omega)]; rfl
  ·have t1 : ga la 0 = ga la x.length := by simpa using t1
   have h0 : cK cHd x y k 0 0 = 0 := by rw [← hsg]; exact sg_zero.2 t1
   refine AllocK.mk fun b75 w76 hb75 hB75 x76 => setOne hB75 fun w77 hB77 k77 => ?_
   have x77 : Ext w59 w77 := k77.below (x62.trans x76) (by have := x62.size; omega)
   have z77 := (x54'.trans x59).trans x77
   have c75 : w77.cell? (⟨b75, 0, none⟩ : Addr) = some (.slice a60 l60 c60) := by rw [hB77.cell]; rfl
   have d37 := z77.cell c37
   have d52 := (x59.trans x77).cell c52
   have rN77 := RNds.at rN z77
   have If77 := Ifi.ext RInt.mono (x59.trans x77)
   have Il77 := Ila.ext RInt.mono x77
   refine ⟨_, _, _, d37, ?_⟩
   rw [l43e]
   refine (ctr16 (n := (app x y).length) (cf := fun i j => cK cHd (app x y) (app x y) (k + 1) i j) (g := 20) (k3 := #[.pointer (some ⟨b52, 0, none⟩), .pointer (some ⟨b37, 0, none⟩), .pointer (some ⟨b75, 0, none⟩)]) (by omega) (by omega) (Tryz.call20) (fun w' xw i j hi hj => ?_) (NEG (k + 1)) (TRI (k + 1)) (fun i j _ _ => cK_s _ _ (k + 1) i j)).mono ?_
   ·refine (xtr20 w' (xw.cell d37) (RNds.at rN77 xw) vA sA (xw.cell d52) (If77.ext RInt.mono xw) hfi (xw.cell c75) (Il77.ext RInt.mono xw) hlal hi hj).mono ?_
    rintro e w2 ⟨_, rfl, rfl, h⟩
    refine ⟨?_, h⟩
    have : List.zipWith (fun a b => sg (ga la a) (ga la b)) (kids (app x y) i) (kids (app x y) j) = List.zipWith (cK cHd (app x y) (app x y) k) (kids (app x y) i) (kids (app x y) j) := by
     apply List.ext_getElem?
     intro m
     rw [List.getElem?_zipWith, List.getElem?_zipWith]
     cases e1 : (kids (app x y) i)[m]? with
     | none => rfl
     | some u =>
      cases e2 : (kids (app x y) j)[m]? with
      | none => rfl
      | some v => simp only [hla.2 u v (vA.kid hi u (List.mem_of_getElem? e1)) (vA.kid hj v (List.mem_of_getElem? e2))]
    rw [this]; rfl
   rintro en w80 ⟨a79, l79, c79, rfl, rk, hrk, Irk, x80⟩
   refine ⟨_, _, _, rfl, ?_⟩
   rw [wrap_succ (by omega)]
   refine ⟨⟨k + 1, rk, rfl, by omega, (x59.trans x77).trans x80, Irk, hrk, fun q hq => ?_⟩, by simp; omega⟩
   rcases Nat.lt_or_ge q k with h | h
   ·exact hz q h
   ·have : q = k := by omega
    subst this; exact h0
 ·have hk2 : k = x.length + y.length + 1 := by have := of_decide_eq_false t; omega
  refine ⟨y59, .inl ⟨ok, ok', rfl, ?_⟩⟩
  rw [← hres, cG]
  symm
  refine fz_all.2 fun v hv => ?_
  obtain ⟨q, hq, rfl⟩ := List.mem_map.1 hv
  exact hz q (by have := List.mem_range.1 hq; omega)
end Go.Proofs.YtbiamhoonhjodacGreatDoor
