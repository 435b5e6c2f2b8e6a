/- A part of the proof: plain forms of functions and laws about them. -/
import Derived.Test.YtnmldggopnbclaaGreatDoorGrliBb
namespace Go.Proofs.YtnmldggopnbclaaGreatDoor
open Go Go.V Go.Proofs Go.V.Gr
open Go.RowKit (Below)
theorem rest_ord {n : Nat} {ord : List Nat} (h : ord.Nodup) (hl : ∀ i ∈ ord, i < n) : (restOf n ord).length + ord.length ≤ n := by
 have := len_le_of_sub (restOf n ord ++ ord) (List.range n) (List.nodup_append.2 ⟨rest_nodup n ord, h, fun a ha b hb e => by subst e; exact (rest_mem.1 ha).2 hb⟩) fun x hx => by
  rcases List.mem_append.1 hx with hx | hx
  ·exact List.mem_range.2 (rest_mem.1 hx).1
  ·exact List.mem_range.2 (hl x hx)
 simpa using this
def zr (b n : Nat) (w : World) : Nat := (List.range n).countP fun i => match w.cell? ((⟨b, 0, none⟩ : Addr).add (((i : Nat) : Int).toNat * 1)) with | some (.int _ x) => x == 0 | _ => false
theorem zr_eq {ρ : Type} {own : OwnM ρ} {r : ρ} {w : World} {e : TypeId} {b n c : Nat} {xs : List Int} (h : RowR own r e 1 eI w (some ⟨b, 0, none⟩, n, c) xs) : zr b n w = (List.range n).countP fun i => ga xs i == 0 := by
 have hl : n = xs.length := h.len
 refine List.countP_congr fun i hi => ?_
 rw [RowR.geti h (by rw [← hl]; exact List.mem_range.1 hi)]
theorem countP_lt {n x : Nat} {p q : Nat → Bool} (hx : x < n) (h1 : p x = true) (h2 : q x = false) (h : ∀ i, i ≠ x → q i = p i) : (List.range n).countP q < (List.range n).countP p := by
 induction n with
 | zero => omega
 | succ n ih =>
  rw [List.range_succ, List.countP_append, List.countP_append, List.countP_singleton, List.countP_singleton]
  by_cases e : x = n
  ·subst e
   rw [h1, h2]
   have : (List.range x).countP q = (List.range x).countP p := List.countP_congr fun i hi => by rw [h i (by have := List.mem_range.1 hi; omega)]
   simp; omega
  ·rw [h n (fun e2 => e e2.symm)]
   have := ih (by omega)
   omega
structure P1 (w0 w : World) (own : OwnM Nat) (n b2 bm : Nat) (T : List ByteArray) (cl : List Int) : Prop where
 loc : Mine own w0 w
 cl : RowR own 0 3 1 eI w (some ⟨b2, 0, none⟩, n, n) cl
 mx : Mx own 1 eStr w bm T 1
section
variable {w0 w w' : World} {own own' : OwnM Nat} {n b2 bm : Nat} {cl : List Int} {T : List ByteArray}
theorem P1.ext (h : P1 w0 w own n b2 bm T cl) (x : Ext w w') : P1 w0 w' own n b2 bm T cl := ⟨h.loc.ext x, h.cl.ext x, h.mx.ext x⟩
theorem P1.cll (h : P1 w0 w own n b2 bm T cl) : cl.length = n := h.cl.len.symm
theorem P1.ints (h : P1 w0 w own n b2 bm T cl) : Ints w (some ⟨b2, 0, none⟩) n cl := OwnR.ints h.cl.1
end
theorem kids_key {xs : List Nd} {cl : List Int} {i : Nat} (hi : i < xs.length) : keyD xs[i] (xs[i].ks.map fun k => ga cl k.toNat) = keyC xs (ga cl) i := by
 rw [keyC, nd_get hi]; congr 1
 rw [kc, Gr.kids, nd_get hi, List.map_map]; rfl
theorem NdOk.d {x : Nd} {n : Int} (h : NdOk x n) (hl : x.fs.length ≤ 1000000) : DOk x ∧ ZOk x := by
 have hw := h.w hl
 have nz : ∀ {s : ByteArray}, prS s → NoZ s := fun {s} hs c hc e => by
  have := List.all_eq_true.1 hs.1 c hc
  subst e; revert this; decide
 have hk : x.kd = kInt ∨ x.kd = kVar ∨ x.kd = kRef ∨ x.kd = kRec := by
  rcases h with h | h | h | h
  ·exact .inl h.1
  ·exact .inr (.inl h.1)
  ·exact .inr (.inr (.inl h.1))
  ·exact .inr (.inr (.inr h.1))
 have hn : -999999999999999999 ≤ x.n := by
  rcases h with h | h | h | h
  ·exact h.2.2.2.2.1
  ·have := h.2.2.2.2.1; omega
  ·have := h.2.2.2.2.1; omega
  ·have := h.2.1; omega
 have hf : ∀ f ∈ x.fs, 0 ≤ f.1 := fun f hf => by
  rcases h with h | h | h | h
  ·rw [h.2.2.1] at hf; cases hf
  ·rw [h.2.2.1] at hf; cases hf
  ·rw [h.2.2.1] at hf; cases hf
  ·obtain ⟨i, hi⟩ := List.getElem?_of_mem hf
   have := (h.2.2.2.2.1 i f hi).1
   unfold featD at this
   split at this
   ·have := of_decide_eq_true this; omega
   ·omega
 refine ⟨⟨hw.hd, by omega, fun f hff => by have := hf f hff; omega, h.lens⟩, ⟨?_, nz hw.hd.tx, fun f hff => nz (hw.hd.fs f hff).1, h.lens⟩⟩
 rcases hk with e | e | e | e <;> rw [e] <;> unfold NoZ <;> decide
set_option maxRecDepth 100000 in
theorem ctr39 (w : World) {a1 : Option Addr} {l1 : Nat} (c1 : Nat) {xs : List Nd} (h : RNds w a1 l1 xs) (hc : Closed xs) (hz : Sz xs) (hw : ∀ x ∈ xs, DOk x ∧ ZOk x) :
  Calls Tryz.prog 39 #[.slice a1 l1 c1] w fun en w' => ∃ a l c, en = .returned (.slice a l c) ∧
   (∃ cl : List Int, Cls xs cl ∧ (∀ v ∈ cl, 1 ≤ v ∧ v ≤ xs.length) ∧ Ints w' a l cl ∧ Ext w w') := by
 refine calls39 _ _ _ _ w ?_
 have hn := hz.len
 have hZ : ∀ x ∈ xs, ZOk x := fun x hx => (hw x hx).2
 obtain rfl : l1 = xs.length := h.len
 have hin : ∀ {i : Nat} (hi : i < xs.length), ∀ k ∈ xs[i].ks, 0 ≤ k ∧ k < xs.length := fun hi => hc _ (List.getElem_mem hi)
 simp only [N39, Int.toNat_natCast]
 refine ⟨⟨by omega, by omega, by omega, by omega⟩, RowR.make (x := (0 : Int)) (enc := eI) rfl (by simp only [maxLen]; omega) (fun _ => (none : Option Nat)) 0 fun b2 w3 r2 u2 x3 hb2 => ?_⟩
 obtain ⟨w5, bm, q5, mx5, u5, x5⟩ := Mx.new (P := Tryz.prog) (t := 63) eStr w3 1 (setOwn (fun _ => (none : Option Nat)) (some b2) 0) 1
 have p5 : P1 w w5 _ xs.length b2 bm [] (List.replicate xs.length 0) := ⟨((Mine.refl w).upd u2).upd u5, r2.upd u5 (by decide), mx5⟩
 refine ⟨some bm, w5, q5, ?_⟩
 refine ⟨fun p w' => ∃ (own : OwnM Nat) (T : List ByteArray) (cl : List Int) (ord : List Nat), P1 w w' own xs.length b2 bm T cl ∧ Num1 xs T cl ord ∧ (p = false → ∀ i, i < xs.length → ga cl i = 0 → ∃ k ∈ Gr.kids xs i, ga cl k = 0),
  fun p w' => 2 * zr b2 xs.length w' + (if p then 1 else 0), ⟨⟨_, _, _, _, p5, Num1.start, fun e => by cases e⟩, trivial⟩, ?_⟩
 clear p5 mx5 u5 q5 x5 r2 u2 x3
 rintro w8 p9 ⟨own, T, cl, ord, st, nu, hfu⟩
 refine BoolK.mk (fun t9 => ?_) (fun t9 => ?_)
 ·subst t9
  have wm : IntKind.wrap .i64 (((xs.length : Nat) : Int) - 1) = ((xs.length : Nat) : Int) - 1 := wrap_id (by omega) (by omega)
  refine ⟨fun p x w' => ∃ (k : Nat) (own : OwnM Nat) (T : List ByteArray) (cl : List Int) (ord : List Nat), x = (k : Int) - 1 ∧ k ≤ xs.length ∧ P1 w w' own xs.length b2 bm T cl ∧ Num1 xs T cl ord ∧ zr b2 xs.length w' ≤ zr b2 xs.length w8 ∧ (p = true → zr b2 xs.length w' < zr b2 xs.length w8) ∧
    (p = false → ∀ i, k ≤ i → i < xs.length → ga cl i = 0 → ∃ k ∈ Gr.kids xs i, ga cl k = 0), fun _ x _ => (x + 1).toNat, ⟨⟨xs.length, own, T, cl, ord, wm, Nat.le_refl _, st, nu, Nat.le_refl _, fun e => (by cases e), fun _ i h1 h2 => by omega⟩, trivial⟩, ?_⟩
  clear st nu hfu
  rintro w12 p13 _ ⟨k, own, T, cl, ord, rfl, hk, st, nu, z1, z2, hfu⟩
  refine BoolK.mk (fun t => ?_) (fun t => ?_)
  ·have t := of_decide_eq_true t
   obtain ⟨i, rfl⟩ : ∃ i, k = i + 1 := ⟨k - 1, by omega⟩
   have hlt : i < xs.length := by omega
   rw [show ((i + 1 : Nat) : Int) - 1 = (i : Int) by omega]
   have wp : IntKind.wrap .i64 ((i : Int) - 1) = (i : Int) - 1 := wrap_id (by omega) (by omega)
   rw [wp]
   have m1 : ((i : Int) - 1 + 1).toNat < ((i : Int) + 1).toNat := by omega
   refine ⟨⟨by omega, by omega⟩, _, RowR.geti st.cl (by rw [st.cll]; exact hlt), BoolK.mk (fun t1 => ?_) (fun t1 => ?_)⟩
   ·have t1 := of_decide_eq_true t1
    refine ⟨⟨i, own, T, cl, ord, rfl, by omega, st, nu, z1, z2, fun e j h1 h2 h0 => ?_⟩, m1⟩
    rcases Nat.lt_or_ge i j with h3 | h3
    ·exact hfu e j (by omega) h2 h0
    ·have : j = i := by omega
     subst this; omega
   have t1 := of_decide_eq_false t1
   have hcb := ga_mem (P := fun c => 0 ≤ c) (by omega) (fun c hc => (nu.b c hc).1) i
   have hci : ga cl i = 0 := by omega
   have y12 := st.loc.below
   obtain ⟨b16, ha, h0, h1, h2, _, _, ⟨a3, l3, c3, h5, h6⟩, ⟨a4, l4, c4, h7, h8⟩, _⟩ := ndAt h y12 hlt
   refine ⟨⟨by omega, by omega⟩, adK ha ⟨_, h0, _, h1, _, h2, _, _, _, h5, _, _, _, h7, ?_⟩⟩
   refine (ctr67 xs[i] c3 c4 xs.length h8 st.ints (fun k hk => by rw [st.cll]; exact hin hlt k hk)).mono ?_
   rintro en w23 ⟨p22, rfl, hp22, x23⟩
   have zr12 := zr_eq st.cl
   have st := st.ext x23
   refine ⟨_, rfl, BoolK.mk (fun t2 => ?_) (fun t2 => ?_)⟩
   ·refine ⟨⟨i, own, T, cl, ord, rfl, by omega, st, nu, by rw [zr_eq st.cl, ← zr12]; exact z1, fun e => by rw [zr_eq st.cl, ← zr12]; exact z2 e, fun e j h1 h2 h0 => ?_⟩, m1⟩
    rcases Nat.lt_or_ge i j with h3 | h3
    ·exact hfu e j (by omega) h2 h0
    ·have : j = i := by omega
     subst this
     have hnot : ¬ ∀ k ∈ xs[j].ks, ga cl k.toNat ≠ 0 := fun h => by rw [hp22.2 h] at t2; cases t2
     simp only [Classical.not_forall] at hnot
     obtain ⟨k, hk, e0⟩ := hnot
     exact ⟨k.toNat, List.mem_map.2 ⟨k, by rw [nd_get hlt]; exact hk, rfl⟩, Classical.not_not.1 e0⟩
   have hready := hp22.1 (by simpa using t2)
   have hr' : ∀ k ∈ Gr.kids xs i, ga cl k ≠ 0 := fun k hk => by
    obtain ⟨k', hk', rfl⟩ := List.mem_map.1 hk
    rw [nd_get hlt] at hk'; exact hready k' hk'
   have y23 := st.loc.below
   obtain ⟨b16, ha, h0, h1, h2, _, _, ⟨a3, l3, c3, h5, h6⟩, ⟨a4, l4, c4, h7, h8⟩, _⟩ := ndAt h y23 hlt
   refine ⟨⟨by omega, by omega⟩, adK ha ⟨_, h0, _, h1, _, h2, _, _, _, h5, _, _, _, h7, ?_⟩⟩
   have hob := nu.len
   refine (ctr68 w23 xs[i] c3 c4 xs.length (hw _ (List.getElem_mem hlt)).1 h6 h8 st.ints (fun k hk => by rw [st.cll]; exact hin hlt k hk) (fun c hc => by have := nu.b c hc; omega)).mono ?_
   rintro en w32 ⟨s31, rfl, hs31, x32⟩
   rw [kids_key hlt] at hs31
   have st := st.ext x32
   refine ⟨_, rfl, ?_⟩
   have fin : ∀ {w40 : World} {T' : List ByteArray} {v : Nat}, P1 w w40 own xs.length b2 bm T' cl → (T' = T ∨ T' = T ++ [s31]) → T'[v]? = some s31 → (0 ≤ (i : Int) ∧ (i : Int) < ((xs.length : Nat) : Int)) ∧
     SetK w40 ((⟨b2, 0, none⟩ : Addr).add (((i : Nat) : Int).toNat * 1)) (.int .i64 (1 + (v : Nat))) fun w41 =>
      (∃ (k : Nat) (own : OwnM Nat) (T : List ByteArray) (cl : List Int) (ord : List Nat), (i : Int) - 1 = (k : Int) - 1 ∧ k ≤ xs.length ∧ P1 w w41 own xs.length b2 bm T cl ∧ Num1 xs T cl ord ∧ zr b2 xs.length w41 ≤ zr b2 xs.length w8 ∧ (true = true → zr b2 xs.length w41 < zr b2 xs.length w8) ∧
       (true = false → ∀ i, k ≤ i → i < xs.length → ga cl i = 0 → ∃ k ∈ Gr.kids xs i, ga cl k = 0)) ∧ ((i : Int) - 1 + 1).toNat < ((i : Int) + 1).toNat := by
    intro w40 T' v st40 hT hv
    refine ⟨⟨by omega, by omega⟩, RowR.seti st40.cl (by rw [st40.cll]; exact hlt) _ fun w41 r41 u41 => ?_⟩
    have nu' := nu.put hlt hci hr' hc hT hv hs31
    have hcl : i < cl.length := by rw [st40.cll]; exact hlt
    have zl : zr b2 xs.length w41 < zr b2 xs.length w12 := by
     rw [zr12, zr_eq r41]
     refine countP_lt hlt (by rw [hci]; rfl) (by rw [ga_set hcl, if_pos rfl, beq_eq_false_iff_ne]; omega) fun j hj => by rw [ga_set hcl, if_neg hj]
    exact ⟨⟨i, own, T', _, _, rfl, by omega, ⟨st40.loc.upd u41, by rw [Int.natCast_add] at *; exact r41, st40.mx.upd u41 (by decide)⟩, nu', by omega, fun _ => by omega, fun e => by cases e⟩, m1⟩
   obtain ⟨x34, q1, q2⟩ := st.mx.num.look1 (P := Tryz.prog) mtS s31
   refine ⟨_, _, q1, ?_⟩
   rcases q2 with ⟨v, e1, rfl⟩ | ⟨hnin, rfl⟩
   ·refine BoolK.mk (fun t3 => ?_) (fun _ => ⟨_, _, q1, fin st (.inl rfl) e1⟩)
    have := eq_of_beq t3; omega
   ·refine BoolK.mk (fun _ => ?_) (fun t3 => by cases t3)
    have hTl := nu.Tl
    refine ⟨_, _, st.mx.num.len mtS _, ?_⟩
    rw [wrap_id (x := ((T.length : Nat) : Int) + 1) (by omega) (by omega)]
    obtain ⟨w38, r1, r2, r3⟩ := st.mx.add (P := Tryz.prog) mtS (a := s31) (v := ((T.length : Nat) : Int) + 1) (by omega) hnin
    refine ⟨w38, r1, ?_⟩
    obtain ⟨x39, q3, q4⟩ := r2.num.look1 (P := Tryz.prog) mtS s31
    refine ⟨_, _, q3, ?_⟩
    rcases q4 with ⟨v, e1, rfl⟩ | ⟨hnin2, _⟩
    ·exact fin ⟨st.loc.upd r3, st.cl.upd r3 (by decide), r2⟩ (.inr rfl) e1
    ·exact absurd (by simp) hnin2
  ·have t := of_decide_eq_false t
   have : k = 0 := by omega
   subst this
   refine ⟨⟨own, T, cl, ord, st, nu, fun e i hi h0 => hfu e i (by omega) hi h0⟩, ?_⟩
   cases p13
   ·simp; omega
   ·have := z2 rfl; simp; omega
 subst t9
 have hfull := hfu rfl
 have ho := nu.topo hfull hc
 have hnd := st.mx.num.nodup
 have di := nu.dinv ho hnd hZ
 have hol := nu.len
 have hTl := nu.Tl
 have hro := rest_ord nu.nodup nu.lt
 refine ⟨_, _, st.mx.num.len mtS _, ?_⟩
 obtain ⟨a47, c47, w48, q48, o48, x48⟩ := copyRows (P := Tryz.prog) (t := 37) (ty := 37) sltI (enc := eI) (R := RInt) (c := xs.length) st.ints eI_len eI_one (fun f x hf j hj => by
  have : j = 0 := by omega
  subst this; exact hf) (by rw [st.cll]; omega)
 refine ⟨_, _, _, _, q48, ?_⟩
 have i48 : Ints w48 a47 xs.length cl := OwnR.ints o48
 have y48 := st.loc.below.trans x48
 have cll := st.cll
 have i0 : Ints w48 (some ⟨b2, 0, none⟩) xs.length cl := st.ints.ext RInt.mono x48
 have hcb0 : ∀ i, 0 ≤ ga cl i ∧ ga cl i ≤ xs.length := ga_mem (P := fun c => 0 ≤ c ∧ c ≤ (xs.length : Int)) ⟨by omega, by omega⟩ fun c hc => by have := nu.b c hc; omega
 have hpos := nu.pos
 clear st hfu
 refine ⟨fun a l c x w' => ∃ clc : List Int, Ext w48 w' ∧ Ints w' a l clc ∧ clc.length = xs.length ∧ DInv xs ord T.length x (ga clc) ∧ (∀ v ∈ clc, 0 ≤ v ∧ v ≤ xs.length) ∧ x ≤ xs.length ∧ (∀ i ∈ ord, ga clc i = ga cl i), fun _ _ _ x _ => ((xs.length : Int) + 1 - x).toNat,
  ⟨⟨cl, Ext.refl _, i0, cll, di, fun v hv => by have := nu.b v hv; omega, by omega, fun i _ => rfl⟩, trivial⟩, ?_⟩
 clear di i0
 rintro w51 a52 l52 c52 x53 ⟨clc, x51, i51, hcl, di, hcb, hx53, hord⟩
 have y51 := y48.trans x51
 obtain ⟨a54, c54, w55, q55, o55, x55⟩ := copyRows (P := Tryz.prog) (t := 37) (ty := 37) sltI (enc := eI) (R := RInt) (c := c47) (i48.ext RInt.mono x51) eI_len eI_one (fun f x hf j hj => by
  have : j = 0 := by omega
  subst this; exact hf) (by rw [cll]; omega)
 refine ⟨_, _, _, _, q55, ?_⟩
 obtain ⟨r55, u55⟩ := RowR.adopt (s := (a54, xs.length, c54)) o55 (Nat.le_refl _) x55 (fun _ => (none : Option Nat)) 0
 have L55 := (Mine.refl (ρ := Nat) w51).upd u55
 generalize setOwn (fun _ => (none : Option Nat)) (sblk (a54, xs.length, c54)) 0 = own55 at r55 u55 L55
 obtain ⟨w57, bm2, q57, mx57, u57, x57⟩ := Mx.new (P := Tryz.prog) (t := 63) eStr w55 1 own55 1
 refine ⟨some bm2, w57, q57, ?_⟩
 refine ⟨fun x w' => ∃ (j : Nat) (own : OwnM Nat) (N : List ByteArray) (cl' : List Int), x = j ∧ j ≤ xs.length ∧ Mine own w51 w' ∧ RowR own 0 3 1 eI w' (a54, xs.length, c54) cl' ∧ Mx own 1 eStr w' bm2 N 1 ∧ cl'.length = xs.length ∧ (∀ i ∈ ord, ga cl' i = ga cl i) ∧
   (∀ i, i < j → i ∉ ord → ∃ (q : Nat) (s : ByteArray), ga cl' i = T.length + 1 + q ∧ N[q]? = some s ∧ bl s = keyC xs (ga clc) i) ∧ (∀ q, q < N.length → ∃ i, i < j ∧ i ∉ ord ∧ ga cl' i = T.length + 1 + (q : Nat)) ∧ N.length ≤ (restOf j ord).length ∧ (∀ v ∈ cl', 0 ≤ v ∧ v ≤ xs.length),
  fun x _ => xs.length - x.toNat, ⟨⟨0, _, [], cl, rfl, by omega, L55.upd u57, r55.upd u57 (by decide), mx57, cll, fun i _ => rfl, fun i hi => by omega, fun q hq => by simp at hq, by simp, fun v hv => by have := nu.b v hv; omega⟩, trivial⟩, ?_⟩
 clear L55 r55 mx57 u57 u55 x55 x57 q57 q55 o55
 rintro w60 _ ⟨j, own, N, cl', rfl, hj, L, rr, mx, hcl', hA, hB, hC, hNl, hcb'⟩
 have y60 := y51.trans L.below
 refine BoolK.mk (fun t => ?_) (fun t => ?_)
 ·have hlt : j < xs.length := by have := of_decide_eq_true t; omega
  obtain ⟨b62, o62, e62, r62⟩ := (i48.ext RInt.mono (x51.trans L.below)).get (i := j) (by rw [cll]; exact hlt)
  have g62 : w60.cell? ((⟨b62, o62, none⟩ : Addr).add (((j : Nat) : Int).toNat * 1)) = some (.int .i64 (ga cl j)) := by
   rw [Int.toNat_natCast, add_mk, ga_get (by rw [cll]; exact hlt)]; simpa [RInt] using r62
  have hm : xs.length - (((j + 1 : Nat) : Int)).toNat < xs.length - ((j : Nat) : Int).toNat := by simp; omega
  refine ⟨⟨by omega, by omega⟩, adK e62 ⟨_, g62, BoolK.mk (fun t1 => ?_) (fun t1 => ?_)⟩⟩
  ·have t1 := of_decide_eq_true t1
   have hjo : j ∈ ord := (hpos j hlt).2 (by omega)
   rw [wrap_succ (by omega)]
   refine ⟨⟨j + 1, own, N, cl', rfl, by omega, L, rr, mx, hcl', hA, fun i hi ni => ?_, fun q hq => ?_, by rw [rest_succ, if_pos hjo]; exact hNl, hcb'⟩, hm⟩
   ·rcases Nat.lt_or_ge i j with h1 | h1
    ·exact hB i h1 ni
    ·have : i = j := by omega
     subst this; exact absurd hjo ni
   ·obtain ⟨i, h1, h2⟩ := hC q hq; exact ⟨i, by omega, h2⟩
  ·have t1 := of_decide_eq_false t1
   have hjn : j ∉ ord := fun hm => by have := (hpos j hlt).1 hm; have := hcb0 j; omega
   obtain ⟨b16, ha, h0, h1, h2, _, _, ⟨a3, l3, c3, h5, h6⟩, ⟨a4, l4, c4, h7, h8⟩, _⟩ := ndAt h y60 hlt
   refine ⟨⟨by omega, by omega⟩, adK ha ⟨_, h0, _, h1, _, h2, _, _, _, h5, _, _, _, h7, ?_⟩⟩
   refine (ctr68 w60 xs[j] c3 c4 c52 (hw _ (List.getElem_mem hlt)).1 h6 h8 (i51.ext RInt.mono L.below) (fun k hk => by rw [hcl]; exact hin hlt k hk) (fun c hc => by have := hcb c hc; omega)).mono ?_
   rintro en w71 ⟨s70, rfl, hs70, x71⟩
   rw [kids_key hlt] at hs70
   have L := L.ext x71
   have rr := rr.ext x71
   have mx := mx.ext x71
   have hNn := mx.num.nodup
   refine ⟨_, rfl, ?_⟩
   refine ⟨fun w' => ∃ (own : OwnM Nat) (N' : List ByteArray), Mine own w51 w' ∧ RowR own 0 3 1 eI w' (a54, xs.length, c54) cl' ∧ Mx own 1 eStr w' bm2 N' 1 ∧ s70 ∈ N' ∧ (N' = N ∨ (N' = N ++ [s70] ∧ s70 ∉ N)), ?_, ?_⟩
   ·rintro w74 ⟨own, N', L, rr, mx, hin', hN'⟩
    have hN'n := mx.num.nodup
    obtain ⟨x75, q1, q2⟩ := mx.num.look1 (P := Tryz.prog) mtS s70
    refine ⟨_, _, q1, ⟨by omega, by omega⟩, ?_⟩
    rcases q2 with ⟨v, e1, rfl⟩ | ⟨hnin, _⟩
    ·have hvl := (List.getElem?_eq_some_iff.1 e1).1
     have hrl : (restOf (j + 1) ord).length ≤ (restOf xs.length ord).length := by
      refine len_le_of_sub _ _ (rest_nodup _ _) fun x hx => ?_
      have := rest_mem.1 hx
      exact rest_mem.2 ⟨by omega, this.2⟩
     have hrs : (restOf (j + 1) ord).length = (restOf j ord).length + 1 := by rw [rest_succ, if_neg hjn]; simp
     have hN'l : N'.length ≤ (restOf (j + 1) ord).length := by
      rcases hN' with rfl | ⟨rfl, _⟩
      ·omega
      ·simp; omega
     rw [wrap_id (by omega) (by omega)]
     obtain ⟨g, l, c', e54, _, _, _⟩ := rr.at_ eI_len (i := j) (by rw [hcl']; exact hlt)
     simp only [Prod.mk.injEq] at e54
     obtain ⟨rfl, _, _⟩ := e54
     refine adK rfl (RowR.seti rr (by rw [hcl']; exact hlt) _ fun w78 r78 u78 => ?_)
     rw [wrap_succ (by omega)]
     have hj' : j < cl'.length := by rw [hcl']; exact hlt
     have grow : ∀ {q : Nat} {u : ByteArray}, N[q]? = some u → N'[q]? = some u := fun {q u} e => by
      rcases hN' with rfl | ⟨rfl, _⟩
      ·exact e
      ·rw [List.getElem?_append_left (List.getElem?_eq_some_iff.1 e).1]; exact e
     refine ⟨⟨j + 1, own, N', _, rfl, by omega, L.upd u78, r78, mx.upd u78 (by decide), by simpa using hcl', fun i hi => ?_, fun i hi ni => ?_, fun q hq => ?_, hN'l, fun x hx => ?_⟩, hm⟩
     ·rw [ga_set hj', if_neg (fun e : i = j => hjn (e ▸ hi))]; exact hA i hi
     ·by_cases e : i = j
      ·subst e; exact ⟨v, s70, by rw [ga_set hj', if_pos rfl]; omega, e1, hs70⟩
      ·obtain ⟨q, s, f1, f2, f3⟩ := hB i (by omega) ni
       exact ⟨q, s, by rw [ga_set hj', if_neg e]; exact f1, grow f2, f3⟩
     ·rcases hN' with rfl | ⟨rfl, hnin⟩
      ·obtain ⟨i, f1, f2, f3⟩ := hC q hq
       exact ⟨i, by omega, f2, by rw [ga_set hj', if_neg (by omega)]; exact f3⟩
      ·by_cases hq2 : q < N.length
       ·obtain ⟨i, f1, f2, f3⟩ := hC q hq2
        exact ⟨i, by omega, f2, by rw [ga_set hj', if_neg (by omega)]; exact f3⟩
       ·have hqe : q = N.length := by simp at hq; omega
        have : v = N.length := nodup_idx hN'n e1 (by simp)
        exact ⟨j, by omega, hjn, by rw [ga_set hj', if_pos rfl]; omega⟩
     ·rcases List.mem_or_eq_of_mem_set hx with hx | rfl
      ·exact hcb' x hx
      ·omega
    ·exact absurd hin' hnin
   ·obtain ⟨x79, q1, q2⟩ := mx.num.look1 (P := Tryz.prog) mtS s70
    refine ⟨_, _, q1, ?_⟩
    rcases q2 with ⟨v, e1, rfl⟩ | ⟨hnin, rfl⟩
    ·refine BoolK.mk (fun t3 => ?_) (fun _ => ⟨own, N, L, rr, mx, List.mem_of_getElem? e1, .inl rfl⟩)
     have := eq_of_beq t3; omega
    ·refine BoolK.mk (fun _ => ?_) (fun t3 => by cases t3)
     have hrl := rest_len j ord
     refine ⟨_, _, mx.num.len mtS _, ?_⟩
     rw [wrap_id (x := ((N.length : Nat) : Int) + 1) (by omega) (by omega)]
     obtain ⟨w83, r1, r2, r3⟩ := mx.add (P := Tryz.prog) mtS (a := s70) (v := ((N.length : Nat) : Int) + 1) (by omega) hnin
     exact ⟨w83, r1, own, _, L.upd r3, rr.upd r3 (by decide), r2, by simp, .inr ⟨rfl, hnin⟩⟩
 ·have hj2 : j = xs.length := by have := of_decide_eq_false t; omega
  subst hj2
  have hNn := mx.num.nodup
  obtain ⟨done, go⟩ := di.round ho hc hZ hNn (c' := ga cl') (fun i hi => by rw [hA i hi, hord i hi]) (fun i hi ni => hB i hi ni) (fun q hq => hC q hq)
  refine ⟨_, _, mx.num.len mtS _, BoolK.mk (fun t1 => ?_) (fun t1 => ⟨_, _, mx.num.len mtS _, ?_⟩)⟩
  ·have t1 : (N.length : Int) = x53 := eq_of_beq t1
   refine ⟨cl', ⟨hcl', fun i j hi hj => done t1 i j hi hj⟩, fun v hv => ?_, OwnR.ints rr.1, y60⟩
   obtain ⟨i, hi, rfl⟩ := List.getElem_of_mem hv
   have hb := hcb' _ hv
   rw [← ga_get hi] at hb ⊢
   refine ⟨?_, hb.2⟩
   by_cases hio : i ∈ ord
   ·rw [hA i hio]; have := (hpos i (by omega)).1 hio; have := hcb0 i; omega
   ·obtain ⟨q, s, f1, _⟩ := hB i (by omega) hio; omega
  ·have t1 : (N.length : Int) ≠ x53 := fun e => by rw [beq_eq_false_iff_ne] at t1; exact t1 e
   obtain ⟨g1, g2⟩ := go t1
   exact ⟨⟨cl', x51.trans L.below, OwnR.ints rr.1, hcl', g2, hcb', by omega, hA⟩, by show ((xs.length : Int) + 1 - _).toNat < ((xs.length : Int) + 1 - x53).toNat; omega⟩
end Go.Proofs.YtnmldggopnbclaaGreatDoor

namespace Go.Proofs.YtnmldggopnbclaaGreatDoor
open Go Go.V Go.Proofs Go.V.Gr
structure Big (xs : List Nd) : Prop where
 nds : ∀ x ∈ xs, NdOk x xs.length
 ks : ∀ x ∈ xs, x.ks.length ≤ 5000
theorem NdOk.kids {x : Nd} {n : Int} (h : NdOk x n) : ∀ k ∈ x.ks, 0 ≤ k ∧ k < n := by
 rcases h with ⟨_, _, _, h4, _⟩ | ⟨_, _, _, h4, _⟩ | ⟨_, _, _, h4, _⟩ | ⟨_, _, _, _, _, h6⟩
 ·rw [h4]; simp
 ·rw [h4]; simp
 ·rw [h4]; simp
 ·exact h6
theorem NdOk.more {x : Nd} {n m : Int} (h : NdOk x n) (hm : n ≤ m) : NdOk x m := h.of_hd rfl fun k hk => by have := NdOk.kids h k hk; omega
section
variable {xs ys : List Nd}
theorem Big.nil : Big [] := ⟨by simp, by simp⟩
theorem Big.closed (h : Big xs) : Closed xs := fun x hx => NdOk.kids (h.nds x hx)
theorem Big.fs (h : Big xs) : ∀ x ∈ xs, x.fs.length ≤ 5000 := fun x hx => by rw [← (h.nds x hx).lens]; exact h.ks x hx
theorem Big.sz (h : Big xs) (hn : xs.length ≤ 1000000) : Sz xs := ⟨hn, fun x hx => by have := h.fs x hx; omega, fun x hx => by have := h.ks x hx; omega⟩
theorem Big.w (h : Big xs) : ∀ x ∈ xs, NdW x := fun x hx => (h.nds x hx).w (by have := h.fs x hx; omega)
theorem Big.d (h : Big xs) : ∀ x ∈ xs, DOk x ∧ ZOk x := fun x hx => (h.nds x hx).d (by have := h.fs x hx; omega)
theorem Big.of {root : Int} {most : Nat} (g : GrOk root xs most) (hk : ∀ x ∈ xs, x.ks.length ≤ 5000) : Big xs := ⟨g.nds, hk⟩
theorem Big.app (h : Big xs) (k : Big ys) : Big (app xs ys) := by
 refine ⟨fun x hm => ?_, fun x hm => ?_⟩
 all_goals rcases List.mem_append.1 hm with hx | hx
 ·exact NdOk.more (h.nds x hx) (by rw [app_len]; omega)
 ·obtain ⟨y, hy, rfl⟩ := List.mem_map.1 hx
  refine (k.nds y hy).of_hd (shift_hd _ _) fun v hv => ?_
  obtain ⟨v', hv', rfl⟩ := List.mem_map.1 hv
  have := NdOk.kids (k.nds y hy) v' hv'
  rw [app_len]; omega
 ·exact h.ks x hx
 ·obtain ⟨y, hy, rfl⟩ := List.mem_map.1 hx
  have := k.ks y hy
  simpa [shift] using this
def nilN : Nd := ⟨kRec, 0, kNil, [], []⟩
def consN (a b : Int) : Nd := ⟨kRec, 0, kBar, [(1, ⟨#[]⟩), (2, ⟨#[]⟩)], [a, b]⟩
theorem nilN_ok (n : Int) : NdOk nilN n := .inr (.inr (.inr ⟨rfl, rfl, by decide, rfl, fun i f e => by simp [nilN] at e, fun k hk => by simp [nilN] at hk⟩))
theorem pair_ok : featsOk [(1, ⟨#[]⟩), (2, ⟨#[]⟩)] := by
 intro i f e
 match i, e with
 | 0, e => cases e; exact ⟨by decide, fun g h => by omega⟩
 | 1, e => cases e; exact ⟨by decide, fun g _ eg => by cases eg; decide⟩
 | i + 2, e => simp at e
theorem consN_ok {a b n : Int} (ha : 0 ≤ a ∧ a < n) (hb : 0 ≤ b ∧ b < n) : NdOk (consN a b) n := .inr (.inr (.inr ⟨rfl, rfl, (by decide : atomD kBar = true), rfl, pair_ok, fun k hk => by
 simp only [consN, List.mem_cons, List.not_mem_nil, or_false] at hk
 rcases hk with rfl | rfl <;> assumption⟩))
theorem Big.snoc (h : Big xs) {x : Nd} (hx : NdOk x (xs.length + 1 : Nat)) (hk : x.ks.length ≤ 5000) : Big (xs ++ [x]) := by
 refine ⟨fun y hy => ?_, fun y hy => ?_⟩
 ·rcases List.mem_append.1 hy with hy | hy
  ·exact NdOk.more (h.nds y hy) (by simp; omega)
  ·simp only [List.mem_singleton] at hy; subst hy; simpa using hx
 ·rcases List.mem_append.1 hy with hy | hy
  ·exact h.ks y hy
  ·simp only [List.mem_singleton] at hy; subst hy; exact hk
theorem nd_snoc {x : Nd} : nd (xs ++ [x]) xs.length = x := by rw [nd, List.getElem?_concat_length]; rfl
theorem ListAt.nilS (xs : List Nd) : ListAt (xs ++ [nilN]) xs.length [] := .nil (by simp) (by rw [nd_snoc]; rfl)
theorem ListAt.consS {at_ r : Nat} {g : List Nd × Nat} {gs : List (List Nd × Nat)} (hc : Closed xs) (h : ListAt xs at_ gs) (hr : r < xs.length) (e : Eqv xs g.1 r g.2) : ListAt (xs ++ [consN r at_]) xs.length (g :: gs) := by
 have k0 : kid (xs ++ [consN r at_]) xs.length 0 = r := by rw [kid, nd_snoc]; simp [consN]
 have k1 : kid (xs ++ [consN r at_]) xs.length 1 = at_ := by rw [kid, nd_snoc]; simp [consN]
 refine .cons (by simp) (by rw [nd_snoc]; rfl) ?_ ?_
 ·rw [k0]; exact (eqv_behind hc _ hr).symm.trans e
 ·rw [k1]; exact h.behind hc _
theorem ListAt.uniq {G : List Nd} {i : Nat} {gs : List (List Nd × Nat)} (h : ListAt G i gs) : ∀ {hs : List (List Nd × Nat)}, ListAt G i hs → ∀ (j : Nat) g g', gs[j]? = some g → hs[j]? = some g' → Eqv g.1 g'.1 g.2 g'.2 := by
 induction h with
 | nil _ h1 => intro hs _ j g g' e; simp at e
 | @cons i g0 gs _ h1 h2 h3 ih =>
  intro hs k j g g' e e'
  cases k with
  | nil _ k1 => exact absurd (k1.symm.trans h1) nil_cons
  | @cons _ g0' hs _ k1 k2 k3 =>
   match j, e, e' with
   | 0, e, e' => cases e; cases e'; exact h2.symm.trans k2
   | j + 1, e, e' => exact ih k3 j g g' (by simpa using e) (by simpa using e')
structure Rts (xs : List Nd) (gs : List (List Nd × Nat)) (rs : List Int) : Prop where
 len : rs.length = gs.length
 at_ : ∀ (j : Nat) (g : List Nd × Nat) (r : Int), gs[j]? = some g → rs[j]? = some r → ∃ n : Nat, r = n ∧ n < xs.length ∧ Eqv xs g.1 n g.2
theorem Rts.nil (xs : List Nd) : Rts xs [] [] := ⟨rfl, fun j g r e => by simp at e⟩
theorem Rts.behind {gs : List (List Nd × Nat)} {rs : List Int} (h : Rts xs gs rs) (hc : Closed xs) (t : List Nd) : Rts (xs ++ t) gs rs := ⟨h.len, fun j g r e1 e2 => by
 obtain ⟨n, rfl, h1, h2⟩ := h.at_ j g r e1 e2
 exact ⟨n, rfl, by simp; omega, (eqv_behind hc t h1).symm.trans h2⟩⟩
theorem Rts.snoc {gs : List (List Nd × Nat)} {rs : List Int} (h : Rts xs gs rs) (hc : Closed xs) (hy : Closed ys) (hp : 0 < ys.length) {g : List Nd × Nat} (e : Eqv ys g.1 0 g.2) : Rts (app xs ys) (gs ++ [g]) (rs ++ [(xs.length : Int) + 0]) := by
 refine ⟨by simp [h.len], fun j g' r e1 e2 => ?_⟩
 rcases Nat.lt_or_ge j gs.length with hj | hj
 ·rw [List.getElem?_append_left hj] at e1
  rw [List.getElem?_append_left (by rw [h.len]; exact hj)] at e2
  exact (h.behind hc _).at_ j g' r e1 e2
 ·have : j = gs.length := by have := (List.getElem?_eq_some_iff.1 e1).1; simp at this; omega
  subst this
  rw [List.getElem?_concat_length] at e1
  rw [← h.len, List.getElem?_concat_length] at e2
  cases e1; cases e2
  exact ⟨xs.length, by omega, by rw [app_len]; omega, (app_right (xs := xs) hy hp).symm.trans e⟩
end
theorem least_ksC {xs out : List Nd} {i : Nat} {m : Nat} (h : Least xs i out) (hc : Closed xs) (hi : i < xs.length) (hk : ∀ x ∈ xs, x.ks.length ≤ m) : ∀ x ∈ out, x.ks.length ≤ m := by
 obtain ⟨vs, d, G⟩ := h
 have hvV := d.lt hc (by simpa using hi) (by simp)
 intro x hx
 obtain ⟨q, hq, rfl⟩ := List.getElem_of_mem hx
 have hq' : q < vs.length := by rw [← G.len]; exact hq
 have hv := hvV _ (List.getElem_mem hq')
 have hh := G.hd q hq'
 rw [nd_get hq, nd_get hv] at hh
 rw [hd_len hh]
 exact hk _ (List.getElem_mem hv)
theorem least_ks {root : Int} {xs out : List Nd} {i : Nat} {m : Nat} (h : Least xs i out) (g : GrOk root xs 1000) (hi : i < xs.length) (hk : ∀ x ∈ xs, x.ks.length ≤ m) : ∀ x ∈ out, x.ks.length ≤ m := least_ksC h g.closed hi hk
def grL (gs : List (Int × List Nd)) : List (List Nd × Nat) := gs.map fun g => (g.2, g.1.toNat)
theorem grL_len (gs : List (Int × List Nd)) : (grL gs).length = gs.length := by simp [grL]
theorem grL_get {gs : List (Int × List Nd)} {j : Nat} (h : j < gs.length) : (grL gs)[j]? = some (gs[j].2, gs[j].1.toNat) := by simp [grL, h]
def LsP (gs : List (Int × List Nd)) (e : Int) (out : List Nd) : Prop :=
 ((¬ ∀ g ∈ gs, GrOk g.1 g.2 1000) ∧ e = 50 ∧ out = []) ∨
 ((∀ g ∈ gs, GrOk g.1 g.2 1000) ∧ ∃ G at_ o, Big G ∧ G.length ≤ 1000000 ∧ ListAt G at_ (grL gs) ∧ Least G at_ o ∧ ((1000 < o.length ∧ e = 4 ∧ out = []) ∨ (o.length ≤ 1000 ∧ e = 0 ∧ out = o)))
theorem LsP.uniq {gs : List (Int × List Nd)} {e e' : Int} {out out' : List Nd} (h : LsP gs e out) (k : LsP gs e' out') : e = e' ∧ out = out' := by
 rcases h with ⟨n, rfl, rfl⟩ | ⟨a, G, i, o, _, _, hL, ho, hc⟩ <;> rcases k with ⟨n', rfl, rfl⟩ | ⟨a', G', i', o', _, _, hL', ho', hc'⟩
 ·exact ⟨rfl, rfl⟩
 ·exact absurd a' n
 ·exact absurd a n'
 ·have e : o = o' := Least.uniq ho ho' (hL.eqv hL')
  subst e
  rcases hc with ⟨h1, rfl, rfl⟩ | ⟨h1, rfl, rfl⟩ <;> rcases hc' with ⟨h2, rfl, rfl⟩ | ⟨h2, rfl, rfl⟩
  ·exact ⟨rfl, rfl⟩
  ·omega
  ·omega
  ·exact ⟨rfl, rfl⟩
/-! ### What is read out of a list -/
section
variable {xs : List Nd} {i : Nat}
theorem cons_hd {x : Nd} {n : Int} (h : NdOk x n) (hc : isConsD x = true) : x.hd = consH := by
 simp only [isConsD, Bool.and_eq_true, decide_eq_true_eq] at hc
 have hr := (NdOk.rec_iff (show x.kd = kRec from hc.1.1)).1 h
 have hl := hr.2.2.1
 rw [hc.2] at hl
 simp only [Nd.hd, consH, hc.1.1, hr.1, hc.1.2, hc.2, hl]; rfl
theorem nil_hd {x : Nd} {n : Int} (h : NdOk x n) (hc : isNilD x = true) : x.hd = nilH := by
 simp only [isNilD, Bool.and_eq_true, decide_eq_true_eq] at hc
 have hr := (NdOk.rec_iff (show x.kd = kRec from hc.1.1)).1 h
 have hl := hr.2.2.1
 rw [hc.2] at hl
 simp only [Nd.hd, nilH, hc.1.1, hr.1, hc.1.2, hc.2, hl]; rfl
def itemsL (xs : List Nd) (i k : Nat) : List (List Nd × Nat) := (List.range k).map fun j => (xs, kid xs (tl xs i j) 0)
theorem tl_tl {j m : Nat} : tl xs (tl xs i j) m = tl xs i (j + m) := by
 induction m with
 | zero => rfl
 | succ m ih => rw [tl, ih]; rfl
theorem itemsL_succ {k : Nat} : itemsL xs i (k + 1) = (xs, kid xs i 0) :: itemsL xs (kid xs i 1) k := by
 unfold itemsL
 rw [List.range_succ_eq_map, List.map_cons, List.map_map]
 congr 1
 refine List.map_congr_left fun j _ => ?_
 have := tl_tl (xs := xs) (i := i) (j := 1) (m := j)
 simp only [Function.comp]
 rw [show j.succ = 1 + j by omega, ← this]; rfl
theorem listAt_of (hb : ∀ x ∈ xs, NdOk x xs.length) : ∀ {k i : Nat}, (∀ j, j ≤ k → tl xs i j < xs.length) → (∀ j, j < k → isConsD (nd xs (tl xs i j)) = true) → isNilD (nd xs (tl xs i k)) = true → ListAt xs i (itemsL xs i k)
 | 0, i, hl, _, hn => by
  have h0 : i < xs.length := hl 0 (by omega)
  exact .nil h0 (nil_hd (by rw [nd_get h0]; exact hb _ (List.getElem_mem h0)) hn)
 | k + 1, i, hl, hc, hn => by
  have h0 : i < xs.length := hl 0 (by omega)
  have sh : ∀ j, tl xs (kid xs i 1) j = tl xs i (j + 1) := fun j => by
   have := tl_tl (xs := xs) (i := i) (j := 1) (m := j)
   rw [show j + 1 = 1 + j by omega, ← this]; rfl
  rw [itemsL_succ]
  refine .cons h0 (cons_hd (by rw [nd_get h0]; exact hb _ (List.getElem_mem h0)) (hc 0 (by omega))) (Eqv.refl _ _) ?_
  exact listAt_of hb (fun j hj => by rw [sh]; exact hl _ (by omega)) (fun j hj => by rw [sh]; exact hc _ (by omega)) (by rw [sh]; exact hn)
theorem listAt_not {gs : List (List Nd × Nat)} (h : ListAt xs i gs) {k : Nat} (hc : ∀ j, j < k → isConsD (nd xs (tl xs i j)) = true) (hn : isNilD (nd xs (tl xs i k)) = false) (he : isConsD (nd xs (tl xs i k)) = false ∨ ∃ j, j < k ∧ tl xs i k = tl xs i j) : False := by
 have hle : k ≤ gs.length := Classical.byContradiction fun hk => by
  have h2 := h.at_ gs.length (Nat.le_refl _)
  rw [List.drop_length] at h2
  have := h2.isNil
  rw [cons_nil (hc gs.length (by omega))] at this; cases this
 have h2 := h.at_ k hle
 rcases Nat.lt_or_ge k gs.length with hlt | hge
 ·rw [List.drop_eq_getElem_cons hlt] at h2
  rcases he with he | ⟨j, hj, e⟩
  ·rw [h2.isCons] at he; cases he
  ·have := h.apart k j hle (by omega) e; omega
 ·have : k = gs.length := by omega
  subst this
  rw [List.drop_length] at h2
  rw [h2.isNil] at hn; cases hn
theorem ListAt.short {gs : List (List Nd × Nat)} (h : ListAt xs i gs) : gs.length < xs.length := by
 have hn : ((List.range (gs.length + 1)).map (tl xs i)).Nodup := by
  rw [List.nodup_iff_pairwise_ne, List.pairwise_map]
  refine List.Pairwise.imp_of_mem ?_ (List.nodup_range (n := gs.length + 1))
  intro a b ha hb hab e
  exact hab (h.apart a b (by have := List.mem_range.1 ha; omega) (by have := List.mem_range.1 hb; omega) e)
 have := len_le_of_sub _ (List.range xs.length) hn fun x hx => by
  obtain ⟨j, hj, rfl⟩ := List.mem_map.1 hx
  exact List.mem_range.2 (h.at_ j (by have := List.mem_range.1 hj; omega)).lt
 simp at this; omega
end
end Go.Proofs.YtnmldggopnbclaaGreatDoor

namespace Go.Proofs.YtnmldggopnbclaaGreatDoor
open Go Go.V Go.Proofs Go.V.Gr
open Go.RowKit (Below)
def UF (own : OwnM Nat) (w : World) : World := cutW w fun k => (own k).isNone
section
variable {w0 w w' w'' : World} {own own' own'' : OwnM Nat}
theorem UF.now (own : OwnM Nat) (w : World) : Cel (UF own w) w := cutW_cel fun _ _ _ => rfl
theorem UF.fr (f : Fr own own' w w') : Cel (UF own w) (UF own' w') := by
 refine cutW_cel fun k hk hlt => ?_
 have hk : own k = none := by simpa using hk
 have h1 := f.block k hlt hk
 have h2 := f.free k hlt hk
 unfold UF
 rw [cutW_block, h1, h2]
 simp
theorem UF.fr' (f : Fr own own' w w') : Cel (UF own w) w' := (UF.fr f).trans (UF.now own' w')
theorem UF.mine (L : Mine own w0 w) : Cel w0 (UF own w) := fun p v hp => by
 have hlt := block_lt_of_cell hp
 unfold UF
 rw [cutW_cell (by rw [L.fr.free p.block hlt rfl]; rfl)]
 exact L.below.cell hp
def CelM {α : Type} (R : World → Cells → α → Prop) : Prop := ∀ (w w' : World) (f g : Nat → Option Value) (x : α), Cel w w' → (∀ j v, f j = some v → g j = some v) → R w f x → R w' g x
theorem rows_cel {α : Type} {sz : Nat} {R : World → Cells → α → Prop} (hR : CelM R) {a : Option Addr} {l : Nat} {xs : List α} (h : Go.V.Rows sz R w a l xs) (k : Cel w w') : Go.V.Rows sz R w' a l xs := by
 obtain ⟨h1, h2⟩ := h
 refine ⟨h1, h2.imp id ?_⟩
 rintro ⟨b, o, ha, hx⟩
 exact ⟨b, o, ha, fun i x hi => hR w w' _ _ x k (fun j v hv => k _ _ hv) (hx i x hi)⟩
theorem RL.cel {α : Type} {sz : Nat} {R : World → Cells → α → Prop} (hR : CelM R) {a : Option Addr} {l : Nat} {xs : List α} (h : RL sz R w a l xs) (k : Cel w w') : RL sz R w' a l xs := ⟨rows_cel hR h.1 k, h.2⟩
theorem RFt.celM : CelM RFt := fun _ _ _ _ _ _ h ⟨h0, h1, h2⟩ => ⟨h _ _ h0, h _ _ h1, h2⟩
theorem RInt.celM : CelM RInt := fun _ _ _ _ _ _ h h0 => h _ _ h0
theorem RNd.celM : CelM RNd := fun _ _ _ _ _ e h ⟨h0, h1, h2, h3, h4, ⟨a, l, c, h5, h6⟩, ⟨a', l', c', h7, h8⟩, h9⟩ =>
 ⟨h _ _ h0, h _ _ h1, h _ _ h2, h3, h4, ⟨a, l, c, h _ _ h5, RL.cel RFt.celM h6 e⟩, ⟨a', l', c', h _ _ h7, RL.cel RInt.celM h8 e⟩, h9⟩
def NU (own : OwnM Nat) (w : World) (s : SL) (xs : List Nd) : Prop := RNds (UF own w) s.1 s.2.1 xs
theorem NU.fr {s : SL} {xs : List Nd} (h : NU own w s xs) (f : Fr own own' w w') : NU own' w' s xs := RL.cel RNd.celM h (UF.fr f)
theorem NU.now {s : SL} {xs : List Nd} (h : NU own w s xs) : RNds w s.1 s.2.1 xs := RL.cel RNd.celM h (UF.now own w)
theorem NU.mine {a : Option Addr} {l : Nat} (c : Nat) {xs : List Nd} (h : RNds w0 a l xs) (L : Mine own w0 w) : NU own w (a, l, c) xs := RL.cel RNd.celM h (UF.mine L)
theorem NU.of_GD {s : SL} {out : List Nd} (h : GD w0 w s out) (ho : ∀ k, w0.heap.size ≤ k → own k = none) : NU own w s out := by
 obtain ⟨ownG, xs, vs, RW, K, h1, h2, h3⟩ := h
 refine h3 _ (h1.frame fun b hb hne => ?_)
 have hge : w0.heap.size ≤ b := Classical.byContradiction fun hn => hne (h2.fr.free b (by omega) rfl)
 unfold UF
 rw [cutW_block, ho b hge]
 simp
end
end Go.Proofs.YtnmldggopnbclaaGreatDoor

namespace Go.Proofs.YtnmldggopnbclaaGreatDoor
open Go Go.V Go.Proofs Go.V.Gr
open Go.RowKit (Below)
structure Kj (own own' : OwnM Nat) (w w' : World) : Prop where
 fr : Fr own own' w w'
 box : ∀ (b r : Nat), own b = some r → b < w.heap.size → 1 ≤ r → r ≤ 3 → own' b = some r ∧ w'.heap[b]? = w.heap[b]?
section
variable {w w' w'' : World} {own own' own'' : OwnM Nat}
theorem Kj.ext (x : Ext w w') : Kj own own w w' := ⟨Fr.of_ext _ x, fun b r h hb _ _ => ⟨h, x.block b hb⟩⟩
theorem Kj.upd {r : Nat} (u : Upd own own' r w w') (hr : r = 0 ∨ 4 ≤ r) : Kj own own' w w' :=
 ⟨u.fr, fun b r2 h hb h1 h2 => ⟨by rw [u.same b hb]; exact h, u.block b hb (by rw [h]; intro e; cases e; omega)⟩⟩
theorem Kj.trans (h : Kj own own' w w') (k : Kj own' own'' w' w'') : Kj own own'' w w'' :=
 ⟨h.fr.trans k.fr, fun b r e hb h1 h2 => by
  obtain ⟨e1, e2⟩ := h.box b r e hb h1 h2
  obtain ⟨e3, e4⟩ := k.box b r e1 (Nat.lt_of_lt_of_le hb h.fr.size) h1 h2
  exact ⟨e3, e4.trans e2⟩⟩
theorem RowR.kj {α : Type} {r : Nat} {e : TypeId} {sz : Nat} {enc : α → List Value} {s : SL} {xs : List α} (h : RowR own r e sz enc w s xs) (k : Kj own own' w w') (h1 : 1 ≤ r) (h2 : r ≤ 3) : RowR own' r e sz enc w' s xs :=
 ⟨h.1.kept fun b hb => (k.box b r (h.2 b hb) (h.1.lt b hb).2 h1 h2).2, fun b hb => (k.box b r (h.2 b hb) (h.1.lt b hb).2 h1 h2).1⟩
theorem Bx.kj {r b t : Nat} {cs : Array Value} (h : Bx own r w b cs t) (k : Kj own own' w w') (h1 : 1 ≤ r) (h2 : r ≤ 3) : Bx own' r w' b cs t := by
 obtain ⟨e1, e2⟩ := k.box b r h.own h.blk.lt h1 h2
 exact ⟨e2.trans h.blk, e1⟩
end
structure JU (w0 w : World) (own : OwnM Nat) (xs : List Nd) (RW : List Rw) (s : SL) : Prop where
 loc : Mine own w0 w
 out : RowR own 0 39 5 eN w s RW
 len : RW.length = xs.length
 nds : ∀ (q : Nat) (r : Rw) (x : Nd), RW[q]? = some r → xs[q]? = some x → r.kd = x.kd ∧ r.n = x.n ∧ r.tx = x.tx ∧ x.kd.size ≤ maxLen ∧ x.tx.size ≤ maxLen ∧ (Lit.int .i64 x.n).wf = true ∧
  RL 2 RFt (UF own w) r.sf.1 r.sf.2.1 x.fs ∧ RowR own (10 + q) 3 1 eI w r.sk x.ks ∧ x.ks.length ≤ maxLen
section
variable {w0 w w' : World} {own own' : OwnM Nat} {xs : List Nd} {RW : List Rw} {s : SL}
theorem JU.ext (h : JU w0 w own xs RW s) (x : Ext w w') : JU w0 w' own xs RW s := ⟨h.loc.ext x, h.out.ext x, h.len, fun q r y e1 e2 => by
 obtain ⟨f1, f2, f3, f4, f5, f6, f7, f8, f9⟩ := h.nds q r y e1 e2
 exact ⟨f1, f2, f3, f4, f5, f6, RL.cel RFt.celM f7 (UF.fr (Fr.of_ext own x)), f8.ext x, f9⟩⟩
theorem JU.upd {r : Nat} (h : JU w0 w own xs RW s) (u : Upd own own' r w w') (h0 : r ≠ 0) (h1 : ∀ q, q < xs.length → r ≠ 10 + q) : JU w0 w' own' xs RW s := ⟨h.loc.upd u, h.out.upd u (fun e => h0 e.symm), h.len, fun q r' y e1 e2 => by
 obtain ⟨f1, f2, f3, f4, f5, f6, f7, f8, f9⟩ := h.nds q r' y e1 e2
 exact ⟨f1, f2, f3, f4, f5, f6, RL.cel RFt.celM f7 (UF.fr u.fr), f8.upd u (fun e => h1 q (List.getElem?_eq_some_iff.1 e2).1 e.symm), f9⟩⟩
theorem JU.rows (h : JU w0 w own xs RW s) (hm : xs.length ≤ maxLen) : RNds w s.1 s.2.1 xs := by
 refine ⟨h.out.1.rows eN_len RNd h.len.symm fun f q r y hr hy hf => ?_, by rw [h.out.len, h.len]; exact hm⟩
 obtain ⟨f1, f2, f3, f4, f5, f6, f7, f8, f9⟩ := h.nds q r y hr hy
 refine ⟨by rw [hf 0 (by omega), ← f1]; rfl, by rw [hf 1 (by omega), ← f2]; rfl, by rw [hf 2 (by omega), ← f3]; rfl, f4, f5, ⟨_, _, _, by rw [hf 3 (by omega)]; rfl, RL.cel RFt.celM f7 (UF.now own w)⟩, ⟨_, _, _, by rw [hf 4 (by omega)]; rfl, OwnR.ints f8.1, ?_⟩, f6⟩
 rw [f8.len]; exact f9
theorem JU.more {s' : SL} {r : Rw} {x : Nd} (h : JU w0 w own xs RW s) (h1 : r.kd = x.kd) (h2 : r.n = x.n) (h3 : r.tx = x.tx) (h4 : x.kd.size ≤ maxLen) (h5 : x.tx.size ≤ maxLen) (h6 : (Lit.int .i64 x.n).wf = true) (h7 : RL 2 RFt (UF own w) r.sf.1 r.sf.2.1 x.fs)
  (h8 : RowR own (10 + xs.length) 3 1 eI w r.sk x.ks) (h9 : x.ks.length ≤ maxLen) (u : Upd own own' 0 w w') (ho : RowR own' 0 39 5 eN w' s' (RW ++ [r])) : JU w0 w' own' (xs ++ [x]) (RW ++ [r]) s' := by
 refine ⟨h.loc.upd u, ho, by simp [h.len], fun q r2 y e1 e2 => ?_⟩
 rcases Nat.lt_or_ge q xs.length with hq | hq
 ·rw [List.getElem?_append_left (by rw [h.len]; exact hq)] at e1
  rw [List.getElem?_append_left hq] at e2
  obtain ⟨f1, f2, f3, f4, f5, f6, f7, f8, f9⟩ := h.nds q r2 y e1 e2
  exact ⟨f1, f2, f3, f4, f5, f6, RL.cel RFt.celM f7 (UF.fr u.fr), f8.upd u (by omega), f9⟩
 ·have hq2 : q = xs.length := by have := (List.getElem?_eq_some_iff.1 e2).1; simp at this; omega
  subst hq2
  rw [← h.len, List.getElem?_concat_length] at e1
  rw [List.getElem?_concat_length] at e2
  cases e1; cases e2
  exact ⟨h1, h2, h3, h4, h5, h6, RL.cel RFt.celM h7 (UF.fr u.fr), h8.upd u (by omega), h9⟩
end
set_option maxRecDepth 100000 in
theorem u17 {w0 w : World} {own : OwnM Nat} {xs ys : List Nd} {RW : List Rw} {s : SL} (root : Int) {a3 : Option Addr} {l3 c3 : Nat} (h : JU w0 w own xs RW s) (hy : NU own w (a3, l3, c3) ys) (hz : Sz ys) (hxl : xs.length ≤ 1000000) (hc : Closed ys) (hr : 0 ≤ root ∧ root ≤ 1000000) :
  Calls Tryz.prog 17 #[.slice s.1 s.2.1 s.2.2, .agg #[.int .i64 root, .slice a3 l3 c3]] w fun en w' => ∃ a l c x, en = .returned (.tuple #[.slice a l c, .int .i64 x]) ∧
   (x = (xs.length : Int) + root ∧ ∃ own' RW', JU w0 w' own' (app xs ys) RW' (a, l, c) ∧ Kj own own' w w') := by
 refine calls17 _ _ _ _ _ _ _ _ w ?_
 have hn := hz.len
 have hl3 : l3 = ys.length := hy.len
 have hs1 : s.2.1 = xs.length := by rw [h.out.len, h.len]
 refine AllocK.mk fun b4 w5 hb4 hB4 x5 => ?_
 have h5 := h.ext x5
 have u4 : Ub own w5 b4 _ _ := ⟨hB4, h.loc.top b4 (by omega)⟩
 refine ⟨_, _, _, (blkAt2 hB4).2.1, ?_⟩
 refine ⟨fun a l c i w' => ∃ (k : Nat) (own' : OwnM Nat) (RW' : List Rw), i = k ∧ k ≤ ys.length ∧ JU w0 w' own' (xs ++ (ys.take k).map (shift xs.length)) RW' (a, l, c) ∧ Ub own' w' b4 #[.int .i64 root, .slice a3 l3 c3] 25 ∧ Kj own own' w w', fun _ _ _ i _ => ys.length - i.toNat, ⟨⟨0, own, RW, rfl, by omega, by simpa using h5, u4, Kj.ext x5⟩, trivial⟩, ?_⟩
 rintro w9 a10 l10 c10 _ ⟨k, own1, RW1, rfl, hk, J, u4, F9⟩
 refine BoolK.mk (fun t => ?_) (fun t => ?_)
 ·have hlt : k < ys.length := by have := of_decide_eq_true t; omega
  have hym := List.getElem_mem hlt
  have hks := hz.ks _ hym
  obtain ⟨b12, ha, n0, n1, n2, n3, n4, ⟨a16, l16, c16, n5, n6⟩, ⟨a17, l17, c17, n7, n8⟩, nw⟩ := ndAt hy (Ext.refl _) hlt
  have y9 := UF.fr' F9.fr
  have e17 := n8.len
  refine ⟨⟨by omega, by omega⟩, adK ha ⟨_, y9 _ _ n0, _, y9 _ _ n1, _, y9 _ _ n2, _, _, _, y9 _ _ n5, _, _, _, y9 _ _ n7, ?_⟩⟩
  refine local5 fun b18 w24 hb18 hB18 x24 => ?_
  have u18 : Upd own1 (setOwn own1 (some b18) 5) 5 w9 w24 := Upd.fresh x24 (by omega) hB18.lt _
  have bx18 : Bx (setOwn own1 (some b18) 5) 5 w24 b18 _ _ := ⟨hB18, by unfold setOwn; rw [if_pos rfl]⟩
  have J := J.upd u18 (by decide) (fun q _ => by omega)
  have u4 := u4.fr u18.fr
  have F24 := F9.trans (Kj.upd u18 (by decide))
  generalize setOwn own1 (some b18) 5 = own2 at J u4 bx18 F24
  clear u18
  refine ⟨_, _, _, (blkAt5 bx18.blk (Ext.refl w24)).2.2.2.2, ⟨by omega, by omega, by omega, by omega⟩, ?_⟩
  rw [Int.toNat_natCast]
  have hxk : (xs ++ (ys.take k).map (shift xs.length)).length = xs.length + k := by simp; omega
  refine RowR.make (x := (0 : Int)) (enc := eI) rfl (by simp only [maxLen]; omega) own2 (10 + (xs.length + k)) fun b26 w27 r26 u26 x27 hb26 => ?_
  have J := J.upd u26 (by omega) (fun q hq => by omega)
  have u4 := u4.fr u26.fr
  have bx18 := bx18.upd u26 (by omega)
  have F27 := F24.trans (Kj.upd u26 (by omega))
  generalize setOwn own2 (some b26) (10 + (xs.length + k)) = own3 at J u4 bx18 r26 F27
  clear u26
  refine ⟨_, _, _, (blkAt5 bx18.blk (Ext.refl w27)).2.2.2.2, ?_⟩
  refine ⟨fun i w' => ∃ (m : Nat) (kk : List Int), i = m ∧ m ≤ l17 ∧ JU w0 w' own3 (xs ++ (ys.take k).map (shift xs.length)) RW1 (a10, l10, c10) ∧ Ub own3 w' b4 #[.int .i64 root, .slice a3 l3 c3] 25 ∧ Bx own3 5 w' b18 #[.string ys[k].kd, .int .i64 ys[k].n, .string ys[k].tx, .slice a16 l16 c16, .slice a17 l17 c17] 39 ∧
    RowR own3 (10 + (xs.length + k)) 3 1 eI w' (some ⟨b26, 0, none⟩, l17, l17) kk ∧ kk.length = l17 ∧ Kj own own3 w w' ∧ ∀ j, j < m → kk[j]? = (ys[k].ks[j]?).map fun v => (xs.length : Int) + v, fun i _ => l17 - i.toNat,
   ⟨⟨0, _, rfl, by omega, J, u4, bx18, r26, by simp, F27, fun j hj => by omega⟩, trivial⟩, ?_⟩
  clear J u4 bx18 r26 F27
  rintro w31 _ ⟨m, kk, rfl, hm, J, u4, bx18, rk, hkl, F31, hkk⟩
  refine BoolK.mk (fun t => ?_) (fun t => ?_)
  ·have hmlt : m < l17 := by have := of_decide_eq_true t; omega
   have hmk : m < ys[k].ks.length := by omega
   obtain ⟨b33, ha2, q0⟩ := ksAt (RL.cel RInt.celM n8 (UF.fr' F31.fr)) (Ext.refl _) hmk
   have hkb := hc _ hym _ (List.getElem_mem hmk)
   refine ⟨⟨by omega, by omega⟩, adK ha2 ⟨_, q0, ⟨by omega, by omega⟩, ?_⟩⟩
   rw [hs1, wrap_id (x := (xs.length : Nat) + ys[k].ks[m]) (by omega) (by omega), wrap_succ (by omega)]
   refine RowR.seti rk (by omega) _ fun w35 rk' u35 => ?_
   refine ⟨⟨m + 1, _, rfl, by omega, J.upd u35 (by omega) (fun q hq => by omega), u4.fr u35.fr, bx18.upd u35 (by omega), rk', by simpa using hkl, F31.trans (Kj.upd u35 (by omega)), fun j hj => ?_⟩, by simp; omega⟩
   rw [List.getElem?_set]
   by_cases e : m = j
   ·subst e
    rw [if_pos rfl, if_pos (by omega), List.getElem?_eq_getElem hmk]; rfl
   ·rw [if_neg e]; exact hkk j (by omega)
  ·have hml : m = l17 := by have := of_decide_eq_false t; omega
   subst hml
   have hks2 : kk = (shift xs.length ys[k]).ks := by
    apply List.ext_getElem?
    intro j
    rw [shift, List.getElem?_map]
    rcases Nat.lt_or_ge j m with hj | hj
    ·exact hkk j hj
    ·rw [List.getElem?_eq_none (by omega), List.getElem?_eq_none (by omega)]; rfl
   subst hks2
   refine Bx.setA bx18 (by simp) fun w36 bx36 u36 => ?_
   have J := J.upd u36 (by omega) (fun q _ => by omega)
   have u4 := u4.fr u36.fr
   have rk := rk.upd u36 (by omega)
   obtain ⟨f0, f1, f2, f3, f4⟩ := blkAt5 (v0 := .string ys[k].kd) (v1 := .int .i64 ys[k].n) (v2 := .string ys[k].tx) (v3 := .slice a16 l16 c16) (v4 := .slice (some ⟨b26, 0, none⟩) m m) (by simpa using bx36.blk) (Ext.refl w36)
   refine ⟨_, by simpa [add_mk] using f0, _, f1, _, f2, _, _, _, f3, _, _, _, f4, ?_⟩
   refine RowR.push (⟨ys[k].kd, ys[k].n, ys[k].tx, (a16, l16, c16), (some ⟨b26, 0, none⟩, m, m)⟩ : Rw) sltN J.out eN_len eN_one (by rw [J.len, hxk]; omega) rfl fun s' w45 ro uo => ?_
   rw [wrap_succ (by omega)]
   have ht : xs ++ (ys.take (k + 1)).map (shift xs.length) = (xs ++ (ys.take k).map (shift xs.length)) ++ [shift xs.length ys[k]] := by
    rw [List.take_add_one, List.getElem?_eq_getElem hlt, List.map_append]; simp
   have J2 := J.more (x := shift xs.length ys[k]) rfl rfl rfl n3 n4 nw (RL.cel RFt.celM n6 (UF.fr (F31.trans (Kj.upd u36 (by decide))).fr)) (by rw [hxk]; exact rk) (by simp [shift, maxLen]; omega) uo ro
   rw [← ht] at J2
   exact ⟨⟨k + 1, _, _, rfl, by omega, J2, u4.fr uo.fr, (F31.trans (Kj.upd u36 (by decide))).trans (Kj.upd uo (by decide))⟩, by simp; omega⟩
 ·have hkl : k = ys.length := by have := of_decide_eq_false t; omega
  subst hkl
  rw [List.take_length] at J
  refine DrewK.mk fun w46 x46 => ⟨_, (blkAt2 (u4.blk.ext x46)).2.2, ?_⟩
  rw [hs1, wrap_id (by omega) (by omega)]
  exact ⟨rfl, own1, RW1, J.ext x46, F9.trans (Kj.ext x46)⟩
end Go.Proofs.YtnmldggopnbclaaGreatDoor
