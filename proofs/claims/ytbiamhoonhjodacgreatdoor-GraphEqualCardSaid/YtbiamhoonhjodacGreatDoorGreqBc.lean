/- A part of the proof: plain forms of functions and laws about them. -/
import Derived.Test.YtbiamhoonhjodacGreatDoorGreqBb
namespace Go.Proofs.YtbiamhoonhjodacGreatDoor
open Go Go.V Go.Proofs Go.V.Gr
open Go.RowKit (Below)
theorem rest_ord {n : Nat} {ord : List Nat} (h : ord.Nodup) (hl : ∀ i ∈ ord, i < n) : (restOf n ord).length + ord.length ≤ n := by
 have := len_le_of_sub (restOf n ord ++ ord) (List.range n) (List.nodup_append.2 ⟨rest_nodup n ord, h, fun a ha b hb e => by subst e; exact (rest_mem.1 ha).2 hb⟩) fun x hx => by
  rcases List.mem_append.1 hx with hx | hx
  ·exact List.mem_range.2 (rest_mem.1 hx).1
  ·exact List.mem_range.2 (hl x hx)
 simpa using this
def zr (b n : Nat) (w : World) : Nat := (List.range n).countP fun i => match w.cell? ((⟨b, 0, none⟩ : Addr).add (((i : Nat) : Int).toNat * 1)) with | some (.int _ x) => x == 0 | _ => false
theorem zr_eq {ρ : Type} {own : OwnM ρ} {r : ρ} {w : World} {e : TypeId} {b n c : Nat} {xs : List Int} (h : RowR own r e 1 eI w (some ⟨b, 0, none⟩, n, c) xs) : zr b n w = (List.range n).countP fun i => ga xs i == 0 := by
 have hl : n = xs.length := h.len
 refine List.countP_congr fun i hi => ?_
 rw [RowR.geti h (by rw [← hl]; exact List.mem_range.1 hi)]
theorem countP_lt {n x : Nat} {p q : Nat → Bool} (hx : x < n) (h1 : p x = true) (h2 : q x = false) (h : ∀ i, i ≠ x → q i = p i) : (List.range n).countP q < (List.range n).countP p := by
 induction n with
 | zero => omega
 | succ n ih =>
  rw [List.range_succ, List.countP_append, List.countP_append, List.countP_singleton, List.countP_singleton]
  by_cases e : x = n
  ·subst e
   rw [h1, h2]
   have : (List.range x).countP q = (List.range x).countP p := List.countP_congr fun i hi => by rw [h i (by have := List.mem_range.1 hi; omega)]
   simp; omega
  ·rw [h n (fun e2 => e e2.symm)]
   have := ih (by omega)
   omega
structure P1 (w0 w : World) (own : OwnM Nat) (n b2 bm : Nat) (T : List ByteArray) (cl : List Int) : Prop where
 loc : Mine own w0 w
 cl : RowR own 0 3 1 eI w (some ⟨b2, 0, none⟩, n, n) cl
 mx : Mx own 1 eStr w bm T 1
section
variable {w0 w w' : World} {own own' : OwnM Nat} {n b2 bm : Nat} {cl : List Int} {T : List ByteArray}
theorem P1.ext (h : P1 w0 w own n b2 bm T cl) (x : Ext w w') : P1 w0 w' own n b2 bm T cl := ⟨h.loc.ext x, h.cl.ext x, h.mx.ext x⟩
theorem P1.cll (h : P1 w0 w own n b2 bm T cl) : cl.length = n := h.cl.len.symm
theorem P1.ints (h : P1 w0 w own n b2 bm T cl) : Ints w (some ⟨b2, 0, none⟩) n cl := OwnR.ints h.cl.1
end
theorem kids_key {xs : List Nd} {cl : List Int} {i : Nat} (hi : i < xs.length) : keyD xs[i] (xs[i].ks.map fun k => ga cl k.toNat) = keyC xs (ga cl) i := by
 rw [keyC, nd_get hi]; congr 1
 rw [kc, Gr.kids, nd_get hi, List.map_map]; rfl
theorem NdOk.d {x : Nd} {n : Int} (h : NdOk x n) (hl : x.fs.length ≤ 1000000) : DOk x ∧ ZOk x := by
 have hw := h.w hl
 have nz : ∀ {s : ByteArray}, prS s → NoZ s := fun {s} hs c hc e => by
  have := List.all_eq_true.1 hs.1 c hc
  subst e; revert this; decide
 have hk : x.kd = kInt ∨ x.kd = kVar ∨ x.kd = kRef ∨ x.kd = kRec := by
  rcases h with h | h | h | h
  ·exact .inl h.1
  ·exact .inr (.inl h.1)
  ·exact .inr (.inr (.inl h.1))
  ·exact .inr (.inr (.inr h.1))
 have hn : -999999999999999999 ≤ x.n := by
  rcases h with h | h | h | h
  ·exact h.2.2.2.2.1
  ·have := h.2.2.2.2.1; omega
  ·have := h.2.2.2.2.1; omega
  ·have := h.2.1; omega
 have hf : ∀ f ∈ x.fs, 0 ≤ f.1 := fun f hf => by
  rcases h with h | h | h | h
  ·rw [h.2.2.1] at hf; cases hf
  ·rw [h.2.2.1] at hf; cases hf
  ·rw [h.2.2.1] at hf; cases hf
  ·obtain ⟨i, hi⟩ := List.getElem?_of_mem hf
   have := (h.2.2.2.2.1 i f hi).1
   unfold featD at this
   split at this
   ·have := of_decide_eq_true this; omega
   ·omega
 refine ⟨⟨hw.hd, by omega, fun f hff => by have := hf f hff; omega, h.lens⟩, ⟨?_, nz hw.hd.tx, fun f hff => nz (hw.hd.fs f hff).1, h.lens⟩⟩
 rcases hk with e | e | e | e <;> rw [e] <;> unfold NoZ <;> decide
set_option maxRecDepth 100000 in
theorem ctr27 (w : World) {a1 : Option Addr} {l1 : Nat} (c1 : Nat) {xs : List Nd} (h : RNds w a1 l1 xs) (hc : Closed xs) (hz : Sz xs) (hw : ∀ x ∈ xs, DOk x ∧ ZOk x) :
  Calls Tryz.prog 27 #[.slice a1 l1 c1] w fun en w' => ∃ a l c, en = .returned (.slice a l c) ∧
   (∃ cl : List Int, Cls xs cl ∧ (∀ v ∈ cl, 1 ≤ v ∧ v ≤ xs.length) ∧ Ints w' a l cl ∧ Ext w w') := by
 refine calls27 _ _ _ _ w ?_
 have hn := hz.len
 have hZ : ∀ x ∈ xs, ZOk x := fun x hx => (hw x hx).2
 obtain rfl : l1 = xs.length := h.len
 have hin : ∀ {i : Nat} (hi : i < xs.length), ∀ k ∈ xs[i].ks, 0 ≤ k ∧ k < xs.length := fun hi => hc _ (List.getElem_mem hi)
 simp only [N27, Int.toNat_natCast]
 refine ⟨⟨by omega, by omega, by omega, by omega⟩, RowR.make (x := (0 : Int)) (enc := eI) rfl (by simp only [maxLen]; omega) (fun _ => (none : Option Nat)) 0 fun b2 w3 r2 u2 x3 hb2 => ?_⟩
 obtain ⟨w5, bm, q5, mx5, u5, x5⟩ := Mx.new (P := Tryz.prog) (t := 61) eStr w3 1 (setOwn (fun _ => (none : Option Nat)) (some b2) 0) 1
 have p5 : P1 w w5 _ xs.length b2 bm [] (List.replicate xs.length 0) := ⟨((Mine.refl w).upd u2).upd u5, r2.upd u5 (by decide), mx5⟩
 refine ⟨some bm, w5, q5, ?_⟩
 refine ⟨fun p w' => ∃ (own : OwnM Nat) (T : List ByteArray) (cl : List Int) (ord : List Nat), P1 w w' own xs.length b2 bm T cl ∧ Num1 xs T cl ord ∧ (p = false → ∀ i, i < xs.length → ga cl i = 0 → ∃ k ∈ Gr.kids xs i, ga cl k = 0),
  fun p w' => 2 * zr b2 xs.length w' + (if p then 1 else 0), ⟨⟨_, _, _, _, p5, Num1.start, fun e => by cases e⟩, trivial⟩, ?_⟩
 clear p5 mx5 u5 q5 x5 r2 u2 x3
 rintro w8 p9 ⟨own, T, cl, ord, st, nu, hfu⟩
 refine BoolK.mk (fun t9 => ?_) (fun t9 => ?_)
 ·subst t9
  have wm : IntKind.wrap .i64 (((xs.length : Nat) : Int) - 1) = ((xs.length : Nat) : Int) - 1 := wrap_id (by omega) (by omega)
  refine ⟨fun p x w' => ∃ (k : Nat) (own : OwnM Nat) (T : List ByteArray) (cl : List Int) (ord : List Nat), x = (k : Int) - 1 ∧ k ≤ xs.length ∧ P1 w w' own xs.length b2 bm T cl ∧ Num1 xs T cl ord ∧ zr b2 xs.length w' ≤ zr b2 xs.length w8 ∧ (p = true → zr b2 xs.length w' < zr b2 xs.length w8) ∧
    (p = false → ∀ i, k ≤ i → i < xs.length → ga cl i = 0 → ∃ k ∈ Gr.kids xs i, ga cl k = 0), fun _ x _ => (x + 1).toNat, ⟨⟨xs.length, own, T, cl, ord, wm, Nat.le_refl _, st, nu, Nat.le_refl _, fun e => (by cases e), fun _ i h1 h2 => by omega⟩, trivial⟩, ?_⟩
  clear st nu hfu
  rintro w12 p13 _ ⟨k, own, T, cl, ord, rfl, hk, st, nu, z1, z2, hfu⟩
  refine BoolK.mk (fun t => ?_) (fun t => ?_)
  ·have t := of_decide_eq_true t
   obtain ⟨i, rfl⟩ : ∃ i, k = i + 1 := ⟨k - 1, by omega⟩
   have hlt : i < xs.length := by omega
   rw [show ((i + 1 : Nat) : Int) - 1 = (i : Int) by omega]
   have wp : IntKind.wrap .i64 ((i : Int) - 1) = (i : Int) - 1 := wrap_id (by omega) (by omega)
   rw [wp]
   have m1 : ((i : Int) - 1 + 1).toNat < ((i : Int) + 1).toNat := by omega
   refine ⟨⟨by omega, by omega⟩, _, RowR.geti st.cl (by rw [st.cll]; exact hlt), BoolK.mk (fun t1 => ?_) (fun t1 => ?_)⟩
   ·have t1 := of_decide_eq_true t1
    refine ⟨⟨i, own, T, cl, ord, rfl, by omega, st, nu, z1, z2, fun e j h1 h2 h0 => ?_⟩, m1⟩
    rcases Nat.lt_or_ge i j with h3 | h3
    ·exact hfu e j (by omega) h2 h0
    ·have : j = i := by omega
     subst this; omega
   have t1 := of_decide_eq_false t1
   have hcb := ga_mem (P := fun c => 0 ≤ c) (by omega) (fun c hc => (nu.b c hc).1) i
   have hci : ga cl i = 0 := by omega
   have y12 := st.loc.below
   obtain ⟨b16, ha, h0, h1, h2, _, _, ⟨a3, l3, c3, h5, h6⟩, ⟨a4, l4, c4, h7, h8⟩, _⟩ := ndAt h y12 hlt
   refine ⟨⟨by omega, by omega⟩, adK ha ⟨_, h0, _, h1, _, h2, _, _, _, h5, _, _, _, h7, ?_⟩⟩
   refine (ctr49 xs[i] c3 c4 xs.length h8 st.ints (fun k hk => by rw [st.cll]; exact hin hlt k hk)).mono ?_
   rintro en w23 ⟨p22, rfl, hp22, x23⟩
   have zr12 := zr_eq st.cl
   have st := st.ext x23
   refine ⟨_, rfl, BoolK.mk (fun t2 => ?_) (fun t2 => ?_)⟩
   ·refine ⟨⟨i, own, T, cl, ord, rfl, by omega, st, nu, by rw [zr_eq st.cl, ← zr12]; exact z1, fun e => by rw [zr_eq st.cl, ← zr12]; exact z2 e, fun e j h1 h2 h0 => ?_⟩, m1⟩
    rcases Nat.lt_or_ge i j with h3 | h3
    ·exact hfu e j (by omega) h2 h0
    ·have : j = i := by omega
     subst this
     have hnot : ¬ ∀ k ∈ xs[j].ks, ga cl k.toNat ≠ 0 := fun h => by rw [hp22.2 h] at t2; cases t2
     simp only [Classical.not_forall] at hnot
     obtain ⟨k, hk, e0⟩ := hnot
     exact ⟨k.toNat, List.mem_map.2 ⟨k, by rw [nd_get hlt]; exact hk, rfl⟩, Classical.not_not.1 e0⟩
   have hready := hp22.1 (by simpa using t2)
   have hr' : ∀ k ∈ Gr.kids xs i, ga cl k ≠ 0 := fun k hk => by
    obtain ⟨k', hk', rfl⟩ := List.mem_map.1 hk
    rw [nd_get hlt] at hk'; exact hready k' hk'
   have y23 := st.loc.below
   obtain ⟨b16, ha, h0, h1, h2, _, _, ⟨a3, l3, c3, h5, h6⟩, ⟨a4, l4, c4, h7, h8⟩, _⟩ := ndAt h y23 hlt
   refine ⟨⟨by omega, by omega⟩, adK ha ⟨_, h0, _, h1, _, h2, _, _, _, h5, _, _, _, h7, ?_⟩⟩
   have hob := nu.len
   refine (ctr50 w23 xs[i] c3 c4 xs.length (hw _ (List.getElem_mem hlt)).1 h6 h8 st.ints (fun k hk => by rw [st.cll]; exact hin hlt k hk) (fun c hc => by have := nu.b c hc; omega)).mono ?_
   rintro en w32 ⟨s31, rfl, hs31, x32⟩
   rw [kids_key hlt] at hs31
   have st := st.ext x32
   refine ⟨_, rfl, ?_⟩
   have fin : ∀ {w40 : World} {T' : List ByteArray} {v : Nat}, P1 w w40 own xs.length b2 bm T' cl → (T' = T ∨ T' = T ++ [s31]) → T'[v]? = some s31 → (0 ≤ (i : Int) ∧ (i : Int) < ((xs.length : Nat) : Int)) ∧
     SetK w40 ((⟨b2, 0, none⟩ : Addr).add (((i : Nat) : Int).toNat * 1)) (.int .i64 (1 + (v : Nat))) fun w41 =>
      (∃ (k : Nat) (own : OwnM Nat) (T : List ByteArray) (cl : List Int) (ord : List Nat), (i : Int) - 1 = (k : Int) - 1 ∧ k ≤ xs.length ∧ P1 w w41 own xs.length b2 bm T cl ∧ Num1 xs T cl ord ∧ zr b2 xs.length w41 ≤ zr b2 xs.length w8 ∧ (true = true → zr b2 xs.length w41 < zr b2 xs.length w8) ∧
       (true = false → ∀ i, k ≤ i → i < xs.length → ga cl i = 0 → ∃ k ∈ Gr.kids xs i, ga cl k = 0)) ∧ ((i : Int) - 1 + 1).toNat < ((i : Int) + 1).toNat := by
    intro w40 T' v st40 hT hv
    refine ⟨⟨by omega, by omega⟩, RowR.seti st40.cl (by rw [st40.cll]; exact hlt) _ fun w41 r41 u41 => ?_⟩
    have nu' := nu.put hlt hci hr' hc hT hv hs31
    have hcl : i < cl.length := by rw [st40.cll]; exact hlt
    have zl : zr b2 xs.length w41 < zr b2 xs.length w12 := by
     rw [zr12, zr_eq r41]
     refine countP_lt hlt (by rw [hci]; rfl) (by rw [ga_set hcl, if_pos rfl, beq_eq_false_iff_ne]; omega) fun j hj => by rw [ga_set hcl, if_neg hj]
    exact ⟨⟨i, own, T', _, _, rfl, by omega, ⟨st40.loc.upd u41, by rw [Int.natCast_add] at *; exact r41, st40.mx.upd u41 (by decide)⟩, nu', by omega, fun _ => by omega, fun e => by cases e⟩, m1⟩
   obtain ⟨x34, q1, q2⟩ := st.mx.num.look1 (P := Tryz.prog) mtS s31
   refine ⟨_, _, q1, ?_⟩
   rcases q2 with ⟨v, e1, rfl⟩ | ⟨hnin, rfl⟩
   ·refine BoolK.mk (fun t3 => ?_) (fun _ => ⟨_, _, q1, fin st (.inl rfl) e1⟩)
    have := eq_of_beq t3; omega
   ·refine BoolK.mk (fun _ => ?_) (fun t3 => by cases t3)
    have hTl := nu.Tl
    refine ⟨_, _, st.mx.num.len mtS _, ?_⟩
    rw [wrap_id (x := ((T.length : Nat) : Int) + 1) (by omega) (by omega)]
    obtain ⟨w38, r1, r2, r3⟩ := st.mx.add (P := Tryz.prog) mtS (a := s31) (v := ((T.length : Nat) : Int) + 1) (by omega) hnin
    refine ⟨w38, r1, ?_⟩
    obtain ⟨x39, q3, q4⟩ := r2.num.look1 (P := Tryz.prog) mtS s31
    refine ⟨_, _, q3, ?_⟩
    rcases q4 with ⟨v, e1, rfl⟩ | ⟨hnin2, _⟩
    ·exact fin ⟨st.loc.upd r3, st.cl.upd r3 (by decide), r2⟩ (.inr rfl) e1
    ·exact absurd (by simp) hnin2
  ·have t := of_decide_eq_false t
   have : k = 0 := by omega
   subst this
   refine ⟨⟨own, T, cl, ord, st, nu, fun e i hi h0 => hfu e i (by omega) hi h0⟩, ?_⟩
   cases p13
   ·simp; omega
   ·have := z2 rfl; simp; omega
 subst t9
 have hfull := hfu rfl
 have ho := nu.topo hfull hc
 have hnd := st.mx.num.nodup
 have di := nu.dinv ho hnd hZ
 have hol := nu.len
 have hTl := nu.Tl
 have hro := rest_ord nu.nodup nu.lt
 refine ⟨_, _, st.mx.num.len mtS _, ?_⟩
 obtain ⟨a47, c47, w48, q48, o48, x48⟩ := copyRows (P := Tryz.prog) (t := 34) (ty := 34) sltI (enc := eI) (R := RInt) (c := xs.length) st.ints eI_len eI_one (fun f x hf j hj => by
  have : j = 0 := by omega
  subst this; exact hf) (by rw [st.cll]; omega)
 refine ⟨_, _, _, _, q48, ?_⟩
 have i48 : Ints w48 a47 xs.length cl := OwnR.ints o48
 have y48 := st.loc.below.trans x48
 have cll := st.cll
 have i0 : Ints w48 (some ⟨b2, 0, none⟩) xs.length cl := st.ints.ext RInt.mono x48
 have hcb0 : ∀ i, 0 ≤ ga cl i ∧ ga cl i ≤ xs.length := ga_mem (P := fun c => 0 ≤ c ∧ c ≤ (xs.length : Int)) ⟨by omega, by omega⟩ fun c hc => by have := nu.b c hc; omega
 have hpos := nu.pos
 clear st hfu
 refine ⟨fun a l c x w' => ∃ clc : List Int, Ext w48 w' ∧ Ints w' a l clc ∧ clc.length = xs.length ∧ DInv xs ord T.length x (ga clc) ∧ (∀ v ∈ clc, 0 ≤ v ∧ v ≤ xs.length) ∧ x ≤ xs.length ∧ (∀ i ∈ ord, ga clc i = ga cl i), fun _ _ _ x _ => ((xs.length : Int) + 1 - x).toNat,
  ⟨⟨cl, Ext.refl _, i0, cll, di, fun v hv => by have := nu.b v hv; omega, by omega, fun i _ => rfl⟩, trivial⟩, ?_⟩
 clear di i0
 rintro w51 a52 l52 c52 x53 ⟨clc, x51, i51, hcl, di, hcb, hx53, hord⟩
 have y51 := y48.trans x51
 obtain ⟨a54, c54, w55, q55, o55, x55⟩ := copyRows (P := Tryz.prog) (t := 34) (ty := 34) sltI (enc := eI) (R := RInt) (c := c47) (i48.ext RInt.mono x51) eI_len eI_one (fun f x hf j hj => by
  have : j = 0 := by omega
  subst this; exact hf) (by rw [cll]; omega)
 refine ⟨_, _, _, _, q55, ?_⟩
 obtain ⟨r55, u55⟩ := RowR.adopt (s := (a54, xs.length, c54)) o55 (Nat.le_refl _) x55 (fun _ => (none : Option Nat)) 0
 have L55 := (Mine.refl (ρ := Nat) w51).upd u55
 generalize setOwn (fun _ => (none : Option Nat)) (sblk (a54, xs.length, c54)) 0 = own55 at r55 u55 L55
 obtain ⟨w57, bm2, q57, mx57, u57, x57⟩ := Mx.new (P := Tryz.prog) (t := 61) eStr w55 1 own55 1
 refine ⟨some bm2, w57, q57, ?_⟩
 refine ⟨fun x w' => ∃ (j : Nat) (own : OwnM Nat) (N : List ByteArray) (cl' : List Int), x = j ∧ j ≤ xs.length ∧ Mine own w51 w' ∧ RowR own 0 3 1 eI w' (a54, xs.length, c54) cl' ∧ Mx own 1 eStr w' bm2 N 1 ∧ cl'.length = xs.length ∧ (∀ i ∈ ord, ga cl' i = ga cl i) ∧
   (∀ i, i < j → i ∉ ord → ∃ (q : Nat) (s : ByteArray), ga cl' i = T.length + 1 + q ∧ N[q]? = some s ∧ bl s = keyC xs (ga clc) i) ∧ (∀ q, q < N.length → ∃ i, i < j ∧ i ∉ ord ∧ ga cl' i = T.length + 1 + (q : Nat)) ∧ N.length ≤ (restOf j ord).length ∧ (∀ v ∈ cl', 0 ≤ v ∧ v ≤ xs.length),
  fun x _ => xs.length - x.toNat, ⟨⟨0, _, [], cl, rfl, by omega, L55.upd u57, r55.upd u57 (by decide), mx57, cll, fun i _ => rfl, fun i hi => by omega, fun q hq => by simp at hq, by simp, fun v hv => by have := nu.b v hv; omega⟩, trivial⟩, ?_⟩
 clear L55 r55 mx57 u57 u55 x55 x57 q57 q55 o55
 rintro w60 _ ⟨j, own, N, cl', rfl, hj, L, rr, mx, hcl', hA, hB, hC, hNl, hcb'⟩
 have y60 := y51.trans L.below
 refine BoolK.mk (fun t => ?_) (fun t => ?_)
 ·have hlt : j < xs.length := by have := of_decide_eq_true t; omega
  obtain ⟨b62, o62, e62, r62⟩ := (i48.ext RInt.mono (x51.trans L.below)).get (i := j) (by rw [cll]; exact hlt)
  have g62 : w60.cell? ((⟨b62, o62, none⟩ : Addr).add (((j : Nat) : Int).toNat * 1)) = some (.int .i64 (ga cl j)) := by
   rw [Int.toNat_natCast, add_mk, ga_get (by rw [cll]; exact hlt)]; simpa [RInt] using r62
  have hm : xs.length - (((j + 1 : Nat) : Int)).toNat < xs.length - ((j : Nat) : Int).toNat := by simp; omega
  refine ⟨⟨by omega, by omega⟩, adK e62 ⟨_, g62, BoolK.mk (fun t1 => ?_) (fun t1 => ?_)⟩⟩
  ·have t1 := of_decide_eq_true t1
   have hjo : j ∈ ord := (hpos j hlt).2 (by omega)
   rw [wrap_succ (by omega)]
   refine ⟨⟨j + 1, own, N, cl', rfl, by omega, L, rr, mx, hcl', hA, fun i hi ni => ?_, fun q hq => ?_, by rw [rest_succ, if_pos hjo]; exact hNl, hcb'⟩, hm⟩
   ·rcases Nat.lt_or_ge i j with h1 | h1
    ·exact hB i h1 ni
    ·have : i = j := by omega
     subst this; exact absurd hjo ni
   ·obtain ⟨i, h1, h2⟩ := hC q hq; exact ⟨i, by omega, h2⟩
  ·have t1 := of_decide_eq_false t1
   have hjn : j ∉ ord := fun hm => by have := (hpos j hlt).1 hm; have := hcb0 j; omega
   obtain ⟨b16, ha, h0, h1, h2, _, _, ⟨a3, l3, c3, h5, h6⟩, ⟨a4, l4, c4, h7, h8⟩, _⟩ := ndAt h y60 hlt
   refine ⟨⟨by omega, by omega⟩, adK ha ⟨_, h0, _, h1, _, h2, _, _, _, h5, _, _, _, h7, ?_⟩⟩
   refine (ctr50 w60 xs[j] c3 c4 c52 (hw _ (List.getElem_mem hlt)).1 h6 h8 (i51.ext RInt.mono L.below) (fun k hk => by rw [hcl]; exact hin hlt k hk) (fun c hc => by have := hcb c hc; omega)).mono ?_
   rintro en w71 ⟨s70, rfl, hs70, x71⟩
   rw [kids_key hlt] at hs70
   have L := L.ext x71
   have rr := rr.ext x71
   have mx := mx.ext x71
   have hNn := mx.num.nodup
   refine ⟨_, rfl, ?_⟩
   refine ⟨fun w' => ∃ (own : OwnM Nat) (N' : List ByteArray), Mine own w51 w' ∧ RowR own 0 3 1 eI w' (a54, xs.length, c54) cl' ∧ Mx own 1 eStr w' bm2 N' 1 ∧ s70 ∈ N' ∧ (N' = N ∨ (N' = N ++ [s70] ∧ s70 ∉ N)), ?_, ?_⟩
   ·rintro w74 ⟨own, N', L, rr, mx, hin', hN'⟩
    have hN'n := mx.num.nodup
    obtain ⟨x75, q1, q2⟩ := mx.num.look1 (P := Tryz.prog) mtS s70
    refine ⟨_, _, q1, ⟨by omega, by omega⟩, ?_⟩
    rcases q2 with ⟨v, e1, rfl⟩ | ⟨hnin, _⟩
    ·have hvl := (List.getElem?_eq_some_iff.1 e1).1
     have hrl : (restOf (j + 1) ord).length ≤ (restOf xs.length ord).length := by
      refine len_le_of_sub _ _ (rest_nodup _ _) fun x hx => ?_
      have := rest_mem.1 hx
      exact rest_mem.2 ⟨by omega, this.2⟩
     have hrs : (restOf (j + 1) ord).length = (restOf j ord).length + 1 := by rw [rest_succ, if_neg hjn]; simp
     have hN'l : N'.length ≤ (restOf (j + 1) ord).length := by
      rcases hN' with rfl | ⟨rfl, _⟩
      ·omega
      ·simp; omega
     rw [wrap_id (by omega) (by omega)]
     obtain ⟨g, l, c', e54, _, _, _⟩ := rr.at_ eI_len (i := j) (by rw [hcl']; exact hlt)
     simp only [Prod.mk.injEq] at e54
     obtain ⟨rfl, _, _⟩ := e54
     refine adK rfl (RowR.seti rr (by rw [hcl']; exact hlt) _ fun w78 r78 u78 => ?_)
     rw [wrap_succ (by omega)]
     have hj' : j < cl'.length := by rw [hcl']; exact hlt
     have grow : ∀ {q : Nat} {u : ByteArray}, N[q]? = some u → N'[q]? = some u := fun {q u} e => by
      rcases hN' with rfl | ⟨rfl, _⟩
      ·exact e
      ·rw [List.getElem?_append_left (List.getElem?_eq_some_iff.1 e).1]; exact e
     refine ⟨⟨j + 1, own, N', _, rfl, by omega, L.upd u78, r78, mx.upd u78 (by decide), by simpa using hcl', fun i hi => ?_, fun i hi ni => ?_, fun q hq => ?_, hN'l, fun x hx => ?_⟩, hm⟩
     ·rw [ga_set hj', if_neg (fun e : i = j => hjn (e ▸ hi))]; exact hA i hi
     ·by_cases e : i = j
      ·subst e; exact ⟨v, s70, by rw [ga_set hj', if_pos rfl]; omega, e1, hs70⟩
      ·obtain ⟨q, s, f1, f2, f3⟩ := hB i (by omega) ni
       exact ⟨q, s, by rw [ga_set hj', if_neg e]; exact f1, grow f2, f3⟩
     ·rcases hN' with rfl | ⟨rfl, hnin⟩
      ·obtain ⟨i, f1, f2, f3⟩ := hC q hq
       exact ⟨i, by omega, f2, by rw [ga_set hj', if_neg (by omega)]; exact f3⟩
      ·by_cases hq2 : q < N.length
       ·obtain ⟨i, f1, f2, f3⟩ := hC q hq2
        exact ⟨i, by omega, f2, by rw [ga_set hj', if_neg (by omega)]; exact f3⟩
       ·have hqe : q = N.length := by simp at hq; omega
        have : v = N.length := nodup_idx hN'n e1 (by simp)
        exact ⟨j, by omega, hjn, by rw [ga_set hj', if_pos rfl]; omega⟩
     ·rcases List.mem_or_eq_of_mem_set hx with hx | rfl
      ·exact hcb' x hx
      ·omega
    ·exact absurd hin' hnin
   ·obtain ⟨x79, q1, q2⟩ := mx.num.look1 (P := Tryz.prog) mtS s70
    refine ⟨_, _, q1, ?_⟩
    rcases q2 with ⟨v, e1, rfl⟩ | ⟨hnin, rfl⟩
    ·refine BoolK.mk (fun t3 => ?_) (fun _ => ⟨own, N, L, rr, mx, List.mem_of_getElem? e1, .inl rfl⟩)
     have := eq_of_beq t3; omega
    ·refine BoolK.mk (fun _ => ?_) (fun t3 => by cases t3)
     have hrl := rest_len j ord
     refine ⟨_, _, mx.num.len mtS _, ?_⟩
     rw [wrap_id (x := ((N.length : Nat) : Int) + 1) (by omega) (by omega)]
     obtain ⟨w83, r1, r2, r3⟩ := mx.add (P := Tryz.prog) mtS (a := s70) (v := ((N.length : Nat) : Int) + 1) (by omega) hnin
     exact ⟨w83, r1, own, _, L.upd r3, rr.upd r3 (by decide), r2, by simp, .inr ⟨rfl, hnin⟩⟩
 ·have hj2 : j = xs.length := by have := of_decide_eq_false t; omega
  subst hj2
  have hNn := mx.num.nodup
  obtain ⟨done, go⟩ := di.round ho hc hZ hNn (c' := ga cl') (fun i hi => by rw [hA i hi, hord i hi]) (fun i hi ni => hB i hi ni) (fun q hq => hC q hq)
  refine ⟨_, _, mx.num.len mtS _, BoolK.mk (fun t1 => ?_) (fun t1 => ⟨_, _, mx.num.len mtS _, ?_⟩)⟩
  ·have t1 : (N.length : Int) = x53 := eq_of_beq t1
   refine ⟨cl', ⟨hcl', fun i j hi hj => done t1 i j hi hj⟩, fun v hv => ?_, OwnR.ints rr.1, y60⟩
   obtain ⟨i, hi, rfl⟩ := List.getElem_of_mem hv
   have hb := hcb' _ hv
   rw [← ga_get hi] at hb ⊢
   refine ⟨?_, hb.2⟩
   by_cases hio : i ∈ ord
   ·rw [hA i hio]; have := (hpos i (by omega)).1 hio; have := hcb0 i; omega
   ·obtain ⟨q, s, f1, _⟩ := hB i (by omega) hio; omega
  ·have t1 : (N.length : Int) ≠ x53 := fun e => by rw [beq_eq_false_iff_ne] at t1; exact t1 e
   obtain ⟨g1, g2⟩ := go t1
   exact ⟨⟨cl', x51.trans L.below, OwnR.ints rr.1, hcl', g2, hcb', by omega, hA⟩, by show ((xs.length : Int) + 1 - _).toNat < ((xs.length : Int) + 1 - x53).toNat; omega⟩
end Go.Proofs.YtbiamhoonhjodacGreatDoor

namespace Go.Proofs.YtbiamhoonhjodacGreatDoor
open Go Go.V Go.Proofs
open Go.RowKit (Below)
/-! manystrand/manystrandref05.Equal -/
def N9 (x1 : Int) (a2 : Option Addr) (l2 : Nat) (c2 : Nat) (x3 : Int) (a4 : Option Addr) (l4 : Nat) (c4 : Nat) (K : Bool → World → Prop) (w : World) : Prop :=
 AllocK w (#[(.int .i64 x1), (.slice a2 l2 c2)]) 24 fun b5 w6 =>
 AllocK w6 (#[(.int .i64 x3), (.slice a4 l4 c4)]) 24 fun b7 w8 =>
 ∃ x9, w8.cell? (b5.add 0) = some (.int .i64 x9) ∧
 (∃ a10 l10 c10, w8.cell? (b5.add 1) = some (.slice a10 l10 c10) ∧
 (Calls Tryz.prog 21 #[(.agg #[(.int .i64 x9), (.slice a10 l10 c10)])] w8 fun e13 w12 =>
 ∃ p11, e13 = .returned (.bool p11) ∧
 (BoolK (!p11)
 (K false w12)
 (∃ x14, w12.cell? (b7.add 0) = some (.int .i64 x14) ∧
 (∃ a15 l15 c15, w12.cell? (b7.add 1) = some (.slice a15 l15 c15) ∧
 (Calls Tryz.prog 21 #[(.agg #[(.int .i64 x14), (.slice a15 l15 c15)])] w12 fun e18 w17 =>
 ∃ p16, e18 = .returned (.bool p16) ∧
 (BoolK (!p16)
 (K false w17)
 (∃ x19, w17.cell? (b5.add 0) = some (.int .i64 x19) ∧
 (∃ a20 l20 c20, w17.cell? (b5.add 1) = some (.slice a20 l20 c20) ∧
 (∃ x21, w17.cell? (b7.add 0) = some (.int .i64 x21) ∧
 (∃ a22 l22 c22, w17.cell? (b7.add 1) = some (.slice a22 l22 c22) ∧
 (Calls Tryz.prog 22 #[(.agg #[(.int .i64 x19), (.slice a20 l20 c20)]), (.agg #[(.int .i64 x21), (.slice a22 l22 c22)])] w17 fun e27 w26 =>
 ∃ a23, ∃ l23, ∃ c23, ∃ x24, ∃ x25, e27 = .returned (.tuple #[(.slice a23 l23 c23), (.int .i64 x24), (.int .i64 x25)]) ∧
 (Calls Tryz.prog 27 #[(.slice a23 l23 c23)] w26 fun e30 w29 =>
 ∃ a28, ∃ l28, ∃ c28, e30 = .returned (.slice a28 l28 c28) ∧
 (DrewK w29 fun w31 =>
 (0 ≤ x24 ∧ x24 < l28) ∧
 AddrK a28 fun b32 =>
 ∃ x33, w31.cell? (b32.add (x24.toNat * 1)) = some (.int .i64 x33) ∧
 ((0 ≤ x25 ∧ x25 < l28) ∧
 AddrK a28 fun b34 =>
 ∃ x35, w31.cell? (b34.add (x25.toNat * 1)) = some (.int .i64 x35) ∧
 (K (x33 == x35) w31))))))))))))))))
def ann9 : Ann := (.two .nil (.two (.two .nil (.two (.two .nil .nil) .nil)) (.two .nil (.two .nil (.two (.anyC 10 (.take 0 (.take 1 (.take 2 (.take 3 (.take 4 (.take 5 (.take 6 (.take 7 (.take 8 (.take 9 .done))))))))))) .nil)))))
noncomputable def code9 : Code := match Tryz.f9.body with | some c => c | none => .skip
theorem calls9 (x1 : Int) (a2 : Option Addr) (l2 : Nat) (c2 : Nat) (x3 : Int) (a4 : Option Addr) (l4 : Nat) (c4 : Nat) (K : Bool → World → Prop) (w : World) (h : N9 x1 a2 l2 c2 x3 a4 l4 c4 K w) : Calls Tryz.prog 9 #[(.agg #[(.int .i64 x1), (.slice a2 l2 c2)]), (.agg #[(.int .i64 x3), (.slice a4 l4 c4)])] w fun en w' => ∃ (p36 : Bool), en = .returned (.bool p36) ∧ K p36 w' :=
 fn_calls tabOk mixed Tryz.func9 (by kernel_rfl : Tryz.f9.body = some code9) ann9 [(.agg #[(.int .i64 x1), (.slice a2 l2 c2)]), (.agg #[(.int .i64 x3), (.slice a4 l4 c4)])] [(.one .bool)] K w (by kernel_rfl) (by kernel_rfl) (by kernel_rfl) h
end Go.Proofs.YtbiamhoonhjodacGreatDoor

namespace Go.Proofs.YtbiamhoonhjodacGreatDoor
open Go Go.V Go.Proofs
open Go.RowKit (Below)
/-! manystrand/manystrandref05.Compare -/
def N7 (x1 : Int) (a2 : Option Addr) (l2 : Nat) (c2 : Nat) (x3 : Int) (a4 : Option Addr) (l4 : Nat) (c4 : Nat) (K : Int → Int → World → Prop) (w : World) : Prop :=
 AllocK w (#[(.int .i64 x1), (.slice a2 l2 c2)]) 24 fun b5 w6 =>
 AllocK w6 (#[(.int .i64 x3), (.slice a4 l4 c4)]) 24 fun b7 w8 =>
 ∃ x9, w8.cell? (b5.add 0) = some (.int .i64 x9) ∧
 (∃ a10 l10 c10, w8.cell? (b5.add 1) = some (.slice a10 l10 c10) ∧
 (Calls Tryz.prog 21 #[(.agg #[(.int .i64 x9), (.slice a10 l10 c10)])] w8 fun e13 w12 =>
 ∃ p11, e13 = .returned (.bool p11) ∧
 (BoolK (!p11)
 (K 0 50 w12)
 (∃ x14, w12.cell? (b7.add 0) = some (.int .i64 x14) ∧
 (∃ a15 l15 c15, w12.cell? (b7.add 1) = some (.slice a15 l15 c15) ∧
 (Calls Tryz.prog 21 #[(.agg #[(.int .i64 x14), (.slice a15 l15 c15)])] w12 fun e18 w17 =>
 ∃ p16, e18 = .returned (.bool p16) ∧
 (BoolK (!p16)
 (K 0 50 w17)
 (∃ x19, w17.cell? (b5.add 0) = some (.int .i64 x19) ∧
 (∃ a20 l20 c20, w17.cell? (b5.add 1) = some (.slice a20 l20 c20) ∧
 (∃ x21, w17.cell? (b7.add 0) = some (.int .i64 x21) ∧
 (∃ a22 l22 c22, w17.cell? (b7.add 1) = some (.slice a22 l22 c22) ∧
 (Calls Tryz.prog 22 #[(.agg #[(.int .i64 x19), (.slice a20 l20 c20)]), (.agg #[(.int .i64 x21), (.slice a22 l22 c22)])] w17 fun e27 w26 =>
 ∃ a23, ∃ l23, ∃ c23, ∃ x24, ∃ x25, e27 = .returned (.tuple #[(.slice a23 l23 c23), (.int .i64 x24), (.int .i64 x25)]) ∧
 (Calls Tryz.prog 23 #[(.slice a23 l23 c23), (.slice none 0 0), (.slice none 0 0)] w26 fun e31 w30 =>
 ∃ a28, ∃ l28, ∃ c28, ∃ x29, e31 = .returned (.tuple #[(.slice a28 l28 c28), (.int .i64 x29)]) ∧
 (∃ (I32 : Int → Option Addr → Nat → Nat → World → Prop) (μ33 : Int → Option Addr → Nat → Nat → World → Nat),
 (I32 x29 a28 l28 c28 w30 ∧ True) ∧
 ∀ w34 x35 a36 l36 c36, I32 x35 a36 l36 c36 w34 →
 DrewK w34 fun w37 =>
 (0 ≤ x24 ∧ x24 < l36) ∧
 AddrK a36 fun b38 =>
 ∃ x39, w37.cell? (b38.add (x24.toNat * 1)) = some (.int .i64 x39) ∧
 ((0 ≤ x25 ∧ x25 < l36) ∧
 AddrK a36 fun b40 =>
 ∃ x41, w37.cell? (b40.add (x25.toNat * 1)) = some (.int .i64 x41) ∧
 (Calls Tryz.prog 24 #[(.int .i64 x39), (.int .i64 x41)] w37 fun e44 w43 =>
 ∃ x42, e44 = .returned (.int .i64 x42) ∧
 (BoolK (x42 != 0)
 (K x42 0 w43)
 (Calls Tryz.prog 23 #[(.slice a23 l23 c23), (.slice a28 l28 c28), (.slice a36 l36 c36)] w43 fun e48 w47 =>
 ∃ a45, ∃ l45, ∃ c45, ∃ x46, e48 = .returned (.tuple #[(.slice a45 l45 c45), (.int .i64 x46)]) ∧
 (BoolK (x46 == x35)
 (DrewK w47 fun w49 =>
 (0 ≤ x24 ∧ x24 < l45) ∧
 AddrK a45 fun b50 =>
 ∃ x51, w49.cell? (b50.add (x24.toNat * 1)) = some (.int .i64 x51) ∧
 ((0 ≤ x25 ∧ x25 < l45) ∧
 AddrK a45 fun b52 =>
 ∃ x53, w49.cell? (b52.add (x25.toNat * 1)) = some (.int .i64 x53) ∧
 (Calls Tryz.prog 24 #[(.int .i64 x51), (.int .i64 x53)] w49 fun e56 w55 =>
 ∃ x54, e56 = .returned (.int .i64 x54) ∧
 (K x54 0 w55))))
 (I32 x46 a45 l45 c45 w47 ∧ μ33 x46 a45 l45 c45 w47 < μ33 x35 a36 l36 c36 w34))))))))))))))))))))
def ann7 : Ann := (.two .nil (.two (.two .nil (.two (.two .nil .nil) .nil)) (.two .nil (.two .nil (.two .nil (.one (.loop [(10, (.one (.int .i64))), (11, (.one .slice))] [6, 7, 8, 9] (.one (.two (.two (.anyC 8 (.take 0 (.take 1 (.take 2 (.take 3 (.take 4 (.take 5 (.take 6 (.take 7 .done))))))))) (.two .nil (.two (.two .nil .nil) .nil))) (.two .nil (.two (.two .nil (.two (.two (.anyC 8 (.take 0 (.take 1 (.take 2 (.take 3 (.take 4 (.take 5 (.take 6 (.take 7 .done))))))))) .nil) .nil)) .nil)))))))))))
noncomputable def code7 : Code := match Tryz.f7.body with | some c => c | none => .skip
theorem calls7 (x1 : Int) (a2 : Option Addr) (l2 : Nat) (c2 : Nat) (x3 : Int) (a4 : Option Addr) (l4 : Nat) (c4 : Nat) (K : Int → Int → World → Prop) (w : World) (h : N7 x1 a2 l2 c2 x3 a4 l4 c4 K w) : Calls Tryz.prog 7 #[(.agg #[(.int .i64 x1), (.slice a2 l2 c2)]), (.agg #[(.int .i64 x3), (.slice a4 l4 c4)])] w fun en w' => ∃ (x57 : Int), ∃ (x58 : Int), en = .returned (.tuple #[(.int .i64 x57), (.int .i64 x58)]) ∧ K x57 x58 w' :=
 fn_calls tabOk mixed Tryz.func7 (by kernel_rfl : Tryz.f7.body = some code7) ann7 [(.agg #[(.int .i64 x1), (.slice a2 l2 c2)]), (.agg #[(.int .i64 x3), (.slice a4 l4 c4)])] [(.one (.int .i64)), (.one (.int .i64))] K w (by kernel_rfl) (by kernel_rfl) (by kernel_rfl) h
end Go.Proofs.YtbiamhoonhjodacGreatDoor

namespace Go.Proofs.YtbiamhoonhjodacGreatDoor
open Go Go.V Go.Proofs Go.V.Gr
open Go.RowKit (Below)
theorem VL.d {xs : List Nd} (h : VL VN1 xs) (hz : Sz xs) : ∀ x ∈ xs, DOk x ∧ ZOk x := fun x hx => by
 obtain ⟨n, hn⟩ := h.v x hx
 exact hn.d (hz.fs x hx)
set_option maxRecDepth 100000 in
theorem ctr9 (w : World) (r r' : Int) (xs ys : List Nd) {a a' : Option Addr} {l l' : Nat} (c c' : Nat) (hx : RNds w a l xs) (hy : RNds w a' l' ys) (hlx : Lim xs ∧ LimT xs) (hly : Lim ys ∧ LimT ys) :
  Calls Tryz.prog 9 #[.agg #[.int .i64 r, .slice a l c], .agg #[.int .i64 r', .slice a' l' c']] w fun en w' => ∃ p, en = .returned (.bool p) ∧ ((p = true ↔ GrOk r xs 1000 ∧ GrOk r' ys 1000 ∧ Eqv xs ys r.toNat r'.toNat) ∧ Ext w w') := by
 refine calls9 _ _ _ _ _ _ _ _ _ w ?_
 refine AllocK.mk fun b5 w6 hb5 hB5 x6 => AllocK.mk fun b7 w8 hb7 hB7 x8 => ?_
 have y8 := x6.trans x8
 obtain ⟨g0, g1, _⟩ := blkAt2 (hB5.ext x8)
 refine ⟨_, g0, _, _, _, g1, (ctr21 w8 r xs c (RNds.at hx y8) hlx.2).mono ?_⟩
 rintro en w12 ⟨p, rfl, hp, x12⟩
 have y12 := y8.trans x12
 obtain ⟨k0, k1, _⟩ := blkAt2 (hB7.ext x12)
 refine ⟨_, rfl, BoolK.mk (fun t => ⟨not_iff_false fun e => ?_, y12⟩) (fun t => ⟨_, k0, _, _, _, k1, (ctr21 w12 r' ys c' (RNds.at hy y12) hly.2).mono ?_⟩)⟩
 ·rw [hp.2 e.1] at t; cases t
 have ok := hp.1 (by simpa using t)
 clear hp t p
 rintro en w17 ⟨p, rfl, hp, x17⟩
 have y17 := y12.trans x17
 refine ⟨_, rfl, BoolK.mk (fun t => ⟨not_iff_false fun e => ?_, y17⟩) (fun t => ?_)⟩
 ·rw [hp.2 e.2.1] at t; cases t
 have ok' := hp.1 (by simpa using t)
 clear hp t p
 have sx := ok.sz (by omega) hlx.1
 have sy := ok'.sz (by omega) hly.1
 have hm := ok.most; have hm' := ok'.most
 have hr := ok.root; have hr' := ok'.root
 obtain ⟨g0, g1, _⟩ := blkAt2 (hB5.ext ((x8.trans x12).trans x17))
 obtain ⟨k0, k1, _⟩ := blkAt2 (hB7.ext (x12.trans x17))
 refine ⟨_, g0, _, _, _, g1, _, k0, _, _, _, k1, (ctr22 w17 r r' c c' (RNds.at hx y17) (RNds.at hy y17) sx sy ok'.closed ⟨by omega, by omega⟩).mono ?_⟩
 rintro en w26 ⟨a23, l23, c23, x24, x25, rfl, ⟨rfl, rfl, rN⟩, x26⟩
 have y26 := y17.trans x26
 have sA := app_sz sx sy (by omega)
 have vA := app_vl ok.vl ok'.vl
 refine ⟨_, _, _, _, _, rfl, (ctr27 w26 c23 rN (app_closed ok.closed ok'.closed) sA (VL.d vA sA)).mono ?_⟩
 rintro en w29 ⟨a28, l28, c28, rfl, cl, hcl, _, hI, x29⟩
 refine ⟨_, _, _, rfl, DrewK.mk fun w31 x31 => ?_⟩
 have hcll : cl.length = xs.length + ys.length := by rw [hcl.1, app_len]
 have hl28 := hI.1
 have e1 : x24 = ((x24.toNat : Nat) : Int) := by omega
 have e2 : r' + (xs.length : Int) = ((xs.length + r'.toNat : Nat) : Int) := by omega
 rw [e2]
 have q1 : x24.toNat < cl.length := by omega
 have q2 : xs.length + r'.toNat < cl.length := by omega
 obtain ⟨b1, o1, h1, v1⟩ := (Rows.ext RInt.mono hI x31).get q1
 obtain ⟨b2, o2, h2, v2⟩ := (Rows.ext RInt.mono hI x31).get q2
 refine ⟨⟨by omega, by omega⟩, adK h1 ⟨ga cl x24.toNat, by rw [add_mk, ga_get q1]; simpa [RInt] using v1, ⟨by omega, by omega⟩, adK h2 ⟨ga cl (xs.length + r'.toNat), by rw [Int.toNat_natCast, add_mk, ga_get q2]; simpa [RInt] using v2, ?_, (y26.trans x29).trans x31⟩⟩⟩
 have key := hcl.2 x24.toNat (xs.length + r'.toNat) (by rw [app_len]; omega) (by rw [app_len]; omega)
 rw [app_eqv ok.closed ok'.closed ok.lt ok'.lt] at key
 rw [beq_iff_eq]
 exact ⟨fun e => ⟨ok, ok', key.1 e⟩, fun e => key.2 e.2.2⟩
set_option maxRecDepth 100000 in
theorem ctr7 (w : World) (r r' : Int) (xs ys : List Nd) {a a' : Option Addr} {l l' : Nat} (c c' : Nat) (hx : RNds w a l xs) (hy : RNds w a' l' ys) (hlx : Lim xs ∧ LimT xs) (hly : Lim ys ∧ LimT ys) :
  Calls Tryz.prog 7 #[.agg #[.int .i64 r, .slice a l c], .agg #[.int .i64 r', .slice a' l' c']] w fun en w' => ∃ n e, en = .returned (.tuple #[.int .i64 n, .int .i64 e]) ∧
   (Ext w w' ∧ ((GrOk r xs 1000 ∧ GrOk r' ys 1000 ∧ e = 0 ∧ n = cGr xs ys r.toNat r'.toNat) ∨ (¬ (GrOk r xs 1000 ∧ GrOk r' ys 1000) ∧ e = 50 ∧ n = 0))) := by
 refine calls7 _ _ _ _ _ _ _ _ _ w ?_
 refine AllocK.mk fun b5 w6 hb5 hB5 x6 => AllocK.mk fun b7 w8 hb7 hB7 x8 => ?_
 have y8 := x6.trans x8
 obtain ⟨g0, g1, _⟩ := blkAt2 (hB5.ext x8)
 refine ⟨_, g0, _, _, _, g1, (ctr21 w8 r xs c (RNds.at hx y8) hlx.2).mono ?_⟩
 rintro en w12 ⟨p, rfl, hp, x12⟩
 have y12 := y8.trans x12
 obtain ⟨k0, k1, _⟩ := blkAt2 (hB7.ext x12)
 refine ⟨_, rfl, BoolK.mk (fun t => ⟨y12, .inr ⟨fun e => ?_, rfl, rfl⟩⟩) (fun t => ⟨_, k0, _, _, _, k1, (ctr21 w12 r' ys c' (RNds.at hy y12) hly.2).mono ?_⟩)⟩
 ·rw [hp.2 e.1] at t; cases t
 have ok := hp.1 (by simpa using t)
 clear hp t p
 rintro en w17 ⟨p, rfl, hp, x17⟩
 have y17 := y12.trans x17
 refine ⟨_, rfl, BoolK.mk (fun t => ⟨y17, .inr ⟨fun e => ?_, rfl, rfl⟩⟩) (fun t => ?_)⟩
 ·rw [hp.2 e.2] at t; cases t
 have ok' := hp.1 (by simpa using t)
 clear hp t p
 have sx := ok.sz (by omega) hlx.1
 have sy := ok'.sz (by omega) hly.1
 have hm := ok.most; have hm' := ok'.most
 have hr := ok.root; have hr' := ok'.root
 obtain ⟨g0, g1, _⟩ := blkAt2 (hB5.ext ((x8.trans x12).trans x17))
 obtain ⟨k0, k1, _⟩ := blkAt2 (hB7.ext (x12.trans x17))
 refine ⟨_, g0, _, _, _, g1, _, k0, _, _, _, k1, (ctr22 w17 r r' c c' (RNds.at hx y17) (RNds.at hy y17) sx sy ok'.closed ⟨by omega, by omega⟩).mono ?_⟩
 rintro en w26 ⟨a23, l23, c23, x24, x25, rfl, ⟨rfl, rfl, rN⟩, x26⟩
 have y26 := y17.trans x26
 have sA := app_sz sx sy (by omega)
 have vA := app_vl ok.vl ok'.vl
 have hlen : (app xs ys).length = xs.length + ys.length := app_len _ _
 have i0 := ok.lt; have j0 := ok'.lt
 have i1 : x24.toNat < (app xs ys).length := by omega
 have i2 : xs.length + r'.toNat < (app xs ys).length := by omega
 have cKa : ∀ t, cK cHd (app xs ys) (app xs ys) t x24.toNat (xs.length + r'.toNat) = cK cHd xs ys t x24.toNat r'.toNat := fun t => cK_congr cHd_congr t _ _ _ _ ((app_left ok.closed i0).symm t) ((app_right ok'.closed j0).symm t)
 have e1 : x24 = ((x24.toNat : Nat) : Int) := by omega
 have e2 : r' + (xs.length : Int) = ((xs.length + r'.toNat : Nat) : Int) := by omega
 refine ⟨_, _, _, _, _, rfl, (ctr23 w26 c23 0 0 (t := 0) ⟨rN, .inl ⟨rfl, rfl⟩⟩ vA sA (by omega)).mono ?_⟩
 rintro en w30 ⟨a28, l28, c28, x29, rfl, ⟨n0, fi, rfl, ha28, hfi, Ifi⟩, x30⟩
 have rN := RNds.at rN x30
 refine ⟨_, _, _, _, rfl, fun x a l c w' => ∃ (k m : Nat) (la : List Int), x = m ∧ Ext w30 w' ∧ Ints w' a l la ∧ Rkn (app xs ys).length la m (fun i j => cK cHd (app xs ys) (app xs ys) k i j) ∧ ∀ q, q < k → cK cHd xs ys q x24.toNat r'.toNat = 0,
  fun x _ _ _ _ => (app xs ys).length - x.toNat, ⟨⟨0, n0, fi, rfl, Ext.refl _, Ifi, hfi, fun q hq => by omega⟩, trivial⟩, ?_⟩
 rintro w34 _ a36 l36 c36 ⟨k, m, la, rfl, x34, Ila, hla, hz⟩
 have y34 := (y26.trans x30).trans x34
 have at_ : ∀ {wz w' : World} {az : Option Addr} {lz : Nat} {lz' : List Int} {i : Nat}, Ints wz az lz lz' → lz'.length = (app xs ys).length → Ext wz w' → i < (app xs ys).length → (0 ≤ ((i : Nat) : Int) ∧ ((i : Nat) : Int) < (lz : Nat)) ∧ ∃ b, az = some b ∧ w'.cell? (b.add (((i : Nat) : Int).toNat * 1)) = some (.int .i64 (ga lz' i)) := fun hI hl x hi => by
  have h1 := hI.1
  obtain ⟨b, o, ha, h0⟩ := (Rows.ext RInt.mono hI x).get (i := _) (by rw [hl]; exact hi)
  exact ⟨⟨by omega, by omega⟩, _, ha, by rw [Int.toNat_natCast, add_mk, ga_get (by rw [hl]; exact hi)]; exact h0⟩
 rw [e2]
 have cc : ∀ {wz : World} (x y : Int), Calls Tryz.prog 24 #[.int .i64 x, .int .i64 y] wz fun en w' => ∃ r, en = .returned (.int .i64 r) ∧ (r = sg x y ∧ w' = wz) := fun {wz} x y => ctr24 wz x y
 have hsg : sg (ga la x24.toNat) (ga la (xs.length + r'.toNat)) = cK cHd xs ys k x24.toNat r'.toNat := by rw [hla.cmp.2 _ _ i1 i2]; exact cKa k
 refine DrewK.mk fun w37 x37 => ?_
 obtain ⟨p1, b38, p2, p3⟩ := at_ Ila hla.cmp.1 x37 i1
 obtain ⟨q1, b40, q2, q3⟩ := at_ Ila hla.cmp.1 x37 i2
 rw [← e1] at p1 p3
 refine ⟨p1, adK p2 ⟨_, p3, q1, adK q2 ⟨_, q3, (cc _ _).mono ?_⟩⟩⟩
 rintro en w43 ⟨_, rfl, rfl, rfl⟩
 rw [hsg]
 refine ⟨_, rfl, BoolK.mk (fun t => ⟨y34.trans x37, .inl ⟨ok, ok', rfl, ?_⟩⟩) (fun t => ?_)⟩
 ·have t : cK cHd xs ys k x24.toNat r'.toNat ≠ 0 := by simpa using t
  exact (cGr_first ok.vl ok'.vl i0 j0 hz t).symm
 have t : cK cHd xs ys k x24.toNat r'.toNat = 0 := by simpa using t
 have rN43 := RNds.at rN (x34.trans x37)
 have hB : CmpBy (app xs ys) w43 a23 l23 a28 l28 a36 l36 (k + 1) := ⟨rN43, .inr ⟨ha28, fi, la, k, rfl, Rows.ext RInt.mono Ifi (x34.trans x37), Rows.ext RInt.mono Ila x37, hfi.cmp, hla.cmp⟩⟩
 refine (ctr23 w43 c23 c28 c36 hB vA sA (by omega)).mono ?_
 rintro en w47 ⟨a45, l45, c45, x46, rfl, ⟨m', rk, rfl, _, hrk, Irk⟩, x47⟩
 have hle := hrk.le
 have gr := hla.grow hrk fun i j hi hj e => by
  have := (cK_zero hdC vA vA (k + 1) i j hi hj).1 e
  exact (cK_zero hdC vA vA k i j hi hj).2 this.less
 refine ⟨_, _, _, _, rfl, BoolK.mk (fun t1 => DrewK.mk fun w49 x49 => ?_) (fun t1 => ⟨⟨k + 1, m', rk, rfl, (x34.trans x37).trans x47, Irk, hrk, fun q hq => ?_⟩, ?_⟩)⟩
 ·have t1 : m' = m := by have := eq_of_beq t1; omega
  have st := gr.2 t1
  obtain ⟨p1, b38, p2, p3⟩ := at_ Irk hrk.cmp.1 x49 i1
  obtain ⟨q1, b40, q2, q3⟩ := at_ Irk hrk.cmp.1 x49 i2
  rw [← e1] at p1 p3
  refine ⟨p1, adK p2 ⟨_, p3, q1, adK q2 ⟨_, q3, (cc _ _).mono ?_⟩⟩⟩
  rintro en w55 ⟨_, rfl, rfl, rfl⟩
  refine ⟨_, rfl, ((y34.trans x37).trans x47).trans x49, .inl ⟨ok, ok', rfl, ?_⟩⟩
  have h1 : cK cHd (app xs ys) (app xs ys) k x24.toNat (xs.length + r'.toNat) = 0 := by rw [cKa]; exact t
  have h2 := st _ _ i1 i2 h1
  rw [hrk.cmp.2 _ _ i1 i2]
  refine Eq.trans h2 ?_
  have ev := eqv_stable vA st i1 i2 h1
  rw [app_eqv ok.closed ok'.closed i0 j0] at ev
  exact ((cGr_zero ok.vl ok'.vl i0 j0).2 ev).symm
 ·rcases Nat.lt_or_ge q k with h | h
  ·exact hz q h
  ·have : q = k := by omega
   subst this; exact t
 ·have hne : m' ≠ m := fun e => by subst e; simp at t1
  have := gr.1
  simp only [Int.toNat_natCast]; omega
end Go.Proofs.YtbiamhoonhjodacGreatDoor

namespace Go.Proofs.YtbiamhoonhjodacGreatDoor
open Go Go.V Go.Proofs
open Go.RowKit (Below)
/-! manystrand/graph.Equal -/
def N8 (x1 : Int) (a2 : Option Addr) (l2 : Nat) (c2 : Nat) (x3 : Int) (a4 : Option Addr) (l4 : Nat) (c4 : Nat) (K : Bool → World → Prop) (w : World) : Prop :=
 AllocK w (#[(.int .i64 x1), (.slice a2 l2 c2)]) 24 fun b5 w6 =>
 AllocK w6 (#[(.int .i64 x3), (.slice a4 l4 c4)]) 24 fun b7 w8 =>
 ∃ x9, w8.cell? (b5.add 0) = some (.int .i64 x9) ∧
 (∃ a10 l10 c10, w8.cell? (b5.add 1) = some (.slice a10 l10 c10) ∧
 (Calls Tryz.prog 25 #[(.agg #[(.int .i64 x9), (.slice a10 l10 c10)])] w8 fun e13 w12 =>
 ∃ p11, e13 = .returned (.bool p11) ∧
 (BoolK (!p11)
 (K false w12)
 (∃ x14, w12.cell? (b7.add 0) = some (.int .i64 x14) ∧
 (∃ a15 l15 c15, w12.cell? (b7.add 1) = some (.slice a15 l15 c15) ∧
 (Calls Tryz.prog 25 #[(.agg #[(.int .i64 x14), (.slice a15 l15 c15)])] w12 fun e18 w17 =>
 ∃ p16, e18 = .returned (.bool p16) ∧
 (BoolK (!p16)
 (K false w17)
 (∃ x19, w17.cell? (b5.add 0) = some (.int .i64 x19) ∧
 (∃ a20 l20 c20, w17.cell? (b5.add 1) = some (.slice a20 l20 c20) ∧
 (Calls Tryz.prog 15 #[(.slice none 0 0), (.agg #[(.int .i64 x19), (.slice a20 l20 c20)])] w17 fun e24 w23 =>
 ∃ a21, ∃ l21, ∃ c21, ∃ x22, e24 = .returned (.tuple #[(.slice a21 l21 c21), (.int .i64 x22)]) ∧
 (∃ x25, w23.cell? (b7.add 0) = some (.int .i64 x25) ∧
 (∃ a26 l26 c26, w23.cell? (b7.add 1) = some (.slice a26 l26 c26) ∧
 (Calls Tryz.prog 15 #[(.slice a21 l21 c21), (.agg #[(.int .i64 x25), (.slice a26 l26 c26)])] w23 fun e30 w29 =>
 ∃ a27, ∃ l27, ∃ c27, ∃ x28, e30 = .returned (.tuple #[(.slice a27 l27 c27), (.int .i64 x28)]) ∧
 (Calls Tryz.prog 26 #[(.slice a27 l27 c27)] w29 fun e33 w32 =>
 ∃ a31, ∃ l31, ∃ c31, e33 = .returned (.slice a31 l31 c31) ∧
 (DrewK w32 fun w34 =>
 (0 ≤ x22 ∧ x22 < l31) ∧
 AddrK a31 fun b35 =>
 ∃ x36, w34.cell? (b35.add (x22.toNat * 1)) = some (.int .i64 x36) ∧
 ((0 ≤ x28 ∧ x28 < l31) ∧
 AddrK a31 fun b37 =>
 ∃ x38, w34.cell? (b37.add (x28.toNat * 1)) = some (.int .i64 x38) ∧
 (K (x36 == x38) w34)))))))))))))))))
def ann8 : Ann := (.two .nil (.two (.two .nil (.two (.two .nil .nil) .nil)) (.two .nil (.two .nil (.two .nil (.two (.anyC 10 (.take 0 (.take 1 (.take 2 (.take 3 (.take 4 (.take 5 (.take 6 (.take 7 (.take 8 (.take 9 .done))))))))))) .nil))))))
noncomputable def code8 : Code := match Tryz.f8.body with | some c => c | none => .skip
theorem calls8 (x1 : Int) (a2 : Option Addr) (l2 : Nat) (c2 : Nat) (x3 : Int) (a4 : Option Addr) (l4 : Nat) (c4 : Nat) (K : Bool → World → Prop) (w : World) (h : N8 x1 a2 l2 c2 x3 a4 l4 c4 K w) : Calls Tryz.prog 8 #[(.agg #[(.int .i64 x1), (.slice a2 l2 c2)]), (.agg #[(.int .i64 x3), (.slice a4 l4 c4)])] w fun en w' => ∃ (p39 : Bool), en = .returned (.bool p39) ∧ K p39 w' :=
 fn_calls tabOk mixed Tryz.func8 (by kernel_rfl : Tryz.f8.body = some code8) ann8 [(.agg #[(.int .i64 x1), (.slice a2 l2 c2)]), (.agg #[(.int .i64 x3), (.slice a4 l4 c4)])] [(.one .bool)] K w (by kernel_rfl) (by kernel_rfl) (by kernel_rfl) h
end Go.Proofs.YtbiamhoonhjodacGreatDoor

namespace Go.Proofs.YtbiamhoonhjodacGreatDoor
open Go Go.V Go.Proofs Go.V.Gr
open Go.RowKit (Below)
theorem ctr8 (w : World) (r r' : Int) (xs ys : List Nd) {a a' : Option Addr} {l l' : Nat} (c c' : Nat) (hx : RNds w a l xs) (hy : RNds w a' l' ys) (hlx : Lim xs) (hly : Lim ys) (ht : Tb w) :
  Calls Tryz.prog 8 #[.agg #[.int .i64 r, .slice a l c], .agg #[.int .i64 r', .slice a' l' c']] w fun en w' => ∃ p, en = .returned (.bool p) ∧ ((p = true ↔ GrOk r xs 1000 ∧ GrOk r' ys 1000 ∧ Eqv xs ys r.toNat r'.toNat) ∧ Ext w w') := by
 refine calls8 _ _ _ _ _ _ _ _ _ w ?_
 refine AllocK.mk fun b5 w6 hb5 hB5 x6 => AllocK.mk fun b7 w8 hb7 hB7 x8 => ?_
 have y8 := x6.trans x8
 obtain ⟨g0, g1, _⟩ := blkAt2 (hB5.ext x8)
 refine ⟨_, g0, _, _, _, g1, (ctr25 w8 r xs c (RNds.at hx y8)).mono ?_⟩
 rintro en w12 ⟨p, rfl, hp, x12⟩
 have y12 := y8.trans x12
 obtain ⟨k0, k1, _⟩ := blkAt2 (hB7.ext x12)
 refine ⟨_, rfl, BoolK.mk (fun t => ⟨not_iff_false fun e => ?_, y12⟩) (fun t => ⟨_, k0, _, _, _, k1, (ctr25 w12 r' ys c' (RNds.at hy y12)).mono ?_⟩)⟩
 ·rw [hp.2 e.1] at t; cases t
 have ok := hp.1 (by simpa using t)
 clear hp t p
 rintro en w17 ⟨p, rfl, hp, x17⟩
 have y17 := y12.trans x17
 refine ⟨_, rfl, BoolK.mk (fun t => ⟨not_iff_false fun e => ?_, y17⟩) (fun t => ?_)⟩
 ·rw [hp.2 e.2.1] at t; cases t
 have ok' := hp.1 (by simpa using t)
 clear hp t p
 have sx := ok.sz (by omega) hlx
 have sy := ok'.sz (by omega) hly
 have hm := ok.most; have hm' := ok'.most
 have hr := ok.root; have hr' := ok'.root
 obtain ⟨g0, g1, _⟩ := blkAt2 (hB5.ext ((x8.trans x12).trans x17))
 refine ⟨_, g0, _, _, _, g1, (ctr15 (w0 := w17) r c (JN.start w17) (RNds.at hx y17) sx (by simp) ok.closed (by omega)).mono ?_⟩
 rintro en w23 ⟨a21, l21, c21, x22, rfl, rfl, own1, RW1, J1, _⟩
 rw [app_nil] at J1
 have x23 := J1.loc.below
 obtain ⟨k0, k1, _⟩ := blkAt2 (hB7.ext ((x12.trans x17).trans x23))
 refine ⟨_, _, _, _, rfl, _, k0, _, _, _, k1, (ctr15 r' c' J1 (RNds.at hy y17) sy (by omega) ok'.closed (by omega)).mono ?_⟩
 rintro en w29 ⟨a27, l27, c27, x28, rfl, rfl, own2, RW2, J2, _⟩
 have x29 := J2.loc.below
 have sA := app_sz sx sy (by omega)
 refine ⟨_, _, _, _, rfl, (ctr26 w29 c27 (J2.rows (by rw [app_len]; simp only [maxLen]; omega)) (app_closed ok.closed ok'.closed) sA (app_w (ok.w hlx) (ok'.w hly)) (ht.ext (y17.trans x29))).mono ?_⟩
 rintro en w32 ⟨a31, l31, c31, rfl, cl, hcl, _, hO, x32⟩
 refine ⟨_, _, _, rfl, DrewK.mk fun w34 x34 => ?_⟩
 have hcll : cl.length = xs.length + ys.length := by rw [hcl.1, app_len]
 have hI : Ints w32 a31 l31 cl := OwnR.ints hO
 have hl31 := hI.1
 have e1 : ((([] : List Nd).length : Nat) : Int) + r = ((r.toNat : Nat) : Int) := by simp; omega
 have e2 : ((xs.length : Nat) : Int) + r' = ((xs.length + r'.toNat : Nat) : Int) := by omega
 rw [e1, e2]
 have q1 : r.toNat < cl.length := by omega
 have q2 : xs.length + r'.toNat < cl.length := by omega
 obtain ⟨b1, o1, h1, v1⟩ := (Rows.ext RInt.mono hI x34).get q1
 obtain ⟨b2, o2, h2, v2⟩ := (Rows.ext RInt.mono hI x34).get q2
 refine ⟨⟨by omega, by omega⟩, adK h1 ⟨ga cl r.toNat, by rw [Int.toNat_natCast, add_mk, ga_get q1]; simpa [RInt] using v1, ⟨by omega, by omega⟩, adK h2 ⟨ga cl (xs.length + r'.toNat), by rw [Int.toNat_natCast, add_mk, ga_get q2]; simpa [RInt] using v2, ?_, ((y17.trans x29).trans x32).trans x34⟩⟩⟩
 have key := hcl.2 r.toNat (xs.length + r'.toNat) (by rw [app_len]; omega) (by rw [app_len]; omega)
 rw [app_eqv ok.closed ok'.closed ok.lt ok'.lt] at key
 rw [beq_iff_eq]
 exact ⟨fun e => ⟨ok, ok', key.1 e⟩, fun e => key.2 e.2.2⟩
end Go.Proofs.YtbiamhoonhjodacGreatDoor
