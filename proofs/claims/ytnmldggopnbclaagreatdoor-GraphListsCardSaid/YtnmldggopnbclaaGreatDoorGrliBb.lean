/- A part of the proof: plain forms of functions and laws about them. -/
import Derived.Test.YtnmldggopnbclaaGreatDoorGrliBa
namespace Go.Proofs.YtnmldggopnbclaaGreatDoor
open Go Go.V Go.Proofs Go.V.Gr
open Go.RowKit (Below)
theorem RNds.at {w w' : World} {a : Option Addr} {l : Nat} {xs : List Nd} (h : RNds w a l xs) (x : Ext w w') : RNds w' a l xs := RL.ext RNd.mono h x
def restOf (n : Nat) (ord : List Nat) : List Nat := (List.range n).filter fun i => decide (i ∉ ord)
theorem rest_nodup (n : Nat) (ord : List Nat) : (restOf n ord).Nodup := List.nodup_range.filter _
theorem rest_mem {n i : Nat} {ord : List Nat} : i ∈ restOf n ord ↔ i < n ∧ i ∉ ord := by simp [restOf]
theorem rest_len (n : Nat) (ord : List Nat) : (restOf n ord).length ≤ n := by
 have := List.length_filter_le (fun i => decide (i ∉ ord)) (List.range n)
 simpa [restOf] using this
theorem rest_succ (n : Nat) (ord : List Nat) : restOf (n + 1) ord = if n ∈ ord then restOf n ord else restOf n ord ++ [n] := by
 rw [restOf, List.range_succ, List.filter_append]
 split <;> rename_i h <;> simp [h, restOf]
set_option maxRecDepth 100000 in
theorem ctr35 (w : World) {a1 : Option Addr} {l1 : Nat} (c1 : Nat) {xs : List Nd} (h : RNds w a1 l1 xs) (hc : Closed xs) (hz : Sz xs) (hw : ∀ x ∈ xs, NdW x) (ht : Tb w) :
  Calls Tryz.prog 35 #[.slice a1 l1 c1] w fun en w' => ∃ a l c, en = .returned (.slice a l c) ∧
   (∃ cl : List Int, Cls xs cl ∧ (∀ v ∈ cl, 0 ≤ v ∧ v ≤ 2000000) ∧ OwnR w.heap.size 3 1 eI w' a l c cl ∧ Ext w w') := by
 refine calls35 _ _ _ _ w ?_
 have hn := hz.len
 obtain rfl : l1 = xs.length := h.len
 have hnw : ∀ {i : Nat} (hi : i < xs.length), NdW xs[i] := fun hi => hw _ (List.getElem_mem hi)
 simp only [N35, Int.toNat_natCast]
 refine ⟨⟨by omega, by omega, by omega, by omega⟩, RowR.make (x := (0 : Int)) (enc := eI) rfl (by simp only [maxLen]; omega) (fun _ => (none : Option Nat)) 0 fun b2 w3 r2 u2 x3 hb2 => ?_⟩
 refine ⟨⟨by omega, by omega, by omega, by omega⟩, RowR.make (x := (⟨#[]⟩ : ByteArray)) (enc := eSt) rfl (by simp only [maxLen]; omega) (setOwn (fun _ => none) (some b2) 0) 1 fun b4 w5 r4 u4 x5 hb4 => ?_⟩
 have ca5 : CA w w5 _ xs.length b2 b4 (List.replicate xs.length 0) (List.replicate xs.length ⟨#[]⟩) := ⟨((Mine.refl w).upd u2).upd u4, r2.upd u4 (by decide), r4⟩
 refine ⟨fun i w' => ∃ (k : Nat) (own : OwnM Nat) (hs : List ByteArray), i = k ∧ k ≤ xs.length ∧ CA w w' own xs.length b2 b4 (List.replicate xs.length 0) hs ∧ ∀ j, j < k → ∃ s, hs[j]? = some s ∧ bl s = headK (nd xs j) ∧ s.size ≤ 200000000, fun i _ => xs.length - i.toNat,
  ⟨⟨0, _, _, rfl, by omega, ca5, fun j hj => by omega⟩, trivial⟩, ?_⟩
 rintro w8 _ ⟨k, own, hs, rfl, hk, ca, hhs⟩
 refine BoolK.mk (fun t => ?_) (fun t => ?_)
 ·have hlt : k < xs.length := by have := of_decide_eq_true t; omega
  have y := ca.loc.below
  obtain ⟨b12, ha, h0, h1, h2, h3, h4, ⟨a3, l3, c3, h5, h6⟩, ⟨a4, l4, c4, h7, h8⟩, _⟩ := ndAt h y hlt
  refine ⟨⟨by omega, by omega⟩, adK ha ⟨_, h0, _, h1, _, h2, _, _, _, h5, _, _, _, h7, ?_⟩⟩
  refine local5 fun b16 w22 hb16 hB16 x22 => ?_
  refine ⟨_, by rw [add_mk, hB16.cell]; rfl, _, by rw [add_mk, hB16.cell]; rfl, _, by rw [add_mk, hB16.cell]; rfl, _, _, _, by rw [add_mk, hB16.cell]; rfl, _, _, _, by rw [add_mk, hB16.cell]; rfl, ?_⟩
  refine (ctr63 w22 xs[k] c3 c4 (hnw hlt).hd (h6.ext RFt.mono x22) (ht.ext (y.trans x22))).mono ?_
  rintro en w29 ⟨s28, rfl, ⟨hs28, hz28⟩, x29⟩
  refine ⟨_, rfl, ⟨by omega, by omega⟩, ?_⟩
  refine ((ca.ext x22).ext x29).set_hs hlt s28 fun w31 ca31 => ?_
  rw [wrap_succ (by omega)]
  refine ⟨⟨k + 1, _, _, rfl, by omega, ca31, fun j hj => ?_⟩, by simp; omega⟩
  have hfl := (hnw hlt).hd.len
  rw [List.getElem?_set]
  by_cases e : k = j
  ·subst e
   exact ⟨s28, by rw [if_pos rfl, if_pos (by rw [ca.hsl]; exact hlt)], by rw [nd_get hlt]; exact hs28, by omega⟩
  ·rw [if_neg e]; exact hhs j (by omega)
 have hk2 : k = xs.length := by have := of_decide_eq_false t; omega
 subst hk2
 refine (ctr32 w8 c1 (RNds.at h ca.loc.below) hc hz).mono ?_
 rintro en w34 ⟨a32, l32, c32, a33, l33, c33, rfl, ord, ⟨ho, hnd⟩, hl, hf, x34⟩
 have hol : ord.length ≤ xs.length := by
  have := len_le_of_sub _ (List.range xs.length) hnd fun x hx => List.mem_range.2 (ho.lt x hx)
  simpa using this
 have fl34 : FRow own 3 eI w34 (a32, l32, c32) (zs ord) := FRow.of hl ca.loc.top
 have ff34 : FRow own 4 eB1 w34 (a33, l33, c33) ((List.range xs.length).map fun i => decide (i ∈ ord)) := FRow.of hf ca.loc.top
 have hl32 : l32 = ord.length := by have := hl.1; rw [zs_len] at this; exact this
 have hl33 : l33 = xs.length := by have := hf.1; simpa using this
 have ca34 := ca.ext x34
 refine ⟨_, _, _, _, _, _, rfl, ?_⟩
 obtain ⟨w37, bm, q37, mx37, u37, x37⟩ := Mx.new (P := Tryz.prog) (t := 63) eStr w34 0 own 2
 refine ⟨some bm, w37, q37, Bx.new (setOwn own (some bm) 2) 3 fun b38 w39 bx39 u39 x39 hb38 => bx39.set (by simp) fun w40 bx40 u40 => ?_⟩
 have ca40 := ((ca34.upd u37 (by decide)).upd u39 (by decide)).upd u40 (by decide)
 have fl40 := ((fl34.upd u37).upd u39).upd u40
 have ff40 := ((ff34.upd u37).upd u39).upd u40
 have mx40 := (mx37.upd u39 (by decide)).upd u40 (by decide)
 have bx40' : Bx (setOwn (setOwn own (some bm) 2) (some b38) 3) 3 w40 b38 #[.map (some bm)] 63 := by simpa using bx40
 have one : ∀ c ∈ (List.replicate xs.length (0 : Int)), 0 ≤ c ∧ c ≤ 1000000 := fun c hc => by rw [List.eq_of_mem_replicate hc]; omega
 refine ⟨fun i w' => ∃ (p : Nat) (own : OwnM Nat) (cl : List Int) (T : List ByteArray), i = p ∧ p ≤ ord.length ∧ CA w w' own xs.length b2 b4 cl hs ∧ FRow own 3 eI w' (a32, l32, c32) (zs ord) ∧ FRow own 4 eB1 w' (a33, l33, c33) ((List.range xs.length).map fun i => decide (i ∈ ord)) ∧
   Mx own 2 eStr w' bm T 0 ∧ Bx own 3 w' b38 #[.map (some bm)] 63 ∧ Numd T (keyF xs (ga cl)) (ga cl) 0 (ord.take p) ∧ T.length ≤ p ∧ ∀ c ∈ cl, 0 ≤ c ∧ c ≤ 1000000, fun i _ => ord.length - i.toNat,
  ⟨⟨0, _, _, _, rfl, by omega, ca40, fl40, ff40, mx40, bx40', fun i hi => by simp at hi, by simp, one⟩, trivial⟩, ?_⟩
 clear ca40 fl40 ff40 mx40 bx40' bx40 u40 u39 u37 x37 x39 mx37 bx39 q37 ca34 fl34 ff34 ca5 r2 r4 u2 u4 x3 x5 ca t one
 rintro w43 _ ⟨p, own, cl, T, rfl, hp, ca, fl, ff, mx, bx, hnum, hTl, hcb⟩
 refine BoolK.mk (fun t => ?_) (fun t => ?_)
 ·have hlt : p < ord.length := by have := of_decide_eq_true t; omega
  obtain ⟨g, e1, e2⟩ := fl.at_ eI_len (i := p) (by rw [zs_len]; exact hlt)
  have e3 : (eI ((zs ord)[p]'(by rw [zs_len]; exact hlt)))[0]? = some (.int .i64 ((ord[p] : Nat) : Int)) := by simp [eI, zs]
  refine ⟨⟨by omega, by omega⟩, adK e1 ⟨_, e2.trans e3, DrewK.mk fun w47 x47 => ?_⟩⟩
  have hx : ord[p]? = some ord[p] := List.getElem?_eq_getElem hlt
  have hxl := ho.lt _ (List.getElem_mem hlt)
  generalize ord[p] = x at hx hxl e3
  have ca := ca.ext x47
  have y := ca.loc.below
  obtain ⟨s48, hs1, hs2, hs3⟩ := hhs x hxl
  have g48 := ca.get_hs hxl
  rw [List.getElem?_eq_getElem (by rw [ca.hsl]; exact hxl)] at hs1
  rw [Option.some.inj hs1] at g48
  obtain ⟨b12, ha, _, _, _, _, _, _, ⟨a4, l4, c4, h7, h8⟩, _⟩ := ndAt h y hxl
  refine ⟨⟨by omega, by omega⟩, s48, g48, ⟨by omega, by omega⟩, adK ha ⟨_, _, _, h7, ?_⟩⟩
  have hks := hz.ks _ (List.getElem_mem hxl)
  refine (ctr65 w47 s48 c4 xs.length (by omega) h8 (by omega) (OwnR.ints ca.cl.1) (fun k hk => by rw [ca.cll]; exact hc _ (List.getElem_mem hxl) k hk) (fun c hc => by have := hcb c hc; omega) (ht.ext y)).mono ?_
  rintro en w52 ⟨s51, rfl, hs51, x52⟩
  rw [ints_kc hxl, hs2] at hs51
  have hsz : s51.size ≤ 300000000 := by
   have h1 := bl_size s48
   have h2 := kidsK_len (cs := kc xs (ga cl) x) (fun c hc => by
    obtain ⟨k, _, rfl⟩ := List.mem_map.1 hc
    have := ga_mem (P := fun c => 0 ≤ c ∧ c ≤ 1000000) ⟨by omega, by omega⟩ hcb k
    exact ⟨by omega, by omega⟩)
   rw [kc_len, nd_get hxl] at h2
   rw [← bl_size, hs51, List.length_append, ← hs2]; omega
  have sz1 : ∀ (p q : ByteArray), (p ++ q).size = p.size + q.size := fun p q => by rw [← bl_size, ← bl_size, ← bl_size, bl_append, List.length_append]
  have ca := ca.ext x52
  have mx := (mx.ext x47).ext x52
  have bx := (bx.ext x47).ext x52
  refine ⟨_, rfl, by rw [i64max]; show ((2 + s51.size : Nat) : Int) ≤ _; omega, Tryz.call64, ?_⟩
  refine (ctr64 mx bx ((⟨#[102, 32]⟩ : ByteArray) ++ s51)).mono ?_
  rintro en w55 ⟨_, rfl, v, T', rfl, hv, hT, mx', u55⟩
  refine ⟨_, rfl, ⟨by omega, by omega⟩, ?_⟩
  refine (ca.upd u55 (by decide)).set_cl hxl _ fun w57 ca57 u57 => ?_
  have hbl : bl ((⟨#[102, 32]⟩ : ByteArray) ++ s51) = keyF xs (ga cl) x := by
   rw [bl_append, hs51, keyF]
   show [102, 32] ++ (_ ++ _) = _
   rfl
  have hnum' : Numd T' (keyF xs (ga cl)) (ga cl) 0 (ord.take p) := by
   rcases hT with rfl | ⟨rfl, _⟩
   ·exact hnum
   ·exact hnum.grow _
  have hTl' : T'.length ≤ p + 1 := by
   rcases hT with rfl | ⟨rfl, _⟩
   ·omega
   ·simp; omega
  have hvl := (List.getElem?_eq_some_iff.1 hv).1
  rw [wrap_succ (by omega)]
  refine ⟨⟨p + 1, _, _, T', rfl, by omega, ca57, (((fl.ext x47).ext x52).upd u55).upd u57, (((ff.ext x47).ext x52).upd u55).upd u57, mx'.upd u57 (by decide), (bx.upd u55 (by decide)).upd u57 (by decide),
   hnum'.flat ho hnd hx (by rw [ca.cll]; exact hxl) hv hbl, hTl', fun c hc => ?_⟩, by simp; omega⟩
  rcases List.mem_or_eq_of_mem_set hc with hc | rfl
  ·exact hcb c hc
  ·omega
 have hp2 : p = ord.length := by have := of_decide_eq_false t; omega
 subst hp2
 rw [List.take_length] at hnum
 have hflat := hnum.right mx.num.nodup ho fun x hx => (hw x hx).key.kd
 have hlow : ∀ i ∈ ord, 0 ≤ ga cl i ∧ ga cl i < T.length := fun i hi => by
  obtain ⟨q, s, e1, e2, _⟩ := hnum i hi
  have := (List.getElem?_eq_some_iff.1 e2).1
  omega
 refine ⟨some bm, by rw [bx.blk.cell]; rfl, _, _, mx.num.len mtS _, ?_⟩
 refine ⟨fun a l c i w' => ∃ (k : Nat) (own : OwnM Nat), i = k ∧ k ≤ xs.length ∧ CA w w' own xs.length b2 b4 cl hs ∧ FRow own 4 eB1 w' (a33, l33, c33) ((List.range xs.length).map fun i => decide (i ∈ ord)) ∧ RowR own 6 3 1 eI w' (a, l, c) (zs (restOf k ord)), fun _ _ _ i _ => xs.length - i.toNat,
  ⟨⟨0, _, rfl, by omega, ca, ff, RowR.nil _ _ _ _ _ _⟩, trivial⟩, ?_⟩
 rintro w63 a64 l64 c64 _ ⟨k, own2, rfl, hk, ca, ff, rr⟩
 refine BoolK.mk (fun t => ?_) (fun t => ?_)
 ·have hlt : k < xs.length := by have := of_decide_eq_true t; omega
  obtain ⟨g, e1, e2⟩ := ff.at_ eB1_len (i := k) (by simpa using hlt)
  have e3 : (eB1 (((List.range xs.length).map fun i => decide (i ∈ ord))[k]'(by simpa using hlt)))[0]? = some (.bool (decide (k ∈ ord))) := by simp [eB1]
  refine ⟨⟨by omega, by omega⟩, adK e1 ⟨_, e2.trans e3, ?_⟩⟩
  have hrl := rest_len k ord
  refine BoolK.mk (fun t1 => ?_) (fun t1 => ?_)
  ·have t1 : k ∉ ord := by simpa using t1
   refine RowR.push ((k : Nat) : Int) sltI rr eI_len eI_one (by rw [zs_len]; omega) rfl fun s' w71 h1 u71 => ?_
   rw [wrap_succ (by omega)]
   refine ⟨⟨k + 1, _, rfl, by omega, ca.upd u71 (by decide), ff.upd u71, ?_⟩, by simp; omega⟩
   rw [rest_succ, if_neg t1, zs_snoc]; exact h1
  ·have t1 : k ∈ ord := by simpa using t1
   rw [wrap_succ (by omega)]
   refine ⟨⟨k + 1, _, rfl, by omega, ca, ff, ?_⟩, by simp; omega⟩
   rw [rest_succ, if_pos t1]; exact rr
 have hk2 : k = xs.length := by have := of_decide_eq_false t; omega
 subst hk2
 have hTb : T.length ≤ 1000000 := by omega
 have hll : l64 = (restOf xs.length ord).length := by have := rr.len; rw [zs_len] at this; exact this
 have hrl := rest_len xs.length ord
 have hrn := rest_nodup xs.length ord
 have hrm : ∀ {i : Nat}, i ∈ restOf xs.length ord ↔ i < xs.length ∧ i ∉ ord := rest_mem
 clear fl ff mx bx
 generalize hR : restOf xs.length ord = R at rr hll hrl hrn hrm
 generalize hB : T.length = base at hlow hTb
 have ri0 : RInv xs ord base 0 (ga cl) := ⟨hflat, hlow, .inl rfl⟩
 have cb0 : ∀ c ∈ cl, 0 ≤ c ∧ c ≤ 2000000 := fun c hc => by have := hcb c hc; omega
 refine ⟨fun x w' => ∃ (cnt : Nat) (own : OwnM Nat) (cl : List Int), x = cnt ∧ CA w w' own xs.length b2 b4 cl hs ∧ RowR own 6 3 1 eI w' (a64, l64, c64) (zs R) ∧ RInv xs ord base cnt (ga cl) ∧ (∀ c ∈ cl, 0 ≤ c ∧ c ≤ 2000000) ∧ cnt ≤ R.length, fun x _ => R.length - x.toNat,
  ⟨⟨0, _, _, rfl, ca, rr, ri0, cb0, by omega⟩, trivial⟩, ?_⟩
 clear ca rr ri0 cb0 hcb hlow hflat hnum ff
 rintro w74 _ ⟨cnt, own, cl, rfl, ca, rr, ri, hcb, hcR⟩
 obtain ⟨w77, bm2, q77, mx77, u77, x77⟩ := Mx.new (P := Tryz.prog) (t := 63) eStr w74 (base : Int) own 7
 have ca77 := ca.upd u77 (by decide)
 have rr77 := rr.upd u77 (by decide)
 refine ⟨some bm2, w77, q77, ⟨by omega, by omega, by omega, by omega⟩, RowR.make (x := (0 : Int)) (enc := eI) rfl (by simp only [maxLen]; omega) (setOwn own (some bm2) 7) 8 fun b78 w79 r79 u79 x79 hb78 => ?_⟩
 have r79' : RowR (setOwn (setOwn own (some bm2) 7) (some b78) 8) 8 3 1 eI w79 (some ⟨b78, 0, none⟩, l64, l64) (List.replicate R.length 0) := by rw [← hll]; exact r79
 refine ⟨fun x w' => ∃ (j : Nat) (own : OwnM Nat) (N : List ByteArray) (fr : List Int), x = j ∧ j ≤ R.length ∧ CA w w' own xs.length b2 b4 cl hs ∧ RowR own 6 3 1 eI w' (a64, l64, c64) (zs R) ∧ Mx own 7 eStr w' bm2 N (base : Int) ∧ RowR own 8 3 1 eI w' (some ⟨b78, 0, none⟩, l64, l64) fr ∧
   fr.length = R.length ∧ NumR N (keyN xs (ga cl) cnt) R fr base j, fun x _ => R.length - x.toNat,
  ⟨⟨0, _, [], _, rfl, by omega, ca77.upd u79 (by decide), rr77.upd u79 (by decide), mx77.upd u79 (by decide), r79', by simp, ⟨fun a ha => by omega, fun q hq => by simp at hq, by simp⟩⟩, trivial⟩, ?_⟩
 clear ca77 rr77 mx77 r79 r79' u79 u77 x77 x79 q77 ca rr
 rintro w82 _ ⟨j, own, N, fr, rfl, hj, ca, rr, mx, fw, hfrl, hN⟩
 refine BoolK.mk (fun t => ?_) (fun t => ?_)
 ·have hlt : j < R.length := by have := of_decide_eq_true t; omega
  obtain ⟨b84, e1, e2⟩ := row_get rr hlt
  have hxm := hrm.1 (List.getElem_mem hlt)
  have hxl := hxm.1
  have hRj : R[j]?.getD 0 = R[j] := by rw [List.getElem?_eq_getElem hlt]; rfl
  refine ⟨⟨by omega, by omega⟩, adK e1 ⟨_, e2, ⟨by omega, by omega⟩, _, ca.get_cl hxl, ?_⟩⟩
  generalize R[j] = x at hRj hxl hxm
  have hcx := ga_mem (P := fun c => 0 ≤ c ∧ c ≤ 2000000) ⟨by omega, by omega⟩ hcb x
  have hi64 : i64 (ga cl x) := ⟨by omega, by omega⟩
  have y := ca.loc.below
  refine (ctr55 w82 hi64 (ht.ext y)).mono ?_
  rintro en w88 ⟨s87, rfl, hs87, x88⟩
  have z87 : s87.size ≤ 21 := by rw [← bl_size, hs87]; exact itoa_len hi64
  have sz1 : ∀ (p q : ByteArray), (p ++ q).size = p.size + q.size := fun p q => by rw [← bl_size, ← bl_size, ← bl_size, bl_append, List.length_append]
  refine ⟨_, rfl, by rw [i64max]; show ((s87.size + 1 : Nat) : Int) ≤ _; omega, ?_⟩
  refine ⟨fun s' w' => bl s' = keyN xs (ga cl) cnt x ∧ CA w w' own xs.length b2 b4 cl hs ∧ RowR own 6 3 1 eI w' (a64, l64, c64) (zs R) ∧ Mx own 7 eStr w' bm2 N (base : Int) ∧ RowR own 8 3 1 eI w' (some ⟨b78, 0, none⟩, l64, l64) fr, ?_, ?_⟩
  ·rintro w91 s92 ⟨hs92, ca, rr, mx, fw⟩
   obtain ⟨v, ok, q1, q2⟩ := mx.num.look2 (P := Tryz.prog) mtS s92
   refine ⟨_, _, _, q1, ?_⟩
   have hNl := hN.len
   rcases q2 with ⟨i, f1, rfl, rfl⟩ | ⟨hnin, rfl, rfl⟩
   ·refine BoolK.mk (fun t => by cases t) (fun _ => ⟨⟨by omega, by omega⟩, ?_⟩)
    refine RowR.seti fw (by omega) _ fun w100 f100 u100 => ?_
    rw [wrap_succ (by omega)]
    refine ⟨⟨j + 1, own, N, _, rfl, by omega, ca.upd u100 (by decide), rr.upd u100 (by decide), mx.upd u100 (by decide), f100, by simpa using hfrl, ?_⟩, by simp; omega⟩
    have := hN.put (v := i) (s := s92) (by omega) (.inl rfl) f1 (by rw [hRj]; exact hs92)
    rw [Int.natCast_add] at this; exact this
   ·refine BoolK.mk (fun _ => ?_) (fun t => by cases t)
    have eb : IntKind.wrap .i64 ((base : Int) + ((N.length : Nat) : Int)) = (base : Int) + ((N.length : Nat) : Int) := wrap_id (by omega) (by omega)
    refine ⟨_, _, mx.num.len mtS _, ?_⟩
    rw [eb]
    obtain ⟨w98, r1, r2, r3⟩ := mx.add (P := Tryz.prog) mtS (a := s92) (v := (base : Int) + (N.length : Nat)) rfl hnin
    refine ⟨w98, r1, ⟨by omega, by omega⟩, ?_⟩
    refine RowR.seti (fw.upd r3 (by decide)) (by omega) _ fun w99 f99 u99 => ?_
    rw [wrap_succ (by omega)]
    refine ⟨⟨j + 1, own, _, _, rfl, by omega, (ca.upd r3 (by decide)).upd u99 (by decide), (rr.upd r3 (by decide)).upd u99 (by decide), r2.upd u99 (by decide), f99, by simpa using hfrl, ?_⟩, by simp; omega⟩
    have := hN.put (v := N.length) (T' := N ++ [s92]) (s := s92) (by omega) (.inr ⟨rfl, rfl⟩) (by simp) (by rw [hRj]; exact hs92)
    rw [Int.natCast_add] at this; exact this
  ·have ca8 := ca.ext x88
   have y8 := ca8.loc.below
   refine BoolK.mk (fun t1 => ?_) (fun t1 => ?_)
   ·have t1 : cnt = 0 := by have := eq_of_beq t1; omega
    obtain ⟨s48, hs1, hs2, hs3⟩ := hhs x hxl
    have g48 := ca8.get_hs hxl
    rw [List.getElem?_eq_getElem (by rw [ca8.hsl]; exact hxl)] at hs1
    rw [Option.some.inj hs1] at g48
    exact ⟨⟨by omega, by omega⟩, s48, g48, by rw [keyN, if_pos t1]; exact hs2, ca8, rr.ext x88, mx.ext x88, fw.ext x88⟩
   ·have t1 : cnt ≠ 0 := by
     rw [beq_eq_false_iff_ne] at t1; omega
    obtain ⟨b12, ha, _, _, _, _, _, _, ⟨a4, l4, c4, h7, h8⟩, _⟩ := ndAt h y8 hxl
    have hks := hz.ks _ (List.getElem_mem hxl)
    refine ⟨⟨by omega, by omega⟩, adK ha ⟨_, _, _, h7, ?_⟩⟩
    rw [← hll] at *
    refine (ctr65 w88 (s87 ++ (⟨#[32]⟩ : ByteArray)) c4 xs.length (by rw [sz1]; show s87.size + 1 ≤ _; omega) h8 (by omega) (OwnR.ints ca8.cl.1) (fun k hk => by rw [ca8.cll]; exact hc _ (List.getElem_mem hxl) k hk) (fun c hc => by have := hcb c hc; omega) (ht.ext y8)).mono ?_
    rintro en w105 ⟨s104, rfl, hs104, x105⟩
    rw [ints_kc hxl, bl_append, hs87] at hs104
    refine ⟨_, rfl, ?_, ca8.ext x105, (rr.ext x88).ext x105, (mx.ext x88).ext x105, (fw.ext x88).ext x105⟩
    rw [keyN, if_neg t1, hs104, keyR]
    show (_ ++ [32]) ++ _ = _
    simp
 have hj2 : j = R.length := by have := of_decide_eq_false t; omega
 subst hj2
 refine ⟨fun x w' => ∃ (j : Nat) (own : OwnM Nat) (cl' : List Int), x = j ∧ j ≤ R.length ∧ CA w w' own xs.length b2 b4 cl' hs ∧ RowR own 6 3 1 eI w' (a64, l64, c64) (zs R) ∧ Mx own 7 eStr w' bm2 N (base : Int) ∧ RowR own 8 3 1 eI w' (some ⟨b78, 0, none⟩, l64, l64) fr ∧
   (∀ a, a < j → ∀ i, R[a]? = some i → ga cl' i = ga fr a) ∧ (∀ i, (∀ a, a < j → R[a]? ≠ some i) → ga cl' i = ga cl i) ∧ ∀ c ∈ cl', 0 ≤ c ∧ c ≤ 2000000, fun x _ => R.length - x.toNat,
  ⟨⟨0, own, cl, rfl, by omega, ca, rr, mx, fw, fun a ha => by omega, fun i _ => rfl, hcb⟩, trivial⟩, ?_⟩
 clear ca rr fw t
 have hNn := mx.num.nodup
 clear mx
 rintro w109 _ ⟨j, own, cl', rfl, hj, ca, rr, mx, fw, hA, hA2, hcb'⟩
 refine BoolK.mk (fun t => ?_) (fun t => ?_)
 ·have hlt : j < R.length := by have := of_decide_eq_true t; omega
  obtain ⟨b84, e1, e2⟩ := row_get rr hlt
  have hxm := hrm.1 (List.getElem_mem hlt)
  have hRj : R[j]? = some R[j] := List.getElem?_eq_getElem hlt
  refine ⟨⟨by omega, by omega⟩, adK e1 ⟨_, e2, ⟨by omega, by omega⟩, _, RowR.geti fw (by omega), ⟨by omega, by omega⟩, ?_⟩⟩
  refine ca.set_cl hxm.1 _ fun w114 ca114 u114 => ?_
  rw [wrap_succ (by omega)]
  obtain ⟨q, s, g1, g2, _⟩ := hN.num j hlt
  have hq := (List.getElem?_eq_some_iff.1 g2).1
  have hNl := hN.len
  refine ⟨⟨j + 1, own, _, rfl, by omega, ca114, rr.upd u114 (by decide), mx.upd u114 (by decide), fw.upd u114 (by decide), fun a ha i hi => ?_, fun i hi => ?_, fun c hc => ?_⟩, by simp; omega⟩
  ·rw [ga_set (by rw [ca.cll]; exact hxm.1)]
   by_cases e : a = j
   ·subst e; rw [hRj] at hi; cases hi; rw [if_pos rfl]
   ·rw [if_neg, hA a (by omega) i hi]
    rintro rfl
    exact e (nodup_idx hrn hi hRj)
  ·rw [ga_set (by rw [ca.cll]; exact hxm.1), if_neg, hA2 i fun a ha => hi a (by omega)]
   rintro rfl
   exact hi j (by omega) hRj
  ·rcases List.mem_or_eq_of_mem_set hc with hc | rfl
   ·exact hcb' c hc
   ·rw [g1]; omega
 have hj2 : j = R.length := by have := of_decide_eq_false t; omega
 subst hj2
 have num : ∀ i, i < xs.length → i ∉ ord → ∃ (q : Nat) (s : ByteArray), ga cl' i = base + q ∧ N[q]? = some s ∧ bl s = keyN xs (ga cl) cnt i := fun i hi ni => by
  obtain ⟨a, ha⟩ := List.getElem?_of_mem (hrm.2 ⟨hi, ni⟩)
  have hal := (List.getElem?_eq_some_iff.1 ha).1
  obtain ⟨q, s, g1, g2, g3⟩ := hN.num a hal
  rw [ha] at g3
  exact ⟨q, s, by rw [hA a hal i ha]; exact g1, g2, g3⟩
 have hit : ∀ q, q < N.length → ∃ i, i < xs.length ∧ i ∉ ord ∧ ga cl' i = base + (q : Nat) := fun q hq => by
  obtain ⟨a, ha, e⟩ := hN.hit q hq
  have hm := hrm.1 (List.getElem_mem ha)
  exact ⟨R[a], hm.1, hm.2, by rw [hA a ha _ (List.getElem?_eq_getElem ha)]; exact e⟩
 have hfl : ∀ i ∈ ord, ga cl' i = ga cl i := fun i hi => hA2 i fun a ha e => (hrm.1 (List.mem_of_getElem? e)).2 hi
 obtain ⟨done, go⟩ := ri.round ho hc (fun x hx => (hw x hx).key) hNn hfl num hit
 refine ⟨_, _, mx.num.len mtS _, ?_⟩
 have hNl := hN.len
 refine BoolK.mk (fun t1 => ?_) (fun t1 => ?_)
 ·have t1 : N.length = cnt := by have := eq_of_beq t1; omega
  exact ⟨cl', ⟨ca.cll, fun i j hi hj => done t1 i j hi hj⟩, hcb', Mine.own ca.cl ca.loc, ca.loc.below⟩
 ·have t1 : N.length ≠ cnt := by rw [beq_eq_false_iff_ne] at t1; omega
  obtain ⟨g1, g2⟩ := go t1
  exact ⟨_, _, mx.num.len mtS _, ⟨N.length, own, cl', rfl, ca, rr, g2, hcb', by omega⟩, by simp; omega⟩
end Go.Proofs.YtnmldggopnbclaaGreatDoor

namespace Go.V
open Go.RowKit (Below)
def cutW (w : World) (keep : Nat → Bool) : World := { w with heap := w.heap.mapIdx fun i o => if keep i then o else .cells #[] 0 }
theorem cutW_block (w : World) (keep : Nat → Bool) (k : Nat) : (cutW w keep).heap[k]? = (w.heap[k]?).map fun o => if keep k then o else .cells #[] 0 := by
 simp [cutW, Array.getElem?_mapIdx]
theorem cutW_cell {w : World} {keep : Nat → Bool} {p : Addr} (h : keep p.block = true) : (cutW w keep).cell? p = w.cell? p := by
 refine World.cell?_of_block ?_
 rw [cutW_block, h]; cases w.heap[p.block]? <;> simp
theorem cutW_cel {w w' : World} {keep : Nat → Bool} (h : ∀ k, keep k = true → k < w.heap.size → w'.heap[k]? = w.heap[k]?) : Cel (cutW w keep) w' := by
 intro p v hp
 by_cases hk : keep p.block = true
 ·rw [cutW_cell hk] at hp
  rw [World.cell?_of_block (h _ hk (block_lt_of_cell hp))]; exact hp
 ·exfalso
  have hb := cutW_block w keep p.block
  rw [if_neg_map hk] at hb
  unfold World.cell? at hp
  cases hw : w.heap[p.block]? with
  | none => rw [hb, hw] at hp; simp at hp
  | some o => rw [hb, hw] at hp; simp at hp
where
 if_neg_map {w : World} {keep : Nat → Bool} {p : Addr} (hk : ¬ keep p.block = true) : ((w.heap[p.block]?).map fun o => if keep p.block = true then o else Obj.cells #[] 0) = (w.heap[p.block]?).map fun _ => Obj.cells #[] 0 := by
  rw [Bool.not_eq_true] at hk; simp [hk]
theorem copyInto {α : Type} {P : Program} {t ty e : TypeId} {sz bytes b0 : Nat} {enc : α → List Value} {R : World → Cells → α → Prop} {w : World} {a : Option Addr} {l c : Nat} {xs : List α} (H : SlT P t e sz bytes) (h : Rows sz R w a l xs) (ha : a ≠ none)
  (he : ∀ x, (enc x).length = sz) (h1 : ∀ x u, u ∈ enc x → u.oneCell' = true) (hR : ∀ f x, R w f x → ∀ j, j < sz → f j = (enc x)[j]?) (hlen : xs.length * bytes ≤ 140737488355328) (hb : Blk w b0 #[] e) :
  ∃ a' c' w', Sem.run P (Builtin.append_ #[t, t] ty #[.slice (some ⟨b0, 0, none⟩) 0 0, .slice a l c]) w = .ok (.slice a' l c') w' ∧ OwnR b0 e sz enc w' a' l c' xs ∧ w.grownBy w' (some b0) := by
 obtain ⟨rfl, hx⟩ := h
 obtain ⟨p, rfl⟩ : ∃ p, a = some p := by cases a with | none => exact absurd rfl ha | some p => exact ⟨p, rfl⟩
 have hc : ∀ j u, (xs.flatMap enc)[j]? = some u → w.cell? (p.add j) = some u := by
  intro j u hu
  rcases hx with rfl | ⟨b, o, ha, hx⟩
  ·simp at hu
  ·simp at ha; subst ha
   rw [add_mk]
   have hj : j < xs.length * sz := by rw [← enc_len he]; exact (List.getElem?_eq_some_iff.1 hu).1
   have hi : j / sz < xs.length := Nat.div_lt_of_lt_mul (by rw [Nat.mul_comm]; exact hj)
   have hm : j % sz < sz := Nat.mod_lt _ H.pos
   have hjj : j / sz * sz + j % sz = j := Nat.div_add_mod' j sz
   have := hR _ _ (hx (j / sz) _ (List.getElem?_eq_getElem hi)) (j % sz) hm
   rw [Nat.add_assoc, hjj] at this
   rw [this, ← enc_get he (List.getElem?_eq_getElem hi) hm, hjj]; exact hu
 have hO : OwnR b0 e sz enc w (some ⟨b0, 0, none⟩) 0 0 ([] : List α) := ⟨rfl, by simp, .inr ⟨b0, 0, #[], rfl, Nat.le_refl _, hb, Nat.le_refl _, by simp [maxLen], by simp, by simp⟩⟩
 obtain ⟨a', c', w', q1, q2, q3, _⟩ := OwnR.appendN (ty := ty) H (xs := []) (ys := xs) hO (Nat.le_of_lt hb.lt) he h1 p c hc (by simpa using hlen)
 simp only [List.length_nil, Nat.zero_add, List.nil_append] at q1 q2
 exact ⟨a', c', w', q1, q2, q3⟩
end Go.V

namespace Go.Proofs.YtnmldggopnbclaaGreatDoor
open Go Go.V Go.Proofs
open Go.RowKit (Below)
/-! slices.Clone[[]manystrand/api.Feat,manystrand/api.Feat] -/
def N37 (a1 : Option Addr) (l1 : Nat) (c1 : Nat) (K : Option Addr → Nat → Nat → World → Prop) (w : World) : Prop :=
 BoolK a1.isNone
 (K none 0 0 w)
 (AllocK w (#[]) 41 fun b2 w3 =>
 ∃ a4, ∃ l4, ∃ c4, ∃ w5, Sem.run Tryz.prog (Builtin.append_ #[36, 36] 36 #[(.slice (some b2) 0 0), (.slice a1 l1 c1)]) w3 = .ok (.slice a4 l4 c4) w5 ∧
 (K a4 l4 c4 w5))
def ann37 : Ann := (.two .nil (.two (.two .nil (.two (.two .nil .nil) .nil)) (.two .nil .nil)))
noncomputable def code37 : Code := match Tryz.f37.body with | some c => c | none => .skip
theorem calls37 (a1 : Option Addr) (l1 : Nat) (c1 : Nat) (K : Option Addr → Nat → Nat → World → Prop) (w : World) (h : N37 a1 l1 c1 K w) : Calls Tryz.prog 37 #[(.slice a1 l1 c1)] w fun en w' => ∃ (a6 : Option Addr), ∃ (l6 : Nat), ∃ (c6 : Nat), en = .returned (.slice a6 l6 c6) ∧ K a6 l6 c6 w' :=
 fn_calls tabOk mixed Tryz.func37 (by kernel_rfl : Tryz.f37.body = some code37) ann37 [(.slice a1 l1 c1)] [(.one .slice)] K w (by kernel_rfl) (by kernel_rfl) (by kernel_rfl) h
end Go.Proofs.YtnmldggopnbclaaGreatDoor

namespace Go.Proofs.YtnmldggopnbclaaGreatDoor
open Go Go.V Go.Proofs Go.V.Gr
open Go.RowKit (Below)
def eFt (f : Ft) : List Value := [.int .i64 f.1, .string f.2]
theorem eFt_len (f : Ft) : (eFt f).length = 2 := rfl
theorem eFt_one (f : Ft) (u : Value) (h : u ∈ eFt f) : u.oneCell' = true := by simp [eFt] at h; rcases h with rfl | rfl <;> rfl
theorem sltF : SlT Tryz.prog 36 41 2 24 := slOk.ok (by kernel_rfl : slOk Tryz.prog 36 41 2 24 = true)
theorem sltN : SlT Tryz.prog 23 39 5 88 := slOk.ok (by kernel_rfl : slOk Tryz.prog 23 39 5 88 = true)
theorem mtI : MapT Tryz.prog 79 3 3 eK eK 0 := ⟨Tryz.underlying79, keyInt Tryz.underlying3, Tryz.zeroValue3⟩
theorem ctr37 (w : World) {a : Option Addr} {l : Nat} (c : Nat) {fs : List Ft} (h : RL 2 RFt w a l fs) (hl : fs.length ≤ 1000000) :
  Calls Tryz.prog 37 #[.slice a l c] w fun en w' => ∃ a' l' c', en = .returned (.slice a' l' c') ∧ (OwnR w.heap.size 41 2 eFt w' a' l' c' fs ∧ Ext w w') := by
 refine calls37 _ _ _ _ w ?_
 refine BoolK.mk (fun t => ?_) (fun t => ?_)
 ·have : fs = [] := by
   rcases h.1.2 with e | ⟨b, o, e, _⟩
   ·exact e
   ·rw [e] at t; cases t
  subst this
  exact ⟨OwnR.nil _ _ _ _ _, Ext.refl w⟩
 ·refine AllocK.mk fun b w3 hb hB x3 => ?_
  have hR : ∀ f x, RFt w3 f x → ∀ j, j < 2 → f j = (eFt x)[j]? := fun f x hx j hj => by
   rcases j with _ | _ | j
   ·exact hx.1
   ·exact hx.2.1
   ·omega
  obtain ⟨a', c', w', q1, q2, q3⟩ := copyInto (ty := 36) (c := c) sltF (h.1.ext RFt.mono x3) (by rintro rfl; cases t) eFt_len eFt_one hR (by omega) hB
  refine ⟨_, _, _, _, q1, ?_, ?_⟩
  ·exact OwnR.mono q2 (by omega)
  ·exact ⟨q3.os.trans x3.os, q3.tape.trans x3.tape, q3.output.trans x3.output, Nat.le_trans x3.size q3.size, fun k hk => (q3.block k (by have := x3.size; omega) (by simp; omega)).trans (x3.block k hk)⟩
structure Rw where
 kd : ByteArray
 n : Int
 tx : ByteArray
 sf : SL
 sk : SL
def eN (r : Rw) : List Value := [.string r.kd, .int .i64 r.n, .string r.tx, .slice r.sf.1 r.sf.2.1 r.sf.2.2, .slice r.sk.1 r.sk.2.1 r.sk.2.2]
theorem eN_len (r : Rw) : (eN r).length = 5 := rfl
theorem eN_one (r : Rw) (u : Value) (h : u ∈ eN r) : u.oneCell' = true := by
 simp [eN] at h; rcases h with rfl | rfl | rfl | rfl | rfl <;> rfl
structure Pl where
 b3 : Nat
 b11 : Nat
 b16 : Nat
 b19 : Nat
 b21 : Nat
 bm : Nat
 a1 : Option Addr
 l1 : Nat
 c1 : Nat
 sc : SL
def Pl.fn (p : Pl) : Value := .func (.func 36) #[] #[(.pointer (some ⟨p.b16, 0, none⟩)), (.pointer (some ⟨p.b11, 0, none⟩)), (.pointer (some ⟨p.b19, 0, none⟩)), (.pointer (some ⟨p.b3, 0, none⟩)), (.pointer (some ⟨p.b21, 0, none⟩))]
structure VS (w0 w : World) (own : OwnM Nat) (p : Pl) (xs : List Nd) (cl : List Int) (vs : List Nat) (RW : List Rw) (s : SL) (K : List (List Int)) (mk : List Int) : Prop where
 loc : Mine own w0 w
 x3 : Bx own 4 w p.b3 #[.slice p.a1 p.l1 p.c1] 23
 x11 : Bx own 5 w p.b11 #[.slice p.sc.1 p.sc.2.1 p.sc.2.2] 37
 x16 : Bx own 6 w p.b16 #[.map (some p.bm)] 79
 x21 : Bx own 7 w p.b21 #[p.fn] 80
 x19 : Bx own 2 w p.b19 #[.int .i64 0, .slice s.1 s.2.1 s.2.2] 25
 cls : FRow own 3 eI w p.sc cl
 map : Mx own 1 eK w p.bm mk 0
 out : RowR own 0 39 5 eN w s RW
 lenR : RW.length = vs.length
 lenK : K.length = vs.length
 nds : ∀ (q : Nat) (r : Rw) (v : Nat) (k : List Int), RW[q]? = some r → vs[q]? = some v → K[q]? = some k → r.kd = (nd xs v).kd ∧ r.n = (nd xs v).n ∧ r.tx = (nd xs v).tx ∧ k.length = (nd xs v).ks.length ∧
  RowR own (11 + 3 * q) 41 2 eFt w r.sf (nd xs v).fs ∧ RowR own (10 + 3 * q) 3 1 eI w r.sk k
structure Kp (own own' : OwnM Nat) (n0 : Nat) (w w' : World) : Prop where
 fr : Fr own own' w w'
 box : ∀ b n, n < n0 → b < w.heap.size → own b = some (12 + 3 * n) → own' b = some (12 + 3 * n) ∧ w'.heap[b]? = w.heap[b]?
section
variable {w0 w w' w'' : World} {own own' own'' : OwnM Nat} {p : Pl} {xs : List Nd} {cl : List Int} {vs : List Nat} {RW : List Rw} {s : SL} {K : List (List Int)} {n0 : Nat} {mk : List Int}
theorem VS.ext (h : VS w0 w own p xs cl vs RW s K mk) (x : Ext w w') : VS w0 w' own p xs cl vs RW s K mk :=
 ⟨h.loc.ext x, h.x3.ext x, h.x11.ext x, h.x16.ext x, h.x21.ext x, h.x19.ext x, h.cls.ext x, h.map.ext x, h.out.ext x, h.lenR, h.lenK, fun q r v k e1 e2 e3 => by
  obtain ⟨f1, f2, f3, f4, f5, f6⟩ := h.nds q r v k e1 e2 e3
  exact ⟨f1, f2, f3, f4, f5.ext x, f6.ext x⟩⟩
theorem VS.upd {r : Nat} (h : VS w0 w own p xs cl vs RW s K mk) (u : Upd own own' r w w') (hr : 8 ≤ r) (hr2 : ∀ q, q < vs.length → r ≠ 10 + 3 * q ∧ r ≠ 11 + 3 * q) : VS w0 w' own' p xs cl vs RW s K mk :=
 ⟨h.loc.upd u, h.x3.upd u (by omega), h.x11.upd u (by omega), h.x16.upd u (by omega), h.x21.upd u (by omega), h.x19.upd u (by omega), h.cls.upd u, h.map.upd u (by omega), h.out.upd u (by omega), h.lenR, h.lenK, fun q r' v k e1 e2 e3 => by
  have hq := (List.getElem?_eq_some_iff.1 e2).1
  have := hr2 q hq
  obtain ⟨f1, f2, f3, f4, f5, f6⟩ := h.nds q r' v k e1 e2 e3
  exact ⟨f1, f2, f3, f4, f5.upd u (by omega), f6.upd u (by omega)⟩⟩
theorem VS.mapAdd {mk' : List Int} (h : VS w0 w own p xs cl vs RW s K mk) (m : Mx own 1 eK w' p.bm mk' 0) (u : Upd own own 1 w w') : VS w0 w' own p xs cl vs RW s K mk' :=
 ⟨h.loc.upd u, h.x3.upd u (by decide), h.x11.upd u (by decide), h.x16.upd u (by decide), h.x21.upd u (by decide), h.x19.upd u (by decide), h.cls.upd u, m, h.out.upd u (by decide), h.lenR, h.lenK, fun q r' v k e1 e2 e3 => by
  obtain ⟨f1, f2, f3, f4, f5, f6⟩ := h.nds q r' v k e1 e2 e3
  exact ⟨f1, f2, f3, f4, f5.upd u (by omega), f6.upd u (by omega)⟩⟩
theorem Bx.setA {ρ : Type} {own : OwnM ρ} {r : ρ} {w : World} {b t i : Nat} {cs : Array Value} {v : Value} (h : Bx own r w b cs t) (hi : i < cs.size) {F : World → Prop} (k : ∀ w', Bx own r w' b (cs.setIfInBounds i v) t → Upd own own r w w' → F w') :
  SetK w ((⟨b, 0, none⟩ : Addr).add i) v F := by
 rw [add_mk, Nat.zero_add]; exact h.set hi k
theorem RowR.setk {ρ : Type} {own : OwnM ρ} {r : ρ} {w : World} {e : TypeId} {s : SL} {xs : List Int} (h : RowR own r e 1 eI w s xs) {i : Nat} (hi : i < xs.length) (v : Int) {F : World → Prop}
  (k : ∀ w', RowR own r e 1 eI w' s (xs.set i v) → Upd own own r w w' → F w') : ∃ b, s.1 = some b ∧ SetK w (b.add (((i : Nat) : Int).toNat * 1)) (.int .i64 v) F := by
 obtain ⟨g, l, c, e1, _⟩ := h.at_ eI_len hi
 subst e1
 exact ⟨_, rfl, RowR.seti h hi v k⟩
theorem VS.setK (h : VS w0 w own p xs cl vs RW s K mk) {q m : Nat} {r : Rw} {k : List Int} (hr : RW[q]? = some r) (hk : K[q]? = some k) (hm : m < k.length) (v : Int) {F : World → Prop}
  (kk : ∀ w', VS w0 w' own p xs cl vs RW s (K.set q (k.set m v)) mk → Upd own own (10 + 3 * q) w w' → F w') : ∃ b, r.sk.1 = some b ∧ SetK w (b.add (((m : Nat) : Int).toNat * 1)) (.int .i64 v) F := by
 have hq : q < vs.length := by rw [← h.lenR]; exact (List.getElem?_eq_some_iff.1 hr).1
 have hqK : q < K.length := (List.getElem?_eq_some_iff.1 hk).1
 obtain ⟨f1, f2, f3, f4, f5, f6⟩ := h.nds q r vs[q] k hr (List.getElem?_eq_getElem hq) hk
 refine RowR.setk f6 hm v fun w' h1 u => kk w' ⟨h.loc.upd u, h.x3.upd u (by omega), h.x11.upd u (by omega), h.x16.upd u (by omega), h.x21.upd u (by omega), h.x19.upd u (by omega), h.cls.upd u, h.map.upd u (by omega), h.out.upd u (by omega), h.lenR, by rw [List.length_set]; exact h.lenK, fun q2 r2 v2 k2 e1 e2 e3 => ?_⟩ u
 rw [List.getElem?_set] at e3
 by_cases hqq : q = q2
 ·subst hqq
  rw [if_pos rfl, if_pos hqK] at e3
  rw [hr] at e1
  cases e1; cases e3
  obtain ⟨g1, g2, g3, g4, g5, g6⟩ := h.nds q r v2 k hr e2 hk
  exact ⟨g1, g2, g3, by rw [List.length_set]; exact g4, g5.upd u (by omega), h1⟩
 ·rw [if_neg hqq] at e3
  obtain ⟨g1, g2, g3, g4, g5, g6⟩ := h.nds q2 r2 v2 k2 e1 e2 e3
  exact ⟨g1, g2, g3, g4, g5.upd u (by omega), g6.upd u (by omega)⟩
theorem VS.more {s' : SL} {i : Nat} {r : Rw} {k : List Int} (h : VS w0 w own p xs cl vs RW s K mk) (h1 : r.kd = (nd xs i).kd) (h2 : r.n = (nd xs i).n) (h3 : r.tx = (nd xs i).tx) (h4 : k.length = (nd xs i).ks.length)
  (hf : RowR own (11 + 3 * vs.length) 41 2 eFt w r.sf (nd xs i).fs) (hk : RowR own (10 + 3 * vs.length) 3 1 eI w r.sk k) (u : Upd own own' 0 w w') (ho : RowR own' 0 39 5 eN w' s' (RW ++ [r])) (u2 : Upd own' own' 2 w' w'')
  (hb : Bx own' 2 w'' p.b19 #[.int .i64 0, .slice s'.1 s'.2.1 s'.2.2] 25) : VS w0 w'' own' p xs cl (vs ++ [i]) (RW ++ [r]) s' (K ++ [k]) mk := by
 refine ⟨(h.loc.upd u).upd u2, (h.x3.upd u (by decide)).upd u2 (by decide), (h.x11.upd u (by decide)).upd u2 (by decide), (h.x16.upd u (by decide)).upd u2 (by decide), (h.x21.upd u (by decide)).upd u2 (by decide), hb, (h.cls.upd u).upd u2, (h.map.upd u (by decide)).upd u2 (by decide), ho.upd u2 (by decide), by simp [h.lenR], by simp [h.lenK], fun q r2 v2 k2 e1 e2 e3 => ?_⟩
 rcases Nat.lt_or_ge q vs.length with hq | hq
 ·rw [List.getElem?_append_left (by rw [h.lenR]; exact hq)] at e1
  rw [List.getElem?_append_left hq] at e2
  rw [List.getElem?_append_left (by rw [h.lenK]; exact hq)] at e3
  obtain ⟨g1, g2, g3, g4, g5, g6⟩ := h.nds q r2 v2 k2 e1 e2 e3
  exact ⟨g1, g2, g3, g4, (g5.upd u (by omega)).upd u2 (by omega), (g6.upd u (by omega)).upd u2 (by omega)⟩
 ·have hq2 : q = vs.length := by have := (List.getElem?_eq_some_iff.1 e2).1; simp at this; omega
  subst hq2
  rw [← h.lenR, List.getElem?_concat_length] at e1
  rw [List.getElem?_concat_length] at e2
  rw [← h.lenK, List.getElem?_concat_length] at e3
  cases e1; cases e2; cases e3
  exact ⟨h1, h2, h3, h4, (hf.upd u (by omega)).upd u2 (by omega), (hk.upd u (by omega)).upd u2 (by omega)⟩
theorem Kp.refl (own : OwnM Nat) (n0 : Nat) (w : World) : Kp own own n0 w w := ⟨Fr.refl _ _, fun _ _ _ _ h => ⟨h, rfl⟩⟩
theorem Kp.ext (x : Ext w w') : Kp own own n0 w w' := ⟨Fr.of_ext _ x, fun b _ _ hb h => ⟨h, x.block b hb⟩⟩
theorem Kp.trans (h : Kp own own' n0 w w') (k : Kp own' own'' n0 w' w'') : Kp own own'' n0 w w'' :=
 ⟨h.fr.trans k.fr, fun b n hn hb e => by
  obtain ⟨e1, e2⟩ := h.box b n hn hb e
  obtain ⟨e3, e4⟩ := k.box b n hn (Nat.lt_of_lt_of_le hb h.fr.size) e1
  exact ⟨e3, e4.trans e2⟩⟩
theorem Kp.upd {r : Nat} (u : Upd own own' r w w') (hr : ∀ n, n < n0 → r ≠ 12 + 3 * n) : Kp own own' n0 w w' :=
 ⟨u.fr, fun b n hn hb e => ⟨by rw [u.same b hb]; exact e, u.block b hb (by rw [e]; simpa using Ne.symm (hr n hn))⟩⟩
theorem Kp.mono {n1 : Nat} (h : Kp own own' n0 w w') (hn : n1 ≤ n0) : Kp own own' n1 w w' := ⟨h.fr, fun b n h1 h2 h3 => h.box b n (by omega) h2 h3⟩
end
def Fil (xs : List Nd) (vs : List Nat) (K : List (List Int)) (q M : Nat) : Prop :=
 ∀ (v : Nat) (k : List Int), vs[q]? = some v → K[q]? = some k → ∀ m, m < k.length → m < M → ∃ p : Nat, k[m]? = some (p : Int) ∧ ∃ u, vs[p]? = some u ∧ Eqv xs xs u (kid xs v m)
theorem Fil.grow {xs : List Nd} {vs t : List Nat} {K K' : List (List Int)} {q M : Nat} (h : Fil xs vs K q M) (hq : q < vs.length) (hK : K'[q]? = K[q]?) : Fil xs (vs ++ t) K' q M := by
 intro v k e1 e2 m hm hM
 rw [List.getElem?_append_left hq] at e1
 rw [hK] at e2
 obtain ⟨p, f1, u, f2, f3⟩ := h v k e1 e2 m hm hM
 exact ⟨p, f1, u, by rw [List.getElem?_append_left (List.getElem?_eq_some_iff.1 f2).1]; exact f2, f3⟩
end Go.Proofs.YtnmldggopnbclaaGreatDoor

namespace Go.Proofs.YtnmldggopnbclaaGreatDoor
open Go Go.V Go.Proofs
open Go.RowKit (Below)
/-! manystrand/graph.least$1 -/
def N36 (x1 : Int) (o2 : Option Addr) (o3 : Option Addr) (o4 : Option Addr) (o5 : Option Addr) (o6 : Option Addr) (K : Int → World → Prop) (w : World) : Prop :=
 DrewK w fun w7 =>
 AddrK o2 fun b8 =>
 ∃ m9, w7.cell? b8 = some (.map m9) ∧
 (AddrK o3 fun b10 =>
 ∃ a11 l11 c11, w7.cell? b10 = some (.slice a11 l11 c11) ∧
 ((0 ≤ x1 ∧ x1 < l11) ∧
 AddrK a11 fun b12 =>
 ∃ x13, w7.cell? (b12.add (x1.toNat * 1)) = some (.int .i64 x13) ∧
 (∃ x14, ∃ p15, ∃ w16, Sem.run Tryz.prog (Instr.lookup 79 (.map m9) (.int .i64 x13) true) w7 = .ok (.tuple #[(.int .i64 x14), (.bool p15)]) w16 ∧
 (BoolK p15
 (K x14 w16)
 (AddrK o4 fun b17 =>
 ∃ a18 l18 c18, w16.cell? (b17.add 1) = some (.slice a18 l18 c18) ∧
 (DrewK w16 fun w19 =>
 AddrK o2 fun b20 =>
 ∃ m21, w19.cell? b20 = some (.map m21) ∧
 (AddrK o3 fun b22 =>
 ∃ a23 l23 c23, w19.cell? b22 = some (.slice a23 l23 c23) ∧
 ((0 ≤ x1 ∧ x1 < l23) ∧
 AddrK a23 fun b24 =>
 ∃ x25, w19.cell? (b24.add (x1.toNat * 1)) = some (.int .i64 x25) ∧
 (∃ w26, Sem.run Tryz.prog (Instr.mapUpdate 79 (.map m21) (.int .i64 x25) (.int .i64 l18)) w19 = .ok () w26 ∧
 (AddrK o5 fun b27 =>
 ∃ a28 l28 c28, w26.cell? b27 = some (.slice a28 l28 c28) ∧
 ((0 ≤ x1 ∧ x1 < l28) ∧
 AddrK a28 fun b29 =>
 ∃ s30, w26.cell? ((b29.add (x1.toNat * 5)).add 0) = some (.string s30) ∧
 (∃ x31, w26.cell? ((b29.add (x1.toNat * 5)).add 1) = some (.int .i64 x31) ∧
 (∃ s32, w26.cell? ((b29.add (x1.toNat * 5)).add 2) = some (.string s32) ∧
 (∃ a33 l33 c33, w26.cell? ((b29.add (x1.toNat * 5)).add 3) = some (.slice a33 l33 c33) ∧
 (∃ a34 l34 c34, w26.cell? ((b29.add (x1.toNat * 5)).add 4) = some (.slice a34 l34 c34) ∧
 (AllocK w26 (#[.string ⟨#[]⟩, .int .i64 0, .string ⟨#[]⟩, .slice none 0 0, .slice none 0 0]) 39 fun b35 w36 =>
 SetK w36 (b35.add 0) (.string s30) fun w37 =>
 SetK w37 (b35.add 1) (.int .i64 x31) fun w38 =>
 SetK w38 (b35.add 2) (.string s32) fun w39 =>
 SetK w39 (b35.add 3) (.slice a33 l33 c33) fun w40 =>
 SetK w40 (b35.add 4) (.slice a34 l34 c34) fun w41 =>
 ∃ a42 l42 c42, w41.cell? (b35.add 3) = some (.slice a42 l42 c42) ∧
 (Calls Tryz.prog 37 #[(.slice a42 l42 c42)] w41 fun e45 w44 =>
 ∃ a43, ∃ l43, ∃ c43, e45 = .returned (.slice a43 l43 c43) ∧
 (SetK w44 (b35.add 3) (.slice a43 l43 c43) fun w46 =>
 ∃ a47 l47 c47, w46.cell? (b35.add 4) = some (.slice a47 l47 c47) ∧
 ((0 ≤ (l47 : Int) ∧ (l47 : Int) ≤ l47 ∧ ((8 : Nat) : Int) * l47 ≤ 281474976710656 ∧ (l47 : Int) ≤ 9223372036854775807) ∧
 AllocK w46 (madeCells (#[.int .i64 0]) ((l47 : Int).toNat * 1)) 3 fun b48 w49 =>
 SetK w49 (b35.add 4) (.slice (some b48) ((l47 : Int).toNat) ((l47 : Int).toNat)) fun w50 =>
 AddrK o4 fun b51 =>
 ∃ a52 l52 c52, w50.cell? (b51.add 1) = some (.slice a52 l52 c52) ∧
 (∃ s53, w50.cell? (b35.add 0) = some (.string s53) ∧
 (∃ x54, w50.cell? (b35.add 1) = some (.int .i64 x54) ∧
 (∃ s55, w50.cell? (b35.add 2) = some (.string s55) ∧
 (∃ a56 l56 c56, w50.cell? (b35.add 3) = some (.slice a56 l56 c56) ∧
 (∃ a57 l57 c57, w50.cell? (b35.add 4) = some (.slice a57 l57 c57) ∧
 (AllocK w50 (#[(.string s53), (.int .i64 x54), (.string s55), (.slice a56 l56 c56), (.slice a57 l57 c57)]) 39 fun b58 w59 =>
 ∃ a60, ∃ l60, ∃ c60, ∃ w61, Sem.run Tryz.prog (Builtin.append_ #[23, 23] 23 #[(.slice a52 l52 c52), (.slice (some b58) 1 1)]) w59 = .ok (.slice a60 l60 c60) w61 ∧
 (AddrK o4 fun b62 =>
 SetK w61 (b62.add 1) (.slice a60 l60 c60) fun w63 =>
 AddrK o5 fun b64 =>
 ∃ a65 l65 c65, w63.cell? b64 = some (.slice a65 l65 c65) ∧
 ((0 ≤ x1 ∧ x1 < l65) ∧
 AddrK a65 fun b66 =>
 ∃ a67 l67 c67, w63.cell? ((b66.add (x1.toNat * 5)).add 4) = some (.slice a67 l67 c67) ∧
 (∃ (I68 : Int → World → Prop) (μ69 : Int → World → Nat),
 (I68 0 w63 ∧ True) ∧
 ∀ w70 x71, I68 x71 w70 →
 BoolK (decide (x71 < l67))
 ((0 ≤ x71 ∧ x71 < l67) ∧
 AddrK a67 fun b72 =>
 ∃ x73, w70.cell? (b72.add (x71.toNat * 1)) = some (.int .i64 x73) ∧
 (DrewK w70 fun w74 =>
 ∃ v75, Cel v75 w74 ∧
 (∃ a76 l76 c76, v75.cell? (b35.add 4) = some (.slice a76 l76 c76) ∧
 (AddrK o6 fun b77 =>
 ∃ (g78 : FuncId) (k79 : Array Value), v75.cell? b77 = some (.func (.func g78) #[] k79) ∧
 (Enters Tryz.prog g78 ∧
 (Calls Tryz.prog g78 (callArgs [] [(.int .i64 x73)] k79.toList) w74 fun e82 w81 =>
 ∃ x80, e82 = .returned (.int .i64 x80) ∧
 (Cel v75 w81 ∧
 ((0 ≤ x71 ∧ x71 < l76) ∧
 AddrK a76 fun b83 =>
 SetK w81 (b83.add (x71.toNat * 1)) (.int .i64 x80) fun w84 =>
 I68 (IntKind.wrap .i64 (x71 + 1)) w84 ∧ μ69 (IntKind.wrap .i64 (x71 + 1)) w84 < μ69 x71 w70))))))))
 (K l18 w70)))))))))))))))))))))))))))))
def ann36 : Ann := (.two .nil (.two (.two (.anyC 11 (.take 0 (.take 1 (.take 2 (.take 3 (.take 4 (.one 5 (.take 6 (.take 7 (.take 8 (.take 9 (.take 10 .done)))))))))))) (.two .nil (.two (.two .nil .nil) .nil))) (.two .nil (.two (.anyC 6 (.take 0 (.take 1 (.take 2 (.take 3 (.take 4 (.take 5 .done))))))) (.two .nil (.two .nil (.two .nil (.two .nil (.two (.two .nil (.one (.loop [(59, (.one (.int .i64)))] [5, 10, 11, 57, 58] (.two .nil (.two (.two .nil .nil) (.two (.one (.two .nil (.anyD 7 (.take 0 (.take 1 (.take 2 (.take 3 (.take 4 (.one 5 (.take 6 .done)))))))))) .nil)))))) (.two .nil .nil))))))))))
noncomputable def code36 : Code := match Tryz.f36.body with | some c => c | none => .skip
theorem calls36 (x1 : Int) (o2 : Option Addr) (o3 : Option Addr) (o4 : Option Addr) (o5 : Option Addr) (o6 : Option Addr) (K : Int → World → Prop) (w : World) (h : N36 x1 o2 o3 o4 o5 o6 K w) : Calls Tryz.prog 36 #[(.int .i64 x1), (.pointer o2), (.pointer o3), (.pointer o4), (.pointer o5), (.pointer o6)] w fun en w' => ∃ (x85 : Int), en = .returned (.int .i64 x85) ∧ K x85 w' :=
 fn_calls tabOk mixed Tryz.func36 (by kernel_rfl : Tryz.f36.body = some code36) ann36 [(.int .i64 x1), (.pointer o2), (.pointer o3), (.pointer o4), (.pointer o5), (.pointer o6)] [(.one (.int .i64))] K w (by kernel_rfl) (by kernel_rfl) (by kernel_rfl) h
end Go.Proofs.YtnmldggopnbclaaGreatDoor

namespace Go.Proofs.YtnmldggopnbclaaGreatDoor
open Go Go.V Go.Proofs Go.V.Gr
open Go.RowKit (Below)
section
variable {w0 w : World} {own : OwnM Nat} {p : Pl} {xs : List Nd} {cl : List Int} {vs : List Nat} {RW : List Rw} {s : SL} {K : List (List Int)}
def VisitPost (w0 : World) (own : OwnM Nat) (p : Pl) (xs : List Nd) (cl : List Int) (vs : List Nat) (RW : List Rw) (K : List (List Int)) (i : Nat) (w : World) (r : Int) (w' : World) : Prop :=
 ∃ own' vs' RW' s' K', VS w0 w' own' p xs cl vs' RW' s' K' (vs'.map (ga cl)) ∧ Dfs xs [i] vs vs' ∧ Kp own own' vs.length w w' ∧ (∃ q : Nat, r = q ∧ ∃ v, vs'[q]? = some v ∧ Eqv xs xs v i) ∧
  (∀ q, q < vs.length → K'[q]? = K[q]? ∧ RW'[q]? = RW[q]?) ∧ ∀ q, vs.length ≤ q → ∀ M, Fil xs vs' K' q M
theorem seen_iff (hcl : Cls xs cl) (hv : ∀ v ∈ vs, v < xs.length) {i : Nat} (hi : i < xs.length) : ga cl i ∈ vs.map (ga cl) ↔ Seen xs vs i := by
 constructor
 ·intro h
  obtain ⟨v, h1, h2⟩ := List.mem_map.1 h
  exact ⟨v, h1, (hcl.2 v i (hv v h1) hi).1 h2⟩
 ·rintro ⟨v, h1, h2⟩
  exact List.mem_map.2 ⟨v, h1, (hcl.2 v i (hv v h1) hi).2 h2⟩
theorem apart_nodup (ha : Apart xs vs) : vs.Nodup := by
 rw [List.Nodup, List.pairwise_iff_getElem]
 intro a b h1 h2 hab e
 have := ha a b _ _ (List.getElem?_eq_getElem h1) (List.getElem?_eq_getElem h2) (by rw [e]; exact Eqv.refl _ _)
 omega
theorem vs_len (ha : Apart xs vs) (hv : ∀ v ∈ vs, v < xs.length) : vs.length ≤ xs.length := by
 have := len_le_of_sub _ (List.range xs.length) (apart_nodup ha) fun x hx => List.mem_range.2 (hv x hx)
 simpa using this
end
set_option maxRecDepth 100000 in
theorem ctr36 {p : Pl} {xs : List Nd} {cl : List Int} {w0 : World} (hN : RNds w0 p.a1 p.l1 xs) (hc : Closed xs) (hz : Sz xs) (hcl : Cls xs cl) : ∀ (d : Nat) (w : World) (own : OwnM Nat) (vs : List Nat) (RW : List Rw) (s : SL) (K : List (List Int)) (i : Nat),
  VS w0 w own p xs cl vs RW s K (vs.map (ga cl)) → i < xs.length → Apart xs vs → (∀ v ∈ vs, v < xs.length) → xs.length + 1 - vs.length ≤ d →
  Calls Tryz.prog 36 #[.int .i64 (i : Int), (.pointer (some ⟨p.b16, 0, none⟩)), (.pointer (some ⟨p.b11, 0, none⟩)), (.pointer (some ⟨p.b19, 0, none⟩)), (.pointer (some ⟨p.b3, 0, none⟩)), (.pointer (some ⟨p.b21, 0, none⟩))] w fun en w' =>
   ∃ r, en = .returned (.int .i64 r) ∧ VisitPost w0 own p xs cl vs RW K i w r w' := by
 intro d
 induction d with
 | zero =>
  intro w own vs RW s K i _ _ ha hv hd
  have := vs_len ha hv; omega
 | succ d ih =>
  intro w own vs RW s K i h hi ha hv hd
  have hn := hz.len
  have hvl := vs_len ha hv
  have hl1 := hN.len
  refine calls36 _ _ _ _ _ _ _ w ?_
  refine DrewK.mk fun w7 x7 => ?_
  have h7 := h.ext x7
  have g16 : ∀ {w'} {own' : OwnM Nat} {RW' s' K' mk'} {vs'}, VS w0 w' own' p xs cl vs' RW' s' K' mk' → w'.cell? (⟨p.b16, 0, none⟩ : Addr) = some (.map (some p.bm)) := fun h => by rw [h.x16.blk.cell]; rfl
  have g11 : ∀ {w'} {own' : OwnM Nat} {RW' s' K' mk'} {vs'}, VS w0 w' own' p xs cl vs' RW' s' K' mk' → w'.cell? (⟨p.b11, 0, none⟩ : Addr) = some (.slice p.sc.1 p.sc.2.1 p.sc.2.2) := fun h => by rw [h.x11.blk.cell]; rfl
  have g3 : ∀ {w'} {own' : OwnM Nat} {RW' s' K' mk'} {vs'}, VS w0 w' own' p xs cl vs' RW' s' K' mk' → w'.cell? (⟨p.b3, 0, none⟩ : Addr) = some (.slice p.a1 p.l1 p.c1) := fun h => by rw [h.x3.blk.cell]; rfl
  have hil : i < cl.length := by rw [hcl.1]; exact hi
  have gcl : ∀ {w'} {own' : OwnM Nat} {RW' s' K' mk'} {vs'}, VS w0 w' own' p xs cl vs' RW' s' K' mk' → ∃ g, p.sc.1 = some ⟨g, 0, none⟩ ∧ w'.cell? ((⟨g, 0, none⟩ : Addr).add (((i : Nat) : Int).toNat * 1)) = some (.int .i64 (ga cl i)) := fun h => by
   obtain ⟨g, e1, e2⟩ := h.cls.at_ eI_len hil
   exact ⟨g, e1, e2.trans (by rw [ga_get hil]; rfl)⟩
  have hscl : p.sc.2.1 = cl.length := h.cls.row.1
  obtain ⟨gc, ec, qc⟩ := gcl h7
  refine ⟨_, g16 h7, _, _, _, g11 h7, ⟨by omega, by rw [hscl]; omega⟩, adK ec ⟨_, qc, ?_⟩⟩
  obtain ⟨x14, ok, q1, q2⟩ := h7.map.num.look2 (P := Tryz.prog) mtI (ga cl i)
  refine ⟨_, _, _, q1, ?_⟩
  rcases q2 with ⟨q, f1, rfl, rfl⟩ | ⟨hnin, rfl, rfl⟩
  ·refine BoolK.mk (fun _ => ?_) (fun t => by cases t)
   rw [List.getElem?_map] at f1
   obtain ⟨v, f2, f3⟩ := Option.map_eq_some_iff.1 f1
   have hvm := hv v (List.mem_of_getElem? f2)
   have ev : Eqv xs xs v i := (hcl.2 v i hvm hi).1 f3
   refine ⟨own, vs, RW, s, K, h7, .hit ⟨v, List.mem_of_getElem? f2, ev⟩ (.nil _), Kp.ext x7, ⟨q, by omega, v, f2, ev⟩, fun q _ => ⟨rfl, rfl⟩, fun q hq M v k e1 => ?_⟩
   rw [List.getElem?_eq_none hq] at e1; cases e1
  refine BoolK.mk (fun t => by cases t) (fun _ => ?_)
  have hns : ¬ Seen xs vs i := fun hs => hnin ((seen_iff hcl hv hi).2 hs)
  have hlt : vs.length < xs.length := by
   have := vs_len (ha.push hns) (fun v hv' => by
    rcases List.mem_append.1 hv' with h | h
    ·exact hv v h
    ·simp at h; subst h; exact hi)
   simp at this; omega
  have hsl : s.2.1 = vs.length := by rw [h.out.len, h.lenR]
  refine ⟨_, _, _, by rw [add_mk, h7.x19.blk.cell]; rfl, DrewK.mk fun w19 x19 => ?_⟩
  have h19 := h7.ext x19
  obtain ⟨gc2, ec2, qc2⟩ := gcl h19
  refine ⟨_, g16 h19, _, _, _, g11 h19, ⟨by omega, by rw [hscl]; omega⟩, adK ec2 ⟨_, qc2, ?_⟩⟩
  obtain ⟨w26, r1, mx26, u26⟩ := h19.map.add (P := Tryz.prog) mtI (a := ga cl i) (v := ((s.2.1 : Nat) : Int)) (by rw [hsl, List.length_map]; omega) hnin
  refine ⟨w26, r1, ?_⟩
  have h26 := h19.mapAdd mx26 u26
  have y0 := h26.loc.below
  obtain ⟨bN, haN, n0, n1, n2, n3, n4, ⟨a3, l3, c3, n5, n6⟩, ⟨a4, l4, c4, n7, n8⟩, _⟩ := ndAt hN (Ext.refl w0) hi
  refine ⟨_, _, _, g3 h26, ⟨by omega, by omega⟩, adK haN ⟨_, y0.cell n0, _, y0.cell n1, _, y0.cell n2, _, _, _, y0.cell n5, _, _, _, y0.cell n7, ?_⟩⟩
  have hfl := hz.fs _ (List.getElem_mem hi)
  have hkl := hz.ks _ (List.getElem_mem hi)
  have hl4 : l4 = xs[i].ks.length := n8.len
  refine local5 fun b35 w41 hb35 hB35 x41 => ?_
  have uA : Upd own (setOwn own (some b35) (12 + 3 * vs.length)) (12 + 3 * vs.length) w26 w41 := Upd.fresh x41 (by omega) hB35.lt _
  have bxA : Bx (setOwn own (some b35) (12 + 3 * vs.length)) (12 + 3 * vs.length) w41 b35 _ _ := ⟨hB35, by unfold setOwn; rw [if_pos rfl]⟩
  have h41 := h26.upd uA (by omega) (fun q hq => by omega)
  generalize setOwn own (some b35) (12 + 3 * vs.length) = ownA at uA bxA h41
  refine ⟨_, _, _, by rw [add_mk, bxA.blk.cell]; rfl, ?_⟩
  refine (ctr37 w41 c3 (n6.ext RFt.mono (y0.trans x41)) hfl).mono ?_
  rintro en w44 ⟨a43, l43, c43, rfl, hO43, x44⟩
  obtain ⟨rowF, uF⟩ := RowR.adopt (s := (a43, l43, c43)) hO43 (Nat.le_refl _) x44 ownA (11 + 3 * vs.length)
  have h44 := h41.upd uF (by omega) (fun q hq => by omega)
  have bx44 := bxA.upd uF (by omega)
  generalize setOwn ownA (sblk (a43, l43, c43)) (11 + 3 * vs.length) = ownF at rowF uF h44 bx44
  refine ⟨_, _, _, rfl, Bx.setA bx44 (by simp) fun w46 bx46 u46 => ?_⟩
  have h46 := h44.upd u46 (by omega) (fun q hq => by omega)
  have rowF46 := rowF.upd u46 (by omega)
  refine ⟨_, _, _, by rw [add_mk, bx46.blk.cell]; rfl, ⟨by omega, by omega, by omega, by omega⟩, ?_⟩
  rw [Int.toNat_natCast]
  refine RowR.make (x := (0 : Int)) (enc := eI) rfl (by simp only [maxLen]; omega) ownF (10 + 3 * vs.length) fun b48 w49 rowK uK x49 hb48 => ?_
  have h49 := h46.upd uK (by omega) (fun q hq => by omega)
  have rowF49 := rowF46.upd uK (by omega)
  have bx49 := bx46.upd uK (by omega)
  generalize setOwn ownF (some b48) (10 + 3 * vs.length) = ownK at rowK uK h49 rowF49 bx49
  refine Bx.setA bx49 (by simp) fun w50 bx50 u50 => ?_
  have h50 := h49.upd u50 (by omega) (fun q hq => by omega)
  have rowF50 := rowF49.upd u50 (by omega)
  have rowK50 := rowK.upd u50 (by omega)
  refine ⟨_, _, _, by rw [add_mk, h50.x19.blk.cell]; rfl, _, by rw [add_mk, bx50.blk.cell]; rfl, _, by rw [add_mk, bx50.blk.cell]; rfl, _, by rw [add_mk, bx50.blk.cell]; rfl, _, _, _, by rw [add_mk, bx50.blk.cell]; rfl, _, _, _, by rw [add_mk, bx50.blk.cell]; rfl, ?_⟩
  refine RowR.push (⟨xs[i].kd, xs[i].n, xs[i].tx, (a43, l43, c43), (some ⟨b48, 0, none⟩, l4, l4)⟩ : Rw) sltN h50.out eN_len eN_one (by rw [h50.lenR]; omega) rfl fun s' w61 rowO uO => ?_
  have x19' := h50.x19.upd uO (by decide)
  have bx61 := bx50.upd uO (by omega)
  have hkp61 : Kp own (setOwn ownK (sblk s') 0) vs.length w w61 :=
   (Kp.ext (x7.trans x19)).trans ((Kp.upd u26 (by omega)).trans ((Kp.upd uA (by omega)).trans ((Kp.upd uF (by omega)).trans ((Kp.upd u46 (by omega)).trans ((Kp.upd uK (by omega)).trans ((Kp.upd u50 (by omega)).trans (Kp.upd uO (by omega))))))))
  generalize hOwnO : setOwn ownK (sblk s') 0 = ownO at rowO uO x19' bx61 hkp61
  refine Bx.setA x19' (by simp) fun w63 x63 u63 => ?_
  have h63 : VS w0 w63 ownO p xs cl (vs ++ [i]) (RW ++ [⟨xs[i].kd, xs[i].n, xs[i].tx, (a43, l43, c43), (some ⟨b48, 0, none⟩, l4, l4)⟩]) s' (K ++ [List.replicate l4 0]) (vs.map (ga cl) ++ [ga cl i]) :=
   h50.more (by rw [nd_get hi]) (by rw [nd_get hi]) (by rw [nd_get hi]) (by rw [nd_get hi, List.length_replicate]; exact hl4) (by rw [nd_get hi]; exact rowF50) rowK50 uO rowO u63 (by simpa using x63)
  have bx63 := bx61.upd u63 (by omega)
  have hkp63 := hkp61.trans (Kp.upd u63 (by omega))
  have y63 := h63.loc.below
  refine ⟨_, _, _, g3 h63, ⟨by omega, by omega⟩, adK haN ⟨_, _, _, y63.cell n7, ?_⟩⟩
  have hd2 : xs.length + 1 - (vs.length + 1) ≤ d := by omega
  have hkidl : (Gr.kids xs i).length = l4 := by rw [kids_len, nd_get hi]; exact hl4.symm
  generalize hraw : (⟨xs[i].kd, xs[i].n, xs[i].tx, (a43, l43, c43), (some ⟨b48, 0, none⟩, l4, l4)⟩ : Rw) = raw at h63
  have hrawk : raw.sk = (some ⟨b48, 0, none⟩, l4, l4) := by rw [← hraw]
  have hmk : vs.map (ga cl) ++ [ga cl i] = (vs ++ [i]).map (ga cl) := by simp
  rw [hmk] at h63
  refine ⟨fun x w' => ∃ (m : Nat) (own' : OwnM Nat) (vs' : List Nat) (RW' : List Rw) (s2 : SL) (K' : List (List Int)), x = m ∧ m ≤ l4 ∧ VS w0 w' own' p xs cl vs' RW' s2 K' (vs'.map (ga cl)) ∧ Dfs xs ((Gr.kids xs i).take m) (vs ++ [i]) vs' ∧ Kp ownO own' (vs.length + 1) w63 w' ∧
    RW'[vs.length]? = some raw ∧ (∀ q, q < vs.length → K'[q]? = K[q]? ∧ RW'[q]? = RW[q]?) ∧ Fil xs vs' K' vs.length m ∧ (∀ q, vs.length < q → ∀ M, Fil xs vs' K' q M), fun x _ => l4 - x.toNat,
   ⟨⟨0, _, _, _, _, _, rfl, by omega, h63, .nil _, Kp.refl _ _ _, by rw [← h.lenR, List.getElem?_concat_length], fun q hq => ⟨by rw [List.getElem?_append_left (by rw [h.lenK]; exact hq)], by rw [List.getElem?_append_left (by rw [h.lenR]; exact hq)]⟩, fun v k _ _ m _ hm => by omega, fun q hq M v k e1 => ?_⟩, trivial⟩, ?_⟩
  ·rw [List.getElem?_eq_none (by simp; omega)] at e1; cases e1
  rintro w70 _ ⟨m, own', vs', RW', s2, K', rfl, hm, hV, hD, hKp, hRn, hold, hFn, hFq⟩
  have haB : Apart xs (vs ++ [i]) := ha.push hns
  have hvB : ∀ v ∈ vs ++ [i], v < xs.length := fun v hv' => by
   rcases List.mem_append.1 hv' with h | h
   ·exact hv v h
   ·simp at h; subst h; exact hi
  have hkin : ∀ k ∈ Gr.kids xs i, k < xs.length := fun k hk => by
   obtain ⟨m', hm', e⟩ := List.getElem_of_mem hk
   have e2 := kids_get (by rw [← kids_len]; exact hm')
   rw [List.getElem?_eq_getElem hm', e] at e2
   cases e2; exact kid_lt hc hi (by rw [← kids_len]; exact hm')
  have haV := hD.apart haB
  have hvV := hD.lt hc (fun k hk => hkin k (List.mem_of_mem_take hk)) hvB
  obtain ⟨tl, htl⟩ := hD.grow
  have hvl' : vs.length + 1 ≤ vs'.length := by rw [htl]; simp
  have hvi : vs'[vs.length]? = some i := by rw [htl, List.append_assoc, List.getElem?_append_right (Nat.le_refl _)]; simp
  have own35 : ownO b35 = some (12 + 3 * vs.length) := bx63.own
  refine BoolK.mk (fun t => ?_) (fun t => ?_)
  ·have hmlt : m < l4 := by have := of_decide_eq_true t; omega
   have hmk4 : m < xs[i].ks.length := by omega
   have y70 := hV.loc.below
   obtain ⟨b72, ha2, z0⟩ := ksAt n8 y70 hmk4
   have hkid := hc _ (List.getElem_mem hi) _ (List.getElem_mem hmk4)
   have hkg : (Gr.kids xs i)[m]? = some (kid xs i m) := kids_get (by rw [nd_get hi]; exact hmk4)
   have hkv : xs[i].ks[m] = ((kid xs i m : Nat) : Int) := by
    rw [kid, nd_get hi, List.getElem?_eq_getElem hmk4]
    show _ = ((xs[i].ks[m].toNat : Nat) : Int)
    omega
   have hkl2 : kid xs i m < xs.length := kid_lt hc hi (by rw [nd_get hi]; exact hmk4)
   rw [hkv] at z0
   refine ⟨⟨by omega, by omega⟩, adK ha2 ⟨_, z0, DrewK.mk fun w74 x74 => ?_⟩⟩
   have hV := hV.ext x74
   obtain ⟨o35, s35⟩ := hKp.box b35 vs.length (by omega) bx63.blk.lt own35
   have bx70 : Blk w70 b35 _ _ := s35.trans bx63.blk
   have bx74 := bx70.ext x74
   refine ⟨cutW w74 (fun k => k == b35 || k == p.b21), cutW_cel fun k _ _ => rfl, _, _, _, by rw [cutW_cell (by simp [add_mk]), add_mk, bx74.cell]; rfl, _, _, by rw [cutW_cell (by simp), hV.x21.blk.cell]; rfl, Tryz.call36, ?_⟩
   refine (ih w74 own' vs' RW' s2 K' (kid xs i m) hV hkl2 haV hvV (by omega)).mono ?_
   rintro en w80 ⟨r, rfl, own2, vs2, RW2, s3, K2, hV2, hD2, hKp2, ⟨qr, rfl, vr, hvr, evr⟩, hold2, hF2⟩
   have o35' : own' b35 = some (12 + 3 * vs.length) := o35
   obtain ⟨o35b, s35b⟩ := hKp2.box b35 vs.length (by omega) bx74.lt o35'
   have cel : Cel (cutW w74 (fun k => k == b35 || k == p.b21)) w80 := cutW_cel fun k hk _ => by
    rw [Bool.or_eq_true, beq_iff_eq, beq_iff_eq] at hk
    rcases hk with rfl | rfl
    ·exact s35b
    ·have e1 : w80.heap[p.b21]? = _ := hV2.x21.blk
     have e2 : w74.heap[p.b21]? = _ := hV.x21.blk
     rw [e1, e2]
   obtain ⟨tl2, htl2⟩ := hD2.grow
   have hn0 : vs.length < vs'.length := by omega
   obtain ⟨hK2, hR2⟩ := hold2 vs.length hn0
   have hlK' : vs.length < K'.length := by rw [hV.lenK]; omega
   have hkk : K2[vs.length]? = some (K'[vs.length]'hlK') := by rw [hK2, List.getElem?_eq_getElem]
   have hkkl : (K'[vs.length]'hlK').length = l4 := by
    obtain ⟨_, _, _, g4, _⟩ := hV.nds vs.length raw i _ hRn hvi (List.getElem?_eq_getElem hlK')
    rw [g4, nd_get hi]; exact hl4.symm
   generalize K'[vs.length]'hlK' = kk at hkk hkkl
   have key : ∀ w84, VS w0 w84 own2 p xs cl vs2 RW2 s3 (K2.set vs.length (kk.set m (qr : Int))) (vs2.map (ga cl)) → Upd own2 own2 (10 + 3 * vs.length) w80 w84 → (fun w84 => (∃ (m' : Nat) (own' : OwnM Nat) (vs' : List Nat) (RW' : List Rw) (s2 : SL) (K' : List (List Int)), IntKind.wrap .i64 ((m : Int) + 1) = m' ∧ m' ≤ l4 ∧ VS w0 w84 own' p xs cl vs' RW' s2 K' (vs'.map (ga cl)) ∧ Dfs xs ((Gr.kids xs i).take m') (vs ++ [i]) vs' ∧ Kp ownO own' (vs.length + 1) w63 w84 ∧
    RW'[vs.length]? = some raw ∧ (∀ q, q < vs.length → K'[q]? = K[q]? ∧ RW'[q]? = RW[q]?) ∧ Fil xs vs' K' vs.length m' ∧ (∀ q, vs.length < q → ∀ M, Fil xs vs' K' q M)) ∧ l4 - (IntKind.wrap .i64 ((m : Int) + 1)).toNat < l4 - ((m : Nat) : Int).toNat) w84 := by
    intro w84 hV84 u84
    show (_ ∧ _)
    rw [wrap_succ (by omega)]
    refine ⟨⟨m + 1, own2, vs2, RW2, s3, _, rfl, by omega, hV84, ?_, ((hKp.trans (Kp.ext x74)).trans (hKp2.mono (by omega))).trans (Kp.upd u84 (by omega)), by rw [hR2]; exact hRn, fun q hq => ?_, ?_, fun q hq M => ?_⟩, by simp; omega⟩
    ·rw [List.take_add_one, hkg]; exact hD.append hD2
    ·obtain ⟨g1, g2⟩ := hold2 q (by omega)
     obtain ⟨g3, g4⟩ := hold q hq
     exact ⟨by rw [List.getElem?_set, if_neg (by omega), g1, g3], by rw [g2, g4]⟩
    ·intro v k e1 e2 m2 hm2 hm3
     rw [List.getElem?_set, if_pos rfl, if_pos (List.getElem?_eq_some_iff.1 hkk).1] at e2
     cases e2
     have hvv : v = i := by
      rw [htl2, List.getElem?_append_left hn0, hvi] at e1; cases e1; rfl
     subst hvv
     rw [List.getElem?_set]
     by_cases e : m = m2
     ·subst e
      exact ⟨qr, by rw [if_pos rfl, if_pos (by omega)], vr, hvr, evr⟩
     ·rw [if_neg e]
      have hk0 : K'[vs.length]? = some kk := by rw [← hK2]; exact hkk
      obtain ⟨pp, f1, u, f2, f3⟩ := hFn v kk hvi hk0 m2 (by simpa using hm2) (by omega)
      exact ⟨pp, f1, u, by rw [htl2, List.getElem?_append_left (List.getElem?_eq_some_iff.1 f2).1]; exact f2, f3⟩
    ·have hne : ¬ vs.length = q := by omega
     have eK : (K2.set vs.length (kk.set m (qr : Int)))[q]? = K2[q]? := by rw [List.getElem?_set, if_neg hne]
     rcases Nat.lt_or_ge q vs'.length with h1 | h1
     ·have := (hFq q hq M).grow (t := tl2) h1 (K' := K2.set vs.length (kk.set m (qr : Int))) (by rw [eK]; exact (hold2 q h1).1)
      rw [htl2]; exact this
     ·intro v k e1 e2
      rw [eK] at e2
      exact hF2 q h1 M v k e1 e2
   obtain ⟨b82, e82, set82⟩ := hV2.setK (m := m) (by rw [hR2]; exact hRn) hkk (by omega) (qr : Int) key
   refine ⟨_, rfl, cel, ⟨by omega, by show (m : Int) < ((l4 : Nat) : Int).toNat; omega⟩, ?_⟩
   rw [hrawk] at e82
   cases e82
   exact set82
  ·have hml : m = l4 := by have := of_decide_eq_false t; omega
   subst hml
   rw [← hkidl, List.take_length] at hD
   refine ⟨own', vs', RW', s2, K', hV, .new hns hD (.nil _), hkp63.trans (hKp.mono (by omega)), ⟨vs.length, by rw [hsl], i, hvi, Eqv.refl _ _⟩, hold, fun q hq M => ?_⟩
   rcases Nat.lt_or_ge vs.length q with h1 | h1
   ·exact hFq q h1 M
   ·have : q = vs.length := by omega
    subst this
    intro v k e1 e2 m2 hm2 _
    refine hFn v k e1 e2 m2 hm2 ?_
    have hvv : v = i := by rw [hvi] at e1; cases e1; rfl
    subst hvv
    obtain ⟨_, _, _, g4, _⟩ := hV.nds vs.length raw v k hRn e1 e2
    rw [g4, nd_get hi] at hm2; omega
end Go.Proofs.YtnmldggopnbclaaGreatDoor

namespace Go.Proofs.YtnmldggopnbclaaGreatDoor
open Go Go.V Go.Proofs
open Go.RowKit (Below)
/-! manystrand/graph.least -/
def N16 (a1 : Option Addr) (l1 : Nat) (c1 : Nat) (x2 : Int) (K : Int → Option Addr → Nat → Nat → World → Prop) (w : World) : Prop :=
 AllocK w (#[(.slice a1 l1 c1)]) 23 fun b3 w4 =>
 AllocK w4 (#[.int .i64 0, .slice none 0 0]) 25 fun b5 w6 =>
 ∃ a7 l7 c7, w6.cell? b3 = some (.slice a7 l7 c7) ∧
 (Calls Tryz.prog 35 #[(.slice a7 l7 c7)] w6 fun e10 w9 =>
 ∃ a8, ∃ l8, ∃ c8, e10 = .returned (.slice a8 l8 c8) ∧
 (AllocK w9 (#[.slice none 0 0]) 37 fun b11 w12 =>
 SetK w12 b11 (.slice a8 l8 c8) fun w13 =>
 ∃ m14, ∃ w15, Sem.run Tryz.prog (Instr.makeMap 79 none) w13 = .ok (.map m14) w15 ∧
 (AllocK w15 (#[.map none]) 79 fun b16 w17 =>
 SetK w17 b16 (.map m14) fun w18 =>
 AllocK w18 (#[.int .i64 0, .slice none 0 0]) 25 fun b19 w20 =>
 AllocK w20 (#[.nilFunc]) 80 fun b21 w22 =>
 SetK w22 b21 (.func (.func 36) #[] #[(.pointer (some b16)), (.pointer (some b11)), (.pointer (some b19)), (.pointer (some b3)), (.pointer (some b21))]) fun w23 =>
 ∃ (g24 : FuncId) (k25 : Array Value), w23.cell? b21 = some (.func (.func g24) #[] k25) ∧
 (Enters Tryz.prog g24 ∧
 (Calls Tryz.prog g24 (callArgs [] [(.int .i64 x2)] k25.toList) w23 fun e28 w27 =>
 ∃ x26, e28 = .returned (.int .i64 x26) ∧
 (∃ x29, w27.cell? (b19.add 0) = some (.int .i64 x29) ∧
 (∃ a30 l30 c30, w27.cell? (b19.add 1) = some (.slice a30 l30 c30) ∧
 (SetK w27 (b5.add 0) (.int .i64 x29) fun w31 =>
 SetK w31 (b5.add 1) (.slice a30 l30 c30) fun w32 =>
 ∃ x33, w32.cell? (b5.add 0) = some (.int .i64 x33) ∧
 (∃ a34 l34 c34, w32.cell? (b5.add 1) = some (.slice a34 l34 c34) ∧
 (K x33 a34 l34 c34 w32))))))))))
def ann16 : Ann := (.two .nil (.two .nil (.two .nil (.two .nil (.two .nil (.two .nil (.two .nil (.two .nil .nil))))))))
noncomputable def code16 : Code := match Tryz.f16.body with | some c => c | none => .skip
theorem calls16 (a1 : Option Addr) (l1 : Nat) (c1 : Nat) (x2 : Int) (K : Int → Option Addr → Nat → Nat → World → Prop) (w : World) (h : N16 a1 l1 c1 x2 K w) : Calls Tryz.prog 16 #[(.slice a1 l1 c1), (.int .i64 x2)] w fun en w' => ∃ (x35 : Int), ∃ (a36 : Option Addr), ∃ (l36 : Nat), ∃ (c36 : Nat), en = .returned (.agg #[(.int .i64 x35), (.slice a36 l36 c36)]) ∧ K x35 a36 l36 c36 w' :=
 fn_calls tabOk mixed Tryz.func16 (by kernel_rfl : Tryz.f16.body = some code16) ann16 [(.slice a1 l1 c1), (.int .i64 x2)] [(.agg [(.int .i64), .slice])] K w (by kernel_rfl) (by kernel_rfl) (by kernel_rfl) h
end Go.Proofs.YtnmldggopnbclaaGreatDoor

namespace Go.Proofs.YtnmldggopnbclaaGreatDoor
open Go Go.V Go.Proofs
open Go.RowKit (Below)
/-! manystrand/graph.Least -/
def N30 (x1 : Int) (a2 : Option Addr) (l2 : Nat) (c2 : Nat) (K : Int → Option Addr → Nat → Nat → Int → World → Prop) (w : World) : Prop :=
 AllocK w (#[(.int .i64 x1), (.slice a2 l2 c2)]) 25 fun b3 w4 =>
 AllocK w4 (#[.int .i64 0, .slice none 0 0]) 25 fun b5 w6 =>
 ∃ x7, w6.cell? (b3.add 0) = some (.int .i64 x7) ∧
 (∃ a8 l8 c8, w6.cell? (b3.add 1) = some (.slice a8 l8 c8) ∧
 (Calls Tryz.prog 15 #[(.agg #[(.int .i64 x7), (.slice a8 l8 c8)])] w6 fun e11 w10 =>
 ∃ p9, e11 = .returned (.bool p9) ∧
 (BoolK (!p9)
 (SetK w10 (b5.add 0) (.int .i64 0) fun w12 =>
 SetK w12 (b5.add 1) (.slice none 0 0) fun w13 =>
 ∃ x14, w13.cell? (b5.add 0) = some (.int .i64 x14) ∧
 (∃ a15 l15 c15, w13.cell? (b5.add 1) = some (.slice a15 l15 c15) ∧
 (K x14 a15 l15 c15 50 w13)))
 (∃ a16 l16 c16, w10.cell? (b3.add 1) = some (.slice a16 l16 c16) ∧
 (∃ x17, w10.cell? b3 = some (.int .i64 x17) ∧
 (Calls Tryz.prog 16 #[(.slice a16 l16 c16), (.int .i64 x17)] w10 fun e21 w20 =>
 ∃ x18, ∃ a19, ∃ l19, ∃ c19, e21 = .returned (.agg #[(.int .i64 x18), (.slice a19 l19 c19)]) ∧
 (SetK w20 (b5.add 0) (.int .i64 x18) fun w22 =>
 SetK w22 (b5.add 1) (.slice a19 l19 c19) fun w23 =>
 ∃ x24, w23.cell? (b5.add 0) = some (.int .i64 x24) ∧
 (∃ a25 l25 c25, w23.cell? (b5.add 1) = some (.slice a25 l25 c25) ∧
 (K x24 a25 l25 c25 0 w23)))))))))
end Go.Proofs.YtnmldggopnbclaaGreatDoor

namespace Go.Proofs.YtnmldggopnbclaaGreatDoor
open Go Go.V Go.Proofs Go.V.Gr
open Go.RowKit (Below)
def outOf (xs : List Nd) (vs : List Nat) (K : List (List Int)) : List Nd := (List.range vs.length).map fun q => { nd xs (vs[q]?.getD 0) with ks := K[q]?.getD [] }
theorem outOf_get {xs : List Nd} {vs : List Nat} {K : List (List Int)} {q : Nat} (h : q < vs.length) : (outOf xs vs K)[q]? = some { nd xs vs[q] with ks := K[q]?.getD [] } := by
 rw [outOf, List.getElem?_map, List.getElem?_range h]; simp [List.getElem?_eq_getElem h]
theorem outOf_len {xs : List Nd} {vs : List Nat} {K : List (List Int)} : (outOf xs vs K).length = vs.length := by simp [outOf]
structure Ub (own : OwnM Nat) (w : World) (b : Nat) (cs : Array Value) (t : TypeId) : Prop where
 blk : Blk w b cs t
 free : own b = none
theorem Ub.ext {own : OwnM Nat} {w w' : World} {b t : Nat} {cs : Array Value} (h : Ub own w b cs t) (x : Ext w w') : Ub own w' b cs t := ⟨h.blk.ext x, h.free⟩
theorem Ub.fr {own own' : OwnM Nat} {w w' : World} {b t : Nat} {cs : Array Value} (h : Ub own w b cs t) (u : Fr own own' w w') : Ub own' w' b cs t := ⟨Fr.blk h.blk u h.free, u.free b h.blk.lt h.free⟩
structure VN (w : World) (own : OwnM Nat) (xs : List Nd) (vs : List Nat) (RW : List Rw) (s : SL) (K : List (List Int)) : Prop where
 out : RowR own 0 39 5 eN w s RW
 lenR : RW.length = vs.length
 lenK : K.length = vs.length
 nds : ∀ (q : Nat) (r : Rw) (v : Nat) (k : List Int), RW[q]? = some r → vs[q]? = some v → K[q]? = some k → r.kd = (nd xs v).kd ∧ r.n = (nd xs v).n ∧ r.tx = (nd xs v).tx ∧ k.length = (nd xs v).ks.length ∧
  RowR own (11 + 3 * q) 41 2 eFt w r.sf (nd xs v).fs ∧ RowR own (10 + 3 * q) 3 1 eI w r.sk k
theorem VN.frame {w w' : World} {own : OwnM Nat} {xs : List Nd} {vs : List Nat} {RW : List Rw} {s : SL} {K : List (List Int)} (h : VN w own xs vs RW s K) (k : ∀ b, b < w.heap.size → own b ≠ none → w'.heap[b]? = w.heap[b]?) : VN w' own xs vs RW s K :=
 ⟨h.out.frame k, h.lenR, h.lenK, fun q r v kk e1 e2 e3 => by
  obtain ⟨g1, g2, g3, g4, g5, g6⟩ := h.nds q r v kk e1 e2 e3
  exact ⟨g1, g2, g3, g4, g5.frame k, g6.frame k⟩⟩
section
variable {w0 w : World} {own : OwnM Nat} {p : Pl} {xs : List Nd} {cl : List Int} {vs : List Nat} {RW : List Rw} {s : SL} {K : List (List Int)} {mk : List Int}
theorem VS.isG (h : VS w0 w own p xs cl vs RW s K mk) (hF : ∀ q M, Fil xs vs K q M) : IsG xs vs (outOf xs vs K) := by
 have hk : ∀ q (hq : q < vs.length), (K[q]?.getD []).length = (nd xs vs[q]).ks.length := fun q hq => by
  obtain ⟨_, _, _, g4, _⟩ := h.nds q (RW[q]'(by rw [h.lenR]; exact hq)) vs[q] (K[q]'(by rw [h.lenK]; exact hq)) (List.getElem?_eq_getElem _) (List.getElem?_eq_getElem _) (List.getElem?_eq_getElem _)
  rw [List.getElem?_eq_getElem (by rw [h.lenK]; exact hq)]; exact g4
 have hnd : ∀ q (hq : q < vs.length), nd (outOf xs vs K) q = { nd xs vs[q] with ks := K[q]?.getD [] } := fun q hq => by
  have e : (outOf xs vs K)[q]? = _ := outOf_get (K := K) (xs := xs) hq
  unfold nd at e ⊢
  rw [e]; rfl
 refine ⟨outOf_len, fun q hq => ?_, fun q hq m hm => ?_⟩
 ·rw [hnd q hq]; exact hd_mk rfl rfl rfl rfl (hk q hq)
 ·rw [hnd q hq] at hm ⊢
  have hKq : q < K.length := by rw [h.lenK]; exact hq
  rw [List.getElem?_eq_getElem hKq] at hm ⊢
  obtain ⟨p, e1, u, e2, e3⟩ := hF q (m + 1) vs[q] K[q] (List.getElem?_eq_getElem hq) (List.getElem?_eq_getElem hKq) m hm (by omega)
  obtain ⟨hp, e4⟩ := List.getElem?_eq_some_iff.1 e2
  exact ⟨p, e1, hp, by rw [e4]; exact e3⟩
theorem VS.vn (h : VS w0 w own p xs cl vs RW s K mk) : VN w own xs vs RW s K := ⟨h.out, h.lenR, h.lenK, h.nds⟩
theorem VN.nodes (h : VN w own xs vs RW s K) (hw : ∀ x ∈ xs, NdW x) (hwf : ∀ x ∈ xs, (Lit.int .i64 x.n).wf = true) (hv : ∀ v ∈ vs, v < xs.length) (hs : vs.length ≤ maxLen) (hz : Sz xs) : RNds w s.1 s.2.1 (outOf xs vs K) := by
 refine ⟨h.out.1.rows eN_len RNd (by rw [outOf_len, h.lenR]) fun f q r y hr hy hf => ?_, by rw [h.out.len, h.lenR]; exact hs⟩
 have hq : q < vs.length := by rw [← h.lenR]; exact (List.getElem?_eq_some_iff.1 hr).1
 have hKq : q < K.length := by rw [h.lenK]; exact hq
 rw [outOf_get hq, List.getElem?_eq_getElem hKq] at hy
 cases hy
 obtain ⟨g1, g2, g3, g4, g5, g6⟩ := h.nds q r vs[q] K[q] hr (List.getElem?_eq_getElem hq) (List.getElem?_eq_getElem hKq)
 have hvq := hv _ (List.getElem_mem hq)
 have hx : nd xs vs[q] ∈ xs := by rw [nd_get hvq]; exact List.getElem_mem _
 have W := (hw _ hx).hd
 refine ⟨by rw [hf 0 (by omega), ← g1]; rfl, by rw [hf 1 (by omega), ← g2]; rfl, by rw [hf 2 (by omega), ← g3]; rfl, by have := W.kd; simp only [maxLen]; show (nd xs vs[q]).kd.size ≤ _; omega, by have := W.tx.2; simp only [maxLen]; show (nd xs vs[q]).tx.size ≤ _; omega,
  ⟨_, _, _, by rw [hf 3 (by omega)]; rfl, ?_, ?_⟩, ⟨_, _, _, by rw [hf 4 (by omega)]; rfl, OwnR.ints g6.1, ?_⟩, (hwf _ hx : (Lit.int .i64 (nd xs vs[q]).n).wf = true)⟩
 ·refine g5.1.rows eFt_len RFt rfl fun f' i x y hx' hy' hf' => ?_
  rw [hx'] at hy'; cases hy'
  have := (W.fs x (List.mem_of_getElem? hx')).1.2
  exact ⟨by rw [hf' 0 (by omega)]; rfl, by rw [hf' 1 (by omega)]; rfl, by simp only [maxLen]; omega⟩
 ·have e1 := g5.len
  have := W.len
  show r.sf.2.1 ≤ maxLen
  rw [e1]; simp only [maxLen]
  show (nd xs vs[q]).fs.length ≤ _; omega
 ·have e1 := g6.len
  have := hz.ks _ hx
  show r.sk.2.1 ≤ maxLen
  rw [e1, g4]; simp only [maxLen]; omega
end
def GD (w0 w : World) (s : SL) (out : List Nd) : Prop := ∃ own xs vs RW K, VN w own xs vs RW s K ∧ Mine own w0 w ∧ ∀ w', VN w' own xs vs RW s K → RNds w' s.1 s.2.1 out
theorem GD.nodes {w0 w : World} {s : SL} {out : List Nd} (h : GD w0 w s out) : RNds w s.1 s.2.1 out := by
 obtain ⟨own, xs, vs, RW, K, h1, _, h3⟩ := h; exact h3 w h1
theorem GD.below {w0 w : World} {s : SL} {out : List Nd} (h : GD w0 w s out) : Ext w0 w := by
 obtain ⟨own, xs, vs, RW, K, _, h2, _⟩ := h; exact h2.below
theorem GD.ext {w0 w w' : World} {s : SL} {out : List Nd} (h : GD w0 w s out) (x : Ext w w') : GD w0 w' s out := by
 obtain ⟨own, xs, vs, RW, K, h1, h2, h3⟩ := h
 exact ⟨own, xs, vs, RW, K, h1.frame fun b hb _ => x.block b hb, h2.ext x, h3⟩
theorem GD.but {w0 w w' : World} {s : SL} {out : List Nd} {b : Nat} (h : GD w0 w s out) (k : But b w w') (hb : b < w0.heap.size) {w00 : World} (x : Ext w00 w0) (hb2 : w00.heap.size ≤ b) : GD w00 w' s out := by
 obtain ⟨own, xs, vs, RW, K, h1, h2, h3⟩ := h
 have hn : own b = none := h2.fr.free b hb rfl
 refine ⟨own, xs, vs, RW, K, h1.frame fun c _ hc => k.block c fun e => hc (by rw [e]; exact hn), ⟨?_, fun c hc => h2.top c (by rw [← k.size]; exact hc)⟩, h3⟩
 have e1 := (Mine.below h2)
 have e2 : Ext w00 w' := k.below (x.trans e1) hb2
 exact ⟨e2.os, e2.tape, e2.output, e2.size, fun c hc _ => e2.block c hc, fun c hc _ => h2.fr.free c (Nat.lt_of_lt_of_le hc x.size) rfl⟩
theorem GD.rebase {w00 w0 w : World} {s : SL} {out : List Nd} (h : GD w0 w s out) (x : Ext w00 w0) : GD w00 w s out := by
 obtain ⟨own, xs, vs, RW, K, h1, h2, h3⟩ := h
 exact ⟨own, xs, vs, RW, K, h1, ⟨(Fr.of_ext _ x).trans h2.fr, h2.top⟩, h3⟩
theorem RNds.wf {w : World} {a : Option Addr} {l : Nat} {xs : List Nd} (h : RNds w a l xs) : ∀ x ∈ xs, (Lit.int .i64 x.n).wf = true := by
 intro x hx
 obtain ⟨i, hi, rfl⟩ := List.getElem_of_mem hx
 obtain ⟨_, _, _, _, _, _, _, _, _, e⟩ := ndAt h (Ext.refl w) hi
 exact e
set_option maxRecDepth 100000 in
theorem ctr16 (w : World) {a1 : Option Addr} {l1 : Nat} (c1 : Nat) {xs : List Nd} (h : RNds w a1 l1 xs) (hc : Closed xs) (hz : Sz xs) (hw : ∀ x ∈ xs, NdW x) (ht : Tb w) {i : Nat} (hi : i < xs.length) :
  Calls Tryz.prog 16 #[.slice a1 l1 c1, .int .i64 (i : Int)] w fun en w' => ∃ x a l c, en = .returned (.agg #[.int .i64 x, .slice a l c]) ∧
   (x = 0 ∧ ∃ out, Least xs i out ∧ GD w w' (a, l, c) out) := by
 refine calls16 _ _ _ _ _ w ?_
 have hn := hz.len
 refine Bx.new (fun _ => (none : Option Nat)) 4 fun b3 w4 x3 u3 e3 hb3 => ?_
 have L4 := (Mine.refl (ρ := Nat) w).upd u3
 generalize setOwn (fun _ => (none : Option Nat)) (some b3) 4 = own3 at x3 u3 L4
 refine AllocK.mk fun b5 w6 hb5 x5 e5 => ?_
 have L6 := L4.ext e5
 have x3 := x3.ext e5
 have x5 : Ub own3 w6 b5 _ _ := ⟨x5, L4.top b5 (by omega)⟩
 refine ⟨_, _, _, by rw [x3.blk.cell]; rfl, ?_⟩
 refine (ctr35 w6 c1 (RNds.at h L6.below) hc hz hw (ht.ext L6.below)).mono ?_
 rintro en w9 ⟨a8, l8, c8, rfl, cl, hcl, _, hO8, e9⟩
 have L9 := L6.ext e9
 have f9 : FRow own3 3 eI w9 (a8, l8, c8) cl := FRow.of hO8 L6.top
 have x3 := x3.ext e9
 have x5 := x5.ext e9
 refine ⟨_, _, _, rfl, Bx.new own3 5 fun b11 w12 x11 u11 e12 hb11 => Bx.set x11 (by simp) fun w13 x11 u13 => ?_⟩
 have L13 := (L9.upd u11).upd u13
 have f13 := (f9.upd u11).upd u13
 have x3 := (x3.upd u11 (by decide)).upd u13 (by decide)
 have x5 := (x5.fr u11.fr).fr u13.fr
 generalize setOwn own3 (some b11) 5 = own11 at x3 x5 x11 u11 u13 L13 f13
 obtain ⟨w15, bm, q15, mx, u15, e15⟩ := Mx.new (P := Tryz.prog) (t := 79) eK w13 0 own11 1
 have L15 := L13.upd u15
 have f15 := f13.upd u15
 have x3 := x3.upd u15 (by decide)
 have x5 := x5.fr u15.fr
 have x11 := x11.upd u15 (by decide)
 generalize setOwn own11 (some bm) 1 = own15 at x3 x5 x11 mx u15 L15 f15
 refine ⟨some bm, w15, q15, Bx.new own15 6 fun b16 w17 x16 u16 e17 hb16 => Bx.set x16 (by simp) fun w18 x16 u18 => ?_⟩
 have L18 := (L15.upd u16).upd u18
 have f18 := (f15.upd u16).upd u18
 have x3 := (x3.upd u16 (by decide)).upd u18 (by decide)
 have x5 := (x5.fr u16.fr).fr u18.fr
 have x11 := (x11.upd u16 (by decide)).upd u18 (by decide)
 have mx := (mx.upd u16 (by decide)).upd u18 (by decide)
 generalize setOwn own15 (some b16) 6 = own16 at x3 x5 x11 x16 mx u16 u18 L18 f18
 refine Bx.new own16 2 fun b19 w20 x19 u19 e20 hb19 => ?_
 have L20 := L18.upd u19
 have f20 := f18.upd u19
 have x3 := x3.upd u19 (by decide)
 have x5 := x5.fr u19.fr
 have x11 := x11.upd u19 (by decide)
 have x16 := x16.upd u19 (by decide)
 have mx := mx.upd u19 (by decide)
 generalize setOwn own16 (some b19) 2 = own19 at x3 x5 x11 x16 x19 mx u19 L20 f20
 refine Bx.new own19 7 fun b21 w22 x21 u21 e22 hb21 => Bx.set x21 (by simp) fun w23 x21 u23 => ?_
 have L23 := (L20.upd u21).upd u23
 have f23 := (f20.upd u21).upd u23
 have x3 := (x3.upd u21 (by decide)).upd u23 (by decide)
 have x5 := (x5.fr u21.fr).fr u23.fr
 have x11 := (x11.upd u21 (by decide)).upd u23 (by decide)
 have x16 := (x16.upd u21 (by decide)).upd u23 (by decide)
 have x19 := (x19.upd u21 (by decide)).upd u23 (by decide)
 have mx := (mx.upd u21 (by decide)).upd u23 (by decide)
 generalize setOwn own19 (some b21) 7 = own21 at x3 x5 x11 x16 x19 x21 mx u21 u23 L23 f23
 have V23 : VS w w23 own21 ⟨b3, b11, b16, b19, b21, bm, a1, l1, c1, (a8, l8, c8)⟩ xs cl [] [] (none, 0, 0) [] ([].map (ga cl)) :=
  ⟨L23, x3, by simpa using x11, by simpa using x16, by simpa [Pl.fn] using x21, x19, f23, mx, RowR.nil _ _ _ _ _ _, rfl, rfl, fun q r v k e => by simp at e⟩
 refine ⟨_, _, by rw [V23.x21.blk.cell]; rfl, Tryz.call36, ?_⟩
 refine (ctr36 h hc hz hcl (xs.length + 1) w23 own21 [] [] (none, 0, 0) [] i V23 hi (fun a b x y e => by simp at e) (fun v hv => by simp at hv) (by simp)).mono ?_
 rintro en w27 ⟨r, rfl, own', vs', RW', s', K', V, D, kp, _, _, hF⟩
 refine ⟨_, rfl, _, by rw [add_mk, V.x19.blk.cell]; rfl, _, _, _, by rw [add_mk, V.x19.blk.cell]; rfl, ?_⟩
 have x5 := x5.fr kp.fr
 have hF' : ∀ q M, Fil xs vs' K' q M := fun q M => hF q (by simp) M
 have haV := D.apart (fun a b x y e => by simp at e)
 have hvV := D.lt hc (by simpa using hi) (by simp)
 have hvl := vs_len haV hvV
 have G := V.isG hF'
 have N27 := V.vn
 rw [add_mk, add_mk]
 refine SetK.mk x5.blk (by simp) fun w31 g31 k31 => SetK.mk g31 (by simp) fun w32 g32 k32 => ?_
 have N32 := (N27.frame (w' := w31) fun b _ hb => k31.block b fun e => hb (by rw [e]; exact x5.free)).frame (w' := w32) fun b _ hb => k32.block b fun e => hb (by rw [e]; exact x5.free)
 have hb0 : w.heap.size ≤ b5 := by have := e3.size; omega
 have R := fun w' (N : VN w' own' xs vs' RW' s' K') => N.nodes hw (RNds.wf h) hvV (by simp only [maxLen]; omega) hz
 have L32 : Mine own' w w32 := by
  have e2 : Ext w w32 := k32.below (k31.below V.loc.below hb0) hb0
  exact ⟨⟨e2.os, e2.tape, e2.output, e2.size, fun c hc _ => e2.block c hc, fun c hc _ => V.loc.fr.free c hc rfl⟩, fun c hc => V.loc.top c (by rw [← k31.size, ← k32.size]; exact hc)⟩
 exact ⟨_, by rw [g32.cell]; rfl, _, _, _, by rw [g32.cell]; rfl, rfl, _, ⟨vs', D, G⟩, own', xs, vs', RW', K', N32, L32, R⟩
end Go.Proofs.YtnmldggopnbclaaGreatDoor

namespace Go.Proofs.YtnmldggopnbclaaGreatDoor
open Go Go.V Go.Proofs Go.V.Gr
open Go.RowKit (Below)
def Lim (xs : List Nd) : Prop := ∀ x ∈ xs, x.fs.length ≤ 1000000 ∧ x.ks.length ≤ 1000000
theorem prS_of {s : ByteArray} (h : atomD s = true) : prS s := by
 simp only [atomD, prnD, Bool.and_eq_true, decide_eq_true_eq] at h
 exact ⟨h.1, by omega⟩
theorem prS_nil : prS ⟨#[]⟩ := ⟨rfl, by decide⟩
theorem prS_sort {s : ByteArray} (h : sortD s = true) : prS s := by
 have := sortD_iff.1 h
 simp only [sorts, List.mem_cons, List.not_mem_nil, or_false] at this
 rcases this with rfl | rfl | rfl | rfl | rfl | rfl | rfl | rfl | rfl | rfl <;> exact ⟨by decide, by decide⟩
theorem NdOk.w {x : Nd} {n : Int} (h : NdOk x n) (hl : x.fs.length ≤ 1000000) : NdW x := by
 rcases h with ⟨h1, h2, h3, h4, h5, h6⟩ | ⟨h1, h2, h3, h4, h5, h6⟩ | ⟨h1, h2, h3, h4, h5, h6⟩ | ⟨h1, h2, h3, h4, h5, h6⟩
 ·exact ⟨⟨by rw [h1]; decide, ⟨by omega, by omega⟩, by rw [h2]; exact prS_nil, by rw [h3]; simp, hl⟩, ⟨by rw [KdOk, h1]; decide, by rw [h3, h4]; rfl⟩⟩
 ·exact ⟨⟨by rw [h1]; decide, ⟨by omega, by omega⟩, by rw [h2]; exact prS_nil, by rw [h3]; simp, hl⟩, ⟨by rw [KdOk, h1]; decide, by rw [h3, h4]; rfl⟩⟩
 ·exact ⟨⟨by rw [h1]; decide, ⟨by omega, by omega⟩, prS_sort h2, by rw [h3]; simp, hl⟩, ⟨by rw [KdOk, h1]; decide, by rw [h3, h4]; rfl⟩⟩
 ·refine ⟨⟨by rw [h1]; decide, ⟨by omega, by omega⟩, prS_of h3, fun f hf => ?_, hl⟩, ⟨by rw [KdOk, h1]; decide, h4⟩⟩
  obtain ⟨i, hi⟩ := List.getElem?_of_mem hf
  have := (h5 i f hi).1
  unfold featD at this
  split at this
  ·have := of_decide_eq_true this
   exact ⟨by rw [this.2.2]; exact prS_nil, ⟨by omega, by omega⟩⟩
  ·rename_i h0
   exact ⟨prS_of this, ⟨by omega, by omega⟩⟩
section
variable {root : Int} {xs : List Nd} {most : Nat}
theorem GrOk.closed (h : GrOk root xs most) : Closed xs := by
 intro x hx k hk
 rcases h.nds x hx with ⟨_, _, _, h4, _⟩ | ⟨_, _, _, h4, _⟩ | ⟨_, _, _, h4, _⟩ | ⟨_, _, _, _, _, h6⟩
 ·rw [h4] at hk; cases hk
 ·rw [h4] at hk; cases hk
 ·rw [h4] at hk; cases hk
 ·exact h6 k hk
theorem GrOk.w (h : GrOk root xs most) (hl : Lim xs) : ∀ x ∈ xs, NdW x := fun x hx => (h.nds x hx).w (hl x hx).1
theorem GrOk.sz (h : GrOk root xs most) (hm : most ≤ 1000000) (hl : Lim xs) : Sz xs := ⟨by have := h.most; omega, fun x hx => (hl x hx).1, fun x hx => (hl x hx).2⟩
theorem GrOk.lt (h : GrOk root xs most) : root.toNat < xs.length := by have := h.root; omega
end
theorem setTwo {w : World} {b t : Nat} {z0 z1 v0 v1 : Value} {F : World → Prop} (hb : Blk w b #[z0, z1] t) (h : ∀ w', Blk w' b #[v0, v1] t → But b w w' → F w') :
  SetK w ((⟨b, 0, none⟩ : Addr).add 0) v0 fun w2 => SetK w2 ((⟨b, 0, none⟩ : Addr).add 1) v1 F := by
 rw [add_mk, add_mk]
 refine SetK.mk hb (by simp) fun w2 h2 g2 => SetK.mk h2 (by simp) fun w3 h3 g3 => h w3 (by simpa using h3) (g2.trans g3)
theorem blkAt2 {w : World} {b t : Nat} {v0 v1 : Value} (h : Blk w b #[v0, v1] t) : w.cell? ((⟨b, 0, none⟩ : Addr).add 0) = some v0 ∧ w.cell? ((⟨b, 0, none⟩ : Addr).add 1) = some v1 ∧ w.cell? (⟨b, 0, none⟩ : Addr) = some v0 :=
 ⟨by rw [add_mk, h.cell]; rfl, by rw [add_mk, h.cell]; rfl, by rw [h.cell]; rfl⟩
def Ans (w w' : World) (xs : List Nd) (j : Option Nat) (err : Int) (x : Int) (s : SL) (e : Int) : Prop :=
 Ext w w' ∧ x = 0 ∧ ((∃ i, j = some i ∧ e = 0 ∧ ∃ out, Least xs i out ∧ GD w w' s out) ∨ (j = none ∧ e = err ∧ s = (none, 0, 0)))
end Go.Proofs.YtnmldggopnbclaaGreatDoor

namespace Go.Proofs.YtnmldggopnbclaaGreatDoor
open Go Go.V Go.Proofs
open Go.RowKit (Below)
/-! manystrand/manystrandlaw05.light -/
def N4 (x1 : Int) (a2 : Option Addr) (l2 : Nat) (c2 : Nat) (K : Bool → World → Prop) (w : World) : Prop :=
 AllocK w (#[(.int .i64 x1), (.slice a2 l2 c2)]) 25 fun b3 w4 =>
 ∃ a5 l5 c5, w4.cell? (b3.add 1) = some (.slice a5 l5 c5) ∧
 (∃ (I6 : Int → Int → World → Prop) (μ7 : Int → Int → World → Nat),
 (I6 0 0 w4 ∧ True) ∧
 ∀ w8 x9 x10, I6 x9 x10 w8 →
 BoolK (decide (x10 < l5))
 ((0 ≤ x10 ∧ x10 < l5) ∧
 AddrK a5 fun b11 =>
 ∃ s12, w8.cell? ((b11.add (x10.toNat * 5)).add 0) = some (.string s12) ∧
 (∃ x13, w8.cell? ((b11.add (x10.toNat * 5)).add 1) = some (.int .i64 x13) ∧
 (∃ s14, w8.cell? ((b11.add (x10.toNat * 5)).add 2) = some (.string s14) ∧
 (∃ a15 l15 c15, w8.cell? ((b11.add (x10.toNat * 5)).add 3) = some (.slice a15 l15 c15) ∧
 (∃ a16 l16 c16, w8.cell? ((b11.add (x10.toNat * 5)).add 4) = some (.slice a16 l16 c16) ∧
 (AllocK w8 (#[.string ⟨#[]⟩, .int .i64 0, .string ⟨#[]⟩, .slice none 0 0, .slice none 0 0]) 39 fun b17 w18 =>
 SetK w18 (b17.add 0) (.string s12) fun w19 =>
 SetK w19 (b17.add 1) (.int .i64 x13) fun w20 =>
 SetK w20 (b17.add 2) (.string s14) fun w21 =>
 SetK w21 (b17.add 3) (.slice a15 l15 c15) fun w22 =>
 SetK w22 (b17.add 4) (.slice a16 l16 c16) fun w23 =>
 ∃ a24 l24 c24, w23.cell? (b17.add 3) = some (.slice a24 l24 c24) ∧
 (∃ a25 l25 c25, w23.cell? (b17.add 4) = some (.slice a25 l25 c25) ∧
 (∃ s26, w23.cell? (b17.add 2) = some (.string s26) ∧
 (BoolK (decide (((s26.size : Nat) : Int) > 200))
 (K false w23)
 (BoolK (decide ((IntKind.wrap .i64 (x9 + (IntKind.wrap .i64 (l24 + l25))) : Int) > 5000))
 (K false w23)
 (∃ a27 l27 c27, w23.cell? (b17.add 3) = some (.slice a27 l27 c27) ∧
 (∃ (I28 : Int → World → Prop) (μ29 : Int → World → Nat),
 (I28 0 w23 ∧ True) ∧
 ∀ w30 x31, I28 x31 w30 →
 BoolK (decide (x31 < l27))
 ((0 ≤ x31 ∧ x31 < l27) ∧
 AddrK a27 fun b32 =>
 ∃ x33, w30.cell? ((b32.add (x31.toNat * 2)).add 0) = some (.int .i64 x33) ∧
 (∃ s34, w30.cell? ((b32.add (x31.toNat * 2)).add 1) = some (.string s34) ∧
 (AllocK w30 (#[.int .i64 0, .string ⟨#[]⟩]) 41 fun b35 w36 =>
 SetK w36 (b35.add 0) (.int .i64 x33) fun w37 =>
 SetK w37 (b35.add 1) (.string s34) fun w38 =>
 ∃ s39, w38.cell? (b35.add 1) = some (.string s39) ∧
 (BoolK (decide (((s39.size : Nat) : Int) > 200))
 (K false w38)
 (I28 (IntKind.wrap .i64 (x31 + 1)) w38 ∧ μ29 (IntKind.wrap .i64 (x31 + 1)) w38 < μ29 x31 w30)))))
 (I6 (IntKind.wrap .i64 (x9 + (IntKind.wrap .i64 (l24 + l25)))) (IntKind.wrap .i64 (x10 + 1)) w30 ∧ μ7 (IntKind.wrap .i64 (x9 + (IntKind.wrap .i64 (l24 + l25)))) (IntKind.wrap .i64 (x10 + 1)) w30 < μ7 x9 x10 w8)))))))))))))
 (∃ a40 l40 c40, w8.cell? (b3.add 1) = some (.slice a40 l40 c40) ∧
 (K (decide ((l40 : Int) ≤ 1100)) w8)))
def ann4 : Ann := (.two .nil (.two .nil (.two (.two .nil (.one (.loop [(3, (.one (.int .i64))), (11, (.one (.int .i64)))] [1, 9, 10] (.two .nil (.two (.two .nil .nil) (.two (.one (.two .nil (.two .nil (.two (.two .nil (.two (.two .nil .nil) .nil)) (.two .nil (.one (.loop [(35, (.one (.int .i64)))] [1, 3, 9, 10, 11, 33, 34] (.two .nil (.two (.two .nil .nil) (.two (.one (.two .nil (.two .nil (.two (.two .nil .nil) .nil)))) .nil)))))))))) .nil)))))) (.two .nil .nil))))
noncomputable def code4 : Code := match Tryz.f4.body with | some c => c | none => .skip
theorem calls4 (x1 : Int) (a2 : Option Addr) (l2 : Nat) (c2 : Nat) (K : Bool → World → Prop) (w : World) (h : N4 x1 a2 l2 c2 K w) : Calls Tryz.prog 4 #[(.agg #[(.int .i64 x1), (.slice a2 l2 c2)])] w fun en w' => ∃ (p41 : Bool), en = .returned (.bool p41) ∧ K p41 w' :=
 fn_calls tabOk mixed Tryz.func4 (by kernel_rfl : Tryz.f4.body = some code4) ann4 [(.agg #[(.int .i64 x1), (.slice a2 l2 c2)])] [(.one .bool)] K w (by kernel_rfl) (by kernel_rfl) (by kernel_rfl) h
end Go.Proofs.YtnmldggopnbclaaGreatDoor

namespace Go.Proofs.YtnmldggopnbclaaGreatDoor
open Go Go.V Go.Proofs Go.V.Gr
open Go.RowKit (Below)
section
variable {w : World} {b t : Nat} {v0 v1 v2 v3 v4 : Value}
theorem blkAt5 (h : Blk w b #[v0, v1, v2, v3, v4] t) {w' : World} (k : Ext w w') : w'.cell? (⟨b, 0, none⟩ : Addr) = some v0 ∧ w'.cell? ((⟨b, 0, none⟩ : Addr).add 1) = some v1 ∧ w'.cell? ((⟨b, 0, none⟩ : Addr).add 2) = some v2 ∧ w'.cell? ((⟨b, 0, none⟩ : Addr).add 3) = some v3 ∧ w'.cell? ((⟨b, 0, none⟩ : Addr).add 4) = some v4 := by
 have h := h.ext k
 exact ⟨by rw [h.cell]; rfl, by rw [add_mk, h.cell]; rfl, by rw [add_mk, h.cell]; rfl, by rw [add_mk, h.cell]; rfl, by rw [add_mk, h.cell]; rfl⟩
end
theorem not_iff_false {P : Prop} (h : ¬ P) : (false = true ↔ P) := ⟨fun e => (by cases e), fun e => absurd e h⟩
def LimT (xs : List Nd) : Prop := ∀ x ∈ xs, x.tx.size ≤ 1000000000000
theorem NdOk.lens {x : Nd} {n : Int} (h : NdOk x n) : x.ks.length = x.fs.length := by
 rcases h with ⟨_, _, h3, h4, _⟩ | ⟨_, _, h3, h4, _⟩ | ⟨_, _, h3, h4, _⟩ | ⟨_, _, _, h4, _⟩
 ·rw [h3, h4]; rfl
 ·rw [h3, h4]; rfl
 ·rw [h3, h4]; rfl
 ·exact h4
def LightNd (x : Nd) : Prop := x.tx.size ≤ 200 ∧ x.fs.length + x.ks.length ≤ 5000 ∧ ∀ f ∈ x.fs, f.2.size ≤ 200
def LightOk (xs : List Nd) : Prop := xs.length ≤ 1100 ∧ ∀ x ∈ xs, LightNd x
def Szd (xs : List Nd) : Prop := ∀ x ∈ xs, x.fs.length ≤ 1000000000000000 ∧ x.ks.length ≤ 1000000000000000
theorem ctr4 (w : World) (root : Int) (xs : List Nd) {a : Option Addr} {l : Nat} (c : Nat) (h : RNds w a l xs) (hz : Szd xs) :
  Calls Tryz.prog 4 #[.agg #[.int .i64 root, .slice a l c]] w fun en w' => ∃ p, en = .returned (.bool p) ∧ ((p = true → LightOk xs) ∧ Ext w w') := by
 refine calls4 _ _ _ _ _ w ?_
 have e1 := h.len
 have k1 := h.2
 simp only [maxLen] at k1
 refine AllocK.mk fun b w4 hb hB x4 => ?_
 obtain ⟨_, g1, g0⟩ := blkAt2 hB
 refine ⟨_, _, _, g1, fun n i w' => ∃ k : Nat, i = k ∧ k ≤ xs.length ∧ Ext w4 w' ∧ 0 ≤ n ∧ n ≤ 5000 ∧ ∀ i (x : Nd), i < k → xs[i]? = some x → LightNd x, fun _ i _ => xs.length - i.toNat, ⟨⟨0, rfl, by omega, Ext.refl _, by omega, by omega, fun i x hi => by omega⟩, trivial⟩, ?_⟩
 rintro w8 n _ ⟨k, rfl, hk, x8, hn0, hn1, hall⟩
 have y8 := x4.trans x8
 refine BoolK.mk (fun t => ?_) (fun t => ?_)
 ·have hlt : k < xs.length := by have := of_decide_eq_true t; omega
  have hx : xs[k] ∈ xs := List.getElem_mem hlt
  obtain ⟨z1, z2⟩ := hz _ hx
  obtain ⟨b1, ha, q0, q1, q2, _, _, ⟨a3, l3, c3, q5, q6⟩, ⟨a4, l4, c4, q7, q8⟩, _⟩ := ndAt h y8 hlt
  have e3 := q6.len; have e4 := q8.len
  refine ⟨⟨by omega, by omega⟩, adK ha ⟨_, q0, _, q1, _, q2, _, _, _, q5, _, _, _, q7, ?_⟩⟩
  refine local5 fun b17 w23 hb17 hB17 x23 => ?_
  obtain ⟨_, _, h2, h3, h4⟩ := blkAt5 hB17 (Ext.refl w23)
  refine ⟨_, _, _, h3, _, _, _, h4, _, h2, BoolK.mk (fun t1 => ⟨fun e => (by cases e), y8.trans x23⟩) (fun t1 => ?_)⟩
  have t1 := of_decide_eq_false t1
  rw [wrap_id (x := (l3 : Nat) + (l4 : Nat)) (by omega) (by omega), wrap_id (by omega) (by omega)]
  refine BoolK.mk (fun t2 => ⟨fun e => (by cases e), y8.trans x23⟩) (fun t2 => ?_)
  have t2 := of_decide_eq_false t2
  refine ⟨_, _, _, h3, fun i w' => ∃ k' : Nat, i = k' ∧ k' ≤ xs[k].fs.length ∧ Ext w23 w' ∧ ∀ i (f : Ft), i < k' → xs[k].fs[i]? = some f → f.2.size ≤ 200, fun i _ => xs[k].fs.length - i.toNat, ⟨⟨0, rfl, by omega, Ext.refl _, fun i x hi => by omega⟩, trivial⟩, ?_⟩
  rintro w30 _ ⟨k', rfl, hk', x30, hall'⟩
  have y30 := (y8.trans x23).trans x30
  refine BoolK.mk (fun t3 => ?_) (fun t3 => ?_)
  ·have hlt' : k' < xs[k].fs.length := by have := of_decide_eq_true t3; omega
   obtain ⟨b2, ha2, r0, r1, _⟩ := ftAt q6 (x23.trans x30) hlt'
   refine ⟨⟨by omega, by omega⟩, adK ha2 ⟨_, r0, _, r1, ?_⟩⟩
   refine local2 fun b35 w38 hb35 hB35 x38 => ?_
   obtain ⟨_, u1, _⟩ := blkAt2 hB35
   refine ⟨_, u1, BoolK.mk (fun t4 => ⟨fun e => (by cases e), y30.trans x38⟩) (fun t4 => ?_)⟩
   have t4 := of_decide_eq_false t4
   rw [wrap_succ (by omega)]
   refine ⟨⟨k' + 1, rfl, by omega, x30.trans x38, fun i f hi hf => ?_⟩, by simp; omega⟩
   rcases Nat.lt_or_ge i k' with h | h
   ·exact hall' i f h hf
   ·have : i = k' := by omega
    subst this
    rw [List.getElem?_eq_getElem hlt'] at hf; cases hf
    omega
  ·have : k' = xs[k].fs.length := by have := of_decide_eq_false t3; omega
   subst this
   rw [wrap_succ (by omega)]
   refine ⟨⟨k + 1, rfl, by omega, (x8.trans x23).trans x30, by omega, by omega, fun i x hi hxi => ?_⟩, by simp; omega⟩
   rcases Nat.lt_or_ge i k with h | h
   ·exact hall i x h hxi
   ·have : i = k := by omega
    subst this
    rw [List.getElem?_eq_getElem hlt] at hxi; cases hxi
    refine ⟨by omega, by omega, fun f hf => ?_⟩
    obtain ⟨j, hj⟩ := List.getElem?_of_mem hf
    exact hall' j f (List.getElem?_eq_some_iff.1 hj).1 hj
 ·have : k = xs.length := by have := of_decide_eq_false t; omega
  subst this
  obtain ⟨_, g1, _⟩ := blkAt2 (hB.ext x8)
  refine ⟨_, _, _, g1, fun t1 => ⟨by have := of_decide_eq_true t1; omega, fun x hx => ?_⟩, y8⟩
  obtain ⟨j, hj⟩ := List.getElem?_of_mem hx
  exact hall j x (List.getElem?_eq_some_iff.1 hj).1 hj
theorem LightOk.lim {xs : List Nd} (h : LightOk xs) : Lim xs ∧ LimT xs := ⟨fun x hx => by have := (h.2 x hx).2.1; omega, fun x hx => by have := (h.2 x hx).1; omega⟩
theorem Ans.rows {w w' : World} {xs : List Nd} {j : Option Nat} {err x e : Int} {s : SL} (h : Ans w w' xs j err x s e) :
  Ext w w' ∧ x = 0 ∧ ∃ out, RNds w' s.1 s.2.1 out ∧ ((∃ i, j = some i ∧ e = 0 ∧ Least xs i out ∧ GD w w' s out) ∨ (j = none ∧ e = err ∧ out = [] ∧ s = (none, 0, 0))) := by
 obtain ⟨h1, h2, h3⟩ := h
 refine ⟨h1, h2, ?_⟩
 rcases h3 with ⟨i, e1, e2, out, hL, hG⟩ | ⟨e1, e2, rfl⟩
 ·exact ⟨out, hG.nodes, .inl ⟨i, e1, e2, hL, hG⟩⟩
 ·exact ⟨[], ⟨Rows.nil _ _ _ _, by simp⟩, .inr ⟨e1, e2, rfl, rfl⟩⟩
theorem NdOk.of_hd {x y : Nd} {n m : Int} (h : NdOk x n) (e : y.hd = x.hd) (hk : ∀ k ∈ y.ks, 0 ≤ k ∧ k < m) : NdOk y m := by
 obtain ⟨e1, e2, e3, e4⟩ := hd_parts e
 have e5 := hd_len e
 have nil : x.ks = [] → y.ks = [] := fun h0 => List.length_eq_zero_iff.1 (by rw [e5, h0]; rfl)
 rcases h with ⟨h1, h2, h3, h4, h5⟩ | ⟨h1, h2, h3, h4, h5⟩ | ⟨h1, h2, h3, h4, h5⟩ | ⟨h1, h2, h3, h4, h5, _⟩
 ·exact .inl ⟨by rw [e1]; exact h1, by rw [e3]; exact h2, by rw [e4]; exact h3, nil h4, by rw [e2]; exact h5⟩
 ·exact .inr (.inl ⟨by rw [e1]; exact h1, by rw [e3]; exact h2, by rw [e4]; exact h3, nil h4, by rw [e2]; exact h5⟩)
 ·exact .inr (.inr (.inl ⟨by rw [e1]; exact h1, by rw [e3]; exact h2, by rw [e4]; exact h3, nil h4, by rw [e2]; exact h5⟩))
 ·exact .inr (.inr (.inr ⟨by rw [e1]; exact h1, by rw [e2]; exact h2, by rw [e3]; exact h3, by rw [e5, e4]; exact h4, by rw [e4]; exact h5, hk⟩))
theorem Least.ok {root : Int} {xs out : List Nd} {most i : Nat} (h : Least xs i out) (g : GrOk root xs most) (hi : i < xs.length) : GrOk 0 out most := by
 obtain ⟨vs, d, G⟩ := h
 have hvV := d.lt g.closed (by simpa using hi) (by simp)
 have haV := d.apart (fun a b x y e => by simp at e)
 have hvl := vs_len haV hvV
 have hm := g.most
 have hp := Least.pos ⟨vs, d, G⟩
 have hc := Least.closed ⟨vs, d, G⟩
 refine ⟨by rw [G.len]; omega, ⟨by omega, by omega⟩, fun x hx => ?_⟩
 obtain ⟨q, hq, rfl⟩ := List.getElem_of_mem hx
 have hq' : q < vs.length := by rw [← G.len]; exact hq
 have hv := hvV _ (List.getElem_mem hq')
 have hh := G.hd q hq'
 rw [nd_get hq, nd_get hv] at hh
 exact (g.nds _ (List.getElem_mem hv)).of_hd hh (hc _ hx)
end Go.Proofs.YtnmldggopnbclaaGreatDoor

namespace Go.Proofs.YtnmldggopnbclaaGreatDoor
open Go Go.V Go.Proofs
open Go.RowKit (Below)
/-! manystrand/graph.joined -/
def N17 (a1 : Option Addr) (l1 : Nat) (c1 : Nat) (x2 : Int) (a3 : Option Addr) (l3 : Nat) (c3 : Nat) (K : Option Addr → Nat → Nat → Int → World → Prop) (w : World) : Prop :=
 AllocK w (#[(.int .i64 x2), (.slice a3 l3 c3)]) 25 fun b4 w5 =>
 ∃ a6 l6 c6, w5.cell? (b4.add 1) = some (.slice a6 l6 c6) ∧
 (∃ (I7 : Option Addr → Nat → Nat → Int → World → Prop) (μ8 : Option Addr → Nat → Nat → Int → World → Nat),
 (I7 a1 l1 c1 0 w5 ∧ True) ∧
 ∀ w9 a10 l10 c10 x11, I7 a10 l10 c10 x11 w9 →
 BoolK (decide (x11 < l6))
 ((0 ≤ x11 ∧ x11 < l6) ∧
 AddrK a6 fun b12 =>
 ∃ s13, w9.cell? ((b12.add (x11.toNat * 5)).add 0) = some (.string s13) ∧
 (∃ x14, w9.cell? ((b12.add (x11.toNat * 5)).add 1) = some (.int .i64 x14) ∧
 (∃ s15, w9.cell? ((b12.add (x11.toNat * 5)).add 2) = some (.string s15) ∧
 (∃ a16 l16 c16, w9.cell? ((b12.add (x11.toNat * 5)).add 3) = some (.slice a16 l16 c16) ∧
 (∃ a17 l17 c17, w9.cell? ((b12.add (x11.toNat * 5)).add 4) = some (.slice a17 l17 c17) ∧
 (AllocK w9 (#[.string ⟨#[]⟩, .int .i64 0, .string ⟨#[]⟩, .slice none 0 0, .slice none 0 0]) 39 fun b18 w19 =>
 SetK w19 (b18.add 0) (.string s13) fun w20 =>
 SetK w20 (b18.add 1) (.int .i64 x14) fun w21 =>
 SetK w21 (b18.add 2) (.string s15) fun w22 =>
 SetK w22 (b18.add 3) (.slice a16 l16 c16) fun w23 =>
 SetK w23 (b18.add 4) (.slice a17 l17 c17) fun w24 =>
 ∃ a25 l25 c25, w24.cell? (b18.add 4) = some (.slice a25 l25 c25) ∧
 ((0 ≤ (l25 : Int) ∧ (l25 : Int) ≤ l25 ∧ ((8 : Nat) : Int) * l25 ≤ 281474976710656 ∧ (l25 : Int) ≤ 9223372036854775807) ∧
 AllocK w24 (madeCells (#[.int .i64 0]) ((l25 : Int).toNat * 1)) 3 fun b26 w27 =>
 ∃ a28 l28 c28, w27.cell? (b18.add 4) = some (.slice a28 l28 c28) ∧
 (∃ (I29 : Int → World → Prop) (μ30 : Int → World → Nat),
 (I29 0 w27 ∧ True) ∧
 ∀ w31 x32, I29 x32 w31 →
 BoolK (decide (x32 < l28))
 ((0 ≤ x32 ∧ x32 < l28) ∧
 AddrK a28 fun b33 =>
 ∃ x34, w31.cell? (b33.add (x32.toNat * 1)) = some (.int .i64 x34) ∧
 ((0 ≤ x32 ∧ x32 < ((l25 : Int).toNat : Nat)) ∧
 SetK w31 (b26.add (x32.toNat * 1)) (.int .i64 (IntKind.wrap .i64 (l1 + x34))) fun w35 =>
 I29 (IntKind.wrap .i64 (x32 + 1)) w35 ∧ μ30 (IntKind.wrap .i64 (x32 + 1)) w35 < μ30 x32 w31))
 (SetK w31 (b18.add 4) (.slice (some b26) ((l25 : Int).toNat) ((l25 : Int).toNat)) fun w36 =>
 ∃ s37, w36.cell? (b18.add 0) = some (.string s37) ∧
 (∃ x38, w36.cell? (b18.add 1) = some (.int .i64 x38) ∧
 (∃ s39, w36.cell? (b18.add 2) = some (.string s39) ∧
 (∃ a40 l40 c40, w36.cell? (b18.add 3) = some (.slice a40 l40 c40) ∧
 (∃ a41 l41 c41, w36.cell? (b18.add 4) = some (.slice a41 l41 c41) ∧
 (AllocK w36 (#[(.string s37), (.int .i64 x38), (.string s39), (.slice a40 l40 c40), (.slice a41 l41 c41)]) 39 fun b42 w43 =>
 ∃ a44, ∃ l44, ∃ c44, ∃ w45, Sem.run Tryz.prog (Builtin.append_ #[23, 23] 23 #[(.slice a10 l10 c10), (.slice (some b42) 1 1)]) w43 = .ok (.slice a44 l44 c44) w45 ∧
 (I7 a44 l44 c44 (IntKind.wrap .i64 (x11 + 1)) w45 ∧ μ8 a44 l44 c44 (IntKind.wrap .i64 (x11 + 1)) w45 < μ8 a10 l10 c10 x11 w9)))))))))))))))
 (DrewK w9 fun w46 =>
 ∃ x47, w46.cell? b4 = some (.int .i64 x47) ∧
 (K a10 l10 c10 (IntKind.wrap .i64 (l1 + x47)) w46)))
def ann17 : Ann := (.two .nil (.two .nil (.two (.two .nil (.one (.loop [(0, (.one .slice)), (17, (.one (.int .i64)))] [3, 6, 15, 16] (.two .nil (.two (.two .nil .nil) (.two (.one (.two .nil (.two .nil (.two (.two .nil (.one (.loop [(28, (.one (.int .i64)))] [0, 3, 6, 8, 9, 15, 16, 17, 26, 27] (.two .nil (.two (.two .nil .nil) (.two (.one (.two .nil .nil)) .nil)))))) (.two .nil .nil))))) .nil)))))) (.two (.anyC 7 (.take 0 (.take 1 (.take 2 (.take 3 (.take 4 (.take 5 (.take 6 .done)))))))) .nil))))
noncomputable def code17 : Code := match Tryz.f17.body with | some c => c | none => .skip
theorem calls17 (a1 : Option Addr) (l1 : Nat) (c1 : Nat) (x2 : Int) (a3 : Option Addr) (l3 : Nat) (c3 : Nat) (K : Option Addr → Nat → Nat → Int → World → Prop) (w : World) (h : N17 a1 l1 c1 x2 a3 l3 c3 K w) : Calls Tryz.prog 17 #[(.slice a1 l1 c1), (.agg #[(.int .i64 x2), (.slice a3 l3 c3)])] w fun en w' => ∃ (a48 : Option Addr), ∃ (l48 : Nat), ∃ (c48 : Nat), ∃ (x49 : Int), en = .returned (.tuple #[(.slice a48 l48 c48), (.int .i64 x49)]) ∧ K a48 l48 c48 x49 w' :=
 fn_calls tabOk mixed Tryz.func17 (by kernel_rfl : Tryz.f17.body = some code17) ann17 [(.slice a1 l1 c1), (.agg #[(.int .i64 x2), (.slice a3 l3 c3)])] [(.one .slice), (.one (.int .i64))] K w (by kernel_rfl) (by kernel_rfl) (by kernel_rfl) h
end Go.Proofs.YtnmldggopnbclaaGreatDoor

namespace Go.V.Gr
open Go Go.V
def shift (n : Nat) (x : Nd) : Nd := { x with ks := x.ks.map fun k => (n : Int) + k }
def app (xs ys : List Nd) : List Nd := xs ++ ys.map (shift xs.length)
theorem shift_hd (n : Nat) (x : Nd) : (shift n x).hd = x.hd := by simp [shift, Nd.hd]
theorem app_len (xs ys : List Nd) : (app xs ys).length = xs.length + ys.length := by simp [app]
theorem nd_right {xs ys : List Nd} {j : Nat} (h : j < ys.length) : nd (app xs ys) (xs.length + j) = shift xs.length (nd ys j) := by
 rw [nd, nd, app, List.getElem?_append_right (by omega), Nat.add_sub_cancel_left, List.getElem?_map, List.getElem?_eq_getElem h]; rfl
theorem app_right {xs ys : List Nd} (hy : Closed ys) {j : Nat} (hj : j < ys.length) : Eqv ys (app xs ys) j (xs.length + j) :=
 Eqv.map (fun j => xs.length + j) (fun j => j < ys.length) (fun j hj => ⟨by rw [nd_right hj, shift_hd], fun m hm => ⟨kid_lt hy hj hm, by
  have h1 := nd_get hj
  rw [kid, kid, nd_right hj, shift, List.getElem?_map]
  rw [List.getElem?_eq_getElem hm]
  have hk : 0 ≤ (nd ys j).ks[m] := by
   have := hy (nd ys j) (by rw [h1]; exact List.getElem_mem _) _ (List.getElem_mem hm); omega
  simp only [Option.map_some, Option.getD_some]; omega⟩⟩) hj
end Go.V.Gr
namespace Go.Proofs.YtnmldggopnbclaaGreatDoor
open Go Go.V Go.Proofs Go.V.Gr
open Go.RowKit (Below)
structure JN (w0 w : World) (own : OwnM Nat) (xs : List Nd) (RW : List Rw) (s : SL) : Prop where
 loc : Mine own w0 w
 out : RowR own 0 39 5 eN w s RW
 len : RW.length = xs.length
 nds : ∀ (q : Nat) (r : Rw) (x : Nd), RW[q]? = some r → xs[q]? = some x → r.kd = x.kd ∧ r.n = x.n ∧ r.tx = x.tx ∧ x.kd.size ≤ maxLen ∧ x.tx.size ≤ maxLen ∧ (Lit.int .i64 x.n).wf = true ∧
  RL 2 RFt w0 r.sf.1 r.sf.2.1 x.fs ∧ RowR own (10 + q) 3 1 eI w r.sk x.ks ∧ x.ks.length ≤ maxLen
section
variable {w0 w w' : World} {own own' : OwnM Nat} {xs : List Nd} {RW : List Rw} {s : SL}
end
end Go.Proofs.YtnmldggopnbclaaGreatDoor

namespace Go.Proofs.YtnmldggopnbclaaGreatDoor
open Go Go.V Go.Proofs
open Go.RowKit (Below)
/-! manystrand/manystrandref01.Among -/
def N95 (s1 : ByteArray) (s2 : ByteArray) (K : Bool → World → Prop) (w : World) : Prop :=
 ∃ (I3 : Int → World → Prop) (μ4 : Int → World → Nat),
 (I3 0 w ∧ True) ∧
 ∀ w5 x6, I3 x6 w5 →
 BoolK (decide (x6 < (s1.size : Nat)))
 (∃ (u7 : UInt8), (0 ≤ x6 ∧ s1[x6.toNat]? = some u7) ∧
 (BoolK ((u7.toNat : Int) == 32)
 (K false w5)
 (I3 (IntKind.wrap .i64 (x6 + 1)) w5 ∧ μ4 (IntKind.wrap .i64 (x6 + 1)) w5 < μ4 x6 w5)))
 (∃ (I8 : Int → World → Prop) (μ9 : Int → World → Nat),
 (I8 0 w5 ∧ True) ∧
 ∀ w10 x11, I8 x11 w10 →
 BoolK (decide ((IntKind.wrap .i64 ((IntKind.wrap .i64 (x11 + (s1.size : Nat))) + 2) : Int) ≤ (s2.size : Nat)))
 (BoolK (!(s1.toList == (⟨#[]⟩ : ByteArray).toList))
 (0 ≤ x11 ∧
 (0 ≤ (IntKind.wrap .i64 ((IntKind.wrap .i64 (x11 + (s1.size : Nat))) + 2) : Int) ∧
 ((x11.toNat ≤ (IntKind.wrap .i64 ((IntKind.wrap .i64 (x11 + (s1.size : Nat))) + 2) : Int).toNat ∧ (IntKind.wrap .i64 ((IntKind.wrap .i64 (x11 + (s1.size : Nat))) + 2) : Int).toNat ≤ s2.size) ∧
 ((((⟨#[32]⟩ : ByteArray).size + s1.size : Nat) : Int) ≤ IntKind.i64.max ∧
 (((((⟨#[32]⟩ : ByteArray) ++ s1 : ByteArray).size + (⟨#[32]⟩ : ByteArray).size : Nat) : Int) ≤ IntKind.i64.max ∧
 (BoolK ((s2.extract (x11.toNat) ((IntKind.wrap .i64 ((IntKind.wrap .i64 (x11 + (s1.size : Nat))) + 2) : Int).toNat) : ByteArray).toList == (((⟨#[32]⟩ : ByteArray) ++ s1 : ByteArray) ++ (⟨#[32]⟩ : ByteArray) : ByteArray).toList)
 (K true w10)
 (I8 (IntKind.wrap .i64 (x11 + 1)) w10 ∧ μ9 (IntKind.wrap .i64 (x11 + 1)) w10 < μ9 x11 w10)))))))
 (I8 (IntKind.wrap .i64 (x11 + 1)) w10 ∧ μ9 (IntKind.wrap .i64 (x11 + 1)) w10 < μ9 x11 w10))
 (K false w10))
def ann95 : Ann := (.two .nil (.two (.two .nil (.one (.loop [(5, (.one (.int .i64)))] [0, 1] (.two (.two .nil (.two .nil .nil)) (.two (.one (.two .nil (.two (.two .nil .nil) .nil))) .nil))))) (.two (.two .nil (.one (.loop [(6, (.one (.int .i64)))] [0, 1] (.two (.two .nil (.two .nil .nil)) (.two (.one (.two .nil (.two (.two .nil .nil) .nil))) .nil))))) (.two .nil .nil))))
noncomputable def code95 : Code := match Tryz.f95.body with | some c => c | none => .skip
theorem calls95 (s1 : ByteArray) (s2 : ByteArray) (K : Bool → World → Prop) (w : World) (h : N95 s1 s2 K w) : Calls Tryz.prog 95 #[(.string s1), (.string s2)] w fun en w' => ∃ (p12 : Bool), en = .returned (.bool p12) ∧ K p12 w' :=
 fn_calls tabOk mixed Tryz.func95 (by kernel_rfl : Tryz.f95.body = some code95) ann95 [(.string s1), (.string s2)] [(.one .bool)] K w (by kernel_rfl) (by kernel_rfl) (by kernel_rfl) h
end Go.Proofs.YtnmldggopnbclaaGreatDoor

namespace Go.Proofs.YtnmldggopnbclaaGreatDoor
open Go Go.V Go.Proofs
open Go.RowKit (Below)
/-! manystrand/manystrandref01.inside -/
def N150 (s1 : ByteArray) (x2 : Int) (K : Bool → World → Prop) (w : World) : Prop :=
 ∃ (I3 : Int → World → Prop) (μ4 : Int → World → Nat),
 (I3 0 w ∧ True) ∧
 ∀ w5 x6, I3 x6 w5 →
 BoolK (decide (x6 < (s1.size : Nat)))
 (∃ (u7 : UInt8), (0 ≤ x6 ∧ s1[x6.toNat]? = some u7) ∧
 (BoolK ((u7.toNat : Int) != 10)
 (∃ (u8 : UInt8), (0 ≤ x6 ∧ s1[x6.toNat]? = some u8) ∧
 (BoolK (decide ((u8.toNat : Int) < 32))
 (K false w5)
 (∃ (u9 : UInt8), (0 ≤ x6 ∧ s1[x6.toNat]? = some u9) ∧
 (BoolK (decide ((u9.toNat : Int) > 126))
 (K false w5)
 (I3 (IntKind.wrap .i64 (x6 + 1)) w5 ∧ μ4 (IntKind.wrap .i64 (x6 + 1)) w5 < μ4 x6 w5)))))
 (I3 (IntKind.wrap .i64 (x6 + 1)) w5 ∧ μ4 (IntKind.wrap .i64 (x6 + 1)) w5 < μ4 x6 w5)))
 (K (decide (((s1.size : Nat) : Int) ≤ x2)) w5)
def ann150 : Ann := (.two .nil (.two (.two .nil (.one (.loop [(5, (.one (.int .i64)))] [0, 1] (.two (.two .nil (.two .nil .nil)) (.two (.one (.two .nil (.two (.two .nil .nil) .nil))) .nil))))) (.two .nil .nil)))
noncomputable def code150 : Code := match Tryz.f150.body with | some c => c | none => .skip
theorem calls150 (s1 : ByteArray) (x2 : Int) (K : Bool → World → Prop) (w : World) (h : N150 s1 x2 K w) : Calls Tryz.prog 150 #[(.string s1), (.int .i64 x2)] w fun en w' => ∃ (p10 : Bool), en = .returned (.bool p10) ∧ K p10 w' :=
 fn_calls tabOk mixed Tryz.func150 (by kernel_rfl : Tryz.f150.body = some code150) ann150 [(.string s1), (.int .i64 x2)] [(.one .bool)] K w (by kernel_rfl) (by kernel_rfl) (by kernel_rfl) h
end Go.Proofs.YtnmldggopnbclaaGreatDoor

namespace Go.Proofs.YtnmldggopnbclaaGreatDoor
open Go Go.V Go.Proofs
open Go.RowKit (Below)
/-! manystrand/manystrandref01.Valid -/
def N125 (s1 : ByteArray) (s2 : ByteArray) (x3 : Int) (K : Bool → World → Prop) (w : World) : Prop :=
 AllocK w (#[(.string s1), (.string s2), (.int .i64 x3)]) 90 fun b4 w5 =>
 ∃ s6, w5.cell? b4 = some (.string s6) ∧
 (BoolK (s6.toList == (⟨#[118, 97, 114]⟩ : ByteArray).toList)
 (∃ s7, w5.cell? (b4.add 1) = some (.string s7) ∧
 (Calls Tryz.prog 149 #[(.string s7)] w5 fun e10 w9 =>
 ∃ p8, e10 = .returned (.bool p8) ∧
 (K p8 w9)))
 (BoolK (s6.toList == (⟨#[97, 116, 111, 109]⟩ : ByteArray).toList)
 (∃ s11, w5.cell? (b4.add 1) = some (.string s11) ∧
 (Calls Tryz.prog 150 #[(.string s11), (.int .i64 60)] w5 fun e14 w13 =>
 ∃ p12, e14 = .returned (.bool p12) ∧
 (K p12 w13)))
 (BoolK (s6.toList == (⟨#[105, 110, 116]⟩ : ByteArray).toList)
 (∃ s15, w5.cell? (b4.add 1) = some (.string s15) ∧
 (Calls Tryz.prog 151 #[(.string s15)] w5 fun e18 w17 =>
 ∃ p16, e18 = .returned (.bool p16) ∧
 (K p16 w17)))
 (BoolK (s6.toList == (⟨#[116, 101, 120, 116]⟩ : ByteArray).toList)
 (∃ s19, w5.cell? (b4.add 1) = some (.string s19) ∧
 (Calls Tryz.prog 150 #[(.string s19), (.int .i64 200)] w5 fun e22 w21 =>
 ∃ p20, e22 = .returned (.bool p20) ∧
 (K p20 w21)))
 (BoolK (s6.toList == (⟨#[99, 104, 97, 114]⟩ : ByteArray).toList)
 (∃ s23, w5.cell? (b4.add 1) = some (.string s23) ∧
 (BoolK (((s23.size : Nat) : Int) == 1)
 (∃ s24, w5.cell? (b4.add 1) = some (.string s24) ∧
 (Calls Tryz.prog 150 #[(.string s24), (.int .i64 1)] w5 fun e27 w26 =>
 ∃ p25, e27 = .returned (.bool p25) ∧
 (K p25 w26)))
 (K false w5)))
 (BoolK (s6.toList == (⟨#[107, 101, 121]⟩ : ByteArray).toList)
 (∃ s28, w5.cell? (b4.add 1) = some (.string s28) ∧
 (Calls Tryz.prog 152 #[(.string s28)] w5 fun e31 w30 =>
 ∃ p29, e31 = .returned (.bool p29) ∧
 (K p29 w30)))
 (BoolK (s6.toList == (⟨#[115, 105, 103, 110]⟩ : ByteArray).toList)
 (∃ s32, w5.cell? (b4.add 1) = some (.string s32) ∧
 (Calls Tryz.prog 153 #[(.string s32)] w5 fun e35 w34 =>
 ∃ p33, e35 = .returned (.bool p33) ∧
 (K p33 w34)))
 (K false w5))))))))
def ann125 : Ann := (.two .nil (.two (.two .nil (.one (.two .nil (.two (.two .nil .nil) (.two .nil (.two (.two .nil .nil) (.two .nil (.two (.two .nil .nil) (.two .nil (.two (.two .nil .nil) (.two .nil (.two (.two .nil .nil) (.two .nil (.two (.two .nil .nil) (.two .nil (.two (.two .nil .nil) .nil)))))))))))))))) (.two .nil .nil)))
noncomputable def code125 : Code := match Tryz.f125.body with | some c => c | none => .skip
theorem calls125 (s1 : ByteArray) (s2 : ByteArray) (x3 : Int) (K : Bool → World → Prop) (w : World) (h : N125 s1 s2 x3 K w) : Calls Tryz.prog 125 #[(.agg #[(.string s1), (.string s2), (.int .i64 x3)])] w fun en w' => ∃ (p36 : Bool), en = .returned (.bool p36) ∧ K p36 w' :=
 fn_calls tabOk mixed Tryz.func125 (by kernel_rfl : Tryz.f125.body = some code125) ann125 [(.agg #[(.string s1), (.string s2), (.int .i64 x3)])] [(.one .bool)] K w (by kernel_rfl) (by kernel_rfl) (by kernel_rfl) h
end Go.Proofs.YtnmldggopnbclaaGreatDoor

namespace Go.Proofs.YtnmldggopnbclaaGreatDoor
open Go Go.V Go.Proofs
open Go.RowKit (Below)
/-! manystrand/manystrandref02.IsAtom -/
def N96 (s1 : ByteArray) (K : Bool → World → Prop) (w : World) : Prop :=
 Calls Tryz.prog 125 #[(.agg #[(.string (⟨#[97, 116, 111, 109]⟩ : ByteArray)), (.string s1), (.int .i64 0)])] w fun e4 w3 =>
 ∃ p2, e4 = .returned (.bool p2) ∧
 (K p2 w3)
def ann96 : Ann := (.two .nil (.two .nil .nil))
noncomputable def code96 : Code := match Tryz.f96.body with | some c => c | none => .skip
theorem calls96 (s1 : ByteArray) (K : Bool → World → Prop) (w : World) (h : N96 s1 K w) : Calls Tryz.prog 96 #[(.string s1)] w fun en w' => ∃ (p5 : Bool), en = .returned (.bool p5) ∧ K p5 w' :=
 fn_calls tabOk mixed Tryz.func96 (by kernel_rfl : Tryz.f96.body = some code96) ann96 [(.string s1)] [(.one .bool)] K w (by kernel_rfl) (by kernel_rfl) (by kernel_rfl) h
end Go.Proofs.YtnmldggopnbclaaGreatDoor

namespace Go.Proofs.YtnmldggopnbclaaGreatDoor
open Go Go.V Go.Proofs
open Go.RowKit (Below)
/-! manystrand/manystrandref02.IsFeat -/
def N97 (x1 : Int) (s2 : ByteArray) (K : Bool → World → Prop) (w : World) : Prop :=
 AllocK w (#[(.int .i64 x1), (.string s2)]) 41 fun b3 w4 =>
 ∃ x5, w4.cell? b3 = some (.int .i64 x5) ∧
 (BoolK (x5 == 0)
 (∃ s6, w4.cell? (b3.add 1) = some (.string s6) ∧
 (Calls Tryz.prog 96 #[(.string s6)] w4 fun e9 w8 =>
 ∃ p7, e9 = .returned (.bool p7) ∧
 (BoolK p7
 (K true w8)
 (∃ x10, w8.cell? b3 = some (.int .i64 x10) ∧
 (BoolK (decide (x10 ≥ 1))
 (∃ x11, w8.cell? b3 = some (.int .i64 x11) ∧
 (BoolK (decide (x11 ≤ 1000))
 (∃ s12, w8.cell? (b3.add 1) = some (.string s12) ∧
 (K (s12.toList == (⟨#[]⟩ : ByteArray).toList) w8))
 (K false w8)))
 (K false w8))))))
 (∃ x13, w4.cell? b3 = some (.int .i64 x13) ∧
 (BoolK (decide (x13 ≥ 1))
 (∃ x14, w4.cell? b3 = some (.int .i64 x14) ∧
 (BoolK (decide (x14 ≤ 1000))
 (∃ s15, w4.cell? (b3.add 1) = some (.string s15) ∧
 (K (s15.toList == (⟨#[]⟩ : ByteArray).toList) w4))
 (K false w4)))
 (K false w4))))
def ann97 : Ann := (.two .nil (.two .nil .nil))
noncomputable def code97 : Code := match Tryz.f97.body with | some c => c | none => .skip
theorem calls97 (x1 : Int) (s2 : ByteArray) (K : Bool → World → Prop) (w : World) (h : N97 x1 s2 K w) : Calls Tryz.prog 97 #[(.agg #[(.int .i64 x1), (.string s2)])] w fun en w' => ∃ (p16 : Bool), en = .returned (.bool p16) ∧ K p16 w' :=
 fn_calls tabOk mixed Tryz.func97 (by kernel_rfl : Tryz.f97.body = some code97) ann97 [(.agg #[(.int .i64 x1), (.string s2)])] [(.one .bool)] K w (by kernel_rfl) (by kernel_rfl) (by kernel_rfl) h
end Go.Proofs.YtnmldggopnbclaaGreatDoor

namespace Go.Proofs.YtnmldggopnbclaaGreatDoor
open Go Go.V Go.Proofs
open Go.RowKit (Below)
/-! manystrand/manystrandref02.Less -/
def N98 (x1 : Int) (s2 : ByteArray) (x3 : Int) (s4 : ByteArray) (K : Bool → World → Prop) (w : World) : Prop :=
 AllocK w (#[(.int .i64 x1), (.string s2)]) 41 fun b5 w6 =>
 AllocK w6 (#[(.int .i64 x3), (.string s4)]) 41 fun b7 w8 =>
 ∃ (J9 : World → Prop),
 (∀ w10, J9 w10 →
 ∃ x11, w10.cell? b5 = some (.int .i64 x11) ∧
 (BoolK (decide (x11 > 0))
 (∃ x12, w10.cell? b5 = some (.int .i64 x12) ∧
 (K (decide (x12 > 0)) w10))
 (∃ x13, w10.cell? b7 = some (.int .i64 x13) ∧
 (BoolK (decide (x13 > 0))
 (∃ x14, w10.cell? b5 = some (.int .i64 x14) ∧
 (K (decide (x14 > 0)) w10))
 (∃ s15, w10.cell? (b5.add 1) = some (.string s15) ∧
 (∃ s16, w10.cell? (b7.add 1) = some (.string s16) ∧
 (K (Op.bytesLess s15.toList s16.toList) w10))))))) ∧
 (∃ x17, w8.cell? b5 = some (.int .i64 x17) ∧
 (BoolK (decide (x17 > 0))
 (∃ x18, w8.cell? b7 = some (.int .i64 x18) ∧
 (BoolK (decide (x18 > 0))
 (∃ x19, w8.cell? b5 = some (.int .i64 x19) ∧
 (∃ x20, w8.cell? b7 = some (.int .i64 x20) ∧
 (K (decide (x19 < x20)) w8)))
 (J9 w8)))
 (J9 w8)))
def ann98 : Ann := (.two .nil (.cut [] [2, 3] (.two .nil (.two (.two .nil .nil) .nil)) (.two (.two .nil (.two (.two .nil .nil) .nil)) (.two .nil .nil))))
noncomputable def code98 : Code := match Tryz.f98.body with | some c => c | none => .skip
theorem calls98 (x1 : Int) (s2 : ByteArray) (x3 : Int) (s4 : ByteArray) (K : Bool → World → Prop) (w : World) (h : N98 x1 s2 x3 s4 K w) : Calls Tryz.prog 98 #[(.agg #[(.int .i64 x1), (.string s2)]), (.agg #[(.int .i64 x3), (.string s4)])] w fun en w' => ∃ (p21 : Bool), en = .returned (.bool p21) ∧ K p21 w' :=
 fn_calls tabOk mixed Tryz.func98 (by kernel_rfl : Tryz.f98.body = some code98) ann98 [(.agg #[(.int .i64 x1), (.string s2)]), (.agg #[(.int .i64 x3), (.string s4)])] [(.one .bool)] K w (by kernel_rfl) (by kernel_rfl) (by kernel_rfl) h
end Go.Proofs.YtnmldggopnbclaaGreatDoor

namespace Go.Proofs.YtnmldggopnbclaaGreatDoor
open Go Go.V Go.Proofs Go.V.Gr
open Go.RowKit (Below)
def sortsS : ByteArray := ⟨#[32, 110, 97, 109, 101, 32, 112, 114, 111, 99, 32, 99, 101, 108, 108, 32, 112, 111, 114, 116, 32, 108, 111, 99, 107, 32, 100, 105, 99, 116, 32, 97, 114, 114, 97, 121, 32, 99, 104, 117, 110, 107, 32, 115, 112, 97, 99, 101, 32, 100, 101, 97, 100, 32]⟩
def spot (L s : List UInt8) (i : Nat) : Prop := i + s.length + 2 ≤ L.length ∧ (L.drop i).take (s.length + 2) = 32 :: (s ++ [32])
def amongChk : Bool := (List.range 54).all fun i => (List.range 53).all fun n =>
 let s := ((bl sortsS).drop (i + 1)).take n
 s.any (· == 32) || s.isEmpty || !(((bl sortsS).drop i).take (n + 2) == 32 :: (s ++ [32])) || (sorts.map bl).any (· == s)
theorem amongChk_ok : amongChk = true := by kernel_rfl
theorem spot_sort {s : ByteArray} {i : Nat} (h0 : ∀ c ∈ bl s, c ≠ 32) (h1 : bl s ≠ []) (h : spot (bl sortsS) (bl s) i) : sortD s = true := by
 have hL : (bl sortsS).length = 54 := by rfl
 obtain ⟨h2, h3⟩ := h
 rw [hL] at h2
 have := amongChk_ok
 unfold amongChk at this
 rw [List.all_eq_true] at this
 have := this i (List.mem_range.2 (by omega))
 rw [List.all_eq_true] at this
 have := this (bl s).length (List.mem_range.2 (by omega))
 have e : ((bl sortsS).drop (i + 1)).take (bl s).length = bl s := by
  have := congrArg (fun l => (l.drop 1).take (bl s).length) h3
  simp only [List.drop_take, List.drop_drop, List.take_take] at this
  rw [show min (bl s).length ((bl s).length + 2 - 1) = (bl s).length by omega] at this
  rw [this]; simp
 simp only [e] at this
 rw [h3] at this
 simp only [Bool.or_eq_true, List.any_eq_true, beq_iff_eq, List.isEmpty_iff, Bool.not_eq_true', beq_eq_false_iff_ne, ne_eq, not_true_eq_false, or_false] at this
 rcases this with (⟨c, hc, e⟩ | h) | ⟨t, ht, e⟩
 ·exact absurd e (h0 c hc)
 ·exact absurd h h1
 ·obtain ⟨u, hu, rfl⟩ := List.mem_map.1 ht
  have := bl_inj e
  subst this
  exact sortD_iff.2 hu
theorem sort_spot {s : ByteArray} (h : sortD s = true) : (∀ c ∈ bl s, c ≠ 32) ∧ bl s ≠ [] ∧ ∃ i, spot (bl sortsS) (bl s) i := by
 have := sortD_iff.1 h
 simp only [sorts, List.mem_cons, List.not_mem_nil, or_false] at this
 rcases this with rfl | rfl | rfl | rfl | rfl | rfl | rfl | rfl | rfl | rfl
 ·exact ⟨by decide, by decide, 0, by decide, by decide⟩
 ·exact ⟨by decide, by decide, 5, by decide, by decide⟩
 ·exact ⟨by decide, by decide, 10, by decide, by decide⟩
 ·exact ⟨by decide, by decide, 15, by decide, by decide⟩
 ·exact ⟨by decide, by decide, 20, by decide, by decide⟩
 ·exact ⟨by decide, by decide, 25, by decide, by decide⟩
 ·exact ⟨by decide, by decide, 30, by decide, by decide⟩
 ·exact ⟨by decide, by decide, 36, by decide, by decide⟩
 ·exact ⟨by decide, by decide, 42, by decide, by decide⟩
 ·exact ⟨by decide, by decide, 48, by decide, by decide⟩
theorem ctr95 (w : World) (s : ByteArray) (hs : s.size ≤ 1000000000000) : Calls Tryz.prog 95 #[.string s, .string sortsS] w fun en w' => ∃ p, en = .returned (.bool p) ∧ (p = sortD s ∧ w' = w) := by
 refine calls95 _ _ _ w ?_
 have hbs := bl_size s
 have hL : sortsS.size = 54 := by rfl
 refine ⟨fun i w' => ∃ k : Nat, i = k ∧ k ≤ s.size ∧ (∀ c ∈ (bl s).take k, c ≠ 32) ∧ w' = w, fun i _ => s.size - i.toNat, ⟨⟨0, rfl, by omega, by simp, rfl⟩, trivial⟩, ?_⟩
 rintro w5 x ⟨k, rfl, hk, hall, rfl⟩
 refine BoolK.mk (fun t => ?_) (fun t => ?_)
 ·have hlt : k < s.size := by have := of_decide_eq_true t; omega
  have hlt2 : k < (bl s).length := by rw [hbs]; exact hlt
  have hg : s[((k : Nat) : Int).toNat]? = some (bl s)[k] := by rw [Int.toNat_natCast, bl_get, List.getElem?_eq_getElem hlt2]
  refine ⟨(bl s)[k], ⟨by omega, hg⟩, BoolK.mk (fun t1 => ⟨?_, rfl⟩) (fun t1 => ?_)⟩
  ·have t1 : (bl s)[k].toNat = 32 := by have := eq_of_beq t1; omega
   symm; rw [← Bool.not_eq_true]; intro h
   exact (sort_spot h).1 _ (List.getElem_mem hlt2) (UInt8.toNat_inj.1 t1)
  ·rw [wrap_succ (by omega)]
   refine ⟨⟨k + 1, rfl, by omega, fun c hc => ?_, rfl⟩, by simp; omega⟩
   rw [List.take_add_one, List.getElem?_eq_getElem hlt2, List.mem_append] at hc
   rcases hc with hc | hc
   ·exact hall c hc
   ·simp only [Option.toList_some, List.mem_singleton] at hc
    subst hc
    intro e
    rw [e] at t1; simp at t1
 ·have : k = s.size := by have := of_decide_eq_false t; omega
  subst this
  rw [← hbs, List.take_length] at hall
  refine ⟨fun i w' => ∃ k : Nat, i = k ∧ k ≤ 54 ∧ w' = w5 ∧ ∀ j, j < k → bl s ≠ [] → ¬ spot (bl sortsS) (bl s) j, fun i _ => 54 - i.toNat, ⟨⟨0, rfl, by omega, rfl, fun j hj => by omega⟩, trivial⟩, ?_⟩
  rintro w10 _ ⟨k, rfl, hk, rfl, hno⟩
  have e1 : IntKind.wrap .i64 ((IntKind.wrap .i64 ((k : Int) + (s.size : Nat))) + 2) = ((k + s.size + 2 : Nat) : Int) := by
   rw [wrap_id (x := (k : Int) + (s.size : Nat)) (by omega) (by omega), wrap_id (by omega) (by omega)]; omega
  rw [e1]
  refine BoolK.mk (fun t => ?_) (fun t => ⟨?_, rfl⟩)
  ·have t := of_decide_eq_true t
   rw [hL] at t
   have next : (bl s ≠ [] → ¬ spot (bl sortsS) (bl s) k) → (∃ k' : Nat, IntKind.wrap .i64 ((k : Int) + 1) = (k' : Int) ∧ k' ≤ 54 ∧ w10 = w10 ∧ ∀ j, j < k' → bl s ≠ [] → ¬ spot (bl sortsS) (bl s) j) ∧ 54 - (IntKind.wrap .i64 ((k : Int) + 1)).toNat < 54 - ((k : Nat) : Int).toNat := fun h => by
    rw [wrap_succ (by omega)]
    refine ⟨⟨k + 1, rfl, by omega, rfl, fun j hj => ?_⟩, by simp; omega⟩
    rcases Nat.lt_or_ge j k with h1 | h1
    ·exact hno j h1
    ·have : j = k := by omega
     subst this; exact h
   refine BoolK.mk (fun t1 => ?_) (fun t1 => next fun h => ?_)
   ·have hne : bl s ≠ [] := by
     intro e
     have : s = ⟨#[]⟩ := bl_inj e
     rw [tl_iff.2 this] at t1; cases t1
    have sz3 : (((⟨#[32]⟩ : ByteArray) ++ s).size) = 1 + s.size := by rw [ByteArray.size_append]; rfl
    refine ⟨by omega, by omega, ⟨by simp only [Int.toNat_natCast]; omega, by rw [hL]; omega⟩, ?_, ?_, BoolK.mk (fun t2 => ⟨?_, rfl⟩) (fun t2 => next fun _ => ?_)⟩
    ·show (((1 + s.size : Nat)) : Int) ≤ 9223372036854775807; omega
    ·rw [sz3]; show (((1 + s.size + 1 : Nat)) : Int) ≤ 9223372036854775807; omega
    all_goals rw [bl_eq] at t2
    all_goals simp only [decide_eq_true_eq, decide_eq_false_iff_not, bl_append, bl_extract, Int.toNat_natCast] at t2
    ·symm
     refine spot_sort hall hne (i := k) ⟨by rw [bl_size, bl_size, hL]; omega, ?_⟩
     rw [List.extract_eq_take_drop] at t2
     rw [hbs]
     rw [show k + s.size + 2 - k = s.size + 2 by omega] at t2
     rw [t2]; rfl
    ·rintro ⟨_, h⟩
     apply t2
     rw [List.extract_eq_take_drop, show k + s.size + 2 - k = s.size + 2 by omega]
     rw [hbs] at h
     rw [h]; rfl
   ·have : s = ⟨#[]⟩ := by
     rw [Bool.not_eq_false'] at t1; exact tl_iff.1 t1
    subst this; exact absurd rfl h
  ·have t := of_decide_eq_false t
   rw [hL] at t
   symm; rw [← Bool.not_eq_true]; intro h
   obtain ⟨_, h2, i, h3⟩ := sort_spot h
   have h4 := h3.1
   rw [bl_size, bl_size, hL] at h4
   exact hno i (by omega) h2 h3
theorem ctr150 (w : World) (s : ByteArray) (most : Int) (hs : s.size ≤ maxLen) : Calls Tryz.prog 150 #[.string s, .int .i64 most] w fun en w' => ∃ p, en = .returned (.bool p) ∧ (p = prnD s most ∧ w' = w) := by
 refine calls150 _ _ _ w ?_
 simp only [maxLen] at hs
 have hbs := bl_size s
 refine ⟨fun i w' => ∃ k : Nat, i = k ∧ k ≤ s.size ∧ ((bl s).take k).all prn = true ∧ w' = w, fun i _ => s.size - i.toNat, ⟨⟨0, rfl, by omega, rfl, rfl⟩, trivial⟩, ?_⟩
 rintro w5 x ⟨k, rfl, hk, hall, rfl⟩
 refine BoolK.mk (fun t => ?_) (fun t => ?_)
 ·have hlt : k < s.size := by have := of_decide_eq_true t; omega
  have hlt2 : k < (bl s).length := by rw [hbs]; exact hlt
  have hg : s[((k : Nat) : Int).toNat]? = some (bl s)[k] := by rw [Int.toNat_natCast, bl_get, List.getElem?_eq_getElem hlt2]
  have step : ((bl s).take (k + 1)).all prn = prn (bl s)[k] := by
   rw [List.take_add_one, List.getElem?_eq_getElem hlt2, List.all_append, hall]; simp
  have no : prn (bl s)[k] = false → prnD s most = false := by
   intro h
   have : (bl s).all prn = false := by
    rw [Bool.eq_false_iff]; intro h2
    rw [List.all_eq_true] at h2
    have := h2 _ (List.getElem_mem hlt2); rw [h] at this; cases this
   rw [prnD, this]; rfl
  have go : prn (bl s)[k] = true → (∃ k' : Nat, IntKind.wrap .i64 ((k : Int) + 1) = (k' : Int) ∧ k' ≤ s.size ∧ ((bl s).take k').all prn = true ∧ w5 = w5) ∧ s.size - (IntKind.wrap .i64 ((k : Int) + 1)).toNat < s.size - ((k : Nat) : Int).toNat := by
   intro h
   rw [wrap_succ (by omega)]
   exact ⟨⟨k + 1, rfl, by omega, by rw [step]; exact h, rfl⟩, by simp; omega⟩
  refine ⟨(bl s)[k], ⟨by omega, hg⟩, BoolK.mk (fun t1 => ?_) (fun t1 => ?_)⟩
  ·have h10 : (bl s)[k].toNat ≠ 10 := by intro e; rw [e] at t1; simp at t1
   refine ⟨(bl s)[k], ⟨by omega, hg⟩, BoolK.mk (fun t2 => ?_) (fun t2 => ?_)⟩
   ·have := of_decide_eq_true t2
    exact ⟨(no (by simp [prn, h10]; omega)).symm, rfl⟩
   ·have := of_decide_eq_false t2
    refine ⟨(bl s)[k], ⟨by omega, hg⟩, BoolK.mk (fun t3 => ?_) (fun t3 => ?_)⟩
    ·have := of_decide_eq_true t3
     exact ⟨(no (by simp [prn, h10]; omega)).symm, rfl⟩
    ·have := of_decide_eq_false t3
     exact go (by simp [prn]; omega)
  ·have h10 : (bl s)[k].toNat = 10 := by
    simp only [bne_eq_false_iff_eq] at t1; omega
   exact go (by simp [prn, h10])
 ·have : k = s.size := by have := of_decide_eq_false t; omega
  subst this
  rw [← hbs, List.take_length] at hall
  exact ⟨by rw [prnD, hall]; rfl, rfl⟩
theorem ctr125 (w : World) (s : ByteArray) (at_ : Int) (hs : s.size ≤ maxLen) : Calls Tryz.prog 125 #[.agg #[.string kAtom, .string s, .int .i64 at_]] w fun en w' => ∃ p, en = .returned (.bool p) ∧ (p = atomD s ∧ Ext w w') := by
 refine calls125 _ _ _ _ w ?_
 refine AllocK.mk fun b w5 hb hB hx => ?_
 refine ⟨kAtom, by rw [hB.cell]; rfl, BoolK.mk (fun t => by rw [tl_iff] at t; simp [kAtom] at t) (fun _ => BoolK.mk (fun _ => ?_) (fun t => by rw [kAtom_eq] at t; cases t))⟩
 refine ⟨s, by rw [add_mk, hB.cell]; rfl, (ctr150 w5 s 60 hs).mono ?_⟩
 rintro en w13 ⟨p, rfl, rfl, rfl⟩
 exact ⟨_, rfl, rfl, hx⟩
theorem ctr96 (w : World) (s : ByteArray) (hs : s.size ≤ maxLen) : Calls Tryz.prog 96 #[.string s] w fun en w' => ∃ p, en = .returned (.bool p) ∧ (p = atomD s ∧ Ext w w') := by
 refine calls96 _ _ w ?_
 refine (ctr125 w s 0 hs).mono ?_
 rintro en w4 ⟨p, rfl, rfl, hx⟩
 exact ⟨_, rfl, rfl, hx⟩
theorem ctr97 (w : World) (f : Ft) (hs : f.2.size ≤ maxLen) : Calls Tryz.prog 97 #[.agg #[.int .i64 f.1, .string f.2]] w fun en w' => ∃ p, en = .returned (.bool p) ∧ (p = featD f ∧ Ext w w') := by
 refine calls97 _ _ _ w ?_
 refine AllocK.mk fun b w4 hb hB hx => ?_
 have g0 : w4.cell? (⟨b, 0, none⟩ : Addr) = some (.int .i64 f.1) := by rw [hB.cell]; rfl
 have g1 : w4.cell? ((⟨b, 0, none⟩ : Addr).add 1) = some (.string f.2) := by rw [add_mk, hB.cell]; rfl
 refine ⟨_, g0, BoolK.mk (fun t => ?_) (fun t => ?_)⟩
 ·have t : f.1 = 0 := by simpa using t
  refine ⟨_, g1, (ctr96 w4 f.2 hs).mono ?_⟩
  rintro en w8 ⟨p, rfl, rfl, hx8⟩
  have hB := hB.ext hx8
  refine ⟨_, rfl, BoolK.mk (fun t1 => ⟨by rw [featD, if_neg (by omega), t1], hx.trans hx8⟩) (fun t1 => ⟨f.1, by rw [hB.cell]; rfl, BoolK.mk (fun t2 => ?_) (fun _ => ⟨by rw [featD, if_neg (by omega), t1], hx.trans hx8⟩)⟩)⟩
  have := of_decide_eq_true t2; omega
 ·have t : f.1 ≠ 0 := by simpa using t
  refine ⟨_, g0, BoolK.mk (fun t1 => ?_) (fun t1 => ?_)⟩
  ·have t1 := of_decide_eq_true t1
   refine ⟨_, g0, BoolK.mk (fun t2 => ⟨_, g1, ?_, hx⟩) (fun t2 => ⟨?_, hx⟩)⟩
   ·have t2 := of_decide_eq_true t2
    rw [featD, if_pos t, Bool.eq_iff_iff, tl_iff, decide_eq_true_eq]
    exact ⟨fun h => ⟨by omega, t2, h⟩, fun h => h.2.2⟩
   ·have t2 := of_decide_eq_false t2
    rw [featD, if_pos t]; symm; rw [decide_eq_false_iff_not]; omega
  ·have t1 := of_decide_eq_false t1
   refine ⟨?_, hx⟩
   rw [featD, if_pos t]; symm; rw [decide_eq_false_iff_not]; omega
theorem ctr98 (w : World) (f g : Ft) : Calls Tryz.prog 98 #[.agg #[.int .i64 f.1, .string f.2], .agg #[.int .i64 g.1, .string g.2]] w fun en w' => ∃ p, en = .returned (.bool p) ∧ (p = lessD f g ∧ Ext w w') := by
 refine calls98 _ _ _ _ _ w ?_
 refine AllocK.mk fun b w4 hb hB hx => AllocK.mk fun b' w8 hb' hB' hx' => ?_
 have hB := hB.ext hx'
 have x8 := hx.trans hx'
 have g0 : w8.cell? (⟨b, 0, none⟩ : Addr) = some (.int .i64 f.1) := by rw [hB.cell]; rfl
 have g1 : w8.cell? ((⟨b, 0, none⟩ : Addr).add 1) = some (.string f.2) := by rw [add_mk, hB.cell]; rfl
 have k0 : w8.cell? (⟨b', 0, none⟩ : Addr) = some (.int .i64 g.1) := by rw [hB'.cell]; rfl
 have k1 : w8.cell? ((⟨b', 0, none⟩ : Addr).add 1) = some (.string g.2) := by rw [add_mk, hB'.cell]; rfl
 refine ⟨fun w' => ¬ (0 < f.1 ∧ 0 < g.1) ∧ w' = w8, ?_, ?_⟩
 ·rintro w10 ⟨t, rfl⟩
  refine ⟨_, g0, BoolK.mk (fun t1 => ⟨_, g0, ?_, x8⟩) (fun t1 => ⟨_, k0, BoolK.mk (fun t2 => ⟨_, g0, ?_, x8⟩) (fun t2 => ⟨_, g1, _, k1, ?_, x8⟩)⟩)⟩
  ·have t1 := of_decide_eq_true t1
   rw [lessD, if_neg t, if_pos (.inl (by omega))]
  all_goals have t1 := of_decide_eq_false t1
  ·have t2 := of_decide_eq_true t2
   rw [lessD, if_neg t, if_pos (.inr (by omega))]
  ·have t2 := of_decide_eq_false t2
   rw [lessD, if_neg t, if_neg (by omega)]
 ·refine ⟨_, g0, BoolK.mk (fun t => ⟨_, k0, BoolK.mk (fun t2 => ⟨_, g0, _, k0, ?_, x8⟩) (fun t2 => ⟨?_, rfl⟩)⟩) (fun t => ⟨?_, rfl⟩)⟩
  ·have t := of_decide_eq_true t
   have t2 := of_decide_eq_true t2
   rw [lessD, if_pos ⟨by omega, by omega⟩]
  ·have t2 := of_decide_eq_false t2; omega
  ·have t := of_decide_eq_false t; omega
end Go.Proofs.YtnmldggopnbclaaGreatDoor

namespace Go.Proofs.YtnmldggopnbclaaGreatDoor
open Go Go.V Go.Proofs
open Go.RowKit (Below)
set_option maxRecDepth 100000
/-! manystrand/manystrandref05.ValidNode -/
def N66 (s1 : ByteArray) (x2 : Int) (s3 : ByteArray) (a4 : Option Addr) (l4 : Nat) (c4 : Nat) (a5 : Option Addr) (l5 : Nat) (c5 : Nat) (x6 : Int) (K : Bool → World → Prop) (w : World) : Prop :=
 AllocK w (#[(.string s1), (.int .i64 x2), (.string s3), (.slice a4 l4 c4), (.slice a5 l5 c5)]) 39 fun b7 w8 =>
 ∃ s9, w8.cell? b7 = some (.string s9) ∧
 (BoolK (s9.toList == (⟨#[105, 110, 116]⟩ : ByteArray).toList)
 (∃ x10, w8.cell? (b7.add 1) = some (.int .i64 x10) ∧
 (BoolK (decide (x10 ≥ -999999999999999999))
 (∃ x11, w8.cell? (b7.add 1) = some (.int .i64 x11) ∧
 (BoolK (decide (x11 ≤ 999999999999999999))
 (∃ s12, w8.cell? (b7.add 2) = some (.string s12) ∧
 (BoolK (s12.toList == (⟨#[]⟩ : ByteArray).toList)
 (∃ a13 l13 c13, w8.cell? (b7.add 3) = some (.slice a13 l13 c13) ∧
 (BoolK ((l13 : Int) == 0)
 (∃ a14 l14 c14, w8.cell? (b7.add 4) = some (.slice a14 l14 c14) ∧
 (K ((l14 : Int) == 0) w8))
 (K false w8)))
 (K false w8)))
 (K false w8)))
 (K false w8)))
 (BoolK (s9.toList == (⟨#[118, 97, 114]⟩ : ByteArray).toList)
 (∃ x15, w8.cell? (b7.add 1) = some (.int .i64 x15) ∧
 (BoolK (decide (x15 ≥ 1))
 (∃ x16, w8.cell? (b7.add 1) = some (.int .i64 x16) ∧
 (BoolK (decide (x16 ≤ 999999999999999999))
 (∃ s17, w8.cell? (b7.add 2) = some (.string s17) ∧
 (BoolK (s17.toList == (⟨#[]⟩ : ByteArray).toList)
 (∃ a18 l18 c18, w8.cell? (b7.add 3) = some (.slice a18 l18 c18) ∧
 (BoolK ((l18 : Int) == 0)
 (∃ a19 l19 c19, w8.cell? (b7.add 4) = some (.slice a19 l19 c19) ∧
 (K ((l19 : Int) == 0) w8))
 (K false w8)))
 (K false w8)))
 (K false w8)))
 (K false w8)))
 (BoolK (s9.toList == (⟨#[114, 101, 102]⟩ : ByteArray).toList)
 (∃ x20, w8.cell? (b7.add 1) = some (.int .i64 x20) ∧
 (BoolK (decide (x20 ≥ 1))
 (∃ x21, w8.cell? (b7.add 1) = some (.int .i64 x21) ∧
 (BoolK (decide (x21 ≤ 999999999999999999))
 (∃ s22, w8.cell? (b7.add 2) = some (.string s22) ∧
 (Calls Tryz.prog 95 #[(.string s22), (.string (⟨#[32, 110, 97, 109, 101, 32, 112, 114, 111, 99, 32, 99, 101, 108, 108, 32, 112, 111, 114, 116, 32, 108, 111, 99, 107, 32, 100, 105, 99, 116, 32, 97, 114, 114, 97, 121, 32, 99, 104, 117, 110, 107, 32, 115, 112, 97, 99, 101, 32, 100, 101, 97, 100, 32]⟩ : ByteArray))] w8 fun e25 w24 =>
 ∃ p23, e25 = .returned (.bool p23) ∧
 (BoolK p23
 (∃ a26 l26 c26, w24.cell? (b7.add 3) = some (.slice a26 l26 c26) ∧
 (BoolK ((l26 : Int) == 0)
 (∃ a27 l27 c27, w24.cell? (b7.add 4) = some (.slice a27 l27 c27) ∧
 (K ((l27 : Int) == 0) w24))
 (K false w24)))
 (K false w24))))
 (K false w8)))
 (K false w8)))
 (BoolK (s9.toList == (⟨#[114, 101, 99]⟩ : ByteArray).toList)
 (∃ x28, w8.cell? (b7.add 1) = some (.int .i64 x28) ∧
 (BoolK (x28 != 0)
 (K false w8)
 (∃ s29, w8.cell? (b7.add 2) = some (.string s29) ∧
 (Calls Tryz.prog 96 #[(.string s29)] w8 fun e32 w31 =>
 ∃ p30, e32 = .returned (.bool p30) ∧
 (BoolK (!p30)
 (K false w31)
 (∃ a33 l33 c33, w31.cell? (b7.add 3) = some (.slice a33 l33 c33) ∧
 (∃ a34 l34 c34, w31.cell? (b7.add 4) = some (.slice a34 l34 c34) ∧
 (BoolK ((l33 : Int) != l34)
 (K false w31)
 (∃ (I35 : Int → World → Prop) (μ36 : Int → World → Nat),
 (I35 0 w31 ∧ True) ∧
 ∀ w37 x38, I35 x38 w37 →
 ∃ a39 l39 c39, w37.cell? (b7.add 3) = some (.slice a39 l39 c39) ∧
 (BoolK (decide (x38 < l39))
 (DrewK w37 fun w40 =>
 ∃ a41 l41 c41, w40.cell? (b7.add 3) = some (.slice a41 l41 c41) ∧
 ((0 ≤ x38 ∧ x38 < l41) ∧
 AddrK a41 fun b42 =>
 ∃ x43, w40.cell? ((b42.add (x38.toNat * 2)).add 0) = some (.int .i64 x43) ∧
 (∃ s44, w40.cell? ((b42.add (x38.toNat * 2)).add 1) = some (.string s44) ∧
 (Calls Tryz.prog 97 #[(.agg #[(.int .i64 x43), (.string s44)])] w40 fun e47 w46 =>
 ∃ p45, e47 = .returned (.bool p45) ∧
 (Cel w40 w46 ∧
 (BoolK (!p45)
 (((K false w46) ∧
 ((K false w46) ∧
 (K false w46))) ∧
 (((K false w46) ∧
 (K false w46)) ∧
 (K false w46)))
 (BoolK (decide (x38 > 0))
 ((∃ a48 l48 c48, w46.cell? (b7.add 3) = some (.slice a48 l48 c48) ∧
 ((0 ≤ (IntKind.wrap .i64 (x38 - 1) : Int) ∧ (IntKind.wrap .i64 (x38 - 1) : Int) < l48) ∧
 AddrK a48 fun b49 =>
 (∃ x50, w46.cell? ((b49.add ((IntKind.wrap .i64 (x38 - 1) : Int).toNat * 2)).add 0) = some (.int .i64 x50) ∧
 (∃ s51, w46.cell? ((b49.add ((IntKind.wrap .i64 (x38 - 1) : Int).toNat * 2)).add 1) = some (.string s51) ∧
 (∃ a52 l52 c52, w46.cell? (b7.add 3) = some (.slice a52 l52 c52) ∧
 ((0 ≤ x38 ∧ x38 < l52) ∧
 AddrK a52 fun b53 =>
 ∃ x54, w46.cell? ((b53.add (x38.toNat * 2)).add 0) = some (.int .i64 x54) ∧
 (∃ s55, w46.cell? ((b53.add (x38.toNat * 2)).add 1) = some (.string s55) ∧
 (Calls Tryz.prog 98 #[(.agg #[(.int .i64 x50), (.string s51)]), (.agg #[(.int .i64 x54), (.string s55)])] w46 fun e58 w57 =>
 ∃ p56, e58 = .returned (.bool p56) ∧
 (Cel w40 w57 ∧
 (BoolK (!p56)
 (K false w57)
 (∃ a59 l59 c59, w57.cell? (b7.add 4) = some (.slice a59 l59 c59) ∧
 ((0 ≤ x38 ∧ x38 < l59) ∧
 AddrK a59 fun b60 =>
 ∃ x61, w57.cell? (b60.add (x38.toNat * 1)) = some (.int .i64 x61) ∧
 (BoolK (decide (x61 < 0))
 (K false w57)
 (∃ a62 l62 c62, w57.cell? (b7.add 4) = some (.slice a62 l62 c62) ∧
 ((0 ≤ x38 ∧ x38 < l62) ∧
 AddrK a62 fun b63 =>
 ∃ x64, w57.cell? (b63.add (x38.toNat * 1)) = some (.int .i64 x64) ∧
 (BoolK (decide (x64 ≥ x6))
 (K false w57)
 (I35 (IntKind.wrap .i64 (x38 + 1)) w57 ∧ μ36 (IntKind.wrap .i64 (x38 + 1)) w57 < μ36 x38 w37))))))))))))))) ∧
 (∃ a65 l65 c65, w46.cell? (b7.add 3) = some (.slice a65 l65 c65) ∧
 ((0 ≤ x38 ∧ x38 < l65) ∧
 AddrK a65 fun b66 =>
 (∃ x67, w46.cell? ((b49.add ((IntKind.wrap .i64 (x38 - 1) : Int).toNat * 2)).add 0) = some (.int .i64 x67) ∧
 (∃ s68, w46.cell? ((b49.add ((IntKind.wrap .i64 (x38 - 1) : Int).toNat * 2)).add 1) = some (.string s68) ∧
 (∃ x69, w46.cell? ((b66.add (x38.toNat * 2)).add 0) = some (.int .i64 x69) ∧
 (∃ s70, w46.cell? ((b66.add (x38.toNat * 2)).add 1) = some (.string s70) ∧
 (Calls Tryz.prog 98 #[(.agg #[(.int .i64 x67), (.string s68)]), (.agg #[(.int .i64 x69), (.string s70)])] w46 fun e73 w72 =>
 ∃ p71, e73 = .returned (.bool p71) ∧
 (Cel w40 w72 ∧
 (BoolK (!p71)
 (K false w72)
 (∃ a74 l74 c74, w72.cell? (b7.add 4) = some (.slice a74 l74 c74) ∧
 ((0 ≤ x38 ∧ x38 < l74) ∧
 AddrK a74 fun b75 =>
 ∃ x76, w72.cell? (b75.add (x38.toNat * 1)) = some (.int .i64 x76) ∧
 (BoolK (decide (x76 < 0))
 (K false w72)
 (∃ a77 l77 c77, w72.cell? (b7.add 4) = some (.slice a77 l77 c77) ∧
 ((0 ≤ x38 ∧ x38 < l77) ∧
 AddrK a77 fun b78 =>
 ∃ x79, w72.cell? (b78.add (x38.toNat * 1)) = some (.int .i64 x79) ∧
 (BoolK (decide (x79 ≥ x6))
 (K false w72)
 (I35 (IntKind.wrap .i64 (x38 + 1)) w72 ∧ μ36 (IntKind.wrap .i64 (x38 + 1)) w72 < μ36 x38 w37)))))))))))))) ∧
 (∃ x80, w46.cell? ((b66.add (x38.toNat * 2)).add 0) = some (.int .i64 x80) ∧
 (∃ s81, w46.cell? ((b66.add (x38.toNat * 2)).add 1) = some (.string s81) ∧
 (∃ x82, w46.cell? ((b49.add ((IntKind.wrap .i64 (x38 - 1) : Int).toNat * 2)).add 0) = some (.int .i64 x82) ∧
 (∃ s83, w46.cell? ((b49.add ((IntKind.wrap .i64 (x38 - 1) : Int).toNat * 2)).add 1) = some (.string s83) ∧
 (Calls Tryz.prog 98 #[(.agg #[(.int .i64 x82), (.string s83)]), (.agg #[(.int .i64 x80), (.string s81)])] w46 fun e86 w85 =>
 ∃ p84, e86 = .returned (.bool p84) ∧
 (Cel w40 w85 ∧
 (BoolK (!p84)
 (K false w85)
 (∃ a87 l87 c87, w85.cell? (b7.add 4) = some (.slice a87 l87 c87) ∧
 ((0 ≤ x38 ∧ x38 < l87) ∧
 AddrK a87 fun b88 =>
 ∃ x89, w85.cell? (b88.add (x38.toNat * 1)) = some (.int .i64 x89) ∧
 (BoolK (decide (x89 < 0))
 (K false w85)
 (∃ a90 l90 c90, w85.cell? (b7.add 4) = some (.slice a90 l90 c90) ∧
 ((0 ≤ x38 ∧ x38 < l90) ∧
 AddrK a90 fun b91 =>
 ∃ x92, w85.cell? (b91.add (x38.toNat * 1)) = some (.int .i64 x92) ∧
 (BoolK (decide (x92 ≥ x6))
 (K false w85)
 (I35 (IntKind.wrap .i64 (x38 + 1)) w85 ∧ μ36 (IntKind.wrap .i64 (x38 + 1)) w85 < μ36 x38 w37)))))))))))))))))) ∧
 (∃ a93 l93 c93, w46.cell? (b7.add 3) = some (.slice a93 l93 c93) ∧
 ((0 ≤ x38 ∧ x38 < l93) ∧
 AddrK a93 fun b94 =>
 (∃ a95 l95 c95, w46.cell? (b7.add 3) = some (.slice a95 l95 c95) ∧
 ((0 ≤ (IntKind.wrap .i64 (x38 - 1) : Int) ∧ (IntKind.wrap .i64 (x38 - 1) : Int) < l95) ∧
 AddrK a95 fun b96 =>
 (∃ x97, w46.cell? ((b96.add ((IntKind.wrap .i64 (x38 - 1) : Int).toNat * 2)).add 0) = some (.int .i64 x97) ∧
 (∃ s98, w46.cell? ((b96.add ((IntKind.wrap .i64 (x38 - 1) : Int).toNat * 2)).add 1) = some (.string s98) ∧
 (∃ x99, w46.cell? ((b94.add (x38.toNat * 2)).add 0) = some (.int .i64 x99) ∧
 (∃ s100, w46.cell? ((b94.add (x38.toNat * 2)).add 1) = some (.string s100) ∧
 (Calls Tryz.prog 98 #[(.agg #[(.int .i64 x97), (.string s98)]), (.agg #[(.int .i64 x99), (.string s100)])] w46 fun e103 w102 =>
 ∃ p101, e103 = .returned (.bool p101) ∧
 (Cel w40 w102 ∧
 (BoolK (!p101)
 (K false w102)
 (∃ a104 l104 c104, w102.cell? (b7.add 4) = some (.slice a104 l104 c104) ∧
 ((0 ≤ x38 ∧ x38 < l104) ∧
 AddrK a104 fun b105 =>
 ∃ x106, w102.cell? (b105.add (x38.toNat * 1)) = some (.int .i64 x106) ∧
 (BoolK (decide (x106 < 0))
 (K false w102)
 (∃ a107 l107 c107, w102.cell? (b7.add 4) = some (.slice a107 l107 c107) ∧
 ((0 ≤ x38 ∧ x38 < l107) ∧
 AddrK a107 fun b108 =>
 ∃ x109, w102.cell? (b108.add (x38.toNat * 1)) = some (.int .i64 x109) ∧
 (BoolK (decide (x109 ≥ x6))
 (K false w102)
 (I35 (IntKind.wrap .i64 (x38 + 1)) w102 ∧ μ36 (IntKind.wrap .i64 (x38 + 1)) w102 < μ36 x38 w37)))))))))))))) ∧
 (∃ x110, w46.cell? ((b94.add (x38.toNat * 2)).add 0) = some (.int .i64 x110) ∧
 (∃ s111, w46.cell? ((b94.add (x38.toNat * 2)).add 1) = some (.string s111) ∧
 (∃ x112, w46.cell? ((b96.add ((IntKind.wrap .i64 (x38 - 1) : Int).toNat * 2)).add 0) = some (.int .i64 x112) ∧
 (∃ s113, w46.cell? ((b96.add ((IntKind.wrap .i64 (x38 - 1) : Int).toNat * 2)).add 1) = some (.string s113) ∧
 (Calls Tryz.prog 98 #[(.agg #[(.int .i64 x112), (.string s113)]), (.agg #[(.int .i64 x110), (.string s111)])] w46 fun e116 w115 =>
 ∃ p114, e116 = .returned (.bool p114) ∧
 (Cel w40 w115 ∧
 (BoolK (!p114)
 (K false w115)
 (∃ a117 l117 c117, w115.cell? (b7.add 4) = some (.slice a117 l117 c117) ∧
 ((0 ≤ x38 ∧ x38 < l117) ∧
 AddrK a117 fun b118 =>
 ∃ x119, w115.cell? (b118.add (x38.toNat * 1)) = some (.int .i64 x119) ∧
 (BoolK (decide (x119 < 0))
 (K false w115)
 (∃ a120 l120 c120, w115.cell? (b7.add 4) = some (.slice a120 l120 c120) ∧
 ((0 ≤ x38 ∧ x38 < l120) ∧
 AddrK a120 fun b121 =>
 ∃ x122, w115.cell? (b121.add (x38.toNat * 1)) = some (.int .i64 x122) ∧
 (BoolK (decide (x122 ≥ x6))
 (K false w115)
 (I35 (IntKind.wrap .i64 (x38 + 1)) w115 ∧ μ36 (IntKind.wrap .i64 (x38 + 1)) w115 < μ36 x38 w37)))))))))))))))) ∧
 (∃ x123, w46.cell? ((b94.add (x38.toNat * 2)).add 0) = some (.int .i64 x123) ∧
 (∃ s124, w46.cell? ((b94.add (x38.toNat * 2)).add 1) = some (.string s124) ∧
 (∃ a125 l125 c125, w46.cell? (b7.add 3) = some (.slice a125 l125 c125) ∧
 ((0 ≤ (IntKind.wrap .i64 (x38 - 1) : Int) ∧ (IntKind.wrap .i64 (x38 - 1) : Int) < l125) ∧
 AddrK a125 fun b126 =>
 ∃ x127, w46.cell? ((b126.add ((IntKind.wrap .i64 (x38 - 1) : Int).toNat * 2)).add 0) = some (.int .i64 x127) ∧
 (∃ s128, w46.cell? ((b126.add ((IntKind.wrap .i64 (x38 - 1) : Int).toNat * 2)).add 1) = some (.string s128) ∧
 (Calls Tryz.prog 98 #[(.agg #[(.int .i64 x127), (.string s128)]), (.agg #[(.int .i64 x123), (.string s124)])] w46 fun e131 w130 =>
 ∃ p129, e131 = .returned (.bool p129) ∧
 (Cel w40 w130 ∧
 (BoolK (!p129)
 (K false w130)
 (∃ a132 l132 c132, w130.cell? (b7.add 4) = some (.slice a132 l132 c132) ∧
 ((0 ≤ x38 ∧ x38 < l132) ∧
 AddrK a132 fun b133 =>
 ∃ x134, w130.cell? (b133.add (x38.toNat * 1)) = some (.int .i64 x134) ∧
 (BoolK (decide (x134 < 0))
 (K false w130)
 (∃ a135 l135 c135, w130.cell? (b7.add 4) = some (.slice a135 l135 c135) ∧
 ((0 ≤ x38 ∧ x38 < l135) ∧
 AddrK a135 fun b136 =>
 ∃ x137, w130.cell? (b136.add (x38.toNat * 1)) = some (.int .i64 x137) ∧
 (BoolK (decide (x137 ≥ x6))
 (K false w130)
 (I35 (IntKind.wrap .i64 (x38 + 1)) w130 ∧ μ36 (IntKind.wrap .i64 (x38 + 1)) w130 < μ36 x38 w37))))))))))))))))))
 (((∃ a138 l138 c138, w46.cell? (b7.add 4) = some (.slice a138 l138 c138) ∧
 ((0 ≤ x38 ∧ x38 < l138) ∧
 AddrK a138 fun b139 =>
 ∃ x140, w46.cell? (b139.add (x38.toNat * 1)) = some (.int .i64 x140) ∧
 (BoolK (decide (x140 < 0))
 (K false w46)
 (∃ a141 l141 c141, w46.cell? (b7.add 4) = some (.slice a141 l141 c141) ∧
 ((0 ≤ x38 ∧ x38 < l141) ∧
 AddrK a141 fun b142 =>
 ∃ x143, w46.cell? (b142.add (x38.toNat * 1)) = some (.int .i64 x143) ∧
 (BoolK (decide (x143 ≥ x6))
 (K false w46)
 (I35 (IntKind.wrap .i64 (x38 + 1)) w46 ∧ μ36 (IntKind.wrap .i64 (x38 + 1)) w46 < μ36 x38 w37))))))) ∧
 ((∃ a144 l144 c144, w46.cell? (b7.add 4) = some (.slice a144 l144 c144) ∧
 ((0 ≤ x38 ∧ x38 < l144) ∧
 AddrK a144 fun b145 =>
 ∃ x146, w46.cell? (b145.add (x38.toNat * 1)) = some (.int .i64 x146) ∧
 (BoolK (decide (x146 < 0))
 (K false w46)
 (∃ a147 l147 c147, w46.cell? (b7.add 4) = some (.slice a147 l147 c147) ∧
 ((0 ≤ x38 ∧ x38 < l147) ∧
 AddrK a147 fun b148 =>
 ∃ x149, w46.cell? (b148.add (x38.toNat * 1)) = some (.int .i64 x149) ∧
 (BoolK (decide (x149 ≥ x6))
 (K false w46)
 (I35 (IntKind.wrap .i64 (x38 + 1)) w46 ∧ μ36 (IntKind.wrap .i64 (x38 + 1)) w46 < μ36 x38 w37))))))) ∧
 (∃ a150 l150 c150, w46.cell? (b7.add 4) = some (.slice a150 l150 c150) ∧
 ((0 ≤ x38 ∧ x38 < l150) ∧
 AddrK a150 fun b151 =>
 ∃ x152, w46.cell? (b151.add (x38.toNat * 1)) = some (.int .i64 x152) ∧
 (BoolK (decide (x152 < 0))
 (K false w46)
 (∃ a153 l153 c153, w46.cell? (b7.add 4) = some (.slice a153 l153 c153) ∧
 ((0 ≤ x38 ∧ x38 < l153) ∧
 AddrK a153 fun b154 =>
 ∃ x155, w46.cell? (b154.add (x38.toNat * 1)) = some (.int .i64 x155) ∧
 (BoolK (decide (x155 ≥ x6))
 (K false w46)
 (I35 (IntKind.wrap .i64 (x38 + 1)) w46 ∧ μ36 (IntKind.wrap .i64 (x38 + 1)) w46 < μ36 x38 w37))))))))) ∧
 (((∃ a156 l156 c156, w46.cell? (b7.add 4) = some (.slice a156 l156 c156) ∧
 ((0 ≤ x38 ∧ x38 < l156) ∧
 AddrK a156 fun b157 =>
 ∃ x158, w46.cell? (b157.add (x38.toNat * 1)) = some (.int .i64 x158) ∧
 (BoolK (decide (x158 < 0))
 (K false w46)
 (∃ a159 l159 c159, w46.cell? (b7.add 4) = some (.slice a159 l159 c159) ∧
 ((0 ≤ x38 ∧ x38 < l159) ∧
 AddrK a159 fun b160 =>
 ∃ x161, w46.cell? (b160.add (x38.toNat * 1)) = some (.int .i64 x161) ∧
 (BoolK (decide (x161 ≥ x6))
 (K false w46)
 (I35 (IntKind.wrap .i64 (x38 + 1)) w46 ∧ μ36 (IntKind.wrap .i64 (x38 + 1)) w46 < μ36 x38 w37))))))) ∧
 (∃ a162 l162 c162, w46.cell? (b7.add 4) = some (.slice a162 l162 c162) ∧
 ((0 ≤ x38 ∧ x38 < l162) ∧
 AddrK a162 fun b163 =>
 ∃ x164, w46.cell? (b163.add (x38.toNat * 1)) = some (.int .i64 x164) ∧
 (BoolK (decide (x164 < 0))
 (K false w46)
 (∃ a165 l165 c165, w46.cell? (b7.add 4) = some (.slice a165 l165 c165) ∧
 ((0 ≤ x38 ∧ x38 < l165) ∧
 AddrK a165 fun b166 =>
 ∃ x167, w46.cell? (b166.add (x38.toNat * 1)) = some (.int .i64 x167) ∧
 (BoolK (decide (x167 ≥ x6))
 (K false w46)
 (I35 (IntKind.wrap .i64 (x38 + 1)) w46 ∧ μ36 (IntKind.wrap .i64 (x38 + 1)) w46 < μ36 x38 w37)))))))) ∧
 (∃ a168 l168 c168, w46.cell? (b7.add 4) = some (.slice a168 l168 c168) ∧
 ((0 ≤ x38 ∧ x38 < l168) ∧
 AddrK a168 fun b169 =>
 ∃ x170, w46.cell? (b169.add (x38.toNat * 1)) = some (.int .i64 x170) ∧
 (BoolK (decide (x170 < 0))
 (K false w46)
 (∃ a171 l171 c171, w46.cell? (b7.add 4) = some (.slice a171 l171 c171) ∧
 ((0 ≤ x38 ∧ x38 < l171) ∧
 AddrK a171 fun b172 =>
 ∃ x173, w46.cell? (b172.add (x38.toNat * 1)) = some (.int .i64 x173) ∧
 (BoolK (decide (x173 ≥ x6))
 (K false w46)
 (I35 (IntKind.wrap .i64 (x38 + 1)) w46 ∧ μ36 (IntKind.wrap .i64 (x38 + 1)) w46 < μ36 x38 w37))))))))))))))))
 (K true w37)))))))))))
 (K false w8)))))
def ann66 : Ann := (.two .nil (.two (.two .nil (.one (.two .nil (.two (.two .nil .nil) (.two .nil (.two (.two .nil .nil) (.two .nil (.two (.two .nil .nil) (.two .nil (.two (.two (.two .nil (.two (.two .nil .nil) .nil)) (.two (.two .nil (.one (.loop [(5, (.one (.int .i64)))] [1, 2] (.two (.two .nil (.two .nil .nil)) (.two (.one (.two (.anyC 43 (.take 0 (.take 1 (.take 2 (.take 3 (.take 4 (.one 5 (.take 6 (.take 7 (.take 8 (.take 9 (.take 10 (.take 11 (.take 13 (.take 14 (.take 17 (.take 19 (.both 12 (.take 15 (.both 16 (.one 18 (.take 20 (.one 21 (.one 22 (.take 23 (.take 24 (.take 25 (.take 26 (.take 27 (.take 29 (.one 28 (.take 30 (.one 31 (.take 32 (.take 33 (.take 34 (.take 35 (.take 37 (.take 40 (.one 36 (.take 38 (.one 39 (.take 41 (.take 42 .done)))))))))))))))))))))))) (.one 18 (.take 20 (.both 16 (.one 21 (.one 22 (.take 23 (.take 24 (.take 25 (.take 26 (.take 27 (.take 29 (.one 28 (.take 30 (.one 31 (.take 32 (.take 33 (.take 34 (.take 35 (.take 37 (.take 40 (.one 36 (.take 38 (.one 39 (.take 41 (.take 42 .done)))))))))))))))))))))) (.one 21 (.one 16 (.one 22 (.take 23 (.take 24 (.take 25 (.take 26 (.take 27 (.take 29 (.one 28 (.take 30 (.one 31 (.take 32 (.take 33 (.take 34 (.take 35 (.take 37 (.take 40 (.one 36 (.take 38 (.one 39 (.take 41 (.take 42 .done)))))))))))))))))))))))))))) (.one 18 (.take 20 (.both 12 (.take 15 (.both 16 (.one 21 (.one 22 (.take 23 (.take 24 (.take 25 (.take 26 (.take 27 (.take 29 (.one 28 (.take 30 (.one 31 (.take 32 (.take 33 (.take 34 (.take 35 (.take 37 (.take 40 (.one 36 (.take 38 (.one 39 (.take 41 (.take 42 .done)))))))))))))))))))))) (.one 21 (.one 16 (.one 22 (.take 23 (.take 24 (.take 25 (.take 26 (.take 27 (.take 29 (.one 28 (.take 30 (.one 31 (.take 32 (.take 33 (.take 34 (.take 35 (.take 37 (.take 40 (.one 36 (.take 38 (.one 39 (.take 41 (.take 42 .done))))))))))))))))))))))))) (.one 21 (.one 12 (.take 15 (.one 16 (.one 22 (.take 23 (.take 24 (.take 25 (.take 26 (.take 27 (.take 29 (.one 28 (.take 30 (.one 31 (.take 32 (.take 33 (.take 34 (.take 35 (.take 37 (.take 40 (.one 36 (.take 38 (.one 39 (.take 41 (.take 42 .done)))))))))))))))))))))))))))))))))))))))))))))) (.two (.two .nil .nil) .nil))) .nil))))) (.two .nil .nil))) .nil)))))))))) (.two .nil .nil)))
noncomputable def code66 : Code := match Tryz.f66.body with | some c => c | none => .skip
theorem calls66 (s1 : ByteArray) (x2 : Int) (s3 : ByteArray) (a4 : Option Addr) (l4 : Nat) (c4 : Nat) (a5 : Option Addr) (l5 : Nat) (c5 : Nat) (x6 : Int) (K : Bool → World → Prop) (w : World) (h : N66 s1 x2 s3 a4 l4 c4 a5 l5 c5 x6 K w) : Calls Tryz.prog 66 #[(.agg #[(.string s1), (.int .i64 x2), (.string s3), (.slice a4 l4 c4), (.slice a5 l5 c5)]), (.int .i64 x6)] w fun en w' => ∃ (p174 : Bool), en = .returned (.bool p174) ∧ K p174 w' :=
 fn_calls tabOk mixed Tryz.func66 (by kernel_rfl : Tryz.f66.body = some code66) ann66 [(.agg #[(.string s1), (.int .i64 x2), (.string s3), (.slice a4 l4 c4), (.slice a5 l5 c5)]), (.int .i64 x6)] [(.one .bool)] K w (by kernel_rfl) (by kernel_rfl) (by kernel_rfl) h
end Go.Proofs.YtnmldggopnbclaaGreatDoor

namespace Go.Proofs.YtnmldggopnbclaaGreatDoor
open Go Go.V Go.Proofs
open Go.RowKit (Below)
/-! manystrand/manystrandref05.ValidBut -/
def N38 (x1 : Int) (a2 : Option Addr) (l2 : Nat) (c2 : Nat) (x3 : Int) (K : Bool → World → Prop) (w : World) : Prop :=
 AllocK w (#[(.int .i64 x1), (.slice a2 l2 c2)]) 25 fun b4 w5 =>
 ∃ a6 l6 c6, w5.cell? (b4.add 1) = some (.slice a6 l6 c6) ∧
 (BoolK (decide ((l6 : Int) > x3))
 (K false w5)
 (∃ x7, w5.cell? b4 = some (.int .i64 x7) ∧
 (BoolK (decide (x7 < 0))
 (K false w5)
 (∃ x8, w5.cell? b4 = some (.int .i64 x8) ∧
 (∃ a9 l9 c9, w5.cell? (b4.add 1) = some (.slice a9 l9 c9) ∧
 (BoolK (decide (x8 ≥ l9))
 (K false w5)
 (∃ (I10 : Int → World → Prop) (μ11 : Int → World → Nat),
 (I10 0 w5 ∧ True) ∧
 ∀ w12 x13, I10 x13 w12 →
 ∃ a14 l14 c14, w12.cell? (b4.add 1) = some (.slice a14 l14 c14) ∧
 (BoolK (decide (x13 < l14))
 (DrewK w12 fun w15 =>
 ∃ a16 l16 c16, w15.cell? (b4.add 1) = some (.slice a16 l16 c16) ∧
 ((0 ≤ x13 ∧ x13 < l16) ∧
 AddrK a16 fun b17 =>
 ∃ s18, w15.cell? ((b17.add (x13.toNat * 5)).add 0) = some (.string s18) ∧
 (∃ x19, w15.cell? ((b17.add (x13.toNat * 5)).add 1) = some (.int .i64 x19) ∧
 (∃ s20, w15.cell? ((b17.add (x13.toNat * 5)).add 2) = some (.string s20) ∧
 (∃ a21 l21 c21, w15.cell? ((b17.add (x13.toNat * 5)).add 3) = some (.slice a21 l21 c21) ∧
 (∃ a22 l22 c22, w15.cell? ((b17.add (x13.toNat * 5)).add 4) = some (.slice a22 l22 c22) ∧
 (∃ a23 l23 c23, w15.cell? (b4.add 1) = some (.slice a23 l23 c23) ∧
 (Calls Tryz.prog 66 #[(.agg #[(.string s18), (.int .i64 x19), (.string s20), (.slice a21 l21 c21), (.slice a22 l22 c22)]), (.int .i64 l23)] w15 fun e26 w25 =>
 ∃ p24, e26 = .returned (.bool p24) ∧
 (BoolK (!p24)
 (K false w25)
 (I10 (IntKind.wrap .i64 (x13 + 1)) w25 ∧ μ11 (IntKind.wrap .i64 (x13 + 1)) w25 < μ11 x13 w12))))))))))
 (K true w12)))))))))
def ann38 : Ann := (.two .nil (.two (.two .nil (.two (.two .nil .nil) .nil)) (.two (.two .nil (.one (.loop [(5, (.one (.int .i64)))] [2] (.two (.two .nil (.two .nil .nil)) (.two (.one (.two (.anyC 8 (.take 0 (.take 1 (.take 2 (.take 3 (.take 4 (.take 5 (.take 6 (.take 7 .done))))))))) (.two (.two .nil .nil) .nil))) .nil))))) (.two .nil .nil))))
noncomputable def code38 : Code := match Tryz.f38.body with | some c => c | none => .skip
theorem calls38 (x1 : Int) (a2 : Option Addr) (l2 : Nat) (c2 : Nat) (x3 : Int) (K : Bool → World → Prop) (w : World) (h : N38 x1 a2 l2 c2 x3 K w) : Calls Tryz.prog 38 #[(.agg #[(.int .i64 x1), (.slice a2 l2 c2)]), (.int .i64 x3)] w fun en w' => ∃ (p27 : Bool), en = .returned (.bool p27) ∧ K p27 w' :=
 fn_calls tabOk mixed Tryz.func38 (by kernel_rfl : Tryz.f38.body = some code38) ann38 [(.agg #[(.int .i64 x1), (.slice a2 l2 c2)]), (.int .i64 x3)] [(.one .bool)] K w (by kernel_rfl) (by kernel_rfl) (by kernel_rfl) h
end Go.Proofs.YtnmldggopnbclaaGreatDoor

namespace Go.Proofs.YtnmldggopnbclaaGreatDoor
open Go Go.V Go.Proofs
open Go.RowKit (Below)
/-! manystrand/manystrandref05.Valid -/
def N19 (x1 : Int) (a2 : Option Addr) (l2 : Nat) (c2 : Nat) (K : Bool → World → Prop) (w : World) : Prop :=
 AllocK w (#[(.int .i64 x1), (.slice a2 l2 c2)]) 25 fun b3 w4 =>
 ∃ x5, w4.cell? (b3.add 0) = some (.int .i64 x5) ∧
 (∃ a6 l6 c6, w4.cell? (b3.add 1) = some (.slice a6 l6 c6) ∧
 (Calls Tryz.prog 38 #[(.agg #[(.int .i64 x5), (.slice a6 l6 c6)]), (.int .i64 1000)] w4 fun e9 w8 =>
 ∃ p7, e9 = .returned (.bool p7) ∧
 (K p7 w8)))
def ann19 : Ann := (.two .nil (.two .nil .nil))
noncomputable def code19 : Code := match Tryz.f19.body with | some c => c | none => .skip
theorem calls19 (x1 : Int) (a2 : Option Addr) (l2 : Nat) (c2 : Nat) (K : Bool → World → Prop) (w : World) (h : N19 x1 a2 l2 c2 K w) : Calls Tryz.prog 19 #[(.agg #[(.int .i64 x1), (.slice a2 l2 c2)])] w fun en w' => ∃ (p10 : Bool), en = .returned (.bool p10) ∧ K p10 w' :=
 fn_calls tabOk mixed Tryz.func19 (by kernel_rfl : Tryz.f19.body = some code19) ann19 [(.agg #[(.int .i64 x1), (.slice a2 l2 c2)])] [(.one .bool)] K w (by kernel_rfl) (by kernel_rfl) (by kernel_rfl) h
end Go.Proofs.YtnmldggopnbclaaGreatDoor

namespace Go.Proofs.YtnmldggopnbclaaGreatDoor
open Go Go.V Go.Proofs Go.V.Gr
open Go.RowKit (Below)
set_option maxRecDepth 100000 in
theorem ctr66 (w : World) (x : Nd) (n : Int) {a4 a5 : Option Addr} {l4 l5 : Nat} (c4 c5 : Nat) (htx : x.tx.size ≤ 1000000000000) (hfs : RL 2 RFt w a4 l4 x.fs) (hks : RL 1 RInt w a5 l5 x.ks) :
  Calls Tryz.prog 66 #[.agg #[.string x.kd, .int .i64 x.n, .string x.tx, .slice a4 l4 c4, .slice a5 l5 c5], .int .i64 n] w fun en w' => ∃ p, en = .returned (.bool p) ∧ ((p = true ↔ NdOk x n) ∧ Ext w w') := by
 refine calls66 _ _ _ _ _ _ _ _ _ _ _ w ?_
 have e4 := hfs.len; have e5 := hks.len; have m4 := hfs.2; have m5 := hks.2
 simp only [maxLen] at m4 m5
 have no : ∀ {P : Prop}, ¬ P → (false = true ↔ P) := fun h => ⟨fun e => (by cases e), fun e => absurd e h⟩
 refine AllocK.mk fun b w8 hb hB hx => ?_
 have g0 : ∀ {w' : World}, Ext w8 w' → w'.cell? (⟨b, 0, none⟩ : Addr) = some (.string x.kd) := fun k => by rw [(hB.ext k).cell]; rfl
 have g1 : ∀ {w' : World}, Ext w8 w' → w'.cell? ((⟨b, 0, none⟩ : Addr).add 1) = some (.int .i64 x.n) := fun k => by rw [add_mk, (hB.ext k).cell]; rfl
 have g2 : ∀ {w' : World}, Ext w8 w' → w'.cell? ((⟨b, 0, none⟩ : Addr).add 2) = some (.string x.tx) := fun k => by rw [add_mk, (hB.ext k).cell]; rfl
 have g3 : ∀ {w' : World}, Ext w8 w' → w'.cell? ((⟨b, 0, none⟩ : Addr).add 3) = some (.slice a4 l4 c4) := fun k => by rw [add_mk, (hB.ext k).cell]; rfl
 have g4 : ∀ {w' : World}, Ext w8 w' → w'.cell? ((⟨b, 0, none⟩ : Addr).add 4) = some (.slice a5 l5 c5) := fun k => by rw [add_mk, (hB.ext k).cell]; rfl
 have r8 := Ext.refl w8
 refine ⟨_, g0 r8, BoolK.mk (fun t => ?_) (fun n1 => BoolK.mk (fun t => ?_) (fun n2 => BoolK.mk (fun t => ?_) (fun n3 => BoolK.mk (fun t => ?_) (fun n4 => ?_))))⟩
 ·rw [NdOk.int_iff (tl_iff.1 t)]
  refine ⟨_, g1 r8, BoolK.mk (fun t1 => ⟨_, g1 r8, BoolK.mk (fun t2 => ⟨_, g2 r8, BoolK.mk (fun t3 => ⟨_, _, _, g3 r8, BoolK.mk (fun t4 => ⟨_, _, _, g4 r8, ?_, hx⟩) (fun t4 => ⟨no fun h => ?_, hx⟩)⟩) (fun t3 => ⟨no fun h => ?_, hx⟩)⟩) (fun t2 => ⟨no fun h => ?_, hx⟩)⟩) (fun t1 => ⟨no fun h => ?_, hx⟩)⟩
  ·have t1 := of_decide_eq_true t1; have t2 := of_decide_eq_true t2
   rw [len0 e5]; exact ⟨fun h => ⟨tl_iff.1 t3, (len0 e4).1 t4, h, t1, t2⟩, fun h => h.2.2.1⟩
  ·rw [(len0 e4).2 h.2.1] at t4; cases t4
  ·rw [tl_iff.2 h.1] at t3; cases t3
  ·have := of_decide_eq_false t2; omega
  ·have := of_decide_eq_false t1; omega
 ·rw [NdOk.var_iff (tl_iff.1 t)]
  refine ⟨_, g1 r8, BoolK.mk (fun t1 => ⟨_, g1 r8, BoolK.mk (fun t2 => ⟨_, g2 r8, BoolK.mk (fun t3 => ⟨_, _, _, g3 r8, BoolK.mk (fun t4 => ⟨_, _, _, g4 r8, ?_, hx⟩) (fun t4 => ⟨no fun h => ?_, hx⟩)⟩) (fun t3 => ⟨no fun h => ?_, hx⟩)⟩) (fun t2 => ⟨no fun h => ?_, hx⟩)⟩) (fun t1 => ⟨no fun h => ?_, hx⟩)⟩
  ·have t1 := of_decide_eq_true t1; have t2 := of_decide_eq_true t2
   rw [len0 e5]; exact ⟨fun h => ⟨tl_iff.1 t3, (len0 e4).1 t4, h, t1, t2⟩, fun h => h.2.2.1⟩
  ·rw [(len0 e4).2 h.2.1] at t4; cases t4
  ·rw [tl_iff.2 h.1] at t3; cases t3
  ·have := of_decide_eq_false t2; omega
  ·have := of_decide_eq_false t1; omega
 ·rw [NdOk.ref_iff (tl_iff.1 t)]
  refine ⟨_, g1 r8, BoolK.mk (fun t1 => ⟨_, g1 r8, BoolK.mk (fun t2 => ⟨_, g2 r8, ?_⟩) (fun t2 => ⟨no fun h => ?_, hx⟩)⟩) (fun t1 => ⟨no fun h => ?_, hx⟩)⟩
  ·have t1 := of_decide_eq_true t1; have t2 := of_decide_eq_true t2
   refine (ctr95 w8 x.tx htx).mono ?_
   rintro en w24 ⟨p, rfl, rfl, rfl⟩
   refine ⟨_, rfl, BoolK.mk (fun t3 => ⟨_, _, _, g3 r8, BoolK.mk (fun t4 => ⟨_, _, _, g4 r8, ?_, hx⟩) (fun t4 => ⟨no fun h => ?_, hx⟩)⟩) (fun t3 => ⟨no fun h => ?_, hx⟩)⟩
   ·rw [len0 e5]; exact ⟨fun h => ⟨t3, (len0 e4).1 t4, h, t1, t2⟩, fun h => h.2.2.1⟩
   ·rw [(len0 e4).2 h.2.1] at t4; cases t4
   ·rw [h.1] at t3; cases t3
  ·have := of_decide_eq_false t2; omega
  ·have := of_decide_eq_false t1; omega
 ·rw [NdOk.rec_iff (tl_iff.1 t)]
  refine ⟨_, g1 r8, BoolK.mk (fun t1 => ⟨no fun h => (by rw [h.1] at t1; cases t1), hx⟩) (fun t1 => ?_)⟩
  have t1 : x.n = 0 := by simpa using t1
  refine ⟨_, g2 r8, (ctr96 w8 x.tx (by simp only [maxLen]; omega)).mono ?_⟩
  rintro en w31 ⟨p, rfl, rfl, x31⟩
  have y31 := hx.trans x31
  refine ⟨_, rfl, BoolK.mk (fun t2 => ⟨no fun h => (by rw [h.2.1] at t2; cases t2), y31⟩) (fun t2 => ?_)⟩
  rw [Bool.not_eq_false'] at t2
  refine ⟨_, _, _, g3 x31, _, _, _, g4 x31, BoolK.mk (fun t3 => ⟨no fun h => (by rw [← e4, ← e5] at h; have := h.2.2.1; simp [this] at t3), y31⟩) (fun t3 => ?_)⟩
  have t3 : x.ks.length = x.fs.length := by rw [← e4, ← e5]; simp at t3; omega
  refine ⟨fun i w' => ∃ k : Nat, i = k ∧ k ≤ x.fs.length ∧ Ext w31 w' ∧ (∀ (i : Nat) (f : Ft), i < k → x.fs[i]? = some f → featD f = true ∧ ∀ g, 0 < i → x.fs[i - 1]? = some g → lessD g f = true) ∧ ∀ (i : Nat) (f : Int), i < k → x.ks[i]? = some f → 0 ≤ f ∧ f < n, fun i _ => x.fs.length - i.toNat, ⟨⟨0, rfl, by omega, Ext.refl _, fun i f hi => by omega, fun i f hi => by omega⟩, trivial⟩, ?_⟩
  rintro w37 _ ⟨k, rfl, hk, x37, hall, hall2⟩
  have z37 := x31.trans x37
  refine ⟨_, _, _, g3 z37, BoolK.mk (fun t4 => ?_) (fun t4 => ?_)⟩
  ·have hlt : k < x.fs.length := by have := of_decide_eq_true t4; omega
   have hltk : k < x.ks.length := by omega
   refine DrewK.mk fun w40 x40 => ?_
   have z40 := z37.trans x40
   obtain ⟨b1, ha, q0, q1, q2⟩ := ftAt (hfs.ext RFt.mono hx) z40 hlt
   refine ⟨_, _, _, g3 z40, ⟨by omega, by omega⟩, adK ha ⟨_, q0, _, q1, ?_⟩⟩
   refine (ctr97 w40 x.fs[k] q2).mono ?_
   rintro en w46 ⟨p, rfl, rfl, x46⟩
   have z46 := z40.trans x46
   have y46 := hx.trans z46
   have cel : Cel w40 w46 := Below.cel x46
   refine ⟨_, rfl, cel, BoolK.mk (fun t5 => ?_) (fun t5 => ?_)⟩
   ·have : ¬ featsOk x.fs := fun h => by have := (h k _ (List.getElem?_eq_getElem hlt)).1; rw [this] at t5; cases t5
    have := And.intro (no (P := x.n = 0 ∧ atomD x.tx = true ∧ x.ks.length = x.fs.length ∧ featsOk x.fs ∧ ∀ k ∈ x.ks, 0 ≤ k ∧ k < n) fun h => this h.2.2.2.1) y46
    exact ⟨⟨this, this, this⟩, ⟨this, this⟩, this⟩
   ·rw [Bool.not_eq_false'] at t5
    have tail : ∀ w' : World, Ext w46 w' → (∀ g, 0 < k → x.fs[k - 1]? = some g → lessD g x.fs[k] = true) →
      ∃ (a59 : Option Addr) (l59 : Nat) (c59 : Nat), w'.cell? ((⟨b, 0, none⟩ : Addr).add 4) = some (.slice a59 l59 c59) ∧
       ((0 ≤ ((k : Nat) : Int) ∧ ((k : Nat) : Int) < (l59 : Nat)) ∧ AddrK a59 fun b60 => ∃ (x61 : Int), w'.cell? (b60.add (((k : Nat) : Int).toNat * 1)) = some (.int .i64 x61) ∧
        (BoolK (decide ((x61 : Int) < 0)) ((false = true ↔ (x.n = 0 ∧ atomD x.tx = true ∧ x.ks.length = x.fs.length ∧ featsOk x.fs ∧ ∀ k ∈ x.ks, 0 ≤ k ∧ k < n)) ∧ Ext w w')
         (∃ (a62 : Option Addr) (l62 : Nat) (c62 : Nat), w'.cell? ((⟨b, 0, none⟩ : Addr).add 4) = some (.slice a62 l62 c62) ∧
          ((0 ≤ ((k : Nat) : Int) ∧ ((k : Nat) : Int) < (l62 : Nat)) ∧ AddrK a62 fun b63 => ∃ (x64 : Int), w'.cell? (b63.add (((k : Nat) : Int).toNat * 1)) = some (.int .i64 x64) ∧
           (BoolK (decide ((x64 : Int) ≥ n)) ((false = true ↔ (x.n = 0 ∧ atomD x.tx = true ∧ x.ks.length = x.fs.length ∧ featsOk x.fs ∧ ∀ k ∈ x.ks, 0 ≤ k ∧ k < n)) ∧ Ext w w')
            ((∃ k' : Nat, IntKind.wrap .i64 ((k : Int) + 1) = (k' : Int) ∧ k' ≤ x.fs.length ∧ Ext w31 w' ∧ (∀ (i : Nat) (f : Ft), i < k' → x.fs[i]? = some f → featD f = true ∧ ∀ g, 0 < i → x.fs[i - 1]? = some g → lessD g f = true) ∧ ∀ (i : Nat) (f : Int), i < k' → x.ks[i]? = some f → 0 ≤ f ∧ f < n) ∧
             x.fs.length - (IntKind.wrap .i64 ((k : Int) + 1)).toNat < x.fs.length - ((k : Nat) : Int).toNat)))))) := by
     intro w' x' hless
     have z' := z46.trans x'
     have y' := y46.trans x'
     obtain ⟨b2, hb2, k0⟩ := ksAt (hks.ext RInt.mono hx) z' hltk
     refine ⟨_, _, _, g4 z', ⟨by omega, by omega⟩, adK hb2 ⟨_, k0, BoolK.mk (fun t6 => ⟨no fun h => ?_, y'⟩) (fun t6 => ⟨_, _, _, g4 z', ⟨by omega, by omega⟩, adK hb2 ⟨_, k0, BoolK.mk (fun t7 => ⟨no fun h => ?_, y'⟩) (fun t7 => ?_)⟩⟩)⟩⟩
     ·have t6 := of_decide_eq_true t6
      have := h.2.2.2.2 _ (List.getElem_mem hltk); omega
     ·have t7 := of_decide_eq_true t7
      have := h.2.2.2.2 _ (List.getElem_mem hltk); omega
     ·have t6 := of_decide_eq_false t6; have t7 := of_decide_eq_false t7
      rw [wrap_succ (by omega)]
      refine ⟨⟨k + 1, rfl, by omega, ((x37.trans x40).trans x46).trans x', fun i f hi hf => ?_, fun i f hi hf => ?_⟩, by simp; omega⟩
      ·rcases Nat.lt_or_ge i k with h | h
       ·exact hall i f h hf
       ·have : i = k := by omega
        subst this
        rw [List.getElem?_eq_getElem hlt] at hf; cases hf
        exact ⟨t5, hless⟩
      ·rcases Nat.lt_or_ge i k with h | h
       ·exact hall2 i f h hf
       ·have : i = k := by omega
        subst this
        rw [List.getElem?_eq_getElem hltk] at hf; cases hf
        omega
    refine BoolK.mk (fun t6 => ?_) (fun t6 => ?_)
    ·have t6 : 0 < k := by have := of_decide_eq_true t6; omega
     rw [wrap_pred t6 (by omega)]
     have hlt' : k - 1 < x.fs.length := by omega
     obtain ⟨b2, ha2, r0, r1, _⟩ := ftAt (hfs.ext RFt.mono hx) z46 hlt'
     obtain ⟨b1', ha1, q0, q1, _⟩ := ftAt (hfs.ext RFt.mono hx) z46 hlt
     have hless := fun (w' : World) (x' : Ext w46 w') (h : lessD x.fs[k - 1] x.fs[k] = true) => tail w' x' fun g _ hg => (by rw [List.getElem?_eq_getElem hlt'] at hg; cases hg; exact h)
     have nless : lessD x.fs[k - 1] x.fs[k] = false → ∀ w', Ext w46 w' → ((false = true ↔ (x.n = 0 ∧ atomD x.tx = true ∧ x.ks.length = x.fs.length ∧ featsOk x.fs ∧ ∀ k ∈ x.ks, 0 ≤ k ∧ k < n)) ∧ Ext w w') := fun h7 w' x' =>
      ⟨no fun h => (by have := (h.2.2.2.1 k _ (List.getElem?_eq_getElem hlt)).2 _ t6 (List.getElem?_eq_getElem hlt'); rw [this] at h7; cases h7), y46.trans x'⟩
     have less := ctr98 w46 x.fs[k - 1] x.fs[k]
     have i1 : 0 ≤ ((k - 1 : Nat) : Int) ∧ ((k - 1 : Nat) : Int) < (l4 : Nat) := by omega
     have i2 : 0 ≤ ((k : Nat) : Int) ∧ ((k : Nat) : Int) < (l4 : Nat) := by omega
     have G3 := g3 z46
     refine ⟨⟨_, _, _, G3, i1, adK ha2 ⟨⟨_, r0, _, r1, _, _, _, G3, i2, adK ha1 ⟨_, q0, _, q1, less.mono ?_⟩⟩, _, _, _, G3, i2, adK ha1 ⟨⟨_, r0, _, r1, _, q0, _, q1, less.mono ?_⟩, _, q0, _, q1, _, r0, _, r1, less.mono ?_⟩⟩⟩,
      ⟨_, _, _, G3, i2, adK ha1 ⟨⟨_, _, _, G3, i1, adK ha2 ⟨⟨_, r0, _, r1, _, q0, _, q1, less.mono ?_⟩, _, q0, _, q1, _, r0, _, r1, less.mono ?_⟩⟩, _, q0, _, q1, _, _, _, G3, i1, adK ha2 ⟨_, r0, _, r1, less.mono ?_⟩⟩⟩⟩
     all_goals
      rintro en w57 ⟨p, rfl, rfl, x57⟩
      exact ⟨_, rfl, Below.cel (x46.trans x57), BoolK.mk (fun t7 => nless (by simpa using t7) _ x57) (fun t7 => hless _ x57 (by simpa using t7))⟩
    ·have t6 : ¬ 0 < k := by have := of_decide_eq_false t6; omega
     have := tail w46 (Ext.refl _) fun g hg => absurd hg t6
     exact ⟨⟨this, this, this⟩, ⟨this, this⟩, this⟩
  ·have : k = x.fs.length := by have := of_decide_eq_false t4; omega
   subst this
   refine ⟨⟨fun _ => ⟨t1, t2, t3, fun i f hf => hall i f (List.getElem?_eq_some_iff.1 hf).1 hf, fun q hq => ?_⟩, fun _ => rfl⟩, hx.trans z37⟩
   obtain ⟨i, hi⟩ := List.getElem?_of_mem hq
   exact hall2 i q (by rw [← t3]; exact (List.getElem?_eq_some_iff.1 hi).1) hi
 ·exact ⟨⟨fun h => (by cases h), fun h => absurd h (NdOk.other (tl_no n1) (tl_no n2) (tl_no n3) (tl_no n4))⟩, hx⟩
theorem ctr38 (w : World) (root : Int) (xs : List Nd) {a : Option Addr} {l : Nat} (c : Nat) (h : RNds w a l xs) (hl : LimT xs) (most : Nat) :
  Calls Tryz.prog 38 #[.agg #[.int .i64 root, .slice a l c], .int .i64 (most : Int)] w fun en w' => ∃ p, en = .returned (.bool p) ∧ ((p = true ↔ GrOk root xs most) ∧ Ext w w') := by
 refine calls38 _ _ _ _ _ _ w ?_
 have hl' := h.len; have hm := h.2
 simp only [maxLen] at hm
 have no : ∀ {P : Prop}, ¬ P → (false = true ↔ P) := fun h => ⟨fun e => (by cases e), fun e => absurd e h⟩
 refine AllocK.mk fun b w4 hb hB hx => ?_
 have g0 : w4.cell? (⟨b, 0, none⟩ : Addr) = some (.int .i64 root) := by rw [hB.cell]; rfl
 have g1 : ∀ {w' : World}, Ext w4 w' → w'.cell? ((⟨b, 0, none⟩ : Addr).add 1) = some (.slice a l c) := fun k => by rw [add_mk, (hB.ext k).cell]; rfl
 have r4 := Ext.refl w4
 refine ⟨_, _, _, g1 r4, BoolK.mk (fun t => ⟨no fun k => ?_, hx⟩) (fun t1 => ⟨_, g0, BoolK.mk (fun t => ⟨no fun k => ?_, hx⟩) (fun t2 => ⟨_, g0, _, _, _, g1 r4, BoolK.mk (fun t => ⟨no fun k => ?_, hx⟩) (fun t3 => ?_)⟩)⟩)⟩
 ·have := of_decide_eq_true t; have := k.most; omega
 ·have := of_decide_eq_true t; have := k.root; omega
 ·have := of_decide_eq_true t; have := k.root; omega
 have t1 := of_decide_eq_false t1; have t2 := of_decide_eq_false t2; have t3 := of_decide_eq_false t3
 refine ⟨fun i w' => ∃ k : Nat, i = k ∧ k ≤ xs.length ∧ Ext w4 w' ∧ ∀ (i : Nat) (x : Nd), i < k → xs[i]? = some x → NdOk x xs.length, fun i _ => xs.length - i.toNat, ⟨⟨0, rfl, by omega, Ext.refl _, fun i x hi => by omega⟩, trivial⟩, ?_⟩
 rintro w11 _ ⟨k, rfl, hk, x11, hall⟩
 refine ⟨_, _, _, g1 x11, BoolK.mk (fun t => ?_) (fun t => ?_)⟩
 ·have hlt : k < xs.length := by have := of_decide_eq_true t; omega
  refine DrewK.mk fun w15 x15 => ?_
  have x15 := x11.trans x15
  obtain ⟨b1, ha, h0, h1, h2, h3, h4, ⟨a3, l3, c3, h5, h6⟩, ⟨a4, l4, c4, h7, h8⟩, _⟩ := ndAt h (hx.trans x15) hlt
  refine ⟨_, _, _, g1 x15, ⟨by omega, by omega⟩, adK ha ⟨_, h0, _, h1, _, h2, _, _, _, h5, _, _, _, h7, _, _, _, g1 x15, ?_⟩⟩
  have e : ((l : Nat) : Int) = xs.length := by omega
  rw [e]
  refine (ctr66 w15 xs[k] xs.length c3 c4 (hl _ (List.getElem_mem hlt)) h6 h8).mono ?_
  rintro en w32 ⟨p, rfl, hp, x32⟩
  have y := x15.trans x32
  refine ⟨_, rfl, BoolK.mk (fun t5 => ⟨no fun k' => ?_, hx.trans y⟩) (fun t5 => ?_)⟩
  ·have := hp.2 (k'.nds _ (List.getElem_mem hlt)); rw [this] at t5; cases t5
  ·rw [Bool.not_eq_false'] at t5
   rw [wrap_succ (by omega)]
   refine ⟨⟨k + 1, rfl, by omega, y, fun i x hi hxi => ?_⟩, by simp; omega⟩
   rcases Nat.lt_or_ge i k with h | h
   ·exact hall i x h hxi
   ·have : i = k := by omega
    subst this
    rw [List.getElem?_eq_getElem hlt] at hxi; cases hxi
    exact hp.1 t5
 ·have : k = xs.length := by have := of_decide_eq_false t; omega
  subst this
  refine ⟨⟨fun _ => ⟨by omega, by omega, fun x hx => ?_⟩, fun _ => rfl⟩, hx.trans x11⟩
  obtain ⟨i, hi⟩ := List.getElem?_of_mem hx
  exact hall i x (List.getElem?_eq_some_iff.1 hi).1 hi
theorem ctr19 (w : World) (root : Int) (xs : List Nd) {a : Option Addr} {l : Nat} (c : Nat) (h : RNds w a l xs) (hl : LimT xs) :
  Calls Tryz.prog 19 #[.agg #[.int .i64 root, .slice a l c]] w fun en w' => ∃ p, en = .returned (.bool p) ∧ ((p = true ↔ GrOk root xs 1000) ∧ Ext w w') := by
 refine calls19 _ _ _ _ _ w ?_
 refine AllocK.mk fun b w4 hb hB hx => ?_
 obtain ⟨g0, g1, _⟩ := blkAt2 hB
 refine ⟨_, g0, _, _, _, g1, (ctr38 w4 root xs c (RNds.at h hx) hl 1000).mono ?_⟩
 rintro en w8 ⟨p, rfl, hp, x8⟩
 exact ⟨_, rfl, hp, hx.trans x8⟩
end Go.Proofs.YtnmldggopnbclaaGreatDoor

namespace Go.Proofs.YtnmldggopnbclaaGreatDoor
open Go Go.V Go.Proofs
open Go.RowKit (Below)
/-! manystrand/manystrandref05.SameNode -/
def N23 (s1 : ByteArray) (x2 : Int) (s3 : ByteArray) (a4 : Option Addr) (l4 : Nat) (c4 : Nat) (a5 : Option Addr) (l5 : Nat) (c5 : Nat) (s6 : ByteArray) (x7 : Int) (s8 : ByteArray) (a9 : Option Addr) (l9 : Nat) (c9 : Nat) (a10 : Option Addr) (l10 : Nat) (c10 : Nat) (K : Bool → World → Prop) (w : World) : Prop :=
 AllocK w (#[(.string s1), (.int .i64 x2), (.string s3), (.slice a4 l4 c4), (.slice a5 l5 c5)]) 39 fun b11 w12 =>
 AllocK w12 (#[(.string s6), (.int .i64 x7), (.string s8), (.slice a9 l9 c9), (.slice a10 l10 c10)]) 39 fun b13 w14 =>
 ∃ s15, w14.cell? b11 = some (.string s15) ∧
 (∃ s16, w14.cell? b13 = some (.string s16) ∧
 (BoolK (!(s15.toList == s16.toList))
 (K false w14)
 (∃ x17, w14.cell? (b11.add 1) = some (.int .i64 x17) ∧
 (∃ x18, w14.cell? (b13.add 1) = some (.int .i64 x18) ∧
 (BoolK (x17 != x18)
 (K false w14)
 (∃ s19, w14.cell? (b11.add 2) = some (.string s19) ∧
 (∃ s20, w14.cell? (b13.add 2) = some (.string s20) ∧
 (BoolK (!(s19.toList == s20.toList))
 (K false w14)
 (∃ a21 l21 c21, w14.cell? (b11.add 3) = some (.slice a21 l21 c21) ∧
 (∃ a22 l22 c22, w14.cell? (b13.add 3) = some (.slice a22 l22 c22) ∧
 (BoolK ((l21 : Int) != l22)
 (K false w14)
 (∃ a23 l23 c23, w14.cell? (b11.add 4) = some (.slice a23 l23 c23) ∧
 (∃ a24 l24 c24, w14.cell? (b13.add 4) = some (.slice a24 l24 c24) ∧
 (BoolK ((l23 : Int) != l24)
 (K false w14)
 (∃ (I25 : Int → World → Prop) (μ26 : Int → World → Nat),
 (I25 0 w14 ∧ True) ∧
 ∀ w27 x28, I25 x28 w27 →
 ∃ a29 l29 c29, w27.cell? (b11.add 3) = some (.slice a29 l29 c29) ∧
 (BoolK (decide (x28 < l29))
 (DrewK w27 fun w30 =>
 ∃ a31 l31 c31, w30.cell? (b11.add 3) = some (.slice a31 l31 c31) ∧
 ((0 ≤ x28 ∧ x28 < l31) ∧
 AddrK a31 fun b32 =>
 ∃ x33, w30.cell? ((b32.add (x28.toNat * 2)).add 0) = some (.int .i64 x33) ∧
 (∃ s34, w30.cell? ((b32.add (x28.toNat * 2)).add 1) = some (.string s34) ∧
 (∃ a35 l35 c35, w30.cell? (b13.add 3) = some (.slice a35 l35 c35) ∧
 ((0 ≤ x28 ∧ x28 < l35) ∧
 AddrK a35 fun b36 =>
 ∃ x37, w30.cell? ((b36.add (x28.toNat * 2)).add 0) = some (.int .i64 x37) ∧
 (∃ s38, w30.cell? ((b36.add (x28.toNat * 2)).add 1) = some (.string s38) ∧
 (BoolK (!((x33 == x37) && ((s34 == s38) && (true))))
 (K false w30)
 (I25 (IntKind.wrap .i64 (x28 + 1)) w30 ∧ μ26 (IntKind.wrap .i64 (x28 + 1)) w30 < μ26 x28 w27))))))))
 (∃ (I39 : Int → World → Prop) (μ40 : Int → World → Nat),
 (I39 0 w27 ∧ True) ∧
 ∀ w41 x42, I39 x42 w41 →
 ∃ a43 l43 c43, w41.cell? (b11.add 4) = some (.slice a43 l43 c43) ∧
 (BoolK (decide (x42 < l43))
 (DrewK w41 fun w44 =>
 ∃ a45 l45 c45, w44.cell? (b11.add 4) = some (.slice a45 l45 c45) ∧
 ((0 ≤ x42 ∧ x42 < l45) ∧
 AddrK a45 fun b46 =>
 ∃ x47, w44.cell? (b46.add (x42.toNat * 1)) = some (.int .i64 x47) ∧
 (∃ a48 l48 c48, w44.cell? (b13.add 4) = some (.slice a48 l48 c48) ∧
 ((0 ≤ x42 ∧ x42 < l48) ∧
 AddrK a48 fun b49 =>
 ∃ x50, w44.cell? (b49.add (x42.toNat * 1)) = some (.int .i64 x50) ∧
 (BoolK (x47 != x50)
 (K false w44)
 (I39 (IntKind.wrap .i64 (x42 + 1)) w44 ∧ μ40 (IntKind.wrap .i64 (x42 + 1)) w44 < μ40 x42 w41))))))
 (K true w41)))))))))))))))))))
def ann23 : Ann := (.two .nil (.two (.two .nil (.two (.two .nil .nil) .nil)) (.two (.two .nil (.one (.loop [(5, (.one (.int .i64)))] [2, 3] (.two (.two .nil (.two .nil .nil)) (.two (.one (.two (.anyC 11 (.take 0 (.take 1 (.take 2 (.take 3 (.take 4 (.take 5 (.take 6 (.take 7 (.take 8 (.take 9 (.take 10 .done)))))))))))) (.two (.two .nil .nil) .nil))) .nil))))) (.two (.two .nil (.one (.loop [(6, (.one (.int .i64)))] [2, 3] (.two (.two .nil (.two .nil .nil)) (.two (.one (.two (.anyC 11 (.take 0 (.take 1 (.take 2 (.take 3 (.take 4 (.take 5 (.take 6 (.take 7 (.take 8 (.take 9 (.take 10 .done)))))))))))) (.two (.two .nil .nil) .nil))) .nil))))) (.two .nil .nil)))))
noncomputable def code23 : Code := match Tryz.f23.body with | some c => c | none => .skip
theorem calls23 (s1 : ByteArray) (x2 : Int) (s3 : ByteArray) (a4 : Option Addr) (l4 : Nat) (c4 : Nat) (a5 : Option Addr) (l5 : Nat) (c5 : Nat) (s6 : ByteArray) (x7 : Int) (s8 : ByteArray) (a9 : Option Addr) (l9 : Nat) (c9 : Nat) (a10 : Option Addr) (l10 : Nat) (c10 : Nat) (K : Bool → World → Prop) (w : World) (h : N23 s1 x2 s3 a4 l4 c4 a5 l5 c5 s6 x7 s8 a9 l9 c9 a10 l10 c10 K w) : Calls Tryz.prog 23 #[(.agg #[(.string s1), (.int .i64 x2), (.string s3), (.slice a4 l4 c4), (.slice a5 l5 c5)]), (.agg #[(.string s6), (.int .i64 x7), (.string s8), (.slice a9 l9 c9), (.slice a10 l10 c10)])] w fun en w' => ∃ (p51 : Bool), en = .returned (.bool p51) ∧ K p51 w' :=
 fn_calls tabOk mixed Tryz.func23 (by kernel_rfl : Tryz.f23.body = some code23) ann23 [(.agg #[(.string s1), (.int .i64 x2), (.string s3), (.slice a4 l4 c4), (.slice a5 l5 c5)]), (.agg #[(.string s6), (.int .i64 x7), (.string s8), (.slice a9 l9 c9), (.slice a10 l10 c10)])] [(.one .bool)] K w (by kernel_rfl) (by kernel_rfl) (by kernel_rfl) h
end Go.Proofs.YtnmldggopnbclaaGreatDoor

namespace Go.Proofs.YtnmldggopnbclaaGreatDoor
open Go Go.V Go.Proofs
open Go.RowKit (Below)
/-! manystrand/manystrandref05.Same -/
def N8 (x1 : Int) (a2 : Option Addr) (l2 : Nat) (c2 : Nat) (x3 : Int) (a4 : Option Addr) (l4 : Nat) (c4 : Nat) (K : Bool → World → Prop) (w : World) : Prop :=
 AllocK w (#[(.int .i64 x1), (.slice a2 l2 c2)]) 25 fun b5 w6 =>
 AllocK w6 (#[(.int .i64 x3), (.slice a4 l4 c4)]) 25 fun b7 w8 =>
 ∃ x9, w8.cell? b5 = some (.int .i64 x9) ∧
 (∃ x10, w8.cell? b7 = some (.int .i64 x10) ∧
 (BoolK (x9 != x10)
 (K false w8)
 (∃ a11 l11 c11, w8.cell? (b5.add 1) = some (.slice a11 l11 c11) ∧
 (∃ a12 l12 c12, w8.cell? (b7.add 1) = some (.slice a12 l12 c12) ∧
 (BoolK ((l11 : Int) != l12)
 (K false w8)
 (∃ (I13 : Int → World → Prop) (μ14 : Int → World → Nat),
 (I13 0 w8 ∧ True) ∧
 ∀ w15 x16, I13 x16 w15 →
 ∃ a17 l17 c17, w15.cell? (b5.add 1) = some (.slice a17 l17 c17) ∧
 (BoolK (decide (x16 < l17))
 (DrewK w15 fun w18 =>
 ∃ a19 l19 c19, w18.cell? (b5.add 1) = some (.slice a19 l19 c19) ∧
 ((0 ≤ x16 ∧ x16 < l19) ∧
 AddrK a19 fun b20 =>
 ∃ s21, w18.cell? ((b20.add (x16.toNat * 5)).add 0) = some (.string s21) ∧
 (∃ x22, w18.cell? ((b20.add (x16.toNat * 5)).add 1) = some (.int .i64 x22) ∧
 (∃ s23, w18.cell? ((b20.add (x16.toNat * 5)).add 2) = some (.string s23) ∧
 (∃ a24 l24 c24, w18.cell? ((b20.add (x16.toNat * 5)).add 3) = some (.slice a24 l24 c24) ∧
 (∃ a25 l25 c25, w18.cell? ((b20.add (x16.toNat * 5)).add 4) = some (.slice a25 l25 c25) ∧
 (∃ a26 l26 c26, w18.cell? (b7.add 1) = some (.slice a26 l26 c26) ∧
 ((0 ≤ x16 ∧ x16 < l26) ∧
 AddrK a26 fun b27 =>
 ∃ s28, w18.cell? ((b27.add (x16.toNat * 5)).add 0) = some (.string s28) ∧
 (∃ x29, w18.cell? ((b27.add (x16.toNat * 5)).add 1) = some (.int .i64 x29) ∧
 (∃ s30, w18.cell? ((b27.add (x16.toNat * 5)).add 2) = some (.string s30) ∧
 (∃ a31 l31 c31, w18.cell? ((b27.add (x16.toNat * 5)).add 3) = some (.slice a31 l31 c31) ∧
 (∃ a32 l32 c32, w18.cell? ((b27.add (x16.toNat * 5)).add 4) = some (.slice a32 l32 c32) ∧
 (Calls Tryz.prog 23 #[(.agg #[(.string s21), (.int .i64 x22), (.string s23), (.slice a24 l24 c24), (.slice a25 l25 c25)]), (.agg #[(.string s28), (.int .i64 x29), (.string s30), (.slice a31 l31 c31), (.slice a32 l32 c32)])] w18 fun e35 w34 =>
 ∃ p33, e35 = .returned (.bool p33) ∧
 (BoolK (!p33)
 (K false w34)
 (I13 (IntKind.wrap .i64 (x16 + 1)) w34 ∧ μ14 (IntKind.wrap .i64 (x16 + 1)) w34 < μ14 x16 w15)))))))))))))))
 (K true w15))))))))
def ann8 : Ann := (.two .nil (.two (.two .nil (.two (.two .nil .nil) .nil)) (.two (.two .nil (.one (.loop [(5, (.one (.int .i64)))] [2, 3] (.two (.two .nil (.two .nil .nil)) (.two (.one (.two (.anyC 10 (.take 0 (.take 1 (.take 2 (.take 3 (.take 4 (.take 5 (.take 6 (.take 7 (.take 8 (.take 9 .done))))))))))) (.two (.two .nil .nil) .nil))) .nil))))) (.two .nil .nil))))
noncomputable def code8 : Code := match Tryz.f8.body with | some c => c | none => .skip
theorem calls8 (x1 : Int) (a2 : Option Addr) (l2 : Nat) (c2 : Nat) (x3 : Int) (a4 : Option Addr) (l4 : Nat) (c4 : Nat) (K : Bool → World → Prop) (w : World) (h : N8 x1 a2 l2 c2 x3 a4 l4 c4 K w) : Calls Tryz.prog 8 #[(.agg #[(.int .i64 x1), (.slice a2 l2 c2)]), (.agg #[(.int .i64 x3), (.slice a4 l4 c4)])] w fun en w' => ∃ (p36 : Bool), en = .returned (.bool p36) ∧ K p36 w' :=
 fn_calls tabOk mixed Tryz.func8 (by kernel_rfl : Tryz.f8.body = some code8) ann8 [(.agg #[(.int .i64 x1), (.slice a2 l2 c2)]), (.agg #[(.int .i64 x3), (.slice a4 l4 c4)])] [(.one .bool)] K w (by kernel_rfl) (by kernel_rfl) (by kernel_rfl) h
end Go.Proofs.YtnmldggopnbclaaGreatDoor

namespace Go.Proofs.YtnmldggopnbclaaGreatDoor
open Go Go.V Go.Proofs Go.V.Gr
open Go.RowKit (Below)
theorem list_eq_of {α : Type} {xs ys : List α} (hl : xs.length = ys.length) (h : ∀ i (a : α), i < xs.length → xs[i]? = some a → ys[i]? = some a) : xs = ys := by
 apply List.ext_getElem? 
 intro i
 rcases Nat.lt_or_ge i xs.length with h1 | h1
 ·rw [List.getElem?_eq_getElem h1, h i _ h1 (List.getElem?_eq_getElem h1)]
 ·rw [List.getElem?_eq_none h1, List.getElem?_eq_none (by omega)]
theorem nd_ext5 {x y : Nd} (h1 : x.kd = y.kd) (h2 : x.n = y.n) (h3 : x.tx = y.tx) (h4 : x.fs = y.fs) (h5 : x.ks = y.ks) : x = y := by
 cases x; cases y; simp_all
theorem ctr23 (w : World) (x y : Nd) {a4 a5 b4 b5 : Option Addr} {l4 l5 m4 m5 : Nat} (c4 c5 d4 d5 : Nat) (hxf : RL 2 RFt w a4 l4 x.fs) (hxk : RL 1 RInt w a5 l5 x.ks) (hyf : RL 2 RFt w b4 m4 y.fs) (hyk : RL 1 RInt w b5 m5 y.ks) :
  Calls Tryz.prog 23 #[.agg #[.string x.kd, .int .i64 x.n, .string x.tx, .slice a4 l4 c4, .slice a5 l5 c5], .agg #[.string y.kd, .int .i64 y.n, .string y.tx, .slice b4 m4 d4, .slice b5 m5 d5]] w
   fun en w' => ∃ p, en = .returned (.bool p) ∧ ((p = true ↔ x = y) ∧ Ext w w') := by
 refine calls23 _ _ _ _ _ _ _ _ _ _ _ _ _ _ _ _ _ _ _ w ?_
 have e4 := hxf.len; have e5 := hxk.len; have f4 := hyf.len; have f5 := hyk.len
 have k4 := hxf.2; have k5 := hxk.2; have n4 := hyf.2; have n5 := hyk.2
 simp only [maxLen] at k4 k5 n4 n5
 refine AllocK.mk fun b w12 hb hB x12 => AllocK.mk fun b2 w14 hb2 hB2 x14 => ?_
 have y14 := x12.trans x14
 obtain ⟨g0, g1, g2, g3, g4⟩ := blkAt5 hB x14
 obtain ⟨h0, h1, h2, h3, h4⟩ := blkAt5 hB2 (Ext.refl w14)
 refine ⟨_, g0, _, h0, BoolK.mk (fun t => ⟨not_iff_false fun e => ?_, y14⟩) (fun t1 => ⟨_, g1, _, h1, BoolK.mk (fun t => ⟨not_iff_false fun e => ?_, y14⟩) (fun t2 => ⟨_, g2, _, h2, BoolK.mk (fun t => ⟨not_iff_false fun e => ?_, y14⟩) (fun t3 =>
  ⟨_, _, _, g3, _, _, _, h3, BoolK.mk (fun t => ⟨not_iff_false fun e => ?_, y14⟩) (fun t4 => ⟨_, _, _, g4, _, _, _, h4, BoolK.mk (fun t => ⟨not_iff_false fun e => ?_, y14⟩) (fun t5 => ?_)⟩)⟩)⟩)⟩)⟩
 ·subst e; rw [tl_iff.2 rfl] at t; cases t
 ·subst e; simp at t
 ·subst e; rw [tl_iff.2 rfl] at t; cases t
 ·subst e; rw [e4, f4] at t; simp at t
 ·subst e; rw [e5, f5] at t; simp at t
 have t1 : x.kd = y.kd := by rw [Bool.not_eq_false'] at t1; exact tl_iff.1 t1
 have t2 : x.n = y.n := by simpa using t2
 have t3 : x.tx = y.tx := by rw [Bool.not_eq_false'] at t3; exact tl_iff.1 t3
 have t4 : x.fs.length = y.fs.length := by have : ((l4 : Nat) : Int) = m4 := (by simpa using t4); omega
 have t5 : x.ks.length = y.ks.length := by have : ((l5 : Nat) : Int) = m5 := (by simpa using t5); omega
 refine ⟨fun i w' => ∃ k : Nat, i = k ∧ k ≤ x.fs.length ∧ Ext w14 w' ∧ ∀ i (f : Ft), i < k → x.fs[i]? = some f → y.fs[i]? = some f, fun i _ => x.fs.length - i.toNat, ⟨⟨0, rfl, by omega, Ext.refl _, fun i f hi => by omega⟩, trivial⟩, ?_⟩
 rintro w27 _ ⟨k, rfl, hk, x27, hall⟩
 obtain ⟨_, _, _, g3, _⟩ := blkAt5 hB (x14.trans x27)
 refine ⟨_, _, _, g3, BoolK.mk (fun t => ?_) (fun t => ?_)⟩
 ·have hlt : k < x.fs.length := by have := of_decide_eq_true t; omega
  have hlt' : k < y.fs.length := by omega
  refine DrewK.mk fun w30 x30 => ?_
  have x30 := x27.trans x30
  obtain ⟨_, _, _, g3, _⟩ := blkAt5 hB (x14.trans x30)
  obtain ⟨_, _, _, h3, _⟩ := blkAt5 hB2 x30
  obtain ⟨b1, ha, q0, q1, _⟩ := ftAt hxf (y14.trans x30) hlt
  obtain ⟨b3, hc, r0, r1, _⟩ := ftAt hyf (y14.trans x30) hlt'
  refine ⟨_, _, _, g3, ⟨by omega, by omega⟩, adK ha ⟨_, q0, _, q1, _, _, _, h3, ⟨by omega, by omega⟩, adK hc ⟨_, r0, _, r1, BoolK.mk (fun t6 => ⟨not_iff_false fun e => ?_, y14.trans x30⟩) (fun t6 => ?_)⟩⟩⟩
  ·subst e; simp only [Bool.and_true, Bool.not_eq_true', Bool.and_eq_false_iff, beq_eq_false_iff_ne, ne_eq, not_true_eq_false, false_or] at t6
   rw [← Bool.not_eq_true, ba_eq] at t6; exact t6 rfl
  ·simp only [Bool.and_true, Bool.not_eq_false', Bool.and_eq_true, beq_iff_eq, ba_eq] at t6
   rw [wrap_succ (by omega)]
   refine ⟨⟨k + 1, rfl, by omega, x30, fun i f hi hf => ?_⟩, by simp; omega⟩
   rcases Nat.lt_or_ge i k with h | h
   ·exact hall i f h hf
   ·have : i = k := by omega
    subst this
    rw [List.getElem?_eq_getElem hlt] at hf; cases hf
    rw [List.getElem?_eq_getElem hlt']
    congr 1; exact (Prod.ext t6.1 t6.2).symm
 ·have : k = x.fs.length := by have := of_decide_eq_false t; omega
  subst this
  have efs : x.fs = y.fs := list_eq_of t4 fun i a hi h => hall i a hi h
  refine ⟨fun i w' => ∃ k : Nat, i = k ∧ k ≤ x.ks.length ∧ Ext w27 w' ∧ ∀ i (f : Int), i < k → x.ks[i]? = some f → y.ks[i]? = some f, fun i _ => x.ks.length - i.toNat, ⟨⟨0, rfl, by omega, Ext.refl _, fun i f hi => by omega⟩, trivial⟩, ?_⟩
  rintro w41 _ ⟨k, rfl, hk, x41, hall2⟩
  obtain ⟨_, _, _, _, g4⟩ := blkAt5 hB ((x14.trans x27).trans x41)
  refine ⟨_, _, _, g4, BoolK.mk (fun t => ?_) (fun t => ?_)⟩
  ·have hlt : k < x.ks.length := by have := of_decide_eq_true t; omega
   have hlt' : k < y.ks.length := by omega
   refine DrewK.mk fun w44 x44 => ?_
   have x44 := x41.trans x44
   obtain ⟨_, _, _, _, g4⟩ := blkAt5 hB ((x14.trans x27).trans x44)
   obtain ⟨_, _, _, _, h4⟩ := blkAt5 hB2 (x27.trans x44)
   obtain ⟨b1, ha, q0⟩ := ksAt hxk ((y14.trans x27).trans x44) hlt
   obtain ⟨b3, hc, r0⟩ := ksAt hyk ((y14.trans x27).trans x44) hlt'
   refine ⟨_, _, _, g4, ⟨by omega, by omega⟩, adK ha ⟨_, q0, _, _, _, h4, ⟨by omega, by omega⟩, adK hc ⟨_, r0, BoolK.mk (fun t6 => ⟨not_iff_false fun e => ?_, (y14.trans x27).trans x44⟩) (fun t6 => ?_)⟩⟩⟩
   ·subst e; simp at t6
   ·have t6 : x.ks[k] = y.ks[k] := by simpa using t6
    rw [wrap_succ (by omega)]
    refine ⟨⟨k + 1, rfl, by omega, x44, fun i f hi hf => ?_⟩, by simp; omega⟩
    rcases Nat.lt_or_ge i k with h | h
    ·exact hall2 i f h hf
    ·have : i = k := by omega
     subst this
     rw [List.getElem?_eq_getElem hlt] at hf; cases hf
     rw [List.getElem?_eq_getElem hlt', t6]
  ·have : k = x.ks.length := by have := of_decide_eq_false t; omega
   subst this
   have eks : x.ks = y.ks := list_eq_of t5 fun i a hi h => hall2 i a hi h
   exact ⟨⟨fun _ => nd_ext5 t1 t2 t3 efs eks, fun _ => rfl⟩, (y14.trans x27).trans x41⟩
theorem ctr8 (w : World) (r r' : Int) (xs ys : List Nd) {a a' : Option Addr} {l l' : Nat} (c c' : Nat) (hx : RNds w a l xs) (hy : RNds w a' l' ys) :
  Calls Tryz.prog 8 #[.agg #[.int .i64 r, .slice a l c], .agg #[.int .i64 r', .slice a' l' c']] w fun en w' => ∃ p, en = .returned (.bool p) ∧ ((p = true ↔ r = r' ∧ xs = ys) ∧ Ext w w') := by
 refine calls8 _ _ _ _ _ _ _ _ _ w ?_
 have e1 := hx.len; have e2 := hy.len
 have k1 := hx.2; have k2 := hy.2
 simp only [maxLen] at k1 k2
 refine AllocK.mk fun b w6 hb hB x6 => AllocK.mk fun b2 w8 hb2 hB2 x8 => ?_
 have y8 := x6.trans x8
 obtain ⟨_, g1, g0⟩ := blkAt2 (hB.ext x8)
 obtain ⟨_, h1, h0⟩ := blkAt2 hB2
 refine ⟨_, g0, _, h0, BoolK.mk (fun t => ⟨not_iff_false fun e => ?_, y8⟩) (fun t1 => ⟨_, _, _, g1, _, _, _, h1, BoolK.mk (fun t => ⟨not_iff_false fun e => ?_, y8⟩) (fun t2 => ?_)⟩)⟩
 ·rw [e.1] at t; simp at t
 ·rw [e1, e2, e.2] at t; simp at t
 have t1 : r = r' := by simpa using t1
 have t2 : xs.length = ys.length := by have : ((l : Nat) : Int) = l' := (by simpa using t2); omega
 refine ⟨fun i w' => ∃ k : Nat, i = k ∧ k ≤ xs.length ∧ Ext w8 w' ∧ ∀ i (f : Nd), i < k → xs[i]? = some f → ys[i]? = some f, fun i _ => xs.length - i.toNat, ⟨⟨0, rfl, by omega, Ext.refl _, fun i f hi => by omega⟩, trivial⟩, ?_⟩
 rintro w15 _ ⟨k, rfl, hk, x15, hall⟩
 obtain ⟨_, g1, _⟩ := blkAt2 (hB.ext (x8.trans x15))
 refine ⟨_, _, _, g1, BoolK.mk (fun t => ?_) (fun t => ?_)⟩
 ·have hlt : k < xs.length := by have := of_decide_eq_true t; omega
  have hlt' : k < ys.length := by omega
  refine DrewK.mk fun w18 x18 => ?_
  have x18 := x15.trans x18
  have y18 := y8.trans x18
  obtain ⟨_, g1, _⟩ := blkAt2 (hB.ext (x8.trans x18))
  obtain ⟨_, h1, _⟩ := blkAt2 (hB2.ext x18)
  obtain ⟨b1, ha, q0, q1, q2, _, _, ⟨a3, l3, c3, q5, q6⟩, ⟨a4, l4, c4, q7, q8⟩, _⟩ := ndAt hx y18 hlt
  obtain ⟨b3, hc, r0, r1, r2, _, _, ⟨d3, m3, z3, r5, r6⟩, ⟨d4, m4, z4, r7, r8⟩, _⟩ := ndAt hy y18 hlt'
  refine ⟨_, _, _, g1, ⟨by omega, by omega⟩, adK ha ⟨_, q0, _, q1, _, q2, _, _, _, q5, _, _, _, q7, _, _, _, h1, ⟨by omega, by omega⟩, adK hc ⟨_, r0, _, r1, _, r2, _, _, _, r5, _, _, _, r7, ?_⟩⟩⟩
  refine (ctr23 w18 xs[k] ys[k] c3 c4 z3 z4 q6 q8 r6 r8).mono ?_
  rintro en w34 ⟨p, rfl, hp, x34⟩
  refine ⟨_, rfl, BoolK.mk (fun t3 => ⟨not_iff_false fun e => ?_, y18.trans x34⟩) (fun t3 => ?_)⟩
  ·obtain ⟨_, e⟩ := e; subst e
   rw [hp.2 rfl] at t3; cases t3
  ·have t3 := hp.1 (by simpa using t3)
   rw [wrap_succ (by omega)]
   refine ⟨⟨k + 1, rfl, by omega, x18.trans x34, fun i f hi hf => ?_⟩, by simp; omega⟩
   rcases Nat.lt_or_ge i k with h | h
   ·exact hall i f h hf
   ·have : i = k := by omega
    subst this
    rw [List.getElem?_eq_getElem hlt] at hf; cases hf
    rw [List.getElem?_eq_getElem hlt', t3]
 ·have : k = xs.length := by have := of_decide_eq_false t; omega
  subst this
  exact ⟨⟨fun _ => ⟨t1, list_eq_of t2 fun i a hi h => hall i a hi h⟩, fun _ => rfl⟩, y8.trans x15⟩
end Go.Proofs.YtnmldggopnbclaaGreatDoor

namespace Go.V.Gr
open Go Go.V
open Go.Lib (itoa)
def NoZ (s : ByteArray) : Prop := ∀ c ∈ bl s, c ≠ 0
structure ZOk (x : Nd) : Prop where
 kd : NoZ x.kd
 tx : NoZ x.tx
 fs : ∀ f ∈ x.fs, NoZ f.2
 ks : x.ks.length = x.fs.length
def partsD : List Ft → List Int → List UInt8
 | f :: fs, c :: cs => itoa f.1 ++ (0 :: (bl f.2 ++ (0 :: (itoa c ++ (0 :: partsD fs cs)))))
 | _, _ => []
def headD (x : Nd) : List UInt8 := bl x.kd ++ (0 :: (itoa x.n ++ (0 :: (bl x.tx ++ [0]))))
def keyD (x : Nd) (cs : List Int) : List UInt8 := headD x ++ partsD x.fs cs
theorem itoa_nz (n : Int) : ∀ c ∈ itoa n, c ≠ 0 := fun c hc e => by
 have := itoa_all n c hc
 subst e; revert this; decide
theorem zcut {x y s t : List UInt8} (hx : ∀ c ∈ x, c ≠ 0) (hy : ∀ c ∈ y, c ≠ 0) (h : x ++ (0 :: s) = y ++ (0 :: t)) : x = y ∧ s = t := by
 obtain ⟨h1, h2⟩ := word_cut (p := fun c => decide (c ≠ 0)) (by simpa using hx) (by simpa using hy) (by simp) (by simp) h
 exact ⟨h1, (List.cons.inj h2).2⟩
theorem partsD_inj : ∀ {fs gs : List Ft} {cs ds : List Int}, (∀ f ∈ fs, NoZ f.2) → (∀ f ∈ gs, NoZ f.2) → cs.length = fs.length → ds.length = gs.length → partsD fs cs = partsD gs ds → fs = gs ∧ cs = ds
 | [], [], [], [], _, _, _, _, _ => ⟨rfl, rfl⟩
 | [], g :: gs, [], d :: ds, _, _, _, _, h => by
  simp only [partsD] at h
  have := congrArg List.length h
  simp at this
 | f :: fs, [], c :: cs, [], _, _, _, _, h => by
  simp only [partsD] at h
  have := congrArg List.length h
  simp at this
 | f :: fs, g :: gs, c :: cs, d :: ds, hf, hg, h1, h2, h => by
  simp only [partsD] at h
  obtain ⟨e1, h⟩ := zcut (itoa_nz _) (itoa_nz _) h
  obtain ⟨e2, h⟩ := zcut (hf f (by simp)) (hg g (by simp)) h
  obtain ⟨e3, h⟩ := zcut (itoa_nz _) (itoa_nz _) h
  obtain ⟨e4, e5⟩ := partsD_inj (fun f hm => hf f (List.mem_cons_of_mem _ hm)) (fun f hm => hg f (List.mem_cons_of_mem _ hm)) (by simpa using h1) (by simpa using h2) h
  have : f = g := Prod.ext (itoa_inj e1) (bl_inj e2)
  rw [this, e4, itoa_inj e3, e5]; exact ⟨rfl, rfl⟩
 | _ :: _, _, [], _, _, _, h, _, _ => by simp at h
 | [], _, _ :: _, _, _, _, h, _, _ => by simp at h
 | _, _ :: _, _, [], _, _, _, h, _ => by simp at h
 | _, [], _, _ :: _, _, _, _, h, _ => by simp at h
theorem keyD_iff {x y : Nd} {a b : List Int} (hx : ZOk x) (hy : ZOk y) (ha : a.length = x.ks.length) (hb : b.length = y.ks.length) : keyD x a = keyD y b ↔ x.hd = y.hd ∧ a = b := by
 constructor
 ·intro h
  simp only [keyD, headD, List.append_assoc, List.cons_append, List.nil_append] at h
  obtain ⟨e1, h⟩ := zcut hx.kd hy.kd h
  obtain ⟨e2, h⟩ := zcut (itoa_nz _) (itoa_nz _) h
  obtain ⟨e3, h⟩ := zcut hx.tx hy.tx h
  obtain ⟨e4, e5⟩ := partsD_inj hx.fs hy.fs (by rw [ha, hx.ks]) (by rw [hb, hy.ks]) h
  exact ⟨hd_mk (bl_inj e1) (itoa_inj e2) (bl_inj e3) e4 (by rw [← ha, ← hb, e5]), e5⟩
 ·rintro ⟨e1, e2⟩
  obtain ⟨h1, h2, h3, h4⟩ := hd_parts e1
  rw [keyD, keyD, headD, headD, h1, h2, h3, h4, e2]
section
variable {xs : List Nd}
def keyC (xs : List Nd) (c : Nat → Int) (i : Nat) : List UInt8 := keyD (nd xs i) (kc xs c i)
theorem keyC_iff {c : Nat → Int} (hz : ∀ x ∈ xs, ZOk x) {i j : Nat} (hi : i < xs.length) (hj : j < xs.length) : keyC xs c i = keyC xs c j ↔ (nd xs i).hd = (nd xs j).hd ∧ kc xs c i = kc xs c j := by
 have z : ∀ i, i < xs.length → ZOk (nd xs i) := fun i hi => by rw [nd_get hi]; exact hz _ (List.getElem_mem _)
 exact keyD_iff (z i hi) (z j hj) kc_len kc_len
structure Num1 (xs : List Nd) (T : List ByteArray) (cl : List Int) (ord : List Nat) : Prop where
 nodup : ord.Nodup
 lt : ∀ i ∈ ord, i < xs.length
 kids : ∀ (a i : Nat), ord[a]? = some i → ∀ m, m < (nd xs i).ks.length → ∃ b, b < a ∧ ord[b]? = some (kid xs i m)
 pos : ∀ i, i < xs.length → (i ∈ ord ↔ ga cl i ≠ 0)
 cll : cl.length = xs.length
 num : Numd T (keyC xs (ga cl)) (ga cl) 1 ord
 Tl : T.length ≤ ord.length
 b : ∀ c ∈ cl, 0 ≤ c ∧ c ≤ ord.length
theorem Num1.len {T : List ByteArray} {cl : List Int} {ord : List Nat} (h : Num1 xs T cl ord) : ord.length ≤ xs.length := by
 have := len_le_of_sub _ (List.range xs.length) h.nodup fun x hx => List.mem_range.2 (h.lt x hx)
 simpa using this
theorem Num1.start : Num1 xs [] (List.replicate xs.length 0) [] :=
 ⟨List.nodup_nil, by simp, by simp, fun i hi => by simp [ga, hi], by simp, fun i hi => by simp at hi, by simp, fun c hc => by rw [List.eq_of_mem_replicate hc]; simp⟩
theorem Num1.put {T T' : List ByteArray} {cl : List Int} {ord : List Nat} (h : Num1 xs T cl ord) {x v : Nat} {s : ByteArray} (hx : x < xs.length) (h0 : ga cl x = 0) (hr : ∀ k ∈ Gr.kids xs x, ga cl k ≠ 0) (hc : Closed xs)
  (hT : T' = T ∨ T' = T ++ [s]) (hv : T'[v]? = some s) (hs : bl s = keyC xs (ga cl) x) : Num1 xs T' (cl.set x (1 + v : Nat)) (ord ++ [x]) := by
 have hnx : x ∉ ord := fun hm => ((h.pos x hx).1 hm) h0
 have hxl : x < cl.length := by rw [h.cll]; exact hx
 have kin : ∀ k ∈ Gr.kids xs x, k ∈ ord := fun k hk => by
  have hkl : k < xs.length := by
   obtain ⟨m, hm⟩ := List.getElem?_of_mem hk
   have hm' : m < (nd xs x).ks.length := by rw [← kids_len]; exact (List.getElem?_eq_some_iff.1 hm).1
   rw [kids_get hm'] at hm; cases hm
   exact kid_lt hc hx hm'
  exact (h.pos k hkl).2 (hr k hk)
 have grow : ∀ {q : Nat} {u : ByteArray}, T[q]? = some u → T'[q]? = some u := fun {q u} e => by
  rcases hT with rfl | rfl
  ·exact e
  ·rw [List.getElem?_append_left (List.getElem?_eq_some_iff.1 e).1]; exact e
 have Tl' : T'.length ≤ ord.length + 1 := by
  have := h.Tl
  rcases hT with rfl | rfl
  ·omega
  ·simp; omega
 have hvl : v < T'.length := (List.getElem?_eq_some_iff.1 hv).1
 have same : ∀ i, i ∈ ord ∨ i = x → kc xs (ga (cl.set x (1 + v : Nat))) i = kc xs (ga cl) i := by
  intro i hi
  refine kc_congr fun k hk => ?_
  rw [ga_set hxl, if_neg]
  rintro rfl
  rcases hi with hi | rfl
  ·obtain ⟨a, ha⟩ := List.getElem?_of_mem hi
   obtain ⟨m, hm⟩ := List.getElem?_of_mem hk
   have hm' : m < (nd xs i).ks.length := by rw [← kids_len]; exact (List.getElem?_eq_some_iff.1 hm).1
   rw [kids_get hm'] at hm
   obtain ⟨b, hb, e⟩ := h.kids a i ha m hm'
   rw [Option.some.inj hm] at e
   exact hnx (List.mem_of_getElem? e)
  ·exact hnx (kin _ hk)
 refine ⟨?_, fun i hi => ?_, fun a i hai m hm => ?_, fun i hi => ?_, by simpa using h.cll, fun i hi => ?_, by simpa using Tl', fun c hcm => ?_⟩
 ·rw [List.nodup_append]
  exact ⟨h.nodup, by simp, fun a ha b hb e => by simp at hb; subst hb; subst e; exact hnx ha⟩
 ·rcases List.mem_append.1 hi with hi | hi
  ·exact h.lt i hi
  ·simp at hi; subst hi; exact hx
 ·rcases Nat.lt_or_ge a ord.length with h1 | h1
  ·rw [List.getElem?_append_left h1] at hai
   obtain ⟨b, hb, e⟩ := h.kids a i hai m hm
   exact ⟨b, hb, by rw [List.getElem?_append_left (by omega)]; exact e⟩
  ·rw [List.getElem?_append_right h1] at hai
   have h2 : a - ord.length < 1 := (List.getElem?_eq_some_iff.1 hai).1
   have h3 : a - ord.length = 0 := by omega
   rw [h3] at hai
   simp at hai; subst hai
   have hk := kin _ (List.mem_of_getElem? (kids_get hm))
   obtain ⟨b, hb⟩ := List.getElem?_of_mem hk
   have hbl := (List.getElem?_eq_some_iff.1 hb).1
   exact ⟨b, by omega, by rw [List.getElem?_append_left hbl]; exact hb⟩
 ·rw [ga_set hxl, List.mem_append]
  by_cases e : i = x
  ·subst e; simp; omega
  ·rw [if_neg e, ← h.pos i hi]; simp [e]
 ·rw [keyC, same i (by rcases List.mem_append.1 hi with h | h; exact .inl h; exact .inr (by simpa using h))]
  rcases List.mem_append.1 hi with hi | hi
  ·have e : i ≠ x := fun e => hnx (e ▸ hi)
   obtain ⟨q, s', e1, e2, e3⟩ := h.num i hi
   exact ⟨q, s', by rw [ga_set hxl, if_neg e]; exact e1, grow e2, e3⟩
  ·simp at hi; subst hi
   exact ⟨v, s, by rw [ga_set hxl, if_pos rfl]; omega, hv, hs⟩
 ·rcases List.mem_or_eq_of_mem_set hcm with hcm | rfl
  ·have := h.b c hcm; simp; omega
  ·simp; omega
theorem Num1.topo {T : List ByteArray} {cl : List Int} {ord : List Nat} (h : Num1 xs T cl ord) (hfull : ∀ i, i < xs.length → ga cl i = 0 → ∃ k ∈ Gr.kids xs i, ga cl k = 0) (hc : Closed xs) : Topo xs ord := by
 refine ⟨h.lt, h.kids, fun i hi hk => ?_⟩
 rw [h.pos i hi]
 intro h0
 obtain ⟨k, hk1, hk2⟩ := hfull i hi h0
 obtain ⟨m, hm⟩ := List.getElem?_of_mem hk1
 have hm' : m < (nd xs i).ks.length := by rw [← kids_len]; exact (List.getElem?_eq_some_iff.1 hm).1
 rw [kids_get hm'] at hm; cases hm
 exact (h.pos _ (kid_lt hc hi hm')).1 (hk m hm') hk2
theorem Num1.flat {T : List ByteArray} {cl : List Int} {ord : List Nat} (h : Num1 xs T cl ord) (ho : Topo xs ord) (hn : T.Nodup) (hz : ∀ x ∈ xs, ZOk x) : ∀ i j, i ∈ ord → j ∈ ord → (ga cl i = ga cl j ↔ Eqv xs xs i j) := by
 have F : Flat xs ord (ga cl) ord.length := ⟨fun a b i j _ _ ha hb => by
  have hi := List.mem_of_getElem? ha; have hj := List.mem_of_getElem? hb
  rw [h.num.iff hn hi hj]
  exact keyC_iff hz (h.lt i hi) (h.lt j hj)⟩
 intro i j hi hj
 obtain ⟨a, ha⟩ := List.getElem?_of_mem hi
 obtain ⟨b, hb⟩ := List.getElem?_of_mem hj
 exact F.eqv ho a b i j (List.getElem?_eq_some_iff.1 ha).1 (List.getElem?_eq_some_iff.1 hb).1 ha hb
structure DInv (xs : List Nd) (ord : List Nat) (fin : Nat) (n : Int) (c : Nat → Int) : Prop where
 flat : ∀ (i j : Nat), i ∈ ord → j ∈ ord → (c i = c j ↔ Eqv xs xs i j)
 low : ∀ i ∈ ord, 1 ≤ c i ∧ c i ≤ fin
 rest : (n = -1 ∧ ∀ i, i < xs.length → i ∉ ord → c i = 0) ∨ ∃ cnt : Nat, n = cnt ∧ Part xs ord (fin + 1) cnt c
 fine : ∀ i j, i < xs.length → j < xs.length → i ∉ ord → j ∉ ord → (nd xs i).hd = (nd xs j).hd → kc xs c i = kc xs c j → c i = c j
theorem DInv.round {ord : List Nat} {fin : Nat} {n : Int} {c c' : Nat → Int} {N : List ByteArray} (h : DInv xs ord fin n c) (ho : Topo xs ord) (hc : Closed xs) (hz : ∀ x ∈ xs, ZOk x) (hN : N.Nodup)
  (hflat : ∀ i ∈ ord, c' i = c i) (num : ∀ i, i < xs.length → i ∉ ord → ∃ (q : Nat) (s : ByteArray), c' i = fin + 1 + q ∧ N[q]? = some s ∧ bl s = keyC xs c i)
  (hit : ∀ q, q < N.length → ∃ i, i < xs.length ∧ i ∉ ord ∧ c' i = fin + 1 + (q : Nat)) :
  ((N.length : Int) = n → ∀ i j, i < xs.length → j < xs.length → (c' i = c' j ↔ Eqv xs xs i j)) ∧ ((N.length : Int) ≠ n → n < N.length ∧ DInv xs ord fin N.length c') := by
 have nd' : Numd N (keyC xs c) c' (fin + 1 : Nat) ((List.range xs.length).filter fun i => decide (i ∉ ord)) := fun i hi => by
  simp only [List.mem_filter, List.mem_range, decide_eq_true_eq] at hi
  obtain ⟨q, s, e1, e2⟩ := num i hi.1 hi.2
  exact ⟨q, s, by rw [e1]; rfl, e2⟩
 have mem : ∀ i, i < xs.length → i ∉ ord → i ∈ ((List.range xs.length).filter fun i => decide (i ∉ ord)) := fun i h1 h2 => by simp [h1, h2]
 have iff1 : ∀ i j, i < xs.length → j < xs.length → i ∉ ord → j ∉ ord → (c' i = c' j ↔ (nd xs i).hd = (nd xs j).hd ∧ kc xs c i = kc xs c j) := fun i j hi hj ni nj => by
  rw [nd'.iff hN (mem i hi ni) (mem j hj nj)]; exact keyC_iff hz hi hj
 have flat' : ∀ i j, i ∈ ord → j ∈ ord → (c' i = c' j ↔ Eqv xs xs i j) := fun i j hi hj => by rw [hflat i hi, hflat j hj]; exact h.flat i j hi hj
 have low' : ∀ i ∈ ord, 1 ≤ c' i ∧ c' i ≤ fin := fun i hi => by rw [hflat i hi]; exact h.low i hi
 have high : ∀ i, i < xs.length → i ∉ ord → ((fin + 1 : Nat) : Int) ≤ c' i ∧ c' i < ((fin + 1 : Nat) : Int) + N.length := fun i hi ni => by
  obtain ⟨q, s, e1, e2, _⟩ := num i hi ni
  have := (List.getElem?_eq_some_iff.1 e2).1
  omega
 have side' : ∀ i j, i < xs.length → j < xs.length → c' i = c' j → (i ∈ ord ↔ j ∈ ord) := fun i j hi hj e => by
  constructor
  ·intro hm
   refine Classical.byContradiction fun hn => ?_
   have := low' i hm; have := high j hj hn; omega
  ·intro hm
   refine Classical.byContradiction fun hn => ?_
   have := low' j hm; have := high i hi hn; omega
 have finer : ∀ i j, i < xs.length → j < xs.length → c' i = c' j → c i = c j := fun i j hi hj e => by
  by_cases hm : i ∈ ord
  ·have hm' := (side' i j hi hj e).1 hm
   rw [← hflat i hm, ← hflat j hm']; exact e
  ·have hm' : j ∉ ord := fun h => hm ((side' i j hi hj e).2 h)
   obtain ⟨h1, h2⟩ := (iff1 i j hi hj hm hm').1 e
   exact h.fine i j hi hj hm hm' h1 h2
 have fine' : ∀ i j, i < xs.length → j < xs.length → i ∉ ord → j ∉ ord → (nd xs i).hd = (nd xs j).hd → kc xs c' i = kc xs c' j → c' i = c' j := fun i j hi hj ni nj e1 e2 => by
  refine (iff1 i j hi hj ni nj).2 ⟨e1, kc_of (hd_len e1) fun m hm => ?_⟩
  exact finer _ _ (kid_lt hc hi hm) (kid_lt hc hj (by rw [← hd_len e1]; exact hm)) (kc_eq e2 m hm)
 have lowP : ∀ i ∈ ord, 0 ≤ c' i ∧ c' i < ((fin + 1 : Nat) : Int) := fun i hi => by have := low' i hi; omega
 have hit' : ∀ q, q < N.length → ∃ i, i < xs.length ∧ i ∉ ord ∧ c' i = ((fin + 1 : Nat) : Int) + (q : Nat) := fun q hq => by
  obtain ⟨i, h1, h2, h3⟩ := hit q hq
  exact ⟨i, h1, h2, by rw [h3]; rfl⟩
 rcases h.rest with ⟨hn, h0⟩ | ⟨cnt, hn, P⟩
 ·refine ⟨fun e => by omega, fun _ => ⟨by omega, flat', low', .inr ⟨_, rfl, ⟨flat', lowP, high, hit', fun i j hi hj ni nj e => ?_, fun i j hi hj ni nj e => ((iff1 i j hi hj ni nj).1 e).1⟩⟩, fine'⟩⟩
  refine (iff1 i j hi hj ni nj).2 ⟨e.head, kc_of (hd_len e.head) fun m hm => ?_⟩
  have hk1 := kid_lt hc hi hm
  have hk2 := kid_lt hc hj (m := m) (by rw [← hd_len e.head]; exact hm)
  have ek := e.kid hm
  by_cases hm1 : kid xs i m ∈ ord
  ·exact (h.flat _ _ hm1 ((ho.mem hc hk1 hk2 ek).1 hm1)).2 ek
  ·rw [h0 _ hk1 hm1, h0 _ hk2 fun h => hm1 ((ho.mem hc hk1 hk2 ek).2 h)]
 ·obtain ⟨P', hle, hfin⟩ := P.step ho hc hflat high hit' fun i j hi hj ni nj => by
   rw [iff1 i j hi hj ni nj]
   exact ⟨fun ⟨h1, h2⟩ => ⟨h.fine i j hi hj ni nj h1 h2, h2⟩, fun ⟨h1, h2⟩ => ⟨P.hd i j hi hj ni nj h1, h2⟩⟩
  exact ⟨fun e => hfin (by omega), fun e => ⟨by omega, flat', low', .inr ⟨_, rfl, P'⟩, fine'⟩⟩
theorem Num1.dinv {T : List ByteArray} {cl : List Int} {ord : List Nat} (h : Num1 xs T cl ord) (ho : Topo xs ord) (hn : T.Nodup) (hz : ∀ x ∈ xs, ZOk x) : DInv xs ord T.length (-1) (ga cl) := by
 refine ⟨h.flat ho hn hz, fun i hi => ?_, .inl ⟨rfl, fun i hi ni => ?_⟩, fun i j hi hj ni nj _ _ => ?_⟩
 ·obtain ⟨q, s, e1, e2, _⟩ := h.num i hi
  have := (List.getElem?_eq_some_iff.1 e2).1
  omega
 ·exact Classical.byContradiction fun h0 => ni ((h.pos i hi).2 h0)
 ·rw [Classical.byContradiction fun h0 => ni ((h.pos i hi).2 h0), Classical.byContradiction fun h0 => nj ((h.pos j hj).2 h0)]
end
end Go.V.Gr

namespace Go.Proofs.YtnmldggopnbclaaGreatDoor
open Go Go.V Go.Proofs
open Go.RowKit (Below)
/-! manystrand/manystrandref02.Decimal -/
def N99 (x1 : Int) (K : ByteArray → World → Prop) (w : World) : Prop :=
 BoolK (decide (x1 < 0))
 (Calls Tryz.prog 99 #[(.int .i64 (IntKind.wrap .i64 (0 - x1)))] w fun e4 w3 =>
 ∃ s2, e4 = .returned (.string s2) ∧
 ((((⟨#[45]⟩ : ByteArray).size + s2.size : Nat) : Int) ≤ IntKind.i64.max ∧
 (K ((⟨#[45]⟩ : ByteArray) ++ s2) w3)))
 (BoolK (decide (x1 < 10))
 (AllocK w (#[(.int .u8 (IntKind.wrap .u8 (IntKind.wrap .i64 (48 + x1))))]) 5 fun b5 w6 =>
 ∃ s7, ∃ w8, Sem.run Tryz.prog (convert 120 9 (.slice (some b5) 1 1)) w6 = .ok (.string s7) w8 ∧
 (K s7 w8))
 ((10 : Int) ≠ 0 ∧
 (Calls Tryz.prog 99 #[(.int .i64 (IntKind.wrap .i64 (x1.tdiv 10)))] w fun e11 w10 =>
 ∃ s9, e11 = .returned (.string s9) ∧
 ((10 : Int) ≠ 0 ∧
 (Calls Tryz.prog 99 #[(.int .i64 (x1.tmod 10))] w10 fun e14 w13 =>
 ∃ s12, e14 = .returned (.string s12) ∧
 (((s9.size + s12.size : Nat) : Int) ≤ IntKind.i64.max ∧
 (K (s9 ++ s12) w13)))))))
def ann99 : Ann := (.two .nil (.two (.two .nil (.two (.two .nil .nil) .nil)) (.two (.two .nil (.two (.two .nil .nil) .nil)) (.two .nil .nil))))
noncomputable def code99 : Code := match Tryz.f99.body with | some c => c | none => .skip
theorem calls99 (x1 : Int) (K : ByteArray → World → Prop) (w : World) (h : N99 x1 K w) : Calls Tryz.prog 99 #[(.int .i64 x1)] w fun en w' => ∃ (s15 : ByteArray), en = .returned (.string s15) ∧ K s15 w' :=
 fn_calls tabOk mixed Tryz.func99 (by kernel_rfl : Tryz.f99.body = some code99) ann99 [(.int .i64 x1)] [(.one .str)] K w (by kernel_rfl) (by kernel_rfl) (by kernel_rfl) h
end Go.Proofs.YtnmldggopnbclaaGreatDoor

namespace Go.Proofs.YtnmldggopnbclaaGreatDoor
open Go Go.V Go.Proofs
open Go.RowKit (Below)
/-! manystrand/manystrandref05.ready -/
def N67 (s1 : ByteArray) (x2 : Int) (s3 : ByteArray) (a4 : Option Addr) (l4 : Nat) (c4 : Nat) (a5 : Option Addr) (l5 : Nat) (c5 : Nat) (a6 : Option Addr) (l6 : Nat) (_c6 : Nat) (K : Bool → World → Prop) (w : World) : Prop :=
 AllocK w (#[(.string s1), (.int .i64 x2), (.string s3), (.slice a4 l4 c4), (.slice a5 l5 c5)]) 39 fun b7 w8 =>
 ∃ (I9 : Int → World → Prop) (μ10 : Int → World → Nat),
 (I9 0 w8 ∧ True) ∧
 ∀ w11 x12, I9 x12 w11 →
 ∃ a13 l13 c13, w11.cell? (b7.add 4) = some (.slice a13 l13 c13) ∧
 (BoolK (decide (x12 < l13))
 (∃ a14 l14 c14, w11.cell? (b7.add 4) = some (.slice a14 l14 c14) ∧
 ((0 ≤ x12 ∧ x12 < l14) ∧
 AddrK a14 fun b15 =>
 ∃ x16, w11.cell? (b15.add (x12.toNat * 1)) = some (.int .i64 x16) ∧
 ((0 ≤ x16 ∧ x16 < l6) ∧
 AddrK a6 fun b17 =>
 ∃ x18, w11.cell? (b17.add (x16.toNat * 1)) = some (.int .i64 x18) ∧
 (BoolK (x18 == 0)
 (K false w11)
 (I9 (IntKind.wrap .i64 (x12 + 1)) w11 ∧ μ10 (IntKind.wrap .i64 (x12 + 1)) w11 < μ10 x12 w11)))))
 (K true w11))
def ann67 : Ann := (.two .nil (.two (.two .nil (.one (.loop [(5, (.one (.int .i64)))] [1, 2] (.two (.two .nil (.two .nil .nil)) (.two (.one (.two .nil (.two (.two .nil .nil) .nil))) .nil))))) (.two .nil .nil)))
noncomputable def code67 : Code := match Tryz.f67.body with | some c => c | none => .skip
theorem calls67 (s1 : ByteArray) (x2 : Int) (s3 : ByteArray) (a4 : Option Addr) (l4 : Nat) (c4 : Nat) (a5 : Option Addr) (l5 : Nat) (c5 : Nat) (a6 : Option Addr) (l6 : Nat) (c6 : Nat) (K : Bool → World → Prop) (w : World) (h : N67 s1 x2 s3 a4 l4 c4 a5 l5 c5 a6 l6 c6 K w) : Calls Tryz.prog 67 #[(.agg #[(.string s1), (.int .i64 x2), (.string s3), (.slice a4 l4 c4), (.slice a5 l5 c5)]), (.slice a6 l6 c6)] w fun en w' => ∃ (p19 : Bool), en = .returned (.bool p19) ∧ K p19 w' :=
 fn_calls tabOk mixed Tryz.func67 (by kernel_rfl : Tryz.f67.body = some code67) ann67 [(.agg #[(.string s1), (.int .i64 x2), (.string s3), (.slice a4 l4 c4), (.slice a5 l5 c5)]), (.slice a6 l6 c6)] [(.one .bool)] K w (by kernel_rfl) (by kernel_rfl) (by kernel_rfl) h
end Go.Proofs.YtnmldggopnbclaaGreatDoor

namespace Go.Proofs.YtnmldggopnbclaaGreatDoor
open Go Go.V Go.Proofs
open Go.RowKit (Below)
/-! manystrand/manystrandref05.key -/
def N68 (s1 : ByteArray) (x2 : Int) (s3 : ByteArray) (a4 : Option Addr) (l4 : Nat) (c4 : Nat) (a5 : Option Addr) (l5 : Nat) (c5 : Nat) (a6 : Option Addr) (l6 : Nat) (_c6 : Nat) (K : ByteArray → World → Prop) (w : World) : Prop :=
 AllocK w (#[(.string s1), (.int .i64 x2), (.string s3), (.slice a4 l4 c4), (.slice a5 l5 c5)]) 39 fun b7 w8 =>
 DrewK w8 fun w9 =>
 ∃ s10, w9.cell? b7 = some (.string s10) ∧
 (((s10.size + (⟨#[0]⟩ : ByteArray).size : Nat) : Int) ≤ IntKind.i64.max ∧
 (∃ x11, w9.cell? (b7.add 1) = some (.int .i64 x11) ∧
 (∃ s12, w9.cell? (b7.add 2) = some (.string s12) ∧
 (Calls Tryz.prog 99 #[(.int .i64 x11)] w9 fun e15 w14 =>
 ∃ s13, e15 = .returned (.string s13) ∧
 (Cel w9 w14 ∧
 ((((s10 ++ (⟨#[0]⟩ : ByteArray) : ByteArray).size + s13.size : Nat) : Int) ≤ IntKind.i64.max ∧
 (((((s10 ++ (⟨#[0]⟩ : ByteArray) : ByteArray) ++ s13 : ByteArray).size + (⟨#[0]⟩ : ByteArray).size : Nat) : Int) ≤ IntKind.i64.max ∧
 ((((((s10 ++ (⟨#[0]⟩ : ByteArray) : ByteArray) ++ s13 : ByteArray) ++ (⟨#[0]⟩ : ByteArray) : ByteArray).size + s12.size : Nat) : Int) ≤ IntKind.i64.max ∧
 (((((((s10 ++ (⟨#[0]⟩ : ByteArray) : ByteArray) ++ s13 : ByteArray) ++ (⟨#[0]⟩ : ByteArray) : ByteArray) ++ s12 : ByteArray).size + (⟨#[0]⟩ : ByteArray).size : Nat) : Int) ≤ IntKind.i64.max ∧
 (∃ (I16 : ByteArray → Int → World → Prop) (μ17 : ByteArray → Int → World → Nat),
 (I16 (((((s10 ++ (⟨#[0]⟩ : ByteArray) : ByteArray) ++ s13 : ByteArray) ++ (⟨#[0]⟩ : ByteArray) : ByteArray) ++ s12 : ByteArray) ++ (⟨#[0]⟩ : ByteArray)) 0 w14 ∧ True) ∧
 ∀ w18 s19 x20, I16 s19 x20 w18 →
 ∃ a21 l21 c21, w18.cell? (b7.add 4) = some (.slice a21 l21 c21) ∧
 (BoolK (decide (x20 < l21))
 (DrewK w18 fun w22 =>
 ∃ a23 l23 c23, w22.cell? (b7.add 3) = some (.slice a23 l23 c23) ∧
 ((0 ≤ x20 ∧ x20 < l23) ∧
 AddrK a23 fun b24 =>
 ∃ x25, w22.cell? (b24.add (x20.toNat * 2)) = some (.int .i64 x25) ∧
 (∃ a26 l26 c26, w22.cell? (b7.add 3) = some (.slice a26 l26 c26) ∧
 ((0 ≤ x20 ∧ x20 < l26) ∧
 AddrK a26 fun b27 =>
 ∃ s28, w22.cell? ((b27.add (x20.toNat * 2)).add 1) = some (.string s28) ∧
 (∃ a29 l29 c29, w22.cell? (b7.add 4) = some (.slice a29 l29 c29) ∧
 ((0 ≤ x20 ∧ x20 < l29) ∧
 AddrK a29 fun b30 =>
 ∃ x31, w22.cell? (b30.add (x20.toNat * 1)) = some (.int .i64 x31) ∧
 ((0 ≤ x31 ∧ x31 < l6) ∧
 AddrK a6 fun b32 =>
 ∃ x33, w22.cell? (b32.add (x31.toNat * 1)) = some (.int .i64 x33) ∧
 (Calls Tryz.prog 99 #[(.int .i64 x25)] w22 fun e36 w35 =>
 ∃ s34, e36 = .returned (.string s34) ∧
 (Cel w22 w35 ∧
 (((s34.size + (⟨#[0]⟩ : ByteArray).size : Nat) : Int) ≤ IntKind.i64.max ∧
 ((((s34 ++ (⟨#[0]⟩ : ByteArray) : ByteArray).size + s28.size : Nat) : Int) ≤ IntKind.i64.max ∧
 (((((s34 ++ (⟨#[0]⟩ : ByteArray) : ByteArray) ++ s28 : ByteArray).size + (⟨#[0]⟩ : ByteArray).size : Nat) : Int) ≤ IntKind.i64.max ∧
 (Calls Tryz.prog 99 #[(.int .i64 x33)] w35 fun e39 w38 =>
 ∃ s37, e39 = .returned (.string s37) ∧
 (Cel w22 w38 ∧
 ((((((s34 ++ (⟨#[0]⟩ : ByteArray) : ByteArray) ++ s28 : ByteArray) ++ (⟨#[0]⟩ : ByteArray) : ByteArray).size + s37.size : Nat) : Int) ≤ IntKind.i64.max ∧
 (((((((s34 ++ (⟨#[0]⟩ : ByteArray) : ByteArray) ++ s28 : ByteArray) ++ (⟨#[0]⟩ : ByteArray) : ByteArray) ++ s37 : ByteArray).size + (⟨#[0]⟩ : ByteArray).size : Nat) : Int) ≤ IntKind.i64.max ∧
 (((s19.size + (((((s34 ++ (⟨#[0]⟩ : ByteArray) : ByteArray) ++ s28 : ByteArray) ++ (⟨#[0]⟩ : ByteArray) : ByteArray) ++ s37 : ByteArray) ++ (⟨#[0]⟩ : ByteArray) : ByteArray).size : Nat) : Int) ≤ IntKind.i64.max ∧
 (I16 (s19 ++ (((((s34 ++ (⟨#[0]⟩ : ByteArray) : ByteArray) ++ s28 : ByteArray) ++ (⟨#[0]⟩ : ByteArray) : ByteArray) ++ s37 : ByteArray) ++ (⟨#[0]⟩ : ByteArray) : ByteArray)) (IntKind.wrap .i64 (x20 + 1)) w38 ∧ μ17 (s19 ++ (((((s34 ++ (⟨#[0]⟩ : ByteArray) : ByteArray) ++ s28 : ByteArray) ++ (⟨#[0]⟩ : ByteArray) : ByteArray) ++ s37 : ByteArray) ++ (⟨#[0]⟩ : ByteArray) : ByteArray)) (IntKind.wrap .i64 (x20 + 1)) w38 < μ17 s19 x20 w18))))))))))))))))))
 (K s19 w18))))))))))))
def ann68 : Ann := (.two .nil (.two (.anyC 13 (.take 0 (.take 1 (.take 2 (.take 3 (.take 4 (.take 8 (.take 9 (.one 5 (.take 6 (.take 7 (.take 10 (.take 11 (.take 12 .done)))))))))))))) (.two (.two .nil (.one (.loop [(5, (.one .str)), (6, (.one (.int .i64)))] [1, 2] (.two (.two .nil (.two .nil .nil)) (.two (.one (.anyC 30 (.take 0 (.take 1 (.take 2 (.take 3 (.take 4 (.take 5 (.take 6 (.take 9 (.take 10 (.take 11 (.take 12 (.take 13 (.take 14 (.take 17 (.take 18 (.take 19 (.take 20 (.take 21 (.take 22 (.take 23 (.take 24 (.one 7 (.take 8 (.take 15 (.take 16 (.one 25 (.take 26 (.take 27 (.take 28 (.take 29 .done)))))))))))))))))))))))))))))))) .nil))))) (.two .nil .nil))))
noncomputable def code68 : Code := match Tryz.f68.body with | some c => c | none => .skip
theorem calls68 (s1 : ByteArray) (x2 : Int) (s3 : ByteArray) (a4 : Option Addr) (l4 : Nat) (c4 : Nat) (a5 : Option Addr) (l5 : Nat) (c5 : Nat) (a6 : Option Addr) (l6 : Nat) (c6 : Nat) (K : ByteArray → World → Prop) (w : World) (h : N68 s1 x2 s3 a4 l4 c4 a5 l5 c5 a6 l6 c6 K w) : Calls Tryz.prog 68 #[(.agg #[(.string s1), (.int .i64 x2), (.string s3), (.slice a4 l4 c4), (.slice a5 l5 c5)]), (.slice a6 l6 c6)] w fun en w' => ∃ (s40 : ByteArray), en = .returned (.string s40) ∧ K s40 w' :=
 fn_calls tabOk mixed Tryz.func68 (by kernel_rfl : Tryz.f68.body = some code68) ann68 [(.agg #[(.string s1), (.int .i64 x2), (.string s3), (.slice a4 l4 c4), (.slice a5 l5 c5)]), (.slice a6 l6 c6)] [(.one .str)] K w (by kernel_rfl) (by kernel_rfl) (by kernel_rfl) h
end Go.Proofs.YtnmldggopnbclaaGreatDoor

namespace Go.Proofs.YtnmldggopnbclaaGreatDoor
open Go Go.V Go.Proofs Go.V.Gr
open Go.RowKit (Below)
theorem sizeA (p q : ByteArray) : (p ++ q).size = p.size + q.size := by rw [← bl_size, ← bl_size, ← bl_size, bl_append, List.length_append]
theorem itoa_nat (n : Nat) : Lib.itoa (n : Int) = Lib.decDigits n := by rw [Lib.itoa, if_neg (by omega)]; rfl
theorem itoa_neg {n : Int} (h : n < 0) : Lib.itoa n = 45 :: Lib.itoa (-n) := by
 rw [Lib.itoa, if_pos h, Lib.itoa, if_neg (by omega)]
 congr 2; omega
theorem decimal_nat (n : Nat) : n < 9223372036854775808 → ∀ w : World, Calls Tryz.prog 99 #[.int .i64 (n : Int)] w fun en w' => ∃ s, en = .returned (.string s) ∧ (bl s = Lib.itoa n ∧ Ext w w') := by
 induction n using Nat.strongRecOn with
 | _ n ih =>
  intro h w
  refine calls99 _ _ w ?_
  refine BoolK.mk (fun t => by simp at t; omega) (fun _ => BoolK.mk (fun t => ?_) (fun t => ?_))
  ·have h10 : n < 10 := by simp at t; omega
   refine AllocK.mk fun b w6 _ hb hx => ⟨_, _, run_byteString Tryz.underlying120 Tryz.underlying5 Tryz.underlying9 hb, ?_, hx⟩
   rw [wrap_id (by omega) (by omega), IntKind.wrap_u8', itoa_nat, decDigits_step, if_pos h10, bl_mk]
   have : ((48 + (n : Int)) % 256).toNat = 48 + n := by omega
   rw [this]
  ·have h10 : 10 ≤ n := by simp at t; omega
   have e1 : ((n : Int)).tdiv 10 = ((n / 10 : Nat) : Int) := rfl
   have e2 : ((n : Int)).tmod 10 = ((n % 10 : Nat) : Int) := rfl
   rw [e1, e2, wrap_id (x := ((n / 10 : Nat) : Int)) (by omega) (by omega)]
   refine ⟨by omega, (ih (n / 10) (by omega) (by omega) w).mono ?_⟩
   rintro en w3 ⟨s, rfl, hs, hx3⟩
   refine ⟨_, rfl, by omega, (ih (n % 10) (by omega) (by omega) w3).mono ?_⟩
   rintro en w6 ⟨s', rfl, hs', hx6⟩
   refine ⟨_, rfl, ?_, ?_, hx3.trans hx6⟩
   ·rw [i64max, ← bl_size, ← bl_size, hs, hs']
    have a1 := itoa_len (n := ((n / 10 : Nat) : Int)) ⟨by omega, by omega⟩
    have a2 := itoa_len (n := ((n % 10 : Nat) : Int)) ⟨by omega, by omega⟩
    omega
   ·rw [bl_append, hs, hs', itoa_nat, itoa_nat, itoa_nat]
    conv => rhs; rw [decDigits_step, if_neg (by omega)]
    rw [decDigits_step (n % 10), if_pos (by omega)]
theorem ctr99 (w : World) {n : Int} (h0 : -9223372036854775808 < n) (h1 : n ≤ 9223372036854775807) : Calls Tryz.prog 99 #[.int .i64 n] w fun en w' => ∃ s, en = .returned (.string s) ∧ (bl s = Lib.itoa n ∧ Ext w w') := by
 by_cases h : n < 0
 ·refine calls99 _ _ w ?_
  refine BoolK.mk (fun _ => ?_) (fun t => by simp at t; omega)
  have e : ((-n).toNat : Int) = -n := by omega
  rw [wrap_id (by omega) (by omega), show (0 - n : Int) = ((-n).toNat : Int) by omega]
  refine (decimal_nat (-n).toNat (by omega) w).mono ?_
  rintro en w3 ⟨s, rfl, hs, hx⟩
  refine ⟨_, rfl, ?_, ?_, hx⟩
  ·have := itoa_len (n := (((-n).toNat : Nat) : Int)) ⟨by omega, by omega⟩
   rw [i64max, ← bl_size, ← bl_size, hs]
   show ((1 + _ : Nat) : Int) ≤ _; omega
  ·rw [bl_append, hs, itoa_neg h, e]; rfl
 ·have := decimal_nat n.toNat (by omega) w
  rwa [show ((n.toNat : Nat) : Int) = n by omega] at this
section
variable {w : World}
theorem ctr67 (x : Nd) {a4 a5 a6 : Option Addr} {l4 l5 l6 : Nat} (c4 c5 c6 : Nat) {cl : List Int} (hks : RL 1 RInt w a5 l5 x.ks) (hcl : Ints w a6 l6 cl) (hin : ∀ k ∈ x.ks, 0 ≤ k ∧ k < cl.length) :
  Calls Tryz.prog 67 #[.agg #[.string x.kd, .int .i64 x.n, .string x.tx, .slice a4 l4 c4, .slice a5 l5 c5], .slice a6 l6 c6] w fun en w' => ∃ p, en = .returned (.bool p) ∧ ((p = true ↔ ∀ k ∈ x.ks, ga cl k.toNat ≠ 0) ∧ Ext w w') := by
 refine calls67 _ _ _ _ _ _ _ _ _ _ _ _ _ w ?_
 have e5 := hks.len; have m5 := hks.2; have e6 := hcl.1
 simp only [maxLen] at m5
 refine AllocK.mk fun b w8 hb hB x8 => ?_
 refine ⟨fun i w' => ∃ k : Nat, i = k ∧ k ≤ x.ks.length ∧ w' = w8 ∧ ∀ (i : Nat) (f : Int), i < k → x.ks[i]? = some f → ga cl f.toNat ≠ 0, fun i _ => x.ks.length - i.toNat, ⟨⟨0, rfl, by omega, rfl, fun i f hi => by omega⟩, trivial⟩, ?_⟩
 rintro w11 _ ⟨k, rfl, hk, rfl, hall⟩
 obtain ⟨_, _, _, _, g4⟩ := blkAt5 hB (Ext.refl w11)
 refine ⟨_, _, _, g4, BoolK.mk (fun t => ?_) (fun t => ?_)⟩
 ·have hlt : k < x.ks.length := by have := of_decide_eq_true t; omega
  obtain ⟨b1, ha, q0⟩ := ksAt hks x8 hlt
  have hk2 := hin _ (List.getElem_mem hlt)
  have hlt3 : x.ks[k].toNat < cl.length := by omega
  obtain ⟨b2, o2, ha2, r1⟩ := (hcl.ext RInt.mono x8).get hlt3
  refine ⟨_, _, _, g4, ⟨by omega, by omega⟩, adK ha ⟨_, q0, ⟨by omega, by omega⟩, adK ha2 ⟨cl[x.ks[k].toNat], by rw [add_mk]; simpa [RInt] using r1, BoolK.mk (fun t1 => ⟨not_iff_false fun h => ?_, x8⟩) (fun t1 => ?_)⟩⟩⟩
  ·have := h _ (List.getElem_mem hlt)
   rw [ga_get hlt3] at this
   exact this (eq_of_beq t1)
  ·rw [wrap_succ (by omega)]
   refine ⟨⟨k + 1, rfl, by omega, rfl, fun i f hi hf => ?_⟩, by simp; omega⟩
   rcases Nat.lt_or_ge i k with h | h
   ·exact hall i f h hf
   ·have : i = k := by omega
    subst this
    rw [List.getElem?_eq_getElem hlt] at hf; cases hf
    rw [ga_get hlt3]
    exact fun e => by rw [e] at t1; simp at t1
 ·have : k = x.ks.length := by have := of_decide_eq_false t; omega
  subst this
  refine ⟨⟨fun _ f hf => ?_, fun _ => rfl⟩, x8⟩
  obtain ⟨i, hi⟩ := List.getElem?_of_mem hf
  exact hall i f (List.getElem?_eq_some_iff.1 hi).1 hi
end
structure DOk (x : Nd) : Prop where
 hd : HdOk x
 n : -9223372036854775808 < x.n
 fs : ∀ f ∈ x.fs, -9223372036854775808 < f.1
 ks : x.ks.length = x.fs.length
theorem partsD_snoc : ∀ {fs : List Ft} {cs : List Int} {f : Ft} {c : Int}, fs.length = cs.length → partsD (fs ++ [f]) (cs ++ [c]) = partsD fs cs ++ (Lib.itoa f.1 ++ (0 :: (bl f.2 ++ (0 :: (Lib.itoa c ++ [0])))))
 | [], [], f, c, _ => by simp [partsD]
 | g :: fs, d :: cs, f, c, h => by
  simp only [List.cons_append, partsD]
  rw [partsD_snoc (by simpa using h)]
  simp
 | [], _ :: _, _, _, h => by simp at h
 | _ :: _, [], _, _, h => by simp at h
set_option maxRecDepth 100000 in
theorem ctr68 (w : World) (x : Nd) {a4 a5 a6 : Option Addr} {l4 l5 l6 : Nat} (c4 c5 c6 : Nat) {cl : List Int} (hx : DOk x) (hfs : RL 2 RFt w a4 l4 x.fs) (hks : RL 1 RInt w a5 l5 x.ks) (hcl : Ints w a6 l6 cl) (hin : ∀ k ∈ x.ks, 0 ≤ k ∧ k < cl.length) (hc0 : ∀ c ∈ cl, 0 ≤ c ∧ c ≤ 9223372036854775807) :
  Calls Tryz.prog 68 #[.agg #[.string x.kd, .int .i64 x.n, .string x.tx, .slice a4 l4 c4, .slice a5 l5 c5], .slice a6 l6 c6] w fun en w' => ∃ s, en = .returned (.string s) ∧ (bl s = keyD x (x.ks.map fun k => ga cl k.toNat) ∧ Ext w w') := by
 refine calls68 _ _ _ _ _ _ _ _ _ _ _ _ _ w ?_
 have e4 := hfs.len; have e5 := hks.len; have e6 := hcl.1; have m4 := hfs.2; have m5 := hks.2
 simp only [maxLen] at m4 m5
 obtain ⟨⟨hkd, hn, htx, hff, hfl⟩, hn0, hf0, hkl⟩ := hx
 have z1 : (⟨#[0]⟩ : ByteArray).size = 1 := rfl
 have b1 : bl (⟨#[0]⟩ : ByteArray) = [0] := rfl
 refine AllocK.mk fun b w8 hb hB x8 => DrewK.mk fun w9 x9 => ?_
 have y9 := x8.trans x9
 obtain ⟨g0, g1, g2, g3, g4⟩ := blkAt5 hB x9
 have ht2 := htx.2
 refine ⟨_, g0, by rw [i64max, z1]; omega, _, g1, _, g2, (ctr99 w9 hn0 hn.2).mono ?_⟩
 rintro en w14 ⟨s13, rfl, hs13, x14⟩
 have y14 := y9.trans x14
 have z13 : s13.size ≤ 21 := by rw [← bl_size, hs13]; exact itoa_len hn
 refine ⟨_, rfl, Below.cel x14, by rw [i64max, sizeA, z1]; omega, by rw [i64max, sizeA, sizeA, z1]; omega, by rw [i64max, sizeA, sizeA, sizeA, z1]; omega, by rw [i64max, sizeA, sizeA, sizeA, sizeA, z1]; omega, ?_⟩
 generalize hpre : ((((x.kd ++ (⟨#[0]⟩ : ByteArray)) ++ s13) ++ (⟨#[0]⟩ : ByteArray)) ++ x.tx) ++ (⟨#[0]⟩ : ByteArray) = pre
 have hp1 : bl pre = headD x := by rw [← hpre]; simp only [bl_append, hs13, b1, headD]; simp
 have hp2 : pre.size ≤ 200 := by rw [← hpre]; simp only [sizeA, z1]; omega
 refine ⟨fun s i w' => ∃ k : Nat, i = k ∧ k ≤ x.ks.length ∧ Ext w9 w' ∧ bl s = headD x ++ partsD (x.fs.take k) ((x.ks.map fun k => ga cl k.toNat).take k) ∧ s.size ≤ 200 + 200 * k, fun _ i _ => x.ks.length - i.toNat, ⟨⟨0, rfl, by omega, x14, by simp [partsD, hp1], by omega⟩, trivial⟩, ?_⟩
 rintro w18 s _ ⟨k, rfl, hk, x18, hs, hz⟩
 obtain ⟨_, _, _, _, g4⟩ := blkAt5 hB (x9.trans x18)
 refine ⟨_, _, _, g4, BoolK.mk (fun t => ?_) (fun t => ?_)⟩
 ·have hlt : k < x.ks.length := by have := of_decide_eq_true t; omega
  have hltf : k < x.fs.length := by omega
  refine DrewK.mk fun w22 x22 => ?_
  have x22 := x18.trans x22
  have y22 := y9.trans x22
  obtain ⟨_, _, _, g3, g4⟩ := blkAt5 hB (x9.trans x22)
  obtain ⟨bf, ha, q0, q1, _⟩ := ftAt hfs y22 hltf
  obtain ⟨bk, hb2, r0⟩ := ksAt hks y22 hlt
  have hk2 := hin _ (List.getElem_mem hlt)
  have hlt3 : x.ks[k].toNat < cl.length := by omega
  obtain ⟨b3, o3, ha3, u1⟩ := (hcl.ext RInt.mono y22).get hlt3
  have hc := hc0 _ (List.getElem_mem hlt3)
  have hf := hff _ (List.getElem_mem hltf)
  have hfm := hf0 _ (List.getElem_mem hltf)
  have hft := hf.1.2
  have q0' : w22.cell? (bf.add (((k : Nat) : Int).toNat * 2)) = some (.int .i64 x.fs[k].1) := by
   obtain ⟨b', o', ha', h0', _⟩ := (hfs.1.ext RFt.mono y22).get hltf
   rw [ha] at ha'; cases ha'
   rw [Int.toNat_natCast, add_mk]; exact h0'
  refine ⟨_, _, _, g3, ⟨by omega, by omega⟩, adK ha ⟨_, q0', _, _, _, g3, ⟨by omega, by omega⟩, adK ha ⟨_, q1, _, _, _, g4, ⟨by omega, by omega⟩, adK hb2 ⟨_, r0, ⟨by omega, by omega⟩, adK ha3 ⟨cl[x.ks[k].toNat], by rw [add_mk]; simpa [RInt] using u1, ?_⟩⟩⟩⟩⟩
  refine (ctr99 w22 hfm hf.2.2).mono ?_
  rintro en w35 ⟨s34, rfl, hs34, x35⟩
  have z34 : s34.size ≤ 21 := by rw [← bl_size, hs34]; exact itoa_len hf.2
  refine ⟨_, rfl, Below.cel x35, by rw [i64max, z1]; omega, by rw [i64max, sizeA, z1]; omega, by rw [i64max, sizeA, sizeA, z1]; omega, (ctr99 w35 (n := cl[x.ks[k].toNat]) (by omega) hc.2).mono ?_⟩
  rintro en w38 ⟨s37, rfl, hs37, x38⟩
  have z37 : s37.size ≤ 21 := by rw [← bl_size, hs37]; exact itoa_len ⟨by omega, hc.2⟩
  refine ⟨_, rfl, Below.cel (x35.trans x38), by rw [i64max, sizeA, sizeA, sizeA, z1]; omega, by rw [i64max, sizeA, sizeA, sizeA, sizeA, z1]; omega, by rw [i64max, sizeA, sizeA, sizeA, sizeA, sizeA, z1]; omega, ?_⟩
  rw [wrap_succ (by omega)]
  refine ⟨⟨k + 1, rfl, by omega, (x22.trans x35).trans x38, ?_, ?_⟩, by simp; omega⟩
  ·rw [List.take_add_one, List.getElem?_eq_getElem hltf, List.take_add_one, List.getElem?_map, List.getElem?_eq_getElem hlt]
   simp only [Option.map_some, Option.toList_some]
   rw [partsD_snoc (by simp; omega), ga_get hlt3]
   simp only [bl_append, hs, hs34, hs37, b1]; simp
  ·simp only [sizeA, z1]; omega
 ·have : k = x.ks.length := by have := of_decide_eq_false t; omega
  subst this
  rw [List.take_of_length_le (by omega), List.take_of_length_le (by simp)] at hs
  exact ⟨hs, y9.trans x18⟩
end Go.Proofs.YtnmldggopnbclaaGreatDoor

namespace Go.Proofs.YtnmldggopnbclaaGreatDoor
open Go Go.V Go.Proofs
open Go.RowKit (Below)
/-! manystrand/manystrandref05.Classes -/
def N39 (a1 : Option Addr) (l1 : Nat) (_c1 : Nat) (K : Option Addr → Nat → Nat → World → Prop) (w : World) : Prop :=
 (0 ≤ (l1 : Int) ∧ (l1 : Int) ≤ l1 ∧ ((8 : Nat) : Int) * l1 ≤ 281474976710656 ∧ (l1 : Int) ≤ 9223372036854775807) ∧
 AllocK w (madeCells (#[.int .i64 0]) ((l1 : Int).toNat * 1)) 3 fun b2 w3 =>
 ∃ m4, ∃ w5, Sem.run Tryz.prog (Instr.makeMap 63 none) w3 = .ok (.map m4) w5 ∧
 (∃ (I6 : Bool → World → Prop) (μ7 : Bool → World → Nat),
 (I6 true w5 ∧ True) ∧
 ∀ w8 p9, I6 p9 w8 →
 BoolK p9
 (∃ (I10 : Bool → Int → World → Prop) (μ11 : Bool → Int → World → Nat),
 (I10 false (IntKind.wrap .i64 (l1 - 1)) w8 ∧ True) ∧
 ∀ w12 p13 x14, I10 p13 x14 w12 →
 BoolK (decide (x14 ≥ 0))
 ((0 ≤ x14 ∧ x14 < ((l1 : Int).toNat : Nat)) ∧
 ∃ x15, w12.cell? (b2.add (x14.toNat * 1)) = some (.int .i64 x15) ∧
 (BoolK (decide (x15 > 0))
 (I10 p13 (IntKind.wrap .i64 (x14 - 1)) w12 ∧ μ11 p13 (IntKind.wrap .i64 (x14 - 1)) w12 < μ11 p13 x14 w12)
 ((0 ≤ x14 ∧ x14 < l1) ∧
 AddrK a1 fun b16 =>
 ∃ s17, w12.cell? ((b16.add (x14.toNat * 5)).add 0) = some (.string s17) ∧
 (∃ x18, w12.cell? ((b16.add (x14.toNat * 5)).add 1) = some (.int .i64 x18) ∧
 (∃ s19, w12.cell? ((b16.add (x14.toNat * 5)).add 2) = some (.string s19) ∧
 (∃ a20 l20 c20, w12.cell? ((b16.add (x14.toNat * 5)).add 3) = some (.slice a20 l20 c20) ∧
 (∃ a21 l21 c21, w12.cell? ((b16.add (x14.toNat * 5)).add 4) = some (.slice a21 l21 c21) ∧
 (Calls Tryz.prog 67 #[(.agg #[(.string s17), (.int .i64 x18), (.string s19), (.slice a20 l20 c20), (.slice a21 l21 c21)]), (.slice (some b2) ((l1 : Int).toNat) ((l1 : Int).toNat))] w12 fun e24 w23 =>
 ∃ p22, e24 = .returned (.bool p22) ∧
 (BoolK (!p22)
 (I10 p13 (IntKind.wrap .i64 (x14 - 1)) w23 ∧ μ11 p13 (IntKind.wrap .i64 (x14 - 1)) w23 < μ11 p13 x14 w12)
 ((0 ≤ x14 ∧ x14 < l1) ∧
 AddrK a1 fun b25 =>
 ∃ s26, w23.cell? ((b25.add (x14.toNat * 5)).add 0) = some (.string s26) ∧
 (∃ x27, w23.cell? ((b25.add (x14.toNat * 5)).add 1) = some (.int .i64 x27) ∧
 (∃ s28, w23.cell? ((b25.add (x14.toNat * 5)).add 2) = some (.string s28) ∧
 (∃ a29 l29 c29, w23.cell? ((b25.add (x14.toNat * 5)).add 3) = some (.slice a29 l29 c29) ∧
 (∃ a30 l30 c30, w23.cell? ((b25.add (x14.toNat * 5)).add 4) = some (.slice a30 l30 c30) ∧
 (Calls Tryz.prog 68 #[(.agg #[(.string s26), (.int .i64 x27), (.string s28), (.slice a29 l29 c29), (.slice a30 l30 c30)]), (.slice (some b2) ((l1 : Int).toNat) ((l1 : Int).toNat))] w23 fun e33 w32 =>
 ∃ s31, e33 = .returned (.string s31) ∧
 (∃ x34, ∃ w35, Sem.run Tryz.prog (Instr.lookup 63 (.map m4) (.string s31) false) w32 = .ok (.int .i64 x34) w35 ∧
 (BoolK (x34 == 0)
 (∃ x36, ∃ w37, Sem.run Tryz.prog (Builtin.len_ #[63] 3 #[(.map m4)]) w35 = .ok (.int .i64 x36) w37 ∧
 (∃ w38, Sem.run Tryz.prog (Instr.mapUpdate 63 (.map m4) (.string s31) (.int .i64 (IntKind.wrap .i64 (x36 + 1)))) w37 = .ok () w38 ∧
 (∃ x39, ∃ w40, Sem.run Tryz.prog (Instr.lookup 63 (.map m4) (.string s31) false) w38 = .ok (.int .i64 x39) w40 ∧
 ((0 ≤ x14 ∧ x14 < ((l1 : Int).toNat : Nat)) ∧
 SetK w40 (b2.add (x14.toNat * 1)) (.int .i64 x39) fun w41 =>
 I10 true (IntKind.wrap .i64 (x14 - 1)) w41 ∧ μ11 true (IntKind.wrap .i64 (x14 - 1)) w41 < μ11 p13 x14 w12))))
 (∃ x42, ∃ w43, Sem.run Tryz.prog (Instr.lookup 63 (.map m4) (.string s31) false) w35 = .ok (.int .i64 x42) w43 ∧
 ((0 ≤ x14 ∧ x14 < ((l1 : Int).toNat : Nat)) ∧
 SetK w43 (b2.add (x14.toNat * 1)) (.int .i64 x42) fun w44 =>
 I10 true (IntKind.wrap .i64 (x14 - 1)) w44 ∧ μ11 true (IntKind.wrap .i64 (x14 - 1)) w44 < μ11 p13 x14 w12)))))))))))))))))))
 (I6 p13 w12 ∧ μ7 p13 w12 < μ7 p9 w8))
 (∃ x45, ∃ w46, Sem.run Tryz.prog (Builtin.len_ #[63] 3 #[(.map m4)]) w8 = .ok (.int .i64 x45) w46 ∧
 (∃ a47, ∃ l47, ∃ c47, ∃ w48, Sem.run Tryz.prog (Builtin.append_ #[37, 37] 37 #[(.slice none 0 0), (.slice (some b2) ((l1 : Int).toNat) ((l1 : Int).toNat))]) w46 = .ok (.slice a47 l47 c47) w48 ∧
 (∃ (I49 : Option Addr → Nat → Nat → Int → World → Prop) (μ50 : Option Addr → Nat → Nat → Int → World → Nat),
 (I49 (some b2) ((l1 : Int).toNat) ((l1 : Int).toNat) (-1) w48 ∧ True) ∧
 ∀ w51 a52 l52 c52 x53, I49 a52 l52 c52 x53 w51 →
 ∃ a54, ∃ l54, ∃ c54, ∃ w55, Sem.run Tryz.prog (Builtin.append_ #[37, 37] 37 #[(.slice none 0 0), (.slice a47 l47 c47)]) w51 = .ok (.slice a54 l54 c54) w55 ∧
 (∃ m56, ∃ w57, Sem.run Tryz.prog (Instr.makeMap 63 none) w55 = .ok (.map m56) w57 ∧
 (∃ (I58 : Int → World → Prop) (μ59 : Int → World → Nat),
 (I58 0 w57 ∧ True) ∧
 ∀ w60 x61, I58 x61 w60 →
 BoolK (decide (x61 < l1))
 ((0 ≤ x61 ∧ x61 < l47) ∧
 AddrK a47 fun b62 =>
 ∃ x63, w60.cell? (b62.add (x61.toNat * 1)) = some (.int .i64 x63) ∧
 (BoolK (decide (x63 > 0))
 (I58 (IntKind.wrap .i64 (x61 + 1)) w60 ∧ μ59 (IntKind.wrap .i64 (x61 + 1)) w60 < μ59 x61 w60)
 ((0 ≤ x61 ∧ x61 < l1) ∧
 AddrK a1 fun b64 =>
 ∃ s65, w60.cell? ((b64.add (x61.toNat * 5)).add 0) = some (.string s65) ∧
 (∃ x66, w60.cell? ((b64.add (x61.toNat * 5)).add 1) = some (.int .i64 x66) ∧
 (∃ s67, w60.cell? ((b64.add (x61.toNat * 5)).add 2) = some (.string s67) ∧
 (∃ a68 l68 c68, w60.cell? ((b64.add (x61.toNat * 5)).add 3) = some (.slice a68 l68 c68) ∧
 (∃ a69 l69 c69, w60.cell? ((b64.add (x61.toNat * 5)).add 4) = some (.slice a69 l69 c69) ∧
 (Calls Tryz.prog 68 #[(.agg #[(.string s65), (.int .i64 x66), (.string s67), (.slice a68 l68 c68), (.slice a69 l69 c69)]), (.slice a52 l52 c52)] w60 fun e72 w71 =>
 ∃ s70, e72 = .returned (.string s70) ∧
 (∃ (J73 : World → Prop),
 (∀ w74, J73 w74 →
 ∃ x75, ∃ w76, Sem.run Tryz.prog (Instr.lookup 63 (.map m56) (.string s70) false) w74 = .ok (.int .i64 x75) w76 ∧
 ((0 ≤ x61 ∧ x61 < l54) ∧
 AddrK a54 fun b77 =>
 SetK w76 (b77.add (x61.toNat * 1)) (.int .i64 (IntKind.wrap .i64 (x45 + x75))) fun w78 =>
 I58 (IntKind.wrap .i64 (x61 + 1)) w78 ∧ μ59 (IntKind.wrap .i64 (x61 + 1)) w78 < μ59 x61 w60)) ∧
 (∃ x79, ∃ w80, Sem.run Tryz.prog (Instr.lookup 63 (.map m56) (.string s70) false) w71 = .ok (.int .i64 x79) w80 ∧
 (BoolK (x79 == 0)
 (∃ x81, ∃ w82, Sem.run Tryz.prog (Builtin.len_ #[63] 3 #[(.map m56)]) w80 = .ok (.int .i64 x81) w82 ∧
 (∃ w83, Sem.run Tryz.prog (Instr.mapUpdate 63 (.map m56) (.string s70) (.int .i64 (IntKind.wrap .i64 (x81 + 1)))) w82 = .ok () w83 ∧
 (J73 w83)))
 (J73 w80))))))))))))
 (∃ x84, ∃ w85, Sem.run Tryz.prog (Builtin.len_ #[63] 3 #[(.map m56)]) w60 = .ok (.int .i64 x84) w85 ∧
 (BoolK (x84 == x53)
 (K a54 l54 c54 w85)
 (∃ x86, ∃ w87, Sem.run Tryz.prog (Builtin.len_ #[63] 3 #[(.map m56)]) w85 = .ok (.int .i64 x86) w87 ∧
 (I49 a54 l54 c54 x86 w87 ∧ μ50 a54 l54 c54 x86 w87 < μ50 a52 l52 c52 x53 w51))))))))))
def ann39 : Ann := (.two .nil (.two .nil (.two .nil (.two (.two .nil (.one (.loop [(5, (.one .bool))] [0, 3, 4] (.two (.two .nil (.two .nil .nil)) (.one (.two .nil (.two .nil (.one (.loop [(5, (.one .bool)), (6, (.one (.int .i64)))] [0, 3, 4] (.two (.two .nil (.two .nil .nil)) (.two (.one (.two (.two .nil (.two .nil .nil)) (.two .nil (.two (.two .nil (.two .nil .nil)) .nil)))) .nil))))))))))) (.two .nil (.two .nil (.two .nil (.one (.loop [(3, (.one .slice)), (10, (.one (.int .i64)))] [0, 8, 9] (.one (.two .nil (.two .nil (.two (.two .nil (.one (.loop [(13, (.one (.int .i64)))] [0, 3, 8, 9, 10, 11, 12] (.two (.two .nil (.two .nil .nil)) (.two (.one (.two (.two .nil (.two .nil .nil)) (.two .nil (.cut [] [0, 3, 8, 9, 10, 11, 12, 13, 14] (.two .nil (.two .nil .nil)) .nil)))) .nil))))) (.two (.two .nil (.two (.two .nil .nil) .nil)) .nil))))))))))))))
noncomputable def code39 : Code := match Tryz.f39.body with | some c => c | none => .skip
theorem calls39 (a1 : Option Addr) (l1 : Nat) (c1 : Nat) (K : Option Addr → Nat → Nat → World → Prop) (w : World) (h : N39 a1 l1 c1 K w) : Calls Tryz.prog 39 #[(.slice a1 l1 c1)] w fun en w' => ∃ (a88 : Option Addr), ∃ (l88 : Nat), ∃ (c88 : Nat), en = .returned (.slice a88 l88 c88) ∧ K a88 l88 c88 w' :=
 fn_calls tabOk mixed Tryz.func39 (by kernel_rfl : Tryz.f39.body = some code39) ann39 [(.slice a1 l1 c1)] [(.one .slice)] K w (by kernel_rfl) (by kernel_rfl) (by kernel_rfl) h
end Go.Proofs.YtnmldggopnbclaaGreatDoor
