/- A part of the proof: plain forms of functions and laws about them. -/
import Derived.Test.YtbiamhoonhjodadGreatDoorGropBa
import Derived.Lib.Join
namespace Go.Proofs.YtbiamhoonhjodadGreatDoor
open Go Go.V Go.Proofs Go.V.Gr
open Go.RowKit (Below)
theorem RNds.at {w w' : World} {a : Option Addr} {l : Nat} {xs : List Nd} (h : RNds w a l xs) (x : Ext w w') : RNds w' a l xs := RL.ext RNd.mono h x
def restOf (n : Nat) (ord : List Nat) : List Nat := (List.range n).filter fun i => decide (i ∉ ord)
theorem rest_nodup (n : Nat) (ord : List Nat) : (restOf n ord).Nodup := List.nodup_range.filter _
theorem rest_mem {n i : Nat} {ord : List Nat} : i ∈ restOf n ord ↔ i < n ∧ i ∉ ord := by simp [restOf]
theorem rest_len (n : Nat) (ord : List Nat) : (restOf n ord).length ≤ n := by
 have := List.length_filter_le (fun i => decide (i ∉ ord)) (List.range n)
 simpa [restOf] using this
theorem rest_succ (n : Nat) (ord : List Nat) : restOf (n + 1) ord = if n ∈ ord then restOf n ord else restOf n ord ++ [n] := by
 rw [restOf, List.range_succ, List.filter_append]
 split <;> rename_i h <;> simp [h, restOf]
set_option maxRecDepth 100000 in
theorem ctr15 (w : World) {a1 : Option Addr} {l1 : Nat} (c1 : Nat) {xs : List Nd} (h : RNds w a1 l1 xs) (hc : Closed xs) (hz : Sz xs) (hw : ∀ x ∈ xs, NdW x) (ht : Tb w) :
  Calls Tryz.prog 15 #[.slice a1 l1 c1] w fun en w' => ∃ a l c, en = .returned (.slice a l c) ∧
   (∃ cl : List Int, Cls xs cl ∧ (∀ v ∈ cl, 0 ≤ v ∧ v ≤ 2000000) ∧ OwnR w.heap.size 3 1 eI w' a l c cl ∧ Ext w w') := by
 refine calls15 _ _ _ _ w ?_
 have hn := hz.len
 obtain rfl : l1 = xs.length := h.len
 have hnw : ∀ {i : Nat} (hi : i < xs.length), NdW xs[i] := fun hi => hw _ (List.getElem_mem hi)
 simp only [N15, Int.toNat_natCast]
 refine ⟨⟨by omega, by omega, by omega, by omega⟩, RowR.make (x := (0 : Int)) (enc := eI) rfl (by simp only [maxLen]; omega) (fun _ => (none : Option Nat)) 0 fun b2 w3 r2 u2 x3 hb2 => ?_⟩
 refine ⟨⟨by omega, by omega, by omega, by omega⟩, RowR.make (x := (⟨#[]⟩ : ByteArray)) (enc := eSt) rfl (by simp only [maxLen]; omega) (setOwn (fun _ => none) (some b2) 0) 1 fun b4 w5 r4 u4 x5 hb4 => ?_⟩
 have ca5 : CA w w5 _ xs.length b2 b4 (List.replicate xs.length 0) (List.replicate xs.length ⟨#[]⟩) := ⟨((Mine.refl w).upd u2).upd u4, r2.upd u4 (by decide), r4⟩
 refine ⟨fun i w' => ∃ (k : Nat) (own : OwnM Nat) (hs : List ByteArray), i = k ∧ k ≤ xs.length ∧ CA w w' own xs.length b2 b4 (List.replicate xs.length 0) hs ∧ ∀ j, j < k → ∃ s, hs[j]? = some s ∧ bl s = headK (nd xs j) ∧ s.size ≤ 200000000, fun i _ => xs.length - i.toNat,
  ⟨⟨0, _, _, rfl, by omega, ca5, fun j hj => by omega⟩, trivial⟩, ?_⟩
 rintro w8 _ ⟨k, own, hs, rfl, hk, ca, hhs⟩
 refine BoolK.mk (fun t => ?_) (fun t => ?_)
 ·have hlt : k < xs.length := by have := of_decide_eq_true t; omega
  have y := ca.loc.below
  obtain ⟨b12, ha, h0, h1, h2, h3, h4, ⟨a3, l3, c3, h5, h6⟩, ⟨a4, l4, c4, h7, h8⟩, _⟩ := ndAt h y hlt
  refine ⟨⟨by omega, by omega⟩, adK ha ⟨_, h0, _, h1, _, h2, _, _, _, h5, _, _, _, h7, ?_⟩⟩
  refine local5 fun b16 w22 hb16 hB16 x22 => ?_
  refine ⟨_, by rw [add_mk, hB16.cell]; rfl, _, by rw [add_mk, hB16.cell]; rfl, _, by rw [add_mk, hB16.cell]; rfl, _, _, _, by rw [add_mk, hB16.cell]; rfl, _, _, _, by rw [add_mk, hB16.cell]; rfl, ?_⟩
  refine (ctr31 w22 xs[k] c3 c4 (hnw hlt).hd (h6.ext RFt.mono x22) (ht.ext (y.trans x22))).mono ?_
  rintro en w29 ⟨s28, rfl, ⟨hs28, hz28⟩, x29⟩
  refine ⟨_, rfl, ⟨by omega, by omega⟩, ?_⟩
  refine ((ca.ext x22).ext x29).set_hs hlt s28 fun w31 ca31 => ?_
  rw [wrap_succ (by omega)]
  refine ⟨⟨k + 1, _, _, rfl, by omega, ca31, fun j hj => ?_⟩, by simp; omega⟩
  have hfl := (hnw hlt).hd.len
  rw [List.getElem?_set]
  by_cases e : k = j
  ·subst e
   exact ⟨s28, by rw [if_pos rfl, if_pos (by rw [ca.hsl]; exact hlt)], by rw [nd_get hlt]; exact hs28, by omega⟩
  ·rw [if_neg e]; exact hhs j (by omega)
 have hk2 : k = xs.length := by have := of_decide_eq_false t; omega
 subst hk2
 refine (ctr24 w8 c1 (RNds.at h ca.loc.below) hc hz).mono ?_
 rintro en w34 ⟨a32, l32, c32, a33, l33, c33, rfl, ord, ⟨ho, hnd⟩, hl, hf, x34⟩
 have hol : ord.length ≤ xs.length := by
  have := len_le_of_sub _ (List.range xs.length) hnd fun x hx => List.mem_range.2 (ho.lt x hx)
  simpa using this
 have fl34 : FRow own 3 eI w34 (a32, l32, c32) (zs ord) := FRow.of hl ca.loc.top
 have ff34 : FRow own 4 eB1 w34 (a33, l33, c33) ((List.range xs.length).map fun i => decide (i ∈ ord)) := FRow.of hf ca.loc.top
 have hl32 : l32 = ord.length := by have := hl.1; rw [zs_len] at this; exact this
 have hl33 : l33 = xs.length := by have := hf.1; simpa using this
 have ca34 := ca.ext x34
 refine ⟨_, _, _, _, _, _, rfl, ?_⟩
 obtain ⟨w37, bm, q37, mx37, u37, x37⟩ := Mx.new (P := Tryz.prog) (t := 63) eStr w34 0 own 2
 refine ⟨some bm, w37, q37, Bx.new (setOwn own (some bm) 2) 3 fun b38 w39 bx39 u39 x39 hb38 => bx39.set (by simp) fun w40 bx40 u40 => ?_⟩
 have ca40 := ((ca34.upd u37 (by decide)).upd u39 (by decide)).upd u40 (by decide)
 have fl40 := ((fl34.upd u37).upd u39).upd u40
 have ff40 := ((ff34.upd u37).upd u39).upd u40
 have mx40 := (mx37.upd u39 (by decide)).upd u40 (by decide)
 have bx40' : Bx (setOwn (setOwn own (some bm) 2) (some b38) 3) 3 w40 b38 #[.map (some bm)] 63 := by simpa using bx40
 have one : ∀ c ∈ (List.replicate xs.length (0 : Int)), 0 ≤ c ∧ c ≤ 1000000 := fun c hc => by rw [List.eq_of_mem_replicate hc]; omega
 refine ⟨fun i w' => ∃ (p : Nat) (own : OwnM Nat) (cl : List Int) (T : List ByteArray), i = p ∧ p ≤ ord.length ∧ CA w w' own xs.length b2 b4 cl hs ∧ FRow own 3 eI w' (a32, l32, c32) (zs ord) ∧ FRow own 4 eB1 w' (a33, l33, c33) ((List.range xs.length).map fun i => decide (i ∈ ord)) ∧
   Mx own 2 eStr w' bm T 0 ∧ Bx own 3 w' b38 #[.map (some bm)] 63 ∧ Numd T (keyF xs (ga cl)) (ga cl) 0 (ord.take p) ∧ T.length ≤ p ∧ ∀ c ∈ cl, 0 ≤ c ∧ c ≤ 1000000, fun i _ => ord.length - i.toNat,
  ⟨⟨0, _, _, _, rfl, by omega, ca40, fl40, ff40, mx40, bx40', fun i hi => by simp at hi, by simp, one⟩, trivial⟩, ?_⟩
 clear ca40 fl40 ff40 mx40 bx40' bx40 u40 u39 u37 x37 x39 mx37 bx39 q37 ca34 fl34 ff34 ca5 r2 r4 u2 u4 x3 x5 ca t one
 rintro w43 _ ⟨p, own, cl, T, rfl, hp, ca, fl, ff, mx, bx, hnum, hTl, hcb⟩
 refine BoolK.mk (fun t => ?_) (fun t => ?_)
 ·have hlt : p < ord.length := by have := of_decide_eq_true t; omega
  obtain ⟨g, e1, e2⟩ := fl.at_ eI_len (i := p) (by rw [zs_len]; exact hlt)
  have e3 : (eI ((zs ord)[p]'(by rw [zs_len]; exact hlt)))[0]? = some (.int .i64 ((ord[p] : Nat) : Int)) := by simp [eI, zs]
  refine ⟨⟨by omega, by omega⟩, adK e1 ⟨_, e2.trans e3, DrewK.mk fun w47 x47 => ?_⟩⟩
  have hx : ord[p]? = some ord[p] := List.getElem?_eq_getElem hlt
  have hxl := ho.lt _ (List.getElem_mem hlt)
  generalize ord[p] = x at hx hxl e3
  have ca := ca.ext x47
  have y := ca.loc.below
  obtain ⟨s48, hs1, hs2, hs3⟩ := hhs x hxl
  have g48 := ca.get_hs hxl
  rw [List.getElem?_eq_getElem (by rw [ca.hsl]; exact hxl)] at hs1
  rw [Option.some.inj hs1] at g48
  obtain ⟨b12, ha, _, _, _, _, _, _, ⟨a4, l4, c4, h7, h8⟩, _⟩ := ndAt h y hxl
  refine ⟨⟨by omega, by omega⟩, s48, g48, ⟨by omega, by omega⟩, adK ha ⟨_, _, _, h7, ?_⟩⟩
  have hks := hz.ks _ (List.getElem_mem hxl)
  refine (ctr33 w47 s48 c4 xs.length (by omega) h8 (by omega) (OwnR.ints ca.cl.1) (fun k hk => by rw [ca.cll]; exact hc _ (List.getElem_mem hxl) k hk) (fun c hc => by have := hcb c hc; omega) (ht.ext y)).mono ?_
  rintro en w52 ⟨s51, rfl, hs51, x52⟩
  rw [ints_kc hxl, hs2] at hs51
  have hsz : s51.size ≤ 300000000 := by
   have h1 := bl_size s48
   have h2 := kidsK_len (cs := kc xs (ga cl) x) (fun c hc => by
    obtain ⟨k, _, rfl⟩ := List.mem_map.1 hc
    have := ga_mem (P := fun c => 0 ≤ c ∧ c ≤ 1000000) ⟨by omega, by omega⟩ hcb k
    exact ⟨by omega, by omega⟩)
   rw [kc_len, nd_get hxl] at h2
   rw [← bl_size, hs51, List.length_append, ← hs2]; omega
  have sz1 : ∀ (p q : ByteArray), (p ++ q).size = p.size + q.size := fun p q => by rw [← bl_size, ← bl_size, ← bl_size, bl_append, List.length_append]
  have ca := ca.ext x52
  have mx := (mx.ext x47).ext x52
  have bx := (bx.ext x47).ext x52
  refine ⟨_, rfl, by rw [i64max]; show ((2 + s51.size : Nat) : Int) ≤ _; omega, Tryz.call32, ?_⟩
  refine (ctr32 mx bx ((⟨#[102, 32]⟩ : ByteArray) ++ s51)).mono ?_
  rintro en w55 ⟨_, rfl, v, T', rfl, hv, hT, mx', u55⟩
  refine ⟨_, rfl, ⟨by omega, by omega⟩, ?_⟩
  refine (ca.upd u55 (by decide)).set_cl hxl _ fun w57 ca57 u57 => ?_
  have hbl : bl ((⟨#[102, 32]⟩ : ByteArray) ++ s51) = keyF xs (ga cl) x := by
   rw [bl_append, hs51, keyF]
   show [102, 32] ++ (_ ++ _) = _
   rfl
  have hnum' : Numd T' (keyF xs (ga cl)) (ga cl) 0 (ord.take p) := by
   rcases hT with rfl | ⟨rfl, _⟩
   ·exact hnum
   ·exact hnum.grow _
  have hTl' : T'.length ≤ p + 1 := by
   rcases hT with rfl | ⟨rfl, _⟩
   ·omega
   ·simp; omega
  have hvl := (List.getElem?_eq_some_iff.1 hv).1
  rw [wrap_succ (by omega)]
  refine ⟨⟨p + 1, _, _, T', rfl, by omega, ca57, (((fl.ext x47).ext x52).upd u55).upd u57, (((ff.ext x47).ext x52).upd u55).upd u57, mx'.upd u57 (by decide), (bx.upd u55 (by decide)).upd u57 (by decide),
   hnum'.flat ho hnd hx (by rw [ca.cll]; exact hxl) hv hbl, hTl', fun c hc => ?_⟩, by simp; omega⟩
  rcases List.mem_or_eq_of_mem_set hc with hc | rfl
  ·exact hcb c hc
  ·omega
 have hp2 : p = ord.length := by have := of_decide_eq_false t; omega
 subst hp2
 rw [List.take_length] at hnum
 have hflat := hnum.right mx.num.nodup ho fun x hx => (hw x hx).key.kd
 have hlow : ∀ i ∈ ord, 0 ≤ ga cl i ∧ ga cl i < T.length := fun i hi => by
  obtain ⟨q, s, e1, e2, _⟩ := hnum i hi
  have := (List.getElem?_eq_some_iff.1 e2).1
  omega
 refine ⟨some bm, by rw [bx.blk.cell]; rfl, _, _, mx.num.len mtS _, ?_⟩
 refine ⟨fun a l c i w' => ∃ (k : Nat) (own : OwnM Nat), i = k ∧ k ≤ xs.length ∧ CA w w' own xs.length b2 b4 cl hs ∧ FRow own 4 eB1 w' (a33, l33, c33) ((List.range xs.length).map fun i => decide (i ∈ ord)) ∧ RowR own 6 3 1 eI w' (a, l, c) (zs (restOf k ord)), fun _ _ _ i _ => xs.length - i.toNat,
  ⟨⟨0, _, rfl, by omega, ca, ff, RowR.nil _ _ _ _ _ _⟩, trivial⟩, ?_⟩
 rintro w63 a64 l64 c64 _ ⟨k, own2, rfl, hk, ca, ff, rr⟩
 refine BoolK.mk (fun t => ?_) (fun t => ?_)
 ·have hlt : k < xs.length := by have := of_decide_eq_true t; omega
  obtain ⟨g, e1, e2⟩ := ff.at_ eB1_len (i := k) (by simpa using hlt)
  have e3 : (eB1 (((List.range xs.length).map fun i => decide (i ∈ ord))[k]'(by simpa using hlt)))[0]? = some (.bool (decide (k ∈ ord))) := by simp [eB1]
  refine ⟨⟨by omega, by omega⟩, adK e1 ⟨_, e2.trans e3, ?_⟩⟩
  have hrl := rest_len k ord
  refine BoolK.mk (fun t1 => ?_) (fun t1 => ?_)
  ·have t1 : k ∉ ord := by simpa using t1
   refine RowR.push ((k : Nat) : Int) sltI rr eI_len eI_one (by rw [zs_len]; omega) rfl fun s' w71 h1 u71 => ?_
   rw [wrap_succ (by omega)]
   refine ⟨⟨k + 1, _, rfl, by omega, ca.upd u71 (by decide), ff.upd u71, ?_⟩, by simp; omega⟩
   rw [rest_succ, if_neg t1, zs_snoc]; exact h1
  ·have t1 : k ∈ ord := by simpa using t1
   rw [wrap_succ (by omega)]
   refine ⟨⟨k + 1, _, rfl, by omega, ca, ff, ?_⟩, by simp; omega⟩
   rw [rest_succ, if_pos t1]; exact rr
 have hk2 : k = xs.length := by have := of_decide_eq_false t; omega
 subst hk2
 have hTb : T.length ≤ 1000000 := by omega
 have hll : l64 = (restOf xs.length ord).length := by have := rr.len; rw [zs_len] at this; exact this
 have hrl := rest_len xs.length ord
 have hrn := rest_nodup xs.length ord
 have hrm : ∀ {i : Nat}, i ∈ restOf xs.length ord ↔ i < xs.length ∧ i ∉ ord := rest_mem
 clear fl ff mx bx
 generalize hR : restOf xs.length ord = R at rr hll hrl hrn hrm
 generalize hB : T.length = base at hlow hTb
 have ri0 : RInv xs ord base 0 (ga cl) := ⟨hflat, hlow, .inl rfl⟩
 have cb0 : ∀ c ∈ cl, 0 ≤ c ∧ c ≤ 2000000 := fun c hc => by have := hcb c hc; omega
 refine ⟨fun x w' => ∃ (cnt : Nat) (own : OwnM Nat) (cl : List Int), x = cnt ∧ CA w w' own xs.length b2 b4 cl hs ∧ RowR own 6 3 1 eI w' (a64, l64, c64) (zs R) ∧ RInv xs ord base cnt (ga cl) ∧ (∀ c ∈ cl, 0 ≤ c ∧ c ≤ 2000000) ∧ cnt ≤ R.length, fun x _ => R.length - x.toNat,
  ⟨⟨0, _, _, rfl, ca, rr, ri0, cb0, by omega⟩, trivial⟩, ?_⟩
 clear ca rr ri0 cb0 hcb hlow hflat hnum ff
 rintro w74 _ ⟨cnt, own, cl, rfl, ca, rr, ri, hcb, hcR⟩
 obtain ⟨w77, bm2, q77, mx77, u77, x77⟩ := Mx.new (P := Tryz.prog) (t := 63) eStr w74 (base : Int) own 7
 have ca77 := ca.upd u77 (by decide)
 have rr77 := rr.upd u77 (by decide)
 refine ⟨some bm2, w77, q77, ⟨by omega, by omega, by omega, by omega⟩, RowR.make (x := (0 : Int)) (enc := eI) rfl (by simp only [maxLen]; omega) (setOwn own (some bm2) 7) 8 fun b78 w79 r79 u79 x79 hb78 => ?_⟩
 have r79' : RowR (setOwn (setOwn own (some bm2) 7) (some b78) 8) 8 3 1 eI w79 (some ⟨b78, 0, none⟩, l64, l64) (List.replicate R.length 0) := by rw [← hll]; exact r79
 refine ⟨fun x w' => ∃ (j : Nat) (own : OwnM Nat) (N : List ByteArray) (fr : List Int), x = j ∧ j ≤ R.length ∧ CA w w' own xs.length b2 b4 cl hs ∧ RowR own 6 3 1 eI w' (a64, l64, c64) (zs R) ∧ Mx own 7 eStr w' bm2 N (base : Int) ∧ RowR own 8 3 1 eI w' (some ⟨b78, 0, none⟩, l64, l64) fr ∧
   fr.length = R.length ∧ NumR N (keyN xs (ga cl) cnt) R fr base j, fun x _ => R.length - x.toNat,
  ⟨⟨0, _, [], _, rfl, by omega, ca77.upd u79 (by decide), rr77.upd u79 (by decide), mx77.upd u79 (by decide), r79', by simp, ⟨fun a ha => by omega, fun q hq => by simp at hq, by simp⟩⟩, trivial⟩, ?_⟩
 clear ca77 rr77 mx77 r79 r79' u79 u77 x77 x79 q77 ca rr
 rintro w82 _ ⟨j, own, N, fr, rfl, hj, ca, rr, mx, fw, hfrl, hN⟩
 refine BoolK.mk (fun t => ?_) (fun t => ?_)
 ·have hlt : j < R.length := by have := of_decide_eq_true t; omega
  obtain ⟨b84, e1, e2⟩ := row_get rr hlt
  have hxm := hrm.1 (List.getElem_mem hlt)
  have hxl := hxm.1
  have hRj : R[j]?.getD 0 = R[j] := by rw [List.getElem?_eq_getElem hlt]; rfl
  refine ⟨⟨by omega, by omega⟩, adK e1 ⟨_, e2, ⟨by omega, by omega⟩, _, ca.get_cl hxl, ?_⟩⟩
  generalize R[j] = x at hRj hxl hxm
  have hcx := ga_mem (P := fun c => 0 ≤ c ∧ c ≤ 2000000) ⟨by omega, by omega⟩ hcb x
  have hi64 : i64 (ga cl x) := ⟨by omega, by omega⟩
  have y := ca.loc.below
  refine (ctr27 w82 hi64 (ht.ext y)).mono ?_
  rintro en w88 ⟨s87, rfl, hs87, x88⟩
  have z87 : s87.size ≤ 21 := by rw [← bl_size, hs87]; exact itoa_len hi64
  have sz1 : ∀ (p q : ByteArray), (p ++ q).size = p.size + q.size := fun p q => by rw [← bl_size, ← bl_size, ← bl_size, bl_append, List.length_append]
  refine ⟨_, rfl, by rw [i64max]; show ((s87.size + 1 : Nat) : Int) ≤ _; omega, ?_⟩
  refine ⟨fun s' w' => bl s' = keyN xs (ga cl) cnt x ∧ CA w w' own xs.length b2 b4 cl hs ∧ RowR own 6 3 1 eI w' (a64, l64, c64) (zs R) ∧ Mx own 7 eStr w' bm2 N (base : Int) ∧ RowR own 8 3 1 eI w' (some ⟨b78, 0, none⟩, l64, l64) fr, ?_, ?_⟩
  ·rintro w91 s92 ⟨hs92, ca, rr, mx, fw⟩
   obtain ⟨v, ok, q1, q2⟩ := mx.num.look2 (P := Tryz.prog) mtS s92
   refine ⟨_, _, _, q1, ?_⟩
   have hNl := hN.len
   rcases q2 with ⟨i, f1, rfl, rfl⟩ | ⟨hnin, rfl, rfl⟩
   ·refine BoolK.mk (fun t => by cases t) (fun _ => ⟨⟨by omega, by omega⟩, ?_⟩)
    refine RowR.seti fw (by omega) _ fun w100 f100 u100 => ?_
    rw [wrap_succ (by omega)]
    refine ⟨⟨j + 1, own, N, _, rfl, by omega, ca.upd u100 (by decide), rr.upd u100 (by decide), mx.upd u100 (by decide), f100, by simpa using hfrl, ?_⟩, by simp; omega⟩
    have := hN.put (v := i) (s := s92) (by omega) (.inl rfl) f1 (by rw [hRj]; exact hs92)
    rw [Int.natCast_add] at this; exact this
   ·refine BoolK.mk (fun _ => ?_) (fun t => by cases t)
    have eb : IntKind.wrap .i64 ((base : Int) + ((N.length : Nat) : Int)) = (base : Int) + ((N.length : Nat) : Int) := wrap_id (by omega) (by omega)
    refine ⟨_, _, mx.num.len mtS _, ?_⟩
    rw [eb]
    obtain ⟨w98, r1, r2, r3⟩ := mx.add (P := Tryz.prog) mtS (a := s92) (v := (base : Int) + (N.length : Nat)) rfl hnin
    refine ⟨w98, r1, ⟨by omega, by omega⟩, ?_⟩
    refine RowR.seti (fw.upd r3 (by decide)) (by omega) _ fun w99 f99 u99 => ?_
    rw [wrap_succ (by omega)]
    refine ⟨⟨j + 1, own, _, _, rfl, by omega, (ca.upd r3 (by decide)).upd u99 (by decide), (rr.upd r3 (by decide)).upd u99 (by decide), r2.upd u99 (by decide), f99, by simpa using hfrl, ?_⟩, by simp; omega⟩
    have := hN.put (v := N.length) (T' := N ++ [s92]) (s := s92) (by omega) (.inr ⟨rfl, rfl⟩) (by simp) (by rw [hRj]; exact hs92)
    rw [Int.natCast_add] at this; exact this
  ·have ca8 := ca.ext x88
   have y8 := ca8.loc.below
   refine BoolK.mk (fun t1 => ?_) (fun t1 => ?_)
   ·have t1 : cnt = 0 := by have := eq_of_beq t1; omega
    obtain ⟨s48, hs1, hs2, hs3⟩ := hhs x hxl
    have g48 := ca8.get_hs hxl
    rw [List.getElem?_eq_getElem (by rw [ca8.hsl]; exact hxl)] at hs1
    rw [Option.some.inj hs1] at g48
    exact ⟨⟨by omega, by omega⟩, s48, g48, by rw [keyN, if_pos t1]; exact hs2, ca8, rr.ext x88, mx.ext x88, fw.ext x88⟩
   ·have t1 : cnt ≠ 0 := by
     rw [beq_eq_false_iff_ne] at t1; omega
    obtain ⟨b12, ha, _, _, _, _, _, _, ⟨a4, l4, c4, h7, h8⟩, _⟩ := ndAt h y8 hxl
    have hks := hz.ks _ (List.getElem_mem hxl)
    refine ⟨⟨by omega, by omega⟩, adK ha ⟨_, _, _, h7, ?_⟩⟩
    rw [← hll] at *
    refine (ctr33 w88 (s87 ++ (⟨#[32]⟩ : ByteArray)) c4 xs.length (by rw [sz1]; show s87.size + 1 ≤ _; omega) h8 (by omega) (OwnR.ints ca8.cl.1) (fun k hk => by rw [ca8.cll]; exact hc _ (List.getElem_mem hxl) k hk) (fun c hc => by have := hcb c hc; omega) (ht.ext y8)).mono ?_
    rintro en w105 ⟨s104, rfl, hs104, x105⟩
    rw [ints_kc hxl, bl_append, hs87] at hs104
    refine ⟨_, rfl, ?_, ca8.ext x105, (rr.ext x88).ext x105, (mx.ext x88).ext x105, (fw.ext x88).ext x105⟩
    rw [keyN, if_neg t1, hs104, keyR]
    show (_ ++ [32]) ++ _ = _
    simp
 have hj2 : j = R.length := by have := of_decide_eq_false t; omega
 subst hj2
 refine ⟨fun x w' => ∃ (j : Nat) (own : OwnM Nat) (cl' : List Int), x = j ∧ j ≤ R.length ∧ CA w w' own xs.length b2 b4 cl' hs ∧ RowR own 6 3 1 eI w' (a64, l64, c64) (zs R) ∧ Mx own 7 eStr w' bm2 N (base : Int) ∧ RowR own 8 3 1 eI w' (some ⟨b78, 0, none⟩, l64, l64) fr ∧
   (∀ a, a < j → ∀ i, R[a]? = some i → ga cl' i = ga fr a) ∧ (∀ i, (∀ a, a < j → R[a]? ≠ some i) → ga cl' i = ga cl i) ∧ ∀ c ∈ cl', 0 ≤ c ∧ c ≤ 2000000, fun x _ => R.length - x.toNat,
  ⟨⟨0, own, cl, rfl, by omega, ca, rr, mx, fw, fun a ha => by omega, fun i _ => rfl, hcb⟩, trivial⟩, ?_⟩
 clear ca rr fw t
 have hNn := mx.num.nodup
 clear mx
 rintro w109 _ ⟨j, own, cl', rfl, hj, ca, rr, mx, fw, hA, hA2, hcb'⟩
 refine BoolK.mk (fun t => ?_) (fun t => ?_)
 ·have hlt : j < R.length := by have := of_decide_eq_true t; omega
  obtain ⟨b84, e1, e2⟩ := row_get rr hlt
  have hxm := hrm.1 (List.getElem_mem hlt)
  have hRj : R[j]? = some R[j] := List.getElem?_eq_getElem hlt
  refine ⟨⟨by omega, by omega⟩, adK e1 ⟨_, e2, ⟨by omega, by omega⟩, _, RowR.geti fw (by omega), ⟨by omega, by omega⟩, ?_⟩⟩
  refine ca.set_cl hxm.1 _ fun w114 ca114 u114 => ?_
  rw [wrap_succ (by omega)]
  obtain ⟨q, s, g1, g2, _⟩ := hN.num j hlt
  have hq := (List.getElem?_eq_some_iff.1 g2).1
  have hNl := hN.len
  refine ⟨⟨j + 1, own, _, rfl, by omega, ca114, rr.upd u114 (by decide), mx.upd u114 (by decide), fw.upd u114 (by decide), fun a ha i hi => ?_, fun i hi => ?_, fun c hc => ?_⟩, by simp; omega⟩
  ·rw [ga_set (by rw [ca.cll]; exact hxm.1)]
   by_cases e : a = j
   ·subst e; rw [hRj] at hi; cases hi; rw [if_pos rfl]
   ·rw [if_neg, hA a (by omega) i hi]
    rintro rfl
    exact e (nodup_idx hrn hi hRj)
  ·rw [ga_set (by rw [ca.cll]; exact hxm.1), if_neg, hA2 i fun a ha => hi a (by omega)]
   rintro rfl
   exact hi j (by omega) hRj
  ·rcases List.mem_or_eq_of_mem_set hc with hc | rfl
   ·exact hcb' c hc
   ·rw [g1]; omega
 have hj2 : j = R.length := by have := of_decide_eq_false t; omega
 subst hj2
 have num : ∀ i, i < xs.length → i ∉ ord → ∃ (q : Nat) (s : ByteArray), ga cl' i = base + q ∧ N[q]? = some s ∧ bl s = keyN xs (ga cl) cnt i := fun i hi ni => by
  obtain ⟨a, ha⟩ := List.getElem?_of_mem (hrm.2 ⟨hi, ni⟩)
  have hal := (List.getElem?_eq_some_iff.1 ha).1
  obtain ⟨q, s, g1, g2, g3⟩ := hN.num a hal
  rw [ha] at g3
  exact ⟨q, s, by rw [hA a hal i ha]; exact g1, g2, g3⟩
 have hit : ∀ q, q < N.length → ∃ i, i < xs.length ∧ i ∉ ord ∧ ga cl' i = base + (q : Nat) := fun q hq => by
  obtain ⟨a, ha, e⟩ := hN.hit q hq
  have hm := hrm.1 (List.getElem_mem ha)
  exact ⟨R[a], hm.1, hm.2, by rw [hA a ha _ (List.getElem?_eq_getElem ha)]; exact e⟩
 have hfl : ∀ i ∈ ord, ga cl' i = ga cl i := fun i hi => hA2 i fun a ha e => (hrm.1 (List.mem_of_getElem? e)).2 hi
 obtain ⟨done, go⟩ := ri.round ho hc (fun x hx => (hw x hx).key) hNn hfl num hit
 refine ⟨_, _, mx.num.len mtS _, ?_⟩
 have hNl := hN.len
 refine BoolK.mk (fun t1 => ?_) (fun t1 => ?_)
 ·have t1 : N.length = cnt := by have := eq_of_beq t1; omega
  exact ⟨cl', ⟨ca.cll, fun i j hi hj => done t1 i j hi hj⟩, hcb', Mine.own ca.cl ca.loc, ca.loc.below⟩
 ·have t1 : N.length ≠ cnt := by rw [beq_eq_false_iff_ne] at t1; omega
  obtain ⟨g1, g2⟩ := go t1
  exact ⟨_, _, mx.num.len mtS _, ⟨N.length, own, cl', rfl, ca, rr, g2, hcb', by omega⟩, by simp; omega⟩
end Go.Proofs.YtbiamhoonhjodadGreatDoor

namespace Go.V
open Go.RowKit (Below)
def cutW (w : World) (keep : Nat → Bool) : World := { w with heap := w.heap.mapIdx fun i o => if keep i then o else .cells #[] 0 }
theorem cutW_block (w : World) (keep : Nat → Bool) (k : Nat) : (cutW w keep).heap[k]? = (w.heap[k]?).map fun o => if keep k then o else .cells #[] 0 := by
 simp [cutW, Array.getElem?_mapIdx]
theorem cutW_cell {w : World} {keep : Nat → Bool} {p : Addr} (h : keep p.block = true) : (cutW w keep).cell? p = w.cell? p := by
 refine World.cell?_of_block ?_
 rw [cutW_block, h]; cases w.heap[p.block]? <;> simp
theorem cutW_cel {w w' : World} {keep : Nat → Bool} (h : ∀ k, keep k = true → k < w.heap.size → w'.heap[k]? = w.heap[k]?) : Cel (cutW w keep) w' := by
 intro p v hp
 by_cases hk : keep p.block = true
 ·rw [cutW_cell hk] at hp
  rw [World.cell?_of_block (h _ hk (block_lt_of_cell hp))]; exact hp
 ·exfalso
  have hb := cutW_block w keep p.block
  rw [if_neg_map hk] at hb
  unfold World.cell? at hp
  cases hw : w.heap[p.block]? with
  | none => rw [hb, hw] at hp; simp at hp
  | some o => rw [hb, hw] at hp; simp at hp
where
 if_neg_map {w : World} {keep : Nat → Bool} {p : Addr} (hk : ¬ keep p.block = true) : ((w.heap[p.block]?).map fun o => if keep p.block = true then o else Obj.cells #[] 0) = (w.heap[p.block]?).map fun _ => Obj.cells #[] 0 := by
  rw [Bool.not_eq_true] at hk; simp [hk]
theorem copyInto {α : Type} {P : Program} {t ty e : TypeId} {sz bytes b0 : Nat} {enc : α → List Value} {R : World → Cells → α → Prop} {w : World} {a : Option Addr} {l c : Nat} {xs : List α} (H : SlT P t e sz bytes) (h : Rows sz R w a l xs) (ha : a ≠ none)
  (he : ∀ x, (enc x).length = sz) (h1 : ∀ x u, u ∈ enc x → u.oneCell' = true) (hR : ∀ f x, R w f x → ∀ j, j < sz → f j = (enc x)[j]?) (hlen : xs.length * bytes ≤ 140737488355328) (hb : Blk w b0 #[] e) :
  ∃ a' c' w', Sem.run P (Builtin.append_ #[t, t] ty #[.slice (some ⟨b0, 0, none⟩) 0 0, .slice a l c]) w = .ok (.slice a' l c') w' ∧ OwnR b0 e sz enc w' a' l c' xs ∧ w.grownBy w' (some b0) := by
 obtain ⟨rfl, hx⟩ := h
 obtain ⟨p, rfl⟩ : ∃ p, a = some p := by cases a with | none => exact absurd rfl ha | some p => exact ⟨p, rfl⟩
 have hc : ∀ j u, (xs.flatMap enc)[j]? = some u → w.cell? (p.add j) = some u := by
  intro j u hu
  rcases hx with rfl | ⟨b, o, ha, hx⟩
  ·simp at hu
  ·simp at ha; subst ha
   rw [add_mk]
   have hj : j < xs.length * sz := by rw [← enc_len he]; exact (List.getElem?_eq_some_iff.1 hu).1
   have hi : j / sz < xs.length := Nat.div_lt_of_lt_mul (by rw [Nat.mul_comm]; exact hj)
   have hm : j % sz < sz := Nat.mod_lt _ H.pos
   have hjj : j / sz * sz + j % sz = j := Nat.div_add_mod' j sz
   have := hR _ _ (hx (j / sz) _ (List.getElem?_eq_getElem hi)) (j % sz) hm
   rw [Nat.add_assoc, hjj] at this
   rw [this, ← enc_get he (List.getElem?_eq_getElem hi) hm, hjj]; exact hu
 have hO : OwnR b0 e sz enc w (some ⟨b0, 0, none⟩) 0 0 ([] : List α) := ⟨rfl, by simp, .inr ⟨b0, 0, #[], rfl, Nat.le_refl _, hb, Nat.le_refl _, by simp [maxLen], by simp, by simp⟩⟩
 obtain ⟨a', c', w', q1, q2, q3, _⟩ := OwnR.appendN (ty := ty) H (xs := []) (ys := xs) hO (Nat.le_of_lt hb.lt) he h1 p c hc (by simpa using hlen)
 simp only [List.length_nil, Nat.zero_add, List.nil_append] at q1 q2
 exact ⟨a', c', w', q1, q2, q3⟩
end Go.V

namespace Go.Proofs.YtbiamhoonhjodadGreatDoor
open Go Go.V Go.Proofs
open Go.RowKit (Below)
/-! slices.Clone[[]manystrand/api.Feat,manystrand/api.Feat] -/
def N52 (a1 : Option Addr) (l1 : Nat) (c1 : Nat) (K : Option Addr → Nat → Nat → World → Prop) (w : World) : Prop :=
 BoolK a1.isNone
 (K none 0 0 w)
 (AllocK w (#[]) 37 fun b2 w3 =>
 ∃ a4, ∃ l4, ∃ c4, ∃ w5, Sem.run Tryz.prog (Builtin.append_ #[27, 27] 27 #[(.slice (some b2) 0 0), (.slice a1 l1 c1)]) w3 = .ok (.slice a4 l4 c4) w5 ∧
 (K a4 l4 c4 w5))
def ann52 : Ann := (.two .nil (.two (.two .nil (.two (.two .nil .nil) .nil)) (.two .nil .nil)))
noncomputable def code52 : Code := match Tryz.f52.body with | some c => c | none => .skip
theorem calls52 (a1 : Option Addr) (l1 : Nat) (c1 : Nat) (K : Option Addr → Nat → Nat → World → Prop) (w : World) (h : N52 a1 l1 c1 K w) : Calls Tryz.prog 52 #[(.slice a1 l1 c1)] w fun en w' => ∃ (a6 : Option Addr), ∃ (l6 : Nat), ∃ (c6 : Nat), en = .returned (.slice a6 l6 c6) ∧ K a6 l6 c6 w' :=
 fn_calls tabOk mixed Tryz.func52 (by kernel_rfl : Tryz.f52.body = some code52) ann52 [(.slice a1 l1 c1)] [(.one .slice)] K w (by kernel_rfl) (by kernel_rfl) (by kernel_rfl) h
end Go.Proofs.YtbiamhoonhjodadGreatDoor

namespace Go.Proofs.YtbiamhoonhjodadGreatDoor
open Go Go.V Go.Proofs Go.V.Gr
open Go.RowKit (Below)
def eFt (f : Ft) : List Value := [.int .i64 f.1, .string f.2]
theorem eFt_len (f : Ft) : (eFt f).length = 2 := rfl
theorem eFt_one (f : Ft) (u : Value) (h : u ∈ eFt f) : u.oneCell' = true := by simp [eFt] at h; rcases h with rfl | rfl <;> rfl
theorem sltF : SlT Tryz.prog 27 37 2 24 := slOk.ok (by kernel_rfl : slOk Tryz.prog 27 37 2 24 = true)
theorem sltN : SlT Tryz.prog 22 30 5 88 := slOk.ok (by kernel_rfl : slOk Tryz.prog 22 30 5 88 = true)
theorem mtI : MapT Tryz.prog 89 3 3 eK eK 0 := ⟨Tryz.underlying89, keyInt Tryz.underlying3, Tryz.zeroValue3⟩
theorem ctr52 (w : World) {a : Option Addr} {l : Nat} (c : Nat) {fs : List Ft} (h : RL 2 RFt w a l fs) (hl : fs.length ≤ 1000000) :
  Calls Tryz.prog 52 #[.slice a l c] w fun en w' => ∃ a' l' c', en = .returned (.slice a' l' c') ∧ (OwnR w.heap.size 37 2 eFt w' a' l' c' fs ∧ Ext w w') := by
 refine calls52 _ _ _ _ w ?_
 refine BoolK.mk (fun t => ?_) (fun t => ?_)
 ·have : fs = [] := by
   rcases h.1.2 with e | ⟨b, o, e, _⟩
   ·exact e
   ·rw [e] at t; cases t
  subst this
  exact ⟨OwnR.nil _ _ _ _ _, Ext.refl w⟩
 ·refine AllocK.mk fun b w3 hb hB x3 => ?_
  have hR : ∀ f x, RFt w3 f x → ∀ j, j < 2 → f j = (eFt x)[j]? := fun f x hx j hj => by
   rcases j with _ | _ | j
   ·exact hx.1
   ·exact hx.2.1
   ·omega
  obtain ⟨a', c', w', q1, q2, q3⟩ := copyInto (ty := 27) (c := c) sltF (h.1.ext RFt.mono x3) (by rintro rfl; cases t) eFt_len eFt_one hR (by omega) hB
  refine ⟨_, _, _, _, q1, ?_, ?_⟩
  ·exact OwnR.mono q2 (by omega)
  ·exact ⟨q3.os.trans x3.os, q3.tape.trans x3.tape, q3.output.trans x3.output, Nat.le_trans x3.size q3.size, fun k hk => (q3.block k (by have := x3.size; omega) (by simp; omega)).trans (x3.block k hk)⟩
structure Rw where
 kd : ByteArray
 n : Int
 tx : ByteArray
 sf : SL
 sk : SL
def eN (r : Rw) : List Value := [.string r.kd, .int .i64 r.n, .string r.tx, .slice r.sf.1 r.sf.2.1 r.sf.2.2, .slice r.sk.1 r.sk.2.1 r.sk.2.2]
theorem eN_len (r : Rw) : (eN r).length = 5 := rfl
theorem eN_one (r : Rw) (u : Value) (h : u ∈ eN r) : u.oneCell' = true := by
 simp [eN] at h; rcases h with rfl | rfl | rfl | rfl | rfl <;> rfl
structure Pl where
 b3 : Nat
 b11 : Nat
 b16 : Nat
 b19 : Nat
 b21 : Nat
 bm : Nat
 a1 : Option Addr
 l1 : Nat
 c1 : Nat
 sc : SL
def Pl.fn (p : Pl) : Value := .func (.func 51) #[] #[(.pointer (some ⟨p.b16, 0, none⟩)), (.pointer (some ⟨p.b11, 0, none⟩)), (.pointer (some ⟨p.b19, 0, none⟩)), (.pointer (some ⟨p.b3, 0, none⟩)), (.pointer (some ⟨p.b21, 0, none⟩))]
structure VS (w0 w : World) (own : OwnM Nat) (p : Pl) (xs : List Nd) (cl : List Int) (vs : List Nat) (RW : List Rw) (s : SL) (K : List (List Int)) (mk : List Int) : Prop where
 loc : Mine own w0 w
 x3 : Bx own 4 w p.b3 #[.slice p.a1 p.l1 p.c1] 22
 x11 : Bx own 5 w p.b11 #[.slice p.sc.1 p.sc.2.1 p.sc.2.2] 28
 x16 : Bx own 6 w p.b16 #[.map (some p.bm)] 89
 x21 : Bx own 7 w p.b21 #[p.fn] 90
 x19 : Bx own 2 w p.b19 #[.int .i64 0, .slice s.1 s.2.1 s.2.2] 24
 cls : FRow own 3 eI w p.sc cl
 map : Mx own 1 eK w p.bm mk 0
 out : RowR own 0 30 5 eN w s RW
 lenR : RW.length = vs.length
 lenK : K.length = vs.length
 nds : ∀ (q : Nat) (r : Rw) (v : Nat) (k : List Int), RW[q]? = some r → vs[q]? = some v → K[q]? = some k → r.kd = (nd xs v).kd ∧ r.n = (nd xs v).n ∧ r.tx = (nd xs v).tx ∧ k.length = (nd xs v).ks.length ∧
  RowR own (11 + 3 * q) 37 2 eFt w r.sf (nd xs v).fs ∧ RowR own (10 + 3 * q) 3 1 eI w r.sk k
structure Kp (own own' : OwnM Nat) (n0 : Nat) (w w' : World) : Prop where
 fr : Fr own own' w w'
 box : ∀ b n, n < n0 → b < w.heap.size → own b = some (12 + 3 * n) → own' b = some (12 + 3 * n) ∧ w'.heap[b]? = w.heap[b]?
section
variable {w0 w w' w'' : World} {own own' own'' : OwnM Nat} {p : Pl} {xs : List Nd} {cl : List Int} {vs : List Nat} {RW : List Rw} {s : SL} {K : List (List Int)} {n0 : Nat} {mk : List Int}
theorem VS.ext (h : VS w0 w own p xs cl vs RW s K mk) (x : Ext w w') : VS w0 w' own p xs cl vs RW s K mk :=
 ⟨h.loc.ext x, h.x3.ext x, h.x11.ext x, h.x16.ext x, h.x21.ext x, h.x19.ext x, h.cls.ext x, h.map.ext x, h.out.ext x, h.lenR, h.lenK, fun q r v k e1 e2 e3 => by
  obtain ⟨f1, f2, f3, f4, f5, f6⟩ := h.nds q r v k e1 e2 e3
  exact ⟨f1, f2, f3, f4, f5.ext x, f6.ext x⟩⟩
theorem VS.upd {r : Nat} (h : VS w0 w own p xs cl vs RW s K mk) (u : Upd own own' r w w') (hr : 8 ≤ r) (hr2 : ∀ q, q < vs.length → r ≠ 10 + 3 * q ∧ r ≠ 11 + 3 * q) : VS w0 w' own' p xs cl vs RW s K mk :=
 ⟨h.loc.upd u, h.x3.upd u (by omega), h.x11.upd u (by omega), h.x16.upd u (by omega), h.x21.upd u (by omega), h.x19.upd u (by omega), h.cls.upd u, h.map.upd u (by omega), h.out.upd u (by omega), h.lenR, h.lenK, fun q r' v k e1 e2 e3 => by
  have hq := (List.getElem?_eq_some_iff.1 e2).1
  have := hr2 q hq
  obtain ⟨f1, f2, f3, f4, f5, f6⟩ := h.nds q r' v k e1 e2 e3
  exact ⟨f1, f2, f3, f4, f5.upd u (by omega), f6.upd u (by omega)⟩⟩
theorem VS.mapAdd {mk' : List Int} (h : VS w0 w own p xs cl vs RW s K mk) (m : Mx own 1 eK w' p.bm mk' 0) (u : Upd own own 1 w w') : VS w0 w' own p xs cl vs RW s K mk' :=
 ⟨h.loc.upd u, h.x3.upd u (by decide), h.x11.upd u (by decide), h.x16.upd u (by decide), h.x21.upd u (by decide), h.x19.upd u (by decide), h.cls.upd u, m, h.out.upd u (by decide), h.lenR, h.lenK, fun q r' v k e1 e2 e3 => by
  obtain ⟨f1, f2, f3, f4, f5, f6⟩ := h.nds q r' v k e1 e2 e3
  exact ⟨f1, f2, f3, f4, f5.upd u (by omega), f6.upd u (by omega)⟩⟩
theorem Bx.setA {ρ : Type} {own : OwnM ρ} {r : ρ} {w : World} {b t i : Nat} {cs : Array Value} {v : Value} (h : Bx own r w b cs t) (hi : i < cs.size) {F : World → Prop} (k : ∀ w', Bx own r w' b (cs.setIfInBounds i v) t → Upd own own r w w' → F w') :
  SetK w ((⟨b, 0, none⟩ : Addr).add i) v F := by
 rw [add_mk, Nat.zero_add]; exact h.set hi k
theorem RowR.setk {ρ : Type} {own : OwnM ρ} {r : ρ} {w : World} {e : TypeId} {s : SL} {xs : List Int} (h : RowR own r e 1 eI w s xs) {i : Nat} (hi : i < xs.length) (v : Int) {F : World → Prop}
  (k : ∀ w', RowR own r e 1 eI w' s (xs.set i v) → Upd own own r w w' → F w') : ∃ b, s.1 = some b ∧ SetK w (b.add (((i : Nat) : Int).toNat * 1)) (.int .i64 v) F := by
 obtain ⟨g, l, c, e1, _⟩ := h.at_ eI_len hi
 subst e1
 exact ⟨_, rfl, RowR.seti h hi v k⟩
theorem VS.setK (h : VS w0 w own p xs cl vs RW s K mk) {q m : Nat} {r : Rw} {k : List Int} (hr : RW[q]? = some r) (hk : K[q]? = some k) (hm : m < k.length) (v : Int) {F : World → Prop}
  (kk : ∀ w', VS w0 w' own p xs cl vs RW s (K.set q (k.set m v)) mk → Upd own own (10 + 3 * q) w w' → F w') : ∃ b, r.sk.1 = some b ∧ SetK w (b.add (((m : Nat) : Int).toNat * 1)) (.int .i64 v) F := by
 have hq : q < vs.length := by rw [← h.lenR]; exact (List.getElem?_eq_some_iff.1 hr).1
 have hqK : q < K.length := (List.getElem?_eq_some_iff.1 hk).1
 obtain ⟨f1, f2, f3, f4, f5, f6⟩ := h.nds q r vs[q] k hr (List.getElem?_eq_getElem hq) hk
 refine RowR.setk f6 hm v fun w' h1 u => kk w' ⟨h.loc.upd u, h.x3.upd u (by omega), h.x11.upd u (by omega), h.x16.upd u (by omega), h.x21.upd u (by omega), h.x19.upd u (by omega), h.cls.upd u, h.map.upd u (by omega), h.out.upd u (by omega), h.lenR, by rw [List.length_set]; exact h.lenK, fun q2 r2 v2 k2 e1 e2 e3 => ?_⟩ u
 rw [List.getElem?_set] at e3
 by_cases hqq : q = q2
 ·subst hqq
  rw [if_pos rfl, if_pos hqK] at e3
  rw [hr] at e1
  cases e1; cases e3
  obtain ⟨g1, g2, g3, g4, g5, g6⟩ := h.nds q r v2 k hr e2 hk
  exact ⟨g1, g2, g3, by rw [List.length_set]; exact g4, g5.upd u (by omega), h1⟩
 ·rw [if_neg hqq] at e3
  obtain ⟨g1, g2, g3, g4, g5, g6⟩ := h.nds q2 r2 v2 k2 e1 e2 e3
  exact ⟨g1, g2, g3, g4, g5.upd u (by omega), g6.upd u (by omega)⟩
theorem VS.more {s' : SL} {i : Nat} {r : Rw} {k : List Int} (h : VS w0 w own p xs cl vs RW s K mk) (h1 : r.kd = (nd xs i).kd) (h2 : r.n = (nd xs i).n) (h3 : r.tx = (nd xs i).tx) (h4 : k.length = (nd xs i).ks.length)
  (hf : RowR own (11 + 3 * vs.length) 37 2 eFt w r.sf (nd xs i).fs) (hk : RowR own (10 + 3 * vs.length) 3 1 eI w r.sk k) (u : Upd own own' 0 w w') (ho : RowR own' 0 30 5 eN w' s' (RW ++ [r])) (u2 : Upd own' own' 2 w' w'')
  (hb : Bx own' 2 w'' p.b19 #[.int .i64 0, .slice s'.1 s'.2.1 s'.2.2] 24) : VS w0 w'' own' p xs cl (vs ++ [i]) (RW ++ [r]) s' (K ++ [k]) mk := by
 refine ⟨(h.loc.upd u).upd u2, (h.x3.upd u (by decide)).upd u2 (by decide), (h.x11.upd u (by decide)).upd u2 (by decide), (h.x16.upd u (by decide)).upd u2 (by decide), (h.x21.upd u (by decide)).upd u2 (by decide), hb, (h.cls.upd u).upd u2, (h.map.upd u (by decide)).upd u2 (by decide), ho.upd u2 (by decide), by simp [h.lenR], by simp [h.lenK], fun q r2 v2 k2 e1 e2 e3 => ?_⟩
 rcases Nat.lt_or_ge q vs.length with hq | hq
 ·rw [List.getElem?_append_left (by rw [h.lenR]; exact hq)] at e1
  rw [List.getElem?_append_left hq] at e2
  rw [List.getElem?_append_left (by rw [h.lenK]; exact hq)] at e3
  obtain ⟨g1, g2, g3, g4, g5, g6⟩ := h.nds q r2 v2 k2 e1 e2 e3
  exact ⟨g1, g2, g3, g4, (g5.upd u (by omega)).upd u2 (by omega), (g6.upd u (by omega)).upd u2 (by omega)⟩
 ·have hq2 : q = vs.length := by have := (List.getElem?_eq_some_iff.1 e2).1; simp at this; omega
  subst hq2
  rw [← h.lenR, List.getElem?_concat_length] at e1
  rw [List.getElem?_concat_length] at e2
  rw [← h.lenK, List.getElem?_concat_length] at e3
  cases e1; cases e2; cases e3
  exact ⟨h1, h2, h3, h4, (hf.upd u (by omega)).upd u2 (by omega), (hk.upd u (by omega)).upd u2 (by omega)⟩
theorem Kp.refl (own : OwnM Nat) (n0 : Nat) (w : World) : Kp own own n0 w w := ⟨Fr.refl _ _, fun _ _ _ _ h => ⟨h, rfl⟩⟩
theorem Kp.ext (x : Ext w w') : Kp own own n0 w w' := ⟨Fr.of_ext _ x, fun b _ _ hb h => ⟨h, x.block b hb⟩⟩
theorem Kp.trans (h : Kp own own' n0 w w') (k : Kp own' own'' n0 w' w'') : Kp own own'' n0 w w'' :=
 ⟨h.fr.trans k.fr, fun b n hn hb e => by
  obtain ⟨e1, e2⟩ := h.box b n hn hb e
  obtain ⟨e3, e4⟩ := k.box b n hn (Nat.lt_of_lt_of_le hb h.fr.size) e1
  exact ⟨e3, e4.trans e2⟩⟩
theorem Kp.upd {r : Nat} (u : Upd own own' r w w') (hr : ∀ n, n < n0 → r ≠ 12 + 3 * n) : Kp own own' n0 w w' :=
 ⟨u.fr, fun b n hn hb e => ⟨by rw [u.same b hb]; exact e, u.block b hb (by rw [e]; simpa using Ne.symm (hr n hn))⟩⟩
theorem Kp.mono {n1 : Nat} (h : Kp own own' n0 w w') (hn : n1 ≤ n0) : Kp own own' n1 w w' := ⟨h.fr, fun b n h1 h2 h3 => h.box b n (by omega) h2 h3⟩
end
def Fil (xs : List Nd) (vs : List Nat) (K : List (List Int)) (q M : Nat) : Prop :=
 ∀ (v : Nat) (k : List Int), vs[q]? = some v → K[q]? = some k → ∀ m, m < k.length → m < M → ∃ p : Nat, k[m]? = some (p : Int) ∧ ∃ u, vs[p]? = some u ∧ Eqv xs xs u (kid xs v m)
theorem Fil.grow {xs : List Nd} {vs t : List Nat} {K K' : List (List Int)} {q M : Nat} (h : Fil xs vs K q M) (hq : q < vs.length) (hK : K'[q]? = K[q]?) : Fil xs (vs ++ t) K' q M := by
 intro v k e1 e2 m hm hM
 rw [List.getElem?_append_left hq] at e1
 rw [hK] at e2
 obtain ⟨p, f1, u, f2, f3⟩ := h v k e1 e2 m hm hM
 exact ⟨p, f1, u, by rw [List.getElem?_append_left (List.getElem?_eq_some_iff.1 f2).1]; exact f2, f3⟩
end Go.Proofs.YtbiamhoonhjodadGreatDoor

namespace Go.Proofs.YtbiamhoonhjodadGreatDoor
open Go Go.V Go.Proofs
open Go.RowKit (Below)
/-! manystrand/graph.least$1 -/
def N51 (x1 : Int) (o2 : Option Addr) (o3 : Option Addr) (o4 : Option Addr) (o5 : Option Addr) (o6 : Option Addr) (K : Int → World → Prop) (w : World) : Prop :=
 DrewK w fun w7 =>
 AddrK o2 fun b8 =>
 ∃ m9, w7.cell? b8 = some (.map m9) ∧
 (AddrK o3 fun b10 =>
 ∃ a11 l11 c11, w7.cell? b10 = some (.slice a11 l11 c11) ∧
 ((0 ≤ x1 ∧ x1 < l11) ∧
 AddrK a11 fun b12 =>
 ∃ x13, w7.cell? (b12.add (x1.toNat * 1)) = some (.int .i64 x13) ∧
 (∃ x14, ∃ p15, ∃ w16, Sem.run Tryz.prog (Instr.lookup 89 (.map m9) (.int .i64 x13) true) w7 = .ok (.tuple #[(.int .i64 x14), (.bool p15)]) w16 ∧
 (BoolK p15
 (K x14 w16)
 (AddrK o4 fun b17 =>
 ∃ a18 l18 c18, w16.cell? (b17.add 1) = some (.slice a18 l18 c18) ∧
 (DrewK w16 fun w19 =>
 AddrK o2 fun b20 =>
 ∃ m21, w19.cell? b20 = some (.map m21) ∧
 (AddrK o3 fun b22 =>
 ∃ a23 l23 c23, w19.cell? b22 = some (.slice a23 l23 c23) ∧
 ((0 ≤ x1 ∧ x1 < l23) ∧
 AddrK a23 fun b24 =>
 ∃ x25, w19.cell? (b24.add (x1.toNat * 1)) = some (.int .i64 x25) ∧
 (∃ w26, Sem.run Tryz.prog (Instr.mapUpdate 89 (.map m21) (.int .i64 x25) (.int .i64 l18)) w19 = .ok () w26 ∧
 (AddrK o5 fun b27 =>
 ∃ a28 l28 c28, w26.cell? b27 = some (.slice a28 l28 c28) ∧
 ((0 ≤ x1 ∧ x1 < l28) ∧
 AddrK a28 fun b29 =>
 ∃ s30, w26.cell? ((b29.add (x1.toNat * 5)).add 0) = some (.string s30) ∧
 (∃ x31, w26.cell? ((b29.add (x1.toNat * 5)).add 1) = some (.int .i64 x31) ∧
 (∃ s32, w26.cell? ((b29.add (x1.toNat * 5)).add 2) = some (.string s32) ∧
 (∃ a33 l33 c33, w26.cell? ((b29.add (x1.toNat * 5)).add 3) = some (.slice a33 l33 c33) ∧
 (∃ a34 l34 c34, w26.cell? ((b29.add (x1.toNat * 5)).add 4) = some (.slice a34 l34 c34) ∧
 (AllocK w26 (#[.string ⟨#[]⟩, .int .i64 0, .string ⟨#[]⟩, .slice none 0 0, .slice none 0 0]) 30 fun b35 w36 =>
 SetK w36 (b35.add 0) (.string s30) fun w37 =>
 SetK w37 (b35.add 1) (.int .i64 x31) fun w38 =>
 SetK w38 (b35.add 2) (.string s32) fun w39 =>
 SetK w39 (b35.add 3) (.slice a33 l33 c33) fun w40 =>
 SetK w40 (b35.add 4) (.slice a34 l34 c34) fun w41 =>
 ∃ a42 l42 c42, w41.cell? (b35.add 3) = some (.slice a42 l42 c42) ∧
 (Calls Tryz.prog 52 #[(.slice a42 l42 c42)] w41 fun e45 w44 =>
 ∃ a43, ∃ l43, ∃ c43, e45 = .returned (.slice a43 l43 c43) ∧
 (SetK w44 (b35.add 3) (.slice a43 l43 c43) fun w46 =>
 ∃ a47 l47 c47, w46.cell? (b35.add 4) = some (.slice a47 l47 c47) ∧
 ((0 ≤ (l47 : Int) ∧ (l47 : Int) ≤ l47 ∧ ((8 : Nat) : Int) * l47 ≤ 281474976710656 ∧ (l47 : Int) ≤ 9223372036854775807) ∧
 AllocK w46 (madeCells (#[.int .i64 0]) ((l47 : Int).toNat * 1)) 3 fun b48 w49 =>
 SetK w49 (b35.add 4) (.slice (some b48) ((l47 : Int).toNat) ((l47 : Int).toNat)) fun w50 =>
 AddrK o4 fun b51 =>
 ∃ a52 l52 c52, w50.cell? (b51.add 1) = some (.slice a52 l52 c52) ∧
 (∃ s53, w50.cell? (b35.add 0) = some (.string s53) ∧
 (∃ x54, w50.cell? (b35.add 1) = some (.int .i64 x54) ∧
 (∃ s55, w50.cell? (b35.add 2) = some (.string s55) ∧
 (∃ a56 l56 c56, w50.cell? (b35.add 3) = some (.slice a56 l56 c56) ∧
 (∃ a57 l57 c57, w50.cell? (b35.add 4) = some (.slice a57 l57 c57) ∧
 (AllocK w50 (#[(.string s53), (.int .i64 x54), (.string s55), (.slice a56 l56 c56), (.slice a57 l57 c57)]) 30 fun b58 w59 =>
 ∃ a60, ∃ l60, ∃ c60, ∃ w61, Sem.run Tryz.prog (Builtin.append_ #[22, 22] 22 #[(.slice a52 l52 c52), (.slice (some b58) 1 1)]) w59 = .ok (.slice a60 l60 c60) w61 ∧
 (AddrK o4 fun b62 =>
 SetK w61 (b62.add 1) (.slice a60 l60 c60) fun w63 =>
 AddrK o5 fun b64 =>
 ∃ a65 l65 c65, w63.cell? b64 = some (.slice a65 l65 c65) ∧
 ((0 ≤ x1 ∧ x1 < l65) ∧
 AddrK a65 fun b66 =>
 ∃ a67 l67 c67, w63.cell? ((b66.add (x1.toNat * 5)).add 4) = some (.slice a67 l67 c67) ∧
 (∃ (I68 : Int → World → Prop) (μ69 : Int → World → Nat),
 (I68 0 w63 ∧ True) ∧
 ∀ w70 x71, I68 x71 w70 →
 BoolK (decide (x71 < l67))
 ((0 ≤ x71 ∧ x71 < l67) ∧
 AddrK a67 fun b72 =>
 ∃ x73, w70.cell? (b72.add (x71.toNat * 1)) = some (.int .i64 x73) ∧
 (DrewK w70 fun w74 =>
 ∃ v75, Cel v75 w74 ∧
 (∃ a76 l76 c76, v75.cell? (b35.add 4) = some (.slice a76 l76 c76) ∧
 (AddrK o6 fun b77 =>
 ∃ (g78 : FuncId) (k79 : Array Value), v75.cell? b77 = some (.func (.func g78) #[] k79) ∧
 (Enters Tryz.prog g78 ∧
 (Calls Tryz.prog g78 (callArgs [] [(.int .i64 x73)] k79.toList) w74 fun e82 w81 =>
 ∃ x80, e82 = .returned (.int .i64 x80) ∧
 (Cel v75 w81 ∧
 ((0 ≤ x71 ∧ x71 < l76) ∧
 AddrK a76 fun b83 =>
 SetK w81 (b83.add (x71.toNat * 1)) (.int .i64 x80) fun w84 =>
 I68 (IntKind.wrap .i64 (x71 + 1)) w84 ∧ μ69 (IntKind.wrap .i64 (x71 + 1)) w84 < μ69 x71 w70))))))))
 (K l18 w70)))))))))))))))))))))))))))))
def ann51 : Ann := (.two .nil (.two (.two (.anyC 11 (.take 0 (.take 1 (.take 2 (.take 3 (.take 4 (.one 5 (.take 6 (.take 7 (.take 8 (.take 9 (.take 10 .done)))))))))))) (.two .nil (.two (.two .nil .nil) .nil))) (.two .nil (.two (.anyC 6 (.take 0 (.take 1 (.take 2 (.take 3 (.take 4 (.take 5 .done))))))) (.two .nil (.two .nil (.two .nil (.two .nil (.two (.two .nil (.one (.loop [(59, (.one (.int .i64)))] [5, 10, 11, 57, 58] (.two .nil (.two (.two .nil .nil) (.two (.one (.two .nil (.anyD 7 (.take 0 (.take 1 (.take 2 (.take 3 (.take 4 (.one 5 (.take 6 .done)))))))))) .nil)))))) (.two .nil .nil))))))))))
noncomputable def code51 : Code := match Tryz.f51.body with | some c => c | none => .skip
theorem calls51 (x1 : Int) (o2 : Option Addr) (o3 : Option Addr) (o4 : Option Addr) (o5 : Option Addr) (o6 : Option Addr) (K : Int → World → Prop) (w : World) (h : N51 x1 o2 o3 o4 o5 o6 K w) : Calls Tryz.prog 51 #[(.int .i64 x1), (.pointer o2), (.pointer o3), (.pointer o4), (.pointer o5), (.pointer o6)] w fun en w' => ∃ (x85 : Int), en = .returned (.int .i64 x85) ∧ K x85 w' :=
 fn_calls tabOk mixed Tryz.func51 (by kernel_rfl : Tryz.f51.body = some code51) ann51 [(.int .i64 x1), (.pointer o2), (.pointer o3), (.pointer o4), (.pointer o5), (.pointer o6)] [(.one (.int .i64))] K w (by kernel_rfl) (by kernel_rfl) (by kernel_rfl) h
end Go.Proofs.YtbiamhoonhjodadGreatDoor

namespace Go.Proofs.YtbiamhoonhjodadGreatDoor
open Go Go.V Go.Proofs Go.V.Gr
open Go.RowKit (Below)
section
variable {w0 w : World} {own : OwnM Nat} {p : Pl} {xs : List Nd} {cl : List Int} {vs : List Nat} {RW : List Rw} {s : SL} {K : List (List Int)}
def VisitPost (w0 : World) (own : OwnM Nat) (p : Pl) (xs : List Nd) (cl : List Int) (vs : List Nat) (RW : List Rw) (K : List (List Int)) (i : Nat) (w : World) (r : Int) (w' : World) : Prop :=
 ∃ own' vs' RW' s' K', VS w0 w' own' p xs cl vs' RW' s' K' (vs'.map (ga cl)) ∧ Dfs xs [i] vs vs' ∧ Kp own own' vs.length w w' ∧ (∃ q : Nat, r = q ∧ ∃ v, vs'[q]? = some v ∧ Eqv xs xs v i) ∧
  (∀ q, q < vs.length → K'[q]? = K[q]? ∧ RW'[q]? = RW[q]?) ∧ ∀ q, vs.length ≤ q → ∀ M, Fil xs vs' K' q M
theorem seen_iff (hcl : Cls xs cl) (hv : ∀ v ∈ vs, v < xs.length) {i : Nat} (hi : i < xs.length) : ga cl i ∈ vs.map (ga cl) ↔ Seen xs vs i := by
 constructor
 ·intro h
  obtain ⟨v, h1, h2⟩ := List.mem_map.1 h
  exact ⟨v, h1, (hcl.2 v i (hv v h1) hi).1 h2⟩
 ·rintro ⟨v, h1, h2⟩
  exact List.mem_map.2 ⟨v, h1, (hcl.2 v i (hv v h1) hi).2 h2⟩
theorem apart_nodup (ha : Apart xs vs) : vs.Nodup := by
 rw [List.Nodup, List.pairwise_iff_getElem]
 intro a b h1 h2 hab e
 have := ha a b _ _ (List.getElem?_eq_getElem h1) (List.getElem?_eq_getElem h2) (by rw [e]; exact Eqv.refl _ _)
 omega
theorem vs_len (ha : Apart xs vs) (hv : ∀ v ∈ vs, v < xs.length) : vs.length ≤ xs.length := by
 have := len_le_of_sub _ (List.range xs.length) (apart_nodup ha) fun x hx => List.mem_range.2 (hv x hx)
 simpa using this
end
set_option maxRecDepth 100000 in
theorem ctr51 {p : Pl} {xs : List Nd} {cl : List Int} {w0 : World} (hN : RNds w0 p.a1 p.l1 xs) (hc : Closed xs) (hz : Sz xs) (hcl : Cls xs cl) : ∀ (d : Nat) (w : World) (own : OwnM Nat) (vs : List Nat) (RW : List Rw) (s : SL) (K : List (List Int)) (i : Nat),
  VS w0 w own p xs cl vs RW s K (vs.map (ga cl)) → i < xs.length → Apart xs vs → (∀ v ∈ vs, v < xs.length) → xs.length + 1 - vs.length ≤ d →
  Calls Tryz.prog 51 #[.int .i64 (i : Int), (.pointer (some ⟨p.b16, 0, none⟩)), (.pointer (some ⟨p.b11, 0, none⟩)), (.pointer (some ⟨p.b19, 0, none⟩)), (.pointer (some ⟨p.b3, 0, none⟩)), (.pointer (some ⟨p.b21, 0, none⟩))] w fun en w' =>
   ∃ r, en = .returned (.int .i64 r) ∧ VisitPost w0 own p xs cl vs RW K i w r w' := by
 intro d
 induction d with
 | zero =>
  intro w own vs RW s K i _ _ ha hv hd
  have := vs_len ha hv; omega
 | succ d ih =>
  intro w own vs RW s K i h hi ha hv hd
  have hn := hz.len
  have hvl := vs_len ha hv
  have hl1 := hN.len
  refine calls51 _ _ _ _ _ _ _ w ?_
  refine DrewK.mk fun w7 x7 => ?_
  have h7 := h.ext x7
  have g16 : ∀ {w'} {own' : OwnM Nat} {RW' s' K' mk'} {vs'}, VS w0 w' own' p xs cl vs' RW' s' K' mk' → w'.cell? (⟨p.b16, 0, none⟩ : Addr) = some (.map (some p.bm)) := fun h => by rw [h.x16.blk.cell]; rfl
  have g11 : ∀ {w'} {own' : OwnM Nat} {RW' s' K' mk'} {vs'}, VS w0 w' own' p xs cl vs' RW' s' K' mk' → w'.cell? (⟨p.b11, 0, none⟩ : Addr) = some (.slice p.sc.1 p.sc.2.1 p.sc.2.2) := fun h => by rw [h.x11.blk.cell]; rfl
  have g3 : ∀ {w'} {own' : OwnM Nat} {RW' s' K' mk'} {vs'}, VS w0 w' own' p xs cl vs' RW' s' K' mk' → w'.cell? (⟨p.b3, 0, none⟩ : Addr) = some (.slice p.a1 p.l1 p.c1) := fun h => by rw [h.x3.blk.cell]; rfl
  have hil : i < cl.length := by rw [hcl.1]; exact hi
  have gcl : ∀ {w'} {own' : OwnM Nat} {RW' s' K' mk'} {vs'}, VS w0 w' own' p xs cl vs' RW' s' K' mk' → ∃ g, p.sc.1 = some ⟨g, 0, none⟩ ∧ w'.cell? ((⟨g, 0, none⟩ : Addr).add (((i : Nat) : Int).toNat * 1)) = some (.int .i64 (ga cl i)) := fun h => by
   obtain ⟨g, e1, e2⟩ := h.cls.at_ eI_len hil
   exact ⟨g, e1, e2.trans (by rw [ga_get hil]; rfl)⟩
  have hscl : p.sc.2.1 = cl.length := h.cls.row.1
  obtain ⟨gc, ec, qc⟩ := gcl h7
  refine ⟨_, g16 h7, _, _, _, g11 h7, ⟨by omega, by rw [hscl]; omega⟩, adK ec ⟨_, qc, ?_⟩⟩
  obtain ⟨x14, ok, q1, q2⟩ := h7.map.num.look2 (P := Tryz.prog) mtI (ga cl i)
  refine ⟨_, _, _, q1, ?_⟩
  rcases q2 with ⟨q, f1, rfl, rfl⟩ | ⟨hnin, rfl, rfl⟩
  ·refine BoolK.mk (fun _ => ?_) (fun t => by cases t)
   rw [List.getElem?_map] at f1
   obtain ⟨v, f2, f3⟩ := Option.map_eq_some_iff.1 f1
   have hvm := hv v (List.mem_of_getElem? f2)
   have ev : Eqv xs xs v i := (hcl.2 v i hvm hi).1 f3
   refine ⟨own, vs, RW, s, K, h7, .hit ⟨v, List.mem_of_getElem? f2, ev⟩ (.nil _), Kp.ext x7, ⟨q, by omega, v, f2, ev⟩, fun q _ => ⟨rfl, rfl⟩, fun q hq M v k e1 => ?_⟩
   rw [List.getElem?_eq_none hq] at e1; cases e1
  refine BoolK.mk (fun t => by cases t) (fun _ => ?_)
  have hns : ¬ Seen xs vs i := fun hs => hnin ((seen_iff hcl hv hi).2 hs)
  have hlt : vs.length < xs.length := by
   have := vs_len (ha.push hns) (fun v hv' => by
    rcases List.mem_append.1 hv' with h | h
    ·exact hv v h
    ·simp at h; subst h; exact hi)
   simp at this; omega
  have hsl : s.2.1 = vs.length := by rw [h.out.len, h.lenR]
  refine ⟨_, _, _, by rw [add_mk, h7.x19.blk.cell]; rfl, DrewK.mk fun w19 x19 => ?_⟩
  have h19 := h7.ext x19
  obtain ⟨gc2, ec2, qc2⟩ := gcl h19
  refine ⟨_, g16 h19, _, _, _, g11 h19, ⟨by omega, by rw [hscl]; omega⟩, adK ec2 ⟨_, qc2, ?_⟩⟩
  obtain ⟨w26, r1, mx26, u26⟩ := h19.map.add (P := Tryz.prog) mtI (a := ga cl i) (v := ((s.2.1 : Nat) : Int)) (by rw [hsl, List.length_map]; omega) hnin
  refine ⟨w26, r1, ?_⟩
  have h26 := h19.mapAdd mx26 u26
  have y0 := h26.loc.below
  obtain ⟨bN, haN, n0, n1, n2, n3, n4, ⟨a3, l3, c3, n5, n6⟩, ⟨a4, l4, c4, n7, n8⟩, _⟩ := ndAt hN (Ext.refl w0) hi
  refine ⟨_, _, _, g3 h26, ⟨by omega, by omega⟩, adK haN ⟨_, y0.cell n0, _, y0.cell n1, _, y0.cell n2, _, _, _, y0.cell n5, _, _, _, y0.cell n7, ?_⟩⟩
  have hfl := hz.fs _ (List.getElem_mem hi)
  have hkl := hz.ks _ (List.getElem_mem hi)
  have hl4 : l4 = xs[i].ks.length := n8.len
  refine local5 fun b35 w41 hb35 hB35 x41 => ?_
  have uA : Upd own (setOwn own (some b35) (12 + 3 * vs.length)) (12 + 3 * vs.length) w26 w41 := Upd.fresh x41 (by omega) hB35.lt _
  have bxA : Bx (setOwn own (some b35) (12 + 3 * vs.length)) (12 + 3 * vs.length) w41 b35 _ _ := ⟨hB35, by unfold setOwn; rw [if_pos rfl]⟩
  have h41 := h26.upd uA (by omega) (fun q hq => by omega)
  generalize setOwn own (some b35) (12 + 3 * vs.length) = ownA at uA bxA h41
  refine ⟨_, _, _, by rw [add_mk, bxA.blk.cell]; rfl, ?_⟩
  refine (ctr52 w41 c3 (n6.ext RFt.mono (y0.trans x41)) hfl).mono ?_
  rintro en w44 ⟨a43, l43, c43, rfl, hO43, x44⟩
  obtain ⟨rowF, uF⟩ := RowR.adopt (s := (a43, l43, c43)) hO43 (Nat.le_refl _) x44 ownA (11 + 3 * vs.length)
  have h44 := h41.upd uF (by omega) (fun q hq => by omega)
  have bx44 := bxA.upd uF (by omega)
  generalize setOwn ownA (sblk (a43, l43, c43)) (11 + 3 * vs.length) = ownF at rowF uF h44 bx44
  refine ⟨_, _, _, rfl, Bx.setA bx44 (by simp) fun w46 bx46 u46 => ?_⟩
  have h46 := h44.upd u46 (by omega) (fun q hq => by omega)
  have rowF46 := rowF.upd u46 (by omega)
  refine ⟨_, _, _, by rw [add_mk, bx46.blk.cell]; rfl, ⟨by omega, by omega, by omega, by omega⟩, ?_⟩
  rw [Int.toNat_natCast]
  refine RowR.make (x := (0 : Int)) (enc := eI) rfl (by simp only [maxLen]; omega) ownF (10 + 3 * vs.length) fun b48 w49 rowK uK x49 hb48 => ?_
  have h49 := h46.upd uK (by omega) (fun q hq => by omega)
  have rowF49 := rowF46.upd uK (by omega)
  have bx49 := bx46.upd uK (by omega)
  generalize setOwn ownF (some b48) (10 + 3 * vs.length) = ownK at rowK uK h49 rowF49 bx49
  refine Bx.setA bx49 (by simp) fun w50 bx50 u50 => ?_
  have h50 := h49.upd u50 (by omega) (fun q hq => by omega)
  have rowF50 := rowF49.upd u50 (by omega)
  have rowK50 := rowK.upd u50 (by omega)
  refine ⟨_, _, _, by rw [add_mk, h50.x19.blk.cell]; rfl, _, by rw [add_mk, bx50.blk.cell]; rfl, _, by rw [add_mk, bx50.blk.cell]; rfl, _, by rw [add_mk, bx50.blk.cell]; rfl, _, _, _, by rw [add_mk, bx50.blk.cell]; rfl, _, _, _, by rw [add_mk, bx50.blk.cell]; rfl, ?_⟩
  refine RowR.push (⟨xs[i].kd, xs[i].n, xs[i].tx, (a43, l43, c43), (some ⟨b48, 0, none⟩, l4, l4)⟩ : Rw) sltN h50.out eN_len eN_one (by rw [h50.lenR]; omega) rfl fun s' w61 rowO uO => ?_
  have x19' := h50.x19.upd uO (by decide)
  have bx61 := bx50.upd uO (by omega)
  have hkp61 : Kp own (setOwn ownK (sblk s') 0) vs.length w w61 :=
   (Kp.ext (x7.trans x19)).trans ((Kp.upd u26 (by omega)).trans ((Kp.upd uA (by omega)).trans ((Kp.upd uF (by omega)).trans ((Kp.upd u46 (by omega)).trans ((Kp.upd uK (by omega)).trans ((Kp.upd u50 (by omega)).trans (Kp.upd uO (by omega))))))))
  generalize hOwnO : setOwn ownK (sblk s') 0 = ownO at rowO uO x19' bx61 hkp61
  refine Bx.setA x19' (by simp) fun w63 x63 u63 => ?_
  have h63 : VS w0 w63 ownO p xs cl (vs ++ [i]) (RW ++ [⟨xs[i].kd, xs[i].n, xs[i].tx, (a43, l43, c43), (some ⟨b48, 0, none⟩, l4, l4)⟩]) s' (K ++ [List.replicate l4 0]) (vs.map (ga cl) ++ [ga cl i]) :=
   h50.more (by rw [nd_get hi]) (by rw [nd_get hi]) (by rw [nd_get hi]) (by rw [nd_get hi, List.length_replicate]; exact hl4) (by rw [nd_get hi]; exact rowF50) rowK50 uO rowO u63 (by simpa using x63)
  have bx63 := bx61.upd u63 (by omega)
  have hkp63 := hkp61.trans (Kp.upd u63 (by omega))
  have y63 := h63.loc.below
  refine ⟨_, _, _, g3 h63, ⟨by omega, by omega⟩, adK haN ⟨_, _, _, y63.cell n7, ?_⟩⟩
  have hd2 : xs.length + 1 - (vs.length + 1) ≤ d := by omega
  have hkidl : (Gr.kids xs i).length = l4 := by rw [kids_len, nd_get hi]; exact hl4.symm
  generalize hraw : (⟨xs[i].kd, xs[i].n, xs[i].tx, (a43, l43, c43), (some ⟨b48, 0, none⟩, l4, l4)⟩ : Rw) = raw at h63
  have hrawk : raw.sk = (some ⟨b48, 0, none⟩, l4, l4) := by rw [← hraw]
  have hmk : vs.map (ga cl) ++ [ga cl i] = (vs ++ [i]).map (ga cl) := by simp
  rw [hmk] at h63
  refine ⟨fun x w' => ∃ (m : Nat) (own' : OwnM Nat) (vs' : List Nat) (RW' : List Rw) (s2 : SL) (K' : List (List Int)), x = m ∧ m ≤ l4 ∧ VS w0 w' own' p xs cl vs' RW' s2 K' (vs'.map (ga cl)) ∧ Dfs xs ((Gr.kids xs i).take m) (vs ++ [i]) vs' ∧ Kp ownO own' (vs.length + 1) w63 w' ∧
    RW'[vs.length]? = some raw ∧ (∀ q, q < vs.length → K'[q]? = K[q]? ∧ RW'[q]? = RW[q]?) ∧ Fil xs vs' K' vs.length m ∧ (∀ q, vs.length < q → ∀ M, Fil xs vs' K' q M), fun x _ => l4 - x.toNat,
   ⟨⟨0, _, _, _, _, _, rfl, by omega, h63, .nil _, Kp.refl _ _ _, by rw [← h.lenR, List.getElem?_concat_length], fun q hq => ⟨by rw [List.getElem?_append_left (by rw [h.lenK]; exact hq)], by rw [List.getElem?_append_left (by rw [h.lenR]; exact hq)]⟩, fun v k _ _ m _ hm => by omega, fun q hq M v k e1 => ?_⟩, trivial⟩, ?_⟩
  ·rw [List.getElem?_eq_none (by simp; omega)] at e1; cases e1
  rintro w70 _ ⟨m, own', vs', RW', s2, K', rfl, hm, hV, hD, hKp, hRn, hold, hFn, hFq⟩
  have haB : Apart xs (vs ++ [i]) := ha.push hns
  have hvB : ∀ v ∈ vs ++ [i], v < xs.length := fun v hv' => by
   rcases List.mem_append.1 hv' with h | h
   ·exact hv v h
   ·simp at h; subst h; exact hi
  have hkin : ∀ k ∈ Gr.kids xs i, k < xs.length := fun k hk => by
   obtain ⟨m', hm', e⟩ := List.getElem_of_mem hk
   have e2 := kids_get (by rw [← kids_len]; exact hm')
   rw [List.getElem?_eq_getElem hm', e] at e2
   cases e2; exact kid_lt hc hi (by rw [← kids_len]; exact hm')
  have haV := hD.apart haB
  have hvV := hD.lt hc (fun k hk => hkin k (List.mem_of_mem_take hk)) hvB
  obtain ⟨tl, htl⟩ := hD.grow
  have hvl' : vs.length + 1 ≤ vs'.length := by rw [htl]; simp
  have hvi : vs'[vs.length]? = some i := by rw [htl, List.append_assoc, List.getElem?_append_right (Nat.le_refl _)]; simp
  have own35 : ownO b35 = some (12 + 3 * vs.length) := bx63.own
  refine BoolK.mk (fun t => ?_) (fun t => ?_)
  ·have hmlt : m < l4 := by have := of_decide_eq_true t; omega
   have hmk4 : m < xs[i].ks.length := by omega
   have y70 := hV.loc.below
   obtain ⟨b72, ha2, z0⟩ := ksAt n8 y70 hmk4
   have hkid := hc _ (List.getElem_mem hi) _ (List.getElem_mem hmk4)
   have hkg : (Gr.kids xs i)[m]? = some (kid xs i m) := kids_get (by rw [nd_get hi]; exact hmk4)
   have hkv : xs[i].ks[m] = ((kid xs i m : Nat) : Int) := by
    rw [kid, nd_get hi, List.getElem?_eq_getElem hmk4]
    show _ = ((xs[i].ks[m].toNat : Nat) : Int)
    omega
   have hkl2 : kid xs i m < xs.length := kid_lt hc hi (by rw [nd_get hi]; exact hmk4)
   rw [hkv] at z0
   refine ⟨⟨by omega, by omega⟩, adK ha2 ⟨_, z0, DrewK.mk fun w74 x74 => ?_⟩⟩
   have hV := hV.ext x74
   obtain ⟨o35, s35⟩ := hKp.box b35 vs.length (by omega) bx63.blk.lt own35
   have bx70 : Blk w70 b35 _ _ := s35.trans bx63.blk
   have bx74 := bx70.ext x74
   refine ⟨cutW w74 (fun k => k == b35 || k == p.b21), cutW_cel fun k _ _ => rfl, _, _, _, by rw [cutW_cell (by simp [add_mk]), add_mk, bx74.cell]; rfl, _, _, by rw [cutW_cell (by simp), hV.x21.blk.cell]; rfl, Tryz.call51, ?_⟩
   refine (ih w74 own' vs' RW' s2 K' (kid xs i m) hV hkl2 haV hvV (by omega)).mono ?_
   rintro en w80 ⟨r, rfl, own2, vs2, RW2, s3, K2, hV2, hD2, hKp2, ⟨qr, rfl, vr, hvr, evr⟩, hold2, hF2⟩
   have o35' : own' b35 = some (12 + 3 * vs.length) := o35
   obtain ⟨o35b, s35b⟩ := hKp2.box b35 vs.length (by omega) bx74.lt o35'
   have cel : Cel (cutW w74 (fun k => k == b35 || k == p.b21)) w80 := cutW_cel fun k hk _ => by
    rw [Bool.or_eq_true, beq_iff_eq, beq_iff_eq] at hk
    rcases hk with rfl | rfl
    ·exact s35b
    ·have e1 : w80.heap[p.b21]? = _ := hV2.x21.blk
     have e2 : w74.heap[p.b21]? = _ := hV.x21.blk
     rw [e1, e2]
   obtain ⟨tl2, htl2⟩ := hD2.grow
   have hn0 : vs.length < vs'.length := by omega
   obtain ⟨hK2, hR2⟩ := hold2 vs.length hn0
   have hlK' : vs.length < K'.length := by rw [hV.lenK]; omega
   have hkk : K2[vs.length]? = some (K'[vs.length]'hlK') := by rw [hK2, List.getElem?_eq_getElem]
   have hkkl : (K'[vs.length]'hlK').length = l4 := by
    obtain ⟨_, _, _, g4, _⟩ := hV.nds vs.length raw i _ hRn hvi (List.getElem?_eq_getElem hlK')
    rw [g4, nd_get hi]; exact hl4.symm
   generalize K'[vs.length]'hlK' = kk at hkk hkkl
   have key : ∀ w84, VS w0 w84 own2 p xs cl vs2 RW2 s3 (K2.set vs.length (kk.set m (qr : Int))) (vs2.map (ga cl)) → Upd own2 own2 (10 + 3 * vs.length) w80 w84 → (fun w84 => (∃ (m' : Nat) (own' : OwnM Nat) (vs' : List Nat) (RW' : List Rw) (s2 : SL) (K' : List (List Int)), IntKind.wrap .i64 ((m : Int) + 1) = m' ∧ m' ≤ l4 ∧ VS w0 w84 own' p xs cl vs' RW' s2 K' (vs'.map (ga cl)) ∧ Dfs xs ((Gr.kids xs i).take m') (vs ++ [i]) vs' ∧ Kp ownO own' (vs.length + 1) w63 w84 ∧
    RW'[vs.length]? = some raw ∧ (∀ q, q < vs.length → K'[q]? = K[q]? ∧ RW'[q]? = RW[q]?) ∧ Fil xs vs' K' vs.length m' ∧ (∀ q, vs.length < q → ∀ M, Fil xs vs' K' q M)) ∧ l4 - (IntKind.wrap .i64 ((m : Int) + 1)).toNat < l4 - ((m : Nat) : Int).toNat) w84 := by
    intro w84 hV84 u84
    show (_ ∧ _)
    rw [wrap_succ (by omega)]
    refine ⟨⟨m + 1, own2, vs2, RW2, s3, _, rfl, by omega, hV84, ?_, ((hKp.trans (Kp.ext x74)).trans (hKp2.mono (by omega))).trans (Kp.upd u84 (by omega)), by rw [hR2]; exact hRn, fun q hq => ?_, ?_, fun q hq M => ?_⟩, by simp; omega⟩
    ·rw [List.take_add_one, hkg]; exact hD.append hD2
    ·obtain ⟨g1, g2⟩ := hold2 q (by omega)
     obtain ⟨g3, g4⟩ := hold q hq
     exact ⟨by rw [List.getElem?_set, if_neg (by omega), g1, g3], by rw [g2, g4]⟩
    ·intro v k e1 e2 m2 hm2 hm3
     rw [List.getElem?_set, if_pos rfl, if_pos (List.getElem?_eq_some_iff.1 hkk).1] at e2
     cases e2
     have hvv : v = i := by
      rw [htl2, List.getElem?_append_left hn0, hvi] at e1; cases e1; rfl
     subst hvv
     rw [List.getElem?_set]
     by_cases e : m = m2
     ·subst e
      exact ⟨qr, by rw [if_pos rfl, if_pos (by omega)], vr, hvr, evr⟩
     ·rw [if_neg e]
      have hk0 : K'[vs.length]? = some kk := by rw [← hK2]; exact hkk
      obtain ⟨pp, f1, u, f2, f3⟩ := hFn v kk hvi hk0 m2 (by simpa using hm2) (by omega)
      exact ⟨pp, f1, u, by rw [htl2, List.getElem?_append_left (List.getElem?_eq_some_iff.1 f2).1]; exact f2, f3⟩
    ·have hne : ¬ vs.length = q := by omega
     have eK : (K2.set vs.length (kk.set m (qr : Int)))[q]? = K2[q]? := by rw [List.getElem?_set, if_neg hne]
     rcases Nat.lt_or_ge q vs'.length with h1 | h1
     ·have := (hFq q hq M).grow (t := tl2) h1 (K' := K2.set vs.length (kk.set m (qr : Int))) (by rw [eK]; exact (hold2 q h1).1)
      rw [htl2]; exact this
     ·intro v k e1 e2
      rw [eK] at e2
      exact hF2 q h1 M v k e1 e2
   obtain ⟨b82, e82, set82⟩ := hV2.setK (m := m) (by rw [hR2]; exact hRn) hkk (by omega) (qr : Int) key
   refine ⟨_, rfl, cel, ⟨by omega, by show (m : Int) < ((l4 : Nat) : Int).toNat; omega⟩, ?_⟩
   rw [hrawk] at e82
   cases e82
   exact set82
  ·have hml : m = l4 := by have := of_decide_eq_false t; omega
   subst hml
   rw [← hkidl, List.take_length] at hD
   refine ⟨own', vs', RW', s2, K', hV, .new hns hD (.nil _), hkp63.trans (hKp.mono (by omega)), ⟨vs.length, by rw [hsl], i, hvi, Eqv.refl _ _⟩, hold, fun q hq M => ?_⟩
   rcases Nat.lt_or_ge vs.length q with h1 | h1
   ·exact hFq q h1 M
   ·have : q = vs.length := by omega
    subst this
    intro v k e1 e2 m2 hm2 _
    refine hFn v k e1 e2 m2 hm2 ?_
    have hvv : v = i := by rw [hvi] at e1; cases e1; rfl
    subst hvv
    obtain ⟨_, _, _, g4, _⟩ := hV.nds vs.length raw v k hRn e1 e2
    rw [g4, nd_get hi] at hm2; omega
end Go.Proofs.YtbiamhoonhjodadGreatDoor

namespace Go.Proofs.YtbiamhoonhjodadGreatDoor
open Go Go.V Go.Proofs
open Go.RowKit (Below)
/-! manystrand/graph.least -/
def N23 (a1 : Option Addr) (l1 : Nat) (c1 : Nat) (x2 : Int) (K : Int → Option Addr → Nat → Nat → World → Prop) (w : World) : Prop :=
 AllocK w (#[(.slice a1 l1 c1)]) 22 fun b3 w4 =>
 AllocK w4 (#[.int .i64 0, .slice none 0 0]) 24 fun b5 w6 =>
 ∃ a7 l7 c7, w6.cell? b3 = some (.slice a7 l7 c7) ∧
 (Calls Tryz.prog 15 #[(.slice a7 l7 c7)] w6 fun e10 w9 =>
 ∃ a8, ∃ l8, ∃ c8, e10 = .returned (.slice a8 l8 c8) ∧
 (AllocK w9 (#[.slice none 0 0]) 28 fun b11 w12 =>
 SetK w12 b11 (.slice a8 l8 c8) fun w13 =>
 ∃ m14, ∃ w15, Sem.run Tryz.prog (Instr.makeMap 89 none) w13 = .ok (.map m14) w15 ∧
 (AllocK w15 (#[.map none]) 89 fun b16 w17 =>
 SetK w17 b16 (.map m14) fun w18 =>
 AllocK w18 (#[.int .i64 0, .slice none 0 0]) 24 fun b19 w20 =>
 AllocK w20 (#[.nilFunc]) 90 fun b21 w22 =>
 SetK w22 b21 (.func (.func 51) #[] #[(.pointer (some b16)), (.pointer (some b11)), (.pointer (some b19)), (.pointer (some b3)), (.pointer (some b21))]) fun w23 =>
 ∃ (g24 : FuncId) (k25 : Array Value), w23.cell? b21 = some (.func (.func g24) #[] k25) ∧
 (Enters Tryz.prog g24 ∧
 (Calls Tryz.prog g24 (callArgs [] [(.int .i64 x2)] k25.toList) w23 fun e28 w27 =>
 ∃ x26, e28 = .returned (.int .i64 x26) ∧
 (∃ x29, w27.cell? (b19.add 0) = some (.int .i64 x29) ∧
 (∃ a30 l30 c30, w27.cell? (b19.add 1) = some (.slice a30 l30 c30) ∧
 (SetK w27 (b5.add 0) (.int .i64 x29) fun w31 =>
 SetK w31 (b5.add 1) (.slice a30 l30 c30) fun w32 =>
 ∃ x33, w32.cell? (b5.add 0) = some (.int .i64 x33) ∧
 (∃ a34 l34 c34, w32.cell? (b5.add 1) = some (.slice a34 l34 c34) ∧
 (K x33 a34 l34 c34 w32))))))))))
def ann23 : Ann := (.two .nil (.two .nil (.two .nil (.two .nil (.two .nil (.two .nil (.two .nil (.two .nil .nil))))))))
noncomputable def code23 : Code := match Tryz.f23.body with | some c => c | none => .skip
theorem calls23 (a1 : Option Addr) (l1 : Nat) (c1 : Nat) (x2 : Int) (K : Int → Option Addr → Nat → Nat → World → Prop) (w : World) (h : N23 a1 l1 c1 x2 K w) : Calls Tryz.prog 23 #[(.slice a1 l1 c1), (.int .i64 x2)] w fun en w' => ∃ (x35 : Int), ∃ (a36 : Option Addr), ∃ (l36 : Nat), ∃ (c36 : Nat), en = .returned (.agg #[(.int .i64 x35), (.slice a36 l36 c36)]) ∧ K x35 a36 l36 c36 w' :=
 fn_calls tabOk mixed Tryz.func23 (by kernel_rfl : Tryz.f23.body = some code23) ann23 [(.slice a1 l1 c1), (.int .i64 x2)] [(.agg [(.int .i64), .slice])] K w (by kernel_rfl) (by kernel_rfl) (by kernel_rfl) h
end Go.Proofs.YtbiamhoonhjodadGreatDoor

namespace Go.Proofs.YtbiamhoonhjodadGreatDoor
open Go Go.V Go.Proofs
open Go.RowKit (Below)
/-! manystrand/graph.Least -/
def N12 (x1 : Int) (a2 : Option Addr) (l2 : Nat) (c2 : Nat) (K : Int → Option Addr → Nat → Nat → Int → World → Prop) (w : World) : Prop :=
 AllocK w (#[(.int .i64 x1), (.slice a2 l2 c2)]) 24 fun b3 w4 =>
 AllocK w4 (#[.int .i64 0, .slice none 0 0]) 24 fun b5 w6 =>
 ∃ x7, w6.cell? (b3.add 0) = some (.int .i64 x7) ∧
 (∃ a8 l8 c8, w6.cell? (b3.add 1) = some (.slice a8 l8 c8) ∧
 (Calls Tryz.prog 5 #[(.agg #[(.int .i64 x7), (.slice a8 l8 c8)])] w6 fun e11 w10 =>
 ∃ p9, e11 = .returned (.bool p9) ∧
 (BoolK (!p9)
 (SetK w10 (b5.add 0) (.int .i64 0) fun w12 =>
 SetK w12 (b5.add 1) (.slice none 0 0) fun w13 =>
 ∃ x14, w13.cell? (b5.add 0) = some (.int .i64 x14) ∧
 (∃ a15 l15 c15, w13.cell? (b5.add 1) = some (.slice a15 l15 c15) ∧
 (K x14 a15 l15 c15 50 w13)))
 (∃ a16 l16 c16, w10.cell? (b3.add 1) = some (.slice a16 l16 c16) ∧
 (∃ x17, w10.cell? b3 = some (.int .i64 x17) ∧
 (Calls Tryz.prog 23 #[(.slice a16 l16 c16), (.int .i64 x17)] w10 fun e21 w20 =>
 ∃ x18, ∃ a19, ∃ l19, ∃ c19, e21 = .returned (.agg #[(.int .i64 x18), (.slice a19 l19 c19)]) ∧
 (SetK w20 (b5.add 0) (.int .i64 x18) fun w22 =>
 SetK w22 (b5.add 1) (.slice a19 l19 c19) fun w23 =>
 ∃ x24, w23.cell? (b5.add 0) = some (.int .i64 x24) ∧
 (∃ a25 l25 c25, w23.cell? (b5.add 1) = some (.slice a25 l25 c25) ∧
 (K x24 a25 l25 c25 0 w23)))))))))
def ann12 : Ann := (.two .nil (.two (.two .nil (.two (.two .nil .nil) .nil)) (.two .nil .nil)))
noncomputable def code12 : Code := match Tryz.f12.body with | some c => c | none => .skip
theorem calls12 (x1 : Int) (a2 : Option Addr) (l2 : Nat) (c2 : Nat) (K : Int → Option Addr → Nat → Nat → Int → World → Prop) (w : World) (h : N12 x1 a2 l2 c2 K w) : Calls Tryz.prog 12 #[(.agg #[(.int .i64 x1), (.slice a2 l2 c2)])] w fun en w' => ∃ (x26 : Int), ∃ (a27 : Option Addr), ∃ (l27 : Nat), ∃ (c27 : Nat), ∃ (x28 : Int), en = .returned (.tuple #[(.agg #[(.int .i64 x26), (.slice a27 l27 c27)]), (.int .i64 x28)]) ∧ K x26 a27 l27 c27 x28 w' :=
 fn_calls tabOk mixed Tryz.func12 (by kernel_rfl : Tryz.f12.body = some code12) ann12 [(.agg #[(.int .i64 x1), (.slice a2 l2 c2)])] [(.agg [(.int .i64), .slice]), (.one (.int .i64))] K w (by kernel_rfl) (by kernel_rfl) (by kernel_rfl) h
end Go.Proofs.YtbiamhoonhjodadGreatDoor

namespace Go.Proofs.YtbiamhoonhjodadGreatDoor
open Go Go.V Go.Proofs Go.V.Gr
open Go.RowKit (Below)
def outOf (xs : List Nd) (vs : List Nat) (K : List (List Int)) : List Nd := (List.range vs.length).map fun q => { nd xs (vs[q]?.getD 0) with ks := K[q]?.getD [] }
theorem outOf_get {xs : List Nd} {vs : List Nat} {K : List (List Int)} {q : Nat} (h : q < vs.length) : (outOf xs vs K)[q]? = some { nd xs vs[q] with ks := K[q]?.getD [] } := by
 rw [outOf, List.getElem?_map, List.getElem?_range h]; simp [List.getElem?_eq_getElem h]
theorem outOf_len {xs : List Nd} {vs : List Nat} {K : List (List Int)} : (outOf xs vs K).length = vs.length := by simp [outOf]
structure Ub (own : OwnM Nat) (w : World) (b : Nat) (cs : Array Value) (t : TypeId) : Prop where
 blk : Blk w b cs t
 free : own b = none
theorem Ub.ext {own : OwnM Nat} {w w' : World} {b t : Nat} {cs : Array Value} (h : Ub own w b cs t) (x : Ext w w') : Ub own w' b cs t := ⟨h.blk.ext x, h.free⟩
theorem Ub.fr {own own' : OwnM Nat} {w w' : World} {b t : Nat} {cs : Array Value} (h : Ub own w b cs t) (u : Fr own own' w w') : Ub own' w' b cs t := ⟨Fr.blk h.blk u h.free, u.free b h.blk.lt h.free⟩
structure VN (w : World) (own : OwnM Nat) (xs : List Nd) (vs : List Nat) (RW : List Rw) (s : SL) (K : List (List Int)) : Prop where
 out : RowR own 0 30 5 eN w s RW
 lenR : RW.length = vs.length
 lenK : K.length = vs.length
 nds : ∀ (q : Nat) (r : Rw) (v : Nat) (k : List Int), RW[q]? = some r → vs[q]? = some v → K[q]? = some k → r.kd = (nd xs v).kd ∧ r.n = (nd xs v).n ∧ r.tx = (nd xs v).tx ∧ k.length = (nd xs v).ks.length ∧
  RowR own (11 + 3 * q) 37 2 eFt w r.sf (nd xs v).fs ∧ RowR own (10 + 3 * q) 3 1 eI w r.sk k
theorem VN.frame {w w' : World} {own : OwnM Nat} {xs : List Nd} {vs : List Nat} {RW : List Rw} {s : SL} {K : List (List Int)} (h : VN w own xs vs RW s K) (k : ∀ b, b < w.heap.size → own b ≠ none → w'.heap[b]? = w.heap[b]?) : VN w' own xs vs RW s K :=
 ⟨h.out.frame k, h.lenR, h.lenK, fun q r v kk e1 e2 e3 => by
  obtain ⟨g1, g2, g3, g4, g5, g6⟩ := h.nds q r v kk e1 e2 e3
  exact ⟨g1, g2, g3, g4, g5.frame k, g6.frame k⟩⟩
section
variable {w0 w : World} {own : OwnM Nat} {p : Pl} {xs : List Nd} {cl : List Int} {vs : List Nat} {RW : List Rw} {s : SL} {K : List (List Int)} {mk : List Int}
theorem VS.isG (h : VS w0 w own p xs cl vs RW s K mk) (hF : ∀ q M, Fil xs vs K q M) : IsG xs vs (outOf xs vs K) := by
 have hk : ∀ q (hq : q < vs.length), (K[q]?.getD []).length = (nd xs vs[q]).ks.length := fun q hq => by
  obtain ⟨_, _, _, g4, _⟩ := h.nds q (RW[q]'(by rw [h.lenR]; exact hq)) vs[q] (K[q]'(by rw [h.lenK]; exact hq)) (List.getElem?_eq_getElem _) (List.getElem?_eq_getElem _) (List.getElem?_eq_getElem _)
  rw [List.getElem?_eq_getElem (by rw [h.lenK]; exact hq)]; exact g4
 have hnd : ∀ q (hq : q < vs.length), nd (outOf xs vs K) q = { nd xs vs[q] with ks := K[q]?.getD [] } := fun q hq => by
  have e : (outOf xs vs K)[q]? = _ := outOf_get (K := K) (xs := xs) hq
  unfold nd at e ⊢
  rw [e]; rfl
 refine ⟨outOf_len, fun q hq => ?_, fun q hq m hm => ?_⟩
 ·rw [hnd q hq]; exact hd_mk rfl rfl rfl rfl (hk q hq)
 ·rw [hnd q hq] at hm ⊢
  have hKq : q < K.length := by rw [h.lenK]; exact hq
  rw [List.getElem?_eq_getElem hKq] at hm ⊢
  obtain ⟨p, e1, u, e2, e3⟩ := hF q (m + 1) vs[q] K[q] (List.getElem?_eq_getElem hq) (List.getElem?_eq_getElem hKq) m hm (by omega)
  obtain ⟨hp, e4⟩ := List.getElem?_eq_some_iff.1 e2
  exact ⟨p, e1, hp, by rw [e4]; exact e3⟩
theorem VS.vn (h : VS w0 w own p xs cl vs RW s K mk) : VN w own xs vs RW s K := ⟨h.out, h.lenR, h.lenK, h.nds⟩
theorem VN.nodes (h : VN w own xs vs RW s K) (hw : ∀ x ∈ xs, NdW x) (hwf : ∀ x ∈ xs, (Lit.int .i64 x.n).wf = true) (hv : ∀ v ∈ vs, v < xs.length) (hs : vs.length ≤ maxLen) (hz : Sz xs) : RNds w s.1 s.2.1 (outOf xs vs K) := by
 refine ⟨h.out.1.rows eN_len RNd (by rw [outOf_len, h.lenR]) fun f q r y hr hy hf => ?_, by rw [h.out.len, h.lenR]; exact hs⟩
 have hq : q < vs.length := by rw [← h.lenR]; exact (List.getElem?_eq_some_iff.1 hr).1
 have hKq : q < K.length := by rw [h.lenK]; exact hq
 rw [outOf_get hq, List.getElem?_eq_getElem hKq] at hy
 cases hy
 obtain ⟨g1, g2, g3, g4, g5, g6⟩ := h.nds q r vs[q] K[q] hr (List.getElem?_eq_getElem hq) (List.getElem?_eq_getElem hKq)
 have hvq := hv _ (List.getElem_mem hq)
 have hx : nd xs vs[q] ∈ xs := by rw [nd_get hvq]; exact List.getElem_mem _
 have W := (hw _ hx).hd
 refine ⟨by rw [hf 0 (by omega), ← g1]; rfl, by rw [hf 1 (by omega), ← g2]; rfl, by rw [hf 2 (by omega), ← g3]; rfl, by have := W.kd; simp only [maxLen]; show (nd xs vs[q]).kd.size ≤ _; omega, by have := W.tx.2; simp only [maxLen]; show (nd xs vs[q]).tx.size ≤ _; omega,
  ⟨_, _, _, by rw [hf 3 (by omega)]; rfl, ?_, ?_⟩, ⟨_, _, _, by rw [hf 4 (by omega)]; rfl, OwnR.ints g6.1, ?_⟩, (hwf _ hx : (Lit.int .i64 (nd xs vs[q]).n).wf = true)⟩
 ·refine g5.1.rows eFt_len RFt rfl fun f' i x y hx' hy' hf' => ?_
  rw [hx'] at hy'; cases hy'
  have := (W.fs x (List.mem_of_getElem? hx')).1.2
  exact ⟨by rw [hf' 0 (by omega)]; rfl, by rw [hf' 1 (by omega)]; rfl, by simp only [maxLen]; omega⟩
 ·have e1 := g5.len
  have := W.len
  show r.sf.2.1 ≤ maxLen
  rw [e1]; simp only [maxLen]
  show (nd xs vs[q]).fs.length ≤ _; omega
 ·have e1 := g6.len
  have := hz.ks _ hx
  show r.sk.2.1 ≤ maxLen
  rw [e1, g4]; simp only [maxLen]; omega
end
def GD (w0 w : World) (s : SL) (out : List Nd) : Prop := ∃ own xs vs RW K, VN w own xs vs RW s K ∧ Mine own w0 w ∧ ∀ w', VN w' own xs vs RW s K → RNds w' s.1 s.2.1 out
theorem GD.nodes {w0 w : World} {s : SL} {out : List Nd} (h : GD w0 w s out) : RNds w s.1 s.2.1 out := by
 obtain ⟨own, xs, vs, RW, K, h1, _, h3⟩ := h; exact h3 w h1
theorem GD.below {w0 w : World} {s : SL} {out : List Nd} (h : GD w0 w s out) : Ext w0 w := by
 obtain ⟨own, xs, vs, RW, K, _, h2, _⟩ := h; exact h2.below
theorem GD.ext {w0 w w' : World} {s : SL} {out : List Nd} (h : GD w0 w s out) (x : Ext w w') : GD w0 w' s out := by
 obtain ⟨own, xs, vs, RW, K, h1, h2, h3⟩ := h
 exact ⟨own, xs, vs, RW, K, h1.frame fun b hb _ => x.block b hb, h2.ext x, h3⟩
theorem GD.but {w0 w w' : World} {s : SL} {out : List Nd} {b : Nat} (h : GD w0 w s out) (k : But b w w') (hb : b < w0.heap.size) {w00 : World} (x : Ext w00 w0) (hb2 : w00.heap.size ≤ b) : GD w00 w' s out := by
 obtain ⟨own, xs, vs, RW, K, h1, h2, h3⟩ := h
 have hn : own b = none := h2.fr.free b hb rfl
 refine ⟨own, xs, vs, RW, K, h1.frame fun c _ hc => k.block c fun e => hc (by rw [e]; exact hn), ⟨?_, fun c hc => h2.top c (by rw [← k.size]; exact hc)⟩, h3⟩
 have e1 := (Mine.below h2)
 have e2 : Ext w00 w' := k.below (x.trans e1) hb2
 exact ⟨e2.os, e2.tape, e2.output, e2.size, fun c hc _ => e2.block c hc, fun c hc _ => h2.fr.free c (Nat.lt_of_lt_of_le hc x.size) rfl⟩
theorem GD.rebase {w00 w0 w : World} {s : SL} {out : List Nd} (h : GD w0 w s out) (x : Ext w00 w0) : GD w00 w s out := by
 obtain ⟨own, xs, vs, RW, K, h1, h2, h3⟩ := h
 exact ⟨own, xs, vs, RW, K, h1, ⟨(Fr.of_ext _ x).trans h2.fr, h2.top⟩, h3⟩
theorem RNds.wf {w : World} {a : Option Addr} {l : Nat} {xs : List Nd} (h : RNds w a l xs) : ∀ x ∈ xs, (Lit.int .i64 x.n).wf = true := by
 intro x hx
 obtain ⟨i, hi, rfl⟩ := List.getElem_of_mem hx
 obtain ⟨_, _, _, _, _, _, _, _, _, e⟩ := ndAt h (Ext.refl w) hi
 exact e
set_option maxRecDepth 100000 in
theorem ctr23 (w : World) {a1 : Option Addr} {l1 : Nat} (c1 : Nat) {xs : List Nd} (h : RNds w a1 l1 xs) (hc : Closed xs) (hz : Sz xs) (hw : ∀ x ∈ xs, NdW x) (ht : Tb w) {i : Nat} (hi : i < xs.length) :
  Calls Tryz.prog 23 #[.slice a1 l1 c1, .int .i64 (i : Int)] w fun en w' => ∃ x a l c, en = .returned (.agg #[.int .i64 x, .slice a l c]) ∧
   (x = 0 ∧ ∃ out, Least xs i out ∧ GD w w' (a, l, c) out) := by
 refine calls23 _ _ _ _ _ w ?_
 have hn := hz.len
 refine Bx.new (fun _ => (none : Option Nat)) 4 fun b3 w4 x3 u3 e3 hb3 => ?_
 have L4 := (Mine.refl (ρ := Nat) w).upd u3
 generalize setOwn (fun _ => (none : Option Nat)) (some b3) 4 = own3 at x3 u3 L4
 refine AllocK.mk fun b5 w6 hb5 x5 e5 => ?_
 have L6 := L4.ext e5
 have x3 := x3.ext e5
 have x5 : Ub own3 w6 b5 _ _ := ⟨x5, L4.top b5 (by omega)⟩
 refine ⟨_, _, _, by rw [x3.blk.cell]; rfl, ?_⟩
 refine (ctr15 w6 c1 (RNds.at h L6.below) hc hz hw (ht.ext L6.below)).mono ?_
 rintro en w9 ⟨a8, l8, c8, rfl, cl, hcl, _, hO8, e9⟩
 have L9 := L6.ext e9
 have f9 : FRow own3 3 eI w9 (a8, l8, c8) cl := FRow.of hO8 L6.top
 have x3 := x3.ext e9
 have x5 := x5.ext e9
 refine ⟨_, _, _, rfl, Bx.new own3 5 fun b11 w12 x11 u11 e12 hb11 => Bx.set x11 (by simp) fun w13 x11 u13 => ?_⟩
 have L13 := (L9.upd u11).upd u13
 have f13 := (f9.upd u11).upd u13
 have x3 := (x3.upd u11 (by decide)).upd u13 (by decide)
 have x5 := (x5.fr u11.fr).fr u13.fr
 generalize setOwn own3 (some b11) 5 = own11 at x3 x5 x11 u11 u13 L13 f13
 obtain ⟨w15, bm, q15, mx, u15, e15⟩ := Mx.new (P := Tryz.prog) (t := 89) eK w13 0 own11 1
 have L15 := L13.upd u15
 have f15 := f13.upd u15
 have x3 := x3.upd u15 (by decide)
 have x5 := x5.fr u15.fr
 have x11 := x11.upd u15 (by decide)
 generalize setOwn own11 (some bm) 1 = own15 at x3 x5 x11 mx u15 L15 f15
 refine ⟨some bm, w15, q15, Bx.new own15 6 fun b16 w17 x16 u16 e17 hb16 => Bx.set x16 (by simp) fun w18 x16 u18 => ?_⟩
 have L18 := (L15.upd u16).upd u18
 have f18 := (f15.upd u16).upd u18
 have x3 := (x3.upd u16 (by decide)).upd u18 (by decide)
 have x5 := (x5.fr u16.fr).fr u18.fr
 have x11 := (x11.upd u16 (by decide)).upd u18 (by decide)
 have mx := (mx.upd u16 (by decide)).upd u18 (by decide)
 generalize setOwn own15 (some b16) 6 = own16 at x3 x5 x11 x16 mx u16 u18 L18 f18
 refine Bx.new own16 2 fun b19 w20 x19 u19 e20 hb19 => ?_
 have L20 := L18.upd u19
 have f20 := f18.upd u19
 have x3 := x3.upd u19 (by decide)
 have x5 := x5.fr u19.fr
 have x11 := x11.upd u19 (by decide)
 have x16 := x16.upd u19 (by decide)
 have mx := mx.upd u19 (by decide)
 generalize setOwn own16 (some b19) 2 = own19 at x3 x5 x11 x16 x19 mx u19 L20 f20
 refine Bx.new own19 7 fun b21 w22 x21 u21 e22 hb21 => Bx.set x21 (by simp) fun w23 x21 u23 => ?_
 have L23 := (L20.upd u21).upd u23
 have f23 := (f20.upd u21).upd u23
 have x3 := (x3.upd u21 (by decide)).upd u23 (by decide)
 have x5 := (x5.fr u21.fr).fr u23.fr
 have x11 := (x11.upd u21 (by decide)).upd u23 (by decide)
 have x16 := (x16.upd u21 (by decide)).upd u23 (by decide)
 have x19 := (x19.upd u21 (by decide)).upd u23 (by decide)
 have mx := (mx.upd u21 (by decide)).upd u23 (by decide)
 generalize setOwn own19 (some b21) 7 = own21 at x3 x5 x11 x16 x19 x21 mx u21 u23 L23 f23
 have V23 : VS w w23 own21 ⟨b3, b11, b16, b19, b21, bm, a1, l1, c1, (a8, l8, c8)⟩ xs cl [] [] (none, 0, 0) [] ([].map (ga cl)) :=
  ⟨L23, x3, by simpa using x11, by simpa using x16, by simpa [Pl.fn] using x21, x19, f23, mx, RowR.nil _ _ _ _ _ _, rfl, rfl, fun q r v k e => by simp at e⟩
 refine ⟨_, _, by rw [V23.x21.blk.cell]; rfl, Tryz.call51, ?_⟩
 refine (ctr51 h hc hz hcl (xs.length + 1) w23 own21 [] [] (none, 0, 0) [] i V23 hi (fun a b x y e => by simp at e) (fun v hv => by simp at hv) (by simp)).mono ?_
 rintro en w27 ⟨r, rfl, own', vs', RW', s', K', V, D, kp, _, _, hF⟩
 refine ⟨_, rfl, _, by rw [add_mk, V.x19.blk.cell]; rfl, _, _, _, by rw [add_mk, V.x19.blk.cell]; rfl, ?_⟩
 have x5 := x5.fr kp.fr
 have hF' : ∀ q M, Fil xs vs' K' q M := fun q M => hF q (by simp) M
 have haV := D.apart (fun a b x y e => by simp at e)
 have hvV := D.lt hc (by simpa using hi) (by simp)
 have hvl := vs_len haV hvV
 have G := V.isG hF'
 have N27 := V.vn
 rw [add_mk, add_mk]
 refine SetK.mk x5.blk (by simp) fun w31 g31 k31 => SetK.mk g31 (by simp) fun w32 g32 k32 => ?_
 have N32 := (N27.frame (w' := w31) fun b _ hb => k31.block b fun e => hb (by rw [e]; exact x5.free)).frame (w' := w32) fun b _ hb => k32.block b fun e => hb (by rw [e]; exact x5.free)
 have hb0 : w.heap.size ≤ b5 := by have := e3.size; omega
 have R := fun w' (N : VN w' own' xs vs' RW' s' K') => N.nodes hw (RNds.wf h) hvV (by simp only [maxLen]; omega) hz
 have L32 : Mine own' w w32 := by
  have e2 : Ext w w32 := k32.below (k31.below V.loc.below hb0) hb0
  exact ⟨⟨e2.os, e2.tape, e2.output, e2.size, fun c hc _ => e2.block c hc, fun c hc _ => V.loc.fr.free c hc rfl⟩, fun c hc => V.loc.top c (by rw [← k31.size, ← k32.size]; exact hc)⟩
 exact ⟨_, by rw [g32.cell]; rfl, _, _, _, by rw [g32.cell]; rfl, rfl, _, ⟨vs', D, G⟩, own', xs, vs', RW', K', N32, L32, R⟩
end Go.Proofs.YtbiamhoonhjodadGreatDoor

namespace Go.Proofs.YtbiamhoonhjodadGreatDoor
open Go Go.V Go.Proofs Go.V.Gr
open Go.RowKit (Below)
def Lim (xs : List Nd) : Prop := ∀ x ∈ xs, x.fs.length ≤ 1000000 ∧ x.ks.length ≤ 1000000
theorem prS_of {s : ByteArray} (h : atomD s = true) : prS s := by
 simp only [atomD, prnD, Bool.and_eq_true, decide_eq_true_eq] at h
 exact ⟨h.1, by omega⟩
theorem prS_nil : prS ⟨#[]⟩ := ⟨rfl, by decide⟩
theorem prS_sort {s : ByteArray} (h : sortD s = true) : prS s := by
 have := sortD_iff.1 h
 simp only [sorts, List.mem_cons, List.not_mem_nil, or_false] at this
 rcases this with rfl | rfl | rfl | rfl | rfl | rfl | rfl | rfl | rfl | rfl <;> exact ⟨by decide, by decide⟩
theorem NdOk.w {x : Nd} {n : Int} (h : NdOk x n) (hl : x.fs.length ≤ 1000000) : NdW x := by
 rcases h with ⟨h1, h2, h3, h4, h5, h6⟩ | ⟨h1, h2, h3, h4, h5, h6⟩ | ⟨h1, h2, h3, h4, h5, h6⟩ | ⟨h1, h2, h3, h4, h5, h6⟩
 ·exact ⟨⟨by rw [h1]; decide, ⟨by omega, by omega⟩, by rw [h2]; exact prS_nil, by rw [h3]; simp, hl⟩, ⟨by rw [KdOk, h1]; decide, by rw [h3, h4]; rfl⟩⟩
 ·exact ⟨⟨by rw [h1]; decide, ⟨by omega, by omega⟩, by rw [h2]; exact prS_nil, by rw [h3]; simp, hl⟩, ⟨by rw [KdOk, h1]; decide, by rw [h3, h4]; rfl⟩⟩
 ·exact ⟨⟨by rw [h1]; decide, ⟨by omega, by omega⟩, prS_sort h2, by rw [h3]; simp, hl⟩, ⟨by rw [KdOk, h1]; decide, by rw [h3, h4]; rfl⟩⟩
 ·refine ⟨⟨by rw [h1]; decide, ⟨by omega, by omega⟩, prS_of h3, fun f hf => ?_, hl⟩, ⟨by rw [KdOk, h1]; decide, h4⟩⟩
  obtain ⟨i, hi⟩ := List.getElem?_of_mem hf
  have := (h5 i f hi).1
  unfold featD at this
  split at this
  ·have := of_decide_eq_true this
   exact ⟨by rw [this.2.2]; exact prS_nil, ⟨by omega, by omega⟩⟩
  ·rename_i h0
   exact ⟨prS_of this, ⟨by omega, by omega⟩⟩
section
variable {root : Int} {xs : List Nd} {most : Nat}
theorem GrOk.closed (h : GrOk root xs most) : Closed xs := by
 intro x hx k hk
 rcases h.nds x hx with ⟨_, _, _, h4, _⟩ | ⟨_, _, _, h4, _⟩ | ⟨_, _, _, h4, _⟩ | ⟨_, _, _, _, _, h6⟩
 ·rw [h4] at hk; cases hk
 ·rw [h4] at hk; cases hk
 ·rw [h4] at hk; cases hk
 ·exact h6 k hk
theorem GrOk.w (h : GrOk root xs most) (hl : Lim xs) : ∀ x ∈ xs, NdW x := fun x hx => (h.nds x hx).w (hl x hx).1
theorem GrOk.sz (h : GrOk root xs most) (hm : most ≤ 1000000) (hl : Lim xs) : Sz xs := ⟨by have := h.most; omega, fun x hx => (hl x hx).1, fun x hx => (hl x hx).2⟩
theorem GrOk.lt (h : GrOk root xs most) : root.toNat < xs.length := by have := h.root; omega
end
theorem setTwo {w : World} {b t : Nat} {z0 z1 v0 v1 : Value} {F : World → Prop} (hb : Blk w b #[z0, z1] t) (h : ∀ w', Blk w' b #[v0, v1] t → But b w w' → F w') :
  SetK w ((⟨b, 0, none⟩ : Addr).add 0) v0 fun w2 => SetK w2 ((⟨b, 0, none⟩ : Addr).add 1) v1 F := by
 rw [add_mk, add_mk]
 refine SetK.mk hb (by simp) fun w2 h2 g2 => SetK.mk h2 (by simp) fun w3 h3 g3 => h w3 (by simpa using h3) (g2.trans g3)
theorem blkAt2 {w : World} {b t : Nat} {v0 v1 : Value} (h : Blk w b #[v0, v1] t) : w.cell? ((⟨b, 0, none⟩ : Addr).add 0) = some v0 ∧ w.cell? ((⟨b, 0, none⟩ : Addr).add 1) = some v1 ∧ w.cell? (⟨b, 0, none⟩ : Addr) = some v0 :=
 ⟨by rw [add_mk, h.cell]; rfl, by rw [add_mk, h.cell]; rfl, by rw [h.cell]; rfl⟩
def Ans (w w' : World) (xs : List Nd) (j : Option Nat) (err : Int) (x : Int) (s : SL) (e : Int) : Prop :=
 Ext w w' ∧ x = 0 ∧ ((∃ i, j = some i ∧ e = 0 ∧ ∃ out, Least xs i out ∧ GD w w' s out) ∨ (j = none ∧ e = err ∧ s = (none, 0, 0)))
theorem ctr12 (w : World) (root : Int) (xs : List Nd) {a : Option Addr} {l : Nat} (c : Nat) (h : RNds w a l xs) (hl : Lim xs) (ht : Tb w) :
  Calls Tryz.prog 12 #[.agg #[.int .i64 root, .slice a l c]] w fun en w' => ∃ x a' l' c' e, en = .returned (.tuple #[.agg #[.int .i64 x, .slice a' l' c'], .int .i64 e]) ∧
   ((GrOk root xs 1000 ∧ Ans w w' xs (some root.toNat) 50 x (a', l', c') e) ∨ (¬ GrOk root xs 1000 ∧ Ans w w' xs none 50 x (a', l', c') e)) := by
 refine calls12 _ _ _ _ _ w ?_
 refine AllocK.mk fun b3 w4 hb3 hB3 x4 => AllocK.mk fun b5 w6 hb5 hB5 x6 => ?_
 have hB3 := hB3.ext x6
 have y6 := x4.trans x6
 obtain ⟨g0, g1, g2⟩ := blkAt2 hB3
 refine ⟨_, g0, _, _, _, g1, (ctr5 w6 root xs c (RNds.at h y6)).mono ?_⟩
 rintro en w10 ⟨p, rfl, hp, x10⟩
 have y10 := y6.trans x10
 have hB3 := hB3.ext x10
 have hB5 := hB5.ext x10
 have hbw : w.heap.size ≤ b5 := by have := x4.size; omega
 obtain ⟨g0, g1, g2⟩ := blkAt2 hB3
 refine ⟨_, rfl, BoolK.mk (fun t => ?_) (fun t => ?_)⟩
 ·refine setTwo hB5 fun w13 hB13 k13 => ?_
  obtain ⟨f0, f1, _⟩ := blkAt2 hB13
  exact ⟨_, f0, _, _, _, f1, .inr ⟨fun e => (by rw [hp.2 e] at t; cases t), k13.below y10 hbw, rfl, .inr ⟨rfl, rfl, rfl⟩⟩⟩
 ·have ok := hp.1 (by simpa using t)
  refine ⟨_, _, _, g1, _, g2, ?_⟩
  have hr : root = ((root.toNat : Nat) : Int) := by have := ok.root; omega
  have := ctr23 w10 c (RNds.at h y10) ok.closed (ok.sz (by omega) hl) (ok.w hl) (ht.ext y10) ok.lt
  rw [← hr] at this
  refine this.mono ?_
  rintro en w20 ⟨x, a', l', c', rfl, rfl, out, hL, hG⟩
  refine ⟨_, _, _, _, rfl, ?_⟩
  refine setTwo (hB5.ext hG.below) fun w23 hB23 k23 => ?_
  obtain ⟨f0, f1, _⟩ := blkAt2 hB23
  exact ⟨_, f0, _, _, _, f1, .inl ⟨ok, k23.below (y10.trans hG.below) hbw, rfl, .inl ⟨_, rfl, rfl, out, hL, hG.but k23 hB5.lt y10 hbw⟩⟩⟩
end Go.Proofs.YtbiamhoonhjodadGreatDoor

namespace Go.Proofs.YtbiamhoonhjodadGreatDoor
open Go Go.V Go.Proofs
open Go.RowKit (Below)
/-! manystrand/manystrandlaw05.light -/
def N4 (x1 : Int) (a2 : Option Addr) (l2 : Nat) (c2 : Nat) (K : Bool → World → Prop) (w : World) : Prop :=
 AllocK w (#[(.int .i64 x1), (.slice a2 l2 c2)]) 24 fun b3 w4 =>
 ∃ a5 l5 c5, w4.cell? (b3.add 1) = some (.slice a5 l5 c5) ∧
 (∃ (I6 : Int → Int → World → Prop) (μ7 : Int → Int → World → Nat),
 (I6 0 0 w4 ∧ True) ∧
 ∀ w8 x9 x10, I6 x9 x10 w8 →
 BoolK (decide (x10 < l5))
 ((0 ≤ x10 ∧ x10 < l5) ∧
 AddrK a5 fun b11 =>
 ∃ s12, w8.cell? ((b11.add (x10.toNat * 5)).add 0) = some (.string s12) ∧
 (∃ x13, w8.cell? ((b11.add (x10.toNat * 5)).add 1) = some (.int .i64 x13) ∧
 (∃ s14, w8.cell? ((b11.add (x10.toNat * 5)).add 2) = some (.string s14) ∧
 (∃ a15 l15 c15, w8.cell? ((b11.add (x10.toNat * 5)).add 3) = some (.slice a15 l15 c15) ∧
 (∃ a16 l16 c16, w8.cell? ((b11.add (x10.toNat * 5)).add 4) = some (.slice a16 l16 c16) ∧
 (AllocK w8 (#[.string ⟨#[]⟩, .int .i64 0, .string ⟨#[]⟩, .slice none 0 0, .slice none 0 0]) 30 fun b17 w18 =>
 SetK w18 (b17.add 0) (.string s12) fun w19 =>
 SetK w19 (b17.add 1) (.int .i64 x13) fun w20 =>
 SetK w20 (b17.add 2) (.string s14) fun w21 =>
 SetK w21 (b17.add 3) (.slice a15 l15 c15) fun w22 =>
 SetK w22 (b17.add 4) (.slice a16 l16 c16) fun w23 =>
 ∃ a24 l24 c24, w23.cell? (b17.add 3) = some (.slice a24 l24 c24) ∧
 (∃ a25 l25 c25, w23.cell? (b17.add 4) = some (.slice a25 l25 c25) ∧
 (∃ s26, w23.cell? (b17.add 2) = some (.string s26) ∧
 (BoolK (decide (((s26.size : Nat) : Int) > 200))
 (K false w23)
 (BoolK (decide ((IntKind.wrap .i64 (x9 + (IntKind.wrap .i64 (l24 + l25))) : Int) > 5000))
 (K false w23)
 (∃ a27 l27 c27, w23.cell? (b17.add 3) = some (.slice a27 l27 c27) ∧
 (∃ (I28 : Int → World → Prop) (μ29 : Int → World → Nat),
 (I28 0 w23 ∧ True) ∧
 ∀ w30 x31, I28 x31 w30 →
 BoolK (decide (x31 < l27))
 ((0 ≤ x31 ∧ x31 < l27) ∧
 AddrK a27 fun b32 =>
 ∃ x33, w30.cell? ((b32.add (x31.toNat * 2)).add 0) = some (.int .i64 x33) ∧
 (∃ s34, w30.cell? ((b32.add (x31.toNat * 2)).add 1) = some (.string s34) ∧
 (AllocK w30 (#[.int .i64 0, .string ⟨#[]⟩]) 37 fun b35 w36 =>
 SetK w36 (b35.add 0) (.int .i64 x33) fun w37 =>
 SetK w37 (b35.add 1) (.string s34) fun w38 =>
 ∃ s39, w38.cell? (b35.add 1) = some (.string s39) ∧
 (BoolK (decide (((s39.size : Nat) : Int) > 200))
 (K false w38)
 (I28 (IntKind.wrap .i64 (x31 + 1)) w38 ∧ μ29 (IntKind.wrap .i64 (x31 + 1)) w38 < μ29 x31 w30)))))
 (I6 (IntKind.wrap .i64 (x9 + (IntKind.wrap .i64 (l24 + l25)))) (IntKind.wrap .i64 (x10 + 1)) w30 ∧ μ7 (IntKind.wrap .i64 (x9 + (IntKind.wrap .i64 (l24 + l25)))) (IntKind.wrap .i64 (x10 + 1)) w30 < μ7 x9 x10 w8)))))))))))))
 (∃ a40 l40 c40, w8.cell? (b3.add 1) = some (.slice a40 l40 c40) ∧
 (K (decide ((l40 : Int) ≤ 1100)) w8)))
def ann4 : Ann := (.two .nil (.two .nil (.two (.two .nil (.one (.loop [(3, (.one (.int .i64))), (11, (.one (.int .i64)))] [1, 9, 10] (.two .nil (.two (.two .nil .nil) (.two (.one (.two .nil (.two .nil (.two (.two .nil (.two (.two .nil .nil) .nil)) (.two .nil (.one (.loop [(35, (.one (.int .i64)))] [1, 3, 9, 10, 11, 33, 34] (.two .nil (.two (.two .nil .nil) (.two (.one (.two .nil (.two .nil (.two (.two .nil .nil) .nil)))) .nil)))))))))) .nil)))))) (.two .nil .nil))))
noncomputable def code4 : Code := match Tryz.f4.body with | some c => c | none => .skip
theorem calls4 (x1 : Int) (a2 : Option Addr) (l2 : Nat) (c2 : Nat) (K : Bool → World → Prop) (w : World) (h : N4 x1 a2 l2 c2 K w) : Calls Tryz.prog 4 #[(.agg #[(.int .i64 x1), (.slice a2 l2 c2)])] w fun en w' => ∃ (p41 : Bool), en = .returned (.bool p41) ∧ K p41 w' :=
 fn_calls tabOk mixed Tryz.func4 (by kernel_rfl : Tryz.f4.body = some code4) ann4 [(.agg #[(.int .i64 x1), (.slice a2 l2 c2)])] [(.one .bool)] K w (by kernel_rfl) (by kernel_rfl) (by kernel_rfl) h
end Go.Proofs.YtbiamhoonhjodadGreatDoor

namespace Go.Proofs.YtbiamhoonhjodadGreatDoor
open Go Go.V Go.Proofs Go.V.Gr
open Go.RowKit (Below)
section
variable {w : World} {b t : Nat} {v0 v1 v2 v3 v4 : Value}
theorem blkAt5 (h : Blk w b #[v0, v1, v2, v3, v4] t) {w' : World} (k : Ext w w') : w'.cell? (⟨b, 0, none⟩ : Addr) = some v0 ∧ w'.cell? ((⟨b, 0, none⟩ : Addr).add 1) = some v1 ∧ w'.cell? ((⟨b, 0, none⟩ : Addr).add 2) = some v2 ∧ w'.cell? ((⟨b, 0, none⟩ : Addr).add 3) = some v3 ∧ w'.cell? ((⟨b, 0, none⟩ : Addr).add 4) = some v4 := by
 have h := h.ext k
 exact ⟨by rw [h.cell]; rfl, by rw [add_mk, h.cell]; rfl, by rw [add_mk, h.cell]; rfl, by rw [add_mk, h.cell]; rfl, by rw [add_mk, h.cell]; rfl⟩
end
theorem not_iff_false {P : Prop} (h : ¬ P) : (false = true ↔ P) := ⟨fun e => (by cases e), fun e => absurd e h⟩
def LimT (xs : List Nd) : Prop := ∀ x ∈ xs, x.tx.size ≤ 1000000000000
theorem NdOk.lens {x : Nd} {n : Int} (h : NdOk x n) : x.ks.length = x.fs.length := by
 rcases h with ⟨_, _, h3, h4, _⟩ | ⟨_, _, h3, h4, _⟩ | ⟨_, _, h3, h4, _⟩ | ⟨_, _, _, h4, _⟩
 ·rw [h3, h4]; rfl
 ·rw [h3, h4]; rfl
 ·rw [h3, h4]; rfl
 ·exact h4
def LightNd (x : Nd) : Prop := x.tx.size ≤ 200 ∧ x.fs.length + x.ks.length ≤ 5000 ∧ ∀ f ∈ x.fs, f.2.size ≤ 200
def LightOk (xs : List Nd) : Prop := xs.length ≤ 1100 ∧ ∀ x ∈ xs, LightNd x
def Szd (xs : List Nd) : Prop := ∀ x ∈ xs, x.fs.length ≤ 1000000000000000 ∧ x.ks.length ≤ 1000000000000000
theorem ctr4 (w : World) (root : Int) (xs : List Nd) {a : Option Addr} {l : Nat} (c : Nat) (h : RNds w a l xs) (hz : Szd xs) :
  Calls Tryz.prog 4 #[.agg #[.int .i64 root, .slice a l c]] w fun en w' => ∃ p, en = .returned (.bool p) ∧ ((p = true → LightOk xs) ∧ Ext w w') := by
 refine calls4 _ _ _ _ _ w ?_
 have e1 := h.len
 have k1 := h.2
 simp only [maxLen] at k1
 refine AllocK.mk fun b w4 hb hB x4 => ?_
 obtain ⟨_, g1, g0⟩ := blkAt2 hB
 refine ⟨_, _, _, g1, fun n i w' => ∃ k : Nat, i = k ∧ k ≤ xs.length ∧ Ext w4 w' ∧ 0 ≤ n ∧ n ≤ 5000 ∧ ∀ i (x : Nd), i < k → xs[i]? = some x → LightNd x, fun _ i _ => xs.length - i.toNat, ⟨⟨0, rfl, by omega, Ext.refl _, by omega, by omega, fun i x hi => by omega⟩, trivial⟩, ?_⟩
 rintro w8 n _ ⟨k, rfl, hk, x8, hn0, hn1, hall⟩
 have y8 := x4.trans x8
 refine BoolK.mk (fun t => ?_) (fun t => ?_)
 ·have hlt : k < xs.length := by have := of_decide_eq_true t; omega
  have hx : xs[k] ∈ xs := List.getElem_mem hlt
  obtain ⟨z1, z2⟩ := hz _ hx
  obtain ⟨b1, ha, q0, q1, q2, _, _, ⟨a3, l3, c3, q5, q6⟩, ⟨a4, l4, c4, q7, q8⟩, _⟩ := ndAt h y8 hlt
  have e3 := q6.len; have e4 := q8.len
  refine ⟨⟨by omega, by omega⟩, adK ha ⟨_, q0, _, q1, _, q2, _, _, _, q5, _, _, _, q7, ?_⟩⟩
  refine local5 fun b17 w23 hb17 hB17 x23 => ?_
  obtain ⟨_, _, h2, h3, h4⟩ := blkAt5 hB17 (Ext.refl w23)
  refine ⟨_, _, _, h3, _, _, _, h4, _, h2, BoolK.mk (fun t1 => ⟨fun e => (by cases e), y8.trans x23⟩) (fun t1 => ?_)⟩
  have t1 := of_decide_eq_false t1
  rw [wrap_id (x := (l3 : Nat) + (l4 : Nat)) (by omega) (by omega), wrap_id (by omega) (by omega)]
  refine BoolK.mk (fun t2 => ⟨fun e => (by cases e), y8.trans x23⟩) (fun t2 => ?_)
  have t2 := of_decide_eq_false t2
  refine ⟨_, _, _, h3, fun i w' => ∃ k' : Nat, i = k' ∧ k' ≤ xs[k].fs.length ∧ Ext w23 w' ∧ ∀ i (f : Ft), i < k' → xs[k].fs[i]? = some f → f.2.size ≤ 200, fun i _ => xs[k].fs.length - i.toNat, ⟨⟨0, rfl, by omega, Ext.refl _, fun i x hi => by omega⟩, trivial⟩, ?_⟩
  rintro w30 _ ⟨k', rfl, hk', x30, hall'⟩
  have y30 := (y8.trans x23).trans x30
  refine BoolK.mk (fun t3 => ?_) (fun t3 => ?_)
  ·have hlt' : k' < xs[k].fs.length := by have := of_decide_eq_true t3; omega
   obtain ⟨b2, ha2, r0, r1, _⟩ := ftAt q6 (x23.trans x30) hlt'
   refine ⟨⟨by omega, by omega⟩, adK ha2 ⟨_, r0, _, r1, ?_⟩⟩
   refine local2 fun b35 w38 hb35 hB35 x38 => ?_
   obtain ⟨_, u1, _⟩ := blkAt2 hB35
   refine ⟨_, u1, BoolK.mk (fun t4 => ⟨fun e => (by cases e), y30.trans x38⟩) (fun t4 => ?_)⟩
   have t4 := of_decide_eq_false t4
   rw [wrap_succ (by omega)]
   refine ⟨⟨k' + 1, rfl, by omega, x30.trans x38, fun i f hi hf => ?_⟩, by simp; omega⟩
   rcases Nat.lt_or_ge i k' with h | h
   ·exact hall' i f h hf
   ·have : i = k' := by omega
    subst this
    rw [List.getElem?_eq_getElem hlt'] at hf; cases hf
    omega
  ·have : k' = xs[k].fs.length := by have := of_decide_eq_false t3; omega
   subst this
   rw [wrap_succ (by omega)]
   refine ⟨⟨k + 1, rfl, by omega, (x8.trans x23).trans x30, by omega, by omega, fun i x hi hxi => ?_⟩, by simp; omega⟩
   rcases Nat.lt_or_ge i k with h | h
   ·exact hall i x h hxi
   ·have : i = k := by omega
    subst this
    rw [List.getElem?_eq_getElem hlt] at hxi; cases hxi
    refine ⟨by omega, by omega, fun f hf => ?_⟩
    obtain ⟨j, hj⟩ := List.getElem?_of_mem hf
    exact hall' j f (List.getElem?_eq_some_iff.1 hj).1 hj
 ·have : k = xs.length := by have := of_decide_eq_false t; omega
  subst this
  obtain ⟨_, g1, _⟩ := blkAt2 (hB.ext x8)
  refine ⟨_, _, _, g1, fun t1 => ⟨by have := of_decide_eq_true t1; omega, fun x hx => ?_⟩, y8⟩
  obtain ⟨j, hj⟩ := List.getElem?_of_mem hx
  exact hall j x (List.getElem?_eq_some_iff.1 hj).1 hj
theorem LightOk.lim {xs : List Nd} (h : LightOk xs) : Lim xs ∧ LimT xs := ⟨fun x hx => by have := (h.2 x hx).2.1; omega, fun x hx => by have := (h.2 x hx).1; omega⟩
theorem Ans.rows {w w' : World} {xs : List Nd} {j : Option Nat} {err x e : Int} {s : SL} (h : Ans w w' xs j err x s e) :
  Ext w w' ∧ x = 0 ∧ ∃ out, RNds w' s.1 s.2.1 out ∧ ((∃ i, j = some i ∧ e = 0 ∧ Least xs i out ∧ GD w w' s out) ∨ (j = none ∧ e = err ∧ out = [] ∧ s = (none, 0, 0))) := by
 obtain ⟨h1, h2, h3⟩ := h
 refine ⟨h1, h2, ?_⟩
 rcases h3 with ⟨i, e1, e2, out, hL, hG⟩ | ⟨e1, e2, rfl⟩
 ·exact ⟨out, hG.nodes, .inl ⟨i, e1, e2, hL, hG⟩⟩
 ·exact ⟨[], ⟨Rows.nil _ _ _ _, by simp⟩, .inr ⟨e1, e2, rfl, rfl⟩⟩
theorem NdOk.of_hd {x y : Nd} {n m : Int} (h : NdOk x n) (e : y.hd = x.hd) (hk : ∀ k ∈ y.ks, 0 ≤ k ∧ k < m) : NdOk y m := by
 obtain ⟨e1, e2, e3, e4⟩ := hd_parts e
 have e5 := hd_len e
 have nil : x.ks = [] → y.ks = [] := fun h0 => List.length_eq_zero_iff.1 (by rw [e5, h0]; rfl)
 rcases h with ⟨h1, h2, h3, h4, h5⟩ | ⟨h1, h2, h3, h4, h5⟩ | ⟨h1, h2, h3, h4, h5⟩ | ⟨h1, h2, h3, h4, h5, _⟩
 ·exact .inl ⟨by rw [e1]; exact h1, by rw [e3]; exact h2, by rw [e4]; exact h3, nil h4, by rw [e2]; exact h5⟩
 ·exact .inr (.inl ⟨by rw [e1]; exact h1, by rw [e3]; exact h2, by rw [e4]; exact h3, nil h4, by rw [e2]; exact h5⟩)
 ·exact .inr (.inr (.inl ⟨by rw [e1]; exact h1, by rw [e3]; exact h2, by rw [e4]; exact h3, nil h4, by rw [e2]; exact h5⟩))
 ·exact .inr (.inr (.inr ⟨by rw [e1]; exact h1, by rw [e2]; exact h2, by rw [e3]; exact h3, by rw [e5, e4]; exact h4, by rw [e4]; exact h5, hk⟩))
theorem Least.ok {root : Int} {xs out : List Nd} {most i : Nat} (h : Least xs i out) (g : GrOk root xs most) (hi : i < xs.length) : GrOk 0 out most := by
 obtain ⟨vs, d, G⟩ := h
 have hvV := d.lt g.closed (by simpa using hi) (by simp)
 have haV := d.apart (fun a b x y e => by simp at e)
 have hvl := vs_len haV hvV
 have hm := g.most
 have hp := Least.pos ⟨vs, d, G⟩
 have hc := Least.closed ⟨vs, d, G⟩
 refine ⟨by rw [G.len]; omega, ⟨by omega, by omega⟩, fun x hx => ?_⟩
 obtain ⟨q, hq, rfl⟩ := List.getElem_of_mem hx
 have hq' : q < vs.length := by rw [← G.len]; exact hq
 have hv := hvV _ (List.getElem_mem hq')
 have hh := G.hd q hq'
 rw [nd_get hq, nd_get hv] at hh
 exact (g.nds _ (List.getElem_mem hv)).of_hd hh (hc _ hx)
end Go.Proofs.YtbiamhoonhjodadGreatDoor

namespace Go.Proofs.YtbiamhoonhjodadGreatDoor
open Go Go.V Go.Proofs Go.V.Gr
open Go.RowKit (Below)
open Go.Lib (compareBytes)
theorem featD_cases {f : Ft} (h : featD f = true) : (0 < f.1 ∧ f.1 ≤ 1000 ∧ f.2 = ⟨#[]⟩) ∨ f.1 = 0 := by
 unfold featD at h
 split at h
 ·have := of_decide_eq_true h; exact .inl ⟨by omega, this.2⟩
 ·exact .inr (by omega)
def VN1 (x : Nd) : Prop := ∃ n, NdOk x n
theorem VN1.kd {x : Nd} (h : VN1 x) : x.kd = kInt ∨ x.kd = kVar ∨ x.kd = kRef ∨ x.kd = kRec := by
 obtain ⟨n, h⟩ := h
 rcases h with h | h | h | h
 ·exact .inl h.1
 ·exact .inr (.inl h.1)
 ·exact .inr (.inr (.inl h.1))
 ·exact .inr (.inr (.inr h.1))
theorem VN1.fs {x : Nd} (h : VN1 x) : ∀ f ∈ x.fs, featD f = true := by
 obtain ⟨n, h⟩ := h
 intro f hf
 rcases h with h | h | h | h
 ·rw [h.2.2.1] at hf; cases hf
 ·rw [h.2.2.1] at hf; cases hf
 ·rw [h.2.2.1] at hf; cases hf
 ·obtain ⟨i, hi⟩ := List.getElem?_of_mem hf
  exact (h.2.2.2.2.1 i f hi).1
theorem VN1.ks {x : Nd} (h : VN1 x) : x.ks.length = x.fs.length := by obtain ⟨n, h⟩ := h; exact h.lens
theorem GrOk.vl {root : Int} {xs : List Nd} {most : Nat} (h : GrOk root xs most) : VL VN1 xs := ⟨fun x hx => ⟨_, h.nds x hx⟩, h.closed⟩
end Go.Proofs.YtbiamhoonhjodadGreatDoor

namespace Go.Proofs.YtbiamhoonhjodadGreatDoor
open Go Go.V Go.Proofs Go.V.Gr
def lowC (c : UInt8) : Bool := decide (97 ≤ c.toNat ∧ c.toNat ≤ 122)
def upC (c : UInt8) : Bool := decide (65 ≤ c.toNat ∧ c.toNat ≤ 90)
def digC (c : UInt8) : Bool := decide (48 ≤ c.toNat ∧ c.toNat ≤ 57)
def wordC (c : UInt8) : Bool := upC c || lowC c || digC c || decide (c.toNat = 95)
def keysL : List ByteArray := [⟨#[97, 110, 100, 116, 104, 101, 110]⟩, ⟨#[97, 116]⟩, ⟨#[98, 121]⟩, ⟨#[99, 97, 115, 101]⟩, ⟨#[99, 97, 116, 99, 104]⟩, ⟨#[99, 104, 111, 105, 99, 101]⟩, ⟨#[100, 105, 118]⟩, ⟨#[100, 111]⟩, ⟨#[101, 97, 99, 104]⟩, ⟨#[101, 108, 115, 101]⟩, ⟨#[101, 110, 100]⟩, ⟨#[102, 111, 114]⟩, ⟨#[102, 117, 110]⟩, ⟨#[105, 102]⟩, ⟨#[105, 110]⟩, ⟨#[108, 97, 122, 121]⟩, ⟨#[108, 111, 99, 97, 108]⟩, ⟨#[108, 111, 99, 107]⟩, ⟨#[109, 111, 100]⟩, ⟨#[111, 114, 101, 108, 115, 101]⟩, ⟨#[112, 114, 111, 99]⟩, ⟨#[114, 97, 105, 115, 101]⟩, ⟨#[115, 107, 105, 112]⟩, ⟨#[116, 104, 101, 110]⟩, ⟨#[116, 104, 114, 101, 97, 100]⟩, ⟨#[116, 114, 121]⟩, ⟨#[111, 102]⟩]
def keyB (s : ByteArray) : Bool := keysL.any fun t => decide (s = t)
def plainA (s : ByteArray) : Bool := decide (0 < s.size) && decide (s.size ≤ 60) && (match (bl s) with | c :: _ => lowC c | [] => false) && (bl s).all wordC && !keyB s
def quoteA (s : ByteArray) : List UInt8 := if plainA s then bl s else inQ 39 (bl s)
def featT (f : Ft) : List UInt8 := if 0 < f.1 then Lib.itoa f.1 else quoteA f.2
def numT (n : Int) : List UInt8 := if n < 0 then 126 :: Lib.itoa (-n) else Lib.itoa n
def nameT (k : Nat) : List UInt8 := 67 :: Lib.itoa (k : Int)
structure TS where
 cnt : Nat
 nm : List Nat
def TS.nam (st : TS) (i : Nat) : Nat := st.nm[i]?.getD 0
def TS.name (st : TS) (i : Nat) : TS := ⟨st.cnt + 1, st.nm.set i (st.cnt + 1)⟩
def tellsW (g : TS → Nat → List UInt8 × TS) : TS → List Nat → List (List UInt8) × TS
 | st, [] => ([], st)
 | st, k :: ks => ((g st k).1 :: (tellsW g (g st k).2 ks).1, (tellsW g (g st k).2 ks).2)
def bodyKs (l : List Nd) (i : Nat) : List Nat := match chainD l i with | some vs => vs.map fun v => kid l v 0 | none => kids l i
def isTupD (x : Nd) : Bool := decide (x.kd = kRec) && decide (x.tx = kHash) && decide (2 ≤ x.fs.length) && (List.range x.fs.length).all fun i => decide ((x.fs[i]?.getD (0, ⟨#[]⟩)).1 = (i : Int) + 1)
def wrapT (l : List Nd) (i : Nat) (ps : List (List UInt8)) : List UInt8 :=
 match chainD l i with
 | some _ => 91 :: (Lib.join ps [32] ++ [93])
 | none => if isConsD (nd l i) then 40 :: (Lib.join ps [124] ++ [41]) else if isTupD (nd l i) then 40 :: (Lib.join ps [35] ++ [41])
  else quoteA (nd l i).tx ++ (40 :: (Lib.join (List.zipWith (fun f p => featT f ++ 58 :: p) (nd l i).fs ps) [32] ++ [41]))
def leafT (x : Nd) : Option (List UInt8) :=
 if x.kd = kInt then some (numT x.n) else if x.kd = kVar then some (95 :: Lib.itoa x.n) else if x.kd = kRef then some (60 :: (bl x.tx ++ 32 :: (Lib.itoa x.n ++ [62]))) else if x.fs = [] then some (quoteA x.tx) else none
def tellF (l : List Nd) : Nat → TS → Nat → List UInt8 × TS
 | 0, st, _ => ([], st)
 | f + 1, st, i =>
  match leafT (nd l i) with
  | some s => (s, st)
  | none =>
   if st.nam i ≠ 0 then (nameT (st.nam i), st)
   else if 1 < plc l i then (nameT (st.cnt + 1) ++ 61 :: wrapT l i (tellsW (tellF l f) (st.name i) (bodyKs l i)).1, (tellsW (tellF l f) (st.name i) (bodyKs l i)).2)
   else (wrapT l i (tellsW (tellF l f) st (bodyKs l i)).1, (tellsW (tellF l f) st (bodyKs l i)).2)
structure LG (l : List Nd) : Prop where
 ok : GrOk 0 l 1000
 up : ∀ q, 0 < q → q < l.length → ∃ p, p < q ∧ q ∈ kids l p
def un (l : List Nd) (st : TS) : Nat := (List.range l.length).countP fun j => decide (1 < plc l j) && decide (st.nam j = 0)
structure TOk (l : List Nd) (st : TS) : Prop where
 len : st.nm.length = l.length
 cnt : st.cnt + un l st ≤ l.length
 le : ∀ j, st.nam j ≤ st.cnt
theorem TS.nam_name {st : TS} {i j : Nat} (hi : i < st.nm.length) : (st.name i).nam j = if j = i then st.cnt + 1 else st.nam j := by
 unfold TS.nam TS.name
 simp only [List.getElem?_set]
 by_cases e : i = j
 ·subst e; simp [hi]
 ·rw [if_neg e, if_neg (fun h => e h.symm)]
theorem un_name {l : List Nd} {st : TS} {i : Nat} (h : st.nm.length = l.length) (hi : i < l.length) (hp : 1 < plc l i) (h0 : st.nam i = 0) : un l (st.name i) + 1 = un l st := by
 have key : ∀ n, i < n → n ≤ l.length → (List.range n).countP (fun j => decide (1 < plc l j) && decide ((st.name i).nam j = 0)) + 1 = (List.range n).countP (fun j => decide (1 < plc l j) && decide (st.nam j = 0)) := by
  have low : ∀ n, n ≤ i → (List.range n).countP (fun j => decide (1 < plc l j) && decide ((st.name i).nam j = 0)) = (List.range n).countP (fun j => decide (1 < plc l j) && decide (st.nam j = 0)) := fun n hn => by
   refine List.countP_congr fun j hj => ?_
   have := List.mem_range.1 hj
   rw [TS.nam_name (by rw [h]; exact hi), if_neg (by omega)]
  intro n
  induction n with
  | zero => intro h; omega
  | succ n ih =>
   intro h1 h2
   rw [List.range_succ, List.countP_append, List.countP_append, List.countP_singleton, List.countP_singleton]
   by_cases e : i = n
   ·subst e
    rw [low i (Nat.le_refl _), TS.nam_name (by rw [h]; exact hi), if_pos rfl, h0]
    simp [hp]
   ·have := ih (by omega) (by omega)
    rw [TS.nam_name (by rw [h]; exact hi), if_neg (show ¬ n = i by omega)]
    omega
 exact key l.length hi (Nat.le_refl _)
theorem TOk.name {l : List Nd} {st : TS} {i : Nat} (h : TOk l st) (hi : i < l.length) (hp : 1 < plc l i) (h0 : st.nam i = 0) : TOk l (st.name i) := by
 have hu := un_name h.len hi hp h0
 refine ⟨by unfold TS.name; simpa using h.len, ?_, fun j => ?_⟩
 ·have := h.cnt; show st.cnt + 1 + _ ≤ _; omega
 ·rw [TS.nam_name (by rw [h.len]; exact hi)]
  show _ ≤ st.cnt + 1
  have := h.le j
  split <;> omega
def bnd (l : List Nd) (u i : Nat) : Nat := if (leafT (nd l i)).isSome then 1 else if 1 < plc l i then u * (l.length + 2) + 1 else u * (l.length + 2) + (l.length - i) + 1
theorem bnd_pos (l : List Nd) (u i : Nat) : 1 ≤ bnd l u i := by unfold bnd; (repeat' split) <;> omega
theorem bnd_mono {l : List Nd} {u v i : Nat} (h : u ≤ v) : bnd l u i ≤ bnd l v i := by
 have := Nat.mul_le_mul_right (l.length + 2) h
 unfold bnd; (repeat' split) <;> omega
theorem leaf_rec {x : Nd} (h : leafT x = none) : x.kd ≠ kInt ∧ x.kd ≠ kVar ∧ x.kd ≠ kRef ∧ x.fs ≠ [] := by
 unfold leafT at h
 split at h
 ·cases h
 split at h
 ·cases h
 split at h
 ·cases h
 split at h
 ·cases h
 exact ⟨by assumption, by assumption, by assumption, by assumption⟩
section
variable {l : List Nd}
theorem LG.kid (g : LG l) {i k : Nat} (hi : i < l.length) (hk : k ∈ kids l i) : k < l.length := by
 obtain ⟨m, hm⟩ := List.getElem?_of_mem hk
 have hml : m < (nd l i).ks.length := by rw [← kids_len]; exact (List.getElem?_eq_some_iff.1 hm).1
 rw [kids_get hml] at hm; cases hm
 exact kid_lt g.ok.closed hi hml
theorem LG.nd (g : LG l) {i : Nat} (hi : i < l.length) : NdOk (nd l i) l.length := by
 rw [nd_get hi]; exact g.ok.nds _ (List.getElem_mem hi)
theorem cons_ks {x : Nd} {n : Int} (h : NdOk x n) (hc : isConsD x = true) : x.ks.length = 2 := by
 simp only [isConsD, Bool.and_eq_true, decide_eq_true_eq] at hc
 have := h.lens
 rw [this, hc.2]; rfl
theorem tl_ok (g : LG l) {i : Nat} (hi : i < l.length) : ∀ k, (∀ j, j < k → isConsD (Gr.nd l (tl l i j)) = true) → ∀ j, j ≤ k → tl l i j < l.length
  | 0, _, j, hj => by have : j = 0 := by omega
                      subst this; exact hi
  | k + 1, h, j, hj => by
    by_cases e : j = k + 1
    · subst e
      have ih := tl_ok g hi k (fun j hj => h j (by omega)) k (Nat.le_refl _)
      have h2 := cons_ks (g.nd ih) (h k (by omega))
      exact kid_lt g.ok.closed ih (by rw [h2]; omega)
    · exact tl_ok g hi k (fun j hj => h j (by omega)) j (by omega)
theorem tl_mem (g : LG l) {i : Nat} (hi : i < l.length) {k : Nat} (h : ∀ j, j < k → isConsD (Gr.nd l (tl l i j)) = true) {j : Nat} (hj : j < k) (m : Nat) (hm : m < 2) : Gr.kid l (tl l i j) m ∈ kids l (tl l i j) := by
 have h2 := cons_ks (g.nd (tl_ok g hi k h j (by omega))) (h j hj)
 exact List.mem_of_getElem? (kids_get (by rw [h2]; exact hm))
theorem tl_up (g : LG l) {i : Nat} (hi : i < l.length) {k : Nat} (h : ∀ j, j < k → isConsD (Gr.nd l (tl l i j)) = true) (hp : ∀ j, 0 < j → j < k → plc l (tl l i j) ≤ 1) : ∀ a b, a < b → b < k → tl l i a < tl l i b := by
 have one : ∀ b, b + 1 < k → tl l i b < tl l i (b + 1) := fun b hb =>
  (plc_one g.up (tl_ok g hi k h b (by omega)) (tl_ok g hi k h (b + 1) (by omega)) (tl_mem g hi h (j := b) (by omega) 1 (by omega)) (hp (b + 1) (by omega) hb)).1
 intro a b
 induction b with
 | zero => intro h; omega
 | succ b ih =>
  intro h1 h2
  by_cases e : a = b
  ·subst e; exact one a h2
  ·have := ih (by omega) (by omega); have := one b h2; omega
theorem body_mem (g : LG l) {i k : Nat} (hi : i < l.length) (h : k ∈ bodyKs l i) : ∃ v, v < l.length ∧ i ≤ v ∧ k ∈ kids l v := by
 unfold bodyKs at h
 cases hc : chainD l i with
 | none => rw [hc] at h; exact ⟨i, hi, Nat.le_refl _, h⟩
 | some vs =>
  rw [hc] at h
  obtain ⟨v, hv, rfl⟩ := List.mem_map.1 h
  obtain ⟨h0, h1, h2, h3, h4⟩ := chainD_iff.1 hc
  have hh : ∀ j, j < vs.length → isConsD (Gr.nd l (tl l i j)) = true := fun j hj => (h3 j hj).1
  rw [h2] at hv
  obtain ⟨j, hj, rfl⟩ := List.mem_map.1 hv
  have hj := List.mem_range.1 hj
  refine ⟨_, tl_ok g hi _ hh j (by omega), ?_, tl_mem g hi hh hj 0 (by omega)⟩
  cases j with
  | zero => exact Nat.le_refl _
  | succ j => exact Nat.le_of_lt (tl_up g hi hh (fun j h1 h2 => (h3 j h2).2 h1) 0 (j + 1) (by omega) hj)
theorem body_lt (g : LG l) {i k : Nat} (hi : i < l.length) (h : k ∈ bodyKs l i) : k < l.length := by
 obtain ⟨v, hv, _, hk⟩ := body_mem g hi h
 exact g.kid hv hk
theorem bnd_body (g : LG l) {i k u f : Nat} (hi : i < l.length) (hl : leafT (Gr.nd l i) = none) (h : k ∈ bodyKs l i) (hb : bnd l u i ≤ f + 1) (hu : 1 < plc l i → 0 < u) : bnd l (if 1 < plc l i then u - 1 else u) k ≤ f := by
 obtain ⟨v, hv, hiv, hk⟩ := body_mem g hi h
 have hkl := g.kid hv hk
 unfold bnd at hb ⊢
 rw [hl] at hb
 simp only [Option.isSome_none, Bool.false_eq_true, if_false] at hb
 by_cases hp : 1 < plc l i
 ·rw [if_pos hp] at hb ⊢
  have hu := hu hp
  obtain ⟨u', rfl⟩ : ∃ u', u = u' + 1 := ⟨u - 1, by omega⟩
  rw [Nat.add_sub_cancel]
  rw [Nat.succ_mul] at hb
  (repeat' split) <;> omega
 ·rw [if_neg hp] at hb ⊢
  split
  ·omega
  ·split
   ·omega
   ·rename_i hpk
    have := (plc_one g.up hv hkl hk (by omega)).1
    omega
structure Grw (l : List Nd) (st st' : TS) : Prop where
 ok : TOk l st'
 un : un l st' ≤ un l st
 keep : ∀ j, st.nam j ≠ 0 → st'.nam j = st.nam j
theorem Grw.refl {st : TS} (h : TOk l st) : Grw l st st := ⟨h, Nat.le_refl _, fun _ _ => rfl⟩
theorem Grw.trans {a b c : TS} (h : Grw l a b) (k : Grw l b c) : Grw l a c := ⟨k.ok, Nat.le_trans k.un h.un, fun j hj => by rw [k.keep j (by rw [h.keep j hj]; exact hj), h.keep j hj]⟩
theorem Grw.name {st : TS} {i : Nat} (h : TOk l st) (hi : i < l.length) (hp : 1 < plc l i) (h0 : st.nam i = 0) : Grw l st (st.name i) :=
 ⟨h.name hi hp h0, by have := un_name h.len hi hp h0; omega, fun j hj => by rw [TS.nam_name (by rw [h.len]; exact hi), if_neg (by rintro rfl; exact hj h0)]⟩
theorem tellsW_grow {g : TS → Nat → List UInt8 × TS} {P : Nat → Prop} (hg : ∀ st k, TOk l st → P k → Grw l st (g st k).2) : ∀ {ks : List Nat} {st : TS}, TOk l st → (∀ k ∈ ks, P k) → Grw l st (tellsW g st ks).2
 | [], st, h, _ => Grw.refl h
 | k :: ks, st, h, hk => by
  have h1 := hg st k h (hk k (by simp))
  exact h1.trans (tellsW_grow hg h1.ok fun k hk' => hk k (List.mem_cons_of_mem _ hk'))
theorem tellF_grow (g : LG l) : ∀ (f : Nat) (st : TS) (i : Nat), TOk l st → i < l.length → Grw l st (tellF l f st i).2
 | 0, st, _, h, _ => Grw.refl h
 | f + 1, st, i, h, hi => by
  rw [tellF]
  split
  ·exact Grw.refl h
  ·split
   ·exact Grw.refl h
   ·rename_i h0
    have h0 : st.nam i = 0 := by simpa using h0
    have st1 : ∀ st1, TOk l st1 → Grw l st1 (tellsW (tellF l f) st1 (bodyKs l i)).2 := fun st1 h1 => tellsW_grow (P := fun k => k < l.length) (fun st k h hk => tellF_grow g f st k h hk) h1 fun k hk => body_lt g hi hk
    split
    ·rename_i hp
     exact (Grw.name h hi hp h0).trans (st1 _ (h.name hi hp h0))
    ·exact st1 _ h
theorem tellsW_len {g : TS → Nat → List UInt8 × TS} : ∀ {ks : List Nat} {st : TS}, (tellsW g st ks).1.length = ks.length
 | [], _ => rfl
 | k :: ks, st => by rw [tellsW, List.length_cons, tellsW_len, List.length_cons]
theorem tellsW_snoc {g : TS → Nat → List UInt8 × TS} : ∀ {ks : List Nat} {k : Nat} {st : TS}, tellsW g st (ks ++ [k]) = ((tellsW g st ks).1 ++ [(g (tellsW g st ks).2 k).1], (g (tellsW g st ks).2 k).2)
 | [], _, _ => rfl
 | j :: ks, k, st => by rw [List.cons_append, tellsW, tellsW_snoc, tellsW]; rfl
end
def TS.start (l : List Nd) : TS := ⟨0, List.replicate l.length 0⟩
theorem start_nam (l : List Nd) (j : Nat) : (TS.start l).nam j = 0 := by
 unfold TS.start TS.nam
 simp only [List.getElem?_replicate]
 split <;> rfl
theorem start_ok (l : List Nd) : TOk l (TS.start l) := by
 refine ⟨by simp [TS.start], ?_, fun j => by rw [start_nam]; exact Nat.zero_le _⟩
 have : un l (TS.start l) ≤ (List.range l.length).length := List.countP_le_length
 simpa [TS.start] using this
def textD (l : List Nd) : List UInt8 := (tellF l (bnd l (un l (TS.start l)) 0) (TS.start l) 0).1
end Go.Proofs.YtbiamhoonhjodadGreatDoor

namespace Go.Proofs.YtbiamhoonhjodadGreatDoor
open Go Go.V Go.Proofs Go.V.Gr
inductive Desc (l : List Nd) : Nat → Nat → Prop
 | refl (i : Nat) : Desc l i i
 | step {i j k : Nat} : Desc l i j → k ∈ kids l j → j < l.length → k < l.length → plc l k ≤ 1 → Desc l i k
section
variable {l : List Nd}
theorem Desc.le (g : LG l) {i j : Nat} (h : Desc l i j) : i ≤ j := by
 induction h with
 | refl => exact Nat.le_refl _
 | step _ h1 h2 h3 h4 ih => have := (plc_one g.up h2 h3 h1 h4).1; omega
theorem Desc.lin (g : LG l) {a b j : Nat} (h : Desc l a j) : Desc l b j → Desc l a b ∨ Desc l b a := by
 induction h with
 | refl => exact fun h => .inr h
 | @step j k h h1 h2 h3 h4 ih =>
  intro h'
  cases h' with
  | refl => exact .inl (.step h h1 h2 h3 h4)
  | @step j' _ h' h1' h2' h3' h4' =>
   have : j' = j := Classical.byContradiction fun hne => (plc_one g.up h2 h3 h1 h4).2.2 j' h2' hne h1'
   subst this
   exact ih h'
open Classical in
noncomputable def subs (l : List Nd) (i : Nat) : List Nat := (List.range l.length).filter fun j => decide (Desc l i j)
theorem subs_mem {i j : Nat} : j ∈ subs l i ↔ j < l.length ∧ Desc l i j := by simp [subs]
theorem subs_nodup (l : List Nd) (i : Nat) : (subs l i).Nodup := List.nodup_range.filter _
theorem subs_le (l : List Nd) (i : Nat) : (subs l i).length ≤ l.length := by
 refine Nat.le_trans (List.length_filter_le _ _) (by simp)
def KApart (l : List Nd) (ks : List Nat) : Prop := ∀ (a b x y : Nat), a ≠ b → ks[a]? = some x → ks[b]? = some y → plc l x ≤ 1 → plc l y ≤ 1 → ¬ Desc l x y
theorem count_two {ks : List Nat} {a b x : Nat} (hn : a ≠ b) (ha : ks[a]? = some x) (hb : ks[b]? = some x) : 2 ≤ ks.count x := by
 have one : ∀ {ks : List Nat} {a : Nat}, ks[a]? = some x → 1 ≤ ks.count x := fun h => List.count_pos_iff.2 (List.mem_of_getElem? h)
 induction ks generalizing a b with
 | nil => simp at ha
 | cons k ks ih =>
  rw [List.count_cons]
  cases a with
  | zero =>
   simp at ha; subst ha
   cases b with
   | zero => exact absurd rfl hn
   | succ b => have := one (ks := ks) (a := b) (by simpa using hb); simp only [beq_self_eq_true, if_true]; omega
  | succ a =>
   cases b with
   | zero =>
    simp at hb; subst hb
    have := one (ks := ks) (a := a) (by simpa using ha); simp only [beq_self_eq_true, if_true]; omega
   | succ b => have := ih (a := a) (b := b) (by omega) (by simpa using ha) (by simpa using hb); omega
theorem kids_apart (g : LG l) {i : Nat} (hi : i < l.length) : KApart l (kids l i) := by
 intro a b x y hn ha hb hx hy hd
 have mx := List.mem_of_getElem? ha; have my := List.mem_of_getElem? hb
 have lx := g.kid hi mx; have ly := g.kid hi my
 have px := plc_one g.up hi lx mx hx
 have py := plc_one g.up hi ly my hy
 cases hd with
 | refl => have := count_two hn ha hb; omega
 | @step j _ h h1 h2 h3 h4 =>
  have : j = i := Classical.byContradiction fun hne => py.2.2 j h2 hne h1
  subst this
  have := h.le g; omega
theorem chain_apart (g : LG l) {i : Nat} (hi : i < l.length) {vs : List Nat} (hc : chainD l i = some vs) : KApart l (vs.map fun v => Gr.kid l v 0) := by
 obtain ⟨h0, h1, h2, h3, h4⟩ := chainD_iff.1 hc
 have hh : ∀ j, j < vs.length → isConsD (Gr.nd l (tl l i j)) = true := fun j hj => (h3 j hj).1
 have hp : ∀ j, 0 < j → j < vs.length → plc l (tl l i j) ≤ 1 := fun j h1 h2 => (h3 j h2).2 h1
 have at_ : ∀ {a x : Nat}, (vs.map fun v => Gr.kid l v 0)[a]? = some x → a < vs.length ∧ x = Gr.kid l (tl l i a) 0 := fun {a x} e => by
  have hl : a < vs.length := by have := (List.getElem?_eq_some_iff.1 e).1; simpa using this
  refine ⟨hl, ?_⟩
  rw [h2, List.getElem?_map, List.getElem?_map, List.getElem?_range (by simpa using hl)] at e
  exact (Option.some.inj e).symm
 intro a b x y hn ha hb hx hy hd
 obtain ⟨la, rfl⟩ := at_ ha
 obtain ⟨lb, rfl⟩ := at_ hb
 have ta := tl_ok g hi _ hh a (by omega); have tb := tl_ok g hi _ hh b (by omega)
 have mx := tl_mem g hi hh la 0 (by omega); have my := tl_mem g hi hh lb 0 (by omega)
 have lx := g.kid ta mx; have ly := g.kid tb my
 have px := plc_one g.up ta lx mx hx
 have py := plc_one g.up tb ly my hy
 have up := tl_up g hi hh hp
 have ia : i ≤ tl l i a := by
  cases a with
  | zero => exact Nat.le_refl _
  | succ a => exact Nat.le_of_lt (up 0 (a + 1) (by omega) la)
 have no : ∀ c, c < vs.length → ¬ Desc l (Gr.kid l (tl l i a) 0) (tl l i c) := by
  intro c
  induction c with
  | zero => intro _ h; have := h.le g; rw [tl] at this; omega
  | succ c ih =>
   intro hc h
   have tc := tl_ok g hi _ hh c (by omega)
   have m1 := tl_mem g hi hh (j := c) (by omega) 1 (by omega)
   have pc := plc_one g.up tc (tl_ok g hi _ hh (c + 1) (by omega)) m1 (hp (c + 1) (by omega) hc)
   rcases (Classical.em (Gr.kid l (tl l i a) 0 = tl l i (c + 1))) with e | e
   ·have e2 : tl l i a = tl l i c := Classical.byContradiction fun hne => pc.2.2 _ ta hne (e ▸ mx)
    have h5 := cons_ks (g.nd ta) (hh a la)
    have c1 : (kids l (tl l i a))[0]? = some (Gr.kid l (tl l i a) 0) := kids_get (by rw [h5]; omega)
    have c2 : (kids l (tl l i a))[1]? = some (Gr.kid l (tl l i a) 1) := kids_get (by rw [h5]; omega)
    have e3 : Gr.kid l (tl l i a) 1 = Gr.kid l (tl l i a) 0 := by rw [e, e2]; rfl
    rw [e3] at c2
    have := count_two (by omega) c1 c2
    omega
   ·generalize hz : tl l i (c + 1) = z at h e
    cases h with
    | refl => exact e rfl
    | @step j _ h q1 q2 q3 q4 =>
     have : j = tl l i c := Classical.byContradiction fun hne => pc.2.2 j q2 hne (by rw [← hz, tl] at q1; exact q1)
     subst this
     exact ih (by omega) h
 have ne : tl l i a ≠ tl l i b := by
  rcases Nat.lt_trichotomy a b with h | h | h
  ·have := up a b h lb; omega
  ·exact absurd h hn
  ·have := up b a h la; omega
 generalize hz : Gr.kid l (tl l i b) 0 = z at hd my py
 cases hd with
 | refl => exact py.2.2 _ ta ne mx
 | @step j _ h q1 q2 q3 q4 =>
  have : j = tl l i b := Classical.byContradiction fun hne => py.2.2 j q2 hne q1
  subst this
  exact no b lb h
noncomputable def tot (l : List Nd) (ks : List Nat) : Nat := (ks.map fun k => if plc l k ≤ 1 then (subs l k).length else 0).sum
theorem KApart.tail {k : Nat} {ks : List Nat} (h : KApart l (k :: ks)) : KApart l ks := fun a b x y hn ha hb => h (a + 1) (b + 1) x y (by omega) (by simpa using ha) (by simpa using hb)
theorem tot_list (g : LG l) : ∀ {ks : List Nat}, KApart l ks → ∃ L : List Nat, L.Nodup ∧ L.length = tot l ks ∧ ∀ x ∈ L, x < l.length ∧ ∃ k ∈ ks, plc l k ≤ 1 ∧ Desc l k x
 | [], _ => ⟨[], by simp, rfl, by simp⟩
 | k :: ks, h => by
  obtain ⟨L, h1, h2, h3⟩ := tot_list g h.tail
  by_cases hp : plc l k ≤ 1
  ·refine ⟨subs l k ++ L, List.nodup_append.2 ⟨subs_nodup l k, h1, ?_⟩, ?_, ?_⟩
   ·rintro x hx y hy rfl
    have hx := subs_mem.1 hx
    obtain ⟨_, k', hk', hp', hd'⟩ := h3 x hy
    obtain ⟨b, hb⟩ := List.getElem?_of_mem hk'
    rcases hx.2.lin g hd' with e | e
    ·exact h 0 (b + 1) k k' (by omega) rfl (by simpa using hb) hp hp' e
    ·exact h (b + 1) 0 k' k (by omega) (by simpa using hb) rfl hp' hp e
   ·rw [List.length_append, h2, tot, tot, List.map_cons, List.sum_cons, if_pos hp]
   ·intro x hx
    rcases List.mem_append.1 hx with hx | hx
    ·have := subs_mem.1 hx; exact ⟨this.1, k, by simp, hp, this.2⟩
    ·obtain ⟨q1, k', q2, q3⟩ := h3 x hx; exact ⟨q1, k', List.mem_cons_of_mem _ q2, q3⟩
  ·refine ⟨L, h1, ?_, fun x hx => ?_⟩
   ·rw [h2, tot, tot, List.map_cons, List.sum_cons, if_neg hp, Nat.zero_add]
   ·obtain ⟨q1, k', q2, q3⟩ := h3 x hx; exact ⟨q1, k', List.mem_cons_of_mem _ q2, q3⟩
theorem body_apart (g : LG l) {i : Nat} (hi : i < l.length) : KApart l (bodyKs l i) := by
 unfold bodyKs
 cases hc : chainD l i with
 | none => exact kids_apart g hi
 | some vs => exact chain_apart g hi hc
theorem Desc.trans {a b c : Nat} (h : Desc l a b) (k : Desc l b c) : Desc l a c := by
 induction k with
 | refl => exact h
 | step _ h1 h2 h3 h4 ih => exact .step ih h1 h2 h3 h4
theorem body_desc (g : LG l) {i k : Nat} (hi : i < l.length) (h : k ∈ bodyKs l i) (hp : plc l k ≤ 1) : Desc l i k ∧ i < k := by
 unfold bodyKs at h
 cases hc : chainD l i with
 | none =>
  rw [hc] at h
  have lk := g.kid hi h
  exact ⟨.step (.refl i) h hi lk hp, (plc_one g.up hi lk h hp).1⟩
 | some vs =>
  rw [hc] at h
  obtain ⟨h0, h1, h2, h3, h4⟩ := chainD_iff.1 hc
  have hh : ∀ j, j < vs.length → isConsD (Gr.nd l (tl l i j)) = true := fun j hj => (h3 j hj).1
  obtain ⟨v, hv, rfl⟩ := List.mem_map.1 h
  rw [h2] at hv
  obtain ⟨j, hj, rfl⟩ := List.mem_map.1 hv
  have hj := List.mem_range.1 hj
  have down : ∀ j, j < vs.length → Desc l i (tl l i j) := fun j => by
   induction j with
   | zero => intro _; exact .refl i
   | succ j ih =>
    intro hj
    exact .step (ih (by omega)) (tl_mem g hi hh (j := j) (by omega) 1 (by omega)) (tl_ok g hi _ hh j (by omega)) (tl_ok g hi _ hh (j + 1) (by omega)) ((h3 _ hj).2 (by omega))
  have mk := tl_mem g hi hh hj 0 (by omega)
  have tj := tl_ok g hi _ hh j (by omega)
  have lk := g.kid tj mk
  have d := down j hj
  have := d.le g
  have p := plc_one g.up tj lk mk hp
  exact ⟨.step d mk tj lk hp, by omega⟩
theorem tot_body (g : LG l) {i : Nat} (hi : i < l.length) : tot l (bodyKs l i) + 1 ≤ (subs l i).length := by
 obtain ⟨L, h1, h2, h3⟩ := tot_list g (body_apart g hi)
 have := len_le_of_sub (i :: L) (subs l i) (List.nodup_cons.2 ⟨fun hm => ?_, h1⟩) fun x hx => ?_
 ·rw [List.length_cons, h2] at this; exact this
 ·obtain ⟨_, k, hk, hp, hd⟩ := h3 i hm
  have := (body_desc g hi hk hp).2
  have := hd.le g; omega
 ·rcases List.mem_cons.1 hx with rfl | hx
  ·exact subs_mem.2 ⟨hi, .refl x⟩
  ·obtain ⟨q, k, hk, hp, hd⟩ := h3 x hx
   exact subs_mem.2 ⟨q, (body_desc g hi hk hp).1.trans hd⟩
/-! ### Lengths -/
theorem inQ_len (q : UInt8) (s : List UInt8) : (inQ q s).length ≤ 2 * s.length + 2 := by
 have : (s.flatMap (inQ1 q)).length ≤ 2 * s.length := by
  induction s with
  | nil => simp
  | cons c s ih => rw [List.flatMap_cons, List.length_append, List.length_cons]; have := inQ1_len q c; omega
 simp only [inQ, List.length_cons, List.length_append, List.length_nil]; omega
theorem quoteA_len {s : ByteArray} (h : s.size ≤ 60) : (quoteA s).length ≤ 122 := by
 have hb := bl_size s
 unfold quoteA; split
 ·omega
 ·have := inQ_len 39 (bl s); omega
theorem featT_len {f : Ft} (h : featD f = true) : (featT f).length ≤ 122 := by
 unfold featT; split
 ·have := itoa_len (n := f.1) (by
   rcases featD_cases h with ⟨_, h2, _⟩ | h2 <;> constructor <;> omega)
  omega
 ·refine quoteA_len ?_
  unfold featD at h
  split at h
  ·have := of_decide_eq_true h; rw [this.2.2]; decide
  ·exact (prS_of h).2
theorem join_len (ps : List (List UInt8)) (c : UInt8) : (Lib.join ps [c]).length ≤ Lib.lens ps + ps.length := by
 cases ps with
 | nil => simp [Lib.join]
 | cons x r => have := Lib.join_length x r [c]; rw [this, List.length_cons]; simp; omega
theorem lens_cons (p : List UInt8) (ps : List (List UInt8)) : Lib.lens (p :: ps) = p.length + Lib.lens ps := by simp [Lib.lens]
theorem zip_lens {fs : List Ft} (hf : ∀ f ∈ fs, featD f = true) : ∀ {ps : List (List UInt8)}, Lib.lens (List.zipWith (fun f p => featT f ++ 58 :: p) fs ps) ≤ Lib.lens ps + 123 * ps.length ∧ (List.zipWith (fun f p => featT f ++ 58 :: p) fs ps).length ≤ ps.length := by
 induction fs with
 | nil => intro ps; simp [Lib.lens]
 | cons f fs ih =>
  intro ps
  cases ps with
  | nil => simp [Lib.lens]
  | cons p ps =>
   have h1 := ih (fun f h => hf f (List.mem_cons_of_mem _ h)) (ps := ps)
   have h2 := featT_len (hf f (by simp))
   rw [List.zipWith_cons_cons, lens_cons, lens_cons]
   simp only [List.length_append, List.length_cons]
   omega
theorem wrapT_len (g : LG l) {i : Nat} (hi : i < l.length) (hl : leafT (Gr.nd l i) = none) (ps : List (List UInt8)) : (wrapT l i ps).length ≤ 130 + Lib.lens ps + 124 * ps.length := by
 have hr := leaf_rec hl
 have ok := g.nd hi
 have hk : (Gr.nd l i).kd = kRec := by
  rcases ok with h | h | h | h
  ·exact absurd h.1 hr.1
  ·exact absurd h.1 hr.2.1
  ·exact absurd h.1 hr.2.2.1
  ·exact h.1
 have hrec := (NdOk.rec_iff hk).1 ok
 have h1 := fun c => join_len ps c
 have h32 := h1 32; have h124 := h1 124; have h35 := h1 35
 unfold wrapT
 split
 ·simp; omega
 ·split
  ·simp; omega
  ·split
   ·simp; omega
   ·have hz := zip_lens (fs := (Gr.nd l i).fs) (fun f hf => by
     obtain ⟨m, hm⟩ := List.getElem?_of_mem hf
     exact (hrec.2.2.2.1 m f hm).1) (ps := ps)
    have hj := join_len (List.zipWith (fun f p => featT f ++ 58 :: p) (Gr.nd l i).fs ps) 32
    have hq := quoteA_len (prS_of hrec.2.1).2
    simp only [List.length_append, List.length_cons, List.length_nil]
    omega
theorem leafT_len {x : Nd} {n : Int} (h : NdOk x n) {s : List UInt8} (e : leafT x = some s) : s.length ≤ 200 := by
 have big : ∀ {n : Int}, -999999999999999999 ≤ n → n ≤ 999999999999999999 → (Lib.itoa n).length ≤ 21 := fun h1 h2 => itoa_len ⟨by omega, by omega⟩
 unfold leafT at e
 split at e
 ·rename_i hk
  have := (NdOk.int_iff hk).1 h
  cases e
  unfold numT; split
  ·have := big (n := - x.n) (by omega) (by omega); simp; omega
  ·have := big (n := x.n) (by omega) (by omega); omega
 ·split at e
  ·rename_i hk
   have := (NdOk.var_iff hk).1 h
   cases e
   have := big (n := x.n) (by omega) (by omega); simp; omega
  ·split at e
   ·rename_i hk
    have := (NdOk.ref_iff hk).1 h
    cases e
    have h1 := big (n := x.n) (by omega) (by omega)
    have h2 := (prS_sort this.1).2
    have h3 := bl_size x.tx
    simp; omega
   ·split at e
    ·cases e
     rename_i k1 k2 k3 _
     have hk : x.kd = kRec := by
      rcases h with h | h | h | h
      ·exact absurd h.1 k1
      ·exact absurd h.1 k2
      ·exact absurd h.1 k3
      ·exact h.1
     have := quoteA_len (prS_of ((NdOk.rec_iff hk).1 h).2.1).2
     omega
    ·cases e
theorem nameT_len {k : Nat} (h : k ≤ 1000000) : (nameT k).length ≤ 22 := by
 have := itoa_len (n := (k : Int)) ⟨by omega, by omega⟩
 unfold nameT; simp; omega
theorem body_len (g : LG l) (hk : ∀ x ∈ l, x.ks.length ≤ 5000) {i : Nat} (hi : i < l.length) : (bodyKs l i).length ≤ 5000 := by
 unfold bodyKs
 split
 ·rename_i vs hc
  have := (chainD_iff.1 hc).2.1
  have := g.ok.most
  simp; omega
 ·rw [kids_len, nd_get hi]; exact hk _ (List.getElem_mem hi)
noncomputable def cst (l : List Nd) (i : Nat) : Nat := if (leafT (Gr.nd l i)).isSome ∨ 1 < plc l i then 200 else 2000000 * (subs l i).length
theorem tellF_len (g : LG l) (hk : ∀ x ∈ l, x.ks.length ≤ 5000) : ∀ (f : Nat) (st : TS) (i : Nat), TOk l st → i < l.length → (tellF l f st i).1.length + 2000000 * l.length * un l (tellF l f st i).2 ≤ cst l i + 2000000 * l.length * un l st
 | 0, st, i, _, _ => by rw [tellF]; simp
 | f + 1, st, i, h, hi => by
  have many : ∀ (ks : List Nat) (st : TS), TOk l st → (∀ k ∈ ks, k < l.length) → Lib.lens (tellsW (tellF l f) st ks).1 + 2000000 * l.length * un l (tellsW (tellF l f) st ks).2 ≤ 200 * ks.length + 2000000 * tot l ks + 2000000 * l.length * un l st := by
   intro ks
   induction ks with
   | nil => intro st _ _; simp [tellsW, Lib.lens, tot]
   | cons k ks ih =>
    intro st h hks
    have h1 := tellF_len g hk f st k h (hks k (by simp))
    have h2 := ih _ (tellF_grow g f st k h (hks k (by simp))).ok fun k hk => hks k (List.mem_cons_of_mem _ hk)
    have h3 : cst l k ≤ 200 + 2000000 * (if plc l k ≤ 1 then (subs l k).length else 0) := by
     unfold cst; split
     ·omega
     ·rename_i hn
      rw [if_pos (by omega)]; omega
    simp only [tellsW, lens_cons]
    rw [tot] at h2 ⊢
    rw [List.map_cons, List.sum_cons, List.length_cons]
    omega
  have hm := g.ok.most
  have hcn := h.cnt
  rw [tellF]
  split
  ·rename_i s e
   have := leafT_len (g.nd hi) e
   have hc : cst l i = 200 := by unfold cst; rw [if_pos (.inl (by rw [e]; rfl))]
   rw [hc]; simp only; omega
  ·rename_i e
   split
   ·rename_i h0
    have := nameT_len (k := st.nam i) (by have := h.le i; omega)
    have hp : 22 ≤ cst l i := by
     unfold cst; split
     ·omega
     ·have : 0 < (subs l i).length := List.length_pos_of_mem (subs_mem.2 ⟨hi, .refl i⟩)
      omega
    simp only; omega
   ·rename_i h0
    have h0 : st.nam i = 0 := by simpa using h0
    have hbl := body_len g hk hi
    have htb := tot_body g hi
    have hsl := subs_le l i
    split
    ·rename_i hp
     have hu := un_name h.len hi hp h0
     have h1 := many (bodyKs l i) _ (h.name hi hp h0) (fun k hk => body_lt g hi hk)
     have h2 := wrapT_len g hi e (tellsW (tellF l f) (st.name i) (bodyKs l i)).1
     rw [tellsW_len] at h2
     have h3 := nameT_len (k := st.cnt + 1) (by omega)
     have hc : cst l i = 200 := by unfold cst; rw [if_pos (.inr hp)]
     have h4 : 2000000 * l.length * un l st = 2000000 * l.length * un l (st.name i) + 2000000 * l.length := by rw [← hu, Nat.mul_succ]
     rw [hc, h4]
     simp only [List.length_append, List.length_cons]
     omega
    ·rename_i hp
     have h1 := many (bodyKs l i) _ h (fun k hk => body_lt g hi hk)
     have h2 := wrapT_len g hi e (tellsW (tellF l f) st (bodyKs l i)).1
     rw [tellsW_len] at h2
     have hc : cst l i = 2000000 * (subs l i).length := by unfold cst; rw [if_neg (by rw [e]; simp; omega)]
     rw [hc]
     simp only
     omega
theorem tellF_max (g : LG l) (hk : ∀ x ∈ l, x.ks.length ≤ 5000) {f : Nat} {st : TS} {i : Nat} (h : TOk l st) (hi : i < l.length) : (tellF l f st i).1.length ≤ 3000000000000 := by
 have h1 := tellF_len g hk f st i h hi
 have hm := g.ok.most
 have hcn := h.cnt
 have h2 : 2000000 * l.length * un l st ≤ 2000000 * 1000 * 1000 := Nat.mul_le_mul (by omega) (by omega)
 have h3 : cst l i ≤ 2000000 * 1000 := by
  unfold cst; split
  ·omega
  ·have := subs_le l i; omega
 omega
end
end Go.Proofs.YtbiamhoonhjodadGreatDoor

namespace Go.Proofs.YtbiamhoonhjodadGreatDoor
open Go Go.V Go.Proofs
open Go.RowKit (Below)
/-! manystrand/graph.quoted -/
def N28 (s1 : ByteArray) (K : ByteArray → World → Prop) (w : World) : Prop :=
 Calls Tryz.prog 61 #[(.string s1)] w fun e5 w4 =>
 ∃ s2, ∃ x3, e5 = .returned (.tuple #[(.string s2), (.int .i64 x3)]) ∧
 (K s2 w4)
def ann28 : Ann := (.two .nil (.two .nil (.two .nil .nil)))
noncomputable def code28 : Code := match Tryz.f28.body with | some c => c | none => .skip
theorem calls28 (s1 : ByteArray) (K : ByteArray → World → Prop) (w : World) (h : N28 s1 K w) : Calls Tryz.prog 28 #[(.string s1)] w fun en w' => ∃ (s6 : ByteArray), en = .returned (.string s6) ∧ K s6 w' :=
 fn_calls tabOk mixed Tryz.func28 (by kernel_rfl : Tryz.f28.body = some code28) ann28 [(.string s1)] [(.one .str)] K w (by kernel_rfl) (by kernel_rfl) (by kernel_rfl) h
end Go.Proofs.YtbiamhoonhjodadGreatDoor

namespace Go.Proofs.YtbiamhoonhjodadGreatDoor
open Go Go.V Go.Proofs
open Go.RowKit (Below)
/-! manystrand/graph.feature -/
def N66 (x1 : Int) (s2 : ByteArray) (K : ByteArray → World → Prop) (w : World) : Prop :=
 AllocK w (#[(.int .i64 x1), (.string s2)]) 37 fun b3 w4 =>
 ∃ x5, w4.cell? b3 = some (.int .i64 x5) ∧
 (BoolK (decide (x5 > 0))
 (∃ x6, w4.cell? b3 = some (.int .i64 x6) ∧
 (Calls Tryz.prog 27 #[(.int .i64 x6)] w4 fun e9 w8 =>
 ∃ s7, e9 = .returned (.string s7) ∧
 (K s7 w8)))
 (∃ s10, w4.cell? (b3.add 1) = some (.string s10) ∧
 (Calls Tryz.prog 28 #[(.string s10)] w4 fun e13 w12 =>
 ∃ s11, e13 = .returned (.string s11) ∧
 (K s11 w12))))
def ann66 : Ann := (.two .nil (.two (.two .nil (.two (.two .nil .nil) .nil)) (.two .nil .nil)))
noncomputable def code66 : Code := match Tryz.f66.body with | some c => c | none => .skip
theorem calls66 (x1 : Int) (s2 : ByteArray) (K : ByteArray → World → Prop) (w : World) (h : N66 x1 s2 K w) : Calls Tryz.prog 66 #[(.agg #[(.int .i64 x1), (.string s2)])] w fun en w' => ∃ (s14 : ByteArray), en = .returned (.string s14) ∧ K s14 w' :=
 fn_calls tabOk mixed Tryz.func66 (by kernel_rfl : Tryz.f66.body = some code66) ann66 [(.agg #[(.int .i64 x1), (.string s2)])] [(.one .str)] K w (by kernel_rfl) (by kernel_rfl) (by kernel_rfl) h
end Go.Proofs.YtbiamhoonhjodadGreatDoor

namespace Go.Proofs.YtbiamhoonhjodadGreatDoor
open Go Go.V Go.Proofs Go.V.Gr
open Go.RowKit (Below)
theorem xtr69 (w : World) (c : UInt8) : Calls Tryz.prog 69 #[.int .u8 (c.toNat : Nat)] w fun en w' => ∃ p, en = .returned (.bool p) ∧ (p = upC c ∧ w' = w) := by
 refine calls69 _ _ w ?_
 refine BoolK.mk (fun t => ⟨?_, rfl⟩) (fun t => ⟨?_, rfl⟩)
 ·have := of_decide_eq_true t
  unfold upC
  rw [decide_eq_decide]; omega
 ·have := of_decide_eq_false t
  unfold upC
  symm; rw [decide_eq_false_iff_not]; omega
theorem xtr92 (w : World) (c : UInt8) : Calls Tryz.prog 92 #[.int .u8 (c.toNat : Nat)] w fun en w' => ∃ p, en = .returned (.bool p) ∧ (p = lowC c ∧ w' = w) := by
 refine calls92 _ _ w ?_
 refine BoolK.mk (fun t => ⟨?_, rfl⟩) (fun t => ⟨?_, rfl⟩)
 ·have := of_decide_eq_true t
  unfold lowC
  rw [decide_eq_decide]; omega
 ·have := of_decide_eq_false t
  unfold lowC
  symm; rw [decide_eq_false_iff_not]; omega
theorem xtr36 (w : World) (c : UInt8) : Calls Tryz.prog 36 #[.int .u8 (c.toNat : Nat)] w fun en w' => ∃ p, en = .returned (.bool p) ∧ (p = digC c ∧ w' = w) := by
 refine calls36 _ _ w ?_
 refine BoolK.mk (fun t => ⟨?_, rfl⟩) (fun t => ⟨?_, rfl⟩)
 ·have := of_decide_eq_true t
  unfold digC
  rw [decide_eq_decide]; omega
 ·have := of_decide_eq_false t
  unfold digC
  symm; rw [decide_eq_false_iff_not]; omega
theorem xtr89 (w : World) (c : UInt8) : Calls Tryz.prog 89 #[.int .u8 (c.toNat : Nat)] w fun en w' => ∃ p, en = .returned (.bool p) ∧ (p = wordC c ∧ w' = w) := by
 refine calls89 _ _ w ?_
 refine (xtr69 w c).mono ?_
 rintro en w3 ⟨p, rfl, hp, rfl⟩
 refine ⟨_, rfl, BoolK.mk (fun t => ⟨by rw [wordC, ← hp, t]; rfl, rfl⟩) (fun t => ?_)⟩
 refine (xtr92 w3 c).mono ?_
 rintro en w6 ⟨q, rfl, hq, rfl⟩
 refine ⟨_, rfl, BoolK.mk (fun t2 => ⟨by rw [wordC, ← hp, ← hq, t, t2]; rfl, rfl⟩) (fun t2 => ?_)⟩
 refine (xtr36 w6 c).mono ?_
 rintro en w9 ⟨r, rfl, hr, rfl⟩
 refine ⟨_, rfl, BoolK.mk (fun t3 => ⟨by rw [wordC, ← hp, ← hq, ← hr, t, t2, t3]; rfl, rfl⟩) (fun t3 => ⟨?_, rfl⟩)⟩
 rw [wordC, ← hp, ← hq, ← hr, t, t2, t3, Bool.false_or, Bool.false_or, Bool.false_or, Bool.eq_iff_iff]
 simp only [beq_iff_eq, decide_eq_true_eq]; omega
theorem xtr70 (w : World) (s : ByteArray) (hs : s.size ≤ maxLen) : Calls Tryz.prog 70 #[.string s] w fun en w' => ∃ p, en = .returned (.bool p) ∧ (p = (bl s).all wordC ∧ w' = w) := by
 refine calls70 _ _ w ?_
 simp only [maxLen] at hs
 have hbs := bl_size s
 refine ⟨fun i w' => ∃ k : Nat, i = k ∧ k ≤ s.size ∧ ((bl s).take k).all wordC = true ∧ w' = w, fun i _ => s.size - i.toNat, ⟨⟨0, rfl, by omega, rfl, rfl⟩, trivial⟩, ?_⟩
 rintro w4 x ⟨k, rfl, hk, hall, rfl⟩
 refine BoolK.mk (fun t => ?_) (fun t => ?_)
 ·have hlt : k < s.size := by have := of_decide_eq_true t; omega
  have hlt2 : k < (bl s).length := by rw [hbs]; exact hlt
  have hg : s[((k : Nat) : Int).toNat]? = some (bl s)[k] := by rw [Int.toNat_natCast, bl_get, List.getElem?_eq_getElem hlt2]
  refine ⟨(bl s)[k], ⟨by omega, hg⟩, (xtr89 w4 _).mono ?_⟩
  rintro en w8 ⟨p, rfl, hp, rfl⟩
  refine ⟨_, rfl, BoolK.mk (fun t1 => ⟨?_, rfl⟩) (fun t1 => ?_)⟩
  ·have t1 : p = false := by simpa using t1
   symm; rw [Bool.eq_false_iff]; intro h2
   rw [List.all_eq_true] at h2
   have := h2 _ (List.getElem_mem hlt2); rw [← hp, t1] at this; cases this
  ·have t1 : p = true := by simpa using t1
   rw [wrap_succ (by omega)]
   refine ⟨⟨k + 1, rfl, by omega, ?_, rfl⟩, by simp; omega⟩
   rw [List.take_add_one, List.getElem?_eq_getElem hlt2, List.all_append, hall]
   simp [← hp, t1]
 ·have : k = s.size := by have := of_decide_eq_false t; omega
  subst this
  rw [← hbs, List.take_length] at hall
  exact ⟨hall.symm, rfl⟩
theorem keyB_iff {s : ByteArray} : keyB s = true ↔ s ∈ keysL := by
 rw [keyB, List.any_eq_true]
 exact ⟨fun ⟨t, h, e⟩ => by rw [of_decide_eq_true e]; exact h, fun h => ⟨s, h, by simp⟩⟩
theorem xtr38 (w : World) (s : ByteArray) : Calls Tryz.prog 38 #[.string s] w fun en w' => ∃ p, en = .returned (.bool p) ∧ (p = keyB s ∧ w' = w) := by
 refine calls38 _ _ w ?_
 have yes : ∀ {t : ByteArray}, t ∈ keysL → (s.toList == t.toList) = true → true = keyB s := fun ht e => by
  rw [tl_iff] at e; subst e; symm; exact keyB_iff.2 ht
 have key : ∀ {t : ByteArray} {A B : Prop}, t ∈ keysL → (A ↔ (true = keyB s ∧ w = w)) → ((s.toList == t.toList) = false → B) → BoolK (s.toList == t.toList) (BoolK (s.toList == t.toList) A (false = keyB s ∧ w = w)) B := fun ht hA hB =>
  BoolK.mk (fun e => BoolK.mk (fun e => hA.2 ⟨yes ht e, rfl⟩) (fun e2 => by rw [e] at e2; cases e2)) hB
 refine key (by simp [keysL]) Iff.rfl fun n1 => key (by simp [keysL]) Iff.rfl fun n2 => key (by simp [keysL]) Iff.rfl fun n3 => key (by simp [keysL]) Iff.rfl fun n4 => key (by simp [keysL]) Iff.rfl fun n5 => key (by simp [keysL]) Iff.rfl fun n6 => key (by simp [keysL]) Iff.rfl fun n7 => key (by simp [keysL]) Iff.rfl fun n8 => key (by simp [keysL]) Iff.rfl fun n9 => key (by simp [keysL]) Iff.rfl fun n10 => key (by simp [keysL]) Iff.rfl fun n11 => key (by simp [keysL]) Iff.rfl fun n12 => key (by simp [keysL]) Iff.rfl fun n13 => key (by simp [keysL]) Iff.rfl fun n14 => key (by simp [keysL]) Iff.rfl fun n15 => key (by simp [keysL]) Iff.rfl fun n16 => key (by simp [keysL]) Iff.rfl fun n17 => key (by simp [keysL]) Iff.rfl fun n18 => key (by simp [keysL]) Iff.rfl fun n19 => key (by simp [keysL]) Iff.rfl fun n20 => key (by simp [keysL]) Iff.rfl fun n21 => key (by simp [keysL]) Iff.rfl fun n22 => key (by simp [keysL]) Iff.rfl fun n23 => key (by simp [keysL]) Iff.rfl fun n24 => key (by simp [keysL]) Iff.rfl fun n25 => key (by simp [keysL]) Iff.rfl fun n26 => ?_
 refine BoolK.mk (fun e => ⟨yes (by simp [keysL]) e, rfl⟩) (fun n27 => ⟨?_, rfl⟩)
 rw [← Bool.not_eq_true, tl_iff] at n1 n2 n3 n4 n5 n6 n7 n8 n9 n10 n11 n12 n13 n14 n15 n16 n17 n18 n19 n20 n21 n22 n23 n24 n25 n26 n27
 symm; rw [← Bool.not_eq_true, keyB_iff]
 simp [keysL, n1, n2, n3, n4, n5, n6, n7, n8, n9, n10, n11, n12, n13, n14, n15, n16, n17, n18, n19, n20, n21, n22, n23, n24, n25, n26, n27]
theorem xtr112 (w : World) (s : ByteArray) (hs : s.size ≤ maxLen) : Calls Tryz.prog 112 #[.string s] w fun en w' => ∃ p, en = .returned (.bool p) ∧ (p = plainA s ∧ w' = w) := by
 refine calls112 _ _ w ?_
 have hbs := bl_size s
 refine BoolK.mk (fun t => BoolK.mk (fun t2 => ?_) (fun t2 => ⟨?_, rfl⟩)) (fun t => ⟨?_, rfl⟩)
 ·have t2 := of_decide_eq_true t2
  have hlt : 0 < s.size := by
   rcases Nat.eq_zero_or_pos s.size with h | h
   ·have : s = ⟨#[]⟩ := by apply bl_inj; exact List.length_eq_zero_iff.1 (by rw [bl_size]; exact h)
    subst this; rw [tl_iff.2 rfl] at t; cases t
   ·exact h
  obtain ⟨c, r, hcr⟩ : ∃ c r, bl s = c :: r := by
   cases h : bl s with
   | nil => rw [h] at hbs; simp at hbs; omega
   | cons c r => exact ⟨c, r, rfl⟩
  have hg : s[(0 : Int).toNat]? = some c := by rw [bl_get, hcr]; rfl
  have hpl : plainA s = (lowC c && (bl s).all wordC && !keyB s) := by
   unfold plainA
   rw [hcr]
   have h1 : decide (0 < s.size) = true := decide_eq_true hlt
   have h2 : decide (s.size ≤ 60) = true := decide_eq_true (by omega)
   rw [h1, h2]; simp
  refine ⟨c, ⟨by omega, hg⟩, (xtr92 w c).mono ?_⟩
  rintro en w4 ⟨p, rfl, hp, rfl⟩
  refine ⟨_, rfl, BoolK.mk (fun t3 => ?_) (fun t3 => ⟨by rw [hpl, ← hp, t3]; rfl, rfl⟩)⟩
  refine (xtr70 w4 s hs).mono ?_
  rintro en w7 ⟨q, rfl, hq, rfl⟩
  refine ⟨_, rfl, BoolK.mk (fun t4 => ?_) (fun t4 => ⟨by rw [hpl, ← hp, ← hq, t3, t4]; rfl, rfl⟩)⟩
  refine (xtr38 w7 s).mono ?_
  rintro en w10 ⟨r, rfl, hr, rfl⟩
  exact ⟨_, rfl, by rw [hpl, ← hp, ← hq, ← hr, t3, t4]; rfl, rfl⟩
 ·have t2 := of_decide_eq_false t2
  have h2 : decide (s.size ≤ 60) = false := decide_eq_false (by omega)
  unfold plainA; rw [h2]; simp
 ·have h0 : s = ⟨#[]⟩ := tl_iff.1 (by simpa using t)
  subst h0
  unfold plainA; rfl
theorem xtr84 (w : World) (s : ByteArray) (at_ : Int) (hs : atomD s = true) : Calls Tryz.prog 84 #[.agg #[.string kAtom, .string s, .int .i64 at_]] w fun en w' => ∃ t e, en = .returned (.tuple #[.string t, .int .i64 e]) ∧ ((e = 0 ∧ bl t = quoteA s) ∧ Ext w w') := by
 refine calls84 _ _ _ _ w ?_
 have hsz : s.size ≤ 60 := (prS_of hs).2
 have hsm : s.size ≤ maxLen := by simp only [maxLen]; omega
 refine AllocK.mk fun b w5 hb hB hx => ?_
 refine ⟨_, by rw [add_mk, hB.cell]; rfl, _, by rw [add_mk, hB.cell]; rfl, _, by rw [add_mk, hB.cell]; rfl, ?_⟩
 refine (ctr17 w5 s at_ hsm).mono ?_
 rintro en w10 ⟨p, rfl, rfl, hx10⟩
 refine ⟨_, rfl, BoolK.mk (fun t => by rw [hs] at t; cases t) (fun _ => ?_)⟩
 have hB := hB.ext hx10
 have hs2 : sz48 s := by simp only [sz48]; omega
 refine ⟨kAtom, by rw [hB.cell]; rfl, BoolK.mk (fun _ => ?_) (fun t => by rw [kAtom_eq] at t; cases t)⟩
 refine ⟨s, by rw [add_mk, hB.cell]; rfl, (xtr112 w10 s hsm).mono ?_⟩
 rintro en w15 ⟨p, rfl, hp, rfl⟩
 refine ⟨_, rfl, BoolK.mk (fun t => ⟨s, by rw [add_mk, hB.cell]; rfl, ⟨rfl, ?_⟩, hx.trans hx10⟩) (fun t => ?_)⟩
 ·rw [quoteA, ← hp, t]; rfl
 ·refine ⟨s, by rw [add_mk, hB.cell]; rfl, (ctr113 w15 s 39 hs2).mono ?_⟩
  rintro en w20 ⟨q, rfl, hq, hx20⟩
  exact ⟨_, rfl, ⟨rfl, by rw [hq, quoteA, ← hp, t]; rfl⟩, (hx.trans hx10).trans hx20⟩
theorem xtr61 (w : World) (s : ByteArray) (hs : atomD s = true) : Calls Tryz.prog 61 #[.string s] w fun en w' => ∃ t e, en = .returned (.tuple #[.string t, .int .i64 e]) ∧ ((e = 0 ∧ bl t = quoteA s) ∧ Ext w w') := by
 refine calls61 _ _ w ?_
 refine (xtr84 w s 0 hs).mono ?_
 rintro en w4 ⟨t, e, rfl, h⟩
 exact ⟨_, _, rfl, h⟩
theorem ctr28 (w : World) (s : ByteArray) (hs : atomD s = true) : Calls Tryz.prog 28 #[.string s] w fun en w' => ∃ t, en = .returned (.string t) ∧ (bl t = quoteA s ∧ Ext w w') := by
 refine calls28 _ _ w ?_
 refine (xtr61 w s hs).mono ?_
 rintro en w4 ⟨t, e, rfl, ⟨_, ht⟩, x⟩
 exact ⟨_, _, rfl, ht, x⟩
theorem ctr66 (w : World) (f : Ft) (hf : featD f = true) (ht : Tb w) : Calls Tryz.prog 66 #[.agg #[.int .i64 f.1, .string f.2]] w fun en w' => ∃ t, en = .returned (.string t) ∧ (bl t = featT f ∧ Ext w w') := by
 refine calls66 _ _ _ w ?_
 refine AllocK.mk fun b w4 hb hB hx => ?_
 have g0 : w4.cell? (⟨b, 0, none⟩ : Addr) = some (.int .i64 f.1) := by rw [hB.cell]; rfl
 have g1 : w4.cell? ((⟨b, 0, none⟩ : Addr).add 1) = some (.string f.2) := by rw [add_mk, hB.cell]; rfl
 refine ⟨_, g0, BoolK.mk (fun t => ⟨_, g0, ?_⟩) (fun t => ⟨_, g1, ?_⟩)⟩
 ·have t := of_decide_eq_true t
  have hi : i64 f.1 := by rcases featD_cases hf with ⟨_, h2, _⟩ | h2 <;> constructor <;> omega
  refine (ctr27 w4 hi (ht.ext hx)).mono ?_
  rintro en w8 ⟨s, rfl, hs, x8⟩
  exact ⟨_, rfl, by rw [featT, if_pos t, hs], hx.trans x8⟩
 ·have t := of_decide_eq_false t
  have ha : atomD f.2 = true := by
   unfold featD at hf
   split at hf
   ·have := of_decide_eq_true hf; omega
   ·exact hf
  refine (ctr28 w4 f.2 ha).mono ?_
  rintro en w12 ⟨s, rfl, hs, x12⟩
  exact ⟨_, rfl, by rw [featT, if_neg (by omega), hs], hx.trans x12⟩
end Go.Proofs.YtbiamhoonhjodadGreatDoor
