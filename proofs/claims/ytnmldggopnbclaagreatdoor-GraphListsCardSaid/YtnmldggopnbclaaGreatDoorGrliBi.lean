/- A part of the proof: plain forms of functions and laws about them. -/
import Derived.Test.YtnmldggopnbclaaGreatDoorGrliBh
import Derived.ArgAppend
import Derived.Lib.AppendStr
import Derived.Lib.ConvBytes
import Derived.Lib.SliceRun
import Derived.Laws.BytesArg
namespace Go.V
open Go.RowKit (Below)
open Go.Lib
section
variable {ρ ρ' : Rn} {m m' : AMem} {w w' w0 : World} {P : Program}
structure Src (P : Program) (w : World) (t u e : TypeId) (sz bytes : Nat) (x : Value) (k : Nat) (news : List Value) : Prop where
 len : news.length = k * sz
 room : ∀ (ty b off l c : Nat), l + k ≤ c → (∀ j, j < news.length → (w.cell? ⟨b, off + l * sz + j, none⟩).isSome = true) → (∀ j, j < news.length → w.frozen? ⟨b, off + l * sz + j, none⟩ = false) →
  (Builtin.append_ #[t, u] ty #[.slice (some ⟨b, off, none⟩) l c, x]).run P w = .ok (.slice (some ⟨b, off, none⟩) (l + k) c) (w.setCells b (off + l * sz) news)
 grow : ∀ (ty : Nat) (a : Addr) (l c : Nat) (olds : List Value), olds.length = l * sz → (∀ j v, olds[j]? = some v → w.cell? (a.add j) = some v) → c < l + k → (l + k) * bytes ≤ 140737488355328 →
  ∃ v' w', (Builtin.append_ #[t, u] ty #[.slice (some a) l c, x]).run P w = .ok v' w' ∧ w'.ownsRow w.heap.size e sz v' (l + k) (olds ++ news) ∧ w.grownBy w' none
 nil : ∀ ty : Nat, 0 < k → k * bytes ≤ 140737488355328 → ∃ v' w', (Builtin.append_ #[t, u] ty #[.slice none 0 0, x]).run P w = .ok v' w' ∧ w'.ownsRow w.heap.size e sz v' k news ∧ w.grownBy w' none
theorem Src.ofSlice {t e : TypeId} {sz bytes : Nat} (H : SlT P t e sz bytes) {a : Addr} {k c2 : Nat} {news : List Value} (hl : news.length = k * sz) (hn : ∀ j v, news[j]? = some v → w.cell? (a.add j) = some v) (h1 : oneCells news = true) :
  Src P w t t e sz bytes (.slice (some a) k c2) k news := by
 obtain ⟨i, z, hi, hz, rfl, rfl, hzs⟩ := H.info
 refine ⟨hl, fun ty b off l c hc h2 h3 => ?_, fun ty a' l c olds ho h2 hc hb => ?_, fun ty hk hb => ?_⟩
 ·exact run_append_room_cells w t ty e i H.under hi b off l c a k c2 news hl hn (oneCells_all h1) hc h2 h3
 ·have h63 : l + k ≤ maxLen := by
   have := Nat.le_mul_of_pos_right (l + k) H.posB
   simp only [maxLen]; omega
  exact run_append_arg_grows w t ty e i z i.size i.bytes H.under hi hz rfl rfl hzs H.pos a' l c olds ho h2 a k c2 news hl hn hc h63 hb
 ·have h63 : 0 + k ≤ maxLen := by
   have := Nat.le_mul_of_pos_right k H.posB
   simp only [maxLen]; omega
  obtain ⟨v', w', q1, q2, q3, _, _⟩ := run_append_own_at (P := P) w w.heap.size t ty e i z i.size i.bytes H.under hi hz rfl rfl hzs H.pos (.slice none 0 0) 0 [] (World.ownsRow_nil _ _ _ _) a k c2 news hl hn (oneCells_all h1) h63 (by simpa using hb) (Nat.le_refl _)
  exact ⟨v', w', q1, by simpa using q2, q3⟩
theorem Src.ofStr {t u e : TypeId} {bytes : Nat} (H : SlT P t e 1 bytes) (hu : P.underlying u = some .string) (s : ByteArray) : Src P w t u e 1 bytes (.string s) s.size (strCells s) := by
 obtain ⟨i, z, hi, hz, hsz, rfl, hzs⟩ := H.info
 have small : ∀ n, n * i.bytes ≤ 140737488355328 → n ≤ 140737488355328 := fun n h => Nat.le_trans (Nat.le_mul_of_pos_right n H.posB) h
 refine ⟨by rw [strCells_length, Nat.mul_one], fun ty b off l c hc h2 h3 => ?_, fun ty a l c olds ho h2 hc hb => ?_, fun ty hk hb => ?_⟩
 ·have hf := run_firstCells_string (P := P) w i.size s
  have hst := run_storeCells_cells (P := P) b (off + l * i.size) (strCells s) 0 w (by simpa [hsz] using h2) (by simpa [hsz] using h3) (strCells_oneCell s)
  simp only [Nat.add_zero] at hst
  simp [Builtin.append_, run_underlying H.under, run_underlying hu, sizeOf, typeInfo, hi, Builtin.lenOf, hc, hf, Addr.add_lit, hst]
  simp [hsz]
 ·have hk := small _ hb
  have hr := run_append_grow_string (P := P) w t u ty e i z H.under hu hi hz a l c olds (by rw [hsz]; exact ho) h2 s hc (by omega) (growslice_fits hc hb)
  have hlen : (olds ++ strCells s).length = (l + s.size) * 1 := by rw [List.length_append, ho, strCells_length]; omega
  have hge := grownCap_ge w (l + s.size) c e
  have hcm : grownCap w (l + s.size) c e ≤ maxLen := grownCap_le_maxLen w (l + s.size) c e (by simp only [maxLen]; omega)
  refine ⟨_, _, hr, ⟨hlen, .inr ⟨w.heap.size, _, _, rfl, Nat.le_refl _, heap_alloc_new w.drew _, hge, hcm, ?_, ?_⟩⟩, ⟨rfl, rfl, rfl, by simp, fun kk hkk _ => heap_alloc_old w.drew _ hkk⟩⟩
  ·simp only [Array.size_append, List.size_toArray, size_zeroCells, hzs, ho, strCells_length]
   omega
  ·simp only [Array.toList_append, List.append_assoc]
   rw [← List.append_assoc, ← hlen]
   exact List.take_left
 ·have hk2 := small _ hb
  have hr := run_append_nil_string (P := P) w t u ty e i z H.under hu hi hz s hk (by omega) (by omega)
  have hge := grownCap_ge w s.size 0 e
  have hcm : grownCap w s.size 0 e ≤ maxLen := grownCap_le_maxLen w s.size 0 e (by simp only [maxLen]; omega)
  have ec : s.data.map (fun b => Value.int .u8 b.toNat) = (strCells s).toArray := by apply Array.ext'; simp [strCells]
  refine ⟨_, _, hr, ⟨by rw [strCells_length, Nat.mul_one], .inr ⟨w.heap.size, _, _, rfl, Nat.le_refl _, heap_alloc_new w.drew _, hge, hcm, ?_, ?_⟩⟩, ⟨rfl, rfl, rfl, by simp, fun kk hkk _ => heap_alloc_old w.drew _ hkk⟩⟩
  ·rw [ec]
   simp only [Array.size_append, List.size_toArray, size_zeroCells, hzs, strCells_length]
   omega
  ·rw [ec]
   simp only [Array.toList_append]
   have hl : (strCells s).length = s.size * 1 := by rw [strCells_length, Nat.mul_one]
   rw [← hl]
   exact List.take_left
theorem run_append_zero {t u e : TypeId} {sz bytes : Nat} (H : SlT P t e sz bytes) {ty : Nat} {a : Option Addr} {l c : Nat} (hlc : l ≤ c) {x : Value} (hx : (u = t ∧ ∃ b d, x = .slice b 0 d) ∨ (P.underlying u = some .string ∧ x = .string ⟨#[]⟩)) :
  (Builtin.append_ #[t, u] ty #[.slice a l c, x]).run P w = .ok (.slice a l c) w := by
 obtain ⟨i, z, hi, hz, hsz, hby, hzs⟩ := H.info
 rcases hx with ⟨rfl, b, c2, rfl⟩ | ⟨hd, rfl⟩
 ·cases a <;> cases b <;> simp [Builtin.append_, run_underlying H.under, sizeOf, typeInfo, hi, hlc, Builtin.lenOf, Builtin.firstCells, loadCells, loadCellsFrom, storeCells]
 ·cases a <;> simp [Builtin.append_, run_underlying H.under, run_underlying hd, sizeOf, typeInfo, hi, hlc, Builtin.lenOf, Builtin.firstCells, storeCells, ByteArray.size]
def symC (id : Nat) : Nat := id * 4294967296
theorem symC_c {ρ : Rn} {id : Nat} (h : symI ≤ id) : ρ.c (symC id) = ρ.cap id := by
 unfold Rn.c symC
 have h1 : Nat.blt (id * 4294967296) symB = false := by
  cases e : Nat.blt (id * 4294967296) symB
  ·rfl
  ·have := Nat.le_of_ble_eq_true e
   simp only [symI, symB] at h this; omega
 rw [h1, cond_false, Nat.mul_div_cancel _ (by omega), Nat.mul_mod_left, Nat.sub_zero]
theorem symC_d {ρ : Rn} {id : Nat} (hd : ρ.cdom id) : ρ.cD (symC id) := by
 right
 unfold symC
 rw [Nat.mul_div_cancel _ (by omega)]; exact hd
theorem Mem.grown (hm : Mem w0 ρ m w) {kill : Option Nat} (hk : ∀ t0, kill = some t0 → ∃ o, m.get t0 = some o ∧ o.live = true) {e sz n : Nat} {v : Value} {us xs : List Value} (ho : w'.ownsRow w.heap.size e sz v n xs) (hg : w.grownBy w' none) (hn : 0 < n) (r : LR ρ us xs) :
  ∃ ρ', Ev w0 ρ m w ρ' (m.fresh kill (.cells us e (some (symI + m.caps, sz)))) w' ∧ VR ρ' (.slice (some ⟨m.next, 0, none⟩) n (symC (symI + m.caps))) v := by
 have hx : Ext w w' := Ext.grown hg rfl
 obtain ⟨hl, ho⟩ := ho
 rcases ho with ⟨rfl, h0⟩ | ⟨g, cap, cur, rfl, hbg, hg2, h3, h4, h5, h6⟩
 ·omega
 ·have hb : Blk w' g cur e := hg2
  refine ⟨ρ.more m.next g 0 (symI + m.caps) cap, hm.fresh hk (Below.trans hm.x (hx.mono hm.x.size)) hx.size (fun k hk2 _ => hx.block k hk2) hb.lt (.inl hbg) rfl fun le => ⟨cur, by simpa [Rn.more] using hb.f, fun i u hu => ?_, .inr rfl, by simp [Rn.more, h5]⟩, ?_⟩
  ·obtain ⟨v, hv, rv⟩ := r.get hu
   refine ⟨v, ?_, rv.mono le⟩
   have hi : i < n * sz := by have := (List.getElem?_eq_some_iff.1 hv).1; omega
   simp only [Rn.more, if_true, Nat.zero_add]
   rw [← h6, List.getElem?_take_of_lt hi, Array.getElem?_toList] at hv
   exact hv
  ·have e1 : (ρ.more m.next g 0 (symI + m.caps) cap).c (symC (symI + m.caps)) = cap := by rw [symC_c (by omega)]; simp [Rn.more]
   have := VR.slice (ρ := ρ.more m.next g 0 (symI + m.caps) cap) (some ⟨m.next, 0, none⟩) n (symC (symI + m.caps)) (by rw [e1]; exact h3) (fun p hp => by cases hp; exact .inr rfl) (symC_d (.inr rfl))
   rw [e1] at this
   simpa [Rn.more_a] using this
def ovw (cs : List Value) (o : Nat) (us : List Value) : List Value := cs.take o ++ (us ++ cs.drop (o + us.length))
theorem ovw_get {cs us : List Value} {o : Nat} (h : o + us.length ≤ cs.length) (i : Nat) : (ovw cs o us)[i]? = if o ≤ i ∧ i < o + us.length then us[i - o]? else cs[i]? := by
 unfold ovw
 have hl : (cs.take o).length = o := by rw [List.length_take]; omega
 split
 ·rename_i hc
  rw [List.getElem?_append_right (by omega), hl, List.getElem?_append_left (by omega)]
 ·rename_i hc
  rcases Nat.lt_or_ge i o with hi | hi
  ·rw [List.getElem?_append_left (by omega), List.getElem?_take_of_lt hi]
  ·rw [List.getElem?_append_right (by omega), hl, List.getElem?_append_right (by omega), List.getElem?_drop]
   congr 1; omega
def roomB (cs : List Value) (g : Option (Nat × Nat)) (off c n sz : Nat) : Bool :=
 Nat.ble (off + n * sz) cs.length && (bif Nat.blt c symB then Nat.ble n c else match g with
  | some (s, sz') => Nat.beq (c / 4294967296) s && (Nat.beq sz' sz && Nat.beq off (c % 4294967296 * sz))
  | none => false)
def appN (e sz bytes : Nat) (o : Option Addr) (l c k : Nat) (us : List Value) (m : AMem) : Option (Value × AMem) :=
 match Nat.blt 0 k && (Nat.blt 0 sz && (Nat.beq us.length (k * sz) && Nat.ble ((l + k) * bytes) 140737488355328)) with
 | false => none
 | true => match o with
  | none => match Nat.beq l 0 && Nat.beq c 0 with
   | true => some (.slice (some ⟨m.next, 0, none⟩) k (symC (symI + m.caps)), m.fresh none (.cells us e (some (symI + m.caps, sz))))
   | false => none
  | some ⟨t, off, none⟩ => match m.get t with
   | some (.cells cs ty g) => match Nat.beq ty e && Nat.ble (off + l * sz) cs.length with
    | false => none
    | true => match roomB cs g off c (l + k) sz with
     | true => some (.slice o (l + k) c, m.put t (.cells (ovw cs (off + l * sz) us) ty g))
     | false => match Nat.blt c symB with
      | true => (match Nat.blt c (l + k) with
       | true => some (.slice (some ⟨m.next, 0, none⟩) (l + k) (symC (symI + m.caps)), m.fresh none (.cells ((cs.drop off).take (l * sz) ++ us) e (some (symI + m.caps, sz))))
       | false => none)
      | false => (match g with
       | some (s, sz') => (match Nat.beq (c / 4294967296) s && (Nat.beq sz' sz && Nat.beq off (c % 4294967296 * sz)) with
        | true => some (.slice (some ⟨m.next, 0, none⟩) (l + k) (symC (symI + m.caps)), m.fresh (some t) (.cells ((cs.drop off).take (l * sz) ++ us) e (some (symI + m.caps, sz))))
        | false => none)
       | none => none)
   | _ => none
  | some ⟨t, off, some 1⟩ => match Nat.blt m.next bigT && Nat.ble bigT t, m.get (t - bigT) with
   | true, some (.cells cs ty (some (s, sz'))) => match (Nat.beq l 0 && Nat.beq ty e) && ((!Nat.blt c symB && Nat.ble off cs.length) && (Nat.beq (c / 4294967296) s && (Nat.beq sz' sz && Nat.beq off (c % 4294967296 * sz)))) with
    | true => some (.slice (some ⟨m.next, 0, none⟩) k (symC (symI + m.caps)), m.fresh (some (t - bigT)) (.cells us e (some (symI + m.caps, sz))))
    | false => none
   | _, _ => none
  | _ => none
theorem sym_c {ρ : Rn} {c : Nat} (h : ¬ Nat.blt c symB = true) : ρ.c c = ρ.cap (c / 4294967296) - c % 4294967296 := by
 unfold Rn.c
 cases e : Nat.blt c symB
 ·rfl
 ·exact absurd e h
theorem appN_ok {t u e sz bytes : Nat} {o : Option Addr} {l c k : Nat} {us news : List Value} {y : Value} {x : Value} {ty : Nat} (h : appN e sz bytes o l c k us m = some (y, m')) (s : Src P w t u e sz bytes x k news) (r : LR ρ us news) (hm : Mem w0 ρ m w) {d : Value} (rd : VR ρ (.slice o l c) d) (hne : o ≠ some emp) :
  RunT P w0 ρ m w (Builtin.append_ #[t, u] ty #[d, x]) y m' := by
 unfold appN at h
 split at h
 ·cases h
 rename_i hb
 simp only [Bool.and_eq_true] at hb
 obtain ⟨hk, hsz, _, hb⟩ := hb
 have hk : 0 < k := Nat.le_of_ble_eq_true hk
 have hsz : 0 < sz := Nat.le_of_ble_eq_true hsz
 have hb := Nat.le_of_ble_eq_true hb
 have hul : us.length = k * sz := by rw [r.len, s.len]
 cases rd with
 | empty a c2 => exact absurd rfl hne
 | tail tk off _ a hcc hod hcd =>
  simp only [Nat.add_sub_cancel] at h
  split at h
  ·rename_i cs ty2 s' sz' _ hg
   split at h
   ·rename_i ht
    simp only [Bool.and_eq_true, Bool.not_eq_true'] at ht
    obtain ⟨⟨_, ht1⟩, ⟨hlit, hoff⟩, e1, e2, e3⟩ := ht
    have ht1 := Nat.eq_of_beq_eq_true ht1
    have hoff := Nat.le_of_ble_eq_true hoff
    have e1 := Nat.eq_of_beq_eq_true e1
    have e2 := Nat.eq_of_beq_eq_true e2
    have e3 := Nat.eq_of_beq_eq_true e3
    subst e1; subst e2; subst ht1
    cases h
    obtain ⟨hbk, hlt, full, hB, hc, hgr⟩ := hm.obj tk _ hg rfl
    rcases Nat.lt_or_ge (ρ.c c) k with hlt2 | hge
    ·obtain ⟨v', w', q1, q2, q3⟩ := s.grow ty a 0 (ρ.c c) [] (by simp) (fun j v hj => by simp at hj) (by omega) (by simpa using hb)
     obtain ⟨ρ', ev, rv⟩ := hm.grown (kill := some tk) (fun t0 e => by cases e; exact ⟨_, hg, rfl⟩) q2 q3 (by omega) (by simpa using r)
     exact ⟨ρ', v', w', q1, ev, by simpa using rv⟩
    ·have ha : a = ρ.a ⟨tk, off, none⟩ := by
      rcases hcc with h0 | h0
      ·omega
      ·exact h0
     subst ha
     have hcs := sym_c (ρ := ρ) (by rw [hlit]; simp : ¬ Nat.blt c symB = true)
     have hh := hgr.2
     have htk : c % 4294967296 + k ≤ ρ.cap (c / 4294967296) := by omega
     have h9 := Nat.mul_le_mul_right sz' htk
     rw [Nat.add_mul] at h9
     obtain ⟨hb', bu⟩ := hB.sets news w full (ρ.off tk + off + 0 * sz')
     have hrun := s.room ty (ρ.blk tk) (ρ.off tk + off) 0 (ρ.c c) (by omega) (fun j hj => by
       rw [hB.cell, Array.getElem?_eq_getElem (by rw [s.len] at hj; omega)]; rfl) (fun j hj => hB.frozen (by rw [s.len] at hj; omega))
     rw [Nat.zero_add] at hrun
     refine ⟨ρ.more m.next (ρ.blk tk) (ρ.off tk + off) (symI + m.caps) (ρ.c c), _, _, hrun, hm.fresh (kill := some tk) (fun t0 e => by cases e; exact ⟨_, hg, rfl⟩) (bu.below hm.x hbk) (by rw [bu.size]; exact Nat.le_refl _) (fun kk _ hkk => bu.block kk (hkk tk rfl)) (by rw [bu.size]; exact hlt) (.inr ⟨tk, rfl, rfl⟩) rfl fun le => ⟨putL full (ρ.off tk + off + 0 * sz') news, by simpa [Rn.more] using hb', fun i q hq => ?_, .inr rfl, ?_⟩, ?_⟩
     ·simp only [Rn.more, if_true]
      rw [putL_get _ _ _ (by rw [s.len]; omega)]
      obtain ⟨v, hv, rv⟩ := r.get hq
      have hil := (List.getElem?_eq_some_iff.1 hv).1
      exact ⟨v, by rw [if_pos (by omega), show ρ.off tk + off + i - (ρ.off tk + off + 0 * sz') = i by omega]; exact hv, rv.mono le⟩
     ·simp only [Rn.more, if_true, putL_size]
      rw [hh, hcs, Nat.sub_mul]; omega
     ·have e1 : (ρ.more m.next (ρ.blk tk) (ρ.off tk + off) (symI + m.caps) (ρ.c c)).c (symC (symI + m.caps)) = ρ.c c := by rw [symC_c (by omega)]; simp [Rn.more]
      have := VR.slice (ρ := ρ.more m.next (ρ.blk tk) (ρ.off tk + off) (symI + m.caps) (ρ.c c)) (some ⟨m.next, 0, none⟩) k (symC (symI + m.caps)) (by rw [e1]; exact hge) (fun p hp => by cases hp; exact .inr rfl) (symC_d (.inr rfl))
      rw [e1] at this
      simpa [Rn.more_a] using this
   ·cases h
  ·cases h
 | slice _ _ _ hlc hod hcd =>
 split at h
 ·split at h
  ·rename_i hz
   simp only [Bool.and_eq_true] at hz
   have h1 := Nat.eq_of_beq_eq_true hz.1
   have h2 := Nat.eq_of_beq_eq_true hz.2
   subst h1; subst h2
   cases h
   obtain ⟨v', w', q1, q2, q3⟩ := s.nil ty hk (by simpa using hb)
   obtain ⟨ρ', ev, rv⟩ := hm.grown (kill := none) (fun t0 e => by cases e) q2 q3 hk r
   have e0 : ρ.c 0 = 0 := rfl
   exact ⟨ρ', v', w', by simpa [e0] using q1, ev, rv⟩
  ·cases h
 ·rename_i tk off
  split at h
  ·rename_i cs ty2 g hg
   split at h
   ·cases h
   rename_i ht
   simp only [Bool.and_eq_true] at ht
   have ht1 := Nat.eq_of_beq_eq_true ht.1
   subst ht1
   have hoff := Nat.le_of_ble_eq_true ht.2
   obtain ⟨hbk, hlt, full, hB, hc, hgr⟩ := hm.obj tk _ hg rfl
   -- the old cells
   have holds : ∃ olds : List Value, olds.length = l * sz ∧ (∀ j v, olds[j]? = some v → w.cell? ((ρ.a ⟨tk, off, none⟩).add j) = some v) ∧ LR ρ ((cs.drop off).take (l * sz)) olds := by
    obtain ⟨vs, r1, r2, r3⟩ : ∃ vs : List Value, LR ρ ((cs.drop off).take (l * sz)) vs ∧ vs.length = l * sz ∧ ∀ j v, vs[j]? = some v → full[ρ.off tk + (off + j)]? = some v := by
     have e1 : ((cs.drop off).take (l * sz)).length = l * sz := by rw [List.length_take, List.length_drop]; omega
     have e2 : ((full.toList.drop (ρ.off tk + off)).take (l * sz)).length = l * sz := by
      rw [List.length_take, List.length_drop]
      have e3 : full.toList.length = full.size := Array.length_toList
      rcases Nat.eq_zero_or_pos (l * sz) with h0 | h0
      ·rw [h0, Nat.zero_min]
      ·obtain ⟨v, hv, _⟩ := hc (off + (l * sz - 1)) _ (List.getElem?_eq_getElem (by omega))
       have := (Array.getElem?_eq_some_iff.1 hv).1
       omega
     refine ⟨(full.toList.drop (ρ.off tk + off)).take (l * sz), ⟨e1.trans e2.symm, fun i u v h1 h2 => ?_⟩, e2, fun j v hj => ?_⟩
     ·have hi : i < l * sz := by have := (List.getElem?_eq_some_iff.1 h1).1; rw [e1] at this; exact this
      rw [List.getElem?_take_of_lt hi, List.getElem?_drop] at h1 h2
      obtain ⟨v', hv, rv⟩ := hc _ _ h1
      rw [Array.getElem?_toList, Nat.add_assoc, hv] at h2
      cases h2; exact rv
     ·have hi : j < l * sz := by have := (List.getElem?_eq_some_iff.1 hj).1; rw [e2] at this; exact this
      rw [List.getElem?_take_of_lt hi, List.getElem?_drop, Array.getElem?_toList, Nat.add_assoc] at hj
      exact hj
    exact ⟨vs, r2, fun j v hj => by rw [Rn.a, add_mk, hB.cell, Nat.add_assoc]; exact r3 j v hj, r1⟩
   obtain ⟨olds, o1, o2, o3⟩ := holds
   have lkle : (l + k) * sz = l * sz + k * sz := Nat.add_mul _ _ _
   have hgrow : ∀ {kill : Option Nat}, (∀ t0, kill = some t0 → ∃ o, m.get t0 = some o ∧ o.live = true) → ρ.c c < l + k → ∃ ρ' v w', (Builtin.append_ #[t, u] ty #[.slice ((some ⟨tk, off, none⟩ : Option Addr).map ρ.a) l (ρ.c c), x]).run P w = .ok v w' ∧ Ev w0 ρ m w ρ' (m.fresh kill (.cells ((cs.drop off).take (l * sz) ++ us) ty2 (some (symI + m.caps, sz)))) w' ∧ VR ρ' (.slice (some ⟨m.next, 0, none⟩) (l + k) (symC (symI + m.caps))) v := fun {kill} hkl hlt2 => by
    obtain ⟨v', w', q1, q2, q3⟩ := s.grow ty (ρ.a ⟨tk, off, none⟩) l (ρ.c c) olds o1 o2 hlt2 hb
    obtain ⟨ρ', ev, rv⟩ := hm.grown (kill := kill) hkl q2 q3 (by omega) (o3.app r)
    exact ⟨ρ', v', w', q1, ev, rv⟩
   split at h
   ·rename_i hroom
    cases h
    unfold roomB at hroom
    simp only [Bool.and_eq_true] at hroom
    obtain ⟨hr1, hr2⟩ := hroom
    have hr1 := Nat.le_of_ble_eq_true hr1
    -- the block bears what is known
    have hfull : ρ.off tk + (off + (l + k) * sz) ≤ full.size := by
     obtain ⟨v, hv, _⟩ := hc (off + (l + k) * sz - 1) _ (List.getElem?_eq_getElem (by
      have : 0 < (l + k) * sz := Nat.mul_pos (by omega) hsz
      omega))
     have := (Array.getElem?_eq_some_iff.1 hv).1
     have : 0 < (l + k) * sz := Nat.mul_pos (by omega) hsz
     omega
    have hcap : l + k ≤ ρ.c c := by
     cases hlit : Nat.blt c symB with
     | true => rw [hlit, cond_true] at hr2; rw [ρ.c_lit hlit]; exact Nat.le_of_ble_eq_true hr2
     | false =>
      rw [hlit, cond_false] at hr2
      split at hr2
      ·rename_i s' sz'
       simp only [Bool.and_eq_true] at hr2
       obtain ⟨e1, e2, e3⟩ := hr2
       have e1 := Nat.eq_of_beq_eq_true e1
       have e2 := Nat.eq_of_beq_eq_true e2
       have e3 := Nat.eq_of_beq_eq_true e3
       subst e1; subst e2
       rw [sym_c (by rw [hlit]; simp)]
       have hh := hgr.2
       have h9 : (c % 4294967296 + (l + k)) * sz' ≤ ρ.cap (c / 4294967296) * sz' := by rw [Nat.add_mul]; omega
       have := Nat.le_of_mul_le_mul_right h9 hsz
       omega
      ·cases hr2
    obtain ⟨hb', bu⟩ := hB.sets news w full (ρ.off tk + off + l * sz)
    have hrun := s.room ty (ρ.blk tk) (ρ.off tk + off) l (ρ.c c) hcap (fun j hj => by
      rw [hB.cell, Array.getElem?_eq_getElem (by rw [s.len] at hj; omega)]; rfl) (fun j hj => hB.frozen (by rw [s.len] at hj; omega))
    refine ⟨ρ, _, _, hrun, hm.put hg rfl bu fun _ => ⟨_, hb', fun i q hq => ?_, ?_⟩, ?_⟩
    ·rw [ovw_get (by omega)] at hq
     rw [putL_get _ _ _ (by rw [s.len]; omega)]
     split at hq
     ·rename_i hin
      obtain ⟨v, hv, rv⟩ := r.get hq
      refine ⟨v, ?_, rv⟩
      rw [if_pos (by rw [← r.len]; omega), show ρ.off tk + i - (ρ.off tk + off + l * sz) = i - (off + l * sz) by omega]
      exact hv
     ·rename_i hin
      obtain ⟨v, hv, rv⟩ := hc i q hq
      refine ⟨v, ?_, rv⟩
      rw [if_neg (by rw [← r.len]; omega)]; exact hv
    ·cases g with
     | none => trivial
     | some x => exact ⟨hgr.1, by rw [putL_size]; exact hgr.2⟩
    ·exact VR.slice (ρ := ρ) (some ⟨tk, off, none⟩) (l + k) c hcap hod hcd
   ·split at h
    ·rename_i hlit
     split at h
     ·rename_i hc2
      cases h
      have hc2 : c < l + k := Nat.le_of_ble_eq_true hc2
      exact hgrow (kill := none) (fun t0 e => by cases e) (by rw [ρ.c_lit hlit]; exact hc2)
     ·cases h
    ·rename_i hlit
     split at h
     ·rename_i s' sz' _
      split at h
      ·rename_i hx2
       simp only [Bool.and_eq_true] at hx2
       obtain ⟨e1, e2, e3⟩ := hx2
       have e1 := Nat.eq_of_beq_eq_true e1
       have e2 := Nat.eq_of_beq_eq_true e2
       have e3 := Nat.eq_of_beq_eq_true e3
       subst e1; subst e2
       cases h
       rcases Nat.lt_or_ge (ρ.c c) (l + k) with hlt2 | hge
       ·exact hgrow (kill := some tk) (fun t0 e => by cases e; exact ⟨_, hg, rfl⟩) hlt2
       ·-- room in the same block
        have hcc := sym_c (ρ := ρ) (by rw [hlit]; simp : ¬ Nat.blt c symB = true)
        have hh := hgr.2
        have htk : c % 4294967296 + (l + k) ≤ ρ.cap (c / 4294967296) := by omega
        have h9 := Nat.mul_le_mul_right sz' htk
        rw [Nat.add_mul] at h9
        obtain ⟨hb', bu⟩ := hB.sets news w full (ρ.off tk + off + l * sz')
        have hrun := s.room ty (ρ.blk tk) (ρ.off tk + off) l (ρ.c c) hge (fun j hj => by
          rw [hB.cell, Array.getElem?_eq_getElem (by rw [s.len] at hj; omega)]; rfl) (fun j hj => hB.frozen (by rw [s.len] at hj; omega))
        refine ⟨ρ.more m.next (ρ.blk tk) (ρ.off tk + off) (symI + m.caps) (ρ.c c), _, _, hrun, hm.fresh (kill := some tk) (fun t0 e => by cases e; exact ⟨_, hg, rfl⟩) (bu.below hm.x hbk) (by rw [bu.size]; exact Nat.le_refl _) (fun kk _ hkk => bu.block kk (hkk tk rfl)) (by rw [bu.size]; exact hlt) (.inr ⟨tk, rfl, rfl⟩) rfl fun le => ⟨putL full (ρ.off tk + off + l * sz') news, by simpa [Rn.more] using hb', fun i q hq => ?_, .inr rfl, ?_⟩, ?_⟩
        ·simp only [Rn.more, if_true]
         rw [putL_get _ _ _ (by rw [s.len]; omega)]
         have hol : ((cs.drop off).take (l * sz')).length = l * sz' := by rw [List.length_take, List.length_drop]; omega
         rcases Nat.lt_or_ge i (l * sz') with hi | hi
         ·rw [List.getElem?_append_left (by omega), List.getElem?_take_of_lt hi, List.getElem?_drop] at hq
          obtain ⟨v, hv, rv⟩ := hc _ _ hq
          exact ⟨v, by rw [if_neg (by omega), Nat.add_assoc]; exact hv, rv.mono le⟩
         ·rw [List.getElem?_append_right (by omega), hol] at hq
          obtain ⟨v, hv, rv⟩ := r.get hq
          have hil := (List.getElem?_eq_some_iff.1 hv).1
          exact ⟨v, by rw [if_pos (by omega), show ρ.off tk + off + i - (ρ.off tk + off + l * sz') = i - l * sz' by omega]; exact hv, rv.mono le⟩
        ·simp only [Rn.more, if_true, putL_size]
         rw [hh, hcc, Nat.sub_mul]; omega
        ·have e1 : (ρ.more m.next (ρ.blk tk) (ρ.off tk + off) (symI + m.caps) (ρ.c c)).c (symC (symI + m.caps)) = ρ.c c := by rw [symC_c (by omega)]; simp [Rn.more]
         have := VR.slice (ρ := ρ.more m.next (ρ.blk tk) (ρ.off tk + off) (symI + m.caps) (ρ.c c)) (some ⟨m.next, 0, none⟩) (l + k) (symC (symI + m.caps)) (by rw [e1]; exact hge) (fun p hp => by cases hp; exact .inr rfl) (symC_d (.inr rfl))
         rw [e1] at this
         simpa [Rn.more_a] using this
      ·cases h
     ·cases h
  ·cases h
 ·rename_i T off
  split at h
  ·rename_i cs ty2 s' sz' hlt _
   have h1 := hm.dom _ (hod _ rfl)
   have h1 : T < m.next := h1
   simp only [Bool.and_eq_true] at hlt
   have h2 : m.next < bigT := Nat.le_of_ble_eq_true hlt.1
   have h3 := Nat.le_of_ble_eq_true hlt.2
   omega
  ·cases h
 ·cases h
end
end Go.V
