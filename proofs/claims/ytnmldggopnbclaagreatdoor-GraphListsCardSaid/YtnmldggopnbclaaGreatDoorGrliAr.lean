/- A part of the proof: plain forms of functions and laws about them. -/
import Derived.Test.YtnmldggopnbclaaGreatDoorGrliAq
import Derived.Maps.Ext
namespace Go.V
open Go.RowKit (Below)
def ixOf {K : Type} [DecidableEq K] : List K → K → Nat → Option Nat
 | [], _, _ => none
 | k :: ks, a, i => if a = k then some i else ixOf ks a (i + 1)
structure KeyOk {K : Type} [DecidableEq K] (P : Program) (kt : TypeId) (enc : K → Value) : Prop where
 chk : ∀ e a w, (Instr.checkKey e 10000 kt (enc a)).run P w = .ok () w
 find : ∀ (es : List MapEntry) (ks : List K) (a : K) (w : World), es.map (·.key) = ks.map enc → (Instr.findKey kt (enc a) es).run P w = .ok ((ixOf ks a 0).bind fun i => (es[i]?).map fun e => (i, e.val)) w
 same : ∀ a, Instr.sameBits 10000 (enc a) (enc a) = true
structure MapT {K V : Type} [DecidableEq K] (P : Program) (t kt et : TypeId) (enc : K → Value) (encV : V → Value) (z : V) : Prop where
 und : P.underlying t = some (.map kt et)
 key : KeyOk P kt enc
 zer : ∀ w, (zeroValue et).run P w = .ok (encV z) w
theorem ixOf_some {K : Type} [DecidableEq K] {a : K} : ∀ {ks : List K} {i j : Nat}, ixOf ks a i = some j → i ≤ j ∧ ks[j - i]? = some a
 | [], i, j, h => by simp [ixOf] at h
 | k :: ks, i, j, h => by
  rw [ixOf] at h
  split at h
  ·rename_i he; cases h; subst he; simp
  ·obtain ⟨h1, h2⟩ := ixOf_some h
   refine ⟨by omega, ?_⟩
   rw [show j - i = j - (i + 1) + 1 by omega, List.getElem?_cons_succ]; exact h2
theorem ixOf_none {K : Type} [DecidableEq K] {a : K} : ∀ {ks : List K} {i : Nat}, ixOf ks a i = none → a ∉ ks
 | [], i, _ => by simp
 | k :: ks, i, h => by
  rw [ixOf] at h
  split at h
  ·cases h
  ·rename_i hne
   simp only [List.mem_cons, not_or]
   exact ⟨hne, ixOf_none h⟩
def lget {K V : Type} [DecidableEq K] : List (K × V) → K → Option V
 | [], _ => none
 | (k, v) :: r, a => if a = k then some v else lget r a
theorem lget_none {K V : Type} [DecidableEq K] {a : K} : ∀ {m : List (K × V)}, a ∉ m.map (·.1) → lget m a = none
 | [], _ => rfl
 | (k, v) :: r, h => by
  simp only [List.map_cons, List.mem_cons, not_or] at h
  rw [lget, if_neg h.1]; exact lget_none h.2
theorem lget_at {K V : Type} [DecidableEq K] {a : K} {v : V} : ∀ {m : List (K × V)} {i : Nat}, (m.map (·.1)).Nodup → m[i]? = some (a, v) → lget m a = some v
 | [], i, _, h => by simp at h
 | (k, u) :: r, 0, _, h => by simp at h; obtain ⟨rfl, rfl⟩ := h; rw [lget, if_pos rfl]
 | (k, u) :: r, i + 1, hn, h => by
  simp only [List.getElem?_cons_succ] at h
  simp only [List.map_cons, List.nodup_cons] at hn
  have hm : a ∈ r.map (·.1) := List.mem_map.2 ⟨(a, v), List.mem_of_getElem? h, rfl⟩
  rw [lget, if_neg (fun e => by subst e; exact hn.1 hm)]
  exact lget_at hn.2 h
theorem lget_append {K V : Type} [DecidableEq K] {a : K} : ∀ {m r : List (K × V)}, lget (m ++ r) a = match lget m a with | some v => some v | none => lget r a
 | [], r => by simp [lget]
 | (k, v) :: m, r => by
  rw [List.cons_append, lget, lget]
  split
  ·rfl
  ·exact lget_append
theorem lget_set {K V : Type} [DecidableEq K] {a b : K} {v : V} : ∀ {m : List (K × V)} {i : Nat}, (m.map (·.1)).Nodup → (m.map (·.1))[i]? = some a → lget (m.set i (a, v)) b = if b = a then some v else lget m b
 | [], i, _, h => by simp at h
 | (k, u) :: r, 0, _, h => by
  simp at h; subst h
  rw [List.set_cons_zero, lget, lget]; split <;> rfl
 | (k, u) :: r, i + 1, hn, h => by
  simp only [List.map_cons, List.getElem?_cons_succ] at h
  simp only [List.map_cons, List.nodup_cons] at hn
  rw [List.set_cons_succ, lget, lget_set hn.2 h, lget]
  by_cases hb : b = k
  ·subst hb
   have hm := List.mem_of_getElem? h
   rw [if_pos rfl, if_neg (fun e => by subst e; exact hn.1 hm), if_pos rfl]
  ·rw [if_neg hb, if_neg hb]
theorem lget_erase {K V : Type} [DecidableEq K] {a b : K} : ∀ {m : List (K × V)} {i : Nat}, (m.map (·.1)).Nodup → (m.map (·.1))[i]? = some a → lget (m.eraseIdx i) b = if b = a then none else lget m b
 | [], i, _, h => by simp at h
 | (k, u) :: r, 0, hn, h => by
  simp at h; subst h
  simp only [List.map_cons, List.nodup_cons] at hn
  rw [List.eraseIdx_zero, List.tail_cons, lget]
  by_cases hb : b = k
  ·subst hb; rw [if_pos rfl]; exact lget_none hn.1
  ·rw [if_neg hb, if_neg hb]
 | (k, u) :: r, i + 1, hn, h => by
  simp only [List.map_cons, List.getElem?_cons_succ] at h
  simp only [List.map_cons, List.nodup_cons] at hn
  rw [List.eraseIdx_cons_succ, lget, lget_erase hn.2 h, lget]
  by_cases hb : b = k
  ·subst hb
   have hm := List.mem_of_getElem? h
   rw [if_pos rfl, if_neg (fun e => by subst e; exact hn.1 hm), if_pos rfl]
  ·rw [if_neg hb, if_neg hb]
structure MapO {K V : Type} [DecidableEq K] (enc : K → Value) (encV : V → Value) (w : World) (r : Nat) (m : List (K × V)) (bs : List Nat) (clock : Nat) : Prop where
 obj : ∃ es, w.heap[r]? = some (.map es clock) ∧ es.toList.map (·.key) = (m.map (·.1)).map enc ∧ es.toList.map (·.val) = (m.map (·.2)).map encV ∧ es.toList.map (·.born) = bs
 nodup : (m.map (·.1)).Nodup
 born : bs.Nodup
 old : ∀ b ∈ bs, b < clock
def MapF {K V : Type} [DecidableEq K] (enc : K → Value) (encV : V → Value) (z : V) (w : World) (r : Nat) (f : K → V) : Prop :=
 ∃ m bs clock, MapO enc encV w r m bs clock ∧ ∀ a, (lget m a).getD z = f a
def MapSt {K V : Type} [DecidableEq K] (enc : K → Value) (encV : V → Value) (z : V) (w : World) (r : Nat) (f : K → V) (a : K) (st : Nat) : Prop :=
 ∃ (m : List (K × V)) (bs : List Nat) (clock i : Nat), MapO enc encV w r m bs clock ∧ (∀ a, (lget m a).getD z = f a) ∧ (m.map (·.1))[i]? = some a ∧ bs[i]? = some st
def upd {K V : Type} [DecidableEq K] (f : K → V) (a : K) (v : V) : K → V := fun b => if b = a then v else f b
section
variable {K V : Type} [DecidableEq K] {P : Program} {t kt et : TypeId} {enc : K → Value} {encV : V → Value} {z : V} {w : World} {r : Nat} {f : K → V}
theorem MapO.heap {m : List (K × V)} {bs : List Nat} {clock : Nat} (h : MapO enc encV w r m bs clock) {w' : World} (k : w'.heap[r]? = w.heap[r]?) : MapO enc encV w' r m bs clock := by
 obtain ⟨⟨es, h1, h2⟩, h3, h4, h5⟩ := h
 exact ⟨⟨es, k.trans h1, h2⟩, h3, h4, h5⟩
theorem MapF.heap (h : MapF enc encV z w r f) {w' : World} (k : w'.heap[r]? = w.heap[r]?) : MapF enc encV z w' r f := by
 obtain ⟨m, bs, c, h1, h2⟩ := h; exact ⟨m, bs, c, h1.heap k, h2⟩
theorem MapF.lt (h : MapF enc encV z w r f) : r < w.heap.size := by
 obtain ⟨m, bs, c, ⟨⟨es, h1, _⟩, _⟩, _⟩ := h; exact (Array.getElem?_eq_some_iff.1 h1).1
theorem MapF.ext (h : MapF enc encV z w r f) {w' : World} (k : Ext w w') : MapF enc encV z w' r f := h.heap (k.block r h.lt)
theorem MapF.congr (h : MapF enc encV z w r f) {g : K → V} (k : ∀ a, f a = g a) : MapF enc encV z w r g := by
 obtain ⟨m, bs, c, h1, h2⟩ := h; exact ⟨m, bs, c, h1, fun a => (h2 a).trans (k a)⟩
theorem ix_val {m : List (K × V)} {es : Array MapEntry} {a : K} (h2 : es.toList.map (·.val) = (m.map (·.2)).map encV) (hn : (m.map (·.1)).Nodup) :
  ((ixOf (m.map (·.1)) a 0).bind fun i => (es.toList[i]?).map fun e => (i, e.val)) = (ixOf (m.map (·.1)) a 0).bind fun i => (lget m a).map fun v => (i, encV v) := by
 cases hi : ixOf (m.map (·.1)) a 0 with
 | none => rfl
 | some i =>
  obtain ⟨_, hk⟩ := ixOf_some hi
  rw [Nat.sub_zero] at hk
  obtain ⟨kv, hkv, hke⟩ : ∃ kv, m[i]? = some kv ∧ kv.1 = a := by
   rw [List.getElem?_map] at hk
   cases hm : m[i]? with
   | none => rw [hm] at hk; cases hk
   | some kv => rw [hm] at hk; simp at hk; exact ⟨kv, rfl, hk⟩
  obtain ⟨k, v⟩ := kv
  simp only at hke; subst hke
  have hv : (es.toList[i]?).map (·.val) = some (encV v) := by
   have := congrArg (·[i]?) h2
   simp only [List.getElem?_map] at this
   rw [hkv] at this
   simpa using this
  have hl := lget_at hn hkv
  cases he : es.toList[i]? with
  | none => rw [he] at hv; cases hv
  | some e =>
   rw [he] at hv
   simp only [Option.map_some, Option.some.injEq] at hv
   show ((es.toList[i]?).map fun e => (i, e.val)) = ((lget m k).map fun v => (i, encV v))
   rw [he, hl]; simp [hv]
theorem MapF.lookup (T : MapT P t kt et enc encV z) (h : MapF enc encV z w r f) (a : K) :
  Sem.run P (Instr.lookup t (.map (some r)) (enc a) false) w = .ok (encV (f a)) w := by
 obtain ⟨m, bs, c, ⟨⟨es, h1, h2, h3, h4⟩, hn, _⟩, hf⟩ := h
 have hg : (getObj r).run P w = .ok (.map es c) w := by simp [getObj, Sem.run, h1]
 have hfind := T.key.find es.toList (m.map (·.1)) a w h2
 rw [ix_val h3 hn] at hfind
 simp only [Instr.lookup, Sem.run_bind, run_underlying T.und, Result.andThen_ok, hg, T.key.chk, hfind, Sem.run_pure]
 rw [← hf a]
 cases hi : ixOf (m.map (·.1)) a 0 with
 | none => rw [lget_none (ixOf_none hi)]; simp [T.zer]
 | some i =>
  obtain ⟨_, hk⟩ := ixOf_some hi
  cases hl : lget m a with
  | some v => simp
  | none =>
   exfalso
   rw [Nat.sub_zero, List.getElem?_map] at hk
   cases hm : m[i]? with
   | none => rw [hm] at hk; cases hk
   | some kv =>
    rw [hm] at hk; simp at hk
    obtain ⟨k, v⟩ := kv
    simp only at hk; subst hk
    rw [lget_at hn hm] at hl; cases hl
theorem ix_lt {m : List (K × V)} {a : K} {i : Nat} (h : ixOf (m.map (·.1)) a 0 = some i) : (m.map (·.1))[i]? = some a := by
 obtain ⟨_, hk⟩ := ixOf_some h; rwa [Nat.sub_zero] at hk
theorem setObj_run {P : Program} {w : World} {r : Nat} {es es' : Array MapEntry} {c c' : Nat} (h1 : w.heap[r]? = some (.map es c)) :
  (setObj r (.map es' c')).run P w = .ok () { w with heap := w.heap.setIfInBounds r (.map es' c') } := by simp [setObj, Sem.run, h1]
theorem setObj_heap {w : World} {r : Nat} {o o' : Obj} (h1 : w.heap[r]? = some o) : ({ w with heap := w.heap.setIfInBounds r o' } : World).heap[r]? = some o' := by
 have := (Array.getElem?_eq_some_iff.1 h1).1
 simp [this]
theorem setObj_but (w : World) (r : Nat) (o : Obj) : But r w { w with heap := w.heap.setIfInBounds r o } :=
 ⟨rfl, rfl, rfl, by simp, fun k hk => by simp [Array.getElem?_setIfInBounds_ne (Ne.symm hk)]⟩
theorem MapO.setAt {m : List (K × V)} {bs : List Nat} {clock : Nat} {w' : World} {es : Array MapEntry} {i : Nat} {a : K} {v : V} {b : Nat} (hs : es.toList.map (·.key) = (m.map (·.1)).map enc ∧ es.toList.map (·.val) = (m.map (·.2)).map encV ∧ es.toList.map (·.born) = bs)
  (hn : (m.map (·.1)).Nodup) (hb : bs.Nodup) (ho : ∀ b ∈ bs, b < clock) (hi : (m.map (·.1))[i]? = some a) (hbi : bs[i]? = some b)
  (he : w'.heap[r]? = some (.map (es.setIfInBounds i ⟨enc a, encV v, b⟩) clock)) : MapO enc encV w' r (m.set i (a, v)) bs clock := by
 obtain ⟨h2, h3, h4⟩ := hs
 have e1 : (m.set i (a, v)).map (·.1) = m.map (·.1) := by
  rw [List.map_set]
  apply List.ext_getElem?; intro j
  rw [List.getElem?_set]
  split
  ·rename_i hij; subst hij
   rw [hi]; have := (List.getElem?_eq_some_iff.1 hi).1; rw [if_pos this]
  ·rfl
 refine ⟨⟨_, he, ?_, ?_, ?_⟩, by rw [e1]; exact hn, hb, ho⟩
 ·rw [e1, Array.toList_setIfInBounds, List.map_set, h2]
  apply List.ext_getElem?; intro j
  rw [List.getElem?_set]
  split
  ·rename_i hij; subst hij
   rw [List.getElem?_map, hi]
   have := (List.getElem?_eq_some_iff.1 hi).1
   rw [if_pos (by simpa using this)]; rfl
  ·rfl
 ·rw [Array.toList_setIfInBounds, List.map_set, h3, List.map_set, List.map_set]
 ·rw [Array.toList_setIfInBounds, List.map_set, h4]
  apply List.ext_getElem?; intro j
  rw [List.getElem?_set]
  split
  ·rename_i hij; subst hij
   rw [hbi]; have := (List.getElem?_eq_some_iff.1 hbi).1; rw [if_pos this]
  ·rfl
theorem MapO.pushed {m : List (K × V)} {bs : List Nat} {clock : Nat} {w' : World} {es : Array MapEntry} {a : K} {v : V} (hs : es.toList.map (·.key) = (m.map (·.1)).map enc ∧ es.toList.map (·.val) = (m.map (·.2)).map encV ∧ es.toList.map (·.born) = bs)
  (hn : (m.map (·.1)).Nodup) (hb : bs.Nodup) (ho : ∀ b ∈ bs, b < clock) (ha : a ∉ m.map (·.1))
  (he : w'.heap[r]? = some (.map (es.push ⟨enc a, encV v, clock⟩) (clock + 1))) : MapO enc encV w' r (m ++ [(a, v)]) (bs ++ [clock]) (clock + 1) := by
 obtain ⟨h2, h3, h4⟩ := hs
 refine ⟨⟨_, he, by simp [h2], by simp [h3], by simp [h4]⟩, ?_, ?_, ?_⟩
 ·rw [List.map_append, List.nodup_append]
  refine ⟨hn, by simp, fun x hx y hy => ?_⟩
  simp at hy; subst hy; rintro rfl; exact ha hx
 ·rw [List.nodup_append]
  refine ⟨hb, by simp, fun x hx y hy => ?_⟩
  simp at hy; subst hy; have := ho x hx; omega
 ·intro b hb'
  rcases List.mem_append.1 hb' with h | h
  ·have := ho b h; omega
  ·simp at h; omega
theorem MapO.erased {m : List (K × V)} {bs : List Nat} {clock : Nat} {w' : World} {es : Array MapEntry} {i : Nat} (hs : es.toList.map (·.key) = (m.map (·.1)).map enc ∧ es.toList.map (·.val) = (m.map (·.2)).map encV ∧ es.toList.map (·.born) = bs)
  (hn : (m.map (·.1)).Nodup) (hb : bs.Nodup) (ho : ∀ b ∈ bs, b < clock)
  (he : w'.heap[r]? = some (.map (es.eraseIdxIfInBounds i) clock)) (hi : i < m.length) : MapO enc encV w' r (m.eraseIdx i) (bs.eraseIdx i) clock := by
 obtain ⟨h2, h3, h4⟩ := hs
 have hsz : i < es.size := by
  have := congrArg List.length h2
  simp at this; omega
 have e0 : (es.eraseIdxIfInBounds i).toList = es.toList.eraseIdx i := by simp [Array.eraseIdxIfInBounds, hsz]
 have em : ∀ {α β : Type} (l : List α) (f : α → β) (i : Nat), (l.eraseIdx i).map f = (l.map f).eraseIdx i := fun l f i => by
  induction l generalizing i with
  | nil => simp
  | cons x xs ih => cases i with
   | zero => simp
   | succ i => simp [ih]
 refine ⟨⟨_, he, ?_, ?_, ?_⟩, ?_, ?_, ?_⟩
 ·rw [e0, em, em, em, h2]
 ·rw [e0, em, em, em, h3]
 ·rw [e0, em, h4]
 ·rw [em]; exact hn.sublist (List.eraseIdx_sublist _ _)
 ·exact hb.sublist (List.eraseIdx_sublist _ _)
 ·exact fun b hb' => ho b (List.mem_of_mem_eraseIdx hb')
theorem found {m : List (K × V)} {es : Array MapEntry} {bs : List Nat} (T : KeyOk P kt enc) (hs : es.toList.map (·.key) = (m.map (·.1)).map enc ∧ es.toList.map (·.val) = (m.map (·.2)).map encV ∧ es.toList.map (·.born) = bs) (hn : (m.map (·.1)).Nodup) (a : K) (w : World) :
  (∃ i e v, ixOf (m.map (·.1)) a 0 = some i ∧ es[i]? = some e ∧ e.key = enc a ∧ e.val = encV v ∧ lget m a = some v ∧ bs[i]? = some e.born ∧ i < m.length ∧ (Instr.findKey kt (enc a) es.toList).run P w = .ok (some (i, encV v)) w) ∨
  (a ∉ m.map (·.1) ∧ lget m a = none ∧ (Instr.findKey kt (enc a) es.toList).run P w = .ok none w) := by
 obtain ⟨h2, h3, h4⟩ := hs
 have hfind := T.find es.toList (m.map (·.1)) a w h2
 rw [ix_val h3 hn] at hfind
 cases hi : ixOf (m.map (·.1)) a 0 with
 | none =>
  right
  rw [hi] at hfind
  exact ⟨ixOf_none hi, lget_none (ixOf_none hi), hfind⟩
 | some i =>
  left
  have hk := ix_lt hi
  obtain ⟨kv, hkv, hke⟩ : ∃ kv, m[i]? = some kv ∧ kv.1 = a := by
   rw [List.getElem?_map] at hk
   cases hm : m[i]? with
   | none => rw [hm] at hk; cases hk
   | some kv => rw [hm] at hk; simp at hk; exact ⟨kv, rfl, hk⟩
  obtain ⟨k, v⟩ := kv
  simp only at hke; subst hke
  have hl := lget_at hn hkv
  have hlen : i < es.toList.length := by
   have := congrArg List.length h2
   have h5 := (List.getElem?_eq_some_iff.1 hkv).1
   simp at this ⊢; omega
  have c2 := congrArg (·[i]?) h2
  have c3 := congrArg (·[i]?) h3
  have c4 := congrArg (·[i]?) h4
  simp only [List.getElem?_map, hkv, List.getElem?_eq_getElem hlen, Option.map_some, Option.some.injEq] at c2 c3 c4
  refine ⟨i, es.toList[i], v, rfl, ?_, c2, c3, hl, c4.symm, (List.getElem?_eq_some_iff.1 hkv).1, ?_⟩
  ·rw [← Array.getElem?_toList]; exact List.getElem?_eq_getElem hlen
  ·rw [hi] at hfind; rw [hfind, hl]; rfl
theorem keyStays (T : KeyOk P kt enc) (a : K) (w : World) : (Instr.keyThatStays (enc a) (enc a)).run P w = .ok (enc a) w := by
 simp [Instr.keyThatStays, T.same]
theorem MapF.update (T : MapT P t kt et enc encV z) (h : MapF enc encV z w r f) (a : K) (v : V) :
  ∃ w', Sem.run P (Instr.mapUpdate t (.map (some r)) (enc a) (encV v)) w = .ok () w' ∧ MapF enc encV z w' r (upd f a v) ∧ But r w w' := by
 obtain ⟨m, bs, c, ⟨⟨es, h1, hs⟩, hn, hb, ho⟩, hf⟩ := h
 have hg : (getObj r).run P w = .ok (.map es c) w := by simp [getObj, Sem.run, h1]
 rcases found T.key hs hn a w with ⟨i, e, u, hi, he, hek, hev, hl, hbi, hilt, hfind⟩ | ⟨hna, hl, hfind⟩
 ·have hkey : (((es[i]?).map (·.key)).getD (enc a)) = enc a := by rw [he]; exact hek
  refine ⟨_, ?_, ⟨m.set i (a, v), bs, c, MapO.setAt hs hn hb ho (ix_lt hi) hbi (setObj_heap h1), fun b => ?_⟩, setObj_but _ _ _⟩
  ·simp only [Instr.mapUpdate, Sem.run_bind, run_underlying T.und, Result.andThen_ok, hg, T.key.chk, hfind, hkey, keyStays T.key]
   have : (es.modify i fun e => { e with key := enc a, val := encV v }) = es.setIfInBounds i ⟨enc a, encV v, e.born⟩ := by
    apply Array.ext_getElem?; intro j
    rw [Array.getElem?_modify, Array.getElem?_setIfInBounds]
    by_cases hij : i = j
    ·subst hij
     rw [if_pos rfl, if_pos rfl, he]
     have := (Array.getElem?_eq_some_iff.1 he).1
     rw [if_pos this]; rfl
    ·rw [if_neg hij, if_neg hij]
   rw [this, setObj_run h1]
  ·rw [lget_set hn (ix_lt hi), upd, ← hf]; split <;> rfl
 ·refine ⟨_, ?_, ⟨m ++ [(a, v)], bs ++ [c], c + 1, MapO.pushed hs hn hb ho hna (setObj_heap h1), fun b => ?_⟩, setObj_but _ _ _⟩
  ·simp only [Instr.mapUpdate, Sem.run_bind, run_underlying T.und, Result.andThen_ok, hg, T.key.chk, hfind]
   rw [setObj_run h1]
  ·rw [lget_append, upd, ← hf]
   by_cases hba : b = a
   ·subst hba; rw [hl, if_pos rfl]; simp [lget]
   ·rw [if_neg hba]; cases lget m b <;> simp [lget, hba]
theorem MapF.delete (T : MapT P t kt et enc encV z) (h : MapF enc encV z w r f) (a : K) (ty : TypeId) (tk : TypeId) :
  ∃ w', Sem.run P (Builtin.delete_ #[t, tk] ty #[.map (some r), enc a]) w = .ok (.tuple #[]) w' ∧ MapF enc encV z w' r (upd f a z) ∧ But r w w' := by
 obtain ⟨m, bs, c, ⟨⟨es, h1, hs⟩, hn, hb, ho⟩, hf⟩ := h
 have hg : (getObj r).run P w = .ok (.map es c) w := by simp [getObj, Sem.run, h1]
 rcases found T.key hs hn a w with ⟨i, e, u, hi, he, hek, hev, hl, hbi, hilt, hfind⟩ | ⟨hna, hl, hfind⟩
 ·refine ⟨_, ?_, ⟨m.eraseIdx i, bs.eraseIdx i, c, MapO.erased hs hn hb ho (setObj_heap h1) hilt, fun b => ?_⟩, setObj_but _ _ _⟩
  ·simp [Builtin.delete_, run_underlying T.und, hg, T.key.chk, hfind, setObj_run h1]
  ·rw [lget_erase hn (ix_lt hi), upd, ← hf]; split <;> rfl
 ·refine ⟨_, ?_, ⟨m, bs, c, ⟨⟨es, setObj_heap h1, hs⟩, hn, hb, ho⟩, fun b => ?_⟩, setObj_but _ _ _⟩
  ·simp [Builtin.delete_, run_underlying T.und, hg, T.key.chk, hfind, setObj_run h1]
  ·rw [upd, ← hf]
   by_cases hba : b = a
   ·subst hba; rw [hl, if_pos rfl]; rfl
   ·rw [if_neg hba]
theorem MapF.entry (T : MapT P t kt et enc encV z) (h : MapF enc encV z w r f) (a : K) :
  ∃ (st : Nat) (w' : World), Sem.run P (Instr.mapEntry t (.map (some r)) (enc a)) w = .ok (.tuple #[encV (f a), .int .i64 (st : Int)]) w' ∧ MapSt enc encV z w' r f a st ∧ But r w w' := by
 obtain ⟨m, bs, c, ⟨⟨es, h1, hs⟩, hn, hb, ho⟩, hf⟩ := h
 have hg : (getObj r).run P w = .ok (.map es c) w := by simp [getObj, Sem.run, h1]
 rcases found T.key hs hn a w with ⟨i, e, u, hi, he, hek, hev, hl, hbi, hilt, hfind⟩ | ⟨hna, hl, hfind⟩
 ·have hkey : (((es[i]?).map (·.key)).getD (enc a)) = enc a := by rw [he]; exact hek
  have hfa : f a = u := by rw [← hf a, hl]; rfl
  refine ⟨e.born, _, ?_, ⟨m, bs, c, i, ⟨⟨es, setObj_heap h1, hs⟩, hn, hb, ho⟩, hf, ix_lt hi, hbi⟩, setObj_but _ _ _⟩
  simp only [Instr.mapEntry, Sem.run_bind, run_underlying T.und, Result.andThen_ok, hg, T.key.chk, hfind, hkey, keyStays T.key]
  have : (es.modify i fun e => { e with key := enc a }) = es := by
   apply Array.ext_getElem?; intro j
   rw [Array.getElem?_modify]
   by_cases hij : i = j
   ·subst hij
    rw [if_pos rfl, he]; simp only [Option.map_some, Option.some.injEq]; rw [← hek]
   ·rw [if_neg hij]
  rw [this, setObj_run h1]
  simp only [Result.andThen_ok, Sem.run_pure, he, Option.map_some, Option.getD_some, hfa, goInt]
 ·have hfa : f a = z := by rw [← hf a, hl]; rfl
  refine ⟨c, _, ?_, ⟨m ++ [(a, z)], bs ++ [c], c + 1, m.length, MapO.pushed hs hn hb ho hna (setObj_heap h1), fun b => ?_, ?_, ?_⟩, setObj_but _ _ _⟩
  ·simp only [Instr.mapEntry, Sem.run_bind, run_underlying T.und, Result.andThen_ok, hg, T.key.chk, hfind, T.zer, setObj_run h1, Sem.run_pure, hfa, goInt]
  ·rw [lget_append, ← hf]
   by_cases hba : b = a
   ·subst hba; rw [hl]; simp [lget]
   ·cases lget m b <;> simp [lget, hba]
  ·simp
  ·have : bs.length = m.length := by
    have e1 := congrArg List.length hs.1
    have e2 := congrArg List.length hs.2.2
    simp at e1 e2; omega
   rw [List.getElem?_append_right (by omega), this]; simp
theorem nodup_ne : ∀ {bs : List Nat} {j i st : Nat}, bs.Nodup → j < i → bs[j]? = some st → bs[i]? = some st → False
 | [], _, _, _, _, _, h, _ => by simp at h
 | b :: bs, 0, i + 1, st, hb, _, h1, h2 => by
  simp at h1; subst h1
  simp only [List.getElem?_cons_succ] at h2
  exact (List.nodup_cons.1 hb).1 (List.mem_of_getElem? h2)
 | b :: bs, j + 1, i + 1, st, hb, hj, h1, h2 => by
  simp only [List.getElem?_cons_succ] at h1 h2
  exact nodup_ne (List.nodup_cons.1 hb).2 (by omega) h1 h2
 | _ :: _, 0, 0, _, _, h, _, _ => by omega
 | _ :: _, _ + 1, 0, _, _, h, _, _ => by omega
theorem findIdx_born {es : Array MapEntry} {bs : List Nat} {i st : Nat} (h4 : es.toList.map (·.born) = bs) (hb : bs.Nodup) (hi : bs[i]? = some st) :
  es.findIdx? (fun e => (e.born : Int) == (st : Int)) = some i := by
 have hlt : i < es.size := by
  have := congrArg List.length h4
  have h5 := (List.getElem?_eq_some_iff.1 hi).1
  simp at this; omega
 rw [Array.findIdx?_eq_some_iff_getElem]
 have hget : ∀ j (hj : j < es.size), bs[j]? = some es[j].born := fun j hj => by
  rw [← h4, List.getElem?_map, Array.getElem?_toList, Array.getElem?_eq_getElem hj]; rfl
 refine ⟨hlt, ?_, fun j hj => ?_⟩
 ·have := hget i hlt; rw [hi] at this; simp at this; simp [this]
 ·have h1 := hget j (by omega)
  simp only [beq_iff_eq, Int.natCast_inj]
  intro e
  rw [e] at h1
  exact nodup_ne hb hj h1 hi
theorem MapSt.store {a : K} {st : Nat} (h : MapSt enc encV z w r f a st) (v : V) :
  ∃ w', Sem.run P (Instr.entryStore t (.map (some r)) (.int .i64 (st : Int)) (encV v)) w = .ok () w' ∧ MapF enc encV z w' r (upd f a v) ∧ But r w w' := by
 obtain ⟨m, bs, c, i, ⟨⟨es, h1, hs⟩, hn, hb, ho⟩, hf, hi, hbi⟩ := h
 have hg : (getObj r).run P w = .ok (.map es c) w := by simp [getObj, Sem.run, h1]
 have hfi := findIdx_born hs.2.2 hb hbi
 have hlt : i < es.size := by
  have e1 := congrArg List.length hs.1
  have h5 := (List.getElem?_eq_some_iff.1 hi).1
  simp at e1 h5; omega
 have hek : es[i].key = enc a := by
  have := congrArg (·[i]?) hs.1
  simp only [List.getElem?_map, Array.getElem?_toList] at this
  rw [Array.getElem?_eq_getElem hlt] at this
  rw [List.getElem?_map] at hi
  rw [hi] at this; simpa using this
 have heb : es[i].born = st := by
  have := congrArg (·[i]?) hs.2.2
  simp only [List.getElem?_map, Array.getElem?_toList] at this
  rw [Array.getElem?_eq_getElem hlt, hbi] at this; simpa using this
 refine ⟨_, ?_, ⟨m.set i (a, v), bs, c, MapO.setAt hs hn hb ho hi hbi (setObj_heap h1), fun b => ?_⟩, setObj_but _ _ _⟩
 ·have hst : (asInt (.int .i64 (st : Int))).run P w = .ok (st : Int) w := by simp [asInt, asIntOf]
  simp only [Instr.entryStore, Sem.run_bind, Result.andThen_ok, hg, hst, hfi]
  have : (es.modify i fun e => { e with val := encV v }) = es.setIfInBounds i ⟨enc a, encV v, st⟩ := by
   apply Array.ext_getElem?; intro j
   rw [Array.getElem?_modify, Array.getElem?_setIfInBounds]
   by_cases hij : i = j
   ·subst hij
    rw [if_pos rfl, if_pos rfl, Array.getElem?_eq_getElem hlt, if_pos hlt]
    simp only [Option.map_some, Option.some.injEq]
    rw [← hek, ← heb]
   ·rw [if_neg hij, if_neg hij]
  rw [this, setObj_run h1]
 ·rw [lget_set hn hi, upd, ← hf]; split <;> rfl
theorem MapF.make (encV : V → Value) (z : V) (w : World) : ∃ w', Sem.run P (Instr.makeMap t none) w = .ok (.map (some w.heap.size)) w' ∧ MapF enc encV z w' w.heap.size (fun _ => z) ∧ Ext w w' := by
 refine ⟨w.alloc (.map #[] 0), ?_, ⟨[], [], 0, ⟨⟨#[], heap_alloc_new w _, rfl, rfl, rfl⟩, by simp, by simp, by simp⟩, fun _ => rfl⟩, (Below.refl _ _).alloc (Nat.le_refl _) _⟩
 simp [Instr.makeMap, newObj, Sem.run]
end
/-! ### Keys -/
section
variable {P : Program} {kt : TypeId}
def eK (a : Int) : Value := .int .i64 a
theorem findNow_int (k : IntKind) (a : Int) : ∀ (es : List MapEntry) (ks : List Int) (i : Nat), es.map (·.key) = ks.map eK → Instr.findNow (.int k) (eK a) es i = some ((ixOf ks a i).bind fun j => (es[j - i]?).map fun e => (j, e.val))
 | [], ks, i, h => by
  have : ks = [] := by cases ks <;> simp at h; rfl
  subst this; rfl
 | e :: es, [], i, h => by simp at h
 | e :: es, b :: ks, i, h => by
  simp only [List.map_cons, List.cons.injEq] at h
  have ih := findNow_int k a es ks (i + 1) h.2
  rw [Instr.findNow, h.1]
  by_cases hak : a = b
  ·subst hak; simp [eK, Instr.sameNow, ixOf]
  ·have hs : Instr.sameNow (.int k) (eK a) (eK b) = some false := by simp [eK, Instr.sameNow, hak]
   rw [hs]
   simp only [ih, ixOf, hak, if_false]
   cases hj : ixOf ks a (i + 1) with
   | none => rfl
   | some j =>
    have := (ixOf_some hj).1
    simp only [Option.bind_some]
    rw [show j - i = (j - (i + 1)) + 1 by omega, List.getElem?_cons_succ]
theorem keyInt (hu : P.underlying kt = some (.int .i64)) : KeyOk P kt eK where
 chk e a w := by
  show (Instr.checkKey e (9999 + 1) kt (eK a)).run P w = _
  rw [Instr.checkKey]; simp [run_underlying hu, eK]
 find es ks a w h := by
  have := findNow_int .i64 a es ks 0 h
  simp only [Instr.findKey, Sem.run_bind, run_underlying hu, Result.andThen_ok, this, Sem.run_pure, Nat.sub_zero]
 same a := by
  show Instr.sameBits (9999 + 1) _ _ = true
  simp [Instr.sameBits, eK]
end
end Go.V
