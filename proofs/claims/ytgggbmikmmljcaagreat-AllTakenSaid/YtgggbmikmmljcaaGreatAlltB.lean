/- A part of the proof: plain forms of functions and laws about them. -/
import Derived.Test.YtgggbmikmmljcaaGreatAlltA
import Derived.Maps.Ext
import Derived.ArgAppend
import Derived.Laws.BytesString
import Derived.Test.YtgggbmikmmljcaaGreatProg
import Derived.KernelRfl
import Derived.Deep.AppendSrc
namespace Go.V
open Go.RowKit (Below)
def ixOf {K : Type} [DecidableEq K] : List K → K → Nat → Option Nat
  | [], _, _ => none
  | k :: ks, a, i => if a = k then some i else ixOf ks a (i + 1)
structure KeyOk {K : Type} [DecidableEq K] (P : Program) (kt : TypeId) (enc : K → Value) : Prop where
  chk : ∀ e a w, (Instr.checkKey e 10000 kt (enc a)).run P w = .ok () w
  find : ∀ (es : List MapEntry) (ks : List K) (a : K) (w : World), es.map (·.key) = ks.map enc → (Instr.findKey kt (enc a) es).run P w = .ok ((ixOf ks a 0).bind fun i => (es[i]?).map fun e => (i, e.val)) w
  same : ∀ a, Instr.sameBits 10000 (enc a) (enc a) = true
structure MapT {K V : Type} [DecidableEq K] (P : Program) (t kt et : TypeId) (enc : K → Value) (encV : V → Value) (z : V) : Prop where
  und : P.underlying t = some (.map kt et)
  key : KeyOk P kt enc
  zer : ∀ w, (zeroValue et).run P w = .ok (encV z) w
theorem ixOf_some {K : Type} [DecidableEq K] {a : K} : ∀ {ks : List K} {i j : Nat}, ixOf ks a i = some j → i ≤ j ∧ ks[j - i]? = some a
  | [], i, j, h => by simp [ixOf] at h
  | k :: ks, i, j, h => by
    rw [ixOf] at h
    split at h
    · rename_i he; cases h; subst he; simp
    · obtain ⟨h1, h2⟩ := ixOf_some h
      refine ⟨by omega, ?_⟩
      rw [show j - i = j - (i + 1) + 1 by omega, List.getElem?_cons_succ]; exact h2
theorem ixOf_none {K : Type} [DecidableEq K] {a : K} : ∀ {ks : List K} {i : Nat}, ixOf ks a i = none → a ∉ ks
  | [], i, _ => by simp
  | k :: ks, i, h => by
    rw [ixOf] at h
    split at h
    · cases h
    · rename_i hne
      simp only [List.mem_cons, not_or]
      exact ⟨hne, ixOf_none h⟩
def lget {K V : Type} [DecidableEq K] : List (K × V) → K → Option V
  | [], _ => none
  | (k, v) :: r, a => if a = k then some v else lget r a
theorem lget_none {K V : Type} [DecidableEq K] {a : K} : ∀ {m : List (K × V)}, a ∉ m.map (·.1) → lget m a = none
  | [], _ => rfl
  | (k, v) :: r, h => by
    simp only [List.map_cons, List.mem_cons, not_or] at h
    rw [lget, if_neg h.1]; exact lget_none h.2
theorem lget_at {K V : Type} [DecidableEq K] {a : K} {v : V} : ∀ {m : List (K × V)} {i : Nat}, (m.map (·.1)).Nodup → m[i]? = some (a, v) → lget m a = some v
  | [], i, _, h => by simp at h
  | (k, u) :: r, 0, _, h => by simp at h; obtain ⟨rfl, rfl⟩ := h; rw [lget, if_pos rfl]
  | (k, u) :: r, i + 1, hn, h => by
    simp only [List.getElem?_cons_succ] at h
    simp only [List.map_cons, List.nodup_cons] at hn
    have hm : a ∈ r.map (·.1) := List.mem_map.2 ⟨(a, v), List.mem_of_getElem? h, rfl⟩
    rw [lget, if_neg (fun e => by subst e; exact hn.1 hm)]
    exact lget_at hn.2 h
theorem lget_append {K V : Type} [DecidableEq K] {a : K} : ∀ {m r : List (K × V)}, lget (m ++ r) a = match lget m a with | some v => some v | none => lget r a
  | [], r => by simp [lget]
  | (k, v) :: m, r => by
    rw [List.cons_append, lget, lget]
    split
    · rfl
    · exact lget_append
theorem lget_set {K V : Type} [DecidableEq K] {a b : K} {v : V} : ∀ {m : List (K × V)} {i : Nat}, (m.map (·.1)).Nodup → (m.map (·.1))[i]? = some a → lget (m.set i (a, v)) b = if b = a then some v else lget m b
  | [], i, _, h => by simp at h
  | (k, u) :: r, 0, _, h => by
    simp at h; subst h
    rw [List.set_cons_zero, lget, lget]; split <;> rfl
  | (k, u) :: r, i + 1, hn, h => by
    simp only [List.map_cons, List.getElem?_cons_succ] at h
    simp only [List.map_cons, List.nodup_cons] at hn
    rw [List.set_cons_succ, lget, lget_set hn.2 h, lget]
    by_cases hb : b = k
    · subst hb
      have hm := List.mem_of_getElem? h
      rw [if_pos rfl, if_neg (fun e => by subst e; exact hn.1 hm), if_pos rfl]
    · rw [if_neg hb, if_neg hb]
theorem lget_erase {K V : Type} [DecidableEq K] {a b : K} : ∀ {m : List (K × V)} {i : Nat}, (m.map (·.1)).Nodup → (m.map (·.1))[i]? = some a → lget (m.eraseIdx i) b = if b = a then none else lget m b
  | [], i, _, h => by simp at h
  | (k, u) :: r, 0, hn, h => by
    simp at h; subst h
    simp only [List.map_cons, List.nodup_cons] at hn
    rw [List.eraseIdx_zero, List.tail_cons, lget]
    by_cases hb : b = k
    · subst hb; rw [if_pos rfl]; exact lget_none hn.1
    · rw [if_neg hb, if_neg hb]
  | (k, u) :: r, i + 1, hn, h => by
    simp only [List.map_cons, List.getElem?_cons_succ] at h
    simp only [List.map_cons, List.nodup_cons] at hn
    rw [List.eraseIdx_cons_succ, lget, lget_erase hn.2 h, lget]
    by_cases hb : b = k
    · subst hb
      have hm := List.mem_of_getElem? h
      rw [if_pos rfl, if_neg (fun e => by subst e; exact hn.1 hm), if_pos rfl]
    · rw [if_neg hb, if_neg hb]
structure MapO {K V : Type} [DecidableEq K] (enc : K → Value) (encV : V → Value) (w : World) (r : Nat) (m : List (K × V)) (bs : List Nat) (clock : Nat) : Prop where
  obj : ∃ es, w.heap[r]? = some (.map es clock) ∧ es.toList.map (·.key) = (m.map (·.1)).map enc ∧ es.toList.map (·.val) = (m.map (·.2)).map encV ∧ es.toList.map (·.born) = bs
  nodup : (m.map (·.1)).Nodup
  born : bs.Nodup
  old : ∀ b ∈ bs, b < clock
def MapF {K V : Type} [DecidableEq K] (enc : K → Value) (encV : V → Value) (z : V) (w : World) (r : Nat) (f : K → V) : Prop :=
  ∃ m bs clock, MapO enc encV w r m bs clock ∧ ∀ a, (lget m a).getD z = f a
def MapSt {K V : Type} [DecidableEq K] (enc : K → Value) (encV : V → Value) (z : V) (w : World) (r : Nat) (f : K → V) (a : K) (st : Nat) : Prop :=
  ∃ (m : List (K × V)) (bs : List Nat) (clock i : Nat), MapO enc encV w r m bs clock ∧ (∀ a, (lget m a).getD z = f a) ∧ (m.map (·.1))[i]? = some a ∧ bs[i]? = some st
def upd {K V : Type} [DecidableEq K] (f : K → V) (a : K) (v : V) : K → V := fun b => if b = a then v else f b
section
variable {K V : Type} [DecidableEq K] {P : Program} {t kt et : TypeId} {enc : K → Value} {encV : V → Value} {z : V} {w : World} {r : Nat} {f : K → V}
theorem MapO.heap {m : List (K × V)} {bs : List Nat} {clock : Nat} (h : MapO enc encV w r m bs clock) {w' : World} (k : w'.heap[r]? = w.heap[r]?) : MapO enc encV w' r m bs clock := by
  obtain ⟨⟨es, h1, h2⟩, h3, h4, h5⟩ := h
  exact ⟨⟨es, k.trans h1, h2⟩, h3, h4, h5⟩
theorem MapF.heap (h : MapF enc encV z w r f) {w' : World} (k : w'.heap[r]? = w.heap[r]?) : MapF enc encV z w' r f := by
  obtain ⟨m, bs, c, h1, h2⟩ := h; exact ⟨m, bs, c, h1.heap k, h2⟩
theorem MapF.lt (h : MapF enc encV z w r f) : r < w.heap.size := by
  obtain ⟨m, bs, c, ⟨⟨es, h1, _⟩, _⟩, _⟩ := h; exact (Array.getElem?_eq_some_iff.1 h1).1
theorem MapF.ext (h : MapF enc encV z w r f) {w' : World} (k : Ext w w') : MapF enc encV z w' r f := h.heap (k.block r h.lt)
theorem MapF.congr (h : MapF enc encV z w r f) {g : K → V} (k : ∀ a, f a = g a) : MapF enc encV z w r g := by
  obtain ⟨m, bs, c, h1, h2⟩ := h; exact ⟨m, bs, c, h1, fun a => (h2 a).trans (k a)⟩
theorem ix_val {m : List (K × V)} {es : Array MapEntry} {a : K} (h2 : es.toList.map (·.val) = (m.map (·.2)).map encV) (hn : (m.map (·.1)).Nodup) :
    ((ixOf (m.map (·.1)) a 0).bind fun i => (es.toList[i]?).map fun e => (i, e.val)) = (ixOf (m.map (·.1)) a 0).bind fun i => (lget m a).map fun v => (i, encV v) := by
  cases hi : ixOf (m.map (·.1)) a 0 with
  | none => rfl
  | some i =>
    obtain ⟨_, hk⟩ := ixOf_some hi
    rw [Nat.sub_zero] at hk
    obtain ⟨kv, hkv, hke⟩ : ∃ kv, m[i]? = some kv ∧ kv.1 = a := by
      rw [List.getElem?_map] at hk
      cases hm : m[i]? with
      | none => rw [hm] at hk; cases hk
      | some kv => rw [hm] at hk; simp at hk; exact ⟨kv, rfl, hk⟩
    obtain ⟨k, v⟩ := kv
    simp only at hke; subst hke
    have hv : (es.toList[i]?).map (·.val) = some (encV v) := by
      have := congrArg (·[i]?) h2
      simp only [List.getElem?_map] at this
      rw [hkv] at this
      simpa using this
    have hl := lget_at hn hkv
    cases he : es.toList[i]? with
    | none => rw [he] at hv; cases hv
    | some e =>
      rw [he] at hv
      simp only [Option.map_some, Option.some.injEq] at hv
      show ((es.toList[i]?).map fun e => (i, e.val)) = ((lget m k).map fun v => (i, encV v))
      rw [he, hl]; simp [hv]
theorem MapF.lookup (T : MapT P t kt et enc encV z) (h : MapF enc encV z w r f) (a : K) :
    Sem.run P (Instr.lookup t (.map (some r)) (enc a) false) w = .ok (encV (f a)) w := by
  obtain ⟨m, bs, c, ⟨⟨es, h1, h2, h3, h4⟩, hn, _⟩, hf⟩ := h
  have hg : (getObj r).run P w = .ok (.map es c) w := by simp [getObj, Sem.run, h1]
  have hfind := T.key.find es.toList (m.map (·.1)) a w h2
  rw [ix_val h3 hn] at hfind
  simp only [Instr.lookup, Sem.run_bind, run_underlying T.und, Result.andThen_ok, hg, T.key.chk, hfind, Sem.run_pure]
  rw [← hf a]
  cases hi : ixOf (m.map (·.1)) a 0 with
  | none => rw [lget_none (ixOf_none hi)]; simp [T.zer]
  | some i =>
    obtain ⟨_, hk⟩ := ixOf_some hi
    cases hl : lget m a with
    | some v => simp
    | none =>
      exfalso
      rw [Nat.sub_zero, List.getElem?_map] at hk
      cases hm : m[i]? with
      | none => rw [hm] at hk; cases hk
      | some kv =>
        rw [hm] at hk; simp at hk
        obtain ⟨k, v⟩ := kv
        simp only at hk; subst hk
        rw [lget_at hn hm] at hl; cases hl
theorem ix_lt {m : List (K × V)} {a : K} {i : Nat} (h : ixOf (m.map (·.1)) a 0 = some i) : (m.map (·.1))[i]? = some a := by
  obtain ⟨_, hk⟩ := ixOf_some h; rwa [Nat.sub_zero] at hk
theorem setObj_run {P : Program} {w : World} {r : Nat} {es es' : Array MapEntry} {c c' : Nat} (h1 : w.heap[r]? = some (.map es c)) :
    (setObj r (.map es' c')).run P w = .ok () { w with heap := w.heap.setIfInBounds r (.map es' c') } := by simp [setObj, Sem.run, h1]
theorem setObj_heap {w : World} {r : Nat} {o o' : Obj} (h1 : w.heap[r]? = some o) : ({ w with heap := w.heap.setIfInBounds r o' } : World).heap[r]? = some o' := by
  have := (Array.getElem?_eq_some_iff.1 h1).1
  simp [this]
theorem setObj_but (w : World) (r : Nat) (o : Obj) : But r w { w with heap := w.heap.setIfInBounds r o } :=
  ⟨rfl, rfl, rfl, by simp, fun k hk => by simp [Array.getElem?_setIfInBounds_ne (Ne.symm hk)]⟩
theorem MapO.setAt {m : List (K × V)} {bs : List Nat} {clock : Nat} {w' : World} {es : Array MapEntry} {i : Nat} {a : K} {v : V} {b : Nat} (hs : es.toList.map (·.key) = (m.map (·.1)).map enc ∧ es.toList.map (·.val) = (m.map (·.2)).map encV ∧ es.toList.map (·.born) = bs)
    (hn : (m.map (·.1)).Nodup) (hb : bs.Nodup) (ho : ∀ b ∈ bs, b < clock) (hi : (m.map (·.1))[i]? = some a) (hbi : bs[i]? = some b)
    (he : w'.heap[r]? = some (.map (es.setIfInBounds i ⟨enc a, encV v, b⟩) clock)) : MapO enc encV w' r (m.set i (a, v)) bs clock := by
  obtain ⟨h2, h3, h4⟩ := hs
  have e1 : (m.set i (a, v)).map (·.1) = m.map (·.1) := by
    rw [List.map_set]
    apply List.ext_getElem?; intro j
    rw [List.getElem?_set]
    split
    · rename_i hij; subst hij
      rw [hi]; have := (List.getElem?_eq_some_iff.1 hi).1; rw [if_pos this]
    · rfl
  refine ⟨⟨_, he, ?_, ?_, ?_⟩, by rw [e1]; exact hn, hb, ho⟩
  · rw [e1, Array.toList_setIfInBounds, List.map_set, h2]
    apply List.ext_getElem?; intro j
    rw [List.getElem?_set]
    split
    · rename_i hij; subst hij
      rw [List.getElem?_map, hi]
      have := (List.getElem?_eq_some_iff.1 hi).1
      rw [if_pos (by simpa using this)]; rfl
    · rfl
  · rw [Array.toList_setIfInBounds, List.map_set, h3, List.map_set, List.map_set]
  · rw [Array.toList_setIfInBounds, List.map_set, h4]
    apply List.ext_getElem?; intro j
    rw [List.getElem?_set]
    split
    · rename_i hij; subst hij
      rw [hbi]; have := (List.getElem?_eq_some_iff.1 hbi).1; rw [if_pos this]
    · rfl
theorem MapO.pushed {m : List (K × V)} {bs : List Nat} {clock : Nat} {w' : World} {es : Array MapEntry} {a : K} {v : V} (hs : es.toList.map (·.key) = (m.map (·.1)).map enc ∧ es.toList.map (·.val) = (m.map (·.2)).map encV ∧ es.toList.map (·.born) = bs)
    (hn : (m.map (·.1)).Nodup) (hb : bs.Nodup) (ho : ∀ b ∈ bs, b < clock) (ha : a ∉ m.map (·.1))
    (he : w'.heap[r]? = some (.map (es.push ⟨enc a, encV v, clock⟩) (clock + 1))) : MapO enc encV w' r (m ++ [(a, v)]) (bs ++ [clock]) (clock + 1) := by
  obtain ⟨h2, h3, h4⟩ := hs
  refine ⟨⟨_, he, by simp [h2], by simp [h3], by simp [h4]⟩, ?_, ?_, ?_⟩
  · rw [List.map_append, List.nodup_append]
    refine ⟨hn, by simp, fun x hx y hy => ?_⟩
    simp at hy; subst hy; rintro rfl; exact ha hx
  · rw [List.nodup_append]
    refine ⟨hb, by simp, fun x hx y hy => ?_⟩
    simp at hy; subst hy; have := ho x hx; omega
  · intro b hb'
    rcases List.mem_append.1 hb' with h | h
    · have := ho b h; omega
    · simp at h; omega
theorem MapO.erased {m : List (K × V)} {bs : List Nat} {clock : Nat} {w' : World} {es : Array MapEntry} {i : Nat} (hs : es.toList.map (·.key) = (m.map (·.1)).map enc ∧ es.toList.map (·.val) = (m.map (·.2)).map encV ∧ es.toList.map (·.born) = bs)
    (hn : (m.map (·.1)).Nodup) (hb : bs.Nodup) (ho : ∀ b ∈ bs, b < clock)
    (he : w'.heap[r]? = some (.map (es.eraseIdxIfInBounds i) clock)) (hi : i < m.length) : MapO enc encV w' r (m.eraseIdx i) (bs.eraseIdx i) clock := by
  obtain ⟨h2, h3, h4⟩ := hs
  have hsz : i < es.size := by
    have := congrArg List.length h2
    simp at this; omega
  have e0 : (es.eraseIdxIfInBounds i).toList = es.toList.eraseIdx i := by simp [Array.eraseIdxIfInBounds, hsz]
  have em : ∀ {α β : Type} (l : List α) (f : α → β) (i : Nat), (l.eraseIdx i).map f = (l.map f).eraseIdx i := fun l f i => by
    induction l generalizing i with
    | nil => simp
    | cons x xs ih => cases i with
      | zero => simp
      | succ i => simp [ih]
  refine ⟨⟨_, he, ?_, ?_, ?_⟩, ?_, ?_, ?_⟩
  · rw [e0, em, em, em, h2]
  · rw [e0, em, em, em, h3]
  · rw [e0, em, h4]
  · rw [em]; exact hn.sublist (List.eraseIdx_sublist _ _)
  · exact hb.sublist (List.eraseIdx_sublist _ _)
  · exact fun b hb' => ho b (List.mem_of_mem_eraseIdx hb')
theorem found {m : List (K × V)} {es : Array MapEntry} {bs : List Nat} (T : KeyOk P kt enc) (hs : es.toList.map (·.key) = (m.map (·.1)).map enc ∧ es.toList.map (·.val) = (m.map (·.2)).map encV ∧ es.toList.map (·.born) = bs) (hn : (m.map (·.1)).Nodup) (a : K) (w : World) :
    (∃ i e v, ixOf (m.map (·.1)) a 0 = some i ∧ es[i]? = some e ∧ e.key = enc a ∧ e.val = encV v ∧ lget m a = some v ∧ bs[i]? = some e.born ∧ i < m.length ∧ (Instr.findKey kt (enc a) es.toList).run P w = .ok (some (i, encV v)) w) ∨
    (a ∉ m.map (·.1) ∧ lget m a = none ∧ (Instr.findKey kt (enc a) es.toList).run P w = .ok none w) := by
  obtain ⟨h2, h3, h4⟩ := hs
  have hfind := T.find es.toList (m.map (·.1)) a w h2
  rw [ix_val h3 hn] at hfind
  cases hi : ixOf (m.map (·.1)) a 0 with
  | none =>
    right
    rw [hi] at hfind
    exact ⟨ixOf_none hi, lget_none (ixOf_none hi), hfind⟩
  | some i =>
    left
    have hk := ix_lt hi
    obtain ⟨kv, hkv, hke⟩ : ∃ kv, m[i]? = some kv ∧ kv.1 = a := by
      rw [List.getElem?_map] at hk
      cases hm : m[i]? with
      | none => rw [hm] at hk; cases hk
      | some kv => rw [hm] at hk; simp at hk; exact ⟨kv, rfl, hk⟩
    obtain ⟨k, v⟩ := kv
    simp only at hke; subst hke
    have hl := lget_at hn hkv
    have hlen : i < es.toList.length := by
      have := congrArg List.length h2
      have h5 := (List.getElem?_eq_some_iff.1 hkv).1
      simp at this ⊢; omega
    have c2 := congrArg (·[i]?) h2
    have c3 := congrArg (·[i]?) h3
    have c4 := congrArg (·[i]?) h4
    simp only [List.getElem?_map, hkv, List.getElem?_eq_getElem hlen, Option.map_some, Option.some.injEq] at c2 c3 c4
    refine ⟨i, es.toList[i], v, rfl, ?_, c2, c3, hl, c4.symm, (List.getElem?_eq_some_iff.1 hkv).1, ?_⟩
    · rw [← Array.getElem?_toList]; exact List.getElem?_eq_getElem hlen
    · rw [hi] at hfind; rw [hfind, hl]; rfl
theorem keyStays (T : KeyOk P kt enc) (a : K) (w : World) : (Instr.keyThatStays (enc a) (enc a)).run P w = .ok (enc a) w := by
  simp [Instr.keyThatStays, T.same]
theorem MapF.update (T : MapT P t kt et enc encV z) (h : MapF enc encV z w r f) (a : K) (v : V) :
    ∃ w', Sem.run P (Instr.mapUpdate t (.map (some r)) (enc a) (encV v)) w = .ok () w' ∧ MapF enc encV z w' r (upd f a v) ∧ But r w w' := by
  obtain ⟨m, bs, c, ⟨⟨es, h1, hs⟩, hn, hb, ho⟩, hf⟩ := h
  have hg : (getObj r).run P w = .ok (.map es c) w := by simp [getObj, Sem.run, h1]
  rcases found T.key hs hn a w with ⟨i, e, u, hi, he, hek, hev, hl, hbi, hilt, hfind⟩ | ⟨hna, hl, hfind⟩
  · have hkey : (((es[i]?).map (·.key)).getD (enc a)) = enc a := by rw [he]; exact hek
    refine ⟨_, ?_, ⟨m.set i (a, v), bs, c, MapO.setAt hs hn hb ho (ix_lt hi) hbi (setObj_heap h1), fun b => ?_⟩, setObj_but _ _ _⟩
    · simp only [Instr.mapUpdate, Sem.run_bind, run_underlying T.und, Result.andThen_ok, hg, T.key.chk, hfind, hkey, keyStays T.key]
      have : (es.modify i fun e => { e with key := enc a, val := encV v }) = es.setIfInBounds i ⟨enc a, encV v, e.born⟩ := by
        apply Array.ext_getElem?; intro j
        rw [Array.getElem?_modify, Array.getElem?_setIfInBounds]
        by_cases hij : i = j
        · subst hij
          rw [if_pos rfl, if_pos rfl, he]
          have := (Array.getElem?_eq_some_iff.1 he).1
          rw [if_pos this]; rfl
        · rw [if_neg hij, if_neg hij]
      rw [this, setObj_run h1]
    · rw [lget_set hn (ix_lt hi), upd, ← hf]; split <;> rfl
  · refine ⟨_, ?_, ⟨m ++ [(a, v)], bs ++ [c], c + 1, MapO.pushed hs hn hb ho hna (setObj_heap h1), fun b => ?_⟩, setObj_but _ _ _⟩
    · simp only [Instr.mapUpdate, Sem.run_bind, run_underlying T.und, Result.andThen_ok, hg, T.key.chk, hfind]
      rw [setObj_run h1]
    · rw [lget_append, upd, ← hf]
      by_cases hba : b = a
      · subst hba; rw [hl, if_pos rfl]; simp [lget]
      · rw [if_neg hba]; cases lget m b <;> simp [lget, hba]
theorem MapF.delete (T : MapT P t kt et enc encV z) (h : MapF enc encV z w r f) (a : K) (ty : TypeId) (tk : TypeId) :
    ∃ w', Sem.run P (Builtin.delete_ #[t, tk] ty #[.map (some r), enc a]) w = .ok (.tuple #[]) w' ∧ MapF enc encV z w' r (upd f a z) ∧ But r w w' := by
  obtain ⟨m, bs, c, ⟨⟨es, h1, hs⟩, hn, hb, ho⟩, hf⟩ := h
  have hg : (getObj r).run P w = .ok (.map es c) w := by simp [getObj, Sem.run, h1]
  rcases found T.key hs hn a w with ⟨i, e, u, hi, he, hek, hev, hl, hbi, hilt, hfind⟩ | ⟨hna, hl, hfind⟩
  · refine ⟨_, ?_, ⟨m.eraseIdx i, bs.eraseIdx i, c, MapO.erased hs hn hb ho (setObj_heap h1) hilt, fun b => ?_⟩, setObj_but _ _ _⟩
    · simp [Builtin.delete_, run_underlying T.und, hg, T.key.chk, hfind, setObj_run h1]
    · rw [lget_erase hn (ix_lt hi), upd, ← hf]; split <;> rfl
  · refine ⟨_, ?_, ⟨m, bs, c, ⟨⟨es, setObj_heap h1, hs⟩, hn, hb, ho⟩, fun b => ?_⟩, setObj_but _ _ _⟩
    · simp [Builtin.delete_, run_underlying T.und, hg, T.key.chk, hfind, setObj_run h1]
    · rw [upd, ← hf]
      by_cases hba : b = a
      · subst hba; rw [hl, if_pos rfl]; rfl
      · rw [if_neg hba]
theorem MapF.entry (T : MapT P t kt et enc encV z) (h : MapF enc encV z w r f) (a : K) :
    ∃ (st : Nat) (w' : World), Sem.run P (Instr.mapEntry t (.map (some r)) (enc a)) w = .ok (.tuple #[encV (f a), .int .i64 (st : Int)]) w' ∧ MapSt enc encV z w' r f a st ∧ But r w w' := by
  obtain ⟨m, bs, c, ⟨⟨es, h1, hs⟩, hn, hb, ho⟩, hf⟩ := h
  have hg : (getObj r).run P w = .ok (.map es c) w := by simp [getObj, Sem.run, h1]
  rcases found T.key hs hn a w with ⟨i, e, u, hi, he, hek, hev, hl, hbi, hilt, hfind⟩ | ⟨hna, hl, hfind⟩
  · have hkey : (((es[i]?).map (·.key)).getD (enc a)) = enc a := by rw [he]; exact hek
    have hfa : f a = u := by rw [← hf a, hl]; rfl
    refine ⟨e.born, _, ?_, ⟨m, bs, c, i, ⟨⟨es, setObj_heap h1, hs⟩, hn, hb, ho⟩, hf, ix_lt hi, hbi⟩, setObj_but _ _ _⟩
    simp only [Instr.mapEntry, Sem.run_bind, run_underlying T.und, Result.andThen_ok, hg, T.key.chk, hfind, hkey, keyStays T.key]
    have : (es.modify i fun e => { e with key := enc a }) = es := by
      apply Array.ext_getElem?; intro j
      rw [Array.getElem?_modify]
      by_cases hij : i = j
      · subst hij
        rw [if_pos rfl, he]; simp only [Option.map_some, Option.some.injEq]; rw [← hek]
      · rw [if_neg hij]
    rw [this, setObj_run h1]
    simp only [Result.andThen_ok, Sem.run_pure, he, Option.map_some, Option.getD_some, hfa, goInt]
  · have hfa : f a = z := by rw [← hf a, hl]; rfl
    refine ⟨c, _, ?_, ⟨m ++ [(a, z)], bs ++ [c], c + 1, m.length, MapO.pushed hs hn hb ho hna (setObj_heap h1), fun b => ?_, ?_, ?_⟩, setObj_but _ _ _⟩
    · simp only [Instr.mapEntry, Sem.run_bind, run_underlying T.und, Result.andThen_ok, hg, T.key.chk, hfind, T.zer, setObj_run h1, Sem.run_pure, hfa, goInt]
    · rw [lget_append, ← hf]
      by_cases hba : b = a
      · subst hba; rw [hl]; simp [lget]
      · cases lget m b <;> simp [lget, hba]
    · simp
    · have : bs.length = m.length := by
        have e1 := congrArg List.length hs.1
        have e2 := congrArg List.length hs.2.2
        simp at e1 e2; omega
      rw [List.getElem?_append_right (by omega), this]; simp
theorem nodup_ne : ∀ {bs : List Nat} {j i st : Nat}, bs.Nodup → j < i → bs[j]? = some st → bs[i]? = some st → False
  | [], _, _, _, _, _, h, _ => by simp at h
  | b :: bs, 0, i + 1, st, hb, _, h1, h2 => by
    simp at h1; subst h1
    simp only [List.getElem?_cons_succ] at h2
    exact (List.nodup_cons.1 hb).1 (List.mem_of_getElem? h2)
  | b :: bs, j + 1, i + 1, st, hb, hj, h1, h2 => by
    simp only [List.getElem?_cons_succ] at h1 h2
    exact nodup_ne (List.nodup_cons.1 hb).2 (by omega) h1 h2
  | _ :: _, 0, 0, _, _, h, _, _ => by omega
  | _ :: _, _ + 1, 0, _, _, h, _, _ => by omega
theorem findIdx_born {es : Array MapEntry} {bs : List Nat} {i st : Nat} (h4 : es.toList.map (·.born) = bs) (hb : bs.Nodup) (hi : bs[i]? = some st) :
    es.findIdx? (fun e => (e.born : Int) == (st : Int)) = some i := by
  have hlt : i < es.size := by
    have := congrArg List.length h4
    have h5 := (List.getElem?_eq_some_iff.1 hi).1
    simp at this; omega
  rw [Array.findIdx?_eq_some_iff_getElem]
  have hget : ∀ j (hj : j < es.size), bs[j]? = some es[j].born := fun j hj => by
    rw [← h4, List.getElem?_map, Array.getElem?_toList, Array.getElem?_eq_getElem hj]; rfl
  refine ⟨hlt, ?_, fun j hj => ?_⟩
  · have := hget i hlt; rw [hi] at this; simp at this; simp [this]
  · have h1 := hget j (by omega)
    simp only [beq_iff_eq, Int.natCast_inj]
    intro e
    rw [e] at h1
    exact nodup_ne hb hj h1 hi
theorem MapSt.store {a : K} {st : Nat} (h : MapSt enc encV z w r f a st) (v : V) :
    ∃ w', Sem.run P (Instr.entryStore t (.map (some r)) (.int .i64 (st : Int)) (encV v)) w = .ok () w' ∧ MapF enc encV z w' r (upd f a v) ∧ But r w w' := by
  obtain ⟨m, bs, c, i, ⟨⟨es, h1, hs⟩, hn, hb, ho⟩, hf, hi, hbi⟩ := h
  have hg : (getObj r).run P w = .ok (.map es c) w := by simp [getObj, Sem.run, h1]
  have hfi := findIdx_born hs.2.2 hb hbi
  have hlt : i < es.size := by
    have e1 := congrArg List.length hs.1
    have h5 := (List.getElem?_eq_some_iff.1 hi).1
    simp at e1 h5; omega
  have hek : es[i].key = enc a := by
    have := congrArg (·[i]?) hs.1
    simp only [List.getElem?_map, Array.getElem?_toList] at this
    rw [Array.getElem?_eq_getElem hlt] at this
    rw [List.getElem?_map] at hi
    rw [hi] at this; simpa using this
  have heb : es[i].born = st := by
    have := congrArg (·[i]?) hs.2.2
    simp only [List.getElem?_map, Array.getElem?_toList] at this
    rw [Array.getElem?_eq_getElem hlt, hbi] at this; simpa using this
  refine ⟨_, ?_, ⟨m.set i (a, v), bs, c, MapO.setAt hs hn hb ho hi hbi (setObj_heap h1), fun b => ?_⟩, setObj_but _ _ _⟩
  · have hst : (asInt (.int .i64 (st : Int))).run P w = .ok (st : Int) w := by simp [asInt, asIntOf]
    simp only [Instr.entryStore, Sem.run_bind, Result.andThen_ok, hg, hst, hfi]
    have : (es.modify i fun e => { e with val := encV v }) = es.setIfInBounds i ⟨enc a, encV v, st⟩ := by
      apply Array.ext_getElem?; intro j
      rw [Array.getElem?_modify, Array.getElem?_setIfInBounds]
      by_cases hij : i = j
      · subst hij
        rw [if_pos rfl, if_pos rfl, Array.getElem?_eq_getElem hlt, if_pos hlt]
        simp only [Option.map_some, Option.some.injEq]
        rw [← hek, ← heb]
      · rw [if_neg hij, if_neg hij]
    rw [this, setObj_run h1]
  · rw [lget_set hn hi, upd, ← hf]; split <;> rfl
theorem MapF.make (encV : V → Value) (z : V) (w : World) : ∃ w', Sem.run P (Instr.makeMap t none) w = .ok (.map (some w.heap.size)) w' ∧ MapF enc encV z w' w.heap.size (fun _ => z) ∧ Ext w w' := by
  refine ⟨w.alloc (.map #[] 0), ?_, ⟨[], [], 0, ⟨⟨#[], heap_alloc_new w _, rfl, rfl, rfl⟩, by simp, by simp, by simp⟩, fun _ => rfl⟩, (Below.refl _ _).alloc (Nat.le_refl _) _⟩
  simp [Instr.makeMap, newObj, Sem.run]
end
/-! ### Keys -/
section
variable {P : Program} {kt : TypeId}
def eK (a : Int) : Value := .int .i64 a
def eK2 (a : Int × Int) : Value := .agg #[.int .i64 a.1, .int .i64 a.2]
theorem findAsking_run {K : Type} [DecidableEq K] {enc : K → Value} (heq : ∀ a b w, (Op.equal kt (enc a) (enc b)).run P w = .ok (decide (a = b)) w) (a : K) (w : World) :
    ∀ (es : List MapEntry) (ks : List K) (i : Nat), es.map (·.key) = ks.map enc → (Instr.findAsking kt (enc a) es i).run P w = .ok ((ixOf ks a i).bind fun j => (es[j - i]?).map fun e => (j, e.val)) w
  | [], ks, i, h => by
    have : ks = [] := by cases ks <;> simp at h; rfl
    subst this; rfl
  | e :: es, [], i, h => by simp at h
  | e :: es, k :: ks, i, h => by
    simp only [List.map_cons, List.cons.injEq] at h
    have ih := findAsking_run heq a w es ks (i + 1) h.2
    rw [Instr.findAsking, h.1]
    simp only [Sem.run_bind, heq, Result.andThen_ok]
    by_cases hak : a = k
    · simp [hak, ixOf]
    · simp only [hak, decide_false, Bool.false_eq_true, if_false, ih, ixOf]
      cases hj : ixOf ks a (i + 1) with
      | none => rfl
      | some j =>
        have := (ixOf_some hj).1
        simp only [Option.bind_some]
        rw [show j - i = (j - (i + 1)) + 1 by omega, List.getElem?_cons_succ]
theorem findNow_int (k : IntKind) (a : Int) : ∀ (es : List MapEntry) (ks : List Int) (i : Nat), es.map (·.key) = ks.map eK → Instr.findNow (.int k) (eK a) es i = some ((ixOf ks a i).bind fun j => (es[j - i]?).map fun e => (j, e.val))
  | [], ks, i, h => by
    have : ks = [] := by cases ks <;> simp at h; rfl
    subst this; rfl
  | e :: es, [], i, h => by simp at h
  | e :: es, b :: ks, i, h => by
    simp only [List.map_cons, List.cons.injEq] at h
    have ih := findNow_int k a es ks (i + 1) h.2
    rw [Instr.findNow, h.1]
    by_cases hak : a = b
    · subst hak; simp [eK, Instr.sameNow, ixOf]
    · have hs : Instr.sameNow (.int k) (eK a) (eK b) = some false := by simp [eK, Instr.sameNow, hak]
      rw [hs]
      simp only [ih, ixOf, hak, if_false]
      cases hj : ixOf ks a (i + 1) with
      | none => rfl
      | some j =>
        have := (ixOf_some hj).1
        simp only [Option.bind_some]
        rw [show j - i = (j - (i + 1)) + 1 by omega, List.getElem?_cons_succ]
theorem keyInt (hu : P.underlying kt = some (.int .i64)) : KeyOk P kt eK where
  chk e a w := by
    show (Instr.checkKey e (9999 + 1) kt (eK a)).run P w = _
    rw [Instr.checkKey]; simp [run_underlying hu, eK]
  find es ks a w h := by
    have := findNow_int .i64 a es ks 0 h
    simp only [Instr.findKey, Sem.run_bind, run_underlying hu, Result.andThen_ok, this, Sem.run_pure, Nat.sub_zero]
  same a := by
    show Instr.sameBits (9999 + 1) _ _ = true
    simp [Instr.sameBits, eK]
theorem equal_pair {fs : Array Field} (hu : P.underlying kt = some (.struct fs)) (hp : P.stoodInHeld kt = false) (hf : fsOk P fs.toList 0 [.int .i64, .int .i64] = true) (a b : Int × Int) (w : World) :
    (Op.equal kt (eK2 a) (eK2 b)).run P w = .ok (decide (a = b)) w := by
  have hfs : P.fieldsOf kt = fs := by simp [Program.fieldsOf, hu]
  show (Op.equalIn (9999 + 1) kt (.agg #[.int .i64 a.1, .int .i64 a.2]) (.agg #[.int .i64 b.1, .int .i64 b.2])).run P w = _
  rw [run_equalIn_struct w 9999 kt _ _ (by rw [hfs]; exact hu) hp, hfs]
  have := eqFields_run (P := P) (xs := #[.int .i64 a.1, .int .i64 a.2]) (ys := #[.int .i64 b.1, .int .i64 b.2]) 9998 w fs.toList 0 _ [.int .i64 a.1, .int .i64 a.2] [.int .i64 b.1, .int .i64 b.2] hf rfl rfl (fun j => by simp) (fun j => by simp)
  rw [show (9999 : Nat) = 9998 + 1 from rfl, this]
  congr 1
  rw [Bool.eq_iff_iff, decide_eq_true_eq]
  simp [eqL, eq1, Prod.ext_iff]
theorem keyPair {f0 f1 : Field} (hu : P.underlying kt = some (.struct #[f0, f1])) (hp : P.stoodInHeld kt = false) (hf : fsOk P [f0, f1] 0 [.int .i64, .int .i64] = true) : KeyOk P kt eK2 where
  chk e a w := by
    simp only [fsOk, Bool.and_eq_true, decide_eq_true_eq] at hf
    obtain ⟨⟨⟨hn0, ho0⟩, hb0⟩, ⟨⟨hn1, ho1⟩, hb1⟩, _⟩ := hf
    have ho0 := Nat.eq_of_beq_eq_true ho0
    have ho1 := Nat.eq_of_beq_eq_true ho1
    have ck : ∀ (t : TypeId) (v : Int), basicOk P t (.int .i64) = true → (Instr.checkKey e 9999 t (.int .i64 v)).run P w = .ok () w := fun t v h => by
      unfold basicOk at h
      split at h
      · rename_i h1 _; show (Instr.checkKey e (9998 + 1) t (.int .i64 v)).run P w = _; rw [Instr.checkKey]; simp [run_underlying h1]
      · rename_i h2; cases h2
      · rename_i h2; cases h2
      · cases h
    have p0 := basic_part (P := P) hb0 (xs := #[.int .i64 a.1, .int .i64 a.2]) (i := f0.offset) (v := .int .i64 a.1) (by rw [ho0]; rfl) w
    have p1 := basic_part (P := P) hb1 (xs := #[.int .i64 a.1, .int .i64 a.2]) (i := f1.offset) (v := .int .i64 a.2) (by rw [ho1]; rfl) w
    show (Instr.checkKey e (9999 + 1) kt (eK2 a)).run P w = _
    rw [Instr.checkKey]
    simp only [Sem.run_bind, run_underlying hu, Result.andThen_ok, eK2]
    simp [p0, p1, ck _ _ hb0, ck _ _ hb1, hn0, hn1]
  find es ks a w h := by
    cases es with
    | nil =>
      have : ks = [] := by cases ks <;> simp at h; rfl
      subst this
      simp [Instr.findKey, run_underlying hu, Instr.findNow, ixOf]
    | cons e es =>
      have hk : e.key = eK2 (ks.headD (0, 0)) := by
        cases ks with
        | nil => simp at h
        | cons k ks => simp only [List.map_cons, List.cons.injEq] at h; exact h.1
      have hnow : Instr.findNow (.struct #[f0, f1]) (eK2 a) (e :: es) 0 = none := by rw [Instr.findNow, hk]; rfl
      have := findAsking_run (P := P) (kt := kt) (enc := eK2) (fun a b w => equal_pair (fs := #[f0, f1]) hu hp hf a b w) a w (e :: es) ks 0 h
      simp only [Instr.findKey, Sem.run_bind, run_underlying hu, Result.andThen_ok, hnow, this, Nat.sub_zero]
  same a := by
    show Instr.sameBits (9998 + 1 + 1) (.agg #[.int .i64 a.1, .int .i64 a.2]) (.agg #[.int .i64 a.1, .int .i64 a.2]) = true
    simp [Instr.sameBits]
def pairOk (P : Program) (kt : TypeId) : Bool := (match P.underlying kt with | some (.struct fs) => (match fs.toList with | [f0, f1] => fsOk P [f0, f1] 0 [.int .i64, .int .i64] | _ => false) | _ => false) && !P.stoodInHeld kt
theorem pairOk.ok (h : pairOk P kt = true) : KeyOk P kt eK2 := by
  simp only [pairOk, Bool.and_eq_true, Bool.not_eq_true'] at h
  obtain ⟨h, hp⟩ := h
  split at h
  · rename_i fs hu
    split at h
    · rename_i f0 f1 hf
      have : fs = #[f0, f1] := by apply Array.ext'; rw [hf]
      subst this
      exact keyPair hu hp h
    · cases h
  · cases h
end
end Go.V

namespace Go.V
open Go.RowKit (Below)
abbrev OwnM (ρ : Type) := Nat → Option ρ
abbrev SL := Option Addr × Nat × Nat
def sblk (s : SL) : Option Nat := (Value.slice s.1 s.2.1 s.2.2).ownBlock
def setOwn {ρ : Type} (own : OwnM ρ) (o : Option Nat) (r : ρ) : OwnM ρ := fun k => if o = some k then some r else own k
structure Upd {ρ : Type} (own own' : OwnM ρ) (r : ρ) (w w' : World) : Prop where
  os : w'.os = w.os
  tape : w'.tape = w.tape
  output : w'.output = w.output
  size : w.heap.size ≤ w'.heap.size
  block : ∀ k, k < w.heap.size → own k ≠ some r → w'.heap[k]? = w.heap[k]?
  same : ∀ k, k < w.heap.size → own' k = own k
  top : (∀ k, w.heap.size ≤ k → own k = none) → ∀ k, w'.heap.size ≤ k → own' k = none
structure Fr {ρ : Type} (own own' : OwnM ρ) (w w' : World) : Prop where
  os : w'.os = w.os
  tape : w'.tape = w.tape
  output : w'.output = w.output
  size : w.heap.size ≤ w'.heap.size
  block : ∀ k, k < w.heap.size → own k = none → w'.heap[k]? = w.heap[k]?
  free : ∀ k, k < w.heap.size → own k = none → own' k = none
section
variable {ρ : Type} {own own' own'' : OwnM ρ} {r : ρ} {w w' w'' : World}
theorem Upd.fr (h : Upd own own' r w w') : Fr own own' w w' :=
  ⟨h.os, h.tape, h.output, h.size, fun k hk hn => h.block k hk (by rw [hn]; simp), fun k hk hn => by rw [h.same k hk]; exact hn⟩
theorem Fr.refl (own : OwnM ρ) (w : World) : Fr own own w w := ⟨rfl, rfl, rfl, Nat.le_refl _, fun _ _ _ => rfl, fun _ _ h => h⟩
theorem Fr.of_ext (own : OwnM ρ) (h : Ext w w') : Fr own own w w' := ⟨h.os, h.tape, h.output, h.size, fun k hk _ => h.block k hk, fun _ _ h => h⟩
theorem Fr.trans (h : Fr own own' w w') (k : Fr own' own'' w' w'') : Fr own own'' w w'' :=
  ⟨k.os.trans h.os, k.tape.trans h.tape, k.output.trans h.output, Nat.le_trans h.size k.size,
    fun i hi hn => (k.block i (Nat.lt_of_lt_of_le hi h.size) (h.free i hi hn)).trans (h.block i hi hn), fun i hi hn => k.free i (Nat.lt_of_lt_of_le hi h.size) (h.free i hi hn)⟩
theorem Upd.of_but {b : Nat} (h : But b w w') (hb : own b = some r) : Upd own own r w w' :=
  ⟨h.os, h.tape, h.output, by rw [h.size]; exact Nat.le_refl _, fun k _ hk => h.block k (fun e => hk (e ▸ hb)), fun _ _ => rfl, fun ht k hk => ht k (by rw [← h.size]; exact hk)⟩
theorem Upd.of_grown {row row' : Option Nat} (h : w.grownBy w' row) (hr : ∀ k, row = some k → own k = some r) (hn : row' = row ∨ ∃ g, row' = some g ∧ w.heap.size ≤ g) (hl : ∀ k, row' = some k → k < w'.heap.size) :
    Upd own (setOwn own row' r) r w w' := by
  refine ⟨h.os, h.tape, h.output, h.size, fun k hk hne => h.block k hk (fun e => hne (hr k e.symm)), fun k hk => ?_, fun ht k hk => ?_⟩
  · unfold setOwn; split
    · rename_i e
      rcases hn with hn | ⟨g, hg, hge⟩
      · exact (hr k (hn ▸ e)).symm
      · rw [hg] at e; cases e; omega
    · rfl
  · unfold setOwn; split
    · rename_i e; have := hl k e; omega
    · exact ht k (Nat.le_trans h.size hk)
def RowR {α : Type} (own : OwnM ρ) (r : ρ) (e : TypeId) (sz : Nat) (enc : α → List Value) (w : World) (s : SL) (xs : List α) : Prop :=
  OwnR 0 e sz enc w s.1 s.2.1 s.2.2 xs ∧ ∀ k, sblk s = some k → own k = some r
theorem RowR.nil {α : Type} (own : OwnM ρ) (r : ρ) (e : TypeId) (sz : Nat) (enc : α → List Value) (w : World) : RowR own r e sz enc w (none, 0, 0) ([] : List α) := ⟨OwnR.nil _ _ _ _ _, fun k hk => by cases hk⟩
theorem RowR.upd {α : Type} {r2 : ρ} {e : TypeId} {sz : Nat} {enc : α → List Value} {s : SL} {xs : List α} (h : RowR own r2 e sz enc w s xs) (u : Upd own own' r w w') (hne : r2 ≠ r) : RowR own' r2 e sz enc w' s xs :=
  ⟨h.1.kept fun k hk => u.block k (h.1.lt k hk).2 (by rw [h.2 k hk]; simpa using hne), fun k hk => by rw [u.same k (h.1.lt k hk).2]; exact h.2 k hk⟩
theorem RowR.ext {α : Type} {r2 : ρ} {e : TypeId} {sz : Nat} {enc : α → List Value} {s : SL} {xs : List α} (h : RowR own r2 e sz enc w s xs) (k : Ext w w') : RowR own r2 e sz enc w' s xs := ⟨h.1.ext k, h.2⟩
theorem RowR.frame {α : Type} {r2 : ρ} {e : TypeId} {sz : Nat} {enc : α → List Value} {s : SL} {xs : List α} (h : RowR own r2 e sz enc w s xs) (k : ∀ b, b < w.heap.size → own b ≠ none → w'.heap[b]? = w.heap[b]?) : RowR own r2 e sz enc w' s xs :=
  ⟨h.1.kept fun b hb => k b (h.1.lt b hb).2 (by rw [h.2 b hb]; simp), h.2⟩
theorem RowR.len {α : Type} {e : TypeId} {sz : Nat} {enc : α → List Value} {s : SL} {xs : List α} (h : RowR own r e sz enc w s xs) : s.2.1 = xs.length := h.1.1
theorem RowR.at_ {α : Type} {e : TypeId} {sz : Nat} {enc : α → List Value} {s : SL} {xs : List α} (h : RowR own r e sz enc w s xs) (he : ∀ x, (enc x).length = sz) {i : Nat} (hi : i < xs.length) :
    ∃ g l c, s = (some ⟨g, 0, none⟩, l, c) ∧ own g = some r ∧ g < w.heap.size ∧ ∀ j, j < sz → w.cell? ⟨g, i * sz + j, none⟩ = (enc xs[i])[j]? := by
  obtain ⟨g, ha, _, hg, hc⟩ := h.1.cellAt he (List.getElem?_eq_getElem hi)
  obtain ⟨a, l, c⟩ := s
  simp only at ha; subst ha
  exact ⟨g, l, c, rfl, h.2 g rfl, hg, hc⟩
theorem RowR.push {α : Type} {P : Program} {t ty e te : TypeId} {sz bytes : Nat} {enc : α → List Value} {s : SL} {xs : List α} (x : α) (H : SlT P t e sz bytes) (h : RowR own r e sz enc w s xs)
    (he : ∀ x, (enc x).length = sz) (h1 : ∀ x u, u ∈ enc x → u.oneCell' = true) (hlen : (xs.length + 1) * bytes ≤ 140737488355328) {cs : Array Value} (hcs : cs = (enc x).toArray) {F : Option Addr → Nat → Nat → World → Prop}
    (k : ∀ s' w', RowR (setOwn own (sblk s') r) r e sz enc w' s' (xs ++ [x]) → Upd own (setOwn own (sblk s') r) r w w' → F s'.1 s'.2.1 s'.2.2 w') :
    AllocK w cs te fun b w1 => ∃ a' l' c' w2, Sem.run P (Builtin.append_ #[t, t] ty #[.slice s.1 s.2.1 s.2.2, .slice (some b) 1 1]) w1 = .ok (.slice a' l' c') w2 ∧ F a' l' c' w2 := by
  refine OwnR.push x H h.1 (Nat.zero_le _) he h1 hlen hcs fun a' c' w' ho hg hn => ?_
  have hu : Upd own (setOwn own (sblk (a', xs.length + 1, c')) r) r w w' := Upd.of_grown hg h.2 hn (fun k hk => (ho.lt k hk).2)
  refine k (a', xs.length + 1, c') w' ⟨ho, fun g hg => ?_⟩ hu
  unfold setOwn; rw [if_pos hg]
theorem RowR.set {α : Type} {e : TypeId} {sz : Nat} {enc : α → List Value} {g l c : Nat} {xs ys : List α} (h : RowR own r e sz enc w (some ⟨g, 0, none⟩, l, c) xs) (i : Nat) (v : Value) (hi : i < xs.length * sz)
    (hl : ys.length = xs.length) (hys : (xs.flatMap enc).set i v = ys.flatMap enc) {F : World → Prop}
    (k : ∀ w', RowR own r e sz enc w' (some ⟨g, 0, none⟩, l, c) ys → Upd own own r w w' → F w') : SetK w ⟨g, i, none⟩ v F :=
  OwnR.set h.1 i v hi hl hys fun w' ho hbut => k w' ⟨ho, h.2⟩ (Upd.of_but hbut (h.2 g rfl))
theorem MapF.upd {K V : Type} [DecidableEq K] {enc : K → Value} {encV : V → Value} {z : V} {m : Nat} {f : K → V} (h : MapF enc encV z w m f) {r2 : ρ} (hm : own m = some r2) (u : Upd own own' r w w') (hne : r2 ≠ r) : MapF enc encV z w' m f :=
  h.heap (u.block m h.lt (by rw [hm]; simpa using hne))
theorem Blk.upd {b t : Nat} {cs : Array Value} (h : Blk w b cs t) {r2 : ρ} (hb : own b = some r2) (u : Upd own own' r w w') (hne : r2 ≠ r) : Blk w' b cs t :=
  (u.block b h.lt (by rw [hb]; simpa using hne)).trans h
theorem Fr.blk {b t : Nat} {cs : Array Value} (h : Blk w b cs t) (f : Fr own own' w w') (hb : own b = none) : Blk w' b cs t := (f.block b h.lt hb).trans h
end
end Go.V

namespace Go.V
open Go.RowKit (Below)
theorem MapSt.heap {K V : Type} [DecidableEq K] {enc : K → Value} {encV : V → Value} {z : V} {w w' : World} {r : Nat} {f : K → V} {a : K} {st : Nat} (h : MapSt enc encV z w r f a st) (k : w'.heap[r]? = w.heap[r]?) : MapSt enc encV z w' r f a st := by
  obtain ⟨m, bs, c, i, h1, h2, h3⟩ := h
  exact ⟨m, bs, c, i, h1.heap k, h2, h3⟩
theorem MapSt.lt {K V : Type} [DecidableEq K] {enc : K → Value} {encV : V → Value} {z : V} {w : World} {r : Nat} {f : K → V} {a : K} {st : Nat} (h : MapSt enc encV z w r f a st) : r < w.heap.size := by
  obtain ⟨m, bs, c, i, ⟨⟨es, he, _⟩, _⟩, _⟩ := h
  exact (Array.getElem?_eq_some_iff.1 he).1
def RowT {ρ : Type} (own : OwnM ρ) (r : ρ) (e : TypeId) (w : World) (s : SL) (xs : List Int) : Prop :=
  (s = (none, 0, 0) ∧ xs = []) ∨ ∃ g o c cur, s = (some ⟨g, o, none⟩, xs.length, c) ∧ xs.length ≤ c ∧ own g = some r ∧ Blk w g cur e ∧ o + c ≤ cur.size ∧ ∀ i, i < xs.length → cur[o + i]? = (xs[i]?).map fun x => Value.int .i64 x
section
variable {ρ : Type} {own own' : OwnM ρ} {r r2 : ρ} {w w' : World} {e : TypeId} {s : SL} {xs : List Int}
theorem RowT.nil (own : OwnM ρ) (r : ρ) (e : TypeId) (w : World) : RowT own r e w (none, 0, 0) [] := .inl ⟨rfl, rfl⟩
theorem RowT.len (h : RowT own r e w s xs) : s.2.1 = xs.length := by
  rcases h with ⟨rfl, rfl⟩ | ⟨g, o, c, cur, rfl, _⟩ <;> rfl
theorem RowT.owns (h : RowT own r e w s xs) : ∀ k, sblk s = some k → own k = some r := by
  rcases h with ⟨rfl, rfl⟩ | ⟨g, o, c, cur, rfl, _, ho, _⟩
  · intro k hk; cases hk
  · intro k hk; cases hk; exact ho
theorem RowT.lt (h : RowT own r e w s xs) : ∀ k, sblk s = some k → k < w.heap.size := by
  rcases h with ⟨rfl, rfl⟩ | ⟨g, o, c, cur, rfl, _, ho, hb, _⟩
  · intro k hk; cases hk
  · intro k hk; cases hk; exact hb.lt
theorem RowT.frame (h : RowT own r e w s xs) (k : ∀ b, b < w.heap.size → own b ≠ none → w'.heap[b]? = w.heap[b]?) : RowT own r e w' s xs := by
  rcases h with h | ⟨g, o, c, cur, rfl, hl, ho, hb, rest⟩
  · exact .inl h
  · exact .inr ⟨g, o, c, cur, rfl, hl, ho, (k g hb.lt (by rw [ho]; simp)).trans hb, rest⟩
theorem RowT.ext (h : RowT own r e w s xs) (k : Ext w w') : RowT own r e w' s xs := h.frame fun b hb _ => k.block b hb
theorem RowT.upd (h : RowT own r2 e w s xs) (u : Upd own own' r w w') (hne : r2 ≠ r) : RowT own' r2 e w' s xs := by
  rcases h with h | ⟨g, o, c, cur, rfl, hl, ho, hb, rest⟩
  · exact .inl h
  · exact .inr ⟨g, o, c, cur, rfl, hl, by rw [u.same g hb.lt]; exact ho, (u.block g hb.lt (by rw [ho]; simpa using hne)).trans hb, rest⟩
theorem RowT.at_ (h : RowT own r e w s xs) {i : Nat} (hi : i < xs.length) : ∃ g o, s.1 = some ⟨g, o, none⟩ ∧ w.cell? ⟨g, o + i, none⟩ = some (.int .i64 xs[i]) := by
  rcases h with ⟨rfl, rfl⟩ | ⟨g, o, c, cur, rfl, hl, ho, hb, hc, hx⟩
  · simp at hi
  · exact ⟨g, o, rfl, by rw [hb.cell, hx i hi, List.getElem?_eq_getElem hi]; rfl⟩
theorem RowT.tail {a : Option Addr} {l c : Nat} {x : Int} (h : RowT own r e w (a, l, c) (x :: xs)) : 1 ≤ l ∧ l ≤ c ∧ RowT own r e w (if c = 1 then a else a.map (·.add 1), l - 1, c - 1) xs := by
  rcases h with ⟨_, h⟩ | ⟨g, o, c', cur, hs, hl, ho, hb, hc, hx⟩
  · cases h
  · simp only [Prod.mk.injEq] at hs
    obtain ⟨rfl, rfl, rfl⟩ := hs
    simp only [List.length_cons] at hl hx ⊢
    refine ⟨by omega, hl, .inr ?_⟩
    by_cases h1 : c = 1
    · rw [if_pos h1]
      exact ⟨g, o, c - 1, cur, rfl, by omega, ho, hb, by omega, fun i hi => by omega⟩
    · rw [if_neg h1]
      refine ⟨g, o + 1, c - 1, cur, by simp [add_mk], by omega, ho, hb, by omega, fun i hi => ?_⟩
      have := hx (i + 1) (by omega)
      rw [show o + 1 + i = o + (i + 1) by omega, this]; rfl
theorem RowT.ofOwn {base : Nat} {a : Option Addr} {l c : Nat} (h : OwnR base e 1 eI w a l c xs) (ho : ∀ k, sblk (a, l, c) = some k → own k = some r) : RowT own r e w (a, l, c) xs := by
  obtain ⟨hl, h1, h2⟩ := h
  rcases h2 with ⟨h0, hn⟩ | ⟨g, cap, cur, hv, hbg, hg, h3, h4, h5, h6⟩
  · cases h0; left; exact ⟨rfl, List.length_eq_zero_iff.1 hn⟩
  · simp only [Value.slice.injEq] at hv
    obtain ⟨rfl, rfl, rfl⟩ := hv
    refine .inr ⟨g, 0, c, cur, rfl, h3, ho g rfl, hg, by omega, fun i hi => ?_⟩
    have := congrArg (·[i]?) h6
    simp only [Nat.mul_one] at this
    rw [List.getElem?_take_of_lt hi, Array.getElem?_toList] at this
    rw [Nat.zero_add, this]
    have e2 := enc_get (enc := eI) eI_len (i := i) (j := 0) (List.getElem?_eq_getElem hi) (by omega)
    simp only [Nat.mul_one, Nat.add_zero] at e2
    rw [e2, List.getElem?_eq_getElem hi]; rfl
theorem RowT.push {P : Program} {t ty : TypeId} {bytes : Nat} (x : Int) (H : SlT P t e 1 bytes) (h : RowT own r e w s xs) (hlen : (xs.length + 1) * bytes ≤ 140737488355328) {b c2 : Nat} (hb : w.cell? ⟨b, 0, none⟩ = some (.int .i64 x)) :
    ∃ s' w', Sem.run P (Builtin.append_ #[t, t] ty #[.slice s.1 s.2.1 s.2.2, .slice (some ⟨b, 0, none⟩) 1 c2]) w = .ok (.slice s'.1 s'.2.1 s'.2.2) w' ∧
      RowT (setOwn own (sblk s') r) r e w' s' (xs ++ [x]) ∧ Upd own (setOwn own (sblk s') r) r w w' := by
  have hnews : ∀ j u, [Value.int .i64 x][j]? = some u → w.cell? ((⟨b, 0, none⟩ : Addr).add j) = some u := fun j u hj => by
    cases j with
    | zero => simp at hj; subst hj; rw [add_mk]; exact hb
    | succ j => simp at hj
  obtain ⟨i, z, hi, hz, hsz, hby, hzs⟩ := H.info
  have h63 : xs.length + 1 ≤ maxLen := by
    have := Nat.le_mul_of_pos_right (xs.length + 1) H.posB
    simp only [maxLen]; omega
  have viaOwn : ∀ {a : Option Addr} {l c : Nat}, OwnR 0 e 1 eI w a l c xs → s = (a, l, c) → ∃ s' w', Sem.run P (Builtin.append_ #[t, t] ty #[.slice s.1 s.2.1 s.2.2, .slice (some ⟨b, 0, none⟩) 1 c2]) w = .ok (.slice s'.1 s'.2.1 s'.2.2) w' ∧
      RowT (setOwn own (sblk s') r) r e w' s' (xs ++ [x]) ∧ Upd own (setOwn own (sblk s') r) r w w' := by
    rintro a l c hO rfl
    obtain ⟨a', c', w', q1, q2, q3, q4⟩ := OwnR.appendN (ty := ty) H (xs := xs) (ys := [x]) hO (Nat.zero_le _) eI_len eI_one ⟨b, 0, none⟩ c2 (fun j u hj => hnews j u (by simpa [eI] using hj)) hlen
    refine ⟨(a', xs.length + 1, c'), w', q1, RowT.ofOwn q2 fun k hk => by unfold setOwn; rw [if_pos hk], Upd.of_grown q3 h.owns ?_ (fun k hk => (q2.lt k hk).2)⟩
    rcases q4 with q4 | q4
    · exact .inl q4
    · exact .inr ⟨_, q4, Nat.le_refl _⟩
  rcases h with ⟨rfl, rfl⟩ | ⟨g, o, c, cur, rfl, hl, ho, hB, hc, hx⟩
  · exact viaOwn (OwnR.nil _ _ _ _ _) rfl
  · by_cases hroom : xs.length + 1 ≤ c
    · have hro := run_append_room_cells (P := P) w t ty e i H.under hi g o xs.length c ⟨b, 0, none⟩ 1 c2 [.int .i64 x] (by simp [hsz]) hnews (by simp [Value.oneCell']) hroom
        (fun j hj => by simp at hj; subst hj; rw [hsz, hB.cell, Array.getElem?_eq_getElem (by omega)]; rfl) (fun j hj => hB.frozen _)
      refine ⟨(some ⟨g, o, none⟩, xs.length + 1, c), _, hro, ?_, ?_⟩
      · refine .inr ⟨g, o, c, cur.setIfInBounds (o + xs.length) (.int .i64 x), by simp, by simpa using hroom, by show (if some g = some g then some r else own g) = some r; rw [if_pos rfl], ?_, by simpa using hc, fun j hj => ?_⟩
        · rw [hsz, Nat.mul_one]; exact heap_setCell_same w g (o + xs.length) cur e _ hB
        · simp only [List.length_append, List.length_singleton] at hj
          rw [Array.getElem?_setIfInBounds]
          by_cases hj2 : j = xs.length
          · subst hj2; rw [if_pos rfl, if_pos (by omega), List.getElem?_append_right (Nat.le_refl _)]; simp
          · rw [if_neg (by omega), hx j (by omega), List.getElem?_append_left (by omega)]
      · have hbut : But g w (w.setCells g (o + xs.length * i.size) [.int .i64 x]) := ⟨rfl, rfl, rfl, by simp [World.setCells], fun k hk => heap_setCell_other w _ k _ hk⟩
        have hu := Upd.of_but hbut ho
        have : setOwn own (sblk (some ⟨g, o, none⟩, xs.length + 1, c)) r = own := by
          funext k; unfold setOwn; split
          · rename_i e1; have e1 : some g = some k := e1; cases e1; exact ho.symm
          · rfl
        rw [this]; exact hu
    · have hxs : (xs.map fun x => Value.int .i64 x).length = xs.length * 1 := by simp
      obtain ⟨v', w', q1, q2, q3⟩ := run_append_arg_grows (P := P) w t ty e i z 1 bytes H.under hi hz hsz hby hzs (by omega) ⟨g, o, none⟩ xs.length c (xs.map fun x => .int .i64 x) hxs (fun j u hj => by
          have hjl : j < xs.length := by have := (List.getElem?_eq_some_iff.1 hj).1; simpa using this
          rw [add_mk, hB.cell, hx j hjl]; simpa using hj) ⟨b, 0, none⟩ 1 c2 [.int .i64 x] (by simp) hnews (by omega) h63 hlen
      have hfl : (xs.map fun x => Value.int .i64 x) ++ [.int .i64 x] = (xs ++ [x]).flatMap eI := by
        have : ∀ l : List Int, (l.map fun x => Value.int .i64 x) = l.flatMap eI := fun l => by
          induction l with
          | nil => rfl
          | cons y ys ih => rw [List.map_cons, ih, List.flatMap_cons]; rfl
        rw [← this, List.map_append]; rfl
      rw [hfl] at q2
      rcases q2.2 with ⟨rfl, h0⟩ | ⟨g2, cap, cur2, rfl, hge, hh, h3, h4, h5, h6⟩
      · omega
      · refine ⟨(some ⟨g2, 0, none⟩, xs.length + 1, cap), w', q1, RowT.ofOwn (base := w.heap.size) ⟨by simp, by simpa using q2⟩ fun k hk => by unfold setOwn; rw [if_pos hk], ?_⟩
        exact Upd.of_grown (row := none) q3 (fun k hk => by cases hk) (.inr ⟨g2, rfl, hge⟩) (fun k hk => by cases hk; exact (Array.getElem?_eq_some_iff.1 hh).1)
end
end Go.V

namespace Go.V
open Go.RowKit (Below)
def bl (s : ByteArray) : List UInt8 := s.data.toList
theorem bl_append (a b : ByteArray) : bl (a ++ b) = bl a ++ bl b := by simp [bl]
theorem bl_size (s : ByteArray) : (bl s).length = s.size := by simp [bl]
theorem bl_mk (l : Array UInt8) : bl ⟨l⟩ = l.toList := rfl
theorem bl_inj {a b : ByteArray} (h : bl a = bl b) : a = b := by
  obtain ⟨⟨x⟩⟩ := a
  obtain ⟨⟨y⟩⟩ := b
  simp [bl] at h
  rw [h]
theorem bl_get (s : ByteArray) (i : Nat) : s[i]? = (bl s)[i]? := by
  by_cases h : i < s.size
  · have h2 : i < (bl s).length := by rw [bl_size]; exact h
    rw [getElem?_pos s i h, List.getElem?_eq_getElem h2]
    simp only [bl, Array.getElem_toList]; rfl
  · have h2 : (bl s).length ≤ i := by rw [bl_size]; omega
    rw [getElem?_neg s i h, List.getElem?_eq_none h2]
theorem bl_toList (s : ByteArray) : s.toList = bl s := ByteArray.toList_eq s
theorem bl_eq (s t : ByteArray) : (s.toList == t.toList) = decide (bl s = bl t) := by
  rw [bl_toList, bl_toList]
  by_cases h : bl s = bl t
  · simp [h]
  · simp [h]
theorem bl_extract (s : ByteArray) (i j : Nat) : bl (s.extract i j) = (bl s).extract i j := by
  simp [bl]
theorem run_byteString {P : Program} {src dst e : TypeId} {w : World} {b : Nat} {x : Int} {t : Nat} (hs : P.underlying src = some (.slice e)) (he : P.underlying e = some (.int .u8)) (hd : P.underlying dst = some .string) (hb : Blk w b #[.int .u8 x] t) :
    Sem.run P (convert src dst (.slice (some ⟨b, 0, none⟩) 1 1)) w = .ok (.string ⟨#[UInt8.ofNat x.toNat]⟩) w := by
  rw [run_convert_bytes_string w src dst e _ 1 1 hs he hd]
  have := run_loadCells_list (P := P) (w := w) ⟨b, 0, none⟩ [.int .u8 x] (fun j v hj => by
    rw [add_mk, Nat.zero_add, hb.cell]; simpa using hj)
  exact run_bytesToString w _ 1 1 [x] this
/-! ### Digits -/
def dg (x : Nat) : UInt8 := UInt8.ofNat (48 + x)
theorem dg_nat {x : Nat} (h : x < 10) : (dg x).toNat = 48 + x := by
  rw [dg, UInt8.toNat_ofNat']; omega
def decN (n : Nat) : List UInt8 :=
  if n < 10 then [dg n] else if n < 100 then [dg (n / 10), dg (n % 10)] else if n < 1000 then [dg (n / 10 / 10), dg (n / 10 % 10), dg (n % 10)]
  else [dg (n / 10 / 10 / 10), dg (n / 10 / 10 % 10), dg (n / 10 % 10), dg (n % 10)]
theorem decN_one {n : Nat} (h : n < 10) : decN n = [dg n] := by rw [decN, if_pos h]
theorem decN_step {n : Nat} (h : 10 ≤ n) (h2 : n < 10000) : decN n = decN (n / 10) ++ decN (n % 10) := by
  rw [decN_one (n := n % 10) (by omega)]
  unfold decN
  rw [if_neg (by omega)]
  by_cases h3 : n < 100
  · rw [if_pos h3, if_pos (by omega)]; rfl
  rw [if_neg h3]
  rw [if_neg (by omega : ¬ n / 10 < 10)]
  by_cases h4 : n < 1000
  · rw [if_pos h4, if_pos (by omega)]; rfl
  · rw [if_neg h4, if_neg (by omega), if_pos (by omega)]; rfl
theorem decN_len (n : Nat) : 1 ≤ (decN n).length ∧ (decN n).length ≤ 4 := by
  unfold decN; split
  · simp
  split
  · simp
  split <;> simp
def isD (c : UInt8) : Prop := 48 ≤ c.toNat ∧ c.toNat ≤ 57
theorem dg_d {x : Nat} (h : x < 10) : isD (dg x) := by rw [isD, dg_nat h]; omega
theorem decN_d {n : Nat} (h : n < 10000) : ∀ c ∈ decN n, isD c := by
  intro c hc
  unfold decN at hc
  split at hc
  · simp at hc; subst hc; exact dg_d (by omega)
  split at hc
  · simp at hc; rcases hc with rfl | rfl <;> exact dg_d (by omega)
  split at hc
  · simp at hc; rcases hc with rfl | rfl | rfl <;> exact dg_d (by omega)
  · simp at hc; rcases hc with rfl | rfl | rfl | rfl <;> exact dg_d (by omega)
def valL (l : List UInt8) : Nat := l.foldl (fun n c => 10 * n + (c.toNat - 48)) 0
theorem valL_snoc (l : List UInt8) (u : UInt8) : valL (l ++ [u]) = 10 * valL l + (u.toNat - 48) := by simp [valL, List.foldl_append]
theorem valL_dec {n : Nat} (h : n < 10000) : valL (decN n) = n := by
  unfold decN valL
  split
  · simp [dg_nat, *]
  split
  · simp only [List.foldl_cons, List.foldl_nil]; rw [dg_nat (by omega), dg_nat (by omega)]; omega
  split
  · simp only [List.foldl_cons, List.foldl_nil]; rw [dg_nat (by omega), dg_nat (by omega), dg_nat (by omega)]; omega
  · simp only [List.foldl_cons, List.foldl_nil]; rw [dg_nat (by omega), dg_nat (by omega), dg_nat (by omega), dg_nat (by omega)]; omega
theorem snoc_ind {α : Type} {P : List α → Prop} (h0 : P []) (h1 : ∀ l a, P l → P (l ++ [a])) (l : List α) : P l := by
  rw [← List.reverse_reverse l]
  induction l.reverse with
  | nil => exact h0
  | cons a t ih => rw [List.reverse_cons]; exact h1 _ _ ih
theorem valL_mono (l m : List UInt8) : valL l ≤ valL (l ++ m) :=
  snoc_ind (P := fun m => valL l ≤ valL (l ++ m)) (by simp) (fun m u ih => by rw [← List.append_assoc, valL_snoc]; omega) m
theorem valL_lt {l : List UInt8} (h : ∀ c ∈ l, isD c) : valL l < 10 ^ l.length := by
  revert h
  refine snoc_ind (P := fun l => (∀ c ∈ l, isD c) → valL l < 10 ^ l.length) (fun _ => by simp [valL]) (fun m u ih h => ?_) l
  have h1 := ih fun c hc => h c (List.mem_append_left _ hc)
  have h2 := h u (by simp)
  simp only [isD] at h2
  rw [valL_snoc, List.length_append, List.length_singleton, Nat.pow_succ]; omega
def seg (s : ByteArray) (i k : Nat) : List UInt8 := ((bl s).drop i).take k
theorem seg_succ {s : ByteArray} {i k : Nat} {u : UInt8} (h : (bl s)[i + k]? = some u) : seg s i (k + 1) = seg s i k ++ [u] := by
  rw [seg, seg, List.take_add_one, List.getElem?_drop, h]; rfl
theorem seg_zero (s : ByteArray) (i : Nat) : seg s i 0 = [] := by simp [seg]
structure Digs (s : ByteArray) (i k : Nat) (n : Nat) : Prop where
  le : i + k ≤ s.size
  all : ∀ c ∈ seg s i k, isD c
  val : n = valL (seg s i k)
theorem Digs.len {s : ByteArray} {i k n : Nat} (h : Digs s i k n) : (seg s i k).length = k := by
  have := h.le
  rw [seg, List.length_take, List.length_drop, bl_size]; omega
theorem Digs.lt {s : ByteArray} {i k n : Nat} (h : Digs s i k n) : n < 10 ^ k := by
  have := valL_lt h.all; rw [h.len] at this; rw [h.val]; exact this
theorem Digs.zero {s : ByteArray} {i : Nat} (h : i ≤ s.size) : Digs s i 0 0 := ⟨by omega, by simp [seg_zero], by simp [seg_zero, valL]⟩
theorem Digs.succ {s : ByteArray} {i k n : Nat} {u : UInt8} (h : Digs s i k n) (hu : (bl s)[i + k]? = some u) (hd : isD u) : Digs s i (k + 1) (10 * n + (u.toNat - 48)) := by
  have hlt : i + k < s.size := by rw [← bl_size]; exact (List.getElem?_eq_some_iff.1 hu).1
  refine ⟨by omega, ?_, ?_⟩
  · rw [seg_succ hu]
    intro c hc
    rcases List.mem_append.1 hc with hc | hc
    · exact h.all c hc
    · simp at hc; subst hc; exact hd
  · rw [seg_succ hu, valL_snoc, ← h.val]
def NoD (s : ByteArray) (j : Nat) : Prop := ∀ u, (bl s)[j]? = some u → ¬ isD u
theorem Digs.exact {s : ByteArray} {i k n v : Nat} {R : List UInt8} (h : Digs s i k n) (hv : v < 10000) (hs : (bl s).drop i = decN v ++ R) (hR : ∀ u, R.head? = some u → ¬ isD u)
    (hstop : NoD s (i + k) ∨ (k < (decN v).length → v < n)) : k = (decN v).length ∧ n = v ∧ (bl s).drop (i + k) = R := by
  have hlen := h.len
  have hle := h.le
  have hk : k ≤ (decN v).length := by
    rcases Nat.lt_or_ge (decN v).length k with hlt | hge
    · exfalso
      have h1 : (seg s i k)[(decN v).length]? = R[0]? := by
        rw [seg, hs, List.getElem?_take, if_pos hlt, List.getElem?_append_right (Nat.le_refl _), Nat.sub_self]
      rw [List.getElem?_eq_getElem (by omega)] at h1
      exact hR _ (by rw [List.head?_eq_getElem?]; exact h1.symm) (h.all _ (List.getElem_mem _))
    · exact hge
  have hseg : seg s i k = (decN v).take k := by rw [seg, hs, List.take_append_of_le_length hk]
  have hk2 : k = (decN v).length := by
    rcases Nat.lt_or_ge k (decN v).length with hlt | hge
    · exfalso
      rcases hstop with hst | hst
      · have h1 : (bl s)[i + k]? = some (decN v)[k] := by
          rw [← List.getElem?_drop, hs, List.getElem?_append_left hlt, List.getElem?_eq_getElem hlt]
        exact hst _ h1 (decN_d hv _ (List.getElem_mem _))
      · have h1 := hst hlt
        have h2 := valL_mono ((decN v).take k) ((decN v).drop k)
        rw [List.take_append_drop, valL_dec hv, ← hseg, ← h.val] at h2
        omega
    · omega
  refine ⟨hk2, ?_, ?_⟩
  · rw [h.val, hseg, hk2, List.take_length, valL_dec hv]
  · rw [← List.drop_drop, hs, hk2, List.drop_left]
end Go.V

namespace Go.Proofs.YtgggbmikmmljcaaGreat
open Go Go.V Go.Proofs
def tabTy : List (Nat × TInfo) := [
  (3, { sh := (.one (.int .i64)), zero := some [.int .i64 0], bytes := 8 }),
  (4, { sh := (.one .bool), zero := some [.bool false], bytes := 1 }),
  (5, { sh := (.one (.int .u8)), zero := some [.int .u8 0], bytes := 1 }),
  (9, { sh := (.one .str), zero := some [.string ⟨#[]⟩], bytes := 16 }),
  (22, { sh := (.one .slice), idx := some (none, 4), elem := 33, zero := some [.slice none 0 0], bytes := 24 }),
  (23, { sh := (.one .ptr), zero := some [.pointer none], bytes := 8 }),
  (24, { sh := (.one (.int .i64)), zero := some [.int .i64 0], bytes := 8 }),
  (28, { sh := (.one .ptr), zero := some [.pointer none], bytes := 8 }),
  (31, { sh := (.one .map), elem := 3, zero := some [.map none], bytes := 8 }),
  (33, { sh := (.agg [(.int .i64), (.int .i64), (.int .i64), (.int .i64)]), places := [(0, 1, false), (1, 1, false), (2, 1, false), (3, 1, false)], zero := some [.int .i64 0, .int .i64 0, .int .i64 0, .int .i64 0], bytes := 32 }),
  (34, { sh := (.one .slice), idx := some (none, 8), elem := 40, zero := some [.slice none 0 0], bytes := 24 }),
  (40, { sh := (.agg [(.int .i64), (.int .i64), .str, (.int .i64), (.int .i64), (.int .i64), (.int .i64), .slice]), places := [(0, 1, false), (1, 1, false), (2, 1, false), (3, 1, false), (4, 1, false), (5, 1, false), (6, 2, true)], zero := some [.int .i64 0, .int .i64 0, .string ⟨#[]⟩, .int .i64 0, .int .i64 0, .int .i64 0, .int .i64 0, .slice none 0 0], bytes := 88 }),
  (43, { sh := (.one .slice), idx := some (none, 1), elem := 3, zero := some [.slice none 0 0], bytes := 24 }),
  (44, { sh := (.one .slice), idx := some (none, 7), elem := 98, zero := some [.slice none 0 0], bytes := 24 }),
  (45, { sh := (.one .slice), idx := some (none, 1), elem := 43, zero := some [.slice none 0 0], bytes := 24 }),
  (46, { sh := (.one .slice), idx := some (none, 1), elem := 84, zero := some [.slice none 0 0], bytes := 24 }),
  (47, { sh := (.one .slice), idx := some (none, 3), elem := 104, zero := some [.slice none 0 0], bytes := 24 }),
  (48, { sh := (.one .slice), idx := some (none, 2), elem := 93, zero := some [.slice none 0 0], bytes := 24 }),
  (50, { sh := (.agg [(.int .i64), (.int .i64), (.int .i64), .slice, .slice, .slice, .slice, .slice, .slice, .slice, .slice, .slice]), places := [(0, 1, false), (1, 1, false), (2, 1, false), (3, 1, false), (4, 1, false), (5, 1, false), (6, 1, false), (7, 1, false), (8, 1, false), (9, 1, false), (10, 1, false), (11, 1, false)], zero := some [.int .i64 0, .int .i64 0, .int .i64 0, .slice none 0 0, .slice none 0 0, .slice none 0 0, .slice none 0 0, .slice none 0 0, .slice none 0 0, .slice none 0 0, .slice none 0 0, .slice none 0 0], bytes := 240 }),
  (64, { sh := (.one .map), elem := 3, zero := some [.map none], bytes := 8 }),
  (65, { sh := (.one .map), elem := 4, zero := some [.map none], bytes := 8 }),
  (66, { sh := (.one .map), elem := 43, zero := some [.map none], bytes := 8 }),
  (67, { sh := (.one .slice), idx := some (none, 7), elem := 78, zero := some [.slice none 0 0], bytes := 24 }),
  (69, { sh := (.agg [.bool, (.int .i64), (.int .i64), .slice, .slice, .slice, .map, .map, .map, .map, .map, .slice]), places := [(0, 1, false), (1, 1, false), (2, 1, false), (3, 1, false), (4, 1, false), (5, 1, false), (6, 1, false), (7, 1, false), (8, 1, false), (9, 1, false), (10, 1, false), (11, 1, false)], zero := some [.bool false, .int .i64 0, .int .i64 0, .slice none 0 0, .slice none 0 0, .slice none 0 0, .map none, .map none, .map none, .map none, .map none, .slice none 0 0], bytes := 160 }),
  (78, { sh := (.agg [(.int .i64), .bool, (.int .i64), (.int .i64), .bool, .bool, .slice]), places := [(0, 1, false), (1, 1, false), (2, 1, false), (3, 1, false), (4, 1, false), (5, 1, false), (6, 1, false)], zero := some [.int .i64 0, .bool false, .int .i64 0, .int .i64 0, .bool false, .bool false, .slice none 0 0], bytes := 64 }),
  (79, { sh := (.one .ptr), zero := some [.pointer none], bytes := 8 }),
  (82, { sh := (.agg [(.int .i64), (.int .i64)]), places := [(0, 1, false), (1, 1, false)], zero := some [.int .i64 0, .int .i64 0], bytes := 16 }),
  (83, { sh := (.one .clo), zero := some [.nilFunc], bytes := 8 }),
  (84, { sh := (.one .slice), idx := some (none, 1), elem := 4, zero := some [.slice none 0 0], bytes := 24 }),
  (91, { sh := (.one .slice), idx := some (none, 1), elem := 65, zero := some [.slice none 0 0], bytes := 24 }),
  (93, { sh := (.agg [(.int .i64), (.int .i64)]), idx := some (some 2, 1), zero := some [.int .i64 0, .int .i64 0], eq := some [(.int .i64), (.int .i64)], bytes := 16 }),
  (95, { sh := (.one .clo), zero := some [.nilFunc], bytes := 8 }),
  (98, { sh := (.agg [(.int .i64), (.int .i64), (.int .i64), .bool, .bool, .bool, .slice]), places := [(0, 1, false), (1, 1, false), (2, 1, false), (3, 1, false), (4, 1, false), (5, 1, false), (6, 1, false)], zero := some [.int .i64 0, .int .i64 0, .int .i64 0, .bool false, .bool false, .bool false, .slice none 0 0], bytes := 56 }),
  (99, { sh := (.one .ptr), zero := some [.pointer none], bytes := 8 }),
  (104, { sh := (.agg [(.int .i64), (.int .i64), (.int .i64)]), places := [(0, 1, false), (1, 1, false), (2, 1, false)], zero := some [.int .i64 0, .int .i64 0, .int .i64 0], bytes := 24 }),
  (122, { sh := (.one (.int .u64)), zero := some [.int .u64 0], bytes := 8 }),
  (125, { sh := (.one (.int .i64)), zero := some [.int .i64 0], bytes := 8 }),
  (133, { sh := (.one (.int .u32)), zero := some [.int .u32 0], bytes := 4 }),
  (135, { sh := (.one (.int .u64)), zero := some [.int .u64 0], bytes := 8 }),
  (136, { sh := (.one (.int .u64)), zero := some [.int .u64 0], bytes := 8 }),
  (140, { sh := (.one .ptr), zero := some [.pointer none], bytes := 8 }),
  (142, { sh := (.one .ptr), zero := some [.pointer none], bytes := 8 })]
def tabFn : List (Nat × List Sh) := [(2, []), (3, [(.one .bool)]), (4, [(.one .bool)]), (5, [(.one .ptr), (.one (.int .i64))]), (6, [(.one .bool)]), (7, [(.one .ptr), (.one (.int .i64))]), (8, [(.one .slice)]), (9, [(.one .map)]), (10, [(.one .bool)]), (11, [(.one (.int .i64)), (.one (.int .i64))]), (12, [(.one (.int .i64))]), (13, [(.one .str)]), (14, [(.one .ptr), (.one .ptr), (.one .bool)]), (15, [(.one (.int .i64))]), (16, [(.one .bool)]), (17, [(.one (.int .i64))]), (18, [(.one .slice), (.one (.int .i64))]), (19, [(.one (.int .i64)), (.one (.int .i64))]), (20, [(.one (.int .i64))]), (21, [(.one .bool)]), (22, [(.one .slice)]), (23, [(.one (.int .i64)), (.one (.int .i64))]), (24, [(.one (.int .i64))]), (25, [(.one (.int .i64))]), (26, [(.one (.int .i64))]), (27, [(.one (.int .i64))]), (28, [(.one (.int .i64))]), (29, [(.one (.int .i64))]), (30, [(.one (.int .i64))]), (31, [(.one (.int .i64))]), (32, [(.one (.int .i64))]), (33, [(.one (.int .i64))]), (34, [(.one (.int .i64))]), (35, [(.one (.int .i64))]), (36, [(.one (.int .i64))]), (37, [(.one .slice), (.one (.int .i64))]), (38, [(.one .bool)]), (39, [(.one .bool)]), (40, [(.one .bool)]), (41, [(.one .slice)]), (42, [(.one .slice)]), (43, [(.one (.int .i64))]), (44, [(.one .ptr)]), (45, [(.one .bool)]), (46, [(.one .slice)]), (47, [(.agg [(.int .i64), (.int .i64), .str, (.int .i64), (.int .i64), (.int .i64), (.int .i64), .slice]), (.one (.int .i64))]), (48, []), (49, []), (50, []), (51, [(.one .bool)]), (52, []), (53, [(.one .bool)]), (54, [(.one .slice)]), (55, [(.one .bool)]), (56, [(.one .bool)]), (57, []), (58, [(.one .bool)]), (59, [(.one .ptr)]), (60, []), (61, []), (62, []), (63, [(.one .str)]), (64, []), (65, [(.one .bool)]), (66, [(.one .bool)]), (67, [(.one .bool)]), (68, []), (69, [(.one .bool)]), (70, [(.one .slice)]), (71, [(.one (.int .i64))]), (72, [(.one .slice)]), (73, [(.one .bool)]), (74, []), (75, [(.one .slice)]), (76, [(.one .bool)]), (77, [(.one .slice)]), (78, [(.one (.int .i64)), (.one (.int .i64))]), (79, [(.one (.int .i64))]), (80, [(.one .slice)]), (81, [(.one .bool)]), (82, [(.one .bool)]), (83, [(.one .bool)]), (84, [(.one .slice)]), (85, [(.one .bool)]), (86, [(.one .bool)]), (87, [(.one .slice)]), (88, [(.one (.int .i64))]), (89, []), (90, [(.one (.int .i64))]), (91, []), (92, []), (93, [(.one (.int .i64))]), (94, []), (95, []), (96, []), (97, [(.one (.int .i64)), (.one (.int .i64))]), (98, []), (99, [(.one .bool)]), (100, [(.one .bool)]), (101, [(.one (.int .i64))]), (102, [(.one (.int .i64)), (.one .bool)]), (103, [(.one (.int .i64))]), (104, [(.one (.int .i64))]), (105, []), (106, [(.one (.int .u64))]), (107, [(.one (.int .u64))]), (108, [(.one (.int .i64))]), (109, [(.one (.int .i64))]), (110, [(.one .bool)]), (111, [(.one (.int .i64)), (.one (.int .i64))])]
def tab : Tab := { ty := tabTy, fn := tabFn, tup := [] }
theorem tab_fn : FAll Tryz.prog tabFn := ⟨Tryz.call2, Tryz.call3, Tryz.call4, Tryz.call5, Tryz.call6, Tryz.call7, Tryz.call8, Tryz.call9, Tryz.call10, Tryz.call11, Tryz.call12, Tryz.call13, Tryz.call14, Tryz.call15, Tryz.call16, Tryz.call17, Tryz.call18, Tryz.call19, Tryz.call20, Tryz.call21, Tryz.call22, Tryz.call23, Tryz.call24, Tryz.call25, Tryz.call26, Tryz.call27, Tryz.call28, Tryz.call29, Tryz.call30, Tryz.call31, Tryz.call32, Tryz.call33, Tryz.call34, Tryz.call35, Tryz.call36, Tryz.call37, Tryz.call38, Tryz.call39, Tryz.call40, Tryz.call41, Tryz.call42, Tryz.call43, Tryz.call44, Tryz.call45, Tryz.call46, Tryz.call47, Tryz.call48, Tryz.call49, Tryz.call50, Tryz.call51, Tryz.call52, Tryz.call53, Tryz.call54, Tryz.call55, Tryz.call56, Tryz.call57, Tryz.call58, Tryz.call59, Tryz.call60, Tryz.call61, Tryz.call62, Tryz.call63, Tryz.call64, Tryz.call65, Tryz.call66, Tryz.call67, Tryz.call68, Tryz.call69, Tryz.call70, Tryz.call71, Tryz.call72, Tryz.call73, Tryz.call74, Tryz.call75, Tryz.call76, Tryz.call77, Tryz.call78, Tryz.call79, Tryz.call80, Tryz.call81, Tryz.call82, Tryz.call83, Tryz.call84, Tryz.call85, Tryz.call86, Tryz.call87, Tryz.call88, Tryz.call89, Tryz.call90, Tryz.call91, Tryz.call92, Tryz.call93, Tryz.call94, Tryz.call95, Tryz.call96, Tryz.call97, Tryz.call98, Tryz.call99, Tryz.call100, Tryz.call101, Tryz.call102, Tryz.call103, Tryz.call104, Tryz.call105, Tryz.call106, Tryz.call107, Tryz.call108, Tryz.call109, Tryz.call110, Tryz.call111, trivial⟩
theorem tab_zero : ZAll Tryz.prog tabTy := ⟨(show zeroOf Tryz.prog 3 = (List.toArray [.int .i64 0]) from by kernel_rfl),
  (show zeroOf Tryz.prog 4 = (List.toArray [.bool false]) from by kernel_rfl),
  (show zeroOf Tryz.prog 5 = (List.toArray [.int .u8 0]) from by kernel_rfl),
  (show zeroOf Tryz.prog 9 = (List.toArray [.string ⟨#[]⟩]) from by kernel_rfl),
  (show zeroOf Tryz.prog 22 = (List.toArray [.slice none 0 0]) from by kernel_rfl),
  (show zeroOf Tryz.prog 23 = (List.toArray [.pointer none]) from by kernel_rfl),
  (show zeroOf Tryz.prog 24 = (List.toArray [.int .i64 0]) from by kernel_rfl),
  (show zeroOf Tryz.prog 28 = (List.toArray [.pointer none]) from by kernel_rfl),
  (show zeroOf Tryz.prog 31 = (List.toArray [.map none]) from by kernel_rfl),
  (show zeroOf Tryz.prog 33 = (List.toArray [.int .i64 0, .int .i64 0, .int .i64 0, .int .i64 0]) from by kernel_rfl),
  (show zeroOf Tryz.prog 34 = (List.toArray [.slice none 0 0]) from by kernel_rfl),
  (show zeroOf Tryz.prog 40 = (List.toArray [.int .i64 0, .int .i64 0, .string ⟨#[]⟩, .int .i64 0, .int .i64 0, .int .i64 0, .int .i64 0, .slice none 0 0]) from by kernel_rfl),
  (show zeroOf Tryz.prog 43 = (List.toArray [.slice none 0 0]) from by kernel_rfl),
  (show zeroOf Tryz.prog 44 = (List.toArray [.slice none 0 0]) from by kernel_rfl),
  (show zeroOf Tryz.prog 45 = (List.toArray [.slice none 0 0]) from by kernel_rfl),
  (show zeroOf Tryz.prog 46 = (List.toArray [.slice none 0 0]) from by kernel_rfl),
  (show zeroOf Tryz.prog 47 = (List.toArray [.slice none 0 0]) from by kernel_rfl),
  (show zeroOf Tryz.prog 48 = (List.toArray [.slice none 0 0]) from by kernel_rfl),
  (show zeroOf Tryz.prog 50 = (List.toArray [.int .i64 0, .int .i64 0, .int .i64 0, .slice none 0 0, .slice none 0 0, .slice none 0 0, .slice none 0 0, .slice none 0 0, .slice none 0 0, .slice none 0 0, .slice none 0 0, .slice none 0 0]) from by kernel_rfl),
  (show zeroOf Tryz.prog 64 = (List.toArray [.map none]) from by kernel_rfl),
  (show zeroOf Tryz.prog 65 = (List.toArray [.map none]) from by kernel_rfl),
  (show zeroOf Tryz.prog 66 = (List.toArray [.map none]) from by kernel_rfl),
  (show zeroOf Tryz.prog 67 = (List.toArray [.slice none 0 0]) from by kernel_rfl),
  (show zeroOf Tryz.prog 69 = (List.toArray [.bool false, .int .i64 0, .int .i64 0, .slice none 0 0, .slice none 0 0, .slice none 0 0, .map none, .map none, .map none, .map none, .map none, .slice none 0 0]) from by kernel_rfl),
  (show zeroOf Tryz.prog 78 = (List.toArray [.int .i64 0, .bool false, .int .i64 0, .int .i64 0, .bool false, .bool false, .slice none 0 0]) from by kernel_rfl),
  (show zeroOf Tryz.prog 79 = (List.toArray [.pointer none]) from by kernel_rfl),
  (show zeroOf Tryz.prog 82 = (List.toArray [.int .i64 0, .int .i64 0]) from by kernel_rfl),
  (show zeroOf Tryz.prog 83 = (List.toArray [.nilFunc]) from by kernel_rfl),
  (show zeroOf Tryz.prog 84 = (List.toArray [.slice none 0 0]) from by kernel_rfl),
  (show zeroOf Tryz.prog 91 = (List.toArray [.slice none 0 0]) from by kernel_rfl),
  (show zeroOf Tryz.prog 93 = (List.toArray [.int .i64 0, .int .i64 0]) from by kernel_rfl),
  (show zeroOf Tryz.prog 95 = (List.toArray [.nilFunc]) from by kernel_rfl),
  (show zeroOf Tryz.prog 98 = (List.toArray [.int .i64 0, .int .i64 0, .int .i64 0, .bool false, .bool false, .bool false, .slice none 0 0]) from by kernel_rfl),
  (show zeroOf Tryz.prog 99 = (List.toArray [.pointer none]) from by kernel_rfl),
  (show zeroOf Tryz.prog 104 = (List.toArray [.int .i64 0, .int .i64 0, .int .i64 0]) from by kernel_rfl),
  (show zeroOf Tryz.prog 122 = (List.toArray [.int .u64 0]) from by kernel_rfl),
  (show zeroOf Tryz.prog 125 = (List.toArray [.int .i64 0]) from by kernel_rfl),
  (show zeroOf Tryz.prog 133 = (List.toArray [.int .u32 0]) from by kernel_rfl),
  (show zeroOf Tryz.prog 135 = (List.toArray [.int .u64 0]) from by kernel_rfl),
  (show zeroOf Tryz.prog 136 = (List.toArray [.int .u64 0]) from by kernel_rfl),
  (show zeroOf Tryz.prog 140 = (List.toArray [.pointer none]) from by kernel_rfl),
  (show zeroOf Tryz.prog 142 = (List.toArray [.pointer none]) from by kernel_rfl), trivial⟩
theorem tab_eq : EAll Tryz.prog tabTy := ⟨trivial, trivial, trivial, trivial, trivial, trivial, trivial, trivial, trivial, trivial, trivial, trivial, trivial, trivial, trivial, trivial, trivial, trivial, trivial, trivial, trivial, trivial, trivial, trivial, trivial, trivial, trivial, trivial, trivial, trivial, (eqOk_array2 Tryz.underlying93 (by kernel_rfl) (by kernel_rfl) (by kernel_rfl)), trivial, trivial, trivial, trivial, trivial, trivial, trivial, trivial, trivial, trivial, trivial, trivial⟩
theorem tabOk : tab.Ok Tryz.prog := Tab.Ok.of (by kernel_rfl) tab_zero tab_eq tab_fn
theorem mixed : Tryz.prog.follows .mixedOrders = true := by kernel_rfl
end Go.Proofs.YtgggbmikmmljcaaGreat

namespace Go.Proofs.YtgggbmikmmljcaaGreat
open Go Go.V Go.Proofs
open Go.RowKit (Below)
structure Msg where
  frm : Int
  to : Int
  kind : ByteArray
  ent : Int
  n : Int
structure Th where
  owner : Int
  holds : Bool
  out : Int
  heard : Int
  expired : Bool
  swept : Bool
  on : List Int
structure CS where
  term : Int
  slack : Int
  clocks : List Int
  calls : List (Int × Int)
  things : List Th
  prox : Int × Int → Int
  asked : Int × Int → Bool
  gone : Int × Int → Bool
  more : Int × Int → Bool
  waits : Int × Int → List Int
  fly : List Msg
inductive Role where
  | st | clocks | calls | things | on (i : Nat) | prox | asked | gone | more | waits | wait (k : Int × Int) | fly
  deriving DecidableEq
structure ThR where
  owner : Int
  holds : Bool
  out : Int
  heard : Int
  expired : Bool
  swept : Bool
  on : SL
structure Raw where
  b : Nat
  cl : SL
  ca : SL
  th : SL
  fl : SL
  mp : Nat
  ma : Nat
  mg : Nat
  mm : Nat
  mw : Nat
  ths : List ThR
  wts : Int × Int → SL
def slv (s : SL) : Value := .slice s.1 s.2.1 s.2.2
def eM (m : Msg) : List Value := [.int .i64 m.frm, .int .i64 m.to, .string m.kind, .int .i64 m.ent, .int .i64 m.n, .int .i64 0, .int .i64 0, .slice none 0 0]
def eT (t : ThR) : List Value := [.int .i64 t.owner, .bool t.holds, .int .i64 t.out, .int .i64 t.heard, .bool t.expired, .bool t.swept, slv t.on]
theorem eM_len (m : Msg) : (eM m).length = 8 := rfl
theorem eT_len (t : ThR) : (eT t).length = 7 := rfl
theorem eM_one (m : Msg) (u : Value) (h : u ∈ eM m) : u.oneCell' = true := by
  simp [eM] at h; rcases h with rfl | rfl | rfl | rfl | rfl | rfl | rfl <;> rfl
theorem eT_one (t : ThR) (u : Value) (h : u ∈ eT t) : u.oneCell' = true := by
  simp [eT, slv] at h; rcases h with rfl | rfl | rfl | rfl | rfl | rfl | rfl <;> rfl
theorem sltM : SlT Tryz.prog 34 40 8 88 := slOk.ok (by kernel_rfl : slOk Tryz.prog 34 40 8 88 = true)
theorem sltT : SlT Tryz.prog 67 78 7 64 := slOk.ok (by kernel_rfl : slOk Tryz.prog 67 78 7 64 = true)
theorem sltI : SlT Tryz.prog 43 3 1 8 := slOk.ok (by kernel_rfl : slOk Tryz.prog 43 3 1 8 = true)
theorem sltP : SlT Tryz.prog 48 93 2 16 := slOk.ok (by kernel_rfl : slOk Tryz.prog 48 93 2 16 = true)
def eB (b : Bool) : Value := .bool b
theorem keyK : KeyOk Tryz.prog 82 eK2 := pairOk.ok (by kernel_rfl : pairOk Tryz.prog 82 = true)
theorem mapI : MapT Tryz.prog 64 82 3 eK2 eK 0 := ⟨by kernel_rfl, keyK, fun w => by kernel_rfl⟩
theorem mapB : MapT Tryz.prog 65 82 4 eK2 eB false := ⟨by kernel_rfl, keyK, fun w => by kernel_rfl⟩
theorem mapL : MapT Tryz.prog 66 82 43 eK2 slv (none, 0, 0) := ⟨by kernel_rfl, keyK, fun w => by kernel_rfl⟩
def ThOk (own : OwnM Role) (w : World) (i : Nat) (r : ThR) (t : Th) : Prop :=
  (r.owner = t.owner ∧ r.holds = t.holds ∧ r.out = t.out ∧ r.heard = t.heard ∧ r.expired = t.expired ∧ r.swept = t.swept) ∧ RowR own (.on i) 3 1 eI w r.on t.on
structure CR (w : World) (own : OwnM Role) (r : Raw) (S : CS) : Prop where
  top : ∀ k, w.heap.size ≤ k → own k = none
  blk : Blk w r.b #[.bool true, .int .i64 S.term, .int .i64 S.slack, slv r.cl, slv r.ca, slv r.th, .map (some r.mp), .map (some r.ma), .map (some r.mg), .map (some r.mm), .map (some r.mw), slv r.fl] 69
  ob : own r.b = some .st
  clocks : RowR own .clocks 3 1 eI w r.cl S.clocks
  calls : RowR own .calls 93 2 eP w r.ca S.calls
  things : RowR own .things 78 7 eT w r.th r.ths
  thl : r.ths.length = S.things.length
  ths : ∀ i x t, r.ths[i]? = some x → S.things[i]? = some t → ThOk own w i x t
  prox : MapF eK2 eK 0 w r.mp S.prox
  op : own r.mp = some .prox
  asked : MapF eK2 eB false w r.ma S.asked
  oa : own r.ma = some .asked
  gone : MapF eK2 eB false w r.mg S.gone
  og : own r.mg = some .gone
  more : MapF eK2 eB false w r.mm S.more
  om : own r.mm = some .more
  waits : MapF eK2 slv (none, 0, 0) w r.mw r.wts
  ow : own r.mw = some .waits
  wts : ∀ k, RowT own (.wait k) 3 w (r.wts k) (S.waits k)
  fly : RowR own .fly 40 8 eM w r.fl S.fly
section
variable {w w' : World} {own own' : OwnM Role} {r : Raw} {S : CS}
theorem ThOk.upd {i : Nat} {x : ThR} {t : Th} {ρ : Role} (h : ThOk own w i x t) (u : Upd own own' ρ w w') (hne : Role.on i ≠ ρ) : ThOk own' w' i x t := ⟨h.1, h.2.upd u hne⟩
theorem CR.frame (h : CR w own r S) (hs : w.heap.size ≤ w'.heap.size) (k : ∀ b, b < w.heap.size → own b ≠ none → w'.heap[b]? = w.heap[b]?) : CR w' own r S where
  top := fun b hb => h.top b (Nat.le_trans hs hb)
  blk := (k r.b h.blk.lt (by rw [h.ob]; simp)).trans h.blk
  ob := h.ob
  clocks := h.clocks.frame k
  calls := h.calls.frame k
  things := h.things.frame k
  thl := h.thl
  ths := fun i x t hx ht => ⟨(h.ths i x t hx ht).1, (h.ths i x t hx ht).2.frame k⟩
  prox := h.prox.heap (k _ h.prox.lt (by rw [h.op]; simp))
  op := h.op
  asked := h.asked.heap (k _ h.asked.lt (by rw [h.oa]; simp))
  oa := h.oa
  gone := h.gone.heap (k _ h.gone.lt (by rw [h.og]; simp))
  og := h.og
  more := h.more.heap (k _ h.more.lt (by rw [h.om]; simp))
  om := h.om
  waits := h.waits.heap (k _ h.waits.lt (by rw [h.ow]; simp))
  ow := h.ow
  wts := fun b => (h.wts b).frame k
  fly := h.fly.frame k
theorem CR.ext (h : CR w own r S) (k : Ext w w') : CR w' own r S := h.frame k.size fun b hb _ => k.block b hb
theorem CR.cell (h : CR w own r S) (i : Nat) {v : Value} (hv : (#[.bool true, .int .i64 S.term, .int .i64 S.slack, slv r.cl, slv r.ca, slv r.th, .map (some r.mp), .map (some r.ma), .map (some r.mg), .map (some r.mm), .map (some r.mw), slv r.fl] : Array Value)[i]? = some v) :
    w.cell? ((⟨r.b, 0, none⟩ : Addr).add i) = some v := by rw [add_mk, Nat.zero_add, h.blk.cell]; exact hv
theorem CR.cell0 (h : CR w own r S) : w.cell? (⟨r.b, 0, none⟩ : Addr) = some (.bool true) := by rw [h.blk.cell]; rfl
def CS.send (S : CS) (m : Msg) : CS := { S with fly := S.fly ++ [m] }
def CS.setTh (S : CS) (i : Nat) (t : Th) : CS := { S with things := S.things.set i t }
theorem CR.thAt (h : CR w own r S) {i : Nat} (hi : i < S.things.length) : ∃ g l c x, r.th = (some ⟨g, 0, none⟩, l, c) ∧ own g = some .things ∧ g < w.heap.size ∧ r.ths[i]? = some x ∧ ThOk own w i x S.things[i] ∧
    ∀ j, j < 7 → w.cell? ⟨g, i * 7 + j, none⟩ = (eT x)[j]? := by
  have hi' : i < r.ths.length := by rw [h.thl]; exact hi
  obtain ⟨g, l, c, hs, ho, hg, hc⟩ := h.things.at_ eT_len hi'
  exact ⟨g, l, c, r.ths[i], hs, ho, hg, List.getElem?_eq_getElem hi', h.ths i _ _ (List.getElem?_eq_getElem hi') (List.getElem?_eq_getElem hi), hc⟩
theorem CR.thl2 (h : CR w own r S) : r.th.2.1 = S.things.length := by rw [h.things.len, h.thl]
theorem flat_set {α : Type} {enc : α → List Value} {sz : Nat} (he : ∀ x, (enc x).length = sz) {xs : List α} {i j : Nat} {x : α} {v : Value} (hi : i < xs.length) (hj : j < sz) (hx : enc x = (enc (xs[i])).set j v) :
    (xs.flatMap enc).set (i * sz + j) v = (xs.set i x).flatMap enc := by
  induction xs generalizing i with
  | nil => simp at hi
  | cons y ys ih =>
    cases i with
    | zero =>
      simp only [List.getElem_cons_zero] at hx
      rw [List.set_cons_zero, List.flatMap_cons, List.flatMap_cons, hx, Nat.zero_mul, Nat.zero_add, List.set_append_left _ _ (by rw [he]; exact hj)]
    | succ i =>
      simp only [List.getElem_cons_succ] at hx
      simp only [List.length_cons] at hi
      rw [List.set_cons_succ, List.flatMap_cons, List.flatMap_cons, ← ih (by omega) hx]
      have : (i + 1) * sz + j = (enc y).length + (i * sz + j) := by rw [he, Nat.succ_mul]; omega
      rw [this, List.set_append_right _ _ (by omega), Nat.add_sub_cancel_left]
theorem CR.setField (h : CR w own r S) {i j : Nat} {g l c : Nat} (hs : r.th = (some ⟨g, 0, none⟩, l, c)) (hi : i < S.things.length) (hj : j < 7) {x x' : ThR} {t' : Th} {v : Value} (hx : r.ths[i]? = some x) (hx' : eT x' = (eT x).set j v) (hon : x'.on = x.on)
    (ht : (x'.owner = t'.owner ∧ x'.holds = t'.holds ∧ x'.out = t'.out ∧ x'.heard = t'.heard ∧ x'.expired = t'.expired ∧ x'.swept = t'.swept) ∧ t'.on = S.things[i].on) {F : World → Prop}
    (k : ∀ w', CR w' own { r with ths := r.ths.set i x' } (S.setTh i t') → Upd own own .things w w' → F w') : SetK w ⟨g, i * 7 + j, none⟩ v F := by
  have hi' : i < r.ths.length := by rw [h.thl]; exact hi
  have hT := h.things
  rw [hs] at hT
  refine hT.set (ys := r.ths.set i x') (i * 7 + j) v (by have : (i + 1) * 7 ≤ r.ths.length * 7 := Nat.mul_le_mul_right _ hi'; omega) (by simp) (flat_set eT_len hi' hj (by
    rw [hx']; congr 1
    have := List.getElem?_eq_getElem hi'
    rw [hx] at this; cases this; rfl)) fun w' hr u => k w' ?_ u
  refine ⟨u.top h.top, h.blk.upd h.ob u (by simp), h.ob, h.clocks.upd u (by simp), h.calls.upd u (by simp), by show RowR _ _ _ _ _ _ r.th _; rw [hs]; exact hr, by simp [CS.setTh, h.thl], fun i2 x2 t2 hx2 ht2 => ?_,
    h.prox.upd h.op u (by simp), h.op, h.asked.upd h.oa u (by simp), h.oa, h.gone.upd h.og u (by simp), h.og, h.more.upd h.om u (by simp), h.om, h.waits.upd h.ow u (by simp), h.ow, fun k => (h.wts k).upd u (by simp), h.fly.upd u (by simp)⟩
  simp only [CS.setTh] at hx2 ht2
  rw [List.getElem?_set] at hx2 ht2
  by_cases hii : i = i2
  · subst hii
    rw [if_pos rfl, if_pos hi'] at hx2
    rw [if_pos rfl, if_pos hi] at ht2
    cases hx2; cases ht2
    have hold := h.ths i x _ hx (List.getElem?_eq_getElem hi)
    refine ⟨ht.1, ?_⟩
    rw [hon, ht.2]; exact hold.2.upd u (by simp)
  · rw [if_neg hii] at hx2 ht2
    exact (h.ths i2 x2 t2 hx2 ht2).upd u (by simp)
theorem setBlk {b : Nat} {cs : Array Value} {t : Nat} (hb : Blk w b cs t) (ho : own b = some .st) (i : Nat) (v : Value) (hi : i < cs.size) {F : World → Prop}
    (k : ∀ w', Blk w' b (cs.setIfInBounds i v) t → Upd own own Role.st w w' → F w') : SetK w ((⟨b, 0, none⟩ : Addr).add i) v F := by
  rw [add_mk, Nat.zero_add]
  exact SetK.mk hb hi fun w' h1 h2 => k w' h1 (Upd.of_but h2 ho)
theorem Upd.fr2 {ρ1 ρ2 : Role} {own2 : OwnM Role} {w2 : World} (h : Upd own own' ρ1 w w') (k : Upd own' own2 ρ2 w' w2) : Fr own own2 w w2 := h.fr.trans k.fr
end
end Go.Proofs.YtgggbmikmmljcaaGreat

namespace Go.Proofs.YtgggbmikmmljcaaGreat
open Go Go.V Go.Proofs
open Go.RowKit (Below)
section
variable {w w' w2 : World} {own own' : OwnM Role} {r : Raw} {S : CS}
theorem CR.newFly (h : CR w own r S) {s' : SL} {xs : List Msg} (u : Upd own own' .fly w w') (hr : RowR own' .fly 40 8 eM w' s' xs) (u2 : Upd own' own' .st w' w2) (hb : Blk w2 r.b #[.bool true, .int .i64 S.term, .int .i64 S.slack, slv r.cl, slv r.ca, slv r.th, .map (some r.mp), .map (some r.ma), .map (some r.mg), .map (some r.mm), .map (some r.mw), slv s'] 69) : CR w2 own' { r with fl := s' } { S with fly := xs } where
  top := (u2.top (u.top h.top))
  blk := hb
  ob := ((u2.same _ (Nat.lt_of_lt_of_le h.blk.lt u.size)).trans ((u.same _ h.blk.lt).trans h.ob))
  clocks := ((h.clocks.upd u (by simp)).upd u2 (by simp))
  calls := ((h.calls.upd u (by simp)).upd u2 (by simp))
  things := ((h.things.upd u (by simp)).upd u2 (by simp))
  thl := h.thl
  ths := fun i x t hx ht => (((h.ths i x t hx ht).upd u (by simp)).upd u2 (by simp))
  prox := ((h.prox.upd h.op u (by simp)).upd ((u.same _ h.prox.lt).trans h.op) u2 (by simp))
  op := ((u2.same _ (Nat.lt_of_lt_of_le h.prox.lt u.size)).trans ((u.same _ h.prox.lt).trans h.op))
  asked := ((h.asked.upd h.oa u (by simp)).upd ((u.same _ h.asked.lt).trans h.oa) u2 (by simp))
  oa := ((u2.same _ (Nat.lt_of_lt_of_le h.asked.lt u.size)).trans ((u.same _ h.asked.lt).trans h.oa))
  gone := ((h.gone.upd h.og u (by simp)).upd ((u.same _ h.gone.lt).trans h.og) u2 (by simp))
  og := ((u2.same _ (Nat.lt_of_lt_of_le h.gone.lt u.size)).trans ((u.same _ h.gone.lt).trans h.og))
  more := ((h.more.upd h.om u (by simp)).upd ((u.same _ h.more.lt).trans h.om) u2 (by simp))
  om := ((u2.same _ (Nat.lt_of_lt_of_le h.more.lt u.size)).trans ((u.same _ h.more.lt).trans h.om))
  waits := ((h.waits.upd h.ow u (by simp)).upd ((u.same _ h.waits.lt).trans h.ow) u2 (by simp))
  ow := ((u2.same _ (Nat.lt_of_lt_of_le h.waits.lt u.size)).trans ((u.same _ h.waits.lt).trans h.ow))
  wts := fun k => (((h.wts k).upd u (by simp)).upd u2 (by simp))
  fly := hr.upd u2 (by simp)
theorem CR.newCalls (h : CR w own r S) {s' : SL} {xs : List (Int × Int)} (u : Upd own own' .calls w w') (hr : RowR own' .calls 93 2 eP w' s' xs) (u2 : Upd own' own' .st w' w2) (hb : Blk w2 r.b #[.bool true, .int .i64 S.term, .int .i64 S.slack, slv r.cl, slv s', slv r.th, .map (some r.mp), .map (some r.ma), .map (some r.mg), .map (some r.mm), .map (some r.mw), slv r.fl] 69) : CR w2 own' { r with ca := s' } { S with calls := xs } where
  top := (u2.top (u.top h.top))
  blk := hb
  ob := ((u2.same _ (Nat.lt_of_lt_of_le h.blk.lt u.size)).trans ((u.same _ h.blk.lt).trans h.ob))
  clocks := ((h.clocks.upd u (by simp)).upd u2 (by simp))
  calls := hr.upd u2 (by simp)
  things := ((h.things.upd u (by simp)).upd u2 (by simp))
  thl := h.thl
  ths := fun i x t hx ht => (((h.ths i x t hx ht).upd u (by simp)).upd u2 (by simp))
  prox := ((h.prox.upd h.op u (by simp)).upd ((u.same _ h.prox.lt).trans h.op) u2 (by simp))
  op := ((u2.same _ (Nat.lt_of_lt_of_le h.prox.lt u.size)).trans ((u.same _ h.prox.lt).trans h.op))
  asked := ((h.asked.upd h.oa u (by simp)).upd ((u.same _ h.asked.lt).trans h.oa) u2 (by simp))
  oa := ((u2.same _ (Nat.lt_of_lt_of_le h.asked.lt u.size)).trans ((u.same _ h.asked.lt).trans h.oa))
  gone := ((h.gone.upd h.og u (by simp)).upd ((u.same _ h.gone.lt).trans h.og) u2 (by simp))
  og := ((u2.same _ (Nat.lt_of_lt_of_le h.gone.lt u.size)).trans ((u.same _ h.gone.lt).trans h.og))
  more := ((h.more.upd h.om u (by simp)).upd ((u.same _ h.more.lt).trans h.om) u2 (by simp))
  om := ((u2.same _ (Nat.lt_of_lt_of_le h.more.lt u.size)).trans ((u.same _ h.more.lt).trans h.om))
  waits := ((h.waits.upd h.ow u (by simp)).upd ((u.same _ h.waits.lt).trans h.ow) u2 (by simp))
  ow := ((u2.same _ (Nat.lt_of_lt_of_le h.waits.lt u.size)).trans ((u.same _ h.waits.lt).trans h.ow))
  wts := fun k => (((h.wts k).upd u (by simp)).upd u2 (by simp))
  fly := ((h.fly.upd u (by simp)).upd u2 (by simp))
theorem CR.newThing (h : CR w own r S) {s' : SL} {x : ThR} {t : Th} (u : Upd own own' .things w w') (hr : RowR own' .things 78 7 eT w' s' (r.ths ++ [x])) (u2 : Upd own' own' .st w' w2) (hb : Blk w2 r.b #[.bool true, .int .i64 S.term, .int .i64 S.slack, slv r.cl, slv r.ca, slv s', .map (some r.mp), .map (some r.ma), .map (some r.mg), .map (some r.mm), .map (some r.mw), slv r.fl] 69) (hx : ThOk own' w2 S.things.length x t) : CR w2 own' { r with th := s', ths := r.ths ++ [x] } { S with things := S.things ++ [t] } where
  top := (u2.top (u.top h.top))
  blk := hb
  ob := ((u2.same _ (Nat.lt_of_lt_of_le h.blk.lt u.size)).trans ((u.same _ h.blk.lt).trans h.ob))
  clocks := ((h.clocks.upd u (by simp)).upd u2 (by simp))
  calls := ((h.calls.upd u (by simp)).upd u2 (by simp))
  things := hr.upd u2 (by simp)
  thl := by simp [h.thl]
  ths := fun i y t2 hy ht => by
    rcases Nat.lt_or_ge i r.ths.length with hi | hi
    · rw [List.getElem?_append_left hi] at hy
      rw [List.getElem?_append_left (by rw [← h.thl]; exact hi)] at ht
      exact ((h.ths i y t2 hy ht).upd u (by simp)).upd u2 (by simp)
    · have hl : i = r.ths.length := by have := (List.getElem?_eq_some_iff.1 hy).1; simp at this; omega
      subst hl
      rw [List.getElem?_append_right (Nat.le_refl _), Nat.sub_self] at hy
      rw [h.thl, List.getElem?_append_right (Nat.le_refl _), Nat.sub_self] at ht
      simp at hy ht; subst hy; subst ht
      rw [h.thl]; exact hx
  prox := ((h.prox.upd h.op u (by simp)).upd ((u.same _ h.prox.lt).trans h.op) u2 (by simp))
  op := ((u2.same _ (Nat.lt_of_lt_of_le h.prox.lt u.size)).trans ((u.same _ h.prox.lt).trans h.op))
  asked := ((h.asked.upd h.oa u (by simp)).upd ((u.same _ h.asked.lt).trans h.oa) u2 (by simp))
  oa := ((u2.same _ (Nat.lt_of_lt_of_le h.asked.lt u.size)).trans ((u.same _ h.asked.lt).trans h.oa))
  gone := ((h.gone.upd h.og u (by simp)).upd ((u.same _ h.gone.lt).trans h.og) u2 (by simp))
  og := ((u2.same _ (Nat.lt_of_lt_of_le h.gone.lt u.size)).trans ((u.same _ h.gone.lt).trans h.og))
  more := ((h.more.upd h.om u (by simp)).upd ((u.same _ h.more.lt).trans h.om) u2 (by simp))
  om := ((u2.same _ (Nat.lt_of_lt_of_le h.more.lt u.size)).trans ((u.same _ h.more.lt).trans h.om))
  waits := ((h.waits.upd h.ow u (by simp)).upd ((u.same _ h.waits.lt).trans h.ow) u2 (by simp))
  ow := ((u2.same _ (Nat.lt_of_lt_of_le h.waits.lt u.size)).trans ((u.same _ h.waits.lt).trans h.ow))
  wts := fun k => (((h.wts k).upd u (by simp)).upd u2 (by simp))
  fly := ((h.fly.upd u (by simp)).upd u2 (by simp))
theorem CR.newProx (h : CR w own r S) {f : Int × Int → Int} (u : Upd own own .prox w w') (hm : MapF eK2 eK 0 w' r.mp f) : CR w' own r { S with prox := f } where
  top := (u.top h.top)
  blk := (Blk.upd h.blk h.ob u (by simp))
  ob := ((u.same _ h.blk.lt).trans h.ob)
  clocks := (h.clocks.upd u (by simp))
  calls := (h.calls.upd u (by simp))
  things := (h.things.upd u (by simp))
  thl := h.thl
  ths := fun i x t hx ht => ((h.ths i x t hx ht).upd u (by simp))
  prox := hm
  op := ((u.same _ h.prox.lt).trans h.op)
  asked := (h.asked.upd h.oa u (by simp))
  oa := ((u.same _ h.asked.lt).trans h.oa)
  gone := (h.gone.upd h.og u (by simp))
  og := ((u.same _ h.gone.lt).trans h.og)
  more := (h.more.upd h.om u (by simp))
  om := ((u.same _ h.more.lt).trans h.om)
  waits := (h.waits.upd h.ow u (by simp))
  ow := ((u.same _ h.waits.lt).trans h.ow)
  wts := fun k => ((h.wts k).upd u (by simp))
  fly := (h.fly.upd u (by simp))
theorem CR.newAsked (h : CR w own r S) {f : Int × Int → Bool} (u : Upd own own .asked w w') (hm : MapF eK2 eB false w' r.ma f) : CR w' own r { S with asked := f } where
  top := (u.top h.top)
  blk := (Blk.upd h.blk h.ob u (by simp))
  ob := ((u.same _ h.blk.lt).trans h.ob)
  clocks := (h.clocks.upd u (by simp))
  calls := (h.calls.upd u (by simp))
  things := (h.things.upd u (by simp))
  thl := h.thl
  ths := fun i x t hx ht => ((h.ths i x t hx ht).upd u (by simp))
  prox := (h.prox.upd h.op u (by simp))
  op := ((u.same _ h.prox.lt).trans h.op)
  asked := hm
  oa := ((u.same _ h.asked.lt).trans h.oa)
  gone := (h.gone.upd h.og u (by simp))
  og := ((u.same _ h.gone.lt).trans h.og)
  more := (h.more.upd h.om u (by simp))
  om := ((u.same _ h.more.lt).trans h.om)
  waits := (h.waits.upd h.ow u (by simp))
  ow := ((u.same _ h.waits.lt).trans h.ow)
  wts := fun k => ((h.wts k).upd u (by simp))
  fly := (h.fly.upd u (by simp))
theorem CR.newGone (h : CR w own r S) {f : Int × Int → Bool} (u : Upd own own .gone w w') (hm : MapF eK2 eB false w' r.mg f) : CR w' own r { S with gone := f } where
  top := (u.top h.top)
  blk := (Blk.upd h.blk h.ob u (by simp))
  ob := ((u.same _ h.blk.lt).trans h.ob)
  clocks := (h.clocks.upd u (by simp))
  calls := (h.calls.upd u (by simp))
  things := (h.things.upd u (by simp))
  thl := h.thl
  ths := fun i x t hx ht => ((h.ths i x t hx ht).upd u (by simp))
  prox := (h.prox.upd h.op u (by simp))
  op := ((u.same _ h.prox.lt).trans h.op)
  asked := (h.asked.upd h.oa u (by simp))
  oa := ((u.same _ h.asked.lt).trans h.oa)
  gone := hm
  og := ((u.same _ h.gone.lt).trans h.og)
  more := (h.more.upd h.om u (by simp))
  om := ((u.same _ h.more.lt).trans h.om)
  waits := (h.waits.upd h.ow u (by simp))
  ow := ((u.same _ h.waits.lt).trans h.ow)
  wts := fun k => ((h.wts k).upd u (by simp))
  fly := (h.fly.upd u (by simp))
theorem CR.newMore (h : CR w own r S) {f : Int × Int → Bool} (u : Upd own own .more w w') (hm : MapF eK2 eB false w' r.mm f) : CR w' own r { S with more := f } where
  top := (u.top h.top)
  blk := (Blk.upd h.blk h.ob u (by simp))
  ob := ((u.same _ h.blk.lt).trans h.ob)
  clocks := (h.clocks.upd u (by simp))
  calls := (h.calls.upd u (by simp))
  things := (h.things.upd u (by simp))
  thl := h.thl
  ths := fun i x t hx ht => ((h.ths i x t hx ht).upd u (by simp))
  prox := (h.prox.upd h.op u (by simp))
  op := ((u.same _ h.prox.lt).trans h.op)
  asked := (h.asked.upd h.oa u (by simp))
  oa := ((u.same _ h.asked.lt).trans h.oa)
  gone := (h.gone.upd h.og u (by simp))
  og := ((u.same _ h.gone.lt).trans h.og)
  more := hm
  om := ((u.same _ h.more.lt).trans h.om)
  waits := (h.waits.upd h.ow u (by simp))
  ow := ((u.same _ h.waits.lt).trans h.ow)
  wts := fun k => ((h.wts k).upd u (by simp))
  fly := (h.fly.upd u (by simp))
theorem CR.newWaits (h : CR w own r S) {k : Int × Int} {s' : SL} {xs : List Int} (u : Upd own own' (.wait k) w w') (hr : RowT own' (.wait k) 3 w' s' xs) (u2 : Upd own' own' .waits w' w2) (hm : MapF eK2 slv (none, 0, 0) w2 r.mw (Go.V.upd r.wts k s')) :
    CR w2 own' { r with wts := Go.V.upd r.wts k s' } { S with waits := Go.V.upd S.waits k xs } where
  top := (u2.top (u.top h.top))
  blk := (Blk.upd (Blk.upd h.blk h.ob u (by simp)) ((u.same _ h.blk.lt).trans h.ob) u2 (by simp))
  ob := ((u2.same _ (Nat.lt_of_lt_of_le h.blk.lt u.size)).trans ((u.same _ h.blk.lt).trans h.ob))
  clocks := ((h.clocks.upd u (by simp)).upd u2 (by simp))
  calls := ((h.calls.upd u (by simp)).upd u2 (by simp))
  things := ((h.things.upd u (by simp)).upd u2 (by simp))
  thl := h.thl
  ths := fun i x t hx ht => (((h.ths i x t hx ht).upd u (by simp)).upd u2 (by simp))
  prox := ((h.prox.upd h.op u (by simp)).upd ((u.same _ h.prox.lt).trans h.op) u2 (by simp))
  op := ((u2.same _ (Nat.lt_of_lt_of_le h.prox.lt u.size)).trans ((u.same _ h.prox.lt).trans h.op))
  asked := ((h.asked.upd h.oa u (by simp)).upd ((u.same _ h.asked.lt).trans h.oa) u2 (by simp))
  oa := ((u2.same _ (Nat.lt_of_lt_of_le h.asked.lt u.size)).trans ((u.same _ h.asked.lt).trans h.oa))
  gone := ((h.gone.upd h.og u (by simp)).upd ((u.same _ h.gone.lt).trans h.og) u2 (by simp))
  og := ((u2.same _ (Nat.lt_of_lt_of_le h.gone.lt u.size)).trans ((u.same _ h.gone.lt).trans h.og))
  more := ((h.more.upd h.om u (by simp)).upd ((u.same _ h.more.lt).trans h.om) u2 (by simp))
  om := ((u2.same _ (Nat.lt_of_lt_of_le h.more.lt u.size)).trans ((u.same _ h.more.lt).trans h.om))
  waits := hm
  ow := ((u2.same _ (Nat.lt_of_lt_of_le h.waits.lt u.size)).trans ((u.same _ h.waits.lt).trans h.ow))
  wts := fun k2 => by
    show RowT own' (.wait k2) _ _ (Go.V.upd r.wts k s' k2) (Go.V.upd S.waits k xs k2)
    unfold Go.V.upd
    by_cases hk : k2 = k
    · subst hk; rw [if_pos rfl, if_pos rfl]; exact hr.upd u2 (by simp)
    · rw [if_neg hk, if_neg hk]; exact ((h.wts k2).upd u (by simpa using hk)).upd u2 (by simp)
  fly := ((h.fly.upd u (by simp)).upd u2 (by simp))
theorem CR.newClocks (h : CR w own r S) {xs : List Int} (u : Upd own own .clocks w w') (hr : RowR own .clocks 3 1 eI w' r.cl xs) : CR w' own r { S with clocks := xs } where
  top := (u.top h.top)
  blk := (Blk.upd h.blk h.ob u (by simp))
  ob := ((u.same _ h.blk.lt).trans h.ob)
  clocks := hr
  calls := (h.calls.upd u (by simp))
  things := (h.things.upd u (by simp))
  thl := h.thl
  ths := fun i x t hx ht => ((h.ths i x t hx ht).upd u (by simp))
  prox := (h.prox.upd h.op u (by simp))
  op := ((u.same _ h.prox.lt).trans h.op)
  asked := (h.asked.upd h.oa u (by simp))
  oa := ((u.same _ h.asked.lt).trans h.oa)
  gone := (h.gone.upd h.og u (by simp))
  og := ((u.same _ h.gone.lt).trans h.og)
  more := (h.more.upd h.om u (by simp))
  om := ((u.same _ h.more.lt).trans h.om)
  waits := (h.waits.upd h.ow u (by simp))
  ow := ((u.same _ h.waits.lt).trans h.ow)
  wts := fun k => ((h.wts k).upd u (by simp))
  fly := (h.fly.upd u (by simp))
theorem CR.newCalls0 (h : CR w own r S) {xs : List (Int × Int)} (u : Upd own own .calls w w') (hr : RowR own .calls 93 2 eP w' r.ca xs) : CR w' own r { S with calls := xs } where
  top := (u.top h.top)
  blk := (Blk.upd h.blk h.ob u (by simp))
  ob := ((u.same _ h.blk.lt).trans h.ob)
  clocks := (h.clocks.upd u (by simp))
  calls := hr
  things := (h.things.upd u (by simp))
  thl := h.thl
  ths := fun i x t hx ht => ((h.ths i x t hx ht).upd u (by simp))
  prox := (h.prox.upd h.op u (by simp))
  op := ((u.same _ h.prox.lt).trans h.op)
  asked := (h.asked.upd h.oa u (by simp))
  oa := ((u.same _ h.asked.lt).trans h.oa)
  gone := (h.gone.upd h.og u (by simp))
  og := ((u.same _ h.gone.lt).trans h.og)
  more := (h.more.upd h.om u (by simp))
  om := ((u.same _ h.more.lt).trans h.om)
  waits := (h.waits.upd h.ow u (by simp))
  ow := ((u.same _ h.waits.lt).trans h.ow)
  wts := fun k => ((h.wts k).upd u (by simp))
  fly := (h.fly.upd u (by simp))
theorem CR.newOn (h : CR w own r S) {i : Nat} {x : ThR} {t : Th} {s' : SL} {ys : List Int} (hx : r.ths[i]? = some x) (ht : S.things[i]? = some t) (u : Upd own own' (.on i) w w') (hr : RowR own' (.on i) 3 1 eI w' s' ys) (u2 : Upd own' own' .things w' w2)
    (hT : RowR own' .things 78 7 eT w2 r.th (r.ths.set i { x with on := s' })) : CR w2 own' { r with ths := r.ths.set i { x with on := s' } } { S with things := S.things.set i { t with on := ys } } where
  top := (u2.top (u.top h.top))
  blk := (Blk.upd (Blk.upd h.blk h.ob u (by simp)) ((u.same _ h.blk.lt).trans h.ob) u2 (by simp))
  ob := ((u2.same _ (Nat.lt_of_lt_of_le h.blk.lt u.size)).trans ((u.same _ h.blk.lt).trans h.ob))
  clocks := ((h.clocks.upd u (by simp)).upd u2 (by simp))
  calls := ((h.calls.upd u (by simp)).upd u2 (by simp))
  things := hT
  thl := by simp [h.thl]
  ths := fun i2 x2 t2 hx2 ht2 => by
    simp only [List.getElem?_set] at hx2 ht2
    by_cases hii : i = i2
    · subst hii
      rw [if_pos rfl, if_pos (List.getElem?_eq_some_iff.1 hx).1] at hx2
      rw [if_pos rfl, if_pos (List.getElem?_eq_some_iff.1 ht).1] at ht2
      cases hx2; cases ht2
      exact ⟨(h.ths i x t hx ht).1, hr.upd u2 (by simp)⟩
    · rw [if_neg hii] at hx2 ht2
      exact ((h.ths i2 x2 t2 hx2 ht2).upd u (by simpa using fun e => hii e.symm)).upd u2 (by simp)
  prox := ((h.prox.upd h.op u (by simp)).upd ((u.same _ h.prox.lt).trans h.op) u2 (by simp))
  op := ((u2.same _ (Nat.lt_of_lt_of_le h.prox.lt u.size)).trans ((u.same _ h.prox.lt).trans h.op))
  asked := ((h.asked.upd h.oa u (by simp)).upd ((u.same _ h.asked.lt).trans h.oa) u2 (by simp))
  oa := ((u2.same _ (Nat.lt_of_lt_of_le h.asked.lt u.size)).trans ((u.same _ h.asked.lt).trans h.oa))
  gone := ((h.gone.upd h.og u (by simp)).upd ((u.same _ h.gone.lt).trans h.og) u2 (by simp))
  og := ((u2.same _ (Nat.lt_of_lt_of_le h.gone.lt u.size)).trans ((u.same _ h.gone.lt).trans h.og))
  more := ((h.more.upd h.om u (by simp)).upd ((u.same _ h.more.lt).trans h.om) u2 (by simp))
  om := ((u2.same _ (Nat.lt_of_lt_of_le h.more.lt u.size)).trans ((u.same _ h.more.lt).trans h.om))
  waits := ((h.waits.upd h.ow u (by simp)).upd ((u.same _ h.waits.lt).trans h.ow) u2 (by simp))
  ow := ((u2.same _ (Nat.lt_of_lt_of_le h.waits.lt u.size)).trans ((u.same _ h.waits.lt).trans h.ow))
  wts := fun k => (((h.wts k).upd u (by simp)).upd u2 (by simp))
  fly := ((h.fly.upd u (by simp)).upd u2 (by simp))
end
end Go.Proofs.YtgggbmikmmljcaaGreat

namespace Go.Proofs.YtgggbmikmmljcaaGreat
open Go Go.V Go.Proofs
open Go.RowKit (Below)
/-! (*manystrand/count.Count).none -/
def N21 (o1 : Option Addr) (K : Bool → World → Prop) (w : World) : Prop :=
 BoolK o1.isNone
 (K true w)
 (AddrK o1 fun b2 =>
 ∃ (p3 : Bool), w.cell? b2 = some (.bool p3) ∧
 (K (!p3) w))
def ann21 : Ann := (.two .nil (.two .nil .nil))
noncomputable def code21 : Code := match Tryz.f21.body with | some c => c | none => .skip
theorem wp21 (o1 : Option Addr) (K : Bool → World → Prop) (w : World) : WP Tryz.prog tab code21 ann21 (fnQ tab Tryz.f21.results.toList [(.one .bool)] K) (argE 0 [(.pointer o1)]) w = N21 o1 K w := by kernel_rfl
theorem calls21 (o1 : Option Addr) (K : Bool → World → Prop) (w : World) (h : N21 o1 K w) : Calls Tryz.prog 21 #[(.pointer o1)] w fun en w' => ∃ (p4 : Bool), en = .returned (.bool p4) ∧ K p4 w' :=
 have e : (fun en w' => ExShs [(.one .bool)] fun vs => en = .returned (tupled vs) ∧ ap [(.one .bool)] K vs fun p => p w') = (fun (en : Ending) (w' : World) => ∃ (p4 : Bool), en = .returned (.bool p4) ∧ K p4 w') := by kernel_rfl
 e ▸ fn_sound tabOk mixed Tryz.func21 (by kernel_rfl : Tryz.f21.body = some code21) ann21 [(.pointer o1)] [(.one .bool)] K w (by kernel_rfl) ((wp21 o1 K w).symm ▸ h)
end Go.Proofs.YtgggbmikmmljcaaGreat

namespace Go.Proofs.YtgggbmikmmljcaaGreat
open Go Go.V Go.Proofs
open Go.RowKit (Below)
/-! (*manystrand/count.Count).isSite -/
def N53 (o1 : Option Addr) (x2 : Int) (K : Bool → World → Prop) (w : World) : Prop :=
 BoolK (decide ((x2 : Int) ≥ 0))
 (AddrK o1 fun b3 =>
 ∃ (a4 : Option Addr) (l4 : Nat) (c4 : Nat), w.cell? (b3.add 3) = some (.slice a4 l4 c4) ∧
 (K (decide ((x2 : Int) < (l4 : Nat))) w))
 (K false w)
def ann53 : Ann := (.two .nil (.two .nil .nil))
noncomputable def code53 : Code := match Tryz.f53.body with | some c => c | none => .skip
theorem wp53 (o1 : Option Addr) (x2 : Int) (K : Bool → World → Prop) (w : World) : WP Tryz.prog tab code53 ann53 (fnQ tab Tryz.f53.results.toList [(.one .bool)] K) (argE 0 [(.pointer o1), (.int .i64 x2)]) w = N53 o1 x2 K w := by kernel_rfl
theorem calls53 (o1 : Option Addr) (x2 : Int) (K : Bool → World → Prop) (w : World) (h : N53 o1 x2 K w) : Calls Tryz.prog 53 #[(.pointer o1), (.int .i64 x2)] w fun en w' => ∃ (p5 : Bool), en = .returned (.bool p5) ∧ K p5 w' :=
 have e : (fun en w' => ExShs [(.one .bool)] fun vs => en = .returned (tupled vs) ∧ ap [(.one .bool)] K vs fun p => p w') = (fun (en : Ending) (w' : World) => ∃ (p5 : Bool), en = .returned (.bool p5) ∧ K p5 w') := by kernel_rfl
 e ▸ fn_sound tabOk mixed Tryz.func53 (by kernel_rfl : Tryz.f53.body = some code53) ann53 [(.pointer o1), (.int .i64 x2)] [(.one .bool)] K w (by kernel_rfl) ((wp53 o1 x2 K w).symm ▸ h)
end Go.Proofs.YtgggbmikmmljcaaGreat

namespace Go.Proofs.YtgggbmikmmljcaaGreat
open Go Go.V Go.Proofs
open Go.RowKit (Below)
/-! (*manystrand/count.Count).isThing -/
def N45 (o1 : Option Addr) (x2 : Int) (K : Bool → World → Prop) (w : World) : Prop :=
 BoolK (decide ((x2 : Int) ≥ 1))
 (AddrK o1 fun b3 =>
 ∃ (a4 : Option Addr) (l4 : Nat) (c4 : Nat), w.cell? (b3.add 5) = some (.slice a4 l4 c4) ∧
 (K (decide ((x2 : Int) ≤ (l4 : Nat))) w))
 (K false w)
def ann45 : Ann := (.two .nil (.two .nil .nil))
noncomputable def code45 : Code := match Tryz.f45.body with | some c => c | none => .skip
theorem wp45 (o1 : Option Addr) (x2 : Int) (K : Bool → World → Prop) (w : World) : WP Tryz.prog tab code45 ann45 (fnQ tab Tryz.f45.results.toList [(.one .bool)] K) (argE 0 [(.pointer o1), (.int .i64 x2)]) w = N45 o1 x2 K w := by kernel_rfl
theorem calls45 (o1 : Option Addr) (x2 : Int) (K : Bool → World → Prop) (w : World) (h : N45 o1 x2 K w) : Calls Tryz.prog 45 #[(.pointer o1), (.int .i64 x2)] w fun en w' => ∃ (p5 : Bool), en = .returned (.bool p5) ∧ K p5 w' :=
 have e : (fun en w' => ExShs [(.one .bool)] fun vs => en = .returned (tupled vs) ∧ ap [(.one .bool)] K vs fun p => p w') = (fun (en : Ending) (w' : World) => ∃ (p5 : Bool), en = .returned (.bool p5) ∧ K p5 w') := by kernel_rfl
 e ▸ fn_sound tabOk mixed Tryz.func45 (by kernel_rfl : Tryz.f45.body = some code45) ann45 [(.pointer o1), (.int .i64 x2)] [(.one .bool)] K w (by kernel_rfl) ((wp45 o1 x2 K w).symm ▸ h)
end Go.Proofs.YtgggbmikmmljcaaGreat

namespace Go.Proofs.YtgggbmikmmljcaaGreat
open Go Go.V Go.Proofs
open Go.RowKit (Below)
/-! (*manystrand/count.Count).at -/
def N44 (o1 : Option Addr) (x2 : Int) (K : Option Addr → World → Prop) (w : World) : Prop :=
 AddrK o1 fun b3 =>
 ∃ (a4 : Option Addr) (l4 : Nat) (c4 : Nat), w.cell? (b3.add 5) = some (.slice a4 l4 c4) ∧
 ((0 ≤ (IntKind.wrap .i64 (x2 - 1) : Int) ∧ (IntKind.wrap .i64 (x2 - 1) : Int) < (l4 : Nat)) ∧
 AddrK a4 fun b5 =>
 K (some (b5.add ((IntKind.wrap .i64 (x2 - 1) : Int).toNat * 7))) w)
def ann44 : Ann := (.two .nil (.two .nil .nil))
noncomputable def code44 : Code := match Tryz.f44.body with | some c => c | none => .skip
theorem wp44 (o1 : Option Addr) (x2 : Int) (K : Option Addr → World → Prop) (w : World) : WP Tryz.prog tab code44 ann44 (fnQ tab Tryz.f44.results.toList [(.one .ptr)] K) (argE 0 [(.pointer o1), (.int .i64 x2)]) w = N44 o1 x2 K w := by kernel_rfl
theorem calls44 (o1 : Option Addr) (x2 : Int) (K : Option Addr → World → Prop) (w : World) (h : N44 o1 x2 K w) : Calls Tryz.prog 44 #[(.pointer o1), (.int .i64 x2)] w fun en w' => ∃ (o6 : Option Addr), en = .returned (.pointer o6) ∧ K o6 w' :=
 have e : (fun en w' => ExShs [(.one .ptr)] fun vs => en = .returned (tupled vs) ∧ ap [(.one .ptr)] K vs fun p => p w') = (fun (en : Ending) (w' : World) => ∃ (o6 : Option Addr), en = .returned (.pointer o6) ∧ K o6 w') := by kernel_rfl
 e ▸ fn_sound tabOk mixed Tryz.func44 (by kernel_rfl : Tryz.f44.body = some code44) ann44 [(.pointer o1), (.int .i64 x2)] [(.one .ptr)] K w (by kernel_rfl) ((wp44 o1 x2 K w).symm ▸ h)
end Go.Proofs.YtgggbmikmmljcaaGreat

namespace Go.Proofs.YtgggbmikmmljcaaGreat
open Go Go.V Go.Proofs
open Go.RowKit (Below)
/-! (*manystrand/count.Count).usable -/
def N43 (o1 : Option Addr) (x2 : Int) (a3 : Option Addr) (l3 : Nat) (_c3 : Nat) (K : Int → World → Prop) (w : World) : Prop :=
 Calls Tryz.prog 21 #[(.pointer o1)] w fun e6 w5 =>
 ∃ (p4 : Bool), e6 = .returned (.bool p4) ∧
 (BoolK p4
 (K 7 w5)
 (∃ (I7 : Int → World → Prop) (μ8 : Int → World → Nat),
 (I7 0 w5 ∧ True) ∧
 ∀ (w9 : World) (x10 : Int), I7 x10 w9 →
 BoolK (decide ((x10 : Int) < (l3 : Nat)))
 ((0 ≤ (x10 : Int) ∧ (x10 : Int) < (l3 : Nat)) ∧
 AddrK a3 fun b11 =>
 ∃ (x12 : Int), w9.cell? (b11.add ((x10 : Int).toNat * 1)) = some (.int .i64 x12) ∧
 (Calls Tryz.prog 53 #[(.pointer o1), (.int .i64 x12)] w9 fun e15 w14 =>
 ∃ (p13 : Bool), e15 = .returned (.bool p13) ∧
 (BoolK (!p13)
 (K 2 w14)
 (I7 (IntKind.wrap .i64 (x10 + 1)) w14 ∧ μ8 (IntKind.wrap .i64 (x10 + 1)) w14 < μ8 x10 w9))))
 (Calls Tryz.prog 45 #[(.pointer o1), (.int .i64 x2)] w9 fun e18 w17 =>
 ∃ (p16 : Bool), e18 = .returned (.bool p16) ∧
 (BoolK (!p16)
 (K 5 w17)
 (K 0 w17)))))
def ann43 : Ann := (.two .nil (.two (.two .nil (.two (.two .nil .nil) .nil)) (.two (.two .nil (.one (.loop [(13, (.one (.int .i64)))] [0, 1, 11, 12] (.two .nil (.two (.two .nil .nil) (.two (.one (.two .nil (.two .nil (.two (.two .nil .nil) .nil)))) .nil)))))) (.two (.two .nil (.two (.two .nil .nil) .nil)) (.two .nil .nil)))))
noncomputable def code43 : Code := match Tryz.f43.body with | some c => c | none => .skip
theorem wp43 (o1 : Option Addr) (x2 : Int) (a3 : Option Addr) (l3 : Nat) (c3 : Nat) (K : Int → World → Prop) (w : World) : WP Tryz.prog tab code43 ann43 (fnQ tab Tryz.f43.results.toList [(.one (.int .i64))] K) (argE 0 [(.pointer o1), (.int .i64 x2), (.slice a3 l3 c3)]) w = N43 o1 x2 a3 l3 c3 K w := by kernel_rfl
theorem calls43 (o1 : Option Addr) (x2 : Int) (a3 : Option Addr) (l3 : Nat) (c3 : Nat) (K : Int → World → Prop) (w : World) (h : N43 o1 x2 a3 l3 c3 K w) : Calls Tryz.prog 43 #[(.pointer o1), (.int .i64 x2), (.slice a3 l3 c3)] w fun en w' => ∃ (x19 : Int), en = .returned (.int .i64 x19) ∧ K x19 w' :=
 have e : (fun en w' => ExShs [(.one (.int .i64))] fun vs => en = .returned (tupled vs) ∧ ap [(.one (.int .i64))] K vs fun p => p w') = (fun (en : Ending) (w' : World) => ∃ (x19 : Int), en = .returned (.int .i64 x19) ∧ K x19 w') := by kernel_rfl
 e ▸ fn_sound tabOk mixed Tryz.func43 (by kernel_rfl : Tryz.f43.body = some code43) ann43 [(.pointer o1), (.int .i64 x2), (.slice a3 l3 c3)] [(.one (.int .i64))] K w (by kernel_rfl) ((wp43 o1 x2 a3 l3 c3 K w).symm ▸ h)
end Go.Proofs.YtgggbmikmmljcaaGreat

namespace Go.Proofs.YtgggbmikmmljcaaGreat
open Go Go.V Go.Proofs
open Go.RowKit (Below)
/-! (*manystrand/count.Count).send -/
def N48 (o1 : Option Addr) (x2 : Int) (x3 : Int) (s4 : ByteArray) (x5 : Int) (x6 : Int) (K : World → Prop) (w : World) : Prop :=
 AddrK o1 fun b7 =>
 ∃ (a8 : Option Addr) (l8 : Nat) (c8 : Nat), w.cell? (b7.add 11) = some (.slice a8 l8 c8) ∧
 (AllocK w (#[(.int .i64 x2), (.int .i64 x3), (.string s4), (.int .i64 x5), (.int .i64 x6), (.int .i64 0), (.int .i64 0), (.slice none 0 0)]) 40 fun b9 w10 =>
 ∃ (a11 : Option Addr), ∃ (l11 : Nat), ∃ (c11 : Nat), ∃ (w12 : World), Sem.run Tryz.prog (Builtin.append_ #[34, 34] 34 #[(.slice a8 l8 c8), (.slice (some b9) 1 1)]) w10 = .ok (.slice a11 l11 c11) w12 ∧
 (AddrK o1 fun b13 =>
 SetK w12 (b13.add 11) (.slice a11 l11 c11) fun w14 =>
 K w14))
def ann48 : Ann := .nil
noncomputable def code48 : Code := match Tryz.f48.body with | some c => c | none => .skip
theorem wp48 (o1 : Option Addr) (x2 : Int) (x3 : Int) (s4 : ByteArray) (x5 : Int) (x6 : Int) (K : World → Prop) (w : World) : WP Tryz.prog tab code48 ann48 (fnQ tab Tryz.f48.results.toList [] K) (argE 0 [(.pointer o1), (.int .i64 x2), (.int .i64 x3), (.string s4), (.int .i64 x5), (.int .i64 x6)]) w = N48 o1 x2 x3 s4 x5 x6 K w := by kernel_rfl
theorem calls48 (o1 : Option Addr) (x2 : Int) (x3 : Int) (s4 : ByteArray) (x5 : Int) (x6 : Int) (K : World → Prop) (w : World) (h : N48 o1 x2 x3 s4 x5 x6 K w) : Calls Tryz.prog 48 #[(.pointer o1), (.int .i64 x2), (.int .i64 x3), (.string s4), (.int .i64 x5), (.int .i64 x6)] w fun en w' => en = .returned (.tuple #[]) ∧ K w' :=
 have e : (fun en w' => ExShs [] fun vs => en = .returned (tupled vs) ∧ ap [] K vs fun p => p w') = (fun (en : Ending) (w' : World) => en = .returned (.tuple #[]) ∧ K w') := by kernel_rfl
 e ▸ fn_sound tabOk mixed Tryz.func48 (by kernel_rfl : Tryz.f48.body = some code48) ann48 [(.pointer o1), (.int .i64 x2), (.int .i64 x3), (.string s4), (.int .i64 x5), (.int .i64 x6)] [] K w (by kernel_rfl) ((wp48 o1 x2 x3 s4 x5 x6 K w).symm ▸ h)
end Go.Proofs.YtgggbmikmmljcaaGreat

namespace Go.Proofs.YtgggbmikmmljcaaGreat
open Go Go.V Go.Proofs
open Go.RowKit (Below)
/-! (*manystrand/count.Count).give -/
def N49 (o1 : Option Addr) (x2 : Int) (s3 : ByteArray) (x4 : Int) (K : World → Prop) (w : World) : Prop :=
 Calls Tryz.prog 44 #[(.pointer o1), (.int .i64 x4)] w fun e7 w6 =>
 ∃ (o5 : Option Addr), e7 = .returned (.pointer o5) ∧
 (AddrK o5 fun b8 =>
 ∃ (x9 : Int), w6.cell? (b8.add 2) = some (.int .i64 x9) ∧
 (AddrK o5 fun b10 =>
 SetK w6 (b10.add 2) (.int .i64 (IntKind.wrap .i64 (x9 + 65536))) fun w11 =>
 DrewK w11 fun w12 =>
 AddrK o1 fun b13 =>
 ∃ (a14 : Option Addr) (l14 : Nat) (c14 : Nat), w12.cell? (b13.add 3) = some (.slice a14 l14 c14) ∧
 (AddrK o5 fun b15 =>
 ∃ (x16 : Int), w12.cell? b15 = some (.int .i64 x16) ∧
 ((0 ≤ (x16 : Int) ∧ (x16 : Int) < (l14 : Nat)) ∧
 AddrK a14 fun b17 =>
 ∃ (x18 : Int), w12.cell? (b17.add ((x16 : Int).toNat * 1)) = some (.int .i64 x18) ∧
 (AddrK o5 fun b19 =>
 SetK w12 (b19.add 3) (.int .i64 x18) fun w20 =>
 AddrK o5 fun b21 =>
 ∃ (x22 : Int), w20.cell? b21 = some (.int .i64 x22) ∧
 (Calls Tryz.prog 48 #[(.pointer o1), (.int .i64 x22), (.int .i64 x2), (.string s3), (.int .i64 x4), (.int .i64 65536)] w20 fun e24 w23 =>
 e24 = .returned (.tuple #[]) ∧
 (K w23)))))))
def ann49 : Ann := (.two .nil (.two .nil (.two (.any 13 (.take 0 (.take 1 (.take 2 (.take 3 (.take 4 (.take 5 (.take 6 (.take 7 (.take 8 (.take 9 (.take 10 (.take 11 (.take 12 .done)))))))))))))) .nil)))
noncomputable def code49 : Code := match Tryz.f49.body with | some c => c | none => .skip
theorem wp49 (o1 : Option Addr) (x2 : Int) (s3 : ByteArray) (x4 : Int) (K : World → Prop) (w : World) : WP Tryz.prog tab code49 ann49 (fnQ tab Tryz.f49.results.toList [] K) (argE 0 [(.pointer o1), (.int .i64 x2), (.string s3), (.int .i64 x4)]) w = N49 o1 x2 s3 x4 K w := by kernel_rfl
theorem calls49 (o1 : Option Addr) (x2 : Int) (s3 : ByteArray) (x4 : Int) (K : World → Prop) (w : World) (h : N49 o1 x2 s3 x4 K w) : Calls Tryz.prog 49 #[(.pointer o1), (.int .i64 x2), (.string s3), (.int .i64 x4)] w fun en w' => en = .returned (.tuple #[]) ∧ K w' :=
 have e : (fun en w' => ExShs [] fun vs => en = .returned (tupled vs) ∧ ap [] K vs fun p => p w') = (fun (en : Ending) (w' : World) => en = .returned (.tuple #[]) ∧ K w') := by kernel_rfl
 e ▸ fn_sound tabOk mixed Tryz.func49 (by kernel_rfl : Tryz.f49.body = some code49) ann49 [(.pointer o1), (.int .i64 x2), (.string s3), (.int .i64 x4)] [] K w (by kernel_rfl) ((wp49 o1 x2 s3 x4 K w).symm ▸ h)
end Go.Proofs.YtgggbmikmmljcaaGreat

namespace Go.Proofs.YtgggbmikmmljcaaGreat
open Go Go.V Go.Proofs
open Go.RowKit (Below)
/-! (*manystrand/count.Count).ask -/
def N62 (o1 : Option Addr) (x2 : Int) (x3 : Int) (K : World → Prop) (w : World) : Prop :=
 AllocK w (#[(.int .i64 x2), (.int .i64 x3)]) 82 fun b4 w5 =>
 DrewK w5 fun w6 =>
 AddrK o1 fun b7 =>
 ∃ (m8 : Option Nat), w6.cell? (b7.add 9) = some (.map m8) ∧
 (∃ (x9 : Int), w6.cell? (b4.add 0) = some (.int .i64 x9) ∧
 (∃ (x10 : Int), w6.cell? (b4.add 1) = some (.int .i64 x10) ∧
 (∃ (w11 : World), Sem.run Tryz.prog (Instr.mapUpdate 65 (.map m8) (.agg #[(.int .i64 x9), (.int .i64 x10)]) (.bool true)) w6 = .ok () w11 ∧
 (DrewK w11 fun w12 =>
 ∃ (x13 : Int), w12.cell? b4 = some (.int .i64 x13) ∧
 (∃ (x14 : Int), w12.cell? (b4.add 1) = some (.int .i64 x14) ∧
 (∃ (x15 : Int), w12.cell? (b4.add 1) = some (.int .i64 x15) ∧
 (Calls Tryz.prog 44 #[(.pointer o1), (.int .i64 x14)] w12 fun e18 w17 =>
 ∃ (o16 : Option Addr), e18 = .returned (.pointer o16) ∧
 (Cel w12 w17 ∧
 (AddrK o16 fun b19 =>
 ∃ (x20 : Int), w17.cell? b19 = some (.int .i64 x20) ∧
 (Cel w12 w17 ∧
 (Calls Tryz.prog 48 #[(.pointer o1), (.int .i64 x13), (.int .i64 x20), (.string (⟨#[109, 111, 114, 101]⟩ : ByteArray)), (.int .i64 x15), (.int .i64 0)] w17 fun e22 w21 =>
 e22 = .returned (.tuple #[]) ∧
 (K w21))))))))))))
def ann62 : Ann := (.two .nil (.two (.any 5 (.take 0 (.take 1 (.take 2 (.take 3 (.take 4 .done)))))) (.any 12 (.take 0 (.take 1 (.take 2 (.take 3 (.take 4 (.take 5 (.take 10 (.take 11 (.one 6 (.take 7 (.take 8 (.one 9 .done)))))))))))))))
noncomputable def code62 : Code := match Tryz.f62.body with | some c => c | none => .skip
theorem wp62 (o1 : Option Addr) (x2 : Int) (x3 : Int) (K : World → Prop) (w : World) : WP Tryz.prog tab code62 ann62 (fnQ tab Tryz.f62.results.toList [] K) (argE 0 [(.pointer o1), (.agg #[(.int .i64 x2), (.int .i64 x3)])]) w = N62 o1 x2 x3 K w := by kernel_rfl
theorem calls62 (o1 : Option Addr) (x2 : Int) (x3 : Int) (K : World → Prop) (w : World) (h : N62 o1 x2 x3 K w) : Calls Tryz.prog 62 #[(.pointer o1), (.agg #[(.int .i64 x2), (.int .i64 x3)])] w fun en w' => en = .returned (.tuple #[]) ∧ K w' :=
 have e : (fun en w' => ExShs [] fun vs => en = .returned (tupled vs) ∧ ap [] K vs fun p => p w') = (fun (en : Ending) (w' : World) => en = .returned (.tuple #[]) ∧ K w') := by kernel_rfl
 e ▸ fn_sound tabOk mixed Tryz.func62 (by kernel_rfl : Tryz.f62.body = some code62) ann62 [(.pointer o1), (.agg #[(.int .i64 x2), (.int .i64 x3)])] [] K w (by kernel_rfl) ((wp62 o1 x2 x3 K w).symm ▸ h)
end Go.Proofs.YtgggbmikmmljcaaGreat

namespace Go.Proofs.YtgggbmikmmljcaaGreat
open Go Go.V Go.Proofs
open Go.RowKit (Below)
/-! (*manystrand/count.Count).half -/
def N61 (o1 : Option Addr) (x2 : Int) (x3 : Int) (x4 : Int) (K : World → Prop) (w : World) : Prop :=
 AllocK w (#[(.int .i64 x2), (.int .i64 x3)]) 82 fun b5 w6 =>
 DrewK w6 fun w7 =>
 AddrK o1 fun b8 =>
 ∃ (m9 : Option Nat), w7.cell? (b8.add 6) = some (.map m9) ∧
 (∃ (x10 : Int), w7.cell? (b5.add 0) = some (.int .i64 x10) ∧
 (∃ (x11 : Int), w7.cell? (b5.add 1) = some (.int .i64 x11) ∧
 (∃ (x12 : Int), ∃ (w13 : World), Sem.run Tryz.prog (Instr.lookup 64 (.map m9) (.agg #[(.int .i64 x10), (.int .i64 x11)]) false) w7 = .ok (.int .i64 x12) w13 ∧
 (Cel w7 w13 ∧
 ((2 : Int) ≠ 0 ∧
 (∃ (J14 : World → Prop),
 (∀ (w15 : World), J14 w15 →
 ∃ (J16 : ByteArray → World → Prop),
 (∀ (w17 : World) (s18 : ByteArray), J16 s18 w17 →
 ∃ (x19 : Int), w17.cell? b5 = some (.int .i64 x19) ∧
 (∃ (x20 : Int), w17.cell? (b5.add 1) = some (.int .i64 x20) ∧
 (Calls Tryz.prog 48 #[(.pointer o1), (.int .i64 x19), (.int .i64 x4), (.string s18), (.int .i64 x20), (.int .i64 (IntKind.wrap .i64 ((x12 : Int).tdiv 2)))] w17 fun e22 w21 =>
 e22 = .returned (.tuple #[]) ∧
 (K w21)))) ∧
 (∃ (x23 : Int), w15.cell? (b5.add 1) = some (.int .i64 x23) ∧
 (Calls Tryz.prog 44 #[(.pointer o1), (.int .i64 x23)] w15 fun e26 w25 =>
 ∃ (o24 : Option Addr), e26 = .returned (.pointer o24) ∧
 (AddrK o24 fun b27 =>
 ∃ (x28 : Int), w25.cell? b27 = some (.int .i64 x28) ∧
 (BoolK ((x4 : Int) == x28)
 (J16 (⟨#[98, 97, 99, 107]⟩ : ByteArray) w25)
 (J16 (⟨#[112, 97, 115, 115]⟩ : ByteArray) w25)))))) ∧
 (DrewK w13 fun w29 =>
 AddrK o1 fun b30 =>
 ∃ (m31 : Option Nat), w29.cell? (b30.add 6) = some (.map m31) ∧
 (∃ (x32 : Int), w29.cell? (b5.add 0) = some (.int .i64 x32) ∧
 (∃ (x33 : Int), w29.cell? (b5.add 1) = some (.int .i64 x33) ∧
 ((∃ (x34 : Int), ∃ (w35 : World), Sem.run Tryz.prog (Instr.lookup 64 (.map m31) (.agg #[(.int .i64 x32), (.int .i64 x33)]) false) w29 = .ok (.int .i64 x34) w35 ∧
 (Cel w29 w35 ∧
 (∃ (x36 : Int), ∃ (x37 : Int), ∃ (w38 : World), Sem.run Tryz.prog (Instr.mapEntry 64 (.map m31) (.agg #[(.int .i64 x32), (.int .i64 x33)])) w35 = .ok (.tuple #[(.int .i64 x36), (.int .i64 x37)]) w38 ∧
 (Cel w29 w38 ∧
 (∃ (w39 : World), Sem.run Tryz.prog (Instr.entryStore 64 (.map m31) (.int .i64 x37) (.int .i64 (IntKind.wrap .i64 (x34 - (IntKind.wrap .i64 ((x12 : Int).tdiv 2)))))) w38 = .ok () w39 ∧
 (J14 w39)))))) ∧
 (∃ (x40 : Int), ∃ (x41 : Int), ∃ (w42 : World), Sem.run Tryz.prog (Instr.mapEntry 64 (.map m31) (.agg #[(.int .i64 x32), (.int .i64 x33)])) w29 = .ok (.tuple #[(.int .i64 x40), (.int .i64 x41)]) w42 ∧
 (Cel w29 w42 ∧
 (∃ (x43 : Int), ∃ (w44 : World), Sem.run Tryz.prog (Instr.lookup 64 (.map m31) (.agg #[(.int .i64 x32), (.int .i64 x33)]) false) w42 = .ok (.int .i64 x43) w44 ∧
 (Cel w29 w44 ∧
 (∃ (w45 : World), Sem.run Tryz.prog (Instr.entryStore 64 (.map m31) (.int .i64 x41) (.int .i64 (IntKind.wrap .i64 (x43 - (IntKind.wrap .i64 ((x12 : Int).tdiv 2)))))) w44 = .ok () w45 ∧
 (J14 w45))))))))))))))))
def ann61 : Ann := (.two .nil (.two (.any 8 (.take 0 (.take 1 (.take 2 (.take 3 (.take 4 (.one 5 (.take 6 (.take 7 .done))))))))) (.cut [] [0, 2, 4, 6] (.any 10 (.take 0 (.take 1 (.take 2 (.take 3 (.take 4 (.take 6 (.both 5 (.take 7 (.one 8 (.take 9 .done))) (.one 8 (.take 9 (.one 5 (.take 7 .done)))))))))))) (.two .nil (.cut [(7, (.one .str))] [0, 2, 4, 6] (.two .nil (.two .nil .nil)) .nil)))))
noncomputable def code61 : Code := match Tryz.f61.body with | some c => c | none => .skip
theorem wp61 (o1 : Option Addr) (x2 : Int) (x3 : Int) (x4 : Int) (K : World → Prop) (w : World) : WP Tryz.prog tab code61 ann61 (fnQ tab Tryz.f61.results.toList [] K) (argE 0 [(.pointer o1), (.agg #[(.int .i64 x2), (.int .i64 x3)]), (.int .i64 x4)]) w = N61 o1 x2 x3 x4 K w := by kernel_rfl
theorem calls61 (o1 : Option Addr) (x2 : Int) (x3 : Int) (x4 : Int) (K : World → Prop) (w : World) (h : N61 o1 x2 x3 x4 K w) : Calls Tryz.prog 61 #[(.pointer o1), (.agg #[(.int .i64 x2), (.int .i64 x3)]), (.int .i64 x4)] w fun en w' => en = .returned (.tuple #[]) ∧ K w' :=
 have e : (fun en w' => ExShs [] fun vs => en = .returned (tupled vs) ∧ ap [] K vs fun p => p w') = (fun (en : Ending) (w' : World) => en = .returned (.tuple #[]) ∧ K w') := by kernel_rfl
 e ▸ fn_sound tabOk mixed Tryz.func61 (by kernel_rfl : Tryz.f61.body = some code61) ann61 [(.pointer o1), (.agg #[(.int .i64 x2), (.int .i64 x3)]), (.int .i64 x4)] [] K w (by kernel_rfl) ((wp61 o1 x2 x3 x4 K w).symm ▸ h)
end Go.Proofs.YtgggbmikmmljcaaGreat

namespace Go.Proofs.YtgggbmikmmljcaaGreat
open Go Go.V Go.Proofs
open Go.RowKit (Below)
theorem MapF.cel {K V : Type} [DecidableEq K] {enc : K → Value} {encV : V → Value} {z : V} {w w' : World} {m : Nat} {f : K → V} (h : MapF enc encV z w m f) (k : But m w w') : Cel w w' := fun p v hp => by
  refine k.cell hp fun e => ?_
  obtain ⟨_, _, _, ⟨⟨es, h1, _⟩, _⟩, _⟩ := h
  unfold World.cell? at hp
  rw [e, h1] at hp; cases hp
theorem MapSt.mapF {K V : Type} [DecidableEq K] {enc : K → Value} {encV : V → Value} {z : V} {w : World} {m : Nat} {f : K → V} {a : K} {st : Nat} (h : MapSt enc encV z w m f a st) : MapF enc encV z w m f := by
  obtain ⟨l, bs, c, i, h1, h2, _⟩ := h; exact ⟨l, bs, c, h1, h2⟩
theorem blkAt2 {w : World} {b t : Nat} {v0 v1 : Value} (h : Blk w b #[v0, v1] t) : w.cell? ((⟨b, 0, none⟩ : Addr).add 0) = some v0 ∧ w.cell? ((⟨b, 0, none⟩ : Addr).add 1) = some v1 ∧ w.cell? (⟨b, 0, none⟩ : Addr) = some v0 := by
  exact ⟨by rw [add_mk, h.cell]; rfl, by rw [add_mk, h.cell]; rfl, by rw [h.cell]; rfl⟩
theorem setTwo {w : World} {b t : Nat} {z0 z1 v0 v1 : Value} {F : World → Prop} (hb : Blk w b #[z0, z1] t) (h : ∀ w', Blk w' b #[v0, v1] t → But b w w' → F w') :
    SetK w ((⟨b, 0, none⟩ : Addr).add 0) v0 fun w2 => SetK w2 ((⟨b, 0, none⟩ : Addr).add 1) v1 F := by
  rw [add_mk, add_mk]
  refine SetK.mk hb (by simp) fun w2 h2 g2 => SetK.mk h2 (by simp) fun w3 h3 g3 => h w3 (by simpa using h3) (g2.trans g3)
theorem keyBox {w : World} {z0 z1 v0 v1 : Value} {t : Nat} {F : Addr → World → Prop}
    (h : ∀ (b : Nat) (w' : World), b = w.heap.size → Blk w' b #[v0, v1] t → Ext w w' → F ⟨b, 0, none⟩ w') :
    AllocK w #[z0, z1] t fun b w1 => SetK w1 (b.add 0) v0 fun w2 => SetK w2 (b.add 1) v1 fun w3 => F b w3 := local2 h
def kAsk : ByteArray := ⟨#[97, 115, 107]⟩
def kMore : ByteArray := ⟨#[109, 111, 114, 101]⟩
def kGive : ByteArray := ⟨#[103, 105, 118, 101]⟩
def kPass : ByteArray := ⟨#[112, 97, 115, 115]⟩
def kBack : ByteArray := ⟨#[98, 97, 99, 107]⟩
def kRenew : ByteArray := ⟨#[114, 101, 110, 101, 119]⟩
def kGone : ByteArray := ⟨#[103, 111, 110, 101]⟩
def PostC (own : OwnM Role) (r : Raw) (w : World) (S' : CS) (w' : World) : Prop := ∃ own' r', CR w' own' r' S' ∧ Fr own own' w w' ∧ r'.b = r.b
section
variable {w : World} {own : OwnM Role} {r : Raw} {S : CS}
abbrev cp (r : Raw) : Value := .pointer (some ⟨r.b, 0, none⟩)
theorem c21 (h : CR w own r S) : Calls Tryz.prog 21 #[cp r] w fun en w' => ∃ p, en = .returned (.bool p) ∧ (p = false ∧ w' = w) := by
  refine calls21 _ _ w ?_
  exact ⟨_, h.cell0, rfl, rfl⟩
theorem c53 (h : CR w own r S) (x : Int) : Calls Tryz.prog 53 #[cp r, .int .i64 x] w fun en w' => ∃ p, en = .returned (.bool p) ∧ (p = decide (0 ≤ x ∧ x < S.clocks.length) ∧ w' = w) := by
  refine calls53 _ _ _ w ?_
  have hl := h.clocks.len
  refine BoolK.mk (fun t => ⟨_, _, _, h.cell 3 rfl, ?_, rfl⟩) (fun t => ⟨?_, rfl⟩)
  · simp at t; rw [decide_eq_decide]; omega
  · simp at t; symm; rw [decide_eq_false_iff_not]; omega
theorem c45 (h : CR w own r S) (x : Int) : Calls Tryz.prog 45 #[cp r, .int .i64 x] w fun en w' => ∃ p, en = .returned (.bool p) ∧ (p = decide (1 ≤ x ∧ x ≤ S.things.length) ∧ w' = w) := by
  refine calls45 _ _ _ w ?_
  have hl := h.thl2
  refine BoolK.mk (fun t => ⟨_, _, _, h.cell 5 rfl, ?_, rfl⟩) (fun t => ⟨?_, rfl⟩)
  · simp at t; rw [decide_eq_decide]; omega
  · simp at t; symm; rw [decide_eq_false_iff_not]; omega
def Raw.thp (r : Raw) (i : Nat) : Option Addr := match r.th.1 with | some a => some (a.add (i * 7)) | none => none
theorem c44 (h : CR w own r S) {x : Int} (h1 : 1 ≤ x) (h2 : x ≤ S.things.length) (hb : S.things.length ≤ 1000000000) : Calls Tryz.prog 44 #[cp r, .int .i64 x] w fun en w' => ∃ o, en = .returned (.pointer o) ∧ (o = r.thp (x - 1).toNat ∧ w' = w) := by
  refine calls44 _ _ _ w ?_
  obtain ⟨g, l, c, y, hs, ho, hg, hy, hok, hc⟩ := h.thAt (i := (x - 1).toNat) (by omega)
  have hl := h.thl2
  refine ⟨_, _, _, h.cell 5 rfl, ?_⟩
  rw [hs] at hl
  simp only [hs, AddrK] at hl ⊢
  rw [wrap_id (by omega) (by omega)]
  exact ⟨by omega, by rw [Raw.thp, hs], trivial⟩
def usableE (S : CS) (thing : Int) (sites : List Int) : Int := if sites.all (fun x => decide (0 ≤ x ∧ x < S.clocks.length)) then if 1 ≤ thing ∧ thing ≤ S.things.length then 0 else 5 else 2
theorem range_all {α : Type} {xs : List α} {p : α → Bool} {k : Nat} (hk : k < xs.length) : (xs.take (k + 1)).all p = ((xs.take k).all p && p xs[k]) := by
  rw [List.take_add_one, List.getElem?_eq_getElem hk, List.all_append]; simp
theorem all_no {α : Type} {xs : List α} {p : α → Bool} {k : Nat} (hk : k < xs.length) (h : p xs[k] = false) : xs.all p = false := by
  rw [Bool.eq_false_iff]; intro h2
  rw [List.all_eq_true] at h2
  have := h2 _ (List.getElem_mem hk); rw [h] at this; cases this
theorem intAt {w : World} {a : Option Addr} {l : Nat} {d : List Int} (h : Ints w a l d) (w' : World) (k : Ext w w') {i : Nat} (hi : i < d.length) :
    ∃ b o, a = some ⟨b, o, none⟩ ∧ w'.cell? ⟨b, o + i, none⟩ = some (.int .i64 d[i]) := by
  obtain ⟨b, o, ha, h0⟩ := (h.ext RInt.mono k).get hi
  exact ⟨b, o, ha, by simpa [RInt] using h0⟩
theorem c43 (h : CR w own r S) (x : Int) (a : Option Addr) (l c : Nat) (xs : List Int) (hx : Ints w a l xs) (hl : xs.length ≤ 1000000000) : Calls Tryz.prog 43 #[cp r, .int .i64 x, .slice a l c] w fun en w' => ∃ e, en = .returned (.int .i64 e) ∧ (e = usableE S x xs ∧ w' = w) := by
  refine calls43 _ _ _ _ _ _ w ?_
  have e1 := hx.1
  refine (c21 h).mono ?_
  rintro en w5 ⟨p, rfl, rfl, rfl⟩
  refine ⟨_, rfl, BoolK.mk (fun t => by cases t) (fun _ => ?_)⟩
  refine ⟨fun i w' => ∃ k : Nat, i = k ∧ k ≤ xs.length ∧ (xs.take k).all (fun x => decide (0 ≤ x ∧ x < S.clocks.length)) = true ∧ w' = w5, fun i _ => xs.length - i.toNat, ⟨⟨0, rfl, by omega, rfl, rfl⟩, trivial⟩, ?_⟩
  rintro w9 _ ⟨k, rfl, hk, hv, rfl⟩
  refine BoolK.mk (fun hlt => ?_) (fun hge => ?_)
  · have hlt : k < xs.length := by simp at hlt; omega
    obtain ⟨b, o, rfl, g⟩ := intAt hx w9 (Ext.refl _) hlt
    refine ⟨by omega, ?_⟩
    simp only [AddrK, Int.toNat_natCast, add_mk, Nat.mul_one]
    refine ⟨_, g, (c53 h xs[k]).mono ?_⟩
    rintro en w14 ⟨p, rfl, rfl, rfl⟩
    refine ⟨_, rfl, BoolK.mk (fun t => ⟨?_, rfl⟩) (fun t => ?_)⟩
    · simp only [Bool.not_eq_true'] at t
      rw [usableE, all_no (p := fun x => decide (0 ≤ x ∧ x < (S.clocks.length : Int))) hlt t]; rfl
    · simp only [Bool.not_eq_false'] at t
      rw [wrap_succ (by omega)]
      exact ⟨⟨k + 1, rfl, by omega, by rw [range_all hlt, hv, t]; rfl, rfl⟩, by simp; omega⟩
  · have : k = xs.length := by simp at hge; omega
    subst this
    rw [List.take_length] at hv
    refine (c45 h x).mono ?_
    rintro en w17 ⟨p, rfl, rfl, rfl⟩
    refine ⟨_, rfl, BoolK.mk (fun t => ⟨?_, rfl⟩) (fun t => ⟨?_, rfl⟩)⟩
    · simp only [Bool.not_eq_true', decide_eq_false_iff_not] at t
      rw [usableE, if_pos hv, if_neg t]
    · simp only [Bool.not_eq_false', decide_eq_true_eq] at t
      rw [usableE, if_pos hv, if_pos t]
set_option maxRecDepth 100000 in
theorem c48 (h : CR w own r S) (frm to : Int) (kind : ByteArray) (ent n : Int) (hb : S.fly.length ≤ 1000000000) :
    Calls Tryz.prog 48 #[cp r, .int .i64 frm, .int .i64 to, .string kind, .int .i64 ent, .int .i64 n] w fun en w' => en = .returned (.tuple #[]) ∧ (∃ own' s', CR w' own' { r with fl := s' } (S.send ⟨frm, to, kind, ent, n⟩) ∧ Fr own own' w w') := by
  refine calls48 _ _ _ _ _ _ _ w ?_
  refine ⟨_, _, _, h.cell 11 rfl, ?_⟩
  refine RowR.push ⟨frm, to, kind, ent, n⟩ sltM h.fly eM_len eM_one (by omega) rfl fun s' w12 hr u => ?_
  have hb12 := Blk.upd h.blk h.ob u (by simp)
  refine setBlk hb12 ((u.same _ h.blk.lt).trans h.ob) 11 _ (by simp) fun w14 hb14 u2 => ?_
  exact ⟨_, s', h.newFly u hr u2 (by simpa [slv] using hb14), u.fr.trans u2.fr⟩
def CS.give (S : CS) (to : Int) (kind : ByteArray) (x : Int) (t : Th) : CS :=
  (S.setTh (x - 1).toNat { t with out := t.out + 65536, heard := S.clocks.getD t.owner.toNat 0 }).send ⟨t.owner, to, kind, x, 65536⟩
theorem getD_get {α : Type} {l : List α} {i : Nat} (h : i < l.length) (d : α) : l.getD i d = l[i] := by
  rw [List.getD_eq_getElem?_getD, List.getElem?_eq_getElem h]; rfl
theorem setTh_setTh (S : CS) (i : Nat) (t t' : Th) : (S.setTh i t).setTh i t' = S.setTh i t' := by simp [CS.setTh]
theorem c49 (h : CR w own r S) (to : Int) (kind : ByteArray) {x : Int} (h1 : 1 ≤ x) (h2 : x ≤ S.things.length) (hb : S.things.length ≤ 1000000000) (hf : S.fly.length ≤ 1000000000) {t : Th} (ht : S.things[(x - 1).toNat]? = some t)
    (hown : 0 ≤ t.owner ∧ t.owner < S.clocks.length) (hout : -4000000000000000000 ≤ t.out ∧ t.out ≤ 4000000000000000000) :
    Calls Tryz.prog 49 #[cp r, .int .i64 to, .string kind, .int .i64 x] w fun en w' => en = .returned (.tuple #[]) ∧ PostC own r w (S.give to kind x t) w' := by
  refine calls49 _ _ _ _ _ w ?_
  refine (c44 h h1 h2 hb).mono ?_
  rintro en w6 ⟨o, rfl, rfl, rfl⟩
  have hi : (x - 1).toNat < S.things.length := by omega
  obtain ⟨g, l, c, y, hs, ho, hg, hy, hok, hc⟩ := h.thAt hi
  have htt : S.things[(x - 1).toNat] = t := by rw [List.getElem?_eq_getElem hi] at ht; cases ht; rfl
  rw [htt] at hok
  obtain ⟨o1, o2, o3, o4, o5, o6⟩ := hok.1
  refine ⟨_, rfl, ?_⟩
  simp only [Raw.thp, hs, AddrK, add_mk, Nat.zero_add]
  have c2 := hc 2 (by omega)
  refine ⟨_, c2.trans rfl, ?_⟩
  rw [wrap_id (by omega) (by omega)]
  refine h.setField hs hi (j := 2) (by omega) hy (x' := { y with out := y.out + 65536 }) (t' := { t with out := t.out + 65536 }) rfl rfl ⟨⟨o1, o2, by show y.out + _ = t.out + _; rw [o3], o4, o5, o6⟩, by rw [htt]⟩ fun w11 h11 u11 => ?_
  refine DrewK.mk fun w12 hx12 => ?_
  have h12 := h11.ext hx12
  refine ⟨_, _, _, h12.cell 3 rfl, ?_⟩
  obtain ⟨g2, l2, c2', y2, hs2, ho2, hg2, hy2, hok2, hc2⟩ := h12.thAt (i := (x - 1).toNat) (by simpa [CS.setTh] using hi)
  have hs2' : r.th = (some ⟨g2, 0, none⟩, l2, c2') := hs2
  rw [hs] at hs2'; simp only [Prod.mk.injEq, Option.some.injEq, Addr.mk.injEq, and_true] at hs2'
  obtain ⟨rfl, rfl, rfl⟩ := hs2'
  have hy2' : y2 = { y with out := y.out + 65536 } := by
    have : (r.ths.set (x - 1).toNat { y with out := y.out + 65536 })[(x - 1).toNat]? = some y2 := hy2
    rw [List.getElem?_set, if_pos rfl, if_pos (by rw [h.thl]; exact hi)] at this
    simpa using this.symm
  subst hy2'
  refine ⟨_, (hc2 0 (by omega)).trans rfl, ?_⟩
  have hlen := h12.clocks.len
  obtain ⟨gc, lc, cc, hsc, hoc, hgc, hcc⟩ := h12.clocks.at_ (i := y.owner.toNat) eI_len (by show y.owner.toNat < S.clocks.length; omega)
  have hsc' : r.cl = (some ⟨gc, 0, none⟩, lc, cc) := hsc
  have hlen' : r.cl.2.1 = S.clocks.length := hlen
  rw [hsc'] at hlen'
  simp only [hsc'] at hlen' ⊢
  refine ⟨by show 0 ≤ y.owner ∧ y.owner < _; omega, ?_⟩
  have hclk : S.clocks[y.owner.toNat]'(by omega) = S.clocks.getD t.owner.toNat 0 := by rw [getD_get (by omega)]; congr 1; rw [o1]
  refine ⟨S.clocks.getD t.owner.toNat 0, ?_, ?_⟩
  · have := hcc 0 (by omega)
    rw [add_mk, Nat.zero_add]
    refine this.trans ?_
    show some (Value.int .i64 (S.clocks[y.owner.toNat]'(by omega))) = _
    rw [hclk]
  refine h12.setField hs2 (by simpa [CS.setTh] using hi) (j := 3) (by omega) hy2 (x' := { y with out := y.out + 65536, heard := S.clocks.getD t.owner.toNat 0 }) (t' := { t with out := t.out + 65536, heard := S.clocks.getD t.owner.toNat 0 }) rfl rfl
    ⟨⟨o1, o2, by show y.out + _ = t.out + _; rw [o3], rfl, o5, o6⟩, by simp [CS.setTh]⟩ fun w20 h20 u20 => ?_
  rw [setTh_setTh] at h20
  obtain ⟨g3, l3, c3', y3, hs3, ho3, hg3, hy3, hok3, hc3⟩ := h20.thAt (i := (x - 1).toNat) (by simpa [CS.setTh] using hi)
  have hs3' : r.th = (some ⟨g3, 0, none⟩, l3, c3') := hs3
  rw [hs] at hs3'; simp only [Prod.mk.injEq, Option.some.injEq, Addr.mk.injEq, and_true] at hs3'
  obtain ⟨rfl, rfl, rfl⟩ := hs3'
  have hown3 : y3.owner = t.owner := by
    have := hok3.1.1
    simpa [CS.setTh] using this
  refine ⟨_, (hc3 0 (by omega)).trans rfl, ?_⟩
  rw [hown3]
  refine (c48 h20 t.owner to kind x 65536 hf).mono ?_
  rintro en w23 ⟨rfl, own', s', h23, fr⟩
  exact ⟨rfl, own', _, h23, ((u11.fr.trans (Fr.of_ext _ hx12)).trans u20.fr).trans fr, rfl⟩
end
end Go.Proofs.YtgggbmikmmljcaaGreat

namespace Go.Proofs.YtgggbmikmmljcaaGreat
open Go Go.V Go.Proofs
open Go.RowKit (Below)
/-! (*manystrand/count.Count).again -/
def N50 (o1 : Option Addr) (x2 : Int) (x3 : Int) (K : World → Prop) (w : World) : Prop :=
 AllocK w (#[(.int .i64 x2), (.int .i64 x3)]) 82 fun b4 w5 =>
 DrewK w5 fun w6 =>
 AddrK o1 fun b7 =>
 ∃ (m8 : Option Nat), w6.cell? (b7.add 10) = some (.map m8) ∧
 (∃ (x9 : Int), w6.cell? (b4.add 0) = some (.int .i64 x9) ∧
 (∃ (x10 : Int), w6.cell? (b4.add 1) = some (.int .i64 x10) ∧
 (∃ (a11 : Option Addr), ∃ (l11 : Nat), ∃ (c11 : Nat), ∃ (w12 : World), Sem.run Tryz.prog (Instr.lookup 66 (.map m8) (.agg #[(.int .i64 x9), (.int .i64 x10)]) false) w6 = .ok (.slice a11 l11 c11) w12 ∧
 (Cel w6 w12 ∧
 (∃ (J13 : Option Addr → Nat → Nat → World → Prop),
 (∀ (w14 : World) (a15 : Option Addr) (l15 : Nat) (c15 : Nat), J13 a15 l15 c15 w14 →
 DrewK w14 fun w16 =>
 AddrK o1 fun b17 =>
 ∃ (m18 : Option Nat), w16.cell? (b17.add 10) = some (.map m18) ∧
 (∃ (x19 : Int), w16.cell? (b4.add 0) = some (.int .i64 x19) ∧
 (∃ (x20 : Int), w16.cell? (b4.add 1) = some (.int .i64 x20) ∧
 (∃ (w21 : World), Sem.run Tryz.prog (Builtin.delete_ #[66, 82] 0 #[(.map m18), (.agg #[(.int .i64 x19), (.int .i64 x20)])]) w16 = .ok (.tuple #[]) w21 ∧
 (DrewK w21 fun w22 =>
 AddrK o1 fun b23 =>
 ∃ (m24 : Option Nat), w22.cell? (b23.add 9) = some (.map m24) ∧
 (∃ (x25 : Int), w22.cell? (b4.add 0) = some (.int .i64 x25) ∧
 (∃ (x26 : Int), w22.cell? (b4.add 1) = some (.int .i64 x26) ∧
 (∃ (w27 : World), Sem.run Tryz.prog (Builtin.delete_ #[65, 82] 0 #[(.map m24), (.agg #[(.int .i64 x25), (.int .i64 x26)])]) w22 = .ok (.tuple #[]) w27 ∧
 (BoolK (decide (((l15 : Nat) : Int) > 0))
 (DrewK w27 fun w28 =>
 AddrK o1 fun b29 =>
 ∃ (m30 : Option Nat), w28.cell? (b29.add 10) = some (.map m30) ∧
 (∃ (x31 : Int), w28.cell? (b4.add 0) = some (.int .i64 x31) ∧
 (∃ (x32 : Int), w28.cell? (b4.add 1) = some (.int .i64 x32) ∧
 (∃ (w33 : World), Sem.run Tryz.prog (Instr.mapUpdate 66 (.map m30) (.agg #[(.int .i64 x31), (.int .i64 x32)]) (.slice a15 l15 c15)) w28 = .ok () w33 ∧
 (∃ (x34 : Int), w33.cell? (b4.add 0) = some (.int .i64 x34) ∧
 (∃ (x35 : Int), w33.cell? (b4.add 1) = some (.int .i64 x35) ∧
 (Calls Tryz.prog 62 #[(.pointer o1), (.agg #[(.int .i64 x34), (.int .i64 x35)])] w33 fun e37 w36 =>
 e37 = .returned (.tuple #[]) ∧
 (K w36))))))))
 (K w27)))))))))) ∧
 (∃ (I38 : Option Addr → Nat → Nat → World → Prop) (μ39 : Option Addr → Nat → Nat → World → Nat),
 (I38 a11 l11 c11 w12 ∧ True) ∧
 ∀ (w40 : World) (a41 : Option Addr) (l41 : Nat) (c41 : Nat), I38 a41 l41 c41 w40 →
 DrewK w40 fun w42 =>
 BoolK (decide (((l41 : Nat) : Int) > 0))
 (AddrK o1 fun b43 =>
 ∃ (m44 : Option Nat), w42.cell? (b43.add 6) = some (.map m44) ∧
 (∃ (x45 : Int), w42.cell? (b4.add 0) = some (.int .i64 x45) ∧
 (∃ (x46 : Int), w42.cell? (b4.add 1) = some (.int .i64 x46) ∧
 (∃ (x47 : Int), ∃ (w48 : World), Sem.run Tryz.prog (Instr.lookup 64 (.map m44) (.agg #[(.int .i64 x45), (.int .i64 x46)]) false) w42 = .ok (.int .i64 x47) w48 ∧
 (Cel w42 w48 ∧
 (BoolK (decide ((x47 : Int) > 1))
 (DrewK w48 fun w49 =>
 ∃ (x50 : Int), w49.cell? (b4.add 0) = some (.int .i64 x50) ∧
 (∃ (x51 : Int), w49.cell? (b4.add 1) = some (.int .i64 x51) ∧
 ((0 ≤ (0 : Int) ∧ (0 : Int) < (l41 : Nat)) ∧
 AddrK a41 fun b52 =>
 ∃ (x53 : Int), w49.cell? (b52.add ((0 : Int).toNat * 1)) = some (.int .i64 x53) ∧
 (Calls Tryz.prog 61 #[(.pointer o1), (.agg #[(.int .i64 x50), (.int .i64 x51)]), (.int .i64 x53)] w49 fun e55 w54 =>
 e55 = .returned (.tuple #[]) ∧
 (0 ≤ (1 : Int) ∧
 (((1 : Int).toNat ≤ l41 ∧ l41 ≤ c41) ∧
 (I38 (if c41 = (1 : Int).toNat then a41 else (a41).map (·.add ((1 : Int).toNat * 1))) (l41 - (1 : Int).toNat) (c41 - (1 : Int).toNat) w54 ∧ μ39 (if c41 = (1 : Int).toNat then a41 else (a41).map (·.add ((1 : Int).toNat * 1))) (l41 - (1 : Int).toNat) (c41 - (1 : Int).toNat) w54 < μ39 a41 l41 c41 w40)))))))
 (J13 a41 l41 c41 w48)))))))
 (J13 a41 l41 c41 w42)))))))
def ann50 : Ann := (.two .nil (.two (.any 7 (.take 0 (.take 1 (.take 2 (.take 3 (.take 4 (.one 5 (.take 6 .done)))))))) (.cut [(4, (.one .slice))] [0, 3] (.one (.loop [(4, (.one .slice))] [0, 3] (.two (.two (.any 12 (.take 0 (.take 1 (.take 2 (.take 3 (.take 4 (.take 5 (.take 6 (.take 7 (.take 8 (.one 9 (.take 10 (.take 11 .done))))))))))))) (.two .nil .nil)) (.one (.two (.any 5 (.take 0 (.take 1 (.take 2 (.take 3 (.take 4 .done)))))) .nil))))) (.two (.any 5 (.take 0 (.take 1 (.take 2 (.take 3 (.take 4 .done)))))) (.two (.any 5 (.take 0 (.take 1 (.take 2 (.take 3 (.take 4 .done)))))) (.two .nil (.two (.two (.any 6 (.take 0 (.take 1 (.take 2 (.take 3 (.take 4 (.take 5 .done))))))) .nil) .nil)))))))
noncomputable def code50 : Code := match Tryz.f50.body with | some c => c | none => .skip
theorem wp50 (o1 : Option Addr) (x2 : Int) (x3 : Int) (K : World → Prop) (w : World) : WP Tryz.prog tab code50 ann50 (fnQ tab Tryz.f50.results.toList [] K) (argE 0 [(.pointer o1), (.agg #[(.int .i64 x2), (.int .i64 x3)])]) w = N50 o1 x2 x3 K w := by kernel_rfl
theorem calls50 (o1 : Option Addr) (x2 : Int) (x3 : Int) (K : World → Prop) (w : World) (h : N50 o1 x2 x3 K w) : Calls Tryz.prog 50 #[(.pointer o1), (.agg #[(.int .i64 x2), (.int .i64 x3)])] w fun en w' => en = .returned (.tuple #[]) ∧ K w' :=
 have e : (fun en w' => ExShs [] fun vs => en = .returned (tupled vs) ∧ ap [] K vs fun p => p w') = (fun (en : Ending) (w' : World) => en = .returned (.tuple #[]) ∧ K w') := by kernel_rfl
 e ▸ fn_sound tabOk mixed Tryz.func50 (by kernel_rfl : Tryz.f50.body = some code50) ann50 [(.pointer o1), (.agg #[(.int .i64 x2), (.int .i64 x3)])] [] K w (by kernel_rfl) ((wp50 o1 x2 x3 K w).symm ▸ h)
end Go.Proofs.YtgggbmikmmljcaaGreat

namespace Go.Proofs.YtgggbmikmmljcaaGreat
open Go Go.V Go.Proofs
open Go.RowKit (Below)
/-! (*manystrand/count.Count).let -/
def N52 (o1 : Option Addr) (x2 : Int) (x3 : Int) (K : World → Prop) (w : World) : Prop :=
 AllocK w (#[(.int .i64 x2), (.int .i64 x3)]) 82 fun b4 w5 =>
 ∃ (J6 : World → Prop),
 (∀ (w7 : World), J6 w7 →
 DrewK w7 fun w8 =>
 AddrK o1 fun b9 =>
 ∃ (m10 : Option Nat), w8.cell? (b9.add 6) = some (.map m10) ∧
 (∃ (x11 : Int), w8.cell? (b4.add 0) = some (.int .i64 x11) ∧
 (∃ (x12 : Int), w8.cell? (b4.add 1) = some (.int .i64 x12) ∧
 (∃ (w13 : World), Sem.run Tryz.prog (Builtin.delete_ #[64, 82] 0 #[(.map m10), (.agg #[(.int .i64 x11), (.int .i64 x12)])]) w8 = .ok (.tuple #[]) w13 ∧
 (DrewK w13 fun w14 =>
 AddrK o1 fun b15 =>
 ∃ (m16 : Option Nat), w14.cell? (b15.add 10) = some (.map m16) ∧
 (∃ (x17 : Int), w14.cell? (b4.add 0) = some (.int .i64 x17) ∧
 (∃ (x18 : Int), w14.cell? (b4.add 1) = some (.int .i64 x18) ∧
 (∃ (w19 : World), Sem.run Tryz.prog (Builtin.delete_ #[66, 82] 0 #[(.map m16), (.agg #[(.int .i64 x17), (.int .i64 x18)])]) w14 = .ok (.tuple #[]) w19 ∧
 (K w19))))))))) ∧
 (DrewK w5 fun w20 =>
 ∃ (x21 : Int), w20.cell? b4 = some (.int .i64 x21) ∧
 (∃ (x22 : Int), w20.cell? (b4.add 1) = some (.int .i64 x22) ∧
 (∃ (x23 : Int), w20.cell? (b4.add 1) = some (.int .i64 x23) ∧
 (AddrK o1 fun b24 =>
 ∃ (m25 : Option Nat), w20.cell? (b24.add 6) = some (.map m25) ∧
 (∃ (x26 : Int), w20.cell? (b4.add 0) = some (.int .i64 x26) ∧
 (∃ (x27 : Int), w20.cell? (b4.add 1) = some (.int .i64 x27) ∧
 ((Calls Tryz.prog 44 #[(.pointer o1), (.int .i64 x22)] w20 fun e30 w29 =>
 ∃ (o28 : Option Addr), e30 = .returned (.pointer o28) ∧
 (Cel w20 w29 ∧
 (AddrK o28 fun b31 =>
 (∃ (x32 : Int), w29.cell? b31 = some (.int .i64 x32) ∧
 (Cel w20 w29 ∧
 (∃ (x33 : Int), ∃ (w34 : World), Sem.run Tryz.prog (Instr.lookup 64 (.map m25) (.agg #[(.int .i64 x26), (.int .i64 x27)]) false) w29 = .ok (.int .i64 x33) w34 ∧
 (Cel w20 w34 ∧
 (Calls Tryz.prog 48 #[(.pointer o1), (.int .i64 x21), (.int .i64 x32), (.string (⟨#[98, 97, 99, 107]⟩ : ByteArray)), (.int .i64 x23), (.int .i64 x33)] w34 fun e36 w35 =>
 e36 = .returned (.tuple #[]) ∧
 (J6 w35)))))) ∧
 (∃ (x37 : Int), ∃ (w38 : World), Sem.run Tryz.prog (Instr.lookup 64 (.map m25) (.agg #[(.int .i64 x26), (.int .i64 x27)]) false) w29 = .ok (.int .i64 x37) w38 ∧
 (Cel w20 w38 ∧
 (∃ (x39 : Int), w38.cell? b31 = some (.int .i64 x39) ∧
 (Cel w20 w38 ∧
 (Calls Tryz.prog 48 #[(.pointer o1), (.int .i64 x21), (.int .i64 x39), (.string (⟨#[98, 97, 99, 107]⟩ : ByteArray)), (.int .i64 x23), (.int .i64 x37)] w38 fun e41 w40 =>
 e41 = .returned (.tuple #[]) ∧
 (J6 w40))))))))) ∧
 (∃ (x42 : Int), ∃ (w43 : World), Sem.run Tryz.prog (Instr.lookup 64 (.map m25) (.agg #[(.int .i64 x26), (.int .i64 x27)]) false) w20 = .ok (.int .i64 x42) w43 ∧
 (Cel w20 w43 ∧
 (Calls Tryz.prog 44 #[(.pointer o1), (.int .i64 x22)] w43 fun e46 w45 =>
 ∃ (o44 : Option Addr), e46 = .returned (.pointer o44) ∧
 (Cel w20 w45 ∧
 (AddrK o44 fun b47 =>
 ∃ (x48 : Int), w45.cell? b47 = some (.int .i64 x48) ∧
 (Cel w20 w45 ∧
 (Calls Tryz.prog 48 #[(.pointer o1), (.int .i64 x21), (.int .i64 x48), (.string (⟨#[98, 97, 99, 107]⟩ : ByteArray)), (.int .i64 x23), (.int .i64 x42)] w45 fun e50 w49 =>
 e50 = .returned (.tuple #[]) ∧
 (J6 w49)))))))))))))))
def ann52 : Ann := (.two .nil (.cut [] [0, 3] (.any 18 (.take 0 (.take 1 (.take 2 (.take 3 (.take 4 (.take 5 (.take 10 (.take 11 (.take 12 (.take 13 (.take 14 (.take 15 (.take 16 (.both 6 (.take 7 (.take 8 (.both 9 (.one 17 .done) (.one 17 (.one 9 .done))))) (.one 17 (.one 6 (.take 7 (.take 8 (.one 9 .done)))))))))))))))))))) (.two (.any 5 (.take 0 (.take 1 (.take 2 (.take 3 (.take 4 .done)))))) (.any 5 (.take 0 (.take 1 (.take 2 (.take 3 (.take 4 .done)))))))))
noncomputable def code52 : Code := match Tryz.f52.body with | some c => c | none => .skip
theorem wp52 (o1 : Option Addr) (x2 : Int) (x3 : Int) (K : World → Prop) (w : World) : WP Tryz.prog tab code52 ann52 (fnQ tab Tryz.f52.results.toList [] K) (argE 0 [(.pointer o1), (.agg #[(.int .i64 x2), (.int .i64 x3)])]) w = N52 o1 x2 x3 K w := by kernel_rfl
theorem calls52 (o1 : Option Addr) (x2 : Int) (x3 : Int) (K : World → Prop) (w : World) (h : N52 o1 x2 x3 K w) : Calls Tryz.prog 52 #[(.pointer o1), (.agg #[(.int .i64 x2), (.int .i64 x3)])] w fun en w' => en = .returned (.tuple #[]) ∧ K w' :=
 have e : (fun en w' => ExShs [] fun vs => en = .returned (tupled vs) ∧ ap [] K vs fun p => p w') = (fun (en : Ending) (w' : World) => en = .returned (.tuple #[]) ∧ K w') := by kernel_rfl
 e ▸ fn_sound tabOk mixed Tryz.func52 (by kernel_rfl : Tryz.f52.body = some code52) ann52 [(.pointer o1), (.agg #[(.int .i64 x2), (.int .i64 x3)])] [] K w (by kernel_rfl) ((wp52 o1 x2 x3 K w).symm ▸ h)
end Go.Proofs.YtgggbmikmmljcaaGreat

namespace Go.Proofs.YtgggbmikmmljcaaGreat
open Go Go.V Go.Proofs
open Go.RowKit (Below)
instance : Inhabited Th := ⟨⟨0, false, 0, 0, false, false, []⟩⟩
def CS.th (S : CS) (x : Int) : Th := S.things.getD (x - 1).toNat default
def eTS (t : Th) (s : SL) : List Value := [.int .i64 t.owner, .bool t.holds, .int .i64 t.out, .int .i64 t.heard, .bool t.expired, .bool t.swept, slv s]
def CS.isT (S : CS) (x : Int) : Prop := 1 ≤ x ∧ x ≤ S.things.length
section
variable {w w' : World} {own own' : OwnM Role} {r : Raw} {S : CS}
theorem CS.th_get {x : Int} {i : Nat} (hi : i < S.things.length) (hx : (x - 1).toNat = i) : S.th x = S.things[i] := by
  rw [CS.th, hx, getD_get hi]
theorem CR.thAt2 (h : CR w own r S) {x : Int} (hx : S.isT x) : ∃ g s, r.thp (x - 1).toNat = some ⟨g, (x - 1).toNat * 7, none⟩ ∧ own g = some .things ∧ (∀ j, j < 7 → w.cell? ⟨g, (x - 1).toNat * 7 + j, none⟩ = (eTS (S.th x) s)[j]?) ∧
    RowR own (.on (x - 1).toNat) 3 1 eI w s (S.th x).on := by
  obtain ⟨h1, h2⟩ := hx
  obtain ⟨g, l, c, y, hs, ho, hg, hy, hok, hc⟩ := h.thAt (i := (x - 1).toNat) (by omega)
  have e := CS.th_get (S := S) (x := x) (i := (x - 1).toNat) (by omega) rfl
  obtain ⟨⟨o1, o2, o3, o4, o5, o6⟩, hr⟩ := hok
  refine ⟨g, y.on, by rw [Raw.thp, hs, Option.some.injEq]; simp only [add_mk, Nat.zero_add], ho, fun j hj => ?_, by rw [e]; exact hr⟩
  rw [hc j hj, e, eT, eTS, o1, o2, o3, o4, o5, o6]
theorem cAt (h : CR w own r S) {x : Int} (hx : S.isT x) (hb : S.things.length ≤ 1000000000) : Calls Tryz.prog 44 #[cp r, .int .i64 x] w fun en w' => ∃ o, en = .returned (.pointer o) ∧
    (w' = w ∧ ∃ g s, o = some ⟨g, (x - 1).toNat * 7, none⟩ ∧ r.thp (x - 1).toNat = some ⟨g, (x - 1).toNat * 7, none⟩ ∧ own g = some .things ∧ (∀ j, j < 7 → w.cell? ⟨g, (x - 1).toNat * 7 + j, none⟩ = (eTS (S.th x) s)[j]?) ∧
    RowR own (.on (x - 1).toNat) 3 1 eI w s (S.th x).on) := by
  obtain ⟨g, s, hg, hgo, hc, hr⟩ := h.thAt2 hx
  refine (c44 h hx.1 hx.2 hb).mono ?_
  rintro en w6 ⟨o, rfl, rfl, rfl⟩
  exact ⟨_, rfl, rfl, g, s, hg, hg, hgo, hc, hr⟩
theorem CR.setF (h : CR w own r S) {x : Int} (hx : S.isT x) {g : Nat} (hg : r.thp (x - 1).toNat = some ⟨g, (x - 1).toNat * 7, none⟩) (j : Nat) (hj : j < 6) (t' : Th) {v : Value} (ht : ∀ s, eTS t' s = (eTS (S.th x) s).set j v) (hon : t'.on = (S.th x).on) {F : World → Prop}
    (k : ∀ w' r', CR w' own r' (S.setTh (x - 1).toNat t') → r'.b = r.b → (∀ i, r'.thp i = r.thp i) → Upd own own .things w w' → F w') : SetK w ⟨g, (x - 1).toNat * 7 + j, none⟩ v F := by
  obtain ⟨h1, h2⟩ := hx
  obtain ⟨g2, l, c, y, hs, ho, hg2, hy, hok, hc⟩ := h.thAt (i := (x - 1).toNat) (by omega)
  have e := CS.th_get (S := S) (x := x) (i := (x - 1).toNat) (by omega) rfl
  have : g = g2 := by rw [Raw.thp, hs] at hg; simp [add_mk] at hg; exact hg.symm
  subst this
  obtain ⟨⟨o1, o2, o3, o4, o5, o6⟩, hr⟩ := hok
  have hy2 : eT y = eTS (S.th x) y.on := by rw [eT, eTS, e, o1, o2, o3, o4, o5, o6]
  refine h.setField hs (i := (x - 1).toNat) (by omega) (j := j) (by omega) hy (x' := ⟨t'.owner, t'.holds, t'.out, t'.heard, t'.expired, t'.swept, y.on⟩) (t' := t') ?_ rfl ⟨⟨rfl, rfl, rfl, rfl, rfl, rfl⟩, by rw [hon, e]⟩ fun w' hr' u => k w' _ hr' rfl (fun _ => rfl) u
  rw [hy2, ← ht]; rfl
theorem CS.setTh_setTh (S : CS) (i : Nat) (t t' : Th) : (S.setTh i t).setTh i t' = S.setTh i t' := by simp [CS.setTh]
theorem CS.setTh_len (S : CS) (i : Nat) (t : Th) : (S.setTh i t).things.length = S.things.length := by simp [CS.setTh]
theorem CS.isT_set {x : Int} (i : Nat) (t : Th) (h : S.isT x) : (S.setTh i t).isT x := by simpa [CS.isT, CS.setTh] using h
theorem CS.th_set {x : Int} (h : S.isT x) (t : Th) : (S.setTh (x - 1).toNat t).th x = t := by
  obtain ⟨h1, h2⟩ := h
  rw [CS.th, getD_get (by simp only [CS.setTh_len]; omega)]; simp [CS.setTh]
/-! ### maps of the count -/
theorem CR.lkProx (h : CR w own r S) (k : Int × Int) : Sem.run Tryz.prog (Instr.lookup 64 (.map (some r.mp)) (.agg #[.int .i64 k.1, .int .i64 k.2]) false) w = .ok (.int .i64 (S.prox k)) w := h.prox.lookup mapI k
theorem CR.lkAsked (h : CR w own r S) (k : Int × Int) : Sem.run Tryz.prog (Instr.lookup 65 (.map (some r.ma)) (.agg #[.int .i64 k.1, .int .i64 k.2]) false) w = .ok (.bool (S.asked k)) w := h.asked.lookup mapB k
theorem CR.lkGone (h : CR w own r S) (k : Int × Int) : Sem.run Tryz.prog (Instr.lookup 65 (.map (some r.mg)) (.agg #[.int .i64 k.1, .int .i64 k.2]) false) w = .ok (.bool (S.gone k)) w := h.gone.lookup mapB k
theorem CR.lkMore (h : CR w own r S) (k : Int × Int) : Sem.run Tryz.prog (Instr.lookup 65 (.map (some r.mm)) (.agg #[.int .i64 k.1, .int .i64 k.2]) false) w = .ok (.bool (S.more k)) w := h.more.lookup mapB k
theorem CR.lkWaits (h : CR w own r S) (k : Int × Int) : Sem.run Tryz.prog (Instr.lookup 66 (.map (some r.mw)) (.agg #[.int .i64 k.1, .int .i64 k.2]) false) w = .ok (slv (r.wts k)) w := h.waits.lookup mapL k
theorem CR.putAsked (h : CR w own r S) (k : Int × Int) (v : Bool) : ∃ w', Sem.run Tryz.prog (Instr.mapUpdate 65 (.map (some r.ma)) (.agg #[.int .i64 k.1, .int .i64 k.2]) (.bool v)) w = .ok () w' ∧ CR w' own r { S with asked := upd S.asked k v } ∧ Upd own own .asked w w' := by
  obtain ⟨w', e, hm, b⟩ := h.asked.update mapB k v
  have u := Upd.of_but b h.oa
  exact ⟨w', e, h.newAsked u hm, u⟩
theorem CR.putGone (h : CR w own r S) (k : Int × Int) (v : Bool) : ∃ w', Sem.run Tryz.prog (Instr.mapUpdate 65 (.map (some r.mg)) (.agg #[.int .i64 k.1, .int .i64 k.2]) (.bool v)) w = .ok () w' ∧ CR w' own r { S with gone := upd S.gone k v } ∧ Upd own own .gone w w' := by
  obtain ⟨w', e, hm, b⟩ := h.gone.update mapB k v
  have u := Upd.of_but b h.og
  exact ⟨w', e, h.newGone u hm, u⟩
theorem CR.putMore (h : CR w own r S) (k : Int × Int) (v : Bool) : ∃ w', Sem.run Tryz.prog (Instr.mapUpdate 65 (.map (some r.mm)) (.agg #[.int .i64 k.1, .int .i64 k.2]) (.bool v)) w = .ok () w' ∧ CR w' own r { S with more := upd S.more k v } ∧ Upd own own .more w w' := by
  obtain ⟨w', e, hm, b⟩ := h.more.update mapB k v
  have u := Upd.of_but b h.om
  exact ⟨w', e, h.newMore u hm, u⟩
theorem CR.delProx (h : CR w own r S) (k : Int × Int) : ∃ w', Sem.run Tryz.prog (Builtin.delete_ #[64, 82] 0 #[.map (some r.mp), .agg #[.int .i64 k.1, .int .i64 k.2]]) w = .ok (.tuple #[]) w' ∧ CR w' own r { S with prox := upd S.prox k 0 } ∧ Upd own own .prox w w' := by
  obtain ⟨w', e, hm, b⟩ := h.prox.delete mapI k 0 82
  have u := Upd.of_but b h.op
  exact ⟨w', e, h.newProx u hm, u⟩
theorem CR.delAsked (h : CR w own r S) (k : Int × Int) : ∃ w', Sem.run Tryz.prog (Builtin.delete_ #[65, 82] 0 #[.map (some r.ma), .agg #[.int .i64 k.1, .int .i64 k.2]]) w = .ok (.tuple #[]) w' ∧ CR w' own r { S with asked := upd S.asked k false } ∧ Upd own own .asked w w' := by
  obtain ⟨w', e, hm, b⟩ := h.asked.delete mapB k 0 82
  have u := Upd.of_but b h.oa
  exact ⟨w', e, h.newAsked u hm, u⟩
theorem CR.delMore (h : CR w own r S) (k : Int × Int) : ∃ w', Sem.run Tryz.prog (Builtin.delete_ #[65, 82] 0 #[.map (some r.mm), .agg #[.int .i64 k.1, .int .i64 k.2]]) w = .ok (.tuple #[]) w' ∧ CR w' own r { S with more := upd S.more k false } ∧ Upd own own .more w w' := by
  obtain ⟨w', e, hm, b⟩ := h.more.delete mapB k 0 82
  have u := Upd.of_but b h.om
  exact ⟨w', e, h.newMore u hm, u⟩
theorem Upd.refl2 (own : OwnM Role) (ρ : Role) (w : World) : Upd own own ρ w w := ⟨rfl, rfl, rfl, Nat.le_refl _, fun _ _ _ => rfl, fun _ _ => rfl, fun h k hk => h k hk⟩
theorem CR.putWaits (h : CR w own r S) (k : Int × Int) (s : SL) (xs : List Int) (hr : RowT own (.wait k) 3 w s xs) : ∃ w', Sem.run Tryz.prog (Instr.mapUpdate 66 (.map (some r.mw)) (.agg #[.int .i64 k.1, .int .i64 k.2]) (slv s)) w = .ok () w' ∧
    CR w' own { r with wts := Go.V.upd r.wts k s } { S with waits := Go.V.upd S.waits k xs } ∧ Upd own own .waits w w' := by
  obtain ⟨w', e, hm, b⟩ := h.waits.update mapL k s
  have u := Upd.of_but b h.ow
  exact ⟨w', e, h.newWaits (Upd.refl2 own (.wait k) w) hr u hm, u⟩
theorem CR.delWaits (h : CR w own r S) (k : Int × Int) : ∃ w', Sem.run Tryz.prog (Builtin.delete_ #[66, 82] 0 #[.map (some r.mw), .agg #[.int .i64 k.1, .int .i64 k.2]]) w = .ok (.tuple #[]) w' ∧
    CR w' own { r with wts := Go.V.upd r.wts k (none, 0, 0) } { S with waits := Go.V.upd S.waits k [] } ∧ Upd own own .waits w w' := by
  obtain ⟨w', e, hm, b⟩ := h.waits.delete mapL k 0 82
  have u := Upd.of_but b h.ow
  exact ⟨w', e, h.newWaits (Upd.refl2 own (.wait k) w) (RowT.nil _ _ _ _) u hm, u⟩
theorem CR.entProx (h : CR w own r S) (k : Int × Int) (v : Int) : ∃ (x st : Int) (w1 : World), Sem.run Tryz.prog (Instr.mapEntry 64 (.map (some r.mp)) (.agg #[.int .i64 k.1, .int .i64 k.2])) w = .ok (.tuple #[.int .i64 x, .int .i64 st]) w1 ∧ Cel w w1 ∧
    Sem.run Tryz.prog (Instr.lookup 64 (.map (some r.mp)) (.agg #[.int .i64 k.1, .int .i64 k.2]) false) w1 = .ok (.int .i64 (S.prox k)) w1 ∧
    ∃ w2, Sem.run Tryz.prog (Instr.entryStore 64 (.map (some r.mp)) (.int .i64 st) (.int .i64 v)) w1 = .ok () w2 ∧ CR w2 own r { S with prox := upd S.prox k v } ∧ Upd own own .prox w w2 := by
  obtain ⟨st, w1, e1, h1, b1⟩ := h.prox.entry mapI k
  obtain ⟨w2, e2, h2, b2⟩ := h1.store (P := Tryz.prog) (t := 64) v
  have u := Upd.of_but (b1.trans b2) h.op
  exact ⟨_, _, w1, e1, MapF.cel h.prox b1, (MapSt.mapF h1).lookup mapI k, w2, e2, h.newProx u h2, u⟩
/-! ### a key in a box -/
def KB (own : OwnM Role) (w : World) (b : Nat) (k : Int × Int) : Prop := Blk w b #[.int .i64 k.1, .int .i64 k.2] 82 ∧ own b = none
theorem KB.c0 {b : Nat} {k : Int × Int} (h : KB own w b k) : w.cell? ((⟨b, 0, none⟩ : Addr).add 0) = some (.int .i64 k.1) := (blkAt2 h.1).1
theorem KB.c1 {b : Nat} {k : Int × Int} (h : KB own w b k) : w.cell? ((⟨b, 0, none⟩ : Addr).add 1) = some (.int .i64 k.2) := (blkAt2 h.1).2.1
theorem KB.c {b : Nat} {k : Int × Int} (h : KB own w b k) : w.cell? (⟨b, 0, none⟩ : Addr) = some (.int .i64 k.1) := (blkAt2 h.1).2.2
theorem KB.ext {b : Nat} {k : Int × Int} (h : KB own w b k) (x : Ext w w') : KB own w' b k := ⟨h.1.ext x, h.2⟩
theorem KB.fr {b : Nat} {k : Int × Int} (h : KB own w b k) (f : Fr own own' w w') : KB own' w' b k := ⟨Fr.blk h.1 f h.2, f.free b h.1.lt h.2⟩
theorem KB.new (h : CR w own r S) (k : Int × Int) {F : Addr → World → Prop} (g : ∀ b w', CR w' own r S → KB own w' b k → Ext w w' → F ⟨b, 0, none⟩ w') : AllocK w #[.int .i64 k.1, .int .i64 k.2] 82 F :=
  AllocK.mk fun b w' hb hB hx => g b w' (h.ext hx) ⟨hB, h.top b (by omega)⟩ hx
theorem KB.new2 (h : CR w own r S) (k : Int × Int) {z0 z1 : Value} {F : Addr → World → Prop} (g : ∀ b w', CR w' own r S → KB own w' b k → Ext w w' → F ⟨b, 0, none⟩ w') :
    AllocK w #[z0, z1] 82 fun b w1 => SetK w1 (b.add 0) (.int .i64 k.1) fun w2 => SetK w2 (b.add 1) (.int .i64 k.2) fun w3 => F b w3 :=
  keyBox fun b w' hb hB hx => g b w' (h.ext hx) ⟨hB, h.top b (by omega)⟩ hx
/-! ### half, ask, let, again -/
def CS.half (S : CS) (k : Int × Int) (to : Int) : CS := ({ S with prox := upd S.prox k (S.prox k - S.prox k / 2) }).send ⟨k.1, to, if to = (S.th k.2).owner then kBack else kPass, k.2, S.prox k / 2⟩
def CS.askM (S : CS) (k : Int × Int) : CS := ({ S with more := upd S.more k true }).send ⟨k.1, (S.th k.2).owner, kMore, k.2, 0⟩
def CS.letM (S : CS) (k : Int × Int) : CS := { S with prox := upd S.prox k 0, waits := upd S.waits k [], fly := S.fly ++ [⟨k.1, (S.th k.2).owner, kBack, k.2, S.prox k⟩] }
theorem PostC.mk {r' : Raw} {S' : CS} (h : CR w' own' r' S') (f : Fr own own' w w') (e : r'.b = r.b) : PostC own r w S' w' := ⟨own', r', h, f, e⟩
def PostW (own : OwnM Role) (r : Raw) (w : World) (S' : CS) (w' : World) : Prop := ∃ own' r', CR w' own' r' S' ∧ Fr own own' w w' ∧ r'.b = r.b ∧ r'.wts = r.wts
theorem PostW.c {S' : CS} (h : PostW own r w S' w') : PostC own r w S' w' := by
  obtain ⟨o, r', h1, h2, h3, _⟩ := h; exact ⟨o, r', h1, h2, h3⟩
def PostL (own : OwnM Role) (r : Raw) (w : World) (S' : CS) (w' : World) : Prop := ∃ own' r', CR w' own' r' S' ∧ Fr own own' w w' ∧ r'.b = r.b ∧ r'.ca = r.ca ∧ r'.cl = r.cl
theorem PostL.c {S' : CS} (h : PostL own r w S' w') : PostC own r w S' w' := by
  obtain ⟨o, r', h1, h2, h3, _⟩ := h; exact ⟨o, r', h1, h2, h3⟩
structure Lim (S : CS) : Prop where
  th : S.things.length ≤ 1000000000
  fly : S.fly.length ≤ 1000000000
theorem c61 (h : CR w own r S) (k : Int × Int) (to : Int) (hx : S.isT k.2) (L : Lim S) (hp : 0 ≤ S.prox k) (hp2 : S.prox k ≤ 4000000000000000000) :
    Calls Tryz.prog 61 #[cp r, .agg #[.int .i64 k.1, .int .i64 k.2], .int .i64 to] w fun en w' => en = .returned (.tuple #[]) ∧ PostW own r w (S.half k to) w' := by
  refine calls61 _ _ _ _ _ w ?_
  refine KB.new h k fun b w6 h6 kb hx6 => DrewK.mk fun w7 hx7 => ?_
  have h7 := h6.ext hx7
  have kb := kb.ext hx7
  refine ⟨_, h7.cell 6 rfl, _, kb.c0, _, kb.c1, _, _, h7.lkProx k, Cel.refl _, by decide, ?_⟩
  have e1 : IntKind.wrap .i64 ((S.prox k).tdiv 2) = S.prox k / 2 := by rw [Int.tdiv_eq_ediv_of_nonneg hp, wrap_id] <;> omega
  have e2 : IntKind.wrap .i64 (S.prox k - S.prox k / 2) = S.prox k - S.prox k / 2 := by rw [wrap_id] <;> omega
  rw [e1]
  refine ⟨fun w => CR w own r { S with prox := upd S.prox k (S.prox k - S.prox k / 2) } ∧ Fr own own w7 w, fun w15 hJ => ?_, ?_⟩
  · obtain ⟨h15, f15⟩ := hJ
    have kb := kb.fr f15
    refine ⟨fun s w => s = (if to = (S.th k.2).owner then kBack else kPass) ∧ w = w15, ?_, ?_⟩
    · rintro w17 s ⟨rfl, rfl⟩
      refine ⟨_, kb.c, _, kb.c1, ?_⟩
      refine (c48 h15 _ _ _ _ _ L.fly).mono ?_
      rintro en w23 ⟨rfl, own', s', h23, fr⟩
      exact ⟨rfl, ⟨own', _, h23, ((((Fr.of_ext own hx6).trans (Fr.of_ext own hx7)).trans f15).trans fr), rfl, rfl⟩⟩
    · refine ⟨_, kb.c1, ?_⟩
      refine (cAt h15 (x := k.2) hx L.th).mono ?_
      rintro en w25 ⟨o, rfl, rfl, g, s, rfl, hg, hgo, hc, hr⟩
      refine ⟨_, rfl, _, (hc 0 (by omega)).trans rfl, ?_⟩
      refine BoolK.mk (fun t => ⟨?_, rfl⟩) (fun t => ⟨?_, rfl⟩)
      · have t : to = (S.th k.2).owner := beq_iff_eq.1 t
        rw [if_pos t]; rfl
      · have t : ¬ to = (S.th k.2).owner := beq_eq_false_iff_ne.1 t
        rw [if_neg t]; rfl
  · refine DrewK.mk fun w29 hx29 => ?_
    have h29 := h7.ext hx29
    have kb := kb.ext hx29
    obtain ⟨x, st, w38, q1, q2, q3, w39, q4, q5, u⟩ := h29.entProx k (S.prox k - S.prox k / 2)
    have f := (Fr.of_ext own hx29).trans u.fr
    refine ⟨_, h29.cell 6 rfl, _, kb.c0, _, kb.c1, ⟨_, _, h29.lkProx k, Cel.refl _, _, _, _, q1, q2, _, ?_, q5, f⟩, ⟨_, _, _, q1, q2, _, _, q3, q2, _, ?_, q5, f⟩⟩
    · rw [e2]; exact q4
    · rw [e2]; exact q4
theorem c62 (h : CR w own r S) (k : Int × Int) (hx : S.isT k.2) (L : Lim S) :
    Calls Tryz.prog 62 #[cp r, .agg #[.int .i64 k.1, .int .i64 k.2]] w fun en w' => en = .returned (.tuple #[]) ∧ PostC own r w (S.askM k) w' := by
  refine calls62 _ _ _ _ w ?_
  refine KB.new h k fun b w6 h6 kb hx6 => DrewK.mk fun w7 hx7 => ?_
  have h7 := h6.ext hx7
  have kb := kb.ext hx7
  obtain ⟨w11, q1, h11, u⟩ := h7.putMore k true
  refine ⟨_, h7.cell 9 rfl, _, kb.c0, _, kb.c1, w11, q1, ?_⟩
  refine DrewK.mk fun w12 hx12 => ?_
  have h12 := h11.ext hx12
  have kb := (kb.fr u.fr).ext hx12
  refine ⟨_, kb.c, _, kb.c1, _, kb.c1, ?_⟩
  refine (cAt h12 (x := k.2) hx L.th).mono ?_
  rintro en w25 ⟨o, rfl, rfl, g, s, rfl, hg, hgo, hc, hr⟩
  refine ⟨_, rfl, Cel.refl _, _, (hc 0 (by omega)).trans rfl, Cel.refl _, ?_⟩
  refine (c48 h12 _ _ _ _ _ L.fly).mono ?_
  rintro en w23 ⟨rfl, own', s', h23, fr⟩
  exact ⟨rfl, PostC.mk h23 (((((Fr.of_ext own hx6).trans (Fr.of_ext own hx7)).trans u.fr).trans (Fr.of_ext own hx12)).trans fr) rfl⟩
theorem c52 (h : CR w own r S) (k : Int × Int) (hx : S.isT k.2) (L : Lim S) :
    Calls Tryz.prog 52 #[cp r, .agg #[.int .i64 k.1, .int .i64 k.2]] w fun en w' => en = .returned (.tuple #[]) ∧ PostL own r w (S.letM k) w' := by
  refine calls52 _ _ _ _ w ?_
  refine KB.new h k fun b w6 h6 kb hx6 => ?_
  refine ⟨fun w => ∃ own' s', CR w own' { r with fl := s' } (S.send ⟨k.1, (S.th k.2).owner, kBack, k.2, S.prox k⟩) ∧ Fr own own' w6 w, ?_, DrewK.mk fun w7 hx7 => ?_⟩
  · rintro w7 ⟨own', s', h7, f7⟩
    have kb := kb.fr f7
    refine DrewK.mk fun w8 hx8 => ?_
    have h8 := h7.ext hx8
    have kb := kb.ext hx8
    obtain ⟨w13, q1, h13, u⟩ := h8.delProx k
    refine ⟨_, h8.cell 6 rfl, _, kb.c0, _, kb.c1, w13, q1, ?_⟩
    refine DrewK.mk fun w14 hx14 => ?_
    have h14 := h13.ext hx14
    have kb := (kb.fr u.fr).ext hx14
    obtain ⟨w19, q2, h19, u2⟩ := h14.delWaits k
    refine ⟨_, h14.cell 10 rfl, _, kb.c0, _, kb.c1, w19, q2, ?_⟩
    exact ⟨_, _, h19, (((((Fr.of_ext own hx6).trans f7).trans (Fr.of_ext _ hx8)).trans u.fr).trans ((Fr.of_ext _ hx14).trans u2.fr)), rfl, rfl, rfl⟩
  · have h7 := h6.ext hx7
    have kb := kb.ext hx7
    have fin : ∀ (w0 : World), w0 = w7 → Calls Tryz.prog 48 #[cp r, .int .i64 k.1, .int .i64 (S.th k.2).owner, .string kBack, .int .i64 k.2, .int .i64 (S.prox k)] w0 fun en w' => en = .returned (.tuple #[]) ∧ (∃ own' s', CR w' own' { r with fl := s' } (S.send ⟨k.1, (S.th k.2).owner, kBack, k.2, S.prox k⟩) ∧ Fr own own' w6 w') := by
      rintro _ rfl
      refine (c48 h7 _ _ _ _ _ L.fly).mono ?_
      rintro en w23 ⟨rfl, own', s', h23, fr⟩
      exact ⟨rfl, own', s', h23, (Fr.of_ext own hx7).trans fr⟩
    refine ⟨_, kb.c, _, kb.c1, _, kb.c1, _, h7.cell 6 rfl, _, kb.c0, _, kb.c1, ?_, ?_⟩
    · refine (cAt h7 (x := k.2) hx L.th).mono ?_
      rintro en w25 ⟨o, rfl, rfl, g, s, rfl, hg, hgo, hc, hr⟩
      refine ⟨_, rfl, Cel.refl _, ?_, ?_⟩
      · exact ⟨_, (hc 0 (by omega)).trans rfl, Cel.refl _, _, _, h7.lkProx k, Cel.refl _, fin _ rfl⟩
      · exact ⟨_, _, h7.lkProx k, Cel.refl _, _, (hc 0 (by omega)).trans rfl, Cel.refl _, fin _ rfl⟩
    · refine ⟨_, _, h7.lkProx k, Cel.refl _, ?_⟩
      refine (cAt h7 (x := k.2) hx L.th).mono ?_
      rintro en w25 ⟨o, rfl, rfl, g, s, rfl, hg, hgo, hc, hr⟩
      exact ⟨_, rfl, Cel.refl _, _, (hc 0 (by omega)).trans rfl, Cel.refl _, fin _ rfl⟩
end
end Go.Proofs.YtgggbmikmmljcaaGreat

namespace Go.Proofs.YtgggbmikmmljcaaGreat
open Go Go.V Go.Proofs
open Go.RowKit (Below)
/-! (*manystrand/count.Count).Ask -/
def N20 (o1 : Option Addr) (x2 : Int) (x3 : Int) (K : Int → World → Prop) (w : World) : Prop :=
 AllocK w (#[(.int .i64 x2)]) 3 fun b4 w5 =>
 Calls Tryz.prog 43 #[(.pointer o1), (.int .i64 x3), (.slice (some b4) 1 1)] w5 fun e8 w7 =>
 ∃ (x6 : Int), e8 = .returned (.int .i64 x6) ∧
 (BoolK ((x6 : Int) != 0)
 (K x6 w7)
 (AllocK w7 (#[.int .i64 0, .int .i64 0]) 82 fun b9 w10 =>
 SetK w10 (b9.add 0) (.int .i64 x2) fun w11 =>
 SetK w11 (b9.add 1) (.int .i64 x3) fun w12 =>
 DrewK w12 fun w13 =>
 AddrK o1 fun b14 =>
 ∃ (m15 : Option Nat), w13.cell? (b14.add 8) = some (.map m15) ∧
 (∃ (x16 : Int), w13.cell? (b9.add 0) = some (.int .i64 x16) ∧
 (∃ (x17 : Int), w13.cell? (b9.add 1) = some (.int .i64 x17) ∧
 (∃ (p18 : Bool), ∃ (w19 : World), Sem.run Tryz.prog (Instr.lookup 65 (.map m15) (.agg #[(.int .i64 x16), (.int .i64 x17)]) false) w13 = .ok (.bool p18) w19 ∧
 (Cel w13 w19 ∧
 (BoolK p18
 (K 200 w19)
 (Calls Tryz.prog 44 #[(.pointer o1), (.int .i64 x3)] w19 fun e22 w21 =>
 ∃ (o20 : Option Addr), e22 = .returned (.pointer o20) ∧
 (AddrK o20 fun b23 =>
 ∃ (x24 : Int), w21.cell? b23 = some (.int .i64 x24) ∧
 (∃ (J25 : Bool → World → Prop),
 (∀ (w26 : World) (p27 : Bool), J25 p27 w26 →
 BoolK p27
 (DrewK w26 fun w28 =>
 AddrK o1 fun b29 =>
 ∃ (m30 : Option Nat), w28.cell? (b29.add 7) = some (.map m30) ∧
 (∃ (x31 : Int), w28.cell? (b9.add 0) = some (.int .i64 x31) ∧
 (∃ (x32 : Int), w28.cell? (b9.add 1) = some (.int .i64 x32) ∧
 (∃ (w33 : World), Sem.run Tryz.prog (Instr.mapUpdate 65 (.map m30) (.agg #[(.int .i64 x31), (.int .i64 x32)]) (.bool true)) w28 = .ok () w33 ∧
 (Calls Tryz.prog 48 #[(.pointer o1), (.int .i64 x2), (.int .i64 x24), (.string (⟨#[97, 115, 107]⟩ : ByteArray)), (.int .i64 x3), (.int .i64 0)] w33 fun e35 w34 =>
 e35 = .returned (.tuple #[]) ∧
 (K 0 w34))))))
 (K 0 w26)) ∧
 (DrewK w21 fun w36 =>
 BoolK ((x2 : Int) != x24)
 (AddrK o1 fun b37 =>
 ∃ (m38 : Option Nat), w36.cell? (b37.add 6) = some (.map m38) ∧
 (∃ (x39 : Int), w36.cell? (b9.add 0) = some (.int .i64 x39) ∧
 (∃ (x40 : Int), w36.cell? (b9.add 1) = some (.int .i64 x40) ∧
 (∃ (x41 : Int), ∃ (w42 : World), Sem.run Tryz.prog (Instr.lookup 64 (.map m38) (.agg #[(.int .i64 x39), (.int .i64 x40)]) false) w36 = .ok (.int .i64 x41) w42 ∧
 (Cel w36 w42 ∧
 (BoolK ((x41 : Int) == 0)
 (AddrK o1 fun b43 =>
 (∃ (m44 : Option Nat), w42.cell? (b43.add 7) = some (.map m44) ∧
 (Cel w36 w42 ∧
 (∃ (x45 : Int), w42.cell? (b9.add 0) = some (.int .i64 x45) ∧
 (∃ (x46 : Int), w42.cell? (b9.add 1) = some (.int .i64 x46) ∧
 (Cel w36 w42 ∧
 (∃ (p47 : Bool), ∃ (w48 : World), Sem.run Tryz.prog (Instr.lookup 65 (.map m44) (.agg #[(.int .i64 x45), (.int .i64 x46)]) false) w42 = .ok (.bool p47) w48 ∧
 (Cel w36 w48 ∧
 (J25 (!p47) w48)))))))) ∧
 (∃ (x49 : Int), w42.cell? (b9.add 0) = some (.int .i64 x49) ∧
 (∃ (x50 : Int), w42.cell? (b9.add 1) = some (.int .i64 x50) ∧
 (Cel w36 w42 ∧
 (∃ (m51 : Option Nat), w42.cell? (b43.add 7) = some (.map m51) ∧
 (Cel w36 w42 ∧
 (∃ (p52 : Bool), ∃ (w53 : World), Sem.run Tryz.prog (Instr.lookup 65 (.map m51) (.agg #[(.int .i64 x49), (.int .i64 x50)]) false) w42 = .ok (.bool p52) w53 ∧
 (Cel w36 w53 ∧
 (J25 (!p52) w53)))))))))
 ((J25 false w42) ∧
 (J25 false w42))))))))
 ((J25 false w36) ∧
 (J25 false w36)))))))))))))
def ann20 : Ann := (.two .nil (.two (.two .nil (.two .nil (.two (.two .nil .nil) .nil))) (.two .nil (.two (.two (.any 6 (.take 0 (.take 1 (.take 2 (.take 3 (.take 4 (.one 5 .done))))))) (.two (.two .nil .nil) .nil)) (.two .nil (.two (.cut [(53, (.one .bool))] [0, 1, 2, 8, 9] (.any 21 (.take 0 (.take 1 (.take 2 (.take 3 (.take 4 (.take 5 (.take 6 (.take 7 (.take 8 (.one 9 (.take 10 (.take 11 (.take 12 (.take 13 (.take 14 (.take 15 (.both 16 (.one 17 (.one 18 (.take 19 (.take 20 .done)))) (.one 17 (.one 16 (.one 18 (.take 19 (.take 20 .done))))))))))))))))))))))) (.two (.two (.any 5 (.take 0 (.take 1 (.take 2 (.take 3 (.take 4 .done)))))) .nil) .nil)) (.two .nil .nil)))))))
noncomputable def code20 : Code := match Tryz.f20.body with | some c => c | none => .skip
theorem wp20 (o1 : Option Addr) (x2 : Int) (x3 : Int) (K : Int → World → Prop) (w : World) : WP Tryz.prog tab code20 ann20 (fnQ tab Tryz.f20.results.toList [(.one (.int .i64))] K) (argE 0 [(.pointer o1), (.int .i64 x2), (.int .i64 x3)]) w = N20 o1 x2 x3 K w := by kernel_rfl
theorem calls20 (o1 : Option Addr) (x2 : Int) (x3 : Int) (K : Int → World → Prop) (w : World) (h : N20 o1 x2 x3 K w) : Calls Tryz.prog 20 #[(.pointer o1), (.int .i64 x2), (.int .i64 x3)] w fun en w' => ∃ (x54 : Int), en = .returned (.int .i64 x54) ∧ K x54 w' :=
 have e : (fun en w' => ExShs [(.one (.int .i64))] fun vs => en = .returned (tupled vs) ∧ ap [(.one (.int .i64))] K vs fun p => p w') = (fun (en : Ending) (w' : World) => ∃ (x54 : Int), en = .returned (.int .i64 x54) ∧ K x54 w') := by kernel_rfl
 e ▸ fn_sound tabOk mixed Tryz.func20 (by kernel_rfl : Tryz.f20.body = some code20) ann20 [(.pointer o1), (.int .i64 x2), (.int .i64 x3)] [(.one (.int .i64))] K w (by kernel_rfl) ((wp20 o1 x2 x3 K w).symm ▸ h)
end Go.Proofs.YtgggbmikmmljcaaGreat

namespace Go.Proofs.YtgggbmikmmljcaaGreat
open Go Go.V Go.Proofs
open Go.RowKit (Below)
/-! (*manystrand/count.Count).Holds -/
def N16 (o1 : Option Addr) (x2 : Int) (x3 : Int) (K : Bool → World → Prop) (w : World) : Prop :=
 Calls Tryz.prog 21 #[(.pointer o1)] w fun e6 w5 =>
 ∃ (p4 : Bool), e6 = .returned (.bool p4) ∧
 (BoolK p4
 (K false w5)
 (Calls Tryz.prog 45 #[(.pointer o1), (.int .i64 x3)] w5 fun e9 w8 =>
 ∃ (p7 : Bool), e9 = .returned (.bool p7) ∧
 (BoolK (!p7)
 (K false w8)
 (Calls Tryz.prog 44 #[(.pointer o1), (.int .i64 x3)] w8 fun e12 w11 =>
 ∃ (o10 : Option Addr), e12 = .returned (.pointer o10) ∧
 (AddrK o10 fun b13 =>
 ∃ (x14 : Int), w11.cell? b13 = some (.int .i64 x14) ∧
 (BoolK ((x14 : Int) == x2)
 (Calls Tryz.prog 44 #[(.pointer o1), (.int .i64 x3)] w11 fun e17 w16 =>
 ∃ (o15 : Option Addr), e17 = .returned (.pointer o15) ∧
 (AddrK o15 fun b18 =>
 ∃ (p19 : Bool), w16.cell? (b18.add 1) = some (.bool p19) ∧
 (K p19 w16)))
 (AddrK o1 fun b20 =>
 ∃ (m21 : Option Nat), w11.cell? (b20.add 6) = some (.map m21) ∧
 (∃ (x22 : Int), ∃ (w23 : World), Sem.run Tryz.prog (Instr.lookup 64 (.map m21) (.agg #[(.int .i64 x2), (.int .i64 x3)]) false) w11 = .ok (.int .i64 x22) w23 ∧
 (K (decide ((x22 : Int) > 0)) w23)))))))))
def ann16 : Ann := (.two .nil (.two (.two .nil (.two (.two .nil .nil) .nil)) (.two (.two .nil (.two (.two .nil .nil) .nil)) (.two .nil .nil))))
noncomputable def code16 : Code := match Tryz.f16.body with | some c => c | none => .skip
theorem wp16 (o1 : Option Addr) (x2 : Int) (x3 : Int) (K : Bool → World → Prop) (w : World) : WP Tryz.prog tab code16 ann16 (fnQ tab Tryz.f16.results.toList [(.one .bool)] K) (argE 0 [(.pointer o1), (.int .i64 x2), (.int .i64 x3)]) w = N16 o1 x2 x3 K w := by kernel_rfl
theorem calls16 (o1 : Option Addr) (x2 : Int) (x3 : Int) (K : Bool → World → Prop) (w : World) (h : N16 o1 x2 x3 K w) : Calls Tryz.prog 16 #[(.pointer o1), (.int .i64 x2), (.int .i64 x3)] w fun en w' => ∃ (p24 : Bool), en = .returned (.bool p24) ∧ K p24 w' :=
 have e : (fun en w' => ExShs [(.one .bool)] fun vs => en = .returned (tupled vs) ∧ ap [(.one .bool)] K vs fun p => p w') = (fun (en : Ending) (w' : World) => ∃ (p24 : Bool), en = .returned (.bool p24) ∧ K p24 w') := by kernel_rfl
 e ▸ fn_sound tabOk mixed Tryz.func16 (by kernel_rfl : Tryz.f16.body = some code16) ann16 [(.pointer o1), (.int .i64 x2), (.int .i64 x3)] [(.one .bool)] K w (by kernel_rfl) ((wp16 o1 x2 x3 K w).symm ▸ h)
end Go.Proofs.YtgggbmikmmljcaaGreat

namespace Go.Proofs.YtgggbmikmmljcaaGreat
open Go Go.V Go.Proofs
open Go.RowKit (Below)
/-! (*manystrand/count.Count).Weight -/
def N12 (o1 : Option Addr) (x2 : Int) (x3 : Int) (K : Int → World → Prop) (w : World) : Prop :=
 Calls Tryz.prog 21 #[(.pointer o1)] w fun e6 w5 =>
 ∃ (p4 : Bool), e6 = .returned (.bool p4) ∧
 (BoolK p4
 (K 0 w5)
 (AddrK o1 fun b7 =>
 ∃ (m8 : Option Nat), w5.cell? (b7.add 6) = some (.map m8) ∧
 (∃ (x9 : Int), ∃ (w10 : World), Sem.run Tryz.prog (Instr.lookup 64 (.map m8) (.agg #[(.int .i64 x2), (.int .i64 x3)]) false) w5 = .ok (.int .i64 x9) w10 ∧
 (K x9 w10))))
def ann12 : Ann := (.two .nil (.two (.two .nil (.two (.two .nil .nil) .nil)) (.two .nil .nil)))
noncomputable def code12 : Code := match Tryz.f12.body with | some c => c | none => .skip
theorem wp12 (o1 : Option Addr) (x2 : Int) (x3 : Int) (K : Int → World → Prop) (w : World) : WP Tryz.prog tab code12 ann12 (fnQ tab Tryz.f12.results.toList [(.one (.int .i64))] K) (argE 0 [(.pointer o1), (.int .i64 x2), (.int .i64 x3)]) w = N12 o1 x2 x3 K w := by kernel_rfl
theorem calls12 (o1 : Option Addr) (x2 : Int) (x3 : Int) (K : Int → World → Prop) (w : World) (h : N12 o1 x2 x3 K w) : Calls Tryz.prog 12 #[(.pointer o1), (.int .i64 x2), (.int .i64 x3)] w fun en w' => ∃ (x11 : Int), en = .returned (.int .i64 x11) ∧ K x11 w' :=
 have e : (fun en w' => ExShs [(.one (.int .i64))] fun vs => en = .returned (tupled vs) ∧ ap [(.one (.int .i64))] K vs fun p => p w') = (fun (en : Ending) (w' : World) => ∃ (x11 : Int), en = .returned (.int .i64 x11) ∧ K x11 w') := by kernel_rfl
 e ▸ fn_sound tabOk mixed Tryz.func12 (by kernel_rfl : Tryz.f12.body = some code12) ann12 [(.pointer o1), (.int .i64 x2), (.int .i64 x3)] [(.one (.int .i64))] K w (by kernel_rfl) ((wp12 o1 x2 x3 K w).symm ▸ h)
end Go.Proofs.YtgggbmikmmljcaaGreat

namespace Go.Proofs.YtgggbmikmmljcaaGreat
open Go Go.V Go.Proofs
open Go.RowKit (Below)
/-! (*manystrand/count.Count).Out -/
def N11 (o1 : Option Addr) (x2 : Int) (K : Int → Int → World → Prop) (w : World) : Prop :=
 Calls Tryz.prog 43 #[(.pointer o1), (.int .i64 x2), (.slice none 0 0)] w fun e5 w4 =>
 ∃ (x3 : Int), e5 = .returned (.int .i64 x3) ∧
 (BoolK ((x3 : Int) != 0)
 (K 0 x3 w4)
 (Calls Tryz.prog 44 #[(.pointer o1), (.int .i64 x2)] w4 fun e8 w7 =>
 ∃ (o6 : Option Addr), e8 = .returned (.pointer o6) ∧
 (AddrK o6 fun b9 =>
 ∃ (x10 : Int), w7.cell? (b9.add 2) = some (.int .i64 x10) ∧
 (K x10 0 w7))))
def ann11 : Ann := (.two .nil (.two (.two .nil (.two .nil (.two (.two .nil .nil) .nil))) (.two .nil .nil)))
noncomputable def code11 : Code := match Tryz.f11.body with | some c => c | none => .skip
theorem wp11 (o1 : Option Addr) (x2 : Int) (K : Int → Int → World → Prop) (w : World) : WP Tryz.prog tab code11 ann11 (fnQ tab Tryz.f11.results.toList [(.one (.int .i64)), (.one (.int .i64))] K) (argE 0 [(.pointer o1), (.int .i64 x2)]) w = N11 o1 x2 K w := by kernel_rfl
theorem calls11 (o1 : Option Addr) (x2 : Int) (K : Int → Int → World → Prop) (w : World) (h : N11 o1 x2 K w) : Calls Tryz.prog 11 #[(.pointer o1), (.int .i64 x2)] w fun en w' => ∃ (x11 : Int), ∃ (x12 : Int), en = .returned (.tuple #[(.int .i64 x11), (.int .i64 x12)]) ∧ K x11 x12 w' :=
 have e : (fun en w' => ExShs [(.one (.int .i64)), (.one (.int .i64))] fun vs => en = .returned (tupled vs) ∧ ap [(.one (.int .i64)), (.one (.int .i64))] K vs fun p => p w') = (fun (en : Ending) (w' : World) => ∃ (x11 : Int), ∃ (x12 : Int), en = .returned (.tuple #[(.int .i64 x11), (.int .i64 x12)]) ∧ K x11 x12 w') := by kernel_rfl
 e ▸ fn_sound tabOk mixed Tryz.func11 (by kernel_rfl : Tryz.f11.body = some code11) ann11 [(.pointer o1), (.int .i64 x2)] [(.one (.int .i64)), (.one (.int .i64))] K w (by kernel_rfl) ((wp11 o1 x2 K w).symm ▸ h)
end Go.Proofs.YtgggbmikmmljcaaGreat

namespace Go.Proofs.YtgggbmikmmljcaaGreat
open Go Go.V Go.Proofs
open Go.RowKit (Below)
def tail1 (s : SL) : SL := (if s.2.2 = 1 then s.1 else s.1.map (·.add 1), s.2.1 - 1, s.2.2 - 1)
def tails : Nat → SL → SL
  | 0, s => s
  | n + 1, s => tail1 (tails n s)
section
variable {w w' : World} {own own' : OwnM Role} {r : Raw} {S : CS}
theorem RowT.tails {ρ : Role} {e : TypeId} {s : SL} {xs : List Int} (h : RowT own ρ e w s xs) : ∀ j, j ≤ xs.length → RowT own ρ e w (tails j s) (xs.drop j)
  | 0, _ => by simpa [Go.Proofs.YtgggbmikmmljcaaGreat.tails] using h
  | j + 1, hj => by
    have ih := RowT.tails h j (by omega)
    rw [List.drop_eq_getElem_cons (by omega)] at ih
    exact (RowT.tail ih).2.2
def CS.passes (k : Int × Int) : List Int → CS → CS × List Int
  | [], S => (S, [])
  | to :: l, S => if S.prox k > 1 then CS.passes k l (S.half k to) else (S, to :: l)
def CS.cut (S : CS) (k : Int × Int) : CS := { S with waits := upd S.waits k [], more := upd S.more k false }
def CS.putW (S : CS) (k : Int × Int) (l : List Int) : CS := { S with waits := upd S.waits k l }
def CS.again (S : CS) (k : Int × Int) : CS :=
  if (CS.passes k (S.waits k) S).2 = [] then (CS.passes k (S.waits k) S).1.cut k
  else (((CS.passes k (S.waits k) S).1.cut k).putW k (CS.passes k (S.waits k) S).2).askM k
theorem c50 (h : CR w own r S) (k : Int × Int) (hx : S.isT k.2) (L : Lim S) (hf : S.fly.length + (S.waits k).length ≤ 1000000000) (hp : 0 ≤ S.prox k) (hp2 : S.prox k ≤ 4000000000000000000) :
    Calls Tryz.prog 50 #[cp r, .agg #[.int .i64 k.1, .int .i64 k.2]] w fun en w' => en = .returned (.tuple #[]) ∧ PostC own r w (S.again k) w' := by
  refine calls50 _ _ _ _ w ?_
  refine KB.new h k fun b w5 h5 kb hx5 => DrewK.mk fun w6 hx6 => ?_
  have h6 := h5.ext hx6
  have kb := kb.ext hx6
  refine ⟨_, h6.cell 10 rfl, _, kb.c0, _, kb.c1, _, _, _, _, h6.lkWaits k, Cel.refl _, ?_⟩
  let J := fun (a : Option Addr) (l c : Nat) (w : World) => ∃ own' r' S1 ls, CR w own' r' S1 ∧ Fr own own' w6 w ∧ r'.b = r.b ∧ RowT own' (.wait k) 3 w (a, l, c) ls ∧ CS.passes k (S.waits k) S = (S1, ls) ∧ KB own' w b k ∧ S1.things = S.things ∧ S1.fly.length ≤ 1000000000
  refine ⟨J, ?_, ?_⟩
  · rintro w14 a15 l15 c15 ⟨own', r', S1, ls, h14, f14, eb, hT, hp14, kb, ht14, hf14⟩
    cases r'; cases eb
    refine DrewK.mk fun w16 hx16 => ?_
    have h16 := h14.ext hx16
    have kb := kb.ext hx16
    have hT := hT.ext hx16
    obtain ⟨w21, q1, h21, u1⟩ := h16.delWaits k
    refine ⟨_, h16.cell 10 rfl, _, kb.c0, _, kb.c1, w21, q1, DrewK.mk fun w22 hx22 => ?_⟩
    have kb := (kb.fr u1.fr).ext hx22
    have hT := (hT.upd u1 (by simp)).ext hx22
    have h22 := h21.ext hx22
    obtain ⟨w27, q2, h27, u2⟩ := h22.delMore k
    refine ⟨_, h22.cell 9 rfl, _, kb.c0, _, kb.c1, w27, q2, ?_⟩
    have kb := kb.fr u2.fr
    have hT := hT.upd u2 (by simp)
    have F27 := (((((Fr.of_ext own hx5).trans (Fr.of_ext own hx6)).trans f14).trans (Fr.of_ext _ hx16)).trans u1.fr).trans ((Fr.of_ext _ hx22).trans u2.fr)
    have hl := hT.len
    refine BoolK.mk (fun t => ?_) (fun t => ?_)
    · have hne : ls ≠ [] := by rintro rfl; simp at hl t; omega
      refine DrewK.mk fun w28 hx28 => ?_
      have h28 := h27.ext hx28
      have kb := kb.ext hx28
      have hT := hT.ext hx28
      obtain ⟨w33, q3, h33, u3⟩ := h28.putWaits k (a15, l15, c15) ls hT
      refine ⟨_, h28.cell 10 rfl, _, kb.c0, _, kb.c1, w33, q3, ?_⟩
      have kb := kb.fr u3.fr
      refine ⟨_, kb.c0, _, kb.c1, ?_⟩
      refine (c62 h33 k (by simpa [CS.isT, ht14] using hx) ⟨by simpa [ht14] using L.th, hf14⟩).mono ?_
      rintro en w36 ⟨rfl, own2, r2, g1, g2, g3⟩
      refine ⟨rfl, own2, r2, ?_, (F27.trans ((Fr.of_ext _ hx28).trans u3.fr)).trans g2, g3⟩
      have e : S.again k = ((S1.cut k).putW k ls).askM k := by rw [CS.again, hp14, if_neg hne]
      rw [e]
      have e2 : ((S1.cut k).putW k ls) = { { { S1 with waits := upd S1.waits k [] } with more := upd S1.more k false } with waits := upd (upd S1.waits k []) k ls } := rfl
      rw [e2]; exact g1
    · have he : ls = [] := by simp at t; rw [List.length_eq_zero_iff.symm]; simp at hl; omega
      have e : S.again k = S1.cut k := by rw [CS.again, hp14, if_pos he]
      rw [e]
      exact ⟨own', _, h27, F27, rfl⟩
  · refine ⟨fun a l c w => ∃ own' r' S1 j, CR w own' r' S1 ∧ Fr own own' w6 w ∧ r'.b = r.b ∧ r'.wts k = r.wts k ∧ (a, l, c) = tails j (r.wts k) ∧ j ≤ (S.waits k).length ∧ CS.passes k (S.waits k) S = CS.passes k ((S.waits k).drop j) S1 ∧ KB own' w b k ∧ S1.things = S.things ∧ S1.waits = S.waits ∧
      S1.fly.length + ((S.waits k).length - j) ≤ 1000000000 ∧ 0 ≤ S1.prox k ∧ S1.prox k ≤ 4000000000000000000, fun _ l _ _ => l,
      ⟨⟨own, r, S, 0, h6, Fr.refl _ _, rfl, rfl, rfl, Nat.zero_le _, rfl, kb, rfl, rfl, by simpa using hf, hp, hp2⟩, trivial⟩, ?_⟩
    rintro w40 a l c ⟨own', r', S1, j, h40, f40, eb, ew, es, hj, hpp, kb, ht, hw, hfl, hp, hp2⟩
    refine DrewK.mk fun w42 hx42 => ?_
    have h42 := h40.ext hx42
    have kb := kb.ext hx42
    have hT : RowT own' (.wait k) 3 w42 (a, l, c) ((S.waits k).drop j) := by
      have := h42.wts k
      rw [ew, hw] at this
      rw [es]; exact RowT.tails this j hj
    have hl := hT.len
    have stop : ∀ S2, S2 = S1 → CS.passes k (S.waits k) S = (S2, (S.waits k).drop j) → J a l c w42 := by
      rintro _ rfl e
      exact ⟨own', r', _, _, h42, f40.trans (Fr.of_ext _ hx42), eb, hT, e, kb, ht, by omega⟩
    cases r'; cases eb
    refine BoolK.mk (fun t => ?_) (fun t => ?_)
    · refine ⟨_, h42.cell 6 rfl, _, kb.c0, _, kb.c1, _, _, h42.lkProx k, Cel.refl _, ?_⟩
      have hlt : j < (S.waits k).length := by simp at t hl; omega
      refine BoolK.mk (fun t2 => ?_) (fun t2 => ?_)
      · refine DrewK.mk fun w49 hx49 => ?_
        have h49 := h42.ext hx49
        have kb := kb.ext hx49
        have hT := hT.ext hx49
        have e1 := List.drop_eq_getElem_cons hlt
        rw [e1] at hT
        obtain ⟨g, o, ea, hc⟩ := hT.at_ (i := 0) (Nat.succ_pos _)
        obtain ⟨t1, t2', t3⟩ := RowT.tail hT
        simp only at ea
        refine ⟨_, kb.c0, _, kb.c1, ⟨by omega, by omega⟩, ?_⟩
        subst ea
        refine ⟨(S.waits k)[j], by simpa [add_mk] using hc, ?_⟩
        refine (c61 h49 k _ (by simpa [CS.isT, ht] using hx) ⟨by simpa [ht] using L.th, by omega⟩ hp hp2).mono ?_
        rintro en w54 ⟨rfl, own2, r2, g1, g2, g3, g4⟩
        refine ⟨rfl, by omega, ⟨t1, t2'⟩, ⟨own2, r2, _, j + 1, g1, (f40.trans ((Fr.of_ext _ hx42).trans (Fr.of_ext _ hx49))).trans g2, g3, (congrFun g4 k).trans ew, ?_, by omega, ?_, kb.fr g2, ht, hw, ?_, ?_, ?_⟩, ?_⟩
        · show _ = tail1 (tails j (r.wts k)); rw [← es]; rfl
        · rw [hpp, e1, CS.passes, if_pos (by simpa using t2)]
        · simp [CS.half, CS.send]; omega
        · simp [CS.half, CS.send, upd]; omega
        · simp [CS.half, CS.send, upd]; omega
        · show l - 1 < l; omega
      · refine stop _ rfl ?_
        rw [hpp, List.drop_eq_getElem_cons hlt, CS.passes, if_neg (by simpa using t2)]
    · refine stop _ rfl ?_
      have : (S.waits k).drop j = [] := by simp at t hl ⊢; omega
      rw [hpp, this]; rfl
/-! ### what is told -/
instance (S : CS) (x : Int) : Decidable (S.isT x) := inferInstanceAs (Decidable (_ ∧ _))
def CS.holdsE (S : CS) (site x : Int) : Bool := decide (S.isT x) && (if (S.th x).owner = site then (S.th x).holds else decide (S.prox (site, x) > 0))
theorem c16 (h : CR w own r S) (L : Lim S) (site x : Int) : Calls Tryz.prog 16 #[cp r, .int .i64 site, .int .i64 x] w fun en w' => ∃ p, en = .returned (.bool p) ∧ (p = S.holdsE site x ∧ w' = w) := by
  refine calls16 _ _ _ _ w ?_
  refine (c21 h).mono ?_
  rintro en w5 ⟨p, rfl, rfl, rfl⟩
  refine ⟨_, rfl, BoolK.mk (fun t => by cases t) (fun _ => ?_)⟩
  refine (c45 h x).mono ?_
  rintro en w6 ⟨p, rfl, rfl, rfl⟩
  refine ⟨_, rfl, BoolK.mk (fun t => ?_) (fun t => ?_)⟩
  · have t : ¬ S.isT x := fun hh => by rw [decide_eq_true (show 1 ≤ x ∧ x ≤ (S.things.length : Int) from hh)] at t; cases t
    exact ⟨by simp [CS.holdsE, t], rfl⟩
  · have t : S.isT x := by simpa [CS.isT] using t
    refine (cAt h t L.th).mono ?_
    rintro en w25 ⟨o, rfl, rfl, g, s, rfl, hg, hgo, hc, hr⟩
    refine ⟨_, rfl, _, (hc 0 (by omega)).trans rfl, BoolK.mk (fun t2 => ?_) (fun t2 => ?_)⟩
    · refine (cAt h t L.th).mono ?_
      rintro en w25 ⟨o, rfl, rfl, g, s, rfl, hg, hgo, hc, hr⟩
      refine ⟨_, rfl, (S.th x).holds, by rw [add_mk]; exact (hc 1 (by omega)).trans rfl, ?_, rfl⟩
      simp [CS.holdsE, t, beq_iff_eq.1 t2]
    · refine ⟨_, h.cell 6 rfl, _, _, h.lkProx (site, x), ?_, rfl⟩
      simp [CS.holdsE, t, beq_eq_false_iff_ne.1 t2]
theorem c12 (h : CR w own r S) (site x : Int) : Calls Tryz.prog 12 #[cp r, .int .i64 site, .int .i64 x] w fun en w' => ∃ p, en = .returned (.int .i64 p) ∧ (p = S.prox (site, x) ∧ w' = w) := by
  refine calls12 _ _ _ _ w ?_
  refine (c21 h).mono ?_
  rintro en w5 ⟨p, rfl, rfl, rfl⟩
  exact ⟨_, rfl, BoolK.mk (fun t => by cases t) (fun _ => ⟨_, h.cell 6 rfl, _, _, h.lkProx (site, x), rfl, rfl⟩)⟩
def CS.outE (S : CS) (x : Int) : Int × Int := if S.isT x then ((S.th x).out, 0) else (0, 5)
theorem c11 (h : CR w own r S) (L : Lim S) (x : Int) : Calls Tryz.prog 11 #[cp r, .int .i64 x] w fun en w' => ∃ a b, en = .returned (.tuple #[.int .i64 a, .int .i64 b]) ∧ ((a, b) = S.outE x ∧ w' = w) := by
  refine calls11 _ _ _ w ?_
  refine (c43 h x none 0 0 [] (Rows.nil _ _ _ _) (by simp)).mono ?_
  rintro en w4 ⟨e, rfl, rfl, rfl⟩
  refine ⟨_, rfl, ?_⟩
  by_cases t : S.isT x
  · have e0 : usableE S x [] = 0 := by simp only [usableE]; rw [if_pos (by rfl), if_pos (show 1 ≤ x ∧ x ≤ (S.things.length : Int) from t)]
    rw [e0]
    refine BoolK.mk (fun t => by cases t) (fun _ => ?_)
    refine (cAt h t L.th).mono ?_
    rintro en w25 ⟨o, rfl, rfl, g, s, rfl, hg, hgo, hc, hr⟩
    refine ⟨_, rfl, (S.th x).out, by rw [add_mk]; exact (hc 2 (by omega)).trans rfl, ?_, rfl⟩
    rw [CS.outE, if_pos t]
  · have e0 : usableE S x [] = 5 := by simp only [usableE]; rw [if_pos (by rfl), if_neg (show ¬ (1 ≤ x ∧ x ≤ (S.things.length : Int)) from t)]
    rw [e0]
    refine BoolK.mk (fun _ => ⟨?_, rfl⟩) (fun t => by cases t)
    rw [CS.outE, if_neg t]
end
end Go.Proofs.YtgggbmikmmljcaaGreat

namespace Go.Proofs.YtgggbmikmmljcaaGreat
open Go Go.V Go.Proofs
open Go.RowKit (Below)
/-! slices.Index[[]int,int] -/
def N71 (a1 : Option Addr) (l1 : Nat) (_c1 : Nat) (x2 : Int) (K : Int → World → Prop) (w : World) : Prop :=
 ∃ (I3 : Int → World → Prop) (μ4 : Int → World → Nat),
 (I3 0 w ∧ True) ∧
 ∀ (w5 : World) (x6 : Int), I3 x6 w5 →
 BoolK (decide ((x6 : Int) < (l1 : Nat)))
 ((0 ≤ (x6 : Int) ∧ (x6 : Int) < (l1 : Nat)) ∧
 AddrK a1 fun b7 =>
 ∃ (x8 : Int), w5.cell? (b7.add ((x6 : Int).toNat * 1)) = some (.int .i64 x8) ∧
 (BoolK ((x2 : Int) == x8)
 (K x6 w5)
 (I3 (IntKind.wrap .i64 (x6 + 1)) w5 ∧ μ4 (IntKind.wrap .i64 (x6 + 1)) w5 < μ4 x6 w5)))
 (K (-1) w5)
def ann71 : Ann := (.two .nil (.two (.two .nil (.one (.loop [(8, (.one (.int .i64)))] [0, 1, 7] (.two .nil (.two (.two .nil .nil) (.two (.one (.two .nil (.two .nil (.two (.two .nil .nil) .nil)))) .nil)))))) (.two .nil .nil)))
noncomputable def code71 : Code := match Tryz.f71.body with | some c => c | none => .skip
theorem wp71 (a1 : Option Addr) (l1 : Nat) (c1 : Nat) (x2 : Int) (K : Int → World → Prop) (w : World) : WP Tryz.prog tab code71 ann71 (fnQ tab Tryz.f71.results.toList [(.one (.int .i64))] K) (argE 0 [(.slice a1 l1 c1), (.int .i64 x2)]) w = N71 a1 l1 c1 x2 K w := by kernel_rfl
theorem calls71 (a1 : Option Addr) (l1 : Nat) (c1 : Nat) (x2 : Int) (K : Int → World → Prop) (w : World) (h : N71 a1 l1 c1 x2 K w) : Calls Tryz.prog 71 #[(.slice a1 l1 c1), (.int .i64 x2)] w fun en w' => ∃ (x9 : Int), en = .returned (.int .i64 x9) ∧ K x9 w' :=
 have e : (fun en w' => ExShs [(.one (.int .i64))] fun vs => en = .returned (tupled vs) ∧ ap [(.one (.int .i64))] K vs fun p => p w') = (fun (en : Ending) (w' : World) => ∃ (x9 : Int), en = .returned (.int .i64 x9) ∧ K x9 w') := by kernel_rfl
 e ▸ fn_sound tabOk mixed Tryz.func71 (by kernel_rfl : Tryz.f71.body = some code71) ann71 [(.slice a1 l1 c1), (.int .i64 x2)] [(.one (.int .i64))] K w (by kernel_rfl) ((wp71 a1 l1 c1 x2 K w).symm ▸ h)
end Go.Proofs.YtgggbmikmmljcaaGreat

namespace Go.Proofs.YtgggbmikmmljcaaGreat
open Go Go.V Go.Proofs
open Go.RowKit (Below)
/-! slices.Contains[[]int,int] -/
def N56 (a1 : Option Addr) (l1 : Nat) (c1 : Nat) (x2 : Int) (K : Bool → World → Prop) (w : World) : Prop :=
 Calls Tryz.prog 71 #[(.slice a1 l1 c1), (.int .i64 x2)] w fun e5 w4 =>
 ∃ (x3 : Int), e5 = .returned (.int .i64 x3) ∧
 (K (decide ((x3 : Int) ≥ 0)) w4)
def ann56 : Ann := (.two .nil (.two .nil .nil))
noncomputable def code56 : Code := match Tryz.f56.body with | some c => c | none => .skip
theorem wp56 (a1 : Option Addr) (l1 : Nat) (c1 : Nat) (x2 : Int) (K : Bool → World → Prop) (w : World) : WP Tryz.prog tab code56 ann56 (fnQ tab Tryz.f56.results.toList [(.one .bool)] K) (argE 0 [(.slice a1 l1 c1), (.int .i64 x2)]) w = N56 a1 l1 c1 x2 K w := by kernel_rfl
theorem calls56 (a1 : Option Addr) (l1 : Nat) (c1 : Nat) (x2 : Int) (K : Bool → World → Prop) (w : World) (h : N56 a1 l1 c1 x2 K w) : Calls Tryz.prog 56 #[(.slice a1 l1 c1), (.int .i64 x2)] w fun en w' => ∃ (p6 : Bool), en = .returned (.bool p6) ∧ K p6 w' :=
 have e : (fun en w' => ExShs [(.one .bool)] fun vs => en = .returned (tupled vs) ∧ ap [(.one .bool)] K vs fun p => p w') = (fun (en : Ending) (w' : World) => ∃ (p6 : Bool), en = .returned (.bool p6) ∧ K p6 w') := by kernel_rfl
 e ▸ fn_sound tabOk mixed Tryz.func56 (by kernel_rfl : Tryz.f56.body = some code56) ann56 [(.slice a1 l1 c1), (.int .i64 x2)] [(.one .bool)] K w (by kernel_rfl) ((wp56 a1 l1 c1 x2 K w).symm ▸ h)
end Go.Proofs.YtgggbmikmmljcaaGreat

namespace Go.Proofs.YtgggbmikmmljcaaGreat
open Go Go.V Go.Proofs
open Go.RowKit (Below)
/-! (*manystrand/count.Count).held -/
def N51 (o1 : Option Addr) (x2 : Int) (x3 : Int) (K : Bool → World → Prop) (w : World) : Prop :=
 AddrK o1 fun b4 =>
 ∃ (a5 : Option Addr) (l5 : Nat) (c5 : Nat), w.cell? (b4.add 5) = some (.slice a5 l5 c5) ∧
 (∃ (I6 : Int → World → Prop) (μ7 : Int → World → Nat),
 (I6 0 w ∧ True) ∧
 ∀ (w8 : World) (x9 : Int), I6 x9 w8 →
 BoolK (decide ((x9 : Int) < (l5 : Nat)))
 (AddrK o1 fun b10 =>
 ∃ (a11 : Option Addr) (l11 : Nat) (c11 : Nat), w8.cell? (b10.add 5) = some (.slice a11 l11 c11) ∧
 ((0 ≤ (x9 : Int) ∧ (x9 : Int) < (l11 : Nat)) ∧
 AddrK a11 fun b12 =>
 ∃ (x13 : Int), w8.cell? (b12.add ((x9 : Int).toNat * 7)) = some (.int .i64 x13) ∧
 (BoolK ((x13 : Int) == x2)
 (∃ (p14 : Bool), w8.cell? ((b12.add ((x9 : Int).toNat * 7)).add 5) = some (.bool p14) ∧
 (BoolK (!p14)
 (∃ (a15 : Option Addr) (l15 : Nat) (c15 : Nat), w8.cell? ((b12.add ((x9 : Int).toNat * 7)).add 6) = some (.slice a15 l15 c15) ∧
 (Calls Tryz.prog 56 #[(.slice a15 l15 c15), (.int .i64 x3)] w8 fun e18 w17 =>
 ∃ (p16 : Bool), e18 = .returned (.bool p16) ∧
 (BoolK p16
 (K true w17)
 (I6 (IntKind.wrap .i64 (x9 + 1)) w17 ∧ μ7 (IntKind.wrap .i64 (x9 + 1)) w17 < μ7 x9 w8))))
 (I6 (IntKind.wrap .i64 (x9 + 1)) w8 ∧ μ7 (IntKind.wrap .i64 (x9 + 1)) w8 < μ7 x9 w8)))
 (I6 (IntKind.wrap .i64 (x9 + 1)) w8 ∧ μ7 (IntKind.wrap .i64 (x9 + 1)) w8 < μ7 x9 w8))))
 (K false w8))
def ann51 : Ann := (.two .nil (.two (.two .nil (.one (.loop [(14, (.one (.int .i64)))] [0, 1, 2, 13] (.two .nil (.two (.two .nil .nil) (.two (.one (.two .nil (.two .nil (.two .nil (.two (.two .nil .nil) .nil))))) .nil)))))) (.two .nil .nil)))
noncomputable def code51 : Code := match Tryz.f51.body with | some c => c | none => .skip
theorem wp51 (o1 : Option Addr) (x2 : Int) (x3 : Int) (K : Bool → World → Prop) (w : World) : WP Tryz.prog tab code51 ann51 (fnQ tab Tryz.f51.results.toList [(.one .bool)] K) (argE 0 [(.pointer o1), (.int .i64 x2), (.int .i64 x3)]) w = N51 o1 x2 x3 K w := by kernel_rfl
theorem calls51 (o1 : Option Addr) (x2 : Int) (x3 : Int) (K : Bool → World → Prop) (w : World) (h : N51 o1 x2 x3 K w) : Calls Tryz.prog 51 #[(.pointer o1), (.int .i64 x2), (.int .i64 x3)] w fun en w' => ∃ (p19 : Bool), en = .returned (.bool p19) ∧ K p19 w' :=
 have e : (fun en w' => ExShs [(.one .bool)] fun vs => en = .returned (tupled vs) ∧ ap [(.one .bool)] K vs fun p => p w') = (fun (en : Ending) (w' : World) => ∃ (p19 : Bool), en = .returned (.bool p19) ∧ K p19 w') := by kernel_rfl
 e ▸ fn_sound tabOk mixed Tryz.func51 (by kernel_rfl : Tryz.f51.body = some code51) ann51 [(.pointer o1), (.int .i64 x2), (.int .i64 x3)] [(.one .bool)] K w (by kernel_rfl) ((wp51 o1 x2 x3 K w).symm ▸ h)
end Go.Proofs.YtgggbmikmmljcaaGreat

namespace Go.Proofs.YtgggbmikmmljcaaGreat
open Go Go.V Go.Proofs
open Go.RowKit (Below)
/-! (*manystrand/count.Count).heldBy -/
def N86 (o1 : Option Addr) (x2 : Int) (x3 : Int) (a4 : Option Addr) (l4 : Nat) (_c4 : Nat) (K : Bool → World → Prop) (w : World) : Prop :=
 AddrK o1 fun b5 =>
 ∃ (a6 : Option Addr) (l6 : Nat) (c6 : Nat), w.cell? (b5.add 5) = some (.slice a6 l6 c6) ∧
 (∃ (I7 : Int → World → Prop) (μ8 : Int → World → Nat),
 (I7 0 w ∧ True) ∧
 ∀ (w9 : World) (x10 : Int), I7 x10 w9 →
 BoolK (decide ((x10 : Int) < (l6 : Nat)))
 (AddrK o1 fun b11 =>
 ∃ (a12 : Option Addr) (l12 : Nat) (c12 : Nat), w9.cell? (b11.add 5) = some (.slice a12 l12 c12) ∧
 ((0 ≤ (x10 : Int) ∧ (x10 : Int) < (l12 : Nat)) ∧
 AddrK a12 fun b13 =>
 ∃ (x14 : Int), w9.cell? (b13.add ((x10 : Int).toNat * 7)) = some (.int .i64 x14) ∧
 (BoolK ((x14 : Int) == x3)
 (∃ (p15 : Bool), w9.cell? ((b13.add ((x10 : Int).toNat * 7)).add 5) = some (.bool p15) ∧
 (BoolK (!p15)
 ((0 ≤ (IntKind.wrap .i64 (x10 + 1) : Int) ∧ (IntKind.wrap .i64 (x10 + 1) : Int) < (l4 : Nat)) ∧
 AddrK a4 fun b16 =>
 ∃ (p17 : Bool), w9.cell? (b16.add ((IntKind.wrap .i64 (x10 + 1) : Int).toNat * 1)) = some (.bool p17) ∧
 (BoolK (!p17)
 (∃ (a18 : Option Addr) (l18 : Nat) (c18 : Nat), w9.cell? ((b13.add ((x10 : Int).toNat * 7)).add 6) = some (.slice a18 l18 c18) ∧
 (Calls Tryz.prog 56 #[(.slice a18 l18 c18), (.int .i64 x2)] w9 fun e21 w20 =>
 ∃ (p19 : Bool), e21 = .returned (.bool p19) ∧
 (BoolK p19
 (K true w20)
 (I7 (IntKind.wrap .i64 (x10 + 1)) w20 ∧ μ8 (IntKind.wrap .i64 (x10 + 1)) w20 < μ8 x10 w9))))
 (I7 (IntKind.wrap .i64 (x10 + 1)) w9 ∧ μ8 (IntKind.wrap .i64 (x10 + 1)) w9 < μ8 x10 w9)))
 (I7 (IntKind.wrap .i64 (x10 + 1)) w9 ∧ μ8 (IntKind.wrap .i64 (x10 + 1)) w9 < μ8 x10 w9)))
 (I7 (IntKind.wrap .i64 (x10 + 1)) w9 ∧ μ8 (IntKind.wrap .i64 (x10 + 1)) w9 < μ8 x10 w9))))
 (K false w9))
def ann86 : Ann := (.two .nil (.two (.two .nil (.one (.loop [(16, (.one (.int .i64)))] [0, 1, 2, 3, 15] (.two .nil (.two (.two .nil .nil) (.two (.one (.two .nil (.two .nil (.two .nil (.two (.two .nil .nil) .nil))))) .nil)))))) (.two .nil .nil)))
noncomputable def code86 : Code := match Tryz.f86.body with | some c => c | none => .skip
theorem wp86 (o1 : Option Addr) (x2 : Int) (x3 : Int) (a4 : Option Addr) (l4 : Nat) (c4 : Nat) (K : Bool → World → Prop) (w : World) : WP Tryz.prog tab code86 ann86 (fnQ tab Tryz.f86.results.toList [(.one .bool)] K) (argE 0 [(.pointer o1), (.int .i64 x2), (.int .i64 x3), (.slice a4 l4 c4)]) w = N86 o1 x2 x3 a4 l4 c4 K w := by kernel_rfl
theorem calls86 (o1 : Option Addr) (x2 : Int) (x3 : Int) (a4 : Option Addr) (l4 : Nat) (c4 : Nat) (K : Bool → World → Prop) (w : World) (h : N86 o1 x2 x3 a4 l4 c4 K w) : Calls Tryz.prog 86 #[(.pointer o1), (.int .i64 x2), (.int .i64 x3), (.slice a4 l4 c4)] w fun en w' => ∃ (p22 : Bool), en = .returned (.bool p22) ∧ K p22 w' :=
 have e : (fun en w' => ExShs [(.one .bool)] fun vs => en = .returned (tupled vs) ∧ ap [(.one .bool)] K vs fun p => p w') = (fun (en : Ending) (w' : World) => ∃ (p22 : Bool), en = .returned (.bool p22) ∧ K p22 w') := by kernel_rfl
 e ▸ fn_sound tabOk mixed Tryz.func86 (by kernel_rfl : Tryz.f86.body = some code86) ann86 [(.pointer o1), (.int .i64 x2), (.int .i64 x3), (.slice a4 l4 c4)] [(.one .bool)] K w (by kernel_rfl) ((wp86 o1 x2 x3 a4 l4 c4 K w).symm ▸ h)
end Go.Proofs.YtgggbmikmmljcaaGreat

namespace Go.Proofs.YtgggbmikmmljcaaGreat
open Go Go.V Go.Proofs
open Go.RowKit (Below)
/-! (*manystrand/count.Count).dead -/
def N46 (o1 : Option Addr) (K : Option Addr → Nat → Nat → World → Prop) (w : World) : Prop :=
 AddrK o1 fun b2 =>
 ∃ (a3 : Option Addr) (l3 : Nat) (c3 : Nat), w.cell? (b2.add 5) = some (.slice a3 l3 c3) ∧
 ((0 ≤ (IntKind.wrap .i64 ((l3 : Nat) + 1) : Int) ∧ (IntKind.wrap .i64 ((l3 : Nat) + 1) : Int) ≤ IntKind.wrap .i64 ((l3 : Nat) + 1) ∧ ((1 : Nat) : Int) * (IntKind.wrap .i64 ((l3 : Nat) + 1)) ≤ 281474976710656 ∧ (IntKind.wrap .i64 ((l3 : Nat) + 1) : Int) ≤ 9223372036854775807) ∧
 AllocK w (madeCells (#[.bool false]) ((IntKind.wrap .i64 ((l3 : Nat) + 1) : Int).toNat * 1)) 4 fun b4 w5 =>
 ∃ (I6 : Bool → World → Prop) (μ7 : Bool → World → Nat),
 (I6 true w5 ∧ True) ∧
 ∀ (w8 : World) (p9 : Bool), I6 p9 w8 →
 BoolK p9
 (AddrK o1 fun b10 =>
 ∃ (a11 : Option Addr) (l11 : Nat) (c11 : Nat), w8.cell? (b10.add 5) = some (.slice a11 l11 c11) ∧
 (∃ (I12 : Bool → Int → World → Prop) (μ13 : Bool → Int → World → Nat),
 (I12 false 0 w8 ∧ True) ∧
 ∀ (w14 : World) (p15 : Bool) (x16 : Int), I12 p15 x16 w14 →
 BoolK (decide ((x16 : Int) < (l11 : Nat)))
 (AddrK o1 fun b17 =>
 ∃ (a18 : Option Addr) (l18 : Nat) (c18 : Nat), w14.cell? (b17.add 5) = some (.slice a18 l18 c18) ∧
 ((0 ≤ (x16 : Int) ∧ (x16 : Int) < (l18 : Nat)) ∧
 AddrK a18 fun b19 =>
 (0 ≤ (IntKind.wrap .i64 (x16 + 1) : Int) ∧ (IntKind.wrap .i64 (x16 + 1) : Int) < ((IntKind.wrap .i64 ((l3 : Nat) + 1) : Int).toNat : Nat)) ∧
 ∃ (p20 : Bool), w14.cell? (b4.add ((IntKind.wrap .i64 (x16 + 1) : Int).toNat * 1)) = some (.bool p20) ∧
 (BoolK p20
 (I12 p15 (IntKind.wrap .i64 (x16 + 1)) w14 ∧ μ13 p15 (IntKind.wrap .i64 (x16 + 1)) w14 < μ13 p15 x16 w14)
 (∃ (p21 : Bool), w14.cell? ((b19.add ((x16 : Int).toNat * 7)).add 5) = some (.bool p21) ∧
 (BoolK (!p21)
 (∃ (p22 : Bool), w14.cell? ((b19.add ((x16 : Int).toNat * 7)).add 4) = some (.bool p22) ∧
 (BoolK p22
 (I12 p15 (IntKind.wrap .i64 (x16 + 1)) w14 ∧ μ13 p15 (IntKind.wrap .i64 (x16 + 1)) w14 < μ13 p15 x16 w14)
 (∃ (p23 : Bool), w14.cell? ((b19.add ((x16 : Int).toNat * 7)).add 1) = some (.bool p23) ∧
 (BoolK p23
 (I12 p15 (IntKind.wrap .i64 (x16 + 1)) w14 ∧ μ13 p15 (IntKind.wrap .i64 (x16 + 1)) w14 < μ13 p15 x16 w14)
 (∃ (x24 : Int), w14.cell? ((b19.add ((x16 : Int).toNat * 7)).add 2) = some (.int .i64 x24) ∧
 (BoolK (decide ((x24 : Int) > 0))
 (I12 p15 (IntKind.wrap .i64 (x16 + 1)) w14 ∧ μ13 p15 (IntKind.wrap .i64 (x16 + 1)) w14 < μ13 p15 x16 w14)
 (∃ (x25 : Int), w14.cell? (b19.add ((x16 : Int).toNat * 7)) = some (.int .i64 x25) ∧
 (Calls Tryz.prog 86 #[(.pointer o1), (.int .i64 (IntKind.wrap .i64 (x16 + 1))), (.int .i64 x25), (.slice (some b4) ((IntKind.wrap .i64 ((l3 : Nat) + 1) : Int).toNat) ((IntKind.wrap .i64 ((l3 : Nat) + 1) : Int).toNat))] w14 fun e28 w27 =>
 ∃ (p26 : Bool), e28 = .returned (.bool p26) ∧
 (BoolK p26
 (I12 p15 (IntKind.wrap .i64 (x16 + 1)) w27 ∧ μ13 p15 (IntKind.wrap .i64 (x16 + 1)) w27 < μ13 p15 x16 w14)
 ((0 ≤ (IntKind.wrap .i64 (x16 + 1) : Int) ∧ (IntKind.wrap .i64 (x16 + 1) : Int) < ((IntKind.wrap .i64 ((l3 : Nat) + 1) : Int).toNat : Nat)) ∧
 SetK w27 (b4.add ((IntKind.wrap .i64 (x16 + 1) : Int).toNat * 1)) (.bool true) fun w29 =>
 I12 true (IntKind.wrap .i64 (x16 + 1)) w29 ∧ μ13 true (IntKind.wrap .i64 (x16 + 1)) w29 < μ13 p15 x16 w14))))))))))
 ((0 ≤ (IntKind.wrap .i64 (x16 + 1) : Int) ∧ (IntKind.wrap .i64 (x16 + 1) : Int) < ((IntKind.wrap .i64 ((l3 : Nat) + 1) : Int).toNat : Nat)) ∧
 SetK w14 (b4.add ((IntKind.wrap .i64 (x16 + 1) : Int).toNat * 1)) (.bool true) fun w30 =>
 I12 true (IntKind.wrap .i64 (x16 + 1)) w30 ∧ μ13 true (IntKind.wrap .i64 (x16 + 1)) w30 < μ13 p15 x16 w14))))))
 (I6 p15 w14 ∧ μ7 p15 w14 < μ7 p9 w8)))
 (K (some b4) ((IntKind.wrap .i64 ((l3 : Nat) + 1) : Int).toNat) ((IntKind.wrap .i64 ((l3 : Nat) + 1) : Int).toNat) w8))
def ann46 : Ann := (.two .nil (.two .nil (.two (.two .nil (.one (.loop [(4, (.one .bool))] [0, 3] (.two (.two .nil (.two .nil .nil)) (.one (.two .nil (.two .nil (.one (.loop [(4, (.one .bool)), (20, (.one (.int .i64)))] [0, 3, 19] (.two .nil (.two (.two .nil .nil) (.two (.one (.two .nil (.two .nil (.two (.two .nil (.two .nil .nil)) .nil)))) .nil)))))))))))) (.two .nil .nil))))
noncomputable def code46 : Code := match Tryz.f46.body with | some c => c | none => .skip
theorem wp46 (o1 : Option Addr) (K : Option Addr → Nat → Nat → World → Prop) (w : World) : WP Tryz.prog tab code46 ann46 (fnQ tab Tryz.f46.results.toList [(.one .slice)] K) (argE 0 [(.pointer o1)]) w = N46 o1 K w := by kernel_rfl
theorem calls46 (o1 : Option Addr) (K : Option Addr → Nat → Nat → World → Prop) (w : World) (h : N46 o1 K w) : Calls Tryz.prog 46 #[(.pointer o1)] w fun en w' => ∃ (a31 : Option Addr), ∃ (l31 : Nat), ∃ (c31 : Nat), en = .returned (.slice a31 l31 c31) ∧ K a31 l31 c31 w' :=
 have e : (fun en w' => ExShs [(.one .slice)] fun vs => en = .returned (tupled vs) ∧ ap [(.one .slice)] K vs fun p => p w') = (fun (en : Ending) (w' : World) => ∃ (a31 : Option Addr), ∃ (l31 : Nat), ∃ (c31 : Nat), en = .returned (.slice a31 l31 c31) ∧ K a31 l31 c31 w') := by kernel_rfl
 e ▸ fn_sound tabOk mixed Tryz.func46 (by kernel_rfl : Tryz.f46.body = some code46) ann46 [(.pointer o1)] [(.one .slice)] K w (by kernel_rfl) ((wp46 o1 K w).symm ▸ h)
end Go.Proofs.YtgggbmikmmljcaaGreat

namespace Go.Proofs.YtgggbmikmmljcaaGreat
open Go Go.V Go.Proofs
open Go.RowKit (Below)
/-! (*manystrand/count.Count).State -/
def N13 (o1 : Option Addr) (x2 : Int) (K : ByteArray → World → Prop) (w : World) : Prop :=
 ∃ (J3 : Bool → World → Prop),
 (∀ (w4 : World) (p5 : Bool), J3 p5 w4 →
 BoolK p5
 (K (⟨#[]⟩ : ByteArray) w4)
 (Calls Tryz.prog 44 #[(.pointer o1), (.int .i64 x2)] w4 fun e8 w7 =>
 ∃ (o6 : Option Addr), e8 = .returned (.pointer o6) ∧
 (AddrK o6 fun b9 =>
 ∃ (p10 : Bool), w7.cell? (b9.add 4) = some (.bool p10) ∧
 (BoolK p10
 (K (⟨#[101, 120, 112, 105, 114, 101, 100]⟩ : ByteArray) w7)
 (Calls Tryz.prog 46 #[(.pointer o1)] w7 fun e13 w12 =>
 ∃ (a11 : Option Addr), ∃ (l11 : Nat), ∃ (c11 : Nat), e13 = .returned (.slice a11 l11 c11) ∧
 ((0 ≤ (x2 : Int) ∧ (x2 : Int) < (l11 : Nat)) ∧
 AddrK a11 fun b14 =>
 ∃ (p15 : Bool), w12.cell? (b14.add ((x2 : Int).toNat * 1)) = some (.bool p15) ∧
 (BoolK p15
 (K (⟨#[100, 101, 97, 100]⟩ : ByteArray) w12)
 (K (⟨#[108, 105, 118, 101]⟩ : ByteArray) w12)))))))) ∧
 (Calls Tryz.prog 21 #[(.pointer o1)] w fun e18 w17 =>
 ∃ (p16 : Bool), e18 = .returned (.bool p16) ∧
 (BoolK p16
 (J3 true w17)
 (Calls Tryz.prog 45 #[(.pointer o1), (.int .i64 x2)] w17 fun e21 w20 =>
 ∃ (p19 : Bool), e21 = .returned (.bool p19) ∧
 (J3 (!p19) w20))))
def ann13 : Ann := (.two .nil (.two (.one (.cut [(5, (.one .bool))] [0, 1] .nil (.two (.two .nil .nil) (.two .nil (.two (.two .nil .nil) (.two .nil (.two (.two .nil .nil) .nil))))))) (.two .nil .nil)))
noncomputable def code13 : Code := match Tryz.f13.body with | some c => c | none => .skip
theorem wp13 (o1 : Option Addr) (x2 : Int) (K : ByteArray → World → Prop) (w : World) : WP Tryz.prog tab code13 ann13 (fnQ tab Tryz.f13.results.toList [(.one .str)] K) (argE 0 [(.pointer o1), (.int .i64 x2)]) w = N13 o1 x2 K w := by kernel_rfl
theorem calls13 (o1 : Option Addr) (x2 : Int) (K : ByteArray → World → Prop) (w : World) (h : N13 o1 x2 K w) : Calls Tryz.prog 13 #[(.pointer o1), (.int .i64 x2)] w fun en w' => ∃ (s22 : ByteArray), en = .returned (.string s22) ∧ K s22 w' :=
 have e : (fun en w' => ExShs [(.one .str)] fun vs => en = .returned (tupled vs) ∧ ap [(.one .str)] K vs fun p => p w') = (fun (en : Ending) (w' : World) => ∃ (s22 : ByteArray), en = .returned (.string s22) ∧ K s22 w') := by kernel_rfl
 e ▸ fn_sound tabOk mixed Tryz.func13 (by kernel_rfl : Tryz.f13.body = some code13) ann13 [(.pointer o1), (.int .i64 x2)] [(.one .str)] K w (by kernel_rfl) ((wp13 o1 x2 K w).symm ▸ h)
end Go.Proofs.YtgggbmikmmljcaaGreat

namespace Go.Proofs.YtgggbmikmmljcaaGreat
open Go Go.V Go.Proofs
open Go.RowKit (Below)
section
variable {w w' : World} {own own' : OwnM Role} {r : Raw} {S : CS}
def idxE (xs : List Int) (x : Int) : Int := if x ∈ xs then (xs.idxOf x : Int) else -1
theorem mem_take_succ {xs : List Int} {x : Int} {k : Nat} (hk : k < xs.length) : x ∈ xs.take (k + 1) ↔ x ∈ xs.take k ∨ x = xs[k] := by
  rw [List.take_add_one, List.getElem?_eq_getElem hk, List.mem_append]; simp
theorem idxOf_at {xs : List Int} {x : Int} {k : Nat} (hk : k < xs.length) (h1 : x ∉ xs.take k) (h2 : xs[k] = x) : xs.idxOf x = k := by
  induction xs generalizing k with
  | nil => simp at hk
  | cons y ys ih =>
    cases k with
    | zero => simp at h2; simp [h2]
    | succ k =>
      simp only [List.length_cons] at hk
      rw [List.take_succ_cons, List.mem_cons, not_or] at h1
      have e1 : (y == x) = false := beq_eq_false_iff_ne.2 fun e => h1.1 e.symm
      rw [List.idxOf_cons, e1, ih (by omega) h1.2 (by simpa using h2)]; rfl
theorem c71 (a : Option Addr) (l c : Nat) (xs : List Int) (x : Int) (hx : Ints w a l xs) (hl : xs.length ≤ 1000000000) :
    Calls Tryz.prog 71 #[.slice a l c, .int .i64 x] w fun en w' => ∃ n, en = .returned (.int .i64 n) ∧ (n = idxE xs x ∧ w' = w) := by
  refine calls71 _ _ _ _ _ w ?_
  have e1 := hx.1
  refine ⟨fun i w' => ∃ k : Nat, i = k ∧ k ≤ xs.length ∧ x ∉ xs.take k ∧ w' = w, fun i _ => xs.length - i.toNat, ⟨⟨0, rfl, Nat.zero_le _, by simp, rfl⟩, trivial⟩, ?_⟩
  rintro w5 i ⟨k, rfl, hk, hn, rfl⟩
  refine BoolK.mk (fun t => ?_) (fun t => ?_)
  · have hlt : k < xs.length := by simp at t; omega
    obtain ⟨b, o, rfl, g⟩ := intAt hx w5 (Ext.refl _) hlt
    refine ⟨⟨by omega, by omega⟩, ?_⟩
    refine ⟨xs[k], by rw [add_mk]; simpa using g, BoolK.mk (fun t2 => ⟨?_, rfl⟩) (fun t2 => ?_)⟩
    · have t2 : x = xs[k] := beq_iff_eq.1 t2
      have hm : x ∈ xs := t2 ▸ List.getElem_mem hlt
      rw [idxE, if_pos hm, idxOf_at hlt hn t2.symm]
    · have t2 : x ≠ xs[k] := beq_eq_false_iff_ne.1 t2
      rw [wrap_succ (by omega)]
      exact ⟨⟨k + 1, rfl, by omega, by rw [mem_take_succ hlt, not_or]; exact ⟨hn, t2⟩, rfl⟩, by simp; omega⟩
  · have : k = xs.length := by simp at t; omega
    subst this
    rw [List.take_length] at hn
    exact ⟨by rw [idxE, if_neg hn], rfl⟩
theorem c56 (a : Option Addr) (l c : Nat) (xs : List Int) (x : Int) (hx : Ints w a l xs) (hl : xs.length ≤ 1000000000) :
    Calls Tryz.prog 56 #[.slice a l c, .int .i64 x] w fun en w' => ∃ p, en = .returned (.bool p) ∧ (p = decide (x ∈ xs) ∧ w' = w) := by
  refine calls56 _ _ _ _ _ w ?_
  refine (c71 a l c xs x hx hl).mono ?_
  rintro en w4 ⟨n, rfl, rfl, rfl⟩
  refine ⟨_, rfl, ?_, rfl⟩
  rw [decide_eq_decide, idxE]
  split <;> rename_i h
  · exact ⟨fun _ => h, fun _ => by omega⟩
  · exact ⟨fun k => by omega, fun k => absurd k h⟩
theorem RowR.ints {ρ : Role} {e : TypeId} {s : SL} {xs : List Int} (h : RowR own ρ e 1 eI w s xs) : Ints w s.1 s.2.1 xs :=
  h.1.rows eI_len RInt rfl fun f i x y hx hy hf => by
    rw [hx] at hy; cases hy
    exact hf 0 (by omega)
structure Lim2 (S : CS) : Prop extends Lim S where
  on : ∀ t ∈ S.things, t.on.length ≤ 1000000000
def CS.heldE (S : CS) (site x : Int) : Bool := S.things.any fun t => decide (t.owner = site) && !t.swept && decide (x ∈ t.on)
theorem any_take {α : Type} {xs : List α} {p : α → Bool} {k : Nat} (hk : k < xs.length) : (xs.take (k + 1)).any p = ((xs.take k).any p || p xs[k]) := by
  rw [List.take_add_one, List.getElem?_eq_getElem hk, List.any_append]; simp
theorem any_yes {α : Type} {xs : List α} {p : α → Bool} {k : Nat} (hk : k < xs.length) (h : p xs[k] = true) : xs.any p = true := List.any_eq_true.2 ⟨_, List.getElem_mem hk, h⟩
theorem CR.thK (h : CR w own r S) {k : Nat} (hk : k < S.things.length) : ∃ g l c s, r.th = (some ⟨g, 0, none⟩, l, c) ∧ l = S.things.length ∧ own g = some .things ∧ (∀ j, j < 7 → w.cell? (((⟨g, 0, none⟩ : Addr).add (k * 7)).add j) = (eTS S.things[k] s)[j]?) ∧
    w.cell? ((⟨g, 0, none⟩ : Addr).add (k * 7)) = some (.int .i64 S.things[k].owner) ∧ RowR own (.on k) 3 1 eI w s S.things[k].on := by
  obtain ⟨g, s, hg, hgo, hc, hr⟩ := h.thAt2 (x := (k : Int) + 1) ⟨by omega, by omega⟩
  have e : (((k : Int) + 1 - 1).toNat) = k := by omega
  have et : S.th ((k : Int) + 1) = S.things[k] := CS.th_get hk e
  rw [e] at hg hc hr; rw [et] at hc hr
  have hl := h.thl2
  obtain ⟨g2, l, c, y, hs, ho, hg2, hy, hok, hc2⟩ := h.thAt hk
  rw [hs] at hl
  have : g2 = g := by rw [Raw.thp, hs] at hg; simpa [add_mk] using hg
  subst this
  exact ⟨g2, l, c, s, hs, hl, ho, fun j hj => by rw [add_mk, add_mk, Nat.zero_add]; exact hc j hj, by rw [add_mk, Nat.zero_add]; exact (hc 0 (by omega)).trans rfl, hr⟩
theorem c51 (h : CR w own r S) (L : Lim2 S) (site x : Int) : Calls Tryz.prog 51 #[cp r, .int .i64 site, .int .i64 x] w fun en w' => ∃ p, en = .returned (.bool p) ∧ (p = S.heldE site x ∧ w' = w) := by
  refine calls51 _ _ _ _ w ?_
  have hl := h.thl2
  have Lt := L.th
  refine ⟨_, _, _, h.cell 5 rfl, ?_⟩
  refine ⟨fun i w' => ∃ k : Nat, i = k ∧ k ≤ S.things.length ∧ (S.things.take k).any (fun t => decide (t.owner = site) && !t.swept && decide (x ∈ t.on)) = false ∧ w' = w, fun i _ => S.things.length - i.toNat, ⟨⟨0, rfl, Nat.zero_le _, by simp, rfl⟩, trivial⟩, ?_⟩
  rintro w5 i ⟨k, rfl, hk, hn, rfl⟩
  refine BoolK.mk (fun t => ?_) (fun t => ?_)
  · have hlt : k < S.things.length := by rw [hl] at t; simp at t; omega
    obtain ⟨g, l, c, s, hs, hl2, hgo, hc, hc0, hr⟩ := h.thK hlt
    refine ⟨_, _, _, h.cell 5 rfl, ⟨by omega, by rw [hl]; omega⟩, ?_⟩
    have next : S.things[k].owner = site → S.things[k].swept = false → x ∉ S.things[k].on → False ∨ True := fun _ _ _ => .inr trivial
    have step : (decide (S.things[k].owner = site) && !S.things[k].swept && decide (x ∈ S.things[k].on)) = false → (∃ k2 : Nat, IntKind.wrap .i64 ((k : Int) + 1) = k2 ∧ k2 ≤ S.things.length ∧ (S.things.take k2).any (fun t => decide (t.owner = site) && !t.swept && decide (x ∈ t.on)) = false ∧ w5 = w5) ∧ S.things.length - (IntKind.wrap .i64 ((k : Int) + 1)).toNat < S.things.length - (k : Int).toNat := fun e => by
      rw [wrap_succ (by omega)]
      exact ⟨⟨k + 1, rfl, by omega, by rw [any_take hlt, hn, e]; rfl, rfl⟩, by simp; omega⟩
    rw [hs]
    refine ⟨_, hc0, BoolK.mk (fun t1 => ?_) (fun t1 => step ?_)⟩
    · refine ⟨_, (hc 5 (by omega)).trans rfl, BoolK.mk (fun t2 => ?_) (fun t2 => step ?_)⟩
      · refine ⟨_, _, _, (hc 6 (by omega)).trans rfl, ?_⟩
        refine (c56 _ _ _ S.things[k].on x (RowR.ints hr) (L.on _ (List.getElem_mem hlt))).mono ?_
        rintro en w17 ⟨p, rfl, rfl, rfl⟩
        refine ⟨_, rfl, BoolK.mk (fun t3 => ⟨?_, rfl⟩) (fun t3 => step ?_)⟩
        · symm; rw [CS.heldE]; refine any_yes hlt ?_
          rw [t3, t2, decide_eq_true (beq_iff_eq.1 t1)]; rfl
        · rw [t3, Bool.and_false]
      · rw [t2, Bool.and_false, Bool.false_and]
    · rw [decide_eq_false (beq_eq_false_iff_ne.1 t1)]; rfl
  · have : k = S.things.length := by rw [hl] at t; simp at t; omega
    subst this
    rw [List.take_length] at hn
    exact ⟨hn.symm, rfl⟩
/-! ### dead -/
def bools (D : List Bool) : Array Value := (D.map Value.bool).toArray
theorem bools_get {D : List Bool} {i : Nat} (hi : i < D.length) : (bools D)[i]? = some (.bool D[i]) := by simp [bools, hi]
theorem bools_set {D : List Bool} {i : Nat} {v : Bool} : (bools D).setIfInBounds i (.bool v) = bools (D.set i v) := by simp [bools, List.map_set]
def CS.Held (S : CS) (x : Int) : Prop := ∃ t ∈ S.things, t.swept = false ∧ x ∈ t.on
theorem c86 (h : CR w own r S) (L : Lim2 S) (x site : Int) {b l c t : Nat} {D : List Bool} (hD : Blk w b (bools D) t) (hl1 : D.length = S.things.length + 1) (hl2 : l = D.length) :
    Calls Tryz.prog 86 #[cp r, .int .i64 x, .int .i64 site, .slice (some ⟨b, 0, none⟩) l c] w fun en w' => ∃ p, en = .returned (.bool p) ∧ ((p = true → S.Held x) ∧ w' = w) := by
  refine calls86 _ _ _ _ _ _ _ w ?_
  have hl := h.thl2
  have Lt := L.th
  refine ⟨_, _, _, h.cell 5 rfl, ?_⟩
  refine ⟨fun i w' => ∃ k : Nat, i = k ∧ k ≤ S.things.length ∧ w' = w, fun i _ => S.things.length - i.toNat, ⟨⟨0, rfl, Nat.zero_le _, rfl⟩, trivial⟩, ?_⟩
  rintro w5 i ⟨k, rfl, hk, rfl⟩
  refine BoolK.mk (fun t => ?_) (fun t => ⟨(fun e => by cases e), rfl⟩)
  have hlt : k < S.things.length := by rw [hl] at t; simp at t; omega
  obtain ⟨g, l, c, s, hs, hl3, hgo, hc, hc0, hr⟩ := h.thK hlt
  refine ⟨_, _, _, h.cell 5 rfl, ⟨by omega, by rw [hl]; omega⟩, ?_⟩
  have step : (∃ k2 : Nat, IntKind.wrap .i64 ((k : Int) + 1) = k2 ∧ k2 ≤ S.things.length ∧ w5 = w5) ∧ S.things.length - (IntKind.wrap .i64 ((k : Int) + 1)).toNat < S.things.length - (k : Int).toNat := by
    rw [wrap_succ (by omega)]
    exact ⟨⟨k + 1, rfl, by omega, rfl⟩, by simp; omega⟩
  rw [hs]
  refine ⟨_, hc0, BoolK.mk (fun t1 => ?_) (fun t1 => step)⟩
  refine ⟨_, (hc 5 (by omega)).trans rfl, BoolK.mk (fun t2 => ?_) (fun t2 => step)⟩
  rw [wrap_succ (by omega)]
  refine ⟨⟨by omega, by omega⟩, ?_⟩
  refine ⟨_, by rw [add_mk, Nat.zero_add, Int.toNat_natCast, Nat.mul_one, hD.cell, bools_get (by omega)], BoolK.mk (fun t4 => ?_) (fun t4 => by rw [← wrap_succ (by omega)]; exact step)⟩
  refine ⟨_, _, _, (hc 6 (by omega)).trans rfl, ?_⟩
  refine (c56 _ _ _ S.things[k].on x (RowR.ints hr) (L.on _ (List.getElem_mem hlt))).mono ?_
  rintro en w17 ⟨p, rfl, rfl, rfl⟩
  refine ⟨_, rfl, BoolK.mk (fun t3 => ⟨fun _ => ?_, rfl⟩) (fun t3 => by rw [← wrap_succ (by omega)]; exact step)⟩
  exact ⟨_, List.getElem_mem hlt, by simpa using t2, of_decide_eq_true t3⟩
end
end Go.Proofs.YtgggbmikmmljcaaGreat

namespace Go.Proofs.YtgggbmikmmljcaaGreat
open Go Go.V Go.Proofs
open Go.RowKit (Below)
section
variable {w w' : World} {own own' : OwnM Role} {r : Raw} {S : CS}
def cntF (D : List Bool) : Nat := D.countP (fun x => !x)
theorem cntF_set {D : List Bool} {i : Nat} (h : D[i]? = some false) : cntF (D.set i true) < cntF D := by
  induction D generalizing i with
  | nil => simp at h
  | cons x xs ih =>
    cases i with
    | zero => simp at h; subst h; simp [cntF]
    | succ i =>
      have := ih (by simpa using h)
      unfold cntF at this ⊢
      rw [List.set_cons_succ, List.countP_cons, List.countP_cons]; omega
def Free (t : Th) : Prop := t.swept = true ∨ (t.expired = false ∧ t.holds = false ∧ t.out ≤ 0)
def Alive (S : CS) (k : Nat) (t : Th) : Prop := t.swept = false ∧ (t.expired = true ∨ t.holds = true ∨ t.out > 0 ∨ S.Held ((k : Int) + 1))
structure DeadOk (S : CS) (D : List Bool) : Prop where
  len : D.length = S.things.length + 1
  free : ∀ k t, S.things[k]? = some t → D[k + 1]? = some true → Free t
  alive : ∀ k t, S.things[k]? = some t → D[k + 1]? = some false → Alive S k t
def decB (w : World) (b n : Nat) : List Bool := (List.range n).map fun j => match w.cell? ⟨b, j, none⟩ with | some (.bool true) => true | _ => false
theorem decB_eq {b t : Nat} {D : List Bool} (h : Blk w b (bools D) t) : decB w b D.length = D := by
  apply List.ext_getElem?; intro i
  unfold decB
  rw [List.getElem?_map]
  rcases Nat.lt_or_ge i D.length with hi | hi
  · rw [List.getElem?_range hi, List.getElem?_eq_getElem hi]
    simp only [Option.map_some, h.cell, bools_get hi]
    cases D[i] <;> rfl
  · rw [List.getElem?_eq_none (by simpa using hi), List.getElem?_eq_none hi]; rfl
theorem made_bools (n : Nat) : madeCells #[.bool false] (n * 1) = bools (List.replicate n false) := by
  apply Array.ext'
  rw [Nat.mul_one, toList_madeCells_one]; simp [bools]
theorem CR.but {b : Nat} (h : CR w own r S) (hb : own b = none) (k : But b w w') : CR w' own r S :=
  h.frame (by rw [k.size]; exact Nat.le_refl _) fun i _ hi => k.block i fun e => hi (e ▸ hb)
theorem c46 (h : CR w own r S) (L : Lim2 S) : Calls Tryz.prog 46 #[cp r] w fun en w' => ∃ a l c, en = .returned (.slice a l c) ∧ (∃ b D, a = some ⟨b, 0, none⟩ ∧ l = D.length ∧ c = D.length ∧ Blk w' b (bools D) 4 ∧ DeadOk S D ∧ Ext w w' ∧ w.heap.size ≤ b) := by
  refine calls46 _ _ w ?_
  have hl := h.thl2
  have Lt := L.th
  refine ⟨_, _, _, h.cell 5 rfl, ?_⟩
  have e0 : IntKind.wrap .i64 (((r.th.2.1 : Nat) : Int) + 1) = ((S.things.length + 1 : Nat) : Int) := by rw [hl]; exact wrap_succ (by omega)
  rw [e0, Int.toNat_natCast]
  refine ⟨by omega, AllocK.mk fun b w5 hb hB hx5 => ?_⟩
  rw [made_bools] at hB
  have hbn : own b = none := h.top b (by omega)
  have P2u : ∀ {D : List Bool} {k : Nat}, (∀ i t, i < k → S.things[i]? = some t → D[i + 1]? = some false → Alive S i t) → ∀ {j : Nat}, (∀ i t, i < k → S.things[i]? = some t → (D.set j true)[i + 1]? = some false → Alive S i t) := fun hP j i t hi ht hD => by
    rw [List.getElem?_set] at hD
    split at hD
    · split at hD <;> cases hD
    · exact hP i t hi ht hD
  refine ⟨fun p w' => ∃ D, CR w' own r S ∧ Ext w w' ∧ Blk w' b (bools D) 4 ∧ D.length = S.things.length + 1 ∧ (∀ k t, S.things[k]? = some t → D[k + 1]? = some true → Free t) ∧ (p = false → ∀ k t, S.things[k]? = some t → D[k + 1]? = some false → Alive S k t),
    fun p w' => cntF (decB w' b (S.things.length + 1)) + (if p then 1 else 0), ⟨⟨List.replicate (S.things.length + 1) false, h.ext hx5, hx5, hB, by simp, fun k t _ hD => ?_, fun e => by cases e⟩, trivial⟩, ?_⟩
  · have := List.getElem?_replicate (a := false) (n := S.things.length + 1) (i := k + 1)
    rw [this] at hD; split at hD <;> cases hD
  rintro w8 p9 ⟨D, h8, hx8, hB8, hlen, hP1, hP2⟩
  refine BoolK.mk (fun t9 => ?_) (fun t9 => ?_)
  · subst t9
    refine ⟨_, _, _, h8.cell 5 rfl, ?_⟩
    refine ⟨fun p i w' => ∃ (k : Nat) (D' : List Bool), i = k ∧ k ≤ S.things.length ∧ CR w' own r S ∧ Ext w w' ∧ Blk w' b (bools D') 4 ∧ D'.length = S.things.length + 1 ∧ (∀ k t, S.things[k]? = some t → D'[k + 1]? = some true → Free t) ∧
        (∀ i t, i < k → S.things[i]? = some t → D'[i + 1]? = some false → Alive S i t) ∧ cntF D' ≤ cntF D ∧ (p = true → cntF D' < cntF D), fun _ i _ => S.things.length - i.toNat,
      ⟨⟨0, D, rfl, Nat.zero_le _, h8, hx8, hB8, hlen, hP1, fun i t hi => by omega, Nat.le_refl _, fun e => by cases e⟩, trivial⟩, ?_⟩
    rintro w14 p15 i ⟨k, D', rfl, hk, h14, hx14, hB14, hlen14, hQ1, hQ2, hc1, hc2⟩
    refine BoolK.mk (fun t => ?_) (fun t => ?_)
    · have hlt : k < S.things.length := by rw [hl] at t; simp at t; omega
      obtain ⟨g, l, c, s, hs, hl2, hgo, hc, hc0, hr⟩ := h14.thK hlt
      refine ⟨_, _, _, h14.cell 5 rfl, ⟨by omega, by rw [hl]; omega⟩, ?_⟩
      rw [hs, wrap_succ (by omega)]
      have hcell : w14.cell? ((⟨b, 0, none⟩ : Addr).add (((k + 1 : Nat) : Int).toNat * 1)) = some (.bool (D'[k + 1]'(by omega))) := by
        rw [Int.toNat_natCast, Nat.mul_one, add_mk, Nat.zero_add, hB14.cell, bools_get]
      have hkk : S.things[k]? = some S.things[k] := List.getElem?_eq_getElem hlt
      -- nothing is found
      have go : (D'[k + 1]'(by omega) = false → Alive S k S.things[k]) → ∀ w2, w2 = w14 → (∃ (k2 : Nat) (D' : List Bool), ((k + 1 : Nat) : Int) = k2 ∧ k2 ≤ S.things.length ∧ CR w2 own r S ∧ Ext w w2 ∧ Blk w2 b (bools D') 4 ∧ D'.length = S.things.length + 1 ∧ (∀ k t, S.things[k]? = some t → D'[k + 1]? = some true → Free t) ∧
          (∀ i t, i < k2 → S.things[i]? = some t → D'[i + 1]? = some false → Alive S i t) ∧ cntF D' ≤ cntF D ∧ (p15 = true → cntF D' < cntF D)) ∧ S.things.length - (((k + 1 : Nat) : Int)).toNat < S.things.length - (k : Int).toNat := by
        rintro hal _ rfl
        refine ⟨⟨k + 1, D', rfl, by omega, h14, hx14, hB14, hlen14, hQ1, fun i t hi ht hD => ?_, hc1, hc2⟩, by simp; omega⟩
        rcases Nat.lt_or_ge i k with h1 | h1
        · exact hQ2 i t h1 ht hD
        · have : i = k := by omega
          subst this
          rw [hkk] at ht; cases ht
          rw [List.getElem?_eq_getElem (by omega)] at hD
          exact hal (by simpa using hD)
      -- one dies
      have die : D'[k + 1]'(by omega) = false → Free S.things[k] → ∀ w2, w2 = w14 → SetK w2 ((⟨b, 0, none⟩ : Addr).add (((k + 1 : Nat) : Int).toNat * 1)) (.bool true) fun w29 => (∃ (k2 : Nat) (D' : List Bool), ((k + 1 : Nat) : Int) = k2 ∧ k2 ≤ S.things.length ∧ CR w29 own r S ∧ Ext w w29 ∧ Blk w29 b (bools D') 4 ∧ D'.length = S.things.length + 1 ∧ (∀ k t, S.things[k]? = some t → D'[k + 1]? = some true → Free t) ∧
          (∀ i t, i < k2 → S.things[i]? = some t → D'[i + 1]? = some false → Alive S i t) ∧ cntF D' ≤ cntF D ∧ (true = true → cntF D' < cntF D)) ∧ S.things.length - (((k + 1 : Nat) : Int)).toNat < S.things.length - (k : Int).toNat := by
        rintro hf hfree _ rfl
        rw [Int.toNat_natCast, Nat.mul_one, add_mk, Nat.zero_add]
        refine SetK.mk hB14 (by simp [bools]; omega) fun w29 hB29 hbut => ?_
        rw [bools_set] at hB29
        have hlt2 := cntF_set (D := D') (i := k + 1) (by rw [List.getElem?_eq_getElem (by omega), hf])
        refine ⟨⟨k + 1, D'.set (k + 1) true, rfl, by omega, h14.but hbn hbut, hbut.below hx14 (by omega), hB29, by simpa using hlen14, fun i t ht hD => ?_, fun i t hi ht hD => ?_, by omega, fun _ => by omega⟩, by simp; omega⟩
        · by_cases hik : i = k
          · subst hik; rw [hkk] at ht; cases ht; exact hfree
          · rw [List.getElem?_set_ne (by omega)] at hD; exact hQ1 i t ht hD
        · by_cases hik : i = k
          · subst hik; rw [List.getElem?_set_self (by omega)] at hD; cases hD
          · rw [List.getElem?_set_ne (by omega)] at hD; exact hQ2 i t (by omega) ht hD
      refine ⟨⟨by omega, by omega⟩, _, hcell, BoolK.mk (fun t1 => go (fun e => by rw [e] at t1; cases t1) _ rfl) (fun t1 => ?_)⟩
      refine ⟨_, (hc 5 (by omega)).trans rfl, BoolK.mk (fun t2 => ?_) (fun t2 => ⟨⟨by omega, by omega⟩, die t1 (.inl (by simpa using t2)) _ rfl⟩)⟩
      have t2 : S.things[k].swept = false := by simpa using t2
      refine ⟨_, (hc 4 (by omega)).trans rfl, BoolK.mk (fun t3 => go (fun _ => ⟨t2, .inl t3⟩) _ rfl) (fun t3 => ?_)⟩
      refine ⟨_, (hc 1 (by omega)).trans rfl, BoolK.mk (fun t4 => go (fun _ => ⟨t2, .inr (.inl t4)⟩) _ rfl) (fun t4 => ?_)⟩
      refine ⟨_, (hc 2 (by omega)).trans rfl, BoolK.mk (fun t5 => go (fun _ => ⟨t2, .inr (.inr (.inl (of_decide_eq_true t5)))⟩) _ rfl) (fun t5 => ?_)⟩
      refine ⟨_, hc0, ?_⟩
      refine (c86 h14 L _ _ hB14 hlen14 (by omega)).mono ?_
      rintro en w27 ⟨p, rfl, hp, rfl⟩
      refine ⟨_, rfl, BoolK.mk (fun t6 => go (fun _ => ⟨t2, .inr (.inr (.inr (by have := hp t6; simpa using this)))⟩) _ rfl) (fun t6 => ⟨⟨by omega, by omega⟩, die t1 (.inr ⟨t3, t4, ?_⟩) _ rfl⟩)⟩
      have := of_decide_eq_false t5; omega
    · have : k = S.things.length := by rw [hl] at t; simp at t; omega
      subst this
      refine ⟨⟨D', h14, hx14, hB14, hlen14, hQ1, fun _ i t ht => hQ2 i t (by have := (List.getElem?_eq_some_iff.1 ht).1; exact this) ht⟩, ?_⟩
      have d1 := decB_eq hB14
      have d2 := decB_eq hB8
      rw [hlen14] at d1; rw [hlen] at d2
      show cntF (decB w14 b (S.things.length + 1)) + (if p15 = true then 1 else 0) < cntF (decB w8 b (S.things.length + 1)) + (if true = true then 1 else 0)
      rw [d1, d2]
      cases p15
      · simp; omega
      · have := hc2 rfl; simp; omega
  · subst t9
    exact ⟨b, D, rfl, hlen.symm, hlen.symm, hB8, ⟨hlen, hP1, hP2 rfl⟩, hx8, by omega⟩
def kLive : ByteArray := ⟨#[108, 105, 118, 101]⟩
def kDead : ByteArray := ⟨#[100, 101, 97, 100]⟩
def kExpired : ByteArray := ⟨#[101, 120, 112, 105, 114, 101, 100]⟩
def StateOk (S : CS) (x : Int) (s : ByteArray) : Prop :=
  (¬ S.isT x ∧ s = ⟨#[]⟩) ∨ (S.isT x ∧ (((S.th x).expired = true ∧ s = kExpired) ∨ ((S.th x).expired = false ∧ s = kDead ∧ Free (S.th x)) ∨ ((S.th x).expired = false ∧ s = kLive ∧ Alive S (x - 1).toNat (S.th x))))
theorem c13 (h : CR w own r S) (L : Lim2 S) (x : Int) : Calls Tryz.prog 13 #[cp r, .int .i64 x] w fun en w' => ∃ s, en = .returned (.string s) ∧ (StateOk S x s ∧ Ext w w') := by
  refine calls13 _ _ _ w ?_
  refine ⟨fun p w' => p = !decide (S.isT x) ∧ w' = w, ?_, ?_⟩
  · rintro w4 p ⟨rfl, rfl⟩
    refine BoolK.mk (fun t => ⟨.inl ⟨by simpa using t, rfl⟩, Ext.refl _⟩) (fun t => ?_)
    have t : S.isT x := by simpa using t
    refine (cAt h t L.th).mono ?_
    rintro en w25 ⟨o, rfl, rfl, g, s, rfl, hg, hgo, hc, hr⟩
    refine ⟨_, rfl, _, by rw [add_mk]; exact (hc 4 (by omega)).trans rfl, BoolK.mk (fun t1 => ⟨.inr ⟨t, .inl ⟨t1, rfl⟩⟩, Ext.refl _⟩) (fun t1 => ?_)⟩
    refine (c46 h L).mono ?_
    rintro en w12 ⟨a, l, c, rfl, b, D, rfl, rfl, rfl, hB, hD, hx, _⟩
    have hlen := hD.len
    obtain ⟨t2, t3⟩ := t
    refine ⟨_, _, _, rfl, ⟨by omega, by omega⟩, ?_⟩
    have hn : x.toNat = (x - 1).toNat + 1 := by omega
    have hk : S.things[(x - 1).toNat]? = some (S.th x) := by rw [List.getElem?_eq_getElem (by omega), CS.th_get (by omega) rfl]
    refine ⟨_, by rw [add_mk, Nat.mul_one, Nat.zero_add, hB.cell, bools_get (by omega)], BoolK.mk (fun t4 => ⟨.inr ⟨⟨t2, t3⟩, .inr (.inl ⟨t1, rfl, ?_⟩)⟩, hx⟩) (fun t4 => ⟨.inr ⟨⟨t2, t3⟩, .inr (.inr ⟨t1, rfl, ?_⟩)⟩, hx⟩)⟩
    · exact hD.free _ _ hk (by rw [← hn, List.getElem?_eq_getElem (by omega), t4])
    · exact hD.alive _ _ hk (by rw [← hn, List.getElem?_eq_getElem (by omega), t4])
  · refine (c21 h).mono ?_
    rintro en w5 ⟨p, rfl, rfl, rfl⟩
    refine ⟨_, rfl, BoolK.mk (fun t => by cases t) (fun _ => ?_)⟩
    refine (c45 h x).mono ?_
    rintro en w6 ⟨p, rfl, rfl, rfl⟩
    exact ⟨_, rfl, rfl, rfl⟩
end
end Go.Proofs.YtgggbmikmmljcaaGreat

namespace Go.V
open Go.RowKit (Below)
def putL (cur : Array Value) : Nat → List Value → Array Value
  | _, [] => cur
  | o, v :: r => putL (cur.setIfInBounds o v) (o + 1) r
theorem putL_size (cur : Array Value) : ∀ (vs : List Value) (o : Nat), (putL cur o vs).size = cur.size
  | [], _ => rfl
  | v :: r, o => by rw [putL, putL_size]; simp
theorem putL_get : ∀ (vs : List Value) (cur : Array Value) (o : Nat), o + vs.length ≤ cur.size → ∀ j, (putL cur o vs)[j]? = if o ≤ j ∧ j < o + vs.length then vs[j - o]? else cur[j]?
  | [], cur, o, _, j => by rw [putL]; rw [if_neg (by simp)]
  | v :: r, cur, o, h, j => by
    simp only [List.length_cons] at h
    rw [putL, putL_get r _ _ (by simp; omega), Array.getElem?_setIfInBounds]
    by_cases h1 : o + 1 ≤ j ∧ j < o + 1 + r.length
    · rw [if_pos h1, if_pos (by simp; omega), show j - o = (j - (o + 1)) + 1 by omega, List.getElem?_cons_succ]
    · rw [if_neg h1]
      by_cases h2 : o = j
      · subst h2; rw [if_pos rfl, if_pos (by omega), if_pos (by simp), Nat.sub_self]; rfl
      · rw [if_neg h2, if_neg (by simp; omega)]
theorem setCells_blk {g t : Nat} : ∀ (vs : List Value) (w : World) (cur : Array Value) (o : Nat), Blk w g cur t → Blk (w.setCells g o vs) g (putL cur o vs) t ∧ But g w (w.setCells g o vs)
  | [], w, cur, o, h => ⟨h, ⟨rfl, rfl, rfl, rfl, fun _ _ => rfl⟩⟩
  | v :: r, w, cur, o, h => by
    have h1 : Blk (w.setCell ⟨g, o, none⟩ v) g (cur.setIfInBounds o v) t := heap_setCell_same w g o cur t v h
    have b1 : But g w (w.setCell ⟨g, o, none⟩ v) := ⟨rfl, rfl, rfl, by simp, fun k hk => heap_setCell_other w ⟨g, o, none⟩ k v hk⟩
    obtain ⟨h2, b2⟩ := setCells_blk r _ _ (o + 1) h1
    exact ⟨h2, b1.trans b2⟩
def zOk (P : Program) (e : TypeId) : Bool := match P.info? e with | some i => (match i.zero with | some z => z.cells.all (·.oneCell') | none => false) | none => false
theorem flat_append {α : Type} {enc : α → List Value} {sz : Nat} (he : ∀ x, (enc x).length = sz) (xs : List α) (k : Nat) : (xs.flatMap enc).drop (k * sz) = (xs.drop k).flatMap enc ∧ (xs.flatMap enc).take (k * sz) = (xs.take k).flatMap enc := by
  induction xs generalizing k with
  | nil => simp
  | cons y ys ih =>
    cases k with
    | zero => simp
    | succ k =>
      rw [List.flatMap_cons, Nat.succ_mul, Nat.add_comm, List.drop_succ_cons, List.take_succ_cons, List.flatMap_cons, ← (ih k).1, ← (ih k).2, ← he y]
      exact ⟨by rw [List.drop_append, List.drop_of_length_le (by omega)]; simp, by rw [List.take_append, List.take_of_length_le (by omega)]; simp⟩
theorem OwnR.delAt {α : Type} {P : Program} {t ty ty2 e : TypeId} {sz bytes base : Nat} {enc : α → List Value} {w : World} {g l c : Nat} {xs : List α} (H : SlT P t e sz bytes) (hzo : zOk P e = true) (h : OwnR base e sz enc w (some ⟨g, 0, none⟩) l c xs)
    (he : ∀ x, (enc x).length = sz) (h1 : ∀ x u, u ∈ enc x → u.oneCell' = true) {k : Nat} (hk : k < xs.length) :
    l = xs.length ∧ l ≤ c ∧ ∃ w8 w9, Sem.run P (Builtin.append_ #[t, t] ty #[.slice (some ⟨g, 0, none⟩) k c, .slice (if c = k + 1 then some ⟨g, 0, none⟩ else some ⟨g, (k + 1) * sz, none⟩) (l - (k + 1)) (c - (k + 1))]) w = .ok (.slice (some ⟨g, 0, none⟩) (l - 1) c) w8 ∧
      Sem.run P (Builtin.clear_ #[t] ty2 #[.slice (some ⟨g, (l - 1) * sz, none⟩) 1 (c - (l - 1))]) w8 = .ok (.tuple #[]) w9 ∧ OwnR base e sz enc w9 (some ⟨g, 0, none⟩) (l - 1) c (xs.eraseIdx k) ∧ But g w w9 := by
  obtain ⟨hl, hf, ho⟩ := h
  rcases ho with ⟨h0, _⟩ | ⟨g', cap, cur, hv, hbg, hg, h3, h4, h5, h6⟩
  · cases h0
  simp only [Value.slice.injEq, Option.some.injEq, Addr.mk.injEq, and_true] at hv
  obtain ⟨rfl, hlx, rfl⟩ := hv
  subst hl
  obtain ⟨i, z, hi, hz, hsz, hby, hzs⟩ := H.info
  have hB : Blk w g cur e := hg
  refine ⟨rfl, h3, ?_⟩
  have hcs : xs.length * sz ≤ cur.size := by rw [h5]; exact Nat.mul_le_mul_right _ h3
  have hcur : ∀ j, j < xs.length * sz → cur[j]? = (xs.flatMap enc)[j]? := fun j hj => by
    rw [← h6, List.getElem?_take_of_lt hj, Array.getElem?_toList]
  let news := (xs.drop (k + 1)).flatMap enc
  have hnl : news.length = (xs.length - (k + 1)) * sz := by rw [show news = (xs.drop (k + 1)).flatMap enc from rfl, enc_len he, List.length_drop]
  have hsplit : k * sz + news.length = (xs.length - 1) * sz := by rw [hnl, ← Nat.add_mul]; congr 1; omega
  have hle1 : (xs.length - 1) * sz + sz = xs.length * sz := by rw [← Nat.succ_mul]; congr 1; omega
  have hk1 : (k + 1) * sz + news.length = xs.length * sz := by rw [hnl, ← Nat.add_mul]; congr 1; omega
  have hsrc : Src P i.size t (.slice (if c = k + 1 then some ⟨g, 0, none⟩ else some ⟨g, (k + 1) * sz, none⟩) (xs.length - (k + 1)) (c - (k + 1))) (xs.length - (k + 1)) news w := by
    by_cases hck : c = k + 1
    · rw [if_pos hck]
      have : news = [] := List.eq_nil_of_length_eq_zero (by rw [hnl, show xs.length - (k + 1) = 0 by omega, Nat.zero_mul])
      exact Src.ofSlice w H.under _ _ _ _ (by rw [hsz]; exact hnl) (fun j u hj => by rw [this] at hj; simp at hj) (fun u hu => by rw [this] at hu; cases hu)
    · rw [if_neg hck]
      refine Src.ofSlice w H.under _ _ _ _ (by rw [hsz]; exact hnl) (fun j u hj => ?_) (fun u hu => ?_)
      · have hjl : j < news.length := (List.getElem?_eq_some_iff.1 hj).1
        rw [add_mk, hB.cell, hcur _ (by omega)]
        rw [show news = (xs.flatMap enc).drop ((k + 1) * sz) from ((flat_append he xs (k + 1)).1).symm, List.getElem?_drop] at hj
        exact hj
      · obtain ⟨x, _, hx⟩ := List.mem_flatMap.1 hu
        exact h1 x u hx
  have hrun := run_append_room_src (P := P) w t t ty e i H.under hi g 0 k c _ _ news hsrc (by omega) (fun j hj => by
      rw [Nat.zero_add, hsz, hB.cell, Array.getElem?_eq_getElem (by omega)]; rfl) (fun j hj => hB.frozen _)
  rw [show k + (xs.length - (k + 1)) = xs.length - 1 by omega, Nat.zero_add, hsz] at hrun
  obtain ⟨hB8, hb8⟩ := setCells_blk (g := g) (t := e) news w cur (k * sz) hB
  have hzc : (Builtin.zeroCells z.cells 1).toList = z.cells.toList := by
    apply List.ext_getElem
    · simp [Builtin.zeroCells]
    · intro n p1 p2
      simp only [Builtin.zeroCells, Array.toList_map, List.getElem_map, Array.toList_range, List.getElem_range]
      simp only [Array.length_toList] at p2
      rw [Nat.mod_eq_of_lt p2]; simp [getElem!_pos, p2]
  have hone : ∀ v ∈ z.cells.toList, v.oneCell' = true := by
    unfold zOk at hzo; rw [hi] at hzo; simp only [hz] at hzo
    intro v hv
    rw [Array.all_eq_true'] at hzo
    exact hzo v (Array.mem_toList_iff.1 hv)
  have hzv : ∀ w, (zeroValue e).run P w = .ok z w := fun w => by simp [zeroValue, typeInfo, hi, hz]
  have hst := run_storeCells_cells (P := P) g ((xs.length - 1) * sz) z.cells.toList 0 (w.setCells g (k * sz) news) (fun j hj => by
      rw [hB8.cell, Array.getElem?_eq_getElem (by rw [putL_size]; simp only [Array.length_toList] at hj; omega)]; rfl) (fun j hj => hB8.frozen _) hone
  obtain ⟨hB9, hb9⟩ := setCells_blk (g := g) (t := e) z.cells.toList _ _ ((xs.length - 1) * sz) hB8
  refine ⟨_, _, hrun, ?_, ?_, hb8.trans hb9⟩
  · simp only [Nat.add_zero] at hst
    simp [Builtin.clear_, run_underlying H.under, hzv, hzc, hst]
  · have hel : (xs.eraseIdx k).length = xs.length - 1 := List.length_eraseIdx_of_lt hk
    have hefl : (xs.eraseIdx k).flatMap enc = (xs.flatMap enc).take (k * sz) ++ news := by
      rw [List.eraseIdx_eq_take_drop_succ, List.flatMap_append, (flat_append he xs k).2]
    refine ⟨hel.symm, ?_⟩
    rw [hel]
    refine ⟨by rw [enc_len he, hel], .inr ⟨g, c, _, rfl, hbg, hB9, by omega, h4, by rw [putL_size, putL_size]; exact h5, ?_⟩⟩
    apply List.ext_getElem?; intro j
    have ht : ((xs.flatMap enc).take (k * sz)).length = k * sz := by rw [List.length_take, enc_len he]; exact Nat.min_eq_left (Nat.mul_le_mul_right _ (by omega))
    rw [hefl]
    rcases Nat.lt_or_ge j ((xs.length - 1) * sz) with hj | hj
    · rw [List.getElem?_take_of_lt hj, Array.getElem?_toList, putL_get _ _ _ (by rw [putL_size]; simp only [Array.length_toList]; omega), if_neg (by omega), putL_get _ _ _ (by omega)]
      by_cases hjk : k * sz ≤ j
      · rw [if_pos (by omega), List.getElem?_append_right (by omega), ht]
      · rw [if_neg (by omega), List.getElem?_append_left (by omega), List.getElem?_take_of_lt (by omega), hcur _ (by omega)]
    · rw [List.getElem?_eq_none (by simp; omega), List.getElem?_eq_none (by rw [List.length_append, ht]; omega)]
theorem cloneRows {α : Type} {P : Program} {t ty e : TypeId} {sz bytes : Nat} {enc : α → List Value} {w : World} {a : Option Addr} {l c b0 : Nat} {xs : List α} {base : Nat} (H : SlT P t e sz bytes) (h : OwnR base e sz enc w a l c xs) (ha : a ≠ none)
    (he : ∀ x, (enc x).length = sz) (h1 : ∀ x u, u ∈ enc x → u.oneCell' = true) (hlen : xs.length * bytes ≤ 140737488355328) (hb : Blk w b0 #[] e) :
    ∃ a' c' w', Sem.run P (Builtin.append_ #[t, t] ty #[.slice (some ⟨b0, 0, none⟩) 0 0, .slice a l c]) w = .ok (.slice a' l c') w' ∧ OwnR b0 e sz enc w' a' l c' xs ∧ w.grownBy w' (some b0) := by
  obtain ⟨hl, hf, ho⟩ := h
  rcases ho with ⟨h0, _⟩ | ⟨g, cap, cur, hv, hbg, hg, h3, h4, h5, h6⟩
  · cases h0; exact absurd rfl ha
  simp only [Value.slice.injEq] at hv
  obtain ⟨rfl, rfl, rfl⟩ := hv
  have hO : OwnR b0 e sz enc w (some ⟨b0, 0, none⟩) 0 0 ([] : List α) := ⟨rfl, by simp, .inr ⟨b0, 0, #[], rfl, Nat.le_refl _, hb, Nat.le_refl _, by simp [maxLen], by simp, by simp⟩⟩
  obtain ⟨a', c', w', q1, q2, q3, q4⟩ := OwnR.appendN (ty := ty) H (xs := []) (ys := xs) hO (Nat.le_of_lt hb.lt) he h1 ⟨g, 0, none⟩ c (fun j u hj => by
      have hjl : j < xs.length * sz := by rw [← enc_len he]; exact (List.getElem?_eq_some_iff.1 hj).1
      rw [add_mk, Nat.zero_add, Blk.cell hg, ← Array.getElem?_toList, ← List.getElem?_take_of_lt hjl, h6]; exact hj) (by simpa using hlen)
  simp only [List.length_nil, Nat.zero_add, List.nil_append] at q1 q2
  exact ⟨a', c', w', q1, q2, q3⟩
end Go.V

namespace Go.Proofs.YtgggbmikmmljcaaGreat
open Go Go.V Go.Proofs
open Go.RowKit (Below)
/-! slices.Clone[[]manystrand/api.Message,manystrand/api.Message] -/
def N22 (a1 : Option Addr) (l1 : Nat) (c1 : Nat) (K : Option Addr → Nat → Nat → World → Prop) (w : World) : Prop :=
 BoolK a1.isNone
 (K none 0 0 w)
 (AllocK w (#[]) 40 fun b2 w3 =>
 ∃ (a4 : Option Addr), ∃ (l4 : Nat), ∃ (c4 : Nat), ∃ (w5 : World), Sem.run Tryz.prog (Builtin.append_ #[34, 34] 34 #[(.slice (some b2) 0 0), (.slice a1 l1 c1)]) w3 = .ok (.slice a4 l4 c4) w5 ∧
 (K a4 l4 c4 w5))
def ann22 : Ann := (.two .nil (.two (.two .nil (.two (.two .nil .nil) .nil)) (.two .nil .nil)))
noncomputable def code22 : Code := match Tryz.f22.body with | some c => c | none => .skip
theorem wp22 (a1 : Option Addr) (l1 : Nat) (c1 : Nat) (K : Option Addr → Nat → Nat → World → Prop) (w : World) : WP Tryz.prog tab code22 ann22 (fnQ tab Tryz.f22.results.toList [(.one .slice)] K) (argE 0 [(.slice a1 l1 c1)]) w = N22 a1 l1 c1 K w := by kernel_rfl
theorem calls22 (a1 : Option Addr) (l1 : Nat) (c1 : Nat) (K : Option Addr → Nat → Nat → World → Prop) (w : World) (h : N22 a1 l1 c1 K w) : Calls Tryz.prog 22 #[(.slice a1 l1 c1)] w fun en w' => ∃ (a6 : Option Addr), ∃ (l6 : Nat), ∃ (c6 : Nat), en = .returned (.slice a6 l6 c6) ∧ K a6 l6 c6 w' :=
 have e : (fun en w' => ExShs [(.one .slice)] fun vs => en = .returned (tupled vs) ∧ ap [(.one .slice)] K vs fun p => p w') = (fun (en : Ending) (w' : World) => ∃ (a6 : Option Addr), ∃ (l6 : Nat), ∃ (c6 : Nat), en = .returned (.slice a6 l6 c6) ∧ K a6 l6 c6 w') := by kernel_rfl
 e ▸ fn_sound tabOk mixed Tryz.func22 (by kernel_rfl : Tryz.f22.body = some code22) ann22 [(.slice a1 l1 c1)] [(.one .slice)] K w (by kernel_rfl) ((wp22 a1 l1 c1 K w).symm ▸ h)
end Go.Proofs.YtgggbmikmmljcaaGreat

namespace Go.Proofs.YtgggbmikmmljcaaGreat
open Go Go.V Go.Proofs
open Go.RowKit (Below)
/-! slices.Delete[[]manystrand/api.Message,manystrand/api.Message] -/
def N87 (a1 : Option Addr) (l1 : Nat) (c1 : Nat) (x2 : Int) (x3 : Int) (K : Option Addr → Nat → Nat → World → Prop) (w : World) : Prop :=
 ∃ (a4 : Option Addr), ∃ (l4 : Nat), ∃ (c4 : Nat), ∃ (w5 : World), Sem.run Tryz.prog (Instr.sliceAt 34 (.slice a1 l1 c1) (some (.int .i64 x2)) (some (.int .i64 x3)) (some (.int .i64 (l1 : Nat)))) w = .ok (.slice a4 l4 c4) w5 ∧
 (BoolK ((x2 : Int) == x3)
 (K a1 l1 c1 w5)
 (DrewK w5 fun w6 =>
 0 ≤ (x2 : Int) ∧
 ((0 ≤ (x2 : Int).toNat ∧ (x2 : Int).toNat ≤ c1) ∧
 (0 ≤ (x3 : Int) ∧
 (((x3 : Int).toNat ≤ l1 ∧ l1 ≤ c1) ∧
 (∃ (a7 : Option Addr), ∃ (l7 : Nat), ∃ (c7 : Nat), ∃ (w8 : World), Sem.run Tryz.prog (Builtin.append_ #[34, 34] 34 #[(.slice (if c1 = 0 then a1 else (a1).map (·.add (0 * 8))) ((x2 : Int).toNat - 0) (c1 - 0)), (.slice (if c1 = (x3 : Int).toNat then a1 else (a1).map (·.add ((x3 : Int).toNat * 8))) (l1 - (x3 : Int).toNat) (c1 - (x3 : Int).toNat))]) w6 = .ok (.slice a7 l7 c7) w8 ∧
 (0 ≤ ((l7 : Nat) : Int) ∧
 (0 ≤ ((l1 : Nat) : Int) ∧
 ((((l7 : Nat) : Int).toNat ≤ ((l1 : Nat) : Int).toNat ∧ ((l1 : Nat) : Int).toNat ≤ c7) ∧
 (∃ (w9 : World), Sem.run Tryz.prog (Builtin.clear_ #[34] 0 #[(.slice (if c7 = ((l7 : Nat) : Int).toNat then a7 else (a7).map (·.add (((l7 : Nat) : Int).toNat * 8))) (((l1 : Nat) : Int).toNat - ((l7 : Nat) : Int).toNat) (c7 - ((l7 : Nat) : Int).toNat))]) w8 = .ok (.tuple #[]) w9 ∧
 (K a7 l7 c7 w9)))))))))))
def ann87 : Ann := (.two .nil (.two .nil (.two (.two .nil (.two (.two .nil .nil) .nil)) (.two .nil (.two (.any 6 (.take 0 (.take 1 (.take 2 (.take 3 (.take 4 (.take 5 .done))))))) (.two .nil (.two .nil .nil)))))))
noncomputable def code87 : Code := match Tryz.f87.body with | some c => c | none => .skip
theorem wp87 (a1 : Option Addr) (l1 : Nat) (c1 : Nat) (x2 : Int) (x3 : Int) (K : Option Addr → Nat → Nat → World → Prop) (w : World) : WP Tryz.prog tab code87 ann87 (fnQ tab Tryz.f87.results.toList [(.one .slice)] K) (argE 0 [(.slice a1 l1 c1), (.int .i64 x2), (.int .i64 x3)]) w = N87 a1 l1 c1 x2 x3 K w := by kernel_rfl
theorem calls87 (a1 : Option Addr) (l1 : Nat) (c1 : Nat) (x2 : Int) (x3 : Int) (K : Option Addr → Nat → Nat → World → Prop) (w : World) (h : N87 a1 l1 c1 x2 x3 K w) : Calls Tryz.prog 87 #[(.slice a1 l1 c1), (.int .i64 x2), (.int .i64 x3)] w fun en w' => ∃ (a10 : Option Addr), ∃ (l10 : Nat), ∃ (c10 : Nat), en = .returned (.slice a10 l10 c10) ∧ K a10 l10 c10 w' :=
 have e : (fun en w' => ExShs [(.one .slice)] fun vs => en = .returned (tupled vs) ∧ ap [(.one .slice)] K vs fun p => p w') = (fun (en : Ending) (w' : World) => ∃ (a10 : Option Addr), ∃ (l10 : Nat), ∃ (c10 : Nat), en = .returned (.slice a10 l10 c10) ∧ K a10 l10 c10 w') := by kernel_rfl
 e ▸ fn_sound tabOk mixed Tryz.func87 (by kernel_rfl : Tryz.f87.body = some code87) ann87 [(.slice a1 l1 c1), (.int .i64 x2), (.int .i64 x3)] [(.one .slice)] K w (by kernel_rfl) ((wp87 a1 l1 c1 x2 x3 K w).symm ▸ h)
end Go.Proofs.YtgggbmikmmljcaaGreat
