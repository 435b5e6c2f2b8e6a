/- A part of the proof: plain forms of functions and laws about them. -/
import Derived.Test.YtbiamhoonhjodacGreatDoorGreqAq
import Derived.Maps.Ext
namespace Go.V
open Go.RowKit (Below)
def ixOf {K : Type} [DecidableEq K] : List K → K → Nat → Option Nat
 | [], _, _ => none
 | k :: ks, a, i => if a = k then some i else ixOf ks a (i + 1)
structure KeyOk {K : Type} [DecidableEq K] (P : Program) (kt : TypeId) (enc : K → Value) : Prop where
 chk : ∀ e a w, (Instr.checkKey e 10000 kt (enc a)).run P w = .ok () w
 find : ∀ (es : List MapEntry) (ks : List K) (a : K) (w : World), es.map (·.key) = ks.map enc → (Instr.findKey kt (enc a) es).run P w = .ok ((ixOf ks a 0).bind fun i => (es[i]?).map fun e => (i, e.val)) w
 same : ∀ a, Instr.sameBits 10000 (enc a) (enc a) = true
structure MapT {K V : Type} [DecidableEq K] (P : Program) (t kt et : TypeId) (enc : K → Value) (encV : V → Value) (z : V) : Prop where
 und : P.underlying t = some (.map kt et)
 key : KeyOk P kt enc
 zer : ∀ w, (zeroValue et).run P w = .ok (encV z) w
theorem ixOf_some {K : Type} [DecidableEq K] {a : K} : ∀ {ks : List K} {i j : Nat}, ixOf ks a i = some j → i ≤ j ∧ ks[j - i]? = some a
 | [], i, j, h => by simp [ixOf] at h
 | k :: ks, i, j, h => by
  rw [ixOf] at h
  split at h
  ·rename_i he; cases h; subst he; simp
  ·obtain ⟨h1, h2⟩ := ixOf_some h
   refine ⟨by omega, ?_⟩
   rw [show j - i = j - (i + 1) + 1 by omega, List.getElem?_cons_succ]; exact h2
theorem ixOf_none {K : Type} [DecidableEq K] {a : K} : ∀ {ks : List K} {i : Nat}, ixOf ks a i = none → a ∉ ks
 | [], i, _ => by simp
 | k :: ks, i, h => by
  rw [ixOf] at h
  split at h
  ·cases h
  ·rename_i hne
   simp only [List.mem_cons, not_or]
   exact ⟨hne, ixOf_none h⟩
def lget {K V : Type} [DecidableEq K] : List (K × V) → K → Option V
 | [], _ => none
 | (k, v) :: r, a => if a = k then some v else lget r a
theorem lget_none {K V : Type} [DecidableEq K] {a : K} : ∀ {m : List (K × V)}, a ∉ m.map (·.1) → lget m a = none
 | [], _ => rfl
 | (k, v) :: r, h => by
  simp only [List.map_cons, List.mem_cons, not_or] at h
  rw [lget, if_neg h.1]; exact lget_none h.2
theorem lget_at {K V : Type} [DecidableEq K] {a : K} {v : V} : ∀ {m : List (K × V)} {i : Nat}, (m.map (·.1)).Nodup → m[i]? = some (a, v) → lget m a = some v
 | [], i, _, h => by simp at h
 | (k, u) :: r, 0, _, h => by simp at h; obtain ⟨rfl, rfl⟩ := h; rw [lget, if_pos rfl]
 | (k, u) :: r, i + 1, hn, h => by
  simp only [List.getElem?_cons_succ] at h
  simp only [List.map_cons, List.nodup_cons] at hn
  have hm : a ∈ r.map (·.1) := List.mem_map.2 ⟨(a, v), List.mem_of_getElem? h, rfl⟩
  rw [lget, if_neg (fun e => by subst e; exact hn.1 hm)]
  exact lget_at hn.2 h
structure MapO {K V : Type} [DecidableEq K] (enc : K → Value) (encV : V → Value) (w : World) (r : Nat) (m : List (K × V)) (bs : List Nat) (clock : Nat) : Prop where
 obj : ∃ es, w.heap[r]? = some (.map es clock) ∧ es.toList.map (·.key) = (m.map (·.1)).map enc ∧ es.toList.map (·.val) = (m.map (·.2)).map encV ∧ es.toList.map (·.born) = bs
 nodup : (m.map (·.1)).Nodup
 born : bs.Nodup
 old : ∀ b ∈ bs, b < clock
def upd {K V : Type} [DecidableEq K] (f : K → V) (a : K) (v : V) : K → V := fun b => if b = a then v else f b
section
variable {K V : Type} [DecidableEq K] {P : Program} {t kt et : TypeId} {enc : K → Value} {encV : V → Value} {z : V} {w : World} {r : Nat} {f : K → V}
theorem MapO.heap {m : List (K × V)} {bs : List Nat} {clock : Nat} (h : MapO enc encV w r m bs clock) {w' : World} (k : w'.heap[r]? = w.heap[r]?) : MapO enc encV w' r m bs clock := by
 obtain ⟨⟨es, h1, h2⟩, h3, h4, h5⟩ := h
 exact ⟨⟨es, k.trans h1, h2⟩, h3, h4, h5⟩
theorem ix_val {m : List (K × V)} {es : Array MapEntry} {a : K} (h2 : es.toList.map (·.val) = (m.map (·.2)).map encV) (hn : (m.map (·.1)).Nodup) :
  ((ixOf (m.map (·.1)) a 0).bind fun i => (es.toList[i]?).map fun e => (i, e.val)) = (ixOf (m.map (·.1)) a 0).bind fun i => (lget m a).map fun v => (i, encV v) := by
 cases hi : ixOf (m.map (·.1)) a 0 with
 | none => rfl
 | some i =>
  obtain ⟨_, hk⟩ := ixOf_some hi
  rw [Nat.sub_zero] at hk
  obtain ⟨kv, hkv, hke⟩ : ∃ kv, m[i]? = some kv ∧ kv.1 = a := by
   rw [List.getElem?_map] at hk
   cases hm : m[i]? with
   | none => rw [hm] at hk; cases hk
   | some kv => rw [hm] at hk; simp at hk; exact ⟨kv, rfl, hk⟩
  obtain ⟨k, v⟩ := kv
  simp only at hke; subst hke
  have hv : (es.toList[i]?).map (·.val) = some (encV v) := by
   have := congrArg (·[i]?) h2
   simp only [List.getElem?_map] at this
   rw [hkv] at this
   simpa using this
  have hl := lget_at hn hkv
  cases he : es.toList[i]? with
  | none => rw [he] at hv; cases hv
  | some e =>
   rw [he] at hv
   simp only [Option.map_some, Option.some.injEq] at hv
   show ((es.toList[i]?).map fun e => (i, e.val)) = ((lget m k).map fun v => (i, encV v))
   rw [he, hl]; simp [hv]
theorem ix_lt {m : List (K × V)} {a : K} {i : Nat} (h : ixOf (m.map (·.1)) a 0 = some i) : (m.map (·.1))[i]? = some a := by
 obtain ⟨_, hk⟩ := ixOf_some h; rwa [Nat.sub_zero] at hk
theorem setObj_run {P : Program} {w : World} {r : Nat} {es es' : Array MapEntry} {c c' : Nat} (h1 : w.heap[r]? = some (.map es c)) :
  (setObj r (.map es' c')).run P w = .ok () { w with heap := w.heap.setIfInBounds r (.map es' c') } := by simp [setObj, Sem.run, h1]
theorem setObj_heap {w : World} {r : Nat} {o o' : Obj} (h1 : w.heap[r]? = some o) : ({ w with heap := w.heap.setIfInBounds r o' } : World).heap[r]? = some o' := by
 have := (Array.getElem?_eq_some_iff.1 h1).1
 simp [this]
theorem setObj_but (w : World) (r : Nat) (o : Obj) : But r w { w with heap := w.heap.setIfInBounds r o } :=
 ⟨rfl, rfl, rfl, by simp, fun k hk => by simp [Array.getElem?_setIfInBounds_ne (Ne.symm hk)]⟩
theorem MapO.pushed {m : List (K × V)} {bs : List Nat} {clock : Nat} {w' : World} {es : Array MapEntry} {a : K} {v : V} (hs : es.toList.map (·.key) = (m.map (·.1)).map enc ∧ es.toList.map (·.val) = (m.map (·.2)).map encV ∧ es.toList.map (·.born) = bs)
  (hn : (m.map (·.1)).Nodup) (hb : bs.Nodup) (ho : ∀ b ∈ bs, b < clock) (ha : a ∉ m.map (·.1))
  (he : w'.heap[r]? = some (.map (es.push ⟨enc a, encV v, clock⟩) (clock + 1))) : MapO enc encV w' r (m ++ [(a, v)]) (bs ++ [clock]) (clock + 1) := by
 obtain ⟨h2, h3, h4⟩ := hs
 refine ⟨⟨_, he, by simp [h2], by simp [h3], by simp [h4]⟩, ?_, ?_, ?_⟩
 ·rw [List.map_append, List.nodup_append]
  refine ⟨hn, by simp, fun x hx y hy => ?_⟩
  simp at hy; subst hy; rintro rfl; exact ha hx
 ·rw [List.nodup_append]
  refine ⟨hb, by simp, fun x hx y hy => ?_⟩
  simp at hy; subst hy; have := ho x hx; omega
 ·intro b hb'
  rcases List.mem_append.1 hb' with h | h
  ·have := ho b h; omega
  ·simp at h; omega
theorem found {m : List (K × V)} {es : Array MapEntry} {bs : List Nat} (T : KeyOk P kt enc) (hs : es.toList.map (·.key) = (m.map (·.1)).map enc ∧ es.toList.map (·.val) = (m.map (·.2)).map encV ∧ es.toList.map (·.born) = bs) (hn : (m.map (·.1)).Nodup) (a : K) (w : World) :
  (∃ i e v, ixOf (m.map (·.1)) a 0 = some i ∧ es[i]? = some e ∧ e.key = enc a ∧ e.val = encV v ∧ lget m a = some v ∧ bs[i]? = some e.born ∧ i < m.length ∧ (Instr.findKey kt (enc a) es.toList).run P w = .ok (some (i, encV v)) w) ∨
  (a ∉ m.map (·.1) ∧ lget m a = none ∧ (Instr.findKey kt (enc a) es.toList).run P w = .ok none w) := by
 obtain ⟨h2, h3, h4⟩ := hs
 have hfind := T.find es.toList (m.map (·.1)) a w h2
 rw [ix_val h3 hn] at hfind
 cases hi : ixOf (m.map (·.1)) a 0 with
 | none =>
  right
  rw [hi] at hfind
  exact ⟨ixOf_none hi, lget_none (ixOf_none hi), hfind⟩
 | some i =>
  left
  have hk := ix_lt hi
  obtain ⟨kv, hkv, hke⟩ : ∃ kv, m[i]? = some kv ∧ kv.1 = a := by
   rw [List.getElem?_map] at hk
   cases hm : m[i]? with
   | none => rw [hm] at hk; cases hk
   | some kv => rw [hm] at hk; simp at hk; exact ⟨kv, rfl, hk⟩
  obtain ⟨k, v⟩ := kv
  simp only at hke; subst hke
  have hl := lget_at hn hkv
  have hlen : i < es.toList.length := by
   have := congrArg List.length h2
   have h5 := (List.getElem?_eq_some_iff.1 hkv).1
   simp at this ⊢; omega
  have c2 := congrArg (·[i]?) h2
  have c3 := congrArg (·[i]?) h3
  have c4 := congrArg (·[i]?) h4
  simp only [List.getElem?_map, hkv, List.getElem?_eq_getElem hlen, Option.map_some, Option.some.injEq] at c2 c3 c4
  refine ⟨i, es.toList[i], v, rfl, ?_, c2, c3, hl, c4.symm, (List.getElem?_eq_some_iff.1 hkv).1, ?_⟩
  ·rw [← Array.getElem?_toList]; exact List.getElem?_eq_getElem hlen
  ·rw [hi] at hfind; rw [hfind, hl]; rfl
end
/-! ### Keys -/
section
variable {P : Program} {kt : TypeId}
def eK (a : Int) : Value := .int .i64 a
theorem findNow_int (k : IntKind) (a : Int) : ∀ (es : List MapEntry) (ks : List Int) (i : Nat), es.map (·.key) = ks.map eK → Instr.findNow (.int k) (eK a) es i = some ((ixOf ks a i).bind fun j => (es[j - i]?).map fun e => (j, e.val))
 | [], ks, i, h => by
  have : ks = [] := by cases ks <;> simp at h; rfl
  subst this; rfl
 | e :: es, [], i, h => by simp at h
 | e :: es, b :: ks, i, h => by
  simp only [List.map_cons, List.cons.injEq] at h
  have ih := findNow_int k a es ks (i + 1) h.2
  rw [Instr.findNow, h.1]
  by_cases hak : a = b
  ·subst hak; simp [eK, Instr.sameNow, ixOf]
  ·have hs : Instr.sameNow (.int k) (eK a) (eK b) = some false := by simp [eK, Instr.sameNow, hak]
   rw [hs]
   simp only [ih, ixOf, hak, if_false]
   cases hj : ixOf ks a (i + 1) with
   | none => rfl
   | some j =>
    have := (ixOf_some hj).1
    simp only [Option.bind_some]
    rw [show j - i = (j - (i + 1)) + 1 by omega, List.getElem?_cons_succ]
theorem keyInt (hu : P.underlying kt = some (.int .i64)) : KeyOk P kt eK where
 chk e a w := by
  show (Instr.checkKey e (9999 + 1) kt (eK a)).run P w = _
  rw [Instr.checkKey]; simp [run_underlying hu, eK]
 find es ks a w h := by
  have := findNow_int .i64 a es ks 0 h
  simp only [Instr.findKey, Sem.run_bind, run_underlying hu, Result.andThen_ok, this, Sem.run_pure, Nat.sub_zero]
 same a := by
  show Instr.sameBits (9999 + 1) _ _ = true
  simp [Instr.sameBits, eK]
end
end Go.V
