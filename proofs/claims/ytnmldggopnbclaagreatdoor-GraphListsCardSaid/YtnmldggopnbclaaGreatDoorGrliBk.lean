/- A part of the proof: plain forms of functions and laws about them. -/
import Derived.Test.YtnmldggopnbclaaGreatDoorGrliBj
namespace Go.V
open Go.RowKit (Below)
section
variable {ρ ρ' : Rn} {m m' : AMem} {w w' w0 : World} {P : Program}
def rangeE (P : Program) (t : Nat) (x : Value) (m : AMem) : Option (Value × AMem) :=
 match P.underlying t, x with
 | some (.map _ _), .map none => some (.pointer (some ⟨m.next, 0, none⟩), m.fresh none (.iter none 0 [] 0))
 | some (.map _ _), .map (some k) => match m.get k with
  | some (.amap _ _ c) => some (.pointer (some ⟨m.next, 0, none⟩), m.fresh none (.iter (some k) c [] c))
  | _ => none
 | _, _ => none
theorem rangeE_ok {t : Nat} {x x' y : Value} (h : rangeE P t x m = some (y, m')) (rx : VR ρ x x') (hm : Mem w0 ρ m w) : RunT P w0 ρ m w (Instr.range t x') y m' := by
 have fin : ∀ (mo : Option Nat) (c : Nat), (∀ k, mo = some k → ρ.dom k) → (Instr.range t x').run P w = .ok (.pointer (some ⟨w.heap.size, 0, none⟩)) (w.alloc (.mapIter (mo.map ρ.blk) c #[] c)) → RunT P w0 ρ m w (Instr.range t x') (.pointer (some ⟨m.next, 0, none⟩)) (m.fresh none (.iter mo c [] c)) := fun mo c hd hr => by
  have hx : Ext w (w.alloc (.mapIter (mo.map ρ.blk) c #[] c)) := (Below.refl _ _).alloc (Nat.le_refl _) _
  have hg : (w.alloc (.mapIter (mo.map ρ.blk) c #[] c)).heap[w.heap.size]? = some (.mapIter (mo.map ρ.blk) c #[] c) := heap_alloc_new w _
  refine ⟨_, _, _, hr, hm.fresh (kill := none) (o' := .iter mo c [] c) (b := w.heap.size) (off := 0) (cap := 0) (fun t0 e => by cases e) (Below.trans hm.x (hx.mono hm.x.size)) hx.size (fun kk hk _ => hx.block kk hk) (Array.getElem?_eq_some_iff.1 hg).1 (.inl (Nat.le_refl _)) rfl (fun le => ?_), ?_⟩
  ·have e3 : mo.map (ρ.more m.next w.heap.size 0 (symI + m.caps) 0).blk = mo.map ρ.blk := by
    cases mo with
    | none => rfl
    | some j => simp only [Option.map_some, (le.tok j (hd j rfl)).2.1]
   refine ⟨?_, by simp [Rn.more], fun k hk => (le.tok k (hd k hk)).1⟩
   rw [e3]; simpa [Rn.more] using hg
  ·have := VR.pointer (ρ := ρ.more m.next w.heap.size 0 (symI + m.caps) 0) (some ⟨m.next, 0, none⟩) fun p hp => by cases hp; exact .inr rfl
   simpa [Rn.more_a] using this
 unfold rangeE at h
 split at h
 ·rename_i kt et hu
  cases h
  cases rx
  exact fin none 0 (fun k h => by cases h) (by simp [Instr.range, run_underlying hu])
 ·rename_i kt et k hu
  split at h
  ·rename_i es bs c hg
   cases h
   cases rx with
   | map _ hd =>
   obtain ⟨_, _, ents, h1, _⟩ := hm.obj k _ hg rfl
   have hgo : (getObj (ρ.blk k)).run P w = .ok (.map ents c) w := by simp [getObj, Sem.run, h1]
   exact fin (some k) c (fun j h => by cases h; exact hd k rfl) (by simp [Instr.range, run_underlying hu, hgo])
  ·cases h
 ·cases h
def zipM : List (Value × Value) → List Nat → List (Value × Value × Nat)
 | (k, v) :: es, b :: bs => (k, v, b) :: zipM es bs
 | _, _ => []
def hasN : List Nat → Nat → Bool
 | [], _ => false
 | a :: l, b => Nat.beq a b || hasN l b
def candE (es : List (Value × Value)) (bs : List Nat) (since : Nat) (seen : List Nat) : Option (Option (Value × Value × Nat)) :=
 match (zipM es bs).filter fun e => !hasN seen e.2.2 with
 | [] => some none
 | [e] => match Nat.blt e.2.2 since with | true => some (some e) | false => none
 | _ => none
def nextE (it : Value) (s : Bool) (m : AMem) : Option (Value × AMem) :=
 match it, s with
 | .pointer (some ⟨r, 0, none⟩), false => match m.get r with
  | some (.iter none _ _ _) => some (.tuple #[.bool false], m)
  | some (.iter (some k) since seen last) => match m.get k with
   | some (.amap es bs c) => match (seen.isEmpty || es.isEmpty) || !(bs.all fun b => Nat.ble last b) with
    | true => match candE es bs since seen with
     | some none => some (.tuple #[.bool false], m)
     | some (some (kk, v, b)) => (match plainV kk with | true => some (.tuple #[.bool true, kk, v], m.put r (.iter (some k) since (seen ++ [b]) c)) | false => none)
     | none => none
    | false => none
   | _ => none
  | _ => none
 | _, _ => none
theorem hasN_eq {l : List Nat} {b : Nat} : hasN l b = l.contains b := by
 induction l with
 | nil => rfl
 | cons a l ih =>
  unfold hasN
  rw [ih, List.contains_cons]
  congr 1
  rw [Bool.eq_iff_iff]
  constructor
  ·intro h; have := Nat.eq_of_beq_eq_true h; subst this; exact beq_self_eq_true _
  ·intro h; have := eq_of_beq h; subst this; exact Nat.beq_refl _
inductive ZR (ρ : Rn) : List (Value × Value × Nat) → List MapEntry → Prop
 | nil : ZR ρ [] []
 | cons {k u v : Value} {b : Nat} {xs : List (Value × Value × Nat)} {ys : List MapEntry} : VR ρ u v → ZR ρ xs ys → ZR ρ ((k, u, b) :: xs) (⟨k, v, b⟩ :: ys)
theorem zipM_ok : ∀ {es : List (Value × Value)} {bs : List Nat} {ents : List MapEntry}, ents.map (·.key) = es.map (·.1) → LR ρ (es.map (·.2)) (ents.map (·.val)) → ents.map (·.born) = bs → ZR ρ (zipM es bs) ents
 | [], bs, ents, h1, h2, h3 => by
  have : ents = [] := by cases ents <;> simp at h1; rfl
  subst this; unfold zipM; exact .nil
 | (k, u) :: es, bs, ents, h1, h2, h3 => by
  cases ents with
  | nil => simp at h1
  | cons d ds =>
   obtain ⟨dk, dv, db⟩ := d
   subst h3
   simp only [List.map_cons, List.cons.injEq] at h1
   obtain ⟨y, ys, e1, r1, r2⟩ := h2.inv_cons
   simp only [List.map_cons, List.cons.injEq] at e1
   obtain ⟨rfl, h1⟩ := h1
   obtain ⟨rfl, rfl⟩ := e1
   simp only [List.map_cons, zipM]
   exact .cons r1 (zipM_ok h1 r2 rfl)
theorem ZR.filter {xs : List (Value × Value × Nat)} {ys : List MapEntry} (h : ZR ρ xs ys) (p : Nat → Bool) : ZR ρ (xs.filter fun e => p e.2.2) (ys.filter fun e => p e.born) := by
 induction h with
 | nil => exact .nil
 | @cons k u v b xs ys r _ ih =>
  rw [List.filter_cons, List.filter_cons]
  cases hp : p b with
  | true => rw [if_pos rfl, if_pos rfl]; exact .cons r ih
  | false => rw [if_neg (by simp), if_neg (by simp)]; exact ih
theorem tupleR1 (ρ : Rn) (b : Bool) : VR ρ (.tuple #[.bool b]) (.tuple #[.bool b]) := VR.tupleL (.cons (.bool b) .nil)
theorem nextE_ok {ty : Nat} {x x' y : Value} {s : Bool} (h : nextE x s m = some (y, m')) (rx : VR ρ x x') (hm : Mem w0 ρ m w) : RunT P w0 ρ m w (Instr.next x' s ty) y m' := by
 unfold nextE at h
 split at h
 ·rename_i r
  split at h
  ·rename_i since seen last hg
   cases h
   obtain ⟨_, _, h1, h0, _⟩ := hm.obj r _ hg rfl
   have hgo : (getObj (ρ.blk r)).run P w = .ok (.mapIter none since seen.toArray last) w := by simp [getObj, Sem.run, h1]
   cases rx
   refine ⟨ρ, .tuple #[.bool false], w, ?_, Ev.refl hm, tupleR1 ρ false⟩
   show (Instr.next (.pointer (some ⟨ρ.blk r, ρ.off r + 0, none⟩)) false ty).run P w = _
   simp [Instr.next, h0, hgo]
  ·rename_i k since seen last hg
   split at h
   ·rename_i es bs c hgk
    split at h
    ·rename_i hcond
     obtain ⟨hbr, _, h1, h0, hdk⟩ := hm.obj r _ hg rfl
     obtain ⟨_, _, ents, e1, e2, e3, e4⟩ := hm.obj k _ hgk rfl
     have hgo : (getObj (ρ.blk r)).run P w = .ok (.mapIter (some (ρ.blk k)) since seen.toArray last) w := by simp [getObj, Sem.run, h1]
     have hgm : (getObj (ρ.blk k)).run P w = .ok (.map ents c) w := by simp [getObj, Sem.run, e1]
     have hz := (zipM_ok e2 e3 e4).filter (fun b => !hasN seen b)
     have hno : (!seen.toArray.isEmpty && !ents.isEmpty && ents.all (·.born ≥ last)) = false := by
      simp only [Bool.or_eq_true, Bool.not_eq_true'] at hcond
      rcases hcond with (hc | hc) | hc
      ·have : seen = [] := by simpa using hc
       simp [this]
      ·have he : es = [] := by simpa using hc
       subst he
       have : ents = #[] := by
        have : ents.toList = [] := by cases hh : ents.toList with | nil => rfl | cons a l => rw [hh] at e2; simp at e2
        apply Array.ext'; simpa using this
       simp [this]
      ·have : ents.all (·.born ≥ last) = false := by
        rw [← Bool.not_eq_true]
        intro ha
        rw [Array.all_eq_true_iff_forall_mem] at ha
        rw [← Bool.not_eq_true] at hc
        apply hc
        rw [List.all_eq_true]
        intro b hb
        rw [← e4] at hb
        obtain ⟨d, hd, rfl⟩ := List.mem_map.1 hb
        have := ha d (by simpa using hd)
        exact Nat.ble_eq_true_of_le (by simpa using this)
       simp [this]
     have hleft : (ents.filter fun e => !seen.toArray.contains e.born) = (ents.toList.filter fun e => !hasN seen e.born).toArray := by
      apply Array.ext'
      rw [Array.toList_filter]
      congr 1
      funext e
      rw [hasN_eq, List.contains_toArray]
     cases rx
     unfold candE at h
     split at h
     ·rename_i hc
      split at hc
      ·rename_i hf
       rw [hf] at hz
       have hl : (ents.toList.filter fun e => !hasN seen e.born) = [] := by cases hh : (ents.toList.filter fun e => !hasN seen e.born) with | nil => rfl | cons a l => rw [hh] at hz; cases hz
       cases h
       refine ⟨ρ, .tuple #[.bool false], w, ?_, Ev.refl hm, tupleR1 ρ false⟩
       show (Instr.next (.pointer (some ⟨ρ.blk r, ρ.off r + 0, none⟩)) false ty).run P w = _
       simp only [Instr.next, h0, Sem.run_bind, hgo, hgm, Result.andThen_ok, hno, hleft, hl]
       simp [Question.forced]
      ·split at hc <;> cases hc
      ·cases hc
     ·rename_i kk v b hc
      split at h
      ·rename_i hpl
       split at hc
       ·cases hc
       ·rename_i e hf
        split at hc
        ·rename_i hlt
         have hlt := Nat.le_of_ble_eq_true hlt
         cases hc
         cases h
         rw [hf] at hz
         generalize hl : (ents.toList.filter fun e => !hasN seen e.born) = L at *
         cases hz with
         | @cons _ _ v' _ _ ys rv hrest =>
         cases hrest
         have hold : b < since := hlt
         have hset : (setObj (ρ.blk r) (.mapIter (some (ρ.blk k)) since (seen ++ [b]).toArray c)).run P w = .ok () { w with heap := w.heap.setIfInBounds (ρ.blk r) (.mapIter (some (ρ.blk k)) since (seen ++ [b]).toArray c) } := by simp [setObj, Sem.run, h1]
         refine ⟨ρ, .tuple #[.bool true, kk, v'], _, ?_, hm.put hg rfl (setObj_but w (ρ.blk r) (.mapIter (some (ρ.blk k)) since (seen ++ [b]).toArray c)) fun _ => ⟨setObj_heap h1, h0, hdk⟩, VR.tupleL (.cons (.bool true) (.cons (.plain hpl) (.cons rv .nil)))⟩
         show (Instr.next (.pointer (some ⟨ρ.blk r, ρ.off r + 0, none⟩)) false ty).run P w = _
         simp only [Instr.next, h0, Sem.run_bind, hgo, hgm, Result.andThen_ok, hno, hleft]
         simp [Question.forced, hold, Nat.not_le.2 hold]
         simp [hset]
        ·cases hc
       ·cases hc
      ·cases h
     ·cases h
    ·cases h
   ·cases h
  ·cases h
 ·cases h
def findB : List (Value × Value × Nat) → Nat → Option (Value × Value)
 | [], _ => none
 | (k, v, b) :: l, s => match Nat.beq b s with | true => some (k, v) | false => findB l s
def entryE (it : Value) (m : AMem) : Option (Value × AMem) :=
 match it with
 | .pointer (some ⟨r, 0, none⟩) => match m.get r with
  | some (.iter (some k) _ seen last) => match seen.getLast?, m.get k with
   | some s, some (.amap es bs c) => match Nat.beq c last, findB (zipM es bs) s with
    | true, some (kk, v) => (match plainV kk with | true => some (.tuple #[kk, v], m) | false => none)
    | _, _ => none
   | _, _ => none
  | _ => none
 | _ => none
theorem findB_ok {xs : List (Value × Value × Nat)} {ys : List MapEntry} (h : ZR ρ xs ys) : ∀ {s : Nat} {k u : Value}, findB xs s = some (k, u) → ∃ e, ys.find? (·.born == s) = some e ∧ e.key = k ∧ VR ρ u e.val := by
 induction h with
 | nil => intro s k u h; cases h
 | @cons k0 u0 v0 b0 xs ys r _ ih =>
  intro s k u h
  unfold findB at h
  split at h
  ·rename_i hb
   cases h
   have := Nat.eq_of_beq_eq_true hb
   subst this
   exact ⟨⟨k0, v0, b0⟩, by simp, rfl, r⟩
  ·rename_i hb
   obtain ⟨e, h1, h2⟩ := ih h
   refine ⟨e, ?_, h2⟩
   rw [List.find?_cons_of_neg (by
    simp only [beq_iff_eq]
    intro e2; subst e2; rw [Nat.beq_refl] at hb; cases hb)]
   exact h1
theorem entryE_ok {x x' y : Value} (h : entryE x m = some (y, m')) (rx : VR ρ x x') (hm : Mem w0 ρ m w) : RunT P w0 ρ m w (Instr.entry x') y m' := by
 unfold entryE at h
 split at h
 ·rename_i r
  split at h
  ·rename_i k since seen last hg
   split at h
   ·rename_i s es bs c hs hgk
    split at h
    ·rename_i kk v hcl hf
     split at h
     ·rename_i hpl
      cases h
      have hcl := Nat.eq_of_beq_eq_true hcl
      subst hcl
      obtain ⟨_, _, h1, h0, hdk⟩ := hm.obj r _ hg rfl
      obtain ⟨_, _, ents, e1, e2, e3, e4⟩ := hm.obj k _ hgk rfl
      have hgo : (getObj (ρ.blk r)).run P w = .ok (.mapIter (some (ρ.blk k)) since seen.toArray c) w := by simp [getObj, Sem.run, h1]
      have hgm : (getObj (ρ.blk k)).run P w = .ok (.map ents c) w := by simp [getObj, Sem.run, e1]
      obtain ⟨e, q1, q2, q3⟩ := findB_ok (zipM_ok e2 e3 e4) hf
      rw [Array.find?_toList] at q1
      cases rx
      refine ⟨ρ, .tuple #[e.key, e.val], w, ?_, Ev.refl hm, VR.tupleL (.cons (by rw [q2]; exact .plain hpl) (.cons q3 .nil))⟩
      show (Instr.entry (.pointer (some ⟨ρ.blk r, ρ.off r + 0, none⟩))).run P w = _
      simp [Instr.entry, h0, hgo, hgm, hs, q1]
     ·cases h
    ·cases h
   ·cases h
  ·cases h
 ·cases h
/-! ### maps.clone, by an interface -/
def mkIfE (P : Program) (t : Nat) (x : Value) : Option Value :=
 match P.underlying t with
 | some (.interface _) => none
 | some _ => some (.iface t x)
 | none => none
theorem mkIfE_ok {t : Nat} {x x' y : Value} (h : mkIfE P t x = some y) (rx : VR ρ x x') (hm : Mem w0 ρ m w) : RunT P w0 ρ m w (Instr.makeInterface t x') y m := by
 unfold mkIfE at h
 split at h
 ·cases h
 ·rename_i d hne hu
  cases h
  refine ⟨ρ, .iface t x', w, ?_, Ev.refl hm, .iface t _ _ rx⟩
  cases d <;> first | exact absurd rfl (hne _) | simp [Instr.makeInterface, run_underlying hu]
 ·cases h
def asrtE (P : Program) (a : Nat) (ok : Bool) (x : Value) : Option Value :=
 match P.underlying a, x with
 | some (.map _ _), .iface t v => match Nat.beq t a with | true => some (match ok with | true => .tuple #[v, .bool true] | false => v) | false => none
 | _, _ => none
theorem asrtE_ok {s a : Nat} {ok : Bool} {x x' y : Value} (h : asrtE P a ok x = some y) (rx : VR ρ x x') (hm : Mem w0 ρ m w) : RunT P w0 ρ m w (Instr.typeAssert x' s a ok) y m := by
 unfold asrtE at h
 split at h
 ·rename_i k e t v hu
  cases rx with
  | iface _ _ v' r =>
  split at h
  ·rename_i hta
   have := Nat.eq_of_beq_eq_true hta
   subst this
   cases h
   refine ⟨ρ, if ok then .tuple #[v', .bool true] else v', w, by simp [Instr.typeAssert, run_underlying hu], Ev.refl hm, ?_⟩
   cases ok
   ·exact r
   ·exact tup2 r (.bool true)
  ·cases h
 ·cases h
def cloneE (us : List Value) (m : AMem) : Option (Value × AMem) :=
 match us with
 | [.iface t (.map (some r))] => match m.get r with
  | some (.amap es bs c) => some (.iface t (.map (some m.next)), m.fresh none (.amap es bs c))
  | _ => none
 | _ => none
theorem cloneE_ok {us vs : List Value} {y : Value} (h : cloneE us m = some (y, m')) (r : LR ρ us vs) (hm : Mem w0 ρ m w) : RunT P w0 ρ m w (Extern.MapsClone.clone vs.toArray) y m' := by
  unfold cloneE at h
  split at h
  · rename_i t rr
    split at h
    · rename_i es bs c hg
      cases h
      obtain ⟨v, vs', rfl, r1, r2⟩ := r.inv_cons
      rw [r2.inv_nil]
      cases r1 with
      | iface _ _ v' r3 =>
      cases r3 with
      | map _ hd =>
      obtain ⟨_, _, ents, h1, h2, h3, h4⟩ := hm.obj rr _ hg rfl
      have hgo : (getObj (ρ.blk rr)).run P w = .ok (.map ents c) w := by simp [getObj, Sem.run, h1]
      have hx : Ext w (w.alloc (.map ents c)) := (Below.refl _ _).alloc (Nat.le_refl _) _
      have hgn : (w.alloc (.map ents c)).heap[w.heap.size]? = some (.map ents c) := heap_alloc_new w _
      refine ⟨_, .iface t (.map (some w.heap.size)), w.alloc (.map ents c), ?_, hm.fresh (kill := none) (o' := .amap es bs c) (b := w.heap.size) (off := 0) (cap := 0) (fun t0 e => by cases e) (Below.trans hm.x (hx.mono hm.x.size)) hx.size (fun kk hk _ => hx.block kk hk) (Array.getElem?_eq_some_iff.1 hgn).1 (.inl (Nat.le_refl _)) rfl (fun le => ⟨ents, by simpa [Rn.more] using hgn, h2, h3.mono le, h4⟩), ?_⟩
      · have e : Extern.MapsClone.clone #[.iface t (.map (some (ρ.blk rr)))] = (getObj (ρ.blk rr) >>= fun o => match o with
            | .map entries clock => (newObj (.map entries clock) >>= fun n => pure (.iface t (.map (some n))))
            | _ => stuck "maps.clone: a map expected") := rfl
        show (Extern.MapsClone.clone #[.iface t (.map (some (ρ.blk rr)))]).run P w = _
        rw [e]
        simp [hgo]
      · have := VR.map (ρ := ρ.more m.next w.heap.size 0 (symI + m.caps) 0) (some m.next) fun t e => by cases e; exact .inr rfl
        have := VR.iface (ρ := ρ.more m.next w.heap.size 0 (symI + m.caps) 0) t _ _ this
        simpa [Rn.more] using this
    · cases h
  · cases h
end
end Go.V
