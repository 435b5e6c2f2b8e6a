/- A part of the proof: plain forms of functions and laws about them. -/
import Derived.Test.YtnmldggopnbclaaGreatDoorGrliAo
namespace Go.V
open Go.RowKit (Below)
section
variable {ρ : Rn} {m : AMem} {w : World}
theorem cellsR {u v : Value} (r : VR ρ u v) : LR ρ u.cells.toList v.cells.toList := by
 have one : ∀ {u v : Value}, VR ρ u v → LR ρ [u] [v] := fun r => LR.cons r LR.nil
 have r0 := r
 cases r with
 | agg xs ys h1 h2 => obtain ⟨ys', e, ra⟩ := r0.agg_inv; cases e; exact ra
 | bool => exact one r0
 | int => exact one r0
 | string => exact one r0
 | pointer => exact one r0
 | slice => exact one r0
 | empty => exact one r0
 | tail => exact one r0
 | map => exact one r0
 | func => exact one r0
 | nilFunc => exact one r0
 | nilIface => exact one r0
 | iface => exact one r0
 | tuple => exact one r0
theorem setR {cs ds : Array Value} (h : LR ρ cs.toList ds.toList) (i : Nat) {u v : Value} (r : VR ρ u v) : LR ρ (cs.setIfInBounds i u).toList (ds.setIfInBounds i v).toList := by
 have hl : cs.size = ds.size := by simpa using h.len
 refine ⟨by simp [hl], fun j a b h1 h2 => ?_⟩
 simp only [Array.toList_setIfInBounds, List.getElem?_set] at h1 h2
 split at h1
 ·rename_i e
  rw [if_pos e] at h2
  split at h1
  ·split at h2
   ·cases h1; cases h2; exact r
   ·cases h2
  ·cases h1
 ·rename_i e
  rw [if_neg e] at h2
  exact h.at_ j a b h1 h2
theorem foldR {us : List Value} : ∀ {vs : List Value} {s off : Nat} {cs ds : Array Value}, LR ρ us vs → LR ρ cs.toList ds.toList →
  LR ρ ((us.zipIdx s).foldl (fun cs x => cs.setIfInBounds (off + x.2) x.1) cs).toList ((vs.zipIdx s).foldl (fun cs x => cs.setIfInBounds (off + x.2) x.1) ds).toList := by
 induction us with
 | nil => intro vs s off cs ds h k; rw [h.inv_nil]; exact k
 | cons u us ih =>
  intro vs s off cs ds h k
  obtain ⟨v, vs', rfl, r1, r2⟩ := h.inv_cons
  exact ih r2 (setR k (off + s) r1)
inductive PR (ρ : Rn) : List (Nat × Value) → List (Nat × Value) → Prop
 | nil : PR ρ [] []
 | cons {i : Nat} {u v : Value} {xs ys : List (Nat × Value)} : VR ρ u v → PR ρ xs ys → PR ρ ((i, u) :: xs) ((i, v) :: ys)
theorem fillR {g : Nat → Option (Nat × Nat)} {xs ys : List (Nat × Value)} (p : PR ρ xs ys) : ∀ {cs ds r : Array Value}, LR ρ cs.toList ds.toList → Instr.fill g cs xs = some r → ∃ r', Instr.fill g ds ys = some r' ∧ LR ρ r.toList r'.toList := by
 induction p with
 | nil => intro cs ds r h hf; cases hf; exact ⟨ds, rfl, h⟩
 | @cons i u v xs ys hr _ ih =>
  intro cs ds r h hf
  have hc := cellsR hr
  have hs : u.cells.size = v.cells.size := by simpa using hc.len
  have hl : cs.size = ds.size := by simpa using h.len
  unfold Instr.fill at hf ⊢
  cases hg : g i with
  | none => rw [hg] at hf; cases hf
  | some q =>
   obtain ⟨off, sz⟩ := q
   rw [hg] at hf
   simp only at hf ⊢
   rw [hs, hl] at hf
   split at hf
   ·cases hf
   ·rename_i hc2
    rw [if_neg hc2]
    refine ih ?_ hf
    have := foldR (s := 0) (off := off) hc h
    rw [← Array.foldl_toList, ← Array.foldl_toList, Array.toList_zipIdx, Array.toList_zipIdx]
    exact this
def buildE (T : Tab) (t : Nat) (parts : List (Nat × Value)) : Option Value :=
 match T.t t with
 | some i => match i.zero with
  | some z => match z.all plainV with
   | true => match i.places, i.idx with
    | [], some (some _, sz) => (match Instr.fill (fun j => some (j * sz, sz)) z.toArray parts with | some cs => some (.agg cs) | none => none)
    | _ :: _, none => (match Instr.fill (fun j => (i.places[j]?).map fun x => (x.1, x.2.1)) z.toArray parts with | some cs => some (.agg cs) | none => none)
    | _, _ => none
   | false => none
  | none => none
 | none => none
theorem plainL {z : List Value} (h : z.all plainV = true) : LR ρ z z := ⟨rfl, fun i u v h1 h2 => by
 rw [h1] at h2; cases h2; exact .plain (List.all_eq_true.1 h u (List.mem_of_getElem? h1))⟩
theorem buildE_ok {T : Tab} {t : Nat} {xs ys : List (Nat × Value)} {u : Value} (h : buildE T t xs = some u) (p : PR ρ xs ys) {F : Value → Prop} (k : ∀ v, VR ρ u v → F v) : buildK T t ys F := by
 unfold buildE at h
 split at h
 ·rename_i i hi
  split at h
  ·rename_i z hz
   split at h
   ·rename_i hp
    have hz0 : LR ρ z.toArray.toList z.toArray.toList := by simpa using plainL hp
    unfold buildK
    rw [hi]; simp only; rw [hz]; simp only
    split at h
    ·rename_i n sz e1 e2
     split at h
     ·rename_i cs hf
      cases h
      obtain ⟨r', hf', rr⟩ := fillR p hz0 hf
      rw [e1, e2]; simp only; rw [hf']
      have := VR.aggL rr
      exact k _ (by simpa using this)
     ·cases h
    ·rename_i x l e1 e2
     split at h
     ·rename_i cs hf
      cases h
      obtain ⟨r', hf', rr⟩ := fillR p hz0 hf
      have := VR.aggL rr
      split
      ·rename_i q1 q2; rw [e1] at q1; cases q1
      ·rename_i q1 q2
       rw [hf']; exact k _ (by simpa using this)
      ·rename_i q1 q2; exact absurd e2 (q2 _ _ e1)
     ·cases h
    ·cases h
   ·cases h
  ·cases h
 ·cases h
/-! ### Operands -/
def evsE (e : Env) : List Operand → Option (List Value)
 | [] => some []
 | x :: xs => match evE e x, evsE e xs with | some u, some us => some (u :: us) | _, _ => none
theorem evsE_ok {e e' : Env} (he : ER ρ e e') {xs : List Operand} : ∀ {us : List Value}, evsE e xs = some us → ∀ {F : List Value → Prop}, (∀ vs, LR ρ us vs → F vs) → evs e' xs F := by
 induction xs with
 | nil => intro us h F k; cases h; exact k _ .nil
 | cons x xs ih =>
  intro us h F k
  unfold evsE at h
  split at h
  ·rename_i u us h1 h2
   cases h
   exact evE_ofV he h1 fun v r => ih h2 fun vs rs => k _ (LR.cons r rs)
  ·cases h
def evpsE (e : Env) : List (Nat × Operand) → Option (List (Nat × Value))
 | [] => some []
 | (i, x) :: xs => match evE e x, evpsE e xs with | some u, some us => some ((i, u) :: us) | _, _ => none
theorem evpsE_ok {e e' : Env} (he : ER ρ e e') {xs : List (Nat × Operand)} : ∀ {us : List (Nat × Value)}, evpsE e xs = some us → ∀ {F : List (Nat × Value) → Prop}, (∀ vs, PR ρ us vs → F vs) → evps e' xs F := by
 induction xs with
 | nil => intro us h F k; cases h; exact k _ .nil
 | cons x xs ih =>
  obtain ⟨i, x⟩ := x
  intro us h F k
  unfold evpsE at h
  split at h
  ·rename_i u us h1 h2
   cases h
   exact evE_ofV he h1 fun v r => ih h2 fun vs rs => k _ (.cons r rs)
  ·cases h
def optE (e : Env) : Option Operand → Option (Option Value)
 | none => some none
 | some x => match evE e x with | some u => some (some u) | none => none
theorem optE_ok {e e' : Env} (he : ER ρ e e') {x : Option Operand} {o : Option Value} (h : optE e x = some o) {F : Option Value → Prop} (k : ∀ o', OR ρ o o' → F o') : optV e' x F := by
 cases x with
 | none => cases h; exact k none trivial
 | some x =>
  unfold optE at h
  simp only at h
  split at h
  ·rename_i u h1; cases h; exact evE_ofV he h1 fun v r => k (some v) r
  ·cases h
end
end Go.V
