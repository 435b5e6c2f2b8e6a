/- A part of the proof: plain forms of functions and laws about them. -/
import Derived.Test.YtnmldggopnbclaaGreatDoorGrliBn
import Derived.Deep.Upon
namespace Go.V
open Go.RowKit (Below)
abbrev Ka (ι : Type) := Nat → Option (ι × Nat × Nat)
structure KS (ι : Type) where
 ty : ι → TypeId
 sz : ι → Nat
 pos : ∀ k, 0 < sz k
abbrev OkF (ι : Type) := Ka ι → ι → Nat → Value → Prop
section
variable {ι : Type} {S : KS ι} {O O' : OkF ι} {κ κ' κ'' : Ka ι} {w w' w'' : World} {k : ι}
def Kle (κ κ' : Ka ι) : Prop := ∀ b k n u, κ b = some (k, n, u) → ∃ u', u ≤ u' ∧ κ' b = some (k, n, u')
structure OkM (O : OkF ι) : Prop where
 mono : ∀ κ κ' k j v, Kle κ κ' → O κ k j v → O κ' k j v
 one : ∀ κ k j v, O κ k j v → v.oneCell' = true
structure Pk (X : ι → Prop) (κ κ' : Ka ι) (w w' : World) : Prop where
 os : w'.os = w.os
 tape : w'.tape = w.tape
 output : w'.output = w.output
 size : w.heap.size ≤ w'.heap.size
 block : ∀ b, b < w.heap.size → κ b = none → w'.heap[b]? = w.heap[b]?
 free : ∀ b, b < w.heap.size → κ b = none → κ' b = none
 le : Kle κ κ'
 keep : ∀ b k n u, κ b = some (k, n, u) → ¬ X k → w'.heap[b]? = w.heap[b]?
theorem Kle.refl (κ : Ka ι) : Kle κ κ := fun _ _ _ u h => ⟨u, Nat.le_refl _, h⟩
theorem Kle.trans (h : Kle κ κ') (h' : Kle κ' κ'') : Kle κ κ'' := fun b k n u e => by
 obtain ⟨u1, l1, e1⟩ := h b k n u e
 obtain ⟨u2, l2, e2⟩ := h' b k n u1 e1
 exact ⟨u2, Nat.le_trans l1 l2, e2⟩
def Ka.put (κ : Ka ι) (b : Nat) (k : ι) (n u : Nat) : Ka ι := fun x => if x = b then some (k, n, u) else κ x
theorem Ka.put_same (κ : Ka ι) (b : Nat) (k : ι) (n u : Nat) : κ.put b k n u b = some (k, n, u) := by simp [Ka.put]
theorem Kle.put {b n u : Nat} (h : κ b = none) : Kle κ (κ.put b k n u) := fun b' k' n' u' e => ⟨u', Nat.le_refl _, by
 unfold Ka.put; rw [if_neg (fun hb => by rw [hb, h] at e; cases e)]; exact e⟩
theorem Kle.grow {b n u u' : Nat} (h : κ b = some (k, n, u)) (hu : u ≤ u') : Kle κ (κ.put b k n u') := fun b2 k2 n2 u2 e => by
 by_cases hb : b2 = b
 ·subst hb; rw [h] at e; cases e; exact ⟨u', hu, Ka.put_same _ _ _ _ _⟩
 ·exact ⟨u2, Nat.le_refl _, by unfold Ka.put; rw [if_neg hb]; exact e⟩
def subK (κ : Ka ι) (P : ι → Bool) (w : World) : World := { w with heap := w.heap.mapIdx fun i o => match κ i with | some (k, _, _) => if P k then o else .cells #[] 0 (0, 0) | none => .cells #[] 0 (0, 0) }
theorem subK_cell {P : ι → Bool} {b n u : Nat} (e : κ b = some (k, n, u)) (hP : P k = true) (i : Nat) : (subK κ P w).cell? ⟨b, i, none⟩ = w.cell? ⟨b, i, none⟩ := by
 have : (subK κ P w).heap[b]? = w.heap[b]? := by
  simp only [subK, Array.getElem?_mapIdx]
  cases w.heap[b]? with
  | none => rfl
  | some o => simp [e, hP]
 exact World.cell?_of_block this
theorem subK_cel {P : ι → Bool} (h : ∀ b k n u, κ b = some (k, n, u) → P k = true → b < w.heap.size → w'.heap[b]? = w.heap[b]?) : Cel (subK κ P w) w' := fun p v hp => by
 have hlt : p.block < w.heap.size := by have := block_lt_of_cell hp; simpa [subK] using this
 have hget : (subK κ P w).heap[p.block]? = some (match κ p.block with | some (k, _, _) => if P k then w.heap[p.block] else .cells #[] 0 (0, 0) | none => .cells #[] 0 (0, 0)) := by
  simp only [subK, Array.getElem?_mapIdx, Array.getElem?_eq_getElem hlt]; rfl
 cases e : κ p.block with
 | none => rw [e] at hget; unfold World.cell? at hp; rw [hget] at hp; simp at hp
 | some x =>
  obtain ⟨k, n, u⟩ := x
  rw [e] at hget
  cases hP : P k with
  | false => simp only [hP] at hget; unfold World.cell? at hp; rw [hget] at hp; simp at hp
  | true =>
   simp only [hP, if_true] at hget
   have e2 : w'.heap[p.block]? = (subK κ P w).heap[p.block]? := by rw [h _ _ _ _ e hP hlt, hget, Array.getElem?_eq_getElem hlt]
   rw [World.cell?_of_block e2]; exact hp
end
end Go.V
