/- A part of the proof: plain forms of functions and laws about them. -/
import Derived.Test.YtnmldggopnbclaaGreatDoorGrliAj
namespace Go.V
open Go.RowKit (Below)
theorem DrewK.mk {w : World} {F : World → Prop} (h : ∀ w', Ext w w' → F w') : DrewK w F := h _ (Ext.drew w)
theorem run_append_none {P : Program} (w : World) {t ty e : TypeId} {sz bytes : Nat} (H : SlT P t e sz bytes) (c : Nat) :
  Sem.run P (Builtin.append_ #[t, t] ty #[.slice none 0 0, .slice none 0 c]) w = .ok (.slice none 0 0) w := by
 obtain ⟨i, z, hi, _⟩ := H.info
 simp [Builtin.append_, run_underlying H.under, sizeOf, typeInfo, hi, Builtin.lenOf, Builtin.firstCells]
theorem copyRows {α : Type} {P : Program} {t ty e : TypeId} {sz bytes : Nat} {enc : α → List Value} {R : World → Cells → α → Prop} {w : World} {a : Option Addr} {l c : Nat} {xs : List α} (H : SlT P t e sz bytes) (h : Rows sz R w a l xs)
  (he : ∀ x, (enc x).length = sz) (h1 : ∀ x u, u ∈ enc x → u.oneCell' = true) (hR : ∀ f x, R w f x → ∀ j, j < sz → f j = (enc x)[j]?) (hlen : xs.length * bytes ≤ 140737488355328) :
  ∃ a' c' w', Sem.run P (Builtin.append_ #[t, t] ty #[.slice none 0 0, .slice a l c]) w = .ok (.slice a' l c') w' ∧ OwnR w.heap.size e sz enc w' a' l c' xs ∧ Ext w w' := by
 obtain ⟨rfl, hx⟩ := h
 cases a with
 | none =>
  rcases hx with rfl | ⟨b, o, ha, _⟩
  ·exact ⟨none, 0, w, run_append_none w H c, OwnR.nil _ _ _ _ _, Ext.refl w⟩
  ·cases ha
 | some p =>
  have hc : ∀ j u, (xs.flatMap enc)[j]? = some u → w.cell? (p.add j) = some u := by
   intro j u hu
   rcases hx with rfl | ⟨b, o, ha, hx⟩
   ·simp at hu
   ·simp at ha; subst ha
    rw [add_mk]
    have hj : j < xs.length * sz := by rw [← enc_len he]; exact (List.getElem?_eq_some_iff.1 hu).1
    have hi : j / sz < xs.length := Nat.div_lt_of_lt_mul (by rw [Nat.mul_comm]; exact hj)
    have hm : j % sz < sz := Nat.mod_lt _ H.pos
    have hjj : j / sz * sz + j % sz = j := Nat.div_add_mod' j sz
    have := hR _ _ (hx (j / sz) _ (List.getElem?_eq_getElem hi)) (j % sz) hm
    rw [Nat.add_assoc, hjj] at this
    rw [this, ← enc_get he (List.getElem?_eq_getElem hi) hm, hjj]; exact hu
  obtain ⟨a', c', w', hr, ho, hg, _⟩ := OwnR.appendN (ty := ty) (xs := []) (ys := xs) (a := none) (l := 0) (c := 0) H (OwnR.nil w.heap.size e sz enc w) (Nat.le_refl _) he h1 p c hc (by simpa using hlen)
  simp only [List.length_nil, Nat.zero_add, List.nil_append] at hr ho
  exact ⟨a', c', w', hr, ho, Ext.grown hg rfl⟩
theorem Rows.block {α : Type} {sz : Nat} {R : World → Cells → α → Prop} (hR : ∀ w w' f x, R w f x → R w' f x) {w w' : World} {a : Option Addr} {l : Nat} {xs : List α} (h : Rows sz R w a l xs)
  (k : xs = [] ∨ ∀ p, a = some p → w'.heap[p.block]? = w.heap[p.block]?) : Rows sz R w' a l xs := by
 obtain ⟨h1, h2⟩ := h
 refine ⟨h1, ?_⟩
 rcases k with k | k
 ·exact .inl k
 ·refine h2.imp id ?_
  rintro ⟨b, o, rfl, hx⟩
  refine ⟨b, o, rfl, fun i x hi => ?_⟩
  have e1 : (fun j => w'.cell? ⟨b, o + i * sz + j, none⟩) = fun j => w.cell? ⟨b, o + i * sz + j, none⟩ := by
   funext j; exact World.cell?_of_block (k ⟨b, o, none⟩ rfl)
  rw [e1]; exact hR w w' _ _ (hx i x hi)
theorem RPair.leaf : ∀ (w w' : World) f x, RPair w f x → RPair w' f x := fun _ _ _ _ h => h
theorem RInt.leaf : ∀ (w w' : World) f x, RInt w f x → RInt w' f x := fun _ _ _ _ h => h
theorem OwnR.apart {α : Type} {base : Nat} {e : TypeId} {sz : Nat} {enc : α → List Value} {w : World} {a : Option Addr} {l c : Nat} {xs : List α} (h : OwnR base e sz enc w a l c xs) {g : Nat} (hg : g < base) : xs = [] ∨ ∀ p, a = some p → p.block ≠ g :=
 .inr fun p hp e => by have := (h.lt p.block (by rw [hp]; rfl)).1; omega
theorem Rows.lt {α : Type} {sz : Nat} {R : World → Cells → α → Prop} (hR : ∀ w f x, R w f x → ∃ v, f 0 = some v) {w : World} {a : Option Addr} {l : Nat} {xs : List α} (h : Rows sz R w a l xs) : xs = [] ∨ ∀ p, a = some p → p.block < w.heap.size := by
 rcases h.2 with h | ⟨b, o, rfl, hx⟩
 ·exact .inl h
 ·cases xs with
  | nil => exact .inl rfl
  | cons x xs =>
   right
   intro p hp; cases hp
   obtain ⟨v, hv⟩ := hR _ _ _ (hx 0 x rfl)
   exact block_lt_of_cell (a := ⟨b, o + 0 * sz + 0, none⟩) hv
theorem RPair.some0 : ∀ (w : World) f x, RPair w f x → ∃ v, f 0 = some v := fun _ _ _ h => ⟨_, h.1⟩
theorem RInt.some0 : ∀ (w : World) f x, RInt w f x → ∃ v, f 0 = some v := fun _ _ _ h => ⟨_, h⟩
end Go.V
